/- SplitFields: what the reference's and the program's answer. -/
import Derived.Test.YtelmilgdoefmdaaDoorStrS
namespace Go.Proofs.YtelmilgdoefmdaaDoor
open Go.RowKit
set_option linter.unusedVariables false
def bt (s : ByteArray) (k : Nat) : Nat := (s.data.toList.getD k 0).toNat
theorem bt_eq (s : ByteArray) (k : Nat) (h : k < s.size) : s[k].toNat = bt s k := by
  unfold bt
  rw [List.getD_eq_getElem?_getD, List.getElem?_eq_getElem (by simpa using h)]; rfl
theorem bt_lt (s : ByteArray) (k : Nat) : bt s k < 256 := (s.data.toList.getD k 0).toNat_lt
/-- The fields that end ahead of place k, and where the next one begins. -/
def fieldsTo (s : ByteArray) : Nat → List ByteArray × Nat
  | 0 => ([], 0)
  | k + 1 => if k < s.size ∧ bt s k ≠ 32 then fieldsTo s k else (if (fieldsTo s k).2 < k then (fieldsTo s k).1 ++ [s.extract (fieldsTo s k).2 k] else (fieldsTo s k).1, k + 1)
def byteOk (s : ByteArray) (k : Nat) : Bool := decide (32 ≤ bt s k ∧ bt s k ≤ 126)
def spOk (s : ByteArray) : Bool := decide (s.size ≤ 600) && ((List.range s.size).all (byteOk s) && decide ((fieldsTo s (s.size + 1)).1.length ≤ 24))
def spL (s : ByteArray) : List ByteArray := if spOk s = true then (fieldsTo s (s.size + 1)).1 else []
theorem sp_no {s : ByteArray} (h : spOk s = false) : spL s = [] ∧ spOk s = false := ⟨if_neg (by rw [h]; exact Bool.false_ne_true), h⟩
theorem sp_yes {s : ByteArray} (h : spOk s = true) : spL s = (fieldsTo s (s.size + 1)).1 ∧ spOk s = true := ⟨if_pos h, h⟩
theorem sp_long {s : ByteArray} (h : 600 < s.size) : spOk s = false := by unfold spOk; rw [decide_eq_false (by omega), Bool.false_and]
theorem sp_bad {s : ByteArray} {k : Nat} (hk : k < s.size) (h : byteOk s k = false) : spOk s = false := by
  have : (List.range s.size).all (byteOk s) = false := by
    rw [List.all_eq_false]; exact ⟨k, List.mem_range.2 hk, by rw [h]; exact Bool.false_ne_true⟩
  unfold spOk; rw [this, Bool.false_and, Bool.and_false]
theorem sp_all {s : ByteArray} {F : List ByteArray} {st : Nat} (h : s.size ≤ 600) (ha : Hid (∀ j, j < s.size → byteOk s j = true)) (hF : Hid (fieldsTo s (s.size + 1) = (F, st))) : spOk s = decide (F.length ≤ 24) := by
  have : (List.range s.size).all (byteOk s) = true := by
    rw [List.all_eq_true]; intro j hj; exact ha.out j (List.mem_range.1 hj)
  unfold spOk; rw [this, decide_eq_true h, hF.out]; rfl
theorem bok_next {s : ByteArray} {k : Nat} (h : Hid (∀ j, j < k → j < s.size → byteOk s j = true)) (hk : byteOk s k = true) : Hid (∀ j, j < k + 1 → j < s.size → byteOk s j = true) := fun j hj hs => by
  rcases Nat.lt_or_ge j k with hlt | hge
  · exact h.out j hlt hs
  · obtain rfl : j = k := by omega
    exact hk
theorem bok_end {s : ByteArray} {k : Nat} (h : Hid (∀ j, j < k → j < s.size → byteOk s j = true)) (hk : s.size ≤ k) : Hid (∀ j, j < k + 1 → j < s.size → byteOk s j = true) := fun j _ hs => h.out j (by omega) hs
section
variable {s : ByteArray} {k st : Nat} {F : List ByteArray}
theorem f_stay (h : Hid (fieldsTo s k = (F, st))) (hk : k < s.size) (hb : bt s k ≠ 32) : fieldsTo s (k + 1) = (F, st) := by
  show (if k < s.size ∧ bt s k ≠ 32 then fieldsTo s k else _) = _
  rw [if_pos ⟨hk, hb⟩, h.out]
theorem f_cut (h : Hid (fieldsTo s k = (F, st))) (hk : ¬ (k < s.size ∧ bt s k ≠ 32)) (hst : st < k) : fieldsTo s (k + 1) = (F ++ [s.extract st k], k + 1) := by
  show (if k < s.size ∧ bt s k ≠ 32 then fieldsTo s k else _) = _
  rw [if_neg hk, h.out]
  simp only [if_pos hst]
theorem f_skip (h : Hid (fieldsTo s k = (F, st))) (hk : ¬ (k < s.size ∧ bt s k ≠ 32)) (hst : ¬ st < k) : fieldsTo s (k + 1) = (F, k + 1) := by
  show (if k < s.size ∧ bt s k ≠ 32 then fieldsTo s k else _) = _
  rw [if_neg hk, h.out]
  simp only [if_neg hst]
end
theorem str_info : (Tryd.prog.info? 9).map (fun i => (i.zero, i.size, i.bytes)) = some (some (.string ⟨#[]⟩), 1, 16) := by kernel_rfl
theorem one_str (x : ByteArray) : ∀ u ∈ [Value.string x], u.oneCell' = true := by simp [Value.oneCell']
theorem own_more {e : TypeId} {lo : Nat} {w : World} {A : Option Addr} {c : Nat} {F : List ByteArray} {x : ByteArray} (h : OwnC e 1 lo w.heap.size w A c (F.length + 1) (F.map Value.string ++ [.string x])) (hl : F.length + 1 ≤ 1048576) : OwnS e lo w.heap.size w A c (F ++ [x]) :=
  ⟨by rw [List.length_append, List.map_append]; exact h, Nat.le_refl _, by rw [List.length_append]; exact hl⟩
theorem ret_ss {A B : Option Addr} {n m c d : Nat} {x y : Bool} (h1 : A = B) (h2 : n = m) (h3 : c = d) (h4 : x = y) : Ending.returned (.tuple #[.slice A n c, .bool x]) = .returned (.tuple #[.slice B m d, .bool y]) := by rw [h1, h2, h3, h4]
set_option maxHeartbeats 1000000 in
theorem impl_SplitFields {s : ByteArray} {w : World} (hs : s.size ≤ 1048576) :
    Calls Tryd.prog 15 #[.string s] w fun e w' => ∃ B d, e = .returned (.tuple #[.slice B (spL s).length d, .bool (spOk s)]) ∧ OwnS 9 w.heap.size w'.heap.size w' B d (spL s) ∧ Below w.heap.size w w' := by
  by_cases h600 : 600 < s.size
  · have hN := Lib.hid (sp_no (sp_long h600))
    have hbel := Below.refl w.heap.size w
    go_enter Tryd.func15, Tryd.ntmps15
    go_wp2
    go_ret2
    rw [hN.out.1, hN.out.2]
    exact ⟨none, 0, rfl, OwnS.nil _ _ (Nat.le_refl _), hbel⟩
  go_enter Tryd.func15, Tryd.ntmps15
  go_wp2
  go_loopw [4, 5, 6] (fun v u i wr => ∃ (k st' : Nat) (B : Option Addr) (d : Nat) (F : List ByteArray), k ≤ s.size + 1 ∧ i = .int .i64 k ∧ u = .int .i64 st' ∧ st' ≤ k ∧ v = .slice B F.length d ∧ F.length ≤ k ∧ Hid (fieldsTo s k = (F, st')) ∧ Hid (∀ j, j < k → j < s.size → byteOk s j = true) ∧ OwnS 9 w.heap.size wr.heap.size wr B d F ∧ Below w.heap.size w wr) (fun _ _ i _ => s.size + 1 - (intOf i).toNat)
  case atStart => exact ⟨0, 0, _, _, [], by omega, rfl, rfl, Nat.le_refl _, rfl, Nat.le_refl _, rfl, fun j hj => absurd hj (by omega), ⟨(OwnC.empty 9 1).hi_mono (by simp) (Nat.le_refl _), Nat.le_refl _, by simp⟩, bnew (Below.refl _ _) _⟩
  case round =>
    obtain ⟨k, st', B, d, F, hk, rfl, rfl, hsk, rfl, hFk, hF, hal, hown, hbel⟩ := hrel
    by_cases hlt : k < s.size
    · obtain ⟨x, hx, hx2⟩ : ∃ x : Nat, s[k].toNat = x ∧ x < 256 := ⟨_, rfl, s[k].toNat_lt⟩
      have HX : Hid (bt s k = x) := (bt_eq s k hlt).symm.trans hx
      have q3 : ((k : Int) == (s.size : Int)) = false := by simp; omega
      by_cases h32 : x < 32
      · have hby : Hid (byteOk s k = false) := decide_eq_false (by rw [HX.out]; omega)
        have hN := Lib.hid (sp_no (sp_bad hlt hby.out))
        go_wp2
        go_ret2
        rw [hN.out.1, hN.out.2]
        exact ⟨none, 0, rfl, OwnS.nil _ _ (Nat.le_refl _), hbel⟩
      by_cases h126 : 126 < x
      · have hby : Hid (byteOk s k = false) := decide_eq_false (by rw [HX.out]; omega)
        have hN := Lib.hid (sp_no (sp_bad hlt hby.out))
        go_wp2
        go_ret2
        rw [hN.out.1, hN.out.2]
        exact ⟨none, 0, rfl, OwnS.nil _ _ (Nat.le_refl _), hbel⟩
      have hal2 := Lib.hid (bok_next hal (show byteOk s k = true from decide_eq_true (by rw [HX.out]; omega)))
      by_cases hsp : x = 32
      · have hnsp : Hid (¬ (k < s.size ∧ bt s k ≠ 32)) := fun h => h.2 (HX.out.trans hsp)
        have q1 : ((x : Int) == 32) = true := by simp; omega
        have q2 : ((x : Int) != 32) = false := by simp; omega
        clear hsp
        by_cases hst : st' < k
        · have hn := Lib.hid (f_cut hF hnsp.out hst)
          have hbel2 := hbel.size
          go_wp2_with (at_builtin; refine wpList_app_cells (news := [.string (s.extract st' k)]) (.tmp 46) (.tmp 51) 29 9 rfl rfl Tryd.underlying29 str_info rfl (by decide) rfl rfl rfl hown.own hbel2 (by decide) rfl (one_str _) (by omega) (by decide) ?_; intro B' d' w2 hown2 hb2)
          go_roundw
          case rel => exact ⟨k + 1, k + 1, B', d', _, by omega, by go_num, by go_num, Nat.le_refl _, by rw [List.length_append]; rfl, by rw [List.length_append]; simp; omega, hn.out, hal2.out, own_more hown2 (by omega), hbel.trans hb2⟩
          case measure => simp [intOf]; omega
        · have hn := Lib.hid (f_skip hF hnsp.out hst)
          go_wp2
          go_roundw
          case rel => exact ⟨k + 1, k + 1, B, d, F, by omega, by go_num, by go_num, Nat.le_refl _, rfl, by omega, hn.out, hal2.out, hown, hbel⟩
          case measure => simp [intOf]; omega
      · have hn := Lib.hid (f_stay hF hlt (by rw [HX.out]; exact hsp))
        have q1 : ((x : Int) == 32) = false := by simp; omega
        have q2 : ((x : Int) != 32) = true := by simp; omega
        clear hsp
        go_wp2
        go_roundw
        case rel => exact ⟨k + 1, st', B, d, F, by omega, by go_num, by go_num, by omega, rfl, by omega, hn.out, hal2.out, hown, hbel⟩
        case measure => simp [intOf]; omega
    · by_cases hke : k = s.size
      · have hal2 := Lib.hid (bok_end hal (Nat.le_of_not_lt hlt))
        have hnsp : Hid (¬ (k < s.size ∧ bt s k ≠ 32)) := fun h => hlt h.1
        have q3 : ((k : Int) == (s.size : Int)) = true := by simp; omega
        have hkl : k ≤ s.size := by omega
        clear hke
        by_cases hst : st' < k
        · have hn := Lib.hid (f_cut hF hnsp.out hst)
          have hbel2 := hbel.size
          go_wp2_with (at_builtin; refine wpList_app_cells (news := [.string (s.extract st' k)]) (.tmp 46) (.tmp 51) 29 9 rfl rfl Tryd.underlying29 str_info rfl (by decide) rfl rfl rfl hown.own hbel2 (by decide) rfl (one_str _) (by omega) (by decide) ?_; intro B' d' w2 hown2 hb2)
          go_roundw
          case rel => exact ⟨k + 1, k + 1, B', d', _, by omega, by go_num, by go_num, Nat.le_refl _, by rw [List.length_append]; rfl, by rw [List.length_append]; simp; omega, hn.out, hal2.out, own_more hown2 (by omega), hbel.trans hb2⟩
          case measure => simp [intOf]; omega
        · have hn := Lib.hid (f_skip hF hnsp.out hst)
          go_wp2
          go_roundw
          case rel => exact ⟨k + 1, k + 1, B, d, F, by omega, by go_num, by go_num, Nat.le_refl _, rfl, by omega, hn.out, hal2.out, hown, hbel⟩
          case measure => simp [intOf]; omega
      · have hk1 : k = s.size + 1 := by omega
        subst hk1
        have hall : Hid (∀ j, j < s.size → byteOk s j = true) := fun j hj => hal.out j (by omega) hj
        have hfin := Lib.hid (sp_all (by omega) hall hF)
        by_cases h24 : 24 < F.length
        · have hN := Lib.hid (sp_no (hfin.out.trans (decide_eq_false (by omega))))
          go_wp2
          go_ret2
          rw [hN.out.1, hN.out.2]
          exact ⟨none, 0, rfl, OwnS.nil _ _ (Nat.le_refl _), hbel⟩
        · have hY := Lib.hid (sp_yes (hfin.out.trans (decide_eq_true (by omega))))
          have hFe : Hid ((fieldsTo s (s.size + 1)).1 = F) := by show _ = _; rw [hF.out]
          go_wp2
          go_ret2
          rw [hY.out.1, hY.out.2, hFe.out]
          exact ⟨B, d, rfl, hown, hbel⟩
set_option maxHeartbeats 1000000 in
theorem spec_SplitFields {s : ByteArray} {w : World} (hs : s.size ≤ 1048576) :
    Calls Tryd.prog 16 #[.string s] w fun e w' => ∃ B d, e = .returned (.tuple #[.slice B (spL s).length d, .bool (spOk s)]) ∧ OwnS 9 w.heap.size w'.heap.size w' B d (spL s) ∧ Below w.heap.size w w' := by
  by_cases h600 : 600 < s.size
  · have hN := Lib.hid (sp_no (sp_long h600))
    have hbel := Below.refl w.heap.size w
    go_enter Tryd.func16, Tryd.ntmps16
    go_wp2
    go_ret2
    rw [hN.out.1, hN.out.2]
    exact ⟨_, _, rfl, ⟨(OwnC.empty 9 1).hi_mono (by simp) (Nat.le_refl _), Nat.le_refl _, by simp⟩, bnew hbel _⟩
  go_enter Tryd.func16, Tryd.ntmps16
  go_wp2
  go_loopw [4, 5, 6] (fun v u i wr => ∃ (k st' : Nat) (B : Option Addr) (d : Nat) (F : List ByteArray), k ≤ s.size + 1 ∧ i = .int .i64 k ∧ u = .int .i64 st' ∧ st' ≤ k ∧ v = .slice B F.length d ∧ F.length ≤ k ∧ Hid (fieldsTo s k = (F, st')) ∧ Hid (∀ j, j < k → j < s.size → byteOk s j = true) ∧ OwnS 9 w.heap.size wr.heap.size wr B d F ∧ Below w.heap.size w wr) (fun _ _ i _ => s.size + 1 - (intOf i).toNat)
  case atStart => exact ⟨0, 0, _, _, [], by omega, rfl, rfl, Nat.le_refl _, rfl, Nat.le_refl _, rfl, fun j hj => absurd hj (by omega), ⟨(OwnC.empty 9 1).hi_mono (by simp) (Nat.le_refl _), Nat.le_refl _, by simp⟩, bnew (Below.refl _ _) _⟩
  case round =>
    obtain ⟨k, st', B, d, F, hk, rfl, rfl, hsk, rfl, hFk, hF, hal, hown, hbel⟩ := hrel
    by_cases hlt : k < s.size
    · obtain ⟨x, hx, hx2⟩ : ∃ x : Nat, s[k].toNat = x ∧ x < 256 := ⟨_, rfl, s[k].toNat_lt⟩
      have HX : Hid (bt s k = x) := (bt_eq s k hlt).symm.trans hx
      have q3 : ((k : Int) == (s.size : Int)) = false := by simp; omega
      by_cases h32 : x < 32
      · have hby : Hid (byteOk s k = false) := decide_eq_false (by rw [HX.out]; omega)
        have hN := Lib.hid (sp_no (sp_bad hlt hby.out))
        go_wp2
        go_ret2
        rw [hN.out.1, hN.out.2]
        exact ⟨_, _, rfl, ⟨((OwnC.empty 9 1).lo_mono hbel.size).hi_mono (by simp) (Nat.le_refl _), Nat.le_refl _, by simp⟩, bnew hbel _⟩
      by_cases h126 : 126 < x
      · have hby : Hid (byteOk s k = false) := decide_eq_false (by rw [HX.out]; omega)
        have hN := Lib.hid (sp_no (sp_bad hlt hby.out))
        go_wp2
        go_ret2
        rw [hN.out.1, hN.out.2]
        exact ⟨_, _, rfl, ⟨((OwnC.empty 9 1).lo_mono hbel.size).hi_mono (by simp) (Nat.le_refl _), Nat.le_refl _, by simp⟩, bnew hbel _⟩
      have hal2 := Lib.hid (bok_next hal (show byteOk s k = true from decide_eq_true (by rw [HX.out]; omega)))
      by_cases hsp : x = 32
      · have hnsp : Hid (¬ (k < s.size ∧ bt s k ≠ 32)) := fun h => h.2 (HX.out.trans hsp)
        have q1 : ((x : Int) == 32) = true := by simp; omega
        have q2 : ((x : Int) != 32) = false := by simp; omega
        clear hsp
        by_cases hst : st' < k
        · have hn := Lib.hid (f_cut hF hnsp.out hst)
          have hbel2 := hbel.size
          go_wp2_with (at_builtin; refine wpList_app_cells (news := [.string (s.extract st' k)]) (.tmp 48) (.tmp 53) 29 9 rfl rfl Tryd.underlying29 str_info rfl (by decide) rfl rfl rfl hown.own hbel2 (by decide) rfl (one_str _) (by omega) (by decide) ?_; intro B' d' w2 hown2 hb2)
          go_roundw
          case rel => exact ⟨k + 1, k + 1, B', d', _, by omega, by go_num, by go_num, Nat.le_refl _, by rw [List.length_append]; rfl, by rw [List.length_append]; simp; omega, hn.out, hal2.out, own_more hown2 (by omega), hbel.trans hb2⟩
          case measure => simp [intOf]; omega
        · have hn := Lib.hid (f_skip hF hnsp.out hst)
          go_wp2
          go_roundw
          case rel => exact ⟨k + 1, k + 1, B, d, F, by omega, by go_num, by go_num, Nat.le_refl _, rfl, by omega, hn.out, hal2.out, hown, hbel⟩
          case measure => simp [intOf]; omega
      · have hn := Lib.hid (f_stay hF hlt (by rw [HX.out]; exact hsp))
        have q1 : ((x : Int) == 32) = false := by simp; omega
        have q2 : ((x : Int) != 32) = true := by simp; omega
        clear hsp
        go_wp2
        go_roundw
        case rel => exact ⟨k + 1, st', B, d, F, by omega, by go_num, by go_num, by omega, rfl, by omega, hn.out, hal2.out, hown, hbel⟩
        case measure => simp [intOf]; omega
    · by_cases hke : k = s.size
      · have hal2 := Lib.hid (bok_end hal (Nat.le_of_not_lt hlt))
        have hnsp : Hid (¬ (k < s.size ∧ bt s k ≠ 32)) := fun h => hlt h.1
        have q3 : ((k : Int) == (s.size : Int)) = true := by simp; omega
        have hkl : k ≤ s.size := by omega
        clear hke
        by_cases hst : st' < k
        · have hn := Lib.hid (f_cut hF hnsp.out hst)
          have hbel2 := hbel.size
          go_wp2_with (at_builtin; refine wpList_app_cells (news := [.string (s.extract st' k)]) (.tmp 48) (.tmp 53) 29 9 rfl rfl Tryd.underlying29 str_info rfl (by decide) rfl rfl rfl hown.own hbel2 (by decide) rfl (one_str _) (by omega) (by decide) ?_; intro B' d' w2 hown2 hb2)
          go_roundw
          case rel => exact ⟨k + 1, k + 1, B', d', _, by omega, by go_num, by go_num, Nat.le_refl _, by rw [List.length_append]; rfl, by rw [List.length_append]; simp; omega, hn.out, hal2.out, own_more hown2 (by omega), hbel.trans hb2⟩
          case measure => simp [intOf]; omega
        · have hn := Lib.hid (f_skip hF hnsp.out hst)
          go_wp2
          go_roundw
          case rel => exact ⟨k + 1, k + 1, B, d, F, by omega, by go_num, by go_num, Nat.le_refl _, rfl, by omega, hn.out, hal2.out, hown, hbel⟩
          case measure => simp [intOf]; omega
      · have hk1 : k = s.size + 1 := by omega
        subst hk1
        have hall : Hid (∀ j, j < s.size → byteOk s j = true) := fun j hj => hal.out j (by omega) hj
        have hfin := Lib.hid (sp_all (by omega) hall hF)
        by_cases h24 : 24 < F.length
        · have hN := Lib.hid (sp_no (hfin.out.trans (decide_eq_false (by omega))))
          go_wp2
          go_ret2
          rw [hN.out.1, hN.out.2]
          exact ⟨_, _, rfl, ⟨((OwnC.empty 9 1).lo_mono hbel.size).hi_mono (by simp) (Nat.le_refl _), Nat.le_refl _, by simp⟩, bnew hbel _⟩
        · have hY := Lib.hid (sp_yes (hfin.out.trans (decide_eq_true (by omega))))
          have hFe : Hid ((fieldsTo s (s.size + 1)).1 = F) := by show _ = _; rw [hF.out]
          go_wp2
          go_ret2
          rw [hY.out.1, hY.out.2, hFe.out]
          exact ⟨B, d, rfl, hown, hbel⟩
end Go.Proofs.YtelmilgdoefmdaaDoor
