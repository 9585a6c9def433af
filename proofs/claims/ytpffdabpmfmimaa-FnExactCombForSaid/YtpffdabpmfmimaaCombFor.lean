/- CombFor: what it answers, and that the program's and the reference's functions answer it. -/
import Derived.Test.YtpffdabpmfmimaaMissing
namespace Go.Proofs.Ytpffdabpmfmimaa
open Go.RowKit

def tunesOk (ts : List (List (Int × Int))) : Bool := (List.range ts.length).all fun k => tuneOk (ts.getD k [])
def combL (ts : List (List (Int × Int))) : List Int := listTo (fun p => usedAll ts p ts.length) 61
def combForOk (ts : List (List (Int × Int))) : Bool := tunesOk ts && combOk (combL ts)
def combForL (ts : List (List (Int × Int))) : List Int := if combForOk ts = true then combL ts else []
theorem comb_list {ts : List (List (Int × Int))} {F : Int → Bool} (h : F = fun p => usedAll ts p ts.length) : combL ts = listTo F 61 := by subst h; unfold combL; with_reducible rfl
theorem combFor_no {ts : List (List (Int × Int))} (h : combForOk ts = false) : combForL ts = [] := by unfold combForL; rw [h]; rfl
theorem combFor_yes {ts : List (List (Int × Int))} (h : combForOk ts = true) : combForL ts = combL ts := by unfold combForL; rw [if_pos h]
theorem tunesOk_no {ts : List (List (Int × Int))} {k : Nat} {u : List (Int × Int)} (hk : k < ts.length) (e : Hid (ts.getD k [] = u)) (h : tuneOk u = false) : combForOk ts = false := by
  have : tunesOk ts = false := by
    unfold tunesOk
    rw [List.all_eq_false]; exact ⟨k, List.mem_range.2 hk, by rw [e.out, h]; exact Bool.false_ne_true⟩
  unfold combForOk; rw [this]; rfl
theorem tunesOk_yes {ts : List (List (Int × Int))} {b : Bool} (h : Hid (∀ j, j < ts.length → tuneOk (ts.getD j []) = true)) (hb : combOk (combL ts) = b) : combForOk ts = b := by
  have : tunesOk ts = true := by unfold tunesOk; rw [List.all_eq_true]; intro j hj; exact h.out j (List.mem_range.1 hj)
  unfold combForOk; rw [this, hb]; rfl
theorem okT_next {ts : List (List (Int × Int))} {k : Nat} {u : List (Int × Int)} (h : Hid (∀ j, j < k → tuneOk (ts.getD j []) = true)) (e : Hid (ts.getD k [] = u)) (hu : tuneOk u = true) : Hid (∀ j, j < k + 1 → tuneOk (ts.getD j []) = true) := fun j hj => by
  rcases Nat.lt_or_ge j k with hlt | hge
  · exact h.out j hlt
  · obtain rfl : j = k := by omega
    rw [e.out]; exact hu

set_option maxHeartbeats 1000000 in
theorem impl_CombFor {ts : List (List (Int × Int))} {A : Option Addr} {ca : Nat} {w : World} (h1 : RT w A ts) :
    Calls Try.prog 39 #[.slice A ts.length ca] w fun e w' => ∃ D d, e = .returned (.tuple #[.slice D (combForL ts).length d, .bool (combForOk ts)]) ∧ OwnI 3 w.heap.size w'.heap.size w' D d (combForL ts) ∧ Below w.heap.size w w' := by
  have H1 := Lib.hid h1; clear h1
  have l1 := H1.out.1
  go_enter Try.func39, Try.ntmps39
  go_wp2
  go_loopw [9] (fun i wr => ∃ k : Nat, k ≤ ts.length ∧ i = .int .i64 k ∧ Hid (∀ j, j < k → tuneOk (ts.getD j []) = true) ∧ Below w.heap.size w wr) (fun i _ => ts.length - (intOf i).toNat)
  case atStart => exact ⟨0, Nat.zero_le _, rfl, fun j hj => absurd hj (by omega), Below.refl _ _⟩
  case round =>
    obtain ⟨k, hk, rfl, hok, hbel⟩ := hrel
    by_cases hlt : k < ts.length
    · obtain ⟨b1, o1, rfl, hP⟩ := H1.out.2 (by omega)
      obtain ⟨B, c, hc, hR⟩ := hP k hlt
      obtain ⟨u, hu⟩ : ∃ u, Hid (ts.getD k [] = u) := ⟨_, rfl⟩
      rw [hu.out] at hc hR
      have c1 := cell_later hc hbel
      have R := Lib.hid (hR.below hbel)
      have hbl := Lib.hid hbel; clear hc hR hP hbel
      cases g : tuneOk u
      · have hF := Lib.hid (tunesOk_no hlt hu g)
        have hT := Lib.hid (combFor_no hF.out)
        go_wp2_with fail
        refine (impl_TuneOk R.out).mono ?_
        rintro e w2 ⟨rfl, hb2⟩
        go_wp2
        go_ret2
        rw [hT.out, hF.out]
        exact ⟨none, 0, rfl, OwnI.nil _ _ (Nat.le_refl _), bthen hbl.out hb2⟩
      · have hn := Lib.hid (okT_next hok hu g)
        go_wp2_with fail
        refine (impl_TuneOk R.out).mono ?_
        rintro e w2 ⟨rfl, hb2⟩
        go_wp2
        go_roundw
        case rel => exact ⟨k + 1, by omega, by go_num, hn.out, bthen hbl.out hb2⟩
        case measure => simp [intOf]; omega
    · obtain rfl : k = ts.length := by omega
      have hbl := Lib.hid hbel; clear hbel
      go_wp2_with fail
      refine (impl_pitchesOf (H1.out.below hbl.out)).mono ?_
      rintro e w2 ⟨D, d, rfl, hO, hb2⟩
      have hbx := Lib.hid (bthen hbl.out hb2)
      have hlo := Lib.hid hbl.out.size
      cases g : combOk (listTo (fun p => usedAll ts p ts.length) 61)
      · have hF := Lib.hid (tunesOk_yes hok g)
        have hT := Lib.hid (combFor_no hF.out)
        go_wp2_with fail
        refine (impl_CombOk hO.reads).mono ?_
        rintro e w3 ⟨rfl, hb3⟩
        go_wp2
        go_ret2
        rw [hT.out, hF.out]
        exact ⟨none, 0, rfl, OwnI.nil _ _ (Nat.le_refl _), bthen hbx.out hb3⟩
      · have hF := Lib.hid (tunesOk_yes hok g)
        have hT := Lib.hid (combFor_yes hF.out)
        have hou := Lib.hid hO
        go_wp2_with fail
        refine (impl_CombOk hO.reads).mono ?_
        rintro e w3 ⟨rfl, hb3⟩
        clear hO
        go_wp2
        go_ret2
        rw [hT.out, hF.out]
        exact ⟨_, _, rfl, ((hou.out.lo_mono hlo.out).below hb3 hou.out.le).hi_mono hb3.size (Nat.le_refl _), bthen hbx.out hb3⟩
set_option maxHeartbeats 2000000 in
theorem spec_CombFor {ts : List (List (Int × Int))} {A : Option Addr} {ca : Nat} {w : World} (h1 : RT w A ts) :
    Calls Try.prog 37 #[.slice A ts.length ca] w fun e w' => ∃ D d, e = .returned (.tuple #[.slice D (combForL ts).length d, .bool (combForOk ts)]) ∧ OwnI 3 w.heap.size w'.heap.size w' D d (combForL ts) ∧ Below w.heap.size w w' := by
  have H1 := Lib.hid h1; clear h1
  have l1 := H1.out.1
  obtain ⟨F, hF0⟩ : ∃ F : Int → Bool, Hid (F = fun p => usedAll ts p ts.length) := ⟨_, rfl⟩
  go_enter Try.func37, Try.ntmps37
  go_wp2
  go_loopw [5] (fun i wr => ∃ k : Nat, k ≤ ts.length ∧ i = .int .i64 k ∧ Hid (∀ j, j < k → tuneOk (ts.getD j []) = true) ∧ Hid (OwnI 3 w.heap.size wr.heap.size wr (some ⟨w.heap.size, 0, none⟩) 0 []) ∧ Below w.heap.size w wr) (fun i _ => ts.length - (intOf i).toNat)
  case atStart => exact ⟨0, Nat.zero_le _, rfl, fun j hj => absurd hj (by omega), (own_empty 3).hi_mono (by simp) (Nat.le_refl _), bnew (Below.refl _ _) _⟩
  case round =>
    obtain ⟨k, hk, rfl, hok, hem, hbel⟩ := hrel
    by_cases hlt : k < ts.length
    · obtain ⟨b1, o1, rfl, hP⟩ := H1.out.2 (by omega)
      obtain ⟨B, c, hc, hR⟩ := hP k hlt
      obtain ⟨u, hu⟩ : ∃ u, Hid (ts.getD k [] = u) := ⟨_, rfl⟩
      rw [hu.out] at hc hR
      have c1 := cell_later hc hbel
      have R := Lib.hid (hR.below hbel)
      have hbl := Lib.hid hbel; clear hc hR hP hbel
      cases g : tuneOk u
      · have hF := Lib.hid (tunesOk_no hlt hu g)
        have hT := Lib.hid (combFor_no hF.out)
        go_wp2_with fail
        refine (spec_TuneOk R.out).mono ?_
        rintro e w2 ⟨rfl, hb2⟩
        go_wp2
        go_ret2
        rw [hT.out, hF.out]
        exact ⟨_, _, rfl, (hem.out.below hb2 hem.out.le).hi_mono hb2.size (Nat.le_refl _), bthen hbl.out hb2⟩
      · have hn := Lib.hid (okT_next hok hu g)
        go_wp2_with fail
        refine (spec_TuneOk R.out).mono ?_
        rintro e w2 ⟨rfl, hb2⟩
        go_wp2
        go_roundw
        case rel => exact ⟨k + 1, by omega, by go_num, hn.out, (hem.out.below hb2 hem.out.le).hi_mono hb2.size (Nat.le_refl _), bthen hbl.out hb2⟩
        case measure => simp [intOf]; omega
    · obtain rfl : k = ts.length := by omega
      have hst : Hid (OwnI 3 w.heap.size wr.heap.size wr (some ⟨w.heap.size, 0, none⟩) 0 [] ∧ Below w.heap.size w wr) := ⟨hem.out, hbel⟩
      clear hem hbel
      go_wp2
      go_loopw [4, 6] (fun v i wr => ∃ (k : Nat) (D : Option Addr) (d : Nat), k ≤ 61 ∧ i = .int .i64 k ∧ v = .slice D (listTo F k).length d ∧ OwnI 3 w.heap.size wr.heap.size wr D d (listTo F k) ∧ Below w.heap.size w wr) (fun _ i _ => 61 - (intOf i).toNat)
      case atStart => exact ⟨0, _, _, by omega, rfl, rfl, hst.out.1, hst.out.2⟩
      case round =>
        clear hst
        obtain ⟨k, D, d, hk, rfl, rfl, hown, hbel⟩ := hrel
        have hpl := length_listTo F k
        by_cases hlt : k < 61
        · have hou := Lib.hid hown; clear hown
          have hbl := Lib.hid hbel; clear hbel
          obtain ⟨W2, rfl⟩ : ∃ W2, W2 = wr := ⟨_, rfl⟩
          go_wp2
          go_loopw [7, 8] (fun u j wr' => ∃ (m : Nat) (b : Bool), m ≤ ts.length ∧ j = .int .i64 m ∧ u = .bool b ∧ Hid (usedAll ts (k : Int) m = b) ∧ Below W2.heap.size W2 wr') (fun _ j _ => ts.length - (intOf j).toNat)
          case atStart => exact ⟨0, false, Nat.zero_le _, rfl, rfl, rfl, Below.refl _ _⟩
          case round =>
            obtain ⟨m, b, hm, rfl, rfl, hus, hbi⟩ := hrel
            by_cases hml : m < ts.length
            · obtain ⟨b1, o1, rfl, hP⟩ := H1.out.2 (by omega)
              obtain ⟨B, c, hc, hR⟩ := hP m hml
              obtain ⟨u, hu⟩ : ∃ u, Hid (ts.getD m [] = u) := ⟨_, rfl⟩
              rw [hu.out] at hc hR
              have hc' := Lib.hid (cell_later hc (bthen hbl.out hbi))
              have R := Lib.hid (hR.below (bthen hbl.out hbi))
              have lu := R.out.1
              clear hc hR hP
              have hbx := Lib.hid hbi; clear hbi
              obtain ⟨W3, rfl⟩ : ∃ W3, W3 = wr := ⟨_, rfl⟩
              go_wp2
              go_loopw [7, 9] (fun v j wr' => ∃ (n : Nat) (b' : Bool), n ≤ u.length ∧ j = .int .i64 n ∧ v = .bool b' ∧ Hid ((b || usedTo u (k : Int) n) = b') ∧ Below W3.heap.size W3 wr') (fun _ j _ => u.length - (intOf j).toNat)
              case atStart => exact ⟨0, b, Nat.zero_le _, rfl, rfl, (by show _ = _; simp [usedTo]), Below.refl _ _⟩
              case round =>
                obtain ⟨n, b', hn, rfl, rfl, hus2, hbj⟩ := hrel
                have c1 := cell_later hc'.out hbj
                by_cases hnl : n < u.length
                · obtain ⟨b2, o2, rfl, hP⟩ := R.out.2 (by omega)
                  have HP := Lib.hid hP; clear hP
                  obtain ⟨x, y, e1⟩ := pair_of u n
                  have c3 := HP.out.c2 hbj hnl e1
                  have hbk := Lib.hid hbj; clear hbj
                  cases b'
                  · have hf := Bool.or_eq_false_iff.1 hus2.out
                    by_cases hy : y = (k : Int)
                    · have hq := Lib.hid (usedTo_next (p := (k : Int)) (Lib.hid hf.2) e1 (decide_eq_true hy))
                      have q1 : (y == (k : Int)) = true := by rw [beq_iff_eq]; exact hy
                      clear hy hf
                      go_wp2
                      go_roundw
                      case rel => exact ⟨n + 1, true, by omega, by go_num, rfl, (by show _ = _; rw [hq.out.out, Bool.or_true]), hbk.out⟩
                      case measure => simp [intOf]; omega
                    · have hq := Lib.hid (usedTo_next (p := (k : Int)) (Lib.hid hf.2) e1 (decide_eq_false hy))
                      have hb := Lib.hid hf.1
                      have q1 : (y == (k : Int)) = false := by rw [beq_eq_false_iff_ne]; exact hy
                      clear hy hf
                      go_wp2
                      go_roundw
                      case rel => exact ⟨n + 1, false, by omega, by go_num, rfl, (by show _ = _; rw [hq.out.out, hb.out]; rfl), hbk.out⟩
                      case measure => simp [intOf]; omega
                  · go_wp2
                    go_roundw
                    case rel => exact ⟨n + 1, true, by omega, by go_num, rfl, (by show _ = _; have := hus2.out; simp only [usedTo]; rw [← Bool.or_assoc, this, Bool.true_or]), hbk.out⟩
                    case measure => simp [intOf]; omega
                · obtain rfl : n = u.length := by omega
                  have hn : Hid (usedAll ts (k : Int) (m + 1) = b') := by
                    show _ = _
                    simp only [usedAll, hus.out, hu.out]; exact hus2.out
                  go_wp2
                  go_roundw
                  case rel => exact ⟨m + 1, b', by omega, by go_num, rfl, hn, hbx.out.trans (hbj.mono hbx.out.size)⟩
                  case measure => simp [intOf]; omega
            · obtain rfl : m = ts.length := by omega
              cases b
              · have hs := Lib.hid (listTo_no (f := F) (n := k) (by rw [hF0.out]; exact hus.out))
                go_wp2
                go_roundw
                case rel => exact ⟨k + 1, D, d, by omega, by go_num, by rw [hs.out], by rw [hs.out]; exact (hou.out.below hbi hou.out.le).hi_mono hbi.size (Nat.le_refl _), bthen hbl.out hbi⟩
                case measure => simp [intOf]; omega
              · have hs := Lib.hid (listTo_yes (f := F) (n := k) (by rw [hF0.out]; exact hus.out))
                have hown := (hou.out.below hbi hou.out.le).hi_mono hbi.size (Nat.le_refl _)
                have hbel := bthen hbl.out hbi
                clear hbi
                go_wp2_with (at_builtin; refine wpList_app_int (.tmp 57) (.tmp 59) 43 3 rfl rfl Try.underlying43 int_info rfl rfl rfl hown hbel.size (by omega) ?_; intro B' d' w4 hown2 hb4)
                go_roundw
                case rel => exact ⟨k + 1, B', d', by omega, by go_num, by rw [hs.out, List.length_append]; rfl, by rw [hs.out]; exact hown2, hbel.trans hb4⟩
                case measure => simp [intOf]; omega
        · have hk61 : k = 61 := by omega
          subst hk61
          have hbx := Lib.hid hbel; clear hbel
          cases g : combOk (listTo F 61)
          · have hF := Lib.hid (tunesOk_yes hok ((congrArg combOk (comb_list hF0.out)).trans g))
            have hT := Lib.hid (combFor_no hF.out)
            go_wp2_with fail
            refine (spec_CombOk hown.reads).mono ?_
            rintro e w3 ⟨rfl, hb3⟩
            have hby := Lib.hid (bthen hbx.out hb3)
            go_wp2
            go_ret2
            rw [hT.out, hF.out]
            exact ⟨_, _, rfl, ((own_empty 3).lo_mono hby.out.size).hi_mono (by simp) (Nat.le_refl _), bnew hby.out _⟩
          · have hF := Lib.hid (tunesOk_yes hok ((congrArg combOk (comb_list hF0.out)).trans g))
            have hT := Lib.hid ((combFor_yes hF.out).trans (comb_list hF0.out))
            have hou := Lib.hid hown
            go_wp2_with fail
            refine (spec_CombOk hown.reads).mono ?_
            rintro e w3 ⟨rfl, hb3⟩
            clear hown
            go_wp2
            go_ret2
            rw [hT.out, hF.out]
            exact ⟨_, _, rfl, (hou.out.below hb3 hou.out.le).hi_mono hb3.size (Nat.le_refl _), bthen hbx.out hb3⟩
end Go.Proofs.Ytpffdabpmfmimaa
