/- The laws' own helpers over lists of tunes: their count, a copy, a comparison, and marks. -/
import Derived.Test.YtpffdabpmfmimaaMissing
import Derived.Test.YtpffdabpmfmimaaTuneW
namespace Go.Proofs.Ytpffdabpmfmimaa
open Go.RowKit
set_option linter.unusedVariables false

/-! ## Plain notions -/
def lenTo (ts : List (List (Int × Int))) : Nat → Nat
  | 0 => 0
  | k + 1 => lenTo ts k + (ts.getD k []).length
def total (ts : List (List (Int × Int))) : Nat := ts.length + lenTo ts ts.length
theorem lenTo_mono (ts : List (List (Int × Int))) : ∀ (k d : Nat), lenTo ts k ≤ lenTo ts (k + d)
  | _, 0 => Nat.le_refl _
  | k, d + 1 => Nat.le_trans (lenTo_mono ts k d) (by show _ ≤ lenTo ts (k + d) + _; omega)
theorem lenTo_le (ts : List (List (Int × Int))) {k m : Nat} (h : k ≤ m) : lenTo ts k ≤ lenTo ts m := by
  have := lenTo_mono ts k (m - k)
  rwa [show k + (m - k) = m by omega] at this
/-- The cells from the offset off on of block b are slices of pairs, of whatever length. -/
def SlotsW (w : World) (b off : Nat) (ts : List (List (Int × Int))) : Prop := ∀ j, j < ts.length → ∃ (B : Option Addr) (c : Nat), w.cell? ⟨b, off + j, none⟩ = some (.slice B (ts.getD j []).length c) ∧ (ts.getD j []).length ≤ maxLen ∧ (0 < (ts.getD j []).length → ∃ b' off', B = some ⟨b', off', none⟩ ∧ PairsAt w b' off' (ts.getD j []))
def RTW (w : World) (A : Option Addr) (ts : List (List (Int × Int))) : Prop := ts.length ≤ maxLen ∧ (0 < ts.length → ∃ b off, A = some ⟨b, off, none⟩ ∧ SlotsW w b off ts)
theorem RTW.strong {w : World} {A : Option Addr} {ts : List (List (Int × Int))} (h : RTW w A ts) (ht : total ts ≤ 1048576) : RT w A ts := by
  unfold total at ht
  refine ⟨by omega, fun hl => ?_⟩
  obtain ⟨b, off, hA, hS⟩ := h.2 hl
  refine ⟨b, off, hA, fun j hj => ?_⟩
  obtain ⟨B, c, h1, _, h3⟩ := hS j hj
  have := lenTo_le ts (show j + 1 ≤ ts.length by omega)
  have e : lenTo ts (j + 1) = lenTo ts j + (ts.getD j []).length := rfl
  exact ⟨B, c, h1, by omega, h3⟩
/-- The slice of slices was made by the program: the outer one lies in a block of its own, the inner ones each in a range of blocks of its own behind it. -/
structure OwnTT (e : TypeId) (lo hi : Nat) (w : World) (A : Option Addr) (ts : List (List (Int × Int))) : Prop where
  ex : ∃ (b : Nat) (f : Nat → Nat), A = some ⟨b, 0, none⟩ ∧ lo ≤ b ∧ b < w.heap.size ∧ b < f 0 ∧ b < hi ∧ (∀ j, f j ≤ f (j + 1)) ∧ f ts.length ≤ hi ∧
    ∀ j, j < ts.length → ∃ (B : Option Addr) (d : Nat), w.cell? ⟨b, j, none⟩ = some (.slice B (ts.getD j []).length d) ∧ OwnP e (f j) (f (j + 1)) w B d (ts.getD j [])
  le : hi ≤ w.heap.size
  small : ts.length ≤ 1048576
theorem f_le {f : Nat → Nat} (h : ∀ j, f j ≤ f (j + 1)) : ∀ (a d : Nat), f a ≤ f (a + d)
  | _, 0 => Nat.le_refl _
  | a, d + 1 => Nat.le_trans (f_le h a d) (h _)
theorem f_mono {f : Nat → Nat} (h : ∀ j, f j ≤ f (j + 1)) {a b : Nat} (hab : a ≤ b) : f a ≤ f b := by
  have := f_le h a (b - a)
  rwa [show a + (b - a) = b by omega] at this
section
variable {e : TypeId} {lo hi : Nat} {w w' : World} {A : Option Addr} {ts : List (List (Int × Int))}
theorem OwnTT.reads (h : OwnTT e lo hi w A ts) : RT w A ts := by
  refine ⟨h.small, fun hl => ?_⟩
  obtain ⟨b, f, hA, _, _, _, _, _, _, hj⟩ := h.ex
  refine ⟨b, 0, hA, fun j hjl => ?_⟩
  obtain ⟨B, d, h1, h2⟩ := hj j hjl
  exact ⟨B, d, by rw [Nat.zero_add]; exact h1, h2.reads⟩
theorem OwnTT.below (h : OwnTT e lo hi w A ts) {B : Nat} (hb : Below B w w') (hB : hi ≤ B) : OwnTT e lo hi w' A ts := by
  obtain ⟨b, f, hA, h1, h2, h3, h4, h5, h6, hj⟩ := h.ex
  refine ⟨⟨b, f, hA, h1, Nat.lt_of_lt_of_le h2 hb.size, h3, h4, h5, h6, fun j hjl => ?_⟩, Nat.le_trans h.le hb.size, h.small⟩
  obtain ⟨C, d, k1, k2⟩ := hj j hjl
  have := f_mono h5 (show j + 1 ≤ ts.length by omega)
  exact ⟨C, d, (World.cell?_of_block (w := w) (a := ⟨b, j, none⟩) (hb.block b (by omega))).trans k1, k2.below hb (by omega)⟩
theorem OwnTT.kept (h : OwnTT e lo hi w A ts) {lo' hi' : Nat} (hk : Kept lo' hi' w w') (hd : hi ≤ lo' ∨ hi' ≤ lo) : OwnTT e lo hi w' A ts := by
  obtain ⟨b, f, hA, h1, h2, h3, h4, h5, h6, hj⟩ := h.ex
  refine ⟨⟨b, f, hA, h1, Nat.lt_of_lt_of_le h2 hk.size, h3, h4, h5, h6, fun j hjl => ?_⟩, Nat.le_trans h.le hk.size, h.small⟩
  obtain ⟨C, d, k1, k2⟩ := hj j hjl
  have := f_mono h5 (show j + 1 ≤ ts.length by omega)
  have := f_mono h5 (Nat.zero_le j)
  exact ⟨C, d, (hk.cell (p := ⟨b, j, none⟩) h2 (by simp only; omega)).trans k1, k2.kept hk (by omega)⟩
end
theorem laws_szNoteSS_yes {ts : List (List (Int × Int))} {A : Option Addr} {c : Nat} {w : World} (h : RTW w A ts) (ht : total ts ≤ 1048576) :
    Calls Try.prog 36 #[.slice A ts.length c, .int .i64 1048576] w fun e w' => e = .returned (.int .i64 (1048576 - (total ts : Int))) ∧ Below w.heap.size w w' := by
  have htt : total ts = ts.length + lenTo ts ts.length := rfl
  have HA := Lib.hid h.2; clear h
  have hn : ts.length ≤ 1048576 := by omega
  have HT := Lib.hid htt
  have HL : Hid (∀ k, k < ts.length → ts.length + (lenTo ts k + (ts.getD k []).length) ≤ 1048576) := fun k hk => by
    have : lenTo ts (k + 1) = lenTo ts k + (ts.getD k []).length := rfl
    have := lenTo_le ts (show k + 1 ≤ ts.length by omega)
    omega
  clear htt
  go_enter Try.func36, Try.ntmps36
  go_wp2
  go_loopw [1, 5] (fun v i wr => ∃ k : Nat, k ≤ ts.length ∧ i = .int .i64 k ∧ v = .int .i64 (1048576 - (ts.length : Int) - (lenTo ts k : Int)) ∧ w = wr) (fun _ i _ => ts.length - (intOf i).toNat)
  case atStart => exact ⟨0, Nat.zero_le _, rfl, by simp [lenTo], rfl⟩
  case round =>
    obtain ⟨k, hk, rfl, rfl, rfl⟩ := hrel
    by_cases hlt : k < ts.length
    · obtain ⟨b, off, rfl, hP⟩ := HA.out (by omega)
      obtain ⟨B, d, c1, _, _⟩ := hP k hlt
      have hle := HL.out k hlt
      obtain ⟨u, hu⟩ : ∃ u, Hid (ts.getD k [] = u) := ⟨_, rfl⟩
      rw [hu.out] at c1 hle
      have hnx : (1048576 - (ts.length : Int) - (lenTo ts k : Int) - (u.length : Int)) = 1048576 - (ts.length : Int) - (lenTo ts (k + 1) : Int) := by
        have : lenTo ts (k + 1) = lenTo ts k + u.length := by rw [← hu.out]; rfl
        omega
      have HN := Lib.hid hnx
      clear hP hnx
      go_wp2_with fail
      refine (laws_szNoteS_yes (by omega) (by omega)).mono ?_
      rintro e w1 ⟨rfl, rfl⟩
      go_wp2
      go_roundw
      case rel => exact ⟨k + 1, by omega, by go_num, by rw [HN.out], by first | rfl | trivial⟩
      case measure => simp [intOf]; omega
    · obtain rfl : k = ts.length := by omega
      go_wp2
      go_ret
      exact ⟨ret_int (by rw [HT.out]; omega), Below.refl _ _⟩
theorem laws_szNoteSS_no {ts : List (List (Int × Int))} {A : Option Addr} {c : Nat} {w : World} (h : RTW w A ts) (ht : 1048576 < total ts) :
    Calls Try.prog 36 #[.slice A ts.length c, .int .i64 1048576] w fun e w' => e = .returned (.int .i64 (-1)) ∧ Below w.heap.size w w' := by
  have htt : total ts = ts.length + lenTo ts ts.length := rfl
  have HA := Lib.hid h.2
  have hm := h.1; clear h
  have hm' := hm
  unfold maxLen at hm'
  by_cases hbig : 1048576 < ts.length
  · go_enter Try.func36, Try.ntmps36
    go_wp2
    go_ret
    exact ⟨rfl, Below.refl _ _⟩
  have HT := Lib.hid htt
  clear htt
  go_enter Try.func36, Try.ntmps36
  go_wp2
  go_loopw [1, 5] (fun v i wr => ∃ k : Nat, k ≤ ts.length ∧ i = .int .i64 k ∧ ts.length + lenTo ts k ≤ 1048576 ∧ v = .int .i64 (1048576 - (ts.length : Int) - (lenTo ts k : Int)) ∧ w = wr) (fun _ i _ => ts.length - (intOf i).toNat)
  case atStart => exact ⟨0, Nat.zero_le _, rfl, by simp [lenTo]; omega, by simp [lenTo], rfl⟩
  case round =>
    obtain ⟨k, hk, rfl, hle, rfl, rfl⟩ := hrel
    by_cases hlt : k < ts.length
    · obtain ⟨b, off, rfl, hP⟩ := HA.out (by omega)
      obtain ⟨B, d, c1, hml, _⟩ := hP k hlt
      obtain ⟨u, hu⟩ : ∃ u, Hid (ts.getD k [] = u) := ⟨_, rfl⟩
      rw [hu.out] at c1 hml
      have hE : lenTo ts (k + 1) = lenTo ts k + u.length := by rw [← hu.out]; rfl
      have hnx : (1048576 - (ts.length : Int) - (lenTo ts k : Int) - (u.length : Int)) = 1048576 - (ts.length : Int) - (lenTo ts (k + 1) : Int) := by omega
      have HN := Lib.hid hnx
      have HE := Lib.hid hE
      clear hP hnx hE
      have hml' := hml
      unfold maxLen at hml'
      by_cases hf : ts.length + (lenTo ts k + u.length) ≤ 1048576
      · have hl2 : ts.length + lenTo ts (k + 1) ≤ 1048576 := by rw [HE.out]; exact hf
        go_wp2_with fail
        refine (laws_szNoteS_yes (by omega) (by omega)).mono ?_
        rintro e w1 ⟨rfl, rfl⟩
        go_wp2
        go_roundw
        case rel => exact ⟨k + 1, by omega, by go_num, hl2, by rw [HN.out], by first | rfl | trivial⟩
        case measure => simp [intOf]; omega
      · go_wp2_with fail
        refine (laws_szNoteS_no (by omega) (by omega) (by omega) hml).mono ?_
        rintro e w1 ⟨rfl, rfl⟩
        go_wp2
        go_ret
        exact ⟨rfl, Below.refl _ _⟩
    · obtain rfl : k = ts.length := by omega
      have := HT.out
      omega
theorem tunes_info : (Try.prog.info? 46).map (fun i => (i.zero, i.size, i.bytes)) = some (some (.slice none 0 0), 1, 24) := by kernel_rfl
theorem slice_cell {w : World} {lo : Nat} {e : TypeId} {g c n : Nat} {xs : List Value} (h : w.ownsRow lo e 1 (.slice (some ⟨g, 0, none⟩) n c) n xs) {k : Nat} (hk : k < n) {u : Value} (hu : xs[k]? = some u) : w.cell? ⟨g, k, none⟩ = some u :=
  (h.cellAt k (by omega)).trans hu
set_option maxHeartbeats 1000000 in
theorem laws_toNoteSS {ts : List (List (Int × Int))} {A : Option Addr} {c : Nat} {w : World} (h : RT w A ts) :
    Calls Try.prog 38 #[.slice A ts.length c] w fun e w' => ∃ B d, e = .returned (.slice B ts.length d) ∧ OwnTT 74 w.heap.size w'.heap.size w' B ts ∧ Below w.heap.size w w' := by
  obtain ⟨hn, hA⟩ := h
  have HA := Lib.hid hA; clear hA
  have hmk := run_makeN (P := Try.prog) 58 46 _ 1 24 Try.underlying58 tunes_info ts.length (by omega) hn
  go_enter Try.func38, Try.ntmps38
  go_wp2
  clear hmk
  generalize hW : World.alloc w _ = W1
  have hrow : W1.ownsRow w.heap.size 46 1 (.slice (some ⟨w.heap.size, 0, none⟩) ts.length ts.length) ts.length (madeCells #[.slice none 0 0] ts.length).toList := by
    subst hW
    exact World.ownsRow_lit (base := w.heap.size) (e := 46) (size := 1) w (madeCells #[.slice none 0 0] ts.length) ts.length (Nat.le_refl _) (by simp [maxLen]; omega) (by rw [size_madeCells]; simp)
  have hb1 : Below w.heap.size w W1 := by subst hW; exact bnew (Below.refl _ _) _
  have hlt1 : w.heap.size + 1 ≤ W1.heap.size := by subst hW; simp
  clear hW
  go_loopw [4] (fun i wr => ∃ (k : Nat) (f : Nat → Nat) (xs : List Value), k ≤ ts.length ∧ i = .int .i64 k ∧ w.heap.size + 1 ≤ wr.heap.size ∧
    Hid (wr.ownsRow w.heap.size 46 1 (.slice (some ⟨w.heap.size, 0, none⟩) ts.length ts.length) ts.length xs) ∧
    Hid (w.heap.size < f 0 ∧ (∀ j, f j ≤ f (j + 1)) ∧ f k ≤ wr.heap.size ∧ ∀ j, j < k → ∃ (B : Option Addr) (d : Nat), xs[j]? = some (.slice B (ts.getD j []).length d) ∧ OwnP 74 (f j) (f (j + 1)) wr B d (ts.getD j [])) ∧ Below w.heap.size w wr) (fun i _ => ts.length - (intOf i).toNat)
  case atStart => exact ⟨0, fun _ => w.heap.size + 1, _, Nat.zero_le _, rfl, hlt1, hrow, ⟨Nat.lt_succ_self _, fun _ => Nat.le_refl _, hlt1, fun j hj => absurd hj (by omega)⟩, hb1⟩
  clear hrow hb1 hlt1
  case round =>
    obtain ⟨k, f, xs, hk, rfl, hsz, hrow, hin, hbel⟩ := hrel
    by_cases hlt : k < ts.length
    · obtain ⟨b, off, rfl, hP⟩ := HA.out (by omega)
      obtain ⟨B, d, hc, hR⟩ := hP k hlt
      obtain ⟨u, hu⟩ : ∃ u, Hid (ts.getD k [] = u) := ⟨_, rfl⟩
      rw [hu.out] at hc hR
      have c1 := cell_later hc hbel
      have R := Lib.hid (hR.below hbel)
      have hbl := Lib.hid hbel
      clear hc hR hP hbel
      go_wp2_with fail
      refine (laws_toNoteS R.out).mono ?_
      rintro e wq ⟨B', d', rfl, O, hq⟩
      have hrow2 : Hid (wq.ownsRow w.heap.size 46 1 (.slice (some ⟨w.heap.size, 0, none⟩) ts.length ts.length) ts.length xs) := ownsRow_same hrow.out fun g hg => by
        simp only [Value.ownBlock, Option.some.injEq] at hg
        subst hg
        exact hq.block _ (by omega)
      have hxl : Hid (xs.length = ts.length * 1) := hrow.out.1
      obtain ⟨u0, hu0⟩ : ∃ u, Hid (xs[k]? = some u) := by
        have := hxl.out
        exact ⟨_, List.getElem?_eq_getElem (by omega)⟩
      have s1 := slice_cell hrow2.out hlt hu0.out
      have s2 : wq.frozen? ⟨w.heap.size, k, none⟩ = false := hrow2.out.frozenAt _
      have O' := Lib.hid O; have hq' := Lib.hid hq
      have hqs := hq.size
      clear O hq
      go_wp2
      go_roundw
      case rel =>
        obtain ⟨f1, f2, f3, f4⟩ := hin.out
        have hkp : Kept w.heap.size (w.heap.size + 1) wq (wq.setCell ⟨w.heap.size, k, none⟩ (.slice B' u.length d')) := (Kept.refl _ _ _).setCell (p := ⟨w.heap.size, k, none⟩) (Nat.le_refl _) (Nat.lt_succ_self _) _
        refine ⟨k + 1, fun j => if j ≤ k then f j else wq.heap.size, xs.set k (.slice B' u.length d'), by omega, by go_num, Nat.le_trans (by omega) hkp.size, (hrow2.out.stored k _).1, ⟨?_, ?_, ?_, ?_⟩, (bthen hbl.out hq'.out).setCell (p := ⟨w.heap.size, k, none⟩) (Nat.le_refl _) _⟩
        · simp only [Nat.zero_le, if_true]; exact f1
        · intro j
          by_cases h1 : j + 1 ≤ k
          · simp only [if_pos h1, if_pos (show j ≤ k by omega)]; exact f2 j
          · by_cases h2 : j ≤ k
            · have : j = k := by omega
              subst this
              simp only [if_neg h1, if_pos h2]; omega
            · simp only [if_neg h1, if_neg h2]; exact Nat.le_refl _
        · simp only [if_neg (show ¬ k + 1 ≤ k by omega)]; exact hkp.size
        · intro j hj
          have hk0 := f_mono f2 (Nat.zero_le j)
          rcases Nat.lt_or_ge j k with hjk | hjk
          · obtain ⟨C, dc, k1, k2⟩ := f4 j hjk
            have hk1 := f_mono f2 (show j + 1 ≤ k by omega)
            refine ⟨C, dc, by rw [List.getElem?_set_ne (by omega)]; exact k1, ?_⟩
            simp only [if_pos (show j ≤ k by omega), if_pos (show j + 1 ≤ k by omega)]
            exact (k2.below hq'.out (by omega)).kept hkp (.inr (by omega))
          · have : j = k := by omega
            subst this
            have := hxl.out
            rw [hu.out]
            refine ⟨B', d', List.getElem?_set_self (by omega), ?_⟩
            simp only [Nat.le_refl, if_true, if_neg (show ¬ j + 1 ≤ j by omega)]
            exact ((O'.out.lo_mono f3).kept hkp (.inr (by omega)))
      case measure => simp [intOf]; omega
    · obtain rfl : k = ts.length := by omega
      go_wp2
      go_ret
      obtain ⟨f1, f2, f3, f4⟩ := hin.out
      refine ⟨_, _, rfl, ⟨⟨w.heap.size, f, rfl, Nat.le_refl _, by omega, f1, by omega, f2, f3, fun j hj => ?_⟩, Nat.le_refl _, hn⟩, hbel⟩
      obtain ⟨C, dc, k1, k2⟩ := f4 j hj
      exact ⟨C, dc, slice_cell hrow.out hj k1, k2⟩
theorem laws_eqNoteSS {ts : List (List (Int × Int))} {A B : Option Addr} {c d : Nat} {w : World} (h1 : RT w A ts) (h2 : RT w B ts) :
    Calls Try.prog 40 #[.slice A ts.length c, .slice B ts.length d] w fun e w' => e = .returned (.bool true) ∧ Below w.heap.size w w' := by
  have hn := h1.1
  have H1 := Lib.hid h1; have H2 := Lib.hid h2; clear h1 h2
  go_enter Try.func40, Try.ntmps40
  go_wp2
  go_loopw [5] (fun i wr => ∃ k : Nat, k ≤ ts.length ∧ i = .int .i64 k ∧ Below w.heap.size w wr) (fun i _ => ts.length - (intOf i).toNat)
  case atStart => exact ⟨0, Nat.zero_le _, rfl, Below.refl _ _⟩
  case round =>
    obtain ⟨k, hk, rfl, hbel⟩ := hrel
    by_cases hlt : k < ts.length
    · obtain ⟨b, off, rfl, hP⟩ := H1.out.2 (by omega)
      obtain ⟨b', off', rfl, hP'⟩ := H2.out.2 (by omega)
      obtain ⟨C, dc, k1, k2⟩ := hP k hlt
      obtain ⟨C', dc', k3, k4⟩ := hP' k hlt
      obtain ⟨u, hu⟩ : ∃ u, Hid (ts.getD k [] = u) := ⟨_, rfl⟩
      rw [hu.out] at k1 k2 k3 k4
      have c1 := cell_after k1 hbel
      have c2 := cell_after k3 hbel
      have hR1 := Lib.hid (k2.below hbel)
      have hR2 := Lib.hid (k4.below hbel)
      clear hP hP' k1 k2 k3 k4
      go_wp2_with fail
      refine wp_region_after (by kernel_rfl) (by kernel_rfl) ?_
      repeat (go_big_quiet_step (first | (go_at_call 32; exact Calls.after_of (laws_eqNoteS (hR1.out.below (After.h _)) (hR2.out.below (After.h _))))))
      refine wpQuiet_nil ?_
      rintro _ ⟨⟨wq, hq⟩, rfl⟩
      replace hbel := bthen hbel hq
      clear hq
      go_wp2
      go_roundw
      case rel => exact ⟨k + 1, by omega, by go_num, hbel⟩
      case measure => simp [intOf]; omega
    · go_wp2
      go_ret
      exact ⟨rfl, hbel⟩
set_option maxHeartbeats 400000 in
theorem laws_markNoteSS {e : TypeId} {lo hi : Nat} {q : Int} {ts : List (List (Int × Int))} {A : Option Addr} {c : Nat} {w : World} (h : OwnTT e lo hi w A ts) (hq : 0 ≤ q) (hq2 : q ≤ 1048576) (ht : total ts ≤ 1048576) :
    Calls Try.prog 41 #[.slice A ts.length c, .int .i64 q] w fun r w' => r = .returned (.int .i64 (q + 2 * (lenTo ts ts.length : Int))) ∧ Kept lo hi w w' := by
  obtain ⟨b, f, rfl, h1, h2, h3, h4, h5, h6, hj⟩ := h.ex
  have hn := h.small
  have hle := h.le
  clear h
  have HJ := Lib.hid hj; clear hj
  have HF := Lib.hid h5; clear h5
  have HL : Hid (∀ k, k < ts.length → lenTo ts k + (ts.getD k []).length ≤ 1048576) := fun k hk => by
    have : lenTo ts (k + 1) = lenTo ts k + (ts.getD k []).length := rfl
    have := lenTo_le ts (show k + 1 ≤ ts.length by omega)
    unfold total at ht
    omega
  go_enter Try.func41, Try.ntmps41
  go_wp2
  go_loopw [1, 5] (fun v i wr => ∃ k : Nat, k ≤ ts.length ∧ i = .int .i64 k ∧ v = .int .i64 (q + 2 * (lenTo ts k : Int)) ∧ Hid (∀ j, k ≤ j → j < ts.length → ∃ (B : Option Addr) (d : Nat), wr.cell? ⟨b, j, none⟩ = some (.slice B (ts.getD j []).length d) ∧ OwnP e (f j) (f (j + 1)) wr B d (ts.getD j [])) ∧ Kept lo hi w wr) (fun _ i _ => ts.length - (intOf i).toNat)
  case atStart => exact ⟨0, Nat.zero_le _, rfl, by simp [lenTo], fun j _ hj => HJ.out j hj, Kept.refl _ _ _⟩
  clear HJ
  case round =>
    obtain ⟨k, hk, rfl, rfl, hin, hkept⟩ := hrel
    by_cases hlt : k < ts.length
    · obtain ⟨B, d, c1, O⟩ := hin.out k (Nat.le_refl _) hlt
      have hle := HL.out k hlt
      obtain ⟨u, hu⟩ : ∃ u, Hid (ts.getD k [] = u) := ⟨_, rfl⟩
      rw [hu.out] at c1 O hle
      have hks := hkept.size
      have HK := Lib.hid hkept
      have HN : Hid (q + 2 * (lenTo ts k : Int) + 2 * (u.length : Int) = q + 2 * (lenTo ts (k + 1) : Int)) := by
        have : lenTo ts (k + 1) = lenTo ts k + u.length := by rw [← hu.out]; rfl
        show _ = _
        omega
      clear hkept
      go_wp2_with fail
      refine (laws_markNoteS O (by omega) (by omega)).mono ?_
      rintro e1 wq ⟨rfl, O', hq'⟩
      have HO := Lib.hid O'; have HQ := Lib.hid hq'
      clear O' O hq'
      go_wp2
      go_roundw
      case rel =>
        have f0 := f_mono HF.out (Nat.zero_le k)
        have f1 := f_mono HF.out (show k + 1 ≤ ts.length by omega)
        have fk := HF.out k
        refine ⟨k + 1, by omega, by go_num, by rw [HN.out], fun j hj1 hj2 => ?_, HK.out.trans ⟨HQ.out.os, HQ.out.tape, HQ.out.output, HQ.out.size, fun i hi ho => HQ.out.block i hi (by omega)⟩⟩
        obtain ⟨C, dc, k1, k2⟩ := hin.out j (by omega) hj2
        have f2 := f_mono HF.out hj1
        exact ⟨C, dc, (HQ.out.cell (p := ⟨b, j, none⟩) (by simp only; omega) (by simp only; omega)).trans k1, k2.kept HQ.out (.inr (by omega))⟩
      case measure => simp [intOf]; omega
    · obtain rfl : k = ts.length := by omega
      go_wp2
      go_ret
      exact ⟨rfl, hkept⟩
end Go.Proofs.Ytpffdabpmfmimaa
