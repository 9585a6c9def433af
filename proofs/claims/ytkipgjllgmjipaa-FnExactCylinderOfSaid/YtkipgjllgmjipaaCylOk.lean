/- What CylinderOk answers: the reference's and the program's. -/
import Derived.Test.YtkipgjllgmjipaaCyl
import Derived.Test.YtkipgjllgmjipaaBase2
namespace Go.Proofs.Ytkipgjllgmjipaa
open Go.RowKit

/-! ## Plain notions: a pin is (track, angle) -/
def cylAt (s t : Int) (l : List (Int × Int)) (k : Nat) : Bool :=
  inR (l.getD k (0, 0)).1 0 (t - 1) && inR (l.getD k (0, 0)).2 0 (s - 1) && (k == 0 || less2 (l.getD (k - 1) (0, 0)).2 (l.getD (k - 1) (0, 0)).1 (l.getD k (0, 0)).2 (l.getD k (0, 0)).1)
def cylOk (s t : Int) (l : List (Int × Int)) : Bool := inR s 4 96 && (inR t 1 100 && (decide (l.length ≤ 100) && (List.range l.length).all (cylAt s t l)))
section
variable {s t : Int} {l : List (Int × Int)} {k : Nat} {x y x' y' : Int}
theorem cylOk_s (g : inR s 4 96 = false) : cylOk s t l = false := by unfold cylOk; rw [g, Bool.false_and]
theorem cylOk_t (g : inR t 1 100 = false) : cylOk s t l = false := by unfold cylOk; rw [g, Bool.false_and, Bool.and_false]
theorem cylOk_long (h : 100 < l.length) : cylOk s t l = false := by unfold cylOk; rw [decide_eq_false (by omega), Bool.false_and, Bool.and_false, Bool.and_false]
theorem cylOk_no (hk : k < l.length) (h : cylAt s t l k = false) : cylOk s t l = false := by
  have : (List.range l.length).all (cylAt s t l) = false := by
    rw [List.all_eq_false]; exact ⟨k, List.mem_range.2 hk, by rw [h]; exact Bool.false_ne_true⟩
  unfold cylOk; rw [this]; simp
theorem cylOk_all (g1 : inR s 4 96 = true) (g2 : inR t 1 100 = true) (g3 : l.length ≤ 100) (hk : l.length ≤ k) (h : Hid (∀ j, j < k → cylAt s t l j = true)) : cylOk s t l = true := by
  have : (List.range l.length).all (cylAt s t l) = true := by
    rw [List.all_eq_true]; intro j hj; exact h.out j (by have := List.mem_range.1 hj; omega)
  unfold cylOk; rw [this, g1, g2, decide_eq_true g3]; rfl
theorem cylOk_parts (h : cylOk s t l = true) : (4 ≤ s ∧ s ≤ 96) ∧ (1 ≤ t ∧ t ≤ 100) ∧ l.length ≤ 100 ∧ ∀ j, j < l.length → cylAt s t l j = true := by
  unfold cylOk at h
  simp only [Bool.and_eq_true, decide_eq_true_eq, List.all_eq_true, List.mem_range] at h
  exact ⟨inR_true h.1, inR_true h.2.1, h.2.2.1, h.2.2.2⟩
theorem cylAt_parts (h : cylAt s t l k = true) : inR (l.getD k (0, 0)).1 0 (t - 1) = true ∧ inR (l.getD k (0, 0)).2 0 (s - 1) = true := by
  unfold cylAt at h
  simp only [Bool.and_eq_true] at h
  exact h.1
/-- The numbers of pin k of a good cylinder. -/
theorem cylOk_pin (h : cylOk s t l = true) (hk : k < l.length) (e : Hid (l.getD k (0, 0) = (x, y))) : 0 ≤ x ∧ x ≤ 99 ∧ 0 ≤ y ∧ y ≤ s - 1 := by
  obtain ⟨h1, h2, _, h3⟩ := cylOk_parts h
  obtain ⟨h4, h5⟩ := cylAt_parts (h3 k hk)
  rw [e.out] at h4 h5
  have := inR_true h4; have := inR_true h5
  simp only at *
  omega
theorem cylAt_track (e : Hid (l.getD k (0, 0) = (x, y))) (g : inR x 0 (t - 1) = false) : cylAt s t l k = false := by unfold cylAt; rw [e.out]; simp [g]
theorem cylAt_angle (e : Hid (l.getD k (0, 0) = (x, y))) (g : inR y 0 (s - 1) = false) : cylAt s t l k = false := by unfold cylAt; rw [e.out]; simp [g]
theorem cylAt_next (hk : 0 < k) (e : Hid (l.getD k (0, 0) = (x, y))) (e' : Hid (l.getD (k - 1) (0, 0) = (x', y'))) (g1 : inR x 0 (t - 1) = true) (g2 : inR y 0 (s - 1) = true) : cylAt s t l k = less2 y' x' y x := by
  unfold cylAt; rw [e.out, e'.out]; simp [g1, g2]; omega
theorem cylAt_first (hk : ¬ 0 < k) (e : Hid (l.getD k (0, 0) = (x, y))) (g1 : inR x 0 (t - 1) = true) (g2 : inR y 0 (s - 1) = true) : cylAt s t l k = true := by
  unfold cylAt; rw [e.out]; simp [g1, g2]; omega
end

/-! ## The walks -/
theorem spec_l06Less {a b c d : Int} {w : World} : Calls Try.prog 97 #[.agg #[.int .i64 b, .int .i64 a], .agg #[.int .i64 d, .int .i64 c]] w fun e w' => e = .returned (.bool (less2 a b c d)) ∧ Below w.heap.size w w' := by
  rcases Int.lt_trichotomy a c with h | h | h
  · go_enter Try.func97, Try.ntmps97
    go_wp2
    go_ret
    exact ⟨ret_bool (by simp [less2, h]), bnew (bnew (Below.refl _ _) _) _⟩
  · subst h
    go_enter Try.func97, Try.ntmps97
    go_wp2
    go_ret
    exact ⟨ret_bool (by simp [less2]), bnew (bnew (Below.refl _ _) _) _⟩
  · go_enter Try.func97, Try.ntmps97
    go_wp2
    go_ret
    exact ⟨ret_bool (by simp [less2]; omega), bnew (bnew (Below.refl _ _) _) _⟩
theorem impl_comparePins {a b c d : Int} {w : World} : Calls Try.prog 99 #[.agg #[.int .i64 b, .int .i64 a], .agg #[.int .i64 d, .int .i64 c]] w fun e w' => e = .returned (.int .i64 (comp2 a b c d)) ∧ Below w.heap.size w w' := by
  go_enter Try.func99, Try.ntmps99
  go_wp2
  all_goals
    go_ret
    exact ⟨ret_int (by simp only [comp2, less2, decide_eq_true_eq]; first | (rw [if_pos (by omega)]; done) | (rw [if_neg (by omega), if_pos (by omega)]; done) | rw [if_neg (by omega), if_neg (by omega)]), bnew (bnew (Below.refl _ _) _) _⟩
set_option maxHeartbeats 1000000 in
theorem spec_CylinderOk {s t : Int} {l : List (Int × Int)} {A : Option Addr} {c : Nat} {w : World} (h : RP w A l) :
    Calls Try.prog 78 #[.agg #[.int .i64 s, .int .i64 t, .slice A l.length c]] w fun e w' => e = .returned (.bool (cylOk s t l)) ∧ Below w.heap.size w w' := by
  obtain ⟨hn, hA⟩ := h
  have HA := Lib.hid hA; clear hA
  cases g1 : inR s 4 96
  · go_enter Try.func78, Try.ntmps78
    go_wp2_with (go_at_call 57; refine (spec_l01In).mono ?_; rintro e w' ⟨rfl, rfl⟩)
    go_ret
    exact ⟨ret_bool (cylOk_s g1).symm, bnew (Below.refl _ _) _⟩
  cases g2 : inR t 1 100
  · go_enter Try.func78, Try.ntmps78
    go_wp2_with (go_at_call 57; refine (spec_l01In).mono ?_; rintro e w' ⟨rfl, rfl⟩)
    go_ret
    exact ⟨ret_bool (cylOk_t g2).symm, bnew (Below.refl _ _) _⟩
  obtain ⟨s1, s2⟩ := inR_true g1
  obtain ⟨t1, t2⟩ := inR_true g2
  by_cases h100 : 100 < l.length
  · go_enter Try.func78, Try.ntmps78
    go_wp2_with (go_at_call 57; refine (spec_l01In).mono ?_; rintro e w' ⟨rfl, rfl⟩)
    go_ret
    exact ⟨ret_bool (cylOk_long h100).symm, bnew (Below.refl _ _) _⟩
  have hfin : Hid (∀ k, l.length ≤ k → Hid (∀ j, j < k → cylAt s t l j = true) → cylOk s t l = true) := fun k hk h => cylOk_all g1 g2 (by omega) hk h
  go_enter Try.func78, Try.ntmps78
  go_wp2_with (go_at_call 57; refine (spec_l01In).mono ?_; rintro e w' ⟨rfl, rfl⟩)
  generalize hW : World.alloc w _ = W1
  obtain ⟨hb1, _, m0, m1, m2⟩ := new3c hW
  clear hW
  have M0 := Lib.hid m0; have M1 := Lib.hid m1; have M2 := Lib.hid m2
  clear m0 m1 m2
  go_loopw [3] (fun i wr => ∃ k : Nat, k ≤ l.length ∧ i = .int .i64 k ∧ Hid (∀ j, j < k → cylAt s t l j = true) ∧ Below W1.heap.size W1 wr) (fun i _ => l.length - (intOf i).toNat)
  case atStart => exact ⟨0, Nat.zero_le _, rfl, fun j hj => absurd hj (by omega), Below.refl _ _⟩
  case round =>
    obtain ⟨k, hk, rfl, hok, hbel⟩ := hrel
    have x2 := cell_later M2.out hbel
    by_cases hlt : k < l.length
    · obtain ⟨b, off, rfl, hP⟩ := HA.out (by omega)
      have HP := Lib.hid (hP.below hb1); clear hP
      obtain ⟨x, y, e1⟩ := pair_of l k
      have c1 := HP.out.c1 hbel hlt e1
      have c2 := HP.out.c2 hbel hlt e1
      go_wp2_with fail
      generalize hW : World.alloc wr _ = W2
      obtain ⟨hb2, _, n1, n2⟩ := new2 hW
      clear hW c1 c2 x2
      replace hbel := bthen hbel hb2
      clear hb2
      have x0 := cell_after M0.out hbel
      have x1 := cell_after M1.out hbel
      have x2 := cell_after M2.out hbel
      cases g3 : inR x 0 (t - 1)
      · refine wp_region_after (by kernel_rfl) (by kernel_rfl) ?_
        repeat (go_big_quiet_step (first | (go_at_call 57; exact Calls.after_of_same (spec_l01In)) | (go_at_call 97; exact Calls.after_of (spec_l06Less))))
        refine wpQuiet_nil ?_
        rintro _ ⟨⟨wq, hq⟩, rfl⟩
        replace hbel := bthen hbel hq
        clear hq
        go_wp2
        go_ret
        exact ⟨ret_bool (cylOk_no hlt (cylAt_track e1 g3)).symm, bthen hb1 hbel⟩
      cases g4 : inR y 0 (s - 1)
      · refine wp_region_after (by kernel_rfl) (by kernel_rfl) ?_
        repeat (go_big_quiet_step (first | (go_at_call 57; exact Calls.after_of_same (spec_l01In)) | (go_at_call 97; exact Calls.after_of (spec_l06Less))))
        refine wpQuiet_nil ?_
        rintro _ ⟨⟨wq, hq⟩, rfl⟩
        replace hbel := bthen hbel hq
        clear hq
        go_wp2
        go_ret
        exact ⟨ret_bool (cylOk_no hlt (cylAt_angle e1 g4)).symm, bthen hb1 hbel⟩
      by_cases hk0 : 0 < k
      · obtain ⟨x', y', e2⟩ := pair_of l (k - 1)
        have d1 := HP.out.a1 hbel (by omega) e2
        have d2 := HP.out.a2 hbel (by omega) e2
        have hnx := Lib.hid (cylAt_next (s := s) (t := t) hk0 e1 e2 g3 g4)
        cases g5 : less2 y' x' y x
        · refine wp_region_after (by kernel_rfl) (by kernel_rfl) ?_
          repeat (go_big_quiet_step (first | (go_at_call 57; exact Calls.after_of_same (spec_l01In)) | (go_at_call 97; exact Calls.after_of (spec_l06Less))))
          refine wpQuiet_nil ?_
          rintro _ ⟨⟨wq, hq⟩, rfl⟩
          replace hbel := bthen hbel hq
          clear hq
          go_wp2
          go_ret
          exact ⟨ret_bool (cylOk_no hlt (hnx.out.trans g5)).symm, bthen hb1 hbel⟩
        · refine wp_region_after (by kernel_rfl) (by kernel_rfl) ?_
          repeat (go_big_quiet_step (first | (go_at_call 57; exact Calls.after_of_same (spec_l01In)) | (go_at_call 97; exact Calls.after_of (spec_l06Less))))
          refine wpQuiet_nil ?_
          rintro _ ⟨⟨wq, hq⟩, rfl⟩
          replace hbel := bthen hbel hq
          clear hq
          go_wp2
          go_roundw
          case rel => exact ⟨k + 1, by omega, by go_num, all_next hok (hnx.out.trans g5), hbel⟩
          case measure => simp [intOf]; omega
      · have hkz : decide ((0 : Int) < (k : Int)) = false := by simp; omega
        refine wp_region_after (by kernel_rfl) (by kernel_rfl) ?_
        repeat (go_big_quiet_step (first | (go_at_call 57; exact Calls.after_of_same (spec_l01In)) | (go_at_call 97; exact Calls.after_of (spec_l06Less))))
        refine wpQuiet_nil ?_
        rintro _ ⟨⟨wq, hq⟩, rfl⟩
        replace hbel := bthen hbel hq
        clear hq
        go_wp2
        go_roundw
        case rel => exact ⟨k + 1, by omega, by go_num, all_next hok (cylAt_first hk0 e1 g3 g4), hbel⟩
        case measure => simp [intOf]; omega
    · have hf := Lib.hid (hfin.out k (by omega) hok)
      go_wp2
      go_ret
      exact ⟨ret_bool hf.out.symm, bthen hb1 hbel⟩
set_option maxHeartbeats 1000000 in
theorem impl_CylinderOk {s t : Int} {l : List (Int × Int)} {A : Option Addr} {c : Nat} {w : World} (h : RP w A l) :
    Calls Try.prog 84 #[.agg #[.int .i64 s, .int .i64 t, .slice A l.length c]] w fun e w' => e = .returned (.bool (cylOk s t l)) ∧ Below w.heap.size w w' := by
  obtain ⟨hn, hA⟩ := h
  have HA := Lib.hid hA; clear hA
  cases g1 : inR s 4 96
  · go_enter Try.func84, Try.ntmps84
    go_wp2_with (go_at_call 61; refine (impl_within).mono ?_; rintro e w' ⟨rfl, rfl⟩)
    go_ret
    exact ⟨ret_bool (cylOk_s g1).symm, bnew (Below.refl _ _) _⟩
  cases g2 : inR t 1 100
  · go_enter Try.func84, Try.ntmps84
    go_wp2_with (go_at_call 61; refine (impl_within).mono ?_; rintro e w' ⟨rfl, rfl⟩)
    go_ret
    exact ⟨ret_bool (cylOk_t g2).symm, bnew (Below.refl _ _) _⟩
  obtain ⟨s1, s2⟩ := inR_true g1
  obtain ⟨t1, t2⟩ := inR_true g2
  by_cases h100 : 100 < l.length
  · go_enter Try.func84, Try.ntmps84
    go_wp2_with (go_at_call 61; refine (impl_within).mono ?_; rintro e w' ⟨rfl, rfl⟩)
    go_ret
    exact ⟨ret_bool (cylOk_long h100).symm, bnew (Below.refl _ _) _⟩
  have hfin : Hid (∀ k, l.length ≤ k → Hid (∀ j, j < k → cylAt s t l j = true) → cylOk s t l = true) := fun k hk h => cylOk_all g1 g2 (by omega) hk h
  go_enter Try.func84, Try.ntmps84
  go_wp2_with (go_at_call 61; refine (impl_within).mono ?_; rintro e w' ⟨rfl, rfl⟩)
  generalize hW : World.alloc w _ = W1
  obtain ⟨hb1, _, m0, m1, m2⟩ := new3c hW
  clear hW
  have M0 := Lib.hid m0; have M1 := Lib.hid m1; have M2 := Lib.hid m2
  clear m0 m1 m2
  go_loopw [24] (fun i wr => ∃ k : Nat, k ≤ l.length ∧ i = .int .i64 k ∧ Hid (∀ j, j < k → cylAt s t l j = true) ∧ Below W1.heap.size W1 wr) (fun i _ => l.length - (intOf i).toNat)
  case atStart => exact ⟨0, Nat.zero_le _, rfl, fun j hj => absurd hj (by omega), Below.refl _ _⟩
  case round =>
    obtain ⟨k, hk, rfl, hok, hbel⟩ := hrel
    by_cases hlt : k < l.length
    · obtain ⟨b, off, rfl, hP⟩ := HA.out (by omega)
      have HP := Lib.hid (hP.below hb1); clear hP
      obtain ⟨x, y, e1⟩ := pair_of l k
      have c1 := HP.out.c1 hbel hlt e1
      have c2 := HP.out.c2 hbel hlt e1
      have x0 := cell_later M0.out (bnew hbel (.cells #[.int .i64 x, .int .i64 y] 63))
      have x1 := cell_later M1.out (bnew hbel (.cells #[.int .i64 x, .int .i64 y] 63))
      cases g3 : inR x 0 (t - 1)
      · go_wp2_with (go_at_call 61; refine (impl_within).mono ?_; rintro e w' ⟨rfl, rfl⟩)
        go_ret
        exact ⟨ret_bool (cylOk_no hlt (cylAt_track e1 g3)).symm, bnew (bthen hb1 hbel) _⟩
      cases g4 : inR y 0 (s - 1)
      · go_wp2_with (go_at_call 61; refine (impl_within).mono ?_; rintro e w' ⟨rfl, rfl⟩)
        go_ret
        exact ⟨ret_bool (cylOk_no hlt (cylAt_angle e1 g4)).symm, bnew (bthen hb1 hbel) _⟩
      go_wp2_with (go_at_call 61; refine (impl_within).mono ?_; rintro e w' ⟨rfl, rfl⟩)
      generalize hW : World.alloc wr _ = W2
      obtain ⟨hb2, _, n1, n2⟩ := new2 hW
      clear hW c1 c2 x0 x1
      replace hbel := bthen hbel hb2
      clear hb2
      have x2 := cell_after M2.out hbel
      by_cases hk0 : 0 < k
      · obtain ⟨x', y', e2⟩ := pair_of l (k - 1)
        have d1 := HP.out.a1 hbel (by omega) e2
        have d2 := HP.out.a2 hbel (by omega) e2
        have hnx := Lib.hid (cylAt_next (s := s) (t := t) hk0 e1 e2 g3 g4)
        cases g5 : less2 y' x' y x
        · have g6 := comp2_not g5
          refine wp_region_after (by kernel_rfl) (by kernel_rfl) ?_
          repeat (go_big_quiet_step (first | (go_at_call 61; exact Calls.after_of_same (impl_within)) | (go_at_call 99; exact Calls.after_of (impl_comparePins))))
          refine wpQuiet_nil ?_
          rintro _ ⟨⟨wq, hq⟩, rfl⟩
          replace hbel := bthen hbel hq
          clear hq
          go_wp2
          go_ret
          exact ⟨ret_bool (cylOk_no hlt (hnx.out.trans g5)).symm, bthen hb1 hbel⟩
        · have g6 := comp2_less g5
          refine wp_region_after (by kernel_rfl) (by kernel_rfl) ?_
          repeat (go_big_quiet_step (first | (go_at_call 61; exact Calls.after_of_same (impl_within)) | (go_at_call 99; exact Calls.after_of (impl_comparePins))))
          refine wpQuiet_nil ?_
          rintro _ ⟨⟨wq, hq⟩, rfl⟩
          replace hbel := bthen hbel hq
          clear hq
          go_wp2
          go_roundw
          case rel => exact ⟨k + 1, by omega, by go_num, all_next hok (hnx.out.trans g5), hbel⟩
          case measure => simp [intOf]; omega
      · have hkz : decide ((0 : Int) < (k : Int)) = false := by simp; omega
        refine wp_region_after (by kernel_rfl) (by kernel_rfl) ?_
        repeat (go_big_quiet_step (first | (go_at_call 61; exact Calls.after_of_same (impl_within)) | (go_at_call 99; exact Calls.after_of (impl_comparePins))))
        refine wpQuiet_nil ?_
        rintro _ ⟨⟨wq, hq⟩, rfl⟩
        replace hbel := bthen hbel hq
        clear hq
        go_wp2
        go_roundw
        case rel => exact ⟨k + 1, by omega, by go_num, all_next hok (cylAt_first hk0 e1 g3 g4), hbel⟩
        case measure => simp [intOf]; omega
    · have hf := Lib.hid (hfin.out k (by omega) hok)
      go_wp2
      go_ret
      exact ⟨ret_bool hf.out.symm, bthen hb1 hbel⟩
end Go.Proofs.Ytkipgjllgmjipaa
