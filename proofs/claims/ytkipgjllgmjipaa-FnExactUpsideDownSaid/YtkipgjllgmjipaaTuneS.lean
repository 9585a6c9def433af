/- PitchRange and SameTune: what they answer, and that the program's and the reference's functions answer it. -/
import Derived.Test.YtkipgjllgmjipaaTuneR
namespace Go.Proofs.Ytkipgjllgmjipaa
open Go.RowKit

/-! ## Plain notions -/
def lowTo (l : List (Int × Int)) : Nat → Int
  | 0 => (l.getD 0 (0, 0)).2
  | k + 1 => min (lowTo l k) (l.getD k (0, 0)).2
def highTo (l : List (Int × Int)) : Nat → Int
  | 0 => (l.getD 0 (0, 0)).2
  | k + 1 => max (highTo l k) (l.getD k (0, 0)).2
def lowM (l : List (Int × Int)) : Int := if tuneOk l = true ∧ 0 < l.length then lowTo l l.length else -1
def highM (l : List (Int × Int)) : Int := if tuneOk l = true ∧ 0 < l.length then highTo l l.length else -1
theorem range_no {l : List (Int × Int)} (h : ¬ (tuneOk l = true ∧ 0 < l.length)) : lowM l = -1 ∧ highM l = -1 := ⟨if_neg h, if_neg h⟩
theorem range_yes {l : List (Int × Int)} (h : tuneOk l = true) (h0 : 0 < l.length) : lowM l = lowTo l l.length ∧ highM l = highTo l l.length := ⟨if_pos ⟨h, h0⟩, if_pos ⟨h, h0⟩⟩
def sameAt (a b : List (Int × Int)) (k : Nat) : Bool :=
  decide ((b.getD k (0, 0)).1 - (a.getD k (0, 0)).1 = (b.getD 0 (0, 0)).1 - (a.getD 0 (0, 0)).1 ∧ (b.getD k (0, 0)).2 - (a.getD k (0, 0)).2 = (b.getD 0 (0, 0)).2 - (a.getD 0 (0, 0)).2)
def sameTune (a b : List (Int × Int)) : Bool := tuneOk a && tuneOk b && decide (a.length = b.length) && (List.range a.length).all (sameAt a b)
theorem sameTune_no {a b : List (Int × Int)} {k : Nat} (hk : k < a.length) (h : sameAt a b k = false) : sameTune a b = false := by
  have : (List.range a.length).all (sameAt a b) = false := by
    rw [List.all_eq_false]; exact ⟨k, List.mem_range.2 hk, by rw [h]; exact Bool.false_ne_true⟩
  unfold sameTune; rw [this, Bool.and_false]
theorem sameTune_yes {a b : List (Int × Int)} (h1 : tuneOk a = true) (h2 : tuneOk b = true) (h3 : a.length = b.length) (h : ∀ j, j < a.length → sameAt a b j = true) : sameTune a b = true := by
  have : (List.range a.length).all (sameAt a b) = true := by
    rw [List.all_eq_true]; intro j hj; exact h j (List.mem_range.1 hj)
  unfold sameTune; rw [this, h1, h2, decide_eq_true h3]; rfl
theorem ret_ii {a b x y : Int} (h : a = b) (h2 : x = y) : Ending.returned (.tuple #[.int .i64 a, .int .i64 x]) = .returned (.tuple #[.int .i64 b, .int .i64 y]) := by rw [h, h2]
section
variable {a b : List (Int × Int)} {k : Nat} {t u t' u' t0 u0 t0' u0' : Int}
theorem sameAt_eq (e : Hid (a.getD k (0, 0) = (t, u))) (e' : Hid (b.getD k (0, 0) = (t', u'))) (f : Hid (a.getD 0 (0, 0) = (t0, u0))) (f' : Hid (b.getD 0 (0, 0) = (t0', u0'))) :
    sameAt a b k = decide (t' - t = t0' - t0 ∧ u' - u = u0' - u0) := by unfold sameAt; rw [e.out, e'.out, f.out, f'.out]
end

theorem same_start {a b : List (Int × Int)} : Hid (∀ j, j < 1 → j < a.length → sameAt a b j = true) := fun j hj _ => by
  have : j = 0 := by omega
  subst this
  simp [sameAt]
/-! ## The walks -/
set_option maxHeartbeats 400000 in
theorem spec_PitchRange {l : List (Int × Int)} {A : Option Addr} {c : Nat} {w : World} (h : RP w A l) :
    Calls Try.prog 68 #[.slice A l.length c] w fun e w' => e = .returned (.tuple #[.int .i64 (lowM l), .int .i64 (highM l)]) ∧ Below w.heap.size w w' := by
  have H := Lib.hid h
  obtain ⟨hn, hA⟩ := h
  have HA := Lib.hid hA; clear hA
  cases g : tuneOk l
  · have hT := Lib.hid (range_no (l := l) (by rw [g]; simp))
    go_enter Try.func68, Try.ntmps68
    go_wp2_with (go_at_call 65; refine (spec_TuneOk H.out).mono ?_; rintro e w1 ⟨rfl, hbel⟩)
    go_ret2
    exact ⟨ret_ii hT.out.1.symm hT.out.2.symm, hbel⟩
  by_cases h0 : l.length = 0
  · have hT := Lib.hid (range_no (l := l) (by rw [h0]; simp))
    have hs0 : ((l.length : Int) == 0) = true := by simp [h0]
    clear h0
    go_enter Try.func68, Try.ntmps68
    go_wp2_with (go_at_call 65; refine (spec_TuneOk H.out).mono ?_; rintro e w1 ⟨rfl, hbel⟩)
    go_ret2
    exact ⟨ret_ii hT.out.1.symm hT.out.2.symm, hbel⟩
  have hT := Lib.hid (range_yes g (by omega))
  have hs0 : ((l.length : Int) == 0) = false := beq_eq_false_iff_ne.2 (by omega)
  have k0 := Lib.hid (show 0 < l.length by omega)
  obtain ⟨b, off, rfl, hP⟩ := HA.out k0.out
  have HP := Lib.hid hP; clear hP
  obtain ⟨t0, u0, e0⟩ := pair_of l 0
  clear h0
  go_enter Try.func68, Try.ntmps68
  go_wp2_with fail
  refine (spec_TuneOk H.out).mono ?_
  rintro e w1 ⟨rfl, hbel⟩
  have c1 := HP.out.w1 hbel k0.out e0
  have c2 := HP.out.w2 hbel k0.out e0
  go_wp2
  go_loopw [4, 5, 6] (fun a d i wr => ∃ k : Nat, k ≤ l.length ∧ i = .int .i64 k ∧ a = .int .i64 (lowTo l k) ∧ d = .int .i64 (highTo l k) ∧ Below w.heap.size w wr) (fun _ _ i _ => l.length - (intOf i).toNat)
  case atStart => exact ⟨0, Nat.zero_le _, rfl, by simp only [lowTo]; rw [e0.out], by simp only [highTo]; rw [e0.out], hbel⟩
  case round =>
    clear hbel c1 c2
    obtain ⟨k, hk, rfl, rfl, rfl, hbel⟩ := hrel
    by_cases hlt : k < l.length
    · obtain ⟨t, u, e1⟩ := pair_of l k
      have c1 := HP.out.c1 hbel hlt e1
      have c2 := HP.out.c2 hbel hlt e1
      have s1 : Hid (lowTo l (k + 1) = min (lowTo l k) u) := by simp only [Hid, lowTo]; rw [e1.out]
      have s2 : Hid (highTo l (k + 1) = max (highTo l k) u) := by simp only [Hid, highTo]; rw [e1.out]
      generalize hx : lowTo l k = x
      generalize hy : highTo l k = y
      rw [hx] at s1
      rw [hy] at s2
      clear hx hy
      go_wp2
      all_goals
        go_roundw
        case rel => exact ⟨k + 1, by omega, by go_num, by rw [s1.out]; congr 1; omega, by rw [s2.out]; congr 1; omega, hbel⟩
        case measure => simp [intOf]; omega
    · obtain rfl : k = l.length := by omega
      go_wp2
      go_ret2
      exact ⟨ret_ii hT.out.1.symm hT.out.2.symm, hbel⟩
set_option maxHeartbeats 400000 in
theorem impl_PitchRange {l : List (Int × Int)} {A : Option Addr} {c : Nat} {w : World} (h : RP w A l) :
    Calls Try.prog 69 #[.slice A l.length c] w fun e w' => e = .returned (.tuple #[.int .i64 (lowM l), .int .i64 (highM l)]) ∧ Below w.heap.size w w' := by
  have H := Lib.hid h
  obtain ⟨hn, hA⟩ := h
  have HA := Lib.hid hA; clear hA
  cases g : tuneOk l
  · have hT := Lib.hid (range_no (l := l) (by rw [g]; simp))
    go_enter Try.func69, Try.ntmps69
    go_wp2_with (go_at_call 66; refine (impl_TuneOk H.out).mono ?_; rintro e w1 ⟨rfl, hbel⟩)
    go_ret2
    exact ⟨ret_ii hT.out.1.symm hT.out.2.symm, hbel⟩
  by_cases h0 : l.length = 0
  · have hT := Lib.hid (range_no (l := l) (by rw [h0]; simp))
    have hs0 : ((l.length : Int) == 0) = true := by simp [h0]
    clear h0
    go_enter Try.func69, Try.ntmps69
    go_wp2_with (go_at_call 66; refine (impl_TuneOk H.out).mono ?_; rintro e w1 ⟨rfl, hbel⟩)
    go_ret2
    exact ⟨ret_ii hT.out.1.symm hT.out.2.symm, hbel⟩
  have hT := Lib.hid (range_yes g (by omega))
  have hs0 : ((l.length : Int) == 0) = false := beq_eq_false_iff_ne.2 (by omega)
  have k0 := Lib.hid (show 0 < l.length by omega)
  have k0' : (0 : Int) < (l.length : Int) := by omega
  obtain ⟨b, off, rfl, hP⟩ := HA.out k0.out
  have HP := Lib.hid hP; clear hP
  obtain ⟨t0, u0, e0⟩ := pair_of l 0
  clear h0
  go_enter Try.func69, Try.ntmps69
  go_wp2_with fail
  refine (impl_TuneOk H.out).mono ?_
  rintro e w1 ⟨rfl, hbel⟩
  have c1 := HP.out.z1 hbel k0.out e0
  have c2 := HP.out.z2 hbel k0.out e0
  go_wp2_with fail
  refine wp_region_after (by kernel_rfl) (by kernel_rfl) ?_
  repeat (go_big_quiet_step (fail))
  refine wpQuiet_nil ?_
  rintro _ ⟨⟨wq, hq⟩, rfl⟩
  replace hbel := bthen hbel hq
  clear hq
  go_wp2
  go_loopw [4, 5, 26] (fun a d i wr => ∃ k : Nat, k ≤ l.length ∧ i = .int .i64 k ∧ a = .int .i64 (lowTo l k) ∧ d = .int .i64 (highTo l k) ∧ Below w.heap.size w wr) (fun _ _ i _ => l.length - (intOf i).toNat)
  case atStart => exact ⟨0, Nat.zero_le _, rfl, by simp only [lowTo]; rw [e0.out], by simp only [highTo]; rw [e0.out], hbel⟩
  case round =>
    clear hbel c1 c2
    obtain ⟨k, hk, rfl, rfl, rfl, hbel⟩ := hrel
    by_cases hlt : k < l.length
    · obtain ⟨t, u, e1⟩ := pair_of l k
      have c1 := HP.out.c1 hbel hlt e1
      have c2 := HP.out.c2 hbel hlt e1
      have s1 : Hid (lowTo l (k + 1) = min (lowTo l k) u) := by simp only [Hid, lowTo]; rw [e1.out]
      have s2 : Hid (highTo l (k + 1) = max (highTo l k) u) := by simp only [Hid, highTo]; rw [e1.out]
      generalize hx : lowTo l k = x
      generalize hy : highTo l k = y
      rw [hx] at s1
      rw [hy] at s2
      clear hx hy
      go_wp2
      all_goals
        go_roundw
        case rel => exact ⟨k + 1, by omega, by go_num, by rw [s1.out]; congr 1; omega, by rw [s2.out]; congr 1; omega, bnew hbel _⟩
        case measure => simp [intOf]; omega
    · obtain rfl : k = l.length := by omega
      go_wp2
      go_ret2
      exact ⟨ret_ii hT.out.1.symm hT.out.2.symm, hbel⟩
end Go.Proofs.Ytkipgjllgmjipaa
