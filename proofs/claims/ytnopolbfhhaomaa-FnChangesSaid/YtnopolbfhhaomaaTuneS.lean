/- PitchRange and SameTune: what they answer, and that the program's and the reference's functions answer it. -/
import Derived.Test.YtnopolbfhhaomaaTuneR
namespace Go.Proofs.Ytnopolbfhhaomaa
open Go.RowKit

/-! ## Plain notions -/
def lowTo (l : List (Int × Int)) : Nat → Int
  | 0 => (l.getD 0 (0, 0)).2
  | k + 1 => min (lowTo l k) (l.getD k (0, 0)).2
def highTo (l : List (Int × Int)) : Nat → Int
  | 0 => (l.getD 0 (0, 0)).2
  | k + 1 => max (highTo l k) (l.getD k (0, 0)).2
def lowM (l : List (Int × Int)) : Int := if tuneOk l = true ∧ 0 < l.length then lowTo l l.length else -1
def highM (l : List (Int × Int)) : Int := if tuneOk l = true ∧ 0 < l.length then highTo l l.length else -1
theorem range_no {l : List (Int × Int)} (h : ¬ (tuneOk l = true ∧ 0 < l.length)) : lowM l = -1 ∧ highM l = -1 := ⟨if_neg h, if_neg h⟩
theorem range_yes {l : List (Int × Int)} (h : tuneOk l = true) (h0 : 0 < l.length) : lowM l = lowTo l l.length ∧ highM l = highTo l l.length := ⟨if_pos ⟨h, h0⟩, if_pos ⟨h, h0⟩⟩
def sameAt (a b : List (Int × Int)) (k : Nat) : Bool :=
  decide ((b.getD k (0, 0)).1 - (a.getD k (0, 0)).1 = (b.getD 0 (0, 0)).1 - (a.getD 0 (0, 0)).1 ∧ (b.getD k (0, 0)).2 - (a.getD k (0, 0)).2 = (b.getD 0 (0, 0)).2 - (a.getD 0 (0, 0)).2)
def sameTune (a b : List (Int × Int)) : Bool := tuneOk a && tuneOk b && decide (a.length = b.length) && (List.range a.length).all (sameAt a b)
theorem sameTune_no {a b : List (Int × Int)} {k : Nat} (hk : k < a.length) (h : sameAt a b k = false) : sameTune a b = false := by
  have : (List.range a.length).all (sameAt a b) = false := by
    rw [List.all_eq_false]; exact ⟨k, List.mem_range.2 hk, by rw [h]; exact Bool.false_ne_true⟩
  unfold sameTune; rw [this, Bool.and_false]
theorem sameTune_yes {a b : List (Int × Int)} (h1 : tuneOk a = true) (h2 : tuneOk b = true) (h3 : a.length = b.length) (h : ∀ j, j < a.length → sameAt a b j = true) : sameTune a b = true := by
  have : (List.range a.length).all (sameAt a b) = true := by
    rw [List.all_eq_true]; intro j hj; exact h j (List.mem_range.1 hj)
  unfold sameTune; rw [this, h1, h2, decide_eq_true h3]; rfl
theorem ret_ii {a b x y : Int} (h : a = b) (h2 : x = y) : Ending.returned (.tuple #[.int .i64 a, .int .i64 x]) = .returned (.tuple #[.int .i64 b, .int .i64 y]) := by rw [h, h2]
section
variable {a b : List (Int × Int)} {k : Nat} {t u t' u' t0 u0 t0' u0' : Int}
theorem sameAt_eq (e : Hid (a.getD k (0, 0) = (t, u))) (e' : Hid (b.getD k (0, 0) = (t', u'))) (f : Hid (a.getD 0 (0, 0) = (t0, u0))) (f' : Hid (b.getD 0 (0, 0) = (t0', u0'))) :
    sameAt a b k = decide (t' - t = t0' - t0 ∧ u' - u = u0' - u0) := by unfold sameAt; rw [e.out, e'.out, f.out, f'.out]
end

theorem same_start {a b : List (Int × Int)} : Hid (∀ j, j < 1 → j < a.length → sameAt a b j = true) := fun j hj _ => by
  have : j = 0 := by omega
  subst this
  simp [sameAt]
/-! ## The walks -/
set_option maxHeartbeats 400000 in
theorem impl_PitchRange {l : List (Int × Int)} {A : Option Addr} {c : Nat} {w : World} (h : RP w A l) :
    Calls Try.prog 24 #[.slice A l.length c] w fun e w' => e = .returned (.tuple #[.int .i64 (lowM l), .int .i64 (highM l)]) ∧ Below w.heap.size w w' := by
  have H := Lib.hid h
  obtain ⟨hn, hA⟩ := h
  have HA := Lib.hid hA; clear hA
  cases g : tuneOk l
  · have hT := Lib.hid (range_no (l := l) (by rw [g]; simp))
    go_enter Try.func24, Try.ntmps24
    go_wp2_with (go_at_call 21; refine (impl_TuneOk H.out).mono ?_; rintro e w1 ⟨rfl, hbel⟩)
    go_ret2
    exact ⟨ret_ii hT.out.1.symm hT.out.2.symm, hbel⟩
  by_cases h0 : l.length = 0
  · have hT := Lib.hid (range_no (l := l) (by rw [h0]; simp))
    have hs0 : ((l.length : Int) == 0) = true := by simp [h0]
    clear h0
    go_enter Try.func24, Try.ntmps24
    go_wp2_with (go_at_call 21; refine (impl_TuneOk H.out).mono ?_; rintro e w1 ⟨rfl, hbel⟩)
    go_ret2
    exact ⟨ret_ii hT.out.1.symm hT.out.2.symm, hbel⟩
  have hT := Lib.hid (range_yes g (by omega))
  have hs0 : ((l.length : Int) == 0) = false := beq_eq_false_iff_ne.2 (by omega)
  have k0 := Lib.hid (show 0 < l.length by omega)
  have k0' : (0 : Int) < (l.length : Int) := by omega
  obtain ⟨b, off, rfl, hP⟩ := HA.out k0.out
  have HP := Lib.hid hP; clear hP
  obtain ⟨t0, u0, e0⟩ := pair_of l 0
  clear h0
  go_enter Try.func24, Try.ntmps24
  go_wp2_with fail
  refine (impl_TuneOk H.out).mono ?_
  rintro e w1 ⟨rfl, hbel⟩
  have c1 := HP.out.z1 hbel k0.out e0
  have c2 := HP.out.z2 hbel k0.out e0
  go_wp2_with fail
  refine wp_region_after (by kernel_rfl) (by kernel_rfl) ?_
  repeat (go_big_quiet_step (fail))
  refine wpQuiet_nil ?_
  rintro _ ⟨⟨wq, hq⟩, rfl⟩
  replace hbel := bthen hbel hq
  clear hq
  go_wp2
  go_loopw [4, 5, 26] (fun a d i wr => ∃ k : Nat, k ≤ l.length ∧ i = .int .i64 k ∧ a = .int .i64 (lowTo l k) ∧ d = .int .i64 (highTo l k) ∧ Below w.heap.size w wr) (fun _ _ i _ => l.length - (intOf i).toNat)
  case atStart => exact ⟨0, Nat.zero_le _, rfl, by simp only [lowTo]; rw [e0.out], by simp only [highTo]; rw [e0.out], hbel⟩
  case round =>
    clear hbel c1 c2
    obtain ⟨k, hk, rfl, rfl, rfl, hbel⟩ := hrel
    by_cases hlt : k < l.length
    · obtain ⟨t, u, e1⟩ := pair_of l k
      have c1 := HP.out.c1 hbel hlt e1
      have c2 := HP.out.c2 hbel hlt e1
      have s1 : Hid (lowTo l (k + 1) = min (lowTo l k) u) := by simp only [Hid, lowTo]; rw [e1.out]
      have s2 : Hid (highTo l (k + 1) = max (highTo l k) u) := by simp only [Hid, highTo]; rw [e1.out]
      generalize hx : lowTo l k = x
      generalize hy : highTo l k = y
      rw [hx] at s1
      rw [hy] at s2
      clear hx hy
      go_wp2
      all_goals
        go_roundw
        case rel => exact ⟨k + 1, by omega, by go_num, by rw [s1.out]; congr 1; omega, by rw [s2.out]; congr 1; omega, bnew hbel _⟩
        case measure => simp [intOf]; omega
    · obtain rfl : k = l.length := by omega
      go_wp2
      go_ret2
      exact ⟨ret_ii hT.out.1.symm hT.out.2.symm, hbel⟩
set_option maxHeartbeats 1000000 in
theorem impl_SameTune {a b : List (Int × Int)} {A B : Option Addr} {c d : Nat} {w : World} (h1 : RP w A a) (h2 : RP w B b) :
    Calls Try.prog 14 #[.slice A a.length c, .slice B b.length d] w fun e w' => e = .returned (.bool (sameTune a b)) ∧ Below w.heap.size w w' := by
  have H1 := Lib.hid h1
  have H2 := Lib.hid h2
  obtain ⟨hn, hA⟩ := h1
  have HA := Lib.hid hA; clear hA
  obtain ⟨hn', hB⟩ := h2
  have HB := Lib.hid hB; clear hB
  cases g1 : tuneOk a
  · have hT : Hid (sameTune a b = false) := by simp [Hid, sameTune, g1]
    go_enter Try.func14, Try.ntmps14
    go_wp2_with (go_at_call 21; refine (impl_TuneOk H1.out).mono ?_; rintro e w1 ⟨rfl, hbel⟩)
    go_ret
    exact ⟨ret_bool hT.out.symm, hbel⟩
  cases g2 : tuneOk b
  · have hT : Hid (sameTune a b = false) := by simp [Hid, sameTune, g2]
    go_enter Try.func14, Try.ntmps14
    go_wp2_with fail
    refine (impl_TuneOk H1.out).mono ?_
    rintro e w1 ⟨rfl, hbel⟩
    go_wp2_with fail
    refine (impl_TuneOk (H2.out.below hbel)).mono ?_
    rintro e w2 ⟨rfl, hb2⟩
    replace hbel := bthen hbel hb2
    go_wp2
    go_ret
    exact ⟨ret_bool hT.out.symm, hbel⟩
  by_cases hl : a.length = b.length
  · have hs : ((a.length : Int) != (b.length : Int)) = false := by rw [bne_eq_false_iff_eq]; omega
    have HL := Lib.hid hl
    have HT := Lib.hid (fun (h : ∀ j, j < a.length → sameAt a b j = true) => sameTune_yes g1 g2 hl h)
    have hl1 : a.length ≤ b.length := by omega
    have hl2 : b.length ≤ a.length := by omega
    clear hl
    go_enter Try.func14, Try.ntmps14
    go_wp2_with fail
    refine (impl_TuneOk H1.out).mono ?_
    rintro e w1 ⟨rfl, hbel⟩
    go_wp2_with fail
    refine (impl_TuneOk (H2.out.below hbel)).mono ?_
    rintro e w2 ⟨rfl, hb2⟩
    replace hbel := bthen hbel hb2
    clear hb2
    go_wp2
    go_loopw [24] (fun i wr => ∃ k : Nat, k ≤ a.length ∧ i = .int .i64 k ∧ Hid (∀ j, j < k → sameAt a b j = true) ∧ Below w.heap.size w wr) (fun i _ => a.length - (intOf i).toNat)
    case atStart => exact ⟨0, Nat.zero_le _, rfl, fun j hj => absurd hj (by omega), hbel⟩
    case round =>
      clear hbel
      obtain ⟨k, hk, rfl, hok, hbel⟩ := hrel
      by_cases hlt : k < a.length
      · obtain ⟨x, off, rfl, hP⟩ := HA.out (by omega)
        have HP := Lib.hid hP; clear hP
        obtain ⟨x', off', rfl, hP'⟩ := HB.out (by omega)
        have HP' := Lib.hid hP'; clear hP'
        have hz := Lib.hid (show 0 < a.length by omega)
        have hz' := Lib.hid (show 0 < b.length by omega)
        have hlt' := Lib.hid (show k < b.length by omega)
        obtain ⟨t, u, e1⟩ := pair_of a k
        obtain ⟨t', u', e1'⟩ := pair_of b k
        obtain ⟨t0, u0, e0⟩ := pair_of a 0
        obtain ⟨t0', u0', e0'⟩ := pair_of b 0
        have hse := Lib.hid (sameAt_eq e1 e1' e0 e0')
        obtain ⟨⟨p1, p2⟩, p3, p4⟩ := tuneOk_range g1 hlt e1
        obtain ⟨⟨q1, q2⟩, q3, q4⟩ := tuneOk_range g2 hlt'.out e1'
        obtain ⟨⟨p5, p6⟩, p7, p8⟩ := tuneOk_range g1 hz.out e0
        obtain ⟨⟨q5, q6⟩, q7, q8⟩ := tuneOk_range g2 hz'.out e0'
        have c1 := HP.out.c1 hbel hlt e1
        have c2 := HP.out.c2 hbel hlt e1
        go_wp2_with fail
        generalize hW : World.alloc wr _ = W2
        obtain ⟨hb2, _, m1, m2⟩ := new2 hW
        clear hW c1 c2
        replace hbel := bthen hbel hb2
        clear hb2
        have d1 := HP'.out.a1 hbel hlt'.out e1'
        have d2 := HP'.out.a2 hbel hlt'.out e1'
        have c3 := HP.out.z1 hbel hz.out e0
        have c4 := HP.out.z2 hbel hz.out e0
        have d3 := HP'.out.z1 hbel hz'.out e0'
        have d4 := HP'.out.z2 hbel hz'.out e0'
        have hz1 : (0 : Int) < (a.length : Int) := by omega
        have hz2 : (0 : Int) < (b.length : Int) := by omega
        have hz3 : (k : Int) < (b.length : Int) := by omega
        by_cases m1 : t' - t = t0' - t0
        · have n1 : (t' - t != t0' - t0) = false := by rw [bne_eq_false_iff_eq]; exact m1
          have m1' := Lib.hid m1; clear m1
          by_cases m2 : u' - u = u0' - u0
          · have n2 : (u' - u != u0' - u0) = false := by rw [bne_eq_false_iff_eq]; exact m2
            have m2' := Lib.hid m2; clear m2
            refine wp_region_after (by kernel_rfl) (by kernel_rfl) ?_
            repeat (go_big_quiet_step (fail))
            refine wpQuiet_nil ?_
            rintro _ ⟨⟨wq, hq⟩, rfl⟩
            replace hbel := bthen hbel hq
            clear hq
            go_wp2
            go_roundw
            case rel =>
              exact ⟨k + 1, by omega, by go_num, all_next hok (by rw [hse.out]; exact decide_eq_true ⟨m1'.out, m2'.out⟩), hbel⟩
            case measure => simp [intOf]; omega
          · have n2 : (u' - u != u0' - u0) = true := by rw [bne_iff_ne]; exact m2
            refine wp_region_after (by kernel_rfl) (by kernel_rfl) ?_
            repeat (go_big_quiet_step (fail))
            refine wpQuiet_nil ?_
            rintro _ ⟨⟨wq, hq⟩, rfl⟩
            replace hbel := bthen hbel hq
            clear hq
            go_wp2
            go_ret
            exact ⟨ret_bool (sameTune_no hlt (by rw [hse.out]; exact decide_eq_false (fun hh => m2 hh.2))).symm, hbel⟩
        · have n1 : (t' - t != t0' - t0) = true := by rw [bne_iff_ne]; exact m1
          refine wp_region_after (by kernel_rfl) (by kernel_rfl) ?_
          repeat (go_big_quiet_step (fail))
          refine wpQuiet_nil ?_
          rintro _ ⟨⟨wq, hq⟩, rfl⟩
          replace hbel := bthen hbel hq
          clear hq
          go_wp2
          go_ret
          exact ⟨ret_bool (sameTune_no hlt (by rw [hse.out]; exact decide_eq_false (fun hh => m1 hh.1))).symm, hbel⟩
      · go_wp2
        go_ret
        exact ⟨ret_bool (HT.out fun j hj => hok.out j (by omega)).symm, hbel⟩
  · have hs : ((a.length : Int) != (b.length : Int)) = true := by rw [bne_iff_ne]; omega
    have hT : Hid (sameTune a b = false) := by simp [Hid, sameTune, hl]
    clear hl
    go_enter Try.func14, Try.ntmps14
    go_wp2_with fail
    refine (impl_TuneOk H1.out).mono ?_
    rintro e w1 ⟨rfl, hbel⟩
    go_wp2_with fail
    refine (impl_TuneOk (H2.out.below hbel)).mono ?_
    rintro e w2 ⟨rfl, hb2⟩
    replace hbel := bthen hbel hb2
    go_wp2
    go_ret
    exact ⟨ret_bool hT.out.symm, hbel⟩
end Go.Proofs.Ytnopolbfhhaomaa
