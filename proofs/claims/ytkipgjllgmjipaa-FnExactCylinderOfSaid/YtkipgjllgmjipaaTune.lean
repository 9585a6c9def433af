/- The functions over tunes that only read: what TuneOk answers, and the law's own helpers that copy, compare, mark and look again at lists of notes. -/
import Derived.Test.YtkipgjllgmjipaaNum
namespace Go.Proofs.Ytkipgjllgmjipaa
open Go.RowKit

/-! ## Plain notions -/
def okAt (l : List (Int × Int)) (k : Nat) : Bool :=
  inR (l.getD k (0, 0)).1 0 1000 && inR (l.getD k (0, 0)).2 0 60 && (k == 0 || less2 (l.getD (k - 1) (0, 0)).1 (l.getD (k - 1) (0, 0)).2 (l.getD k (0, 0)).1 (l.getD k (0, 0)).2)
def tuneOk (l : List (Int × Int)) : Bool := decide (l.length ≤ 40) && (List.range l.length).all (okAt l)

theorem tuneOk_no {l : List (Int × Int)} {k : Nat} (hk : k < l.length) (h : okAt l k = false) : tuneOk l = false := by
  have : (List.range l.length).all (okAt l) = false := by
    rw [List.all_eq_false]; exact ⟨k, List.mem_range.2 hk, by rw [h]; exact Bool.false_ne_true⟩
  unfold tuneOk; rw [this, Bool.and_false]
theorem tuneOk_long {l : List (Int × Int)} (h : 40 < l.length) : tuneOk l = false := by
  unfold tuneOk; rw [decide_eq_false (by omega), Bool.false_and]
theorem tuneOk_all {l : List (Int × Int)} {k : Nat} (hk : l.length ≤ k) (h : Hid (∀ j, j < k → okAt l j = true)) : tuneOk l = decide (l.length ≤ 40) := by
  have : (List.range l.length).all (okAt l) = true := by
    rw [List.all_eq_true]; intro j hj; exact h.out j (by have := List.mem_range.1 hj; omega)
  unfold tuneOk; rw [this, Bool.and_true]
section
variable {l : List (Int × Int)} {k : Nat} {t u t' u' : Int}
theorem okAt_time (e : Hid (l.getD k (0, 0) = (t, u))) (g : inR t 0 1000 = false) : okAt l k = false := by unfold okAt; rw [e.out]; simp [g]
theorem okAt_pitch (e : Hid (l.getD k (0, 0) = (t, u))) (g : inR u 0 60 = false) : okAt l k = false := by unfold okAt; rw [e.out]; simp [g]
theorem okAt_next (hk : 0 < k) (e : Hid (l.getD k (0, 0) = (t, u))) (e' : Hid (l.getD (k - 1) (0, 0) = (t', u'))) (g1 : inR t 0 1000 = true) (g2 : inR u 0 60 = true) : okAt l k = less2 t' u' t u := by
  unfold okAt; rw [e.out, e'.out]; simp [g1, g2]; omega
theorem okAt_first (hk : ¬ 0 < k) (e : Hid (l.getD k (0, 0) = (t, u))) (g1 : inR t 0 1000 = true) (g2 : inR u 0 60 = true) : okAt l k = true := by
  unfold okAt; rw [e.out]; simp [g1, g2]; omega
theorem all_next {p : Nat → Bool} (h : Hid (∀ j, j < k → p j = true)) (hk : p k = true) : Hid (∀ j, j < k + 1 → p j = true) := fun j hj => by
  rcases Nat.lt_or_ge j k with hlt | hge
  · exact h.out j hlt
  · have : j = k := by omega
    subst this; exact hk
end

/-! ## The walks -/
set_option maxHeartbeats 400000 in
theorem spec_TuneOk {l : List (Int × Int)} {A : Option Addr} {c : Nat} {w : World} (h : RP w A l) :
    Calls Try.prog 65 #[.slice A l.length c] w fun e w' => e = .returned (.bool (tuneOk l)) ∧ Below w.heap.size w w' := by
  obtain ⟨hn, hA⟩ := h
  have HA := Lib.hid hA; clear hA
  go_enter Try.func65, Try.ntmps65
  go_wp2
  go_loopw [3] (fun i wr => ∃ k : Nat, k ≤ l.length ∧ i = .int .i64 k ∧ Hid (∀ j, j < k → okAt l j = true) ∧ Below w.heap.size w wr) (fun i _ => l.length - (intOf i).toNat)
  case atStart => exact ⟨0, Nat.zero_le _, rfl, fun j hj => absurd hj (by omega), Below.refl _ _⟩
  case round =>
    obtain ⟨k, hk, rfl, hok, hbel⟩ := hrel
    by_cases hlt : k < l.length
    · obtain ⟨b, off, rfl, hP⟩ := HA.out (by omega)
      have HP := Lib.hid hP; clear hP
      obtain ⟨t, u, e1⟩ := pair_of l k
      have c1 := HP.out.a1 hbel hlt e1
      have c2 := HP.out.a2 hbel hlt e1
      cases g1 : inR t 0 1000
      · go_wp2_with fail
        refine wp_region_after (by kernel_rfl) (by kernel_rfl) ?_
        repeat (go_big_quiet_step (first | (go_at_call 57; exact Calls.after_of_same (spec_l01In)) | (go_at_call 54; exact Calls.after_of (spec_l02Less))))
        refine wpQuiet_nil ?_
        rintro _ ⟨⟨wq, hq⟩, rfl⟩
        replace hbel := bthen hbel hq
        clear hq
        go_wp2
        go_ret
        exact ⟨ret_bool (tuneOk_no hlt (okAt_time e1 g1)).symm, hbel⟩
      cases g2 : inR u 0 60
      · go_wp2_with fail
        refine wp_region_after (by kernel_rfl) (by kernel_rfl) ?_
        repeat (go_big_quiet_step (first | (go_at_call 57; exact Calls.after_of_same (spec_l01In)) | (go_at_call 54; exact Calls.after_of (spec_l02Less))))
        refine wpQuiet_nil ?_
        rintro _ ⟨⟨wq, hq⟩, rfl⟩
        replace hbel := bthen hbel hq
        clear hq
        go_wp2
        go_ret
        exact ⟨ret_bool (tuneOk_no hlt (okAt_pitch e1 g2)).symm, hbel⟩
      by_cases hk0 : 0 < k
      · obtain ⟨t', u', e2⟩ := pair_of l (k - 1)
        have d1 := HP.out.a1 hbel (by omega) e2
        have d2 := HP.out.a2 hbel (by omega) e2
        have hnx := Lib.hid (okAt_next hk0 e1 e2 g1 g2)
        cases g3 : less2 t' u' t u
        · go_wp2_with fail
          refine wp_region_after (by kernel_rfl) (by kernel_rfl) ?_
          repeat (go_big_quiet_step (first | (go_at_call 57; exact Calls.after_of_same (spec_l01In)) | (go_at_call 54; exact Calls.after_of (spec_l02Less))))
          refine wpQuiet_nil ?_
          rintro _ ⟨⟨wq, hq⟩, rfl⟩
          replace hbel := bthen hbel hq
          clear hq
          go_wp2
          go_ret
          exact ⟨ret_bool (tuneOk_no hlt (hnx.out.trans g3)).symm, hbel⟩
        · go_wp2_with fail
          refine wp_region_after (by kernel_rfl) (by kernel_rfl) ?_
          repeat (go_big_quiet_step (first | (go_at_call 57; exact Calls.after_of_same (spec_l01In)) | (go_at_call 54; exact Calls.after_of (spec_l02Less))))
          refine wpQuiet_nil ?_
          rintro _ ⟨⟨wq, hq⟩, rfl⟩
          replace hbel := bthen hbel hq
          clear hq
          go_wp2
          go_roundw
          case rel => exact ⟨k + 1, by omega, by go_num, all_next hok (hnx.out.trans g3), hbel⟩
          case measure => simp [intOf]; omega
      · have hkz : decide ((0 : Int) < (k : Int)) = false := by simp; omega
        go_wp2_with fail
        refine wp_region_after (by kernel_rfl) (by kernel_rfl) ?_
        repeat (go_big_quiet_step (first | (go_at_call 57; exact Calls.after_of_same (spec_l01In)) | (go_at_call 54; exact Calls.after_of (spec_l02Less))))
        refine wpQuiet_nil ?_
        rintro _ ⟨⟨wq, hq⟩, rfl⟩
        replace hbel := bthen hbel hq
        clear hq
        go_wp2
        go_roundw
        case rel => exact ⟨k + 1, by omega, by go_num, all_next hok (okAt_first hk0 e1 g1 g2), hbel⟩
        case measure => simp [intOf]; omega
    · have hfin := Lib.hid (tuneOk_all (Nat.le_of_not_lt hlt) hok)
      go_wp2
      go_ret
      exact ⟨ret_bool (by rw [hfin.out]; simp; omega), hbel⟩
set_option maxHeartbeats 400000 in
theorem impl_TuneOk {l : List (Int × Int)} {A : Option Addr} {c : Nat} {w : World} (h : RP w A l) :
    Calls Try.prog 66 #[.slice A l.length c] w fun e w' => e = .returned (.bool (tuneOk l)) ∧ Below w.heap.size w w' := by
  obtain ⟨hn, hA⟩ := h
  have HA := Lib.hid hA; clear hA
  by_cases h40 : 40 < l.length
  · go_enter Try.func66, Try.ntmps66
    go_wp2
    go_ret
    exact ⟨ret_bool (tuneOk_long h40).symm, Below.refl _ _⟩
  go_enter Try.func66, Try.ntmps66
  go_wp2
  go_loopw [10] (fun i wr => ∃ k : Nat, k ≤ l.length ∧ i = .int .i64 k ∧ Hid (∀ j, j < k → okAt l j = true) ∧ Below w.heap.size w wr) (fun i _ => l.length - (intOf i).toNat)
  case atStart => exact ⟨0, Nat.zero_le _, rfl, fun j hj => absurd hj (by omega), Below.refl _ _⟩
  case round =>
    obtain ⟨k, hk, rfl, hok, hbel⟩ := hrel
    by_cases hlt : k < l.length
    · obtain ⟨b, off, rfl, hP⟩ := HA.out (by omega)
      have HP := Lib.hid hP; clear hP
      obtain ⟨t, u, e1⟩ := pair_of l k
      have c1 := HP.out.c1 hbel hlt e1
      have c2 := HP.out.c2 hbel hlt e1
      go_wp2_with fail
      generalize hW : World.alloc wr _ = W2
      obtain ⟨hb2, _, n1, n2⟩ := new2 hW
      clear hW c1 c2
      replace hbel := bthen hbel hb2
      clear hb2
      have c1 := HP.out.a1 hbel hlt e1
      have c2 := HP.out.a2 hbel hlt e1
      cases g1 : inR t 0 1000
      · refine wp_region_after (by kernel_rfl) (by kernel_rfl) ?_
        repeat (go_big_quiet_step (first | (go_at_call 61; exact Calls.after_of_same (impl_within)) | (go_at_call 92; exact Calls.after_of (impl_compareNotes))))
        refine wpQuiet_nil ?_
        rintro _ ⟨⟨wq, hq⟩, rfl⟩
        replace hbel := bthen hbel hq
        clear hq
        go_wp2
        go_ret
        exact ⟨ret_bool (tuneOk_no hlt (okAt_time e1 g1)).symm, hbel⟩
      cases g2 : inR u 0 60
      · refine wp_region_after (by kernel_rfl) (by kernel_rfl) ?_
        repeat (go_big_quiet_step (first | (go_at_call 61; exact Calls.after_of_same (impl_within)) | (go_at_call 92; exact Calls.after_of (impl_compareNotes))))
        refine wpQuiet_nil ?_
        rintro _ ⟨⟨wq, hq⟩, rfl⟩
        replace hbel := bthen hbel hq
        clear hq
        go_wp2
        go_ret
        exact ⟨ret_bool (tuneOk_no hlt (okAt_pitch e1 g2)).symm, hbel⟩
      by_cases hk0 : 0 < k
      · obtain ⟨t', u', e2⟩ := pair_of l (k - 1)
        have d1 := HP.out.a1 hbel (by omega) e2
        have d2 := HP.out.a2 hbel (by omega) e2
        have hnx := Lib.hid (okAt_next hk0 e1 e2 g1 g2)
        cases g3 : less2 t' u' t u
        · have g4 := comp2_not g3
          refine wp_region_after (by kernel_rfl) (by kernel_rfl) ?_
          repeat (go_big_quiet_step (first | (go_at_call 61; exact Calls.after_of_same (impl_within)) | (go_at_call 92; exact Calls.after_of (impl_compareNotes))))
          refine wpQuiet_nil ?_
          rintro _ ⟨⟨wq, hq⟩, rfl⟩
          replace hbel := bthen hbel hq
          clear hq
          go_wp2
          go_ret
          exact ⟨ret_bool (tuneOk_no hlt (hnx.out.trans g3)).symm, hbel⟩
        · have g4 := comp2_less g3
          refine wp_region_after (by kernel_rfl) (by kernel_rfl) ?_
          repeat (go_big_quiet_step (first | (go_at_call 61; exact Calls.after_of_same (impl_within)) | (go_at_call 92; exact Calls.after_of (impl_compareNotes))))
          refine wpQuiet_nil ?_
          rintro _ ⟨⟨wq, hq⟩, rfl⟩
          replace hbel := bthen hbel hq
          clear hq
          go_wp2
          go_roundw
          case rel => exact ⟨k + 1, by omega, by go_num, all_next hok (hnx.out.trans g3), hbel⟩
          case measure => simp [intOf]; omega
      · have hkz : decide ((0 : Int) < (k : Int)) = false := by simp; omega
        refine wp_region_after (by kernel_rfl) (by kernel_rfl) ?_
        repeat (go_big_quiet_step (first | (go_at_call 61; exact Calls.after_of_same (impl_within)) | (go_at_call 92; exact Calls.after_of (impl_compareNotes))))
        refine wpQuiet_nil ?_
        rintro _ ⟨⟨wq, hq⟩, rfl⟩
        replace hbel := bthen hbel hq
        clear hq
        go_wp2
        go_roundw
        case rel => exact ⟨k + 1, by omega, by go_num, all_next hok (okAt_first hk0 e1 g1 g2), hbel⟩
        case measure => simp [intOf]; omega
    · have hfin := Lib.hid (tuneOk_all (Nat.le_of_not_lt hlt) hok)
      go_wp2
      go_ret
      exact ⟨ret_bool (by rw [hfin.out]; simp; omega), hbel⟩
theorem laws_szNoteS_yes {A : Option Addr} {n c : Nat} {left : Int} {w : World} (h : (n : Int) ≤ left) (h2 : left ≤ 1048576) : Calls Try.prog 15 #[.slice A n c, .int .i64 left] w fun e w' => e = .returned (.int .i64 (left - n)) ∧ w = w' := by
  go_enter Try.func15, Try.ntmps15
  go_wp2
  go_ret
  exact ⟨rfl, rfl⟩
theorem laws_szNoteS_no {A : Option Addr} {n c : Nat} {left : Int} {w : World} (h : left < n) (h0 : 0 ≤ left) (h2 : left ≤ 1048576) (hm : n ≤ maxLen) : Calls Try.prog 15 #[.slice A n c, .int .i64 left] w fun e w' => e = .returned (.int .i64 (-1)) ∧ w = w' := by
  unfold maxLen at hm
  go_enter Try.func15, Try.ntmps15
  go_wp2
  go_ret
  exact ⟨rfl, rfl⟩
theorem laws_toNote {t u : Int} {w : World} : Calls Try.prog 35 #[.agg #[.int .i64 t, .int .i64 u]] w fun e w' => e = .returned (.agg #[.int .i64 t, .int .i64 u]) ∧ Below w.heap.size w w' := by
  go_enter Try.func35, Try.ntmps35
  go_wp2
  refine bodyPost_ret (v := .agg #[.int .i64 t, .int .i64 u]) (by simp [results, Try.results35, go_sem]) rfl ⟨rfl, ?_⟩
  exact bnew (bnew (bnew (Below.refl _ _) _) _) _
theorem laws_eqNote {a b c d : Int} {w : World} : Calls Try.prog 56 #[.agg #[.int .i64 a, .int .i64 b], .agg #[.int .i64 c, .int .i64 d]] w fun e w' => e = .returned (.bool (decide ((a, b) = (c, d)))) ∧ Below w.heap.size w w' := by
  by_cases h : a = c
  · subst h
    by_cases h : b = d
    · subst h
      go_enter Try.func56, Try.ntmps56
      go_wp2
      go_ret
      exact ⟨ret_bool (by simp), bnew (bnew (Below.refl _ _) _) _⟩
    · go_enter Try.func56, Try.ntmps56
      go_wp2
      go_ret
      exact ⟨ret_bool (by simp [h]), bnew (bnew (Below.refl _ _) _) _⟩
  · go_enter Try.func56, Try.ntmps56
    go_wp2
    go_ret
    exact ⟨ret_bool (by simp [h]), bnew (bnew (Below.refl _ _) _) _⟩
theorem laws_eqNoteS {l : List (Int × Int)} {A B : Option Addr} {c d : Nat} {w : World} (h1 : RP w A l) (h2 : RP w B l) :
    Calls Try.prog 19 #[.slice A l.length c, .slice B l.length d] w fun e w' => e = .returned (.bool true) ∧ Below w.heap.size w w' := by
  obtain ⟨hn, hA⟩ := h1
  obtain ⟨_, hB⟩ := h2
  have HA := Lib.hid hA; clear hA
  have HB := Lib.hid hB; clear hB
  go_enter Try.func19, Try.ntmps19
  go_wp2
  go_loopw [5] (fun i wr => ∃ k : Nat, k ≤ l.length ∧ i = .int .i64 k ∧ Below w.heap.size w wr) (fun i _ => l.length - (intOf i).toNat)
  case atStart => exact ⟨0, Nat.zero_le _, rfl, Below.refl _ _⟩
  case round =>
    obtain ⟨k, hk, rfl, hbel⟩ := hrel
    by_cases hlt : k < l.length
    · obtain ⟨b, off, rfl, hP⟩ := HA.out (by omega)
      obtain ⟨b', off', rfl, hP'⟩ := HB.out (by omega)
      obtain ⟨t, u, e1⟩ := pair_of l k
      have c1 := hP.a1 hbel hlt e1
      have c2 := hP.a2 hbel hlt e1
      have d1 := hP'.a1 hbel hlt e1
      have d2 := hP'.a2 hbel hlt e1
      clear hP hP'
      go_wp2_with fail
      refine wp_region_after (by kernel_rfl) (by kernel_rfl) ?_
      repeat (go_big_quiet_step (first | (go_at_call 56; exact Calls.after_of (laws_eqNote))))
      refine wpQuiet_nil ?_
      rintro _ ⟨⟨wq, hq⟩, rfl⟩
      replace hbel := bthen hbel hq
      clear hq
      go_wp2
      go_roundw
      case rel => exact ⟨k + 1, by omega, by go_num, hbel⟩
      case measure => simp [intOf]; omega
    · go_wp2
      go_ret
      exact ⟨rfl, hbel⟩
theorem laws_heldNoteS {q : Int} {n : Nat} {A : Option Addr} {c : Nat} {w : World} (h : RP w A (upP q n)) (hq : 0 ≤ q) (hq2 : q ≤ 1048576 * 1048576) :
    Calls Try.prog 21 #[.slice A n c, .int .i64 q] w fun e w' => e = .returned (.int .i64 (q + 2 * n)) ∧ Below w.heap.size w w' := by
  obtain ⟨hn, hA⟩ := h
  rw [length_upP] at hn hA
  have HA := Lib.hid hA; clear hA
  go_enter Try.func21, Try.ntmps21
  go_wp2
  go_loopw [1, 5] (fun v i wr => ∃ k : Nat, k ≤ n ∧ i = .int .i64 k ∧ v = .int .i64 (q + 2 * (k : Int)) ∧ Below w.heap.size w wr) (fun _ i _ => n - (intOf i).toNat)
  case atStart => exact ⟨0, Nat.zero_le _, rfl, by simp, Below.refl _ _⟩
  case round =>
    obtain ⟨k, hk, rfl, rfl, hbel⟩ := hrel
    by_cases hlt : k < n
    · obtain ⟨b, off, rfl, hP⟩ := HA.out (by omega)
      have e1 : Hid ((upP q n).getD k (0, 0) = (q + 2 * (k : Int), q + 2 * (k : Int) + 1)) := upP_at q n k hlt
      have c1 := hP.c1 hbel (by rw [length_upP]; exact hlt) e1
      have c2 := hP.c2 hbel (by rw [length_upP]; exact hlt) e1
      clear hP e1
      go_wp2
      go_roundw
      case rel => exact ⟨k + 1, by omega, by go_num, by go_num, hbel⟩
      case measure => simp [intOf]; omega
    · obtain rfl : k = n := by omega
      go_wp2
      go_ret
      exact ⟨rfl, hbel⟩
end Go.Proofs.Ytkipgjllgmjipaa
