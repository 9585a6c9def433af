/- CombOk and TeethOf: what they answer, and that the program's and the reference's functions answer it. -/
import Derived.Test.YtkipgjllgmjipaaIntS
namespace Go.Proofs.Ytkipgjllgmjipaa
open Go.RowKit

/-! ## Plain notions -/
def combAt (l : List Int) (k : Nat) : Bool := inR (l.getD k 0) 0 60 && (k == 0 || decide (l.getD (k - 1) 0 ≤ l.getD k 0))
def combOk (l : List Int) : Bool := decide (1 ≤ l.length ∧ l.length ≤ 24) && (List.range l.length).all (combAt l)
theorem combOk_no {l : List Int} {k : Nat} (hk : k < l.length) (h : combAt l k = false) : combOk l = false := by
  have : (List.range l.length).all (combAt l) = false := by
    rw [List.all_eq_false]; exact ⟨k, List.mem_range.2 hk, by rw [h]; exact Bool.false_ne_true⟩
  unfold combOk; rw [this, Bool.and_false]
theorem combOk_len {l : List Int} (h : ¬ (1 ≤ l.length ∧ l.length ≤ 24)) : combOk l = false := by
  unfold combOk; rw [decide_eq_false h, Bool.false_and]
theorem combOk_all {l : List Int} {k : Nat} (hk : l.length ≤ k) (h : Hid (∀ j, j < k → combAt l j = true)) : combOk l = decide (1 ≤ l.length ∧ l.length ≤ 24) := by
  have : (List.range l.length).all (combAt l) = true := by
    rw [List.all_eq_true]; intro j hj; exact h.out j (by have := List.mem_range.1 hj; omega)
  unfold combOk; rw [this, Bool.and_true]
theorem combOk_length {l : List Int} (h : combOk l = true) : 1 ≤ l.length ∧ l.length ≤ 24 := by
  unfold combOk at h; simp at h; exact h.1
section
variable {l : List Int} {k : Nat} {t t' : Int}
theorem combAt_range (e : Hid (l.getD k 0 = t)) (g : inR t 0 60 = false) : combAt l k = false := by unfold combAt; rw [e.out]; simp [g]
theorem combAt_next (hk : 0 < k) (e : Hid (l.getD k 0 = t)) (e' : Hid (l.getD (k - 1) 0 = t')) (g1 : inR t 0 60 = true) : combAt l k = decide (t' ≤ t) := by
  unfold combAt; rw [e.out, e'.out, g1, beq_eq_false_iff_ne.2 (by omega)]; simp
theorem combAt_first (hk : ¬ 0 < k) (e : Hid (l.getD k 0 = t)) (g1 : inR t 0 60 = true) : combAt l k = true := by
  unfold combAt; rw [e.out]; simp [g1]; omega
theorem allB_next {p : Nat → Bool} (h : Hid (∀ j, j < k → p j = true)) (hk : p k = true) : Hid (∀ j, j < k + 1 → p j = true) := fun j hj => by
  rcases Nat.lt_or_ge j k with hlt | hge
  · exact h.out j hlt
  · have : j = k := by omega
    subst this; exact hk
end

/-- The places below k at which l holds p. -/
def placesTo (l : List Int) (p : Int) : Nat → List Int
  | 0 => []
  | k + 1 => placesTo l p k ++ if l.getD k 0 = p then [(k : Int)] else []
theorem placesTo_yes {l : List Int} {p : Int} {k : Nat} (h : l.getD k 0 = p) : placesTo l p (k + 1) = placesTo l p k ++ [(k : Int)] := by simp only [placesTo, if_pos h]
theorem placesTo_no {l : List Int} {p : Int} {k : Nat} (h : ¬ l.getD k 0 = p) : placesTo l p (k + 1) = placesTo l p k := by simp only [placesTo, if_neg h, List.append_nil]
theorem length_placesTo (l : List Int) (p : Int) : ∀ k, (placesTo l p k).length ≤ k
  | 0 => Nat.le_refl _
  | k + 1 => by
    have := length_placesTo l p k
    by_cases h : l.getD k 0 = p
    · rw [placesTo_yes h, List.length_append]; simp; omega
    · rw [placesTo_no h]; omega
def teethOf (l : List Int) (p : Int) : List Int := if combOk l = true then placesTo l p l.length else []

/-! ## The walks -/
set_option maxHeartbeats 400000 in
theorem spec_CombOk {l : List Int} {A : Option Addr} {c : Nat} {w : World} (h : RI w A l) :
    Calls Try.prog 73 #[.slice A l.length c] w fun e w' => e = .returned (.bool (combOk l)) ∧ Below w.heap.size w w' := by
  obtain ⟨hn, hA⟩ := h
  have HA := Lib.hid hA; clear hA
  go_enter Try.func73, Try.ntmps73
  go_wp2
  go_loopw [3] (fun i wr => ∃ k : Nat, k ≤ l.length ∧ i = .int .i64 k ∧ Hid (∀ j, j < k → combAt l j = true) ∧ Below w.heap.size w wr) (fun i _ => l.length - (intOf i).toNat)
  case atStart => exact ⟨0, Nat.zero_le _, rfl, fun j hj => absurd hj (by omega), Below.refl _ _⟩
  case round =>
    obtain ⟨k, hk, rfl, hok, hbel⟩ := hrel
    by_cases hlt : k < l.length
    · obtain ⟨b, off, rfl, hP⟩ := HA.out (by omega)
      have HP := Lib.hid hP; clear hP
      obtain ⟨t, e1⟩ := int_of l k
      have c1 := HP.out.a1 hbel hlt e1
      cases g1 : inR t 0 60
      · go_wp2_with fail
        refine wp_region_after (by kernel_rfl) (by kernel_rfl) ?_
        repeat (go_big_quiet_step (first | (go_at_call 57; exact Calls.after_of_same (spec_l01In))))
        refine wpQuiet_nil ?_
        rintro _ ⟨⟨wq, hq⟩, rfl⟩
        replace hbel := bthen hbel hq
        clear hq
        go_wp2
        go_ret
        exact ⟨ret_bool (combOk_no hlt (combAt_range e1 g1)).symm, hbel⟩
      by_cases hk0 : 0 < k
      · obtain ⟨t', e2⟩ := int_of l (k - 1)
        have d1 := HP.out.a1 hbel (by omega) e2
        have hnx := Lib.hid (combAt_next hk0 e1 e2 g1)
        by_cases g3 : t < t'
        · go_wp2_with fail
          refine wp_region_after (by kernel_rfl) (by kernel_rfl) ?_
          repeat (go_big_quiet_step (first | (go_at_call 57; exact Calls.after_of_same (spec_l01In))))
          refine wpQuiet_nil ?_
          rintro _ ⟨⟨wq, hq⟩, rfl⟩
          replace hbel := bthen hbel hq
          clear hq
          go_wp2
          go_ret
          exact ⟨ret_bool (combOk_no hlt (hnx.out.trans (decide_eq_false (by omega)))).symm, hbel⟩
        · have g4 : decide (t < t') = false := decide_eq_false g3
          go_wp2_with fail
          refine wp_region_after (by kernel_rfl) (by kernel_rfl) ?_
          repeat (go_big_quiet_step (first | (go_at_call 57; exact Calls.after_of_same (spec_l01In))))
          refine wpQuiet_nil ?_
          rintro _ ⟨⟨wq, hq⟩, rfl⟩
          replace hbel := bthen hbel hq
          clear hq
          go_wp2
          go_roundw
          case rel => exact ⟨k + 1, by omega, by go_num, allB_next hok (hnx.out.trans (decide_eq_true (by omega))), hbel⟩
          case measure => simp [intOf]; omega
      · have hkz : decide ((0 : Int) < (k : Int)) = false := by simp; omega
        go_wp2_with fail
        refine wp_region_after (by kernel_rfl) (by kernel_rfl) ?_
        repeat (go_big_quiet_step (first | (go_at_call 57; exact Calls.after_of_same (spec_l01In))))
        refine wpQuiet_nil ?_
        rintro _ ⟨⟨wq, hq⟩, rfl⟩
        replace hbel := bthen hbel hq
        clear hq
        go_wp2
        go_roundw
        case rel => exact ⟨k + 1, by omega, by go_num, allB_next hok (combAt_first hk0 e1 g1), hbel⟩
        case measure => simp [intOf]; omega
    · have hfin := Lib.hid (combOk_all (Nat.le_of_not_lt hlt) hok)
      go_wp2_with (go_at_call 57; refine (spec_l01In).mono ?_; rintro e w' ⟨rfl, rfl⟩)
      go_ret
      exact ⟨ret_bool (by rw [hfin.out, Bool.eq_iff_iff]; simp [inR]; omega), hbel⟩
set_option maxHeartbeats 400000 in
theorem impl_CombOk {l : List Int} {A : Option Addr} {c : Nat} {w : World} (h : RI w A l) :
    Calls Try.prog 75 #[.slice A l.length c] w fun e w' => e = .returned (.bool (combOk l)) ∧ Below w.heap.size w w' := by
  obtain ⟨hn, hA⟩ := h
  have HA := Lib.hid hA; clear hA
  by_cases h24 : 24 < l.length
  · go_enter Try.func75, Try.ntmps75
    go_wp2
    go_ret
    exact ⟨ret_bool (combOk_len (by omega)).symm, Below.refl _ _⟩
  by_cases h0 : l.length < 1
  · go_enter Try.func75, Try.ntmps75
    go_wp2
    go_ret
    exact ⟨ret_bool (combOk_len (by omega)).symm, Below.refl _ _⟩
  go_enter Try.func75, Try.ntmps75
  go_wp2
  go_loopw [15] (fun i wr => ∃ k : Nat, k ≤ l.length ∧ i = .int .i64 k ∧ Hid (∀ j, j < k → combAt l j = true) ∧ Below w.heap.size w wr) (fun i _ => l.length - (intOf i).toNat)
  case atStart => exact ⟨0, Nat.zero_le _, rfl, fun j hj => absurd hj (by omega), Below.refl _ _⟩
  case round =>
    obtain ⟨k, hk, rfl, hok, hbel⟩ := hrel
    by_cases hlt : k < l.length
    · obtain ⟨b, off, rfl, hP⟩ := HA.out (by omega)
      have HP := Lib.hid hP; clear hP
      obtain ⟨t, e1⟩ := int_of l k
      have c1 := HP.out.c1 hbel hlt e1
      cases g1 : inR t 0 60
      · go_wp2_with (go_at_call 61; refine (impl_within).mono ?_; rintro e w' ⟨rfl, rfl⟩)
        go_ret
        exact ⟨ret_bool (combOk_no hlt (combAt_range e1 g1)).symm, hbel⟩
      by_cases hk0 : 0 < k
      · obtain ⟨t', e2⟩ := int_of l (k - 1)
        have d1 := HP.out.c1 hbel (by omega) e2
        have hnx := Lib.hid (combAt_next hk0 e1 e2 g1)
        by_cases g3 : t < t'
        · go_wp2_with (go_at_call 61; refine (impl_within).mono ?_; rintro e w' ⟨rfl, rfl⟩)
          go_ret
          exact ⟨ret_bool (combOk_no hlt (hnx.out.trans (decide_eq_false (by omega)))).symm, hbel⟩
        · go_wp2_with (go_at_call 61; refine (impl_within).mono ?_; rintro e w' ⟨rfl, rfl⟩)
          go_roundw
          case rel => exact ⟨k + 1, by omega, by go_num, allB_next hok (hnx.out.trans (decide_eq_true (by omega))), hbel⟩
          case measure => simp [intOf]; omega
      · go_wp2_with (go_at_call 61; refine (impl_within).mono ?_; rintro e w' ⟨rfl, rfl⟩)
        go_roundw
        case rel => exact ⟨k + 1, by omega, by go_num, allB_next hok (combAt_first hk0 e1 g1), hbel⟩
        case measure => simp [intOf]; omega
    · have hfin := Lib.hid (combOk_all (Nat.le_of_not_lt hlt) hok)
      go_wp2
      go_ret
      exact ⟨ret_bool (by rw [hfin.out]; simp; omega), hbel⟩
set_option maxHeartbeats 400000 in
theorem spec_TeethOf {l : List Int} {A : Option Addr} {c : Nat} {p : Int} {w : World} (h : RI w A l) :
    Calls Try.prog 94 #[.slice A l.length c, .int .i64 p] w fun e w' => ∃ B d, e = .returned (.slice B (teethOf l p).length d) ∧ OwnI 3 w.heap.size w'.heap.size w' B d (teethOf l p) ∧ Below w.heap.size w w' := by
  have H := Lib.hid h
  obtain ⟨hn, hA⟩ := h
  have HA := Lib.hid hA; clear hA
  cases g : combOk l
  · have hT : Hid (teethOf l p = []) := by simp [Hid, teethOf, g]
    go_enter Try.func94, Try.ntmps94
    go_wp2
    go_loopw [5, 6] (fun v i wr => i = .int .i64 0 ∧ v = .slice (some ⟨w.heap.size, 0, none⟩) 0 0 ∧ OwnI 3 w.heap.size wr.heap.size wr (some ⟨w.heap.size, 0, none⟩) 0 [] ∧ Below w.heap.size w wr) (fun _ i _ => l.length - (intOf i).toNat)
    case atStart => exact ⟨rfl, rfl, (own_empty 3).hi_mono (by simp) (Nat.le_refl _), bnew (Below.refl _ _) _⟩
    case round =>
      obtain ⟨rfl, rfl, hown, hbel⟩ := hrel
      by_cases h0 : 0 < l.length
      · go_wp2_with fail
        refine (spec_CombOk (H.out.below hbel)).mono ?_
        rintro e w1 ⟨rfl, hb1⟩
        replace hown := (hown.below hb1 hown.le).hi_mono hb1.size (Nat.le_refl _)
        replace hbel := bthen hbel hb1
        go_wp2
        go_ret
        rw [hT.out]
        exact ⟨_, _, rfl, hown, hbel⟩
      · go_wp2
        go_ret
        rw [hT.out]
        exact ⟨_, _, rfl, hown, hbel⟩
  · have hT : Hid (teethOf l p = placesTo l p l.length) := by simp [Hid, teethOf, g]
    go_enter Try.func94, Try.ntmps94
    go_wp2
    go_loopw [5, 6] (fun v i wr => ∃ (k : Nat) (B : Option Addr) (d : Nat), k ≤ l.length ∧ i = .int .i64 k ∧ v = .slice B (placesTo l p k).length d ∧ OwnI 3 w.heap.size wr.heap.size wr B d (placesTo l p k) ∧ Below w.heap.size w wr) (fun _ i _ => l.length - (intOf i).toNat)
    case atStart => exact ⟨0, _, _, Nat.zero_le _, rfl, rfl, (own_empty 3).hi_mono (by simp) (Nat.le_refl _), bnew (Below.refl _ _) _⟩
    case round =>
      obtain ⟨k, B, d, hk, rfl, rfl, hown, hbel⟩ := hrel
      have hpl := length_placesTo l p k
      by_cases hlt : k < l.length
      · obtain ⟨b, off, rfl, hP⟩ := HA.out (by omega)
        have HP := Lib.hid hP; clear hP
        obtain ⟨t, e1⟩ := int_of l k
        go_wp2_with fail
        refine (spec_CombOk (H.out.below hbel)).mono ?_
        rintro e w1 ⟨rfl, hb1⟩
        replace hown := (hown.below hb1 hown.le).hi_mono hb1.size (Nat.le_refl _)
        replace hbel := bthen hbel hb1
        clear hb1
        have c1 := HP.out.c1 hbel hlt e1
        by_cases htp : t = p
        · have hs := Lib.hid (placesTo_yes (e1.out.trans htp))
          subst htp
          go_wp2_with (at_builtin; refine wpList_app_int (.tmp 24) (.tmp 26) 41 3 rfl rfl Try.underlying41 int_info rfl rfl rfl hown hbel.size (by omega) ?_; intro B' d' w2 hown2 hb2)
          go_roundw
          case rel => exact ⟨k + 1, B', d', by omega, by go_num, by rw [hs.out, List.length_append]; rfl, by rw [hs.out]; exact hown2, hbel.trans hb2⟩
          case measure => simp [intOf]; omega
        · have hs := Lib.hid (placesTo_no (p := p) (k := k) (by rw [e1.out]; exact htp))
          go_wp2
          go_roundw
          case rel => exact ⟨k + 1, B, d, by omega, by go_num, by rw [hs.out], by rw [hs.out]; exact hown, hbel⟩
          case measure => simp [intOf]; omega
      · obtain rfl : k = l.length := by omega
        go_wp2
        go_ret
        rw [hT.out]
        exact ⟨_, _, rfl, hown, hbel⟩
end Go.Proofs.Ytkipgjllgmjipaa
