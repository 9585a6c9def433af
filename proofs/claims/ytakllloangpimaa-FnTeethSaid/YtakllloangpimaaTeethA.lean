/- IsAssigned: what it answers, and that the program's and the reference's functions answer it. -/
import Derived.Test.YtakllloangpimaaTuneR
import Derived.Test.YtakllloangpimaaComb
namespace Go.Proofs.Ytakllloangpimaa
open Go.RowKit

/-! ## Plain notions -/
/-- Note i has a tooth with its pitch. -/
def toothAt (comb : List Int) (t : List (Int × Int)) (teeth : List Int) (i : Nat) : Bool :=
  decide (0 ≤ teeth.getD i 0 ∧ teeth.getD i 0 < comb.length ∧ comb.getD (teeth.getD i 0).toNat 0 = (t.getD i (0, 0)).2)
/-- Notes i and j (an earlier one) do not disturb each other. -/
def restAt (t : List (Int × Int)) (rest : Int) (teeth : List Int) (i j : Nat) : Bool :=
  decide (¬ (teeth.getD j 0 = teeth.getD i 0 ∧ (t.getD i (0, 0)).1 - (t.getD j (0, 0)).1 < rest))
def assignedAt (comb : List Int) (t : List (Int × Int)) (rest : Int) (teeth : List Int) (i : Nat) : Bool := toothAt comb t teeth i && (List.range i).all (restAt t rest teeth i)
def isAssigned (comb : List Int) (t : List (Int × Int)) (rest : Int) (teeth : List Int) : Bool :=
  combOk comb && tuneOk t && inR rest 1 100 && decide (teeth.length = t.length) && (List.range teeth.length).all (assignedAt comb t rest teeth)
section
variable {comb : List Int} {t : List (Int × Int)} {rest : Int} {teeth : List Int}
theorem isAssigned_head (h : ¬ (combOk comb = true ∧ tuneOk t = true ∧ inR rest 1 100 = true ∧ teeth.length = t.length)) : isAssigned comb t rest teeth = false := by
  unfold isAssigned
  cases h1 : combOk comb <;> cases h2 : tuneOk t <;> cases h3 : inR rest 1 100 <;> simp
  intro h4
  exact absurd ⟨h1, h2, h3, h4⟩ h
theorem isAssigned_no {i : Nat} (hi : i < teeth.length) (h : assignedAt comb t rest teeth i = false) : isAssigned comb t rest teeth = false := by
  have : (List.range teeth.length).all (assignedAt comb t rest teeth) = false := by
    rw [List.all_eq_false]; exact ⟨i, List.mem_range.2 hi, by rw [h]; exact Bool.false_ne_true⟩
  unfold isAssigned; rw [this, Bool.and_false]
theorem isAssigned_yes (h1 : combOk comb = true) (h2 : tuneOk t = true) (h3 : inR rest 1 100 = true) (h4 : teeth.length = t.length) (h : ∀ i, i < teeth.length → assignedAt comb t rest teeth i = true) : isAssigned comb t rest teeth = true := by
  have : (List.range teeth.length).all (assignedAt comb t rest teeth) = true := by
    rw [List.all_eq_true]; intro j hj; exact h j (List.mem_range.1 hj)
  unfold isAssigned; rw [this, h1, h2, h3, decide_eq_true h4]; rfl
theorem assignedAt_tooth {i : Nat} (h : toothAt comb t teeth i = false) : assignedAt comb t rest teeth i = false := by unfold assignedAt; rw [h, Bool.false_and]
theorem assignedAt_no {i j : Nat} (hj : j < i) (h : restAt t rest teeth i j = false) : assignedAt comb t rest teeth i = false := by
  have : (List.range i).all (restAt t rest teeth i) = false := by
    rw [List.all_eq_false]; exact ⟨j, List.mem_range.2 hj, by rw [h]; exact Bool.false_ne_true⟩
  unfold assignedAt; rw [this, Bool.and_false]
theorem assignedAt_yes {i : Nat} (h : toothAt comb t teeth i = true) (h2 : ∀ j, j < i → restAt t rest teeth i j = true) : assignedAt comb t rest teeth i = true := by
  have : (List.range i).all (restAt t rest teeth i) = true := by
    rw [List.all_eq_true]; intro j hj; exact h2 j (List.mem_range.1 hj)
  unfold assignedAt; rw [this, h]; rfl
theorem toothAt_eq {i : Nat} {k x a b : Int} (e : Hid (teeth.getD i 0 = k)) (e2 : Hid (t.getD i (0, 0) = (a, b))) (hk : 0 ≤ k) (hk2 : k < comb.length) (e3 : Hid (comb.getD k.toNat 0 = x)) : toothAt comb t teeth i = decide (x = b) := by
  unfold toothAt; rw [e.out, e2.out, e3.out]; simp [hk, hk2]
theorem toothAt_out {i : Nat} {k : Int} (e : Hid (teeth.getD i 0 = k)) (h : k < 0 ∨ (comb.length : Int) ≤ k) : toothAt comb t teeth i = false := by
  unfold toothAt; rw [e.out]; exact decide_eq_false (by omega)
theorem restAt_eq {i j : Nat} {k k' a b a' b' : Int} (e : Hid (teeth.getD i 0 = k)) (e' : Hid (teeth.getD j 0 = k')) (f : Hid (t.getD i (0, 0) = (a, b))) (f' : Hid (t.getD j (0, 0) = (a', b'))) : restAt t rest teeth i j = decide (¬ (k' = k ∧ a - a' < rest)) := by
  unfold restAt; rw [e.out, e'.out, f.out, f'.out]
end
theorem impl_IsAssigned_no {comb : List Int} {t : List (Int × Int)} {rest : Int} {teeth : List Int} {A B C : Option Addr} {ca cb cc : Nat} {w : World} (h1 : RI w A comb) (h2 : RP w B t) (h3 : RI w C teeth)
    (h : ¬ (combOk comb = true ∧ tuneOk t = true ∧ inR rest 1 100 = true ∧ teeth.length = t.length)) :
    Calls Try.prog 24 #[.slice A comb.length ca, .slice B t.length cb, .int .i64 rest, .slice C teeth.length cc] w fun e w' => e = .returned (.bool (isAssigned comb t rest teeth)) ∧ Below w.heap.size w w' := by
  have H1 := Lib.hid h1; clear h1
  have H2 := Lib.hid h2; clear h2
  have hn := H2.out.1
  have hn' := h3.1; clear h3
  have hT := Lib.hid (isAssigned_head h)
  cases g1 : combOk comb
  · clear h
    go_enter Try.func24, Try.ntmps24
    go_wp2_with (go_at_call 41; refine (impl_CombOk H1.out).mono ?_; rintro e w1 ⟨rfl, hbel⟩)
    go_ret
    exact ⟨ret_bool hT.out.symm, hbel⟩
  cases g2 : tuneOk t
  · clear h
    go_enter Try.func24, Try.ntmps24
    go_wp2_with fail
    refine (impl_CombOk H1.out).mono ?_
    rintro e w1 ⟨rfl, hbel⟩
    go_wp2_with fail
    refine (impl_TuneOk (H2.out.below hbel)).mono ?_
    rintro e w2 ⟨rfl, hb2⟩
    replace hbel := bthen hbel hb2
    go_wp2
    go_ret
    exact ⟨ret_bool hT.out.symm, hbel⟩
  cases g3 : inR rest 1 100
  · clear h
    go_enter Try.func24, Try.ntmps24
    go_wp2_with fail
    refine (impl_CombOk H1.out).mono ?_
    rintro e w1 ⟨rfl, hbel⟩
    go_wp2_with fail
    refine (impl_TuneOk (H2.out.below hbel)).mono ?_
    rintro e w2 ⟨rfl, hb2⟩
    replace hbel := bthen hbel hb2
    go_wp2_with (go_at_call 54; refine (impl_within).mono ?_; rintro e w' ⟨rfl, rfl⟩)
    go_ret
    exact ⟨ret_bool hT.out.symm, hbel⟩
  · have hs : ((teeth.length : Int) != (t.length : Int)) = true := by
      rw [bne_iff_ne]; intro hh; exact h ⟨g1, g2, g3, by omega⟩
    clear h
    go_enter Try.func24, Try.ntmps24
    go_wp2_with fail
    refine (impl_CombOk H1.out).mono ?_
    rintro e w1 ⟨rfl, hbel⟩
    go_wp2_with fail
    refine (impl_TuneOk (H2.out.below hbel)).mono ?_
    rintro e w2 ⟨rfl, hb2⟩
    replace hbel := bthen hbel hb2
    go_wp2_with (go_at_call 54; refine (impl_within).mono ?_; rintro e w' ⟨rfl, rfl⟩)
    go_ret
    exact ⟨ret_bool hT.out.symm, hbel⟩
set_option maxHeartbeats 1000000 in
theorem impl_IsAssigned {comb : List Int} {t : List (Int × Int)} {rest : Int} {teeth : List Int} {A B C : Option Addr} {ca cb cc : Nat} {w : World} (h1 : RI w A comb) (h2 : RP w B t) (h3 : RI w C teeth) :
    Calls Try.prog 24 #[.slice A comb.length ca, .slice B t.length cb, .int .i64 rest, .slice C teeth.length cc] w fun e w' => e = .returned (.bool (isAssigned comb t rest teeth)) ∧ Below w.heap.size w w' := by
  by_cases h : combOk comb = true ∧ tuneOk t = true ∧ inR rest 1 100 = true ∧ teeth.length = t.length
  case neg => exact impl_IsAssigned_no h1 h2 h3 h
  have hT := Lib.hid (fun (hh : ∀ i, i < teeth.length → assignedAt comb t rest teeth i = true) => isAssigned_yes h.1 h.2.1 h.2.2.1 h.2.2.2 hh)
  obtain ⟨g1, g2, g3, g4⟩ := h
  have H1 := Lib.hid h1; clear h1
  have H2 := Lib.hid h2; clear h2
  have H3 := Lib.hid h3; clear h3
  have l1 := H1.out.1
  have l2 := H2.out.1
  have l3 := H3.out.1
  have l4 : teeth.length ≤ t.length := by omega
  have l5 : t.length ≤ teeth.length := by omega
  obtain ⟨r1, r2⟩ := inR_true g3
  have hs : ((teeth.length : Int) != (t.length : Int)) = false := by rw [bne_eq_false_iff_eq]; omega
  clear g4
  go_enter Try.func24, Try.ntmps24
  go_wp2_with fail
  refine (impl_CombOk H1.out).mono ?_
  rintro e w1 ⟨rfl, hbel⟩
  go_wp2_with fail
  refine (impl_TuneOk (H2.out.below hbel)).mono ?_
  rintro e w2 ⟨rfl, hb2⟩
  replace hbel := bthen hbel hb2
  clear hb2
  go_wp2_with (go_at_call 54; refine (impl_within).mono ?_; rintro e w' ⟨rfl, rfl⟩)
  go_loopw [34] (fun i wr => ∃ k : Nat, k ≤ teeth.length ∧ i = .int .i64 k ∧ Hid (∀ j, j < k → assignedAt comb t rest teeth j = true) ∧ Below w.heap.size w wr) (fun i _ => teeth.length - (intOf i).toNat)
  case atStart => exact ⟨0, Nat.zero_le _, rfl, fun j hj => absurd hj (by omega), hbel⟩
  case round =>
    clear hbel
    obtain ⟨k, hk, rfl, hok, hbel⟩ := hrel
    by_cases hlt : k < teeth.length
    · obtain ⟨b3, o3, rfl, hP⟩ := H3.out.2 (by omega)
      have HP3 := Lib.hid hP; clear hP
      obtain ⟨b2, o2, rfl, hP⟩ := H2.out.2 (by omega)
      have HP2 := Lib.hid hP; clear hP
      have kt := Lib.hid (show k < t.length by omega)
      obtain ⟨x, e3⟩ := int_of teeth k
      obtain ⟨a, b, e2⟩ := pair_of t k
      obtain ⟨⟨p1, p2⟩, p3, p4⟩ := tuneOk_range g2 kt.out e2
      have c3 := HP3.out.c1 hbel hlt e3
      have kz : (k : Int) < (t.length : Int) := by omega
      by_cases hx0 : x < 0
      · have c2 := HP2.out.a1 hbel kt.out e2
        go_wp2_with fail
        refine wp_region_after (by kernel_rfl) (by kernel_rfl) ?_
        repeat (go_big_quiet_step (fail))
        refine wpQuiet_nil ?_
        rintro _ ⟨⟨wq, hq⟩, rfl⟩
        replace hbel := bthen hbel hq
        clear hq
        go_wp2
        go_ret
        exact ⟨ret_bool (isAssigned_no hlt (assignedAt_tooth (toothAt_out e3 (.inl hx0)))).symm, hbel⟩
      by_cases hx1 : (comb.length : Int) ≤ x
      · have hxd : decide (x < 0) = false := decide_eq_false hx0
        go_wp2_with fail
        refine wp_region_after (by kernel_rfl) (by kernel_rfl) ?_
        repeat (go_big_quiet_step (fail))
        refine wpQuiet_nil ?_
        rintro _ ⟨⟨wq, hq⟩, rfl⟩
        replace hbel := bthen hbel hq
        clear hq
        go_wp2
        go_ret
        exact ⟨ret_bool (isAssigned_no hlt (assignedAt_tooth (toothAt_out e3 (.inr hx1)))).symm, hbel⟩
      have hxn : 0 ≤ x := by omega
      obtain ⟨n, rfl⟩ := Int.eq_ofNat_of_zero_le hxn
      clear hxn hx0
      have hn := Lib.hid (show n < comb.length by omega)
      obtain ⟨b1, o1, rfl, hP⟩ := H1.out.2 (by omega)
      have HP1 := Lib.hid hP; clear hP
      obtain ⟨y, e1⟩ := int_of comb n
      have hxd : decide ((n : Int) < 0) = false := decide_eq_false (by omega)
      have hxe : decide (comb.length ≤ n) = false := decide_eq_false (by omega)
      have hnz : (n : Int) < (comb.length : Int) := by omega
      have hte := Lib.hid (toothAt_eq (comb := comb) e3 e2 (by omega) (by omega) (by rw [Int.toNat_natCast]; exact e1))
      by_cases hy : y = b
      · have hy1 : (y != b) = false := by rw [bne_eq_false_iff_eq]; exact hy
        have hy' := Lib.hid hy; clear hy
        go_wp2_with fail
        have q1 := HP1.out.a1 hbel hn.out e1
        have q2 := HP2.out.a2 hbel kt.out e2
        clear c3
        refine wp_region_after (by kernel_rfl) (by kernel_rfl) ?_
        repeat (go_big_quiet_step (fail))
        refine wpQuiet_nil ?_
        rintro _ ⟨⟨wq, hq⟩, rfl⟩
        replace hbel := bthen hbel hq
        clear hq
        go_wp2
        go_loopw [11] (fun j wr => ∃ m : Nat, m ≤ k ∧ j = .int .i64 m ∧ Hid (∀ j, j < m → restAt t rest teeth k j = true) ∧ Below w.heap.size w wr) (fun j _ => k - (intOf j).toNat)
        case atStart => exact ⟨0, Nat.zero_le _, rfl, fun j hj => absurd hj (by omega), hbel⟩
        case round =>
          clear hbel
          obtain ⟨m, hm, rfl, hrest, hbel⟩ := hrel
          by_cases hmk : m < k
          · obtain ⟨x', f3⟩ := int_of teeth m
            obtain ⟨a', b', f2⟩ := pair_of t m
            obtain ⟨⟨p5, p6⟩, p7, p8⟩ := tuneOk_range g2 (by have := kt.out; omega) f2
            have d3 := HP3.out.a1 hbel (by omega) f3
            have d2 := HP2.out.a1 hbel (by omega) f2
            have d1 := HP2.out.a1 hbel kt.out e2
            have mz : (m : Int) < (t.length : Int) := by omega
            have mz' : (m : Int) < (teeth.length : Int) := by omega
            have hre := Lib.hid (restAt_eq (rest := rest) e3 f3 e2 f2)
            by_cases m1 : x' = (n : Int)
            · have n1 : (x' == (n : Int)) = true := by rw [beq_iff_eq]; exact m1
              have m1' := Lib.hid m1; clear m1
              by_cases m2 : a - a' < rest
              · go_wp2_with fail
                refine wp_region_after (by kernel_rfl) (by kernel_rfl) ?_
                repeat (go_big_quiet_step (fail))
                refine wpQuiet_nil ?_
                rintro _ ⟨⟨wq, hq⟩, rfl⟩
                replace hbel := bthen hbel hq
                clear hq
                go_wp2
                go_ret
                exact ⟨ret_bool (isAssigned_no hlt (assignedAt_no hmk (by rw [hre.out]; exact decide_eq_false (fun hh => hh ⟨m1'.out, m2⟩)))).symm, hbel⟩
              · have m2d : decide (a - a' < rest) = false := decide_eq_false m2
                go_wp2_with fail
                refine wp_region_after (by kernel_rfl) (by kernel_rfl) ?_
                repeat (go_big_quiet_step (fail))
                refine wpQuiet_nil ?_
                rintro _ ⟨⟨wq, hq⟩, rfl⟩
                replace hbel := bthen hbel hq
                clear hq
                go_wp2
                go_roundw
                case rel => exact ⟨m + 1, by omega, by go_num, all_next hrest (by rw [hre.out]; exact decide_eq_true (by omega)), hbel⟩
                case measure => simp [intOf]; omega
            · have n1 : (x' == (n : Int)) = false := by rw [beq_eq_false_iff_ne]; exact m1
              go_wp2_with fail
              refine wp_region_after (by kernel_rfl) (by kernel_rfl) ?_
              repeat (go_big_quiet_step (fail))
              refine wpQuiet_nil ?_
              rintro _ ⟨⟨wq, hq⟩, rfl⟩
              replace hbel := bthen hbel hq
              clear hq
              go_wp2
              go_roundw
              case rel => exact ⟨m + 1, by omega, by go_num, all_next hrest (by rw [hre.out]; exact decide_eq_true (fun hh => m1 hh.1)), hbel⟩
              case measure => simp [intOf]; omega
          · obtain rfl : m = k := by omega
            go_wp2
            go_roundw
            case rel => exact ⟨m + 1, by omega, by go_num, all_next hok (assignedAt_yes (by rw [hte.out]; exact decide_eq_true hy'.out) hrest.out), hbel⟩
            case measure => simp [intOf]; omega
      · have hy1 : (y != b) = true := by rw [bne_iff_ne]; exact hy
        go_wp2_with fail
        have q1 := HP1.out.a1 hbel hn.out e1
        have q2 := HP2.out.a2 hbel kt.out e2
        refine wp_region_after (by kernel_rfl) (by kernel_rfl) ?_
        repeat (go_big_quiet_step (fail))
        refine wpQuiet_nil ?_
        rintro _ ⟨⟨wq, hq⟩, rfl⟩
        replace hbel := bthen hbel hq
        clear hq
        go_wp2
        go_ret
        exact ⟨ret_bool (isAssigned_no hlt (assignedAt_tooth (by rw [hte.out]; exact decide_eq_false hy))).symm, hbel⟩
    · go_wp2
      go_ret
      exact ⟨ret_bool (hT.out fun j hj => hok.out j (by omega)).symm, hbel⟩
end Go.Proofs.Ytakllloangpimaa
