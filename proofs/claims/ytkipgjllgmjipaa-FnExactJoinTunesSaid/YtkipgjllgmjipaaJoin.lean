/- JoinTunes: what the reference's and the program's answer. -/
import Derived.Test.YtkipgjllgmjipaaJoinL
namespace Go.Proofs.Ytkipgjllgmjipaa
open Go.RowKit
set_option linter.unusedVariables false
set_option maxHeartbeats 1000000 in
theorem impl_JoinTunes {a b : List (Int × Int)} {A B : Option Addr} {c c2 : Nat} {w : World} (h1 : RP w A a) (h2 : RP w B b) :
    Calls Try.prog 33 #[.slice A a.length c, .slice B b.length c2] w fun e w' => ∃ D d, e = .returned (.tuple #[.slice D (joinL a b).length d, .bool (joinOk a b)]) ∧ OwnP 38 w.heap.size w'.heap.size w' D d (joinL a b) ∧ Below w.heap.size w w' := by
  have H1 := Lib.hid h1; clear h1
  have H2 := Lib.hid h2; clear h2
  go_enter Try.func33, Try.ntmps33
  go_wp2_with fail
  refine (impl_TuneOk H1.out).mono ?_
  rintro e w1 ⟨rfl, hbel⟩
  cases g1 : tuneOk a
  · have hk : joinOk a b = false := by unfold joinOk; rw [g1]; rfl
    have hL := join_no hk
    go_wp2
    go_ret2
    rw [hL, hk]
    exact ⟨_, _, rfl, OwnP.nil _ _ (Nat.le_refl _), hbel⟩
  go_wp2_with fail
  refine (impl_TuneOk (H2.out.below hbel)).mono ?_
  rintro e w2 ⟨rfl, hq⟩
  replace hbel := bthen hbel hq
  clear hq
  cases g2 : tuneOk b
  · have hk : joinOk a b = false := by unfold joinOk; rw [g2, Bool.false_and, Bool.and_false]
    have hL := join_no hk
    go_wp2
    go_ret2
    rw [hL, hk]
    exact ⟨_, _, rfl, OwnP.nil _ _ (Nat.le_refl _), hbel⟩
  have hjt := Lib.hid (join_tune g1 g2)
  have hab := Lib.hid (join_same (a := a) (b := b))
  have la := (tuneOk_parts g1).1
  have lb := (tuneOk_parts g2).1
  go_wp2_with fail
  refine (impl_copyNotes (H1.out.below hbel)).mono ?_
  rintro e w3 ⟨g, d, rfl, O, hq⟩
  have hbel3 := bthen hbel hq
  have O2 := O.lo_mono (lo' := w.heap.size) hbel.size
  clear O hq hbel
  go_wp2_with (at_builtin; refine wpList_app_pairs (l := a) (m := b) (.tmp 16) (.tmp 17) 24 38 rfl rfl Try.underlying24 notes_inf rfl (by decide) rfl rfl O2 hbel3.size (H2.out.below hbel3) (by omega) ?_; intro D d' w4 O4 hb4 _)
  have hbel4 := Lib.hid (hbel3.trans hb4)
  have hO4 := Lib.hid (impl_sorted (c := d') O4.reads)
  have hs4 := O4.le
  clear O2 hbel3 hb4
  rw [List.length_append] at hO4
  refine hO4.out.mono ?_
  rintro e w5 ⟨g5, d5, rfl, O5, hq5⟩
  have hbel5 := bthen hbel4.out hq5
  have O5' := O5.lo_mono (lo' := w.heap.size) hbel4.out.size
  clear hq5 O5
  go_wp2_with fail
  refine (impl_TuneOk O5'.reads).mono ?_
  rintro e w6 ⟨rfl, hq6⟩
  have O6 := (O5'.below hq6 O5'.le).hi_mono (Nat.le_trans O5'.le hq6.size) (Nat.le_refl _)
  have hbel6 := bthen hbel5 hq6
  rw [hjt.out]
  cases hk : joinOk a b
  · have hL := join_no hk
    go_wp2
    go_ret2
    rw [hL, hk]
    exact ⟨_, _, rfl, OwnP.nil _ _ (Nat.le_refl _), hbel6⟩
  · have hL := join_yes hk
    rw [← hab.out] at hL
    go_wp2
    go_ret2
    rw [hL, hk]
    exact ⟨_, _, rfl, O6, hbel6⟩
set_option maxHeartbeats 2000000 in
theorem spec_JoinTunes {a b : List (Int × Int)} {A B : Option Addr} {c c2 : Nat} {w : World} (h1 : RP w A a) (h2 : RP w B b) :
    Calls Try.prog 32 #[.slice A a.length c, .slice B b.length c2] w fun e w' => ∃ D d, e = .returned (.tuple #[.slice D (joinL a b).length d, .bool (joinOk a b)]) ∧ OwnP 38 w.heap.size w'.heap.size w' D d (joinL a b) ∧ Below w.heap.size w w' := by
  have H1 := Lib.hid h1
  have H2 := Lib.hid h2
  obtain ⟨hn1, hA⟩ := h1
  have HA := Lib.hid hA; clear hA
  obtain ⟨hn2, hB⟩ := h2
  have HB := Lib.hid hB; clear hB
  go_enter Try.func32, Try.ntmps32
  go_wp2_with fail
  refine (spec_TuneOk (H1.out.below (bnew (Below.refl _ _) _))).mono ?_
  rintro e w1 ⟨rfl, hq⟩
  have hbel := bthen (bnew (Below.refl _ _) _) hq
  have hown0 := ((own_emptyP (W := w) 38).below hq (by simp)).hi_mono (Nat.le_trans (by simp) hq.size) (Nat.le_refl _)
  clear hq
  cases g1 : tuneOk a
  · have hk : joinOk a b = false := by unfold joinOk; rw [g1]; rfl
    have hL := join_no hk
    go_wp2
    go_ret2
    rw [hL, hk]
    exact ⟨_, _, rfl, hown0, hbel⟩
  go_wp2_with fail
  refine (spec_TuneOk (H2.out.below hbel)).mono ?_
  rintro e w2 ⟨rfl, hq⟩
  replace hown0 := (hown0.below hq hown0.le).hi_mono hq.size (Nat.le_refl _)
  replace hbel := bthen hbel hq
  clear hq
  cases g2 : tuneOk b
  · have hk : joinOk a b = false := by unfold joinOk; rw [g2, Bool.false_and, Bool.and_false]
    have hL := join_no hk
    go_wp2
    go_ret2
    rw [hL, hk]
    exact ⟨_, _, rfl, hown0, hbel⟩
  have la := (tuneOk_parts g1).1
  have lb := (tuneOk_parts g2).1
  have hoK : Hid (joinOk a b = decide ((joinTo a b b.length).length ≤ 40)) := by show _ = _; unfold joinOk; rw [g1, g2, Bool.true_and, Bool.true_and]
  clear hown0
  go_wp2_with fail
  refine (spec_l02Copy (H1.out.below hbel)).mono ?_
  rintro e w3 ⟨g, d, rfl, O, hq⟩
  have hb3 := bthen hbel hq
  have hown3 := O.lo_mono (lo' := w.heap.size) hbel.size
  clear O hq hbel
  go_wp2
  go_loopw [6, 7] (fun v i wr => ∃ (k : Nat) (D : Option Addr) (d : Nat) (L : List (Int × Int)), k ≤ b.length ∧ i = .int .i64 k ∧ Hid (L = joinTo a b k) ∧ v = .slice D L.length d ∧ OwnP 38 w.heap.size wr.heap.size wr D d L ∧ Below w.heap.size w wr) (fun _ i _ => b.length - (intOf i).toNat)
  case atStart => exact ⟨0, _, _, a, Nat.zero_le _, rfl, rfl, rfl, hown3, hb3⟩
  case round =>
    clear hown3 hb3
    obtain ⟨k, D, d, L, hk, rfl, hL, rfl, hown, hbel⟩ := hrel
    have hLk : L.length ≤ a.length + k := by rw [hL.out]; exact length_joinTo a b k
    by_cases hlt : k < b.length
    · obtain ⟨b2, off2, rfl, hP2⟩ := HB.out (by omega)
      have HP2 := Lib.hid hP2; clear hP2
      obtain ⟨x, y, e1⟩ := pair_of b k
      go_wp2
      go_loopw [8, 9] (fun s i wr => ∃ (i' : Nat) (F : Bool), i' ≤ a.length ∧ i = .int .i64 i' ∧ s = .bool F ∧ Hid (F = true ↔ ∃ j, j < i' ∧ a.getD j (0, 0) = (x, y)) ∧ OwnP 38 w.heap.size wr.heap.size wr D d L ∧ Below w.heap.size w wr) (fun _ i _ => a.length - (intOf i).toNat)
      case atStart => exact ⟨0, false, Nat.zero_le _, rfl, rfl, ⟨fun h => (by cases h), fun ⟨j, hj, _⟩ => absurd hj (by omega)⟩, hown, hbel⟩
      case round =>
        clear hown hbel
        obtain ⟨i, F, hi, rfl, rfl, hF, hown, hbel⟩ := hrel
        by_cases hil : i < a.length
        · cases F
          case true =>
            have hF2 : Hid (∃ j, j < i + 1 ∧ a.getD j (0, 0) = (x, y)) := by obtain ⟨j, h3, h4⟩ := hF.out.1 rfl; exact ⟨j, by omega, h4⟩
            go_wp2_with fail
            refine wp_region_after (by kernel_rfl) (by kernel_rfl) ?_
            repeat (go_big_quiet_step (fail))
            refine wpQuiet_nil ?_
            rintro wq ⟨⟨_, hq⟩, rfl⟩
            replace hown := (hown.below hq hown.le).hi_mono hq.size (Nat.le_refl _)
            replace hbel := bthen hbel hq
            clear hq
            go_wp2
            go_roundw
            case rel => exact ⟨i + 1, true, by omega, by go_num, rfl, ⟨fun _ => hF2.out, fun _ => rfl⟩, hown, hbel⟩
            case measure => simp [intOf]; omega
          obtain ⟨b1, off1, rfl, hP1⟩ := HA.out (by omega)
          have HP1 := Lib.hid hP1; clear hP1
          obtain ⟨u, v, e2⟩ := pair_of a i
          have hnone : Hid (∀ j, j < i → a.getD j (0, 0) ≠ (x, y)) := fun j hj he => by have := hF.out.2 ⟨j, hj, he⟩; cases this
          have d1 := HP1.out.a1 hbel hil e2
          have d2 := HP1.out.a2 hbel hil e2
          have c1 := HP2.out.a1 hbel hlt e1
          have c2' := HP2.out.a2 hbel hlt e1
          by_cases hx : u = x
          case neg =>
            have hF2 : Hid ((false = true) ↔ ∃ j, j < i + 1 ∧ a.getD j (0, 0) = (x, y)) := ⟨fun h => (by cases h), fun ⟨j, h3, h4⟩ => by
              rcases Nat.lt_or_ge j i with h | h
              · exact absurd h4 (hnone.out j h)
              · have : j = i := by omega
                subst this; exact absurd (congrArg Prod.fst (e2.out.symm.trans h4)) hx⟩
            go_wp2_with fail
            refine wp_region_after (by kernel_rfl) (by kernel_rfl) ?_
            repeat (go_big_quiet_step (fail))
            refine wpQuiet_nil ?_
            rintro wq ⟨⟨_, hq⟩, rfl⟩
            replace hown := (hown.below hq hown.le).hi_mono hq.size (Nat.le_refl _)
            replace hbel := bthen hbel hq
            clear hq d1 d2 c1 c2'
            go_wp2
            go_roundw
            case rel => exact ⟨i + 1, false, by omega, by go_num, rfl, hF2, hown, hbel⟩
            case measure => simp [intOf]; omega
          by_cases hy : v = y
          case neg =>
            have hF2 : Hid ((false = true) ↔ ∃ j, j < i + 1 ∧ a.getD j (0, 0) = (x, y)) := ⟨fun h => (by cases h), fun ⟨j, h3, h4⟩ => by
              rcases Nat.lt_or_ge j i with h | h
              · exact absurd h4 (hnone.out j h)
              · have : j = i := by omega
                subst this; exact absurd (congrArg Prod.snd (e2.out.symm.trans h4)) hy⟩
            subst hx
            go_wp2_with fail
            refine wp_region_after (by kernel_rfl) (by kernel_rfl) ?_
            repeat (go_big_quiet_step (fail))
            refine wpQuiet_nil ?_
            rintro wq ⟨⟨_, hq⟩, rfl⟩
            replace hown := (hown.below hq hown.le).hi_mono hq.size (Nat.le_refl _)
            replace hbel := bthen hbel hq
            clear hq d1 d2 c1 c2'
            go_wp2
            go_roundw
            case rel => exact ⟨i + 1, false, by omega, by go_num, rfl, hF2, hown, hbel⟩
            case measure => simp [intOf]; omega
          subst hx hy
          have hF2 : Hid (∃ j, j < i + 1 ∧ a.getD j (0, 0) = (u, v)) := ⟨i, by omega, e2.out⟩
          go_wp2_with fail
          refine wp_region_after (by kernel_rfl) (by kernel_rfl) ?_
          repeat (go_big_quiet_step (fail))
          refine wpQuiet_nil ?_
          rintro wq ⟨⟨_, hq⟩, rfl⟩
          replace hown := (hown.below hq hown.le).hi_mono hq.size (Nat.le_refl _)
          replace hbel := bthen hbel hq
          clear hq d1 d2 c1 c2'
          go_wp2
          go_roundw
          case rel => exact ⟨i + 1, true, by omega, by go_num, rfl, ⟨fun _ => hF2.out, fun _ => rfl⟩, hown, hbel⟩
          case measure => simp [intOf]; omega
        · obtain rfl : i = a.length := by omega
          have hmem : Hid (F = true ↔ b.getD k (0, 0) ∈ a) := by
            show _ ↔ _
            rw [hF.out, mem_getD, e1.out]
          cases F
          · have hnew := Lib.hid (joinTo_new (a := a) (b := b) (k := k) (fun h => by have := hmem.out.2 h; cases this))
            have c1 := HP2.out.c1 hbel hlt e1
            have c2' := HP2.out.c2 hbel hlt e1
            go_wp2_with (at_builtin; refine wpList_app_pairs (l := L) (m := [(x, y)]) (.tmp 48) (.tmp 53) 24 38 rfl rfl Try.underlying24 notes_inf rfl (by decide) rfl rfl (hown.new _) (Nat.le_trans hbel.size (by simp)) new_pair (by simp; omega) ?_; intro D' d' w5 hown2 hb2 _)
            go_roundw
            case rel => exact ⟨k + 1, D', d', L ++ [(x, y)], by omega, by go_num, by show _ = _; rw [hnew.out, e1.out, ← hL.out], by rw [List.length_append]; rfl, hown2, (bnew hbel _).trans hb2⟩
            case measure => simp [intOf]; omega
          · have hold := Lib.hid (joinTo_has (a := a) (b := b) (k := k) (hmem.out.1 rfl))
            go_wp2
            go_roundw
            case rel => exact ⟨k + 1, D, d, L, by omega, by go_num, by show _ = _; rw [hold.out]; exact hL.out, rfl, hown, hbel⟩
            case measure => simp [intOf]; omega
    · obtain rfl : k = b.length := by omega
      rw [← hL.out] at hoK
      by_cases h40 : L.length ≤ 40
      · have hk2 : joinOk a b = true := by rw [hoK.out]; exact decide_eq_true h40
        have hjl := join_yes hk2
        rw [← hL.out] at hjl
        have hs : Hid (sortN L = sortU L) := if_pos h40
        have hO := Lib.hid (spec_SortNotes (c := d) hown.reads)
        rw [hs.out] at hO
        go_wp2_with fail
        refine hO.out.mono ?_
        rintro e w6 ⟨D', d', rfl, O6, hq⟩
        go_wp2
        go_ret2
        rw [hjl, hk2]
        exact ⟨_, _, rfl, O6.lo_mono hbel.size, bthen hbel hq⟩
      · have hk2 : joinOk a b = false := by rw [hoK.out]; exact decide_eq_false h40
        have hjl := join_no hk2
        go_wp2
        go_ret2
        rw [hjl, hk2]
        exact ⟨_, _, rfl, ((own_emptyP 38).hi_mono (by simp) (Nat.le_refl _)).lo_mono hbel.size, bnew hbel _⟩
end Go.Proofs.Ytkipgjllgmjipaa
