/- AddNote: what the reference's and the program's answer. -/
import Derived.Test.YtkipgjllgmjipaaAddN
namespace Go.Proofs.Ytkipgjllgmjipaa
open Go.RowKit
set_option linter.unusedVariables false
theorem calls_same {P : Program} {f : FuncId} {args : Array Value} {w : World} {v : Ending} (h : Calls P f args w fun e w' => e = v ∧ w = w') : Calls P f args w fun e w' => e = v ∧ Below w.heap.size w w' :=
  h.mono fun _ _ ⟨he, hw⟩ => ⟨he, by subst hw; exact Below.refl _ _⟩
set_option maxHeartbeats 2000000 in
theorem impl_AddNote {l : List (Int × Int)} {A : Option Addr} {c : Nat} {x y : Int} {w : World} (h : RP w A l) :
    Calls Try.prog 36 #[.slice A l.length c, .agg #[.int .i64 x, .int .i64 y]] w fun e w' => ∃ B d, e = .returned (.tuple #[.slice B (addL l (x, y)).length d, .bool (addOk l (x, y))]) ∧ OwnP 38 w.heap.size w'.heap.size w' B d (addL l (x, y)) ∧ Below w.heap.size w w' := by
  have hn := h.1
  have H := Lib.hid h; clear h
  go_enter Try.func36, Try.ntmps36
  go_wp2_with fail
  generalize hW : World.alloc w _ = W1
  obtain ⟨hbel, _, p0, p1⟩ := new2c hW
  clear hW
  refine (impl_TuneOk (H.out.below hbel)).mono ?_
  rintro e w1 ⟨rfl, hq⟩
  replace p0 := cell_later p0 hq; replace p1 := cell_later p1 hq
  replace hbel := bthen hbel hq
  clear hq
  cases g1 : tuneOk l
  · have hk := add_bad (n := (x, y)) g1
    have hL := add_no hk
    go_wp2_with fail
    refine (impl_copyNotes (H.out.below hbel)).mono ?_
    rintro e w2 ⟨g, d, rfl, O, hq⟩
    go_wp2
    go_ret2
    rw [hL, hk]
    exact ⟨_, _, rfl, O.lo_mono hbel.size, bthen hbel hq⟩
  go_wp2_with fail
  refine (impl_hasNote (x := x) (y := y) (H.out.below hbel)).mono ?_
  rintro e wN ⟨rfl, hq⟩
  replace p0 := cell_later p0 hq; replace p1 := cell_later p1 hq
  replace hbel := bthen hbel hq
  clear hq
  by_cases hm : (x, y) ∈ l
  · have hk := add_has hm
    have hL := add_no hk
    rw [decide_eq_true hm]
    go_wp2_with fail
    refine (impl_copyNotes (H.out.below hbel)).mono ?_
    rintro e w2 ⟨g, d, rfl, O, hq⟩
    go_wp2
    go_ret2
    rw [hL, hk]
    exact ⟨_, _, rfl, O.lo_mono hbel.size, bthen hbel hq⟩
  rw [decide_eq_false hm]
  have h40 := (tuneOk_parts g1).1
  have hbw := Lib.hid hbel
  have HR : Hid (∀ W, Below wN.heap.size wN W → RP W A l) := fun W h => H.out.below (bthen hbel h)
  have HK : Hid (∀ W, Below wN.heap.size wN W → W.cell? ⟨w.heap.size, 0, none⟩ = some (.int .i64 x) ∧ W.cell? ⟨w.heap.size, 1, none⟩ = some (.int .i64 y) ∧ Below wN.heap.size wN W) := fun W h => ⟨cell_later p0 h, cell_later p1 h, h⟩
  have hdr := Lib.hid ((Below.refl wN.heap.size wN).drew)
  have D4 : Hid (Below wN.heap.size wN (wN.alloc (.cells #[.int .i64 x, .int .i64 y] 38)).drew) := (bnew (Below.refl _ _) _).drew
  have hpD : Hid (RP (wN.alloc (.cells #[.int .i64 x, .int .i64 y] 38)).drew (some ⟨wN.heap.size, 0, none⟩) [(x, y)]) := (pairAt (w := wN) rfl).below (Below.refl _ _).drew
  have hb60 : Hid (l.length + 1 ≤ 1048576) := Lib.hid (by omega)
  have lenS : Hid ((l ++ [(x, y)]).length = l.length + 1) := by show _ = _; rw [List.length_append]; rfl
  clear hbel p0 p1
  go_wp2_with fail
  go_region_held3 (fun W => W.cell? ⟨w.heap.size, 0, none⟩ = some (.int .i64 x) ∧ W.cell? ⟨w.heap.size, 1, none⟩ = some (.int .i64 y) ∧ Below wN.heap.size wN W) (with_reducible (first | exact HK.out _ hbq3 | exact HK.out _ hbq2 | exact HK.out _ (bnew hbq1 _) | exact HK.out _ hbq1 | exact HK.out _ hdr.out | exact HK.out _ D4.out)) (first
    | (go_at_call 55; have hs := impl_sorted (c := d2) O2.reads; rw [lenS.out] at hs; refine hs.mono ?_; rintro e w3 ⟨g3, d3, rfl, O3, hq3⟩; have hbq3 := hbq2.trans (hq3.mono hbq2.size))
    | (have hmk := hp1; refine step_app_pairs2 (l := l) (m := [(x, y)]) (c2 := 1) (.tmp 18) (.tmp 20) 24 38 rfl rfl Try.underlying24 notes_inf rfl (Nat.le_of_ble_eq_true rfl) rfl rfl (Lib.hid rfl) (Lib.hid rfl) (Lib.hid rfl) O1 hq1.size hp1 hb60.out ?_; intro g2 d2 w2 O2 hb2 hk2; have hbq2 := hbq1.trans (hb2.mono hlow))
    | (have hmk := hbq1; have t1 := O1.new (.cells #[.int .i64 x, .int .i64 y] 38); have t2 := hlo.out _ hq1.size; have t3 := pairAt (w := w1) (x := x) (y := y) (T := 38) rfl; refine step_app_pairs2 (l := l) (m := [(x, y)]) (c2 := 1) (.tmp 18) (.tmp 20) 24 38 rfl rfl Try.underlying24 notes_inf rfl (Nat.le_of_ble_eq_true rfl) rfl rfl (Lib.hid rfl) (Lib.hid rfl) (Lib.hid rfl) t1 t2 t3 hb60.out ?_; intro g2 d2 w2 O2 hb2 hk2; have hbq2 := (bnew hbq1 (.cells #[.int .i64 x, .int .i64 y] 38)).trans (hb2.mono hlow))
    | (go_at_call 71; with_reducible refine (impl_copyNotes (w := (wN.alloc (.cells #[.int .i64 x, .int .i64 y] 38)).drew) (HR.out _ D4.out)).mono ?_; rintro e w1 ⟨gq1, d1, rfl, O1, hq1⟩; have hbq1 := D4.out.trans (hq1.mono D4.out.size); have hp1 := hpD.out.below hq1; have hlow := D4.out.size)
    | (go_at_call 71; with_reducible refine (impl_copyNotes (w := wN.drew) (HR.out _ hdr.out)).mono ?_; rintro e w1 ⟨gq1, d1, rfl, O1, hq1⟩; have hbq1 := hdr.out.trans (hq1.mono hdr.out.size); have hlow := hdr.out.size; have hlo : Hid (∀ n, n ≤ w1.heap.size → n ≤ (w1.alloc (.cells #[.int .i64 x, .int .i64 y] 38)).heap.size) := Lib.hid (fun (n : Nat) h => Nat.le_trans h (bnew (Below.refl w1.heap.size w1) (.cells #[.int .i64 x, .int .i64 y] 38)).size)))
  all_goals
    rw [add_sort (n := (x, y)) g1] at O3
    try rw [add_sort (n := (x, y)) g1]
    have hbel3 := Lib.hid (hbw.out.trans (hbq3.mono hbw.out.size))
    have O4 := Lib.hid (O3.lo_mono (lo' := w.heap.size) (hbw.out.trans (hbq2.mono hbw.out.size)).size)
    have hnew := Lib.hid (add_new (n := (x, y)) g1 hm)
    clear O3 O2 O1 hbq3 hbq2 hbq1
    go_wp2_with fail
    refine (impl_TuneOk O4.out.reads).mono ?_
    rintro e w5 ⟨rfl, hq5⟩
    cases g5 : tuneOk (insU (x, y) l)
    · have hk := hnew.out.trans g5
      go_wp2_with fail
      refine (impl_copyNotes (H.out.below (bthen hbel3.out hq5))).mono ?_
      rintro e w6 ⟨g6, d6, rfl, O6, hq6⟩
      go_wp2
      go_ret2
      rw [add_no hk, hk]
      exact ⟨_, _, rfl, O6.lo_mono (bthen hbel3.out hq5).size, bthen (bthen hbel3.out hq5) hq6⟩
    · have hk := hnew.out.trans g5
      go_wp2
      go_ret2
      rw [add_yes hk, hk]
      exact ⟨_, _, rfl, (O4.out.below hq5 O4.out.le).hi_mono (Nat.le_trans O4.out.le hq5.size) (Nat.le_refl _), bthen hbel3.out hq5⟩
set_option maxHeartbeats 2000000 in
theorem spec_AddNote {l : List (Int × Int)} {A : Option Addr} {c : Nat} {x y : Int} {w : World} (h : RP w A l) :
    Calls Try.prog 34 #[.slice A l.length c, .agg #[.int .i64 x, .int .i64 y]] w fun e w' => ∃ B d, e = .returned (.tuple #[.slice B (addL l (x, y)).length d, .bool (addOk l (x, y))]) ∧ OwnP 38 w.heap.size w'.heap.size w' B d (addL l (x, y)) ∧ Below w.heap.size w w' := by
  have hn := h.1
  have H := Lib.hid h; clear h
  go_enter Try.func34, Try.ntmps34
  go_wp2_with fail
  generalize hW : World.alloc w _ = W1
  obtain ⟨hbel, _, p0, p1⟩ := new2c hW
  clear hW
  refine (spec_TuneOk (H.out.below hbel)).mono ?_
  rintro e w1 ⟨rfl, hq⟩
  replace p0 := cell_later p0 hq; replace p1 := cell_later p1 hq
  replace hbel := bthen hbel hq
  clear hq
  cases g1 : tuneOk l
  · have hk := add_bad (n := (x, y)) g1
    have hL := add_no hk
    go_wp2_with fail
    refine (spec_l02Copy (H.out.below hbel)).mono ?_
    rintro e w2 ⟨g, d, rfl, O, hq⟩
    go_wp2
    go_ret2
    rw [hL, hk]
    exact ⟨_, _, rfl, O.lo_mono hbel.size, bthen hbel hq⟩
  have h40 := (tuneOk_parts g1).1
  by_cases hfull : l.length = 40
  · have hk := add_full (n := (x, y)) g1 hfull
    have hL := add_no hk
    have hs0 : ((l.length : Int) == 40) = true := by rw [hfull]; rfl
    clear hfull
    go_wp2_with fail
    refine (spec_l02Copy (H.out.below hbel)).mono ?_
    rintro e w2 ⟨g, d, rfl, O, hq⟩
    go_wp2
    go_ret2
    rw [hL, hk]
    exact ⟨_, _, rfl, O.lo_mono hbel.size, bthen hbel hq⟩
  have hs0 : ((l.length : Int) == 40) = false := beq_eq_false_iff_ne.2 (by omega)
  obtain ⟨wN, hwN⟩ : ∃ W, W = w1 := ⟨_, rfl⟩
  subst hwN
  have hbw := Lib.hid hbel
  have HR : Hid (∀ W, Below wN.heap.size wN W → RP W A l) := fun W h => H.out.below (bthen hbel h)
  have HK : Hid (∀ W, Below wN.heap.size wN W → W.cell? ⟨w.heap.size, 0, none⟩ = some (.int .i64 x) ∧ W.cell? ⟨w.heap.size, 1, none⟩ = some (.int .i64 y) ∧ Below wN.heap.size wN W) := fun W h => ⟨cell_later p0 h, cell_later p1 h, h⟩
  have hdr := Lib.hid ((Below.refl wN.heap.size wN).drew)
  have D4 : Hid (Below wN.heap.size wN (wN.alloc (.cells #[.int .i64 x, .int .i64 y] 38)).drew) := (bnew (Below.refl _ _) _).drew
  have hpD : Hid (RP (wN.alloc (.cells #[.int .i64 x, .int .i64 y] 38)).drew (some ⟨wN.heap.size, 0, none⟩) [(x, y)]) := (pairAt (w := wN) rfl).below (Below.refl _ _).drew
  have hb60 : Hid (l.length + 1 ≤ 1048576) := Lib.hid (by omega)
  have lenS : Hid ((l ++ [(x, y)]).length = l.length + 1) := by show _ = _; rw [List.length_append]; rfl
  clear hbel p0 p1
  go_wp2_with fail
  go_region_held3 (fun W => W.cell? ⟨w.heap.size, 0, none⟩ = some (.int .i64 x) ∧ W.cell? ⟨w.heap.size, 1, none⟩ = some (.int .i64 y) ∧ Below wN.heap.size wN W) (with_reducible (first | exact HK.out _ hbq3 | exact HK.out _ hbq2 | exact HK.out _ (bnew hbq1 _) | exact HK.out _ hbq1 | exact HK.out _ hdr.out | exact HK.out _ D4.out)) (first
    | (go_at_call 16; have hs := spec_SortNotes (c := d2) O2.reads; rw [lenS.out] at hs; refine hs.mono ?_; rintro e w3 ⟨B3, d3, rfl, O3, hq3⟩; have hbq3 := hbq2.trans (hq3.mono hbq2.size))
    | (have hmk := hp1; refine step_app_pairs2 (l := l) (m := [(x, y)]) (c2 := 1) (.tmp 18) (.tmp 20) 24 38 rfl rfl Try.underlying24 notes_inf rfl (Nat.le_of_ble_eq_true rfl) rfl rfl (Lib.hid rfl) (Lib.hid rfl) (Lib.hid rfl) O1 hq1.size hp1 hb60.out ?_; intro g2 d2 w2 O2 hb2 hk2; have hbq2 := hbq1.trans (hb2.mono hlow))
    | (have hmk := hbq1; have t1 := O1.new (.cells #[.int .i64 x, .int .i64 y] 38); have t2 := hlo.out _ hq1.size; have t3 := pairAt (w := w1) (x := x) (y := y) (T := 38) rfl; refine step_app_pairs2 (l := l) (m := [(x, y)]) (c2 := 1) (.tmp 18) (.tmp 20) 24 38 rfl rfl Try.underlying24 notes_inf rfl (Nat.le_of_ble_eq_true rfl) rfl rfl (Lib.hid rfl) (Lib.hid rfl) (Lib.hid rfl) t1 t2 t3 hb60.out ?_; intro g2 d2 w2 O2 hb2 hk2; have hbq2 := (bnew hbq1 (.cells #[.int .i64 x, .int .i64 y] 38)).trans (hb2.mono hlow))
    | (go_at_call 58; with_reducible refine (spec_l02Copy (w := (wN.alloc (.cells #[.int .i64 x, .int .i64 y] 38)).drew) (HR.out _ D4.out)).mono ?_; rintro e w1 ⟨gq1, d1, rfl, O1, hq1⟩; have hbq1 := D4.out.trans (hq1.mono D4.out.size); have hp1 := hpD.out.below hq1; have hlow := D4.out.size)
    | (go_at_call 58; with_reducible refine (spec_l02Copy (w := wN.drew) (HR.out _ hdr.out)).mono ?_; rintro e w1 ⟨gq1, d1, rfl, O1, hq1⟩; have hbq1 := hdr.out.trans (hq1.mono hdr.out.size); have hlow := hdr.out.size; have hlo : Hid (∀ n, n ≤ w1.heap.size → n ≤ (w1.alloc (.cells #[.int .i64 x, .int .i64 y] 38)).heap.size) := Lib.hid (fun (n : Nat) h => Nat.le_trans h (bnew (Below.refl w1.heap.size w1) (.cells #[.int .i64 x, .int .i64 y] 38)).size)))
  all_goals
    have hsn : sortN (l ++ [(x, y)]) = insU (x, y) l := (if_pos (by rw [lenS.out]; omega)).trans (add_sort g1)
    rw [hsn] at O3
    try rw [hsn]
    have hbel3 := Lib.hid (hbw.out.trans (hbq3.mono hbw.out.size))
    have O4 := Lib.hid (O3.lo_mono (lo' := w.heap.size) (hbw.out.trans (hbq2.mono hbw.out.size)).size)
    clear O3 O2 O1 hbq3 hbq2 hbq1 hsn
    by_cases hm : (x, y) ∈ l
    · have hk := add_has hm
      have he : (((insU (x, y) l).length : Int) == (l.length : Int)) = true := by rw [(add_grown g1).2 hm]; simp
      go_wp2_with fail
      refine (spec_l02Copy (H.out.below hbel3.out)).mono ?_
      rintro e w6 ⟨g6, d6, rfl, O6, hq6⟩
      go_wp2
      go_ret2
      rw [add_no hk, hk]
      exact ⟨_, _, rfl, O6.lo_mono hbel3.out.size, bthen hbel3.out hq6⟩
    have hnew := Lib.hid (add_new (n := (x, y)) g1 hm)
    have he : (((insU (x, y) l).length : Int) == (l.length : Int)) = false := beq_eq_false_iff_ne.2 (fun h => hm ((add_grown g1).1 (by omega)))
    go_wp2_with fail
    refine (spec_TuneOk O4.out.reads).mono ?_
    rintro e w5 ⟨rfl, hq5⟩
    cases g5 : tuneOk (insU (x, y) l)
    · have hk := hnew.out.trans g5
      go_wp2_with fail
      refine (spec_l02Copy (H.out.below (bthen hbel3.out hq5))).mono ?_
      rintro e w6 ⟨g6, d6, rfl, O6, hq6⟩
      go_wp2
      go_ret2
      rw [add_no hk, hk]
      exact ⟨_, _, rfl, O6.lo_mono (bthen hbel3.out hq5).size, bthen (bthen hbel3.out hq5) hq6⟩
    · have hk := hnew.out.trans g5
      go_wp2
      go_ret2
      rw [add_yes hk, hk]
      exact ⟨_, _, rfl, (O4.out.below hq5 O4.out.le).hi_mono (Nat.le_trans O4.out.le hq5.size) (Nat.le_refl _), bthen hbel3.out hq5⟩
end Go.Proofs.Ytkipgjllgmjipaa
