/- Copies of cylinders: the program's copyPins and copyCylinder, the reference's l06Copy. -/
import Derived.Test.YtkipgjllgmjipaaCylB
import Derived.Test.YtkipgjllgmjipaaCylOk
import Derived.Test.YtkipgjllgmjipaaStepA
import Derived.Deep.RegionHeld3
namespace Go.Proofs.Ytkipgjllgmjipaa
open Go.RowKit
set_option linter.unusedVariables false
theorem pins_inf : (Try.prog.info? 63).map (fun i => (i.zero, i.size, i.bytes)) = some (some (.agg #[.int .i64 0, .int .i64 0]), 2, 16) := by kernel_rfl
theorem impl_copyPins {l : List (Int × Int)} {A : Option Addr} {c : Nat} {w : World} (h : RP w A l) :
    Calls Try.prog 98 #[.slice A l.length c] w fun e w' => ∃ g d, e = .returned (.slice (some ⟨g, 0, none⟩) l.length d) ∧ OwnP 63 w.heap.size w'.heap.size w' (some ⟨g, 0, none⟩) d l ∧ Below w.heap.size w w' := by
  have hn := h.1
  have H := Lib.hid h; clear h
  go_enter Try.func98, Try.ntmps98
  go_wp2_with (at_builtin; refine wpList_app_pairs' (l := []) (m := l) (.tmp 3) (.tmp 4) 51 63 rfl rfl Try.underlying51 pins_inf rfl (by decide) rfl rfl (own_emptyP 63) (by simp) (H.out.below (bnew (Below.refl _ _) _)) (by simpa using hn) ?_; intro g' d' w2 hown hb2)
  go_ret
  rw [List.nil_append] at hown
  exact ⟨_, _, by simp, hown, (bnew (Below.refl _ _) _).trans hb2⟩
set_option maxHeartbeats 400000 in
theorem impl_copyCylinder {s t : Int} {l : List (Int × Int)} {A : Option Addr} {c : Nat} {w : World} (h : RP w A l) :
    Calls Try.prog 83 #[.agg #[.int .i64 s, .int .i64 t, .slice A l.length c]] w fun e w' => ∃ g d, e = .returned (.agg #[.int .i64 s, .int .i64 t, .slice (some ⟨g, 0, none⟩) l.length d]) ∧ OwnP 63 w.heap.size w'.heap.size w' (some ⟨g, 0, none⟩) d l ∧ Below w.heap.size w w' := by
  have H := Lib.hid h; clear h
  go_enter Try.func83, Try.ntmps83
  go_wp2_with fail
  generalize hW1 : World.alloc w _ = W1
  obtain ⟨b1, z1, r0, r1, r2⟩ := new3c hW1
  have t0 := new_frozen hW1 0; have t1 := new_frozen hW1 1; have t2 := new_frozen hW1 2
  generalize hW2 : World.alloc W1 _ = W2
  obtain ⟨b2, z2, p0, p1, p2⟩ := new3c hW2
  have q0 := new_frozen hW2 0; have q1 := new_frozen hW2 1; have q2 := new_frozen hW2 2
  rw [z1] at p0 p1 p2 q0 q1 q2
  clear hW1 hW2
  have hb : Below w.heap.size w W2 := bthen b1 b2
  refine (impl_copyPins (H.out.below hb)).mono ?_
  rintro e wq ⟨g, d, rfl, O, hq⟩
  have r0' := cell_later r0 (bthen b2 hq); have r1' := cell_later r1 (bthen b2 hq); have r2' := cell_later r2 (bthen b2 hq)
  have t2' := ((bthen b2 hq).frozen (p := ⟨w.heap.size, 2, none⟩) (by simp only; omega)).trans t2
  have p0' := cell_later p0 hq; have p1' := cell_later p1 hq; have p2' := cell_later p2 hq
  have q0' := (hq.frozen (p := ⟨w.heap.size + 1, 0, none⟩) (by simp only; omega)).trans q0
  have q1' := (hq.frozen (p := ⟨w.heap.size + 1, 1, none⟩) (by simp only; omega)).trans q1
  have q2' := (hq.frozen (p := ⟨w.heap.size + 1, 2, none⟩) (by simp only; omega)).trans q2
  have O' := Lib.hid O
  clear p0 p1 p2 q0 q1 q2 r0 r1 r2 t0 t1 t2 O
  have hz := hq.size
  have hlow := hb.trans (hq.mono hb.size)
  clear hb hq b1 b2
  have HB := Lib.hid hlow; clear hlow
  have Z := Lib.hid (And.intro hz (And.intro z1 z2))
  clear hz z1 z2
  go_wp2
  refine bodyPost_ret (v := .agg #[.int .i64 s, .int .i64 t, .slice (some ⟨g, 0, none⟩) l.length d]) (by simp [results, Try.results83, go_sem, *]) rfl ?_
  obtain ⟨hz, z1, z2⟩ := Z.out
  have K := ((((Kept.refl w.heap.size (w.heap.size + 2) wq).setCell (p := ⟨w.heap.size, 2, none⟩) (by simp only; omega) (by simp only; omega) (.slice (some ⟨g, 0, none⟩) l.length d)).setCell (p := ⟨w.heap.size + 1, 0, none⟩) (by simp only; omega) (by simp only; omega) (.int .i64 s)).setCell (p := ⟨w.heap.size + 1, 1, none⟩) (by simp only; omega) (by simp only; omega) (.int .i64 t)).setCell (p := ⟨w.heap.size + 1, 2, none⟩) (by simp only; omega) (by simp only; omega) (.slice (some ⟨g, 0, none⟩) l.length d)
  have O2 := (O'.out.kept K (.inr (by omega))).lo_mono (lo' := w.heap.size) (by omega)
  exact ⟨g, d, rfl, O2.hi_mono K.size (Nat.le_refl _), HB.out.trans (K.below (by omega) (Nat.le_refl _))⟩
/-- append of nothing at a step of a region that draws its order. -/
theorem step_app_none {P : Program} {ops : Array Oper} {o : Oper} {a : Act} {K : Act → World → Prop} {Q : Exit → Act → World → Prop} {E : Prop} {wr : World} {z : Value} {size bytes lo hi c c2 : Nat} {A : Option Addr} {l : List (Int × Int)} (s x : Operand) (t e : TypeId) (hgd : o.guard = none)
    (ho : o.op = .call { callee := .builtin .append, args := #[s, x], argTypes := #[t, t] }) (ht : P.underlying t = some (.slice e))
    (hinfo : (P.info? e).map (fun i => (i.zero, i.size, i.bytes)) = some (some z, size, bytes))
    (hs : a.eval s = .slice A l.length c) (hx : a.eval x = .slice none 0 c2) (hown : OwnP e lo hi wr A c l)
    (h : ∀ w', OwnP e lo hi w' A c l → Below wr.heap.size wr w' → K (a.put o.dst (.slice A l.length c)) w') : if Region.wanted o (yielded ops a.tmps) = true then Oper.wp P o a wr K Q else E := by
  have hw : Region.wanted o (yielded ops a.tmps) = true := by simp [Region.wanted, hgd]
  rw [if_pos hw]
  obtain ⟨i, hi, _, _, _⟩ := info_parts hinfo
  unfold Oper.wp execOp
  simp only [ho, resolve, invoke, builtin, Sem.run_bind, Sem.run_pure, Result.andThen_ok, List.map_toArray, List.map_cons, List.map_nil, hs, hx, run_append_none (ty := o.type) (c2 := c2) ht hi hown.row]
  exact h wr hown (Below.refl _ _)
set_option maxHeartbeats 1000000 in
theorem spec_l06Copy {s t : Int} {l : List (Int × Int)} {A : Option Addr} {c : Nat} {w : World} (h : RP w A l) :
    Calls Try.prog 79 #[.agg #[.int .i64 s, .int .i64 t, .slice A l.length c]] w fun e w' => ∃ g d, e = .returned (.agg #[.int .i64 s, .int .i64 t, .slice (some ⟨g, 0, none⟩) l.length d]) ∧ OwnP 63 w.heap.size w'.heap.size w' (some ⟨g, 0, none⟩) d l ∧ Below w.heap.size w w' := by
  have hn := h.1
  have H := Lib.hid h; clear h
  cases A with
  | none =>
    have hl0 : l = [] := List.eq_nil_of_length_eq_zero (Nat.eq_zero_of_not_pos fun hp => by obtain ⟨_, _, hA, _⟩ := H.out.2 hp; cases hA)
    subst hl0
    clear H
    go_enter Try.func79, Try.ntmps79
    go_wp2_with fail
    generalize hW1 : World.alloc w _ = W1
    obtain ⟨b1, z1, r0, r1, r2⟩ := new3c hW1
    generalize hW2 : World.alloc W1 _ = W2
    obtain ⟨b2, z2, p0, p1, p2⟩ := new3c hW2
    have q0 := new_frozen hW2 0; have q1 := new_frozen hW2 1; have q2 := new_frozen hW2 2
    rw [z1] at p0 p1 p2 q0 q1 q2
    clear hW1 hW2
    replace r0 := cell_later r0 b2; replace r1 := cell_later r1 b2; replace r2 := cell_later r2 b2
    have hb := Lib.hid (bthen b1 b2)
    have Z := Lib.hid (And.intro z1 z2)
    have D1 : Hid (Below W2.heap.size W2 (W2.alloc (.cells #[] 63)).drew) := (bnew (Below.refl _ _) _).drew
    have F1 : Hid (OwnP 63 W2.heap.size (W2.heap.size + 1) (W2.alloc (.cells #[] 63)).drew (some ⟨W2.heap.size, 0, none⟩) 0 []) := (own_emptyAtP _ rfl).drew
    have L1 : Hid (W2.heap.size ≤ ((W2.alloc (.cells #[] 63)).drew).heap.size) := D1.out.size
    have HK : Hid (∀ W, Below W2.heap.size W2 W → W.cell? ⟨w.heap.size, 0, none⟩ = some (.int .i64 s) ∧ W.cell? ⟨w.heap.size, 1, none⟩ = some (.int .i64 t) ∧ W.cell? ⟨w.heap.size, 2, none⟩ = some (.slice none 0 c)) := fun W h => ⟨cell_later r0 h, cell_later r1 h, cell_later r2 h⟩
    have hdr := Lib.hid ((Below.refl W2.heap.size W2).drew)
    have HP : Hid (∀ W, Below W2.heap.size W2 W → (W.cell? ⟨w.heap.size + 1, 0, none⟩ = some (.int .i64 0) ∧ W.cell? ⟨w.heap.size + 1, 1, none⟩ = some (.int .i64 0) ∧ W.cell? ⟨w.heap.size + 1, 2, none⟩ = some (.slice none 0 0)) ∧ W.frozen? ⟨w.heap.size + 1, 0, none⟩ = false ∧ W.frozen? ⟨w.heap.size + 1, 1, none⟩ = false ∧ W.frozen? ⟨w.heap.size + 1, 2, none⟩ = false) := fun W h =>
      ⟨⟨cell_later p0 h, cell_later p1 h, cell_later p2 h⟩, (h.frozen (p := ⟨w.heap.size + 1, 0, none⟩) (by simp only; omega)).trans q0, (h.frozen (p := ⟨w.heap.size + 1, 1, none⟩) (by simp only; omega)).trans q1, (h.frozen (p := ⟨w.heap.size + 1, 2, none⟩) (by simp only; omega)).trans q2⟩
    clear r0 r1 r2 p0 p1 p2 q0 q1 q2 b1 b2 z1 z2
    go_wp2_with fail
    go_region_held3 (fun W => W.cell? ⟨w.heap.size, 0, none⟩ = some (.int .i64 s) ∧ W.cell? ⟨w.heap.size, 1, none⟩ = some (.int .i64 t) ∧ W.cell? ⟨w.heap.size, 2, none⟩ = some (.slice none 0 c)) (first | exact HK.out _ hbq1 | exact HK.out _ hdr.out | exact HK.out _ D1.out | go_keep) (first
      | (refine step_app_none (l := []) (c2 := c) (.tmp 7) (.tmp 9) 51 63 rfl rfl Try.underlying51 pins_inf rfl rfl F1.out ?_; intro w1 O1 hb1; have hbq1 := D1.out.trans (hb1.mono D1.out.size); obtain ⟨⟨p0, p1, p2⟩, q0, q1, q2⟩ := HP.out w1 hbq1))
    all_goals
      have HB := Lib.hid (hb.out.trans (hbq1.mono hb.out.size))
      have hz := hbq1.size
      have O' := Lib.hid O1
      clear O1 hbq1 hb1 D1 F1 L1 HK HP hdr
      go_wp2
      refine bodyPost_ret (v := .agg #[.int .i64 s, .int .i64 t, .slice (some ⟨W2.heap.size, 0, none⟩) 0 0]) (by simp [results, Try.results79, go_sem, *]) rfl ?_
      obtain ⟨z1, z2⟩ := Z.out
      have K := (((Kept.refl (w.heap.size + 1) (w.heap.size + 2) w1).setCell (p := ⟨w.heap.size + 1, 0, none⟩) (by simp only; omega) (by simp only; omega) (.int .i64 s)).setCell (p := ⟨w.heap.size + 1, 1, none⟩) (by simp only; omega) (by simp only; omega) (.int .i64 t)).setCell (p := ⟨w.heap.size + 1, 2, none⟩) (by simp only; omega) (by simp only; omega) (.slice (some ⟨W2.heap.size, 0, none⟩) 0 0)
      have O2 := (O'.out.kept K (.inr (by omega))).lo_mono (lo' := w.heap.size) (by omega)
      exact ⟨W2.heap.size, 0, rfl, O2.hi_mono (Nat.le_trans O'.out.le K.size) (Nat.le_refl _), HB.out.trans (K.below (by omega) (by omega))⟩
  | some ad =>
    go_enter Try.func79, Try.ntmps79
    go_wp2_with fail
    generalize hW1 : World.alloc w _ = W1
    obtain ⟨b1, z1, r0, r1, r2⟩ := new3c hW1
    generalize hW2 : World.alloc W1 _ = W2
    obtain ⟨b2, z2, p0, p1, p2⟩ := new3c hW2
    have q0 := new_frozen hW2 0; have q1 := new_frozen hW2 1; have q2 := new_frozen hW2 2
    rw [z1] at p0 p1 p2 q0 q1 q2
    clear hW1 hW2
    replace r0 := cell_later r0 b2; replace r1 := cell_later r1 b2; replace r2 := cell_later r2 b2
    have hb := Lib.hid (bthen b1 b2)
    have Z := Lib.hid (And.intro z1 z2)
    have D1 : Hid (Below W2.heap.size W2 (W2.alloc (.cells #[] 63)).drew) := (bnew (Below.refl _ _) _).drew
    have F1 : Hid (OwnP 63 W2.heap.size (W2.heap.size + 1) (W2.alloc (.cells #[] 63)).drew (some ⟨W2.heap.size, 0, none⟩) 0 []) := (own_emptyAtP _ rfl).drew
    have HR : Hid (RP (W2.alloc (.cells #[] 63)).drew (some ad) l) := H.out.below (bthen hb.out D1.out)
    have L1 : Hid (W2.heap.size ≤ ((W2.alloc (.cells #[] 63)).drew).heap.size) := D1.out.size
    have HK : Hid (∀ W, Below W2.heap.size W2 W → W.cell? ⟨w.heap.size, 0, none⟩ = some (.int .i64 s) ∧ W.cell? ⟨w.heap.size, 1, none⟩ = some (.int .i64 t) ∧ W.cell? ⟨w.heap.size, 2, none⟩ = some (.slice (some ad) l.length c)) := fun W h => ⟨cell_later r0 h, cell_later r1 h, cell_later r2 h⟩
    have hdr := Lib.hid ((Below.refl W2.heap.size W2).drew)
    have HP : Hid (∀ W, Below W2.heap.size W2 W → (W.cell? ⟨w.heap.size + 1, 0, none⟩ = some (.int .i64 0) ∧ W.cell? ⟨w.heap.size + 1, 1, none⟩ = some (.int .i64 0) ∧ W.cell? ⟨w.heap.size + 1, 2, none⟩ = some (.slice none 0 0)) ∧ W.frozen? ⟨w.heap.size + 1, 0, none⟩ = false ∧ W.frozen? ⟨w.heap.size + 1, 1, none⟩ = false ∧ W.frozen? ⟨w.heap.size + 1, 2, none⟩ = false) := fun W h =>
      ⟨⟨cell_later p0 h, cell_later p1 h, cell_later p2 h⟩, (h.frozen (p := ⟨w.heap.size + 1, 0, none⟩) (by simp only; omega)).trans q0, (h.frozen (p := ⟨w.heap.size + 1, 1, none⟩) (by simp only; omega)).trans q1, (h.frozen (p := ⟨w.heap.size + 1, 2, none⟩) (by simp only; omega)).trans q2⟩
    clear r0 r1 r2 p0 p1 p2 q0 q1 q2 b1 b2 z1 z2
    go_wp2_with fail
    go_region_held3 (fun W => W.cell? ⟨w.heap.size, 0, none⟩ = some (.int .i64 s) ∧ W.cell? ⟨w.heap.size, 1, none⟩ = some (.int .i64 t) ∧ W.cell? ⟨w.heap.size, 2, none⟩ = some (.slice (some ad) l.length c)) (first | exact HK.out _ hbq1 | exact HK.out _ hdr.out | exact HK.out _ D1.out | go_keep) (first
      | (refine step_app_pairs2 (l := []) (m := l) (c2 := c) (.tmp 7) (.tmp 9) 51 63 rfl rfl Try.underlying51 pins_inf rfl (Nat.le_of_ble_eq_true rfl) rfl rfl (Lib.hid rfl) (Lib.hid rfl) (Lib.hid (Nat.zero_add _)) F1.out L1.out HR.out hn ?_; intro g1 d1 w1 O1 hb1 hk1; have hbq1 := D1.out.trans hb1; obtain ⟨⟨p0, p1, p2⟩, q0, q1, q2⟩ := HP.out w1 hbq1))
    all_goals
      have HB := Lib.hid (hb.out.trans (hbq1.mono hb.out.size))
      have hz := hbq1.size
      have O' := Lib.hid O1
      clear O1 hbq1 hb1 D1 F1 HR L1 HK HP hdr
      go_wp2
      refine bodyPost_ret (v := .agg #[.int .i64 s, .int .i64 t, .slice (some ⟨g1, 0, none⟩) l.length d1]) (by simp [results, Try.results79, go_sem, *]) rfl ?_
      obtain ⟨z1, z2⟩ := Z.out
      have K := (((Kept.refl (w.heap.size + 1) (w.heap.size + 2) w1).setCell (p := ⟨w.heap.size + 1, 0, none⟩) (by simp only; omega) (by simp only; omega) (.int .i64 s)).setCell (p := ⟨w.heap.size + 1, 1, none⟩) (by simp only; omega) (by simp only; omega) (.int .i64 t)).setCell (p := ⟨w.heap.size + 1, 2, none⟩) (by simp only; omega) (by simp only; omega) (.slice (some ⟨g1, 0, none⟩) l.length d1)
      have O2 := (O'.out.kept K (.inr (by omega))).lo_mono (lo' := w.heap.size) (by omega)
      rw [List.nil_append] at O2
      exact ⟨g1, d1, rfl, O2.hi_mono K.size (Nat.le_refl _), HB.out.trans (K.below (by omega) (by omega))⟩
end Go.Proofs.Ytkipgjllgmjipaa
