/- TurnBy: what the program's and the reference's answer. -/
import Derived.Test.YtkipgjllgmjipaaPinC
import Derived.Test.YtkipgjllgmjipaaPinsAt
import Derived.Test.YtkipgjllgmjipaaTail
namespace Go.Proofs.Ytkipgjllgmjipaa
open Go.RowKit
set_option linter.unusedVariables false
theorem stored2 {e : TypeId} {lo hi g c : Nat} {w : World} {l : List (Int × Int)} (h : OwnP e lo hi w (some ⟨g, 0, none⟩) c l) {k : Nat} (hk : k < l.length) {x y : Int} (e1 : (l.getD k (0, 0)).1 = x) :
    OwnP e lo hi (w.setCell ⟨g, k * 2 + 1, none⟩ (.int .i64 y)) (some ⟨g, 0, none⟩) c (l.set k (x, y)) := by
  have h1 := (h.row.stored (k * 2 + 1) (.int .i64 y)).1
  have h2 : (pcells l).set (k * 2 + 1) (.int .i64 y) = pcells (l.set k (x, y)) := by
    rw [← pcells_set]
    congr 1
    have hl : k * 2 < (pcells l).length := by rw [length_pcells]; omega
    have h3 := (pcells_at l k hk).1
    rw [e1, List.getElem?_eq_getElem hl] at h3
    injection h3 with h3
    rw [← h3, List.set_getElem_self]
  rw [h2] at h1
  exact ⟨by rw [List.length_set]; exact h1, h.top, by have := h.le; simpa [World.setCell] using this, by rw [List.length_set]; exact h.small⟩
theorem fill_at {L l : List (Int × Int)} {k : Nat} (h : L.length = l.length) (hk : k < l.length) : (fill L l k).getD k (0, 0) = l.getD k (0, 0) := by
  unfold fill
  rw [List.getD_eq_getElem?_getD, List.getElem?_append_right (by rw [List.length_take]; omega), List.getElem?_drop, List.getD_eq_getElem?_getD, List.length_take]
  congr 2
  omega
theorem own1 {e : TypeId} {lo hi g c : Nat} {w : World} {l : List (Int × Int)} (h : OwnP e lo hi w (some ⟨g, 0, none⟩) c l) {k : Nat} (hk : k < l.length) {x y : Int} (e2 : Hid (l.getD k (0, 0) = (x, y))) : w.cell? ⟨g, k * 2 + 1, none⟩ = some (.int .i64 y) := by
  have h1 := (h.row.cellAt (k * 2 + 1) (by omega)).trans (pcells_at l k hk).2
  rw [e2.out] at h1; exact h1
theorem turn_next {s b : Int} {l : List (Int × Int)} {k : Nat} (hk : k < l.length) {x y : Int} (e : Hid (l.getD k (0, 0) = (x, y))) : (fill (turnAll s b l) l k).set k (x, modM (y + b) s) = fill (turnAll s b l) l (k + 1) := by
  have h := fill_set (turnAll s b l) l k (by rw [length_turnAll]) (by rw [length_turnAll]; exact hk) (0, 0)
  rw [turn_at hk e] at h
  exact h
set_option maxHeartbeats 1000000 in
theorem impl_TurnBy {s t b : Int} {l : List (Int × Int)} {A : Option Addr} {c : Nat} {w : World} (h : RP w A l) :
    Calls Try.prog 44 #[.agg #[.int .i64 s, .int .i64 t, .slice A l.length c], .int .i64 b] w fun e w' => ∃ B d, e = .returned (.agg #[.int .i64 s, .int .i64 t, .slice B (turnL s t l b).length d]) ∧ OwnP 63 w.heap.size w'.heap.size w' B d (turnL s t l b) ∧ Below w.heap.size w w' := by
  have hn := h.1
  have H := Lib.hid h; clear h
  go_enter Try.func44, Try.ntmps44
  go_wp2_with fail
  generalize hW1 : World.alloc w _ = W1
  obtain ⟨b1, z1, r0, r1, r2⟩ := new3c hW1
  generalize hW2 : World.alloc W1 _ = W2
  obtain ⟨b2, z2, u0, u1, u2⟩ := new3c hW2
  have q0 := new_frozen hW2 0; have q1 := new_frozen hW2 1; have q2 := new_frozen hW2 2
  rw [z1] at u0 u1 u2 q0 q1 q2
  clear hW1 hW2
  replace r0 := cell_later r0 b2; replace r1 := cell_later r1 b2; replace r2 := cell_later r2 b2
  have hb := bthen b1 b2
  clear b1 b2
  have zz : W2.heap.size = w.heap.size + 2 := by omega
  clear z1 z2
  have HR : Hid (∀ W, Below W2.heap.size W2 W → W.cell? ⟨w.heap.size, 0, none⟩ = some (.int .i64 s) ∧ W.cell? ⟨w.heap.size, 1, none⟩ = some (.int .i64 t) ∧ W.cell? ⟨w.heap.size, 2, none⟩ = some (.slice A l.length c)) := fun W h =>
    ⟨cell_later r0 h, cell_later r1 h, cell_later r2 h⟩
  have HU : Hid (∀ W, Below W2.heap.size W2 W → (W.cell? ⟨w.heap.size + 1, 0, none⟩ = some (.int .i64 0) ∧ W.cell? ⟨w.heap.size + 1, 1, none⟩ = some (.int .i64 0) ∧ W.cell? ⟨w.heap.size + 1, 2, none⟩ = some (.slice none 0 0)) ∧ W.frozen? ⟨w.heap.size + 1, 0, none⟩ = false ∧ W.frozen? ⟨w.heap.size + 1, 1, none⟩ = false ∧ W.frozen? ⟨w.heap.size + 1, 2, none⟩ = false) := fun W h =>
    ⟨⟨cell_later u0 h, cell_later u1 h, cell_later u2 h⟩, (h.frozen (p := ⟨w.heap.size + 1, 0, none⟩) (by simp only; omega)).trans q0, (h.frozen (p := ⟨w.heap.size + 1, 1, none⟩) (by simp only; omega)).trans q1, (h.frozen (p := ⟨w.heap.size + 1, 2, none⟩) (by simp only; omega)).trans q2⟩
  clear r0 r1 r2 u0 u1 u2 q0 q1 q2
  have HRP : Hid (∀ W, Below W2.heap.size W2 W → RP W A l) := fun W h => H.out.below (bthen hb h)
  have HBW : Hid (∀ W, Below W2.heap.size W2 W → Below w.heap.size w W) := fun W h => bthen hb h
  clear hb
  refine (impl_copyCylinder (HRP.out W2 (Below.refl _ _))).mono ?_
  rintro e w1 ⟨g, d, rfl, O, hq⟩
  obtain ⟨r0, r1, r2⟩ := HR.out w1 hq
  have hbo := bnew (Below.refl w1.heap.size w1) (.cells #[.int .i64 s, .int .i64 t, .slice (some ⟨g, 0, none⟩) l.length d] 53)
  have y0 := cell_later r0 hbo; have y1 := cell_later r1 hbo; have y2 := cell_later r2 hbo
  clear hbo
  go_wp2_with fail
  clear y0 y1 y2 r0 r1 r2
  generalize hW3 : World.alloc w1 _ = W3
  obtain ⟨b3, z3, d0, d1, d2⟩ := new3c hW3
  have f2 := new_frozen hW3 2
  clear hW3
  have hz1 := hq.size
  have hq3 := bthen hq b3
  refine (impl_CylinderOk (HRP.out W3 hq3)).mono ?_
  rintro e w2 ⟨rfl, hq2⟩
  have O2 := Lib.hid ((O.below b3 O.le).below hq2 (by omega))
  replace d0 := cell_later d0 hq2; replace d1 := cell_later d1 hq2; replace d2 := cell_later d2 hq2
  replace f2 := (hq2.frozen (p := ⟨w1.heap.size, 2, none⟩) (by simp only; omega)).trans f2
  have hq32 := bthen hq3 hq2
  have hz2 := hq2.size
  have htop : g < w1.heap.size := O.top _ rfl
  clear O hq hq3 hq2 b3
  cases g1 : cylOk s t l
  · have hL := Lib.hid (turn_no (s := s) (t := t) (l := l) (b := b) (fun h => by rw [g1] at h; exact Bool.false_ne_true h.1))
    obtain ⟨⟨P0, P1, P2⟩, Q0, Q1, Q2⟩ := HU.out w2 hq32
    have HB := Lib.hid (HBW.out w2 hq32)
    clear hq32
    go_wp2
    refine bodyPost_ret (v := .agg #[.int .i64 s, .int .i64 t, .slice (some ⟨g, 0, none⟩) l.length d]) (by simp [results, Try.results44, go_sem, *]) rfl ?_
    obtain ⟨k1, k2⟩ := res_end (R := w.heap.size + 1) (v0 := .int .i64 s) (v1 := .int .i64 t) (v2 := .slice (some ⟨g, 0, none⟩) l.length d) O2.out HB.out (by omega) (by omega)
    rw [hL.out]
    exact ⟨_, _, rfl, k1, k2⟩
  cases g2 : inR b (-1000000) 1000000
  · have hL := Lib.hid (turn_no (s := s) (t := t) (l := l) (b := b) (fun h => by rw [g2] at h; exact Bool.false_ne_true h.2))
    obtain ⟨⟨P0, P1, P2⟩, Q0, Q1, Q2⟩ := HU.out w2 hq32
    have HB := Lib.hid (HBW.out w2 hq32)
    clear hq32
    go_wp2_with (go_at_call 61; refine (impl_within).mono ?_; rintro e w' ⟨rfl, rfl⟩)
    refine bodyPost_ret (v := .agg #[.int .i64 s, .int .i64 t, .slice (some ⟨g, 0, none⟩) l.length d]) (by simp [results, Try.results44, go_sem, *]) rfl ?_
    obtain ⟨k1, k2⟩ := res_end (R := w.heap.size + 1) (v0 := .int .i64 s) (v1 := .int .i64 t) (v2 := .slice (some ⟨g, 0, none⟩) l.length d) O2.out HB.out (by omega) (by omega)
    rw [hL.out]
    exact ⟨_, _, rfl, k1, k2⟩
  have hL := Lib.hid (turn_yes g1 g2)
  have hnd := Lib.hid (turn_nodup (b := b) g1)
  obtain ⟨⟨s1, s2⟩, _, h100, _⟩ := cylOk_parts g1
  obtain ⟨v1, v2⟩ := inR_true g2
  have HY : Hid (∀ k, k < l.length → ∀ x y, Hid (l.getD k (0, 0) = (x, y)) → 0 ≤ y ∧ y ≤ 95) := fun k hk x y e => by
    have := cylOk_pin g1 hk e
    omega
  have hs1 : 1 ≤ s := by omega
  have hs2 : s ≤ 1000 := by omega
  have hTl : Hid ((turnAll s b l).length = l.length) := length_turnAll
  have HD : Hid (∀ W, Kept W2.heap.size w1.heap.size w2 W → (W.cell? ⟨w1.heap.size, 0, none⟩ = some (.int .i64 s) ∧ W.cell? ⟨w1.heap.size, 1, none⟩ = some (.int .i64 t) ∧ W.cell? ⟨w1.heap.size, 2, none⟩ = some (.slice (some ⟨g, 0, none⟩) l.length d)) ∧ W.frozen? ⟨w1.heap.size, 2, none⟩ = false) := fun W h =>
    ⟨⟨h.cell' d0 (.inr (Nat.le_refl _)), h.cell' d1 (.inr (Nat.le_refl _)), h.cell' d2 (.inr (Nat.le_refl _))⟩, (frozen_of_block (a := ⟨w1.heap.size, 2, none⟩) (h.block _ (by simp only; omega) (.inr (Nat.le_refl _)))).trans f2⟩
  have HQ : Hid (∀ W, Kept W2.heap.size w1.heap.size w2 W → Below W2.heap.size W2 W) := fun W h => hq32.trans (h.below hq32.size (Nat.le_refl _))
  have hW2s := hq32.size
  clear hq32
  go_wp2_with (go_at_call 61; refine (impl_within).mono ?_; rintro e w' ⟨rfl, rfl⟩)
  clear d0 d1 d2 f2
  go_loopw [21] (fun i wr => ∃ k : Nat, k ≤ l.length ∧ i = .int .i64 k ∧ Hid (OwnP 63 W2.heap.size w1.heap.size wr (some ⟨g, 0, none⟩) d (fill (turnAll s b l) l k)) ∧ Kept W2.heap.size w1.heap.size w2 wr) (fun i _ => l.length - (intOf i).toNat)
  case atStart => exact ⟨0, Nat.zero_le _, rfl, by rw [fill_zero]; exact O2.out, Kept.refl _ _ _⟩
  clear O2
  case round =>
    obtain ⟨k, hk, rfl, ho, hkp⟩ := hrel
    obtain ⟨⟨d0, d1, d2⟩, f2⟩ := HD.out wr hkp
    have hqr := HQ.out wr hkp
    have hzr := hkp.size
    by_cases hlt : k < l.length
    · obtain ⟨x, y, e1⟩ := pair_of l k
      have hfl : Hid ((fill (turnAll s b l) l k).length = l.length) := by show _ = _; rw [length_fill _ _ _ (by rw [length_turnAll]), length_turnAll]
      have e2 : Hid ((fill (turnAll s b l) l k).getD k (0, 0) = (x, y)) := by show _ = _; rw [fill_at hTl.out hlt]; exact e1.out
      have c2 := cell_after (own1 ho.out (by rw [hfl.out]; exact hlt) e2) (Below.refl _ _)
      have D2 := cell_after d2 (Below.refl _ _)
      obtain ⟨r0, r1, r2⟩ := HR.out wr hqr
      have R0 := cell_after r0 (Below.refl _ _)
      obtain ⟨y1, y2⟩ := HY.out k hlt x y e1
      have E1 : IntKind.i64.wrap (y + b) = y + b := wrap_small (by omega) (by omega)
      have hkp' := Lib.hid hkp
      clear hkp hqr r0 r1 r2 d0 d1 d2 f2
      go_wp2_with fail
      refine wp_region_after_tail 16 (by kernel_rfl) (by kernel_rfl) ?_
      simp only [List.take_succ_cons, List.take_zero, List.drop_succ_cons, List.drop_zero]
      repeat (go_big_quiet_step (first | (go_at_call 85; exact Calls.after_of_same (impl_around (by omega) (by omega)))))
      refine wpQuiet_nil ?_
      rintro wq ⟨⟨_, hq⟩, rfl⟩
      have ho2 := Lib.hid (ho.out.below hq (by omega))
      have hkq : Kept W2.heap.size w1.heap.size w2 wq := hkp'.out.trans (bkept hq (Nat.le_refl _))
      obtain ⟨x0, y0, s3, s4, s5, s6⟩ := ho2.out.slot (k := k) (by rw [hfl.out]; exact hlt)
      have hkq' := Lib.hid hkq
      have hgl : W2.heap.size ≤ g := ho.out.lo_le _ rfl
      clear hq c2 D2 R0 hkq
      go_wp2
      go_roundw
      case rel =>
        refine ⟨k + 1, by omega, by go_num, ?_, hkq'.out.setCell (p := ⟨g, _, none⟩) hgl htop _⟩
        have h9 := stored2 ho2.out (k := k) (by rw [hfl.out]; exact hlt) (x := x) (y := modM (y + b) s) (by rw [e2.out])
        rw [turn_next hlt e1] at h9
        exact h9
      case measure => simp [intOf]; omega
    · obtain rfl : k = l.length := by omega
      have hfa : fill (turnAll s b l) l l.length = turnAll s b l := by
        have := fill_all (turnAll s b l) l (by rw [length_turnAll])
        rwa [length_turnAll] at this
      rw [hfa] at ho
      have hqr' := Lib.hid hqr
      clear hfa hqr hkp
      go_wp2_with fail
      refine (impl_sortedAt ho.out.reads hTl).mono ?_
      rintro e w6 ⟨g6, d6, m, rfl, hp, hs, O6, hq6⟩
      have hml := Lib.hid ((hp.length_eq).trans hTl.out)
      obtain rfl := sorted_eq hp hs hnd.out
      clear hp hs
      replace d0 := cell_later d0 hq6; replace d1 := cell_later d1 hq6; replace d2 := cell_later d2 hq6
      replace f2 := (hq6.frozen (p := ⟨w1.heap.size, 2, none⟩) (by simp only; omega)).trans f2
      have hq26 := bthen hqr'.out hq6
      have hs6 := hq6.size
      have hkz : Kept w1.heap.size (w1.heap.size + 1) w6 (w6.setCell ⟨w1.heap.size, 2, none⟩ (.slice (some ⟨g6, 0, none⟩) l.length d6)) := (Kept.refl _ _ _).setCell (p := ⟨w1.heap.size, 2, none⟩) (Nat.le_refl _) (Nat.lt_succ_self _) _
      have O7 := Lib.hid (O6.kept hkz (.inr (by omega)))
      obtain ⟨⟨P0, P1, P2⟩, Q0, Q1, Q2⟩ := HU.out w6 hq26
      have HB := Lib.hid (HBW.out _ (hq26.trans (hkz.below (B := W2.heap.size) hq26.size (by omega))))
      clear hq26 hkz O6 hq6
      go_wp2
      refine bodyPost_ret (v := .agg #[.int .i64 s, .int .i64 t, .slice (some ⟨g6, 0, none⟩) l.length d6]) (by simp [results, Try.results44, go_sem, *]) rfl ?_
      obtain ⟨k1, k2⟩ := res_end (R := w.heap.size + 1) (v0 := .int .i64 s) (v1 := .int .i64 t) (v2 := .slice (some ⟨g6, 0, none⟩) l.length d6) O7.out HB.out (by omega) (by omega)
      rw [hL.out, hml.out]
      exact ⟨_, _, rfl, k1, k2⟩
set_option maxHeartbeats 1000000 in
theorem spec_TurnBy {s t b : Int} {l : List (Int × Int)} {A : Option Addr} {c : Nat} {w : World} (h : RP w A l) :
    Calls Try.prog 42 #[.agg #[.int .i64 s, .int .i64 t, .slice A l.length c], .int .i64 b] w fun e w' => ∃ B d, e = .returned (.agg #[.int .i64 s, .int .i64 t, .slice B (turnL s t l b).length d]) ∧ OwnP 63 w.heap.size w'.heap.size w' B d (turnL s t l b) ∧ Below w.heap.size w w' := by
  have hn := h.1
  have H := Lib.hid h; clear h
  go_enter Try.func42, Try.ntmps42
  go_wp2_with fail
  generalize hW1 : World.alloc w _ = W1
  obtain ⟨b1, z1, r0, r1, r2⟩ := new3c hW1
  generalize hW2 : World.alloc W1 _ = W2
  obtain ⟨b2, z2, u0, u1, u2⟩ := new3c hW2
  have q0 := new_frozen hW2 0; have q1 := new_frozen hW2 1; have q2 := new_frozen hW2 2
  rw [z1] at u0 u1 u2 q0 q1 q2
  clear hW1 hW2
  replace r0 := cell_later r0 b2; replace r1 := cell_later r1 b2; replace r2 := cell_later r2 b2
  have hb := bthen b1 b2
  clear b1 b2
  have zz : W2.heap.size = w.heap.size + 2 := by omega
  clear z1 z2
  have HR : Hid (∀ W, Below W2.heap.size W2 W → W.cell? ⟨w.heap.size, 0, none⟩ = some (.int .i64 s) ∧ W.cell? ⟨w.heap.size, 1, none⟩ = some (.int .i64 t) ∧ W.cell? ⟨w.heap.size, 2, none⟩ = some (.slice A l.length c)) := fun W h =>
    ⟨cell_later r0 h, cell_later r1 h, cell_later r2 h⟩
  have HU : Hid (∀ W, Below W2.heap.size W2 W → (W.cell? ⟨w.heap.size + 1, 0, none⟩ = some (.int .i64 0) ∧ W.cell? ⟨w.heap.size + 1, 1, none⟩ = some (.int .i64 0) ∧ W.cell? ⟨w.heap.size + 1, 2, none⟩ = some (.slice none 0 0)) ∧ W.frozen? ⟨w.heap.size + 1, 0, none⟩ = false ∧ W.frozen? ⟨w.heap.size + 1, 1, none⟩ = false ∧ W.frozen? ⟨w.heap.size + 1, 2, none⟩ = false) := fun W h =>
    ⟨⟨cell_later u0 h, cell_later u1 h, cell_later u2 h⟩, (h.frozen (p := ⟨w.heap.size + 1, 0, none⟩) (by simp only; omega)).trans q0, (h.frozen (p := ⟨w.heap.size + 1, 1, none⟩) (by simp only; omega)).trans q1, (h.frozen (p := ⟨w.heap.size + 1, 2, none⟩) (by simp only; omega)).trans q2⟩
  clear r0 r1 r2 u0 u1 u2 q0 q1 q2
  have HRP : Hid (∀ W, Below W2.heap.size W2 W → RP W A l) := fun W h => H.out.below (bthen hb h)
  have HBW : Hid (∀ W, Below W2.heap.size W2 W → Below w.heap.size w W) := fun W h => bthen hb h
  clear hb
  refine (spec_CylinderOk (HRP.out W2 (Below.refl _ _))).mono ?_
  rintro e w2 ⟨rfl, hq2⟩
  cases g1 : cylOk s t l
  · have hL := Lib.hid (turn_no (s := s) (t := t) (l := l) (b := b) (fun h => by rw [g1] at h; exact Bool.false_ne_true h.1))
    obtain ⟨r0, r1, r2⟩ := HR.out w2 hq2
    go_wp2_with fail
    refine (spec_l06Copy (HRP.out w2 hq2)).mono ?_
    rintro e w3 ⟨g, d, rfl, O, hq3⟩
    have hz := hq2.size
    have hqq := bthen hq2 hq3
    obtain ⟨⟨P0, P1, P2⟩, Q0, Q1, Q2⟩ := HU.out w3 hqq
    have O' := Lib.hid O; have HB := Lib.hid (HBW.out w3 hqq)
    clear O hq2 hq3 hqq r0 r1 r2
    go_wp2
    refine bodyPost_ret (v := .agg #[.int .i64 s, .int .i64 t, .slice (some ⟨g, 0, none⟩) l.length d]) (by simp [results, Try.results42, go_sem, *]) rfl ?_
    obtain ⟨k1, k2⟩ := res_end (R := w.heap.size + 1) (v0 := .int .i64 s) (v1 := .int .i64 t) (v2 := .slice (some ⟨g, 0, none⟩) l.length d) O'.out HB.out (by omega) (by omega)
    rw [hL.out]
    exact ⟨_, _, rfl, k1, k2⟩
  cases g2 : inR b (-1000000) 1000000
  · have hL := Lib.hid (turn_no (s := s) (t := t) (l := l) (b := b) (fun h => by rw [g2] at h; exact Bool.false_ne_true h.2))
    obtain ⟨r0, r1, r2⟩ := HR.out w2 hq2
    go_wp2_with (go_at_call 57; refine (spec_l01In).mono ?_; rintro e w' ⟨rfl, rfl⟩)
    refine (spec_l06Copy (HRP.out w2 hq2)).mono ?_
    rintro e w3 ⟨g, d, rfl, O, hq3⟩
    have hz := hq2.size
    have hqq := bthen hq2 hq3
    obtain ⟨⟨P0, P1, P2⟩, Q0, Q1, Q2⟩ := HU.out w3 hqq
    have O' := Lib.hid O; have HB := Lib.hid (HBW.out w3 hqq)
    clear O hq2 hq3 hqq r0 r1 r2
    go_wp2
    refine bodyPost_ret (v := .agg #[.int .i64 s, .int .i64 t, .slice (some ⟨g, 0, none⟩) l.length d]) (by simp [results, Try.results42, go_sem, *]) rfl ?_
    obtain ⟨k1, k2⟩ := res_end (R := w.heap.size + 1) (v0 := .int .i64 s) (v1 := .int .i64 t) (v2 := .slice (some ⟨g, 0, none⟩) l.length d) O'.out HB.out (by omega) (by omega)
    rw [hL.out]
    exact ⟨_, _, rfl, k1, k2⟩
  have hL := Lib.hid (turn_yes g1 g2)
  obtain ⟨⟨s1, s2⟩, _, h100, _⟩ := cylOk_parts g1
  obtain ⟨v1, v2⟩ := inR_true g2
  have HY : Hid (∀ k, k < l.length → ∀ x y, Hid (l.getD k (0, 0) = (x, y)) → 0 ≤ y ∧ y ≤ 95) := fun k hk x y e => by
    have := cylOk_pin g1 hk e
    omega
  have hs1 : 1 ≤ s := by omega
  have hs2 : s ≤ 1000 := by omega
  have hTl : Hid ((turnAll s b l).length = l.length) := length_turnAll
  obtain ⟨r0, r1, r2⟩ := HR.out w2 hq2
  have hbo := bnew (Below.refl w2.heap.size w2) (.cells #[] 63)
  have y0 := cell_later r0 hbo; have y1 := cell_later r1 hbo; have y2 := cell_later r2 hbo
  have hb9 := bnew hbo (.cells #[.int .i64 s, .int .i64 t, .slice (some ⟨w2.heap.size, 0, none⟩) 0 0] 53)
  have x0 := cell_later r0 hb9; have x1 := cell_later r1 hb9; have x2 := cell_later r2 hb9
  clear hbo hb9
  go_wp2_with (go_at_call 57; refine (spec_l01In).mono ?_; rintro e w' ⟨rfl, rfl⟩)
  clear y0 y1 y2 x0 x1 x2 r0 r1 r2
  generalize hV : World.alloc w2 _ = V1
  have bv1 : Below w2.heap.size w2 V1 := by rw [← hV]; exact bnew (Below.refl _ _) _
  have Ov : OwnP 63 w2.heap.size (w2.heap.size + 1) V1 (some ⟨w2.heap.size, 0, none⟩) 0 [] := by rw [← hV]; exact own_emptyAtP _ rfl
  have zv : V1.heap.size = w2.heap.size + 1 := by rw [← hV]; simp
  clear hV
  generalize hV : World.alloc V1 _ = V2
  obtain ⟨bv2, zv2, d0, d1, d2⟩ := new3c hV
  have f2 := new_frozen hV 2
  clear hV
  have O2 := Ov.below bv2 Ov.le
  have hqv := bthen bv1 bv2
  rw [zv] at d0 d1 d2 f2
  have hzv : w2.heap.size + 1 < V2.heap.size := by omega
  clear Ov bv1 bv2 zv zv2
  have hW2s := hq2.size
  have HB2 : Hid (∀ W, Below w2.heap.size w2 W → Below W2.heap.size W2 W) := fun W h => bthen hq2 h
  clear hq2
  go_loopw [6] (fun i wr => ∃ (k g d lo hi : Nat) (L : List (Int × Int)), k ≤ l.length ∧ i = .int .i64 k ∧ L.length ≤ k ∧ Hid (L = putTo (turnAll s b l) k) ∧ Hid ((wr.cell? ⟨w2.heap.size + 1, 0, none⟩ = some (.int .i64 s) ∧ wr.cell? ⟨w2.heap.size + 1, 1, none⟩ = some (.int .i64 t) ∧ wr.cell? ⟨w2.heap.size + 1, 2, none⟩ = some (.slice (some ⟨g, 0, none⟩) L.length d)) ∧ wr.frozen? ⟨w2.heap.size + 1, 2, none⟩ = false) ∧
    Hid (OwnP 63 lo hi wr (some ⟨g, 0, none⟩) d L) ∧ (hi ≤ w2.heap.size + 1 ∨ w2.heap.size + 1 < lo) ∧ w2.heap.size ≤ lo ∧ w2.heap.size + 1 < wr.heap.size ∧ Below w2.heap.size w2 wr) (fun i _ => l.length - (intOf i).toNat)
  case atStart => exact ⟨0, w2.heap.size, 0, w2.heap.size, w2.heap.size + 1, [], Nat.zero_le _, rfl, Nat.le_refl _, rfl, ⟨⟨d0, d1, d2⟩, f2⟩, O2, .inl (Nat.le_refl _), Nat.le_refl _, hzv, hqv⟩
  clear d0 d1 d2 f2 O2 hqv hzv
  case round =>
    obtain ⟨k, g, d, lo, hi, L, hk, rfl, hLk, hLe, hd, ho, hdis, hlo, hDr, hbel⟩ := hrel
    obtain ⟨⟨d0, d1, d2⟩, f2⟩ := hd.out
    by_cases hlt : k < l.length
    · obtain ⟨bb, off, rfl, hP⟩ := (HRP.out w2 (HB2.out w2 (Below.refl _ _))).2 (by omega)
      have HP := Lib.hid hP; clear hP
      obtain ⟨x, y, e1⟩ := pair_of l k
      obtain ⟨y1, y2⟩ := HY.out k hlt x y e1
      have E1 : IntKind.i64.wrap (y + b) = y + b := wrap_small (by omega) (by omega)
      obtain ⟨r0, r1, r2⟩ := HR.out wr (HB2.out wr hbel)
      have c1 := HP.out.c1 hbel hlt e1
      have c2 := HP.out.c2 hbel hlt e1
      have HK : Hid (∀ W, Below wr.heap.size wr W → W.cell? ⟨w2.heap.size + 1, 2, none⟩ = some (.slice (some ⟨g, 0, none⟩) L.length d) ∧ W.cell? ⟨w.heap.size, 0, none⟩ = some (.int .i64 s) ∧ W.cell? ⟨w.heap.size, 2, none⟩ = some (.slice (some ⟨bb, off, none⟩) l.length c) ∧ W.cell? ⟨bb, off + k * 2, none⟩ = some (.int .i64 x) ∧ W.cell? ⟨bb, off + k * 2 + 1, none⟩ = some (.int .i64 y)) := fun W h => ⟨cell_later d2 h, cell_later r0 h, cell_later r2 h, cell_later c1 h, cell_later c2 h⟩
      have HD : Hid (∀ W, Below wr.heap.size wr W → (W.cell? ⟨w2.heap.size + 1, 0, none⟩ = some (.int .i64 s) ∧ W.cell? ⟨w2.heap.size + 1, 1, none⟩ = some (.int .i64 t) ∧ W.cell? ⟨w2.heap.size + 1, 2, none⟩ = some (.slice (some ⟨g, 0, none⟩) L.length d)) ∧ W.frozen? ⟨w2.heap.size + 1, 2, none⟩ = false) := fun W h =>
        ⟨⟨cell_later d0 h, cell_later d1 h, cell_later d2 h⟩, (h.frozen (p := ⟨w2.heap.size + 1, 2, none⟩) (by simp only; omega)).trans f2⟩
      have hdr := Lib.hid ((Below.refl wr.heap.size wr).drew)
      have OR : Hid (RP wr.drew (some ⟨g, 0, none⟩) L) := ho.out.reads.below hdr.out
      have hcap := Lib.hid ho.out.capC
      have hbd : Hid (L.length + 1 ≤ 1048576) := Lib.hid (by omega)
      have hbl := Lib.hid hbel
      clear hd ho hbel
      go_wp2_with fail
      clear d0 d1 d2 f2 r0 r1 r2 c1 c2
      go_region_held3 (fun W => W.cell? ⟨w2.heap.size + 1, 2, none⟩ = some (.slice (some ⟨g, 0, none⟩) L.length d) ∧ W.cell? ⟨w.heap.size, 0, none⟩ = some (.int .i64 s) ∧ W.cell? ⟨w.heap.size, 2, none⟩ = some (.slice (some ⟨bb, off, none⟩) l.length c) ∧ W.cell? ⟨bb, off + k * 2, none⟩ = some (.int .i64 x) ∧ W.cell? ⟨bb, off + k * 2 + 1, none⟩ = some (.int .i64 y)) (first | exact HK.out _ hq5 | exact HK.out _ hdr.out | go_keep) (first
        | (go_at_call 81; refine (spec_l06Mod hs1 hs2).mono ?_; rintro e w' ⟨rfl, rfl⟩)
        | (go_at_call 80; refine (spec_l06Put OR.out hcap.out hbd.out).mono ?_; rintro e w5 ⟨g5, d5, rfl, O5, hq9⟩; have hq5 := hdr.out.trans hq9))
      all_goals
        obtain ⟨⟨d0, d1, d2⟩, f2⟩ := HD.out w5 hq5
        have hns : Hid (insP (x, modM (y + b) s) L = putTo (turnAll s b l) (k + 1)) := by
          show _ = _
          rw [putTo_succ, turn_at hlt e1, ← hLe.out]; rfl
        have O5' : OwnP 63 wr.heap.size w5.heap.size w5 (some ⟨g5, 0, none⟩) d5 (insP (x, modM (y + b) s) L) := O5
        have hO5 := Lib.hid O5'
        have hq5' := Lib.hid hq5
        have hz5 := hq5.size
        have hll : (insP (x, modM (y + b) s) L).length ≤ L.length + 1 := length_insP_le _ _
        clear HK HD OR hcap hdr O5 O5' hq5 hq9
        go_wp2
        generalize hZ : w5.setCell ⟨w2.heap.size + 1, 2, none⟩ _ = wz
        obtain ⟨D0, D1, D2, hkz, hfz⟩ := cyl_set hZ d0 d1 d2
        rw [← hfz] at f2
        clear hZ d0 d1 d2 hfz
        have hsz := hkz.size
        go_roundw
        case rel =>
          exact ⟨k + 1, g5, d5, wr.heap.size, w5.heap.size, _, by omega, by go_num, by omega, hns.out, ⟨⟨D0, D1, D2⟩, f2⟩, hO5.out.kept hkz (.inr (by omega)), .inr (by omega), Nat.le_trans hbl.out.size (Nat.le_refl _), by omega, (bthen hbl.out hq5'.out).trans (hkz.below (B := w2.heap.size) (Nat.le_trans hbl.out.size hz5) (by omega))⟩
        case measure => simp [intOf]; omega
    · obtain rfl : k = l.length := by omega
      have hT : L = turnL s t l b := by
        rw [hLe.out, hL.out, ← putTo_all, hTl.out]
      have hq9 := HB2.out wr hbel
      obtain ⟨r0, r1, r2⟩ := HR.out wr hq9
      obtain ⟨⟨P0, P1, P2⟩, Q0, Q1, Q2⟩ := HU.out wr hq9
      have HB := Lib.hid (HBW.out wr hq9)
      have O9 := ho
      clear hq9 hbel
      go_wp2
      refine bodyPost_ret (v := .agg #[.int .i64 s, .int .i64 t, .slice (some ⟨g, 0, none⟩) L.length d]) (by simp [results, Try.results42, go_sem, *]) rfl ?_
      obtain ⟨k1, k2⟩ := res_end (R := w.heap.size + 1) (v0 := .int .i64 s) (v1 := .int .i64 t) (v2 := .slice (some ⟨g, 0, none⟩) L.length d) O9.out HB.out (by omega) (by omega)
      rw [← hT]
      exact ⟨_, _, rfl, k1, k2⟩
end Go.Proofs.Ytkipgjllgmjipaa
