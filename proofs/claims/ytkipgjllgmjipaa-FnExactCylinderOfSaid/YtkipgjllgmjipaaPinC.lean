/- l06Put of the reference at nil, and AddPin of the reference. -/
import Derived.Test.YtkipgjllgmjipaaPinB
namespace Go.Proofs.Ytkipgjllgmjipaa
open Go.RowKit
set_option linter.unusedVariables false
/-- nil, or an address at the front of a block's part. -/
def FormP (A : Option Addr) (c : Nat) (l : List (Int × Int)) : Prop := (A = none ∧ c = 0 ∧ l = []) ∨ ∃ b off, A = some ⟨b, off, none⟩
theorem OwnP.formP {e : TypeId} {lo hi : Nat} {w : World} {A : Option Addr} {c : Nat} {l : List (Int × Int)} (h : OwnP e lo hi w A c l) : FormP A c l := by
  rcases h.row.2 with ⟨hv, hn⟩ | ⟨g, cap, cur, hv, _⟩
  · injection hv with h1 h2 h3
    exact .inl ⟨h1, h3, List.eq_nil_of_length_eq_zero h2⟩
  · injection hv with h1 _ _
    exact .inr ⟨g, 0, h1⟩
set_option maxHeartbeats 2000000 in
theorem spec_l06Put_nil {x y : Int} {w : World} :
    Calls Try.prog 80 #[.slice none 0 0, .agg #[.int .i64 x, .int .i64 y]] w fun e w' => ∃ g d, e = .returned (.tuple #[.slice (some ⟨g, 0, none⟩) 1 d, .bool true]) ∧ OwnP 63 w.heap.size w'.heap.size w' (some ⟨g, 0, none⟩) d [(x, y)] ∧ Below w.heap.size w w' := by
  go_enter Try.func80, Try.ntmps80
  go_wp2
  generalize hW : World.alloc w _ = W1
  obtain ⟨hb1, zz, m0, m1⟩ := new2c hW
  clear hW
  have M0 : Hid (∀ W, Below w.heap.size w W → Below W1.heap.size W1 W → W.cell? ⟨w.heap.size, 0, none⟩ = some (.int .i64 x) ∧ W.cell? ⟨w.heap.size, 1, none⟩ = some (.int .i64 y)) := fun W _ h => ⟨cell_later m0 h, cell_later m1 h⟩
  clear m0 m1
  go_loopw [6] (fun i wr => i = .int .i64 0 ∧ Below w.heap.size w wr ∧ Below W1.heap.size W1 wr) (fun _ _ => 0)
  case atStart => exact ⟨rfl, hb1, Below.refl _ _⟩
  clear hb1
  case round =>
    obtain ⟨rfl, hbel, hb1⟩ := hrel
    go_wp2_with fail
    refine wp_region_after (by kernel_rfl) (by kernel_rfl) ?_
    repeat (go_big_quiet_step (first | (go_at_call 97; exact Calls.after_of (spec_l06Less))))
    refine wpQuiet_nil ?_
    rintro wq ⟨⟨_, hq⟩, rfl⟩
    replace hbel := bthen hbel hq
    replace hb1 := bthen hb1 hq
    clear hq
    go_wp2_with fail
    refine wp_region_after (by kernel_rfl) (by kernel_rfl) ?_
    repeat (go_big_quiet_step (first | (go_at_call 97; exact Calls.after_of (spec_l06Less))))
    refine wpQuiet_nil ?_
    rintro wN ⟨⟨_, hq⟩, rfl⟩
    replace hbel := bthen hbel hq
    replace hb1 := bthen hb1 hq
    clear hq
    obtain ⟨k1, k2⟩ := M0.out wN hbel hb1
    have HK : Hid (∀ W, Below wN.heap.size wN W → W.cell? ⟨w.heap.size, 0, none⟩ = some (.int .i64 x) ∧ W.cell? ⟨w.heap.size, 1, none⟩ = some (.int .i64 y) ∧ Below wN.heap.size wN W) := fun W h => ⟨cell_later k1 h, cell_later k2 h, h⟩
    clear k1 k2
    have hdr := Lib.hid ((Below.refl wN.heap.size wN).drew)
    have D1 : Hid (Below wN.heap.size wN (wN.alloc (.cells #[] 63)).drew) := (bnew (Below.refl _ _) _).drew
    have D2 : Hid (Below wN.heap.size wN ((wN.alloc (.cells #[] 63)).alloc (.cells #[.int .i64 x, .int .i64 y] 63)).drew) := (bnew (bnew (Below.refl _ _) _) _).drew
    have D3 : Hid (Below wN.heap.size wN ((wN.alloc (.cells #[.int .i64 x, .int .i64 y] 63)).alloc (.cells #[] 63)).drew) := (bnew (bnew (Below.refl _ _) _) _).drew
    have D4 : Hid (Below wN.heap.size wN (wN.alloc (.cells #[.int .i64 x, .int .i64 y] 63)).drew) := (bnew (Below.refl _ _) _).drew
    have F1 : Hid (OwnP 63 wN.heap.size (wN.heap.size + 1) (wN.alloc (.cells #[] 63)).drew (some ⟨wN.heap.size, 0, none⟩) 0 []) := (own_emptyAtP _ rfl).drew
    have F2 : Hid (OwnP 63 wN.heap.size (wN.heap.size + 1) ((wN.alloc (.cells #[] 63)).alloc (.cells #[.int .i64 x, .int .i64 y] 63)).drew (some ⟨wN.heap.size, 0, none⟩) 0 []) := ((own_emptyAtP _ rfl).new _).drew
    have F3 : Hid (OwnP 63 (wN.heap.size + 1) (wN.heap.size + 1 + 1) ((wN.alloc (.cells #[.int .i64 x, .int .i64 y] 63)).alloc (.cells #[] 63)).drew (some ⟨wN.heap.size + 1, 0, none⟩) 0 []) := (own_emptyAtP _ (by simp)).drew
    have L1 : Hid (wN.heap.size ≤ ((wN.alloc (.cells #[] 63)).drew).heap.size) := D1.out.size
    have L2 : Hid (wN.heap.size ≤ (((wN.alloc (.cells #[] 63)).alloc (.cells #[.int .i64 x, .int .i64 y] 63)).drew).heap.size) := D2.out.size
    have L3 : Hid (wN.heap.size + 1 ≤ (((wN.alloc (.cells #[.int .i64 x, .int .i64 y] 63)).alloc (.cells #[] 63)).drew).heap.size) := by
      show wN.heap.size + 1 ≤ ((wN.alloc (.cells #[.int .i64 x, .int .i64 y] 63)).alloc (.cells #[] 63)).heap.size
      simp
    have P2 : Hid (RP ((wN.alloc (.cells #[] 63)).alloc (.cells #[.int .i64 x, .int .i64 y] 63)).drew (some ⟨wN.heap.size + 1, 0, none⟩) [(x, y)]) := (pairAt (w := wN.alloc (.cells #[] 63)) (g := wN.heap.size + 1) (by simp)).below (Below.refl _ _).drew
    have P3 : Hid (RP ((wN.alloc (.cells #[.int .i64 x, .int .i64 y] 63)).alloc (.cells #[] 63)).drew (some ⟨wN.heap.size, 0, none⟩) [(x, y)]) := (pairAt (w := wN) (g := wN.heap.size) rfl).below (bnew (Below.refl _ _) _).drew
    have LA : Hid (∀ W, Below wN.heap.size wN W → wN.heap.size ≤ (W.alloc (.cells #[.int .i64 x, .int .i64 y] 63)).heap.size) := fun W h => Nat.le_trans h.size (by simp)
    have hb60 : Hid (1 ≤ 1048576) := by show 1 ≤ 1048576; decide
    have hby16 : Hid (16 ≤ 1024) := by show 16 ≤ 1024; decide
    go_wp2_with fail
    go_region_held3 (fun W => W.cell? ⟨w.heap.size, 0, none⟩ = some (.int .i64 x) ∧ W.cell? ⟨w.heap.size, 1, none⟩ = some (.int .i64 y) ∧ Below wN.heap.size wN W) (with_reducible (first | exact HK.out _ hbq3 | exact HK.out _ hbq2 | exact HK.out _ (bnew hbq1 _) | exact HK.out _ hbq1 | exact HK.out _ hdr.out | exact HK.out _ D1.out | exact HK.out _ D4.out | exact HK.out _ D2.out | exact HK.out _ D3.out)) (first
      | (have hmk := hbq2; refine step_app_none (l := [] ++ [(x, y)]) (c2 := 0) (.tmp 43) (.tmp 46) 51 63 rfl rfl Try.underlying51 pins_inf rfl rfl O2 ?_; intro w3 O3 hb3; have hbq3 := hbq2.trans (hb3.mono hbq2.size))
      | (have hmk := hp1; refine step_app_pairs2 (l := []) (m := [(x, y)]) (c2 := 1) (.tmp 40) (.tmp 42) 51 63 rfl rfl Try.underlying51 pins_inf rfl hby16.out rfl rfl (Lib.hid rfl) (Lib.hid rfl) (Lib.hid rfl) O1 hlo1 hp1 hb60.out ?_; intro g2 d2 w2 O2 hb2 hk2; have hbq2 := hbq1.trans (hb2.mono hlow); have hlo2 := Nat.le_trans hlo1 hb2.size)
      | (have hmk := hbq1; have t1 := O1.new (.cells #[.int .i64 x, .int .i64 y] 63); have t2 := LA.out _ hbq1; have t3 := pairAt (w := w1) (x := x) (y := y) (T := 63) rfl; refine step_app_pairs2 (l := []) (m := [(x, y)]) (c2 := 1) (.tmp 40) (.tmp 42) 51 63 rfl rfl Try.underlying51 pins_inf rfl hby16.out rfl rfl (Lib.hid rfl) (Lib.hid rfl) (Lib.hid rfl) t1 t2 t3 hb60.out ?_; intro g2 d2 w2 O2 hb2 hk2; have hbq2 := (bnew hbq1 (.cells #[.int .i64 x, .int .i64 y] 63)).trans hb2; have hlo2 := Nat.le_trans t2 hb2.size)
      | (refine step_app_none (l := []) (c2 := 0) (.tmp 36) (.tmp 39) 51 63 rfl rfl Try.underlying51 pins_inf rfl rfl F2.out ?_; intro w1 O1 hb1; have hbq1 := D2.out.trans (hb1.mono D2.out.size); have hlow := Nat.le_refl wN.heap.size; have hlo1 := Nat.le_trans L2.out hb1.size; have hp1 := P2.out.below hb1)
      | (refine step_app_none (l := []) (c2 := 0) (.tmp 36) (.tmp 39) 51 63 rfl rfl Try.underlying51 pins_inf rfl rfl F3.out ?_; intro w1 O1 hb1; have hbq1 := D3.out.trans (hb1.mono D3.out.size); have hlow := Nat.le_succ wN.heap.size; have hlo1 := Nat.le_trans L3.out hb1.size; have hp1 := P3.out.below hb1)
      | (refine step_app_none (l := []) (c2 := 0) (.tmp 36) (.tmp 39) 51 63 rfl rfl Try.underlying51 pins_inf rfl rfl F1.out ?_; intro w1 O1 hb1; have hbq1 := D1.out.trans (hb1.mono D1.out.size); have hlow := Nat.le_refl wN.heap.size; have hlo1 := Nat.le_trans L1.out hb1.size))
    all_goals
      clear D1 D2 D3 D4 F1 F2 F3 L1 L2 L3 P2 P3 LA
      rw [List.nil_append] at O3
      go_wp2
      all_goals
        go_ret2
        exact ⟨_, _, by simp, (O3.lo_mono (Nat.le_trans hbel.size hlow)).hi_mono O3.le (Nat.le_refl _), hbel.trans (hbq3.mono hbel.size)⟩
theorem insP_nil (p : Int × Int) : insP p [] = [p] := rfl
theorem putNew_nil (p : Int × Int) : putNew p [] = true := rfl
theorem spec_l06PutF {x y : Int} {O : List (Int × Int)} {A : Option Addr} {c : Nat} {w : World} (h : RP w A O) (hc : O.length ≤ c) (hA : FormP A c O) (h1 : O.length + 1 ≤ 1048576) :
    Calls Try.prog 80 #[.slice A O.length c, .agg #[.int .i64 x, .int .i64 y]] w fun e w' => ∃ g d, e = .returned (.tuple #[.slice (some ⟨g, 0, none⟩) (insP (x, y) O).length d, .bool (putNew (x, y) O)]) ∧ OwnP 63 w.heap.size w'.heap.size w' (some ⟨g, 0, none⟩) d (insP (x, y) O) ∧ Below w.heap.size w w' := by
  rcases hA with ⟨rfl, rfl, rfl⟩ | ⟨b, off, rfl⟩
  · exact spec_l06Put_nil
  · exact spec_l06Put h hc h1
set_option maxHeartbeats 1000000 in
theorem spec_AddPin {s t x y : Int} {l : List (Int × Int)} {A : Option Addr} {c : Nat} {w : World} (h : RP w A l) (hc : l.length ≤ c) (hA : FormP A c l) :
    Calls Try.prog 48 #[.agg #[.int .i64 s, .int .i64 t, .slice A l.length c], .agg #[.int .i64 x, .int .i64 y]] w fun e w' => ∃ B d, e = .returned (.tuple #[.agg #[.int .i64 s, .int .i64 t, .slice B (addPL s t l (x, y)).length d], .bool (addPOk s t l (x, y))]) ∧ OwnP 63 w.heap.size w'.heap.size w' B d (addPL s t l (x, y)) ∧ Below w.heap.size w w' := by
  have hn := h.1
  have H := Lib.hid h; clear h
  have HA := Lib.hid hA; clear hA
  go_enter Try.func48, Try.ntmps48
  go_wp2_with fail
  generalize hW1 : World.alloc w _ = W1
  obtain ⟨b1, z1, r0, r1, r2⟩ := new3c hW1
  generalize hW2 : World.alloc W1 _ = W2
  obtain ⟨b2, z2, p0, p1⟩ := new2c hW2
  generalize hW3 : World.alloc W2 _ = W3
  obtain ⟨b3, z3, u0, u1, u2⟩ := new3c hW3
  have q0 := new_frozen hW3 0; have q1 := new_frozen hW3 1; have q2 := new_frozen hW3 2
  rw [z1] at p0 p1
  rw [z2, z1] at u0 u1 u2 q0 q1 q2
  clear hW1 hW2 hW3
  have b23 := bthen b2 b3
  replace r0 := cell_later r0 b23; replace r1 := cell_later r1 b23; replace r2 := cell_later r2 b23
  replace p0 := cell_later p0 b3; replace p1 := cell_later p1 b3
  have hb := bthen b1 b23
  clear b1 b2 b3 b23
  have zz : W3.heap.size = w.heap.size + 3 := by omega
  clear z1 z2 z3
  refine (spec_l06Copy (H.out.below hb)).mono ?_
  rintro e w1 ⟨g, d, rfl, O, hq⟩
  have HR : Hid (∀ W, Below W3.heap.size W3 W → (W.cell? ⟨w.heap.size, 0, none⟩ = some (.int .i64 s) ∧ W.cell? ⟨w.heap.size, 1, none⟩ = some (.int .i64 t) ∧ W.cell? ⟨w.heap.size, 2, none⟩ = some (.slice A l.length c)) ∧ W.cell? ⟨w.heap.size + 1, 0, none⟩ = some (.int .i64 x) ∧ W.cell? ⟨w.heap.size + 1, 1, none⟩ = some (.int .i64 y)) := fun W h =>
    ⟨⟨cell_later r0 h, cell_later r1 h, cell_later r2 h⟩, cell_later p0 h, cell_later p1 h⟩
  have HU : Hid (∀ W, Below W3.heap.size W3 W → (W.cell? ⟨w.heap.size + 2, 0, none⟩ = some (.int .i64 0) ∧ W.cell? ⟨w.heap.size + 2, 1, none⟩ = some (.int .i64 0) ∧ W.cell? ⟨w.heap.size + 2, 2, none⟩ = some (.slice none 0 0)) ∧ W.frozen? ⟨w.heap.size + 2, 0, none⟩ = false ∧ W.frozen? ⟨w.heap.size + 2, 1, none⟩ = false ∧ W.frozen? ⟨w.heap.size + 2, 2, none⟩ = false) := fun W h =>
    ⟨⟨cell_later u0 h, cell_later u1 h, cell_later u2 h⟩, (h.frozen (p := ⟨w.heap.size + 2, 0, none⟩) (by simp only; omega)).trans q0, (h.frozen (p := ⟨w.heap.size + 2, 1, none⟩) (by simp only; omega)).trans q1, (h.frozen (p := ⟨w.heap.size + 2, 2, none⟩) (by simp only; omega)).trans q2⟩
  clear r0 r1 r2 p0 p1 u0 u1 u2 q0 q1 q2
  have HRP : Hid (∀ W, Below W3.heap.size W3 W → RP W A l) := fun W h => H.out.below (bthen hb h)
  have HBW : Hid (∀ W, Below W3.heap.size W3 W → Below w.heap.size w W) := fun W h => bthen hb h
  clear hb
  have HEND : Hid (addPOk s t l (x, y) = false → addPL s t l (x, y) = l) := addP_no
  obtain ⟨⟨r0, r1, r2⟩, p0, p1⟩ := HR.out w1 hq
  have hbo := bnew (Below.refl w1.heap.size w1) (.cells #[.int .i64 s, .int .i64 t, .slice (some ⟨g, 0, none⟩) l.length d] 53)
  have y0 := cell_later r0 hbo; have y1 := cell_later r1 hbo; have y2 := cell_later r2 hbo
  clear hbo
  go_wp2_with fail
  clear y0 y1 y2 r0 r1 r2 p0 p1
  generalize hW4 : World.alloc w1 _ = W4
  obtain ⟨b4, z4, d0, d1, d2⟩ := new3c hW4
  have f2 := new_frozen hW4 2
  clear hW4
  have hz1 := hq.size
  have hq4 := bthen hq b4
  refine (spec_CylinderOk (HRP.out W4 hq4)).mono ?_
  rintro e w2 ⟨rfl, hq2⟩
  have O2 := Lib.hid ((O.below b4 O.le).below hq2 (by omega))
  replace d0 := cell_later d0 hq2; replace d1 := cell_later d1 hq2; replace d2 := cell_later d2 hq2
  replace f2 := (hq2.frozen (p := ⟨w1.heap.size, 2, none⟩) (by simp only; omega)).trans f2
  have hq42 := bthen hq4 hq2
  have hz2 := hq2.size
  clear O hq hq4 hq2 b4
  cases g1 : cylOk s t l
  · have hK := Lib.hid (addP_bad (p := (x, y)) g1)
    have hL := Lib.hid (HEND.out hK.out)
    obtain ⟨⟨P0, P1, P2⟩, Q0, Q1, Q2⟩ := HU.out w2 hq42
    have HB := Lib.hid (HBW.out w2 hq42)
    clear hq42
    go_wp2
    refine bodyPost_ret (v := .tuple #[.agg #[.int .i64 s, .int .i64 t, .slice (some ⟨g, 0, none⟩) l.length d], .bool false]) (by simp [results, Try.results48, go_sem, *]) rfl ?_
    obtain ⟨k1, k2⟩ := res_end (R := w.heap.size + 2) (v0 := .int .i64 s) (v1 := .int .i64 t) (v2 := .slice (some ⟨g, 0, none⟩) l.length d) O2.out HB.out (by omega) (by omega)
    rw [hL.out, hK.out]
    exact ⟨_, _, rfl, k1, k2⟩
  have h100 := (cylOk_parts g1).2.2.1
  have hnew : Hid (¬ (x, y) ∈ l → addPOk s t l (x, y) = cylOk s t (insP (x, y) l)) := fun hm => addP_new g1 hm
  have hput : Hid (putNew (x, y) l = !(decide ((x, y) ∈ l))) := put_has (cylOk_sp g1)
  clear g1
  obtain ⟨⟨r0, r1, r2⟩, p0, p1⟩ := HR.out w2 hq42
  go_wp2_with fail
  refine (spec_l06PutF (x := x) (y := y) (HRP.out w2 hq42) hc HA.out (by omega)).mono ?_
  rintro e w5 ⟨g5, d5, rfl, O5, hq5⟩
  rw [hput.out]
  clear r0 r1 r2 p0 p1
  replace d0 := cell_later d0 hq5; replace d1 := cell_later d1 hq5; replace d2 := cell_later d2 hq5
  replace f2 := (hq5.frozen (p := ⟨w1.heap.size, 2, none⟩) (by simp only; omega)).trans f2
  have hq45 := Lib.hid (bthen hq42 hq5)
  have hz5 := hq5.size
  have O5' := Lib.hid O5
  clear hq42 hq5 O5
  by_cases hm : (x, y) ∈ l
  · have hK := Lib.hid (addP_has (s := s) (t := t) hm)
    have hL := Lib.hid (HEND.out hK.out)
    rw [decide_eq_true hm, Bool.not_true]
    clear hm
    have HS := hq45.out.trans ((Kept.refl w1.heap.size (w1.heap.size + 1) w5).setCell (p := ⟨w1.heap.size, 2, none⟩) (Nat.le_refl _) (Nat.lt_succ_self _) (.slice (some ⟨g5, 0, none⟩) (insP (x, y) l).length d5) |>.below (B := W3.heap.size) hq45.out.size (by omega))
    obtain ⟨⟨r0, r1, r2⟩, p0, p1⟩ := HR.out _ HS
    have HS' := Lib.hid HS
    clear HS
    go_wp2_with fail
    clear r0 r1 r2 p0 p1
    generalize hZ : w5.setCell ⟨w1.heap.size, 2, none⟩ _ = wz
    rw [hZ] at HS'
    clear hZ d0 d1 d2 f2
    refine (spec_l06Copy (HRP.out wz HS'.out)).mono ?_
    rintro e w8 ⟨g8, d8, rfl, O, hq8⟩
    have hz := HS'.out.size
    have hqq := bthen HS'.out hq8
    obtain ⟨⟨P0, P1, P2⟩, Q0, Q1, Q2⟩ := HU.out w8 hqq
    have O' := Lib.hid O; have HB := Lib.hid (HBW.out w8 hqq)
    clear O hq8 hqq
    go_wp2
    refine bodyPost_ret (v := .tuple #[.agg #[.int .i64 s, .int .i64 t, .slice (some ⟨g8, 0, none⟩) l.length d8], .bool false]) (by simp [results, Try.results48, go_sem, *]) rfl ?_
    obtain ⟨k1, k2⟩ := res_end (R := w.heap.size + 2) (v0 := .int .i64 s) (v1 := .int .i64 t) (v2 := .slice (some ⟨g8, 0, none⟩) l.length d8) O'.out HB.out (by omega) (by omega)
    rw [hL.out, hK.out]
    exact ⟨_, _, rfl, k1, k2⟩
  have hnw := Lib.hid (hnew.out hm)
  rw [decide_eq_false hm, Bool.not_false]
  clear hm
  go_wp2_with fail
  generalize hZ : w5.setCell ⟨w1.heap.size, 2, none⟩ _ = wz
  obtain ⟨D0, D1, D2, hkz, hfz⟩ := cyl_set hZ d0 d1 d2
  clear hZ d0 d1 d2 f2 hfz
  have O7 := O5'.out.kept hkz (.inr (by omega))
  have hq2z := hq45.out.trans (hkz.below (B := W3.heap.size) hq45.out.size (by omega))
  have hsz := hkz.size
  clear hkz O5'
  refine (spec_CylinderOk O7.reads).mono ?_
  rintro e w7 ⟨rfl, hq7⟩
  have O8 := Lib.hid (O7.below hq7 O7.le)
  have hq27 := bthen hq2z hq7
  replace D0 := cell_later D0 hq7; replace D1 := cell_later D1 hq7; replace D2 := cell_later D2 hq7
  clear O7 hq2z hq7
  cases g7 : cylOk s t (insP (x, y) l)
  · have hK := Lib.hid (hnw.out.trans g7)
    have hL := Lib.hid (HEND.out hK.out)
    clear D0 D1 D2 O8
    obtain ⟨⟨r0, r1, r2⟩, p0, p1⟩ := HR.out w7 hq27
    go_wp2_with fail
    refine (spec_l06Copy (HRP.out w7 hq27)).mono ?_
    rintro e w8 ⟨g8, d8, rfl, O, hq8⟩
    have hz := hq27.size
    have hqq := bthen hq27 hq8
    obtain ⟨⟨P0, P1, P2⟩, Q0, Q1, Q2⟩ := HU.out w8 hqq
    have O' := Lib.hid O; have HB := Lib.hid (HBW.out w8 hqq)
    clear O hq27 hq8 hqq r0 r1 r2 p0 p1
    go_wp2
    refine bodyPost_ret (v := .tuple #[.agg #[.int .i64 s, .int .i64 t, .slice (some ⟨g8, 0, none⟩) l.length d8], .bool false]) (by simp [results, Try.results48, go_sem, *]) rfl ?_
    obtain ⟨k1, k2⟩ := res_end (R := w.heap.size + 2) (v0 := .int .i64 s) (v1 := .int .i64 t) (v2 := .slice (some ⟨g8, 0, none⟩) l.length d8) O'.out HB.out (by omega) (by omega)
    rw [hL.out, hK.out]
    exact ⟨_, _, rfl, k1, k2⟩
  · have hK := Lib.hid (hnw.out.trans g7)
    have hL := Lib.hid (addP_yes hK.out)
    obtain ⟨⟨P0, P1, P2⟩, Q0, Q1, Q2⟩ := HU.out w7 hq27
    have HB := Lib.hid (HBW.out w7 hq27)
    clear hq27
    go_wp2
    refine bodyPost_ret (v := .tuple #[.agg #[.int .i64 s, .int .i64 t, .slice (some ⟨g5, 0, none⟩) (insP (x, y) l).length d5], .bool true]) (by simp [results, Try.results48, go_sem, *]) rfl ?_
    obtain ⟨k1, k2⟩ := res_end (R := w.heap.size + 2) (v0 := .int .i64 s) (v1 := .int .i64 t) (v2 := .slice (some ⟨g5, 0, none⟩) (insP (x, y) l).length d5) O8.out HB.out (by omega) (by omega)
    rw [hL.out, hK.out]
    exact ⟨_, _, rfl, k1, k2⟩
end Go.Proofs.Ytkipgjllgmjipaa
