/- Whatever the bytes of the draw, the law FnSeams answers true: ways around a circle are the same in both directions, and turning does not change what is too close. There are no conditions. -/
import Derived.Test.YtakllloangpimaaLawK
import Derived.Test.YtakllloangpimaaDrawC
import Derived.Test.YtakllloangpimaaTurn
import Derived.Test.YtakllloangpimaaSeaP
import Derived.Deep.RegionHeld3
import Derived.Deep.Cut
namespace Go.Proofs.Ytakllloangpimaa.lawSeams
open Go.ChangeShapes Go.WideShapes Go.ChangeAt Go.RowKit
set_option linter.unusedVariables false
/-- A boxed cylinder. -/
def CB (w : World) (G : Nat) (s t : Int) (A : Option Addr) (n d : Nat) : Prop := w.cell? ⟨G, 0, none⟩ = some (.int .i64 s) ∧ w.cell? ⟨G, 1, none⟩ = some (.int .i64 t) ∧ w.cell? ⟨G, 2, none⟩ = some (.slice A n d)
theorem CB.below {w w' : World} {G : Nat} {s t : Int} {A : Option Addr} {n d : Nat} (h : CB w G s t A n d) (hb : Below w.heap.size w w') : CB w' G s t A n d := ⟨cell_later h.1 hb, cell_later h.2.1 hb, cell_later h.2.2 hb⟩
theorem CB.after {w w' : World} {G : Nat} {s t : Int} {A : Option Addr} {n d : Nat} (h : CB w G s t A n d) (hb : Below w.heap.size w w') :
    (∀ q : After w'.heap.size w', q.w.cell? ⟨G, 0, none⟩ = some (.int .i64 s)) ∧ (∀ q : After w'.heap.size w', q.w.cell? ⟨G, 1, none⟩ = some (.int .i64 t)) ∧ (∀ q : After w'.heap.size w', q.w.cell? ⟨G, 2, none⟩ = some (.slice A n d)) := ⟨cell_after h.1 hb, cell_after h.2.1 hb, cell_after h.2.2 hb⟩
theorem lit_seam {W W' : World} {T : TypeId} (h : W.alloc (.cells #[.int .i64 0, .int .i64 0, .int .i64 0, .int .i64 11] T) = W') : Below W.heap.size W W' ∧ W'.heap.size = W.heap.size + 1 ∧ RP W' (some ⟨W.heap.size, 0, none⟩) [(0, 0), (0, 11)] := by
  subst h
  have hh := heap_alloc_new W (.cells #[.int .i64 0, .int .i64 0, .int .i64 0, .int .i64 11] T)
  refine ⟨bnew (Below.refl _ _) _, by simp, by simp, fun _ => ⟨W.heap.size, 0, rfl, by simp, fun j hj => ?_⟩⟩
  have hj2 : j = 0 ∨ j = 1 := by have : j < 2 := hj; omega
  rcases hj2 with rfl | rfl
  · exact ⟨cell_of_row _ _ 0 _ _ _ hh, cell_of_row _ _ 1 _ _ _ hh⟩
  · exact ⟨cell_of_row _ _ 2 _ _ _ hh, cell_of_row _ _ 3 _ _ _ hh⟩
section
variable {s t r : Int} {l : List (Int × Int)} {A : Option Addr} {c n : Nat} {w : World}
theorem w_close {x : Int} (h : RP w A l) (hc : l.length ≤ c) (hn : n = l.length) (hx : closestM s t l = x) : Calls Try.prog 44 #[.agg #[.int .i64 s, .int .i64 t, .slice A n c]] w fun e w' => e = .returned (.int .i64 x) ∧ Below w.heap.size w w' := by
  subst hx hn
  exact impl_ClosestPins h hc
theorem w_too {L : List (Int × Int)} {m : Nat} (h : RP w A l) (hn : n = l.length) (hL : tooM s t l r = L) (hm : L.length = m) : Calls Try.prog 43 #[.agg #[.int .i64 s, .int .i64 t, .slice A n c], .int .i64 r] w fun e w' => ∃ B d, e = .returned (.slice B m d) ∧ RSS w' B L ∧ Below w.heap.size w w' := by
  subst hn hL hm
  exact (impl_TooClose h).mono fun e w' ⟨B, d, he, O, hq⟩ => ⟨B, d, he, O.reads, hq⟩
theorem w_play {b : Bool} (h : RP w A l) (hn : n = l.length) (hb : playM s t l r = b) : Calls Try.prog 45 #[.agg #[.int .i64 s, .int .i64 t, .slice A n c], .int .i64 r] w fun e w' => e = .returned (.bool b) ∧ Below w.heap.size w w' := by
  subst hn hb
  exact impl_IsPlayable h
theorem w_seam {b : Bool} (h : RP w A l) (hn : n = l.length) (hb : seamM s t l r = b) : Calls Try.prog 50 #[.agg #[.int .i64 s, .int .i64 t, .slice A n c], .int .i64 r] w fun e w' => e = .returned (.bool b) ∧ Below w.heap.size w w' := by
  subst hn hb
  exact impl_OnlyAtSeam h
theorem w_quiet {x : Int} (h : RP w A l) (hx : quietM s t l = x) : Calls Try.prog 47 #[.agg #[.int .i64 s, .int .i64 t, .slice A l.length c]] w fun e w' => e = .returned (.int .i64 x) ∧ Below w.heap.size w w' := by
  subst hx
  exact impl_QuietAngle h
theorem w_pins {x : Int} {m : Nat} (h : RP w A l) (hm : (pinsAt s t l x).length = m) : Calls Try.prog 49 #[.agg #[.int .i64 s, .int .i64 t, .slice A l.length c], .int .i64 x] w fun e w' => ∃ B d, e = .returned (.slice B m d) ∧ Below w.heap.size w w' := by
  subst hm
  exact (spec_PinsAt h).mono fun e w' ⟨B, d, he, O, hq⟩ => ⟨B, d, he, hq⟩
theorem w_gap {a b x : Int} (hx : gapM a b s = x) : Calls Try.prog 46 #[.int .i64 a, .int .i64 b, .int .i64 s] w fun e w' => e = .returned (.int .i64 x) ∧ w = w' := by
  subst hx
  exact impl_GapAround
theorem w_btoi {b : Bool} : Calls Try.prog 48 #[.bool b] w fun e w' => e = .returned (.int .i64 (if b = true then 1 else 0)) ∧ w = w' := by
  cases b
  · go_enter Try.func48, Try.ntmps48
    go_wp2
    go_ret
    exact ⟨rfl, rfl⟩
  · go_enter Try.func48, Try.ntmps48
    go_wp2
    go_ret
    exact ⟨rfl, rfl⟩
end
theorem i1_ok : (0 : Int) ≤ 1 ∧ (1 : Int) ≤ 10 := by decide
set_option maxRecDepth 100000 in
set_option maxHeartbeats 8000000 in
theorem walk (w : World) (A0 : Option Addr) (c0 : Nat) (l0 : List Int) (cm0 : c0 ≤ maxLen) (cl0 : l0.length ≤ c0) (rd0 : 0 < l0.length → ∃ b off, A0 = some ⟨b, off, none⟩ ∧ BytesAt w b off l0) :
    Calls Try.prog 7 #[.slice A0 l0.length c0] w fun e w' => e = .returned (.bool true) ∧ Below w.heap.size w w' := by
  by_cases zz : 1048576 < l0.length
  · go_enter Try.func7, Try.ntmps7
    go_wp2_with fail
    refine (laws_big).mono ?_
    rintro e w1 ⟨rfl, rfl⟩
    rw [decide_eq_true zz]
    go_wp2
    go_ret
    exact ⟨rfl, Below.refl _ _⟩
  have R : Hid (RB w A0 l0) := ⟨Nat.le_of_not_lt zz, rd0⟩
  clear rd0
  go_enter Try.func7, Try.ntmps7
  go_wp2_with fail
  refine (laws_big).mono ?_
  rintro e w1 ⟨rfl, rfl⟩
  rw [decide_eq_false zz]
  clear zz cm0 cl0
  go_wp2_with fail
  refine (spec_DrawCylinder R.out.ru).mono ?_
  rintro e w1 ⟨s, t, l, A, cA, rfl, hD, O, hb1⟩
  have HCAP := Lib.hid O.capC
  have RA1 := Lib.hid O.reads
  have HB1 := Lib.hid hb1
  obtain ⟨⟨s1, s2⟩, ⟨t1, t2⟩, h9, hok⟩ := hD
  have HK := Lib.hid hok
  obtain ⟨S, rfl⟩ : ∃ S : Nat, s = (S : Int) := ⟨s.toNat, by omega⟩
  clear O hb1 hok
  go_wp2_with fail
  generalize hW : World.alloc w1 _ = W2
  obtain ⟨b2, z2, p0, p1, p2⟩ := new3c hW
  clear hW
  have CA2 : Hid (CB W2 w1.heap.size (S : Int) t A l.length cA) := ⟨p0, p1, p2⟩
  have RA2 := Lib.hid (RA1.out.below b2)
  have HB2 := Lib.hid (bthen HB1.out b2)
  have R2 := Lib.hid (R.out.below HB2.out)
  clear b2 z2 RA1 HB1 R p0 p1 p2
  refine (laws_at R2.out (by omega)).mono ?_
  rintro e w' ⟨rfl, rfl⟩
  have hx0 := atV_range R2.out 0
  have hx1 := atV_range R2.out 1
  have CALL1 : Hid (∀ W, RB W A0 l0 → Calls Try.prog 10 #[.slice A0 l0.length c0, .int .i64 1] W fun e w' => e = .returned (.int .i64 (atV l0 1)) ∧ W = w') := fun W h => laws_at h i1_ok
  generalize atV l0 0 = x0 at hx0 ⊢
  generalize atV l0 1 = b at hx1 CALL1
  have HIB : Hid (inR b (-1000000) 1000000 = true) := inR_of (by omega) (by omega)
  have E1 : x0.tmod 6 = x0 % 6 := Int.tmod_eq_emod_of_nonneg hx0.1
  obtain ⟨q6, hq6⟩ : ∃ q : Int, Hid (x0 % 6 = q) := ⟨_, rfl⟩
  rw [hq6.out] at E1
  have hq7 : 0 ≤ q6 ∧ q6 ≤ 5 := by have := hq6.out; omega
  obtain ⟨r, hr⟩ : ∃ r : Int, 1 + q6 = r := ⟨_, rfl⟩
  have hr6 : 1 ≤ r ∧ r ≤ 6 := by omega
  obtain ⟨TL, hTL⟩ : ∃ TL, Hid (turnL (S : Int) t l b = TL) := ⟨_, rfl⟩
  have hTLl : Hid (TL.length = l.length) := by show _ = _; rw [← hTL.out]; exact turn_length HK.out HIB.out
  have hTLo : Hid (cylOk (S : Int) t TL = true) := by show _ = _; rw [← hTL.out]; exact turn_ok HK.out HIB.out
  clear hq6 hx0
  go_upto_region 5 with fail
  clear E1 hr hq7
  obtain ⟨a0, a1, a2⟩ := CA2.out
  have HKK : Hid (∀ W, Below W2.heap.size W2 W → W.cell? ⟨w1.heap.size, 0, none⟩ = some (.int .i64 (S : Int)) ∧ W.cell? ⟨w1.heap.size, 1, none⟩ = some (.int .i64 t) ∧ W.cell? ⟨w1.heap.size, 2, none⟩ = some (.slice A l.length cA) ∧ Below W2.heap.size W2 W) := fun W h => ⟨cell_later a0 h, cell_later a1 h, cell_later a2 h, h⟩
  have HBt : Hid (∀ W W', (W.cell? ⟨w1.heap.size, 0, none⟩ = some (.int .i64 (S : Int)) ∧ W.cell? ⟨w1.heap.size, 1, none⟩ = some (.int .i64 t) ∧ W.cell? ⟨w1.heap.size, 2, none⟩ = some (.slice A l.length cA) ∧ Below W2.heap.size W2 W) → Below W.heap.size W W' → W'.cell? ⟨w1.heap.size, 0, none⟩ = some (.int .i64 (S : Int)) ∧ W'.cell? ⟨w1.heap.size, 1, none⟩ = some (.int .i64 t) ∧ W'.cell? ⟨w1.heap.size, 2, none⟩ = some (.slice A l.length cA) ∧ Below W2.heap.size W2 W') := fun W W' h hb => HKK.out W' (bthen h.2.2.2 hb)
  have HSz : Hid (∀ W, (W.cell? ⟨w1.heap.size, 0, none⟩ = some (.int .i64 (S : Int)) ∧ W.cell? ⟨w1.heap.size, 1, none⟩ = some (.int .i64 t) ∧ W.cell? ⟨w1.heap.size, 2, none⟩ = some (.slice A l.length cA) ∧ Below W2.heap.size W2 W) → W2.heap.size ≤ W.heap.size) := fun W h => h.2.2.2.size
  have HSq : Hid (∀ W W', (W.cell? ⟨w1.heap.size, 0, none⟩ = some (.int .i64 (S : Int)) ∧ W.cell? ⟨w1.heap.size, 1, none⟩ = some (.int .i64 t) ∧ W.cell? ⟨w1.heap.size, 2, none⟩ = some (.slice A l.length cA) ∧ Below W2.heap.size W2 W) → Below W.heap.size W W' → W2.heap.size ≤ W.heap.size) := fun W W' h _ => h.2.2.2.size
  have HKs : Hid (∀ W G v0 v1 v2, W2.heap.size ≤ G → (W.cell? ⟨w1.heap.size, 0, none⟩ = some (.int .i64 (S : Int)) ∧ W.cell? ⟨w1.heap.size, 1, none⟩ = some (.int .i64 t) ∧ W.cell? ⟨w1.heap.size, 2, none⟩ = some (.slice A l.length cA) ∧ Below W2.heap.size W2 W) → (((W.setCell ⟨G, 0, none⟩ v0).setCell ⟨G, 1, none⟩ v1).setCell ⟨G, 2, none⟩ v2).cell? ⟨w1.heap.size, 0, none⟩ = some (.int .i64 (S : Int)) ∧ (((W.setCell ⟨G, 0, none⟩ v0).setCell ⟨G, 1, none⟩ v1).setCell ⟨G, 2, none⟩ v2).cell? ⟨w1.heap.size, 1, none⟩ = some (.int .i64 t) ∧ (((W.setCell ⟨G, 0, none⟩ v0).setCell ⟨G, 1, none⟩ v1).setCell ⟨G, 2, none⟩ v2).cell? ⟨w1.heap.size, 2, none⟩ = some (.slice A l.length cA) ∧ Below W2.heap.size W2 (((W.setCell ⟨G, 0, none⟩ v0).setCell ⟨G, 1, none⟩ v1).setCell ⟨G, 2, none⟩ v2)) := fun W G v0 v1 v2 hg h => HKK.out _ (((h.2.2.2.setCell (p := ⟨G, 0, none⟩) hg v0).setCell (p := ⟨G, 1, none⟩) hg v1).setCell (p := ⟨G, 2, none⟩) hg v2)
  have h0 := HKK.out W2.drew (Below.refl _ _).drew
  have hB0 := HKK.out W2 (Below.refl _ _)
  have hA0 := HKK.out ((W2.alloc (.cells #[.int .i64 0, .int .i64 0, .slice none 0 0] 26)).drew) ((bnew (Below.refl W2.heap.size W2) (.cells #[.int .i64 0, .int .i64 0, .slice none 0 0] 26)).drew)
  have HRB : Hid (∀ W, (W.cell? ⟨w1.heap.size, 0, none⟩ = some (.int .i64 (S : Int)) ∧ W.cell? ⟨w1.heap.size, 1, none⟩ = some (.int .i64 t) ∧ W.cell? ⟨w1.heap.size, 2, none⟩ = some (.slice A l.length cA) ∧ Below W2.heap.size W2 W) → RB W A0 l0) := fun W h => R2.out.below h.2.2.2
  have HX : Hid (∀ W, (W.cell? ⟨w1.heap.size, 0, none⟩ = some (.int .i64 (S : Int)) ∧ W.cell? ⟨w1.heap.size, 1, none⟩ = some (.int .i64 t) ∧ W.cell? ⟨w1.heap.size, 2, none⟩ = some (.slice A l.length cA) ∧ Below W2.heap.size W2 W) → RP W A l) := fun W h => RA2.out.below h.2.2.2
  clear a0 a1 a2
  go_cut [5] from 24 (fun s5 wx => CylAt 32 W2 s5 (.int .i64 (S : Int)) (.int .i64 t) (turnL (S : Int) t l b) wx)
  case first => as_aux_lemma =>
    go_region_held3 (fun W => W.cell? ⟨w1.heap.size, 0, none⟩ = some (.int .i64 (S : Int)) ∧ W.cell? ⟨w1.heap.size, 1, none⟩ = some (.int .i64 t) ∧ W.cell? ⟨w1.heap.size, 2, none⟩ = some (.slice A l.length cA) ∧ Below W2.heap.size W2 W) (first | exact h9' | exact h0 | exact hA0 | exact HBt.out _ _ (by assumption) (bnew (Below.refl _ _) _) | exact HKs.out _ _ _ _ _ (HSz.out _ (by assumption)) (by assumption)) (first
      | (go_at_call 10; with_reducible refine (CALL1.out _ (HRB.out _ (by assumption))).mono ?_; rintro e w' ⟨rfl, rfl⟩)
      | (go_at_call 42; with_reducible refine (spec_TurnBy (HX.out _ (by assumption))).mono ?_; rintro e W9 ⟨B9, d9, rfl, O9, hq9⟩; have h9' := HBt.out _ _ (by assumption) hq9; have hlo9 := HSq.out _ _ (by assumption) hq9; (try have kC := zc_new hq9); (try have kC := zc_newd hq9); (try (have kC2 := kC.2; unfold ZC at kC2; obtain ⟨⟨y0, y1, y2⟩, y3, y4, y5⟩ := kC2)); have zp := (zc_new (V := W9) (T := 26) (Below.refl _ _)).2; unfold ZC at zp; obtain ⟨⟨v0, v1, v2⟩, v3, v4, v5⟩ := zp))
    all_goals
      go_wp2_with fail
      go_meet
      case rel => first | (with_reducible exact cyl_meet3 O9 hlo9 h9'.2.2.2) | (with_reducible exact cyl_meet1 kC O9 (HSz.out _ (by assumption)) h9'.2.2.2)
  case rest =>
  clear HKK HBt HSz HSq HKs h0 hB0 hA0 HRB HX CALL1
  obtain ⟨W5, hW5⟩ : ∃ W, W = wc := ⟨_, rfl⟩
  subst hW5
  obtain ⟨gb, T, cT, lo5, hi5, rfl, ⟨p0, p1, p2⟩, O5, _, _, _, _, hb5⟩ := hcut
  rw [hTL.out, hTLl.out] at p2
  rw [hTL.out] at O5
  have hcapT := O5.capC
  rw [hTLl.out] at hcapT
  have HCT := Lib.hid hcapT
  have CT5 : Hid (CB W5 gb (S : Int) t T l.length cT) := ⟨p0, p1, p2⟩
  have RT5 := Lib.hid O5.reads
  have CA5 := Lib.hid (CA2.out.below hb5)
  have RA5 := Lib.hid (RA2.out.below hb5)
  have HB5 := Lib.hid (bthen HB2.out hb5)
  clear p0 p1 p2 O5 hb5 CA2 RA2 HB2 R2 hcapT
  have hir : inR r 1 96 = true := inR_of (by omega) (by omega)
  obtain ⟨M, hM⟩ : ∃ M, Hid (tooM (S : Int) t l r = M) := ⟨_, rfl⟩
  obtain ⟨m, hm⟩ : ∃ m, Hid (M.length = m) := ⟨_, rfl⟩
  have hM2 : Hid ((tooM (S : Int) t TL r).length = m) := by
    show _ = _
    rw [too_len hTLo.out hir, ← hTL.out, near_turned HK.out HIB.out, ← too_len HK.out hir, hM.out, hm.out]
  obtain ⟨M2, hM2'⟩ : ∃ M, Hid (tooM (S : Int) t TL r = M) := ⟨_, rfl⟩
  rw [hM2'.out] at hM2
  obtain ⟨n, hn⟩ : ∃ n, Hid (closestM (S : Int) t l = n) := ⟨_, rfl⟩
  have hn2 : Hid (closestM (S : Int) t TL = n) := by show _ = _; rw [← hTL.out, close_turned HK.out HIB.out]; exact hn.out
  have hn1 : 1 ≤ n := by rw [← hn.out]; exact close_pos HK.out
  have hnS : n ≤ (S : Int) := by rw [← hn.out]; exact close_le HK.out
  have hmz : Hid (m = 0 ↔ (r ≤ n ∨ n = (S : Int))) := by
    show _ ↔ _
    rw [← hm.out, ← hM.out, too_len HK.out hir, ← hn.out]
    exact close_too HK.out
  have hpl : Hid (playM (S : Int) t l r = decide (m = 0)) := by
    show _ = _
    rw [play_eq HK.out hir, hM.out, hm.out]
  obtain ⟨sb, hsb⟩ : ∃ b, Hid (seamM (S : Int) t l r = b) := ⟨_, rfl⟩
  have hsm : Hid (sb = true → 0 < m) := fun h => by
    have := seam_some (hsb.out.trans h)
    rwa [hM.out, hm.out] at this
  have hm1000 : m ≤ 10000 := by rw [← hm.out, ← hM.out]; exact tooM_le
  have HNR : Hid (AllNear (S : Int) r l M) := by show AllNear _ _ _ _; rw [← hM.out]; exact too_near
  clear hir
  obtain ⟨a0, a1, a2⟩ := CA5.out
  go_wp2_with fail
  refine (w_too RA5.out rfl hM.out hm.out).mono ?_
  rintro e w6 ⟨D6, d6, rfl, hR6, hq⟩
  have RM6 := Lib.hid hR6
  have hq6 := Lib.hid hq
  have HB6 := Lib.hid (bthen HB5.out hq)
  clear hR6 hq a0 a1 a2
  obtain ⟨a0, a1, a2⟩ := CA5.out.below hq6.out
  go_wp2_with fail
  refine (w_close (RA5.out.below hq6.out) HCAP.out rfl hn.out).mono ?_
  rintro e w7 ⟨rfl, hq⟩
  have RM7 := Lib.hid (RM6.out.below hq)
  have hq7 := Lib.hid (bthen hq6.out hq)
  have HB7a := Lib.hid (bthen HB6.out hq)
  clear hq a0 a1 a2 hq6 RM6 HB6
  obtain ⟨w7', hw7⟩ : ∃ W, W = w7 := ⟨_, rfl⟩
  subst hw7
  have hn1d : decide (n < 1) = false := decide_eq_false (by omega)
  go_upto_region 8 with fail
  go_cut [73] from 33 (fun s73 wx => s73 = .bool false ∧ Below w7'.heap.size w7' wx)
  case first => as_aux_lemma =>
    obtain ⟨a0, a1, a2⟩ := CT5.out.below hq7.out
    have RTl := Lib.hid (RT5.out.below hq7.out)
    have HCT2 : Hid (TL.length ≤ cT) := by show _ ≤ _; rw [hTLl.out]; exact HCT.out
    go_wp2_with fail
    refine (w_close RTl.out HCT2.out hTLl.out.symm hn2.out).mono ?_
    rintro e v1 ⟨rfl, hq⟩
    have B1 := Lib.hid hq
    have cb1 := CT5.out.below (bthen hq7.out hq)
    obtain ⟨k0, k1, k2⟩ := cb1
    clear hq a0 a1 a2
    go_wp2_with fail
    refine (w_too (RTl.out.below B1.out) hTLl.out.symm hM2'.out hM2.out).mono ?_
    rintro e v2 ⟨D8, d8, rfl, -, hq⟩
    have B2 := Lib.hid (bthen B1.out hq)
    have cb2 := CA5.out.below (bthen hq7.out B2.out)
    obtain ⟨a0, a1, a2⟩ := cb2
    clear hq k0 k1 k2
    go_wp2_with fail
    refine (w_play (RA5.out.below (bthen hq7.out B2.out)) rfl hpl.out).mono ?_
    rintro e v3 ⟨rfl, hq⟩
    have B3 := Lib.hid (bthen B2.out hq)
    have cb3 := CA5.out.below (bthen hq7.out B3.out)
    obtain ⟨k0, k1, k2⟩ := cb3
    clear hq a0 a1 a2
    by_cases hrn : r ≤ n
    · have hm0 := hmz.out.2 (.inl hrn)
      have q0 : decide (m = 0) = true := decide_eq_true hm0
      have q1 : ((m : Int) == 0) = true := beq_iff_eq.2 (by omega)
      have q2 : decide (r ≤ n) = true := decide_eq_true hrn
      clear hm0 hrn
      rw [q0]
      go_wp2_with fail
      go_meet
      case rel => exact ⟨rfl, B3.out⟩
    · have q2 : decide (r ≤ n) = false := decide_eq_false hrn
      obtain ⟨fb, hfb⟩ : ∃ fb, (n == (S : Int)) = fb := ⟨_, rfl⟩
      have q0 : decide (m = 0) = fb := by
        rw [← hfb]
        by_cases hnS2 : n = (S : Int)
        · rw [beq_iff_eq.2 hnS2]; exact decide_eq_true (hmz.out.2 (.inr hnS2))
        · rw [beq_eq_false_iff_ne.2 hnS2]
          refine decide_eq_false fun h => ?_
          rcases hmz.out.1 h with h | h
          · exact hrn h
          · exact hnS2 h
      have q1 : ((m : Int) == 0) = fb := by
        rw [← q0]
        by_cases h : m = 0
        · rw [decide_eq_true h]; exact beq_iff_eq.2 (by omega)
        · rw [decide_eq_false h]; exact beq_eq_false_iff_ne.2 (by omega)
      clear hrn
      rw [q0]
      go_wp2_with fail
      go_meet
      case rel => exact ⟨by cases fb <;> rfl, B3.out⟩
  case rest =>
  obtain ⟨rfl, hqc⟩ := hcut
  obtain ⟨X, hX⟩ : ∃ W, W = wc := ⟨_, rfl⟩
  subst hX
  have CA := Lib.hid (CA5.out.below (bthen hq7.out hqc))
  have RA := Lib.hid (RA5.out.below (bthen hq7.out hqc))
  have RM := Lib.hid (RM7.out.below hqc)
  have HB7 := Lib.hid (bthen HB7a.out hqc)
  clear hqc hq7 CT5 RT5 CA5 RA5 RM7 HB7a hpl hn2 hM2 hM2' hTLo hTLl hmz hn HB5 HCT
  go_wp2
  go_loopw [8] (fun i wr => ∃ k : Nat, k ≤ m ∧ i = .int .i64 k ∧ Below X.heap.size X wr) (fun i _ => m - (intOf i).toNat)
  case atStart => exact ⟨0, Nat.zero_le _, rfl, Below.refl _ _⟩
  case round =>
    obtain ⟨k, hk, rfl, hbel⟩ := hrel
    by_cases hlt : k < m
    · as_aux_lemma =>
      have hkM : k < M.length := by rw [hm.out]; exact hlt
      obtain ⟨i, j, e0, hij, hjl, hnr⟩ := HNR.out k hkM
      obtain ⟨x, y, e1⟩ := pair_of l i
      obtain ⟨x', y', e2⟩ := pair_of l j
      obtain ⟨hxx, hgr⟩ : x = x' ∧ gapM y y' (S : Int) < r := by
        unfold nearB at hnr
        rw [decide_eq_true_eq, e1.out, e2.out] at hnr
        exact hnr
      subst hxx
      obtain ⟨gv, hgv⟩ : ∃ g, Hid (gapM y y' (S : Int) = g) := ⟨_, rfl⟩
      have hgv2 : Hid (gapM y' y (S : Int) = gv) := by show _ = _; rw [gap_symm]; exact hgv.out
      rw [hgv.out] at hgr
      have hSl := RM.out.below hbel
      obtain ⟨br, or, rfl, hbr, hrow⟩ := hSl.2 (by omega)
      obtain ⟨g, c1, hRI⟩ := hrow k hkM
      rw [e0] at hRI
      obtain ⟨bg, og, hbg, PG⟩ := hRI.2 (by simp [two])
      injection hbg with hbg
      injection hbg with hg1 hg2 _
      subst hg1 hg2
      have c2 : wr.cell? ⟨g, 0, none⟩ = some (.int .i64 (i : Int)) := by
        have := PG.2 0 (by simp [two])
        simpa [two] using this
      have c3 : wr.cell? ⟨g, 1, none⟩ = some (.int .i64 (j : Int)) := by
        have := PG.2 1 (by simp [two])
        simpa [two] using this
      obtain ⟨bp, op, rfl, PP⟩ := RA.out.2 (by omega)
      have hil : i < l.length := by omega
      have c4 := PP.c1 hbel hil e1; have c5 := PP.c2 hbel hil e1
      have c6 := PP.c1 hbel hjl e2; have c7 := PP.c2 hbel hjl e2
      obtain ⟨a0, a1, a2⟩ := CA.out.below hbel
      have n1 : ∀ q : After wr.heap.size wr, q.w.cell? ⟨br, or + k, none⟩ = some (sl2 g) := cell_after c1 (Below.refl _ _)
      unfold sl2 at n1 c1
      have n2 := cell_after c2 (Below.refl _ _); have n3 := cell_after c3 (Below.refl _ _)
      have n4 := cell_after a2 (Below.refl _ _)
      have HBr := Lib.hid hbel
      have iz : ¬ (i : Int) < 0 := by omega
      have jz : ¬ (l.length : Int) ≤ (j : Int) := by omega
      have ijz : ¬ (j : Int) ≤ (i : Int) := by omega
      clear hrow hRI PG PP hSl hbel e1 e2 e0 hnr hkM
      have HC : Hid (∀ W, Below wr.heap.size wr W → W.cell? ⟨br, or + k, none⟩ = some (.slice (some ⟨g, 0, none⟩) 2 2) ∧ W.cell? ⟨g, 0, none⟩ = some (.int .i64 (i : Int)) ∧ W.cell? ⟨g, 1, none⟩ = some (.int .i64 (j : Int)) ∧ W.cell? ⟨w1.heap.size, 2, none⟩ = some (.slice (some ⟨bp, op, none⟩) l.length cA) ∧ W.cell? ⟨bp, op + i * 2, none⟩ = some (.int .i64 x) ∧ W.cell? ⟨bp, op + i * 2 + 1, none⟩ = some (.int .i64 y) ∧ W.cell? ⟨bp, op + j * 2, none⟩ = some (.int .i64 x) ∧ W.cell? ⟨bp, op + j * 2 + 1, none⟩ = some (.int .i64 y') ∧ W.cell? ⟨w1.heap.size, 0, none⟩ = some (.int .i64 (S : Int))) := fun W h => ⟨cell_later c1 h, cell_later c2 h, cell_later c3 h, cell_later a2 h, cell_later c4 h, cell_later c5 h, cell_later c6 h, cell_later c7 h, cell_later a0 h⟩
      go_wp2_with fail
      have izd : decide ((i : Int) < 0) = false := decide_eq_false (by omega)
      have jzd : decide (l.length ≤ j) = false := decide_eq_false (by omega)
      have jze : decide ((l.length : Int) ≤ (j : Int)) = false := decide_eq_false (by omega)
      have ijd : decide (j ≤ i) = false := decide_eq_false (by omega)
      have ije : decide ((j : Int) ≤ (i : Int)) = false := decide_eq_false (by omega)
      refine wp_region_after (by kernel_rfl) (by kernel_rfl) ?_
      repeat (go_big_quiet_step (fail))
      refine wpQuiet_nil ?_
      rintro wq ⟨⟨_, hq⟩, rfl⟩
      have HBq := Lib.hid (bthen HBr.out hq)
      have hqh := Lib.hid hq
      clear n1 n2 n3 n4 c1 c2 c3 c4 c5 c6 c7 a0 a1 a2 hq iz jz ijz izd jzd jze ijd ije
      go_wp2_with fail
      have hdr := Lib.hid (bthen hqh.out (Below.refl wq.heap.size wq).drew)
      have DA : Hid (Below wr.heap.size wr (wq.alloc (.cells #[.int .i64 0, .int .i64 0] 32)).drew) := (bnew hqh.out _).drew
      have DB : Hid (Below wr.heap.size wr (wq.alloc (.cells #[.int .i64 x, .int .i64 y] 32)).drew) := (bnew hqh.out _).drew
      go_region_held3 (fun W => W.cell? ⟨br, or + k, none⟩ = some (.slice (some ⟨g, 0, none⟩) 2 2) ∧ W.cell? ⟨g, 0, none⟩ = some (.int .i64 (i : Int)) ∧ W.cell? ⟨g, 1, none⟩ = some (.int .i64 (j : Int)) ∧ W.cell? ⟨w1.heap.size, 2, none⟩ = some (.slice (some ⟨bp, op, none⟩) l.length cA) ∧ W.cell? ⟨bp, op + i * 2, none⟩ = some (.int .i64 x) ∧ W.cell? ⟨bp, op + i * 2 + 1, none⟩ = some (.int .i64 y) ∧ W.cell? ⟨bp, op + j * 2, none⟩ = some (.int .i64 x) ∧ W.cell? ⟨bp, op + j * 2 + 1, none⟩ = some (.int .i64 y') ∧ W.cell? ⟨w1.heap.size, 0, none⟩ = some (.int .i64 (S : Int))) (first | exact HC.out _ hdr.out | exact HC.out _ DA.out | exact HC.out _ DB.out | go_keep) (fail)
      all_goals
        generalize hW : World.alloc wq _ = W15
        obtain ⟨b15, z15, r0, r1⟩ := new2c hW
        clear hW hdr DA DB z15
        obtain ⟨w15, hw15⟩ : ∃ W, W = W15.drew := ⟨_, rfl⟩
        have bd15 : Below W15.heap.size W15 w15 := by rw [hw15]; exact (Below.refl _ _).drew
        rw [← hw15]
        replace r0 := cell_later r0 bd15; replace r1 := cell_later r1 bd15
        have hqi := Lib.hid (bthen hqh.out (bthen b15 bd15))
        have HBs := Lib.hid (bthen HBr.out hqi.out)
        clear hw15 bd15 b15 hqh
        have hdr := Lib.hid (bthen hqi.out (Below.refl w15.heap.size w15).drew)
        have DA : Hid (Below wr.heap.size wr (w15.alloc (.cells #[.int .i64 0, .int .i64 0] 32)).drew) := (bnew hqi.out _).drew
        have DB : Hid (Below wr.heap.size wr (w15.alloc (.cells #[.int .i64 x, .int .i64 y'] 32)).drew) := (bnew hqi.out _).drew
        go_wp2_with fail
        go_region_held3 (fun W => W.cell? ⟨br, or + k, none⟩ = some (.slice (some ⟨g, 0, none⟩) 2 2) ∧ W.cell? ⟨g, 0, none⟩ = some (.int .i64 (i : Int)) ∧ W.cell? ⟨g, 1, none⟩ = some (.int .i64 (j : Int)) ∧ W.cell? ⟨w1.heap.size, 2, none⟩ = some (.slice (some ⟨bp, op, none⟩) l.length cA) ∧ W.cell? ⟨bp, op + i * 2, none⟩ = some (.int .i64 x) ∧ W.cell? ⟨bp, op + i * 2 + 1, none⟩ = some (.int .i64 y) ∧ W.cell? ⟨bp, op + j * 2, none⟩ = some (.int .i64 x) ∧ W.cell? ⟨bp, op + j * 2 + 1, none⟩ = some (.int .i64 y') ∧ W.cell? ⟨w1.heap.size, 0, none⟩ = some (.int .i64 (S : Int))) (first | exact HC.out _ hdr.out | exact HC.out _ DA.out | exact HC.out _ DB.out | go_keep) (fail)
        all_goals
          generalize hW : World.alloc w15 _ = W16
          obtain ⟨b16, z16, q0, q1⟩ := new2c hW
          clear hW hdr DA DB z16
          obtain ⟨w16, hw16⟩ : ∃ W, W = W16.drew := ⟨_, rfl⟩
          have bd16 : Below W16.heap.size W16 w16 := by rw [hw16]; exact (Below.refl _ _).drew
          rw [← hw16]
          replace q0 := cell_later q0 bd16; replace q1 := cell_later q1 bd16
          replace r0 := cell_later r0 (bthen b16 bd16); replace r1 := cell_later r1 (bthen b16 bd16)
          obtain ⟨-, -, -, -, -, -, -, -, s0⟩ := HC.out _ (bthen hqi.out (bthen b16 bd16))
          have HBf := Lib.hid (bthen HBs.out (bthen b16 bd16))
          clear hw16 bd16 b16 hqi HBs HC
          go_wp2_with fail
          refine (w_gap hgv.out).mono ?_
          rintro e w' ⟨rfl, rfl⟩
          go_wp2_with fail
          refine (w_gap hgv2.out).mono ?_
          rintro e w' ⟨rfl, rfl⟩
          go_wp2
          go_roundw
          case rel => exact ⟨k + 1, by omega, by go_num, HBf.out⟩
          case measure => simp [intOf]; omega
    · have HBr := Lib.hid hbel
      obtain ⟨a0, a1, a2⟩ := CA.out.below hbel
      clear hbel
      obtain ⟨q, hqq⟩ : ∃ q, Hid (quietM (S : Int) t l = q) := ⟨_, rfl⟩
      go_wp2_with fail
      refine (w_quiet (RA.out.below HBr.out) hqq.out).mono ?_
      rintro e w20 ⟨rfl, hq⟩
      have HB20 := Lib.hid (bthen HBr.out hq)
      clear hq a0 a1 a2
      go_wp2
      go_loopw [13, 14] (fun v i wx => ∃ K u : Nat, K ≤ S ∧ i = .int .i64 K ∧ v = .int .i64 u ∧ Hid (usedN S t l K = u) ∧ u ≤ K ∧ Below X.heap.size X wx) (fun _ i _ => S - (intOf i).toNat)
      case atStart => exact ⟨0, 0, Nat.zero_le _, rfl, rfl, rfl, Nat.le_refl _, HB20.out⟩
      clear HB20 HBr
      case round =>
        obtain ⟨K, u, hK, rfl, rfl, hu, huK, hbel⟩ := hrel
        have HBl := Lib.hid hbel
        obtain ⟨a0, a1, a2⟩ := CA.out.below hbel
        clear hbel
        by_cases hlt2 : K < S
        · obtain ⟨j, hj⟩ : ∃ j, Hid ((pinsAt (S : Int) t l (K : Int)).length = j) := ⟨_, rfl⟩
          have hfr : Hid (freeAt (S : Int) t l (K : Int) = decide (j = 0)) := by show _ = _; unfold freeAt; rw [hj.out]
          by_cases hj0 : j = 0
          · have hu2 : Hid (usedN S t l (K + 1) = u) := by
              show cnt _ (K + 1) = u
              rw [cnt_no (show (!(freeAt (S : Int) t l (K : Int))) = false by rw [hfr.out, decide_eq_true hj0]; rfl)]
              exact hu.out
            have d0 : decide (0 < j) = false := decide_eq_false (by omega)
            clear hj0
            go_wp2_with fail
            refine (w_pins (RA.out.below HBl.out) hj.out).mono ?_
            rintro e v1 ⟨D1, d1, rfl, hq⟩
            have HB1 := Lib.hid (bthen HBl.out hq)
            clear hq a0 a1 a2
            go_wp2_with fail
            refine (w_btoi).mono ?_
            rintro e w' ⟨rfl, rfl⟩
            try simp only [Bool.false_eq_true, if_false]
            go_wp2
            go_roundw
            case rel => exact ⟨K + 1, u, by omega, by go_num, by go_num, hu2, by omega, HB1.out⟩
            case measure => simp [intOf]; omega
          · have hu2 : Hid (usedN S t l (K + 1) = u + 1) := by
              show cnt _ (K + 1) = u + 1
              rw [cnt_yes (show (!(freeAt (S : Int) t l (K : Int))) = true by rw [hfr.out, decide_eq_false hj0]; rfl)]
              exact congrArg (· + 1) hu.out
            have d0 : decide (0 < j) = true := decide_eq_true (by omega)
            clear hj0
            go_wp2_with fail
            refine (w_pins (RA.out.below HBl.out) hj.out).mono ?_
            rintro e v1 ⟨D1, d1, rfl, hq⟩
            have HB1 := Lib.hid (bthen HBl.out hq)
            clear hq a0 a1 a2
            go_wp2_with fail
            refine (w_btoi).mono ?_
            rintro e w' ⟨rfl, rfl⟩
            try simp only [if_true]
            go_wp2
            go_roundw
            case rel => exact ⟨K + 1, u + 1, by omega, by go_num, by go_num, hu2, by omega, HB1.out⟩
            case measure => simp [intOf]; omega
        · obtain rfl : K = S := by omega
          have hqf := quiet_facts HK.out (show 0 < K by omega)
          rw [hqq.out, hu.out] at hqf
          go_upto_region 27 with fail
          clear a0 a1 a2 hlt2 hK
          generalize hW : World.alloc wr _ = Wa
          obtain ⟨ba, za, rs⟩ := lit_seam hW
          clear hW
          generalize hW : World.alloc Wa _ = Wz
          obtain ⟨bb, zb, s0, s1, s2⟩ := new3c hW
          clear hW zb
          rw [za] at s0 s1 s2
          have CS : Hid (CB Wz (wr.heap.size + 1) 12 1 (some ⟨wr.heap.size, 0, none⟩) 2 2) := ⟨s0, s1, s2⟩
          have RS : Hid (RP Wz (some ⟨wr.heap.size, 0, none⟩) [(0, 0), (0, 11)]) := rs.below bb
          have HBz := Lib.hid (bthen HBl.out (bthen ba bb))
          clear ba bb za rs s0 s1 s2
          have BZz := Lib.hid (Below.refl Wz.heap.size Wz)
          obtain ⟨c0z, c1z, c2z⟩ := CA.out.below HBz.out
          obtain ⟨s0z, s1z, s2z⟩ := CS.out
          have RSz := RS
          rcases hqf with ⟨rfl, rfl⟩ | ⟨y, hy, rfl, huS, hfy, hfy2⟩
          · as_aux_lemma =>
            go_wp2_with fail
            refine (w_seam RSz.out rfl seam_const.1).mono ?_
            rintro e z1 ⟨rfl, hq⟩
            have HBa := Lib.hid (bthen HBz.out hq)
            have BZ1 := Lib.hid (bthen BZz.out hq)
            obtain ⟨y0, y1, y2⟩ := CS.out.below BZ1.out
            clear hq c0z c1z c2z s0z s1z s2z
            go_wp2_with fail
            refine (w_play (RS.out.below BZ1.out) rfl seam_const.2).mono ?_
            rintro e z2 ⟨rfl, hq⟩
            have HBb := Lib.hid (bthen HBa.out hq)
            obtain ⟨c0z, c1z, c2z⟩ := CA.out.below HBb.out
            clear hq y0 y1 y2
            go_wp2_with fail
            refine (w_seam (RA.out.below HBb.out) rfl hsb.out).mono ?_
            rintro e z3 ⟨rfl, hq⟩
            have HBc := Lib.hid (bthen HB7.out (bthen HBb.out hq))
            clear hq
            cases sb
            · go_wp2
              go_ret
              exact ⟨rfl, HBc.out⟩
            · have hm0 := hsm.out rfl
              go_wp2
              go_ret
              exact ⟨rfl, HBc.out⟩
          · have q0 : ((y : Int) == -1) = false := beq_eq_false_iff_ne.2 (by omega)
            have q1 : ((u : Int) == (K : Int)) = false := beq_eq_false_iff_ne.2 (by omega)
            have q2 : decide ((y : Int) < 0) = false := decide_eq_false (by omega)
            have hj0 : (pinsAt (K : Int) t l (y : Int)).length = 0 := by
              unfold freeAt at hfy
              exact of_decide_eq_true hfy
            have hj := Lib.hid hj0
            clear hj0
            clear huS hfy RSz
            go_wp2_with fail
            refine (w_pins (RA.out.below HBz.out) hj.out).mono ?_
            rintro e v1 ⟨D1, d1, rfl, hq⟩
            have HBz1 := Lib.hid (bthen HBz.out hq)
            have BZz1 := Lib.hid hq
            clear hq c0z c1z c2z s0z s1z s2z HBz BZz
            obtain ⟨c0z, c1z, c2z⟩ := CA.out.below HBz1.out
            obtain ⟨s0z, s1z, s2z⟩ := CS.out.below BZz1.out
            by_cases hy0 : y = 0
            · as_aux_lemma =>
              subst hy0
              have RSz := Lib.hid (RS.out.below BZz1.out)
              have HBz := HBz1
              have BZz := BZz1
              clear hfy2 q0 q2 HBz1 BZz1
              go_wp2_with fail
              refine (w_seam RSz.out rfl seam_const.1).mono ?_
              rintro e z1 ⟨rfl, hq⟩
              have HBa := Lib.hid (bthen HBz.out hq)
              have BZ1 := Lib.hid (bthen BZz.out hq)
              obtain ⟨y0, y1, y2⟩ := CS.out.below BZ1.out
              clear hq c0z c1z c2z s0z s1z s2z
              go_wp2_with fail
              refine (w_play (RS.out.below BZ1.out) rfl seam_const.2).mono ?_
              rintro e z2 ⟨rfl, hq⟩
              have HBb := Lib.hid (bthen HBa.out hq)
              obtain ⟨c0z, c1z, c2z⟩ := CA.out.below HBb.out
              clear hq y0 y1 y2
              go_wp2_with fail
              refine (w_seam (RA.out.below HBb.out) rfl hsb.out).mono ?_
              rintro e z3 ⟨rfl, hq⟩
              have HBc := Lib.hid (bthen HB7.out (bthen HBb.out hq))
              clear hq
              cases sb
              · go_wp2
                go_ret
                exact ⟨rfl, HBc.out⟩
              · have hm0 := hsm.out rfl
                go_wp2
                go_ret
                exact ⟨rfl, HBc.out⟩
            · as_aux_lemma =>
              have q3 : ((y : Int) == 0) = false := beq_eq_false_iff_ne.2 (by omega)
              obtain ⟨j', hj'⟩ : ∃ j, Hid ((pinsAt (K : Int) t l ((y : Int) - 1)).length = j) := ⟨_, rfl⟩
              have hjp : 0 < j' := by
                rcases hfy2 with h | h
                · exact absurd h hy0
                · unfold freeAt at h
                  rw [decide_eq_false_iff_not, hj'.out] at h
                  omega
              have q4 : decide (0 < j') = true := decide_eq_true hjp
              clear hfy2 hy0
              go_wp2_with fail
              refine (w_pins (RA.out.below HBz1.out) hj'.out).mono ?_
              rintro e v2 ⟨D2, d2, rfl, hq⟩
              have HBz := Lib.hid (bthen HBz1.out hq)
              have BZz := Lib.hid (bthen BZz1.out hq)
              clear hq c0z c1z c2z s0z s1z s2z HBz1 BZz1
              obtain ⟨c0z, c1z, c2z⟩ := CA.out.below HBz.out
              obtain ⟨s0z, s1z, s2z⟩ := CS.out.below BZz.out
              have RSz := Lib.hid (RS.out.below BZz.out)
              go_wp2_with fail
              refine (w_seam RSz.out rfl seam_const.1).mono ?_
              rintro e z1 ⟨rfl, hq⟩
              have HBa := Lib.hid (bthen HBz.out hq)
              have BZ1 := Lib.hid (bthen BZz.out hq)
              obtain ⟨y0, y1, y2⟩ := CS.out.below BZ1.out
              clear hq c0z c1z c2z s0z s1z s2z
              go_wp2_with fail
              refine (w_play (RS.out.below BZ1.out) rfl seam_const.2).mono ?_
              rintro e z2 ⟨rfl, hq⟩
              have HBb := Lib.hid (bthen HBa.out hq)
              obtain ⟨c0z, c1z, c2z⟩ := CA.out.below HBb.out
              clear hq y0 y1 y2
              go_wp2_with fail
              refine (w_seam (RA.out.below HBb.out) rfl hsb.out).mono ?_
              rintro e z3 ⟨rfl, hq⟩
              have HBc := Lib.hid (bthen HB7.out (bthen HBb.out hq))
              clear hq
              cases sb
              · go_wp2
                go_ret
                exact ⟨rfl, HBc.out⟩
              · have hm0 := hsm.out rfl
                go_wp2
                go_ret
                exact ⟨rfl, HBc.out⟩

set_option maxRecDepth 100000 in
theorem lifted (os : Os) (started : os.Started) (H : Type) (enc : TypeId × Value → H) :
    ReturnsInHanded {} Try.checked os 7 .any (Rows.fnSeamsSpec.pre6 enc Try.prog Try.f7 Rows.fnSeamsRow.domain false) (Rows.fnSeamsSpec.post enc Try.prog Try.f7 false true false false) := by
  refine returnsInHanded_of_change (C := Try.checked) Try_own started (by kernel_rfl) Try.func7
    (ChangeSpec.witness6 (enc := enc) (C := Try.checked) false ⟨#[], #[.slice none 0 0], []⟩ 8 (by kernel_rfl) (by kernel_rfl) (by kernel_rfl) (by kernel_rfl)) ?_
  intro W base args ds gs before hval0 hW hcnd _
  have hval : ∀ (j : Nat) t v, Try.f7.params[j]? = some t → args[j]? = some v → Value.okWide Try.prog W .any base t v := hval0
  have hW' := hW
  obtain ⟨p, q, hA0, hV, rfl, hfz, hnd⟩ := hW
  have hA : DataW.TrodAll enc Try.prog W 0 (fun _ => true) true Try.f7.params.toList args.toList ds p := hA0
  rw [Try.params7] at hA hval
  obtain ⟨v0, vs0, d0, ds0, p0, q0, hargs, rfl, rfl, h0, r0⟩ := trodAll_cons hA
  obtain ⟨rfl, rfl, rfl⟩ := trodAll_nil r0
  obtain rfl : args = #[v0] := by cases args; simp_all
  obtain ⟨rfl, rfl⟩ := trodVars_none hV
  obtain ⟨A0, n0, c0, rfl⟩ := okWide_slice Try.underlying22 (hval 0 22 v0 rfl rfl)
  have k0 := h0
  have lt0 : ∀ x ∈ p0, x.block < W.heap.size := by obtain ⟨m, hm⟩ := k0; exact DataW.trod_lt m _ _ _ hm
  obtain ⟨l0, rfl, cm0, cl0, rd0⟩ := open_bytes_arg Try.underlying22 Try.underlying5 (by kernel_rfl) h0
  clear hA0 hval0
  refine (walk W A0 c0 l0 cm0 cl0 rd0).mono fun e W' ⟨he, bel⟩ => ?_
  subst he
  exact ⟨_, rfl, _, _, _, [], _, [], hW', trodAll_mk1 (shut_bool Try.underlying4 _), (trodAll_cons_mk (Below.trod Try_laidOut (by kernel_rfl) (of_decide_eq_true (by kernel_rfl)) k0 bel lt0) trodAll_mk0), rfl, bel.frame _, fun h => by cases h⟩

theorem over : Rows.fnSeamsRow.holds Try.pinned (OpenSpec.ofChange Rows.fnSeamsSpec) :=
  OpenClaim.holds_of_wide 7 Try.f7 rfl rfl rfl rfl rfl rfl rfl ⟨rfl, rfl, rfl, rfl, rfl⟩ rfl rfl rfl rfl rfl (by kernel_rfl) Try.func7 (by kernel_rfl)
    (of_decide_eq_true (by kernel_rfl)) (by unfold Func.isWrapper; first | (rw [if_pos (by decide +kernel)]; kernel_rfl) | (rw [if_neg (by decide +kernel)]; exact ⟨rfl, rfl⟩))
    (fun os started H enc _ => lifted os started H enc)

theorem proved : Rows.FnSeamsSaid := over
end Go.Proofs.Ytakllloangpimaa.lawSeams
