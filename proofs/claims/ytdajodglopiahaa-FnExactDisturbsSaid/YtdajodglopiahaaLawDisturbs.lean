/- Whatever the arguments, up to the law's own bound of 2^20 = 1048576 elements (beyond it the law answers true without looking), the program's Disturbs returns what the reference's returns, leaves its arguments as they were, and shares no memory with them. There are no other conditions. -/
import Derived.Test.YtdajodglopiahaaFrame
import Derived.Deep.RegionHeld3
import Derived.Test.YtdajodglopiahaaDist
import Derived.Test.YtdajodglopiahaaCylB
namespace Go.Proofs.Ytdajodglopiahaa.lawDisturbs
open Go.ChangeShapes Go.WideShapes Go.ChangeAt Go.RowKit
open Go.ChangeMaps (open_string shut_string)
set_option linter.unusedVariables false

set_option maxHeartbeats 2000000 in
theorem walk (w : World) (a0 b0 : Int) (A0 : Option Addr) (c0 : Nat) (l0 : List (Int × Int)) (cm0 : c0 ≤ maxLen) (cl0 : l0.length ≤ c0) (rd0 : 0 < l0.length → ∃ b off, A0 = some ⟨b, off, none⟩ ∧ PairsAt w b off l0) (a1 b1 : Int) (A1 : Option Addr) (c1 : Nat) (l1 : List (Int × Int)) (cm1 : c1 ≤ maxLen) (cl1 : l1.length ≤ c1) (rd1 : 0 < l1.length → ∃ b off, A1 = some ⟨b, off, none⟩ ∧ PairsAt w b off l1) (a2 : Int) (w2 : (Lit.int .i64 a2).wf = true) :
    Calls Try.prog 6 #[.agg #[.int .i64 a0, .int .i64 b0, .slice A0 l0.length c0], .agg #[.int .i64 a1, .int .i64 b1, .slice A1 l1.length c1], .int .i64 a2] w fun e w' => e = .returned (.bool true) ∧ Below w.heap.size w w' := by
  have cm0' := cm0; unfold maxLen at cm0
  have cm1' := cm1; unfold maxLen at cm1
  by_cases zz0 : 1048576 < l0.length
  · go_enter Try.func6, Try.ntmps6
    go_wp2_with fail
    refine (laws_szCylinder_no (by omega) (by omega) (by omega) (by omega)).mono ?_
    rintro e u ⟨rfl, hu⟩
    go_wp2
    go_ret
    exact ⟨rfl, bthen (bnew (bnew (Below.refl _ _) _) _) hu⟩
  by_cases zz1 : 1048576 < l0.length + l1.length
  · go_enter Try.func6, Try.ntmps6
    go_wp2_with fail
    generalize hW : World.alloc w _ = v0
    obtain ⟨hq0, zv0, _, _, _⟩ := new3c hW
    clear hW
    generalize hW : World.alloc v0 _ = v1
    obtain ⟨hq1, _, p0, p1, p2⟩ := new3c hW
    clear hW
    rw [zv0] at p0 p1 p2
    refine (laws_szCylinder_yes (by omega) (by omega)).mono ?_
    rintro e u0 ⟨rfl, hu0⟩
    replace p0 := cell_later p0 hu0; replace p1 := cell_later p1 hu0; replace p2 := cell_later p2 hu0
    go_wp2_with fail
    refine (laws_szCylinder_no (by omega) (by omega) (by omega) (by omega)).mono ?_
    rintro e u ⟨rfl, hu⟩
    go_wp2
    go_ret
    exact ⟨rfl, bthen (bthen (bthen hq0 hq1) hu0) hu⟩
  have R0 : RP w A0 l0 := ⟨by omega, rd0⟩
  clear rd0
  have R1 : RP w A1 l1 := ⟨by omega, rd1⟩
  clear rd1
  go_enter Try.func6, Try.ntmps6
  go_wp2_with fail
  have hbel := Below.refl w.heap.size w
  generalize hW : World.alloc w _ = wb1
  obtain ⟨hq, zb1, p10, p11, p12⟩ := new3c hW
  clear hW
  replace hbel := bthen hbel hq
  clear hq
  generalize hW : World.alloc wb1 _ = wb2
  obtain ⟨hq, zb2, p20, p21, p22⟩ := new3c hW
  clear hW
  replace p10 := cell_later p10 hq
  replace p11 := cell_later p11 hq
  replace p12 := cell_later p12 hq
  replace hbel := bthen hbel hq
  clear hq
  rw [zb1] at p20 p21 p22
  refine (laws_szCylinder_yes (by omega) (by omega)).mono ?_
  rintro e wx1 ⟨rfl, hq⟩
  have z1 := hq.size
  replace p10 := cell_later p10 hq
  replace p11 := cell_later p11 hq
  replace p12 := cell_later p12 hq
  replace p20 := cell_later p20 hq
  replace p21 := cell_later p21 hq
  replace p22 := cell_later p22 hq
  replace hbel := bthen hbel hq
  clear hq
  go_wp2_with fail
  refine (laws_szCylinder_yes (by omega) (by omega)).mono ?_
  rintro e wx2 ⟨rfl, hq⟩
  have z2 := hq.size
  replace p10 := cell_later p10 hq
  replace p11 := cell_later p11 hq
  replace p12 := cell_later p12 hq
  replace p20 := cell_later p20 hq
  replace p21 := cell_later p21 hq
  replace p22 := cell_later p22 hq
  replace hbel := bthen hbel hq
  clear hq
  go_wp2_with fail
  have HR0 : Hid (∀ W, Below wx2.heap.size wx2 W → RP W A0 l0) := fun W h => R0.below (bthen hbel h)
  have HR1 : Hid (∀ W, Below wx2.heap.size wx2 W → RP W A1 l1) := fun W h => R1.below (bthen hbel h)
  have HK : Hid (∀ W, Below wx2.heap.size wx2 W → W.cell? ⟨w.heap.size, 0, none⟩ = some (.int .i64 a0) ∧ W.cell? ⟨w.heap.size, 1, none⟩ = some (.int .i64 b0) ∧ W.cell? ⟨w.heap.size, 2, none⟩ = some (.slice A0 l0.length c0) ∧ W.cell? ⟨w.heap.size + 1, 0, none⟩ = some (.int .i64 a1) ∧ W.cell? ⟨w.heap.size + 1, 1, none⟩ = some (.int .i64 b1) ∧ W.cell? ⟨w.heap.size + 1, 2, none⟩ = some (.slice A1 l1.length c1) ∧ Below wx2.heap.size wx2 W) := fun W h => ⟨cell_later p10 h, cell_later p11 h, cell_later p12 h, cell_later p20 h, cell_later p21 h, cell_later p22 h, h⟩
  have hdr := (Below.refl wx2.heap.size wx2).drew
  go_region_held3 (fun W => W.cell? ⟨w.heap.size, 0, none⟩ = some (.int .i64 a0) ∧ W.cell? ⟨w.heap.size, 1, none⟩ = some (.int .i64 b0) ∧ W.cell? ⟨w.heap.size, 2, none⟩ = some (.slice A0 l0.length c0) ∧ W.cell? ⟨w.heap.size + 1, 0, none⟩ = some (.int .i64 a1) ∧ W.cell? ⟨w.heap.size + 1, 1, none⟩ = some (.int .i64 b1) ∧ W.cell? ⟨w.heap.size + 1, 2, none⟩ = some (.slice A1 l1.length c1) ∧ Below wx2.heap.size wx2 W) (exact HK.out _ (by assumption)) (first
    | (go_at_call 27; with_reducible refine (laws_toCylinder (HR0.out _ (by assumption))).mono ?_; rintro e W7 ⟨B7, d7, rfl, O7, hq7⟩; have h7 := hdr.trans (hq7.mono hdr.size))
    | (go_at_call 27; with_reducible refine (laws_toCylinder (HR1.out _ (by assumption))).mono ?_; rintro e W8 ⟨B8, d8, rfl, O8, hq8⟩; have h8 := h7.trans (hq8.mono h7.size))
    | (go_at_call 31; refine (spec_Disturbs (O7.below hq8 O7.le).reads O8.reads).mono ?_; rintro e wx3 ⟨rfl, hq9⟩; have hq := h8.trans (hq9.mono h8.size)))
  have z3 := hq.size
  clear HR0 HR1 HK hdr h7 h8 hq7 hq8 hq9 O7 O8
  replace p10 := cell_later p10 hq
  replace p11 := cell_later p11 hq
  replace p12 := cell_later p12 hq
  replace p20 := cell_later p20 hq
  replace p21 := cell_later p21 hq
  replace p22 := cell_later p22 hq
  replace hbel := bthen hbel hq
  clear hq
  go_wp2_with fail
  refine (laws_toCylinder (R0.below hbel)).mono ?_
  rintro e wx4 ⟨B1, d1, rfl, O1, hq⟩
  have z4 := hq.size
  replace p10 := cell_later p10 hq
  replace p11 := cell_later p11 hq
  replace p12 := cell_later p12 hq
  replace p20 := cell_later p20 hq
  replace p21 := cell_later p21 hq
  replace p22 := cell_later p22 hq
  replace hbel := bthen hbel hq
  clear hq
  have hqp := bnew (Below.refl wx4.heap.size wx4) (.cells #[.int .i64 a0, .int .i64 b0, .slice B1 l0.length d1] 26)
  have yp10 := cell_later p10 hqp
  have yp11 := cell_later p11 hqp
  have yp12 := cell_later p12 hqp
  have yp20 := cell_later p20 hqp
  have yp21 := cell_later p21 hqp
  have yp22 := cell_later p22 hqp
  clear hqp
  go_wp2_with fail
  clear yp10 yp11 yp12 yp20 yp21 yp22
  generalize hW : World.alloc wx4 _ = wb3
  obtain ⟨hq, zb3, p30, p31, p32⟩ := new3c hW
  clear hW
  replace p10 := cell_later p10 hq
  replace p11 := cell_later p11 hq
  replace p12 := cell_later p12 hq
  replace p20 := cell_later p20 hq
  replace p21 := cell_later p21 hq
  replace p22 := cell_later p22 hq
  replace O1 := O1.below hq O1.le
  replace hbel := bthen hbel hq
  clear hq
  refine (laws_toCylinder (R1.below hbel)).mono ?_
  rintro e wx5 ⟨B2, d2, rfl, O2, hq⟩
  have z5 := hq.size
  replace p10 := cell_later p10 hq
  replace p11 := cell_later p11 hq
  replace p12 := cell_later p12 hq
  replace p20 := cell_later p20 hq
  replace p21 := cell_later p21 hq
  replace p22 := cell_later p22 hq
  replace p30 := cell_later p30 hq
  replace p31 := cell_later p31 hq
  replace p32 := cell_later p32 hq
  replace O1 := O1.below hq O1.le
  replace hbel := bthen hbel hq
  clear hq
  have hqp := bnew (Below.refl wx5.heap.size wx5) (.cells #[.int .i64 a1, .int .i64 b1, .slice B2 l1.length d2] 26)
  have yp10 := cell_later p10 hqp
  have yp11 := cell_later p11 hqp
  have yp12 := cell_later p12 hqp
  have yp20 := cell_later p20 hqp
  have yp21 := cell_later p21 hqp
  have yp22 := cell_later p22 hqp
  have yp30 := cell_later p30 hqp
  have yp31 := cell_later p31 hqp
  have yp32 := cell_later p32 hqp
  clear hqp
  go_wp2_with fail
  clear yp10 yp11 yp12 yp20 yp21 yp22 yp30 yp31 yp32
  generalize hW : World.alloc wx5 _ = wb4
  obtain ⟨hq, zb4, p40, p41, p42⟩ := new3c hW
  clear hW
  replace p10 := cell_later p10 hq
  replace p11 := cell_later p11 hq
  replace p12 := cell_later p12 hq
  replace p20 := cell_later p20 hq
  replace p21 := cell_later p21 hq
  replace p22 := cell_later p22 hq
  replace p30 := cell_later p30 hq
  replace p31 := cell_later p31 hq
  replace p32 := cell_later p32 hq
  replace O1 := O1.below hq O1.le
  replace O2 := O2.below hq O2.le
  replace hbel := bthen hbel hq
  clear hq
  refine (impl_Disturbs O1.reads O2.reads).mono ?_
  rintro e wx6 ⟨rfl, hq⟩
  have z6 := hq.size
  replace p10 := cell_later p10 hq
  replace p11 := cell_later p11 hq
  replace p12 := cell_later p12 hq
  replace p20 := cell_later p20 hq
  replace p21 := cell_later p21 hq
  replace p22 := cell_later p22 hq
  replace p30 := cell_later p30 hq
  replace p31 := cell_later p31 hq
  replace p32 := cell_later p32 hq
  replace p40 := cell_later p40 hq
  replace p41 := cell_later p41 hq
  replace p42 := cell_later p42 hq
  replace O1 := O1.below hq O1.le
  replace O2 := O2.below hq O2.le
  replace hbel := bthen hbel hq
  clear hq
  go_wp2_with fail
  have HR : Hid (∀ W, Below wx6.heap.size wx6 W → RP W A0 l0) := fun W h => R0.below (bthen hbel h)
  have HX : Hid (∀ W, Below wx6.heap.size wx6 W → RP W B1 l0) := fun W h => O1.reads.below h
  have HK : Hid (∀ W, Below wx6.heap.size wx6 W → W.cell? ⟨w.heap.size, 0, none⟩ = some (.int .i64 a0) ∧ W.cell? ⟨w.heap.size, 1, none⟩ = some (.int .i64 b0) ∧ W.cell? ⟨w.heap.size, 2, none⟩ = some (.slice A0 l0.length c0) ∧ W.cell? ⟨wx4.heap.size, 0, none⟩ = some (.int .i64 a0) ∧ W.cell? ⟨wx4.heap.size, 1, none⟩ = some (.int .i64 b0) ∧ W.cell? ⟨wx4.heap.size, 2, none⟩ = some (.slice B1 l0.length d1) ∧ Below wx6.heap.size wx6 W) := fun W h => ⟨cell_later p10 h, cell_later p11 h, cell_later p12 h, cell_later p30 h, cell_later p31 h, cell_later p32 h, h⟩
  have hdr := (Below.refl wx6.heap.size wx6).drew
  go_region_held3 (fun W => W.cell? ⟨w.heap.size, 0, none⟩ = some (.int .i64 a0) ∧ W.cell? ⟨w.heap.size, 1, none⟩ = some (.int .i64 b0) ∧ W.cell? ⟨w.heap.size, 2, none⟩ = some (.slice A0 l0.length c0) ∧ W.cell? ⟨wx4.heap.size, 0, none⟩ = some (.int .i64 a0) ∧ W.cell? ⟨wx4.heap.size, 1, none⟩ = some (.int .i64 b0) ∧ W.cell? ⟨wx4.heap.size, 2, none⟩ = some (.slice B1 l0.length d1) ∧ Below wx6.heap.size wx6 W) (exact HK.out _ (by assumption)) (first
    | (go_at_call 27; refine (laws_toCylinder (HR.out _ (by assumption))).mono ?_; rintro e W7 ⟨B7, d7, rfl, O7, hq⟩; have h7 := hdr.trans (hq.mono hdr.size))
    | (go_at_call 29; refine (laws_eqCylinder (HX.out _ (by assumption)) O7.reads).mono ?_; rintro e wx7 ⟨rfl, hq8⟩; have hq := h7.trans (hq8.mono h7.size)))
  have z7 := hq.size
  clear HR HX HK hdr h7 hq8 O7
  replace p10 := cell_later p10 hq
  replace p11 := cell_later p11 hq
  replace p12 := cell_later p12 hq
  replace p20 := cell_later p20 hq
  replace p21 := cell_later p21 hq
  replace p22 := cell_later p22 hq
  replace p30 := cell_later p30 hq
  replace p31 := cell_later p31 hq
  replace p32 := cell_later p32 hq
  replace p40 := cell_later p40 hq
  replace p41 := cell_later p41 hq
  replace p42 := cell_later p42 hq
  replace O1 := O1.below hq O1.le
  replace O2 := O2.below hq O2.le
  replace hbel := bthen hbel hq
  clear hq
  go_wp2_with fail
  have HR : Hid (∀ W, Below wx7.heap.size wx7 W → RP W A1 l1) := fun W h => R1.below (bthen hbel h)
  have HX : Hid (∀ W, Below wx7.heap.size wx7 W → RP W B2 l1) := fun W h => O2.reads.below h
  have HK : Hid (∀ W, Below wx7.heap.size wx7 W → W.cell? ⟨w.heap.size + 1, 0, none⟩ = some (.int .i64 a1) ∧ W.cell? ⟨w.heap.size + 1, 1, none⟩ = some (.int .i64 b1) ∧ W.cell? ⟨w.heap.size + 1, 2, none⟩ = some (.slice A1 l1.length c1) ∧ W.cell? ⟨wx5.heap.size, 0, none⟩ = some (.int .i64 a1) ∧ W.cell? ⟨wx5.heap.size, 1, none⟩ = some (.int .i64 b1) ∧ W.cell? ⟨wx5.heap.size, 2, none⟩ = some (.slice B2 l1.length d2) ∧ Below wx7.heap.size wx7 W) := fun W h => ⟨cell_later p20 h, cell_later p21 h, cell_later p22 h, cell_later p40 h, cell_later p41 h, cell_later p42 h, h⟩
  have hdr := (Below.refl wx7.heap.size wx7).drew
  go_region_held3 (fun W => W.cell? ⟨w.heap.size + 1, 0, none⟩ = some (.int .i64 a1) ∧ W.cell? ⟨w.heap.size + 1, 1, none⟩ = some (.int .i64 b1) ∧ W.cell? ⟨w.heap.size + 1, 2, none⟩ = some (.slice A1 l1.length c1) ∧ W.cell? ⟨wx5.heap.size, 0, none⟩ = some (.int .i64 a1) ∧ W.cell? ⟨wx5.heap.size, 1, none⟩ = some (.int .i64 b1) ∧ W.cell? ⟨wx5.heap.size, 2, none⟩ = some (.slice B2 l1.length d2) ∧ Below wx7.heap.size wx7 W) (exact HK.out _ (by assumption)) (first
    | (go_at_call 27; refine (laws_toCylinder (HR.out _ (by assumption))).mono ?_; rintro e W7 ⟨B7, d7, rfl, O7, hq⟩; have h7 := hdr.trans (hq.mono hdr.size))
    | (go_at_call 29; refine (laws_eqCylinder (HX.out _ (by assumption)) O7.reads).mono ?_; rintro e wx8 ⟨rfl, hq8⟩; have hq := h7.trans (hq8.mono h7.size)))
  have z8 := hq.size
  clear HR HX HK hdr h7 hq8 O7
  replace p10 := cell_later p10 hq
  replace p11 := cell_later p11 hq
  replace p12 := cell_later p12 hq
  replace p20 := cell_later p20 hq
  replace p21 := cell_later p21 hq
  replace p22 := cell_later p22 hq
  replace p30 := cell_later p30 hq
  replace p31 := cell_later p31 hq
  replace p32 := cell_later p32 hq
  replace p40 := cell_later p40 hq
  replace p41 := cell_later p41 hq
  replace p42 := cell_later p42 hq
  replace O1 := O1.below hq O1.le
  replace O2 := O2.below hq O2.le
  replace hbel := bthen hbel hq
  clear hq
  go_wp2
  go_ret
  exact ⟨rfl, hbel⟩

set_option maxRecDepth 100000 in
theorem lifted (os : Os) (started : os.Started) (H : Type) (enc : TypeId × Value → H) :
    ReturnsInHanded {} Try.checked os 6 .any (Rows.fnExactDisturbsSpec.pre6 enc Try.prog Try.f6 Rows.fnExactDisturbsRow.domain false) (Rows.fnExactDisturbsSpec.post enc Try.prog Try.f6 false true false false) := by
  refine returnsInHanded_of_change (C := Try.checked) Try_own started (by kernel_rfl) Try.func6
    (ChangeSpec.witness6 (enc := enc) (C := Try.checked) false ⟨#[], #[.agg #[.int .i64 0, .int .i64 0, .slice none 0 0], .agg #[.int .i64 0, .int .i64 0, .slice none 0 0], .int .i64 0], []⟩ 8 (by kernel_rfl) (by kernel_rfl) (by kernel_rfl) (by kernel_rfl)) ?_
  intro W base args ds gs before hval0 hW hcnd _
  have hval : ∀ (j : Nat) t v, Try.f6.params[j]? = some t → args[j]? = some v → Value.okWide Try.prog W .any base t v := hval0
  have hW' := hW
  obtain ⟨p, q, hA0, hV, rfl, hfz, hnd⟩ := hW
  have hA : DataW.TrodAll enc Try.prog W 0 (fun _ => true) true Try.f6.params.toList args.toList ds p := hA0
  rw [Try.params6] at hA hval
  obtain ⟨v0, vs0, d0, ds0, p0, q0, hargs, rfl, rfl, h0, r0⟩ := trodAll_cons hA
  obtain ⟨v1, vs1, d1, ds1, p1, q1, rfl, rfl, rfl, h1, r1⟩ := trodAll_cons r0
  obtain ⟨v2, vs2, d2, ds2, p2, q2, rfl, rfl, rfl, h2, r2⟩ := trodAll_cons r1
  obtain ⟨rfl, rfl, rfl⟩ := trodAll_nil r2
  obtain rfl : args = #[v0, v1, v2] := by cases args; simp_all
  obtain ⟨rfl, rfl⟩ := trodVars_none hV
  have k0 := h0
  have lt0 : ∀ x ∈ p0, x.block < W.heap.size := by obtain ⟨m, hm⟩ := k0; exact DataW.trod_lt m _ _ _ hm
  obtain ⟨a0, b0, A0, c0, l0, rfl, cm0, cl0, rd0⟩ := open_cyl_arg Try.underlying42 (by kernel_rfl) (by kernel_rfl) Try.underlying3 Try.underlying3 Try.underlying40 Try.underlying78 (by kernel_rfl) rfl rfl rfl rfl (by kernel_rfl) (by kernel_rfl) Try.underlying3 Try.underlying3 (hval 0 42 v0 rfl rfl) h0
  have k1 := h1
  have lt1 : ∀ x ∈ p1, x.block < W.heap.size := by obtain ⟨m, hm⟩ := k1; exact DataW.trod_lt m _ _ _ hm
  obtain ⟨a1, b1, A1, c1, l1, rfl, cm1, cl1, rd1⟩ := open_cyl_arg Try.underlying42 (by kernel_rfl) (by kernel_rfl) Try.underlying3 Try.underlying3 Try.underlying40 Try.underlying78 (by kernel_rfl) rfl rfl rfl rfl (by kernel_rfl) (by kernel_rfl) Try.underlying3 Try.underlying3 (hval 1 42 v1 rfl rfl) h1
  obtain ⟨a2, rfl, rfl, rfl, w2⟩ := open_int Try.underlying3 (hval 2 3 v2 rfl rfl) h2
  clear hA0 hval0
  refine (walk W a0 b0 A0 c0 l0 cm0 cl0 rd0 a1 b1 A1 c1 l1 cm1 cl1 rd1 a2 w2).mono fun e W' ⟨he, bel⟩ => ?_
  subst he
  exact ⟨_, rfl, _, _, _, [], _, [], hW', trodAll_mk1 (shut_bool Try.underlying4 _), (trodAll_cons_mk (Below.trod Try_laidOut (by kernel_rfl) (of_decide_eq_true (by kernel_rfl)) k0 bel lt0) (trodAll_cons_mk (Below.trod Try_laidOut (by kernel_rfl) (of_decide_eq_true (by kernel_rfl)) k1 bel lt1) (trodAll_cons_mk (shut_int Try.underlying3 w2) trodAll_mk0))), rfl, bel.frame _, fun h => by cases h⟩

theorem over : Rows.fnExactDisturbsRow.holds Try.pinned (OpenSpec.ofChange Rows.fnExactDisturbsSpec) :=
  OpenClaim.holds_of_wide 6 Try.f6 rfl rfl rfl rfl rfl rfl rfl ⟨rfl, rfl, rfl, rfl, rfl⟩ rfl rfl rfl rfl rfl (by kernel_rfl) Try.func6 (by kernel_rfl)
    (of_decide_eq_true (by kernel_rfl)) (by unfold Func.isWrapper; first | (rw [if_pos (by decide +kernel)]; kernel_rfl) | (rw [if_neg (by decide +kernel)]; exact ⟨rfl, rfl⟩))
    (fun os started H enc _ => lifted os started H enc)

theorem proved : Rows.FnExactDisturbsSaid := over
end Go.Proofs.Ytdajodglopiahaa.lawDisturbs
