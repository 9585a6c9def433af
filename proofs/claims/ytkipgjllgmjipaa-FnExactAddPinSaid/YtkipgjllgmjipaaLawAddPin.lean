/- Whatever the arguments, up to the law's own bound of 2^20 = 1048576 elements (beyond it the law answers true without looking), the program's AddPin returns what the reference's returns, leaves its arguments as they were, and shares no memory with them. There are no other conditions. -/
import Derived.Test.YtkipgjllgmjipaaFrame
import Derived.Deep.RegionHeld3
import Derived.Test.YtkipgjllgmjipaaCylB
import Derived.Test.YtkipgjllgmjipaaCylOk
import Derived.Test.YtkipgjllgmjipaaPinC
import Derived.Test.YtkipgjllgmjipaaChg
import Derived.Test.YtkipgjllgmjipaaCylM
namespace Go.Proofs.Ytkipgjllgmjipaa.lawAddPin
open Go.ChangeShapes Go.WideShapes Go.ChangeAt Go.RowKit
open Go.ChangeMaps (open_string shut_string)
set_option linter.unusedVariables false

set_option maxHeartbeats 8000000 in
theorem walk (w : World) (a0 b0 : Int) (A0 : Option Addr) (c0 : Nat) (l0 : List (Int × Int)) (cm0 : c0 ≤ maxLen) (cl0 : l0.length ≤ c0) (rd0 : 0 < l0.length → ∃ b off, A0 = some ⟨b, off, none⟩ ∧ PairsAt w b off l0) (a1 b1 : Int) :
    Calls Try.prog 13 #[.agg #[.int .i64 a0, .int .i64 b0, .slice A0 l0.length c0], .agg #[.int .i64 a1, .int .i64 b1]] w fun e w' => e = .returned (.bool true) ∧ Below w.heap.size w w' := by
  have cm0' := cm0; unfold maxLen at cm0
  by_cases zz0 : 1048576 < l0.length
  · go_enter Try.func13, Try.ntmps13
    go_wp2_with fail
    refine (laws_szCylinder_no (by omega) (by omega) (by omega) (by omega)).mono ?_
    rintro e u ⟨rfl, hu⟩
    go_wp2
    go_ret
    exact ⟨rfl, bthen (bnew (bnew (Below.refl _ _) _) _) hu⟩
  have R0 : RP w A0 l0 := ⟨by omega, rd0⟩
  clear rd0
  go_enter Try.func13, Try.ntmps13
  go_wp2_with fail
  have hbel := Below.refl w.heap.size w
  generalize hW : World.alloc w _ = wb1
  obtain ⟨hq, zb1, p10, p11, p12⟩ := new3c hW
  clear hW
  replace hbel := bthen hbel hq
  clear hq
  generalize hW : World.alloc wb1 _ = wb2
  obtain ⟨hq, zb2, p20, p21⟩ := new2c hW
  clear hW
  replace p10 := cell_later p10 hq
  replace p11 := cell_later p11 hq
  replace p12 := cell_later p12 hq
  replace hbel := bthen hbel hq
  clear hq
  rw [zb1] at p20 p21
  refine (laws_szCylinder_yes (by omega) (by omega)).mono ?_
  rintro e wx1 ⟨rfl, hq⟩
  have z1 := hq.size
  replace p10 := cell_later p10 hq
  replace p11 := cell_later p11 hq
  replace p12 := cell_later p12 hq
  replace p20 := cell_later p20 hq
  replace p21 := cell_later p21 hq
  replace hbel := bthen hbel hq
  clear hq
  go_wp2_with fail
  have HK : Hid (∀ W, Below wx1.heap.size wx1 W → W.cell? ⟨w.heap.size, 0, none⟩ = some (.int .i64 a0) ∧ W.cell? ⟨w.heap.size, 1, none⟩ = some (.int .i64 b0) ∧ W.cell? ⟨w.heap.size, 2, none⟩ = some (.slice A0 l0.length c0) ∧ W.cell? ⟨w.heap.size + 1, 0, none⟩ = some (.int .i64 a1) ∧ W.cell? ⟨w.heap.size + 1, 1, none⟩ = some (.int .i64 b1) ∧ Below wx1.heap.size wx1 W) := fun W h => ⟨cell_later p10 h, cell_later p11 h, cell_later p12 h, cell_later p20 h, cell_later p21 h, h⟩
  have HBt : Hid (∀ W W', (W.cell? ⟨w.heap.size, 0, none⟩ = some (.int .i64 a0) ∧ W.cell? ⟨w.heap.size, 1, none⟩ = some (.int .i64 b0) ∧ W.cell? ⟨w.heap.size, 2, none⟩ = some (.slice A0 l0.length c0) ∧ W.cell? ⟨w.heap.size + 1, 0, none⟩ = some (.int .i64 a1) ∧ W.cell? ⟨w.heap.size + 1, 1, none⟩ = some (.int .i64 b1) ∧ Below wx1.heap.size wx1 W) → Below W.heap.size W W' → W'.cell? ⟨w.heap.size, 0, none⟩ = some (.int .i64 a0) ∧ W'.cell? ⟨w.heap.size, 1, none⟩ = some (.int .i64 b0) ∧ W'.cell? ⟨w.heap.size, 2, none⟩ = some (.slice A0 l0.length c0) ∧ W'.cell? ⟨w.heap.size + 1, 0, none⟩ = some (.int .i64 a1) ∧ W'.cell? ⟨w.heap.size + 1, 1, none⟩ = some (.int .i64 b1) ∧ Below wx1.heap.size wx1 W') := fun W W' h hb => HK.out W' (bthen h.2.2.2.2.2 hb)
  have HSz : Hid (∀ W, (W.cell? ⟨w.heap.size, 0, none⟩ = some (.int .i64 a0) ∧ W.cell? ⟨w.heap.size, 1, none⟩ = some (.int .i64 b0) ∧ W.cell? ⟨w.heap.size, 2, none⟩ = some (.slice A0 l0.length c0) ∧ W.cell? ⟨w.heap.size + 1, 0, none⟩ = some (.int .i64 a1) ∧ W.cell? ⟨w.heap.size + 1, 1, none⟩ = some (.int .i64 b1) ∧ Below wx1.heap.size wx1 W) → wx1.heap.size ≤ W.heap.size) := fun W h => h.2.2.2.2.2.size
  have HSq : Hid (∀ W W', (W.cell? ⟨w.heap.size, 0, none⟩ = some (.int .i64 a0) ∧ W.cell? ⟨w.heap.size, 1, none⟩ = some (.int .i64 b0) ∧ W.cell? ⟨w.heap.size, 2, none⟩ = some (.slice A0 l0.length c0) ∧ W.cell? ⟨w.heap.size + 1, 0, none⟩ = some (.int .i64 a1) ∧ W.cell? ⟨w.heap.size + 1, 1, none⟩ = some (.int .i64 b1) ∧ Below wx1.heap.size wx1 W) → Below W.heap.size W W' → wx1.heap.size ≤ W.heap.size) := fun W W' h _ => h.2.2.2.2.2.size
  have HKs : Hid (∀ W G v0 v1 v2, wx1.heap.size ≤ G → (W.cell? ⟨w.heap.size, 0, none⟩ = some (.int .i64 a0) ∧ W.cell? ⟨w.heap.size, 1, none⟩ = some (.int .i64 b0) ∧ W.cell? ⟨w.heap.size, 2, none⟩ = some (.slice A0 l0.length c0) ∧ W.cell? ⟨w.heap.size + 1, 0, none⟩ = some (.int .i64 a1) ∧ W.cell? ⟨w.heap.size + 1, 1, none⟩ = some (.int .i64 b1) ∧ Below wx1.heap.size wx1 W) → (((W.setCell ⟨G, 0, none⟩ v0).setCell ⟨G, 1, none⟩ v1).setCell ⟨G, 2, none⟩ v2).cell? ⟨w.heap.size, 0, none⟩ = some (.int .i64 a0) ∧ (((W.setCell ⟨G, 0, none⟩ v0).setCell ⟨G, 1, none⟩ v1).setCell ⟨G, 2, none⟩ v2).cell? ⟨w.heap.size, 1, none⟩ = some (.int .i64 b0) ∧ (((W.setCell ⟨G, 0, none⟩ v0).setCell ⟨G, 1, none⟩ v1).setCell ⟨G, 2, none⟩ v2).cell? ⟨w.heap.size, 2, none⟩ = some (.slice A0 l0.length c0) ∧ (((W.setCell ⟨G, 0, none⟩ v0).setCell ⟨G, 1, none⟩ v1).setCell ⟨G, 2, none⟩ v2).cell? ⟨w.heap.size + 1, 0, none⟩ = some (.int .i64 a1) ∧ (((W.setCell ⟨G, 0, none⟩ v0).setCell ⟨G, 1, none⟩ v1).setCell ⟨G, 2, none⟩ v2).cell? ⟨w.heap.size + 1, 1, none⟩ = some (.int .i64 b1) ∧ Below wx1.heap.size wx1 (((W.setCell ⟨G, 0, none⟩ v0).setCell ⟨G, 1, none⟩ v1).setCell ⟨G, 2, none⟩ v2)) := fun W G v0 v1 v2 hg h => HK.out _ (((h.2.2.2.2.2.setCell (p := ⟨G, 0, none⟩) hg v0).setCell (p := ⟨G, 1, none⟩) hg v1).setCell (p := ⟨G, 2, none⟩) hg v2)
  have h0 : wx1.drew.cell? ⟨w.heap.size, 0, none⟩ = some (.int .i64 a0) ∧ wx1.drew.cell? ⟨w.heap.size, 1, none⟩ = some (.int .i64 b0) ∧ wx1.drew.cell? ⟨w.heap.size, 2, none⟩ = some (.slice A0 l0.length c0) ∧ wx1.drew.cell? ⟨w.heap.size + 1, 0, none⟩ = some (.int .i64 a1) ∧ wx1.drew.cell? ⟨w.heap.size + 1, 1, none⟩ = some (.int .i64 b1) ∧ Below wx1.heap.size wx1 wx1.drew := HK.out _ (Below.refl _ _).drew
  have hB0 : wx1.cell? ⟨w.heap.size, 0, none⟩ = some (.int .i64 a0) ∧ wx1.cell? ⟨w.heap.size, 1, none⟩ = some (.int .i64 b0) ∧ wx1.cell? ⟨w.heap.size, 2, none⟩ = some (.slice A0 l0.length c0) ∧ wx1.cell? ⟨w.heap.size + 1, 0, none⟩ = some (.int .i64 a1) ∧ wx1.cell? ⟨w.heap.size + 1, 1, none⟩ = some (.int .i64 b1) ∧ Below wx1.heap.size wx1 wx1 := HK.out _ (Below.refl _ _)
  have hA0 : ((wx1.alloc (.cells #[.int .i64 0, .int .i64 0, .slice none 0 0] 53)).drew).cell? ⟨w.heap.size, 0, none⟩ = some (.int .i64 a0) ∧ ((wx1.alloc (.cells #[.int .i64 0, .int .i64 0, .slice none 0 0] 53)).drew).cell? ⟨w.heap.size, 1, none⟩ = some (.int .i64 b0) ∧ ((wx1.alloc (.cells #[.int .i64 0, .int .i64 0, .slice none 0 0] 53)).drew).cell? ⟨w.heap.size, 2, none⟩ = some (.slice A0 l0.length c0) ∧ ((wx1.alloc (.cells #[.int .i64 0, .int .i64 0, .slice none 0 0] 53)).drew).cell? ⟨w.heap.size + 1, 0, none⟩ = some (.int .i64 a1) ∧ ((wx1.alloc (.cells #[.int .i64 0, .int .i64 0, .slice none 0 0] 53)).drew).cell? ⟨w.heap.size + 1, 1, none⟩ = some (.int .i64 b1) ∧ Below wx1.heap.size wx1 ((wx1.alloc (.cells #[.int .i64 0, .int .i64 0, .slice none 0 0] 53)).drew) := HK.out _ ((bnew (Below.refl wx1.heap.size wx1) (.cells #[.int .i64 0, .int .i64 0, .slice none 0 0] 53)).drew)
  have HR : Hid (∀ W, (W.cell? ⟨w.heap.size, 0, none⟩ = some (.int .i64 a0) ∧ W.cell? ⟨w.heap.size, 1, none⟩ = some (.int .i64 b0) ∧ W.cell? ⟨w.heap.size, 2, none⟩ = some (.slice A0 l0.length c0) ∧ W.cell? ⟨w.heap.size + 1, 0, none⟩ = some (.int .i64 a1) ∧ W.cell? ⟨w.heap.size + 1, 1, none⟩ = some (.int .i64 b1) ∧ Below wx1.heap.size wx1 W) → RP W A0 l0) := fun W h => R0.below (bthen hbel h.2.2.2.2.2)
  go_cut [6, 7] from 21 to 28 (fun s6 s7 wx => CylAt 63 wx1 s6 (.int .i64 a0) (.int .i64 b0) (addPL a0 b0 l0 (a1, b1)) wx ∧ s7 = .bool (addPOk a0 b0 l0 (a1, b1)))
  case first =>
    clear zb1 zb2
    go_region_held3 (fun W => W.cell? ⟨w.heap.size, 0, none⟩ = some (.int .i64 a0) ∧ W.cell? ⟨w.heap.size, 1, none⟩ = some (.int .i64 b0) ∧ W.cell? ⟨w.heap.size, 2, none⟩ = some (.slice A0 l0.length c0) ∧ W.cell? ⟨w.heap.size + 1, 0, none⟩ = some (.int .i64 a1) ∧ W.cell? ⟨w.heap.size + 1, 1, none⟩ = some (.int .i64 b1) ∧ Below wx1.heap.size wx1 W) (first | exact h9 | exact h8 | exact h7 | exact h0 | exact hA0 | exact HBt.out _ _ (by assumption) (bnew (Below.refl _ _) _) | exact HKs.out _ _ _ _ _ (HSz.out _ (by assumption)) (by assumption)) (first
      | (go_at_call 43; with_reducible refine (laws_toCylinder (HR.out _ (by assumption))).mono ?_; rintro e W7 ⟨B7, d7, rfl, O7, hq7⟩; have h7 := HBt.out _ _ (by assumption) hq7; (try have kT := zc_new hq7); (try have kT := zc_newd hq7); (try have kT := zc_later kP.2 hq7))
      | (go_at_call 49; with_reducible refine (laws_toPin).mono ?_; rintro e W8 ⟨rfl, hq8⟩; have h8 := HBt.out _ _ (by assumption) hq8; (try have kP := zc_new hq8); (try have kP := zc_newd hq8); (try have kP := zc_later kT.2 hq8))
      | (go_at_call 48; (first | with_reducible refine (spec_AddPin O7.reads O7.capC O7.formP).mono ?_ | with_reducible refine (spec_AddPin (O7.new _).reads O7.capC O7.formP).mono ?_ | with_reducible refine (spec_AddPin (O7.below hq8 O7.le).reads O7.capC O7.formP).mono ?_ | with_reducible refine (spec_AddPin ((O7.new _).below hq8 (O7.new _).le).reads O7.capC O7.formP).mono ?_ | with_reducible refine (spec_AddPin ((O7.below hq8 O7.le).new _).reads O7.capC O7.formP).mono ?_); rintro e W9 ⟨B9, d9, rfl, O9, hq9⟩; have h9 := HBt.out _ _ (by assumption) hq9; have hlo9 := HSq.out _ _ (by assumption) hq9; (try have kC := zc_new hq9); (try have kC := zc_newd hq9); (try have kC := zc_later kT.2 hq9); (try have kC := zc_later kP.2 hq9); (try obtain ⟨⟨y0, y1, y2⟩, y3, y4, y5⟩ := kC.2); obtain ⟨_, ⟨v0, v1, v2⟩, v3, v4, v5⟩ := zc_new (V := W9) (T := 53) (Below.refl _ _)))
    all_goals
      go_wp2_with fail
      go_meet
      case rel => first | (with_reducible exact ⟨cyl_meet3 O9 hlo9 h9.2.2.2.2.2, rfl⟩) | (with_reducible exact ⟨cyl_meet1 kC O9 (HSz.out _ (by assumption)) h9.2.2.2.2.2, rfl⟩)
  case rest =>
  clear HK HBt HSz HSq HKs h0 hB0 hA0 HR
  obtain ⟨wx2, rfl⟩ : ∃ W, W = wc := ⟨_, rfl⟩
  obtain ⟨⟨gb3, B1, d1, lo1, hi1, rfl, ⟨p30, p31, p32⟩, O1, hdis1, hlo1, hgb3, hgw3, hq⟩, rfl⟩ := hcut
  have z2 := hq.size
  have zo1 := O1.le
  replace p10 := cell_later p10 hq
  replace p11 := cell_later p11 hq
  replace p12 := cell_later p12 hq
  replace p20 := cell_later p20 hq
  replace p21 := cell_later p21 hq
  replace hbel := bthen hbel hq
  clear hq
  go_wp2_with fail
  refine (laws_toCylinder (R0.below hbel)).mono ?_
  rintro e wx3 ⟨B2, d2, rfl, O2, hq⟩
  have z3 := hq.size
  replace p10 := cell_later p10 hq
  replace p11 := cell_later p11 hq
  replace p12 := cell_later p12 hq
  replace p20 := cell_later p20 hq
  replace p21 := cell_later p21 hq
  replace p30 := cell_later p30 hq
  replace p31 := cell_later p31 hq
  replace p32 := cell_later p32 hq
  replace O1 := O1.below hq O1.le
  replace hbel := bthen hbel hq
  clear hq
  have hqp := bnew (Below.refl wx3.heap.size wx3) (.cells #[.int .i64 a0, .int .i64 b0, .slice B2 l0.length d2] 53)
  have yp10 := cell_later p10 hqp
  have yp11 := cell_later p11 hqp
  have yp12 := cell_later p12 hqp
  have yp20 := cell_later p20 hqp
  have yp21 := cell_later p21 hqp
  have yp30 := cell_later p30 hqp
  have yp31 := cell_later p31 hqp
  have yp32 := cell_later p32 hqp
  clear hqp
  go_wp2_with fail
  clear yp10 yp11 yp12 yp20 yp21 yp30 yp31 yp32
  generalize hW : World.alloc wx3 _ = wb4
  obtain ⟨hq, zb4, p40, p41, p42⟩ := new3c hW
  clear hW
  replace p10 := cell_later p10 hq
  replace p11 := cell_later p11 hq
  replace p12 := cell_later p12 hq
  replace p20 := cell_later p20 hq
  replace p21 := cell_later p21 hq
  replace p30 := cell_later p30 hq
  replace p31 := cell_later p31 hq
  replace p32 := cell_later p32 hq
  replace O1 := O1.below hq O1.le
  replace O2 := O2.below hq O2.le
  replace hbel := bthen hbel hq
  clear hq
  have HK : Hid (∀ W, Below wb4.heap.size wb4 W → W.cell? ⟨w.heap.size + 1, 0, none⟩ = some (.int .i64 a1) ∧ W.cell? ⟨w.heap.size + 1, 1, none⟩ = some (.int .i64 b1) ∧ W.cell? ⟨wx3.heap.size, 0, none⟩ = some (.int .i64 a0) ∧ W.cell? ⟨wx3.heap.size, 1, none⟩ = some (.int .i64 b0) ∧ W.cell? ⟨wx3.heap.size, 2, none⟩ = some (.slice B2 l0.length d2) ∧ Below wb4.heap.size wb4 W) := fun W h => ⟨cell_later p20 h, cell_later p21 h, cell_later p40 h, cell_later p41 h, cell_later p42 h, h⟩
  have HBt : Hid (∀ W W', (W.cell? ⟨w.heap.size + 1, 0, none⟩ = some (.int .i64 a1) ∧ W.cell? ⟨w.heap.size + 1, 1, none⟩ = some (.int .i64 b1) ∧ W.cell? ⟨wx3.heap.size, 0, none⟩ = some (.int .i64 a0) ∧ W.cell? ⟨wx3.heap.size, 1, none⟩ = some (.int .i64 b0) ∧ W.cell? ⟨wx3.heap.size, 2, none⟩ = some (.slice B2 l0.length d2) ∧ Below wb4.heap.size wb4 W) → Below W.heap.size W W' → W'.cell? ⟨w.heap.size + 1, 0, none⟩ = some (.int .i64 a1) ∧ W'.cell? ⟨w.heap.size + 1, 1, none⟩ = some (.int .i64 b1) ∧ W'.cell? ⟨wx3.heap.size, 0, none⟩ = some (.int .i64 a0) ∧ W'.cell? ⟨wx3.heap.size, 1, none⟩ = some (.int .i64 b0) ∧ W'.cell? ⟨wx3.heap.size, 2, none⟩ = some (.slice B2 l0.length d2) ∧ Below wb4.heap.size wb4 W') := fun W W' h hb => HK.out W' (bthen h.2.2.2.2.2 hb)
  have HSz : Hid (∀ W, (W.cell? ⟨w.heap.size + 1, 0, none⟩ = some (.int .i64 a1) ∧ W.cell? ⟨w.heap.size + 1, 1, none⟩ = some (.int .i64 b1) ∧ W.cell? ⟨wx3.heap.size, 0, none⟩ = some (.int .i64 a0) ∧ W.cell? ⟨wx3.heap.size, 1, none⟩ = some (.int .i64 b0) ∧ W.cell? ⟨wx3.heap.size, 2, none⟩ = some (.slice B2 l0.length d2) ∧ Below wb4.heap.size wb4 W) → wb4.heap.size ≤ W.heap.size) := fun W h => h.2.2.2.2.2.size
  have HSq : Hid (∀ W W', (W.cell? ⟨w.heap.size + 1, 0, none⟩ = some (.int .i64 a1) ∧ W.cell? ⟨w.heap.size + 1, 1, none⟩ = some (.int .i64 b1) ∧ W.cell? ⟨wx3.heap.size, 0, none⟩ = some (.int .i64 a0) ∧ W.cell? ⟨wx3.heap.size, 1, none⟩ = some (.int .i64 b0) ∧ W.cell? ⟨wx3.heap.size, 2, none⟩ = some (.slice B2 l0.length d2) ∧ Below wb4.heap.size wb4 W) → Below W.heap.size W W' → wb4.heap.size ≤ W.heap.size) := fun W W' h _ => h.2.2.2.2.2.size
  have HKs : Hid (∀ W G v0 v1 v2, wb4.heap.size ≤ G → (W.cell? ⟨w.heap.size + 1, 0, none⟩ = some (.int .i64 a1) ∧ W.cell? ⟨w.heap.size + 1, 1, none⟩ = some (.int .i64 b1) ∧ W.cell? ⟨wx3.heap.size, 0, none⟩ = some (.int .i64 a0) ∧ W.cell? ⟨wx3.heap.size, 1, none⟩ = some (.int .i64 b0) ∧ W.cell? ⟨wx3.heap.size, 2, none⟩ = some (.slice B2 l0.length d2) ∧ Below wb4.heap.size wb4 W) → (((W.setCell ⟨G, 0, none⟩ v0).setCell ⟨G, 1, none⟩ v1).setCell ⟨G, 2, none⟩ v2).cell? ⟨w.heap.size + 1, 0, none⟩ = some (.int .i64 a1) ∧ (((W.setCell ⟨G, 0, none⟩ v0).setCell ⟨G, 1, none⟩ v1).setCell ⟨G, 2, none⟩ v2).cell? ⟨w.heap.size + 1, 1, none⟩ = some (.int .i64 b1) ∧ (((W.setCell ⟨G, 0, none⟩ v0).setCell ⟨G, 1, none⟩ v1).setCell ⟨G, 2, none⟩ v2).cell? ⟨wx3.heap.size, 0, none⟩ = some (.int .i64 a0) ∧ (((W.setCell ⟨G, 0, none⟩ v0).setCell ⟨G, 1, none⟩ v1).setCell ⟨G, 2, none⟩ v2).cell? ⟨wx3.heap.size, 1, none⟩ = some (.int .i64 b0) ∧ (((W.setCell ⟨G, 0, none⟩ v0).setCell ⟨G, 1, none⟩ v1).setCell ⟨G, 2, none⟩ v2).cell? ⟨wx3.heap.size, 2, none⟩ = some (.slice B2 l0.length d2) ∧ Below wb4.heap.size wb4 (((W.setCell ⟨G, 0, none⟩ v0).setCell ⟨G, 1, none⟩ v1).setCell ⟨G, 2, none⟩ v2)) := fun W G v0 v1 v2 hg h => HK.out _ (((h.2.2.2.2.2.setCell (p := ⟨G, 0, none⟩) hg v0).setCell (p := ⟨G, 1, none⟩) hg v1).setCell (p := ⟨G, 2, none⟩) hg v2)
  have h0 : wb4.drew.cell? ⟨w.heap.size + 1, 0, none⟩ = some (.int .i64 a1) ∧ wb4.drew.cell? ⟨w.heap.size + 1, 1, none⟩ = some (.int .i64 b1) ∧ wb4.drew.cell? ⟨wx3.heap.size, 0, none⟩ = some (.int .i64 a0) ∧ wb4.drew.cell? ⟨wx3.heap.size, 1, none⟩ = some (.int .i64 b0) ∧ wb4.drew.cell? ⟨wx3.heap.size, 2, none⟩ = some (.slice B2 l0.length d2) ∧ Below wb4.heap.size wb4 wb4.drew := HK.out _ (Below.refl _ _).drew
  have hB0 : wb4.cell? ⟨w.heap.size + 1, 0, none⟩ = some (.int .i64 a1) ∧ wb4.cell? ⟨w.heap.size + 1, 1, none⟩ = some (.int .i64 b1) ∧ wb4.cell? ⟨wx3.heap.size, 0, none⟩ = some (.int .i64 a0) ∧ wb4.cell? ⟨wx3.heap.size, 1, none⟩ = some (.int .i64 b0) ∧ wb4.cell? ⟨wx3.heap.size, 2, none⟩ = some (.slice B2 l0.length d2) ∧ Below wb4.heap.size wb4 wb4 := HK.out _ (Below.refl _ _)
  have hA0 : ((wb4.alloc (.cells #[.int .i64 0, .int .i64 0, .slice none 0 0] 53)).drew).cell? ⟨w.heap.size + 1, 0, none⟩ = some (.int .i64 a1) ∧ ((wb4.alloc (.cells #[.int .i64 0, .int .i64 0, .slice none 0 0] 53)).drew).cell? ⟨w.heap.size + 1, 1, none⟩ = some (.int .i64 b1) ∧ ((wb4.alloc (.cells #[.int .i64 0, .int .i64 0, .slice none 0 0] 53)).drew).cell? ⟨wx3.heap.size, 0, none⟩ = some (.int .i64 a0) ∧ ((wb4.alloc (.cells #[.int .i64 0, .int .i64 0, .slice none 0 0] 53)).drew).cell? ⟨wx3.heap.size, 1, none⟩ = some (.int .i64 b0) ∧ ((wb4.alloc (.cells #[.int .i64 0, .int .i64 0, .slice none 0 0] 53)).drew).cell? ⟨wx3.heap.size, 2, none⟩ = some (.slice B2 l0.length d2) ∧ Below wb4.heap.size wb4 ((wb4.alloc (.cells #[.int .i64 0, .int .i64 0, .slice none 0 0] 53)).drew) := HK.out _ ((bnew (Below.refl wb4.heap.size wb4) (.cells #[.int .i64 0, .int .i64 0, .slice none 0 0] 53)).drew)
  have HX : Hid (∀ W, (W.cell? ⟨w.heap.size + 1, 0, none⟩ = some (.int .i64 a1) ∧ W.cell? ⟨w.heap.size + 1, 1, none⟩ = some (.int .i64 b1) ∧ W.cell? ⟨wx3.heap.size, 0, none⟩ = some (.int .i64 a0) ∧ W.cell? ⟨wx3.heap.size, 1, none⟩ = some (.int .i64 b0) ∧ W.cell? ⟨wx3.heap.size, 2, none⟩ = some (.slice B2 l0.length d2) ∧ Below wb4.heap.size wb4 W) → RP W B2 l0) := fun W h => O2.reads.below h.2.2.2.2.2
  have HC := Lib.hid O2.capC
  have HF := Lib.hid O2.formP
  go_cut [9, 10] from 31 to 37 (fun s6 s7 wx => CylAt 63 wb4 s6 (.int .i64 a0) (.int .i64 b0) (addPL a0 b0 l0 (a1, b1)) wx ∧ s7 = .bool (addPOk a0 b0 l0 (a1, b1)))
  case first =>
    clear zb1 zb2 zb4
    go_region_held3 (fun W => W.cell? ⟨w.heap.size + 1, 0, none⟩ = some (.int .i64 a1) ∧ W.cell? ⟨w.heap.size + 1, 1, none⟩ = some (.int .i64 b1) ∧ W.cell? ⟨wx3.heap.size, 0, none⟩ = some (.int .i64 a0) ∧ W.cell? ⟨wx3.heap.size, 1, none⟩ = some (.int .i64 b0) ∧ W.cell? ⟨wx3.heap.size, 2, none⟩ = some (.slice B2 l0.length d2) ∧ Below wb4.heap.size wb4 W) (first | exact h9 | exact h8 | exact h7 | exact h0 | exact hA0 | exact HBt.out _ _ (by assumption) (bnew (Below.refl _ _) _) | exact HKs.out _ _ _ _ _ (HSz.out _ (by assumption)) (by assumption)) (first
      | (go_at_call 49; with_reducible refine (laws_toPin).mono ?_; rintro e W8 ⟨rfl, hq8⟩; have h8 := HBt.out _ _ (by assumption) hq8; (try have kP := zc_new hq8); (try have kP := zc_newd hq8))
      | (go_at_call 50; (first | with_reducible refine (impl_AddPin (HX.out _ (by assumption))).mono ?_); rintro e W9 ⟨B9, d9, rfl, O9, hq9⟩; have h9 := HBt.out _ _ (by assumption) hq9; have hlo9 := HSq.out _ _ (by assumption) hq9; (try have kC := zc_new hq9); (try have kC := zc_newd hq9); (try have kC := zc_later kT.2 hq9); (try have kC := zc_later kP.2 hq9); (try obtain ⟨⟨y0, y1, y2⟩, y3, y4, y5⟩ := kC.2); obtain ⟨_, ⟨v0, v1, v2⟩, v3, v4, v5⟩ := zc_new (V := W9) (T := 53) (Below.refl _ _)))
    all_goals
      go_wp2_with fail
      go_meet
      case rel => first | (with_reducible exact ⟨cyl_meet3 O9 hlo9 h9.2.2.2.2.2, rfl⟩) | (with_reducible exact ⟨cyl_meet1 kC O9 (HSz.out _ (by assumption)) h9.2.2.2.2.2, rfl⟩)
  case rest =>
  clear HK HBt HSz HSq HKs h0 hB0 hA0 HX HC HF
  obtain ⟨wx4, rfl⟩ : ∃ W, W = wc := ⟨_, rfl⟩
  obtain ⟨⟨gb5, B3, d3, lo3, hi3, rfl, ⟨p50, p51, p52⟩, O3, hdis3, hlo3, hgb5, hgw5, hq⟩, rfl⟩ := hcut
  have z4 := hq.size
  have zo3 := O3.le
  replace p10 := cell_later p10 hq
  replace p11 := cell_later p11 hq
  replace p12 := cell_later p12 hq
  replace p20 := cell_later p20 hq
  replace p21 := cell_later p21 hq
  replace p30 := cell_later p30 hq
  replace p31 := cell_later p31 hq
  replace p32 := cell_later p32 hq
  replace p40 := cell_later p40 hq
  replace p41 := cell_later p41 hq
  replace p42 := cell_later p42 hq
  replace O1 := O1.below hq O1.le
  replace O2 := O2.below hq O2.le
  replace hbel := bthen hbel hq
  clear hq
  go_wp2_with fail
  refine (laws_eqCylinder O3.reads O1.reads).mono ?_
  rintro e wx5 ⟨rfl, hq⟩
  have z5 := hq.size
  replace p10 := cell_later p10 hq
  replace p11 := cell_later p11 hq
  replace p12 := cell_later p12 hq
  replace p20 := cell_later p20 hq
  replace p21 := cell_later p21 hq
  replace p30 := cell_later p30 hq
  replace p31 := cell_later p31 hq
  replace p32 := cell_later p32 hq
  replace p40 := cell_later p40 hq
  replace p41 := cell_later p41 hq
  replace p42 := cell_later p42 hq
  replace p50 := cell_later p50 hq
  replace p51 := cell_later p51 hq
  replace p52 := cell_later p52 hq
  replace O1 := O1.below hq O1.le
  replace O2 := O2.below hq O2.le
  replace O3 := O3.below hq O3.le
  replace hbel := bthen hbel hq
  clear hq
  go_wp2_with fail
  have HR : Hid (∀ W, Below wx5.heap.size wx5 W → RP W A0 l0) := fun W h => R0.below (bthen hbel h)
  have HX : Hid (∀ W, Below wx5.heap.size wx5 W → RP W B2 l0) := fun W h => O2.reads.below h
  have HK : Hid (∀ W, Below wx5.heap.size wx5 W → W.cell? ⟨w.heap.size, 0, none⟩ = some (.int .i64 a0) ∧ W.cell? ⟨w.heap.size, 1, none⟩ = some (.int .i64 b0) ∧ W.cell? ⟨w.heap.size, 2, none⟩ = some (.slice A0 l0.length c0) ∧ W.cell? ⟨wx3.heap.size, 0, none⟩ = some (.int .i64 a0) ∧ W.cell? ⟨wx3.heap.size, 1, none⟩ = some (.int .i64 b0) ∧ W.cell? ⟨wx3.heap.size, 2, none⟩ = some (.slice B2 l0.length d2) ∧ Below wx5.heap.size wx5 W) := fun W h => ⟨cell_later p10 h, cell_later p11 h, cell_later p12 h, cell_later p40 h, cell_later p41 h, cell_later p42 h, h⟩
  have hdr := (Below.refl wx5.heap.size wx5).drew
  go_region_held3 (fun W => W.cell? ⟨w.heap.size, 0, none⟩ = some (.int .i64 a0) ∧ W.cell? ⟨w.heap.size, 1, none⟩ = some (.int .i64 b0) ∧ W.cell? ⟨w.heap.size, 2, none⟩ = some (.slice A0 l0.length c0) ∧ W.cell? ⟨wx3.heap.size, 0, none⟩ = some (.int .i64 a0) ∧ W.cell? ⟨wx3.heap.size, 1, none⟩ = some (.int .i64 b0) ∧ W.cell? ⟨wx3.heap.size, 2, none⟩ = some (.slice B2 l0.length d2) ∧ Below wx5.heap.size wx5 W) (exact HK.out _ (by assumption)) (first
    | (go_at_call 43; refine (laws_toCylinder (HR.out _ (by assumption))).mono ?_; rintro e W7 ⟨B7, d7, rfl, O7, hq⟩; have h7 := hdr.trans (hq.mono hdr.size))
    | (go_at_call 45; refine (laws_eqCylinder (HX.out _ (by assumption)) O7.reads).mono ?_; rintro e wx6 ⟨rfl, hq8⟩; have hq := h7.trans (hq8.mono h7.size)))
  have z6 := hq.size
  clear HR HX HK hdr h7 hq8 O7
  replace p10 := cell_later p10 hq
  replace p11 := cell_later p11 hq
  replace p12 := cell_later p12 hq
  replace p20 := cell_later p20 hq
  replace p21 := cell_later p21 hq
  replace p30 := cell_later p30 hq
  replace p31 := cell_later p31 hq
  replace p32 := cell_later p32 hq
  replace p40 := cell_later p40 hq
  replace p41 := cell_later p41 hq
  replace p42 := cell_later p42 hq
  replace p50 := cell_later p50 hq
  replace p51 := cell_later p51 hq
  replace p52 := cell_later p52 hq
  replace O1 := O1.below hq O1.le
  replace O2 := O2.below hq O2.le
  replace O3 := O3.below hq O3.le
  replace hbel := bthen hbel hq
  clear hq
  go_wp2_with fail
  refine (laws_markCylinder O2 (by omega) (by omega)).mono ?_
  rintro e wx7 ⟨rfl, O2, hq⟩
  have z7 := hq.size
  replace p10 := (hq.cell (World.block_lt_of_cell? _ _ p10) (by simp only; omega)).trans p10
  replace p11 := (hq.cell (World.block_lt_of_cell? _ _ p11) (by simp only; omega)).trans p11
  replace p12 := (hq.cell (World.block_lt_of_cell? _ _ p12) (by simp only; omega)).trans p12
  replace p20 := (hq.cell (World.block_lt_of_cell? _ _ p20) (by simp only; omega)).trans p20
  replace p21 := (hq.cell (World.block_lt_of_cell? _ _ p21) (by simp only; omega)).trans p21
  replace p30 := (hq.cell (World.block_lt_of_cell? _ _ p30) (by simp only; omega)).trans p30
  replace p31 := (hq.cell (World.block_lt_of_cell? _ _ p31) (by simp only; omega)).trans p31
  replace p32 := (hq.cell (World.block_lt_of_cell? _ _ p32) (by simp only; omega)).trans p32
  replace p40 := (hq.cell (World.block_lt_of_cell? _ _ p40) (by simp only; omega)).trans p40
  replace p41 := (hq.cell (World.block_lt_of_cell? _ _ p41) (by simp only; omega)).trans p41
  replace p42 := (hq.cell (World.block_lt_of_cell? _ _ p42) (by simp only; omega)).trans p42
  replace p50 := (hq.cell (World.block_lt_of_cell? _ _ p50) (by simp only; omega)).trans p50
  replace p51 := (hq.cell (World.block_lt_of_cell? _ _ p51) (by simp only; omega)).trans p51
  replace p52 := (hq.cell (World.block_lt_of_cell? _ _ p52) (by simp only; omega)).trans p52
  replace O1 := O1.kept hq (by omega)
  replace O3 := O3.kept hq (by omega)
  replace hbel := hbel.trans (hq.below (by omega) (by omega))
  clear hq
  go_wp2_with fail
  refine (laws_eqCylinder O3.reads O1.reads).mono ?_
  rintro e wx8 ⟨rfl, hq⟩
  have z8 := hq.size
  replace p10 := cell_later p10 hq
  replace p11 := cell_later p11 hq
  replace p12 := cell_later p12 hq
  replace p20 := cell_later p20 hq
  replace p21 := cell_later p21 hq
  replace p30 := cell_later p30 hq
  replace p31 := cell_later p31 hq
  replace p32 := cell_later p32 hq
  replace p40 := cell_later p40 hq
  replace p41 := cell_later p41 hq
  replace p42 := cell_later p42 hq
  replace p50 := cell_later p50 hq
  replace p51 := cell_later p51 hq
  replace p52 := cell_later p52 hq
  replace O1 := O1.below hq O1.le
  replace O2 := O2.below hq O2.le
  replace O3 := O3.below hq O3.le
  replace hbel := bthen hbel hq
  clear hq
  go_wp2_with fail
  refine (laws_markCylinder O3 (by omega) (by omega)).mono ?_
  rintro e wx9 ⟨rfl, O3, hq⟩
  have z9 := hq.size
  replace p10 := (hq.cell (World.block_lt_of_cell? _ _ p10) (by simp only; omega)).trans p10
  replace p11 := (hq.cell (World.block_lt_of_cell? _ _ p11) (by simp only; omega)).trans p11
  replace p12 := (hq.cell (World.block_lt_of_cell? _ _ p12) (by simp only; omega)).trans p12
  replace p20 := (hq.cell (World.block_lt_of_cell? _ _ p20) (by simp only; omega)).trans p20
  replace p21 := (hq.cell (World.block_lt_of_cell? _ _ p21) (by simp only; omega)).trans p21
  replace p30 := (hq.cell (World.block_lt_of_cell? _ _ p30) (by simp only; omega)).trans p30
  replace p31 := (hq.cell (World.block_lt_of_cell? _ _ p31) (by simp only; omega)).trans p31
  replace p32 := (hq.cell (World.block_lt_of_cell? _ _ p32) (by simp only; omega)).trans p32
  replace p40 := (hq.cell (World.block_lt_of_cell? _ _ p40) (by simp only; omega)).trans p40
  replace p41 := (hq.cell (World.block_lt_of_cell? _ _ p41) (by simp only; omega)).trans p41
  replace p42 := (hq.cell (World.block_lt_of_cell? _ _ p42) (by simp only; omega)).trans p42
  replace p50 := (hq.cell (World.block_lt_of_cell? _ _ p50) (by simp only; omega)).trans p50
  replace p51 := (hq.cell (World.block_lt_of_cell? _ _ p51) (by simp only; omega)).trans p51
  replace p52 := (hq.cell (World.block_lt_of_cell? _ _ p52) (by simp only; omega)).trans p52
  replace O1 := O1.kept hq (by omega)
  replace O2 := O2.kept hq (by omega)
  replace hbel := hbel.trans (hq.below (by omega) (by omega))
  clear hq
  go_wp2_with fail
  refine (laws_heldCylinder O3.reads (by omega) (by omega)).mono ?_
  rintro e wx10 ⟨rfl, hq⟩
  have z10 := hq.size
  replace p10 := cell_later p10 hq
  replace p11 := cell_later p11 hq
  replace p12 := cell_later p12 hq
  replace p20 := cell_later p20 hq
  replace p21 := cell_later p21 hq
  replace p30 := cell_later p30 hq
  replace p31 := cell_later p31 hq
  replace p32 := cell_later p32 hq
  replace p40 := cell_later p40 hq
  replace p41 := cell_later p41 hq
  replace p42 := cell_later p42 hq
  replace p50 := cell_later p50 hq
  replace p51 := cell_later p51 hq
  replace p52 := cell_later p52 hq
  replace O1 := O1.below hq O1.le
  replace O2 := O2.below hq O2.le
  replace O3 := O3.below hq O3.le
  replace hbel := bthen hbel hq
  clear hq
  go_wp2_with fail
  have HK : Hid (∀ W, Below wx10.heap.size wx10 W → W.cell? ⟨w.heap.size, 0, none⟩ = some (.int .i64 a0) ∧ W.cell? ⟨w.heap.size, 1, none⟩ = some (.int .i64 b0) ∧ W.cell? ⟨w.heap.size, 2, none⟩ = some (.slice A0 l0.length c0) ∧ W.cell? ⟨w.heap.size + 1, 0, none⟩ = some (.int .i64 a1) ∧ W.cell? ⟨w.heap.size + 1, 1, none⟩ = some (.int .i64 b1) ∧ Below wx10.heap.size wx10 W) := fun W h => ⟨cell_later p10 h, cell_later p11 h, cell_later p12 h, cell_later p20 h, cell_later p21 h, h⟩
  have HBt : Hid (∀ W W', (W.cell? ⟨w.heap.size, 0, none⟩ = some (.int .i64 a0) ∧ W.cell? ⟨w.heap.size, 1, none⟩ = some (.int .i64 b0) ∧ W.cell? ⟨w.heap.size, 2, none⟩ = some (.slice A0 l0.length c0) ∧ W.cell? ⟨w.heap.size + 1, 0, none⟩ = some (.int .i64 a1) ∧ W.cell? ⟨w.heap.size + 1, 1, none⟩ = some (.int .i64 b1) ∧ Below wx10.heap.size wx10 W) → Below W.heap.size W W' → W'.cell? ⟨w.heap.size, 0, none⟩ = some (.int .i64 a0) ∧ W'.cell? ⟨w.heap.size, 1, none⟩ = some (.int .i64 b0) ∧ W'.cell? ⟨w.heap.size, 2, none⟩ = some (.slice A0 l0.length c0) ∧ W'.cell? ⟨w.heap.size + 1, 0, none⟩ = some (.int .i64 a1) ∧ W'.cell? ⟨w.heap.size + 1, 1, none⟩ = some (.int .i64 b1) ∧ Below wx10.heap.size wx10 W') := fun W W' h hb => HK.out W' (bthen h.2.2.2.2.2 hb)
  have HSz : Hid (∀ W, (W.cell? ⟨w.heap.size, 0, none⟩ = some (.int .i64 a0) ∧ W.cell? ⟨w.heap.size, 1, none⟩ = some (.int .i64 b0) ∧ W.cell? ⟨w.heap.size, 2, none⟩ = some (.slice A0 l0.length c0) ∧ W.cell? ⟨w.heap.size + 1, 0, none⟩ = some (.int .i64 a1) ∧ W.cell? ⟨w.heap.size + 1, 1, none⟩ = some (.int .i64 b1) ∧ Below wx10.heap.size wx10 W) → wx10.heap.size ≤ W.heap.size) := fun W h => h.2.2.2.2.2.size
  have HSq : Hid (∀ W W', (W.cell? ⟨w.heap.size, 0, none⟩ = some (.int .i64 a0) ∧ W.cell? ⟨w.heap.size, 1, none⟩ = some (.int .i64 b0) ∧ W.cell? ⟨w.heap.size, 2, none⟩ = some (.slice A0 l0.length c0) ∧ W.cell? ⟨w.heap.size + 1, 0, none⟩ = some (.int .i64 a1) ∧ W.cell? ⟨w.heap.size + 1, 1, none⟩ = some (.int .i64 b1) ∧ Below wx10.heap.size wx10 W) → Below W.heap.size W W' → wx10.heap.size ≤ W.heap.size) := fun W W' h _ => h.2.2.2.2.2.size
  have HKs : Hid (∀ W G v0 v1 v2, wx10.heap.size ≤ G → (W.cell? ⟨w.heap.size, 0, none⟩ = some (.int .i64 a0) ∧ W.cell? ⟨w.heap.size, 1, none⟩ = some (.int .i64 b0) ∧ W.cell? ⟨w.heap.size, 2, none⟩ = some (.slice A0 l0.length c0) ∧ W.cell? ⟨w.heap.size + 1, 0, none⟩ = some (.int .i64 a1) ∧ W.cell? ⟨w.heap.size + 1, 1, none⟩ = some (.int .i64 b1) ∧ Below wx10.heap.size wx10 W) → (((W.setCell ⟨G, 0, none⟩ v0).setCell ⟨G, 1, none⟩ v1).setCell ⟨G, 2, none⟩ v2).cell? ⟨w.heap.size, 0, none⟩ = some (.int .i64 a0) ∧ (((W.setCell ⟨G, 0, none⟩ v0).setCell ⟨G, 1, none⟩ v1).setCell ⟨G, 2, none⟩ v2).cell? ⟨w.heap.size, 1, none⟩ = some (.int .i64 b0) ∧ (((W.setCell ⟨G, 0, none⟩ v0).setCell ⟨G, 1, none⟩ v1).setCell ⟨G, 2, none⟩ v2).cell? ⟨w.heap.size, 2, none⟩ = some (.slice A0 l0.length c0) ∧ (((W.setCell ⟨G, 0, none⟩ v0).setCell ⟨G, 1, none⟩ v1).setCell ⟨G, 2, none⟩ v2).cell? ⟨w.heap.size + 1, 0, none⟩ = some (.int .i64 a1) ∧ (((W.setCell ⟨G, 0, none⟩ v0).setCell ⟨G, 1, none⟩ v1).setCell ⟨G, 2, none⟩ v2).cell? ⟨w.heap.size + 1, 1, none⟩ = some (.int .i64 b1) ∧ Below wx10.heap.size wx10 (((W.setCell ⟨G, 0, none⟩ v0).setCell ⟨G, 1, none⟩ v1).setCell ⟨G, 2, none⟩ v2)) := fun W G v0 v1 v2 hg h => HK.out _ (((h.2.2.2.2.2.setCell (p := ⟨G, 0, none⟩) hg v0).setCell (p := ⟨G, 1, none⟩) hg v1).setCell (p := ⟨G, 2, none⟩) hg v2)
  have h0 : wx10.drew.cell? ⟨w.heap.size, 0, none⟩ = some (.int .i64 a0) ∧ wx10.drew.cell? ⟨w.heap.size, 1, none⟩ = some (.int .i64 b0) ∧ wx10.drew.cell? ⟨w.heap.size, 2, none⟩ = some (.slice A0 l0.length c0) ∧ wx10.drew.cell? ⟨w.heap.size + 1, 0, none⟩ = some (.int .i64 a1) ∧ wx10.drew.cell? ⟨w.heap.size + 1, 1, none⟩ = some (.int .i64 b1) ∧ Below wx10.heap.size wx10 wx10.drew := HK.out _ (Below.refl _ _).drew
  have hB0 : wx10.cell? ⟨w.heap.size, 0, none⟩ = some (.int .i64 a0) ∧ wx10.cell? ⟨w.heap.size, 1, none⟩ = some (.int .i64 b0) ∧ wx10.cell? ⟨w.heap.size, 2, none⟩ = some (.slice A0 l0.length c0) ∧ wx10.cell? ⟨w.heap.size + 1, 0, none⟩ = some (.int .i64 a1) ∧ wx10.cell? ⟨w.heap.size + 1, 1, none⟩ = some (.int .i64 b1) ∧ Below wx10.heap.size wx10 wx10 := HK.out _ (Below.refl _ _)
  have hA0 : ((wx10.alloc (.cells #[.int .i64 0, .int .i64 0, .slice none 0 0] 53)).drew).cell? ⟨w.heap.size, 0, none⟩ = some (.int .i64 a0) ∧ ((wx10.alloc (.cells #[.int .i64 0, .int .i64 0, .slice none 0 0] 53)).drew).cell? ⟨w.heap.size, 1, none⟩ = some (.int .i64 b0) ∧ ((wx10.alloc (.cells #[.int .i64 0, .int .i64 0, .slice none 0 0] 53)).drew).cell? ⟨w.heap.size, 2, none⟩ = some (.slice A0 l0.length c0) ∧ ((wx10.alloc (.cells #[.int .i64 0, .int .i64 0, .slice none 0 0] 53)).drew).cell? ⟨w.heap.size + 1, 0, none⟩ = some (.int .i64 a1) ∧ ((wx10.alloc (.cells #[.int .i64 0, .int .i64 0, .slice none 0 0] 53)).drew).cell? ⟨w.heap.size + 1, 1, none⟩ = some (.int .i64 b1) ∧ Below wx10.heap.size wx10 ((wx10.alloc (.cells #[.int .i64 0, .int .i64 0, .slice none 0 0] 53)).drew) := HK.out _ ((bnew (Below.refl wx10.heap.size wx10) (.cells #[.int .i64 0, .int .i64 0, .slice none 0 0] 53)).drew)
  have HR : Hid (∀ W, (W.cell? ⟨w.heap.size, 0, none⟩ = some (.int .i64 a0) ∧ W.cell? ⟨w.heap.size, 1, none⟩ = some (.int .i64 b0) ∧ W.cell? ⟨w.heap.size, 2, none⟩ = some (.slice A0 l0.length c0) ∧ W.cell? ⟨w.heap.size + 1, 0, none⟩ = some (.int .i64 a1) ∧ W.cell? ⟨w.heap.size + 1, 1, none⟩ = some (.int .i64 b1) ∧ Below wx10.heap.size wx10 W) → RP W A0 l0) := fun W h => R0.below (bthen hbel h.2.2.2.2.2)
  go_cut [14, 15] from 79 to 86 (fun s6 s7 wx => CylAt 63 wx10 s6 (.int .i64 a0) (.int .i64 b0) (addPL a0 b0 l0 (a1, b1)) wx ∧ s7 = .bool (addPOk a0 b0 l0 (a1, b1)))
  case first =>
    clear zb1 zb2 zb4
    go_region_held3 (fun W => W.cell? ⟨w.heap.size, 0, none⟩ = some (.int .i64 a0) ∧ W.cell? ⟨w.heap.size, 1, none⟩ = some (.int .i64 b0) ∧ W.cell? ⟨w.heap.size, 2, none⟩ = some (.slice A0 l0.length c0) ∧ W.cell? ⟨w.heap.size + 1, 0, none⟩ = some (.int .i64 a1) ∧ W.cell? ⟨w.heap.size + 1, 1, none⟩ = some (.int .i64 b1) ∧ Below wx10.heap.size wx10 W) (first | exact h9 | exact h8 | exact h7 | exact h0 | exact hA0 | exact HBt.out _ _ (by assumption) (bnew (Below.refl _ _) _) | exact HKs.out _ _ _ _ _ (HSz.out _ (by assumption)) (by assumption)) (first
      | (go_at_call 43; with_reducible refine (laws_toCylinder (HR.out _ (by assumption))).mono ?_; rintro e W7 ⟨B7, d7, rfl, O7, hq7⟩; have h7 := HBt.out _ _ (by assumption) hq7; (try have kT := zc_new hq7); (try have kT := zc_newd hq7); (try have kT := zc_later kP.2 hq7))
      | (go_at_call 49; with_reducible refine (laws_toPin).mono ?_; rintro e W8 ⟨rfl, hq8⟩; have h8 := HBt.out _ _ (by assumption) hq8; (try have kP := zc_new hq8); (try have kP := zc_newd hq8); (try have kP := zc_later kT.2 hq8))
      | (go_at_call 50; (first | with_reducible refine (impl_AddPin O7.reads).mono ?_ | with_reducible refine (impl_AddPin (O7.new _).reads).mono ?_ | with_reducible refine (impl_AddPin (O7.below hq8 O7.le).reads).mono ?_ | with_reducible refine (impl_AddPin ((O7.new _).below hq8 (O7.new _).le).reads).mono ?_ | with_reducible refine (impl_AddPin ((O7.below hq8 O7.le).new _).reads).mono ?_); rintro e W9 ⟨B9, d9, rfl, O9, hq9⟩; have h9 := HBt.out _ _ (by assumption) hq9; have hlo9 := HSq.out _ _ (by assumption) hq9; (try have kC := zc_new hq9); (try have kC := zc_newd hq9); (try have kC := zc_later kT.2 hq9); (try have kC := zc_later kP.2 hq9); (try obtain ⟨⟨y0, y1, y2⟩, y3, y4, y5⟩ := kC.2); obtain ⟨_, ⟨v0, v1, v2⟩, v3, v4, v5⟩ := zc_new (V := W9) (T := 53) (Below.refl _ _)))
    all_goals
      go_wp2_with fail
      go_meet
      case rel => first | (with_reducible exact ⟨cyl_meet3 O9 hlo9 h9.2.2.2.2.2, rfl⟩) | (with_reducible exact ⟨cyl_meet1 kC O9 (HSz.out _ (by assumption)) h9.2.2.2.2.2, rfl⟩)
  case rest =>
  clear HK HBt HSz HSq HKs h0 hB0 hA0 HR
  obtain ⟨wx11, rfl⟩ : ∃ W, W = wc := ⟨_, rfl⟩
  obtain ⟨⟨gb6, B4, d4, lo4, hi4, rfl, ⟨p60, p61, p62⟩, O4, hdis4, hlo4, hgb6, hgw6, hq⟩, rfl⟩ := hcut
  have z11 := hq.size
  have zo4 := O4.le
  replace p10 := cell_later p10 hq
  replace p11 := cell_later p11 hq
  replace p12 := cell_later p12 hq
  replace p20 := cell_later p20 hq
  replace p21 := cell_later p21 hq
  replace p30 := cell_later p30 hq
  replace p31 := cell_later p31 hq
  replace p32 := cell_later p32 hq
  replace p40 := cell_later p40 hq
  replace p41 := cell_later p41 hq
  replace p42 := cell_later p42 hq
  replace p50 := cell_later p50 hq
  replace p51 := cell_later p51 hq
  replace p52 := cell_later p52 hq
  replace O1 := O1.below hq O1.le
  replace O2 := O2.below hq O2.le
  replace O3 := O3.below hq O3.le
  replace hbel := bthen hbel hq
  clear hq
  go_wp2_with fail
  refine (laws_eqCylinder O4.reads O1.reads).mono ?_
  rintro e wx12 ⟨rfl, hq⟩
  have z12 := hq.size
  replace p10 := cell_later p10 hq
  replace p11 := cell_later p11 hq
  replace p12 := cell_later p12 hq
  replace p20 := cell_later p20 hq
  replace p21 := cell_later p21 hq
  replace p30 := cell_later p30 hq
  replace p31 := cell_later p31 hq
  replace p32 := cell_later p32 hq
  replace p40 := cell_later p40 hq
  replace p41 := cell_later p41 hq
  replace p42 := cell_later p42 hq
  replace p50 := cell_later p50 hq
  replace p51 := cell_later p51 hq
  replace p52 := cell_later p52 hq
  replace p60 := cell_later p60 hq
  replace p61 := cell_later p61 hq
  replace p62 := cell_later p62 hq
  replace O1 := O1.below hq O1.le
  replace O2 := O2.below hq O2.le
  replace O3 := O3.below hq O3.le
  replace O4 := O4.below hq O4.le
  replace hbel := bthen hbel hq
  clear hq
  go_wp2_with fail
  refine (laws_heldCylinder O3.reads (by omega) (by omega)).mono ?_
  rintro e wx13 ⟨rfl, hq⟩
  have z13 := hq.size
  replace p10 := cell_later p10 hq
  replace p11 := cell_later p11 hq
  replace p12 := cell_later p12 hq
  replace p20 := cell_later p20 hq
  replace p21 := cell_later p21 hq
  replace p30 := cell_later p30 hq
  replace p31 := cell_later p31 hq
  replace p32 := cell_later p32 hq
  replace p40 := cell_later p40 hq
  replace p41 := cell_later p41 hq
  replace p42 := cell_later p42 hq
  replace p50 := cell_later p50 hq
  replace p51 := cell_later p51 hq
  replace p52 := cell_later p52 hq
  replace p60 := cell_later p60 hq
  replace p61 := cell_later p61 hq
  replace p62 := cell_later p62 hq
  replace O1 := O1.below hq O1.le
  replace O2 := O2.below hq O2.le
  replace O3 := O3.below hq O3.le
  replace O4 := O4.below hq O4.le
  replace hbel := bthen hbel hq
  clear hq
  go_wp2
  go_ret
  exact ⟨rfl, hbel⟩

set_option maxRecDepth 100000 in
theorem lifted (os : Os) (started : os.Started) (H : Type) (enc : TypeId × Value → H) :
    ReturnsInHanded {} Try.checked os 13 .any (Rows.fnExactAddPinSpec.pre6 enc Try.prog Try.f13 Rows.fnExactAddPinRow.domain false) (Rows.fnExactAddPinSpec.post enc Try.prog Try.f13 false true false false) := by
  refine returnsInHanded_of_change (C := Try.checked) Try_own started (by kernel_rfl) Try.func13
    (ChangeSpec.witness6 (enc := enc) (C := Try.checked) false ⟨#[], #[.agg #[.int .i64 0, .int .i64 0, .slice none 0 0], .agg #[.int .i64 0, .int .i64 0]], []⟩ 8 (by kernel_rfl) (by kernel_rfl) (by kernel_rfl) (by kernel_rfl)) ?_
  intro W base args ds gs before hval0 hW hcnd _
  have hval : ∀ (j : Nat) t v, Try.f13.params[j]? = some t → args[j]? = some v → Value.okWide Try.prog W .any base t v := hval0
  have hW' := hW
  obtain ⟨p, q, hA0, hV, rfl, hfz, hnd⟩ := hW
  have hA : DataW.TrodAll enc Try.prog W 0 (fun _ => true) true Try.f13.params.toList args.toList ds p := hA0
  rw [Try.params13] at hA hval
  obtain ⟨v0, vs0, d0, ds0, p0, q0, hargs, rfl, rfl, h0, r0⟩ := trodAll_cons hA
  obtain ⟨v1, vs1, d1, ds1, p1, q1, rfl, rfl, rfl, h1, r1⟩ := trodAll_cons r0
  obtain ⟨rfl, rfl, rfl⟩ := trodAll_nil r1
  obtain rfl : args = #[v0, v1] := by cases args; simp_all
  obtain ⟨rfl, rfl⟩ := trodVars_none hV
  have k0 := h0
  have lt0 : ∀ x ∈ p0, x.block < W.heap.size := by obtain ⟨m, hm⟩ := k0; exact DataW.trod_lt m _ _ _ hm
  obtain ⟨a0, b0, A0, c0, l0, rfl, cm0, cl0, rd0⟩ := open_cyl_arg Try.underlying49 (by kernel_rfl) (by kernel_rfl) Try.underlying3 Try.underlying3 Try.underlying47 Try.underlying60 (by kernel_rfl) rfl rfl rfl rfl (by kernel_rfl) (by kernel_rfl) Try.underlying3 Try.underlying3 (hval 0 49 v0 rfl rfl) h0
  have k1 := h1
  have lt1 : ∀ x ∈ p1, x.block < W.heap.size := by obtain ⟨m, hm⟩ := k1; exact DataW.trod_lt m _ _ _ hm
  obtain ⟨a1, b1, rfl⟩ := open_pair_arg Try.underlying60 (by kernel_rfl) (by kernel_rfl) Try.underlying3 Try.underlying3 (hval 1 60 v1 rfl rfl) h1
  clear hA0 hval0
  refine (walk W a0 b0 A0 c0 l0 cm0 cl0 rd0 a1 b1).mono fun e W' ⟨he, bel⟩ => ?_
  subst he
  exact ⟨_, rfl, _, _, _, [], _, [], hW', trodAll_mk1 (shut_bool Try.underlying4 _), (trodAll_cons_mk (Below.trod Try_laidOut (by kernel_rfl) (of_decide_eq_true (by kernel_rfl)) k0 bel lt0) (trodAll_cons_mk (Below.trod Try_laidOut (by kernel_rfl) (of_decide_eq_true (by kernel_rfl)) k1 bel lt1) trodAll_mk0)), rfl, bel.frame _, fun h => by cases h⟩

theorem over : Rows.fnExactAddPinRow.holds Try.pinned (OpenSpec.ofChange Rows.fnExactAddPinSpec) :=
  OpenClaim.holds_of_wide 13 Try.f13 rfl rfl rfl rfl rfl rfl rfl ⟨rfl, rfl, rfl, rfl, rfl⟩ rfl rfl rfl rfl rfl (by kernel_rfl) Try.func13 (by kernel_rfl)
    (of_decide_eq_true (by kernel_rfl)) (by unfold Func.isWrapper; first | (rw [if_pos (by decide +kernel)]; kernel_rfl) | (rw [if_neg (by decide +kernel)]; exact ⟨rfl, rfl⟩))
    (fun os started H enc _ => lifted os started H enc)

theorem proved : Rows.FnExactAddPinSaid := over
end Go.Proofs.Ytkipgjllgmjipaa.lawAddPin
