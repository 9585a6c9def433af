/- Whatever the arguments, up to the law's own bound of 2^20 = 1048576 elements (beyond it the law answers true without looking), the program's PullPin returns what the reference's returns, leaves its arguments as they were, and shares no memory with them. There are no other conditions. -/
import Derived.Test.YtpffdabpmfmimaaFrame
import Derived.Deep.RegionHeld3
import Derived.Test.YtpffdabpmfmimaaCylB
import Derived.Test.YtpffdabpmfmimaaCylOk
import Derived.Test.YtpffdabpmfmimaaPullB
namespace Go.Proofs.Ytpffdabpmfmimaa.lawPullPin
open Go.ChangeShapes Go.WideShapes Go.ChangeAt Go.RowKit
open Go.ChangeMaps (open_string shut_string)
set_option linter.unusedVariables false

set_option maxHeartbeats 2000000 in
theorem walk (w : World) (a0 b0 : Int) (A0 : Option Addr) (c0 : Nat) (l0 : List (Int × Int)) (cm0 : c0 ≤ maxLen) (cl0 : l0.length ≤ c0) (rd0 : 0 < l0.length → ∃ b off, A0 = some ⟨b, off, none⟩ ∧ PairsAt w b off l0) (a1 : Int) (w1 : (Lit.int .i64 a1).wf = true) :
    Calls Try.prog 3 #[.agg #[.int .i64 a0, .int .i64 b0, .slice A0 l0.length c0], .int .i64 a1] w fun e w' => e = .returned (.bool true) ∧ Below w.heap.size w w' := by
  have cm0' := cm0; unfold maxLen at cm0
  by_cases zz0 : 1048576 < l0.length
  · go_enter Try.func3, Try.ntmps3
    go_wp2_with fail
    refine (laws_szCylinder_no (by omega) (by omega) (by omega) (by omega)).mono ?_
    rintro e u ⟨rfl, hu⟩
    go_wp2
    go_ret
    exact ⟨rfl, bthen (bnew (Below.refl _ _) _) hu⟩
  have R0 : RP w A0 l0 := ⟨by omega, rd0⟩
  clear rd0
  go_enter Try.func3, Try.ntmps3
  go_wp2_with fail
  have hbel := Below.refl w.heap.size w
  generalize hW : World.alloc w _ = wb1
  obtain ⟨hq, zb1, p10, p11, p12⟩ := new3c hW
  clear hW
  replace hbel := bthen hbel hq
  clear hq
  refine (laws_szCylinder_yes (by omega) (by omega)).mono ?_
  rintro e wx1 ⟨rfl, hq⟩
  have z1 := hq.size
  replace p10 := cell_later p10 hq
  replace p11 := cell_later p11 hq
  replace p12 := cell_later p12 hq
  replace hbel := bthen hbel hq
  clear hq
  go_wp2_with fail
  refine (laws_toCylinder (R0.below hbel)).mono ?_
  rintro e wx2 ⟨B1, d1, rfl, O1, hq⟩
  have z2 := hq.size
  replace p10 := cell_later p10 hq
  replace p11 := cell_later p11 hq
  replace p12 := cell_later p12 hq
  replace hbel := bthen hbel hq
  clear hq
  go_wp2_with fail
  refine (spec_PullPin O1.reads O1.capC).mono ?_
  rintro e wx3 ⟨B2, d2, rfl, O2, hq⟩
  have z3 := hq.size
  replace p10 := cell_later p10 hq
  replace p11 := cell_later p11 hq
  replace p12 := cell_later p12 hq
  replace O1 := O1.below hq O1.le
  replace hbel := bthen hbel hq
  clear hq
  clear O1
  have hqp := bnew (Below.refl wx3.heap.size wx3) (.cells #[.int .i64 a0, .int .i64 b0, .slice B2 (pullL a0 b0 l0 a1).length d2] 28)
  have yp10 := cell_later p10 hqp
  have yp11 := cell_later p11 hqp
  have yp12 := cell_later p12 hqp
  clear hqp
  go_wp2_with fail
  clear yp10 yp11 yp12
  generalize hW : World.alloc wx3 _ = wb2
  obtain ⟨hq, zb2, p20, p21, p22⟩ := new3c hW
  clear hW
  replace p10 := cell_later p10 hq
  replace p11 := cell_later p11 hq
  replace p12 := cell_later p12 hq
  replace O2 := O2.below hq O2.le
  replace hbel := bthen hbel hq
  clear hq
  refine (laws_toCylinder (R0.below hbel)).mono ?_
  rintro e wx4 ⟨B3, d3, rfl, O3, hq⟩
  have z4 := hq.size
  replace p10 := cell_later p10 hq
  replace p11 := cell_later p11 hq
  replace p12 := cell_later p12 hq
  replace p20 := cell_later p20 hq
  replace p21 := cell_later p21 hq
  replace p22 := cell_later p22 hq
  replace O2 := O2.below hq O2.le
  replace hbel := bthen hbel hq
  clear hq
  have hqp := bnew (Below.refl wx4.heap.size wx4) (.cells #[.int .i64 a0, .int .i64 b0, .slice B3 l0.length d3] 28)
  have yp10 := cell_later p10 hqp
  have yp11 := cell_later p11 hqp
  have yp12 := cell_later p12 hqp
  have yp20 := cell_later p20 hqp
  have yp21 := cell_later p21 hqp
  have yp22 := cell_later p22 hqp
  clear hqp
  go_wp2_with fail
  clear yp10 yp11 yp12 yp20 yp21 yp22
  generalize hW : World.alloc wx4 _ = wb3
  obtain ⟨hq, zb3, p30, p31, p32⟩ := new3c hW
  clear hW
  replace p10 := cell_later p10 hq
  replace p11 := cell_later p11 hq
  replace p12 := cell_later p12 hq
  replace p20 := cell_later p20 hq
  replace p21 := cell_later p21 hq
  replace p22 := cell_later p22 hq
  replace O2 := O2.below hq O2.le
  replace O3 := O3.below hq O3.le
  replace hbel := bthen hbel hq
  clear hq
  refine (impl_PullPin O3.reads O3.capC).mono ?_
  rintro e wx5 ⟨B4, d4, rfl, O4, hq⟩
  have z5 := hq.size
  replace p10 := cell_later p10 hq
  replace p11 := cell_later p11 hq
  replace p12 := cell_later p12 hq
  replace p20 := cell_later p20 hq
  replace p21 := cell_later p21 hq
  replace p22 := cell_later p22 hq
  replace p30 := cell_later p30 hq
  replace p31 := cell_later p31 hq
  replace p32 := cell_later p32 hq
  replace O2 := O2.below hq O2.le
  replace O3 := O3.below hq O3.le
  replace hbel := bthen hbel hq
  clear hq
  have hqp := bnew (Below.refl wx5.heap.size wx5) (.cells #[.int .i64 a0, .int .i64 b0, .slice B4 (pullL a0 b0 l0 a1).length d4] 28)
  have yp10 := cell_later p10 hqp
  have yp11 := cell_later p11 hqp
  have yp12 := cell_later p12 hqp
  have yp20 := cell_later p20 hqp
  have yp21 := cell_later p21 hqp
  have yp22 := cell_later p22 hqp
  have yp30 := cell_later p30 hqp
  have yp31 := cell_later p31 hqp
  have yp32 := cell_later p32 hqp
  clear hqp
  go_wp2_with fail
  clear yp10 yp11 yp12 yp20 yp21 yp22 yp30 yp31 yp32
  generalize hW : World.alloc wx5 _ = wb4
  obtain ⟨hq, zb4, p40, p41, p42⟩ := new3c hW
  clear hW
  replace p10 := cell_later p10 hq
  replace p11 := cell_later p11 hq
  replace p12 := cell_later p12 hq
  replace p20 := cell_later p20 hq
  replace p21 := cell_later p21 hq
  replace p22 := cell_later p22 hq
  replace p30 := cell_later p30 hq
  replace p31 := cell_later p31 hq
  replace p32 := cell_later p32 hq
  replace O2 := O2.below hq O2.le
  replace O3 := O3.below hq O3.le
  replace O4 := O4.below hq O4.le
  replace hbel := bthen hbel hq
  clear hq
  refine (laws_eqCylinder O4.reads O2.reads).mono ?_
  rintro e wx6 ⟨rfl, hq⟩
  have z6 := hq.size
  replace p10 := cell_later p10 hq
  replace p11 := cell_later p11 hq
  replace p12 := cell_later p12 hq
  replace p20 := cell_later p20 hq
  replace p21 := cell_later p21 hq
  replace p22 := cell_later p22 hq
  replace p30 := cell_later p30 hq
  replace p31 := cell_later p31 hq
  replace p32 := cell_later p32 hq
  replace p40 := cell_later p40 hq
  replace p41 := cell_later p41 hq
  replace p42 := cell_later p42 hq
  replace O2 := O2.below hq O2.le
  replace O3 := O3.below hq O3.le
  replace O4 := O4.below hq O4.le
  replace hbel := bthen hbel hq
  clear hq
  go_wp2_with fail
  have HR : Hid (∀ W, Below wx6.heap.size wx6 W → RP W A0 l0) := fun W h => R0.below (bthen hbel h)
  have HX : Hid (∀ W, Below wx6.heap.size wx6 W → RP W B3 l0) := fun W h => O3.reads.below h
  have HK : Hid (∀ W, Below wx6.heap.size wx6 W → W.cell? ⟨w.heap.size, 0, none⟩ = some (.int .i64 a0) ∧ W.cell? ⟨w.heap.size, 1, none⟩ = some (.int .i64 b0) ∧ W.cell? ⟨w.heap.size, 2, none⟩ = some (.slice A0 l0.length c0) ∧ W.cell? ⟨wx4.heap.size, 0, none⟩ = some (.int .i64 a0) ∧ W.cell? ⟨wx4.heap.size, 1, none⟩ = some (.int .i64 b0) ∧ W.cell? ⟨wx4.heap.size, 2, none⟩ = some (.slice B3 l0.length d3) ∧ Below wx6.heap.size wx6 W) := fun W h => ⟨cell_later p10 h, cell_later p11 h, cell_later p12 h, cell_later p30 h, cell_later p31 h, cell_later p32 h, h⟩
  have hdr := (Below.refl wx6.heap.size wx6).drew
  go_region_held3 (fun W => W.cell? ⟨w.heap.size, 0, none⟩ = some (.int .i64 a0) ∧ W.cell? ⟨w.heap.size, 1, none⟩ = some (.int .i64 b0) ∧ W.cell? ⟨w.heap.size, 2, none⟩ = some (.slice A0 l0.length c0) ∧ W.cell? ⟨wx4.heap.size, 0, none⟩ = some (.int .i64 a0) ∧ W.cell? ⟨wx4.heap.size, 1, none⟩ = some (.int .i64 b0) ∧ W.cell? ⟨wx4.heap.size, 2, none⟩ = some (.slice B3 l0.length d3) ∧ Below wx6.heap.size wx6 W) (exact HK.out _ (by assumption)) (first
    | (go_at_call 17; refine (laws_toCylinder (HR.out _ (by assumption))).mono ?_; rintro e W7 ⟨B7, d7, rfl, O7, hq⟩; have h7 := hdr.trans (hq.mono hdr.size))
    | (go_at_call 19; refine (laws_eqCylinder (HX.out _ (by assumption)) O7.reads).mono ?_; rintro e wx7 ⟨rfl, hq8⟩; have hq := h7.trans (hq8.mono h7.size)))
  have z7 := hq.size
  clear HR HX HK hdr h7 hq8 O7
  replace p10 := cell_later p10 hq
  replace p11 := cell_later p11 hq
  replace p12 := cell_later p12 hq
  replace p20 := cell_later p20 hq
  replace p21 := cell_later p21 hq
  replace p22 := cell_later p22 hq
  replace p30 := cell_later p30 hq
  replace p31 := cell_later p31 hq
  replace p32 := cell_later p32 hq
  replace p40 := cell_later p40 hq
  replace p41 := cell_later p41 hq
  replace p42 := cell_later p42 hq
  replace O2 := O2.below hq O2.le
  replace O3 := O3.below hq O3.le
  replace O4 := O4.below hq O4.le
  replace hbel := bthen hbel hq
  clear hq
  go_wp2_with fail
  refine (laws_markCylinder O3 (by omega) (by omega)).mono ?_
  rintro e wx8 ⟨rfl, O3, hq⟩
  have z8 := hq.size
  replace p10 := (hq.cell (World.block_lt_of_cell? _ _ p10) (by simp only; omega)).trans p10
  replace p11 := (hq.cell (World.block_lt_of_cell? _ _ p11) (by simp only; omega)).trans p11
  replace p12 := (hq.cell (World.block_lt_of_cell? _ _ p12) (by simp only; omega)).trans p12
  replace p20 := (hq.cell (World.block_lt_of_cell? _ _ p20) (by simp only; omega)).trans p20
  replace p21 := (hq.cell (World.block_lt_of_cell? _ _ p21) (by simp only; omega)).trans p21
  replace p22 := (hq.cell (World.block_lt_of_cell? _ _ p22) (by simp only; omega)).trans p22
  replace p30 := (hq.cell (World.block_lt_of_cell? _ _ p30) (by simp only; omega)).trans p30
  replace p31 := (hq.cell (World.block_lt_of_cell? _ _ p31) (by simp only; omega)).trans p31
  replace p32 := (hq.cell (World.block_lt_of_cell? _ _ p32) (by simp only; omega)).trans p32
  replace p40 := (hq.cell (World.block_lt_of_cell? _ _ p40) (by simp only; omega)).trans p40
  replace p41 := (hq.cell (World.block_lt_of_cell? _ _ p41) (by simp only; omega)).trans p41
  replace p42 := (hq.cell (World.block_lt_of_cell? _ _ p42) (by simp only; omega)).trans p42
  replace O2 := O2.kept hq (by omega)
  replace O4 := O4.kept hq (by omega)
  replace hbel := hbel.trans (hq.below (by omega) (by omega))
  clear hq
  go_wp2_with fail
  refine (laws_eqCylinder O4.reads O2.reads).mono ?_
  rintro e wx9 ⟨rfl, hq⟩
  have z9 := hq.size
  replace p10 := cell_later p10 hq
  replace p11 := cell_later p11 hq
  replace p12 := cell_later p12 hq
  replace p20 := cell_later p20 hq
  replace p21 := cell_later p21 hq
  replace p22 := cell_later p22 hq
  replace p30 := cell_later p30 hq
  replace p31 := cell_later p31 hq
  replace p32 := cell_later p32 hq
  replace p40 := cell_later p40 hq
  replace p41 := cell_later p41 hq
  replace p42 := cell_later p42 hq
  replace O2 := O2.below hq O2.le
  replace O3 := O3.below hq O3.le
  replace O4 := O4.below hq O4.le
  replace hbel := bthen hbel hq
  clear hq
  go_wp2_with fail
  refine (laws_markCylinder O4 (by omega) (by omega)).mono ?_
  rintro e wx10 ⟨rfl, O4, hq⟩
  have z10 := hq.size
  replace p10 := (hq.cell (World.block_lt_of_cell? _ _ p10) (by simp only; omega)).trans p10
  replace p11 := (hq.cell (World.block_lt_of_cell? _ _ p11) (by simp only; omega)).trans p11
  replace p12 := (hq.cell (World.block_lt_of_cell? _ _ p12) (by simp only; omega)).trans p12
  replace p20 := (hq.cell (World.block_lt_of_cell? _ _ p20) (by simp only; omega)).trans p20
  replace p21 := (hq.cell (World.block_lt_of_cell? _ _ p21) (by simp only; omega)).trans p21
  replace p22 := (hq.cell (World.block_lt_of_cell? _ _ p22) (by simp only; omega)).trans p22
  replace p30 := (hq.cell (World.block_lt_of_cell? _ _ p30) (by simp only; omega)).trans p30
  replace p31 := (hq.cell (World.block_lt_of_cell? _ _ p31) (by simp only; omega)).trans p31
  replace p32 := (hq.cell (World.block_lt_of_cell? _ _ p32) (by simp only; omega)).trans p32
  replace p40 := (hq.cell (World.block_lt_of_cell? _ _ p40) (by simp only; omega)).trans p40
  replace p41 := (hq.cell (World.block_lt_of_cell? _ _ p41) (by simp only; omega)).trans p41
  replace p42 := (hq.cell (World.block_lt_of_cell? _ _ p42) (by simp only; omega)).trans p42
  replace O2 := O2.kept hq (by omega)
  replace O3 := O3.kept hq (by omega)
  replace hbel := hbel.trans (hq.below (by omega) (by omega))
  clear hq
  go_wp2_with fail
  refine (laws_heldCylinder O4.reads (by omega) (by omega)).mono ?_
  rintro e wx11 ⟨rfl, hq⟩
  have z11 := hq.size
  replace p10 := cell_later p10 hq
  replace p11 := cell_later p11 hq
  replace p12 := cell_later p12 hq
  replace p20 := cell_later p20 hq
  replace p21 := cell_later p21 hq
  replace p22 := cell_later p22 hq
  replace p30 := cell_later p30 hq
  replace p31 := cell_later p31 hq
  replace p32 := cell_later p32 hq
  replace p40 := cell_later p40 hq
  replace p41 := cell_later p41 hq
  replace p42 := cell_later p42 hq
  replace O2 := O2.below hq O2.le
  replace O3 := O3.below hq O3.le
  replace O4 := O4.below hq O4.le
  replace hbel := bthen hbel hq
  clear hq
  go_wp2_with fail
  refine (laws_toCylinder (R0.below hbel)).mono ?_
  rintro e wx12 ⟨B5, d5, rfl, O5, hq⟩
  have z12 := hq.size
  replace p10 := cell_later p10 hq
  replace p11 := cell_later p11 hq
  replace p12 := cell_later p12 hq
  replace p20 := cell_later p20 hq
  replace p21 := cell_later p21 hq
  replace p22 := cell_later p22 hq
  replace p30 := cell_later p30 hq
  replace p31 := cell_later p31 hq
  replace p32 := cell_later p32 hq
  replace p40 := cell_later p40 hq
  replace p41 := cell_later p41 hq
  replace p42 := cell_later p42 hq
  replace O2 := O2.below hq O2.le
  replace O3 := O3.below hq O3.le
  replace O4 := O4.below hq O4.le
  replace hbel := bthen hbel hq
  clear hq
  go_wp2_with fail
  refine (impl_PullPin O5.reads O5.capC).mono ?_
  rintro e wx13 ⟨B6, d6, rfl, O6, hq⟩
  have z13 := hq.size
  replace p10 := cell_later p10 hq
  replace p11 := cell_later p11 hq
  replace p12 := cell_later p12 hq
  replace p20 := cell_later p20 hq
  replace p21 := cell_later p21 hq
  replace p22 := cell_later p22 hq
  replace p30 := cell_later p30 hq
  replace p31 := cell_later p31 hq
  replace p32 := cell_later p32 hq
  replace p40 := cell_later p40 hq
  replace p41 := cell_later p41 hq
  replace p42 := cell_later p42 hq
  replace O2 := O2.below hq O2.le
  replace O3 := O3.below hq O3.le
  replace O4 := O4.below hq O4.le
  replace O5 := O5.below hq O5.le
  replace hbel := bthen hbel hq
  clear hq
  clear O5
  have hqp := bnew (Below.refl wx13.heap.size wx13) (.cells #[.int .i64 a0, .int .i64 b0, .slice B6 (pullL a0 b0 l0 a1).length d6] 28)
  have yp10 := cell_later p10 hqp
  have yp11 := cell_later p11 hqp
  have yp12 := cell_later p12 hqp
  have yp20 := cell_later p20 hqp
  have yp21 := cell_later p21 hqp
  have yp22 := cell_later p22 hqp
  have yp30 := cell_later p30 hqp
  have yp31 := cell_later p31 hqp
  have yp32 := cell_later p32 hqp
  have yp40 := cell_later p40 hqp
  have yp41 := cell_later p41 hqp
  have yp42 := cell_later p42 hqp
  clear hqp
  go_wp2_with fail
  clear yp10 yp11 yp12 yp20 yp21 yp22 yp30 yp31 yp32 yp40 yp41 yp42
  generalize hW : World.alloc wx13 _ = wb5
  obtain ⟨hq, zb5, p50, p51, p52⟩ := new3c hW
  clear hW
  replace p10 := cell_later p10 hq
  replace p11 := cell_later p11 hq
  replace p12 := cell_later p12 hq
  replace p20 := cell_later p20 hq
  replace p21 := cell_later p21 hq
  replace p22 := cell_later p22 hq
  replace p30 := cell_later p30 hq
  replace p31 := cell_later p31 hq
  replace p32 := cell_later p32 hq
  replace p40 := cell_later p40 hq
  replace p41 := cell_later p41 hq
  replace p42 := cell_later p42 hq
  replace O2 := O2.below hq O2.le
  replace O3 := O3.below hq O3.le
  replace O4 := O4.below hq O4.le
  replace O6 := O6.below hq O6.le
  replace hbel := bthen hbel hq
  clear hq
  refine (laws_eqCylinder O6.reads O2.reads).mono ?_
  rintro e wx14 ⟨rfl, hq⟩
  have z14 := hq.size
  replace p10 := cell_later p10 hq
  replace p11 := cell_later p11 hq
  replace p12 := cell_later p12 hq
  replace p20 := cell_later p20 hq
  replace p21 := cell_later p21 hq
  replace p22 := cell_later p22 hq
  replace p30 := cell_later p30 hq
  replace p31 := cell_later p31 hq
  replace p32 := cell_later p32 hq
  replace p40 := cell_later p40 hq
  replace p41 := cell_later p41 hq
  replace p42 := cell_later p42 hq
  replace p50 := cell_later p50 hq
  replace p51 := cell_later p51 hq
  replace p52 := cell_later p52 hq
  replace O2 := O2.below hq O2.le
  replace O3 := O3.below hq O3.le
  replace O4 := O4.below hq O4.le
  replace O6 := O6.below hq O6.le
  replace hbel := bthen hbel hq
  clear hq
  go_wp2_with fail
  refine (laws_heldCylinder O4.reads (by omega) (by omega)).mono ?_
  rintro e wx15 ⟨rfl, hq⟩
  have z15 := hq.size
  replace p10 := cell_later p10 hq
  replace p11 := cell_later p11 hq
  replace p12 := cell_later p12 hq
  replace p20 := cell_later p20 hq
  replace p21 := cell_later p21 hq
  replace p22 := cell_later p22 hq
  replace p30 := cell_later p30 hq
  replace p31 := cell_later p31 hq
  replace p32 := cell_later p32 hq
  replace p40 := cell_later p40 hq
  replace p41 := cell_later p41 hq
  replace p42 := cell_later p42 hq
  replace p50 := cell_later p50 hq
  replace p51 := cell_later p51 hq
  replace p52 := cell_later p52 hq
  replace O2 := O2.below hq O2.le
  replace O3 := O3.below hq O3.le
  replace O4 := O4.below hq O4.le
  replace O6 := O6.below hq O6.le
  replace hbel := bthen hbel hq
  clear hq
  go_wp2
  go_ret
  exact ⟨rfl, hbel⟩

set_option maxRecDepth 100000 in
theorem lifted (os : Os) (started : os.Started) (H : Type) (enc : TypeId × Value → H) :
    ReturnsInHanded {} Try.checked os 3 .any (Rows.fnExactPullPinSpec.pre6 enc Try.prog Try.f3 Rows.fnExactPullPinRow.domain false) (Rows.fnExactPullPinSpec.post enc Try.prog Try.f3 false true false false) := by
  refine returnsInHanded_of_change (C := Try.checked) Try_own started (by kernel_rfl) Try.func3
    (ChangeSpec.witness6 (enc := enc) (C := Try.checked) false ⟨#[], #[.agg #[.int .i64 0, .int .i64 0, .slice none 0 0], .int .i64 0], []⟩ 8 (by kernel_rfl) (by kernel_rfl) (by kernel_rfl) (by kernel_rfl)) ?_
  intro W base args ds gs before hval0 hW hcnd _
  have hval : ∀ (j : Nat) t v, Try.f3.params[j]? = some t → args[j]? = some v → Value.okWide Try.prog W .any base t v := hval0
  have hW' := hW
  obtain ⟨p, q, hA0, hV, rfl, hfz, hnd⟩ := hW
  have hA : DataW.TrodAll enc Try.prog W 0 (fun _ => true) true Try.f3.params.toList args.toList ds p := hA0
  rw [Try.params3] at hA hval
  obtain ⟨v0, vs0, d0, ds0, p0, q0, hargs, rfl, rfl, h0, r0⟩ := trodAll_cons hA
  obtain ⟨v1, vs1, d1, ds1, p1, q1, rfl, rfl, rfl, h1, r1⟩ := trodAll_cons r0
  obtain ⟨rfl, rfl, rfl⟩ := trodAll_nil r1
  obtain rfl : args = #[v0, v1] := by cases args; simp_all
  obtain ⟨rfl, rfl⟩ := trodVars_none hV
  have k0 := h0
  have lt0 : ∀ x ∈ p0, x.block < W.heap.size := by obtain ⟨m, hm⟩ := k0; exact DataW.trod_lt m _ _ _ hm
  obtain ⟨a0, b0, A0, c0, l0, rfl, cm0, cl0, rd0⟩ := open_cyl_arg Try.underlying24 (by kernel_rfl) (by kernel_rfl) Try.underlying3 Try.underlying3 Try.underlying22 Try.underlying37 (by kernel_rfl) rfl rfl rfl rfl (by kernel_rfl) (by kernel_rfl) Try.underlying3 Try.underlying3 (hval 0 24 v0 rfl rfl) h0
  obtain ⟨a1, rfl, rfl, rfl, w1⟩ := open_int Try.underlying3 (hval 1 3 v1 rfl rfl) h1
  clear hA0 hval0
  refine (walk W a0 b0 A0 c0 l0 cm0 cl0 rd0 a1 w1).mono fun e W' ⟨he, bel⟩ => ?_
  subst he
  exact ⟨_, rfl, _, _, _, [], _, [], hW', trodAll_mk1 (shut_bool Try.underlying4 _), (trodAll_cons_mk (Below.trod Try_laidOut (by kernel_rfl) (of_decide_eq_true (by kernel_rfl)) k0 bel lt0) (trodAll_cons_mk (shut_int Try.underlying3 w1) trodAll_mk0)), rfl, bel.frame _, fun h => by cases h⟩

theorem over : Rows.fnExactPullPinRow.holds Try.pinned (OpenSpec.ofChange Rows.fnExactPullPinSpec) :=
  OpenClaim.holds_of_wide 3 Try.f3 rfl rfl rfl rfl rfl rfl rfl ⟨rfl, rfl, rfl, rfl, rfl⟩ rfl rfl rfl rfl rfl (by kernel_rfl) Try.func3 (by kernel_rfl)
    (of_decide_eq_true (by kernel_rfl)) (by unfold Func.isWrapper; first | (rw [if_pos (by decide +kernel)]; kernel_rfl) | (rw [if_neg (by decide +kernel)]; exact ⟨rfl, rfl⟩))
    (fun os started H enc _ => lifted os started H enc)

theorem proved : Rows.FnExactPullPinSaid := over
end Go.Proofs.Ytpffdabpmfmimaa.lawPullPin
