/- Whatever the arguments, up to the law's own bound of 2^20 = 1048576 elements (beyond it the law answers true without looking), the program's CylinderOf returns what the reference's returns, leaves its arguments as they were, and shares no memory with them. There are no other conditions. -/
import Derived.Test.YtkipgjllgmjipaaFrame
import Derived.Deep.RegionHeld3
import Derived.Test.YtkipgjllgmjipaaSame
import Derived.Test.YtkipgjllgmjipaaCylB
import Derived.Test.YtkipgjllgmjipaaCylOk
import Derived.Test.YtkipgjllgmjipaaTuneW
import Derived.Test.YtkipgjllgmjipaaIntS
import Derived.Test.YtkipgjllgmjipaaCof
namespace Go.Proofs.Ytkipgjllgmjipaa.lawCylinderOf
open Go.ChangeShapes Go.WideShapes Go.ChangeAt Go.RowKit
open Go.ChangeMaps (open_string shut_string)
set_option linter.unusedVariables false

set_option maxHeartbeats 8000000 in
theorem walk (w : World) (A0 : Option Addr) (c0 : Nat) (l0 : List (Int × Int)) (cm0 : c0 ≤ maxLen) (cl0 : l0.length ≤ c0) (rd0 : 0 < l0.length → ∃ b off, A0 = some ⟨b, off, none⟩ ∧ PairsAt w b off l0) (A1 : Option Addr) (c1 : Nat) (l1 : List Int) (cm1 : c1 ≤ maxLen) (cl1 : l1.length ≤ c1) (rd1 : 0 < l1.length → ∃ b off, A1 = some ⟨b, off, none⟩ ∧ IntsAt w b off l1) (a2 : Int) (w2 : (Lit.int .i64 a2).wf = true) (a3 : Int) (w3 : (Lit.int .i64 a3).wf = true) :
    Calls Try.prog 14 #[.slice A0 l0.length c0, .slice A1 l1.length c1, .int .i64 a2, .int .i64 a3] w fun e w' => e = .returned (.bool true) ∧ Below w.heap.size w w' := by
  have cm0' := cm0; unfold maxLen at cm0
  have cm1' := cm1; unfold maxLen at cm1
  by_cases zz1 : 1048576 < l1.length
  · go_enter Try.func14, Try.ntmps14
    go_wp2
    go_ret
    exact ⟨rfl, Below.refl _ _⟩
  by_cases zz0 : 1048576 < l0.length
  · go_enter Try.func14, Try.ntmps14
    go_wp2_with fail
    refine (calls_same (laws_szNoteS_no (by omega) (by omega) (by omega) (by omega))).mono ?_
    rintro e u ⟨rfl, hu⟩
    go_wp2
    go_ret
    exact ⟨rfl, bthen (Below.refl _ _) hu⟩
  have R0 : RP w A0 l0 := ⟨by omega, rd0⟩
  clear rd0
  have R1 : RI w A1 l1 := ⟨by omega, rd1⟩
  clear rd1
  go_enter Try.func14, Try.ntmps14
  go_wp2_with fail
  have hbel := Below.refl w.heap.size w
  refine (calls_same (laws_szNoteS_yes (by omega) (by omega))).mono ?_
  rintro e wx1 ⟨rfl, hq⟩
  have z1 := hq.size
  replace hbel := bthen hbel hq
  clear hq
  go_wp2_with fail
  refine (laws_toNoteS (R0.below hbel)).mono ?_
  rintro e wx2 ⟨B1, d1, rfl, O1, hq⟩
  have z2 := hq.size
  replace hbel := bthen hbel hq
  clear hq
  go_wp2_with fail
  refine (laws_toIntS (R1.below hbel)).mono ?_
  rintro e wx3 ⟨B2, d2, rfl, O2, hq⟩
  have z3 := hq.size
  replace O1 := O1.below hq O1.le
  replace hbel := bthen hbel hq
  clear hq
  go_wp2_with fail
  refine (spec_CylinderOf O1.reads O2.reads).mono ?_
  rintro e wx4 ⟨B3, d3, rfl, O3, hq⟩
  have z4 := hq.size
  replace O1 := O1.below hq O1.le
  replace O2 := O2.below hq O2.le
  replace hbel := bthen hbel hq
  clear hq
  clear O1
  clear O2
  go_wp2_with fail
  generalize hW : World.alloc wx4 _ = wb1
  obtain ⟨hq, zb1, p10, p11, p12⟩ := new3c hW
  clear hW
  replace O3 := O3.below hq O3.le
  replace hbel := bthen hbel hq
  clear hq
  refine (laws_toNoteS (R0.below hbel)).mono ?_
  rintro e wx5 ⟨B4, d4, rfl, O4, hq⟩
  have z5 := hq.size
  replace p10 := cell_later p10 hq
  replace p11 := cell_later p11 hq
  replace p12 := cell_later p12 hq
  replace O3 := O3.below hq O3.le
  replace hbel := bthen hbel hq
  clear hq
  go_wp2_with fail
  refine (laws_toIntS (R1.below hbel)).mono ?_
  rintro e wx6 ⟨B5, d5, rfl, O5, hq⟩
  have z6 := hq.size
  replace p10 := cell_later p10 hq
  replace p11 := cell_later p11 hq
  replace p12 := cell_later p12 hq
  replace O3 := O3.below hq O3.le
  replace O4 := O4.below hq O4.le
  replace hbel := bthen hbel hq
  clear hq
  go_wp2_with fail
  refine (impl_CylinderOf O4.reads O5.reads).mono ?_
  rintro e wx7 ⟨B6, d6, rfl, O6, hq⟩
  have z7 := hq.size
  replace p10 := cell_later p10 hq
  replace p11 := cell_later p11 hq
  replace p12 := cell_later p12 hq
  replace O3 := O3.below hq O3.le
  replace O4 := O4.below hq O4.le
  replace O5 := O5.below hq O5.le
  replace hbel := bthen hbel hq
  clear hq
  have hqp := bnew (Below.refl wx7.heap.size wx7) (.cells #[.int .i64 (cofS l0 l1 a2 a3), .int .i64 (cofT l0 l1 a2 a3), .slice B6 (cofL l0 l1 a2 a3).length d6] 53)
  have yp10 := cell_later p10 hqp
  have yp11 := cell_later p11 hqp
  have yp12 := cell_later p12 hqp
  clear hqp
  go_wp2_with fail
  clear yp10 yp11 yp12
  generalize hW : World.alloc wx7 _ = wb2
  obtain ⟨hq, zb2, p20, p21, p22⟩ := new3c hW
  clear hW
  replace p10 := cell_later p10 hq
  replace p11 := cell_later p11 hq
  replace p12 := cell_later p12 hq
  replace O3 := O3.below hq O3.le
  replace O4 := O4.below hq O4.le
  replace O5 := O5.below hq O5.le
  replace O6 := O6.below hq O6.le
  replace hbel := bthen hbel hq
  clear hq
  refine (laws_eqCylinder O6.reads O3.reads).mono ?_
  rintro e wx8 ⟨rfl, hq⟩
  have z8 := hq.size
  replace p10 := cell_later p10 hq
  replace p11 := cell_later p11 hq
  replace p12 := cell_later p12 hq
  replace p20 := cell_later p20 hq
  replace p21 := cell_later p21 hq
  replace p22 := cell_later p22 hq
  replace O3 := O3.below hq O3.le
  replace O4 := O4.below hq O4.le
  replace O5 := O5.below hq O5.le
  replace O6 := O6.below hq O6.le
  replace hbel := bthen hbel hq
  clear hq
  go_wp2_with fail
  refine (laws_toNoteS (R0.below hbel)).mono ?_
  rintro e wx9 ⟨B7, d7, rfl, O7, hq⟩
  have z9 := hq.size
  replace p10 := cell_later p10 hq
  replace p11 := cell_later p11 hq
  replace p12 := cell_later p12 hq
  replace p20 := cell_later p20 hq
  replace p21 := cell_later p21 hq
  replace p22 := cell_later p22 hq
  replace O3 := O3.below hq O3.le
  replace O4 := O4.below hq O4.le
  replace O5 := O5.below hq O5.le
  replace O6 := O6.below hq O6.le
  replace hbel := bthen hbel hq
  clear hq
  go_wp2_with fail
  refine (laws_eqNoteS O4.reads O7.reads).mono ?_
  rintro e wx10 ⟨rfl, hq⟩
  have z10 := hq.size
  replace p10 := cell_later p10 hq
  replace p11 := cell_later p11 hq
  replace p12 := cell_later p12 hq
  replace p20 := cell_later p20 hq
  replace p21 := cell_later p21 hq
  replace p22 := cell_later p22 hq
  replace O3 := O3.below hq O3.le
  replace O4 := O4.below hq O4.le
  replace O5 := O5.below hq O5.le
  replace O6 := O6.below hq O6.le
  replace O7 := O7.below hq O7.le
  replace hbel := bthen hbel hq
  clear hq
  go_wp2_with fail
  refine (laws_toIntS (R1.below hbel)).mono ?_
  rintro e wx11 ⟨B8, d8, rfl, O8, hq⟩
  have z11 := hq.size
  replace p10 := cell_later p10 hq
  replace p11 := cell_later p11 hq
  replace p12 := cell_later p12 hq
  replace p20 := cell_later p20 hq
  replace p21 := cell_later p21 hq
  replace p22 := cell_later p22 hq
  replace O3 := O3.below hq O3.le
  replace O4 := O4.below hq O4.le
  replace O5 := O5.below hq O5.le
  replace O6 := O6.below hq O6.le
  replace hbel := bthen hbel hq
  clear hq
  go_wp2_with fail
  refine (laws_eqIntS O5.reads O8.reads).mono ?_
  rintro e wx12 ⟨rfl, hq⟩
  have z12 := hq.size
  replace p10 := cell_later p10 hq
  replace p11 := cell_later p11 hq
  replace p12 := cell_later p12 hq
  replace p20 := cell_later p20 hq
  replace p21 := cell_later p21 hq
  replace p22 := cell_later p22 hq
  replace O3 := O3.below hq O3.le
  replace O4 := O4.below hq O4.le
  replace O5 := O5.below hq O5.le
  replace O6 := O6.below hq O6.le
  replace O8 := O8.below hq O8.le
  replace hbel := bthen hbel hq
  clear hq
  go_wp2_with fail
  refine (laws_markNoteS O4 (by omega) (by omega)).mono ?_
  rintro e wx13 ⟨rfl, O4, hq⟩
  have z13 := hq.size
  replace p10 := (hq.cell (World.block_lt_of_cell? _ _ p10) (by simp only; omega)).trans p10
  replace p11 := (hq.cell (World.block_lt_of_cell? _ _ p11) (by simp only; omega)).trans p11
  replace p12 := (hq.cell (World.block_lt_of_cell? _ _ p12) (by simp only; omega)).trans p12
  replace p20 := (hq.cell (World.block_lt_of_cell? _ _ p20) (by simp only; omega)).trans p20
  replace p21 := (hq.cell (World.block_lt_of_cell? _ _ p21) (by simp only; omega)).trans p21
  replace p22 := (hq.cell (World.block_lt_of_cell? _ _ p22) (by simp only; omega)).trans p22
  replace O3 := O3.kept hq (by omega)
  replace O5 := O5.kept hq (by omega)
  replace O6 := O6.kept hq (by omega)
  replace hbel := hbel.trans (hq.below (by omega) (by omega))
  clear hq
  go_wp2_with fail
  refine (laws_markIntS O5 (by omega) (by omega)).mono ?_
  rintro e wx14 ⟨rfl, O5, hq⟩
  have z14 := hq.size
  replace p10 := (hq.cell (World.block_lt_of_cell? _ _ p10) (by simp only; omega)).trans p10
  replace p11 := (hq.cell (World.block_lt_of_cell? _ _ p11) (by simp only; omega)).trans p11
  replace p12 := (hq.cell (World.block_lt_of_cell? _ _ p12) (by simp only; omega)).trans p12
  replace p20 := (hq.cell (World.block_lt_of_cell? _ _ p20) (by simp only; omega)).trans p20
  replace p21 := (hq.cell (World.block_lt_of_cell? _ _ p21) (by simp only; omega)).trans p21
  replace p22 := (hq.cell (World.block_lt_of_cell? _ _ p22) (by simp only; omega)).trans p22
  replace O3 := O3.kept hq (by omega)
  replace O4 := O4.kept hq (by omega)
  replace O6 := O6.kept hq (by omega)
  replace hbel := hbel.trans (hq.below (by omega) (by omega))
  clear hq
  go_wp2_with fail
  refine (laws_eqCylinder O6.reads O3.reads).mono ?_
  rintro e wx15 ⟨rfl, hq⟩
  have z15 := hq.size
  replace p10 := cell_later p10 hq
  replace p11 := cell_later p11 hq
  replace p12 := cell_later p12 hq
  replace p20 := cell_later p20 hq
  replace p21 := cell_later p21 hq
  replace p22 := cell_later p22 hq
  replace O3 := O3.below hq O3.le
  replace O4 := O4.below hq O4.le
  replace O5 := O5.below hq O5.le
  replace O6 := O6.below hq O6.le
  replace hbel := bthen hbel hq
  clear hq
  go_wp2_with fail
  refine (laws_markCylinder O6 (by omega) (by omega)).mono ?_
  rintro e wx16 ⟨rfl, O6, hq⟩
  have z16 := hq.size
  replace p10 := (hq.cell (World.block_lt_of_cell? _ _ p10) (by simp only; omega)).trans p10
  replace p11 := (hq.cell (World.block_lt_of_cell? _ _ p11) (by simp only; omega)).trans p11
  replace p12 := (hq.cell (World.block_lt_of_cell? _ _ p12) (by simp only; omega)).trans p12
  replace p20 := (hq.cell (World.block_lt_of_cell? _ _ p20) (by simp only; omega)).trans p20
  replace p21 := (hq.cell (World.block_lt_of_cell? _ _ p21) (by simp only; omega)).trans p21
  replace p22 := (hq.cell (World.block_lt_of_cell? _ _ p22) (by simp only; omega)).trans p22
  replace O3 := O3.kept hq (by omega)
  replace O4 := O4.kept hq (by omega)
  replace O5 := O5.kept hq (by omega)
  replace hbel := hbel.trans (hq.below (by omega) (by omega))
  clear hq
  go_wp2_with fail
  refine (laws_heldCylinder O6.reads (by omega) (by omega)).mono ?_
  rintro e wx17 ⟨rfl, hq⟩
  have z17 := hq.size
  replace p10 := cell_later p10 hq
  replace p11 := cell_later p11 hq
  replace p12 := cell_later p12 hq
  replace p20 := cell_later p20 hq
  replace p21 := cell_later p21 hq
  replace p22 := cell_later p22 hq
  replace O3 := O3.below hq O3.le
  replace O4 := O4.below hq O4.le
  replace O5 := O5.below hq O5.le
  replace O6 := O6.below hq O6.le
  replace hbel := bthen hbel hq
  clear hq
  go_wp2_with fail
  refine (laws_toNoteS (R0.below hbel)).mono ?_
  rintro e wx18 ⟨B9, d9, rfl, O9, hq⟩
  have z18 := hq.size
  replace p10 := cell_later p10 hq
  replace p11 := cell_later p11 hq
  replace p12 := cell_later p12 hq
  replace p20 := cell_later p20 hq
  replace p21 := cell_later p21 hq
  replace p22 := cell_later p22 hq
  replace O3 := O3.below hq O3.le
  replace O4 := O4.below hq O4.le
  replace O5 := O5.below hq O5.le
  replace O6 := O6.below hq O6.le
  replace hbel := bthen hbel hq
  clear hq
  go_wp2_with fail
  refine (laws_toIntS (R1.below hbel)).mono ?_
  rintro e wx19 ⟨B10, d10, rfl, O10, hq⟩
  have z19 := hq.size
  replace p10 := cell_later p10 hq
  replace p11 := cell_later p11 hq
  replace p12 := cell_later p12 hq
  replace p20 := cell_later p20 hq
  replace p21 := cell_later p21 hq
  replace p22 := cell_later p22 hq
  replace O3 := O3.below hq O3.le
  replace O4 := O4.below hq O4.le
  replace O5 := O5.below hq O5.le
  replace O6 := O6.below hq O6.le
  replace O9 := O9.below hq O9.le
  replace hbel := bthen hbel hq
  clear hq
  go_wp2_with fail
  refine (impl_CylinderOf O9.reads O10.reads).mono ?_
  rintro e wx20 ⟨B11, d11, rfl, O11, hq⟩
  have z20 := hq.size
  replace p10 := cell_later p10 hq
  replace p11 := cell_later p11 hq
  replace p12 := cell_later p12 hq
  replace p20 := cell_later p20 hq
  replace p21 := cell_later p21 hq
  replace p22 := cell_later p22 hq
  replace O3 := O3.below hq O3.le
  replace O4 := O4.below hq O4.le
  replace O5 := O5.below hq O5.le
  replace O6 := O6.below hq O6.le
  replace O9 := O9.below hq O9.le
  replace O10 := O10.below hq O10.le
  replace hbel := bthen hbel hq
  clear hq
  clear O9
  clear O10
  have hqp := bnew (Below.refl wx20.heap.size wx20) (.cells #[.int .i64 (cofS l0 l1 a2 a3), .int .i64 (cofT l0 l1 a2 a3), .slice B11 (cofL l0 l1 a2 a3).length d11] 53)
  have yp10 := cell_later p10 hqp
  have yp11 := cell_later p11 hqp
  have yp12 := cell_later p12 hqp
  have yp20 := cell_later p20 hqp
  have yp21 := cell_later p21 hqp
  have yp22 := cell_later p22 hqp
  clear hqp
  go_wp2_with fail
  clear yp10 yp11 yp12 yp20 yp21 yp22
  generalize hW : World.alloc wx20 _ = wb3
  obtain ⟨hq, zb3, p30, p31, p32⟩ := new3c hW
  clear hW
  replace p10 := cell_later p10 hq
  replace p11 := cell_later p11 hq
  replace p12 := cell_later p12 hq
  replace p20 := cell_later p20 hq
  replace p21 := cell_later p21 hq
  replace p22 := cell_later p22 hq
  replace O3 := O3.below hq O3.le
  replace O4 := O4.below hq O4.le
  replace O5 := O5.below hq O5.le
  replace O6 := O6.below hq O6.le
  replace O11 := O11.below hq O11.le
  replace hbel := bthen hbel hq
  clear hq
  refine (laws_eqCylinder O11.reads O3.reads).mono ?_
  rintro e wx21 ⟨rfl, hq⟩
  have z21 := hq.size
  replace p10 := cell_later p10 hq
  replace p11 := cell_later p11 hq
  replace p12 := cell_later p12 hq
  replace p20 := cell_later p20 hq
  replace p21 := cell_later p21 hq
  replace p22 := cell_later p22 hq
  replace p30 := cell_later p30 hq
  replace p31 := cell_later p31 hq
  replace p32 := cell_later p32 hq
  replace O3 := O3.below hq O3.le
  replace O4 := O4.below hq O4.le
  replace O5 := O5.below hq O5.le
  replace O6 := O6.below hq O6.le
  replace O11 := O11.below hq O11.le
  replace hbel := bthen hbel hq
  clear hq
  go_wp2_with fail
  refine (laws_heldCylinder O6.reads (by omega) (by omega)).mono ?_
  rintro e wx22 ⟨rfl, hq⟩
  have z22 := hq.size
  replace p10 := cell_later p10 hq
  replace p11 := cell_later p11 hq
  replace p12 := cell_later p12 hq
  replace p20 := cell_later p20 hq
  replace p21 := cell_later p21 hq
  replace p22 := cell_later p22 hq
  replace p30 := cell_later p30 hq
  replace p31 := cell_later p31 hq
  replace p32 := cell_later p32 hq
  replace O3 := O3.below hq O3.le
  replace O4 := O4.below hq O4.le
  replace O5 := O5.below hq O5.le
  replace O6 := O6.below hq O6.le
  replace O11 := O11.below hq O11.le
  replace hbel := bthen hbel hq
  clear hq
  go_wp2
  go_ret
  exact ⟨rfl, hbel⟩

set_option maxRecDepth 100000 in
theorem lifted (os : Os) (started : os.Started) (H : Type) (enc : TypeId × Value → H) :
    ReturnsInHanded {} Try.checked os 14 .any (Rows.fnExactCylinderOfSpec.pre6 enc Try.prog Try.f14 Rows.fnExactCylinderOfRow.domain false) (Rows.fnExactCylinderOfSpec.post enc Try.prog Try.f14 false true false false) := by
  refine returnsInHanded_of_change (C := Try.checked) Try_own started (by kernel_rfl) Try.func14
    (ChangeSpec.witness6 (enc := enc) (C := Try.checked) false ⟨#[], #[.slice none 0 0, .slice none 0 0, .int .i64 0, .int .i64 0], []⟩ 8 (by kernel_rfl) (by kernel_rfl) (by kernel_rfl) (by kernel_rfl)) ?_
  intro W base args ds gs before hval0 hW hcnd _
  have hval : ∀ (j : Nat) t v, Try.f14.params[j]? = some t → args[j]? = some v → Value.okWide Try.prog W .any base t v := hval0
  have hW' := hW
  obtain ⟨p, q, hA0, hV, rfl, hfz, hnd⟩ := hW
  have hA : DataW.TrodAll enc Try.prog W 0 (fun _ => true) true Try.f14.params.toList args.toList ds p := hA0
  rw [Try.params14] at hA hval
  obtain ⟨v0, vs0, d0, ds0, p0, q0, hargs, rfl, rfl, h0, r0⟩ := trodAll_cons hA
  obtain ⟨v1, vs1, d1, ds1, p1, q1, rfl, rfl, rfl, h1, r1⟩ := trodAll_cons r0
  obtain ⟨v2, vs2, d2, ds2, p2, q2, rfl, rfl, rfl, h2, r2⟩ := trodAll_cons r1
  obtain ⟨v3, vs3, d3, ds3, p3, q3, rfl, rfl, rfl, h3, r3⟩ := trodAll_cons r2
  obtain ⟨rfl, rfl, rfl⟩ := trodAll_nil r3
  obtain rfl : args = #[v0, v1, v2, v3] := by cases args; simp_all
  obtain ⟨rfl, rfl⟩ := trodVars_none hV
  obtain ⟨A0, n0, c0, rfl⟩ := okWide_slice Try.underlying22 (hval 0 22 v0 rfl rfl)
  have k0 := h0
  have lt0 : ∀ x ∈ p0, x.block < W.heap.size := by obtain ⟨m, hm⟩ := k0; exact DataW.trod_lt m _ _ _ hm
  obtain ⟨l0, rfl, cm0, cl0, rd0⟩ := open_pairs_arg Try.underlying22 Try.underlying36 (by kernel_rfl) rfl rfl rfl rfl (by kernel_rfl) (by kernel_rfl) Try.underlying3 Try.underlying3 h0
  obtain ⟨A1, n1, c1, rfl⟩ := okWide_slice Try.underlying41 (hval 1 41 v1 rfl rfl)
  have k1 := h1
  have lt1 : ∀ x ∈ p1, x.block < W.heap.size := by obtain ⟨m, hm⟩ := k1; exact DataW.trod_lt m _ _ _ hm
  obtain ⟨l1, rfl, cm1, cl1, rd1⟩ := open_ints_arg Try.underlying41 Try.underlying3 (by kernel_rfl) h1
  obtain ⟨a2, rfl, rfl, rfl, w2⟩ := open_int Try.underlying3 (hval 2 3 v2 rfl rfl) h2
  obtain ⟨a3, rfl, rfl, rfl, w3⟩ := open_int Try.underlying3 (hval 3 3 v3 rfl rfl) h3
  clear hA0 hval0
  refine (walk W A0 c0 l0 cm0 cl0 rd0 A1 c1 l1 cm1 cl1 rd1 a2 w2 a3 w3).mono fun e W' ⟨he, bel⟩ => ?_
  subst he
  exact ⟨_, rfl, _, _, _, [], _, [], hW', trodAll_mk1 (shut_bool Try.underlying4 _), (trodAll_cons_mk (Below.trod Try_laidOut (by kernel_rfl) (of_decide_eq_true (by kernel_rfl)) k0 bel lt0) (trodAll_cons_mk (Below.trod Try_laidOut (by kernel_rfl) (of_decide_eq_true (by kernel_rfl)) k1 bel lt1) (trodAll_cons_mk (shut_int Try.underlying3 w2) (trodAll_cons_mk (shut_int Try.underlying3 w3) trodAll_mk0)))), rfl, bel.frame _, fun h => by cases h⟩

theorem over : Rows.fnExactCylinderOfRow.holds Try.pinned (OpenSpec.ofChange Rows.fnExactCylinderOfSpec) :=
  OpenClaim.holds_of_wide 14 Try.f14 rfl rfl rfl rfl rfl rfl rfl ⟨rfl, rfl, rfl, rfl, rfl⟩ rfl rfl rfl rfl rfl (by kernel_rfl) Try.func14 (by kernel_rfl)
    (of_decide_eq_true (by kernel_rfl)) (by unfold Func.isWrapper; first | (rw [if_pos (by decide +kernel)]; kernel_rfl) | (rw [if_neg (by decide +kernel)]; exact ⟨rfl, rfl⟩))
    (fun os started H enc _ => lifted os started H enc)

theorem proved : Rows.FnExactCylinderOfSaid := over
end Go.Proofs.Ytkipgjllgmjipaa.lawCylinderOf
