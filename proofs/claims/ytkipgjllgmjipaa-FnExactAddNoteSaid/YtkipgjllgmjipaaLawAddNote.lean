/- Whatever the arguments, up to the law's own bound of 2^20 = 1048576 elements (beyond it the law answers true without looking), the program's AddNote returns what the reference's returns, leaves its arguments as they were, and shares no memory with them. There are no other conditions. -/
import Derived.Test.YtkipgjllgmjipaaFrame
import Derived.Deep.RegionHeld3
import Derived.Test.YtkipgjllgmjipaaAddW
import Derived.Test.YtkipgjllgmjipaaTuneW
namespace Go.Proofs.Ytkipgjllgmjipaa.lawAddNote
open Go.ChangeShapes Go.WideShapes Go.ChangeAt Go.RowKit
open Go.ChangeMaps (open_string shut_string)
set_option linter.unusedVariables false

set_option maxHeartbeats 8000000 in
theorem walk (w : World) (A0 : Option Addr) (c0 : Nat) (l0 : List (Int × Int)) (cm0 : c0 ≤ maxLen) (cl0 : l0.length ≤ c0) (rd0 : 0 < l0.length → ∃ b off, A0 = some ⟨b, off, none⟩ ∧ PairsAt w b off l0) (a1 b1 : Int) :
    Calls Try.prog 10 #[.slice A0 l0.length c0, .agg #[.int .i64 a1, .int .i64 b1]] w fun e w' => e = .returned (.bool true) ∧ Below w.heap.size w w' := by
  have cm0' := cm0; unfold maxLen at cm0
  by_cases zz0 : 1048576 < l0.length
  · go_enter Try.func10, Try.ntmps10
    go_wp2_with fail
    refine (calls_same (laws_szNoteS_no (by omega) (by omega) (by omega) (by omega))).mono ?_
    rintro e u ⟨rfl, hu⟩
    go_wp2
    go_ret
    exact ⟨rfl, bthen (bnew (Below.refl _ _) _) hu⟩
  have R0 : RP w A0 l0 := ⟨by omega, rd0⟩
  clear rd0
  go_enter Try.func10, Try.ntmps10
  go_wp2_with fail
  have hbel := Below.refl w.heap.size w
  generalize hW : World.alloc w _ = wb1
  obtain ⟨hq, zb1, p10, p11⟩ := new2c hW
  clear hW
  replace hbel := bthen hbel hq
  clear hq
  refine (calls_same (laws_szNoteS_yes (by omega) (by omega))).mono ?_
  rintro e wx1 ⟨rfl, hq⟩
  have z1 := hq.size
  replace p10 := cell_later p10 hq
  replace p11 := cell_later p11 hq
  replace hbel := bthen hbel hq
  clear hq
  go_wp2_with fail
  have HR : Hid (∀ W, Below wx1.heap.size wx1 W → RP W A0 l0) := fun W h => R0.below (bthen hbel h)
  have HK : Hid (∀ W, Below wx1.heap.size wx1 W → W.cell? ⟨w.heap.size, 0, none⟩ = some (.int .i64 a1) ∧ W.cell? ⟨w.heap.size, 1, none⟩ = some (.int .i64 b1) ∧ Below wx1.heap.size wx1 W) := fun W h => ⟨cell_later p10 h, cell_later p11 h, h⟩
  have hdr := (Below.refl wx1.heap.size wx1).drew
  go_region_held3 (fun W => W.cell? ⟨w.heap.size, 0, none⟩ = some (.int .i64 a1) ∧ W.cell? ⟨w.heap.size, 1, none⟩ = some (.int .i64 b1) ∧ Below wx1.heap.size wx1 W) (exact HK.out _ (by assumption)) (first
    | (go_at_call 17; refine (laws_toNoteS (HR.out _ (by assumption))).mono ?_; rintro e W7 ⟨B7, d7, rfl, O7, hq7⟩; have h7 := hdr.trans (hq7.mono hdr.size))
    | (go_at_call 35; refine (laws_toNote).mono ?_; rintro e W8 ⟨rfl, hq8⟩; have h8 := h7.trans (hq8.mono h7.size))
    | (go_at_call 34; refine (spec_AddNote (O7.below hq8 O7.le).reads).mono ?_; rintro e wx2 ⟨B1, d1, rfl, O1, hq9⟩; have hq := h8.trans (hq9.mono h8.size)))
  have z2 := hq.size
  have zz2 := h8.size
  have zy2 := hq9.size
  clear HR HK hdr h7 h8 hq7 hq8 hq9 O7
  replace p10 := cell_later p10 hq
  replace p11 := cell_later p11 hq
  replace hbel := bthen hbel hq
  clear hq
  go_wp2_with fail
  refine (laws_toNoteS (R0.below hbel)).mono ?_
  rintro e wx3 ⟨B2, d2, rfl, O2, hq⟩
  have z3 := hq.size
  replace p10 := cell_later p10 hq
  replace p11 := cell_later p11 hq
  replace O1 := O1.below hq O1.le
  replace hbel := bthen hbel hq
  clear hq
  go_wp2_with fail
  refine (laws_toNote).mono ?_
  rintro e wx4 ⟨rfl, hq⟩
  have z4 := hq.size
  replace p10 := cell_later p10 hq
  replace p11 := cell_later p11 hq
  replace O1 := O1.below hq O1.le
  replace O2 := O2.below hq O2.le
  replace hbel := bthen hbel hq
  clear hq
  go_wp2_with fail
  refine (impl_AddNote O2.reads).mono ?_
  rintro e wx5 ⟨B4, d4, rfl, O4, hq⟩
  have z5 := hq.size
  replace p10 := cell_later p10 hq
  replace p11 := cell_later p11 hq
  replace O1 := O1.below hq O1.le
  replace O2 := O2.below hq O2.le
  replace hbel := bthen hbel hq
  clear hq
  go_wp2_with fail
  refine (laws_eqNoteS O4.reads O1.reads).mono ?_
  rintro e wx6 ⟨rfl, hq⟩
  have z6 := hq.size
  replace p10 := cell_later p10 hq
  replace p11 := cell_later p11 hq
  replace O1 := O1.below hq O1.le
  replace O2 := O2.below hq O2.le
  replace O4 := O4.below hq O4.le
  replace hbel := bthen hbel hq
  clear hq
  go_wp2_with fail
  refine (laws_toNoteS (R0.below hbel)).mono ?_
  rintro e wx7 ⟨B5, d5, rfl, O5, hq⟩
  have z7 := hq.size
  replace p10 := cell_later p10 hq
  replace p11 := cell_later p11 hq
  replace O1 := O1.below hq O1.le
  replace O2 := O2.below hq O2.le
  replace O4 := O4.below hq O4.le
  replace hbel := bthen hbel hq
  clear hq
  go_wp2_with fail
  refine (laws_eqNoteS O2.reads O5.reads).mono ?_
  rintro e wx8 ⟨rfl, hq⟩
  have z8 := hq.size
  replace p10 := cell_later p10 hq
  replace p11 := cell_later p11 hq
  replace O1 := O1.below hq O1.le
  replace O2 := O2.below hq O2.le
  replace O4 := O4.below hq O4.le
  replace O5 := O5.below hq O5.le
  replace hbel := bthen hbel hq
  clear hq
  go_wp2_with fail
  refine (laws_markNoteS O2 (by omega) (by omega)).mono ?_
  rintro e wx9 ⟨rfl, O2, hq⟩
  have z9 := hq.size
  replace p10 := (hq.cell (World.block_lt_of_cell? _ _ p10) (by simp only; omega)).trans p10
  replace p11 := (hq.cell (World.block_lt_of_cell? _ _ p11) (by simp only; omega)).trans p11
  replace O1 := O1.kept hq (by omega)
  replace O4 := O4.kept hq (by omega)
  replace hbel := hbel.trans (hq.below (by omega) (by omega))
  clear hq
  go_wp2_with fail
  refine (laws_eqNoteS O4.reads O1.reads).mono ?_
  rintro e wx10 ⟨rfl, hq⟩
  have z10 := hq.size
  replace p10 := cell_later p10 hq
  replace p11 := cell_later p11 hq
  replace O1 := O1.below hq O1.le
  replace O2 := O2.below hq O2.le
  replace O4 := O4.below hq O4.le
  replace hbel := bthen hbel hq
  clear hq
  go_wp2_with fail
  refine (laws_markNoteS O4 (by omega) (by omega)).mono ?_
  rintro e wx11 ⟨rfl, O4, hq⟩
  have z11 := hq.size
  replace p10 := (hq.cell (World.block_lt_of_cell? _ _ p10) (by simp only; omega)).trans p10
  replace p11 := (hq.cell (World.block_lt_of_cell? _ _ p11) (by simp only; omega)).trans p11
  replace O1 := O1.kept hq (by omega)
  replace O2 := O2.kept hq (by omega)
  replace hbel := hbel.trans (hq.below (by omega) (by omega))
  clear hq
  go_wp2_with fail
  refine (laws_heldNoteS O4.reads (by omega) (by omega)).mono ?_
  rintro e wx12 ⟨rfl, hq⟩
  have z12 := hq.size
  replace p10 := cell_later p10 hq
  replace p11 := cell_later p11 hq
  replace O1 := O1.below hq O1.le
  replace O2 := O2.below hq O2.le
  replace O4 := O4.below hq O4.le
  replace hbel := bthen hbel hq
  clear hq
  go_wp2_with fail
  have HR : Hid (∀ W, Below wx12.heap.size wx12 W → RP W A0 l0) := fun W h => R0.below (bthen hbel h)
  have HK : Hid (∀ W, Below wx12.heap.size wx12 W → W.cell? ⟨w.heap.size, 0, none⟩ = some (.int .i64 a1) ∧ W.cell? ⟨w.heap.size, 1, none⟩ = some (.int .i64 b1) ∧ Below wx12.heap.size wx12 W) := fun W h => ⟨cell_later p10 h, cell_later p11 h, h⟩
  have hdr := (Below.refl wx12.heap.size wx12).drew
  go_region_held3 (fun W => W.cell? ⟨w.heap.size, 0, none⟩ = some (.int .i64 a1) ∧ W.cell? ⟨w.heap.size, 1, none⟩ = some (.int .i64 b1) ∧ Below wx12.heap.size wx12 W) (exact HK.out _ (by assumption)) (first
    | (go_at_call 17; refine (laws_toNoteS (HR.out _ (by assumption))).mono ?_; rintro e W7 ⟨B7, d7, rfl, O7, hq7⟩; have h7 := hdr.trans (hq7.mono hdr.size))
    | (go_at_call 35; refine (laws_toNote).mono ?_; rintro e W8 ⟨rfl, hq8⟩; have h8 := h7.trans (hq8.mono h7.size))
    | (go_at_call 36; refine (impl_AddNote (O7.below hq8 O7.le).reads).mono ?_; rintro e wx13 ⟨B6, d6, rfl, O6, hq9⟩; have hq := h8.trans (hq9.mono h8.size)))
  have z13 := hq.size
  have zz13 := h8.size
  have zy13 := hq9.size
  clear HR HK hdr h7 h8 hq7 hq8 hq9 O7
  replace p10 := cell_later p10 hq
  replace p11 := cell_later p11 hq
  replace O1 := O1.below hq O1.le
  replace O2 := O2.below hq O2.le
  replace O4 := O4.below hq O4.le
  replace hbel := bthen hbel hq
  clear hq
  go_wp2_with fail
  refine (laws_eqNoteS O6.reads O1.reads).mono ?_
  rintro e wx14 ⟨rfl, hq⟩
  have z14 := hq.size
  replace p10 := cell_later p10 hq
  replace p11 := cell_later p11 hq
  replace O1 := O1.below hq O1.le
  replace O2 := O2.below hq O2.le
  replace O4 := O4.below hq O4.le
  replace O6 := O6.below hq O6.le
  replace hbel := bthen hbel hq
  clear hq
  go_wp2_with fail
  refine (laws_heldNoteS O4.reads (by omega) (by omega)).mono ?_
  rintro e wx15 ⟨rfl, hq⟩
  have z15 := hq.size
  replace p10 := cell_later p10 hq
  replace p11 := cell_later p11 hq
  replace O1 := O1.below hq O1.le
  replace O2 := O2.below hq O2.le
  replace O4 := O4.below hq O4.le
  replace O6 := O6.below hq O6.le
  replace hbel := bthen hbel hq
  clear hq
  go_wp2
  go_ret
  exact ⟨rfl, hbel⟩

set_option maxRecDepth 100000 in
theorem lifted (os : Os) (started : os.Started) (H : Type) (enc : TypeId × Value → H) :
    ReturnsInHanded {} Try.checked os 10 .any (Rows.fnExactAddNoteSpec.pre6 enc Try.prog Try.f10 Rows.fnExactAddNoteRow.domain false) (Rows.fnExactAddNoteSpec.post enc Try.prog Try.f10 false true false false) := by
  refine returnsInHanded_of_change (C := Try.checked) Try_own started (by kernel_rfl) Try.func10
    (ChangeSpec.witness6 (enc := enc) (C := Try.checked) false ⟨#[], #[.slice none 0 0, .agg #[.int .i64 0, .int .i64 0]], []⟩ 8 (by kernel_rfl) (by kernel_rfl) (by kernel_rfl) (by kernel_rfl)) ?_
  intro W base args ds gs before hval0 hW hcnd _
  have hval : ∀ (j : Nat) t v, Try.f10.params[j]? = some t → args[j]? = some v → Value.okWide Try.prog W .any base t v := hval0
  have hW' := hW
  obtain ⟨p, q, hA0, hV, rfl, hfz, hnd⟩ := hW
  have hA : DataW.TrodAll enc Try.prog W 0 (fun _ => true) true Try.f10.params.toList args.toList ds p := hA0
  rw [Try.params10] at hA hval
  obtain ⟨v0, vs0, d0, ds0, p0, q0, hargs, rfl, rfl, h0, r0⟩ := trodAll_cons hA
  obtain ⟨v1, vs1, d1, ds1, p1, q1, rfl, rfl, rfl, h1, r1⟩ := trodAll_cons r0
  obtain ⟨rfl, rfl, rfl⟩ := trodAll_nil r1
  obtain rfl : args = #[v0, v1] := by cases args; simp_all
  obtain ⟨rfl, rfl⟩ := trodVars_none hV
  obtain ⟨A0, n0, c0, rfl⟩ := okWide_slice Try.underlying22 (hval 0 22 v0 rfl rfl)
  have k0 := h0
  have lt0 : ∀ x ∈ p0, x.block < W.heap.size := by obtain ⟨m, hm⟩ := k0; exact DataW.trod_lt m _ _ _ hm
  obtain ⟨l0, rfl, cm0, cl0, rd0⟩ := open_pairs_arg Try.underlying22 Try.underlying36 (by kernel_rfl) rfl rfl rfl rfl (by kernel_rfl) (by kernel_rfl) Try.underlying3 Try.underlying3 h0
  have k1 := h1
  have lt1 : ∀ x ∈ p1, x.block < W.heap.size := by obtain ⟨m, hm⟩ := k1; exact DataW.trod_lt m _ _ _ hm
  obtain ⟨a1, b1, rfl⟩ := open_pair_arg Try.underlying36 (by kernel_rfl) (by kernel_rfl) Try.underlying3 Try.underlying3 (hval 1 36 v1 rfl rfl) h1
  clear hA0 hval0
  refine (walk W A0 c0 l0 cm0 cl0 rd0 a1 b1).mono fun e W' ⟨he, bel⟩ => ?_
  subst he
  exact ⟨_, rfl, _, _, _, [], _, [], hW', trodAll_mk1 (shut_bool Try.underlying4 _), (trodAll_cons_mk (Below.trod Try_laidOut (by kernel_rfl) (of_decide_eq_true (by kernel_rfl)) k0 bel lt0) (trodAll_cons_mk (Below.trod Try_laidOut (by kernel_rfl) (of_decide_eq_true (by kernel_rfl)) k1 bel lt1) trodAll_mk0)), rfl, bel.frame _, fun h => by cases h⟩

theorem over : Rows.fnExactAddNoteRow.holds Try.pinned (OpenSpec.ofChange Rows.fnExactAddNoteSpec) :=
  OpenClaim.holds_of_wide 10 Try.f10 rfl rfl rfl rfl rfl rfl rfl ⟨rfl, rfl, rfl, rfl, rfl⟩ rfl rfl rfl rfl rfl (by kernel_rfl) Try.func10 (by kernel_rfl)
    (of_decide_eq_true (by kernel_rfl)) (by unfold Func.isWrapper; first | (rw [if_pos (by decide +kernel)]; kernel_rfl) | (rw [if_neg (by decide +kernel)]; exact ⟨rfl, rfl⟩))
    (fun os started H enc _ => lifted os started H enc)

theorem proved : Rows.FnExactAddNoteSaid := over
end Go.Proofs.Ytkipgjllgmjipaa.lawAddNote
