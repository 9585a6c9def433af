/- Whatever the arguments, up to the law's own bound of 2^20 = 1048576 elements (beyond it the law answers true without looking), the program's SameTune returns what the reference's returns, leaves its arguments as they were, and shares no memory with them. There are no other conditions. -/
import Derived.Test.YtfihipbjgjelfaaFrame
import Derived.Test.YtfihipbjgjelfaaTuneS
import Derived.Test.YtfihipbjgjelfaaTuneW
namespace Go.Proofs.Ytfihipbjgjelfaa.lawSameTune
open Go.ChangeShapes Go.WideShapes Go.ChangeAt Go.RowKit
open Go.ChangeMaps (open_string shut_string)
set_option linter.unusedVariables false

set_option maxHeartbeats 1000000 in
theorem walk (w : World) (A0 : Option Addr) (c0 : Nat) (l0 : List (Int × Int)) (cm0 : c0 ≤ maxLen) (cl0 : l0.length ≤ c0) (rd0 : 0 < l0.length → ∃ b off, A0 = some ⟨b, off, none⟩ ∧ PairsAt w b off l0) (A1 : Option Addr) (c1 : Nat) (l1 : List (Int × Int)) (cm1 : c1 ≤ maxLen) (cl1 : l1.length ≤ c1) (rd1 : 0 < l1.length → ∃ b off, A1 = some ⟨b, off, none⟩ ∧ PairsAt w b off l1) :
    Calls Try.prog 4 #[.slice A0 l0.length c0, .slice A1 l1.length c1] w fun e w' => e = .returned (.bool true) ∧ Below w.heap.size w w' := by
  have cm0' := cm0; unfold maxLen at cm0
  have cm1' := cm1; unfold maxLen at cm1
  by_cases zz : 1048576 < l0.length
  · go_enter Try.func4, Try.ntmps4
    go_wp2_with (first | (go_at_call 24; refine (laws_szNoteS_yes (by omega) (by omega)).mono ?_; rintro e w' ⟨rfl, rfl⟩) | (go_at_call 24; refine (laws_szNoteS_no (by omega) (by omega) (by omega) (by omega)).mono ?_; rintro e w' ⟨rfl, rfl⟩))
    go_ret
    exact ⟨rfl, Below.refl _ _⟩
  by_cases zz : 1048576 < l0.length + l1.length
  · go_enter Try.func4, Try.ntmps4
    go_wp2_with (first | (go_at_call 24; refine (laws_szNoteS_yes (by omega) (by omega)).mono ?_; rintro e w' ⟨rfl, rfl⟩) | (go_at_call 24; refine (laws_szNoteS_no (by omega) (by omega) (by omega) (by omega)).mono ?_; rintro e w' ⟨rfl, rfl⟩))
    go_ret
    exact ⟨rfl, Below.refl _ _⟩
  have R0 : RP w A0 l0 := ⟨by omega, rd0⟩
  clear rd0
  have R1 : RP w A1 l1 := ⟨by omega, rd1⟩
  clear rd1
  have hbel := Below.refl w.heap.size w
  go_enter Try.func4, Try.ntmps4
  go_wp2_with (first | (go_at_call 24; refine (laws_szNoteS_yes (by omega) (by omega)).mono ?_; rintro e w' ⟨rfl, rfl⟩))
  refine (laws_toNoteS (R0.below hbel)).mono ?_
  rintro e wx1 ⟨B1, d1, rfl, O1, hq⟩
  have z1 := hq.size
  replace hbel := bthen hbel hq
  clear hq
  go_wp2_with fail
  refine (laws_toNoteS (R1.below hbel)).mono ?_
  rintro e wx2 ⟨B2, d2, rfl, O2, hq⟩
  have z2 := hq.size
  replace O1 := O1.below hq O1.le
  replace hbel := bthen hbel hq
  clear hq
  go_wp2_with fail
  refine (spec_SameTune O1.reads O2.reads).mono ?_
  rintro e wx3 ⟨rfl, hq⟩
  have z3 := hq.size
  replace O1 := O1.below hq O1.le
  replace O2 := O2.below hq O2.le
  replace hbel := bthen hbel hq
  clear hq
  go_wp2_with fail
  refine (laws_toNoteS (R0.below hbel)).mono ?_
  rintro e wx4 ⟨B3, d3, rfl, O3, hq⟩
  have z4 := hq.size
  replace O1 := O1.below hq O1.le
  replace O2 := O2.below hq O2.le
  replace hbel := bthen hbel hq
  clear hq
  go_wp2_with fail
  refine (laws_toNoteS (R1.below hbel)).mono ?_
  rintro e wx5 ⟨B4, d4, rfl, O4, hq⟩
  have z5 := hq.size
  replace O1 := O1.below hq O1.le
  replace O2 := O2.below hq O2.le
  replace O3 := O3.below hq O3.le
  replace hbel := bthen hbel hq
  clear hq
  go_wp2_with fail
  refine (impl_SameTune O3.reads O4.reads).mono ?_
  rintro e wx6 ⟨rfl, hq⟩
  have z6 := hq.size
  replace O1 := O1.below hq O1.le
  replace O2 := O2.below hq O2.le
  replace O3 := O3.below hq O3.le
  replace O4 := O4.below hq O4.le
  replace hbel := bthen hbel hq
  clear hq
  go_wp2_with fail
  refine (laws_toNoteS (R0.below hbel)).mono ?_
  rintro e wx7 ⟨B5, d5, rfl, O5, hq⟩
  have z7 := hq.size
  replace O1 := O1.below hq O1.le
  replace O2 := O2.below hq O2.le
  replace O3 := O3.below hq O3.le
  replace O4 := O4.below hq O4.le
  replace hbel := bthen hbel hq
  clear hq
  go_wp2_with fail
  refine (laws_eqNoteS O3.reads O5.reads).mono ?_
  rintro e wx8 ⟨rfl, hq⟩
  have z8 := hq.size
  replace O1 := O1.below hq O1.le
  replace O2 := O2.below hq O2.le
  replace O3 := O3.below hq O3.le
  replace O4 := O4.below hq O4.le
  replace O5 := O5.below hq O5.le
  replace hbel := bthen hbel hq
  clear hq
  go_wp2_with fail
  refine (laws_toNoteS (R1.below hbel)).mono ?_
  rintro e wx9 ⟨B6, d6, rfl, O6, hq⟩
  have z9 := hq.size
  replace O1 := O1.below hq O1.le
  replace O2 := O2.below hq O2.le
  replace O3 := O3.below hq O3.le
  replace O4 := O4.below hq O4.le
  replace hbel := bthen hbel hq
  clear hq
  go_wp2_with fail
  refine (laws_eqNoteS O4.reads O6.reads).mono ?_
  rintro e wx10 ⟨rfl, hq⟩
  have z10 := hq.size
  replace O1 := O1.below hq O1.le
  replace O2 := O2.below hq O2.le
  replace O3 := O3.below hq O3.le
  replace O4 := O4.below hq O4.le
  replace O6 := O6.below hq O6.le
  replace hbel := bthen hbel hq
  clear hq
  go_wp2
  go_ret
  exact ⟨rfl, hbel⟩

set_option maxRecDepth 100000 in
theorem lifted (os : Os) (started : os.Started) (H : Type) (enc : TypeId × Value → H) :
    ReturnsInHanded {} Try.checked os 4 .any (Rows.fnExactSameTuneSpec.pre6 enc Try.prog Try.f4 Rows.fnExactSameTuneRow.domain false) (Rows.fnExactSameTuneSpec.post enc Try.prog Try.f4 false true false false) := by
  refine returnsInHanded_of_change (C := Try.checked) Try_own started (by kernel_rfl) Try.func4
    (ChangeSpec.witness6 (enc := enc) (C := Try.checked) false ⟨#[], #[.slice none 0 0, .slice none 0 0], []⟩ 8 (by kernel_rfl) (by kernel_rfl) (by kernel_rfl) (by kernel_rfl)) ?_
  intro W base args ds gs before hval0 hW hcnd _
  have hval : ∀ (j : Nat) t v, Try.f4.params[j]? = some t → args[j]? = some v → Value.okWide Try.prog W .any base t v := hval0
  have hW' := hW
  obtain ⟨p, q, hA0, hV, rfl, hfz, hnd⟩ := hW
  have hA : DataW.TrodAll enc Try.prog W 0 (fun _ => true) true Try.f4.params.toList args.toList ds p := hA0
  rw [Try.params4] at hA hval
  obtain ⟨v0, vs0, d0, ds0, p0, q0, hargs, rfl, rfl, h0, r0⟩ := trodAll_cons hA
  obtain ⟨v1, vs1, d1, ds1, p1, q1, rfl, rfl, rfl, h1, r1⟩ := trodAll_cons r0
  obtain ⟨rfl, rfl, rfl⟩ := trodAll_nil r1
  obtain rfl : args = #[v0, v1] := by cases args; simp_all
  obtain ⟨rfl, rfl⟩ := trodVars_none hV
  obtain ⟨A0, n0, c0, rfl⟩ := okWide_slice Try.underlying35 (hval 0 35 v0 rfl rfl)
  have k0 := h0
  have lt0 : ∀ x ∈ p0, x.block < W.heap.size := by obtain ⟨m, hm⟩ := k0; exact DataW.trod_lt m _ _ _ hm
  obtain ⟨l0, rfl, cm0, cl0, rd0⟩ := open_pairs_arg Try.underlying35 Try.underlying71 (by kernel_rfl) rfl rfl rfl rfl (by kernel_rfl) (by kernel_rfl) Try.underlying3 Try.underlying3 h0
  obtain ⟨A1, n1, c1, rfl⟩ := okWide_slice Try.underlying35 (hval 1 35 v1 rfl rfl)
  have k1 := h1
  have lt1 : ∀ x ∈ p1, x.block < W.heap.size := by obtain ⟨m, hm⟩ := k1; exact DataW.trod_lt m _ _ _ hm
  obtain ⟨l1, rfl, cm1, cl1, rd1⟩ := open_pairs_arg Try.underlying35 Try.underlying71 (by kernel_rfl) rfl rfl rfl rfl (by kernel_rfl) (by kernel_rfl) Try.underlying3 Try.underlying3 h1
  clear hA0 hval0
  refine (walk W A0 c0 l0 cm0 cl0 rd0 A1 c1 l1 cm1 cl1 rd1).mono fun e W' ⟨he, bel⟩ => ?_
  subst he
  exact ⟨_, rfl, _, _, _, [], _, [], hW', trodAll_mk1 (shut_bool Try.underlying4 _), (trodAll_cons_mk (Below.trod Try_laidOut (by kernel_rfl) (of_decide_eq_true (by kernel_rfl)) k0 bel lt0) (trodAll_cons_mk (Below.trod Try_laidOut (by kernel_rfl) (of_decide_eq_true (by kernel_rfl)) k1 bel lt1) trodAll_mk0)), rfl, bel.frame _, fun h => by cases h⟩

theorem over : Rows.fnExactSameTuneRow.holds Try.pinned (OpenSpec.ofChange Rows.fnExactSameTuneSpec) :=
  OpenClaim.holds_of_wide 4 Try.f4 rfl rfl rfl rfl rfl rfl rfl ⟨rfl, rfl, rfl, rfl, rfl⟩ rfl rfl rfl rfl rfl (by kernel_rfl) Try.func4 (by kernel_rfl)
    (of_decide_eq_true (by kernel_rfl)) (by unfold Func.isWrapper; first | (rw [if_pos (by decide +kernel)]; kernel_rfl) | (rw [if_neg (by decide +kernel)]; exact ⟨rfl, rfl⟩))
    (fun os started H enc _ => lifted os started H enc)

theorem proved : Rows.FnExactSameTuneSaid := over
end Go.Proofs.Ytfihipbjgjelfaa.lawSameTune
