/- Whatever the arguments, up to the law's own bound of 2^20 = 1048576 elements (beyond it the law answers true without looking), the program's CombFor returns what the reference's returns, leaves its arguments as they were, and shares no memory with them. There are no other conditions. -/
import Derived.Test.YtpffdabpmfmimaaFrame
import Derived.Deep.RegionHeld3
import Derived.Test.YtpffdabpmfmimaaFrameT
import Derived.Test.YtpffdabpmfmimaaTuneSS
import Derived.Test.YtpffdabpmfmimaaCombFor
namespace Go.Proofs.Ytpffdabpmfmimaa.lawCombFor
open Go.ChangeShapes Go.WideShapes Go.ChangeAt Go.RowKit
open Go.ChangeMaps (open_string shut_string)
set_option linter.unusedVariables false

set_option maxHeartbeats 1000000 in
theorem walk (w : World) (A0 : Option Addr) (c0 : Nat) (l0 : List (List (Int × Int))) (cm0 : c0 ≤ maxLen) (cl0 : l0.length ≤ c0) (rd0 : 0 < l0.length → ∃ b off, A0 = some ⟨b, off, none⟩ ∧ SlotsW w b off l0) :
    Calls Try.prog 7 #[.slice A0 l0.length c0] w fun e w' => e = .returned (.bool true) ∧ Below w.heap.size w w' := by
  have RW0 : RTW w A0 l0 := ⟨Nat.le_trans cl0 cm0, rd0⟩
  clear rd0
  by_cases zz : 1048576 < total l0
  · go_enter Try.func7, Try.ntmps7
    go_wp2_with fail
    refine (laws_szNoteSS_no RW0 zz).mono ?_
    rintro e u ⟨rfl, hu⟩
    go_wp2
    go_ret
    exact ⟨rfl, hu⟩
  have zt0 : total l0 ≤ 1048576 := Nat.le_of_not_lt zz
  have zl0 : lenTo l0 l0.length ≤ 1048576 := Nat.le_trans (Nat.le_add_left _ _) zt0
  have R0 := RW0.strong zt0
  have hbel := Below.refl w.heap.size w
  go_enter Try.func7, Try.ntmps7
  go_wp2_with fail
  refine (laws_szNoteSS_yes RW0 zt0).mono ?_
  rintro e wx1 ⟨rfl, hq⟩
  have z1 := hq.size
  replace hbel := bthen hbel hq
  clear hq
  go_wp2_with fail
  refine (laws_toNoteSS (R0.below hbel)).mono ?_
  rintro e wx2 ⟨B1, d1, rfl, O1, hq⟩
  have z2 := hq.size
  replace hbel := bthen hbel hq
  clear hq
  go_wp2_with fail
  refine (spec_CombFor O1.reads).mono ?_
  rintro e wx3 ⟨B2, d2, rfl, O2, hq⟩
  have z3 := hq.size
  replace O1 := O1.below hq O1.le
  replace hbel := bthen hbel hq
  clear hq
  go_wp2_with fail
  refine (laws_toNoteSS (R0.below hbel)).mono ?_
  rintro e wx4 ⟨B3, d3, rfl, O3, hq⟩
  have z4 := hq.size
  replace O1 := O1.below hq O1.le
  replace O2 := O2.below hq O2.le
  replace hbel := bthen hbel hq
  clear hq
  go_wp2_with fail
  refine (impl_CombFor O3.reads).mono ?_
  rintro e wx5 ⟨B4, d4, rfl, O4, hq⟩
  have z5 := hq.size
  replace O1 := O1.below hq O1.le
  replace O2 := O2.below hq O2.le
  replace O3 := O3.below hq O3.le
  replace hbel := bthen hbel hq
  clear hq
  go_wp2_with fail
  refine (laws_eqIntS O4.reads O2.reads).mono ?_
  rintro e wx6 ⟨rfl, hq⟩
  have z6 := hq.size
  replace O1 := O1.below hq O1.le
  replace O2 := O2.below hq O2.le
  replace O3 := O3.below hq O3.le
  replace O4 := O4.below hq O4.le
  replace hbel := bthen hbel hq
  clear hq
  go_wp2_with fail
  refine (laws_toNoteSS (R0.below hbel)).mono ?_
  rintro e wx7 ⟨B5, d5, rfl, O5, hq⟩
  have z7 := hq.size
  replace O1 := O1.below hq O1.le
  replace O2 := O2.below hq O2.le
  replace O3 := O3.below hq O3.le
  replace O4 := O4.below hq O4.le
  replace hbel := bthen hbel hq
  clear hq
  go_wp2_with fail
  refine (laws_eqNoteSS O3.reads O5.reads).mono ?_
  rintro e wx8 ⟨rfl, hq⟩
  have z8 := hq.size
  replace O1 := O1.below hq O1.le
  replace O2 := O2.below hq O2.le
  replace O3 := O3.below hq O3.le
  replace O4 := O4.below hq O4.le
  replace O5 := O5.below hq O5.le
  replace hbel := bthen hbel hq
  clear hq
  go_wp2_with fail
  refine (laws_markNoteSS O3 (by omega) (by omega) zt0).mono ?_
  rintro e wx9 ⟨rfl, hq⟩
  have z9 := hq.size
  replace O1 := O1.kept hq (by omega)
  replace O2 := O2.kept hq (by omega)
  replace O4 := O4.kept hq (by omega)
  replace hbel := hbel.trans (hq.below (by omega) (by omega))
  clear hq
  go_wp2_with fail
  refine (laws_eqIntS O4.reads O2.reads).mono ?_
  rintro e wx10 ⟨rfl, hq⟩
  have z10 := hq.size
  replace O1 := O1.below hq O1.le
  replace O2 := O2.below hq O2.le
  replace O4 := O4.below hq O4.le
  replace hbel := bthen hbel hq
  clear hq
  go_wp2_with fail
  refine (laws_markIntS O4 (by omega) (by omega)).mono ?_
  rintro e wx11 ⟨rfl, O4, hq⟩
  have z11 := hq.size
  replace O1 := O1.kept hq (by omega)
  replace O2 := O2.kept hq (by omega)
  replace hbel := hbel.trans (hq.below (by omega) (by omega))
  clear hq
  go_wp2_with fail
  refine (laws_heldIntS O4.reads (by omega) (by omega)).mono ?_
  rintro e wx12 ⟨rfl, hq⟩
  have z12 := hq.size
  replace O1 := O1.below hq O1.le
  replace O2 := O2.below hq O2.le
  replace O4 := O4.below hq O4.le
  replace hbel := bthen hbel hq
  clear hq
  go_wp2_with fail
  refine (laws_toNoteSS (R0.below hbel)).mono ?_
  rintro e wx13 ⟨B6, d6, rfl, O6, hq⟩
  have z13 := hq.size
  replace O1 := O1.below hq O1.le
  replace O2 := O2.below hq O2.le
  replace O4 := O4.below hq O4.le
  replace hbel := bthen hbel hq
  clear hq
  go_wp2_with fail
  refine (impl_CombFor O6.reads).mono ?_
  rintro e wx14 ⟨B7, d7, rfl, O7, hq⟩
  have z14 := hq.size
  replace O1 := O1.below hq O1.le
  replace O2 := O2.below hq O2.le
  replace O4 := O4.below hq O4.le
  replace O6 := O6.below hq O6.le
  replace hbel := bthen hbel hq
  clear hq
  go_wp2_with fail
  refine (laws_eqIntS O7.reads O2.reads).mono ?_
  rintro e wx15 ⟨rfl, hq⟩
  have z15 := hq.size
  replace O1 := O1.below hq O1.le
  replace O2 := O2.below hq O2.le
  replace O4 := O4.below hq O4.le
  replace O6 := O6.below hq O6.le
  replace O7 := O7.below hq O7.le
  replace hbel := bthen hbel hq
  clear hq
  go_wp2_with fail
  refine (laws_heldIntS O4.reads (by omega) (by omega)).mono ?_
  rintro e wx16 ⟨rfl, hq⟩
  have z16 := hq.size
  replace O1 := O1.below hq O1.le
  replace O2 := O2.below hq O2.le
  replace O4 := O4.below hq O4.le
  replace O6 := O6.below hq O6.le
  replace O7 := O7.below hq O7.le
  replace hbel := bthen hbel hq
  clear hq
  go_wp2
  go_ret
  exact ⟨rfl, hbel⟩

set_option maxRecDepth 100000 in
theorem lifted (os : Os) (started : os.Started) (H : Type) (enc : TypeId × Value → H) :
    ReturnsInHanded {} Try.checked os 7 .any (Rows.fnExactCombForSpec.pre6 enc Try.prog Try.f7 Rows.fnExactCombForRow.domain false) (Rows.fnExactCombForSpec.post enc Try.prog Try.f7 false true false false) := by
  refine returnsInHanded_of_change (C := Try.checked) Try_own started (by kernel_rfl) Try.func7
    (ChangeSpec.witness6 (enc := enc) (C := Try.checked) false ⟨#[], #[.slice none 0 0], []⟩ 8 (by kernel_rfl) (by kernel_rfl) (by kernel_rfl) (by kernel_rfl)) ?_
  intro W base args ds gs before hval0 hW hcnd _
  have hval : ∀ (j : Nat) t v, Try.f7.params[j]? = some t → args[j]? = some v → Value.okWide Try.prog W .any base t v := hval0
  have hW' := hW
  obtain ⟨p, q, hA0, hV, rfl, hfz, hnd⟩ := hW
  have hA : DataW.TrodAll enc Try.prog W 0 (fun _ => true) true Try.f7.params.toList args.toList ds p := hA0
  rw [Try.params7] at hA hval
  obtain ⟨v0, vs0, d0, ds0, p0, q0, hargs, rfl, rfl, h0, r0⟩ := trodAll_cons hA
  obtain ⟨rfl, rfl, rfl⟩ := trodAll_nil r0
  obtain rfl : args = #[v0] := by cases args; simp_all
  obtain ⟨rfl, rfl⟩ := trodVars_none hV
  obtain ⟨A0, n0, c0, rfl⟩ := okWide_slice Try.underlying54 (hval 0 54 v0 rfl rfl)
  have k0 := h0
  have lt0 : ∀ x ∈ p0, x.block < W.heap.size := by obtain ⟨m, hm⟩ := k0; exact DataW.trod_lt m _ _ _ hm
  obtain ⟨l0, rfl, cm0, cl0, rd0⟩ := open_pairss_arg Try.underlying54 Try.underlying42 Try.underlying114 (by kernel_rfl) (by kernel_rfl) rfl rfl rfl rfl (by kernel_rfl) (by kernel_rfl) Try.underlying3 Try.underlying3 h0
  clear hA0 hval0
  refine (walk W A0 c0 l0 cm0 cl0 rd0).mono fun e W' ⟨he, bel⟩ => ?_
  subst he
  exact ⟨_, rfl, _, _, _, [], _, [], hW', trodAll_mk1 (shut_bool Try.underlying4 _), (trodAll_cons_mk (Below.trod Try_laidOut (by kernel_rfl) (of_decide_eq_true (by kernel_rfl)) k0 bel lt0) trodAll_mk0), rfl, bel.frame _, fun h => by cases h⟩

theorem over : Rows.fnExactCombForRow.holds Try.pinned (OpenSpec.ofChange Rows.fnExactCombForSpec) :=
  OpenClaim.holds_of_wide 7 Try.f7 rfl rfl rfl rfl rfl rfl rfl ⟨rfl, rfl, rfl, rfl, rfl⟩ rfl rfl rfl rfl rfl (by kernel_rfl) Try.func7 (by kernel_rfl)
    (of_decide_eq_true (by kernel_rfl)) (by unfold Func.isWrapper; first | (rw [if_pos (by decide +kernel)]; kernel_rfl) | (rw [if_neg (by decide +kernel)]; exact ⟨rfl, rfl⟩))
    (fun os started H enc _ => lifted os started H enc)

theorem proved : Rows.FnExactCombForSaid := over
end Go.Proofs.Ytpffdabpmfmimaa.lawCombFor
