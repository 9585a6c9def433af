/- Whatever the bytes of the draw, the law FnClamped answers true: a clamped number is in the range, is not changed again, and equals the number if this is in the range. There are no conditions. -/
import Derived.Test.YtpbngpamjedgaaaFrameB
import Derived.Test.YtpbngpamjedgaaaDraw2
import Derived.Test.YtpbngpamjedgaaaNum
import Derived.Deep.RegionHeld3
import Derived.OwnWalk
namespace Go.Proofs.Ytpbngpamjedgaaa.lawClamped
open Go.ChangeShapes Go.WideShapes Go.ChangeAt Go.RowKit
set_option linter.unusedVariables false
theorem spec_DrawClamp {A : Option Addr} {n c : Nat} {w : World} (h : RU w A n) :
    Calls Try.prog 6 #[.slice A n c] w fun e w' => ∃ x y z : Int, e = .returned (.tuple #[.int .i64 x, .int .i64 y, .int .i64 z]) ∧ Below w.heap.size w w' := by
  have H := Lib.hid h; clear h
  go_enter Try.func6, Try.ntmps6
  go_wp2_with fail
  refine (spec_l01New H.out).mono ?_
  rintro e w1 ⟨p, rfl, hp, hp2, hc1, hb1⟩
  have HB1 := Lib.hid hb1
  clear hb1 hp2
  go_wp2_with fail
  refine (spec_l01Once hc1 H.out HB1.out hp (by omega) (by omega)).mono ?_
  rintro e w2 ⟨b, rfl, hc2, hk2⟩
  have HB2 := Lib.hid (HB1.out.trans (hk2.below HB1.out.size hp))
  clear hc1 hk2
  cases b
  · go_wp2_with fail
    refine (spec_l01Below hc2 H.out HB2.out hp (by omega) (by omega)).mono ?_
    rintro e w3 ⟨x3, rfl, hx3, hc3, hk3⟩
    have HB3 := Lib.hid (HB2.out.trans (hk3.below HB2.out.size hp))
    clear hc2 hk3
    go_wp2_with fail
    refine (spec_l01Below hc3 H.out HB3.out hp (by omega) (by omega)).mono ?_
    rintro e w4 ⟨x4, rfl, hx4, hc4, hk4⟩
    have HB4 := Lib.hid (HB3.out.trans (hk4.below HB3.out.size hp))
    clear hc3 hk4
    go_wp2_with fail
    refine (spec_l01Below hc4 H.out HB4.out hp (by omega) (by omega)).mono ?_
    rintro e w5 ⟨x5, rfl, hx5, hc5, hk5⟩
    have HB5 := Lib.hid (HB4.out.trans (hk5.below HB4.out.size hp))
    clear hc4 hc5 hk5
    go_wp2
    go_ret3
    exact ⟨_, _, _, rfl, HB5.out⟩
  · go_wp2_with fail
    refine (spec_l01Number hc2 H.out HB2.out hp).mono ?_
    rintro e w3 ⟨x3, rfl, hc3, hk3⟩
    have HB3 := Lib.hid (HB2.out.trans (hk3.below HB2.out.size hp))
    clear hc2 hk3
    go_wp2_with fail
    refine (spec_l01Number hc3 H.out HB3.out hp).mono ?_
    rintro e w4 ⟨x4, rfl, hc4, hk4⟩
    have HB4 := Lib.hid (HB3.out.trans (hk4.below HB3.out.size hp))
    clear hc3 hk4
    go_wp2_with fail
    refine (spec_l01Number hc4 H.out HB4.out hp).mono ?_
    rintro e w5 ⟨x5, rfl, hc5, hk5⟩
    have HB5 := Lib.hid (HB4.out.trans (hk5.below HB4.out.size hp))
    clear hc4 hc5 hk5
    go_wp2
    go_ret3
    exact ⟨_, _, _, rfl, HB5.out⟩
theorem laws_big {A : Option Addr} {n c : Nat} {w : World} : Calls Try.prog 5 #[.slice A n c] w fun e w' => e = .returned (.bool (decide (1048576 < n))) ∧ w = w' := by
  go_enter Try.func5, Try.ntmps5
  go_wp2
  go_ret
  exact ⟨ret_bool (by simp; omega), rfl⟩
set_option maxHeartbeats 1000000 in
theorem walk (w : World) (A0 : Option Addr) (c0 : Nat) (l0 : List Int) (cm0 : c0 ≤ maxLen) (cl0 : l0.length ≤ c0) (rd0 : 0 < l0.length → ∃ b off, A0 = some ⟨b, off, none⟩ ∧ BytesAt w b off l0) :
    Calls Try.prog 3 #[.slice A0 l0.length c0] w fun e w' => e = .returned (.bool true) ∧ Below w.heap.size w w' := by
  by_cases zz : 1048576 < l0.length
  · go_enter Try.func3, Try.ntmps3
    go_wp2_with fail
    refine (laws_big).mono ?_
    rintro e w1 ⟨rfl, rfl⟩
    rw [decide_eq_true zz]
    go_wp2
    go_ret
    exact ⟨rfl, Below.refl _ _⟩
  have R := Lib.hid (bytes_ru (Nat.le_of_not_lt zz) rd0)
  clear rd0
  have e7 : clampM 7 3 5 = 5 := by decide
  go_enter Try.func3, Try.ntmps3
  go_wp2_with fail
  refine (laws_big).mono ?_
  rintro e w1 ⟨rfl, rfl⟩
  rw [decide_eq_false zz]
  clear zz
  go_wp2_with fail
  refine (spec_DrawClamp R.out).mono ?_
  rintro e w2 ⟨n, a, b, rfl, hb⟩
  have HB := Lib.hid hb
  clear hb
  by_cases h1 : b < a
  · have e1 : clampM n a b = a := by unfold clampM; rw [if_pos (by omega)]
    go_wp2_with (go_at_call 7; refine (impl_Clamp).mono ?_; rintro e w' ⟨rfl, rfl⟩)
    go_ret
    exact ⟨rfl, HB.out⟩
  by_cases h2 : n < a
  · have e1 : clampM n a b = a := by unfold clampM; rw [if_pos (by omega)]
    have e2 : clampM a a b = a := by unfold clampM; split <;> (try split) <;> omega
    go_wp2_with (go_at_call 7; refine (impl_Clamp).mono ?_; rintro e w' ⟨rfl, rfl⟩)
    go_ret
    exact ⟨rfl, HB.out⟩
  by_cases h3 : b < n
  · have e1 : clampM n a b = b := by unfold clampM; rw [if_neg (by omega), if_pos h3]
    have e2 : clampM b a b = b := by unfold clampM; split <;> (try split) <;> omega
    go_wp2_with (go_at_call 7; refine (impl_Clamp).mono ?_; rintro e w' ⟨rfl, rfl⟩)
    go_ret
    exact ⟨rfl, HB.out⟩
  · have e1 : clampM n a b = n := by unfold clampM; rw [if_neg (by omega), if_neg h3]
    go_wp2_with (go_at_call 7; refine (impl_Clamp).mono ?_; rintro e w' ⟨rfl, rfl⟩)
    go_ret
    exact ⟨rfl, HB.out⟩

set_option maxRecDepth 100000 in
theorem lifted (os : Os) (started : os.Started) (H : Type) (enc : TypeId × Value → H) :
    ReturnsInHanded {} Try.checked os 3 .any (Rows.fnClampedSpec.pre6 enc Try.prog Try.f3 Rows.fnClampedRow.domain false) (Rows.fnClampedSpec.post enc Try.prog Try.f3 false true false false) := by
  refine returnsInHanded_of_change (C := Try.checked) Try_own started (by kernel_rfl) Try.func3
    (ChangeSpec.witness6 (enc := enc) (C := Try.checked) false ⟨#[], #[.slice none 0 0], []⟩ 8 (by kernel_rfl) (by kernel_rfl) (by kernel_rfl) (by kernel_rfl)) ?_
  intro W base args ds gs before hval0 hW hcnd _
  have hval : ∀ (j : Nat) t v, Try.f3.params[j]? = some t → args[j]? = some v → Value.okWide Try.prog W .any base t v := hval0
  have hW' := hW
  obtain ⟨p, q, hA0, hV, rfl, hfz, hnd⟩ := hW
  have hA : DataW.TrodAll enc Try.prog W 0 (fun _ => true) true Try.f3.params.toList args.toList ds p := hA0
  rw [Try.params3] at hA hval
  obtain ⟨v0, vs0, d0, ds0, p0, q0, hargs, rfl, rfl, h0, r0⟩ := trodAll_cons hA
  obtain ⟨rfl, rfl, rfl⟩ := trodAll_nil r0
  obtain rfl : args = #[v0] := by cases args; simp_all
  obtain ⟨rfl, rfl⟩ := trodVars_none hV
  obtain ⟨A0, n0, c0, rfl⟩ := okWide_slice Try.underlying22 (hval 0 22 v0 rfl rfl)
  have k0 := h0
  have lt0 : ∀ x ∈ p0, x.block < W.heap.size := by obtain ⟨m, hm⟩ := k0; exact DataW.trod_lt m _ _ _ hm
  obtain ⟨l0, rfl, cm0, cl0, rd0⟩ := open_bytes_arg Try.underlying22 Try.underlying5 (by kernel_rfl) h0
  clear hA0 hval0
  refine (walk W A0 c0 l0 cm0 cl0 rd0).mono fun e W' ⟨he, bel⟩ => ?_
  subst he
  exact ⟨_, rfl, _, _, _, [], _, [], hW', trodAll_mk1 (shut_bool Try.underlying4 _), (trodAll_cons_mk (Below.trod Try_laidOut (by kernel_rfl) (of_decide_eq_true (by kernel_rfl)) k0 bel lt0) trodAll_mk0), rfl, bel.frame _, fun h => by cases h⟩

theorem over : Rows.fnClampedRow.holds Try.pinned (OpenSpec.ofChange Rows.fnClampedSpec) :=
  OpenClaim.holds_of_wide 3 Try.f3 rfl rfl rfl rfl rfl rfl rfl ⟨rfl, rfl, rfl, rfl, rfl⟩ rfl rfl rfl rfl rfl (by kernel_rfl) Try.func3 (by kernel_rfl)
    (of_decide_eq_true (by kernel_rfl)) (by unfold Func.isWrapper; first | (rw [if_pos (by decide +kernel)]; kernel_rfl) | (rw [if_neg (by decide +kernel)]; exact ⟨rfl, rfl⟩))
    (fun os started H enc _ => lifted os started H enc)

theorem proved : Rows.FnClampedSaid := over
end Go.Proofs.Ytpbngpamjedgaaa.lawClamped
