/- Whatever the arguments, up to the law's own bound of 2^20 = 1048576 elements (beyond it the law answers true without looking), the program's IsAssigned returns what the reference's returns, leaves its arguments as they were, and shares no memory with them. There are no other conditions. -/
import Derived.Test.YtfihipbjgjelfaaFrame
import Derived.Test.YtfihipbjgjelfaaTeethA
import Derived.Test.YtfihipbjgjelfaaTuneW
import Derived.Test.YtfihipbjgjelfaaIntS
namespace Go.Proofs.Ytfihipbjgjelfaa.lawIsAssigned
open Go.ChangeShapes Go.WideShapes Go.ChangeAt Go.RowKit
open Go.ChangeMaps (open_string shut_string)
set_option linter.unusedVariables false

set_option maxHeartbeats 1000000 in
theorem walk (w : World) (A0 : Option Addr) (c0 : Nat) (l0 : List Int) (cm0 : c0 ≤ maxLen) (cl0 : l0.length ≤ c0) (rd0 : 0 < l0.length → ∃ b off, A0 = some ⟨b, off, none⟩ ∧ IntsAt w b off l0) (A1 : Option Addr) (c1 : Nat) (l1 : List (Int × Int)) (cm1 : c1 ≤ maxLen) (cl1 : l1.length ≤ c1) (rd1 : 0 < l1.length → ∃ b off, A1 = some ⟨b, off, none⟩ ∧ PairsAt w b off l1) (a2 : Int) (w2 : (Lit.int .i64 a2).wf = true) (A3 : Option Addr) (c3 : Nat) (l3 : List Int) (cm3 : c3 ≤ maxLen) (cl3 : l3.length ≤ c3) (rd3 : 0 < l3.length → ∃ b off, A3 = some ⟨b, off, none⟩ ∧ IntsAt w b off l3) :
    Calls Try.prog 8 #[.slice A0 l0.length c0, .slice A1 l1.length c1, .int .i64 a2, .slice A3 l3.length c3] w fun e w' => e = .returned (.bool true) ∧ Below w.heap.size w w' := by
  have cm0' := cm0; unfold maxLen at cm0
  have cm1' := cm1; unfold maxLen at cm1
  have cm3' := cm3; unfold maxLen at cm3
  by_cases zz : 1048576 < l0.length
  · go_enter Try.func8, Try.ntmps8
    go_wp2_with (first | (go_at_call 24; refine (laws_szNoteS_yes (by omega) (by omega)).mono ?_; rintro e w' ⟨rfl, rfl⟩) | (go_at_call 24; refine (laws_szNoteS_no (by omega) (by omega) (by omega) (by omega)).mono ?_; rintro e w' ⟨rfl, rfl⟩))
    go_ret
    exact ⟨rfl, Below.refl _ _⟩
  by_cases zz : 1048576 < l3.length
  · go_enter Try.func8, Try.ntmps8
    go_wp2_with (first | (go_at_call 24; refine (laws_szNoteS_yes (by omega) (by omega)).mono ?_; rintro e w' ⟨rfl, rfl⟩) | (go_at_call 24; refine (laws_szNoteS_no (by omega) (by omega) (by omega) (by omega)).mono ?_; rintro e w' ⟨rfl, rfl⟩))
    go_ret
    exact ⟨rfl, Below.refl _ _⟩
  by_cases zz : 1048576 < l1.length
  · go_enter Try.func8, Try.ntmps8
    go_wp2_with (first | (go_at_call 24; refine (laws_szNoteS_yes (by omega) (by omega)).mono ?_; rintro e w' ⟨rfl, rfl⟩) | (go_at_call 24; refine (laws_szNoteS_no (by omega) (by omega) (by omega) (by omega)).mono ?_; rintro e w' ⟨rfl, rfl⟩))
    go_ret
    exact ⟨rfl, Below.refl _ _⟩
  have R0 : RI w A0 l0 := ⟨by omega, rd0⟩
  clear rd0
  have R1 : RP w A1 l1 := ⟨by omega, rd1⟩
  clear rd1
  have R3 : RI w A3 l3 := ⟨by omega, rd3⟩
  clear rd3
  have hbel := Below.refl w.heap.size w
  go_enter Try.func8, Try.ntmps8
  go_wp2_with (first | (go_at_call 24; refine (laws_szNoteS_yes (by omega) (by omega)).mono ?_; rintro e w' ⟨rfl, rfl⟩))
  refine (laws_toIntS (R0.below hbel)).mono ?_
  rintro e wx1 ⟨B1, d1, rfl, O1, hq⟩
  have z1 := hq.size
  replace hbel := bthen hbel hq
  clear hq
  go_wp2_with fail
  refine (laws_toNoteS (R1.below hbel)).mono ?_
  rintro e wx2 ⟨B2, d2, rfl, O2, hq⟩
  have z2 := hq.size
  replace O1 := O1.below hq O1.le
  replace hbel := bthen hbel hq
  clear hq
  go_wp2_with fail
  refine (laws_toIntS (R3.below hbel)).mono ?_
  rintro e wx3 ⟨B3, d3, rfl, O3, hq⟩
  have z3 := hq.size
  replace O1 := O1.below hq O1.le
  replace O2 := O2.below hq O2.le
  replace hbel := bthen hbel hq
  clear hq
  go_wp2_with fail
  refine (spec_IsAssigned O1.reads O2.reads O3.reads).mono ?_
  rintro e wx4 ⟨rfl, hq⟩
  have z4 := hq.size
  replace O1 := O1.below hq O1.le
  replace O2 := O2.below hq O2.le
  replace O3 := O3.below hq O3.le
  replace hbel := bthen hbel hq
  clear hq
  go_wp2_with fail
  refine (laws_toIntS (R0.below hbel)).mono ?_
  rintro e wx5 ⟨B4, d4, rfl, O4, hq⟩
  have z5 := hq.size
  replace O1 := O1.below hq O1.le
  replace O2 := O2.below hq O2.le
  replace O3 := O3.below hq O3.le
  replace hbel := bthen hbel hq
  clear hq
  go_wp2_with fail
  refine (laws_toNoteS (R1.below hbel)).mono ?_
  rintro e wx6 ⟨B5, d5, rfl, O5, hq⟩
  have z6 := hq.size
  replace O1 := O1.below hq O1.le
  replace O2 := O2.below hq O2.le
  replace O3 := O3.below hq O3.le
  replace O4 := O4.below hq O4.le
  replace hbel := bthen hbel hq
  clear hq
  go_wp2_with fail
  refine (laws_toIntS (R3.below hbel)).mono ?_
  rintro e wx7 ⟨B6, d6, rfl, O6, hq⟩
  have z7 := hq.size
  replace O1 := O1.below hq O1.le
  replace O2 := O2.below hq O2.le
  replace O3 := O3.below hq O3.le
  replace O4 := O4.below hq O4.le
  replace O5 := O5.below hq O5.le
  replace hbel := bthen hbel hq
  clear hq
  go_wp2_with fail
  refine (impl_IsAssigned O4.reads O5.reads O6.reads).mono ?_
  rintro e wx8 ⟨rfl, hq⟩
  have z8 := hq.size
  replace O1 := O1.below hq O1.le
  replace O2 := O2.below hq O2.le
  replace O3 := O3.below hq O3.le
  replace O4 := O4.below hq O4.le
  replace O5 := O5.below hq O5.le
  replace O6 := O6.below hq O6.le
  replace hbel := bthen hbel hq
  clear hq
  go_wp2_with fail
  refine (laws_toIntS (R0.below hbel)).mono ?_
  rintro e wx9 ⟨B7, d7, rfl, O7, hq⟩
  have z9 := hq.size
  replace O1 := O1.below hq O1.le
  replace O2 := O2.below hq O2.le
  replace O3 := O3.below hq O3.le
  replace O4 := O4.below hq O4.le
  replace O5 := O5.below hq O5.le
  replace O6 := O6.below hq O6.le
  replace hbel := bthen hbel hq
  clear hq
  go_wp2_with fail
  refine (laws_eqIntS O4.reads O7.reads).mono ?_
  rintro e wx10 ⟨rfl, hq⟩
  have z10 := hq.size
  replace O1 := O1.below hq O1.le
  replace O2 := O2.below hq O2.le
  replace O3 := O3.below hq O3.le
  replace O4 := O4.below hq O4.le
  replace O5 := O5.below hq O5.le
  replace O6 := O6.below hq O6.le
  replace O7 := O7.below hq O7.le
  replace hbel := bthen hbel hq
  clear hq
  go_wp2_with fail
  refine (laws_toNoteS (R1.below hbel)).mono ?_
  rintro e wx11 ⟨B8, d8, rfl, O8, hq⟩
  have z11 := hq.size
  replace O1 := O1.below hq O1.le
  replace O2 := O2.below hq O2.le
  replace O3 := O3.below hq O3.le
  replace O4 := O4.below hq O4.le
  replace O5 := O5.below hq O5.le
  replace O6 := O6.below hq O6.le
  replace hbel := bthen hbel hq
  clear hq
  go_wp2_with fail
  refine (laws_eqNoteS O5.reads O8.reads).mono ?_
  rintro e wx12 ⟨rfl, hq⟩
  have z12 := hq.size
  replace O1 := O1.below hq O1.le
  replace O2 := O2.below hq O2.le
  replace O3 := O3.below hq O3.le
  replace O4 := O4.below hq O4.le
  replace O5 := O5.below hq O5.le
  replace O6 := O6.below hq O6.le
  replace O8 := O8.below hq O8.le
  replace hbel := bthen hbel hq
  clear hq
  go_wp2_with fail
  refine (laws_toIntS (R3.below hbel)).mono ?_
  rintro e wx13 ⟨B9, d9, rfl, O9, hq⟩
  have z13 := hq.size
  replace O1 := O1.below hq O1.le
  replace O2 := O2.below hq O2.le
  replace O3 := O3.below hq O3.le
  replace O4 := O4.below hq O4.le
  replace O5 := O5.below hq O5.le
  replace O6 := O6.below hq O6.le
  replace hbel := bthen hbel hq
  clear hq
  go_wp2_with fail
  refine (laws_eqIntS O6.reads O9.reads).mono ?_
  rintro e wx14 ⟨rfl, hq⟩
  have z14 := hq.size
  replace O1 := O1.below hq O1.le
  replace O2 := O2.below hq O2.le
  replace O3 := O3.below hq O3.le
  replace O4 := O4.below hq O4.le
  replace O5 := O5.below hq O5.le
  replace O6 := O6.below hq O6.le
  replace O9 := O9.below hq O9.le
  replace hbel := bthen hbel hq
  clear hq
  go_wp2
  go_ret
  exact ⟨rfl, hbel⟩

set_option maxRecDepth 100000 in
theorem lifted (os : Os) (started : os.Started) (H : Type) (enc : TypeId × Value → H) :
    ReturnsInHanded {} Try.checked os 8 .any (Rows.fnExactIsAssignedSpec.pre6 enc Try.prog Try.f8 Rows.fnExactIsAssignedRow.domain false) (Rows.fnExactIsAssignedSpec.post enc Try.prog Try.f8 false true false false) := by
  refine returnsInHanded_of_change (C := Try.checked) Try_own started (by kernel_rfl) Try.func8
    (ChangeSpec.witness6 (enc := enc) (C := Try.checked) false ⟨#[], #[.slice none 0 0, .slice none 0 0, .int .i64 0, .slice none 0 0], []⟩ 8 (by kernel_rfl) (by kernel_rfl) (by kernel_rfl) (by kernel_rfl)) ?_
  intro W base args ds gs before hval0 hW hcnd _
  have hval : ∀ (j : Nat) t v, Try.f8.params[j]? = some t → args[j]? = some v → Value.okWide Try.prog W .any base t v := hval0
  have hW' := hW
  obtain ⟨p, q, hA0, hV, rfl, hfz, hnd⟩ := hW
  have hA : DataW.TrodAll enc Try.prog W 0 (fun _ => true) true Try.f8.params.toList args.toList ds p := hA0
  rw [Try.params8] at hA hval
  obtain ⟨v0, vs0, d0, ds0, p0, q0, hargs, rfl, rfl, h0, r0⟩ := trodAll_cons hA
  obtain ⟨v1, vs1, d1, ds1, p1, q1, rfl, rfl, rfl, h1, r1⟩ := trodAll_cons r0
  obtain ⟨v2, vs2, d2, ds2, p2, q2, rfl, rfl, rfl, h2, r2⟩ := trodAll_cons r1
  obtain ⟨v3, vs3, d3, ds3, p3, q3, rfl, rfl, rfl, h3, r3⟩ := trodAll_cons r2
  obtain ⟨rfl, rfl, rfl⟩ := trodAll_nil r3
  obtain rfl : args = #[v0, v1, v2, v3] := by cases args; simp_all
  obtain ⟨rfl, rfl⟩ := trodVars_none hV
  obtain ⟨A0, n0, c0, rfl⟩ := okWide_slice Try.underlying27 (hval 0 27 v0 rfl rfl)
  have k0 := h0
  have lt0 : ∀ x ∈ p0, x.block < W.heap.size := by obtain ⟨m, hm⟩ := k0; exact DataW.trod_lt m _ _ _ hm
  obtain ⟨l0, rfl, cm0, cl0, rd0⟩ := open_ints_arg Try.underlying27 Try.underlying3 (by kernel_rfl) h0
  obtain ⟨A1, n1, c1, rfl⟩ := okWide_slice Try.underlying35 (hval 1 35 v1 rfl rfl)
  have k1 := h1
  have lt1 : ∀ x ∈ p1, x.block < W.heap.size := by obtain ⟨m, hm⟩ := k1; exact DataW.trod_lt m _ _ _ hm
  obtain ⟨l1, rfl, cm1, cl1, rd1⟩ := open_pairs_arg Try.underlying35 Try.underlying71 (by kernel_rfl) rfl rfl rfl rfl (by kernel_rfl) (by kernel_rfl) Try.underlying3 Try.underlying3 h1
  obtain ⟨a2, rfl, rfl, rfl, w2⟩ := open_int Try.underlying3 (hval 2 3 v2 rfl rfl) h2
  obtain ⟨A3, n3, c3, rfl⟩ := okWide_slice Try.underlying27 (hval 3 27 v3 rfl rfl)
  have k3 := h3
  have lt3 : ∀ x ∈ p3, x.block < W.heap.size := by obtain ⟨m, hm⟩ := k3; exact DataW.trod_lt m _ _ _ hm
  obtain ⟨l3, rfl, cm3, cl3, rd3⟩ := open_ints_arg Try.underlying27 Try.underlying3 (by kernel_rfl) h3
  clear hA0 hval0
  refine (walk W A0 c0 l0 cm0 cl0 rd0 A1 c1 l1 cm1 cl1 rd1 a2 w2 A3 c3 l3 cm3 cl3 rd3).mono fun e W' ⟨he, bel⟩ => ?_
  subst he
  exact ⟨_, rfl, _, _, _, [], _, [], hW', trodAll_mk1 (shut_bool Try.underlying4 _), (trodAll_cons_mk (Below.trod Try_laidOut (by kernel_rfl) (of_decide_eq_true (by kernel_rfl)) k0 bel lt0) (trodAll_cons_mk (Below.trod Try_laidOut (by kernel_rfl) (of_decide_eq_true (by kernel_rfl)) k1 bel lt1) (trodAll_cons_mk (shut_int Try.underlying3 w2) (trodAll_cons_mk (Below.trod Try_laidOut (by kernel_rfl) (of_decide_eq_true (by kernel_rfl)) k3 bel lt3) trodAll_mk0)))), rfl, bel.frame _, fun h => by cases h⟩

theorem over : Rows.fnExactIsAssignedRow.holds Try.pinned (OpenSpec.ofChange Rows.fnExactIsAssignedSpec) :=
  OpenClaim.holds_of_wide 8 Try.f8 rfl rfl rfl rfl rfl rfl rfl ⟨rfl, rfl, rfl, rfl, rfl⟩ rfl rfl rfl rfl rfl (by kernel_rfl) Try.func8 (by kernel_rfl)
    (of_decide_eq_true (by kernel_rfl)) (by unfold Func.isWrapper; first | (rw [if_pos (by decide +kernel)]; kernel_rfl) | (rw [if_neg (by decide +kernel)]; exact ⟨rfl, rfl⟩))
    (fun os started H enc _ => lifted os started H enc)

theorem proved : Rows.FnExactIsAssignedSaid := over
end Go.Proofs.Ytfihipbjgjelfaa.lawIsAssigned
