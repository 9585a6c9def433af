/- Whatever the bytes of the draw, the law FnNumbers answers true: exactly the numbers from 0 to MaxUint can be parsed from their decimal text. The library's tables and the two errors of strconv start as the program's text lays them; there is no other condition. -/
import Derived.Test.YtelmilgdoefmdaaDoorFrameB
import Derived.Test.YtelmilgdoefmdaaDoorDrawN
import Derived.Test.YtelmilgdoefmdaaDoorPuW
namespace Go.Proofs.YtelmilgdoefmdaaDoor.lawNumbers
open Go.ChangeShapes Go.WideShapes Go.ChangeAt Go.RowKit
set_option linter.unusedVariables false
theorem laws_big {A : Option Addr} {n c : Nat} {w : World} : Calls Tryd.prog 10 #[.slice A n c] w fun e w' => e = .returned (.bool (decide (1048576 < n))) ∧ w = w' := by
  go_enter Tryd.func10, Tryd.ntmps10
  go_wp2
  go_ret
  exact ⟨ret_bool (by simp; omega), rfl⟩
theorem itoa_some {n : Int} (h0 : -9223372036854775808 ≤ n) (h1 : n ≤ 9223372036854775807) : (itoaS n).size ≤ 1048576 ∧ itoaS n ≠ ⟨#[]⟩ := by
  refine ⟨?_, fun h => ?_⟩
  · show (Lib.itoa n).length ≤ _
    unfold Lib.itoa
    split
    · have := len_dd 19 n.natAbs (by omega)
      rw [List.length_cons]; omega
    · have := len_dd 19 n.toNat (by omega)
      omega
  · have e : Lib.itoa n = [] := congrArg (fun b : ByteArray => b.data.toList) h
    unfold Lib.itoa at e
    split at e
    · cases e
    · exact dd_ne _ e
set_option maxHeartbeats 1000000 in
theorem walk (w : World) (A0 : Option Addr) (c0 : Nat) (l0 : List Int) (cm0 : c0 ≤ maxLen) (cl0 : l0.length ≤ c0) (rd0 : 0 < l0.length → ∃ b off, A0 = some ⟨b, off, none⟩ ∧ BytesAt w b off l0) (ht : Tabs w) :
    Calls Tryd.prog 7 #[.slice A0 l0.length c0] w fun e w' => e = .returned (.bool true) ∧ Below w.heap.size w w' := by
  have HT := Lib.hid ht; clear ht
  by_cases zz : 1048576 < l0.length
  · go_enter Tryd.func7, Tryd.ntmps7
    go_wp2_with fail
    refine (laws_big).mono ?_
    rintro e w1 ⟨rfl, rfl⟩
    rw [decide_eq_true zz]
    go_wp2
    go_ret
    exact ⟨rfl, Below.refl _ _⟩
  have R := Lib.hid (bytes_ru (Nat.le_of_not_lt zz) rd0)
  clear rd0
  go_enter Tryd.func7, Tryd.ntmps7
  go_wp2_with fail
  refine (laws_big).mono ?_
  rintro e w1 ⟨rfl, rfl⟩
  rw [decide_eq_false zz]
  clear zz
  go_wp2_with fail
  refine (spec_DrawFormatInt R.out).mono ?_
  rintro e w2 ⟨n, rfl, ⟨n0, n1⟩, hb⟩
  have HB := Lib.hid hb
  clear hb
  go_wp2_with fail
  refine (impl_FormatInt n0 n1 (HT.out.tab.below HB.out)).mono ?_
  rintro e w3 ⟨rfl, hb3⟩
  have HB3 := Lib.hid (bthen HB.out hb3)
  clear hb3
  obtain ⟨s1, s2⟩ := itoa_some n0 n1
  obtain ⟨q1, q2⟩ := pu_int n0
  have hne : ((itoaS n).toList == ([] : List UInt8)) = false := by
    have := bytes_ne s2
    rwa [ByteArray.toList_eq ⟨#[]⟩] at this
  have hem : (itoaS n).toList.isEmpty = false := by
    cases hh : (itoaS n).toList with
    | nil => rw [hh] at hne; cases hne
    | cons _ _ => rfl
  obtain ⟨S, hS⟩ : ∃ S, itoaS n = S := ⟨_, rfl⟩
  rw [hS] at s1 q1 q2 hne hem ⊢
  clear hS s2
  have S1 := Lib.hid s1
  have Q1 := Lib.hid q1
  have Q2 := Lib.hid q2
  clear s1 q1 q2
  by_cases hin : 0 ≤ n ∧ n ≤ 1000000000
  · have hC : Hid (∀ W, Tabs W → Calls Tryd.prog 19 #[.string S] W fun e w' => e = .returned (.tuple #[.int .i64 n, .bool true]) ∧ Below W.heap.size W w') := fun W ht => by
      have := impl_ParseUint S1.out ht
      rwa [(Q1.out hin).1, (Q1.out hin).2] at this
    obtain ⟨i1, i2⟩ := hin
    go_wp2_with fail
    refine (hC.out _ (HT.out.below HB3.out)).mono ?_
    rintro e w4 ⟨rfl, hb4⟩
    have HB4 := Lib.hid (bthen HB3.out hb4)
    clear hb4 hC
    go_wp2
    go_ret
    exact ⟨rfl, HB4.out⟩
  · have hC : Hid (∀ W, Tabs W → Calls Tryd.prog 19 #[.string S] W fun e w' => e = .returned (.tuple #[.int .i64 0, .bool false]) ∧ Below W.heap.size W w') := fun W ht => by
      have := impl_ParseUint S1.out ht
      rwa [(Q2.out hin).1, (Q2.out hin).2] at this
    by_cases i1 : 0 ≤ n
    · have i2 : 1000000000 < n := by omega
      clear hin
      go_wp2_with fail
      refine (hC.out _ (HT.out.below HB3.out)).mono ?_
      rintro e w4 ⟨rfl, hb4⟩
      have HB4 := Lib.hid (bthen HB3.out hb4)
      clear hb4 hC
      go_wp2
      go_ret
      exact ⟨rfl, HB4.out⟩
    · have i2 : n < 0 := by omega
      clear hin
      go_wp2_with fail
      refine (hC.out _ (HT.out.below HB3.out)).mono ?_
      rintro e w4 ⟨rfl, hb4⟩
      have HB4 := Lib.hid (bthen HB3.out hb4)
      clear hb4 hC
      go_wp2
      go_ret
      exact ⟨rfl, HB4.out⟩

abbrev rngS : ByteArray := { data := #[118, 97, 108, 117, 101, 32, 111, 117, 116, 32, 111, 102, 32, 114, 97, 110, 103, 101] }
abbrev synS : ByteArray := { data := #[105, 110, 118, 97, 108, 105, 100, 32, 115, 121, 110, 116, 97, 120] }
noncomputable def low : Nat := (World.holding Tryd.prog default ⟨#[], #[], []⟩).heap.size
/-- A world that holds what the row lists. -/
noncomputable def laidWorld (os : Os) : World :=
  { World.holding Tryd.prog os ⟨#[.cells #[.string rngS] 86, .cells #[.string synS] 86], #[], []⟩ with heap := ((((((World.holding Tryd.prog os ⟨#[.cells #[.string rngS] 86, .cells #[.string synS] 86], #[], []⟩).heap.modify 3 fun
      | .cells _ t frozen => .cells #[.int .u64 1, .int .u64 10, .int .u64 100, .int .u64 1000, .int .u64 10000, .int .u64 100000, .int .u64 1000000, .int .u64 10000000, .int .u64 100000000, .int .u64 1000000000, .int .u64 10000000000, .int .u64 100000000000, .int .u64 1000000000000, .int .u64 10000000000000, .int .u64 100000000000000, .int .u64 1000000000000000, .int .u64 10000000000000000, .int .u64 100000000000000000, .int .u64 1000000000000000000, .int .u64 10000000000000000000] t frozen
      | o => o).modify 4 fun
      | .cells _ t frozen => .cells #[.int .u8 0, .int .u8 1, .int .u8 28, .int .u8 2, .int .u8 29, .int .u8 14, .int .u8 24, .int .u8 3, .int .u8 30, .int .u8 22, .int .u8 20, .int .u8 15, .int .u8 25, .int .u8 17, .int .u8 4, .int .u8 8, .int .u8 31, .int .u8 27, .int .u8 13, .int .u8 23, .int .u8 21, .int .u8 19, .int .u8 16, .int .u8 7, .int .u8 26, .int .u8 12, .int .u8 18, .int .u8 6, .int .u8 11, .int .u8 5, .int .u8 10, .int .u8 9] t frozen
      | o => o).modify 5 fun
      | .cells _ t frozen => .cells #[.int .u8 0, .int .u8 1, .int .u8 56, .int .u8 2, .int .u8 57, .int .u8 49, .int .u8 28, .int .u8 3, .int .u8 61, .int .u8 58, .int .u8 42, .int .u8 50, .int .u8 38, .int .u8 29, .int .u8 17, .int .u8 4, .int .u8 62, .int .u8 47, .int .u8 59, .int .u8 36, .int .u8 45, .int .u8 43, .int .u8 51, .int .u8 22, .int .u8 53, .int .u8 39, .int .u8 33, .int .u8 30, .int .u8 24, .int .u8 18, .int .u8 12, .int .u8 5, .int .u8 63, .int .u8 55, .int .u8 48, .int .u8 27, .int .u8 60, .int .u8 41, .int .u8 37, .int .u8 16, .int .u8 46, .int .u8 35, .int .u8 44, .int .u8 21, .int .u8 52, .int .u8 32, .int .u8 23, .int .u8 11, .int .u8 54, .int .u8 26, .int .u8 40, .int .u8 15, .int .u8 34, .int .u8 20, .int .u8 31, .int .u8 10, .int .u8 25, .int .u8 14, .int .u8 19, .int .u8 9, .int .u8 13, .int .u8 8, .int .u8 7, .int .u8 6] t frozen
      | o => o).modify 2 fun
      | .cells _ t frozen => .cells #[.iface 84 (.pointer (some ⟨low + 0, 0, none⟩))] t frozen
      | o => o).modify 1 fun
      | .cells _ t frozen => .cells #[.iface 84 (.pointer (some ⟨low + 1, 0, none⟩))] t frozen
      | o => o) }
set_option maxRecDepth 100000 in
theorem laid_met (os : Os) : laidMet Tryd.prog Rows.fnNumbersRow.laid ((laidWorld os).forCall (fun _ _ => 0) ⟨#[], #[.slice none 0 0], []⟩).memory :=
  laidMet_of_run' 8 (by kernel_rfl) (by kernel_rfl)
theorem reads (os : Os) {H : Type} (enc : TypeId × Value → H) : ∃ places, DataW.whole enc Tryd.prog ((laidWorld os).forCall (fun _ _ => 0) ⟨#[], #[.slice none 0 0], []⟩).memory Tryd.f7.params.toList Rows.fnNumbersSpec.vars false #[(.slice none 0 0 : Value)].toList 8 = some ([.nil], [], places) :=
  ⟨[], by kernel_rfl⟩
set_option maxRecDepth 100000 in
theorem lifted (os : Os) (started : os.Started) (H : Type) (enc : TypeId × Value → H) (F : Stop.Interp) :
    ReturnsInHanded {} Tryd.checked os 7 .any ((OpenSpec.ofChange Rows.fnNumbersSpec).preRow enc Tryd.prog Tryd.f7 Rows.fnNumbersRow.domain false Rows.fnNumbersRow.laid) (((OpenSpec.ofChange Rows.fnNumbersSpec).at F).post enc Tryd.prog Tryd.f7 false true false false) := by
  obtain ⟨places, hx⟩ := reads os enc
  refine returnsInHanded_of_row (C := Tryd.checked) (s := OpenSpec.ofChange Rows.fnNumbersSpec) Tryd_own started (by kernel_rfl) Tryd.func7
    (witness_row_at (enc := enc) (C := Tryd.checked) false (laidWorld os) #[.slice none 0 0] rfl (by kernel_rfl) (by kernel_rfl) (by kernel_rfl)
      (OpenSpec.preRow_of_cond 8 hx (by kernel_rfl) (fun k hk => by cases hk) (by kernel_rfl) (laid_met os))) ?_
  intro W base args ds gs before hval0 hW _ _ _ hL _ _
  have hval : ∀ (j : Nat) t v, Tryd.f7.params[j]? = some t → args[j]? = some v → Value.okWide Tryd.prog W .any base t v := hval0
  have hW' := hW
  obtain ⟨p, q, hA0, hV, rfl, hfz, hnd⟩ := hW
  have hA : DataW.TrodAll enc Tryd.prog W 0 (fun _ => true) true Tryd.f7.params.toList args.toList ds p := hA0
  rw [Tryd.params7] at hA hval
  obtain ⟨v0, vs0, d0, ds0, p0, q0, hargs, rfl, rfl, h0, r0⟩ := trodAll_cons hA
  obtain ⟨rfl, rfl, rfl⟩ := trodAll_nil r0
  obtain rfl : args = #[v0] := by cases args; simp_all
  obtain ⟨rfl, rfl⟩ := trodVars_none hV
  have hL3 := hL
  obtain ⟨A0, n0, c0, rfl⟩ := okWide_slice Tryd.underlying24 (hval 0 24 v0 rfl rfl)
  have k0 := h0
  have lt0 : ∀ x ∈ p0, x.block < W.heap.size := by obtain ⟨m, hm⟩ := k0; exact DataW.trod_lt m _ _ _ hm
  obtain ⟨l0, rfl, cm0, cl0, rd0⟩ := open_bytes_arg Tryd.underlying24 Tryd.underlying5 (by kernel_rfl) h0
  clear hA0 hval0
  refine (walk W A0 c0 l0 cm0 cl0 rd0 (tabs_of hL3)).mono fun e W' ⟨he, bel⟩ => ?_
  subst he
  exact ⟨_, rfl, _, _, _, [], _, [], hW', trodAll_mk1 (shut_bool Tryd.underlying4 _), (trodAll_cons_mk (Below.trod Tryd_laidOut (by kernel_rfl) (of_decide_eq_true (by kernel_rfl)) k0 bel lt0) trodAll_mk0), rfl, bel.frame _, fun h => by cases h⟩

theorem said : Rows.FnNumbersSaid :=
  OpenClaim.holds_of_cond 7 Tryd.f7 rfl rfl rfl rfl rfl rfl rfl ⟨rfl, rfl, rfl, rfl, rfl⟩ rfl rfl rfl rfl rfl (by kernel_rfl) Tryd.func7 (by kernel_rfl)
    (of_decide_eq_true (by kernel_rfl)) (by unfold Func.isWrapper; first | (rw [if_pos (by decide +kernel)]; kernel_rfl) | (rw [if_neg (by decide +kernel)]; exact ⟨rfl, rfl⟩))
    (fun os started H enc _ F => by rw [OpenClaim.pre_eq_preRow]; exact lifted os started H enc F)

theorem proved : Rows.FnNumbersCardSaid :=
  Claim7.holds_tied_plain_at .later [] _ _ _ _ said (fun _ h => by cases h) (by kernel_rfl) (fun _ h => by cases h) fnNumbers_row_tie rfl ⟨rfl, rfl⟩ (by kernel_rfl) rfl
    (fun f fn hf hfn => by
      obtain rfl : f = 7 := Option.some.inj ((show Tryd.prog.funcNamed "loop.example/g03309/laws.FnNumbers" = some 7 by kernel_rfl).symm.trans hf) |>.symm
      obtain rfl : fn = Tryd.f7 := (Option.some.inj (Tryd.func7.symm.trans hfn)).symm
      refine ⟨by kernel_rfl, fun j t ht => ?_⟩
      rw [Tryd.params7] at ht
      obtain rfl : t = 24 := by simpa using Array.mem_of_getElem? ht
      exact (show Tryd.prog.wantsStandIn 24 = false by kernel_rfl))
    (by kernel_rfl)
end Go.Proofs.YtelmilgdoefmdaaDoor.lawNumbers
