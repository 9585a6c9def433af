/- Whatever the bytes of the draw, the law FnHexText answers true: a string comes back from its hexadecimal text, and longer strings are rejected. The library's tables, which strconv.Itoa reads, start as the program's text lays them; there is no other condition. -/
import Derived.Test.YtelmilgdoefmdaaDoorFrameB
import Derived.Test.YtelmilgdoefmdaaDoorFrameL
import Derived.Test.YtelmilgdoefmdaaDoorDrawH
import Derived.Test.YtelmilgdoefmdaaDoorHexR
namespace Go.Proofs.YtelmilgdoefmdaaDoor.lawHexText
open Go.ChangeShapes Go.WideShapes Go.ChangeAt Go.RowKit
set_option linter.unusedVariables false
theorem laws_big {A : Option Addr} {n c : Nat} {w : World} : Calls Tryd.prog 10 #[.slice A n c] w fun e w' => e = .returned (.bool (decide (1048576 < n))) ∧ w = w' := by
  go_enter Tryd.func10, Tryd.ntmps10
  go_wp2
  go_ret
  exact ⟨ret_bool (by simp; omega), rfl⟩
theorem itoa_ten : itoaS 10 = ⟨#[49, 48]⟩ := by
  unfold itoaS Lib.itoa
  rw [if_neg (by omega), show (10 : Int).toNat = 10 from rfl, Lib.decDigits, dif_neg (by omega), Lib.decDigits, dif_pos (by omega)]; rfl
set_option maxHeartbeats 1000000 in
theorem walk (w : World) (A0 : Option Addr) (c0 : Nat) (l0 : List Int) (cm0 : c0 ≤ maxLen) (cl0 : l0.length ≤ c0) (rd0 : 0 < l0.length → ∃ b off, A0 = some ⟨b, off, none⟩ ∧ BytesAt w b off l0) (ht : Tab w) :
    Calls Tryd.prog 4 #[.slice A0 l0.length c0] w fun e w' => e = .returned (.bool true) ∧ Below w.heap.size w w' := by
  have HT := Lib.hid ht; clear ht
  by_cases zz : 1048576 < l0.length
  · go_enter Tryd.func4, Tryd.ntmps4
    go_wp2_with fail
    refine (laws_big).mono ?_
    rintro e w1 ⟨rfl, rfl⟩
    rw [decide_eq_true zz]
    go_wp2
    go_ret
    exact ⟨rfl, Below.refl _ _⟩
  have R := Lib.hid (bytes_ru (Nat.le_of_not_lt zz) rd0)
  clear rd0
  go_enter Tryd.func4, Tryd.ntmps4
  go_wp2_with fail
  refine (laws_big).mono ?_
  rintro e w1 ⟨rfl, rfl⟩
  rw [decide_eq_false zz]
  clear zz
  go_wp2_with fail
  refine (spec_DrawEncodeHex R.out).mono ?_
  rintro e w2 ⟨s, rfl, hs, hb⟩
  have HB := Lib.hid hb
  clear hb
  by_cases hl : 20000 < s.size
  · have HE : Hid (∀ W, Calls Tryd.prog 12 #[.string s] W fun e w' => e = .returned (.tuple #[.string ⟨#[]⟩, .bool false]) ∧ Below W.heap.size W w') := fun W => by
      have := impl_EncodeHex (w := W) hs
      rwa [(encHex_long hl).1, (encHex_long hl).2] at this
    go_wp2_with fail
    refine (HE.out _).mono ?_
    rintro e w3 ⟨rfl, hb3⟩
    have HB3 := Lib.hid (bthen HB.out hb3)
    have HT3 := Lib.hid (HT.out.below HB3.out)
    clear hb3 HE
    go_wp2_with fail
    refine (impl_FormatInt (n := 10) (by omega) (by omega) HT3.out).mono ?_
    rintro e w4 ⟨rfl, hb4⟩
    have HB4 := Lib.hid (bthen HB3.out hb4)
    clear hb4
    rw [itoa_ten]
    go_wp2
    go_ret
    exact ⟨rfl, HB4.out⟩
  · obtain ⟨hx, ehx⟩ : ∃ hx, Hid (encHexS s = hx) := ⟨_, rfl⟩
    have h20 : s.size ≤ 20000 := by omega
    have hsz : hx.size = s.size * 2 := by rw [← ehx.out]; exact size_enc h20
    have HE : Hid (∀ W, Calls Tryd.prog 12 #[.string s] W fun e w' => e = .returned (.tuple #[.string hx, .bool true]) ∧ Below W.heap.size W w') := fun W => by
      have := impl_EncodeHex (w := W) hs
      rwa [(encHex_fits hl).2, ehx.out] at this
    have HD : Hid (∀ W, Calls Tryd.prog 13 #[.string hx] W fun e w' => e = .returned (.tuple #[.string s, .bool true]) ∧ Below W.heap.size W w') := fun W => by
      have := impl_DecodeHex (s := hx) (w := W) (by omega)
      rw [← ehx.out, (hex_again h20).1, (hex_again h20).2, ehx.out] at this
      exact this
    go_wp2_with fail
    refine (HE.out _).mono ?_
    rintro e w3 ⟨rfl, hb3⟩
    have HB3 := Lib.hid (bthen HB.out hb3)
    clear hb3 HE
    go_wp2_with fail
    refine (HD.out _).mono ?_
    rintro e w4 ⟨rfl, hb4⟩
    have HB4 := Lib.hid (bthen HB3.out hb4)
    clear hb4 HD
    go_wp2
    go_ret
    exact ⟨ret_bool (beq_iff_eq.2 (by omega)), HB4.out⟩

/-- A world that holds what the row lists. -/
noncomputable def laidWorld (os : Os) : World :=
  { World.holding Tryd.prog os ⟨#[], #[], []⟩ with heap := ((((World.holding Tryd.prog os ⟨#[], #[], []⟩).heap.modify 3 fun
      | .cells _ t frozen => .cells #[.int .u64 1, .int .u64 10, .int .u64 100, .int .u64 1000, .int .u64 10000, .int .u64 100000, .int .u64 1000000, .int .u64 10000000, .int .u64 100000000, .int .u64 1000000000, .int .u64 10000000000, .int .u64 100000000000, .int .u64 1000000000000, .int .u64 10000000000000, .int .u64 100000000000000, .int .u64 1000000000000000, .int .u64 10000000000000000, .int .u64 100000000000000000, .int .u64 1000000000000000000, .int .u64 10000000000000000000] t frozen
      | o => o).modify 4 fun
      | .cells _ t frozen => .cells #[.int .u8 0, .int .u8 1, .int .u8 28, .int .u8 2, .int .u8 29, .int .u8 14, .int .u8 24, .int .u8 3, .int .u8 30, .int .u8 22, .int .u8 20, .int .u8 15, .int .u8 25, .int .u8 17, .int .u8 4, .int .u8 8, .int .u8 31, .int .u8 27, .int .u8 13, .int .u8 23, .int .u8 21, .int .u8 19, .int .u8 16, .int .u8 7, .int .u8 26, .int .u8 12, .int .u8 18, .int .u8 6, .int .u8 11, .int .u8 5, .int .u8 10, .int .u8 9] t frozen
      | o => o).modify 5 fun
      | .cells _ t frozen => .cells #[.int .u8 0, .int .u8 1, .int .u8 56, .int .u8 2, .int .u8 57, .int .u8 49, .int .u8 28, .int .u8 3, .int .u8 61, .int .u8 58, .int .u8 42, .int .u8 50, .int .u8 38, .int .u8 29, .int .u8 17, .int .u8 4, .int .u8 62, .int .u8 47, .int .u8 59, .int .u8 36, .int .u8 45, .int .u8 43, .int .u8 51, .int .u8 22, .int .u8 53, .int .u8 39, .int .u8 33, .int .u8 30, .int .u8 24, .int .u8 18, .int .u8 12, .int .u8 5, .int .u8 63, .int .u8 55, .int .u8 48, .int .u8 27, .int .u8 60, .int .u8 41, .int .u8 37, .int .u8 16, .int .u8 46, .int .u8 35, .int .u8 44, .int .u8 21, .int .u8 52, .int .u8 32, .int .u8 23, .int .u8 11, .int .u8 54, .int .u8 26, .int .u8 40, .int .u8 15, .int .u8 34, .int .u8 20, .int .u8 31, .int .u8 10, .int .u8 25, .int .u8 14, .int .u8 19, .int .u8 9, .int .u8 13, .int .u8 8, .int .u8 7, .int .u8 6] t frozen
      | o => o) }
set_option maxRecDepth 100000 in
theorem laid_met (os : Os) : laidMet Tryd.prog Rows.fnHexTextRow.laid ((laidWorld os).forCall (fun _ _ => 0) ⟨#[], #[.slice none 0 0], []⟩).memory :=
  laidMet_of_run' 8 (by kernel_rfl) (by kernel_rfl)
theorem reads (os : Os) {H : Type} (enc : TypeId × Value → H) : ∃ places, DataW.whole enc Tryd.prog ((laidWorld os).forCall (fun _ _ => 0) ⟨#[], #[.slice none 0 0], []⟩).memory Tryd.f4.params.toList Rows.fnHexTextSpec.vars false #[(.slice none 0 0 : Value)].toList 8 = some ([.nil], [], places) :=
  ⟨[], by kernel_rfl⟩
set_option maxRecDepth 100000 in
theorem lifted (os : Os) (started : os.Started) (H : Type) (enc : TypeId × Value → H) (F : Stop.Interp) :
    ReturnsInHanded {} Tryd.checked os 4 .any ((OpenSpec.ofChange Rows.fnHexTextSpec).preRow enc Tryd.prog Tryd.f4 Rows.fnHexTextRow.domain false Rows.fnHexTextRow.laid) (((OpenSpec.ofChange Rows.fnHexTextSpec).at F).post enc Tryd.prog Tryd.f4 false true false false) := by
  obtain ⟨places, hx⟩ := reads os enc
  refine returnsInHanded_of_row (C := Tryd.checked) (s := OpenSpec.ofChange Rows.fnHexTextSpec) Tryd_own started (by kernel_rfl) Tryd.func4
    (witness_row_at (enc := enc) (C := Tryd.checked) false (laidWorld os) #[.slice none 0 0] rfl (by kernel_rfl) (by kernel_rfl) (by kernel_rfl)
      (OpenSpec.preRow_of_cond 8 hx (by kernel_rfl) (fun k hk => by cases hk) (by kernel_rfl) (laid_met os))) ?_
  intro W base args ds gs before hval0 hW _ _ _ hL _ _
  have hval : ∀ (j : Nat) t v, Tryd.f4.params[j]? = some t → args[j]? = some v → Value.okWide Tryd.prog W .any base t v := hval0
  have hW' := hW
  obtain ⟨p, q, hA0, hV, rfl, hfz, hnd⟩ := hW
  have hA : DataW.TrodAll enc Tryd.prog W 0 (fun _ => true) true Tryd.f4.params.toList args.toList ds p := hA0
  rw [Tryd.params4] at hA hval
  obtain ⟨v0, vs0, d0, ds0, p0, q0, hargs, rfl, rfl, h0, r0⟩ := trodAll_cons hA
  obtain ⟨rfl, rfl, rfl⟩ := trodAll_nil r0
  obtain rfl : args = #[v0] := by cases args; simp_all
  obtain ⟨rfl, rfl⟩ := trodVars_none hV
  have hL3 := hL
  obtain ⟨A0, n0, c0, rfl⟩ := okWide_slice Tryd.underlying24 (hval 0 24 v0 rfl rfl)
  have k0 := h0
  have lt0 : ∀ x ∈ p0, x.block < W.heap.size := by obtain ⟨m, hm⟩ := k0; exact DataW.trod_lt m _ _ _ hm
  obtain ⟨l0, rfl, cm0, cl0, rd0⟩ := open_bytes_arg Tryd.underlying24 Tryd.underlying5 (by kernel_rfl) h0
  clear hA0 hval0
  refine (walk W A0 c0 l0 cm0 cl0 rd0 (tab_of hL3)).mono fun e W' ⟨he, bel⟩ => ?_
  subst he
  exact ⟨_, rfl, _, _, _, [], _, [], hW', trodAll_mk1 (shut_bool Tryd.underlying4 _), (trodAll_cons_mk (Below.trod Tryd_laidOut (by kernel_rfl) (of_decide_eq_true (by kernel_rfl)) k0 bel lt0) trodAll_mk0), rfl, bel.frame _, fun h => by cases h⟩

theorem said : Rows.FnHexTextSaid :=
  OpenClaim.holds_of_cond 4 Tryd.f4 rfl rfl rfl rfl rfl rfl rfl ⟨rfl, rfl, rfl, rfl, rfl⟩ rfl rfl rfl rfl rfl (by kernel_rfl) Tryd.func4 (by kernel_rfl)
    (of_decide_eq_true (by kernel_rfl)) (by unfold Func.isWrapper; first | (rw [if_pos (by decide +kernel)]; kernel_rfl) | (rw [if_neg (by decide +kernel)]; exact ⟨rfl, rfl⟩))
    (fun os started H enc _ F => by rw [OpenClaim.pre_eq_preRow]; exact lifted os started H enc F)

theorem proved : Rows.FnHexTextCardSaid :=
  Claim7.holds_tied_plain_at .later [] _ _ _ _ said (fun _ h => by cases h) (by kernel_rfl) (fun _ h => by cases h) fnHexText_row_tie rfl ⟨rfl, rfl⟩ (by kernel_rfl) rfl
    (fun f fn hf hfn => by
      obtain rfl : f = 4 := Option.some.inj ((show Tryd.prog.funcNamed "loop.example/g03309/laws.FnHexText" = some 4 by kernel_rfl).symm.trans hf) |>.symm
      obtain rfl : fn = Tryd.f4 := (Option.some.inj (Tryd.func4.symm.trans hfn)).symm
      refine ⟨by kernel_rfl, fun j t ht => ?_⟩
      rw [Tryd.params4] at ht
      obtain rfl : t = 24 := by simpa using Array.mem_of_getElem? ht
      exact (show Tryd.prog.wantsStandIn 24 = false by kernel_rfl))
    (by kernel_rfl)
end Go.Proofs.YtelmilgdoefmdaaDoor.lawHexText
