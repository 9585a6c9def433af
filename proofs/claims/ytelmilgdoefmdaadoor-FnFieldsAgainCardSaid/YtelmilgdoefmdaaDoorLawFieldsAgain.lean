/- Whatever the bytes of the draw, the law FnFieldsAgain answers true: the fields of a line, joined by single spaces, have the same fields. The library's tables, which strconv.Itoa reads, start as the program's text lays them; there is no other condition. -/
import Derived.Test.YtelmilgdoefmdaaDoorFrameB
import Derived.Test.YtelmilgdoefmdaaDoorFrameL
import Derived.Test.YtelmilgdoefmdaaDoorDrawF
import Derived.Test.YtelmilgdoefmdaaDoorFldP
namespace Go.Proofs.YtelmilgdoefmdaaDoor.lawFieldsAgain
open Go.ChangeShapes Go.WideShapes Go.ChangeAt Go.RowKit
set_option linter.unusedVariables false
theorem laws_big {A : Option Addr} {n c : Nat} {w : World} : Calls Tryd.prog 10 #[.slice A n c] w fun e w' => e = .returned (.bool (decide (1048576 < n))) ∧ w = w' := by
  go_enter Tryd.func10, Tryd.ntmps10
  go_wp2
  go_ret
  exact ⟨ret_bool (by simp; omega), rfl⟩
theorem laws_sameTexts {l : List ByteArray} {A B : Option Addr} {n m c d : Nat} {w : World} (h1 : RS w A l) (h2 : RS w B l) (hn : n = l.length) (hm : m = l.length) :
    Calls Tryd.prog 17 #[.slice A n c, .slice B m d] w fun e w' => e = .returned (.bool true) ∧ Below w.heap.size w w' := by
  subst hn hm
  have hl := h1.1
  have H1 := Lib.hid h1; have H2 := Lib.hid h2; clear h1 h2
  go_enter Tryd.func17, Tryd.ntmps17
  go_wp2
  go_loopw [5] (fun i wr => ∃ k : Nat, k ≤ l.length ∧ i = .int .i64 k ∧ Below w.heap.size w wr) (fun i _ => l.length - (intOf i).toNat)
  case atStart => exact ⟨0, Nat.zero_le _, rfl, Below.refl _ _⟩
  case round =>
    obtain ⟨k, hk, rfl, hbel⟩ := hrel
    by_cases hlt : k < l.length
    · obtain ⟨b, off, rfl, hP⟩ := H1.out.2 (by omega)
      obtain ⟨b', off', rfl, hP'⟩ := H2.out.2 (by omega)
      obtain ⟨u, hu⟩ : ∃ u, Hid (l.getD k ⟨#[]⟩ = u) := ⟨_, rfl⟩
      have k1 := hP k hlt
      have k2 := hP' k hlt
      rw [hu.out] at k1 k2
      have c1 := cell_after k1 hbel
      have c2 := cell_after k2 hbel
      clear hP hP' k1 k2
      go_wp2_with fail
      refine wp_region_after (by kernel_rfl) (by kernel_rfl) ?_
      repeat (go_big_quiet_step (fail))
      refine wpQuiet_nil ?_
      rintro _ ⟨⟨wq, hq⟩, rfl⟩
      replace hbel := bthen hbel hq
      clear hq
      clear c1 c2
      go_wp2
      go_roundw
      case rel => exact ⟨k + 1, by omega, by go_num, hbel⟩
      case measure => simp [intOf]; omega
    · go_wp2
      go_ret
      exact ⟨rfl, hbel⟩
theorem itoa_m3 : itoaS (-3) = ⟨#[45, 51]⟩ := by
  unfold itoaS Lib.itoa
  rw [if_pos (by omega), show (-3 : Int).natAbs = 3 from rfl, Lib.decDigits, dif_pos (by omega)]; rfl
theorem take_join {p : List ByteArray} {k : Nat} (hk : k < p.length) {f : ByteArray} (e : Hid (p.getD k ⟨#[]⟩ = f)) : joinS (p.take k) ++ f ++ ⟨#[32]⟩ = joinS (p.take (k + 1)) := by
  rw [joinS_snoc, List.take_succ_eq_append_getElem hk, ← e.out, List.getD_eq_getElem?_getD, List.getElem?_eq_getElem hk]; rfl
theorem join_le' (p : List ByteArray) (k : Nat) : (joinS (p.take k)).size ≤ (joinL p).length := join_le p k
set_option maxHeartbeats 4000000 in
theorem walk (w : World) (A0 : Option Addr) (c0 : Nat) (l0 : List Int) (cm0 : c0 ≤ maxLen) (cl0 : l0.length ≤ c0) (rd0 : 0 < l0.length → ∃ b off, A0 = some ⟨b, off, none⟩ ∧ BytesAt w b off l0) (ht : Tab w) :
    Calls Tryd.prog 5 #[.slice A0 l0.length c0] w fun e w' => e = .returned (.bool true) ∧ Below w.heap.size w w' := by
  have HT := Lib.hid ht; clear ht
  by_cases zz : 1048576 < l0.length
  · go_enter Tryd.func5, Tryd.ntmps5
    go_wp2_with fail
    refine (laws_big).mono ?_
    rintro e w1 ⟨rfl, rfl⟩
    rw [decide_eq_true zz]
    go_wp2
    go_ret
    exact ⟨rfl, Below.refl _ _⟩
  have R := Lib.hid (bytes_ru (Nat.le_of_not_lt zz) rd0)
  clear rd0
  go_enter Tryd.func5, Tryd.ntmps5
  go_wp2_with fail
  refine (laws_big).mono ?_
  rintro e w1 ⟨rfl, rfl⟩
  rw [decide_eq_false zz]
  clear zz cm0 cl0
  go_wp2_with fail
  refine (spec_DrawSplitFields R.out).mono ?_
  rintro e w2 ⟨s, rfl, hs, hb⟩
  have HB := Lib.hid hb
  have HS := Lib.hid hs
  clear hb hs
  obtain ⟨p, hp⟩ : ∃ p, Hid (spL s = p) := ⟨_, rfl⟩
  obtain ⟨m, hm⟩ : ∃ m, Hid (p.length = m) := ⟨_, rfl⟩
  obtain ⟨ok, hok⟩ : ∃ ok, Hid (spOk s = ok) := ⟨_, rfl⟩
  have HI : Hid (∀ W, Calls Tryd.prog 15 #[.string s] W fun e w' => ∃ B d, e = .returned (.tuple #[.slice B m d, .bool ok]) ∧ RS w' B p ∧ Below W.heap.size W w') := fun W => by
    have := impl_SplitFields (w := W) HS.out
    rw [hp.out, hm.out, hok.out] at this
    exact this.mono fun e w' ⟨B, d, he, O, hq⟩ => ⟨B, d, he, O.reads, hq⟩
  have HP : Hid (∀ W, Calls Tryd.prog 16 #[.string s] W fun e w' => ∃ B d, e = .returned (.tuple #[.slice B m d, .bool ok]) ∧ Below W.heap.size W w') := fun W => by
    have := spec_SplitFields (w := W) HS.out
    rw [hp.out, hm.out, hok.out] at this
    exact this.mono fun e w' ⟨B, d, he, O, hq⟩ => ⟨B, d, he, hq⟩
  go_wp2_with fail
  refine (HI.out _).mono ?_
  rintro e w3 ⟨P, cP, rfl, RP3, hq⟩
  have RPh := Lib.hid RP3
  have HB3 := Lib.hid (bthen HB.out hq)
  clear hq RP3
  go_wp2_with fail
  refine (HP.out _).mono ?_
  rintro e w4 ⟨P', cP', rfl, hq⟩
  have RP4 := Lib.hid (RPh.out.below hq)
  have HB4 := Lib.hid (bthen HB3.out hq)
  clear hq RPh HB3 HI HP
  cases ok
  · have hm0 : m = 0 := by
      rw [← hm.out, ← hp.out, (sp_no hok.out).1]; rfl
    subst hm0
    go_wp2_with fail
    refine (impl_FormatInt (n := -3) (by omega) (by omega) (HT.out.below HB4.out)).mono ?_
    rintro e w5 ⟨rfl, hb5⟩
    have HB5 := Lib.hid (bthen HB4.out hb5)
    clear hb5
    rw [itoa_m3]
    go_wp2
    go_ret
    exact ⟨rfl, HB5.out⟩
  · obtain ⟨g1, g2, g3⟩ := sp_good hok.out
    rw [hp.out] at g1 g2 g3
    have G1 := Lib.hid g1
    have hm24 : m ≤ 24 := by rw [← hm.out]; exact g2
    have G2 := Lib.hid g2
    clear g1 g2 hok
    go_wp2
    go_loopw [8, 9] (fun v i wr => ∃ (k : Nat) (S : ByteArray), k ≤ m ∧ i = .int .i64 k ∧ v = .string S ∧ Hid (joinS (p.take k) = S) ∧ S.size ≤ 601 ∧ Below w4.heap.size w4 wr) (fun _ i _ => m - (intOf i).toNat)
    case atStart => exact ⟨0, ⟨#[]⟩, Nat.zero_le _, rfl, rfl, rfl, by show 0 ≤ _; omega, Below.refl _ _⟩
    case round =>
      obtain ⟨k, S, hk, rfl, rfl, hS, hSz, hbel⟩ := hrel
      by_cases hlt : k < m
      · have hlp : k < p.length := by rw [hm.out]; exact hlt
        obtain ⟨b, off, rfl, hP⟩ := RP4.out.2 (by omega)
        obtain ⟨f, hf⟩ : ∃ f, Hid (p.getD k ⟨#[]⟩ = f) := ⟨_, rfl⟩
        have c1 := hP k hlp
        rw [hf.out] at c1
        have c2 := cell_later c1 hbel
        have hj := take_join hlp hf
        rw [hS.out] at hj
        have hz : (S ++ f ++ (⟨#[32]⟩ : ByteArray)).size = S.size + f.size + 1 := by rw [ByteArray.size_append, ByteArray.size_append]; rfl
        have hz1 : (S ++ f).size = S.size + f.size := ByteArray.size_append
        have hle := join_le' p (k + 1)
        rw [← hj, hz] at hle
        have hfz : f.size ≤ 601 := by omega
        have hz32 : (⟨#[32]⟩ : ByteArray).size = 1 := rfl
        have hS2 : Hid (joinS (p.take (k + 1)) = S ++ f ++ (⟨#[32]⟩ : ByteArray)) := hj.symm
        have HZ : Hid ((S ++ f ++ (⟨#[32]⟩ : ByteArray)).size ≤ 601) := by show _ ≤ _; omega
        have HBl := Lib.hid hbel
        clear hP c1 hj hz hle hlp hbel
        go_wp2
        go_roundw
        case rel => exact ⟨k + 1, _, by omega, by go_num, rfl, hS2, HZ.out, HBl.out⟩
        case measure => simp [intOf]; omega
      · obtain rfl : k = m := by omega
        have hSJ : Hid (joinS p = S) := by
          have h := hS.out
          rw [← hm.out, List.take_length] at h
          exact h
        have RPr := Lib.hid (RP4.out.below hbel)
        have HBr := Lib.hid (bthen HB4.out hbel)
        clear hbel hS RP4
        by_cases h600 : 600 < S.size
        · obtain ⟨p2, hp2⟩ : ∃ q, Hid (spL S = q) := ⟨_, rfl⟩
          obtain ⟨m2, hm2⟩ : ∃ q, Hid (p2.length = q) := ⟨_, rfl⟩
          have HI : Hid (∀ W, Calls Tryd.prog 15 #[.string S] W fun e w' => ∃ B d, e = .returned (.tuple #[.slice B m2 d, .bool false]) ∧ Below W.heap.size W w') := fun W => by
            have := impl_SplitFields (s := S) (w := W) (by omega)
            rw [hp2.out, hm2.out, sp_long h600] at this
            exact this.mono fun e w' ⟨B, d, he, O, hq⟩ => ⟨B, d, he, hq⟩
          go_wp2_with fail
          refine (HI.out _).mono ?_
          rintro e w5 ⟨D, d, rfl, hq⟩
          have HB5 := Lib.hid (bthen HBr.out hq)
          clear hq HI
          go_wp2
          go_ret
          exact ⟨rfl, HB5.out⟩
        · obtain ⟨j1, j2⟩ := join_again G1.out G2.out (by rw [hSJ.out]; omega)
          rw [hSJ.out] at j1 j2
          have HI : Hid (∀ W, Calls Tryd.prog 15 #[.string S] W fun e w' => ∃ B d, e = .returned (.tuple #[.slice B k d, .bool true]) ∧ RS w' B p ∧ Below W.heap.size W w') := fun W => by
            have := impl_SplitFields (s := S) (w := W) (by omega)
            rw [j1, j2, hm.out] at this
            exact this.mono fun e w' ⟨B, d, he, O, hq⟩ => ⟨B, d, he, O.reads, hq⟩
          clear j1 j2
          go_wp2_with fail
          refine (HI.out _).mono ?_
          rintro e w5 ⟨D, d, rfl, RD, hq⟩
          have HB5 := Lib.hid (bthen HBr.out hq)
          have RP5 := Lib.hid (RPr.out.below hq)
          have RD5 := Lib.hid RD
          clear hq HI RD
          go_wp2_with fail
          refine (laws_sameTexts RP5.out RD5.out hm.out.symm hm.out.symm).mono ?_
          rintro e w6 ⟨rfl, hq⟩
          have HB6 := Lib.hid (bthen HB5.out hq)
          clear hq
          go_wp2
          go_ret
          exact ⟨rfl, HB6.out⟩

/-- A world that holds what the row lists. -/
noncomputable def laidWorld (os : Os) : World :=
  { World.holding Tryd.prog os ⟨#[], #[], []⟩ with heap := ((((World.holding Tryd.prog os ⟨#[], #[], []⟩).heap.modify 3 fun
      | .cells _ t frozen => .cells #[.int .u64 1, .int .u64 10, .int .u64 100, .int .u64 1000, .int .u64 10000, .int .u64 100000, .int .u64 1000000, .int .u64 10000000, .int .u64 100000000, .int .u64 1000000000, .int .u64 10000000000, .int .u64 100000000000, .int .u64 1000000000000, .int .u64 10000000000000, .int .u64 100000000000000, .int .u64 1000000000000000, .int .u64 10000000000000000, .int .u64 100000000000000000, .int .u64 1000000000000000000, .int .u64 10000000000000000000] t frozen
      | o => o).modify 4 fun
      | .cells _ t frozen => .cells #[.int .u8 0, .int .u8 1, .int .u8 28, .int .u8 2, .int .u8 29, .int .u8 14, .int .u8 24, .int .u8 3, .int .u8 30, .int .u8 22, .int .u8 20, .int .u8 15, .int .u8 25, .int .u8 17, .int .u8 4, .int .u8 8, .int .u8 31, .int .u8 27, .int .u8 13, .int .u8 23, .int .u8 21, .int .u8 19, .int .u8 16, .int .u8 7, .int .u8 26, .int .u8 12, .int .u8 18, .int .u8 6, .int .u8 11, .int .u8 5, .int .u8 10, .int .u8 9] t frozen
      | o => o).modify 5 fun
      | .cells _ t frozen => .cells #[.int .u8 0, .int .u8 1, .int .u8 56, .int .u8 2, .int .u8 57, .int .u8 49, .int .u8 28, .int .u8 3, .int .u8 61, .int .u8 58, .int .u8 42, .int .u8 50, .int .u8 38, .int .u8 29, .int .u8 17, .int .u8 4, .int .u8 62, .int .u8 47, .int .u8 59, .int .u8 36, .int .u8 45, .int .u8 43, .int .u8 51, .int .u8 22, .int .u8 53, .int .u8 39, .int .u8 33, .int .u8 30, .int .u8 24, .int .u8 18, .int .u8 12, .int .u8 5, .int .u8 63, .int .u8 55, .int .u8 48, .int .u8 27, .int .u8 60, .int .u8 41, .int .u8 37, .int .u8 16, .int .u8 46, .int .u8 35, .int .u8 44, .int .u8 21, .int .u8 52, .int .u8 32, .int .u8 23, .int .u8 11, .int .u8 54, .int .u8 26, .int .u8 40, .int .u8 15, .int .u8 34, .int .u8 20, .int .u8 31, .int .u8 10, .int .u8 25, .int .u8 14, .int .u8 19, .int .u8 9, .int .u8 13, .int .u8 8, .int .u8 7, .int .u8 6] t frozen
      | o => o) }
set_option maxRecDepth 100000 in
theorem laid_met (os : Os) : laidMet Tryd.prog Rows.fnFieldsAgainRow.laid ((laidWorld os).forCall (fun _ _ => 0) ⟨#[], #[.slice none 0 0], []⟩).memory :=
  laidMet_of_run' 8 (by kernel_rfl) (by kernel_rfl)
theorem reads (os : Os) {H : Type} (enc : TypeId × Value → H) : ∃ places, DataW.whole enc Tryd.prog ((laidWorld os).forCall (fun _ _ => 0) ⟨#[], #[.slice none 0 0], []⟩).memory Tryd.f5.params.toList Rows.fnFieldsAgainSpec.vars false #[(.slice none 0 0 : Value)].toList 8 = some ([.nil], [], places) :=
  ⟨[], by kernel_rfl⟩
set_option maxRecDepth 100000 in
theorem lifted (os : Os) (started : os.Started) (H : Type) (enc : TypeId × Value → H) (F : Stop.Interp) :
    ReturnsInHanded {} Tryd.checked os 5 .any ((OpenSpec.ofChange Rows.fnFieldsAgainSpec).preRow enc Tryd.prog Tryd.f5 Rows.fnFieldsAgainRow.domain false Rows.fnFieldsAgainRow.laid) (((OpenSpec.ofChange Rows.fnFieldsAgainSpec).at F).post enc Tryd.prog Tryd.f5 false true false false) := by
  obtain ⟨places, hx⟩ := reads os enc
  refine returnsInHanded_of_row (C := Tryd.checked) (s := OpenSpec.ofChange Rows.fnFieldsAgainSpec) Tryd_own started (by kernel_rfl) Tryd.func5
    (witness_row_at (enc := enc) (C := Tryd.checked) false (laidWorld os) #[.slice none 0 0] rfl (by kernel_rfl) (by kernel_rfl) (by kernel_rfl)
      (OpenSpec.preRow_of_cond 8 hx (by kernel_rfl) (fun k hk => by cases hk) (by kernel_rfl) (laid_met os))) ?_
  intro W base args ds gs before hval0 hW _ _ _ hL _ _
  have hval : ∀ (j : Nat) t v, Tryd.f5.params[j]? = some t → args[j]? = some v → Value.okWide Tryd.prog W .any base t v := hval0
  have hW' := hW
  obtain ⟨p, q, hA0, hV, rfl, hfz, hnd⟩ := hW
  have hA : DataW.TrodAll enc Tryd.prog W 0 (fun _ => true) true Tryd.f5.params.toList args.toList ds p := hA0
  rw [Tryd.params5] at hA hval
  obtain ⟨v0, vs0, d0, ds0, p0, q0, hargs, rfl, rfl, h0, r0⟩ := trodAll_cons hA
  obtain ⟨rfl, rfl, rfl⟩ := trodAll_nil r0
  obtain rfl : args = #[v0] := by cases args; simp_all
  obtain ⟨rfl, rfl⟩ := trodVars_none hV
  have hL3 := hL
  obtain ⟨A0, n0, c0, rfl⟩ := okWide_slice Tryd.underlying24 (hval 0 24 v0 rfl rfl)
  have k0 := h0
  have lt0 : ∀ x ∈ p0, x.block < W.heap.size := by obtain ⟨m, hm⟩ := k0; exact DataW.trod_lt m _ _ _ hm
  obtain ⟨l0, rfl, cm0, cl0, rd0⟩ := open_bytes_arg Tryd.underlying24 Tryd.underlying5 (by kernel_rfl) h0
  clear hA0 hval0
  refine (walk W A0 c0 l0 cm0 cl0 rd0 (tab_of hL3)).mono fun e W' ⟨he, bel⟩ => ?_
  subst he
  exact ⟨_, rfl, _, _, _, [], _, [], hW', trodAll_mk1 (shut_bool Tryd.underlying4 _), (trodAll_cons_mk (Below.trod Tryd_laidOut (by kernel_rfl) (of_decide_eq_true (by kernel_rfl)) k0 bel lt0) trodAll_mk0), rfl, bel.frame _, fun h => by cases h⟩

theorem said : Rows.FnFieldsAgainSaid :=
  OpenClaim.holds_of_cond 5 Tryd.f5 rfl rfl rfl rfl rfl rfl rfl ⟨rfl, rfl, rfl, rfl, rfl⟩ rfl rfl rfl rfl rfl (by kernel_rfl) Tryd.func5 (by kernel_rfl)
    (of_decide_eq_true (by kernel_rfl)) (by unfold Func.isWrapper; first | (rw [if_pos (by decide +kernel)]; kernel_rfl) | (rw [if_neg (by decide +kernel)]; exact ⟨rfl, rfl⟩))
    (fun os started H enc _ F => by rw [OpenClaim.pre_eq_preRow]; exact lifted os started H enc F)

theorem proved : Rows.FnFieldsAgainCardSaid :=
  Claim7.holds_tied_plain_at .later [] _ _ _ _ said (fun _ h => by cases h) (by kernel_rfl) (fun _ h => by cases h) fnFieldsAgain_row_tie rfl ⟨rfl, rfl⟩ (by kernel_rfl) rfl
    (fun f fn hf hfn => by
      obtain rfl : f = 5 := Option.some.inj ((show Tryd.prog.funcNamed "loop.example/g03309/laws.FnFieldsAgain" = some 5 by kernel_rfl).symm.trans hf) |>.symm
      obtain rfl : fn = Tryd.f5 := (Option.some.inj (Tryd.func5.symm.trans hfn)).symm
      refine ⟨by kernel_rfl, fun j t ht => ?_⟩
      rw [Tryd.params5] at ht
      obtain rfl : t = 24 := by simpa using Array.mem_of_getElem? ht
      exact (show Tryd.prog.wantsStandIn 24 = false by kernel_rfl))
    (by kernel_rfl)
end Go.Proofs.YtelmilgdoefmdaaDoor.lawFieldsAgain
