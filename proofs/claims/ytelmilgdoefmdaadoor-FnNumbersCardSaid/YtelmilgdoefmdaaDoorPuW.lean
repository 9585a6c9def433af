/- ParseUint: the program's by the shelf's contracts of strconv.Atoi, the reference's by its walk. -/
import Derived.Test.YtelmilgdoefmdaaDoorPuP
import Derived.Test.YtelmilgdoefmdaaDoorFrameL
import Derived.Lib.SmallJoins
import Derived.Stop.LaidErr
import Derived.Shelf.Strconv.AtoiAll
import Derived.Shelf.Strconv.ErrVarAll
namespace Go.Proofs
open Go.Shelf
def Tryd.lays172_ren : Go.Shelf.Ren := ⟨fun | 172 => 30 | 244 => 35 | 245 => 36 | 247 => 40 | 279 => 41 | 280 => 42 | 281 => 43 | 282 => 44 | 287 => 49 | 316 => 50 | 171 => 22 | 205 => 51 | 321 => 57 | 322 => 58 | 243 => 32 | 246 => 38 | 283 => 45 | 284 => 46 | 285 => 47 | 286 => 48 | 129 => 53 | 317 => 52 | 318 => 54 | 319 => 55 | 320 => 56 | 337 => 59 | 338 => 60 | n => n, fun | 9 => 9 | 3 => 3 | 75 => 47 | 76 => 48 | 4 => 4 | 5 => 5 | 167 => 58 | 37 => 24 | 0 => 0 | 85 => 59 | 2 => 2 | 168 => 61 | 53 => 65 | 175 => 70 | 46 => 57 | 210 => 74 | 127 => 83 | 145 => 86 | 143 => 84 | 21 => 21 | 171 => 64 | 173 => 68 | 212 => 78 | 51 => 79 | 20 => 20 | 213 => 80 | 232 => 88 | 233 => 89 | 80 => 90 | n => n, fun | 15 => 1 | 16 => 2 | 17 => 3 | 18 => 4 | 19 => 5 | n => n⟩
theorem Tryd.lays172 : Go.Proofs.LaysC.n172 Tryd.prog Tryd.lays172_ren := {
  mixed := by kernel_rfl
  f129 := Tryd.func53.trans (congrArg some (by kernel_rfl))
  f171 := Tryd.func22.trans (congrArg some (by kernel_rfl))
  f172 := Tryd.func30.trans (congrArg some (by kernel_rfl))
  f205 := Tryd.func51.trans (congrArg some (by kernel_rfl))
  f243 := Tryd.func32.trans (congrArg some (by kernel_rfl))
  f244 := Tryd.func35.trans (congrArg some (by kernel_rfl))
  f245 := Tryd.func36.trans (congrArg some (by kernel_rfl))
  f246 := Tryd.func38.trans (congrArg some (by kernel_rfl))
  f247 := Tryd.func40.trans (congrArg some (by kernel_rfl))
  f279 := Tryd.func41.trans (congrArg some (by kernel_rfl))
  f280 := Tryd.func42.trans (congrArg some (by kernel_rfl))
  f281 := Tryd.func43.trans (congrArg some (by kernel_rfl))
  f282 := Tryd.func44.trans (congrArg some (by kernel_rfl))
  f283 := Tryd.func45.trans (congrArg some (by kernel_rfl))
  f284 := Tryd.func46.trans (congrArg some (by kernel_rfl))
  f285 := Tryd.func47.trans (congrArg some (by kernel_rfl))
  f286 := Tryd.func48.trans (congrArg some (by kernel_rfl))
  f287 := Tryd.func49.trans (congrArg some (by kernel_rfl))
  f316 := Tryd.func50.trans (congrArg some (by kernel_rfl))
  f317 := Tryd.func52.trans (congrArg some (by kernel_rfl))
  f318 := Tryd.func54.trans (congrArg some (by kernel_rfl))
  f319 := Tryd.func55.trans (congrArg some (by kernel_rfl))
  f320 := Tryd.func56.trans (congrArg some (by kernel_rfl))
  f321 := Tryd.func57.trans (congrArg some (by kernel_rfl))
  f322 := Tryd.func58.trans (congrArg some (by kernel_rfl))
  f337 := Tryd.func59.trans (congrArg some (by kernel_rfl))
  f338 := Tryd.func60.trans (congrArg some (by kernel_rfl))
  t0 := Tryd.underlying0
  a0 := Tryd.isAgg0
  z0 := Tryd.sizeOf0
  v0 := Tryd.zeroValue0
  t2 := Tryd.underlying2
  a2 := Tryd.isAgg2
  z2 := Tryd.sizeOf2
  v2 := Tryd.zeroValue2
  t3 := Tryd.underlying3
  a3 := Tryd.isAgg3
  z3 := Tryd.sizeOf3
  v3 := Tryd.zeroValue3
  t4 := Tryd.underlying4
  a4 := Tryd.isAgg4
  z4 := Tryd.sizeOf4
  v4 := Tryd.zeroValue4
  t5 := Tryd.underlying5
  a5 := Tryd.isAgg5
  z5 := Tryd.sizeOf5
  v5 := Tryd.zeroValue5
  t9 := Tryd.underlying9
  a9 := Tryd.isAgg9
  z9 := Tryd.sizeOf9
  v9 := Tryd.zeroValue9
  t20 := Tryd.underlying20
  a20 := Tryd.isAgg20
  z20 := Tryd.sizeOf20
  v20 := Tryd.zeroValue20
  t21 := Tryd.underlying21
  a21 := Tryd.isAgg21
  z21 := Tryd.sizeOf21
  v21 := Tryd.zeroValue21
  t37 := Tryd.underlying24
  a37 := Tryd.isAgg24
  z37 := Tryd.sizeOf24
  v37 := Tryd.zeroValue24
  t46 := Tryd.underlying57
  a46 := Tryd.isAgg57
  z46 := Tryd.sizeOf57
  v46 := Tryd.zeroValue57
  t51 := Tryd.underlying79
  a51 := Tryd.isAgg79
  z51 := Tryd.sizeOf79
  v51 := Tryd.zeroValue79
  t53 := Tryd.underlying65
  a53 := Tryd.isAgg65
  z53 := Tryd.sizeOf65
  v53 := Tryd.zeroValue65
  t75 := Tryd.underlying47
  a75 := Tryd.isAgg47
  z75 := Tryd.sizeOf47
  v75 := Tryd.zeroValue47
  t76 := Tryd.underlying48
  a76 := Tryd.isAgg48
  z76 := Tryd.sizeOf48
  v76 := Tryd.zeroValue48
  t85 := Tryd.underlying59
  a85 := Tryd.isAgg59
  z85 := Tryd.sizeOf59
  v85 := Tryd.zeroValue59
  t127 := Tryd.underlying83
  a127 := Tryd.isAgg83
  z127 := Tryd.sizeOf83
  v127 := Tryd.zeroValue83
  t143 := Tryd.underlying84
  a143 := Tryd.isAgg84
  z143 := Tryd.sizeOf84
  v143 := Tryd.zeroValue84
  t145 := Tryd.underlying86
  a145 := Tryd.isAgg86
  z145 := Tryd.sizeOf86
  v145 := Tryd.zeroValue86
  t167 := Tryd.underlying58
  a167 := Tryd.isAgg58
  z167 := Tryd.sizeOf58
  v167 := Tryd.zeroValue58
  t168 := Tryd.underlying61
  a168 := Tryd.isAgg61
  z168 := Tryd.sizeOf61
  v168 := Tryd.zeroValue61
  t171 := Tryd.underlying64
  a171 := Tryd.isAgg64
  z171 := Tryd.sizeOf64
  v171 := Tryd.zeroValue64
  t173 := Tryd.underlying68
  a173 := Tryd.isAgg68
  z173 := Tryd.sizeOf68
  v173 := Tryd.zeroValue68
  t175 := Tryd.underlying70
  a175 := Tryd.isAgg70
  z175 := Tryd.sizeOf70
  v175 := Tryd.zeroValue70
  t210 := Tryd.underlying74
  a210 := Tryd.isAgg74
  z210 := Tryd.sizeOf74
  v210 := Tryd.zeroValue74
  t212 := Tryd.underlying78
  a212 := Tryd.isAgg78
  z212 := Tryd.sizeOf78
  v212 := Tryd.zeroValue78
  t213 := Tryd.underlying80
  a213 := Tryd.isAgg80
  z213 := Tryd.sizeOf80
  t232 := Tryd.underlying88
  a232 := Tryd.isAgg88
  z232 := Tryd.sizeOf88
  v232 := Tryd.zeroValue88
  t233 := Tryd.underlying89
  a233 := Tryd.isAgg89
  z233 := Tryd.sizeOf89
  v233 := Tryd.zeroValue89
  g15 := by kernel_rfl
  g16 := by kernel_rfl
  g17 := by kernel_rfl
  g18 := by kernel_rfl
  g19 := by kernel_rfl
  t80 := Tryd.underlying90
  a80 := Tryd.isAgg90
  z80 := Tryd.sizeOf90
  v80 := Tryd.zeroValue90
  i0 := by kernel_rfl
  i2 := by kernel_rfl
  i3 := by kernel_rfl
  i4 := by kernel_rfl
  i5 := by kernel_rfl
  i9 := by kernel_rfl
  i20 := by kernel_rfl
  i21 := by kernel_rfl
  i37 := by kernel_rfl
  i46 := by kernel_rfl
  i51 := by kernel_rfl
  i53 := by kernel_rfl
  i75 := by kernel_rfl
  i76 := by kernel_rfl
  i80 := by kernel_rfl
  i85 := by kernel_rfl
  i127 := by kernel_rfl
  i143 := by kernel_rfl
  i145 := by kernel_rfl
  i167 := by kernel_rfl
  i168 := by kernel_rfl
  i171 := by kernel_rfl
  i173 := by kernel_rfl
  i175 := by kernel_rfl
  i210 := by kernel_rfl
  i212 := by kernel_rfl
  i232 := by kernel_rfl
  i233 := by kernel_rfl
  m15 := by kernel_rfl
  m16 := by kernel_rfl
  m17 := by kernel_rfl
  m18 := by kernel_rfl
  m19 := by kernel_rfl
  c0 := by kernel_rfl
  c2 := by kernel_rfl
  c3 := by kernel_rfl
  c4 := by kernel_rfl
  c5 := by kernel_rfl
  c9 := by kernel_rfl
  c20 := by kernel_rfl
  c21 := by kernel_rfl
  c37 := by kernel_rfl
  c46 := by kernel_rfl
  c51 := by kernel_rfl
  c53 := by kernel_rfl
  c75 := by kernel_rfl
  c76 := by kernel_rfl
  c80 := by kernel_rfl
  c85 := by kernel_rfl
  c127 := by kernel_rfl
  c143 := by kernel_rfl
  c145 := by kernel_rfl
  c167 := by kernel_rfl
  c168 := by kernel_rfl
  c171 := by kernel_rfl
  c173 := by kernel_rfl
  c175 := by kernel_rfl
  c210 := by kernel_rfl
  c212 := by kernel_rfl
  c213 := by kernel_rfl
  c232 := by kernel_rfl
  c233 := by kernel_rfl }
end Go.Proofs
open Go.Shelf
namespace Go.Proofs.YtelmilgdoefmdaaDoor
open Go.RowKit
set_option linter.unusedVariables false
theorem gSyn : Tryd.prog.globalNamed "strconv.ErrSyntax" = some 1 := by kernel_rfl
theorem gRng : Tryd.prog.globalNamed "strconv.ErrRange" = some 2 := by kernel_rfl
theorem gSynType : (Tryd.prog.globals[1]?).map (·.type) = some 47 := by kernel_rfl
theorem gRngType : (Tryd.prog.globals[2]?).map (·.type) = some 47 := by kernel_rfl
theorem cellsEs : Tryd.prog.cellsOf 86 = 1 := by kernel_rfl
theorem cellsSt : Tryd.prog.cellsOf 9 = 1 := by kernel_rfl
theorem starEs : "*" ++ "errors.errorString" = "*errors.errorString" := by decide
theorem rowEs (u : TypeId) (h : Tryd.prog.typeName? 3 u = some "*errors.errorString") : u = 84 :=
  typeName_ptr_named (nm := "errors.errorString") (by rw [starEs]; kernel_rfl) (by kernel_rfl) (by decide) u (by rw [starEs]; exact h)
/-- The tables and the two sentinels. -/
structure Tabs (w : World) : Prop where
  tab : Tab w
  syn : ∃ tp p, w.var? Tryd.prog "strconv.ErrSyntax" = some #[.iface tp p]
  rng : ∃ tp p, w.var? Tryd.prog "strconv.ErrRange" = some #[.iface tp p]
theorem var_later {w w' : World} {n : String} {g : Nat} {cs : Array Value} (hg : Tryd.prog.globalNamed n = some g) (hv : w.var? Tryd.prog n = some cs) (hb : Below w.heap.size w w') : w'.var? Tryd.prog n = some cs := by
  have hl : g < w.heap.size := by
    refine Nat.lt_of_not_le fun hle => ?_
    unfold World.var? at hv
    rw [hg] at hv
    simp only [Option.bind_some] at hv
    rw [Array.getElem?_eq_none hle] at hv
    cases hv
  unfold World.var? at *
  rw [hg] at *
  simp only [Option.bind_some] at *
  rw [hb.block _ hl]
  exact hv
theorem Tabs.below {w w' : World} (h : Tabs w) (hb : Below w.heap.size w w') : Tabs w' :=
  ⟨h.tab.below hb, h.syn.elim fun tp h => h.elim fun p h => ⟨tp, p, var_later gSyn h hb⟩, h.rng.elim fun tp h => h.elim fun p h => ⟨tp, p, var_later gRng h hb⟩⟩
theorem tabs_of {r : List (String × DataW Unit)} {W : World} (h : laidMet Tryd.prog (("math/bits.deBruijn32tab", Rows.laid_math_bits_deBruijn32tab) :: ("math/bits.deBruijn64tab", Rows.laid_math_bits_deBruijn64tab) :: ("internal/strconv.uint64pow10", Rows.laid_internal_strconv_uint64pow10) :: ("strconv.ErrRange", Rows.laid_strconv_ErrRange) :: ("strconv.ErrSyntax", Rows.laid_strconv_ErrSyntax) :: r) W) : Tabs W := by
  have h3 := h.tail.tail.tail
  obtain ⟨a0, s0, hv0, -, -, -⟩ := laid_sentinel h3 gRng gRngType Tryd.underlying47 rowEs Tryd.underlying84 Tryd.underlying86 rfl rfl Tryd.underlying9 cellsEs cellsSt
  obtain ⟨a1, s1, hv1, -, -, -⟩ := laid_sentinel h3.tail gSyn gSynType Tryd.underlying47 rowEs Tryd.underlying84 Tryd.underlying86 rfl rfl Tryd.underlying9 cellsEs cellsSt
  exact ⟨tab_of h, ⟨_, _, hv1⟩, ⟨_, _, hv0⟩⟩
theorem bytes_ne {a b : ByteArray} (h : a ≠ b) : (a.toList == b.toList) = false := by
  rw [beq_eq_false_iff_ne]
  intro hh
  rw [ByteArray.toList_eq, ByteArray.toList_eq] at hh
  exact h (ByteArray.ext (Array.ext' hh))
theorem ret_pu {a b : Int} {x y : Bool} (h1 : a = b) (h2 : x = y) : Ending.returned (.tuple #[.int .i64 a, .bool x]) = .returned (.tuple #[.int .i64 b, .bool y]) := by rw [h1, h2]
theorem impl_ParseUint {s : ByteArray} {w : World} (hs : s.size ≤ 1048576) (ht : Tabs w) : Calls Tryd.prog 19 #[.string s] w fun e w' => e = .returned (.tuple #[.int .i64 (puN s), .bool (puOk s)]) ∧ Below w.heap.size w w' := by
  have HT := Lib.hid ht
  cases ha : Lib.atoiAll s.data.toList
  · rename_i v
    have hvb := Lib.atoiAll_bounds ha
    have hC := Lib.hid (Any.strconv_Atoi_ok Tryd.lays172 s (by omega) v ha w)
    have hB : ∀ {w1 : World}, (w1 = w ∨ ∃ t, w1 = Lib.bytesWorld w (Tryd.lays172_ren.t 5) t) → Below w.heap.size w w1 := fun h => by
      rcases h with rfl | ⟨t, rfl⟩
      · exact Below.refl _ _
      · exact Lib.bytesWorld_below _ _ _
    have HBW : Hid (∀ w1 : World, (w1 = w ∨ ∃ t, w1 = Lib.bytesWorld w (Tryd.lays172_ren.t 5) t) → Below w.heap.size w w1) := fun w1 => @hB w1
    clear hB
    have hO := Lib.hid (fun h => pu_other (s := s) ha h)
    clear ha ht
    by_cases h1 : v < 0
    · have hR := Lib.hid (hO.out (.inl h1))
      clear hO
      go_enter Tryd.func19, Tryd.ntmps19
      go_wp2_with fail
      refine hC.out.mono ?_
      rintro e w1 ⟨rfl, hw⟩
      have HB := Lib.hid (HBW.out _ hw)
      clear hw
      go_wp2
      go_ret2
      exact ⟨ret_pu hR.out.1.symm hR.out.2.symm, HB.out⟩
    by_cases h2 : 1000000000 < v
    · have hR := Lib.hid (hO.out (.inr (.inl h2)))
      clear hO
      go_enter Tryd.func19, Tryd.ntmps19
      go_wp2_with fail
      refine hC.out.mono ?_
      rintro e w1 ⟨rfl, hw⟩
      have HB := Lib.hid (HBW.out _ hw)
      clear hw
      go_wp2
      go_ret2
      exact ⟨ret_pu hR.out.1.symm hR.out.2.symm, HB.out⟩
    by_cases h3 : itoaS v = s
    · have hR := Lib.hid (pu_yes (n := v.toNat) (s := s) (by omega) (by rw [Int.toNat_of_nonneg (by omega)]; exact h3))
      have hvn : Hid (((v.toNat : Nat) : Int) = v) := Int.toNat_of_nonneg (by omega)
      have h3' := Lib.hid h3
      clear hO h3
      go_enter Tryd.func19, Tryd.ntmps19
      go_wp2_with fail
      refine hC.out.mono ?_
      rintro e w1 ⟨rfl, hw⟩
      have HB := Lib.hid (HBW.out _ hw)
      clear hw
      go_wp2_with fail
      refine (impl_FormatInt (by omega) (by omega) (HT.out.tab.below HB.out)).mono ?_
      rintro e w2 ⟨rfl, hb⟩
      rw [h3'.out]
      have HB2 := Lib.hid (bthen HB.out hb)
      clear hb
      go_wp2
      go_ret2
      exact ⟨ret_pu (hR.out.1.trans hvn.out).symm hR.out.2.symm, HB2.out⟩
    · have hR := Lib.hid (hO.out (.inr (.inr h3)))
      obtain ⟨S, hS⟩ : ∃ S, Hid (itoaS v = S) := ⟨_, rfl⟩
      have hne : (S.toList == s.toList) = false := bytes_ne (by rw [← hS.out]; exact h3)
      clear hO h3
      go_enter Tryd.func19, Tryd.ntmps19
      go_wp2_with fail
      refine hC.out.mono ?_
      rintro e w1 ⟨rfl, hw⟩
      have HB := Lib.hid (HBW.out _ hw)
      clear hw
      go_wp2_with fail
      refine (impl_FormatInt (by omega) (by omega) (HT.out.tab.below HB.out)).mono ?_
      rintro e w2 ⟨rfl, hb⟩
      rw [hS.out]
      have HB2 := Lib.hid (bthen HB.out hb)
      clear hb
      go_wp2
      go_ret2
      exact ⟨ret_pu hR.out.1.symm hR.out.2.symm, HB2.out⟩
  · obtain ⟨tp, p, hv⟩ := ht.syn
    have hC := Lib.hid (Any.strconv_Atoi_syntax_var Tryd.lays172 s (by omega) ha tp p w hv)
    have hR := Lib.hid (pu_not fun n h => by rw [ha] at h; cases h)
    clear ha ht hv
    go_enter Tryd.func19, Tryd.ntmps19
    go_wp2_with fail
    refine hC.out.mono ?_
    rintro e w1 ⟨N, rfl, _, _, hb⟩
    go_wp2
    go_ret2
    exact ⟨ret_pu hR.out.1.symm hR.out.2.symm, hb⟩
  · obtain ⟨tp, p, hv⟩ := ht.rng
    have hC := Lib.hid (Any.strconv_Atoi_range_var Tryd.lays172 s (by omega) ha tp p w hv)
    have hR := Lib.hid (pu_range ha)
    obtain ⟨v, hv2⟩ : ∃ v, Lib.atoiSat s.data.toList = v := ⟨_, rfl⟩
    rw [hv2] at hC
    clear ha ht hv hv2
    go_enter Tryd.func19, Tryd.ntmps19
    go_wp2_with fail
    refine hC.out.mono ?_
    rintro e w1 ⟨N, rfl, _, _, hb⟩
    go_wp2
    go_ret2
    exact ⟨ret_pu hR.out.1.symm hR.out.2.symm, hb⟩
theorem take_val {s : ByteArray} {k n x : Nat} (hk : k < s.size) (hv : Hid (valL (s.data.toList.take k) = n)) (hx : Hid (s[k].toNat = x)) : valL (s.data.toList.take (k + 1)) = 10 * n + (x - 48) := by
  have e : s.data.toList.take (k + 1) = s.data.toList.take k ++ [s[k]] := by
    rw [List.take_succ_eq_append_getElem (by simpa using hk)]; rfl
  rw [e, valL_snoc, hv.out, hx.out]
set_option maxHeartbeats 1000000 in
theorem spec_ParseUint {s : ByteArray} {w : World} : Calls Tryd.prog 18 #[.string s] w fun e w' => e = .returned (.tuple #[.int .i64 (puN s), .bool (puOk s)]) ∧ Below w.heap.size w w' := by
  by_cases hl : 10 < s.size
  · have hR := Lib.hid (pu_long hl)
    go_enter Tryd.func18, Tryd.ntmps18
    go_wp2
    go_ret2
    exact ⟨ret_pu hR.out.1.symm hR.out.2.symm, Below.refl _ _⟩
  go_enter Tryd.func18, Tryd.ntmps18
  go_wp2
  go_loopw [4, 5] (fun v i wr => ∃ k n : Nat, k ≤ s.size ∧ i = .int .i64 k ∧ v = .int .i64 n ∧ Hid (valL (s.data.toList.take k) = n) ∧ Hid (n < 10 ^ k) ∧ Below w.heap.size w wr) (fun _ i _ => s.size - (intOf i).toNat)
  case atStart => exact ⟨0, 0, Nat.zero_le _, rfl, rfl, rfl, by show 0 < 10 ^ 0; omega, Below.refl _ _⟩
  case round =>
    obtain ⟨k, n, hk, rfl, rfl, hv, hn, hbel⟩ := hrel
    have hB := Lib.hid hbel
    clear hbel
    have hn10 : n ≤ 9999999999 := by
      have h1 := hn.out
      have h2 : 10 ^ k ≤ 10 ^ 10 := Nat.pow_le_pow_right (by omega) (by omega)
      omega
    by_cases hlt : k < s.size
    · obtain ⟨x, hx⟩ : ∃ x : Nat, Hid (s[k].toNat = x) := ⟨_, Lib.hid rfl⟩
      have hx1 := hx.out
      have hx2 : x < 256 := by rw [← hx.out]; exact s[k].toNat_lt
      by_cases h1 : x < 48
      · have hR := Lib.hid (pu_fig hlt (.inl (by rw [hx.out]; exact h1)))
        go_wp2
        go_ret2
        exact ⟨ret_pu hR.out.1.symm hR.out.2.symm, hB.out⟩
      by_cases h2 : 57 < x
      · have hR := Lib.hid (pu_fig hlt (.inr (by rw [hx.out]; exact h2)))
        go_wp2
        go_ret2
        exact ⟨ret_pu hR.out.1.symm hR.out.2.symm, hB.out⟩
      · have hv2 := Lib.hid (take_val hlt hv hx)
        have hn2 : Hid (10 * n + (x - 48) < 10 ^ (k + 1)) := by
          have := hn.out
          have e : 10 ^ (k + 1) = 10 ^ k * 10 := Nat.pow_succ ..
          show _ < _
          omega
        have E1 : IntKind.i64.wrap (x : Int) = (x : Int) := IntWalk.i64_in _ (by omega)
        go_wp2
        go_roundw
        case rel => exact ⟨k + 1, 10 * n + (x - 48), by omega, by go_num, by go_num, hv2, hn2, hB.out⟩
        case measure => simp [intOf]; omega
    · obtain rfl : k = s.size := by omega
      have hv' := hv.out
      rw [List.take_of_length_le (by simp)] at hv'
      have hV := Lib.hid hv'
      clear hv'
      by_cases h1 : 1000000000 < n
      · have hR := Lib.hid (pu_val hV.out (.inl h1))
        go_wp2
        go_ret2
        exact ⟨ret_pu hR.out.1.symm hR.out.2.symm, hB.out⟩
      by_cases h3 : itoaS (n : Int) = s
      · have hR := Lib.hid (pu_yes (n := n) (s := s) (by omega) h3)
        have h3' := Lib.hid h3
        clear h3
        go_wp2_with fail
        refine (spec_FormatInt (by omega) (by omega)).mono ?_
        rintro e w2 ⟨rfl, hb⟩
        rw [h3'.out]
        have HB2 := Lib.hid (bthen hB.out hb)
        clear hb
        go_wp2
        go_ret2
        exact ⟨ret_pu hR.out.1.symm hR.out.2.symm, HB2.out⟩
      · have hR := Lib.hid (pu_val hV.out (.inr h3))
        obtain ⟨S, hS⟩ : ∃ S, Hid (itoaS (n : Int) = S) := ⟨_, rfl⟩
        have hne : (S.toList == s.toList) = false := bytes_ne (by rw [← hS.out]; exact h3)
        clear h3
        go_wp2_with fail
        refine (spec_FormatInt (by omega) (by omega)).mono ?_
        rintro e w2 ⟨rfl, hb⟩
        rw [hS.out]
        have HB2 := Lib.hid (bthen hB.out hb)
        clear hb
        go_wp2
        go_ret2
        exact ⟨ret_pu hR.out.1.symm hR.out.2.symm, HB2.out⟩
end Go.Proofs.YtelmilgdoefmdaaDoor
