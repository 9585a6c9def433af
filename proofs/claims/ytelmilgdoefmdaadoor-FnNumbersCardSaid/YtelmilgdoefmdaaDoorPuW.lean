/- ParseUint: the program's by the shelf's contracts of strconv.Atoi, the reference's by its walk. -/
import Derived.Test.YtelmilgdoefmdaaDoorPuP
import Derived.Test.YtelmilgdoefmdaaDoorFrameL
import Derived.Lib.SmallJoins
import Derived.Stop.LaidErr
import Derived.Shelf.Strconv.AtoiAll
import Derived.Shelf.Strconv.ErrVarAll
namespace Go.Proofs
open Go.Shelf
shelf_lay LaysC.n172 Nm 172 at Tryd as Tryd.lays172
end Go.Proofs
open Go.Shelf
namespace Go.Proofs.YtelmilgdoefmdaaDoor
open Go.RowKit
set_option linter.unusedVariables false
theorem gSyn : Tryd.prog.globalNamed "strconv.ErrSyntax" = some 1 := by kernel_rfl
theorem gRng : Tryd.prog.globalNamed "strconv.ErrRange" = some 2 := by kernel_rfl
theorem gSynType : (Tryd.prog.globals[1]?).map (·.type) = some 47 := by kernel_rfl
theorem gRngType : (Tryd.prog.globals[2]?).map (·.type) = some 47 := by kernel_rfl
theorem cellsEs : Tryd.prog.cellsOf 86 = 1 := by kernel_rfl
theorem cellsSt : Tryd.prog.cellsOf 9 = 1 := by kernel_rfl
theorem starEs : "*" ++ "errors.errorString" = "*errors.errorString" := by decide
theorem rowEs (u : TypeId) (h : Tryd.prog.typeName? 3 u = some "*errors.errorString") : u = 84 :=
  typeName_ptr_named (nm := "errors.errorString") (by rw [starEs]; kernel_rfl) (by kernel_rfl) (by decide) u (by rw [starEs]; exact h)
/-- The tables and the two sentinels. -/
structure Tabs (w : World) : Prop where
  tab : Tab w
  syn : ∃ tp p, w.var? Tryd.prog "strconv.ErrSyntax" = some #[.iface tp p]
  rng : ∃ tp p, w.var? Tryd.prog "strconv.ErrRange" = some #[.iface tp p]
theorem var_later {w w' : World} {n : String} {g : Nat} {cs : Array Value} (hg : Tryd.prog.globalNamed n = some g) (hv : w.var? Tryd.prog n = some cs) (hb : Below w.heap.size w w') : w'.var? Tryd.prog n = some cs := by
  have hl : g < w.heap.size := by
    refine Nat.lt_of_not_le fun hle => ?_
    unfold World.var? at hv
    rw [hg] at hv
    simp only [Option.bind_some] at hv
    rw [Array.getElem?_eq_none hle] at hv
    cases hv
  unfold World.var? at *
  rw [hg] at *
  simp only [Option.bind_some] at *
  rw [hb.block _ hl]
  exact hv
theorem Tabs.below {w w' : World} (h : Tabs w) (hb : Below w.heap.size w w') : Tabs w' :=
  ⟨h.tab.below hb, h.syn.elim fun tp h => h.elim fun p h => ⟨tp, p, var_later gSyn h hb⟩, h.rng.elim fun tp h => h.elim fun p h => ⟨tp, p, var_later gRng h hb⟩⟩
theorem tabs_of {r : List (String × DataW Unit)} {W : World} (h : laidMet Tryd.prog (("math/bits.deBruijn32tab", Rows.laid_math_bits_deBruijn32tab) :: ("math/bits.deBruijn64tab", Rows.laid_math_bits_deBruijn64tab) :: ("internal/strconv.uint64pow10", Rows.laid_internal_strconv_uint64pow10) :: ("strconv.ErrRange", Rows.laid_strconv_ErrRange) :: ("strconv.ErrSyntax", Rows.laid_strconv_ErrSyntax) :: r) W) : Tabs W := by
  have h3 := h.tail.tail.tail
  obtain ⟨a0, s0, hv0, -, -, -⟩ := laid_sentinel h3 gRng gRngType Tryd.underlying47 rowEs Tryd.underlying84 Tryd.underlying86 rfl rfl Tryd.underlying9 cellsEs cellsSt
  obtain ⟨a1, s1, hv1, -, -, -⟩ := laid_sentinel h3.tail gSyn gSynType Tryd.underlying47 rowEs Tryd.underlying84 Tryd.underlying86 rfl rfl Tryd.underlying9 cellsEs cellsSt
  exact ⟨tab_of h, ⟨_, _, hv1⟩, ⟨_, _, hv0⟩⟩
theorem bytes_ne {a b : ByteArray} (h : a ≠ b) : (a.toList == b.toList) = false := by
  rw [beq_eq_false_iff_ne]
  intro hh
  rw [ByteArray.toList_eq, ByteArray.toList_eq] at hh
  exact h (ByteArray.ext (Array.ext' hh))
theorem ret_pu {a b : Int} {x y : Bool} (h1 : a = b) (h2 : x = y) : Ending.returned (.tuple #[.int .i64 a, .bool x]) = .returned (.tuple #[.int .i64 b, .bool y]) := by rw [h1, h2]
theorem impl_ParseUint {s : ByteArray} {w : World} (hs : s.size ≤ 1048576) (ht : Tabs w) : Calls Tryd.prog 19 #[.string s] w fun e w' => e = .returned (.tuple #[.int .i64 (puN s), .bool (puOk s)]) ∧ Below w.heap.size w w' := by
  have HT := Lib.hid ht
  cases ha : Lib.atoiAll s.data.toList with
  | «syntax» =>
    obtain ⟨tp, p, hv⟩ := ht.syn
    have hC := Lib.hid (Any.strconv_Atoi_syntax_var Tryd.lays172 s (by omega) ha tp p w hv)
    have hR := Lib.hid (pu_syntax ha)
    clear ha ht hv
    go_enter Tryd.func19, Tryd.ntmps19
    go_wp2_with fail
    refine hC.out.mono ?_
    rintro e w1 ⟨N, rfl, _, _, hb⟩
    go_wp2
    go_ret2
    exact ⟨ret_pu hR.out.1.symm hR.out.2.symm, hb⟩
  | range =>
    obtain ⟨tp, p, hv⟩ := ht.rng
    have hC := Lib.hid (Any.strconv_Atoi_range_var Tryd.lays172 s (by omega) ha tp p w hv)
    have hR := Lib.hid (pu_range ha)
    obtain ⟨v, hv2⟩ : ∃ v, Lib.atoiSat s.data.toList = v := ⟨_, rfl⟩
    rw [hv2] at hC
    clear ha ht hv hv2
    go_enter Tryd.func19, Tryd.ntmps19
    go_wp2_with fail
    refine hC.out.mono ?_
    rintro e w1 ⟨N, rfl, _, _, hb⟩
    go_wp2
    go_ret2
    exact ⟨ret_pu hR.out.1.symm hR.out.2.symm, hb⟩
  | ok v =>
    have hvb := Lib.atoiAll_bounds ha
    have hC := Lib.hid (Any.strconv_Atoi_ok Tryd.lays172 s (by omega) v ha w)
    have hB : ∀ {w1 : World}, (w1 = w ∨ ∃ t, w1 = Lib.bytesWorld w (Tryd.lays172_ren.t 5) t) → Below w.heap.size w w1 := fun h => by
      rcases h with rfl | ⟨t, rfl⟩
      · exact Below.refl _ _
      · exact Lib.bytesWorld_below _ _ _
    have HBW : Hid (∀ w1 : World, (w1 = w ∨ ∃ t, w1 = Lib.bytesWorld w (Tryd.lays172_ren.t 5) t) → Below w.heap.size w w1) := fun w1 => @hB w1
    clear hB
    have hO := Lib.hid (fun h => pu_other (s := s) ha h)
    clear ha ht
    by_cases h1 : v < 0
    · have hR := Lib.hid (hO.out (.inl h1))
      clear hO
      go_enter Tryd.func19, Tryd.ntmps19
      go_wp2_with fail
      refine hC.out.mono ?_
      rintro e w1 ⟨rfl, hw⟩
      have HB := Lib.hid (HBW.out _ hw)
      clear hw
      go_wp2
      go_ret2
      exact ⟨ret_pu hR.out.1.symm hR.out.2.symm, HB.out⟩
    by_cases h2 : 1000000000 < v
    · have hR := Lib.hid (hO.out (.inr (.inl h2)))
      clear hO
      go_enter Tryd.func19, Tryd.ntmps19
      go_wp2_with fail
      refine hC.out.mono ?_
      rintro e w1 ⟨rfl, hw⟩
      have HB := Lib.hid (HBW.out _ hw)
      clear hw
      go_wp2
      go_ret2
      exact ⟨ret_pu hR.out.1.symm hR.out.2.symm, HB.out⟩
    by_cases h3 : itoaS v = s
    · have hR := Lib.hid (pu_yes (n := v.toNat) (s := s) (by omega) (by rw [Int.toNat_of_nonneg (by omega)]; exact h3))
      have hvn : Hid (((v.toNat : Nat) : Int) = v) := Int.toNat_of_nonneg (by omega)
      have h3' := Lib.hid h3
      clear hO h3
      go_enter Tryd.func19, Tryd.ntmps19
      go_wp2_with fail
      refine hC.out.mono ?_
      rintro e w1 ⟨rfl, hw⟩
      have HB := Lib.hid (HBW.out _ hw)
      clear hw
      go_wp2_with fail
      refine (impl_FormatInt (by omega) (by omega) (HT.out.tab.below HB.out)).mono ?_
      rintro e w2 ⟨rfl, hb⟩
      rw [h3'.out]
      have HB2 := Lib.hid (bthen HB.out hb)
      clear hb
      go_wp2
      go_ret2
      exact ⟨ret_pu (hR.out.1.trans hvn.out).symm hR.out.2.symm, HB2.out⟩
    · have hR := Lib.hid (hO.out (.inr (.inr h3)))
      obtain ⟨S, hS⟩ : ∃ S, Hid (itoaS v = S) := ⟨_, rfl⟩
      have hne : (S.toList == s.toList) = false := bytes_ne (by rw [← hS.out]; exact h3)
      clear hO h3
      go_enter Tryd.func19, Tryd.ntmps19
      go_wp2_with fail
      refine hC.out.mono ?_
      rintro e w1 ⟨rfl, hw⟩
      have HB := Lib.hid (HBW.out _ hw)
      clear hw
      go_wp2_with fail
      refine (impl_FormatInt (by omega) (by omega) (HT.out.tab.below HB.out)).mono ?_
      rintro e w2 ⟨rfl, hb⟩
      rw [hS.out]
      have HB2 := Lib.hid (bthen HB.out hb)
      clear hb
      go_wp2
      go_ret2
      exact ⟨ret_pu hR.out.1.symm hR.out.2.symm, HB2.out⟩
theorem take_val {s : ByteArray} {k n x : Nat} (hk : k < s.size) (hv : Hid (valL (s.data.toList.take k) = n)) (hx : Hid (s[k].toNat = x)) : valL (s.data.toList.take (k + 1)) = 10 * n + (x - 48) := by
  have e : s.data.toList.take (k + 1) = s.data.toList.take k ++ [s[k]] := by
    rw [List.take_succ_eq_append_getElem (by simpa using hk)]; rfl
  rw [e, valL_snoc, hv.out, hx.out]
set_option maxHeartbeats 1000000 in
theorem spec_ParseUint {s : ByteArray} {w : World} : Calls Tryd.prog 18 #[.string s] w fun e w' => e = .returned (.tuple #[.int .i64 (puN s), .bool (puOk s)]) ∧ Below w.heap.size w w' := by
  by_cases hl : 10 < s.size
  · have hR := Lib.hid (pu_long hl)
    go_enter Tryd.func18, Tryd.ntmps18
    go_wp2
    go_ret2
    exact ⟨ret_pu hR.out.1.symm hR.out.2.symm, Below.refl _ _⟩
  go_enter Tryd.func18, Tryd.ntmps18
  go_wp2
  go_loopw [4, 5] (fun v i wr => ∃ k n : Nat, k ≤ s.size ∧ i = .int .i64 k ∧ v = .int .i64 n ∧ Hid (valL (s.data.toList.take k) = n) ∧ Hid (n < 10 ^ k) ∧ Below w.heap.size w wr) (fun _ i _ => s.size - (intOf i).toNat)
  case atStart => exact ⟨0, 0, Nat.zero_le _, rfl, rfl, rfl, by show 0 < 10 ^ 0; omega, Below.refl _ _⟩
  case round =>
    obtain ⟨k, n, hk, rfl, rfl, hv, hn, hbel⟩ := hrel
    have hB := Lib.hid hbel
    clear hbel
    have hn10 : n ≤ 9999999999 := by
      have h1 := hn.out
      have h2 : 10 ^ k ≤ 10 ^ 10 := Nat.pow_le_pow_right (by omega) (by omega)
      omega
    by_cases hlt : k < s.size
    · obtain ⟨x, hx⟩ : ∃ x : Nat, Hid (s[k].toNat = x) := ⟨_, Lib.hid rfl⟩
      have hx1 := hx.out
      have hx2 : x < 256 := by rw [← hx.out]; exact s[k].toNat_lt
      by_cases h1 : x < 48
      · have hR := Lib.hid (pu_fig hlt (.inl (by rw [hx.out]; exact h1)))
        go_wp2
        go_ret2
        exact ⟨ret_pu hR.out.1.symm hR.out.2.symm, hB.out⟩
      by_cases h2 : 57 < x
      · have hR := Lib.hid (pu_fig hlt (.inr (by rw [hx.out]; exact h2)))
        go_wp2
        go_ret2
        exact ⟨ret_pu hR.out.1.symm hR.out.2.symm, hB.out⟩
      · have hv2 := Lib.hid (take_val hlt hv hx)
        have hn2 : Hid (10 * n + (x - 48) < 10 ^ (k + 1)) := by
          have := hn.out
          have e : 10 ^ (k + 1) = 10 ^ k * 10 := Nat.pow_succ ..
          show _ < _
          omega
        have E1 : IntKind.i64.wrap (x : Int) = (x : Int) := IntWalk.i64_in _ (by omega)
        go_wp2
        go_roundw
        case rel => exact ⟨k + 1, 10 * n + (x - 48), by omega, by go_num, by go_num, hv2, hn2, hB.out⟩
        case measure => simp [intOf]; omega
    · obtain rfl : k = s.size := by omega
      have hv' := hv.out
      rw [List.take_of_length_le (by simp)] at hv'
      have hV := Lib.hid hv'
      clear hv'
      by_cases h1 : 1000000000 < n
      · have hR := Lib.hid (pu_val hV.out (.inl h1))
        go_wp2
        go_ret2
        exact ⟨ret_pu hR.out.1.symm hR.out.2.symm, hB.out⟩
      by_cases h3 : itoaS (n : Int) = s
      · have hR := Lib.hid (pu_yes (n := n) (s := s) (by omega) h3)
        have h3' := Lib.hid h3
        clear h3
        go_wp2_with fail
        refine (spec_FormatInt (by omega) (by omega)).mono ?_
        rintro e w2 ⟨rfl, hb⟩
        rw [h3'.out]
        have HB2 := Lib.hid (bthen hB.out hb)
        clear hb
        go_wp2
        go_ret2
        exact ⟨ret_pu hR.out.1.symm hR.out.2.symm, HB2.out⟩
      · have hR := Lib.hid (pu_val hV.out (.inr h3))
        obtain ⟨S, hS⟩ : ∃ S, Hid (itoaS (n : Int) = S) := ⟨_, rfl⟩
        have hne : (S.toList == s.toList) = false := bytes_ne (by rw [← hS.out]; exact h3)
        clear h3
        go_wp2_with fail
        refine (spec_FormatInt (by omega) (by omega)).mono ?_
        rintro e w2 ⟨rfl, hb⟩
        rw [hS.out]
        have HB2 := Lib.hid (bthen hB.out hb)
        clear hb
        go_wp2
        go_ret2
        exact ⟨ret_pu hR.out.1.symm hR.out.2.symm, HB2.out⟩
end Go.Proofs.YtelmilgdoefmdaaDoor
