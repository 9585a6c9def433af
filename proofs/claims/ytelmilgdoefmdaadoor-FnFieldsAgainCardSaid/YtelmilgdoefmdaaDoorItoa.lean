/- The decimal text of an int: the program's FormatInt by the shelf's contract of strconv.Itoa, the reference's by its walk. -/
import Derived.Test.YtelmilgdoefmdaaDoorNum
import Derived.Test.YtelmilgdoefmdaaDoorTail
import Derived.Laws.IdiomStrings
import Derived.Lib.BufferRead
import Derived.Lib.LaidTab
import Derived.Lib.ItoaNum
import Derived.Shelf.Strconv.Itoa3
namespace Go.Proofs
open Go.Shelf
def Tryd.lays171_ren : Go.Shelf.Ren := ⟨fun | 171 => 22 | 243 => 32 | 246 => 38 | 283 => 45 | 284 => 46 | 285 => 47 | 286 => 48 | 129 => 53 | 317 => 52 | 318 => 54 | 319 => 55 | 320 => 56 | 337 => 59 | 338 => 60 | n => n, fun | 3 => 3 | 9 => 9 | 2 => 2 | 4 => 4 | 171 => 64 | 0 => 0 | 53 => 65 | 37 => 24 | 5 => 5 | 173 => 68 | 212 => 78 | 51 => 79 | 20 => 20 | 213 => 80 | 46 => 57 | 232 => 88 | 233 => 89 | n => n, fun | 17 => 3 | 18 => 4 | 19 => 5 | n => n⟩
theorem Tryd.lays171 : Go.Proofs.LaysM.n171 Tryd.prog Tryd.lays171_ren := {
  mixed := by kernel_rfl
  f129 := Tryd.func53.trans (congrArg some (by kernel_rfl))
  f171 := Tryd.func22.trans (congrArg some (by kernel_rfl))
  f243 := Tryd.func32.trans (congrArg some (by kernel_rfl))
  f246 := Tryd.func38.trans (congrArg some (by kernel_rfl))
  f283 := Tryd.func45.trans (congrArg some (by kernel_rfl))
  f284 := Tryd.func46.trans (congrArg some (by kernel_rfl))
  f285 := Tryd.func47.trans (congrArg some (by kernel_rfl))
  f286 := Tryd.func48.trans (congrArg some (by kernel_rfl))
  f317 := Tryd.func52.trans (congrArg some (by kernel_rfl))
  f318 := Tryd.func54.trans (congrArg some (by kernel_rfl))
  f319 := Tryd.func55.trans (congrArg some (by kernel_rfl))
  f320 := Tryd.func56.trans (congrArg some (by kernel_rfl))
  f337 := Tryd.func59.trans (congrArg some (by kernel_rfl))
  f338 := Tryd.func60.trans (congrArg some (by kernel_rfl))
  t0 := Tryd.underlying0
  a0 := Tryd.isAgg0
  z0 := Tryd.sizeOf0
  v0 := Tryd.zeroValue0
  t2 := Tryd.underlying2
  a2 := Tryd.isAgg2
  z2 := Tryd.sizeOf2
  v2 := Tryd.zeroValue2
  t3 := Tryd.underlying3
  a3 := Tryd.isAgg3
  z3 := Tryd.sizeOf3
  v3 := Tryd.zeroValue3
  t4 := Tryd.underlying4
  a4 := Tryd.isAgg4
  z4 := Tryd.sizeOf4
  v4 := Tryd.zeroValue4
  t5 := Tryd.underlying5
  a5 := Tryd.isAgg5
  z5 := Tryd.sizeOf5
  v5 := Tryd.zeroValue5
  t9 := Tryd.underlying9
  a9 := Tryd.isAgg9
  z9 := Tryd.sizeOf9
  v9 := Tryd.zeroValue9
  t20 := Tryd.underlying20
  a20 := Tryd.isAgg20
  z20 := Tryd.sizeOf20
  v20 := Tryd.zeroValue20
  t37 := Tryd.underlying24
  a37 := Tryd.isAgg24
  z37 := Tryd.sizeOf24
  v37 := Tryd.zeroValue24
  t46 := Tryd.underlying57
  a46 := Tryd.isAgg57
  z46 := Tryd.sizeOf57
  v46 := Tryd.zeroValue57
  t51 := Tryd.underlying79
  a51 := Tryd.isAgg79
  z51 := Tryd.sizeOf79
  v51 := Tryd.zeroValue79
  t53 := Tryd.underlying65
  a53 := Tryd.isAgg65
  z53 := Tryd.sizeOf65
  v53 := Tryd.zeroValue65
  t171 := Tryd.underlying64
  a171 := Tryd.isAgg64
  z171 := Tryd.sizeOf64
  v171 := Tryd.zeroValue64
  t173 := Tryd.underlying68
  a173 := Tryd.isAgg68
  z173 := Tryd.sizeOf68
  v173 := Tryd.zeroValue68
  t212 := Tryd.underlying78
  a212 := Tryd.isAgg78
  z212 := Tryd.sizeOf78
  v212 := Tryd.zeroValue78
  t213 := Tryd.underlying80
  a213 := Tryd.isAgg80
  z213 := Tryd.sizeOf80
  t232 := Tryd.underlying88
  a232 := Tryd.isAgg88
  z232 := Tryd.sizeOf88
  v232 := Tryd.zeroValue88
  t233 := Tryd.underlying89
  a233 := Tryd.isAgg89
  z233 := Tryd.sizeOf89
  v233 := Tryd.zeroValue89
  g17 := by kernel_rfl
  g18 := by kernel_rfl
  g19 := by kernel_rfl
  i0 := by kernel_rfl
  i2 := by kernel_rfl
  i3 := by kernel_rfl
  i4 := by kernel_rfl
  i5 := by kernel_rfl
  i9 := by kernel_rfl
  i20 := by kernel_rfl
  i37 := by kernel_rfl
  i46 := by kernel_rfl
  i51 := by kernel_rfl
  i53 := by kernel_rfl
  i171 := by kernel_rfl
  i173 := by kernel_rfl
  i212 := by kernel_rfl
  i232 := by kernel_rfl
  i233 := by kernel_rfl
  m17 := by kernel_rfl
  m18 := by kernel_rfl
  m19 := by kernel_rfl }
end Go.Proofs
open Go.Shelf
namespace Go.Proofs.YtelmilgdoefmdaaDoor
open Go.RowKit
set_option linter.unusedVariables false
/-- The table that strconv.Itoa reads. -/
def Tab (w : World) : Prop := Lib.TabIs Tryd.prog w "internal/strconv.uint64pow10" .u64 Lib.pow10Tab
theorem gTab : Tryd.prog.globalNamed "internal/strconv.uint64pow10" = some 3 := by kernel_rfl
theorem Tab.below {w w' : World} (h : Tab w) (hb : Below w.heap.size w w') : Tab w' := by
  have hl : 3 < w.heap.size := World.block_lt_of_cell? _ _ (h.cell gTab 0 (by rw [Lib.pow10Tab_length]; omega))
  unfold Tab Lib.TabIs World.var? at *
  rw [gTab] at *
  simp only [Option.bind_some] at *
  rw [hb.block _ hl]
  exact h
/-- The decimal text. -/
def itoaS (n : Int) : ByteArray := ⟨(Lib.itoa n).toArray⟩
/-- The figures of m ahead of acc. -/
def digs (m : Nat) (acc : List UInt8) : List UInt8 := if m = 0 then acc else Lib.decDigits m ++ acc
def figD (m : Nat) : UInt8 := UInt8.ofNat (48 + m % 10)
theorem figD_val (m : Nat) : ((figD m).toNat : Int) = 48 + (m : Int) % 10 := by
  unfold figD
  rw [UInt8.toNat_ofNat', Nat.mod_eq_of_lt (by omega)]; omega
theorem digs_next {m : Nat} (acc : List UInt8) (h : 0 < m) : digs m acc = digs (m / 10) (figD m :: acc) := by
  unfold digs
  rw [if_neg (by omega)]
  by_cases h10 : m < 10
  · rw [if_pos (by omega), Lib.decDigits, dif_pos h10]
    show [UInt8.ofNat (48 + m)] ++ acc = UInt8.ofNat (48 + m % 10) :: acc
    rw [show m % 10 = m by omega]; rfl
  · rw [if_neg (by omega), Lib.decDigits, dif_neg h10, List.append_assoc]; rfl
theorem digs_all {m : Nat} (h : 0 < m) : digs m [] = Lib.decDigits m := by
  unfold digs
  rw [if_neg (by omega), List.append_nil]
theorem itoa_zero : itoaS 0 = ⟨#[48]⟩ := by
  unfold itoaS Lib.itoa
  rw [if_neg (by omega), show (0 : Int).toNat = 0 from rfl, Lib.decDigits, dif_pos (by omega)]; rfl
theorem itoa_pos {m : Nat} (h : 0 < m) : itoaS (m : Int) = ⟨(digs m []).toArray⟩ := by
  unfold itoaS Lib.itoa
  rw [if_neg (by omega), Int.toNat_natCast, digs_all h]
theorem itoa_neg {m : Nat} (h : 0 < m) : itoaS (-(m : Int)) = ⟨(45 :: digs m []).toArray⟩ := by
  unfold itoaS Lib.itoa
  rw [if_pos (by omega), Int.natAbs_neg, Int.natAbs_natCast, digs_all h]
theorem str_cons (b : UInt8) (l : List UInt8) : (⟨#[b]⟩ ++ ⟨l.toArray⟩ : ByteArray) = ⟨(b :: l).toArray⟩ := by
  apply ByteArray.ext
  rw [ByteArray.data_append]; simp
theorem ret_strI {a b : ByteArray} (h : a = b) : Ending.returned (.string a) = .returned (.string b) := by rw [h]
theorem below_grown (w : World) (q : Nat) (os : Array Obj) : Below w.heap.size w (Sort.grow (w.drewN q) os) :=
  ⟨rfl, rfl, rfl, by show w.heap.size ≤ ((w.drewN q).heap ++ os).size; rw [Array.size_append]; exact Nat.le_add_right _ _, fun i hi => by
    show ((w.drewN q).heap ++ os)[i]? = _
    rw [Array.getElem?_append_left (by show i < w.heap.size; exact hi)]
    rfl⟩
theorem impl_FormatInt {n : Int} {w : World} (h0 : -9223372036854775808 ≤ n) (h1 : n ≤ 9223372036854775807) (ht : Tab w) : Calls Tryd.prog 9 #[.int .i64 n] w fun e w' => e = .returned (.string (itoaS n)) ∧ Below w.heap.size w w' := by
  go_enter Tryd.func9, Tryd.ntmps9
  go_wp2_with fail
  refine (Any.strconv_Itoa Tryd.lays171 n h0 h1 w ht).mono ?_
  rintro e w' ⟨rfl, k, os, rfl⟩
  go_wp2
  go_ret
  exact ⟨rfl, below_grown _ _ _⟩
theorem spec_l01FigureD {x : Int} {w : World} (h0 : 0 ≤ x) (h1 : x < 10) : Calls Tryd.prog 21 #[.int .i64 x] w fun e w' => e = .returned (.int .u8 (48 + x)) ∧ w = w' := by
  go_enter Tryd.func21, Tryd.ntmps21
  go_wp2
  go_ret
  exact ⟨rfl, rfl⟩
/-- One figure made into a string. -/
theorem conv_one {y : Int} {fb : UInt8} (w : World) (h : ((fb.toNat : Nat) : Int) = y) : (convert 24 9 (.slice (some ⟨w.heap.size, 0, none⟩) 1 1)).run Tryd.prog (w.alloc (.cells #[.int .u8 y] 5)) = .ok (.string ⟨#[fb]⟩) (w.alloc (.cells #[.int .u8 y] 5)) := by
  refine run_convert_bytes_back (P := Tryd.prog) (w.alloc (.cells #[.int .u8 y] 5)) 24 9 5 ⟨w.heap.size, 0, none⟩ 1 [fb] Tryd.underlying24 Tryd.underlying5 Tryd.underlying9 fun j hj => ?_
  have hj0 : j = 0 := by simpa using hj
  subst hj0
  have hadd : (⟨w.heap.size, 0, none⟩ : Addr).add 0 = ⟨w.heap.size, 0, none⟩ := by simp [Addr.add]
  rw [hadd, cell_of_row _ _ 0 _ _ _ (heap_alloc_new w _)]
  show some (Value.int .u8 y) = some (Value.int .u8 ((fb.toNat : Nat) : Int))
  rw [h]
set_option maxHeartbeats 1000000 in
theorem spec_FormatInt {n : Int} {w : World} (h0 : -9223372036854775808 ≤ n) (h1 : n ≤ 9223372036854775807) : Calls Tryd.prog 8 #[.int .i64 n] w fun e w' => e = .returned (.string (itoaS n)) ∧ Below w.heap.size w w' := by
  by_cases hz : n = 0
  · subst hz
    go_enter Tryd.func8, Tryd.ntmps8
    go_wp2
    go_ret
    exact ⟨ret_strI itoa_zero.symm, Below.refl _ _⟩
  by_cases hn : 0 < n
  · obtain ⟨m0, rfl⟩ : ∃ m : Nat, n = (m : Int) := ⟨n.toNat, by omega⟩
    have hm0 : 0 < m0 := by omega
    have hfin := Lib.hid (itoa_pos hm0)
    have hq0 : ((m0 : Int) == 0) = false := by simp; omega
    clear hz hn h0
    go_enter Tryd.func8, Tryd.ntmps8
    go_wp2
    go_loopw [0, 4, 5] (fun u v _ wr => ∃ (m : Nat) (acc : List UInt8) (S : ByteArray), u = .int .i64 m ∧ v = .string S ∧ Hid (S = ⟨acc.toArray⟩) ∧ (2 * S.size + m ≤ m0 ∨ m = 0 ∧ 2 * S.size ≤ m0 + 1) ∧ Hid (digs m acc = digs m0 []) ∧ Below w.heap.size w wr) (fun u _ _ _ => (intOf u).toNat)
    case atStart => exact ⟨m0, [], ⟨#[]⟩, rfl, rfl, rfl, .inl (by show 2 * 0 + m0 ≤ m0; omega), rfl, Below.refl _ _⟩
    case round =>
      obtain ⟨m, acc, S, rfl, rfl, hS, hm, hd, hbel⟩ := hrel
      by_cases hr : 0 < m
      · have hq : ((m : Int) == 0) = false := by simp; omega
        have hq2 : ((m : Int) != 0) = true := by simp; omega
        obtain ⟨fb, hfb⟩ : ∃ fb, Hid (figD m = fb) := ⟨_, rfl⟩
        have hb := figD_val m
        rw [hfb.out] at hb
        obtain ⟨q, hqm⟩ : ∃ q, q = m / 10 := ⟨_, rfl⟩
        have hn2 : Hid (digs q (fb :: acc) = digs m0 []) := by
          show _ = _
          rw [← hd.out, digs_next acc hr, hfb.out, hqm]
        have E3 : (m : Int).tmod 10 = (m : Int) % 10 := Int.tmod_eq_emod_of_nonneg (by omega)
        have E4 : (m : Int).tdiv 10 = (q : Int) := by rw [Int.tdiv_eq_ediv_of_nonneg (by omega)]; omega
        have e1 := Int.emod_nonneg (m : Int) (show (10 : Int) ≠ 0 by omega)
        have e2 := Int.emod_lt_of_pos (m : Int) (show (0 : Int) < 10 by omega)
        obtain ⟨x, hx⟩ : ∃ x, Hid ((m : Int) % 10 = x) := ⟨_, rfl⟩
        rw [hx.out] at E3 e1 e2 hb
        have hcv := conv_one wr hb
        have hsc : Hid ((⟨#[fb]⟩ ++ S : ByteArray) = ⟨(fb :: acc).toArray⟩) := by
          show _ = _
          rw [hS.out, str_cons]
        have hsz2 : Hid ((⟨#[fb]⟩ ++ S : ByteArray).size = 1 + S.size) := by
          show _ = _
          rw [ByteArray.size_append]; rfl
        have hbel2 := Lib.hid (bnew hbel (.cells #[.int .u8 (48 + x)] 5))
        have hlt : 10 * q ≤ m := by omega
        clear hbel hb hfb hx hd hqm
        go_wp2_with fail
        refine (spec_l01FigureD e1 e2).mono ?_
        rintro e w' ⟨rfl, rfl⟩
        go_wp2
        go_roundw
        case rel => exact ⟨q, fb :: acc, _, rfl, rfl, hsc, by have := hsz2.out; omega, hn2, hbel2.out⟩
        case measure => simp [intOf]; omega
      · obtain rfl : m = 0 := by omega
        have hfin2 : Hid (itoaS (m0 : Int) = S) := by
          show _ = _
          rw [hfin.out, ← hd.out, hS.out]; rfl
        go_wp2
        go_ret
        exact ⟨ret_strI hfin2.out.symm, hbel⟩
  · obtain ⟨m0, rfl⟩ : ∃ m : Nat, n = -(m : Int) := ⟨n.natAbs, by omega⟩
    have hm0 : 0 < m0 := by omega
    have hfin := Lib.hid (itoa_neg hm0)
    have hq0 : (-(m0 : Int) == 0) = false := by simp; omega
    clear hz hn h1
    go_enter Tryd.func8, Tryd.ntmps8
    go_wp2
    go_loopw [0, 4, 5] (fun u v _ wr => ∃ (m : Nat) (r : Int) (acc : List UInt8) (S : ByteArray), u = .int .i64 r ∧ r = -(m : Int) ∧ v = .string S ∧ Hid (S = ⟨acc.toArray⟩) ∧ (2 * S.size + m ≤ m0 ∨ m = 0 ∧ 2 * S.size ≤ m0 + 1) ∧ Hid (digs m acc = digs m0 []) ∧ Below w.heap.size w wr) (fun u _ _ _ => (intOf u).natAbs)
    case atStart => exact ⟨m0, _, [], ⟨#[]⟩, rfl, rfl, rfl, rfl, .inl (by show 2 * 0 + m0 ≤ m0; omega), rfl, Below.refl _ _⟩
    case round =>
      obtain ⟨m, r, acc, S, rfl, hr0, rfl, hS, hm, hd, hbel⟩ := hrel
      have hrm := Lib.hid hr0
      by_cases hr : 0 < m
      · have hq : (r == 0) = false := by simp; omega
        have hq2 : (r != 0) = true := by simp; omega
        obtain ⟨fb, hfb⟩ : ∃ fb, Hid (figD m = fb) := ⟨_, rfl⟩
        have hb := figD_val m
        rw [hfb.out] at hb
        obtain ⟨q, hqm⟩ : ∃ q, q = m / 10 := ⟨_, rfl⟩
        have hn2 : Hid (digs q (fb :: acc) = digs m0 []) := by
          show _ = _
          rw [← hd.out, digs_next acc hr, hfb.out, hqm]
        obtain ⟨x, hx⟩ : ∃ x : Nat, Hid (m % 10 = x) := ⟨_, rfl⟩
        have hx' := hx.out
        have E3 : r.tmod 10 = -(x : Int) := by
          rw [hr0, Int.neg_tmod, Int.tmod_eq_emod_of_nonneg (by omega)]; omega
        have E4 : r.tdiv 10 = -(q : Int) := by
          rw [hr0, Int.neg_tdiv, Int.tdiv_eq_ediv_of_nonneg (by omega)]; omega
        have e2 : x < 10 := by omega
        have hb' : ((fb.toNat : Nat) : Int) = 48 + (x : Int) := by omega
        have hsc : Hid ((⟨#[fb]⟩ ++ S : ByteArray) = ⟨(fb :: acc).toArray⟩) := by
          show _ = _
          rw [hS.out, str_cons]
        have hsz2 : Hid ((⟨#[fb]⟩ ++ S : ByteArray).size = 1 + S.size) := by
          show _ = _
          rw [ByteArray.size_append]; rfl
        have hlt : 10 * q ≤ m := by omega
        by_cases hx0 : x = 0
        · subst hx0
          have hcv := conv_one wr (show ((fb.toNat : Nat) : Int) = 48 by omega)
          have hbel2 := Lib.hid (bnew hbel (.cells #[.int .u8 48] 5))
          clear hbel hb hb' hfb hx hx' hd hr0 hqm
          go_wp2_with fail
          refine (spec_l01FigureD (by omega) (by omega)).mono ?_
          rintro e w' ⟨rfl, rfl⟩
          go_wp2
          go_roundw
          case rel => exact ⟨q, _, fb :: acc, _, rfl, rfl, rfl, hsc, by have := hsz2.out; omega, hn2, hbel2.out⟩
          case measure => have := hrm.out; simp [intOf]; omega
        · have hcv := conv_one wr hb'
          have hbel2 := Lib.hid (bnew hbel (.cells #[.int .u8 (48 + (x : Int))] 5))
          clear hbel hb hb' hfb hx hx' hd hr0 hqm
          go_wp2_with fail
          refine (spec_l01FigureD (by omega) (by omega)).mono ?_
          rintro e w' ⟨rfl, rfl⟩
          go_wp2
          go_roundw
          case rel => exact ⟨q, _, fb :: acc, _, rfl, rfl, rfl, hsc, by have := hsz2.out; omega, hn2, hbel2.out⟩
          case measure => have := hrm.out; simp [intOf]; omega
      · obtain rfl : m = 0 := by omega
        have hrz : r = 0 := by rw [hr0]; rfl
        subst hrz
        have hfin2 : Hid (itoaS (-(m0 : Int)) = ⟨#[45]⟩ ++ S) := by
          show _ = _
          rw [hfin.out, ← hd.out, hS.out, str_cons]; rfl
        clear hrm hr0
        go_wp2
        go_ret
        exact ⟨ret_strI hfin2.out.symm, hbel⟩
end Go.Proofs.YtelmilgdoefmdaaDoor
