/- slices.SortFunc at pins, laid at this program off the library's contract, and what sortedPins answers. -/
import Derived.Test.YtkipgjllgmjipaaSrtB
import Derived.Test.YtkipgjllgmjipaaSortP
import Derived.Test.YtkipgjllgmjipaaPull
import Derived.Deep.RegionHeld3
namespace Go.Proofs
open Go.Shelf
def Try.sortPins_ren : Go.Shelf.Ren := ⟨fun | 6 => 100 | 15 => 103 | 14 => 104 | 28 => 113 | 29 => 114 | 20 => 115 | 21 => 116 | 22 => 117 | 23 => 118 | 24 => 119 | 25 => 120 | 26 => 121 | 27 => 122 | 46 => 128 | 47 => 124 | 48 => 125 | 49 => 129 | 50 => 130 | 57 => 132 | n => n, fun | 22 => 51 | 24 => 63 | 25 => 97 | 3 => 3 | 39 => 101 | 0 => 0 | 53 => 112 | 55 => 114 | 4 => 4 | 46 => 105 | 45 => 104 | 50 => 109 | 5 => 5 | 9 => 9 | 66 => 120 | 70 => 124 | 76 => 128 | 77 => 42 | n => n, fun | n => n⟩
theorem Try.sortPins : Go.Proofs.SlLaysF0.n6 Try.prog Try.sortPins_ren := {
  mixed := by kernel_rfl
  f6 := ⟨Try.f100.name, by decide, Try.func100.trans (congrArg some (by kernel_rfl))⟩
  f14 := ⟨Try.f104.name, by decide, Try.func104.trans (congrArg some (by kernel_rfl))⟩
  f15 := Try.func103.trans (congrArg some (by kernel_rfl))
  f20 := ⟨Try.f115.name, by decide, Try.func115.trans (congrArg some (by kernel_rfl))⟩
  f21 := ⟨Try.f116.name, by decide, Try.func116.trans (congrArg some (by kernel_rfl))⟩
  f22 := ⟨Try.f117.name, by decide, Try.func117.trans (congrArg some (by kernel_rfl))⟩
  f23 := ⟨Try.f118.name, by decide, Try.func118.trans (congrArg some (by kernel_rfl))⟩
  f24 := ⟨Try.f119.name, by decide, Try.func119.trans (congrArg some (by kernel_rfl))⟩
  f25 := ⟨Try.f120.name, by decide, Try.func120.trans (congrArg some (by kernel_rfl))⟩
  f26 := ⟨Try.f121.name, by decide, Try.func121.trans (congrArg some (by kernel_rfl))⟩
  f27 := ⟨Try.f122.name, by decide, Try.func122.trans (congrArg some (by kernel_rfl))⟩
  f28 := Try.func113.trans (congrArg some (by kernel_rfl))
  f29 := Try.func114.trans (congrArg some (by kernel_rfl))
  f46 := ⟨Try.f128.name, by decide, Try.func128.trans (congrArg some (by kernel_rfl))⟩
  f47 := Try.func124.trans (congrArg some (by kernel_rfl))
  f48 := Try.func125.trans (congrArg some (by kernel_rfl))
  f49 := ⟨Try.f129.name, by decide, Try.func129.trans (congrArg some (by kernel_rfl))⟩
  f50 := ⟨Try.f130.name, by decide, Try.func130.trans (congrArg some (by kernel_rfl))⟩
  f57 := ⟨Try.f132.name, by decide, Try.func132.trans (congrArg some (by kernel_rfl))⟩
  t0 := Try.underlying0
  a0 := Try.isAgg0
  z0 := Try.sizeOf0
  v0 := Try.zeroValue0
  t3 := Try.underlying3
  a3 := Try.isAgg3
  z3 := Try.sizeOf3
  v3 := Try.zeroValue3
  t4 := Try.underlying4
  a4 := Try.isAgg4
  z4 := Try.sizeOf4
  v4 := Try.zeroValue4
  t5 := Try.underlying5
  a5 := Try.isAgg5
  z5 := Try.sizeOf5
  v5 := Try.zeroValue5
  t9 := Try.underlying9
  a9 := Try.isAgg9
  z9 := Try.sizeOf9
  v9 := Try.zeroValue9
  t22 := Try.underlying51
  a22 := Try.isAgg51
  z22 := Try.sizeOf51
  v22 := Try.zeroValue51
  t25 := Try.underlying97
  a25 := Try.isAgg97
  z25 := Try.sizeOf97
  v25 := Try.zeroValue97
  t39 := Try.underlying101
  a39 := Try.isAgg101
  z39 := Try.sizeOf101
  v39 := Try.zeroValue101
  t45 := Try.underlying104
  a45 := Try.isAgg104
  z45 := Try.sizeOf104
  v45 := Try.zeroValue104
  t46 := Try.underlying105
  a46 := Try.isAgg105
  z46 := Try.sizeOf105
  v46 := Try.zeroValue105
  t50 := Try.underlying109
  a50 := Try.isAgg109
  z50 := Try.sizeOf109
  v50 := Try.zeroValue109
  t53 := Try.underlying112
  a53 := Try.isAgg112
  z53 := Try.sizeOf112
  v53 := Try.zeroValue112
  t55 := Try.underlying114
  a55 := Try.isAgg114
  z55 := Try.sizeOf114
  v55 := Try.zeroValue114
  t66 := Try.underlying120
  a66 := Try.isAgg120
  z66 := Try.sizeOf120
  v66 := Try.zeroValue120
  t70 := Try.underlying124
  a70 := Try.isAgg124
  z70 := Try.sizeOf124
  v70 := Try.zeroValue124
  t76 := Try.underlying128
  a76 := Try.isAgg128
  z76 := Try.sizeOf128
  v76 := Try.zeroValue128
  t77 := Try.underlying42
  a77 := Try.isAgg42
  z77 := Try.sizeOf42
  v77 := Try.zeroValue42 }
end Go.Proofs
open Go.Shelf
namespace Go.Proofs.Ytkipgjllgmjipaa
open Go.RowKit Go.Sort
set_option linter.unusedVariables false
def cfP (x y : Int × Int) : Int := comp2 x.2 x.1 y.2 y.1
theorem ltOfP (x y : Int × Int) : ltOf cfP x y = decide (ltP x y) := ltN (sw x) (sw y)
theorem swoP : SWO (ltOf cfP) where
  irrefl x := by rw [ltOfP]; exact decide_eq_false (ltP_irrefl x)
  trans x y z h1 h2 := by
    rw [ltOfP] at *
    exact decide_eq_true (lt2_trans (of_decide_eq_true h1) (of_decide_eq_true h2))
  ntrans x y z h1 h2 := by
    rw [ltOfP] at *
    have h1 := of_decide_eq_false h1
    have h2 := of_decide_eq_false h2
    refine decide_eq_false ?_
    unfold ltP sw lt2 at *
    simp only at *
    omega
theorem closure_pins (x y : Int × Int) (W : World) : Calls Try.prog 99 #[.agg #[.int .i64 x.1, .int .i64 x.2], .agg #[.int .i64 y.1, .int .i64 y.2]] W fun e w' => e = .returned (.int .i64 (cfP x y)) ∧ ∃ q os', w' = grow (W.drewN q) os' := by
  obtain ⟨a, b⟩ := x
  obtain ⟨c, d⟩ := y
  go_enter Try.func99, Try.ntmps99
  go_wp2
  all_goals
    go_ret
    refine ⟨ret_int ?_, 0, _, by rw [alloc_eq_grow, alloc_eq_grow, grow_grow]; rfl⟩
    simp only [cfP, comp2, less2, decide_eq_true_eq]
    first | (rw [if_pos (by omega)]; done) | (rw [if_neg (by omega), if_pos (by omega)]; done) | rw [if_neg (by omega), if_neg (by omega)]
theorem cmpLays_pins (blk off size : Nat) (w : World) : CmpLays Try.prog 99 #[] encN 2 cfP blk off size w :=
  fun _ _ _ _ x y => closure_pins x y _
theorem isAgg_pin : ∀ w, (isAgg 63).run Try.prog w = .ok true w := fun _ => by kernel_rfl
theorem sizeOf_pin : ∀ w, (Go.sizeOf 63).run Try.prog w = .ok 2 w := fun _ => by kernel_rfl
theorem sort_pins {e : TypeId} {lo hi g c : Nat} {w : World} {l : List (Int × Int)} (h : OwnP e lo hi w (some ⟨g, 0, none⟩) c l) :
    Calls Try.prog 100 #[.slice (some ⟨g, 0, none⟩) l.length c, .func (.func 99) #[] #[]] w fun r w' => r = .returned (.tuple #[]) ∧
      ∃ m : List (Int × Int), m.Perm l ∧ (∀ i j, i < j → j < m.length → ¬ ltP (m.getD j (0, 0)) (m.getD i (0, 0))) ∧ OwnP e lo hi w' (some ⟨g, 0, none⟩) c m ∧ Kept lo hi w w' := by
  have eg : ∀ args w, (callFunc 99 args).run Try.prog w = .ok (.enter 99 args) w := enters_of Try.func99 (by kernel_rfl) rfl
  have hlo : lo ≤ g := h.lo_le _ rfl
  have hhi : g < hi := h.top _ rfl
  have hle := h.le
  have hsm := h.small
  have hH := holds_notes h
  have hcon := AnyQ.slices_SortFunc Try.sortPins 2 isAgg_pin sizeOf_pin encN (fun _ => rfl) (fun x v hv => by simp [encN] at hv; rcases hv with rfl | rfl <;> rfl) cfP swoP 99 #[] g 0 c l.toArray w eg (cmpLays_pins g 0 _ w) hH (by omega) (by simp; omega)
  rw [List.size_toArray] at hcon
  change Calls Try.prog 100 _ _ _ at hcon
  refine hcon.mono ?_
  rintro r w' ⟨rfl, d', n, os, hp, hs, rfl⟩
  obtain ⟨hp1, _, hp3⟩ := hp
  have hsz : d'.size = l.length := by simpa using hp1
  have hperm : d'.toList.Perm l := by
    have e1 : d'.extract 0 l.length = d' := by rw [← hsz]; simp
    have e2 : l.toArray.extract 0 l.length = l.toArray := by simp
    rw [e1, e2] at hp3
    simpa using hp3
  have hlen : d'.toList.length = l.length := by simpa using hsz
  have hfl : (flatK encN 2 d').toList = pcells d'.toList := by
    have := flat_pcells d'.toList
    simpa using this
  have hw : sortWorldK encN 2 w g 0 n d' os = grow ((w.drewN n).setCells g 0 (pcells d'.toList)) os := by
    have hk := Lib.putRow_eq_setCells id w g 0 (flatK encN 2 l.toArray) (pcells d'.toList) n hH (by rw [length_pcells, size_flatK, hlen]; simp)
    rw [List.map_id] at hk
    rw [← hk, ← hfl]
    rfl
  obtain ⟨k1, k2⟩ := own_setCells (pcells d'.toList) 0 (w.drewN n) (pcells l) (h.row : (w.drewN n).ownsRow _ _ _ _ _ _) (by rw [length_pcells, length_pcells, hlen]; omega)
  have hk3 : Kept lo hi w ((w.drewN n).setCells g 0 (pcells d'.toList)) :=
    ⟨k2.os, k2.tape, k2.output, k2.size, fun j hj ho => k2.block j hj (by omega)⟩
  have hk4 : Kept lo hi w (sortWorldK encN 2 w g 0 n d' os) := by
    rw [hw]
    refine hk3.trans ⟨rfl, rfl, rfl, by simp [grow], fun j hj _ => ?_⟩
    simp only [grow]
    rw [Array.getElem?_append_left hj]
  refine ⟨rfl, d'.toList, hperm, fun i j hij hj => ?_, ⟨?_, fun a ha => by injection ha with ha; subst ha; exact hhi, Nat.le_trans hle hk4.size, by omega⟩, hk4⟩
  · rw [hlen] at hj
    have := hs i j (Nat.zero_le _) hij hj
    rw [ltOfP] at this
    rw [get_toList d' (by omega), get_toList d' (by omega)]
    exact of_decide_eq_false this
  · rw [hw, hlen]
    have : (pcells l).take 0 ++ pcells d'.toList ++ (pcells l).drop (0 + (pcells d'.toList).length) = pcells d'.toList := by
      rw [List.take_zero, List.nil_append, List.drop_of_length_le (by rw [length_pcells, length_pcells, hlen]; omega), List.append_nil]
    rw [this] at k1
    refine ownsRow_heap k1 ?_
    simp only [grow]
    have hg : g < ((w.drewN n).setCells g 0 (pcells d'.toList)).heap.size := Nat.lt_of_lt_of_le (show g < w.heap.size by omega) hk3.size
    rw [Array.getElem?_append_left hg]
theorem impl_sortedPins {l : List (Int × Int)} {A : Option Addr} {c : Nat} {w : World} (h : RP w A l) :
    Calls Try.prog 86 #[.slice A l.length c] w fun e w' => ∃ g d m, e = .returned (.slice (some ⟨g, 0, none⟩) l.length d) ∧ m.Perm l ∧ (∀ i j, i < j → j < m.length → ¬ ltP (m.getD j (0, 0)) (m.getD i (0, 0))) ∧ OwnP 63 w.heap.size w'.heap.size w' (some ⟨g, 0, none⟩) d m ∧ Below w.heap.size w w' := by
  have H := Lib.hid h; clear h
  go_enter Try.func86, Try.ntmps86
  go_wp2_with fail
  refine (impl_copyPins H.out).mono ?_
  rintro e w1 ⟨g, d, rfl, O, hq⟩
  go_wp2_with fail
  refine (sort_pins O).mono ?_
  rintro e w2 ⟨rfl, m, hp, hs, O2, hk⟩
  have hlo := O2.le
  have hkb := hk.below (B := w.heap.size) hq.size (Nat.le_refl _)
  go_wp2
  go_ret
  exact ⟨g, d, m, rfl, hp, hs, O2.hi_mono hlo (Nat.le_refl _), hq.trans hkb⟩
end Go.Proofs.Ytkipgjllgmjipaa
