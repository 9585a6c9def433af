/- LongestRest: what it answers, and that the program's and the reference's functions answer it. -/
import Derived.Test.YtakllloangpimaaTeethB
namespace Go.Proofs.Ytakllloangpimaa
open Go.RowKit

/-! ## Plain notions -/
/-- The greatest number from 1 to n of which p is true; 0 if there is none. -/
def topOf (p : Int → Bool) : Nat → Int
  | 0 => 0
  | n + 1 => if p ((n + 1 : Nat) : Int) = true then ((n + 1 : Nat) : Int) else topOf p n
def longestRest (comb : List Int) (t : List (Int × Int)) : Int := topOf (assignOk comb t) 100
theorem topOf_yes {p : Int → Bool} {k : Nat} (h0 : 1 ≤ k) (h : p k = true) : topOf p k = k := by
  cases k with
  | zero => omega
  | succ n => simp only [topOf]; rw [if_pos h]
theorem topOf_no {p : Int → Bool} {k : Nat} (h0 : 1 ≤ k) (h : p k = false) : topOf p k = topOf p (k - 1) := by
  cases k with
  | zero => omega
  | succ n => simp only [topOf]; rw [if_neg (by rw [h]; exact Bool.false_ne_true)]; rfl

/-! ## The walks -/
theorem impl_LongestRest {comb : List Int} {t : List (Int × Int)} {A B : Option Addr} {ca cb : Nat} {w : World} (h1 : RI w A comb) (h2 : RP w B t) :
    Calls Try.prog 22 #[.slice A comb.length ca, .slice B t.length cb] w fun e w' => e = .returned (.int .i64 (longestRest comb t)) ∧ Below w.heap.size w w' := by
  have H1 := Lib.hid h1; clear h1
  have H2 := Lib.hid h2; clear h2
  go_enter Try.func22, Try.ntmps22
  go_wp2
  go_loopw [5] (fun j wr => ∃ k : Nat, k ≤ 100 ∧ j = .int .i64 k ∧ Hid (longestRest comb t = topOf (assignOk comb t) k) ∧ Below w.heap.size w wr) (fun j _ => (intOf j).toNat)
  case atStart => exact ⟨100, Nat.le_refl _, rfl, rfl, Below.refl _ _⟩
  case round =>
    obtain ⟨k, hk, rfl, hT, hbel⟩ := hrel
    by_cases h0 : 1 ≤ k
    · have R1 := Lib.hid (H1.out.below hbel)
      have R2 := Lib.hid (H2.out.below hbel)
      have hb' := Lib.hid hbel; clear hbel
      cases g : assignOk comb t k
      · have hn := Lib.hid (hT.out.trans (topOf_no h0 g))
        go_wp2_with (go_at_call 23; refine (impl_AssignTeeth R1.out R2.out).mono ?_; rintro e w1 ⟨D, d, rfl, -, hb2⟩)
        go_roundw
        case rel => exact ⟨k - 1, by omega, by go_num, hn, bthen hb'.out hb2⟩
        case measure => simp [intOf]; omega
      · have hn := Lib.hid (hT.out.trans (topOf_yes h0 g))
        go_wp2_with (go_at_call 23; refine (impl_AssignTeeth R1.out R2.out).mono ?_; rintro e w1 ⟨D, d, rfl, -, hb2⟩)
        go_ret
        exact ⟨ret_int hn.out.symm, bthen hb'.out hb2⟩
    · obtain rfl : k = 0 := by omega
      go_wp2
      go_ret
      exact ⟨ret_int hT.out.symm, hbel⟩
end Go.Proofs.Ytakllloangpimaa
