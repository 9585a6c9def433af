/- What the small functions over numbers and pairs answer, and that the program's and the reference's functions of that kind answer it. -/
import Derived.Test.YtkipgjllgmjipaaProg
import Derived.Test.YtkipgjllgmjipaaBase
namespace Go.Proofs.Ytkipgjllgmjipaa
open Go.RowKit

def inR (x lo hi : Int) : Bool := decide (lo ≤ x ∧ x ≤ hi)
theorem inR_eq (x lo hi : Int) : inR x lo hi = (decide (lo ≤ x) && decide (x ≤ hi)) := by unfold inR; exact Bool.decide_and ..
theorem inR_true {x lo hi : Int} (h : inR x lo hi = true) : lo ≤ x ∧ x ≤ hi := by simpa [inR] using h
theorem inR_false {x lo hi : Int} (h : inR x lo hi = false) : x < lo ∨ hi < x := by
  have : ¬ (lo ≤ x ∧ x ≤ hi) := by simpa [inR] using h
  omega
theorem inR_of {x lo hi : Int} (h1 : lo ≤ x) (h2 : x ≤ hi) : inR x lo hi = true := by simp [inR]; omega

/-- Smaller in the first part, or equal there and smaller in the second one. -/
def less2 (a b c d : Int) : Bool := decide (a < c ∨ a = c ∧ b < d)
theorem less2_true {a b c d : Int} (h : less2 a b c d = true) : a < c ∨ a = c ∧ b < d := by simpa [less2] using h
theorem less2_false {a b c d : Int} (h : less2 a b c d = false) : ¬ (a < c ∨ a = c ∧ b < d) := by simpa [less2] using h
def comp2 (a b c d : Int) : Int := if less2 a b c d = true then -1 else if a = c ∧ b = d then 0 else 1
theorem comp2_less {a b c d : Int} (h : less2 a b c d = true) : comp2 a b c d = -1 := by unfold comp2; rw [if_pos h]
theorem comp2_not {a b c d : Int} (h : less2 a b c d = false) : 0 ≤ comp2 a b c d := by unfold comp2; rw [if_neg (by rw [h]; exact Bool.false_ne_true)]; split <;> omega
def clampM (n lo hi : Int) : Int := if hi < lo ∨ n < lo then lo else if hi < n then hi else n
def magM (n : Int) : Int := if n < 0 then -n else n
def gapM (a b s : Int) : Int := if 1 ≤ s ∧ s ≤ 1000 ∧ 0 ≤ a ∧ a ≤ s - 1 ∧ 0 ≤ b ∧ b ≤ s - 1 then min (magM (a - b)) (s - magM (a - b)) else -1

theorem spec_l01In {x lo hi : Int} {w : World} : Calls Try.prog 57 #[.int .i64 x, .int .i64 lo, .int .i64 hi] w fun e w' => e = .returned (.bool (inR x lo hi)) ∧ w = w' := by
  by_cases h1 : lo ≤ x
  all_goals
    go_enter Try.func57, Try.ntmps57
    go_wp2
    go_ret
    exact ⟨ret_bool (by simp [inR_eq]; omega), rfl⟩
theorem impl_within {x lo hi : Int} {w : World} : Calls Try.prog 61 #[.int .i64 x, .int .i64 lo, .int .i64 hi] w fun e w' => e = .returned (.bool (inR x lo hi)) ∧ w = w' := by
  by_cases h1 : lo ≤ x
  all_goals
    go_enter Try.func61, Try.ntmps61
    go_wp2
    go_ret
    exact ⟨ret_bool (by simp [inR_eq]; omega), rfl⟩
theorem spec_l02Less {a b c d : Int} {w : World} : Calls Try.prog 54 #[.agg #[.int .i64 a, .int .i64 b], .agg #[.int .i64 c, .int .i64 d]] w fun e w' => e = .returned (.bool (less2 a b c d)) ∧ Below w.heap.size w w' := by
  rcases Int.lt_trichotomy a c with h | h | h
  · go_enter Try.func54, Try.ntmps54
    go_wp2
    go_ret
    exact ⟨ret_bool (by simp [less2, h]), bnew (bnew (Below.refl _ _) _) _⟩
  · subst h
    go_enter Try.func54, Try.ntmps54
    go_wp2
    go_ret
    exact ⟨ret_bool (by simp [less2]), bnew (bnew (Below.refl _ _) _) _⟩
  · go_enter Try.func54, Try.ntmps54
    go_wp2
    go_ret
    exact ⟨ret_bool (by simp [less2]; omega), bnew (bnew (Below.refl _ _) _) _⟩
theorem impl_compareNotes {a b c d : Int} {w : World} : Calls Try.prog 92 #[.agg #[.int .i64 a, .int .i64 b], .agg #[.int .i64 c, .int .i64 d]] w fun e w' => e = .returned (.int .i64 (comp2 a b c d)) ∧ Below w.heap.size w w' := by
  go_enter Try.func92, Try.ntmps92
  go_wp2
  all_goals
    go_ret
    exact ⟨ret_int (by simp only [comp2, less2, decide_eq_true_eq]; first | (rw [if_pos (by omega)]; done) | (rw [if_neg (by omega), if_pos (by omega)]; done) | rw [if_neg (by omega), if_neg (by omega)]), bnew (bnew (Below.refl _ _) _) _⟩
end Go.Proofs.Ytkipgjllgmjipaa
