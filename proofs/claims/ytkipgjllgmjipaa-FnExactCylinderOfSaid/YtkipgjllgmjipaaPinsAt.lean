/- PinsAt: what it answers, and that the program's and the reference's functions answer it. -/
import Derived.Test.YtkipgjllgmjipaaCylOk
import Derived.Test.YtkipgjllgmjipaaTuneR
import Derived.Test.YtkipgjllgmjipaaIntS
namespace Go.Proofs.Ytkipgjllgmjipaa
open Go.RowKit

/-! ## Plain notions -/
def modM (n s : Int) : Int := (n.tmod s + s) % s
theorem modM_range {n s : Int} (h : 0 < s) : 0 ≤ modM n s ∧ modM n s < s := by
  exact ⟨Int.emod_nonneg _ (by omega), Int.emod_lt_of_pos _ h⟩
def atAngle (y : Int) (p : Int × Int) : Option Int := if p.2 = y then some p.1 else none
def pinsAt (s t : Int) (l : List (Int × Int)) (a : Int) : List Int := if cylOk s t l = true ∧ inR a (-1000000) 1000000 = true then pickTo (atAngle (modM a s)) l l.length else []
theorem pinsAt_no {s t : Int} {l : List (Int × Int)} {a : Int} (h : ¬ (cylOk s t l = true ∧ inR a (-1000000) 1000000 = true)) : pinsAt s t l a = [] := if_neg h
theorem pinsAt_yes {s t : Int} {l : List (Int × Int)} {a : Int} (h1 : cylOk s t l = true) (h2 : inR a (-1000000) 1000000 = true) : pinsAt s t l a = pickTo (atAngle (modM a s)) l l.length := if_pos ⟨h1, h2⟩
theorem spec_l06Mod {n s : Int} {w : World} (h3 : 1 ≤ s) (h4 : s ≤ 1000) :
    Calls Try.prog 81 #[.int .i64 n, .int .i64 s] w fun e w' => e = .returned (.int .i64 (modM n s)) ∧ w = w' := by
  have r1 := Int.lt_tmod_of_pos n (show (0 : Int) < s by omega)
  have r2 := Int.tmod_lt_of_pos n (show (0 : Int) < s by omega)
  have r3 : Hid (modM n s = (n.tmod s + s) % s) := rfl
  have r4 := Int.lt_tmod_of_pos (n.tmod s + s) (show (0 : Int) < s by omega)
  have r5 := Int.tmod_lt_of_pos (n.tmod s + s) (show (0 : Int) < s by omega)
  go_enter Try.func81, Try.ntmps81
  go_wp2
  go_ret
  exact ⟨ret_int r3.out.symm, rfl⟩
theorem impl_around {n s : Int} {w : World} (h3 : 1 ≤ s) (h4 : s ≤ 1000) :
    Calls Try.prog 85 #[.int .i64 n, .int .i64 s] w fun e w' => e = .returned (.int .i64 (modM n s)) ∧ w = w' := by
  have r1 := Int.lt_tmod_of_pos n (show (0 : Int) < s by omega)
  have r2 := Int.tmod_lt_of_pos n (show (0 : Int) < s by omega)
  have r3 : Hid (modM n s = (n.tmod s + s) % s) := rfl
  have r4 := Int.lt_tmod_of_pos (n.tmod s + s) (show (0 : Int) < s by omega)
  have r5 := Int.tmod_lt_of_pos (n.tmod s + s) (show (0 : Int) < s by omega)
  go_enter Try.func85, Try.ntmps85
  go_wp2
  go_ret
  exact ⟨ret_int r3.out.symm, rfl⟩
end Go.Proofs.Ytkipgjllgmjipaa
