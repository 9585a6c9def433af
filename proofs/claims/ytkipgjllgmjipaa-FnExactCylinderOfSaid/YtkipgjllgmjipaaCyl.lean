/- The helpers of the laws at cylinders. -/
import Derived.Test.YtkipgjllgmjipaaPins
namespace Go.Proofs.Ytkipgjllgmjipaa
open Go.RowKit
theorem laws_szCylinder_yes {s k : Int} {A : Option Addr} {n c : Nat} {left : Int} {w : World} (h : (n : Int) ≤ left) (h2 : left ≤ 1048576) :
    Calls Try.prog 41 #[.agg #[.int .i64 s, .int .i64 k, .slice A n c], .int .i64 left] w fun e w' => e = .returned (.int .i64 (left - n)) ∧ Below w.heap.size w w' := by
  go_enter Try.func41, Try.ntmps41
  go_wp2_with fail
  refine (laws_szPinS_yes h h2).mono ?_
  rintro e w1 ⟨rfl, rfl⟩
  go_wp2
  go_ret
  exact ⟨rfl, bnew (Below.refl _ _) _⟩
theorem laws_szCylinder_no {s k : Int} {A : Option Addr} {n c : Nat} {left : Int} {w : World} (h : left < n) (h0 : 0 ≤ left) (h2 : left ≤ 1048576) (hm : n ≤ maxLen) :
    Calls Try.prog 41 #[.agg #[.int .i64 s, .int .i64 k, .slice A n c], .int .i64 left] w fun e w' => e = .returned (.int .i64 (-1)) ∧ Below w.heap.size w w' := by
  go_enter Try.func41, Try.ntmps41
  go_wp2_with fail
  refine (laws_szPinS_no h h0 h2 hm).mono ?_
  rintro e w1 ⟨rfl, rfl⟩
  go_wp2
  go_ret
  exact ⟨rfl, bnew (Below.refl _ _) _⟩
theorem laws_eqCylinder {s k : Int} {l : List (Int × Int)} {A B : Option Addr} {c d : Nat} {w : World} (h1 : RP w A l) (h2 : RP w B l) :
    Calls Try.prog 45 #[.agg #[.int .i64 s, .int .i64 k, .slice A l.length c], .agg #[.int .i64 s, .int .i64 k, .slice B l.length d]] w fun e w' => e = .returned (.bool true) ∧ Below w.heap.size w w' := by
  have H1 := Lib.hid h1; clear h1
  have H2 := Lib.hid h2; clear h2
  go_enter Try.func45, Try.ntmps45
  go_wp2_with fail
  refine (laws_eqPinS (H1.out.below (bnew (bnew (Below.refl _ _) _) _)) (H2.out.below (bnew (bnew (Below.refl _ _) _) _))).mono ?_
  rintro e w1 ⟨rfl, hb⟩
  go_wp2
  go_ret
  exact ⟨rfl, bthen (bnew (bnew (Below.refl _ _) _) _) hb⟩
theorem laws_markCylinder {e : TypeId} {lo hi : Nat} {q s k : Int} {l : List (Int × Int)} {A : Option Addr} {c : Nat} {w : World} (h : OwnP e lo hi w A c l) (hq : 0 ≤ q) (hq2 : q ≤ 1048576 * 1048576) :
    Calls Try.prog 46 #[.agg #[.int .i64 s, .int .i64 k, .slice A l.length c], .int .i64 q] w fun r w' => r = .returned (.int .i64 (q + 2 * l.length)) ∧ OwnP e lo hi w' A c (upP q l.length) ∧ Kept lo hi w w' := by
  have H := Lib.hid h; clear h
  go_enter Try.func46, Try.ntmps46
  go_wp2_with fail
  refine (laws_markPinS (H.out.new _) hq hq2).mono ?_
  rintro e w1 ⟨rfl, ho, hk⟩
  go_wp2
  go_ret
  exact ⟨rfl, ho, (bkept (bnew (Below.refl _ _) _) (Nat.le_refl _)).trans hk⟩
end Go.Proofs.Ytkipgjllgmjipaa
