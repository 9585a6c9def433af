/- A store into the third cell of a block of three. No function of the program is named here. -/
import Derived.Test.YtkipgjllgmjipaaBase2
namespace Go.Proofs.Ytkipgjllgmjipaa
open Go.RowKit
theorem cyl_set {w wz : World} {g : Nat} {x y v u : Value} (h : w.setCell ⟨g, 2, none⟩ u = wz) (d0 : w.cell? ⟨g, 0, none⟩ = some x) (d1 : w.cell? ⟨g, 1, none⟩ = some y) (d2 : w.cell? ⟨g, 2, none⟩ = some v) :
    wz.cell? ⟨g, 0, none⟩ = some x ∧ wz.cell? ⟨g, 1, none⟩ = some y ∧ wz.cell? ⟨g, 2, none⟩ = some u ∧ Kept g (g + 1) w wz ∧ ∀ a, wz.frozen? a = w.frozen? a := by
  subst h
  refine ⟨?_, ?_, World.cell?_setCell_same _ _ _ d2, (Kept.refl _ _ _).setCell (p := ⟨g, 2, none⟩) (Nat.le_refl _) (Nat.lt_succ_self _) u, fun a => by simp⟩
  · rw [World.cell?_setCell_other _ _ _ _ (by simp)]; exact d0
  · rw [World.cell?_setCell_other _ _ _ _ (by simp)]; exact d1
theorem Kept.cell' {lo hi : Nat} {w w' : World} (h : Kept lo hi w w') {p : Addr} {v : Value} (hc : w.cell? p = some v) (ho : p.block < lo ∨ hi ≤ p.block) : w'.cell? p = some v :=
  (h.cell (World.block_lt_of_cell? _ _ hc) ho).trans hc
end Go.Proofs.Ytkipgjllgmjipaa
