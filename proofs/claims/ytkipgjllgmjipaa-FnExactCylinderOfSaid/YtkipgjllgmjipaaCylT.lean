/- Three stores into the block of a result. No function of the program is named here. -/
import Derived.Test.YtkipgjllgmjipaaCylS
namespace Go.Proofs.Ytkipgjllgmjipaa
open Go.RowKit
/-- Three stores into the block of a result that lies below what is owned. -/
theorem res_end {e : TypeId} {lo hi R : Nat} {w0 wf : World} {A : Option Addr} {c : Nat} {l : List (Int × Int)} {v0 v1 v2 : Value} (O : OwnP e lo hi wf A c l) (HB : Below w0.heap.size w0 wf) (h1 : w0.heap.size ≤ R) (h2 : R < lo) :
    OwnP e w0.heap.size (((wf.setCell ⟨R, 0, none⟩ v0).setCell ⟨R, 1, none⟩ v1).setCell ⟨R, 2, none⟩ v2).heap.size (((wf.setCell ⟨R, 0, none⟩ v0).setCell ⟨R, 1, none⟩ v1).setCell ⟨R, 2, none⟩ v2) A c l ∧
      Below w0.heap.size w0 (((wf.setCell ⟨R, 0, none⟩ v0).setCell ⟨R, 1, none⟩ v1).setCell ⟨R, 2, none⟩ v2) := by
  have K := (((Kept.refl R (R + 1) wf).setCell (p := ⟨R, 0, none⟩) (Nat.le_refl _) (Nat.lt_succ_self _) v0).setCell (p := ⟨R, 1, none⟩) (Nat.le_refl _) (Nat.lt_succ_self _) v1).setCell (p := ⟨R, 2, none⟩) (Nat.le_refl _) (Nat.lt_succ_self _) v2
  exact ⟨((O.kept K (.inr (by omega))).lo_mono (by omega)).hi_mono (Nat.le_trans O.le K.size) (Nat.le_refl _), HB.trans (K.below HB.size h1)⟩
end Go.Proofs.Ytkipgjllgmjipaa
