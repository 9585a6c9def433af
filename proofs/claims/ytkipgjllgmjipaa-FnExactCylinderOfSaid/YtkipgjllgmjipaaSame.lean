/- A call that leaves the world as it was, in the words of the laws' frame. No program is named here. -/
import Derived.Test.YtkipgjllgmjipaaBase
namespace Go.Proofs.Ytkipgjllgmjipaa
open Go.RowKit
theorem calls_same {P : Program} {f : FuncId} {args : Array Value} {w : World} {v : Ending} (h : Calls P f args w fun e w' => e = v ∧ w = w') : Calls P f args w fun e w' => e = v ∧ Below w.heap.size w w' :=
  h.mono fun _ _ ⟨he, hw⟩ => ⟨he, by subst hw; exact Below.refl _ _⟩
end Go.Proofs.Ytkipgjllgmjipaa
