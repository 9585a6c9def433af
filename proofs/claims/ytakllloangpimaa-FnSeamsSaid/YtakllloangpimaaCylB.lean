/- The laws' helpers that copy and look again at cylinders. -/
import Derived.Test.YtakllloangpimaaCyl
import Derived.Test.YtakllloangpimaaBase2
namespace Go.Proofs.Ytakllloangpimaa
open Go.RowKit
theorem new_frozen {wr W : World} {cs : Array Value} {T : TypeId} (h : wr.alloc (.cells cs T) = W) (o : Nat) : W.frozen? ⟨wr.heap.size, o, none⟩ = false := by
  subst h; simp
theorem OwnP.capC {e : TypeId} {lo hi : Nat} {w : World} {A : Option Addr} {c : Nat} {l : List (Int × Int)} (h : OwnP e lo hi w A c l) : l.length ≤ c := by
  rcases h.row.2 with ⟨_, hn⟩ | ⟨g, cap, cur, hv, _, _, hc, _⟩
  · omega
  · injection hv with _ _ h3
    omega
end Go.Proofs.Ytakllloangpimaa
