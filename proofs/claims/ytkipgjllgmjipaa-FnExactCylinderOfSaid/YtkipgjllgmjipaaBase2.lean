/- More on slices that the program has made, on new blocks, and on cells in later worlds. No program is named here. -/
import Derived.Test.YtkipgjllgmjipaaBase
namespace Go.Proofs.Ytkipgjllgmjipaa
open Go.RowKit

theorem cell_after {W wr : World} {p : Addr} {v : Value} (h : W.cell? p = some v) (hb : Below W.heap.size W wr) : ∀ q : After wr.heap.size wr, q.w.cell? p = some v :=
  fun q => ((q.h.cell (Nat.lt_of_lt_of_le (World.block_lt_of_cell? W p h) hb.size)).trans (hb.cell (World.block_lt_of_cell? W p h))).trans h
theorem cell_later {W wr : World} {p : Addr} {v : Value} (h : W.cell? p = some v) (hb : Below W.heap.size W wr) : wr.cell? p = some v :=
  (hb.cell (World.block_lt_of_cell? W p h)).trans h
/-- A new block of two cells, its world under one name. -/
theorem new2c {wr W : World} {x y : Value} {T : TypeId} (h : wr.alloc (.cells #[x, y] T) = W) :
    Below wr.heap.size wr W ∧ W.heap.size = wr.heap.size + 1 ∧ W.cell? ⟨wr.heap.size, 0, none⟩ = some x ∧ W.cell? ⟨wr.heap.size, 1, none⟩ = some y := by
  subst h
  have hh := heap_alloc_new wr (.cells #[x, y] T)
  exact ⟨(Below.refl _ _).alloc (Nat.le_refl _) _, by simp, cell_of_row _ _ 0 _ _ _ hh, cell_of_row _ _ 1 _ _ _ hh⟩
/-- A new block of three cells, its world under one name. -/
theorem new3c {wr W : World} {x y z : Value} {T : TypeId} (h : wr.alloc (.cells #[x, y, z] T) = W) :
    Below wr.heap.size wr W ∧ W.heap.size = wr.heap.size + 1 ∧ W.cell? ⟨wr.heap.size, 0, none⟩ = some x ∧ W.cell? ⟨wr.heap.size, 1, none⟩ = some y ∧ W.cell? ⟨wr.heap.size, 2, none⟩ = some z := by
  subst h
  have hh := heap_alloc_new wr (.cells #[x, y, z] T)
  exact ⟨(Below.refl _ _).alloc (Nat.le_refl _) _, by simp, cell_of_row _ _ 0 _ _ _ hh, cell_of_row _ _ 1 _ _ _ hh, cell_of_row _ _ 2 _ _ _ hh⟩
theorem OwnI.all {e : TypeId} {lo hi : Nat} {w : World} {g c : Nat} {l : List Int} (h : OwnI e lo hi w (some ⟨g, 0, none⟩) c l) {k : Nat} {f : Int} (hk : k < l.length) (e2 : Hid (l.getD k 0 = f)) : ∀ p : After w.heap.size w, p.w.cell? ⟨g, k, none⟩ = some (.int .i64 f) := by
  have h1 := (h.slot hk).1
  rw [e2.out] at h1
  exact cell_after h1 (Below.refl _ _)
theorem own_madeI {W : World} (e : TypeId) {n : Nat} (hn : n ≤ 1048576) : OwnI e W.heap.size (W.heap.size + 1) (W.alloc (.cells (madeCells #[.int .i64 0] n) e)) (some ⟨W.heap.size, 0, none⟩) n (List.replicate n 0) := by
  have hr := World.ownsRow_lit (base := W.heap.size) (e := e) (size := 1) W (madeCells #[.int .i64 0] n) n (Nat.le_refl _) (by simp [maxLen]; omega) (by rw [size_madeCells]; omega)
  rw [← icells_zeros] at hr
  exact ⟨by rw [List.length_replicate]; exact hr, fun a ha => by injection ha with ha; subst ha; exact Nat.lt_succ_self _, by simp, by simpa using hn⟩
theorem own_emptyAt {W : World} (e : TypeId) {g : Nat} (hg : W.heap.size = g) : OwnI e g (g + 1) (W.alloc (.cells #[] e)) (some ⟨g, 0, none⟩) 0 [] := by
  subst hg; exact own_empty e
end Go.Proofs.Ytkipgjllgmjipaa
