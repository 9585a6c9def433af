/- Where the orders of a region meet that makes a local cylinder: what is held of it. No function of the program is named here. -/
import Derived.Test.YtkipgjllgmjipaaCylT
import Derived.Test.YtkipgjllgmjipaaCylB
import Derived.Deep.CutRange
namespace Go.Proofs.Ytkipgjllgmjipaa
open Go.RowKit
set_option linter.unusedVariables false
/-- A block of three zero cells that may be written. -/
def ZC (G : Nat) (W : World) : Prop := (W.cell? ⟨G, 0, none⟩ = some (.int .i64 0) ∧ W.cell? ⟨G, 1, none⟩ = some (.int .i64 0) ∧ W.cell? ⟨G, 2, none⟩ = some (.slice none 0 0)) ∧ W.frozen? ⟨G, 0, none⟩ = false ∧ W.frozen? ⟨G, 1, none⟩ = false ∧ W.frozen? ⟨G, 2, none⟩ = false
theorem zc_new {V W' : World} {T : TypeId} (h : Below (V.alloc (.cells #[.int .i64 0, .int .i64 0, .slice none 0 0] T)).heap.size (V.alloc (.cells #[.int .i64 0, .int .i64 0, .slice none 0 0] T)) W') :
    V.heap.size < (V.alloc (.cells #[.int .i64 0, .int .i64 0, .slice none 0 0] T)).heap.size ∧ ZC V.heap.size W' := by
  obtain ⟨b1, z1, d0, d1, d2⟩ := new3c (wr := V) (x := .int .i64 0) (y := .int .i64 0) (z := .slice none 0 0) (T := T) rfl
  have hlt : V.heap.size < (V.alloc (.cells #[.int .i64 0, .int .i64 0, .slice none 0 0] T)).heap.size := by omega
  have f := fun o => new_frozen (wr := V) (cs := #[.int .i64 0, .int .i64 0, .slice none 0 0]) (T := T) rfl o
  exact ⟨hlt, ⟨cell_later d0 h, cell_later d1 h, cell_later d2 h⟩, (h.frozen (p := ⟨V.heap.size, 0, none⟩) hlt).trans (f 0), (h.frozen (p := ⟨V.heap.size, 1, none⟩) hlt).trans (f 1), (h.frozen (p := ⟨V.heap.size, 2, none⟩) hlt).trans (f 2)⟩
theorem zc_newd {V W' : World} {T : TypeId} (h : Below (V.alloc (.cells #[.int .i64 0, .int .i64 0, .slice none 0 0] T)).drew.heap.size (V.alloc (.cells #[.int .i64 0, .int .i64 0, .slice none 0 0] T)).drew W') :
    V.heap.size < (V.alloc (.cells #[.int .i64 0, .int .i64 0, .slice none 0 0] T)).drew.heap.size ∧ ZC V.heap.size W' := zc_new (V := V.drew) h
theorem zc_later {G : Nat} {W W' : World} (h : ZC G W) (hb : Below W.heap.size W W') : G < W.heap.size ∧ ZC G W' := by
  obtain ⟨⟨d0, d1, d2⟩, f0, f1, f2⟩ := h
  have hlt : G < W.heap.size := World.block_lt_of_cell? _ _ d0
  exact ⟨hlt, ⟨cell_later d0 hb, cell_later d1 hb, cell_later d2 hb⟩, (hb.frozen (p := ⟨G, 0, none⟩) hlt).trans f0, (hb.frozen (p := ⟨G, 1, none⟩) hlt).trans f1, (hb.frozen (p := ⟨G, 2, none⟩) hlt).trans f2⟩
def CylAt (e : TypeId) (c0 : World) (s6 x y : Value) (L : List (Int × Int)) (wx : World) : Prop :=
  ∃ (G : Nat) (B : Option Addr) (d lo hi : Nat), s6 = .pointer (some ⟨G, 0, none⟩) ∧ (wx.cell? ⟨G, 0, none⟩ = some x ∧ wx.cell? ⟨G, 1, none⟩ = some y ∧ wx.cell? ⟨G, 2, none⟩ = some (.slice B L.length d)) ∧
    OwnP e lo hi wx B d L ∧ (G < lo ∨ hi ≤ G) ∧ c0.heap.size ≤ lo ∧ c0.heap.size ≤ G ∧ G < wx.heap.size ∧ Below c0.heap.size c0 wx
section
variable {e : TypeId} {c0 W W9 : World} {G d : Nat} {B : Option Addr} {L : List (Int × Int)} {x y : Value}
theorem set3 {G : Nat} {W9 : World} {x y z a b c : Value} (d0 : W9.cell? ⟨G, 0, none⟩ = some a) (d1 : W9.cell? ⟨G, 1, none⟩ = some b) (d2 : W9.cell? ⟨G, 2, none⟩ = some c) :
    (((W9.setCell ⟨G, 0, none⟩ x).setCell ⟨G, 1, none⟩ y).setCell ⟨G, 2, none⟩ z).cell? ⟨G, 0, none⟩ = some x ∧ (((W9.setCell ⟨G, 0, none⟩ x).setCell ⟨G, 1, none⟩ y).setCell ⟨G, 2, none⟩ z).cell? ⟨G, 1, none⟩ = some y ∧ (((W9.setCell ⟨G, 0, none⟩ x).setCell ⟨G, 1, none⟩ y).setCell ⟨G, 2, none⟩ z).cell? ⟨G, 2, none⟩ = some z := by
  have e0 : (W9.setCell ⟨G, 0, none⟩ x).cell? ⟨G, 0, none⟩ = some x := World.cell?_setCell_same _ _ _ d0
  have e1 : (W9.setCell ⟨G, 0, none⟩ x).cell? ⟨G, 1, none⟩ = some b := by rw [World.cell?_setCell_other _ _ _ _ (by simp)]; exact d1
  have e2 : (W9.setCell ⟨G, 0, none⟩ x).cell? ⟨G, 2, none⟩ = some c := by rw [World.cell?_setCell_other _ _ _ _ (by simp)]; exact d2
  have g1 : ((W9.setCell ⟨G, 0, none⟩ x).setCell ⟨G, 1, none⟩ y).cell? ⟨G, 1, none⟩ = some y := World.cell?_setCell_same _ _ _ e1
  have g0 : ((W9.setCell ⟨G, 0, none⟩ x).setCell ⟨G, 1, none⟩ y).cell? ⟨G, 0, none⟩ = some x := by rw [World.cell?_setCell_other _ _ _ _ (by simp)]; exact e0
  have g2 : ((W9.setCell ⟨G, 0, none⟩ x).setCell ⟨G, 1, none⟩ y).cell? ⟨G, 2, none⟩ = some c := by rw [World.cell?_setCell_other _ _ _ _ (by simp)]; exact e2
  refine ⟨?_, ?_, World.cell?_setCell_same _ _ _ g2⟩
  · rw [World.cell?_setCell_other _ _ _ _ (by simp)]; exact g0
  · rw [World.cell?_setCell_other _ _ _ _ (by simp)]; exact g1
/-- The variable was laid ahead of the call. -/
theorem cyl_meet1 (hG : G < W.heap.size ∧ ZC G W9) (O9 : OwnP e W.heap.size W9.heap.size W9 B d L) (hg : c0.heap.size ≤ G) (hb : Below c0.heap.size c0 W9) :
    CylAt e c0 (.pointer (some ⟨G, 0, none⟩)) x y L (((W9.setCell ⟨G, 0, none⟩ x).setCell ⟨G, 1, none⟩ y).setCell ⟨G, 2, none⟩ (.slice B L.length d)) := by
  obtain ⟨hlt, ⟨d0, d1, d2⟩, _⟩ := hG
  have K := (((Kept.refl G (G + 1) W9).setCell (p := ⟨G, 0, none⟩) (Nat.le_refl _) (Nat.lt_succ_self _) x).setCell (p := ⟨G, 1, none⟩) (Nat.le_refl _) (Nat.lt_succ_self _) y).setCell (p := ⟨G, 2, none⟩) (Nat.le_refl _) (Nat.lt_succ_self _) (.slice B L.length d)
  exact ⟨G, B, d, W.heap.size, W9.heap.size, rfl, set3 d0 d1 d2, O9.kept K (.inr hlt), .inl hlt, by omega, hg, Nat.lt_of_lt_of_le (World.block_lt_of_cell? _ _ d0) K.size, hb.trans (K.below hb.size hg)⟩
/-- The variable was laid behind the call. -/
theorem cyl_meet2 {T : TypeId} {lo : Nat} (O9 : OwnP e lo W9.heap.size W9 B d L) (hlo : c0.heap.size ≤ lo) (hb : Below c0.heap.size c0 W9) :
    CylAt e c0 (.pointer (some ⟨W9.heap.size, 0, none⟩)) x y L ((((W9.alloc (.cells #[.int .i64 0, .int .i64 0, .slice none 0 0] T)).setCell ⟨W9.heap.size, 0, none⟩ x).setCell ⟨W9.heap.size, 1, none⟩ y).setCell ⟨W9.heap.size, 2, none⟩ (.slice B L.length d)) := by
  obtain ⟨hlt, ⟨d0, d1, d2⟩, _⟩ := zc_new (V := W9) (T := T) (Below.refl _ _)
  have bn := bnew (Below.refl W9.heap.size W9) (.cells #[.int .i64 0, .int .i64 0, .slice none 0 0] T)
  have K := (((Kept.refl W9.heap.size (W9.heap.size + 1) (W9.alloc (.cells #[.int .i64 0, .int .i64 0, .slice none 0 0] T))).setCell (p := ⟨W9.heap.size, 0, none⟩) (Nat.le_refl _) (Nat.lt_succ_self _) x).setCell (p := ⟨W9.heap.size, 1, none⟩) (Nat.le_refl _) (Nat.lt_succ_self _) y).setCell (p := ⟨W9.heap.size, 2, none⟩) (Nat.le_refl _) (Nat.lt_succ_self _) (.slice B L.length d)
  exact ⟨W9.heap.size, B, d, lo, W9.heap.size, rfl, set3 d0 d1 d2, (O9.new _).kept K (.inl (Nat.le_refl _)), .inr (Nat.le_refl _), hlo, hb.size, Nat.lt_of_lt_of_le hlt K.size, ((hb.trans (bn.mono hb.size))).trans (K.below (Nat.le_trans hb.size bn.size) hb.size)⟩
/-- .. its cells written as it was laid. -/
theorem cyl_meet3 {T : TypeId} {lo : Nat} (O9 : OwnP e lo W9.heap.size W9 B d L) (hlo : c0.heap.size ≤ lo) (hb : Below c0.heap.size c0 W9) :
    CylAt e c0 (.pointer (some ⟨W9.heap.size, 0, none⟩)) x y L (W9.alloc (.cells #[x, y, .slice B L.length d] T)) := by
  obtain ⟨b1, z1, d0, d1, d2⟩ := new3c (wr := W9) (x := x) (y := y) (z := .slice B L.length d) (T := T) rfl
  exact ⟨W9.heap.size, B, d, lo, W9.heap.size, rfl, ⟨d0, d1, d2⟩, O9.new _, .inr (Nat.le_refl _), hlo, hb.size, by omega, hb.trans (b1.mono hb.size)⟩
end
end Go.Proofs.Ytkipgjllgmjipaa
