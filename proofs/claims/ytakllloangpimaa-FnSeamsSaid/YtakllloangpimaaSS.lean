/- Slices of slices of two ints that the program has made: what is held of them, and the laws' own helpers that compare, mark and look again at them. -/
import Derived.Test.YtakllloangpimaaApp
import Derived.Test.YtakllloangpimaaIntS
import Derived.Test.YtakllloangpimaaNum
namespace Go.Proofs.Ytakllloangpimaa
open Go.RowKit

def sl2 (g : Nat) : Value := .slice (some ⟨g, 0, none⟩) 2 2
def two (p : Int × Int) : List Int := [p.1, p.2]
/-- The slice (address A) reads as a list of slices of two ints. -/
def RSS (w : World) (A : Option Addr) (l : List (Int × Int)) : Prop :=
  l.length ≤ 1048576 ∧ (0 < l.length → ∃ b off, A = some ⟨b, off, none⟩ ∧ b < w.heap.size ∧ ∀ j, j < l.length → ∃ g, w.cell? ⟨b, off + j, none⟩ = some (sl2 g) ∧ RI w (some ⟨g, 0, none⟩) (two (l.getD j (0, 0))))
theorem RSS.below {w w' : World} {A : Option Addr} {l : List (Int × Int)} (h : RSS w A l) (hb : Below w.heap.size w w') : RSS w' A l :=
  ⟨h.1, fun hl => by
    obtain ⟨b, off, hA, hlt, hj⟩ := h.2 hl
    refine ⟨b, off, hA, Nat.lt_of_lt_of_le hlt hb.size, fun j hjl => ?_⟩
    obtain ⟨g, h1, h2⟩ := hj j hjl
    exact ⟨g, (hb.cell hlt).trans h1, h2.below hb⟩⟩
/-- The slice of slices was made by the program: all of it lies in blocks from lo on and below hi, no two of them the same. -/
structure OwnSS (e1 e2 : TypeId) (lo hi : Nat) (w : World) (A : Option Addr) (c : Nat) (l : List (Int × Int)) : Prop where
  ex : ∃ gs : List Nat, gs.length = l.length ∧ OwnC e1 1 lo hi w A c l.length (gs.map sl2) ∧
    (∀ j, j < l.length → lo ≤ gs.getD j 0 ∧ gs.getD j 0 < hi ∧ Off A (gs.getD j 0) ∧ OwnI e2 (gs.getD j 0) (gs.getD j 0 + 1) w (some ⟨gs.getD j 0, 0, none⟩) 2 (two (l.getD j (0, 0)))) ∧
    ∀ i j, i < j → j < l.length → gs.getD i 0 ≠ gs.getD j 0
  le : hi ≤ w.heap.size
  small : l.length ≤ 1048576
section
variable {e1 e2 : TypeId} {lo hi b : Nat} {w w' : World} {A : Option Addr} {c : Nat} {l : List (Int × Int)}
theorem gs_at {gs : List Nat} {j : Nat} (h : j < gs.length) : (gs.map sl2)[j]? = some (sl2 (gs.getD j 0)) := by
  rw [List.getElem?_map, List.getD_eq_getElem?_getD, List.getElem?_eq_getElem h]; rfl
theorem OwnSS.reads (h : OwnSS e1 e2 lo hi w A c l) : RSS w A l := by
  refine ⟨h.small, fun hl => ?_⟩
  obtain ⟨gs, hg, ho, hi, _⟩ := h.ex
  obtain ⟨g, rfl, _, _, hlt, row⟩ := ho.form hl
  refine ⟨g, 0, rfl, hlt, fun j hj => ⟨gs.getD j 0, ?_, (hi j hj).2.2.2.reads⟩⟩
  rw [Nat.zero_add, row.cellAt j (by omega)]
  exact gs_at (by omega)
theorem OwnSS.below (h : OwnSS e1 e2 lo hi w A c l) {B : Nat} (hb : Below B w w') (hB : hi ≤ B) : OwnSS e1 e2 lo hi w' A c l := by
  obtain ⟨gs, hg, ho, hi, hd⟩ := h.ex
  refine ⟨⟨gs, hg, ho.below hb hB, fun j hj => ?_, hd⟩, Nat.le_trans h.le hb.size, h.small⟩
  obtain ⟨h1, h2, h3, h4⟩ := hi j hj
  exact ⟨h1, h2, h3, h4.below hb (by omega)⟩
theorem OwnSS.kept (h : OwnSS e1 e2 lo hi w A c l) {lo' hi' : Nat} (hk : Kept lo' hi' w w') (hd : hi ≤ lo' ∨ hi' ≤ lo) : OwnSS e1 e2 lo hi w' A c l := by
  obtain ⟨gs, hg, ho, hi, hdd⟩ := h.ex
  refine ⟨⟨gs, hg, ho.kept hk hd, fun j hj => ?_, hdd⟩, Nat.le_trans h.le hk.size, h.small⟩
  obtain ⟨h1, h2, h3, h4⟩ := hi j hj
  exact ⟨h1, h2, h3, h4.kept hk (by omega)⟩
theorem OwnSS.hi_mono {hi' : Nat} (h : OwnSS e1 e2 lo hi w A c l) (h1 : hi ≤ hi') (h2 : hi' ≤ w.heap.size) : OwnSS e1 e2 lo hi' w A c l := by
  obtain ⟨gs, hg, ho, hi, hdd⟩ := h.ex
  refine ⟨⟨gs, hg, ho.hi_mono h1 h2, fun j hj => ?_, hdd⟩, h2, h.small⟩
  obtain ⟨k1, k2, k3, k4⟩ := hi j hj
  exact ⟨k1, by omega, k3, k4⟩
theorem OwnSS.lo_mono {lo' : Nat} (h : OwnSS e1 e2 lo hi w A c l) (hl : lo' ≤ lo) : OwnSS e1 e2 lo' hi w A c l := by
  obtain ⟨gs, hg, ho, hi, hdd⟩ := h.ex
  refine ⟨⟨gs, hg, ho.lo_mono hl, fun j hj => ?_, hdd⟩, h.le, h.small⟩
  obtain ⟨k1, k2, k3, k4⟩ := hi j hj
  exact ⟨by omega, k2, k3, k4⟩
theorem OwnSS.nil (e1 e2 : TypeId) {lo hi : Nat} (w : World) (h : hi ≤ w.heap.size) : OwnSS e1 e2 lo hi w none 0 [] :=
  ⟨⟨[], rfl, OwnC.nil e1 w h, fun j hj => absurd hj (by simp), fun i j _ hj => absurd hj (by simp)⟩, h, by simp⟩
theorem OwnSS.empty {W : World} (e1 e2 : TypeId) {g : Nat} (hg : W.heap.size = g) : OwnSS e1 e2 g (g + 1) (W.alloc (.cells #[] e1)) (some ⟨g, 0, none⟩) 0 [] := by
  subst hg
  exact ⟨⟨[], rfl, OwnC.empty e1 1, fun j hj => absurd hj (by simp), fun i j _ hj => absurd hj (by simp)⟩, by simp, by simp⟩
/-- One of the inner slices, to be changed. -/
theorem OwnSS.slot (h : OwnSS e1 e2 lo hi w (some ⟨b, 0, none⟩) c l) {k : Nat} (hk : k < l.length) :
    ∃ g, w.cell? ⟨b, k, none⟩ = some (sl2 g) ∧ lo ≤ g ∧ g < hi ∧ OwnI e2 g (g + 1) w (some ⟨g, 0, none⟩) 2 (two (l.getD k (0, 0))) ∧
      ∀ w' x y, Kept g (g + 1) w w' → OwnI e2 g (g + 1) w' (some ⟨g, 0, none⟩) 2 [x, y] → OwnSS e1 e2 lo hi w' (some ⟨b, 0, none⟩) c (l.set k (x, y)) := by
  obtain ⟨gs, hg, ho, hi, hd⟩ := h.ex
  obtain ⟨h1, h2, h3, h4⟩ := hi k hk
  refine ⟨gs.getD k 0, ?_, h1, h2, h4, fun w' x y hkp hn => ⟨⟨gs, by simpa using hg, ?_, fun j hj => ?_, fun i j hij hj => hd i j hij (by simpa using hj)⟩, Nat.le_trans h.le hkp.size, by simpa using h.small⟩⟩
  · rw [ho.row.cellAt k (by omega)]
    exact gs_at (by omega)
  · have hb : b < gs.getD k 0 ∨ gs.getD k 0 + 1 ≤ b := by have := h3 _ rfl; simp only at this; omega
    rw [List.length_set]
    refine ⟨ownsRow_same ho.row fun g hgb => ?_, ho.top, Nat.le_trans ho.le hkp.size⟩
    simp only [Value.ownBlock, Option.some.injEq] at hgb
    subst hgb
    have := ho.top _ rfl
    have := ho.le
    simp only at *
    exact hkp.block b (by omega) hb
  · rw [List.length_set] at hj
    obtain ⟨k1, k2, k3, k4⟩ := hi j hj
    refine ⟨k1, k2, k3, ?_⟩
    by_cases hjk : j = k
    · subst hjk
      have : (l.set j (x, y)).getD j (0, 0) = (x, y) := by rw [List.getD_eq_getElem?_getD, List.getElem?_set_self hj]; rfl
      rw [this]
      exact hn
    · have e : (l.set k (x, y)).getD j (0, 0) = l.getD j (0, 0) := by rw [List.getD_eq_getElem?_getD, List.getElem?_set_ne (fun h => hjk h.symm), ← List.getD_eq_getElem?_getD]
      rw [e]
      have hne : gs.getD j 0 ≠ gs.getD k 0 := by
        rcases Nat.lt_or_gt_of_ne hjk with hlt | hgt
        · exact hd j k hlt hk
        · exact fun h => hd k j hgt hj h.symm
      exact k4.kept hkp (by omega)
theorem OwnSS.off (h : OwnSS e1 e2 lo hi w A c l) {g : Nat} (hg : hi ≤ g) : Off A g := by
  obtain ⟨gs, _, ho, _⟩ := h.ex
  exact fun a ha => by have := ho.top a ha; omega
theorem OwnSS.form (h : OwnSS e1 e2 lo hi w A c l) (hl : 0 < l.length) : ∃ b, A = some ⟨b, 0, none⟩ := by
  obtain ⟨gs, hg, ho, hi, _⟩ := h.ex
  obtain ⟨g, hA, _⟩ := ho.form hl
  exact ⟨g, hA⟩
end
end Go.Proofs.Ytakllloangpimaa
