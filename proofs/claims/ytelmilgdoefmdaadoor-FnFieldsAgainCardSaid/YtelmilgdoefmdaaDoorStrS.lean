/- Lists of strings: what is held of them, and the law's own helpers that compare, mark and look again at them. -/
import Derived.Test.YtelmilgdoefmdaaDoorNum
import Derived.Test.YtelmilgdoefmdaaDoorTail
import Derived.Test.YtelmilgdoefmdaaDoorBase2
import Derived.Deep.RegionHeld3
import Derived.Deep.AppendLies
import Derived.Laws.IdiomStrings
import Derived.Lib.BufferRead
namespace Go.Proofs.YtelmilgdoefmdaaDoor
open Go.RowKit
set_option linter.unusedVariables false
/-- The slice (address A) reads as the list of strings. -/
def RS (w : World) (A : Option Addr) (l : List ByteArray) : Prop :=
  l.length ≤ 1048576 ∧ (0 < l.length → ∃ b off, A = some ⟨b, off, none⟩ ∧ ∀ j, j < l.length → w.cell? ⟨b, off + j, none⟩ = some (.string (l.getD j ⟨#[]⟩)))
theorem RS.below {w w' : World} {A : Option Addr} {l : List ByteArray} (h : RS w A l) (hb : Below w.heap.size w w') : RS w' A l :=
  ⟨h.1, fun hl => by obtain ⟨b, off, hA, hj⟩ := h.2 hl; exact ⟨b, off, hA, fun j hjl => cell_later (hj j hjl) hb⟩⟩
structure OwnS (e : TypeId) (lo hi : Nat) (w : World) (A : Option Addr) (c : Nat) (l : List ByteArray) : Prop where
  own : OwnC e 1 lo hi w A c l.length (l.map Value.string)
  le : hi ≤ w.heap.size
  small : l.length ≤ 1048576
section
variable {e : TypeId} {lo hi : Nat} {w w' : World} {A : Option Addr} {c : Nat} {l : List ByteArray}
theorem OwnS.below (h : OwnS e lo hi w A c l) {B : Nat} (hb : Below B w w') (hB : hi ≤ B) : OwnS e lo hi w' A c l := ⟨h.own.below hb hB, Nat.le_trans h.le hb.size, h.small⟩
theorem OwnS.kept (h : OwnS e lo hi w A c l) {lo' hi' : Nat} (hk : Kept lo' hi' w w') (hd : hi ≤ lo' ∨ hi' ≤ lo) : OwnS e lo hi w' A c l := ⟨h.own.kept hk hd, Nat.le_trans h.le hk.size, h.small⟩
theorem OwnS.hi_mono {hi' : Nat} (h : OwnS e lo hi w A c l) (h1 : hi ≤ hi') (h2 : hi' ≤ w.heap.size) : OwnS e lo hi' w A c l := ⟨h.own.hi_mono h1 h2, h2, h.small⟩
theorem OwnS.nil (e : TypeId) {lo hi : Nat} (w : World) (h : hi ≤ w.heap.size) : OwnS e lo hi w none 0 [] := ⟨OwnC.nil e w h, h, by simp⟩
theorem strs_at {l : List ByteArray} {k : Nat} (hk : k < l.length) : (l.map Value.string)[k]? = some (.string (l.getD k ⟨#[]⟩)) := by
  rw [List.getElem?_map, List.getD_eq_getElem?_getD, List.getElem?_eq_getElem hk]; rfl
theorem OwnS.reads (h : OwnS e lo hi w A c l) : RS w A l := by
  refine ⟨h.small, fun hl => ?_⟩
  obtain ⟨g, rfl, _, _, hlt, row⟩ := h.own.form hl
  exact ⟨g, 0, rfl, fun j hj => by rw [Nat.zero_add, row.cellAt j (by omega)]; exact strs_at hj⟩
theorem OwnS.slot {g : Nat} (h : OwnS e lo hi w (some ⟨g, 0, none⟩) c l) {k : Nat} (hk : k < l.length) : w.cell? ⟨g, k, none⟩ = some (.string (l.getD k ⟨#[]⟩)) ∧ w.frozen? ⟨g, k, none⟩ = false :=
  ⟨(h.own.row.cellAt k (by omega)).trans (strs_at hk), h.own.row.frozenAt _⟩
theorem OwnS.stored {g : Nat} (h : OwnS e lo hi w (some ⟨g, 0, none⟩) c l) (k : Nat) (x : ByteArray) : OwnS e lo hi (w.setCell ⟨g, k, none⟩ (.string x)) (some ⟨g, 0, none⟩) c (l.set k x) := by
  have h1 := (h.own.row.stored k (.string x)).1
  have h2 := h.le
  refine ⟨⟨?_, h.own.top, by simpa [World.setCell] using h2⟩, by simpa [World.setCell] using h2, by rw [List.length_set]; exact h.small⟩
  rw [List.map_set, List.length_set]; exact h1
theorem OwnS.form (h : OwnS e lo hi w A c l) (hl : 0 < l.length) : ∃ g, A = some ⟨g, 0, none⟩ ∧ lo ≤ g ∧ g < hi := by
  obtain ⟨g, h1, h2, h3, _⟩ := h.own.form hl
  exact ⟨g, h1, h2, h3⟩
end
/-! ## The marks -/
def fig10 (r : Nat) : UInt8 := UInt8.ofNat (48 + r % 10)
theorem fig10_val (r : Nat) : ((fig10 r).toNat : Int) = 48 + (r : Int) % 10 := by
  unfold fig10
  rw [UInt8.toNat_ofNat', Nat.mod_eq_of_lt (by omega)]; omega
/-- The figures of r ahead of acc. -/
def figs : Nat → Nat → ByteArray → ByteArray
  | 0, _, acc => acc
  | fuel + 1, r, acc => if r = 0 then acc else figs fuel (r / 10) (⟨#[fig10 r]⟩ ++ acc)
theorem figs_fuel : ∀ (f r : Nat) (acc : ByteArray) (g : Nat), r ≤ f → r ≤ g → figs f r acc = figs g r acc
  | 0, r, acc, g, h, _ => by
    obtain rfl : r = 0 := by omega
    cases g <;> simp [figs]
  | f + 1, r, acc, 0, _, h => by
    obtain rfl : r = 0 := by omega
    simp [figs]
  | f + 1, r, acc, g + 1, h1, h2 => by
    unfold figs
    split
    · rfl
    · exact figs_fuel f _ _ g (by omega) (by omega)
def mt (k : Int) : ByteArray := if k ≤ 0 then ⟨#[109, 48]⟩ else ⟨#[109]⟩ ++ figs k.toNat k.toNat ⟨#[]⟩
theorem figs_next {r : Nat} (acc : ByteArray) (h : 0 < r) : figs r r acc = figs (r / 10) (r / 10) (⟨#[fig10 r]⟩ ++ acc) := by
  obtain ⟨f, rfl⟩ : ∃ f, r = f + 1 := ⟨r - 1, by omega⟩
  rw [show figs (f + 1) (f + 1) acc = if f + 1 = 0 then acc else figs f ((f + 1) / 10) (⟨#[fig10 (f + 1)]⟩ ++ acc) from rfl, if_neg (by omega)]
  exact figs_fuel _ _ _ _ (by omega) (Nat.le_refl _)
def upS (q : Int) (n : Nat) : List ByteArray := (List.range n).map fun (j : Nat) => mt (q + (j : Int))
theorem length_upS (q : Int) (n : Nat) : (upS q n).length = n := by simp [upS]
theorem upS_at (q : Int) (n k : Nat) (h : k < n) : (upS q n).getD k ⟨#[]⟩ = mt (q + (k : Int)) := by
  rw [List.getD_eq_getElem?_getD, List.getElem?_eq_getElem (by simpa [upS] using h)]; simp [upS]
end Go.Proofs.YtelmilgdoefmdaaDoor
