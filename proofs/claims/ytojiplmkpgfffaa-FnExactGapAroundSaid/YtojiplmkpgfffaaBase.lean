/- General notions for the walks of this seat: worlds that have kept all old blocks, slices that read as lists of ints and of pairs, and slices that the program itself has made. No program is named here. -/
import Derived.WalkKit
import Derived.WalkLawsBesides
import Derived.WalkSpells
import Derived.Outline
import Derived.BigQuiet
import Derived.Deep.QuietTactic
import Derived.Deep.Draws
import Derived.Lib.Hide
import Derived.KernelRfl
namespace Go.Proofs.Ytojiplmkpgfffaa
open Go.RowKit

/-! ## Regions whose callees may lay blocks -/

/-- A world that has come of `W` with all blocks below `B` unchanged. -/
structure After (B : Nat) (W : World) where
  w : World
  h : Below B W w

instance (B : Nat) (W : World) : Nonempty (After B W) := ⟨⟨W, Below.refl _ _⟩⟩

theorem wp_region_after {P : Program} {id : Nat} {Q : Exit → Act → World → Prop} {a : Act} {w : World} {l : List Oper} (hm : P.follows .mixedOrders = true) (hB : Region.lexB .any l.toArray = true)
    (h : wpQuiet P l.toArray (fun w' => ∃ p : After w.heap.size w, w' = p.w) (fun a' => ∀ w', (∃ p : After w.heap.size w, w' = p.w) → Q .normal a' w') l a) : (Code.region id l.toArray true).wp P Q a w :=
  wp_region_quiet (C := fun w' => ∃ p : After w.heap.size w, w' = p.w) hm hB ⟨⟨w.drew, (Below.refl _ _).drew⟩, rfl⟩ (by simpa using h)

theorem Calls.after_of {P : Program} {f : FuncId} {args : Array Value} {W : World} {p : After W.heap.size W} {v : Value}
    (h : Calls P f args p.w fun e w' => e = .returned v ∧ Below p.w.heap.size p.w w') : Calls P f args p.w fun e w'' => e = .returned v ∧ ∃ q : After W.heap.size W, w'' = q.w :=
  h.mono fun _ w' ⟨he, hb⟩ => ⟨he, ⟨w', p.h.trans (hb.mono p.h.size)⟩, rfl⟩

theorem Calls.after_of_same {P : Program} {f : FuncId} {args : Array Value} {W : World} {p : After W.heap.size W} {v : Value}
    (h : Calls P f args p.w fun e w' => e = .returned v ∧ p.w = w') : Calls P f args p.w fun e w'' => e = .returned v ∧ ∃ q : After W.heap.size W, w'' = q.w :=
  h.mono fun _ _ ⟨he, hb⟩ => ⟨he, p, hb.symm⟩

theorem bthen {w a b : World} (h : Below w.heap.size w a) (k : Below a.heap.size a b) : Below w.heap.size w b := h.trans (k.mono h.size)
theorem bnew {w a : World} (h : Below w.heap.size w a) (o : Obj) : Below w.heap.size w (a.alloc o) := h.alloc h.size o

theorem ret_bool {a b : Bool} (h : a = b) : Ending.returned (.bool a) = .returned (.bool b) := by rw [h]
theorem ret_int {a b : Int} (h : a = b) : Ending.returned (.int .i64 a) = .returned (.int .i64 b) := by rw [h]

/-! ## Slices that read as lists -/

/-- The block b, from the offset off on, reads as the list of pairs. -/
def PairsAt (w : World) (b off : Nat) (l : List (Int × Int)) : Prop :=
  b < w.heap.size ∧ ∀ j, j < l.length → w.cell? ⟨b, off + j * 2, none⟩ = some (.int .i64 (l.getD j (0, 0)).1) ∧ w.cell? ⟨b, off + j * 2 + 1, none⟩ = some (.int .i64 (l.getD j (0, 0)).2)
/-- The block b, from the offset off on, reads as the list of ints. -/
def IntsAt (w : World) (b off : Nat) (l : List Int) : Prop :=
  b < w.heap.size ∧ ∀ j, j < l.length → w.cell? ⟨b, off + j, none⟩ = some (.int .i64 (l.getD j 0))
/-- A slice with the address A reads as the list of pairs, of ints (of an empty one nothing is asked). -/
def RP (w : World) (A : Option Addr) (l : List (Int × Int)) : Prop := l.length ≤ 1048576 ∧ (0 < l.length → ∃ b off, A = some ⟨b, off, none⟩ ∧ PairsAt w b off l)
def RI (w : World) (A : Option Addr) (l : List Int) : Prop := l.length ≤ 1048576 ∧ (0 < l.length → ∃ b off, A = some ⟨b, off, none⟩ ∧ IntsAt w b off l)

theorem PairsAt.below {w w' : World} {b off : Nat} {l : List (Int × Int)} (h : PairsAt w b off l) (hb : Below w.heap.size w w') : PairsAt w' b off l :=
  ⟨Nat.lt_of_lt_of_le h.1 hb.size, fun j hj => ⟨(hb.cell h.1).trans (h.2 j hj).1, (hb.cell h.1).trans (h.2 j hj).2⟩⟩
theorem IntsAt.below {w w' : World} {b off : Nat} {l : List Int} (h : IntsAt w b off l) (hb : Below w.heap.size w w') : IntsAt w' b off l :=
  ⟨Nat.lt_of_lt_of_le h.1 hb.size, fun j hj => (hb.cell h.1).trans (h.2 j hj)⟩
theorem RP.below {w w' : World} {A : Option Addr} {l : List (Int × Int)} (h : RP w A l) (hb : Below w.heap.size w w') : RP w' A l :=
  ⟨h.1, fun hl => by obtain ⟨b, off, hA, h⟩ := h.2 hl; exact ⟨b, off, hA, h.below hb⟩⟩
theorem RI.below {w w' : World} {A : Option Addr} {l : List Int} (h : RI w A l) (hb : Below w.heap.size w w') : RI w' A l :=
  ⟨h.1, fun hl => by obtain ⟨b, off, hA, h⟩ := h.2 hl; exact ⟨b, off, hA, h.below hb⟩⟩

/-- Element k, in each world behind `wr`, its parts named. -/
theorem PairsAt.at_ {w wr : World} {b off : Nat} {l : List (Int × Int)} (h : PairsAt w b off l) (hb : Below w.heap.size w wr) {k : Nat} (hk : k < l.length) :
    ∃ t u, Hid (l.getD k (0, 0) = (t, u)) ∧ b < wr.heap.size ∧ (∀ p : After wr.heap.size wr, p.w.cell? ⟨b, off + k * 2, none⟩ = some (.int .i64 t)) ∧ ∀ p : After wr.heap.size wr, p.w.cell? ⟨b, off + k * 2 + 1, none⟩ = some (.int .i64 u) :=
  ⟨_, _, rfl, (h.below hb).1, fun p => (p.h.cell (h.below hb).1).trans ((h.below hb).2 k hk).1, fun p => (p.h.cell (h.below hb).1).trans ((h.below hb).2 k hk).2⟩
theorem IntsAt.at_ {w wr : World} {b off : Nat} {l : List Int} (h : IntsAt w b off l) (hb : Below w.heap.size w wr) {k : Nat} (hk : k < l.length) :
    ∃ t, Hid (l.getD k 0 = t) ∧ b < wr.heap.size ∧ ∀ p : After wr.heap.size wr, p.w.cell? ⟨b, off + k, none⟩ = some (.int .i64 t) :=
  ⟨_, rfl, (h.below hb).1, fun p => (p.h.cell (h.below hb).1).trans ((h.below hb).2 k hk)⟩
/-- The same in one world. -/
theorem PairsAt.here {w wr : World} {b off : Nat} {l : List (Int × Int)} (h : PairsAt w b off l) (hb : Below w.heap.size w wr) {k : Nat} (hk : k < l.length) :
    ∃ t u, Hid (l.getD k (0, 0) = (t, u)) ∧ b < wr.heap.size ∧ wr.cell? ⟨b, off + k * 2, none⟩ = some (.int .i64 t) ∧ wr.cell? ⟨b, off + k * 2 + 1, none⟩ = some (.int .i64 u) :=
  ⟨_, _, rfl, (h.below hb).1, ((h.below hb).2 k hk).1, ((h.below hb).2 k hk).2⟩
theorem IntsAt.here {w wr : World} {b off : Nat} {l : List Int} (h : IntsAt w b off l) (hb : Below w.heap.size w wr) {k : Nat} (hk : k < l.length) :
    ∃ t, Hid (l.getD k 0 = t) ∧ b < wr.heap.size ∧ wr.cell? ⟨b, off + k, none⟩ = some (.int .i64 t) :=
  ⟨_, rfl, (h.below hb).1, (h.below hb).2 k hk⟩

/-! ## Slices that the program has made -/

def pcells (l : List (Int × Int)) : List Value := l.flatMap fun p => [.int .i64 p.1, .int .i64 p.2]
theorem pcells_nil : pcells [] = [] := rfl
theorem pcells_cons (p : Int × Int) (l : List (Int × Int)) : pcells (p :: l) = .int .i64 p.1 :: .int .i64 p.2 :: pcells l := rfl
theorem pcells_append (l m : List (Int × Int)) : pcells (l ++ m) = pcells l ++ pcells m := by simp [pcells]
theorem length_pcells (l : List (Int × Int)) : (pcells l).length = l.length * 2 := by
  induction l with
  | nil => rfl
  | cons p l ih => rw [pcells_cons, List.length_cons, List.length_cons, ih, List.length_cons]; omega
theorem pcells_at (l : List (Int × Int)) : ∀ j, j < l.length → (pcells l)[j * 2]? = some (.int .i64 (l.getD j (0, 0)).1) ∧ (pcells l)[j * 2 + 1]? = some (.int .i64 (l.getD j (0, 0)).2) := by
  induction l with
  | nil => intro j hj; simp at hj
  | cons p l ih =>
    intro j hj
    match j with
    | 0 => exact ⟨rfl, rfl⟩
    | j + 1 =>
      have h := ih j (by simpa using hj)
      rw [pcells_cons, show (j + 1) * 2 = j * 2 + 1 + 1 from by omega]
      simpa using h

/-- The slice (address A, length, capacity c) was made by the program: it lies in a block from lo on, below hi, not frozen, and holds the list. -/
structure OwnP (e : TypeId) (lo hi : Nat) (w : World) (A : Option Addr) (c : Nat) (l : List (Int × Int)) : Prop where
  row : w.ownsRow lo e 2 (.slice A l.length c) l.length (pcells l)
  top : ∀ a, A = some a → a.block < hi
  le : hi ≤ w.heap.size
  small : l.length ≤ 1048576
structure OwnI (e : TypeId) (lo hi : Nat) (w : World) (A : Option Addr) (c : Nat) (l : List Int) : Prop where
  row : w.ownsRow lo e 1 (.slice A l.length c) l.length (l.map (Value.int .i64))
  top : ∀ a, A = some a → a.block < hi
  le : hi ≤ w.heap.size
  small : l.length ≤ 1048576

/-- Only blocks from lo on and below hi have changed. -/
structure Kept (lo hi : Nat) (w w' : World) : Prop where
  os : w'.os = w.os
  tape : w'.tape = w.tape
  output : w'.output = w.output
  size : w.heap.size ≤ w'.heap.size
  block : ∀ k, k < w.heap.size → k < lo ∨ hi ≤ k → w'.heap[k]? = w.heap[k]?

theorem Kept.refl (lo hi : Nat) (w : World) : Kept lo hi w w := ⟨rfl, rfl, rfl, Nat.le_refl _, fun _ _ _ => rfl⟩
theorem Kept.trans {lo hi : Nat} {a b c : World} (h : Kept lo hi a b) (k : Kept lo hi b c) : Kept lo hi a c :=
  ⟨k.os.trans h.os, k.tape.trans h.tape, k.output.trans h.output, Nat.le_trans h.size k.size, fun i hi ho => (k.block i (Nat.lt_of_lt_of_le hi h.size) ho).trans (h.block i hi ho)⟩
theorem Kept.setCell {lo hi : Nat} {a w : World} (h : Kept lo hi a w) {p : Addr} (h1 : lo ≤ p.block) (h2 : p.block < hi) (u : Value) : Kept lo hi a (w.setCell p u) :=
  h.trans ⟨rfl, rfl, rfl, by simp [World.setCell], fun k _ ho => Below.heap_setCell _ _ _ _ (by omega)⟩
theorem Kept.below {lo hi : Nat} {B : Nat} {w w' : World} (h : Kept lo hi w w') (hB : B ≤ w.heap.size) (hl : B ≤ lo) : Below B w w' :=
  ⟨h.os, h.tape, h.output, h.size, fun k hk => h.block k (by omega) (.inl (by omega))⟩
theorem bkept {B lo hi : Nat} {w w' : World} (h : Below B w w') (hB : w.heap.size ≤ B) : Kept lo hi w w' :=
  ⟨h.os, h.tape, h.output, h.size, fun k hk _ => h.block k (by omega)⟩
theorem Kept.cell {lo hi : Nat} {w w' : World} (h : Kept lo hi w w') {p : Addr} (hp : p.block < w.heap.size) (ho : p.block < lo ∨ hi ≤ p.block) : w'.cell? p = w.cell? p := World.cell?_of_block (w := w) (h.block p.block hp ho)

theorem ownsRow_same {w w' : World} {lo : Nat} {e : TypeId} {size : Nat} {v : Value} {n : Nat} {xs : List Value} (h : w.ownsRow lo e size v n xs)
    (hb : ∀ g, v.ownBlock = some g → w'.heap[g]? = w.heap[g]?) : w'.ownsRow lo e size v n xs := by
  refine ⟨h.1, ?_⟩
  rcases h.2 with hn | ⟨g, cap, cur, rfl, h1, hg, rest⟩
  · exact .inl hn
  · exact .inr ⟨g, cap, cur, rfl, h1, (hb g rfl).trans hg, rest⟩

section
variable {e : TypeId} {lo hi : Nat} {w w' : World} {A : Option Addr} {c : Nat}
theorem OwnP.lo_le {l : List (Int × Int)} (h : OwnP e lo hi w A c l) : ∀ a, A = some a → lo ≤ a.block := by
  intro a ha; subst ha
  exact (h.row.lt a.block rfl).1
theorem OwnI.lo_le {l : List Int} (h : OwnI e lo hi w A c l) : ∀ a, A = some a → lo ≤ a.block := by
  intro a ha; subst ha
  exact (h.row.lt a.block rfl).1
theorem OwnP.below {l : List (Int × Int)} (h : OwnP e lo hi w A c l) {B : Nat} (hb : Below B w w') (hB : hi ≤ B) : OwnP e lo hi w' A c l :=
  ⟨ownsRow_same h.row fun g hg => by
    cases A with
    | none => simp [Value.ownBlock] at hg
    | some a =>
      simp only [Value.ownBlock, Option.some.injEq] at hg
      have := h.top a rfl
      exact hb.block g (by omega), h.top, Nat.le_trans h.le hb.size, h.small⟩
theorem OwnI.below {l : List Int} (h : OwnI e lo hi w A c l) {B : Nat} (hb : Below B w w') (hB : hi ≤ B) : OwnI e lo hi w' A c l :=
  ⟨ownsRow_same h.row fun g hg => by
    cases A with
    | none => simp [Value.ownBlock] at hg
    | some a =>
      simp only [Value.ownBlock, Option.some.injEq] at hg
      have := h.top a rfl
      exact hb.block g (by omega), h.top, Nat.le_trans h.le hb.size, h.small⟩
theorem OwnP.kept {l : List (Int × Int)} (h : OwnP e lo hi w A c l) {lo' hi' : Nat} (hk : Kept lo' hi' w w') (hd : hi ≤ lo' ∨ hi' ≤ lo) : OwnP e lo hi w' A c l :=
  ⟨ownsRow_same h.row fun g hg => by
    cases A with
    | none => simp [Value.ownBlock] at hg
    | some a =>
      simp only [Value.ownBlock, Option.some.injEq] at hg
      have h1 := h.top a rfl
      have h2 := h.lo_le a rfl
      have h3 := h.le
      exact hk.block g (by omega) (by omega), h.top, Nat.le_trans h.le hk.size, h.small⟩
theorem OwnI.kept {l : List Int} (h : OwnI e lo hi w A c l) {lo' hi' : Nat} (hk : Kept lo' hi' w w') (hd : hi ≤ lo' ∨ hi' ≤ lo) : OwnI e lo hi w' A c l :=
  ⟨ownsRow_same h.row fun g hg => by
    cases A with
    | none => simp [Value.ownBlock] at hg
    | some a =>
      simp only [Value.ownBlock, Option.some.injEq] at hg
      have h1 := h.top a rfl
      have h2 := h.lo_le a rfl
      have h3 := h.le
      exact hk.block g (by omega) (by omega), h.top, Nat.le_trans h.le hk.size, h.small⟩
/-- What was made has an address and cells. -/
theorem OwnP.form {l : List (Int × Int)} (h : OwnP e lo hi w A c l) (hl : 0 < l.length) : ∃ g, A = some ⟨g, 0, none⟩ ∧ lo ≤ g ∧ g < hi ∧ g < w.heap.size ∧ w.ownsRow lo e 2 (.slice (some ⟨g, 0, none⟩) l.length c) l.length (pcells l) := by
  rcases h.row.2 with ⟨_, hn⟩ | ⟨g, cap, cur, hv, h1, hg, _⟩
  · omega
  · injection hv with hA _ hc
    have h2 := h.top _ hA
    refine ⟨g, hA, h1, h2, (Array.getElem?_eq_some_iff.1 hg).1, ?_⟩
    have := h.row
    rw [hA] at this
    exact this
theorem OwnI.form {l : List Int} (h : OwnI e lo hi w A c l) (hl : 0 < l.length) : ∃ g, A = some ⟨g, 0, none⟩ ∧ lo ≤ g ∧ g < hi ∧ g < w.heap.size ∧ w.ownsRow lo e 1 (.slice (some ⟨g, 0, none⟩) l.length c) l.length (l.map (Value.int .i64)) := by
  rcases h.row.2 with ⟨_, hn⟩ | ⟨g, cap, cur, hv, h1, hg, _⟩
  · omega
  · injection hv with hA _ hc
    have h2 := h.top _ hA
    refine ⟨g, hA, h1, h2, (Array.getElem?_eq_some_iff.1 hg).1, ?_⟩
    have := h.row
    rw [hA] at this
    exact this
theorem OwnP.reads {l : List (Int × Int)} (h : OwnP e lo hi w A c l) : RP w A l :=
  ⟨h.small, fun hl => by
    obtain ⟨g, hA, _, _, hg, hr⟩ := h.form hl
    refine ⟨g, 0, hA, hg, fun j hj => ?_⟩
    obtain ⟨p1, p2⟩ := pcells_at l j hj
    have q1 := hr.cellAt (j * 2) (by omega)
    have q2 := hr.cellAt (j * 2 + 1) (by omega)
    rw [Nat.zero_add]
    exact ⟨q1.trans p1, q2.trans p2⟩⟩
theorem OwnI.reads {l : List Int} (h : OwnI e lo hi w A c l) : RI w A l :=
  ⟨h.small, fun hl => by
    obtain ⟨g, hA, _, _, hg, hr⟩ := h.form hl
    refine ⟨g, 0, hA, hg, fun j hj => ?_⟩
    have q1 := hr.cellAt j (by omega)
    rw [Nat.zero_add, q1, List.getElem?_map, List.getD_eq_getElem?_getD, List.getElem?_eq_getElem hj]
    rfl⟩
end

/-! ## What the marks leave -/

def upI (q : Int) (n : Nat) : List Int := (List.range n).map fun (j : Nat) => q + (j : Int)
def upP (q : Int) (n : Nat) : List (Int × Int) := (List.range n).map fun (j : Nat) => (q + 2 * (j : Int), q + 2 * (j : Int) + 1)
theorem length_upI (q : Int) (n : Nat) : (upI q n).length = n := by simp [upI]
theorem length_upP (q : Int) (n : Nat) : (upP q n).length = n := by simp [upP]
theorem upI_at (q : Int) (n k : Nat) (h : k < n) : (upI q n).getD k 0 = q + (k : Int) := by
  rw [List.getD_eq_getElem?_getD, List.getElem?_eq_getElem (by simpa [upI] using h)]; simp [upI]
theorem upP_at (q : Int) (n k : Nat) (h : k < n) : (upP q n).getD k (0, 0) = (q + 2 * (k : Int), q + 2 * (k : Int) + 1) := by
  rw [List.getD_eq_getElem?_getD, List.getElem?_eq_getElem (by simpa [upP] using h)]; simp [upP]

end Go.Proofs.Ytojiplmkpgfffaa
