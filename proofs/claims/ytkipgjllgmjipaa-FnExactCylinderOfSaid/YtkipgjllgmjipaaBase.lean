/- General notions for the walks of this seat: worlds that have kept all old blocks, slices that read as lists of ints and of pairs, and slices that the program itself has made. No program is named here. -/
import Derived.WalkKit
import Derived.WalkLawsBesides
import Derived.WalkSpells
import Derived.Outline
import Derived.BigQuiet
import Derived.Deep.QuietTactic
import Derived.Deep.Draws
import Derived.Lib.Hide
import Derived.KernelRfl
import Derived.Maps.AppendAt
namespace Go.Proofs.Ytkipgjllgmjipaa
open Go.RowKit

/-! ## Regions whose callees may lay blocks -/

/-- A world that has come of `W` with all blocks below `B` unchanged. -/
structure After (B : Nat) (W : World) where
  w : World
  h : Below B W w

instance (B : Nat) (W : World) : Nonempty (After B W) := ⟨⟨W, Below.refl _ _⟩⟩

theorem wp_region_after {P : Program} {id : Nat} {Q : Exit → Act → World → Prop} {a : Act} {w : World} {l : List Oper} (hm : P.follows .mixedOrders = true) (hB : Region.lexB .any l.toArray = true)
    (h : wpQuiet P l.toArray (fun w' => ∃ p : After w.heap.size w, w' = p.w) (fun a' => ∀ w', (∃ p : After w.heap.size w, w' = p.w) → Q .normal a' w') l a) : (Code.region id l.toArray true).wp P Q a w :=
  wp_region_quiet (C := fun w' => ∃ p : After w.heap.size w, w' = p.w) hm hB ⟨⟨w.drew, (Below.refl _ _).drew⟩, rfl⟩ (by simpa using h)

theorem Calls.after_of {P : Program} {f : FuncId} {args : Array Value} {W : World} {p : After W.heap.size W} {v : Value}
    (h : Calls P f args p.w fun e w' => e = .returned v ∧ Below p.w.heap.size p.w w') : Calls P f args p.w fun e w'' => e = .returned v ∧ ∃ q : After W.heap.size W, w'' = q.w :=
  h.mono fun _ w' ⟨he, hb⟩ => ⟨he, ⟨w', p.h.trans (hb.mono p.h.size)⟩, rfl⟩

theorem Calls.after_of_same {P : Program} {f : FuncId} {args : Array Value} {W : World} {p : After W.heap.size W} {v : Value}
    (h : Calls P f args p.w fun e w' => e = .returned v ∧ p.w = w') : Calls P f args p.w fun e w'' => e = .returned v ∧ ∃ q : After W.heap.size W, w'' = q.w :=
  h.mono fun _ _ ⟨he, hb⟩ => ⟨he, p, hb.symm⟩

theorem bthen {w a b : World} (h : Below w.heap.size w a) (k : Below a.heap.size a b) : Below w.heap.size w b := h.trans (k.mono h.size)
theorem bnew {w a : World} (h : Below w.heap.size w a) (o : Obj) : Below w.heap.size w (a.alloc o) := h.alloc h.size o

theorem ret_bool {a b : Bool} (h : a = b) : Ending.returned (.bool a) = .returned (.bool b) := by rw [h]
theorem ret_int {a b : Int} (h : a = b) : Ending.returned (.int .i64 a) = .returned (.int .i64 b) := by rw [h]

/-! ## Slices that read as lists -/

/-- The block b, from the offset off on, reads as the list of pairs. -/
def PairsAt (w : World) (b off : Nat) (l : List (Int × Int)) : Prop :=
  b < w.heap.size ∧ ∀ j, j < l.length → w.cell? ⟨b, off + j * 2, none⟩ = some (.int .i64 (l.getD j (0, 0)).1) ∧ w.cell? ⟨b, off + j * 2 + 1, none⟩ = some (.int .i64 (l.getD j (0, 0)).2)
/-- The block b, from the offset off on, reads as the list of ints. -/
def IntsAt (w : World) (b off : Nat) (l : List Int) : Prop :=
  b < w.heap.size ∧ ∀ j, j < l.length → w.cell? ⟨b, off + j, none⟩ = some (.int .i64 (l.getD j 0))
/-- A slice with the address A reads as the list of pairs, of ints (of an empty one nothing is asked). -/
def RP (w : World) (A : Option Addr) (l : List (Int × Int)) : Prop := l.length ≤ 1048576 ∧ (0 < l.length → ∃ b off, A = some ⟨b, off, none⟩ ∧ PairsAt w b off l)
def RI (w : World) (A : Option Addr) (l : List Int) : Prop := l.length ≤ 1048576 ∧ (0 < l.length → ∃ b off, A = some ⟨b, off, none⟩ ∧ IntsAt w b off l)

theorem PairsAt.below {w w' : World} {b off : Nat} {l : List (Int × Int)} (h : PairsAt w b off l) (hb : Below w.heap.size w w') : PairsAt w' b off l :=
  ⟨Nat.lt_of_lt_of_le h.1 hb.size, fun j hj => ⟨(hb.cell h.1).trans (h.2 j hj).1, (hb.cell h.1).trans (h.2 j hj).2⟩⟩
theorem IntsAt.below {w w' : World} {b off : Nat} {l : List Int} (h : IntsAt w b off l) (hb : Below w.heap.size w w') : IntsAt w' b off l :=
  ⟨Nat.lt_of_lt_of_le h.1 hb.size, fun j hj => (hb.cell h.1).trans (h.2 j hj)⟩
theorem RP.below {w w' : World} {A : Option Addr} {l : List (Int × Int)} (h : RP w A l) (hb : Below w.heap.size w w') : RP w' A l :=
  ⟨h.1, fun hl => by obtain ⟨b, off, hA, h⟩ := h.2 hl; exact ⟨b, off, hA, h.below hb⟩⟩
theorem RI.below {w w' : World} {A : Option Addr} {l : List Int} (h : RI w A l) (hb : Below w.heap.size w w') : RI w' A l :=
  ⟨h.1, fun hl => by obtain ⟨b, off, hA, h⟩ := h.2 hl; exact ⟨b, off, hA, h.below hb⟩⟩

theorem pair_of (l : List (Int × Int)) (k : Nat) : ∃ t u, Hid (l.getD k (0, 0) = (t, u)) := ⟨_, _, rfl⟩
theorem int_of (l : List Int) (k : Nat) : ∃ t, Hid (l.getD k 0 = t) := ⟨_, rfl⟩

section
variable {w wr : World} {b off k : Nat} {t u : Int}
/-- The two cells of element k: in the world `wr` (c1, c2), and in each world behind it (a1, a2). -/
theorem PairsAt.lt {l : List (Int × Int)} (h : PairsAt w b off l) (hb : Below w.heap.size w wr) : b < wr.heap.size := (h.below hb).1
theorem PairsAt.c1 {l : List (Int × Int)} (h : PairsAt w b off l) (hb : Below w.heap.size w wr) (hk : k < l.length) (e : Hid (l.getD k (0, 0) = (t, u))) : wr.cell? ⟨b, off + k * 2, none⟩ = some (.int .i64 t) := by
  have := ((h.below hb).2 k hk).1; rw [e.out] at this; exact this
theorem PairsAt.c2 {l : List (Int × Int)} (h : PairsAt w b off l) (hb : Below w.heap.size w wr) (hk : k < l.length) (e : Hid (l.getD k (0, 0) = (t, u))) : wr.cell? ⟨b, off + k * 2 + 1, none⟩ = some (.int .i64 u) := by
  have := ((h.below hb).2 k hk).2; rw [e.out] at this; exact this
theorem PairsAt.a1 {l : List (Int × Int)} (h : PairsAt w b off l) (hb : Below w.heap.size w wr) (hk : k < l.length) (e : Hid (l.getD k (0, 0) = (t, u))) : ∀ p : After wr.heap.size wr, p.w.cell? ⟨b, off + k * 2, none⟩ = some (.int .i64 t) :=
  fun p => (p.h.cell (h.lt hb)).trans (h.c1 hb hk e)
theorem PairsAt.a2 {l : List (Int × Int)} (h : PairsAt w b off l) (hb : Below w.heap.size w wr) (hk : k < l.length) (e : Hid (l.getD k (0, 0) = (t, u))) : ∀ p : After wr.heap.size wr, p.w.cell? ⟨b, off + k * 2 + 1, none⟩ = some (.int .i64 u) :=
  fun p => (p.h.cell (h.lt hb)).trans (h.c2 hb hk e)
/-- Element 0. -/
theorem PairsAt.z1 {l : List (Int × Int)} (h : PairsAt w b off l) (hb : Below w.heap.size w wr) (hk : 0 < l.length) (e : Hid (l.getD 0 (0, 0) = (t, u))) : ∀ p : After wr.heap.size wr, p.w.cell? ⟨b, off, none⟩ = some (.int .i64 t) := by
  have := h.a1 hb hk e; simpa using this
theorem PairsAt.z2 {l : List (Int × Int)} (h : PairsAt w b off l) (hb : Below w.heap.size w wr) (hk : 0 < l.length) (e : Hid (l.getD 0 (0, 0) = (t, u))) : ∀ p : After wr.heap.size wr, p.w.cell? ⟨b, off + 1, none⟩ = some (.int .i64 u) := by
  have := h.a2 hb hk e; simpa using this
theorem PairsAt.w1 {l : List (Int × Int)} (h : PairsAt w b off l) (hb : Below w.heap.size w wr) (hk : 0 < l.length) (e : Hid (l.getD 0 (0, 0) = (t, u))) : wr.cell? ⟨b, off, none⟩ = some (.int .i64 t) := by
  have := h.c1 hb hk e; simpa using this
theorem PairsAt.w2 {l : List (Int × Int)} (h : PairsAt w b off l) (hb : Below w.heap.size w wr) (hk : 0 < l.length) (e : Hid (l.getD 0 (0, 0) = (t, u))) : wr.cell? ⟨b, off + 1, none⟩ = some (.int .i64 u) := by
  have := h.c2 hb hk e; simpa using this
theorem IntsAt.lt {l : List Int} (h : IntsAt w b off l) (hb : Below w.heap.size w wr) : b < wr.heap.size := (h.below hb).1
theorem IntsAt.c1 {l : List Int} (h : IntsAt w b off l) (hb : Below w.heap.size w wr) (hk : k < l.length) (e : Hid (l.getD k 0 = t)) : wr.cell? ⟨b, off + k, none⟩ = some (.int .i64 t) := by
  have := (h.below hb).2 k hk; rw [e.out] at this; exact this
theorem IntsAt.a1 {l : List Int} (h : IntsAt w b off l) (hb : Below w.heap.size w wr) (hk : k < l.length) (e : Hid (l.getD k 0 = t)) : ∀ p : After wr.heap.size wr, p.w.cell? ⟨b, off + k, none⟩ = some (.int .i64 t) :=
  fun p => (p.h.cell (h.lt hb)).trans (h.c1 hb hk e)
end

/-- A new block of two cells, its world under one name. -/
theorem new2 {wr W : World} {x y : Value} {T : TypeId} (h : wr.alloc (.cells #[x, y] T) = W) :
    Below wr.heap.size wr W ∧ wr.heap.size < W.heap.size ∧ (∀ p : After W.heap.size W, p.w.cell? ⟨wr.heap.size, 0, none⟩ = some x) ∧ ∀ p : After W.heap.size W, p.w.cell? ⟨wr.heap.size, 1, none⟩ = some y := by
  subst h
  have hlt : wr.heap.size < (wr.alloc (.cells #[x, y] T)).heap.size := by simp
  have hh := heap_alloc_new wr (.cells #[x, y] T)
  exact ⟨(Below.refl _ _).alloc (Nat.le_refl _) _, hlt, fun p => (p.h.cell hlt).trans (cell_of_row _ _ 0 _ _ _ hh), fun p => (p.h.cell hlt).trans (cell_of_row _ _ 1 _ _ _ hh)⟩

/-! ## Slices that the program has made -/

def pcells (l : List (Int × Int)) : List Value := l.flatMap fun p => [.int .i64 p.1, .int .i64 p.2]
theorem pcells_nil : pcells [] = [] := rfl
theorem pcells_cons (p : Int × Int) (l : List (Int × Int)) : pcells (p :: l) = .int .i64 p.1 :: .int .i64 p.2 :: pcells l := rfl
theorem pcells_append (l m : List (Int × Int)) : pcells (l ++ m) = pcells l ++ pcells m := by simp [pcells]
theorem length_pcells (l : List (Int × Int)) : (pcells l).length = l.length * 2 := by
  induction l with
  | nil => rfl
  | cons p l ih => rw [pcells_cons, List.length_cons, List.length_cons, ih, List.length_cons]; omega
theorem pcells_at (l : List (Int × Int)) : ∀ j, j < l.length → (pcells l)[j * 2]? = some (.int .i64 (l.getD j (0, 0)).1) ∧ (pcells l)[j * 2 + 1]? = some (.int .i64 (l.getD j (0, 0)).2) := by
  induction l with
  | nil => intro j hj; simp at hj
  | cons p l ih =>
    intro j hj
    match j with
    | 0 => exact ⟨rfl, rfl⟩
    | j + 1 =>
      have h := ih j (by simpa using hj)
      rw [pcells_cons, show (j + 1) * 2 = j * 2 + 1 + 1 from by omega]
      simpa using h

/-- The slice (address A, length, capacity c) was made by the program: it lies in a block from lo on, below hi, not frozen, and holds the list. -/
structure OwnP (e : TypeId) (lo hi : Nat) (w : World) (A : Option Addr) (c : Nat) (l : List (Int × Int)) : Prop where
  row : w.ownsRow lo e 2 (.slice A l.length c) l.length (pcells l)
  top : ∀ a, A = some a → a.block < hi
  le : hi ≤ w.heap.size
  small : l.length ≤ 1048576
structure OwnI (e : TypeId) (lo hi : Nat) (w : World) (A : Option Addr) (c : Nat) (l : List Int) : Prop where
  row : w.ownsRow lo e 1 (.slice A l.length c) l.length (l.map (Value.int .i64))
  top : ∀ a, A = some a → a.block < hi
  le : hi ≤ w.heap.size
  small : l.length ≤ 1048576

/-- Only blocks from lo on and below hi have changed. -/
structure Kept (lo hi : Nat) (w w' : World) : Prop where
  os : w'.os = w.os
  tape : w'.tape = w.tape
  output : w'.output = w.output
  size : w.heap.size ≤ w'.heap.size
  block : ∀ k, k < w.heap.size → k < lo ∨ hi ≤ k → w'.heap[k]? = w.heap[k]?

theorem Kept.refl (lo hi : Nat) (w : World) : Kept lo hi w w := ⟨rfl, rfl, rfl, Nat.le_refl _, fun _ _ _ => rfl⟩
theorem Kept.trans {lo hi : Nat} {a b c : World} (h : Kept lo hi a b) (k : Kept lo hi b c) : Kept lo hi a c :=
  ⟨k.os.trans h.os, k.tape.trans h.tape, k.output.trans h.output, Nat.le_trans h.size k.size, fun i hi ho => (k.block i (Nat.lt_of_lt_of_le hi h.size) ho).trans (h.block i hi ho)⟩
theorem Kept.setCell {lo hi : Nat} {a w : World} (h : Kept lo hi a w) {p : Addr} (h1 : lo ≤ p.block) (h2 : p.block < hi) (u : Value) : Kept lo hi a (w.setCell p u) :=
  h.trans ⟨rfl, rfl, rfl, by simp [World.setCell], fun k _ ho => Below.heap_setCell _ _ _ _ (by omega)⟩
theorem Kept.below {lo hi : Nat} {B : Nat} {w w' : World} (h : Kept lo hi w w') (hB : B ≤ w.heap.size) (hl : B ≤ lo) : Below B w w' :=
  ⟨h.os, h.tape, h.output, h.size, fun k hk => h.block k (by omega) (.inl (by omega))⟩
theorem bkept {B lo hi : Nat} {w w' : World} (h : Below B w w') (hB : w.heap.size ≤ B) : Kept lo hi w w' :=
  ⟨h.os, h.tape, h.output, h.size, fun k hk _ => h.block k (by omega)⟩
theorem Kept.cell {lo hi : Nat} {w w' : World} (h : Kept lo hi w w') {p : Addr} (hp : p.block < w.heap.size) (ho : p.block < lo ∨ hi ≤ p.block) : w'.cell? p = w.cell? p := World.cell?_of_block (w := w) (h.block p.block hp ho)

theorem ownsRow_same {w w' : World} {lo : Nat} {e : TypeId} {size : Nat} {v : Value} {n : Nat} {xs : List Value} (h : w.ownsRow lo e size v n xs)
    (hb : ∀ g, v.ownBlock = some g → w'.heap[g]? = w.heap[g]?) : w'.ownsRow lo e size v n xs := by
  refine ⟨h.1, ?_⟩
  rcases h.2 with hn | ⟨g, cap, cur, rfl, h1, hg, rest⟩
  · exact .inl hn
  · exact .inr ⟨g, cap, cur, rfl, h1, (hb g rfl).trans hg, rest⟩

section
variable {e : TypeId} {lo hi : Nat} {w w' : World} {A : Option Addr} {c : Nat}
theorem OwnP.lo_le {l : List (Int × Int)} (h : OwnP e lo hi w A c l) : ∀ a, A = some a → lo ≤ a.block := by
  intro a ha; subst ha
  exact (h.row.lt a.block rfl).1
theorem OwnI.lo_le {l : List Int} (h : OwnI e lo hi w A c l) : ∀ a, A = some a → lo ≤ a.block := by
  intro a ha; subst ha
  exact (h.row.lt a.block rfl).1
theorem OwnP.below {l : List (Int × Int)} (h : OwnP e lo hi w A c l) {B : Nat} (hb : Below B w w') (hB : hi ≤ B) : OwnP e lo hi w' A c l :=
  ⟨ownsRow_same h.row fun g hg => by
    cases A with
    | none => simp [Value.ownBlock] at hg
    | some a =>
      simp only [Value.ownBlock, Option.some.injEq] at hg
      have := h.top a rfl
      exact hb.block g (by omega), h.top, Nat.le_trans h.le hb.size, h.small⟩
theorem OwnI.below {l : List Int} (h : OwnI e lo hi w A c l) {B : Nat} (hb : Below B w w') (hB : hi ≤ B) : OwnI e lo hi w' A c l :=
  ⟨ownsRow_same h.row fun g hg => by
    cases A with
    | none => simp [Value.ownBlock] at hg
    | some a =>
      simp only [Value.ownBlock, Option.some.injEq] at hg
      have := h.top a rfl
      exact hb.block g (by omega), h.top, Nat.le_trans h.le hb.size, h.small⟩
theorem OwnP.kept {l : List (Int × Int)} (h : OwnP e lo hi w A c l) {lo' hi' : Nat} (hk : Kept lo' hi' w w') (hd : hi ≤ lo' ∨ hi' ≤ lo) : OwnP e lo hi w' A c l :=
  ⟨ownsRow_same h.row fun g hg => by
    cases A with
    | none => simp [Value.ownBlock] at hg
    | some a =>
      simp only [Value.ownBlock, Option.some.injEq] at hg
      have h1 := h.top a rfl
      have h2 := h.lo_le a rfl
      have h3 := h.le
      exact hk.block g (by omega) (by omega), h.top, Nat.le_trans h.le hk.size, h.small⟩
theorem OwnI.kept {l : List Int} (h : OwnI e lo hi w A c l) {lo' hi' : Nat} (hk : Kept lo' hi' w w') (hd : hi ≤ lo' ∨ hi' ≤ lo) : OwnI e lo hi w' A c l :=
  ⟨ownsRow_same h.row fun g hg => by
    cases A with
    | none => simp [Value.ownBlock] at hg
    | some a =>
      simp only [Value.ownBlock, Option.some.injEq] at hg
      have h1 := h.top a rfl
      have h2 := h.lo_le a rfl
      have h3 := h.le
      exact hk.block g (by omega) (by omega), h.top, Nat.le_trans h.le hk.size, h.small⟩
/-- What was made has an address and cells. -/
theorem OwnP.form {l : List (Int × Int)} (h : OwnP e lo hi w A c l) (hl : 0 < l.length) : ∃ g, A = some ⟨g, 0, none⟩ ∧ lo ≤ g ∧ g < hi ∧ g < w.heap.size ∧ w.ownsRow lo e 2 (.slice (some ⟨g, 0, none⟩) l.length c) l.length (pcells l) := by
  rcases h.row.2 with ⟨_, hn⟩ | ⟨g, cap, cur, hv, h1, hg, _⟩
  · omega
  · injection hv with hA _ hc
    have h2 := h.top _ hA
    refine ⟨g, hA, h1, h2, (Array.getElem?_eq_some_iff.1 hg).1, ?_⟩
    have := h.row
    rw [hA] at this
    exact this
theorem OwnI.form {l : List Int} (h : OwnI e lo hi w A c l) (hl : 0 < l.length) : ∃ g, A = some ⟨g, 0, none⟩ ∧ lo ≤ g ∧ g < hi ∧ g < w.heap.size ∧ w.ownsRow lo e 1 (.slice (some ⟨g, 0, none⟩) l.length c) l.length (l.map (Value.int .i64)) := by
  rcases h.row.2 with ⟨_, hn⟩ | ⟨g, cap, cur, hv, h1, hg, _⟩
  · omega
  · injection hv with hA _ hc
    have h2 := h.top _ hA
    refine ⟨g, hA, h1, h2, (Array.getElem?_eq_some_iff.1 hg).1, ?_⟩
    have := h.row
    rw [hA] at this
    exact this
theorem OwnP.reads {l : List (Int × Int)} (h : OwnP e lo hi w A c l) : RP w A l :=
  ⟨h.small, fun hl => by
    obtain ⟨g, hA, _, _, hg, hr⟩ := h.form hl
    refine ⟨g, 0, hA, hg, fun j hj => ?_⟩
    obtain ⟨p1, p2⟩ := pcells_at l j hj
    have q1 := hr.cellAt (j * 2) (by omega)
    have q2 := hr.cellAt (j * 2 + 1) (by omega)
    rw [Nat.zero_add]
    exact ⟨q1.trans p1, q2.trans p2⟩⟩
theorem OwnI.reads {l : List Int} (h : OwnI e lo hi w A c l) : RI w A l :=
  ⟨h.small, fun hl => by
    obtain ⟨g, hA, _, _, hg, hr⟩ := h.form hl
    refine ⟨g, 0, hA, hg, fun j hj => ?_⟩
    have q1 := hr.cellAt j (by omega)
    rw [Nat.zero_add, q1, List.getElem?_map, List.getD_eq_getElem?_getD, List.getElem?_eq_getElem hj]
    rfl⟩
end

/-! ## Making and storing -/

theorem pcells_set (l : List (Int × Int)) (x y : Int) : ∀ k, ((pcells l).set (k * 2) (.int .i64 x)).set (k * 2 + 1) (.int .i64 y) = pcells (l.set k (x, y)) := by
  induction l with
  | nil => intro k; rfl
  | cons p l ih =>
    intro k
    match k with
    | 0 => rfl
    | k + 1 =>
      rw [pcells_cons, show (k + 1) * 2 = k * 2 + 1 + 1 from by omega, List.set_cons_succ, List.set_cons_succ, List.set_cons_succ, List.set_cons_succ, ih, List.set_cons_succ, pcells_cons]
theorem pcells_zeros (n : Nat) : pcells (List.replicate n (0, 0)) = (madeCells #[.int .i64 0, .int .i64 0] (n * 2)).toList := by
  have h1 : pcells (List.replicate n (0, 0)) = List.replicate (n * 2) (.int .i64 0) := by
    induction n with
    | zero => rfl
    | succ n ih => rw [List.replicate_succ, pcells_cons, ih, show (n + 1) * 2 = n * 2 + 1 + 1 from by omega, List.replicate_succ, List.replicate_succ]
  rw [h1]
  apply List.ext_getElem?
  intro j
  by_cases hj : j < n * 2
  · rcases Nat.mod_two_eq_zero_or_one j with h | h <;> simp [madeCells, hj, h]
  · simp [madeCells, hj]
theorem icells_zeros (n : Nat) : (List.replicate n (0 : Int)).map (Value.int .i64) = (madeCells #[.int .i64 0] n).toList := by
  rw [toList_madeCells_one, List.map_replicate]

theorem run_makeN {P : Program} (t e : TypeId) (z : Value) (size bytes : Nat) (ht : P.underlying t = some (.slice e)) (hinfo : (P.info? e).map (fun i => (i.zero, i.size, i.bytes)) = some (some z, size, bytes)) (n : Nat) (hb : bytes * n ≤ 281474976710656) (hn : n ≤ 1048576) (W : World) :
    (Instr.makeSlice t (.int .i64 (n : Int)) (.int .i64 (n : Int))).run P W = .ok (.slice (some ⟨W.heap.size, 0, none⟩) n n) (W.alloc (.cells (madeCells z.cells (n * size)) e)) := by
  obtain ⟨i, hi, hz0, hz1, hz2⟩ := info_parts hinfo
  subst hz1 hz2
  have hb' : (i.bytes : Int) * (n : Int) ≤ 281474976710656 := by
    have h : ((i.bytes * n : Nat) : Int) ≤ 281474976710656 := by omega
    rwa [Int.natCast_mul] at h
  have hr := run_make (P := P) W t e i z ht hi hz0 .i64 .i64 n n (by omega) (Int.le_refl _) hb' (by omega)
  simp only [Int.toNat_natCast] at hr
  exact hr

theorem run_makeCap {P : Program} (t e : TypeId) (z : Value) (size bytes : Nat) (ht : P.underlying t = some (.slice e)) (hinfo : (P.info? e).map (fun i => (i.zero, i.size, i.bytes)) = some (some z, size, bytes)) (c : Nat) (hb : bytes * c ≤ 281474976710656) (hc : c ≤ 4194304) (W : World) (C : Int) (hC : C = (c : Int)) :
    (Instr.makeSlice t (.int .i64 0) (.int .i64 C)).run P W = .ok (.slice (some ⟨W.heap.size, 0, none⟩) 0 c) (W.alloc (.cells (madeCells z.cells (c * size)) e)) := by
  obtain ⟨i, hi, hz0, hz1, hz2⟩ := info_parts hinfo
  subst hz1 hz2 hC
  have hb' : (i.bytes : Int) * (c : Int) ≤ 281474976710656 := by
    have h : ((i.bytes * c : Nat) : Int) ≤ 281474976710656 := by omega
    rwa [Int.natCast_mul] at h
  have hr := run_make (P := P) W t e i z ht hi hz0 .i64 .i64 0 c (by omega) (by omega) hb' (by omega)
  simp only [Int.toNat_natCast] at hr
  exact hr

/-- A row of pairs that was just made. -/
theorem own_made2 {W W' : World} {e : TypeId} {n : Nat} (h : W.alloc (.cells (madeCells #[.int .i64 0, .int .i64 0] (n * 2)) e) = W') (hn : n ≤ 1048576) :
    OwnP e W.heap.size W'.heap.size W' (some ⟨W.heap.size, 0, none⟩) n (List.replicate n (0, 0)) ∧ Below W.heap.size W W' ∧ W.heap.size < W'.heap.size := by
  subst h
  have hs : W.heap.size < (W.alloc (.cells (madeCells #[.int .i64 0, .int .i64 0] (n * 2)) e)).heap.size := by simp
  have hr := World.ownsRow_lit (base := W.heap.size) (e := e) (size := 2) W (madeCells #[.int .i64 0, .int .i64 0] (n * 2)) n (Nat.le_refl _) (by simp [maxLen]; omega) (size_madeCells _ _)
  rw [← pcells_zeros] at hr
  refine ⟨⟨by rw [List.length_replicate]; exact hr, fun a ha => ?_, Nat.le_refl _, by simpa using hn⟩, (Below.refl _ _).alloc (Nat.le_refl _) _, hs⟩
  injection ha with ha; subst ha; exact hs
theorem own_made1 {W W' : World} {e : TypeId} {n : Nat} (h : W.alloc (.cells (madeCells #[.int .i64 0] n) e) = W') (hn : n ≤ 1048576) :
    OwnI e W.heap.size W'.heap.size W' (some ⟨W.heap.size, 0, none⟩) n (List.replicate n 0) ∧ Below W.heap.size W W' ∧ W.heap.size < W'.heap.size := by
  subst h
  have hs : W.heap.size < (W.alloc (.cells (madeCells #[.int .i64 0] n) e)).heap.size := by simp
  have hr := World.ownsRow_lit (base := W.heap.size) (e := e) (size := 1) W (madeCells #[.int .i64 0] n) n (Nat.le_refl _) (by simp [maxLen]; omega) (by rw [size_madeCells]; omega)
  rw [← icells_zeros] at hr
  refine ⟨⟨by rw [List.length_replicate]; exact hr, fun a ha => ?_, Nat.le_refl _, by simpa using hn⟩, (Below.refl _ _).alloc (Nat.le_refl _) _, hs⟩
  injection ha with ha; subst ha; exact hs

section
variable {e : TypeId} {lo hi : Nat} {w wr wq : World} {g c : Nat}
/-- What the walk asks of the two cells of element k before a store: they are there, and not frozen. -/
theorem OwnP.slot {l : List (Int × Int)} (h : OwnP e lo hi w (some ⟨g, 0, none⟩) c l) {k : Nat} (hk : k < l.length) :
    ∃ x y, w.cell? ⟨g, k * 2, none⟩ = some x ∧ w.cell? ⟨g, k * 2 + 1, none⟩ = some y ∧ w.frozen? ⟨g, k * 2, none⟩ = false ∧ w.frozen? ⟨g, k * 2 + 1, none⟩ = false := by
  obtain ⟨p1, p2⟩ := pcells_at l k hk
  exact ⟨_, _, (h.row.cellAt (k * 2) (by omega)).trans p1, (h.row.cellAt (k * 2 + 1) (by omega)).trans p2, h.row.frozenAt _, h.row.frozenAt _⟩
theorem OwnI.slot {l : List Int} (h : OwnI e lo hi w (some ⟨g, 0, none⟩) c l) {k : Nat} (hk : k < l.length) :
    w.cell? ⟨g, k, none⟩ = some (.int .i64 (l.getD k 0)) ∧ w.frozen? ⟨g, k, none⟩ = false := by
  refine ⟨(h.row.cellAt k (by omega)).trans ?_, h.row.frozenAt _⟩
  rw [List.getElem?_map, List.getD_eq_getElem?_getD, List.getElem?_eq_getElem hk]; rfl
/-- Behind the store. -/
theorem OwnP.stored {l : List (Int × Int)} (h : OwnP e lo hi w (some ⟨g, 0, none⟩) c l) (k : Nat) (x y : Int) :
    OwnP e lo hi ((w.setCell ⟨g, k * 2, none⟩ (.int .i64 x)).setCell ⟨g, k * 2 + 1, none⟩ (.int .i64 y)) (some ⟨g, 0, none⟩) c (l.set k (x, y)) := by
  have h1 := ((h.row.stored (k * 2) (.int .i64 x)).1.stored (k * 2 + 1) (.int .i64 y)).1
  rw [pcells_set] at h1
  exact ⟨by rw [List.length_set]; exact h1, h.top, by have := h.le; simpa [World.setCell] using this, by rw [List.length_set]; exact h.small⟩
theorem OwnI.stored {l : List Int} (h : OwnI e lo hi w (some ⟨g, 0, none⟩) c l) (k : Nat) (x : Int) :
    OwnI e lo hi (w.setCell ⟨g, k, none⟩ (.int .i64 x)) (some ⟨g, 0, none⟩) c (l.set k x) := by
  have h1 := (h.row.stored k (.int .i64 x)).1
  rw [← List.map_set] at h1
  exact ⟨by rw [List.length_set]; exact h1, h.top, by have := h.le; simpa [World.setCell] using this, by rw [List.length_set]; exact h.small⟩
end

theorem OwnP.hi_mono {e : TypeId} {lo hi hi' : Nat} {w : World} {A : Option Addr} {c : Nat} {l : List (Int × Int)} (h : OwnP e lo hi w A c l) (h1 : hi ≤ hi') (h2 : hi' ≤ w.heap.size) : OwnP e lo hi' w A c l :=
  ⟨h.row, fun a ha => Nat.lt_of_lt_of_le (h.top a ha) h1, h2, h.small⟩
theorem OwnI.hi_mono {e : TypeId} {lo hi hi' : Nat} {w : World} {A : Option Addr} {c : Nat} {l : List Int} (h : OwnI e lo hi w A c l) (h1 : hi ≤ hi') (h2 : hi' ≤ w.heap.size) : OwnI e lo hi' w A c l :=
  ⟨h.row, fun a ha => Nat.lt_of_lt_of_le (h.top a ha) h1, h2, h.small⟩

/-- The first k of l, then what was there. -/
def fill {α : Type} (l m : List α) (k : Nat) : List α := l.take k ++ m.drop k
theorem fill_zero {α : Type} (l m : List α) : fill l m 0 = m := by simp [fill]
theorem fill_all {α : Type} (l m : List α) (h : m.length = l.length) : fill l m l.length = l := by rw [fill, List.take_length, List.drop_of_length_le (by omega), List.append_nil]
theorem length_fill {α : Type} (l m : List α) (k : Nat) (h : m.length = l.length) : (fill l m k).length = l.length := by simp [fill]; omega
theorem fill_set {α : Type} (l m : List α) (k : Nat) (h : m.length = l.length) (hk : k < l.length) (d : α) : (fill l m k).set k (l.getD k d) = fill l m (k + 1) := by
  unfold fill
  rw [List.set_append_right _ _ (by simp; omega), List.take_succ_eq_append_getElem hk, List.append_assoc]
  have e1 : k - (List.take k l).length = 0 := by simp; omega
  rw [e1, List.drop_eq_getElem_cons (by omega), List.set_cons_zero, List.getD_eq_getElem?_getD, List.getElem?_eq_getElem hk]
  rfl

/-! ## append onto a slice that the program has made -/

theorem OwnI.new {e : TypeId} {lo hi : Nat} {w : World} {A : Option Addr} {c : Nat} {l : List Int} (h : OwnI e lo hi w A c l) (o : Obj) : OwnI e lo hi (w.alloc o) A c l := h.below (Below.alloc (Below.refl w.heap.size w) (Nat.le_refl _) o) h.le
theorem OwnP.new {e : TypeId} {lo hi : Nat} {w : World} {A : Option Addr} {c : Nat} {l : List (Int × Int)} (h : OwnP e lo hi w A c l) (o : Obj) : OwnP e lo hi (w.alloc o) A c l := h.below (Below.alloc (Below.refl w.heap.size w) (Nat.le_refl _) o) h.le

theorem OwnI.nil (e : TypeId) {lo hi : Nat} (w : World) (h : hi ≤ w.heap.size) : OwnI e lo hi w none 0 [] := ⟨World.ownsRow_nil _ _ _ _, fun a ha => (by cases ha), h, by simp⟩
theorem OwnP.nil (e : TypeId) {lo hi : Nat} (w : World) (h : hi ≤ w.heap.size) : OwnP e lo hi w none 0 [] := ⟨World.ownsRow_nil _ _ _ _, fun a ha => (by cases ha), h, by simp⟩

theorem ownsRow_lo {w : World} {lo lo' : Nat} {e : TypeId} {size : Nat} {v : Value} {n : Nat} {xs : List Value} (h : w.ownsRow lo e size v n xs) (hl : lo' ≤ lo) : w.ownsRow lo' e size v n xs := by
  refine ⟨h.1, ?_⟩
  rcases h.2 with hn | ⟨g, cap, cur, hv, h1, rest⟩
  · exact .inl hn
  · exact .inr ⟨g, cap, cur, hv, Nat.le_trans hl h1, rest⟩
theorem OwnI.lo_mono {e : TypeId} {lo lo' hi : Nat} {w : World} {A : Option Addr} {c : Nat} {l : List Int} (h : OwnI e lo hi w A c l) (hl : lo' ≤ lo) : OwnI e lo' hi w A c l := ⟨ownsRow_lo h.row hl, h.top, h.le, h.small⟩
theorem OwnP.lo_mono {e : TypeId} {lo lo' hi : Nat} {w : World} {A : Option Addr} {c : Nat} {l : List (Int × Int)} (h : OwnP e lo hi w A c l) (hl : lo' ≤ lo) : OwnP e lo' hi w A c l := ⟨ownsRow_lo h.row hl, h.top, h.le, h.small⟩
/-- The empty slice that a literal has made. -/
theorem own_empty {W : World} (e : TypeId) : OwnI e W.heap.size (W.heap.size + 1) (W.alloc (.cells #[] e)) (some ⟨W.heap.size, 0, none⟩) 0 [] :=
  ⟨World.ownsRow_lit (base := W.heap.size) (e := e) (size := 1) W #[] 0 (Nat.le_refl _) (by simp [maxLen]) rfl, fun a ha => by injection ha with ha; subst ha; exact Nat.lt_succ_self _, by simp, by simp⟩
theorem own_emptyP {W : World} (e : TypeId) : OwnP e W.heap.size (W.heap.size + 1) (W.alloc (.cells #[] e)) (some ⟨W.heap.size, 0, none⟩) 0 [] :=
  ⟨World.ownsRow_lit (base := W.heap.size) (e := e) (size := 2) W #[] 0 (Nat.le_refl _) (by simp [maxLen]) rfl, fun a ha => by injection ha with ha; subst ha; exact Nat.lt_succ_self _, by simp, by simp⟩

theorem ownsRow_form {w : World} {lo : Nat} {e : TypeId} {size : Nat} {v : Value} {n : Nat} {xs : List Value} (h : w.ownsRow lo e size v n xs) (hn : 0 < n) : ∃ g c, v = .slice (some ⟨g, 0, none⟩) n c ∧ g < w.heap.size := by
  rcases h.2 with ⟨_, h0⟩ | ⟨g, cap, cur, hv, _, hg, _⟩
  · omega
  · exact ⟨g, cap, hv, (Array.getElem?_eq_some_iff.1 hg).1⟩

theorem wpList_app_int {P : Program} {ops : Array Oper} {rest : List Oper} {o : Oper} {a : Act} {Q : Exit → Act → World → Prop} {wr : World} {g : Nat} {T : TypeId} {z : Int} (s x : Operand) (t e : TypeId) (hgd : o.guard = none)
    (ho : o.op = .call { callee := .builtin .append, args := #[s, x], argTypes := #[t, t] }) (ht : P.underlying t = some (.slice e))
    (hinfo : (P.info? e).map (fun i => (i.zero, i.size, i.bytes)) = some (some (.int .i64 0), 1, 8)) {lo hi c : Nat} {A : Option Addr} {l : List Int}
    (hs : a.eval s = .slice A l.length c) (hx : a.eval x = .slice (some ⟨g, 0, none⟩) 1 1) (hg : wr.heap.size = g) (hown : OwnI e lo hi wr A c l) (hlo : lo ≤ wr.heap.size) (hl : l.length + 1 ≤ 1048576)
    (h : ∀ A' c' w', OwnI e lo w'.heap.size w' A' c' (l ++ [z]) → Below lo wr w' → wpList P ops Q rest (a.put o.dst (.slice A' (l ++ [z]).length c')) w') :
    wpList P ops Q (o :: rest) a (wr.alloc (.cells #[.int .i64 z] T)) := by
  subst hg
  obtain ⟨i, hi, hz0, hz1, hz2⟩ := info_parts hinfo
  have hrow := (hown.new (.cells #[.int .i64 z] T)).row
  refine wpList_append_own _ hgd s x t ho lo e i _ 1 8 ht hi hz0 hz1 hz2 rfl (by decide) _ _ _ hs hrow ⟨wr.heap.size, 0, none⟩ 1 1 [.int .i64 z] hx rfl ?_ ?_ (by simp [maxLen]; omega) (by omega) (by simp; omega) ?_
  · intro j u hj
    match j, hj with
    | 0, hj =>
      simp only [List.getElem?_cons_zero, Option.some.injEq] at hj
      subst hj
      rw [show (⟨wr.heap.size, 0, none⟩ : Addr).add 0 = ⟨wr.heap.size, 0, none⟩ from by simp [Addr.add]]
      exact cell_of_row _ _ 0 _ _ _ (heap_alloc_new wr _)
  · intro u hu
    simp only [List.mem_singleton] at hu
    subst hu
    rfl
  · intro v' w' h2 h3 _
    obtain ⟨g, c', hv, hg⟩ := ownsRow_form h2 (by omega)
    subst hv
    have hlen : (l ++ [z]).length = l.length + 1 := by simp
    have hb : Below lo wr w' := by
      refine Below.grown (Below.alloc (Below.refl lo wr) hlo _) h3 (by simp; omega) fun k hk => ?_
      cases A with
      | none => simp [Value.ownBlock] at hk
      | some a =>
        simp only [Value.ownBlock, Option.some.injEq] at hk
        subst hk
        exact hown.lo_le a rfl
    have := h (some ⟨g, 0, none⟩) c' w' ⟨by rw [hlen, List.map_append]; exact h2, fun a ha => by injection ha with ha; subst ha; exact hg, Nat.le_refl _, by rw [hlen]; exact hl⟩ hb
    rw [hlen] at this
    exact this

/-- A block that is not the slice's own. -/
def Off (A : Option Addr) (b : Nat) : Prop := ∀ a, A = some a → a.block ≠ b
/-- append, and what becomes of the blocks that are not the slice's own. -/
theorem wpList_app_int' {P : Program} {ops : Array Oper} {rest : List Oper} {o : Oper} {a : Act} {Q : Exit → Act → World → Prop} {wr : World} {g : Nat} {T : TypeId} {z : Int} (s x : Operand) (t e : TypeId) (hgd : o.guard = none)
    (ho : o.op = .call { callee := .builtin .append, args := #[s, x], argTypes := #[t, t] }) (ht : P.underlying t = some (.slice e))
    (hinfo : (P.info? e).map (fun i => (i.zero, i.size, i.bytes)) = some (some (.int .i64 0), 1, 8)) {lo hi c : Nat} {A : Option Addr} {l : List Int}
    (hs : a.eval s = .slice A l.length c) (hx : a.eval x = .slice (some ⟨g, 0, none⟩) 1 1) (hg : wr.heap.size = g) (hown : OwnI e lo hi wr A c l) (hlo : lo ≤ wr.heap.size) (hl : l.length + 1 ≤ 1048576)
    (h : ∀ A' c' w', OwnI e lo w'.heap.size w' A' c' (l ++ [z]) → Below lo wr w' → Hid (∀ b, b < wr.heap.size → Off A b → w'.heap[b]? = wr.heap[b]? ∧ Off A' b) → wpList P ops Q rest (a.put o.dst (.slice A' (l ++ [z]).length c')) w') :
    wpList P ops Q (o :: rest) a (wr.alloc (.cells #[.int .i64 z] T)) := by
  subst hg
  obtain ⟨i, hi, hz0, hz1, hz2⟩ := info_parts hinfo
  have hrow := (hown.new (.cells #[.int .i64 z] T)).row
  refine wpList_append_own_at _ hgd s x t ho lo e i _ 1 8 ht hi hz0 hz1 hz2 rfl (by decide) _ _ _ hs hrow ⟨wr.heap.size, 0, none⟩ 1 1 [.int .i64 z] hx rfl ?_ ?_ (by simp [maxLen]; omega) (by omega) (by simp; omega) ?_
  · intro j u hj
    match j, hj with
    | 0, hj =>
      simp only [List.getElem?_cons_zero, Option.some.injEq] at hj
      subst hj
      rw [show (⟨wr.heap.size, 0, none⟩ : Addr).add 0 = ⟨wr.heap.size, 0, none⟩ from by simp [Addr.add]]
      exact cell_of_row _ _ 0 _ _ _ (heap_alloc_new wr _)
  · intro u hu
    simp only [List.mem_singleton] at hu
    subst hu
    rfl
  · intro v' w' h2 h3 _ h5
    obtain ⟨g, c', hv, hg⟩ := ownsRow_form h2 (by omega)
    subst hv
    have hlen : (l ++ [z]).length = l.length + 1 := by simp
    have hb : Below lo wr w' := by
      refine Below.grown (Below.alloc (Below.refl lo wr) hlo _) h3 (by simp; omega) fun k hk => ?_
      cases A with
      | none => simp [Value.ownBlock] at hk
      | some a =>
        simp only [Value.ownBlock, Option.some.injEq] at hk
        subst hk
        exact hown.lo_le a rfl
    have hoff : Hid (∀ b, b < wr.heap.size → Off A b → w'.heap[b]? = wr.heap[b]? ∧ Off (some ⟨g, 0, none⟩) b) := by
      intro b hb ho
      have hne : some b ≠ (Value.slice A l.length c).ownBlock := by
        cases A with
        | none => simp [Value.ownBlock]
        | some a => simp only [Value.ownBlock, ne_eq, Option.some.injEq]; exact fun e => ho a rfl e.symm
      refine ⟨(h3.block b (by simp; omega) hne).trans (Below.heap_alloc wr _ b hb), fun a ha => ?_⟩
      injection ha with ha
      subst ha
      rcases h5 with h5 | h5
      · intro e
        rw [show (Value.slice (some ⟨g, 0, none⟩) (l.length + 1) c').ownBlock = some g from rfl] at h5
        exact hne (by rw [← h5]; exact congrArg some e.symm)
      · rw [show (Value.slice (some ⟨g, 0, none⟩) (l.length + 1) c').ownBlock = some g from rfl] at h5
        injection h5 with h5
        simp at h5
        show g ≠ b
        omega
    have := h (some ⟨g, 0, none⟩) c' w' ⟨by rw [hlen, List.map_append]; exact h2, fun a ha => by injection ha with ha; subst ha; exact hg, Nat.le_refl _, by rw [hlen]; exact hl⟩ hb hoff
    rw [hlen] at this
    exact this

/-! ## The same for cells of whatever kind -/

/-- The slice (address A, length n, capacity c) was made by the program: it lies in a block from lo on, below hi, not frozen, and holds the cells xs (size cells an element). -/
structure OwnC (e : TypeId) (size lo hi : Nat) (w : World) (A : Option Addr) (c n : Nat) (xs : List Value) : Prop where
  row : w.ownsRow lo e size (.slice A n c) n xs
  top : ∀ a, A = some a → a.block < hi
  le : hi ≤ w.heap.size
section
variable {e : TypeId} {size lo hi : Nat} {w w' : World} {A : Option Addr} {c n : Nat} {xs : List Value}
theorem OwnC.lo_le (h : OwnC e size lo hi w A c n xs) : ∀ a, A = some a → lo ≤ a.block := by
  intro a ha; subst ha
  exact (h.row.lt a.block rfl).1
theorem OwnC.below (h : OwnC e size lo hi w A c n xs) {B : Nat} (hb : Below B w w') (hB : hi ≤ B) : OwnC e size lo hi w' A c n xs :=
  ⟨ownsRow_same h.row fun g hg => by
    cases A with
    | none => simp [Value.ownBlock] at hg
    | some a =>
      simp only [Value.ownBlock, Option.some.injEq] at hg
      have := h.top a rfl
      exact hb.block g (by omega), h.top, Nat.le_trans h.le hb.size⟩
theorem OwnC.kept (h : OwnC e size lo hi w A c n xs) {lo' hi' : Nat} (hk : Kept lo' hi' w w') (hd : hi ≤ lo' ∨ hi' ≤ lo) : OwnC e size lo hi w' A c n xs :=
  ⟨ownsRow_same h.row fun g hg => by
    cases A with
    | none => simp [Value.ownBlock] at hg
    | some a =>
      simp only [Value.ownBlock, Option.some.injEq] at hg
      have h1 := h.top a rfl
      have h2 := h.lo_le a rfl
      have h3 := h.le
      exact hk.block g (by omega) (by omega), h.top, Nat.le_trans h.le hk.size⟩
theorem OwnC.new (h : OwnC e size lo hi w A c n xs) (o : Obj) : OwnC e size lo hi (w.alloc o) A c n xs := h.below (Below.alloc (Below.refl w.heap.size w) (Nat.le_refl _) o) h.le
theorem OwnC.hi_mono {hi' : Nat} (h : OwnC e size lo hi w A c n xs) (h1 : hi ≤ hi') (h2 : hi' ≤ w.heap.size) : OwnC e size lo hi' w A c n xs := ⟨h.row, fun a ha => Nat.lt_of_lt_of_le (h.top a ha) h1, h2⟩
theorem OwnC.lo_mono {lo' : Nat} (h : OwnC e size lo hi w A c n xs) (hl : lo' ≤ lo) : OwnC e size lo' hi w A c n xs := ⟨ownsRow_lo h.row hl, h.top, h.le⟩
theorem OwnC.nil (e : TypeId) {size lo hi : Nat} (w : World) (h : hi ≤ w.heap.size) : OwnC e size lo hi w none 0 0 [] := ⟨World.ownsRow_nil _ _ _ _, fun a ha => (by cases ha), h⟩
theorem OwnC.empty {W : World} (e : TypeId) (size : Nat) : OwnC e size W.heap.size (W.heap.size + 1) (W.alloc (.cells #[] e)) (some ⟨W.heap.size, 0, none⟩) 0 0 [] :=
  ⟨World.ownsRow_lit (base := W.heap.size) (e := e) (size := size) W #[] 0 (Nat.le_refl _) (by simp [maxLen]) (by simp), fun a ha => by injection ha with ha; subst ha; exact Nat.lt_succ_self _, by simp⟩
theorem OwnC.made {W : World} (e : TypeId) (size k : Nat) (cs : Array Value) (hk : k ≤ maxLen) (hs : cs.size = k * size) : OwnC e size W.heap.size (W.heap.size + 1) (W.alloc (.cells cs e)) (some ⟨W.heap.size, 0, none⟩) k 0 [] :=
  ⟨World.ownsRow_made (base := W.heap.size) (e := e) (size := size) W cs k (Nat.le_refl _) hk hs, fun a ha => by injection ha with ha; subst ha; exact Nat.lt_succ_self _, by simp⟩
theorem OwnC.form (h : OwnC e size lo hi w A c n xs) (hl : 0 < n) : ∃ g, A = some ⟨g, 0, none⟩ ∧ lo ≤ g ∧ g < hi ∧ g < w.heap.size ∧ w.ownsRow lo e size (.slice (some ⟨g, 0, none⟩) n c) n xs := by
  rcases h.row.2 with ⟨_, hn⟩ | ⟨g, cap, cur, hv, h1, hg, _⟩
  · omega
  · injection hv with hA _ hc
    have h2 := h.top _ hA
    refine ⟨g, hA, h1, h2, (Array.getElem?_eq_some_iff.1 hg).1, ?_⟩
    have := h.row
    rw [hA] at this
    exact this
end
theorem OwnI.c {e : TypeId} {lo hi : Nat} {w : World} {A : Option Addr} {c : Nat} {l : List Int} (h : OwnI e lo hi w A c l) : OwnC e 1 lo hi w A c l.length (l.map (Value.int .i64)) := ⟨h.row, h.top, h.le⟩
theorem OwnP.c {e : TypeId} {lo hi : Nat} {w : World} {A : Option Addr} {c : Nat} {l : List (Int × Int)} (h : OwnP e lo hi w A c l) : OwnC e 2 lo hi w A c l.length (pcells l) := ⟨h.row, h.top, h.le⟩
theorem OwnC.i {e : TypeId} {lo hi : Nat} {w : World} {A : Option Addr} {c : Nat} {l : List Int} (h : OwnC e 1 lo hi w A c l.length (l.map (Value.int .i64))) (hs : l.length ≤ 1048576) : OwnI e lo hi w A c l := ⟨h.row, h.top, h.le, hs⟩
theorem OwnC.p {e : TypeId} {lo hi : Nat} {w : World} {A : Option Addr} {c : Nat} {l : List (Int × Int)} (h : OwnC e 2 lo hi w A c l.length (pcells l)) (hs : l.length ≤ 1048576) : OwnP e lo hi w A c l := ⟨h.row, h.top, h.le, hs⟩

/-- append of cells that lie in a block just laid. -/
theorem wpList_app_cells {P : Program} {ops : Array Oper} {rest : List Oper} {o : Oper} {a : Act} {Q : Exit → Act → World → Prop} {wr : World} {g : Nat} {T : TypeId} {news : List Value} (s x : Operand) (t e : TypeId) (hgd : o.guard = none)
    (ho : o.op = .call { callee := .builtin .append, args := #[s, x], argTypes := #[t, t] }) (ht : P.underlying t = some (.slice e)) {z : Value} {size bytes : Nat}
    (hinfo : (P.info? e).map (fun i => (i.zero, i.size, i.bytes)) = some (some z, size, bytes)) (hzs : z.cells.size = size) (hsz : 0 < size) {lo hi c n m : Nat} {A : Option Addr} {xs : List Value}
    (hs : a.eval s = .slice A n c) (hx : a.eval x = .slice (some ⟨g, 0, none⟩) m m) (hg : wr.heap.size = g) (hown : OwnC e size lo hi wr A c n xs) (hlo : lo ≤ wr.heap.size) (hm : 0 < m) (hnl : news.length = m * size) (h1 : ∀ u ∈ news, u.oneCell' = true)
    (hl : n + m ≤ 4194304) (hby : bytes ≤ 1024)
    (h : ∀ A' c' w', OwnC e size lo w'.heap.size w' A' c' (n + m) (xs ++ news) → Below lo wr w' → wpList P ops Q rest (a.put o.dst (.slice A' (n + m) c')) w') :
    wpList P ops Q (o :: rest) a (wr.alloc (.cells news.toArray T)) := by
  subst hg
  obtain ⟨i, hi, hz0, hz1, hz2⟩ := info_parts hinfo
  have hrow := (hown.new (.cells news.toArray T)).row
  have hb : (n + m) * bytes ≤ 140737488355328 := Nat.le_trans (Nat.mul_le_mul hl hby) (by decide)
  refine wpList_append_own _ hgd s x t ho lo e i z size bytes ht hi hz0 hz1 hz2 hzs hsz _ _ _ hs hrow ⟨wr.heap.size, 0, none⟩ m m news hx hnl ?_ h1 (by simp [maxLen]; omega) hb (by simp; omega) ?_
  · intro j u hj
    have hadd : (⟨wr.heap.size, 0, none⟩ : Addr).add j = ⟨wr.heap.size, j, none⟩ := by unfold Addr.add; by_cases hj0 : j = 0 <;> simp [hj0]
    rw [hadd, cell_of_row _ _ j _ _ _ (heap_alloc_new wr _)]
    simpa using hj
  · intro v' w' h2 h3 _
    obtain ⟨g, c', hv, hg⟩ := ownsRow_form h2 (by omega)
    subst hv
    have hb : Below lo wr w' := by
      refine Below.grown (Below.alloc (Below.refl lo wr) hlo _) h3 (by simp; omega) fun k hk => ?_
      cases A with
      | none => simp [Value.ownBlock] at hk
      | some a =>
        simp only [Value.ownBlock, Option.some.injEq] at hk
        subst hk
        exact hown.lo_le a rfl
    exact h (some ⟨g, 0, none⟩) c' w' ⟨h2, fun a ha => by injection ha with ha; subst ha; exact hg, Nat.le_refl _⟩ hb

/-- The same at a step of a region that draws its order; the block of the new cells is b. -/
theorem step_app_cells {P : Program} {ops : Array Oper} {o : Oper} {a : Act} {K : Act → World → Prop} {Q : Exit → Act → World → Prop} {E : Prop} {w : World} {b : Nat} {news : List Value} (s x : Operand) (t e : TypeId) (hgd : o.guard = none)
    (ho : o.op = .call { callee := .builtin .append, args := #[s, x], argTypes := #[t, t] }) (ht : P.underlying t = some (.slice e)) {z : Value} {size bytes : Nat}
    (hinfo : (P.info? e).map (fun i => (i.zero, i.size, i.bytes)) = some (some z, size, bytes)) (hzs : z.cells.size = size) (hsz : 0 < size) {lo hi c n m : Nat} {A : Option Addr} {xs : List Value}
    (hs : a.eval s = .slice A n c) (hx : a.eval x = .slice (some ⟨b, 0, none⟩) m m) (hown : OwnC e size lo hi w A c n xs) (hlo : lo ≤ w.heap.size) (hm : 0 < m) (hnl : news.length = m * size) (h1 : ∀ u ∈ news, u.oneCell' = true)
    (hnews : ∀ j u, news[j]? = some u → w.cell? ⟨b, j, none⟩ = some u) (hl : n + m ≤ 4194304) (hby : bytes ≤ 1024)
    (h : ∀ A' c' w', OwnC e size lo w'.heap.size w' A' c' (n + m) (xs ++ news) → Below lo w w' → K (a.put o.dst (.slice A' (n + m) c')) w') :
    if Region.wanted o (yielded ops a.tmps) = true then Oper.wp P o a w K Q else E := by
  have hw : Region.wanted o (yielded ops a.tmps) = true := by simp [Region.wanted, hgd]
  rw [if_pos hw]
  obtain ⟨i, hi, hz0, hz1, hz2⟩ := info_parts hinfo
  have hb : (n + m) * bytes ≤ 140737488355328 := Nat.le_trans (Nat.mul_le_mul hl hby) (by decide)
  refine wp_append_own _ s x t ho lo e i z size bytes ht hi hz0 hz1 hz2 hzs hsz _ _ _ hs hown.row ⟨b, 0, none⟩ m m news hx hnl ?_ h1 (by simp [maxLen]; omega) hb hlo ?_
  · intro j u hj
    have hadd : (⟨b, 0, none⟩ : Addr).add j = ⟨b, j, none⟩ := by unfold Addr.add; by_cases hj0 : j = 0 <;> simp [hj0]
    rw [hadd]
    exact hnews j u hj
  · intro v' w' h2 h3 _
    obtain ⟨g, c', hv, hg⟩ := ownsRow_form h2 (by omega)
    subst hv
    have hb : Below lo w w' := by
      refine Below.grown (Below.refl lo w) h3 hlo fun k hk => ?_
      cases A with
      | none => simp [Value.ownBlock] at hk
      | some a =>
        simp only [Value.ownBlock, Option.some.injEq] at hk
        subst hk
        exact hown.lo_le a rfl
    exact h (some ⟨g, 0, none⟩) c' w' ⟨h2, fun a ha => by injection ha with ha; subst ha; exact hg, Nat.le_refl _⟩ hb
theorem OwnC.drew {e : TypeId} {size lo hi : Nat} {w : World} {A : Option Addr} {c n : Nat} {xs : List Value} (h : OwnC e size lo hi w A c n xs) : OwnC e size lo hi w.drew A c n xs := ⟨h.row, h.top, h.le⟩
theorem news_at {w : World} {cs : List Value} {T : TypeId} : ∀ j u, cs[j]? = some u → ((w.alloc (.cells cs.toArray T)).drew).cell? ⟨w.heap.size, j, none⟩ = some u := by
  intro j u hj
  show (w.alloc (.cells cs.toArray T)).cell? _ = _
  rw [cell_of_row _ _ j _ _ _ (heap_alloc_new w _)]
  simpa using hj

/-- .. the new cells lie in the block that was laid last. -/
theorem step_app_new {P : Program} {ops : Array Oper} {o : Oper} {a : Act} {K : Act → World → Prop} {Q : Exit → Act → World → Prop} {E : Prop} {wr : World} {T : TypeId} {z : Value} {size bytes lo hi c n m : Nat} {A : Option Addr} {xs : List Value} (news : List Value) (s x : Operand) (t e : TypeId) (hgd : o.guard = none)
    (ho : o.op = .call { callee := .builtin .append, args := #[s, x], argTypes := #[t, t] }) (ht : P.underlying t = some (.slice e))
    (hinfo : (P.info? e).map (fun i => (i.zero, i.size, i.bytes)) = some (some z, size, bytes)) (hzs : z.cells.size = size) (hsz : 0 < size)
    (hs : a.eval s = .slice A n c) (hx : a.eval x = .slice (some ⟨wr.heap.size, 0, none⟩) m m) (hown : OwnC e size lo hi wr A c n xs) (hlo : lo ≤ wr.heap.size) (hm : 0 < m) (hnl : news.length = m * size) (h1 : ∀ u ∈ news, u.oneCell' = true)
    (hl : n + m ≤ 4194304) (hby : bytes ≤ 1024)
    (h : ∀ A' c' w', OwnC e size lo w'.heap.size w' A' c' (n + m) (xs ++ news) → Below lo wr w' → K (a.put o.dst (.slice A' (n + m) c')) w') :
    if Region.wanted o (yielded ops a.tmps) = true then Oper.wp P o a ((wr.alloc (.cells news.toArray T)).drew) K Q else E :=
  step_app_cells s x t e hgd ho ht hinfo hzs hsz hs hx (hown.new _).drew (Nat.le_trans hlo (by simp)) hm hnl h1 news_at hl hby
    fun A' c' w' h2 h3 => h A' c' w' h2 (((Below.alloc (Below.refl lo wr) hlo _).drew).trans h3)

/-! ## What the marks leave -/

def upI (q : Int) (n : Nat) : List Int := (List.range n).map fun (j : Nat) => q + (j : Int)
def upP (q : Int) (n : Nat) : List (Int × Int) := (List.range n).map fun (j : Nat) => (q + 2 * (j : Int), q + 2 * (j : Int) + 1)
theorem length_upI (q : Int) (n : Nat) : (upI q n).length = n := by simp [upI]
theorem length_upP (q : Int) (n : Nat) : (upP q n).length = n := by simp [upP]
theorem upI_at (q : Int) (n k : Nat) (h : k < n) : (upI q n).getD k 0 = q + (k : Int) := by
  rw [List.getD_eq_getElem?_getD, List.getElem?_eq_getElem (by simpa [upI] using h)]; simp [upI]
theorem upP_at (q : Int) (n k : Nat) (h : k < n) : (upP q n).getD k (0, 0) = (q + 2 * (k : Int), q + 2 * (k : Int) + 1) := by
  rw [List.getD_eq_getElem?_getD, List.getElem?_eq_getElem (by simpa [upP] using h)]; simp [upP]

end Go.Proofs.Ytkipgjllgmjipaa
