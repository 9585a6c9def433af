/- AssignTeeth and LongestRest: what they answer, and that the program's and the reference's functions answer it. -/
import Derived.Test.YtkipgjllgmjipaaTuneR
import Derived.Test.YtkipgjllgmjipaaComb
import Derived.Test.YtkipgjllgmjipaaBase2
namespace Go.Proofs.Ytkipgjllgmjipaa
open Go.RowKit

/-! ## Plain notions -/
/-- The tooth i has the note's pitch and has rested. -/
def okTooth (comb last : List Int) (p : Int × Int) (rest : Int) (i : Nat) : Bool := decide (comb.getD i 0 = p.2 ∧ rest ≤ p.1 - last.getD i 0)
def stepA (comb : List Int) (rest : Int) (s : Option (List Int × List Int)) (p : Int × Int) : Option (List Int × List Int) :=
  s.bind fun lo => ((List.range comb.length).find? (okTooth comb lo.1 p rest)).map fun i => (lo.1.set i p.1, lo.2 ++ [(i : Int)])
/-- The last times of the teeth, and the teeth, of the first k notes. -/
def runA (comb : List Int) (t : List (Int × Int)) (rest : Int) : Nat → Option (List Int × List Int)
  | 0 => some (List.replicate comb.length (-1000), [])
  | k + 1 => stepA comb rest (runA comb t rest k) (t.getD k (0, 0))
def assignR (comb : List Int) (t : List (Int × Int)) (rest : Int) : Option (List Int × List Int) :=
  if combOk comb = true ∧ tuneOk t = true ∧ inR rest 1 100 = true then runA comb t rest t.length else none
def assignL (comb : List Int) (t : List (Int × Int)) (rest : Int) : List Int := ((assignR comb t rest).map (·.2)).getD []
def assignOk (comb : List Int) (t : List (Int × Int)) (rest : Int) : Bool := (assignR comb t rest).isSome
section
variable {comb : List Int} {t : List (Int × Int)} {rest : Int}
theorem runA_none {k : Nat} (h : runA comb t rest k = none) : ∀ n, k ≤ n → runA comb t rest n = none := by
  intro n hn
  induction n with
  | zero => obtain rfl : k = 0 := by omega
            exact h
  | succ n ih =>
    rcases Nat.lt_or_ge k (n + 1) with hlt | hge
    · simp only [runA, stepA, ih (by omega)]; rfl
    · obtain rfl : k = n + 1 := by omega
      exact h
theorem find_some {p : Nat → Bool} {n i : Nat} (hi : i < n) (h : p i = true) (h2 : ∀ j, j < i → p j = false) : (List.range n).find? p = some i := by
  rw [List.find?_range_eq_some]
  exact ⟨h, List.mem_range.2 hi, fun j hj => by simp [h2 j hj]⟩
theorem find_none {p : Nat → Bool} {n : Nat} (h2 : ∀ j, j < n → p j = false) : (List.range n).find? p = none := by
  rw [List.find?_range_eq_none]
  exact fun j hj => by simp [h2 j hj]
theorem runA_yes {k i : Nat} {last out : List Int} {a b : Int} (h : runA comb t rest k = some (last, out)) (e : Hid (t.getD k (0, 0) = (a, b))) (hi : i < comb.length) (h1 : okTooth comb last (a, b) rest i = true)
    (h2 : ∀ j, j < i → okTooth comb last (a, b) rest j = false) : runA comb t rest (k + 1) = some (last.set i a, out ++ [(i : Int)]) := by
  simp only [runA, stepA, h, e.out, Option.bind_some, find_some hi h1 h2, Option.map_some]
theorem runA_no {k : Nat} {last out : List Int} {a b : Int} (h : runA comb t rest k = some (last, out)) (e : Hid (t.getD k (0, 0) = (a, b)))
    (h2 : ∀ j, j < comb.length → okTooth comb last (a, b) rest j = false) : runA comb t rest (k + 1) = none := by
  simp only [runA, stepA, h, e.out, Option.bind_some, find_none h2, Option.map_none]
theorem assign_head (h : ¬ (combOk comb = true ∧ tuneOk t = true ∧ inR rest 1 100 = true)) : assignL comb t rest = [] ∧ assignOk comb t rest = false := by
  unfold assignL assignOk assignR; rw [if_neg h]; exact ⟨rfl, rfl⟩
theorem assign_no (h : combOk comb = true ∧ tuneOk t = true ∧ inR rest 1 100 = true) {k : Nat} (hk : k ≤ t.length) (hr : runA comb t rest k = none) : assignL comb t rest = [] ∧ assignOk comb t rest = false := by
  unfold assignL assignOk assignR; rw [if_pos h, runA_none hr _ hk]; exact ⟨rfl, rfl⟩
theorem assign_yes (h : combOk comb = true ∧ tuneOk t = true ∧ inR rest 1 100 = true) {last out : List Int} (hr : runA comb t rest t.length = some (last, out)) : assignL comb t rest = out ∧ assignOk comb t rest = true := by
  unfold assignL assignOk assignR; rw [if_pos h, hr]; exact ⟨rfl, rfl⟩
/-- What is true of the state behind k notes. -/
structure GoodA (comb : List Int) (k : Nat) (last out : List Int) : Prop where
  len : last.length = comb.length
  out : out.length = k
  times : ∀ i, i < last.length → last.getD i 0 = -1000 ∨ 0 ≤ last.getD i 0 ∧ last.getD i 0 ≤ 1000
theorem goodA_start : GoodA comb 0 (List.replicate comb.length (-1000)) [] := ⟨by simp, rfl, fun i hi => .inl (by simp at hi; simp [hi])⟩
theorem getD_set {l : List Int} {i j : Nat} {x : Int} (hj : j < l.length) : (l.set i x).getD j 0 = if i = j then x else l.getD j 0 := by
  rw [List.getD_eq_getElem?_getD, List.getElem?_set, List.getD_eq_getElem?_getD]
  by_cases h : i = j
  · subst h; simp [hj]
  · simp [h]
theorem goodA_next {k i : Nat} {last out : List Int} {a : Int} (h : GoodA comb k last out) (ha : 0 ≤ a ∧ a ≤ 1000) : GoodA comb (k + 1) (last.set i a) (out ++ [(i : Int)]) :=
  ⟨by rw [List.length_set, h.len], by simp [h.out], fun j hj => by
    rw [List.length_set] at hj
    rw [getD_set hj]
    split
    · exact .inr ha
    · exact h.times j hj⟩
/-- From when on each tooth is free again. -/
def freeOf (rest : Int) (last : List Int) : List Int := last.map fun x => if x < 0 then 0 else x + rest
theorem freeOf_at {last : List Int} {i : Nat} (hi : i < last.length) : (freeOf rest last).getD i 0 = if last.getD i 0 < 0 then 0 else last.getD i 0 + rest := by
  rw [List.getD_eq_getElem?_getD, freeOf, List.getElem?_map, List.getD_eq_getElem?_getD, List.getElem?_eq_getElem hi]; rfl
theorem freeOf_start : freeOf rest (List.replicate comb.length (-1000)) = List.replicate comb.length 0 := by simp [freeOf]
theorem freeOf_set {last : List Int} {i : Nat} {a : Int} (ha : 0 ≤ a) : freeOf rest (last.set i a) = (freeOf rest last).set i (a + rest) := by
  unfold freeOf; rw [List.map_set, if_neg (by omega)]
theorem okTooth_free {last : List Int} {i k : Nat} {out : List Int} {a b x f : Int} (h : GoodA comb k last out) (hi : i < comb.length) (e : Hid (comb.getD i 0 = x)) (e2 : Hid ((freeOf rest last).getD i 0 = f)) (ha : 0 ≤ a) (h1 : 1 ≤ rest) (h2 : rest ≤ 100) :
    okTooth comb last (a, b) rest i = decide (x = b ∧ f ≤ a) := by
  have hi' : i < last.length := by rw [h.len]; exact hi
  have hf := e2.out
  rw [freeOf_at hi'] at hf
  unfold okTooth
  rw [e.out]
  rcases h.times i hi' with ht | ht
  · rw [ht] at hf ⊢
    rw [if_pos (by omega)] at hf
    rw [Bool.eq_iff_iff]; simp only [decide_eq_true_eq]; omega
  · rw [if_neg (by omega)] at hf
    rw [Bool.eq_iff_iff]; simp only [decide_eq_true_eq]; omega
theorem okTooth_last {last : List Int} {i : Nat} {a b x f : Int} (e : Hid (comb.getD i 0 = x)) (e2 : Hid (last.getD i 0 = f)) : okTooth comb last (a, b) rest i = decide (x = b ∧ rest ≤ a - f) := by
  unfold okTooth; rw [e.out, e2.out]
end
theorem allF_next {k : Nat} {p : Nat → Bool} (h : Hid (∀ j, j < k → p j = false)) (hk : p k = false) : Hid (∀ j, j < k + 1 → p j = false) := fun j hj => by
  rcases Nat.lt_or_ge j k with hlt | hge
  · exact h.out j hlt
  · have : j = k := by omega
    subst this; exact hk
theorem ret_lb {A : Option Addr} {n m c : Nat} {x y : Bool} (h : n = m) (h2 : x = y) : Ending.returned (.tuple #[.slice A n c, .bool x]) = .returned (.tuple #[.slice A m c, .bool y]) := by rw [h, h2]
/-- A block that is not the slice's own is kept. -/
theorem OwnI.off {e : TypeId} {lo hi : Nat} {w w' : World} {A : Option Addr} {c : Nat} {l : List Int} (h : OwnI e lo hi w A c l) (hb : ∀ a, A = some a → w'.heap[a.block]? = w.heap[a.block]?) (hs : w.heap.size ≤ w'.heap.size) : OwnI e lo hi w' A c l :=
  ⟨ownsRow_same h.row fun g hg => by
    cases A with
    | none => simp [Value.ownBlock] at hg
    | some a =>
      simp only [Value.ownBlock, Option.some.injEq] at hg
      subst hg
      exact hb a rfl, h.top, Nat.le_trans h.le hs, h.small⟩

/-! ## The walks -/
end Go.Proofs.Ytkipgjllgmjipaa
