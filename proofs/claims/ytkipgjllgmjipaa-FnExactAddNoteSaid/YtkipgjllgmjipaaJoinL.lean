/- JoinTunes: the plain law. -/
import Derived.Test.YtkipgjllgmjipaaBack
namespace Go.Proofs.Ytkipgjllgmjipaa
open Go.RowKit

/-- Those of the first k of b that are not in a, behind a. -/
def joinTo (a b : List (Int × Int)) : Nat → List (Int × Int)
  | 0 => a
  | k + 1 => if b.getD k (0, 0) ∈ a then joinTo a b k else joinTo a b k ++ [b.getD k (0, 0)]
def joinOk (a b : List (Int × Int)) : Bool := tuneOk a && (tuneOk b && decide ((joinTo a b b.length).length ≤ 40))
def joinL (a b : List (Int × Int)) : List (Int × Int) := if joinOk a b = true then sortU (joinTo a b b.length) else []
theorem join_yes {a b : List (Int × Int)} (h : joinOk a b = true) : joinL a b = sortU (joinTo a b b.length) := if_pos h
theorem join_no {a b : List (Int × Int)} (h : joinOk a b = false) : joinL a b = [] := if_neg (by rw [h]; exact Bool.false_ne_true)
theorem joinTo_has {a b : List (Int × Int)} {k : Nat} (h : b.getD k (0, 0) ∈ a) : joinTo a b (k + 1) = joinTo a b k := if_pos h
theorem joinTo_new {a b : List (Int × Int)} {k : Nat} (h : ¬ b.getD k (0, 0) ∈ a) : joinTo a b (k + 1) = joinTo a b k ++ [b.getD k (0, 0)] := if_neg h
theorem mem_joinTo {a b : List (Int × Int)} {x : Int × Int} : ∀ k, x ∈ joinTo a b k ↔ x ∈ a ∨ ∃ j, j < k ∧ b.getD j (0, 0) = x
  | 0 => by simp [joinTo]
  | k + 1 => by
    have ih := mem_joinTo (a := a) (b := b) (x := x) k
    by_cases h : b.getD k (0, 0) ∈ a
    · rw [joinTo_has h, ih]
      constructor
      · rintro (h1 | ⟨j, h1, h2⟩)
        · exact .inl h1
        · exact .inr ⟨j, by omega, h2⟩
      · rintro (h1 | ⟨j, h1, h2⟩)
        · exact .inl h1
        · rcases Nat.lt_or_ge j k with h3 | h3
          · exact .inr ⟨j, h3, h2⟩
          · have : j = k := by omega
            subst this; subst h2; exact .inl h
    · rw [joinTo_new h, List.mem_append, List.mem_singleton, ih]
      constructor
      · rintro ((h1 | ⟨j, h1, h2⟩) | h1)
        · exact .inl h1
        · exact .inr ⟨j, by omega, h2⟩
        · exact .inr ⟨k, by omega, h1.symm⟩
      · rintro (h1 | ⟨j, h1, h2⟩)
        · exact .inl (.inl h1)
        · rcases Nat.lt_or_ge j k with h3 | h3
          · exact .inl (.inr ⟨j, h3, h2⟩)
          · have : j = k := by omega
            subst this; exact .inr h2.symm
theorem length_joinTo (a b : List (Int × Int)) : ∀ k, (joinTo a b k).length ≤ a.length + k
  | 0 => Nat.le_refl _
  | k + 1 => by
    have := length_joinTo a b k
    by_cases h : b.getD k (0, 0) ∈ a
    · rw [joinTo_has h]; omega
    · rw [joinTo_new h, List.length_append]; simp; omega
/-- A list with no element twice keeps its length when it is sorted. -/
theorem length_insU_new {p : Int × Int} : ∀ {l : List (Int × Int)}, ¬ p ∈ l → (insU p l).length = l.length + 1
  | [], _ => rfl
  | q :: r, h => by
    obtain ⟨h1, h2⟩ := not_or.1 (fun hh => h (List.mem_cons.2 hh))
    have ih := length_insU_new (p := p) (l := r) h2
    unfold insU
    split
    · rw [List.length_cons, ih, List.length_cons]
    · rw [if_neg (fun e => h1 e.symm)]; rfl
theorem length_sortTo_new {l : List (Int × Int)} (h : ∀ i j, i < j → j < l.length → l.getD i (0, 0) ≠ l.getD j (0, 0)) : ∀ k, k ≤ l.length → (sortTo l k).length = k
  | 0, _ => rfl
  | k + 1, hk => by
    have ih := length_sortTo_new h k (by omega)
    show (insU _ _).length = _
    rw [length_insU_new, ih]
    intro hm
    obtain ⟨j, h1, h2⟩ := mem_sortTo.1 hm
    exact h j k h1 (by omega) h2
theorem si_ne {l : List (Int × Int)} (h : SI l) {i j : Nat} (hij : i < j) (hj : j < l.length) : l.getD i (0, 0) ≠ l.getD j (0, 0) := by
  have := List.pairwise_iff_getElem.1 h i j (by omega) hj hij
  rw [← getD_get (show i < l.length by omega), ← getD_get hj] at this
  intro e
  rw [e] at this
  exact lt2_irrefl _ this
theorem joinTo_ne {a b : List (Int × Int)} (ha : SI a) (hb : SI b) : ∀ k, k ≤ b.length → ∀ i j, i < j → j < (joinTo a b k).length → (joinTo a b k).getD i (0, 0) ≠ (joinTo a b k).getD j (0, 0)
  | 0, _ => fun i j hij hj => si_ne ha hij hj
  | k + 1, hk => by
    have ih := joinTo_ne ha hb k (by omega)
    by_cases h : b.getD k (0, 0) ∈ a
    · rw [joinTo_has h]; exact ih
    · rw [joinTo_new h]
      intro i j hij hj
      rw [List.length_append, List.length_singleton] at hj
      have e1 : (joinTo a b k ++ [b.getD k (0, 0)]).getD i (0, 0) = (joinTo a b k).getD i (0, 0) := by
        rw [List.getD_eq_getElem?_getD, List.getElem?_append_left (by omega), ← List.getD_eq_getElem?_getD]
      rw [e1]
      rcases Nat.lt_or_ge j (joinTo a b k).length with hlt | hge
      · have e2 : (joinTo a b k ++ [b.getD k (0, 0)]).getD j (0, 0) = (joinTo a b k).getD j (0, 0) := by
          rw [List.getD_eq_getElem?_getD, List.getElem?_append_left hlt, ← List.getD_eq_getElem?_getD]
        rw [e2]; exact ih i j hij hlt
      · have hj2 : j = (joinTo a b k).length := by omega
        have e2 : (joinTo a b k ++ [b.getD k (0, 0)]).getD j (0, 0) = b.getD k (0, 0) := by
          rw [hj2, List.getD_eq_getElem?_getD]; simp
        rw [e2]
        intro he
        have hm : b.getD k (0, 0) ∈ joinTo a b k := by rw [← he]; exact mem_getD.1 ⟨i, by omega, rfl⟩
        rcases (mem_joinTo k).1 hm with h1 | ⟨j', h1, h2⟩
        · exact h h1
        · exact si_ne hb h1 (by omega) h2
/-- What the program sorts, all of both tunes, is the same list; and it is a good tune just if it is short enough. -/
theorem join_same {a b : List (Int × Int)} : sortU (a ++ b) = sortU (joinTo a b b.length) :=
  sortU_eq (sortU_si _) fun x => by
    rw [mem_sortU, mem_joinTo, List.mem_append, mem_getD]
theorem join_tune {a b : List (Int × Int)} (ha : tuneOk a = true) (hb : tuneOk b = true) : tuneOk (sortU (a ++ b)) = joinOk a b := by
  have hl : (sortU (joinTo a b b.length)).length = (joinTo a b b.length).length := by
    unfold sortU
    exact length_sortTo_new (joinTo_ne (tuneOk_si ha) (tuneOk_si hb) b.length (Nat.le_refl _)) _ (Nat.le_refl _)
  unfold joinOk
  rw [ha, hb, Bool.true_and, Bool.true_and, join_same]
  by_cases h : (joinTo a b b.length).length ≤ 40
  · rw [decide_eq_true h]
    refine tuneOk_of (by omega) (sortU_si _) fun p hp => ?_
    rw [mem_sortU, mem_joinTo, mem_getD] at hp
    rcases hp with hp | hp
    · exact tuneOk_mem ha hp
    · exact tuneOk_mem hb hp
  · rw [decide_eq_false h]
    exact tuneOk_long (by omega)
end Go.Proofs.Ytkipgjllgmjipaa
