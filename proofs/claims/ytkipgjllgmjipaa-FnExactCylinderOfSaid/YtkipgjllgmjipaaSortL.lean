/- Plain laws on lists of pairs: strictly rising lists, inserting, and leaving out of equal neighbours. No program is named here. -/
import Derived.WalkKit
namespace Go.Proofs.Ytkipgjllgmjipaa

def lt2 (p q : Int × Int) : Prop := p.1 < q.1 ∨ p.1 = q.1 ∧ p.2 < q.2
instance (p q : Int × Int) : Decidable (lt2 p q) := by unfold lt2; exact inferInstance
theorem lt2_irrefl (p : Int × Int) : ¬ lt2 p p := by unfold lt2; omega
theorem lt2_trans {p q r : Int × Int} (h : lt2 p q) (k : lt2 q r) : lt2 p r := by unfold lt2 at *; omega
theorem lt2_asymm {p q : Int × Int} (h : lt2 p q) : ¬ lt2 q p := by unfold lt2 at *; omega
theorem lt2_tri {p q : Int × Int} (h : ¬ lt2 p q) (k : p ≠ q) : lt2 q p := by
  have : ¬ (p.1 = q.1 ∧ p.2 = q.2) := fun hh => k (Prod.ext hh.1 hh.2)
  unfold lt2 at *; omega
/-- Strictly rising. -/
abbrev SI (l : List (Int × Int)) : Prop := l.Pairwise lt2

theorem si_unique : ∀ {l m : List (Int × Int)}, SI l → SI m → (∀ x, x ∈ l ↔ x ∈ m) → l = m
  | [], [], _, _, _ => rfl
  | [], q :: m, _, _, h => absurd ((h q).2 (List.mem_cons_self ..)) (by simp)
  | p :: l, [], _, _, h => absurd ((h p).1 (List.mem_cons_self ..)) (by simp)
  | p :: l, q :: m, hl, hm, h => by
    obtain ⟨hp, hl'⟩ := List.pairwise_cons.1 hl
    obtain ⟨hq, hm'⟩ := List.pairwise_cons.1 hm
    have hpq : p = q := by
      rcases List.mem_cons.1 ((h p).1 (List.mem_cons_self ..)) with e | e
      · exact e
      · rcases List.mem_cons.1 ((h q).2 (List.mem_cons_self ..)) with e' | e'
        · exact e'.symm
        · exact absurd (hp q e') (lt2_asymm (hq p e))
    subst hpq
    have : l = m := si_unique hl' hm' fun x => by
      constructor
      · intro hx
        rcases List.mem_cons.1 ((h x).1 (List.mem_cons_of_mem _ hx)) with e | e
        · subst e; exact absurd (hp x hx) (lt2_irrefl x)
        · exact e
      · intro hx
        rcases List.mem_cons.1 ((h x).2 (List.mem_cons_of_mem _ hx)) with e | e
        · subst e; exact absurd (hq x hx) (lt2_irrefl x)
        · exact e
    rw [this]

/-- p at its place, if it is not there. -/
def insU (p : Int × Int) : List (Int × Int) → List (Int × Int)
  | [] => [p]
  | q :: r => if lt2 q p then q :: insU p r else if q = p then q :: r else p :: q :: r
theorem mem_insU {p x : Int × Int} : ∀ {l : List (Int × Int)}, x ∈ insU p l ↔ x = p ∨ x ∈ l
  | [] => by simp [insU]
  | q :: r => by
    unfold insU
    split
    · rw [List.mem_cons, mem_insU, List.mem_cons]
      constructor
      · rintro (h | h | h)
        · exact .inr (.inl h)
        · exact .inl h
        · exact .inr (.inr h)
      · rintro (h | h | h)
        · exact .inr (.inl h)
        · exact .inl h
        · exact .inr (.inr h)
    · split
      · rename_i _ h
        subst h
        rw [List.mem_cons]
        constructor
        · exact fun h => .inr h
        · rintro (h | h)
          · exact .inl h
          · exact h
      · rw [List.mem_cons]
theorem si_insU {p : Int × Int} : ∀ {l : List (Int × Int)}, SI l → SI (insU p l)
  | [], _ => by simp [insU, SI]
  | q :: r, h => by
    obtain ⟨hq, hr⟩ := List.pairwise_cons.1 h
    unfold insU
    split
    · rename_i hqp
      refine List.pairwise_cons.2 ⟨fun x hx => ?_, si_insU hr⟩
      rcases mem_insU.1 hx with e | e
      · subst e; exact hqp
      · exact hq x e
    · split
      · exact h
      · rename_i h1 h2
        have hpq : lt2 p q := lt2_tri h1 h2
        refine List.pairwise_cons.2 ⟨fun x hx => ?_, h⟩
        rcases List.mem_cons.1 hx with e | e
        · subst e; exact hpq
        · exact lt2_trans hpq (hq x e)
/-- The place where p belongs: the elements ahead of it are smaller, the one there is not. -/
theorem insU_at {p : Int × Int} : ∀ {l : List (Int × Int)} {k : Nat}, k ≤ l.length → (∀ j, j < k → lt2 (l.getD j (0, 0)) p) → (k < l.length → ¬ lt2 (l.getD k (0, 0)) p) →
    insU p l = if k < l.length ∧ l.getD k (0, 0) = p then l else l.take k ++ [p] ++ l.drop k
  | [], k, hk, _, _ => by
    have : k = 0 := by simpa using hk
    subst this
    simp [insU]
  | q :: r, 0, _, _, h => by
    have h0 : ¬ lt2 q p := h (by simp)
    unfold insU
    rw [if_neg h0]
    by_cases e : q = p <;> simp [e]
  | q :: r, k + 1, hk, h1, h2 => by
    have h0 : lt2 q p := h1 0 (by omega)
    have ih := insU_at (p := p) (l := r) (k := k) (by simpa using hk) (fun j hj => h1 (j + 1) (by omega)) (fun hj => h2 (by simpa using hj))
    unfold insU
    rw [if_pos h0, ih]
    by_cases e : k < r.length ∧ r.getD k (0, 0) = p
    · rw [if_pos e, if_pos ⟨by simpa using e.1, e.2⟩]
    · rw [if_neg e, if_neg (fun hh => e ⟨by simpa using hh.1, hh.2⟩)]
      simp
/-- The first k of a list, each put at its place. -/
def sortTo (l : List (Int × Int)) : Nat → List (Int × Int)
  | 0 => []
  | k + 1 => insU (l.getD k (0, 0)) (sortTo l k)
def sortU (l : List (Int × Int)) : List (Int × Int) := sortTo l l.length
theorem si_sortTo (l : List (Int × Int)) : ∀ k, SI (sortTo l k)
  | 0 => List.Pairwise.nil
  | k + 1 => si_insU (si_sortTo l k)
theorem mem_sortTo {l : List (Int × Int)} {x : Int × Int} : ∀ {k}, x ∈ sortTo l k ↔ ∃ j, j < k ∧ l.getD j (0, 0) = x
  | 0 => by simp [sortTo]
  | k + 1 => by
    show x ∈ insU _ _ ↔ _
    rw [mem_insU, mem_sortTo]
    constructor
    · rintro (h | ⟨j, h1, h2⟩)
      · exact ⟨k, by omega, h.symm⟩
      · exact ⟨j, by omega, h2⟩
    · rintro ⟨j, h1, h2⟩
      rcases Nat.lt_or_ge j k with h | h
      · exact .inr ⟨j, h, h2⟩
      · have : j = k := by omega
        subst this; exact .inl h2.symm
theorem mem_getD {l : List (Int × Int)} {x : Int × Int} : (∃ j, j < l.length ∧ l.getD j (0, 0) = x) ↔ x ∈ l := by
  constructor
  · rintro ⟨j, h1, h2⟩
    rw [List.getD_eq_getElem?_getD, List.getElem?_eq_getElem h1] at h2
    subst h2
    exact List.getElem_mem h1
  · intro h
    obtain ⟨j, h1, h2⟩ := List.getElem_of_mem h
    exact ⟨j, h1, by rw [List.getD_eq_getElem?_getD, List.getElem?_eq_getElem h1]; exact h2⟩
theorem mem_sortU {l : List (Int × Int)} {x : Int × Int} : x ∈ sortU l ↔ x ∈ l := by unfold sortU; rw [mem_sortTo, mem_getD]
theorem sortU_si (l : List (Int × Int)) : SI (sortU l) := si_sortTo l _
theorem sortU_eq {l m : List (Int × Int)} (h : SI m) (hm : ∀ x, x ∈ m ↔ x ∈ l) : sortU l = m := si_unique (sortU_si l) h fun x => by rw [mem_sortU, hm]
theorem sortU_same {l : List (Int × Int)} (h : SI l) : sortU l = l := sortU_eq h fun _ => Iff.rfl
theorem length_insU (p : Int × Int) : ∀ l, (insU p l).length ≤ l.length + 1
  | [] => Nat.le_refl _
  | q :: r => by
    unfold insU
    have := length_insU p r
    split
    · simp; omega
    · split <;> simp
theorem length_sortTo (l : List (Int × Int)) : ∀ k, (sortTo l k).length ≤ k
  | 0 => Nat.le_refl _
  | k + 1 => by
    have h1 := length_sortTo l k
    have h2 := length_insU (l.getD k (0, 0)) (sortTo l k)
    show (insU _ _).length ≤ _
    omega

/-- The first m, an element left out that is equal to the one ahead of it. -/
def ded (l : List (Int × Int)) : Nat → List (Int × Int)
  | 0 => []
  | m + 1 => if m = 0 ∨ l.getD m (0, 0) ≠ l.getD (m - 1) (0, 0) then ded l m ++ [l.getD m (0, 0)] else ded l m
theorem length_ded (l : List (Int × Int)) : ∀ m, (ded l m).length ≤ m
  | 0 => Nat.le_refl _
  | m + 1 => by
    have := length_ded l m
    unfold ded
    split
    · simp; omega
    · omega
theorem ded_all {l : List (Int × Int)} : ∀ {m}, m ≤ l.length → (∀ j, 0 < j → j < m → l.getD j (0, 0) ≠ l.getD (j - 1) (0, 0)) → ded l m = l.take m
  | 0, _, _ => by simp [ded]
  | m + 1, hm, h => by
    unfold ded
    rw [if_pos (by rcases Nat.eq_zero_or_pos m with e | e; exact .inl e; exact .inr (h m e (by omega))), ded_all (by omega) (fun j h1 h2 => h j h1 (by omega)), List.take_succ_eq_append_getElem (by omega)]
    congr 2
    rw [List.getD_eq_getElem?_getD, List.getElem?_eq_getElem (by omega)]; rfl
theorem ded_law {l : List (Int × Int)} (hs : ∀ i j, i < j → j < l.length → ¬ lt2 (l.getD j (0, 0)) (l.getD i (0, 0))) : ∀ m, m ≤ l.length →
    SI (ded l m) ∧ (∀ x, x ∈ ded l m ↔ ∃ j, j < m ∧ l.getD j (0, 0) = x)
  | 0, _ => ⟨List.Pairwise.nil, by simp [ded]⟩
  | m + 1, hm => by
    obtain ⟨h1, h2⟩ := ded_law hs m (by omega)
    unfold ded
    split
    · rename_i hc
      refine ⟨List.pairwise_append.2 ⟨h1, by simp, fun x hx y hy => ?_⟩, fun x => ?_⟩
      · rw [List.mem_singleton] at hy
        subst hy
        obtain ⟨j, h3, h4⟩ := (h2 x).1 hx
        subst h4
        have hne : l.getD m (0, 0) ≠ l.getD (m - 1) (0, 0) := by
          rcases hc with e | e
          · omega
          · exact e
        have h5 := hs (m - 1) m (by omega) (by omega)
        have h6 := lt2_tri h5 hne
        rcases Nat.lt_or_ge j (m - 1) with hlt | hge
        · have h7 := hs j (m - 1) hlt (by omega)
          by_cases e : l.getD (m - 1) (0, 0) = l.getD j (0, 0)
          · rw [← e]; exact h6
          · exact lt2_trans (lt2_tri h7 e) h6
        · have : j = m - 1 := by omega
          subst this; exact h6
      · rw [List.mem_append, h2, List.mem_singleton]
        constructor
        · rintro (⟨j, h3, h4⟩ | h3)
          · exact ⟨j, by omega, h4⟩
          · exact ⟨m, by omega, h3.symm⟩
        · rintro ⟨j, h3, h4⟩
          rcases Nat.lt_or_ge j m with h | h
          · exact .inl ⟨j, h, h4⟩
          · have : j = m := by omega
            subst this; exact .inr h4.symm
    · rename_i hc
      refine ⟨h1, fun x => ?_⟩
      rw [h2]
      constructor
      · rintro ⟨j, h3, h4⟩; exact ⟨j, by omega, h4⟩
      · rintro ⟨j, h3, h4⟩
        rcases Nat.lt_or_ge j m with h | h
        · exact ⟨j, h, h4⟩
        · have : j = m := by omega
          subst this
          have hm0 : ¬ j = 0 := fun e => hc (.inl e)
          have he : l.getD j (0, 0) = l.getD (j - 1) (0, 0) := Classical.byContradiction fun e => hc (.inr e)
          exact ⟨j - 1, by omega, by rw [← he]; exact h4⟩
/-- A sorted list of l's elements, equal neighbours left out, is l sorted with each element once. -/
theorem ded_sortU {l m : List (Int × Int)} (hp : m.Perm l) (hs : ∀ i j, i < j → j < m.length → ¬ lt2 (m.getD j (0, 0)) (m.getD i (0, 0))) : ded m m.length = sortU l := by
  obtain ⟨h1, h2⟩ := ded_law hs m.length (Nat.le_refl _)
  refine (sortU_eq h1 fun x => ?_).symm
  rw [h2, mem_getD, hp.mem_iff]
end Go.Proofs.Ytkipgjllgmjipaa
