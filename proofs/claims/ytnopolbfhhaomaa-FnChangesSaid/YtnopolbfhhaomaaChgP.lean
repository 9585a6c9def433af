/- The plain laws behind FnChanges: turning a drawn tune twice gives it back, moves keep its form, joining goes both ways. -/
import Derived.Test.YtnopolbfhhaomaaDrawT
import Derived.Test.YtnopolbfhhaomaaJoin
import Derived.Test.YtnopolbfhhaomaaUpside
import Derived.Test.YtnopolbfhhaomaaMove
import Derived.Test.YtnopolbfhhaomaaTuneS
namespace Go.Proofs.Ytnopolbfhhaomaa
open Go.RowKit
set_option linter.unusedVariables false
section
variable {t : List (Int × Int)}
/-- The first and the last time of a rising list. -/
theorem si_first (h : SI t) (h0 : 0 < t.length) : t.getD 0 (0, 0) ∈ t ∧ ∀ p, p ∈ t → (t.getD 0 (0, 0)).1 ≤ p.1 := by
  refine ⟨mem_getD.1 ⟨0, h0, rfl⟩, fun p hp => ?_⟩
  obtain ⟨j, h1, h2⟩ := mem_getD.2 hp
  subst h2
  rcases Nat.eq_zero_or_pos j with e | e
  · subst e; exact Int.le_refl _
  · have := List.pairwise_iff_getElem.1 h 0 j h0 h1 e
    rw [← getD_get h0, ← getD_get h1] at this
    unfold lt2 at this
    omega
theorem si_last (h : SI t) (h0 : 0 < t.length) : t.getD (t.length - 1) (0, 0) ∈ t ∧ ∀ p, p ∈ t → p.1 ≤ (t.getD (t.length - 1) (0, 0)).1 := by
  refine ⟨mem_getD.1 ⟨t.length - 1, by omega, rfl⟩, fun p hp => ?_⟩
  obtain ⟨j, h1, h2⟩ := mem_getD.2 hp
  subst h2
  rcases Nat.lt_or_ge j (t.length - 1) with e | e
  · have := List.pairwise_iff_getElem.1 h j (t.length - 1) h1 (by omega) e
    rw [← getD_get h1, ← getD_get (show t.length - 1 < t.length by omega)] at this
    unfold lt2 at this
    omega
  · have : j = t.length - 1 := by omega
    subst this; exact Int.le_refl _
theorem length_sortU_map {f : Int × Int → Int × Int} (hs : SI t) (hf : ∀ p q, f p = f q → p = q) : (sortU (t.map f)).length = t.length := by
  unfold sortU
  rw [length_sortTo_new (fun i j hij hj => ?_) _ (Nat.le_refl _), List.length_map]
  rw [List.length_map] at hj
  intro he
  have hi : i < t.length := by omega
  have e1 : ∀ k, k < t.length → (t.map f).getD k (0, 0) = f (t.getD k (0, 0)) := fun k hk => by
    rw [List.getD_eq_getElem?_getD, List.getElem?_map, List.getD_eq_getElem?_getD, List.getElem?_eq_getElem hk]; rfl
  rw [e1 i hi, e1 j hj] at he
  exact si_ne hs hij hj (hf _ _ he)
theorem mem_sortU_map {f : Int × Int → Int × Int} {x : Int × Int} : x ∈ sortU (t.map f) ↔ ∃ p, p ∈ t ∧ f p = x := by
  rw [mem_sortU, List.mem_map]
/-! ## Backward -/
theorem backF_twice (s : Int) (p : Int × Int) : backF s (backF s p) = p := by
  unfold backF
  exact Prod.ext (by simp only; omega) rfl
theorem backF_inj (s : Int) : ∀ p q, backF s p = backF s q → p = q := fun p q h => by rw [← backF_twice s p, h, backF_twice]
theorem back_eq (h : TuneD t) (h0 : ¬ t.length = 0) : backM t = sortU (t.map (backF (sumM t))) := if_pos ⟨h.ok, h0⟩
theorem back_len (h : TuneD t) : (backM t).length = t.length := by
  by_cases h0 : t.length = 0
  · have : backM t = [] := if_neg (fun hh => hh.2 h0)
    rw [this, h0]; rfl
  · rw [back_eq h h0, length_sortU_map h.si (backF_inj _)]
theorem back_sum (h : TuneD t) (h0 : ¬ t.length = 0) : (backM t).getD 0 (0, 0) ∈ backM t ∧ ((backM t).getD 0 (0, 0)).1 = (t.getD 0 (0, 0)).1 ∧ ((backM t).getD ((backM t).length - 1) (0, 0)).1 = (t.getD (t.length - 1) (0, 0)).1 := by
  have hb := back_eq h h0
  have hl := back_len h
  have hsi : SI (backM t) := by rw [hb]; exact sortU_si _
  obtain ⟨f1, f2⟩ := si_first h.si (by omega)
  obtain ⟨l1, l2⟩ := si_last h.si (by omega)
  obtain ⟨g1, g2⟩ := si_first hsi (by omega)
  obtain ⟨k1, k2⟩ := si_last hsi (by omega)
  have hs : sumM t = (t.getD 0 (0, 0)).1 + (t.getD (t.length - 1) (0, 0)).1 := rfl
  refine ⟨g1, ?_, ?_⟩
  · have a1 := g2 (backF (sumM t) (t.getD (t.length - 1) (0, 0))) (by rw [hb, mem_sortU_map]; exact ⟨_, l1, rfl⟩)
    have a2 : (backM t).getD 0 (0, 0) ∈ sortU (t.map (backF (sumM t))) := by rw [← hb]; exact g1
    obtain ⟨q, q1, q2⟩ := mem_sortU_map.1 a2
    have a3 := l2 q q1
    rw [← q2] at a1 ⊢
    unfold backF at a1 ⊢
    simp only at a1 ⊢
    omega
  · have a1 := k2 (backF (sumM t) (t.getD 0 (0, 0))) (by rw [hb, mem_sortU_map]; exact ⟨_, f1, rfl⟩)
    have a2 : (backM t).getD ((backM t).length - 1) (0, 0) ∈ sortU (t.map (backF (sumM t))) := by rw [← hb]; exact k1
    obtain ⟨q, q1, q2⟩ := mem_sortU_map.1 a2
    have a3 := f2 q q1
    rw [← q2] at a1 ⊢
    unfold backF at a1 ⊢
    simp only at a1 ⊢
    omega
theorem back_drawn (h : TuneD t) : TuneD (backM t) := by
  by_cases h0 : t.length = 0
  · have : backM t = [] := if_neg (fun hh => hh.2 h0)
    rw [this]
    exact ⟨List.Pairwise.nil, by simp, fun p hp => by simp at hp⟩
  have hb := back_eq h h0
  obtain ⟨f1, f2⟩ := si_first h.si (by omega)
  obtain ⟨l1, l2⟩ := si_last h.si (by omega)
  refine ⟨by rw [hb]; exact sortU_si _, by rw [back_len h]; exact h.len, fun p hp => ?_⟩
  rw [hb] at hp
  obtain ⟨q, q1, q2⟩ := mem_sortU_map.1 hp
  have a1 := f2 q q1
  have a2 := l2 q q1
  have a3 := h.mem _ f1
  have a4 := h.mem _ l1
  have a5 := h.mem q q1
  have hs : sumM t = (t.getD 0 (0, 0)).1 + (t.getD (t.length - 1) (0, 0)).1 := rfl
  subst q2
  unfold backF
  simp only
  omega
theorem back_back (h : TuneD t) : backM (backM t) = t := by
  by_cases h0 : t.length = 0
  · have e : backM t = [] := if_neg (fun hh => hh.2 h0)
    rw [e]
    have e2 : t = [] := List.eq_nil_of_length_eq_zero h0
    rw [e2]
    exact if_neg (fun hh => hh.2 rfl)
  have hb := back_eq h h0
  obtain ⟨_, s1, s2⟩ := back_sum h h0
  have hs : sumM (backM t) = sumM t := by
    show ((backM t).getD 0 (0, 0)).1 + ((backM t).getD ((backM t).length - 1) (0, 0)).1 = (t.getD 0 (0, 0)).1 + (t.getD (t.length - 1) (0, 0)).1
    rw [s1, s2]
  rw [back_eq (back_drawn h) (by rw [back_len h]; exact h0), hs]
  refine sortU_eq h.si fun x => ?_
  rw [List.mem_map]
  constructor
  · intro hx
    exact ⟨backF (sumM t) x, by rw [hb, mem_sortU_map]; exact ⟨x, hx, rfl⟩, backF_twice _ _⟩
  · rintro ⟨q, q1, q2⟩
    rw [hb] at q1
    obtain ⟨r, r1, r2⟩ := mem_sortU_map.1 q1
    rw [← q2, ← r2, backF_twice]; exact r1
theorem back_lasts (h : TuneD t) : lastsM (backM t) = lastsM t := by
  unfold lastsM
  rw [if_pos (back_drawn h).ok, if_pos h.ok]
  by_cases h0 : t.length = 0
  · rw [if_pos (by rw [back_len h]; exact h0), if_pos h0]
  · obtain ⟨_, s1, s2⟩ := back_sum h h0
    rw [if_neg (by rw [back_len h]; exact h0), if_neg h0, s1, s2]
/-! ## UpsideDown -/
theorem upF_twice (s : Int) (p : Int × Int) : upF s (upF s p) = p := by
  unfold upF
  exact Prod.ext rfl (by simp only; omega)
theorem upF_inj (s : Int) : ∀ p q, upF s p = upF s q → p = q := fun p q h => by rw [← upF_twice s p, h, upF_twice]
theorem up_eq (h : TuneD t) (h0 : ¬ t.length = 0) : upM t = sortU (t.map (upF (lowM t + highM t))) := if_pos ⟨h.ok, h0⟩
theorem up_len (h : TuneD t) : (upM t).length = t.length := by
  by_cases h0 : t.length = 0
  · have : upM t = [] := if_neg (fun hh => hh.2 h0)
    rw [this, h0]; rfl
  · rw [up_eq h h0, length_sortU_map h.si (upF_inj _)]
theorem low_at {l : List (Int × Int)} (h0 : 0 < l.length) : ∀ n, n ≤ l.length → ∃ j, j < l.length ∧ lowTo l n = (l.getD j (0, 0)).2
  | 0, _ => ⟨0, h0, rfl⟩
  | n + 1, hn => by
    obtain ⟨j, h1, h2⟩ := low_at h0 n (by omega)
    have e : lowTo l (n + 1) = min (lowTo l n) (l.getD n (0, 0)).2 := rfl
    by_cases h : lowTo l n ≤ (l.getD n (0, 0)).2
    · exact ⟨j, h1, by rw [e, ← h2]; omega⟩
    · exact ⟨n, by omega, by rw [e]; omega⟩
theorem high_at {l : List (Int × Int)} (h0 : 0 < l.length) : ∀ n, n ≤ l.length → ∃ j, j < l.length ∧ highTo l n = (l.getD j (0, 0)).2
  | 0, _ => ⟨0, h0, rfl⟩
  | n + 1, hn => by
    obtain ⟨j, h1, h2⟩ := high_at h0 n (by omega)
    have e : highTo l (n + 1) = max (highTo l n) (l.getD n (0, 0)).2 := rfl
    by_cases h : (l.getD n (0, 0)).2 ≤ highTo l n
    · exact ⟨j, h1, by rw [e, ← h2]; omega⟩
    · exact ⟨n, by omega, by rw [e]; omega⟩
theorem range_facts (h : TuneD t) (h0 : ¬ t.length = 0) : (∃ p, p ∈ t ∧ lowM t = p.2) ∧ (∃ p, p ∈ t ∧ highM t = p.2) ∧ ∀ p, p ∈ t → lowM t ≤ p.2 ∧ p.2 ≤ highM t := by
  obtain ⟨e1, e2⟩ := range_yes h.ok (show 0 < t.length by omega)
  obtain ⟨j, j1, j2⟩ := low_at (l := t) (by omega) t.length (Nat.le_refl _)
  obtain ⟨k, k1, k2⟩ := high_at (l := t) (by omega) t.length (Nat.le_refl _)
  obtain ⟨_, _, h3⟩ := lowTo_bounds (l := t) (fun j hj => by have := h.mem _ (mem_getD.1 ⟨j, hj, rfl⟩); omega) (by omega) t.length (Nat.le_refl _)
  rw [e1, e2]
  refine ⟨⟨_, mem_getD.1 ⟨j, j1, rfl⟩, j2⟩, ⟨_, mem_getD.1 ⟨k, k1, rfl⟩, k2⟩, fun p hp => ?_⟩
  obtain ⟨i, i1, i2⟩ := mem_getD.2 hp
  subst i2
  exact h3 i i1
theorem up_drawn (h : TuneD t) : TuneD (upM t) := by
  by_cases h0 : t.length = 0
  · have : upM t = [] := if_neg (fun hh => hh.2 h0)
    rw [this]
    exact ⟨List.Pairwise.nil, by simp, fun p hp => by simp at hp⟩
  have hb := up_eq h h0
  obtain ⟨⟨a, a1, a2⟩, ⟨b, b1, b2⟩, hr⟩ := range_facts h h0
  refine ⟨by rw [hb]; exact sortU_si _, by rw [up_len h]; exact h.len, fun p hp => ?_⟩
  rw [hb] at hp
  obtain ⟨q, q1, q2⟩ := mem_sortU_map.1 hp
  have c1 := hr q q1
  have c2 := h.mem _ a1
  have c3 := h.mem _ b1
  have c4 := h.mem _ q1
  subst q2
  unfold upF
  simp only
  omega
theorem up_up (h : TuneD t) : upM (upM t) = t := by
  by_cases h0 : t.length = 0
  · have e : upM t = [] := if_neg (fun hh => hh.2 h0)
    rw [e]
    have e2 : t = [] := List.eq_nil_of_length_eq_zero h0
    rw [e2]
    exact if_neg (fun hh => hh.2 rfl)
  have hb := up_eq h h0
  have hl := up_len h
  obtain ⟨⟨a, a1, a2⟩, ⟨b, b1, b2⟩, hr⟩ := range_facts h h0
  obtain ⟨⟨c, c1, c2⟩, ⟨d, d1, d2⟩, hu⟩ := range_facts (up_drawn h) (by rw [hl]; exact h0)
  have hs : lowM (upM t) + highM (upM t) = lowM t + highM t := by
    have m1 := hu (upF (lowM t + highM t) b) (by rw [hb, mem_sortU_map]; exact ⟨b, b1, rfl⟩)
    have m2 := hu (upF (lowM t + highM t) a) (by rw [hb, mem_sortU_map]; exact ⟨a, a1, rfl⟩)
    have hc : c ∈ sortU (t.map (upF (lowM t + highM t))) := by rw [← hb]; exact c1
    have hd : d ∈ sortU (t.map (upF (lowM t + highM t))) := by rw [← hb]; exact d1
    obtain ⟨c', c3, c4⟩ := mem_sortU_map.1 hc
    obtain ⟨d', d3, d4⟩ := mem_sortU_map.1 hd
    have n1 := hr c' c3
    have n2 := hr d' d3
    have o1 : c.2 = lowM t + highM t - c'.2 := by rw [← c4]; rfl
    have o2 : d.2 = lowM t + highM t - d'.2 := by rw [← d4]; rfl
    have p1 : (upF (lowM t + highM t) b).2 = lowM t + highM t - b.2 := rfl
    have p2 : (upF (lowM t + highM t) a).2 = lowM t + highM t - a.2 := rfl
    omega
  rw [up_eq (up_drawn h) (by rw [hl]; exact h0), hs]
  refine sortU_eq h.si fun x => ?_
  rw [List.mem_map]
  constructor
  · intro hx
    exact ⟨upF (lowM t + highM t) x, by rw [hb, mem_sortU_map]; exact ⟨x, hx, rfl⟩, upF_twice _ _⟩
  · rintro ⟨q, q1, q2⟩
    rw [hb] at q1
    obtain ⟨r, r1, r2⟩ := mem_sortU_map.1 q1
    rw [← q2, ← r2, upF_twice]; exact r1
/-! ## Moves -/
theorem moved_map {f : Int × Int → Int × Int} {b : Bool} (h : TuneD t) (hb : b = true) (hm : ∀ p q, lt2 p q → lt2 (f p) (f q)) (hr : ∀ p, p ∈ t → (0 ≤ (f p).1 ∧ (f p).1 ≤ 1000) ∧ 0 ≤ (f p).2 ∧ (f p).2 ≤ 60) :
    movedL t b f = t.map f ∧ movedOk t b f = true ∧ SI (t.map f) ∧ tuneOk (t.map f) = true := by
  have hs : SI (t.map f) := List.pairwise_map.2 (h.si.imp (fun {p q} hpq => hm p q hpq))
  have e := sortU_same hs
  have hk : tuneOk (t.map f) = true := tuneOk_of (by rw [List.length_map]; have := h.len; omega) hs fun x hx => by
    obtain ⟨p, p1, p2⟩ := List.mem_map.1 hx
    subst p2; exact hr p p1
  refine ⟨?_, ?_, hs, hk⟩
  · unfold movedL
    rw [e, if_pos ⟨h.ok, hb, hk⟩]
  · unfold movedOk
    rw [e, h.ok, hb, hk]; rfl
/-- The four moves of the law. -/
theorem higher3 (h : TuneD t) : movedL t (inR 3 (-60) 60) (fun p => (p.1, p.2 + 3)) = t.map (fun p => (p.1, p.2 + 3)) ∧ movedOk t (inR 3 (-60) 60) (fun p => (p.1, p.2 + 3)) = true ∧ SI (t.map (fun p => (p.1, p.2 + 3))) ∧ tuneOk (t.map (fun p => (p.1, p.2 + 3))) = true :=
  moved_map h (by decide) (fun p q hpq => by unfold lt2 at *; simp only at *; omega) (fun p hp => by have := h.mem p hp; simp only; omega)
theorem slower2 (h : TuneD t) : movedL t (inR 2 1 100) (fun p => (p.1 * 2, p.2)) = t.map (fun p => (p.1 * 2, p.2)) ∧ movedOk t (inR 2 1 100) (fun p => (p.1 * 2, p.2)) = true ∧ SI (t.map (fun p => (p.1 * 2, p.2))) ∧ tuneOk (t.map (fun p => (p.1 * 2, p.2))) = true :=
  moved_map h (by decide) (fun p q hpq => by unfold lt2 at *; simp only at *; omega) (fun p hp => by have := h.mem p hp; simp only; omega)
theorem shifted {u : List (Int × Int)} {f : Int × Int → Int × Int} {b : Bool} (hb : b = true) (hu : tuneOk u = true) (hs : SI (u.map f)) (hk : tuneOk (u.map f) = true) : movedL u b f = u.map f ∧ movedOk u b f = true := by
  have e := sortU_same hs
  refine ⟨?_, ?_⟩
  · unfold movedL
    rw [e, if_pos ⟨hu, hb, hk⟩]
  · unfold movedOk
    rw [e, hu, hb, hk]; rfl
theorem map_si {u : List (Int × Int)} {f : Int × Int → Int × Int} (hu : SI u) (hm : ∀ p q, lt2 p q → lt2 (f p) (f q)) : SI (u.map f) := List.pairwise_map.2 (hu.imp (fun {p q} hpq => hm p q hpq))
theorem later5 (h : TuneD t) : movedL (t.map (fun p => (p.1, p.2 + 3))) (inR 5 (-1000) 1000) (fun p => (p.1 + 5, p.2)) = t.map (fun p => (p.1 + 5, p.2 + 3)) ∧ movedOk (t.map (fun p => (p.1, p.2 + 3))) (inR 5 (-1000) 1000) (fun p => (p.1 + 5, p.2)) = true ∧ SI (t.map (fun p => (p.1 + 5, p.2 + 3))) ∧ tuneOk (t.map (fun p => (p.1 + 5, p.2 + 3))) = true := by
  have e : (t.map (fun p => (p.1, p.2 + 3))).map (fun p : Int × Int => (p.1 + 5, p.2)) = t.map (fun p => (p.1 + 5, p.2 + 3)) := by rw [List.map_map]; rfl
  obtain ⟨_, _, h3, h4⟩ := higher3 h
  have hs : SI (t.map (fun p => (p.1 + 5, p.2 + 3))) := map_si h.si (fun p q hpq => by unfold lt2 at *; simp only at *; omega)
  have hk : tuneOk (t.map (fun p => (p.1 + 5, p.2 + 3))) = true := tuneOk_of (by rw [List.length_map]; have := h.len; omega) hs fun x hx => by
    obtain ⟨p, p1, p2⟩ := List.mem_map.1 hx
    have := h.mem p p1
    subst p2; simp only; omega
  obtain ⟨a1, a2⟩ := shifted (u := t.map (fun p => (p.1, p.2 + 3))) (f := fun p => (p.1 + 5, p.2)) (b := inR 5 (-1000) 1000) (by decide) h4 (by rw [e]; exact hs) (by rw [e]; exact hk)
  exact ⟨by rw [a1, e], a2, hs, hk⟩
theorem back5 (h : TuneD t) : movedL (t.map (fun p => (p.1 + 5, p.2 + 3))) (inR (-5) (-1000) 1000) (fun p => (p.1 + -5, p.2)) = t.map (fun p => (p.1, p.2 + 3)) ∧ movedOk (t.map (fun p => (p.1 + 5, p.2 + 3))) (inR (-5) (-1000) 1000) (fun p => (p.1 + -5, p.2)) = true := by
  have e : (t.map (fun p => (p.1 + 5, p.2 + 3))).map (fun p : Int × Int => (p.1 + -5, p.2)) = t.map (fun p => (p.1, p.2 + 3)) := by
    rw [List.map_map]
    refine List.map_congr_left fun p _ => ?_
    exact Prod.ext (by simp only [Function.comp]; omega) rfl
  obtain ⟨_, _, h3, h4⟩ := higher3 h
  obtain ⟨_, _, _, l4⟩ := later5 h
  obtain ⟨a1, a2⟩ := shifted (u := t.map (fun p => (p.1 + 5, p.2 + 3))) (f := fun p => (p.1 + -5, p.2)) (b := inR (-5) (-1000) 1000) (by decide) l4 (by rw [e]; exact h3) (by rw [e]; exact h4)
  exact ⟨by rw [a1, e], a2⟩
theorem map_at {f : Int × Int → Int × Int} {k : Nat} (hk : k < t.length) {x y : Int} (e : Hid (t.getD k (0, 0) = (x, y))) : Hid ((t.map f).getD k (0, 0) = f (x, y)) := by
  show _ = _
  rw [List.getD_eq_getElem?_getD, List.getElem?_map, ← e.out, getD_get hk, List.getElem?_eq_getElem hk]; rfl
theorem same_later (h : TuneD t) : sameTune t (t.map (fun p => (p.1 + 5, p.2 + 3))) = true := by
  obtain ⟨_, _, _, l4⟩ := later5 h
  refine sameTune_yes h.ok l4 (List.length_map ..).symm fun j hj => ?_
  obtain ⟨x, y, e1⟩ := pair_of t j
  obtain ⟨x0, y0, e0⟩ := pair_of t 0
  rw [sameAt_eq e1 (map_at hj e1) e0 (map_at (by omega) e0)]
  exact decide_eq_true (by simp only; omega)
theorem no61 : movedOk t (inR 61 (-60) 60) (fun p => (p.1, p.2 + 61)) = false := by
  unfold movedOk
  rw [show inR 61 (-60) 60 = false by decide]
  simp
/-! ## Joining -/
theorem join_len {a b : List (Int × Int)} : ∀ k, a.length ≤ (joinTo a b k).length
  | 0 => Nat.le_refl _
  | k + 1 => by
    have := join_len (a := a) (b := b) k
    by_cases h : b.getD k (0, 0) ∈ a
    · rw [joinTo_has h]; exact this
    · rw [joinTo_new h, List.length_append]; omega
theorem join_ok {a b : List (Int × Int)} (ha : TuneD a) (hb : TuneD b) : joinOk a b = true := by
  unfold joinOk
  rw [ha.ok, hb.ok, decide_eq_true (by have := length_joinTo a b b.length; have := ha.len; have := hb.len; omega)]; rfl
theorem join_facts {a b : List (Int × Int)} (ha : TuneD a) (hb : TuneD b) : joinL a b = joinL b a ∧ a.length ≤ (joinL a b).length ∧ (joinL a b).length ≤ a.length + b.length := by
  have e1 := join_yes (join_ok ha hb)
  have e2 := join_yes (join_ok hb ha)
  have hl : (sortU (joinTo a b b.length)).length = (joinTo a b b.length).length := by
    unfold sortU
    exact length_sortTo_new (joinTo_ne ha.si hb.si b.length (Nat.le_refl _)) _ (Nat.le_refl _)
  refine ⟨?_, by rw [e1, hl]; exact join_len _, by rw [e1, hl]; exact length_joinTo a b _⟩
  rw [e1, e2]
  refine sortU_eq (sortU_si _) fun x => ?_
  rw [mem_sortU, mem_joinTo, mem_joinTo, mem_getD, mem_getD]
  exact ⟨fun h => h.symm, fun h => h.symm⟩
end
end Go.Proofs.Ytnopolbfhhaomaa
