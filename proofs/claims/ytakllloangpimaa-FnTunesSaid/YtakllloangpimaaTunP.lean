/- The plain laws behind FnTunes: a new note is taken up, sorting keeps each note once, the notes of all times are all notes. -/
import Derived.Test.YtakllloangpimaaChgP
import Derived.Test.YtakllloangpimaaAddN
import Derived.Test.YtakllloangpimaaTuneR
namespace Go.Proofs.Ytakllloangpimaa
open Go.RowKit
set_option linter.unusedVariables false
section
variable {t : List (Int × Int)}
theorem add_drawn (h : TuneD t) {a b : Int} (ha : 0 ≤ a ∧ a ≤ 29) (hb : 0 ≤ b ∧ b ≤ 60) (hn : ¬ (a, b) ∈ t) : addOk t (a, b) = true ∧ (addL t (a, b)).length = t.length + 1 ∧ tuneOk (addL t (a, b)) = true := by
  have hk : tuneOk (insU (a, b) t) = true := tuneOk_of (by rw [length_insU_new hn]; have := h.len; omega) (si_insU h.si) fun p hp => by
    rcases mem_insU.1 hp with e | e
    · subst e; simp only; omega
    · have := h.mem p e; omega
  have ho : addOk t (a, b) = true := by rw [add_new h.ok hn, hk]
  refine ⟨ho, ?_, ?_⟩
  · rw [add_yes ho, length_insU_new hn]
  · rw [add_yes ho]; exact hk
theorem sort_twice (h : TuneD t) : sortN (t ++ t) = t := by
  have hl : (t ++ t).length ≤ 40 := by rw [List.length_append]; have := h.len; omega
  rw [show sortN (t ++ t) = sortU (t ++ t) from if_pos hl]
  exact sortU_eq h.si fun x => by rw [List.mem_append]; exact ⟨fun h => .inl h, fun h => by rcases h with h | h <;> exact h⟩
/-- One of the first k notes is p. -/
def foundTo (t : List (Int × Int)) (p : Int × Int) : Nat → Bool
  | 0 => false
  | k + 1 => foundTo t p k || decide (t.getD k (0, 0) = p)
theorem found_iff (p : Int × Int) : ∀ k, foundTo t p k = true ↔ ∃ j, j < k ∧ t.getD j (0, 0) = p
  | 0 => by simp [foundTo]
  | k + 1 => by
    unfold foundTo
    rw [Bool.or_eq_true, decide_eq_true_eq, found_iff p k]
    constructor
    · rintro (⟨j, h1, h2⟩ | h)
      · exact ⟨j, by omega, h2⟩
      · exact ⟨k, by omega, h⟩
    · rintro ⟨j, h1, h2⟩
      rcases Nat.lt_or_ge j k with h | h
      · exact .inl ⟨j, h, h2⟩
      · have : j = k := by omega
        subst this; exact .inr h2
theorem found_all (p : Int × Int) : foundTo t p t.length = decide (p ∈ t) := by
  by_cases h : p ∈ t
  · rw [decide_eq_true h, found_iff]; exact mem_getD.2 h
  · rw [decide_eq_false h]
    cases hf : foundTo t p t.length
    · rfl
    · exact absurd (mem_getD.1 ((found_iff p _).1 hf)) h
theorem notes_eq (h : TuneD t) (x : Int) : notesAt t x = pickTo (atTime x) t t.length := if_pos h.ok
theorem pick_mem (x : Int) {q : Int} : ∀ n, q ∈ pickTo (atTime x) t n → ∃ j, j < n ∧ t.getD j (0, 0) = (x, q)
  | 0, h => by simp [pickTo] at h
  | n + 1, h => by
    simp only [pickTo, List.mem_append] at h
    rcases h with h | h
    · obtain ⟨j, h1, h2⟩ := pick_mem x n h
      exact ⟨j, by omega, h2⟩
    · unfold atTime at h
      split at h
      · rename_i hx
        simp at h
        exact ⟨n, by omega, Prod.ext hx h.symm⟩
      · simp at h
theorem pick_up (hs : SI t) (x : Int) : ∀ n, n ≤ t.length → (pickTo (atTime x) t n).Pairwise (· < ·)
  | 0, _ => by simp [pickTo]
  | n + 1, hn => by
    have ih := pick_up hs x n (by omega)
    simp only [pickTo]
    refine List.pairwise_append.2 ⟨ih, ?_, fun p hp q hq => ?_⟩
    · unfold atTime; split <;> simp
    · obtain ⟨j, h1, h2⟩ := pick_mem x n hp
      unfold atTime at hq
      split at hq
      · rename_i hx
        simp at hq
        subst hq
        have := List.pairwise_iff_getElem.1 hs j n (by omega) (by omega) h1
        rw [← getD_get (show j < t.length by omega), ← getD_get (show n < t.length by omega), h2] at this
        have h3 : x < (t.getD n (0, 0)).1 ∨ x = (t.getD n (0, 0)).1 ∧ p < (t.getD n (0, 0)).2 := this
        rcases h3 with h | h
        · rw [hx] at h; exact absurd h (Int.lt_irrefl _)
        · exact h.2
      · simp at hq
theorem notes_up (h : TuneD t) (x : Int) {k : Nat} (h0 : 0 < k) (hk : k < (notesAt t x).length) {u v : Int} (e1 : Hid ((notesAt t x).getD k 0 = u)) (e2 : Hid ((notesAt t x).getD (k - 1) 0 = v)) : v < u := by
  have hp : (notesAt t x).Pairwise (· < ·) := by rw [notes_eq h]; exact pick_up h.si x _ (Nat.le_refl _)
  have := List.pairwise_iff_getElem.1 hp (k - 1) k (by omega) hk (by omega)
  rw [← e1.out, ← e2.out, List.getD_eq_getElem?_getD, List.getD_eq_getElem?_getD, List.getElem?_eq_getElem hk, List.getElem?_eq_getElem (by omega)]
  exact this
/-- How many of the first n notes lie at the times below K. -/
def sumTo (t : List (Int × Int)) (n : Nat) : Nat → Nat
  | 0 => 0
  | K + 1 => sumTo t n K + (pickTo (atTime (K : Int)) t n).length
theorem sum_none : ∀ K, sumTo t 0 K = 0
  | 0 => rfl
  | K + 1 => by simp [sumTo, sum_none K, pickTo]
theorem sum_next (n : Nat) (h : 0 ≤ (t.getD n (0, 0)).1) : ∀ K : Nat, sumTo t (n + 1) K = sumTo t n K + (if (t.getD n (0, 0)).1 < (K : Int) then 1 else 0)
  | 0 => by
    rw [if_neg (by omega)]; rfl
  | K + 1 => by
    have ih := sum_next n h K
    have e : (pickTo (atTime (K : Int)) t (n + 1)).length = (pickTo (atTime (K : Int)) t n).length + (if (t.getD n (0, 0)).1 = (K : Int) then 1 else 0) := by
      simp only [pickTo, List.length_append]
      unfold atTime
      split <;> simp
    show sumTo t (n + 1) K + _ = sumTo t n K + _ + _
    rw [ih, e]
    split <;> split <;> split <;> omega
theorem sum_all (h : TuneD t) : ∀ n, n ≤ t.length → sumTo t n 17 = n
  | 0, _ => sum_none 17
  | n + 1, hn => by
    have := h.mem _ (mem_getD.1 ⟨n, (by omega : n < t.length), rfl⟩)
    rw [sum_next n this.1.1, sum_all h n (by omega), if_pos (by omega)]
theorem sum_step (h : TuneD t) (K : Nat) : sumTo t t.length (K + 1) = sumTo t t.length K + (notesAt t (K : Int)).length := by rw [notes_eq h]; rfl
theorem sum_mono (n : Nat) : ∀ j K, sumTo t n K ≤ sumTo t n (K + j)
  | 0, _ => Nat.le_refl _
  | j + 1, K => Nat.le_trans (sum_mono n j K) (Nat.le_add_right _ _)
theorem sum_le (h : TuneD t) {K : Nat} (hK : K ≤ 17) : sumTo t t.length K ≤ t.length := by
  have := sum_mono (t := t) t.length (17 - K) K
  rw [show K + (17 - K) = 17 by omega, sum_all h _ (Nat.le_refl _)] at this
  exact this
theorem lasts_eq (h : TuneD t) (h0 : ¬ t.length = 0) : lastsM t = (t.getD (t.length - 1) (0, 0)).1 - (t.getD 0 (0, 0)).1 := by
  unfold lastsM
  rw [if_pos h.ok, if_neg h0]
theorem low_none (h0 : t.length = 0) : lowM t = -1 := if_neg (fun hh => by omega)
theorem low_some (h : TuneD t) (h0 : ¬ t.length = 0) : 10 ≤ lowM t := by
  obtain ⟨⟨p, p1, p2⟩, _⟩ := range_facts h h0
  have := h.mem p p1
  omega
end
end Go.Proofs.Ytakllloangpimaa
