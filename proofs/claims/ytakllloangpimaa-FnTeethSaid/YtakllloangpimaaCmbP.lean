/- The plain laws behind FnCombs: the best move misses the fewest, the teeth of all pitches are all teeth, a comb made for a tune plays it. -/
import Derived.Test.YtakllloangpimaaChgP
import Derived.Test.YtakllloangpimaaBest
import Derived.Test.YtakllloangpimaaCombFor
namespace Go.Proofs.Ytakllloangpimaa
open Go.RowKit
set_option linter.unusedVariables false
section
variable {c : List Int} {t : List (Int × Int)} {n b : Int} {M : Nat}
theorem up_zero (h : TuneD t) : upOk t 0 = true ∧ upL t 0 = t := by
  obtain ⟨e1, e2, _, _⟩ := moved_map (f := fun p : Int × Int => (p.1, p.2 + 0)) (b := inR 0 (-60) 60) h (by decide) (fun p q hpq => by simpa using hpq) (fun p hp => by have := h.mem p hp; simp only; omega)
  refine ⟨e2, e1.trans ?_⟩
  simp
theorem mv_range (k : Nat) (hk : k < 24) : -12 ≤ mv k ∧ mv k ≤ 12 := by
  unfold mv
  split <;> omega
theorem mv_all {d : Int} (h0 : -12 ≤ d) (h1 : d ≤ 12) : d = 0 ∨ ∃ k, k < 24 ∧ mv k = d := by
  by_cases hz : d = 0
  · exact .inl hz
  refine .inr ?_
  by_cases hp : 0 < d
  · refine ⟨2 * (d.toNat - 1), by omega, ?_⟩
    rw [mv_even]; omega
  · refine ⟨2 * ((-d).toNat - 1) + 1, by omega, ?_⟩
    rw [mv_odd]; omega
theorem better_le (r : Int × Nat) : (better c t n r).2 ≤ r.2 := by
  unfold better
  split
  · rename_i h; exact Nat.le_of_lt h.2
  · exact Nat.le_refl _
theorem best_mono (k : Nat) : ∀ j, (bestTo c t (k + j)).2 ≤ (bestTo c t k).2
  | 0 => Nat.le_refl _
  | j + 1 => Nat.le_trans (better_le _) (best_mono k j)
theorem best_inv (h : TuneD t) : ∀ k, k ≤ 24 → upOk t (bestTo c t k).1 = true ∧ (missing c (upL t (bestTo c t k).1)).length = (bestTo c t k).2 ∧ -12 ≤ (bestTo c t k).1 ∧ (bestTo c t k).1 ≤ 12
  | 0, _ => by
    obtain ⟨h1, h2⟩ := up_zero h
    exact ⟨h1, by show (missing c (upL t 0)).length = _; rw [h2]; rfl, by show (-12 : Int) ≤ 0; decide, by show (0 : Int) ≤ 12; decide⟩
  | k + 1, hk => by
    have ih := best_inv h k (by omega)
    show upOk t (better c t (mv k) (bestTo c t k)).1 = true ∧ (missing c (upL t (better c t (mv k) (bestTo c t k)).1)).length = (better c t (mv k) (bestTo c t k)).2 ∧ _ ≤ (better c t (mv k) (bestTo c t k)).1 ∧ (better c t (mv k) (bestTo c t k)).1 ≤ _
    unfold better
    split
    · rename_i hh
      exact ⟨hh.1, rfl, (mv_range k (by omega)).1, (mv_range k (by omega)).2⟩
    · exact ih
theorem best_least (h : TuneD t) {d : Int} (h0 : -12 ≤ d) (h1 : d ≤ 12) (hu : upOk t d = true) : (bestTo c t 24).2 ≤ (missing c (upL t d)).length := by
  rcases mv_all h0 h1 with rfl | ⟨k, hk, rfl⟩
  · rw [(up_zero h).2]
    have := best_mono (c := c) (t := t) 0 24
    exact this
  · have e : (bestTo c t (k + 1)).2 ≤ (missing c (upL t (mv k))).length := by
      show (better c t (mv k) (bestTo c t k)).2 ≤ _
      unfold better
      split
      · exact Nat.le_refl _
      · rename_i hh
        exact Nat.le_of_not_lt fun hl => hh ⟨hu, hl⟩
    have := best_mono (c := c) (t := t) (k + 1) (24 - (k + 1))
    rw [show k + 1 + (24 - (k + 1)) = 24 by omega] at this
    exact Nat.le_trans this e
/-- What the best move is, in its parts. -/
theorem best_parts (hc : combOk c = true) (h : TuneD t) : ∃ (b : Int) (N : Nat), bestBy c t = b ∧ bestN c t = (N : Int) ∧ (-12 ≤ b ∧ b ≤ 12) ∧ N ≤ (missing c t).length ∧ upOk t b = true ∧ (missing c (upL t b)).length = N ∧ ∀ d, -12 ≤ d → d ≤ 12 → upOk t d = true → N ≤ (missing c (upL t d)).length := by
  obtain ⟨e1, e2⟩ := best_yes (comb := c) (t := t) ⟨hc, h.ok⟩ (b := (bestTo c t 24).1) (n := (bestTo c t 24).2) rfl
  obtain ⟨i1, i2, i3, i4⟩ := best_inv (c := c) h 24 (Nat.le_refl _)
  refine ⟨_, _, e1, e2, ⟨i3, i4⟩, best_mono 0 24, i1, i2, fun d h0 h1 hu => best_least h h0 h1 hu⟩
/-! ## The teeth -/
/-- How many of the first n teeth have a pitch below K. -/
def teethTo (l : List Int) (n : Nat) : Nat → Nat
  | 0 => 0
  | K + 1 => teethTo l n K + (placesTo l (K : Int) n).length
theorem teeth_zero (l : List Int) : ∀ K, teethTo l 0 K = 0
  | 0 => rfl
  | K + 1 => by simp [teethTo, teeth_zero l K, placesTo]
theorem teeth_next {l : List Int} (n : Nat) (h : 0 ≤ l.getD n 0) : ∀ K : Nat, teethTo l (n + 1) K = teethTo l n K + (if l.getD n 0 < (K : Int) then 1 else 0)
  | 0 => by rw [if_neg (by omega)]; rfl
  | K + 1 => by
    have ih := teeth_next n h K
    have e : (placesTo l (K : Int) (n + 1)).length = (placesTo l (K : Int) n).length + (if l.getD n 0 = (K : Int) then 1 else 0) := by
      by_cases hk : l.getD n 0 = (K : Int)
      · rw [placesTo_yes hk, if_pos hk, List.length_append]; rfl
      · rw [placesTo_no hk, if_neg hk]; rfl
    show teethTo l (n + 1) K + _ = teethTo l n K + _ + _
    rw [ih, e]
    split <;> split <;> split <;> omega
theorem comb_mem (hc : combOk c = true) {k : Nat} (hk : k < c.length) : 0 ≤ c.getD k 0 ∧ c.getD k 0 ≤ 60 := by
  unfold combOk at hc
  simp only [Bool.and_eq_true, List.all_eq_true, List.mem_range] at hc
  have := hc.2 k hk
  unfold combAt at this
  simp only [Bool.and_eq_true] at this
  exact inR_true this.1
theorem teeth_all (hc : combOk c = true) : ∀ n, n ≤ c.length → teethTo c n 61 = n
  | 0, _ => teeth_zero c 61
  | n + 1, hn => by
    obtain ⟨h1, h2⟩ := comb_mem hc (show n < c.length by omega)
    rw [teeth_next n h1, teeth_all hc n (by omega), if_pos (by omega)]
theorem teeth_step (hc : combOk c = true) (K : Nat) : teethTo c c.length (K + 1) = teethTo c c.length K + (teethOf c (K : Int)).length := by
  have : teethOf c (K : Int) = placesTo c (K : Int) c.length := if_pos hc
  rw [this]; rfl
theorem teeth_mono (l : List Int) (n : Nat) : ∀ j K, teethTo l n K ≤ teethTo l n (K + j)
  | 0, _ => Nat.le_refl _
  | j + 1, K => Nat.le_trans (teeth_mono l n j K) (Nat.le_add_right _ _)
theorem teeth_le (hc : combOk c = true) {K : Nat} (hK : K ≤ 61) : teethTo c c.length K ≤ c.length := by
  have := teeth_mono c c.length (61 - K) K
  rw [show K + (61 - K) = 61 by omega, teeth_all hc _ (Nat.le_refl _)] at this
  exact this
/-! ## What is missing -/
theorem used_iff (p : Int) : ∀ n, usedTo t p n = true ↔ ∃ j, j < n ∧ (t.getD j (0, 0)).2 = p
  | 0 => by simp [usedTo]
  | n + 1 => by
    unfold usedTo
    rw [Bool.or_eq_true, decide_eq_true_eq, used_iff p n]
    constructor
    · rintro (⟨j, h1, h2⟩ | h)
      · exact ⟨j, by omega, h2⟩
      · exact ⟨n, by omega, h⟩
    · rintro ⟨j, h1, h2⟩
      rcases Nat.lt_or_ge j n with h | h
      · exact .inl ⟨j, h, h2⟩
      · have : j = n := by omega
        subst this; exact .inr h2
theorem mem_listTo {f : Int → Bool} {x : Int} : ∀ n, x ∈ listTo f n ↔ (0 ≤ x ∧ x < (n : Int)) ∧ f x = true
  | 0 => by simp [listTo]; omega
  | n + 1 => by
    have ih := mem_listTo (f := f) (x := x) n
    simp only [listTo, List.mem_append]
    rw [ih]
    constructor
    · rintro (⟨h1, h2⟩ | h)
      · exact ⟨by omega, h2⟩
      · split at h
        · rename_i hf
          rw [List.mem_singleton] at h
          subst h; exact ⟨by omega, hf⟩
        · cases h
    · rintro ⟨h1, h2⟩
      by_cases hx : x < (n : Int)
      · exact .inl ⟨by omega, h2⟩
      · have : x = (n : Int) := by omega
        subst this
        rw [if_pos h2]; exact .inr (List.mem_singleton.2 rfl)
theorem miss_has (hc : combOk c = true) (h : TuneD t) {k : Nat} (hk : k < t.length) {x y : Int} (e : Hid (t.getD k (0, 0) = (x, y))) : decide (y ∈ missing c t) = !hasP c y := by
  have hm := h.mem (x, y) (by rw [← e.out]; exact mem_getD.1 ⟨k, hk, rfl⟩)
  have hu : usedTo t y t.length = true := (used_iff y _).2 ⟨k, hk, by rw [e.out]⟩
  have hmm : missing c t = listTo (missAt c t) 61 := if_pos ⟨hc, h.ok⟩
  rw [hmm]
  cases hp : hasP c y
  · refine decide_eq_true ((mem_listTo 61).2 ⟨by simp only at hm; omega, ?_⟩)
    unfold missAt; rw [hu, hp]; rfl
  · refine decide_eq_false fun hh => ?_
    have := ((mem_listTo 61).1 hh).2
    unfold missAt at this
    rw [hu, hp] at this
    cases this
/-! ## The comb made for a tune -/
theorem listTo_up {f : Int → Bool} : ∀ n, (listTo f n).Pairwise (· < ·)
  | 0 => by simp [listTo]
  | n + 1 => by
    simp only [listTo]
    refine List.pairwise_append.2 ⟨listTo_up n, by split <;> simp, fun a ha b hb => ?_⟩
    have h1 := ((mem_listTo n).1 ha).1
    split at hb
    · rw [List.mem_singleton] at hb; omega
    · cases hb
theorem up_count {l : List Int} (h : l.Pairwise (· < ·)) : ∀ {a b : Int}, (∀ x, x ∈ l → a ≤ x ∧ x ≤ b) → (l.length : Int) ≤ max 0 (b - a + 1) := by
  induction l with
  | nil => intro a b _; simp; omega
  | cons y l ih =>
    intro a b hm
    obtain ⟨h1, h2⟩ := List.pairwise_cons.1 h
    have hy := hm y (List.mem_cons_self ..)
    have := ih h2 (a := y + 1) (b := b) fun x hx => ⟨by have := h1 x hx; omega, (hm x (List.mem_cons_of_mem _ hx)).2⟩
    rw [List.length_cons]
    omega
theorem comb_one (h : TuneD t) : (∀ x, x ∈ combL [t] ↔ (0 ≤ x ∧ x < 61) ∧ usedTo t x t.length = true) ∧ (combL [t]).Pairwise (· < ·) := by
  refine ⟨fun x => ?_, listTo_up 61⟩
  unfold combL
  rw [mem_listTo]
  show _ ∧ (usedAll [t] x 0 || usedTo t x t.length) = true ↔ _
  rw [show usedAll [t] x 0 = false from rfl, Bool.false_or]
  exact Iff.rfl
theorem combOk_of {l : List Int} (h0 : 1 ≤ l.length) (h24 : l.length ≤ 24) (hp : l.Pairwise (· ≤ ·)) (hm : ∀ x, x ∈ l → 0 ≤ x ∧ x ≤ 60) : combOk l = true := by
  rw [combOk_all (Nat.le_refl _) (h := Lib.hid fun j hj => ?_)]
  · exact decide_eq_true ⟨h0, h24⟩
  unfold combAt
  have e1 : l.getD j 0 = l[j] := by rw [List.getD_eq_getElem?_getD, List.getElem?_eq_getElem hj]; rfl
  obtain ⟨a1, a2⟩ := hm l[j] (List.getElem_mem hj)
  rw [e1, inR_of a1 a2]
  rcases Nat.eq_zero_or_pos j with e | e
  · simp [e]
  · have h1 := List.pairwise_iff_getElem.1 hp (j - 1) j (by omega) hj (by omega)
    have e2 : l.getD (j - 1) 0 = l[j - 1] := by rw [List.getD_eq_getElem?_getD, List.getElem?_eq_getElem (show j - 1 < l.length by omega)]; rfl
    simp only [Bool.true_and, Bool.or_eq_true, beq_iff_eq, decide_eq_true_eq]
    exact .inr (by rw [e2]; exact h1)
theorem comb_range (h : TuneD t) {x : Int} (hx : x ∈ combL [t]) : 10 ≤ x ∧ x ≤ 19 := by
  obtain ⟨_, hu⟩ := ((comb_one h).1 x).1 hx
  obtain ⟨j, h1, h2⟩ := (used_iff x _).1 hu
  have := h.mem _ (mem_getD.1 ⟨j, h1, rfl⟩)
  rw [h2] at this
  exact this.2
theorem combFor_some (h : TuneD t) (h0 : ¬ t.length = 0) : combForOk [t] = true ∧ combOk (combL [t]) = true := by
  have hl := up_count (comb_one h).2 (a := 10) (b := 19) fun x hx => comb_range h hx
  have hne : 1 ≤ (combL [t]).length := by
    have hm := h.mem _ (mem_getD.1 ⟨0, (by omega : 0 < t.length), rfl⟩)
    have : (t.getD 0 (0, 0)).2 ∈ combL [t] := ((comb_one h).1 _).2 ⟨by omega, (used_iff _ _).2 ⟨0, by omega, rfl⟩⟩
    cases hh : combL [t] with
    | nil => rw [hh] at this; cases this
    | cons _ _ => simp
  have hk : combOk (combL [t]) = true := combOk_of hne (by omega) ((comb_one h).2.imp fun hab => by omega) fun x hx => by have := comb_range h hx; omega
  exact ⟨tunesOk_yes (Lib.hid fun j hj => by
    have : j = 0 := by simpa using hj
    subst this; exact h.ok) hk, hk⟩
theorem combFor_none (h : TuneD t) (h0 : t.length = 0) : combForOk [t] = false := by
  have : t = [] := List.eq_nil_of_length_eq_zero h0
  subst this
  decide
theorem hasP_mem {l : List Int} {p : Int} (h : p ∈ l) : hasP l p = true := by
  obtain ⟨k, hk, e⟩ := List.getElem_of_mem h
  exact hasP_yes hk (x := l[k]) (Lib.hid (by rw [List.getD_eq_getElem?_getD, List.getElem?_eq_getElem hk]; rfl)) e
theorem play_made (h : TuneD t) (h0 : ¬ t.length = 0) : canPlay (combL [t]) t = true := by
  have hk := (combFor_some h h0).2
  have hm : missing (combL [t]) t = [] := by
    rw [show missing (combL [t]) t = listTo (missAt (combL [t]) t) 61 from if_pos ⟨hk, h.ok⟩]
    refine List.eq_nil_iff_forall_not_mem.2 fun x hx => ?_
    obtain ⟨h1, h2⟩ := (mem_listTo 61).1 hx
    unfold missAt at h2
    rw [Bool.and_eq_true] at h2
    have := hasP_mem (((comb_one h).1 x).2 ⟨h1, h2.1⟩)
    rw [this] at h2
    exact Bool.false_ne_true h2.2
  unfold canPlay
  rw [hk, h.ok, hm]; rfl
theorem canPlay_eq (hc : combOk c = true) (h : TuneD t) : canPlay c t = (missing c t).isEmpty := by
  unfold canPlay
  rw [hc, h.ok]; rfl
end
end Go.Proofs.Ytakllloangpimaa
