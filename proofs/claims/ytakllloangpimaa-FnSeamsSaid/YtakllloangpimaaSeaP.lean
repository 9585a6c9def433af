/- The plain laws behind FnSeams: ways around a circle, turning, what is too close, the quiet angle. -/
import Derived.Test.YtakllloangpimaaPinP
import Derived.Test.YtakllloangpimaaSeam
import Derived.Test.YtakllloangpimaaQuiet
import Derived.Test.YtakllloangpimaaNeedA
namespace Go.Proofs.Ytakllloangpimaa
open Go.RowKit
set_option linter.unusedVariables false
/-! ## Counting pairs -/
section
variable {α : Type} {β : Type}
/-- How many pairs (the earlier one, the later one) are so. -/
def pc (R : α → α → Bool) : List α → Nat
  | [] => 0
  | x :: l => (l.filter (R x)).length + pc R l
theorem pc_perm {R : α → α → Bool} (hs : ∀ x y, R x y = R y x) {l m : List α} (h : l.Perm m) : pc R l = pc R m := by
  induction h with
  | nil => rfl
  | cons x h ih => simp only [pc]; rw [ih, (h.filter (R x)).length_eq]
  | swap x y l =>
    simp only [pc, List.filter_cons]
    rw [hs y x]
    cases R x y <;> simp <;> omega
  | trans _ _ h1 h2 => exact h1.trans h2
theorem pc_map {f : α → β} {R : β → β → Bool} {S : α → α → Bool} : ∀ {l : List α}, (∀ x, x ∈ l → ∀ y, y ∈ l → R (f x) (f y) = S x y) → pc R (l.map f) = pc S l
  | [], _ => rfl
  | x :: l, h => by
    simp only [List.map_cons, pc]
    rw [pc_map (l := l) fun a ha b hb => h a (List.mem_cons_of_mem _ ha) b (List.mem_cons_of_mem _ hb), List.filter_map, List.length_map]
    congr 2
    exact List.filter_congr fun y hy => h x (List.mem_cons_self ..) y (List.mem_cons_of_mem _ hy)
theorem pc_zero {R : α → α → Bool} : ∀ {l : List α}, pc R l = 0 ↔ l.Pairwise fun p q => R p q = false
  | [] => by simp [pc]
  | x :: l => by
    simp only [pc, List.pairwise_cons, Nat.add_eq_zero_iff, pc_zero (l := l), List.length_eq_zero_iff, List.filter_eq_nil_iff]
    refine and_congr ⟨fun h a ha => by have := h a ha; cases hh : R x a; rfl; exact absurd hh this, fun h a ha => by rw [h a ha]; exact Bool.false_ne_true⟩ Iff.rfl
/-- The pairs whose earlier one is among the first k. -/
def pcTo (R : α → α → Bool) (l : List α) : Nat → Nat
  | 0 => 0
  | k + 1 => pcTo R l k + (((l.drop k).head?.map fun x => ((l.drop (k + 1)).filter (R x)).length).getD 0)
theorem pcTo_cons (R : α → α → Bool) (x : α) (l : List α) : ∀ k, pcTo R (x :: l) (k + 1) = (l.filter (R x)).length + pcTo R l k
  | 0 => by simp [pcTo]
  | k + 1 => by
    show pcTo R (x :: l) (k + 1) + _ = _ + (pcTo R l k + _)
    rw [pcTo_cons R x l k]
    simp only [List.drop_succ_cons]
    omega
theorem pcTo_all (R : α → α → Bool) : ∀ l : List α, pcTo R l l.length = pc R l
  | [] => rfl
  | x :: l => by rw [List.length_cons, pcTo_cons, pcTo_all R l]; rfl
end
/-! ## Gaps -/
theorem gap_symm (a b s : Int) : gapM a b s = gapM b a s := by
  unfold gapM
  have e : magM (a - b) = magM (b - a) := by unfold magM; split <;> split <;> omega
  by_cases h : 1 ≤ s ∧ s ≤ 1000 ∧ 0 ≤ a ∧ a ≤ s - 1 ∧ 0 ≤ b ∧ b ≤ s - 1
  · rw [if_pos h, if_pos (by omega), e]
  · rw [if_neg h, if_neg (by omega)]
theorem gap_turn {a b s x : Int} (hs : 1 ≤ s ∧ s ≤ 1000) (ha : 0 ≤ a ∧ a ≤ s - 1) (hb : 0 ≤ b ∧ b ≤ s - 1) : gapM ((a + x) % s) ((b + x) % s) s = gapM a b s := by
  have u1 := Int.emod_nonneg (a + x) (show s ≠ 0 by omega)
  have u2 := Int.emod_lt_of_pos (a + x) (show 0 < s by omega)
  have v1 := Int.emod_nonneg (b + x) (show s ≠ 0 by omega)
  have v2 := Int.emod_lt_of_pos (b + x) (show 0 < s by omega)
  have e1 := Int.emod_add_mul_ediv (a + x) s
  have e2 := Int.emod_add_mul_ediv (b + x) s
  generalize (a + x) % s = u at *
  generalize (b + x) % s = v at *
  generalize (a + x) / s = q at *
  generalize (b + x) / s = p at *
  have hk : s * (q - p) = (a - b) - (u - v) := by rw [Int.mul_sub]; omega
  rw [gapM_eq (by omega), gapM_eq (by omega)]
  have hc : q - p = -1 ∨ q - p = 0 ∨ q - p = 1 := by
    rcases Int.lt_trichotomy (q - p) 0 with h | h | h
    · by_cases h1 : q - p = -1
      · exact .inl h1
      · have : s * (q - p) ≤ s * (-2) := Int.mul_le_mul_of_nonneg_left (by omega) (by omega)
        omega
    · exact .inr (.inl h)
    · by_cases h1 : q - p = 1
      · exact .inr (.inr h1)
      · have : s * 2 ≤ s * (q - p) := Int.mul_le_mul_of_nonneg_left (by omega) (by omega)
        omega
  unfold magM
  rcases hc with h | h | h <;> rw [h] at hk <;> split <;> split <;> omega
section
variable {s t r x : Int} {l : List (Int × Int)}
/-- Two pins of one track stand closer than r. -/
def nearB (s r : Int) (p q : Int × Int) : Bool := decide (p.1 = q.1 ∧ gapM p.2 q.2 s < r)
theorem near_symm (s r : Int) (p q : Int × Int) : nearB s r p q = nearB s r q p := by
  unfold nearB
  rw [gap_symm p.2 q.2]
  by_cases h : p.1 = q.1 ∧ gapM q.2 p.2 s < r
  · rw [decide_eq_true h, decide_eq_true ⟨h.1.symm, h.2⟩]
  · rw [decide_eq_false h, decide_eq_false (fun hh => h ⟨hh.1.symm, hh.2⟩)]
theorem near_turn (h : cylOk s t l = true) (b : Int) {p q : Int × Int} (hp : p ∈ l) (hq : q ∈ l) : nearB s r (turnP s b p) (turnP s b q) = nearB s r p q := by
  have h1 := cylOk_mem h hp
  have h2 := cylOk_mem h hq
  obtain ⟨hs, _, _, _⟩ := cylOk_parts h
  unfold nearB
  rw [turnP_eq, turnP_eq]
  simp only
  rw [gap_turn (by omega) h1.2 h2.2]
theorem near_turned (h : cylOk s t l = true) {b : Int} (hb : inR b (-1000000) 1000000 = true) : pc (nearB s r) (turnL s t l b) = pc (nearB s r) l := by
  rw [pc_perm (near_symm s r) (turn_perm h hb)]
  exact pc_map fun p hp q hq => near_turn h b hp hq
/-! ## TooClose -/
theorem tooIn_len (i : Nat) (out : List (Int × Int)) : ∀ k, i + 1 + k ≤ l.length → (tooIn s r l i out k).length = out.length + ((((l.drop (i + 1)).take k)).filter (nearB s r (l.getD i (0, 0)))).length
  | 0, _ => by simp [tooIn, runN]
  | k + 1, hk => by
    have ih := tooIn_len i out k (by omega)
    have hlt : k < (l.drop (i + 1)).length := by rw [List.length_drop]; omega
    have hget : (l.drop (i + 1))[k] = l.getD (i + 1 + k) (0, 0) := by
      rw [List.getElem_drop, List.getD_eq_getElem?_getD, List.getElem?_eq_getElem (by omega)]; rfl
    show (tooIf s r l i (i + 1 + k) (tooIn s r l i out k)).length = _
    rw [List.take_succ_eq_append_getElem hlt, List.filter_append, List.length_append, hget]
    unfold tooIf
    by_cases hc : (l.getD i (0, 0)).1 = (l.getD (i + 1 + k) (0, 0)).1 ∧ gapM (l.getD i (0, 0)).2 (l.getD (i + 1 + k) (0, 0)).2 s < r
    · have hn : nearB s r (l.getD i (0, 0)) (l.getD (i + 1 + k) (0, 0)) = true := decide_eq_true hc
      rw [if_pos hc, List.length_append, ih, List.filter_cons, hn]
      simp; omega
    · have hn : nearB s r (l.getD i (0, 0)) (l.getD (i + 1 + k) (0, 0)) = false := decide_eq_false hc
      rw [if_neg hc, ih, List.filter_cons, hn]
      simp
theorem tooOut_len : ∀ k, k ≤ l.length → (tooOut s r l k).length = pcTo (nearB s r) l k
  | 0, _ => rfl
  | k + 1, hk => by
    rw [← tooOut_next, tooIn_len k _ _ (by omega), tooOut_len k (by omega)]
    show _ = pcTo (nearB s r) l k + _
    have hd : l.drop k = l[k] :: l.drop (k + 1) := List.drop_eq_getElem_cons (by omega)
    rw [hd, List.head?_cons, Option.map_some, Option.getD_some, List.take_of_length_le (by rw [List.length_drop]; omega), getD_at (show k < l.length by omega)]
theorem too_len (h : cylOk s t l = true) (hr : inR r 1 96 = true) : (tooM s t l r).length = pc (nearB s r) l := by
  rw [too_yes h hr, tooOut_len _ (Nat.le_refl _), pcTo_all]
/-- Each pair that is told is near. -/
def AllNear (s r : Int) (l out : List (Int × Int)) : Prop := ∀ k, k < out.length → ∃ i j : Nat, out.getD k (0, 0) = ((i : Int), (j : Int)) ∧ i < j ∧ j < l.length ∧ nearB s r (l.getD i (0, 0)) (l.getD j (0, 0)) = true
theorem AllNear.snoc {out : List (Int × Int)} {i j : Nat} (h : AllNear s r l out) (h1 : i < j) (h2 : j < l.length) (h3 : nearB s r (l.getD i (0, 0)) (l.getD j (0, 0)) = true) : AllNear s r l (out ++ [((i : Int), (j : Int))]) := by
  intro k hk
  rcases Nat.lt_or_ge k out.length with hlt | hge
  · obtain ⟨a, b, e, h4⟩ := h k hlt
    exact ⟨a, b, by rw [List.getD_eq_getElem?_getD, List.getElem?_append_left hlt, ← List.getD_eq_getElem?_getD]; exact e, h4⟩
  · have : k = out.length := by simp at hk; omega
    exact ⟨i, j, by rw [this, List.getD_eq_getElem?_getD]; simp, h1, h2, h3⟩
theorem tooIn_near {i : Nat} {out : List (Int × Int)} (h : AllNear s r l out) : ∀ k, i + 1 + k ≤ l.length → AllNear s r l (tooIn s r l i out k)
  | 0, _ => h
  | k + 1, hk => by
    have ih := tooIn_near (i := i) h k (by omega)
    show AllNear s r l (tooIf s r l i (i + 1 + k) (tooIn s r l i out k))
    unfold tooIf
    split
    · rename_i hc
      exact ih.snoc (by omega) (by omega) (decide_eq_true hc)
    · exact ih
theorem tooOut_near : ∀ k, k ≤ l.length → AllNear s r l (tooOut s r l k)
  | 0, _ => fun k hk => absurd hk (by simp [tooOut, runN])
  | k + 1, hk => by
    rw [← tooOut_next]
    exact tooIn_near (tooOut_near k (by omega)) _ (by omega)
theorem too_near : AllNear s r l (tooM s t l r) := by
  unfold tooM
  split
  · exact tooOut_near _ (Nat.le_refl _)
  · intro k hk; simp at hk
/-! ## ClosestPins -/
theorem gapIf_ge {p q : Int × Int} {b : Int} : x ≤ gapIf s p q b ↔ x ≤ b ∧ nearB s x p q = false := by
  unfold gapIf nearB
  rw [decide_eq_false_iff_not]
  split
  · rename_i h
    constructor
    · intro hh; exact ⟨by omega, fun hc => by omega⟩
    · rintro ⟨h1, h2⟩
      have : ¬ gapM p.2 q.2 s < x := fun hc => h2 ⟨h, hc⟩
      omega
  · rename_i h
    exact ⟨fun hh => ⟨hh, fun hc => h hc.1⟩, fun hh => hh.1⟩
theorem closeIn_ge (i : Nat) (b : Int) : ∀ k, x ≤ closeIn s l i b k ↔ x ≤ b ∧ ∀ j, j < k → nearB s x (l.getD i (0, 0)) (l.getD j (0, 0)) = false
  | 0 => ⟨fun h => ⟨h, fun j hj => by omega⟩, fun h => h.1⟩
  | k + 1 => by
    have ih := closeIn_ge i b k
    show x ≤ gapIf s (l.getD i (0, 0)) (l.getD k (0, 0)) (closeIn s l i b k) ↔ _
    rw [gapIf_ge, ih]
    constructor
    · rintro ⟨⟨h1, h2⟩, h3⟩
      exact ⟨h1, fun j hj => by
        by_cases hjk : j = k
        · subst hjk; exact h3
        · exact h2 j (by omega)⟩
    · rintro ⟨h1, h2⟩
      exact ⟨⟨h1, fun j hj => h2 j (by omega)⟩, h2 k (by omega)⟩
theorem closeOut_ge : ∀ k, x ≤ closeOut s l k ↔ x ≤ s ∧ ∀ i j, j < i → i < k → nearB s x (l.getD i (0, 0)) (l.getD j (0, 0)) = false
  | 0 => ⟨fun h => ⟨h, fun i j _ hi => by omega⟩, fun h => h.1⟩
  | k + 1 => by
    have ih := closeOut_ge k
    rw [← closeOut_next, closeIn_ge, ih]
    constructor
    · rintro ⟨⟨h1, h2⟩, h3⟩
      exact ⟨h1, fun i j hj hi => by
        by_cases hik : i = k
        · subst hik; exact h3 j hj
        · exact h2 i j hj (by omega)⟩
    · rintro ⟨h1, h2⟩
      exact ⟨⟨h1, fun i j hj hi => h2 i j hj (by omega)⟩, fun j hj => h2 k j hj (by omega)⟩
theorem close_ge (h : cylOk s t l = true) : x ≤ closestM s t l ↔ x ≤ s ∧ pc (nearB s x) l = 0 := by
  rw [closest_yes h, closeOut_ge, pc_zero]
  refine and_congr Iff.rfl ⟨fun hh => List.pairwise_iff_getElem.2 fun i j hi hj hij => ?_, fun hh i j hj hi => ?_⟩
  · have := hh j i hij hj
    rw [near_symm, getD_at hi, getD_at hj] at this
    exact this
  · have := List.pairwise_iff_getElem.1 hh j i (by omega) hi hj
    rw [near_symm, getD_at hi, getD_at (show j < l.length by omega)]
    exact this
theorem close_turned (h : cylOk s t l = true) {b : Int} (hb : inR b (-1000000) 1000000 = true) : closestM s t (turnL s t l b) = closestM s t l := by
  have key : ∀ x, x ≤ closestM s t (turnL s t l b) ↔ x ≤ closestM s t l := fun x => by
    rw [close_ge (turn_ok h hb), close_ge h, near_turned h hb]
  have h1 := (key (closestM s t (turnL s t l b))).1 (Int.le_refl _)
  have h2 := (key (closestM s t l)).2 (Int.le_refl _)
  omega
theorem near_pos (h : cylOk s t l = true) : pc (nearB s 1) l = 0 := by
  obtain ⟨hs, _, _, _⟩ := cylOk_parts h
  rw [pc_zero]
  refine List.pairwise_iff_getElem.2 fun i j hi hj hij => ?_
  have h1 := cylOk_mem h (List.getElem_mem hi)
  have h2 := cylOk_mem h (List.getElem_mem hj)
  have h3 := (cylOk_sp h).at hij hj
  rw [getD_at hi, getD_at hj] at h3
  have h4 : l[i].2 < l[j].2 ∨ l[i].2 = l[j].2 ∧ l[i].1 < l[j].1 := h3
  unfold nearB
  refine decide_eq_false fun ⟨e1, e2⟩ => ?_
  rw [gapM_eq (by omega)] at e2
  unfold magM at e2
  split at e2 <;> omega
theorem close_pos (h : cylOk s t l = true) : 1 ≤ closestM s t l := by
  obtain ⟨hs, _, _, _⟩ := cylOk_parts h
  exact (close_ge h).2 ⟨by omega, near_pos h⟩
theorem near_mono {a b : Int} (hab : a ≤ b) (h : pc (nearB s b) l = 0) : pc (nearB s a) l = 0 := by
  rw [pc_zero] at *
  refine h.imp fun {p q} hpq => ?_
  unfold nearB at *
  rw [decide_eq_false_iff_not] at *
  exact fun hh => hpq ⟨hh.1, by omega⟩
theorem near_full (h : cylOk s t l = true) (hz : pc (nearB s s) l = 0) (a : Int) : pc (nearB s a) l = 0 := by
  obtain ⟨hs, _, _, _⟩ := cylOk_parts h
  rw [pc_zero] at *
  refine List.pairwise_iff_getElem.2 fun i j hi hj hij => ?_
  have h1 := cylOk_mem h (List.getElem_mem hi)
  have h2 := cylOk_mem h (List.getElem_mem hj)
  have h3 := List.pairwise_iff_getElem.1 hz i j hi hj hij
  unfold nearB at *
  rw [decide_eq_false_iff_not] at *
  refine fun hh => h3 ⟨hh.1, ?_⟩
  rw [gapM_eq (by omega)]
  unfold magM
  split <;> omega
theorem close_le (h : cylOk s t l = true) : closestM s t l ≤ s := ((close_ge h).1 (Int.le_refl _)).1
/-- What the law asks of the number of close pairs and the closest one. -/
theorem close_too (h : cylOk s t l = true) : (pc (nearB s r) l = 0) ↔ (r ≤ closestM s t l ∨ closestM s t l = s) := by
  constructor
  · intro hz
    by_cases hr : r ≤ s
    · exact .inl ((close_ge h).2 ⟨hr, hz⟩)
    · refine .inr ?_
      have := (close_ge h (x := s)).2 ⟨Int.le_refl _, near_mono (by omega) hz⟩
      have := close_le h
      omega
  · rintro (hh | hh)
    · exact ((close_ge h).1 hh).2
    · have := ((close_ge h (x := s)).1 (by omega)).2
      exact near_full h this r
end
/-! ## The quiet angle -/
section
variable {S : Nat} {t : Int} {l : List (Int × Int)}
/-- How many of the first K angles hold a pin. -/
def usedN (S : Nat) (t : Int) (l : List (Int × Int)) (K : Nat) : Nat := cnt (fun a => !(freeAt (S : Int) t l (a : Int))) K
theorem cnt_full {f : Nat → Bool} : ∀ n, cnt f n = n → ∀ i, i < n → f i = true
  | 0, _, i, hi => by omega
  | n + 1, h, i, hi => by
    have hle := cnt_le f n
    cases hf : f n
    · rw [cnt_no hf] at h; omega
    · rw [cnt_yes hf] at h
      by_cases hin : i = n
      · subst hin; exact hf
      · exact cnt_full n (by omega) i (by omega)
theorem cnt_every {f : Nat → Bool} : ∀ n, (∀ i, i < n → f i = true) → cnt f n = n
  | 0, _ => rfl
  | n + 1, h => by rw [cnt_yes (h n (by omega)), cnt_every n fun i hi => h i (by omega)]
theorem free_zero {f : Int → Bool} {a : Nat} (hS : 0 < S) (h : runF f S a = 0) : f (a : Int) = false := by
  have := (runF_is f S a).2.2 (by omega)
  rw [h] at this
  simpa using this
/-- The quiet angle: none, and all are used; or a free one that has a used one ahead of it, or the first. -/
theorem quiet_facts (g : cylOk (S : Int) t l = true) (hS : 0 < S) : (quietM S t l = -1 ∧ usedN S t l S = S) ∨ ∃ y : Nat, y < S ∧ quietM S t l = (y : Int) ∧ usedN S t l S < S ∧ freeAt (S : Int) t l (y : Int) = true ∧ (y = 0 ∨ freeAt (S : Int) t l ((y : Int) - 1) = false) := by
  obtain ⟨⟨s1, s2⟩, _, _, _⟩ := cylOk_parts g
  have hlt : ∀ y : Nat, y < S → freeAt (S : Int) t l (y : Int) = true → usedN S t l S < S := fun y hy hf => by
    have hle := cnt_le (fun a : Nat => !(freeAt (S : Int) t l (a : Int))) S
    refine Nat.lt_of_le_of_ne hle fun e => ?_
    have := cnt_full S e y hy
    rw [hf] at this
    cases this
  by_cases h0 : l.length = 0
  · have hq := quiet_none g h0
    have : l = [] := List.eq_nil_of_length_eq_zero h0
    have hf : freeAt (S : Int) t l ((0 : Nat) : Int) = true := by
      subst this
      unfold freeAt
      rw [pinsAt_yes g (inR_of (by omega) (by omega))]
      rfl
    exact .inr ⟨0, hS, hq, hlt 0 hS hf, hf, .inl rfl⟩
  · obtain ⟨m, hb⟩ := quiet_eps g h0
    rcases hb with ⟨h1, h2, h3⟩ | ⟨h1, y, h2, _, h3, h4, h5, _⟩
    · refine .inl ⟨h2, cnt_every S fun i hi => ?_⟩
      rw [free_zero hS (h3 i hi trivial)]; rfl
    · have hy0 := (runF_is (freeAt (S : Int) t l) S y).2.1 0 (by omega)
      rw [show (y : Int) + ((0 : Nat) : Int) = (y : Int) by omega] at hy0
      refine .inr ⟨y, h2, h3, hlt y h2 hy0, hy0, ?_⟩
      by_cases hy : y = 0
      · exact .inl hy
      refine .inr ?_
      cases hf : freeAt (S : Int) t l ((y : Int) - 1)
      · rfl
      exfalso
      -- the run from y - 1 is longer
      have hr := runF_is (freeAt (S : Int) t l) S y
      rw [h4] at hr
      have hr1 := runF_is (freeAt (S : Int) t l) S (y - 1)
      have hle := h5 (y - 1) (by omega) trivial
      generalize runF (freeAt (S : Int) t l) S (y - 1) = n at hr1 hle
      by_cases hmS : m = S
      · -- all are free: but there is a pin
        obtain ⟨p, z, e⟩ := pair_of l 0
        obtain ⟨_, _, z1, z2⟩ := cylOk_pin g (show 0 < l.length by omega) e
        have hz : freeAt (S : Int) t l z = false := by
          have hm : modM z S = z := by rw [modM_eq]; exact Int.emod_eq_of_lt (by omega) (by omega)
          unfold freeAt
          rw [pinsAt_yes g (inR_of (by omega) (by omega)), hm]
          have := pickTo_pos (f := atAngle z) (l := l) (k := 0) (x := p) (by rw [e.out]; exact if_pos rfl) l.length (by omega)
          exact decide_eq_false (by omega)
        have hall : ∀ j : Nat, j < S → freeAt (S : Int) t l ((y : Int) + (j : Int)) = true := fun j hj => hr.2.1 j (by omega)
        by_cases hzy : (y : Int) ≤ z
        · have := hall (z - (y : Int)).toNat (by omega)
          rw [show (y : Int) + (((z - (y : Int)).toNat : Nat) : Int) = z by omega, hz] at this
          cases this
        · have := hall (z + (S : Int) - (y : Int)).toNat (by omega)
          rw [show (y : Int) + (((z + (S : Int) - (y : Int)).toNat : Nat) : Int) = z + (S : Int) by omega, free_same g (x := z + (S : Int)) (y := z) (inR_of (by omega) (by omega)) (inR_of (by omega) (by omega)) (by rw [Int.add_emod_right]), hz] at this
          cases this
      · -- n ≤ m < S: the run from y - 1 ends at a free angle
        have hnS : n < S := by have := hr.1; omega
        have he := hr1.2.2 hnS
        rcases Nat.eq_zero_or_pos n with hn | hn
        · subst hn
          rw [show ((y - 1 : Nat) : Int) + ((0 : Nat) : Int) = (y : Int) - 1 by omega, hf] at he
          cases he
        · have := hr.2.1 (n - 1) (by omega)
          rw [show (y : Int) + ((n - 1 : Nat) : Int) = ((y - 1 : Nat) : Int) + (n : Int) by omega, he] at this
          cases this
end
theorem seam_const : seamM 12 1 [(0, 0), (0, 11)] 2 = true ∧ playM 12 1 [(0, 0), (0, 11)] 2 = false := by decide +kernel
theorem seam_some {s t r : Int} {l : List (Int × Int)} (h : seamM s t l r = true) : 0 < (tooM s t l r).length := by
  unfold seamM at h
  rw [Bool.and_eq_true, decide_eq_true_eq] at h
  exact h.2
theorem play_eq {s t r : Int} {l : List (Int × Int)} (h : cylOk s t l = true) (hr : inR r 1 96 = true) : playM s t l r = decide ((tooM s t l r).length = 0) := by
  unfold playM
  rw [h, hr]; rfl
end Go.Proofs.Ytakllloangpimaa
