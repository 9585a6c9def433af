/- The plain laws behind FnTeeth: as many teeth as are needed are enough, and one less is not. -/
import Derived.Test.YtakllloangpimaaDrawT
import Derived.Test.YtakllloangpimaaTeethA
import Derived.Test.YtakllloangpimaaTeethC
import Derived.Test.YtakllloangpimaaLeast
import Derived.Test.YtakllloangpimaaCmbP
namespace Go.Proofs.Ytakllloangpimaa
open Go.RowKit
set_option linter.unusedVariables false
/-! ## Counting -/
theorem cnt_congr {f g : Nat → Bool} (n : Nat) (h : ∀ i, i < n → f i = g i) : cnt f n = cnt g n :=
  Nat.le_antisymm (cnt_imp n fun i hi hf => by rw [← h i hi]; exact hf) (cnt_imp n fun i hi hf => by rw [h i hi]; exact hf)
theorem cnt_remove {g : Nat → Bool} {m : Nat} (hg : g m = true) : ∀ M, m < M → cnt g M = cnt (fun i => g i && !(decide (i = m))) M + 1
  | 0, h => by omega
  | M + 1, h => by
    by_cases hm : m = M
    · subst hm
      rw [cnt_yes hg, cnt_no (by simp)]
      congr 1
      exact cnt_congr m fun i hi => by rw [decide_eq_false (show ¬ i = m by omega)]; simp
    · have ih := cnt_remove hg M (by omega)
      have e : (g M && !(decide (M = m))) = g M := by rw [decide_eq_false (show ¬ M = m by omega)]; simp
      cases hgm : g M
      · rw [cnt_no hgm, cnt_no (by rw [e]; exact hgm)]; exact ih
      · rw [cnt_yes hgm, cnt_yes (by rw [e]; exact hgm), ih]
/-- What is sent to different places is no more than they are. -/
theorem cnt_inj {f : Nat → Bool} : ∀ (N : Nat) (g : Nat → Bool) (M : Nat) (φ : Nat → Nat), (∀ i, i < N → f i = true → φ i < M ∧ g (φ i) = true) → (∀ i j, i < N → j < N → f i = true → f j = true → φ i = φ j → i = j) → cnt f N ≤ cnt g M
  | 0, g, M, φ, _, _ => Nat.zero_le _
  | N + 1, g, M, φ, h, hi => by
    cases hf : f N
    · rw [cnt_no hf]
      exact cnt_inj N g M φ (fun i hi' => h i (by omega)) (fun i j a b => hi i j (by omega) (by omega))
    · obtain ⟨h1, h2⟩ := h N (by omega) hf
      rw [cnt_yes hf, cnt_remove h2 M h1]
      have := cnt_inj N (fun i => g i && !(decide (i = φ N))) M φ (fun i hi' hfi => by
        obtain ⟨a1, a2⟩ := h i (by omega) hfi
        refine ⟨a1, ?_⟩
        have : φ i ≠ φ N := fun e => by have := hi i N (by omega) (by omega) hfi hf e; omega
        rw [a2, decide_eq_false this]; rfl) (fun i j a b => hi i j (by omega) (by omega))
      omega
/-- How many of the list are y. -/
def cntL (l : List Int) (y : Int) : Nat := cnt (fun i => decide (l.getD i 0 = y)) l.length
theorem cntL_count (y : Int) : ∀ l : List Int, cntL l y = l.count y := by
  intro l
  induction l with
  | nil => rfl
  | cons x l ih =>
    unfold cntL
    have e := cnt_add (fun i => decide ((x :: l).getD i 0 = y)) 1 l.length
    rw [List.length_cons, Nat.add_comm l.length 1, e, List.count_cons, ← ih]
    have e2 : (fun m => decide ((x :: l).getD (1 + m) 0 = y)) = fun m => decide (l.getD m 0 = y) := by
      funext m
      rw [Nat.add_comm 1 m]; rfl
    rw [e2]
    show cnt _ 1 + cntL l y = _
    have e3 : cnt (fun i => decide ((x :: l).getD i 0 = y)) 1 = if (x == y) = true then 1 else 0 := by
      by_cases hx : x = y
      · subst hx; simp [cnt]
      · simp [cnt, hx]
    rw [e3]; omega
theorem places_len (l : List Int) (y : Int) : ∀ n, (placesTo l y n).length = cnt (fun i => decide (l.getD i 0 = y)) n
  | 0 => rfl
  | n + 1 => by
    by_cases h : l.getD n 0 = y
    · rw [placesTo_yes h, cnt_yes (decide_eq_true h), List.length_append, places_len l y n]; rfl
    · rw [placesTo_no h, cnt_no (decide_eq_false h), places_len l y n]
/-! ## The comb of what is needed -/
section
variable {t : List (Int × Int)} {r : Int} {n : List Int}
theorem count_blocks {n : List Int} (y : Int) : ∀ P : Nat, (blocks n P).count y = if 0 ≤ y ∧ y < (P : Int) then (n.getD y.toNat 0).toNat else 0
  | 0 => by rw [if_neg (by omega)]; rfl
  | P + 1 => by
    simp only [blocks, List.count_append, List.count_replicate]
    rw [count_blocks y P]
    by_cases h : y = (P : Int)
    · subst h
      rw [if_neg (show ¬ (0 ≤ (P : Int) ∧ (P : Int) < (P : Int)) by omega), if_pos (show 0 ≤ (P : Int) ∧ (P : Int) < ((P + 1 : Nat) : Int) by omega), if_pos (beq_self_eq_true _), Int.toNat_natCast]
      omega
    · have h2 : ((P : Int) == y) = false := beq_eq_false_iff_ne.2 (fun e => h e.symm)
      rw [h2]
      by_cases h3 : 0 ≤ y ∧ y < (P : Int)
      · rw [if_pos h3, if_pos (show 0 ≤ y ∧ y < ((P + 1 : Nat) : Int) by omega), if_neg (by simp)]; omega
      · rw [if_neg h3, if_neg (show ¬ (0 ≤ y ∧ y < ((P + 1 : Nat) : Int)) by omega), if_neg (by simp)]
theorem blocks_mem {n : List Int} {x : Int} : ∀ P : Nat, x ∈ blocks n P → 0 ≤ x ∧ x < (P : Int)
  | 0, h => by simp [blocks] at h
  | P + 1, h => by
    simp only [blocks, List.mem_append] at h
    rcases h with h | h
    · have := blocks_mem P h; omega
    · have := List.eq_of_mem_replicate h; omega
theorem blocks_sorted {n : List Int} : ∀ P : Nat, (blocks n P).Pairwise (· ≤ ·)
  | 0 => by simp [blocks]
  | P + 1 => by
    simp only [blocks]
    refine List.pairwise_append.2 ⟨blocks_sorted P, List.pairwise_replicate.2 (.inr (Int.le_refl _)), fun a ha b hb => ?_⟩
    have h1 := blocks_mem P ha
    have := List.eq_of_mem_replicate hb
    omega
/-- The sum of the first P numbers. -/
def sumN (n : List Int) : Nat → Nat
  | 0 => 0
  | P + 1 => sumN n P + (n.getD P 0).toNat
theorem len_blocks (n : List Int) : ∀ P, (blocks n P).length = sumN n P
  | 0 => rfl
  | P + 1 => by simp only [blocks, List.length_append, List.length_replicate, sumN, len_blocks n P]
/-- How many notes have the pitch p. -/
def cntP (t : List (Int × Int)) (p : Int) (k : Nat) : Nat := cnt (fun i => decide ((t.getD i (0, 0)).2 = p)) k
def sumP (t : List (Int × Int)) (k : Nat) : Nat → Nat
  | 0 => 0
  | P + 1 => sumP t k P + cntP t (P : Int) k
theorem sumP_zero (t : List (Int × Int)) : ∀ P, sumP t 0 P = 0
  | 0 => rfl
  | P + 1 => by simp [sumP, sumP_zero t P, cntP, cnt]
theorem sumP_next (k : Nat) (h : 0 ≤ (t.getD k (0, 0)).2) : ∀ P : Nat, sumP t (k + 1) P = sumP t k P + (if (t.getD k (0, 0)).2 < (P : Int) then 1 else 0)
  | 0 => by rw [if_neg (by omega)]; rfl
  | P + 1 => by
    have ih := sumP_next k h P
    have e : cntP t (P : Int) (k + 1) = cntP t (P : Int) k + (if (t.getD k (0, 0)).2 = (P : Int) then 1 else 0) := by
      unfold cntP
      by_cases hk : (t.getD k (0, 0)).2 = (P : Int)
      · rw [cnt_yes (decide_eq_true hk), if_pos hk]
      · rw [cnt_no (decide_eq_false hk), if_neg hk]; rfl
    show sumP t (k + 1) P + _ = sumP t k P + _ + _
    rw [ih, e]
    split <;> split <;> split <;> omega
theorem sumP_le (h : TuneD t) (P : Nat) : ∀ k, k ≤ t.length → sumP t k P ≤ k
  | 0, _ => by rw [sumP_zero]; exact Nat.le_refl _
  | k + 1, hk => by
    have hm := h.mem _ (mem_getD.1 ⟨k, (by omega : k < t.length), rfl⟩)
    rw [sumP_next k (by omega)]
    have := sumP_le h P k (by omega)
    split <;> omega
theorem need_eq (h : TuneD t) (hr : 1 ≤ r ∧ r ≤ 6) : needed t r = runM (cB t r) t t.length := needed_B ⟨h.ok, inR_of hr.1 (by omega)⟩
theorem need_len (h : TuneD t) (hr : 1 ≤ r ∧ r ≤ 6) : (needed t r).length = 61 := by rw [need_eq h hr, length_runM]
theorem need_nonneg (h : TuneD t) (hr : 1 ≤ r ∧ r ≤ 6) {p : Nat} (hp : p < 61) : 0 ≤ (needed t r).getD p 0 := by rw [need_eq h hr]; exact runM_nonneg _ hp _
theorem pitch_toNat (h : TuneD t) {j : Nat} (hj : j < t.length) : (((t.getD j (0, 0)).2.toNat : Nat) : Int) = (t.getD j (0, 0)).2 ∧ (t.getD j (0, 0)).2.toNat < 61 := by
  have hm := h.mem _ (mem_getD.1 ⟨j, hj, rfl⟩)
  omega
theorem need_ge (h : TuneD t) (hr : 1 ≤ r ∧ r ≤ 6) {j : Nat} (hj : j < t.length) : (cB t r j : Int) ≤ (needed t r).getD (t.getD j (0, 0)).2.toNat 0 := by
  rw [need_eq h hr]
  exact (runM_at (cB t r) (pitch_toNat h hj).2 t.length).1 j hj rfl
theorem need_from (h : TuneD t) (hr : 1 ≤ r ∧ r ≤ 6) {p : Nat} (hp : p < 61) : (needed t r).getD p 0 = 0 ∨ ∃ j, j < t.length ∧ (t.getD j (0, 0)).2 = (p : Int) ∧ (needed t r).getD p 0 = cB t r j := by
  rw [need_eq h hr]
  rcases (runM_at (t := t) (cB t r) hp t.length).2 with h1 | ⟨j, h1, h2, h3⟩
  · exact .inl h1
  · have := (pitch_toNat h h1).1
    exact .inr ⟨j, h1, by rw [← this, h2], h3⟩
theorem need_cntP (h : TuneD t) (hr : 1 ≤ r ∧ r ≤ 6) {p : Nat} (hp : p < 61) : ((needed t r).getD p 0).toNat ≤ cntP t (p : Int) t.length := by
  rcases need_from h hr hp with h1 | ⟨j, h1, h2, h3⟩
  · rw [h1]; exact Nat.zero_le _
  · rw [h3, Int.toNat_natCast]
    unfold cB cntP
    refine Nat.le_trans (cnt_imp _ fun i hi hb => ?_) (cnt_mono _ (show j + 1 ≤ t.length by omega))
    unfold bOk at hb
    rw [decide_eq_true_eq] at hb
    exact decide_eq_true (hb.1.trans h2)
theorem sum_le_P (h : TuneD t) (hr : 1 ≤ r ∧ r ≤ 6) : ∀ P, P ≤ 61 → sumN (needed t r) P ≤ sumP t t.length P
  | 0, _ => Nat.le_refl _
  | P + 1, hP => by
    have := need_cntP h hr (show P < 61 by omega)
    have := sum_le_P h hr P (by omega)
    simp only [sumN, sumP]; omega
theorem bOk_self (hr : 1 ≤ r) (k : Nat) : bOk t r k k = true := by unfold bOk; exact decide_eq_true ⟨rfl, by omega⟩
theorem least_eq (h : TuneD t) (hr : 1 ≤ r ∧ r ≤ 6) : leastB (needed t r) = blocks (needed t r) 61 := by unfold leastB; rw [need_len h hr]
theorem least_len (h : TuneD t) (hr : 1 ≤ r ∧ r ≤ 6) : (leastB (needed t r)).length = sumN (needed t r) 61 ∧ (leastB (needed t r)).length ≤ t.length := by
  have e : (leastB (needed t r)).length = sumN (needed t r) 61 := by rw [least_eq h hr, len_blocks]
  refine ⟨e, ?_⟩
  rw [e]
  exact Nat.le_trans (sum_le_P h hr 61 (Nat.le_refl _)) (sumP_le h 61 _ (Nat.le_refl _))
theorem least_cnt (h : TuneD t) (hr : 1 ≤ r ∧ r ≤ 6) {p : Nat} (hp : p < 61) : (cntL (leastB (needed t r)) (p : Int) : Int) = (needed t r).getD p 0 := by
  rw [cntL_count, least_eq h hr, count_blocks, if_pos (by omega), Int.toNat_natCast]
  have := need_nonneg h hr hp
  omega
theorem least_ok (h : TuneD t) (hr : 1 ≤ r ∧ r ≤ 6) (h0 : ¬ t.length = 0) : combOk (leastB (needed t r)) = true := by
  have h11 := h.len
  have hl := (least_len h hr).2
  have hne : 1 ≤ (leastB (needed t r)).length := by
    have hp := pitch_toNat h (show 0 < t.length by omega)
    have hg := need_ge h hr (show 0 < t.length by omega)
    have hc := least_cnt h hr hp.2
    have h1 : 1 ≤ cB t r 0 := by unfold cB; rw [cnt_yes (bOk_self hr.1 0)]; omega
    have h2 := cnt_le (fun i => decide ((leastB (needed t r)).getD i 0 = (((t.getD 0 (0, 0)).2.toNat : Nat) : Int))) (leastB (needed t r)).length
    unfold cntL at hc
    omega
  exact combOk_of hne (by omega) (by rw [least_eq h hr]; exact blocks_sorted 61) fun x hx => by
    rw [least_eq h hr] at hx
    have := blocks_mem 61 hx; omega
theorem leastOk_eq (h : TuneD t) (hr : 1 ≤ r ∧ r ≤ 6) : leastOk t r = decide (0 < t.length) := by
  unfold leastOk
  by_cases h0 : t.length = 0
  · rw [decide_eq_false (by omega)]
    have := (least_len h hr).2
    exact combOk_len (by omega)
  · rw [decide_eq_true (by omega)]; exact least_ok h hr h0
/-! ## The greedy assignment -/
structure InvA (c : List Int) (t : List (Int × Int)) (r : Int) (k : Nat) (last out : List Int) : Prop where
  len : last.length = c.length
  olen : out.length = k
  users : ∀ j, j < k → ∃ i : Nat, i < c.length ∧ out.getD j 0 = (i : Int) ∧ c.getD i 0 = (t.getD j (0, 0)).2 ∧ (t.getD j (0, 0)).1 ≤ last.getD i 0
  lasts : ∀ i, i < c.length → last.getD i 0 = -1000 ∨ ∃ j, j < k ∧ out.getD j 0 = (i : Int) ∧ (t.getD j (0, 0)).1 = last.getD i 0
  rests : ∀ i j, i < j → j < k → out.getD i 0 = out.getD j 0 → r ≤ (t.getD j (0, 0)).1 - (t.getD i (0, 0)).1
theorem getD_app {l : List Int} {x : Int} {j : Nat} : (l ++ [x]).getD j 0 = if j < l.length then l.getD j 0 else if j = l.length then x else 0 := by
  rw [List.getD_eq_getElem?_getD, List.getD_eq_getElem?_getD]
  by_cases h : j < l.length
  · rw [if_pos h, List.getElem?_append_left h]
  · rw [if_neg h, List.getElem?_append_right (by omega)]
    by_cases h2 : j = l.length
    · rw [if_pos h2]; subst h2; simp
    · rw [if_neg h2, List.getElem?_eq_none (by simp; omega)]; rfl
theorem inv_start (c : List Int) : InvA c t r 0 (List.replicate c.length (-1000)) [] := ⟨by simp, rfl, fun j hj => by omega, fun i hi => .inl (by rw [List.getD_eq_getElem?_getD, List.getElem?_replicate, if_pos hi]; rfl), fun i j _ hj => by omega⟩
theorem inv_next {c : List Int} {k i : Nat} {last out : List Int} (hk : tuneOk t = true) (hkl : k < t.length) (h : InvA c t r k last out) (hi : i < c.length) (h1 : c.getD i 0 = (t.getD k (0, 0)).2) (h2 : r ≤ (t.getD k (0, 0)).1 - last.getD i 0) (hr : 1 ≤ r) :
    InvA c t r (k + 1) (last.set i (t.getD k (0, 0)).1) (out ++ [(i : Int)]) := by
  have hset : ∀ j, j < c.length → (last.set i (t.getD k (0, 0)).1).getD j 0 = if i = j then (t.getD k (0, 0)).1 else last.getD j 0 := fun j hj => getD_set (by rw [h.len]; exact hj)
  have hout : ∀ j, (out ++ [(i : Int)]).getD j 0 = if j < k then out.getD j 0 else if j = k then (i : Int) else 0 := fun j => by rw [getD_app, h.olen]
  refine ⟨by rw [List.length_set, h.len], by rw [List.length_append, h.olen]; rfl, fun j hj => ?_, fun m hm => ?_, fun a b hab hb he => ?_⟩
  · rw [hout]
    by_cases hjk : j < k
    · rw [if_pos hjk]
      obtain ⟨m, m1, m2, m3, m4⟩ := h.users j hjk
      refine ⟨m, m1, m2, m3, ?_⟩
      rw [hset m m1]
      split
      · exact times_mono hk k (by omega) hkl
      · exact m4
    · have : j = k := by omega
      subst this
      rw [if_neg hjk, if_pos rfl]
      exact ⟨i, hi, rfl, h1, by rw [hset i hi, if_pos rfl]; exact Int.le_refl _⟩
  · rw [hset m hm]
    by_cases him : i = m
    · subst him
      rw [if_pos rfl]
      exact .inr ⟨k, by omega, by rw [hout, if_neg (by omega), if_pos rfl], rfl⟩
    · rw [if_neg him]
      rcases h.lasts m hm with e | ⟨j, j1, j2, j3⟩
      · exact .inl e
      · exact .inr ⟨j, by omega, by rw [hout, if_pos j1]; exact j2, j3⟩
  · rw [hout, hout] at he
    have ha : a < k := by omega
    rw [if_pos ha] at he
    by_cases hbk : b < k
    · rw [if_pos hbk] at he
      exact h.rests a b hab hbk he
    · have : b = k := by omega
      subst this
      rw [if_neg hbk, if_pos rfl] at he
      obtain ⟨m, m1, m2, m3, m4⟩ := h.users a ha
      rw [m2] at he
      have hmi : m = i := by omega
      subst hmi
      omega
/-- A run that has gone well keeps the invariant. -/
theorem run_inv {c : List Int} (hk : tuneOk t = true) (hr : 1 ≤ r) : ∀ k, k ≤ t.length → ∀ last out, runA c t r k = some (last, out) → InvA c t r k last out
  | 0, _, last, out, h => by
    simp only [runA, Option.some.injEq, Prod.mk.injEq] at h
    rw [← h.1, ← h.2]; exact inv_start c
  | k + 1, hkl, last, out, h => by
    cases hs : runA c t r k with
    | none => simp only [runA, stepA, hs] at h; cases h
    | some s =>
      obtain ⟨l1, o1⟩ := s
      have ih := run_inv hk hr k (by omega) l1 o1 hs
      cases hf : (List.range c.length).find? (okTooth c l1 (t.getD k (0, 0)) r) with
      | none => simp only [runA, stepA, hs, Option.bind_some, hf, Option.map_none] at h; cases h
      | some i =>
        simp only [runA, stepA, hs, Option.bind_some, hf, Option.map_some, Option.some.injEq, Prod.mk.injEq] at h
        obtain ⟨g1, g2, _⟩ := List.find?_range_eq_some.1 hf
        unfold okTooth at g1
        rw [decide_eq_true_eq] at g1
        rw [← h.1, ← h.2]
        exact inv_next hk (by omega) ih (List.mem_range.1 g2) g1.1 g1.2 hr
theorem ok_run {c : List Int} {x : Int} (h : assignOk c t x = true) : (combOk c = true ∧ tuneOk t = true ∧ inR x 1 100 = true) ∧ ∃ last out, runA c t x t.length = some (last, out) ∧ assignL c t x = out := by
  by_cases hh : combOk c = true ∧ tuneOk t = true ∧ inR x 1 100 = true
  · refine ⟨hh, ?_⟩
    cases hr : runA c t x t.length with
    | none => rw [(assign_no hh (Nat.le_refl _) hr).2] at h; cases h
    | some s => exact ⟨s.1, s.2, rfl, (assign_yes hh hr).1⟩
  · rw [(assign_head hh).2] at h; cases h
/-- What has been assigned is assigned. -/
theorem assigned_ok {c : List Int} {x : Int} (h : assignOk c t x = true) : isAssigned c t x (assignL c t x) = true ∧ (assignL c t x).length = t.length := by
  obtain ⟨⟨h1, h2, h3⟩, last, out, hr, ho⟩ := ok_run h
  have hx := inR_true h3
  have inv := run_inv h2 hx.1 t.length (Nat.le_refl _) last out hr
  rw [ho]
  refine ⟨isAssigned_yes h1 h2 h3 inv.olen fun i hi => ?_, inv.olen⟩
  rw [inv.olen] at hi
  obtain ⟨m, m1, m2, m3, _⟩ := inv.users i hi
  refine assignedAt_yes ?_ fun j hj => ?_
  · unfold toothAt
    rw [m2, Int.toNat_natCast]
    exact decide_eq_true ⟨by omega, by omega, m3⟩
  · unfold restAt
    refine decide_eq_true fun ⟨e, hlt⟩ => ?_
    have := inv.rests j i hj hi e
    omega
/-- Enough teeth. -/
theorem run_enough (h : TuneD t) (hr : 1 ≤ r ∧ r ≤ 6) : ∀ k, k ≤ t.length → ∃ last out, runA (leastB (needed t r)) t r k = some (last, out)
  | 0, _ => ⟨_, _, rfl⟩
  | k + 1, hk => by
    obtain ⟨last, out, hs⟩ := run_enough h hr k (by omega)
    have inv := run_inv h.ok hr.1 k (by omega) last out hs
    cases hf : (List.range (leastB (needed t r)).length).find? (okTooth (leastB (needed t r)) last (t.getD k (0, 0)) r) with
    | some i =>
      simp only [runA, stepA, hs, Option.bind_some, hf, Option.map_some]
      exact ⟨_, _, rfl⟩
    | none =>
      exfalso
      rw [List.find?_range_eq_none] at hf
      obtain ⟨p1, p2⟩ := pitch_toNat h (show k < t.length by omega)
      have hg := need_ge h hr (show k < t.length by omega)
      have hc := least_cnt h hr p2
      have hcb : cB t r k = cnt (bOk t r k) k + 1 := by unfold cB; rw [cnt_yes (bOk_self hr.1 k)]
      have hm := h.mem _ (mem_getD.1 ⟨k, (by omega : k < t.length), rfl⟩)
      have hle : cntL (leastB (needed t r)) (((t.getD k (0, 0)).2.toNat : Nat) : Int) ≤ cnt (bOk t r k) k := by
        unfold cntL
        have hbusy : ∀ i, i < (leastB (needed t r)).length → (leastB (needed t r)).getD i 0 = (t.getD k (0, 0)).2 → ∃ j, j < k ∧ out.getD j 0 = (i : Int) ∧ bOk t r k j = true := by
          intro i hi he
          have hn := hf i hi
          rw [Bool.not_eq_true'] at hn
          unfold okTooth at hn
          rw [decide_eq_false_iff_not] at hn
          have hb : ¬ r ≤ (t.getD k (0, 0)).1 - last.getD i 0 := fun hh => hn ⟨he, hh⟩
          rcases inv.lasts i hi with e | ⟨j, j1, j2, j3⟩
          · rw [e] at hb; omega
          · refine ⟨j, j1, j2, ?_⟩
            obtain ⟨m, m1, m2, m3, _⟩ := inv.users j j1
            rw [j2] at m2
            have : i = m := by omega
            subst this
            unfold bOk
            exact decide_eq_true ⟨m3.symm.trans he, by omega⟩
        refine cnt_inj _ _ _ (fun i => if hh : i < (leastB (needed t r)).length ∧ (leastB (needed t r)).getD i 0 = (t.getD k (0, 0)).2 then Classical.choose (hbusy i hh.1 hh.2) else 0) (fun i hi he => ?_) (fun i j hi hj he hej hij => ?_)
        · rw [decide_eq_true_eq, p1] at he
          try simp only
          rw [dif_pos ⟨hi, he⟩]
          have := Classical.choose_spec (hbusy i hi he)
          exact ⟨this.1, this.2.2⟩
        · rw [decide_eq_true_eq, p1] at he hej
          try simp only at hij
          rw [dif_pos ⟨hi, he⟩, dif_pos ⟨hj, hej⟩] at hij
          have a1 := (Classical.choose_spec (hbusy i hi he)).2.1
          have a2 := (Classical.choose_spec (hbusy j hj hej)).2.1
          rw [hij, a2] at a1
          omega
      omega
theorem enough (h : TuneD t) (hr : 1 ≤ r ∧ r ≤ 6) (h0 : ¬ t.length = 0) : assignOk (leastB (needed t r)) t r = true := by
  obtain ⟨last, out, hs⟩ := run_enough h hr t.length (Nat.le_refl _)
  exact (assign_yes ⟨least_ok h hr h0, h.ok, inR_of hr.1 (by omega)⟩ hs).2
/-- One tooth less is not enough. -/
theorem not_less (h : TuneD t) (hr : 1 ≤ r ∧ r ≤ 6) {k : Nat} (hk : k < (leastB (needed t r)).length) : assignOk ((leastB (needed t r)).take k ++ (leastB (needed t r)).drop (k + 1)) t r = false := by
  cases ha : assignOk ((leastB (needed t r)).take k ++ (leastB (needed t r)).drop (k + 1)) t r
  · rfl
  exfalso
  obtain ⟨⟨h1, h2, h3⟩, last, out, hs, _⟩ := ok_run ha
  have inv := run_inv h2 hr.1 t.length (Nat.le_refl _) last out hs
  obtain ⟨c, hc⟩ : ∃ c, leastB (needed t r) = c := ⟨_, rfl⟩
  obtain ⟨d, hd⟩ : ∃ d, c.take k ++ c.drop (k + 1) = d := ⟨_, rfl⟩
  have hcs : c = c.take k ++ c[k]'(by rw [← hc]; exact hk) :: c.drop (k + 1) := by
    rw [← List.drop_eq_getElem_cons, List.take_append_drop]
  rw [hc] at hk
  have hmem : c[k] ∈ blocks (needed t r) 61 := by rw [← least_eq h hr, hc]; exact List.getElem_mem hk
  have hrng := blocks_mem 61 hmem
  obtain ⟨p, hp⟩ : ∃ p : Nat, c[k] = (p : Int) := ⟨c[k].toNat, by omega⟩
  have hp61 : p < 61 := by omega
  have hcnt := least_cnt h hr hp61
  rw [hc, cntL_count] at hcnt
  have hcd : c.count (p : Int) = d.count (p : Int) + 1 := by
    rw [hcs, hp, ← hd, List.count_append, List.count_cons, List.count_append]
    simp
    omega
  rw [hc, hd] at inv
  rcases need_from h hr hp61 with e | ⟨j, j1, j2, j3⟩
  · rw [e] at hcnt; omega
  · have hle : cnt (bOk t r j) (j + 1) ≤ cntL d (p : Int) := by
      unfold cntL
      refine cnt_inj _ _ _ (fun i => (out.getD i 0).toNat) (fun i hi hb => ?_) (fun a b ha' hb' hba hbb he => ?_)
      · obtain ⟨m, m1, m2, m3, _⟩ := inv.users i (by omega)
        unfold bOk at hb
        rw [decide_eq_true_eq] at hb
        try simp only
        rw [m2, Int.toNat_natCast]
        exact ⟨m1, decide_eq_true (m3.trans (hb.1.trans j2))⟩
      · obtain ⟨m, m1, m2, _⟩ := inv.users a (by omega)
        obtain ⟨m', m1', m2', _⟩ := inv.users b (by omega)
        try simp only at he
        rw [m2, m2', Int.toNat_natCast, Int.toNat_natCast] at he
        unfold bOk at hba hbb
        rw [decide_eq_true_eq] at hba hbb
        rcases Nat.lt_trichotomy a b with hab | hab | hab
        · have := inv.rests a b hab (by omega) (by rw [m2, m2', he])
          have := times_mono h2 (i := b) j (by omega) (by omega)
          omega
        · exact hab
        · have := inv.rests b a hab (by omega) (by rw [m2, m2', he])
          have := times_mono h2 (i := a) j (by omega) (by omega)
          omega
    rw [cntL_count] at hle
    unfold cB at j3
    omega
/-! ## The longest rest -/
theorem top_spec {p : Int → Bool} : ∀ n : Nat, (topOf p n = 0 ∨ p (topOf p n) = true) ∧ 0 ≤ topOf p n ∧ topOf p n ≤ (n : Int) ∧ ∀ m : Nat, topOf p n < (m : Int) → m ≤ n → p (m : Int) = false
  | 0 => ⟨.inl rfl, Int.le_refl _, Int.le_refl _, fun m h1 h2 => by have : topOf p 0 = 0 := rfl; omega⟩
  | n + 1 => by
    obtain ⟨i1, i2, i3, i4⟩ := top_spec (p := p) n
    by_cases hp : p ((n + 1 : Nat) : Int) = true
    · have e : topOf p (n + 1) = ((n + 1 : Nat) : Int) := by simp only [topOf]; rw [if_pos hp]
      rw [e]
      exact ⟨.inr hp, by omega, Int.le_refl _, fun m h1 h2 => by omega⟩
    · have e : topOf p (n + 1) = topOf p n := by simp only [topOf]; rw [if_neg hp]
      rw [e]
      refine ⟨i1, i2, by omega, fun m h1 h2 => ?_⟩
      by_cases hm : m = n + 1
      · subst hm; simpa using hp
      · exact i4 m h1 (by omega)
theorem longest_facts {c : List Int} (hr : 1 ≤ r ∧ r ≤ 6) (h : assignOk c t r = true) : ∃ L : Nat, longestRest c t = (L : Int) ∧ r ≤ (L : Int) ∧ L ≤ 100 ∧ assignOk c t (L : Int) = true ∧ assignOk c t ((L : Int) + 1) = false := by
  obtain ⟨i1, i2, i3, i4⟩ := top_spec (p := assignOk c t) 100
  obtain ⟨L, hL⟩ : ∃ L : Nat, longestRest c t = (L : Int) := ⟨(longestRest c t).toNat, by unfold longestRest; omega⟩
  have e : topOf (assignOk c t) 100 = (L : Int) := hL
  rw [e] at i1 i2 i3 i4
  have hrL : r ≤ (L : Int) := Int.not_lt.1 fun hlt => by
    have := i4 r.toNat (by omega) (by omega)
    rw [Int.toNat_of_nonneg (by omega), h] at this
    cases this
  refine ⟨L, hL, hrL, by omega, ?_, ?_⟩
  · rcases i1 with i1 | i1
    · omega
    · exact i1
  · by_cases h100 : L = 100
    · subst h100
      refine (assign_head fun hh => ?_).2
      have := inR_true hh.2.2
      omega
    · have := i4 (L + 1) (by omega) (by omega)
      rwa [show ((L + 1 : Nat) : Int) = (L : Int) + 1 by omega] at this
theorem longest_none (h0 : t.length = 0) : longestRest [12] t = 100 := by
  have : t = [] := List.eq_nil_of_length_eq_zero h0
  subst this
  exact topOf_yes (k := 100) (by omega) (by decide +kernel)
theorem teeth_need (h : TuneD t) (hr : 1 ≤ r ∧ r ≤ 6) (h0 : ¬ t.length = 0) {p : Nat} (hp : p < 61) : ((teethOf (leastB (needed t r)) (p : Int)).length : Int) = (needed t r).getD p 0 := by
  have : teethOf (leastB (needed t r)) (p : Int) = placesTo (leastB (needed t r)) (p : Int) (leastB (needed t r)).length := if_pos (least_ok h hr h0)
  rw [this, places_len]
  exact least_cnt h hr hp
end
end Go.Proofs.Ytakllloangpimaa
