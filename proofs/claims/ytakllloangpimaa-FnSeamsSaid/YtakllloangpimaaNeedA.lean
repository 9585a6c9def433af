/- How many teeth a tune needs: the count over the notes behind and the count over the notes ahead give the same greatest numbers. No program is named here. -/
import Derived.Test.YtakllloangpimaaTuneR
import Derived.Test.YtakllloangpimaaBase2
namespace Go.Proofs.Ytakllloangpimaa
open Go.RowKit

def cnt (f : Nat → Bool) : Nat → Nat
  | 0 => 0
  | n + 1 => cnt f n + if f n = true then 1 else 0
theorem cnt_yes {f : Nat → Bool} {n : Nat} (h : f n = true) : cnt f (n + 1) = cnt f n + 1 := by simp only [cnt, if_pos h]
theorem cnt_no {f : Nat → Bool} {n : Nat} (h : f n = false) : cnt f (n + 1) = cnt f n := by simp [cnt, h]
theorem cnt_le (f : Nat → Bool) : ∀ n, cnt f n ≤ n
  | 0 => Nat.le_refl _
  | n + 1 => by have := cnt_le f n; simp only [cnt]; split <;> omega
theorem cnt_imp {f g : Nat → Bool} : ∀ n, (∀ i, i < n → f i = true → g i = true) → cnt f n ≤ cnt g n
  | 0, _ => Nat.le_refl _
  | n + 1, h => by
    have h1 := cnt_imp n fun i hi => h i (by omega)
    have h2 := h n (by omega)
    simp only [cnt]
    split
    · rename_i h3; rw [if_pos (h2 h3)]; omega
    · omega
theorem cnt_add (f : Nat → Bool) (a : Nat) : ∀ b, cnt f (a + b) = cnt f a + cnt (fun m => f (a + m)) b
  | 0 => rfl
  | b + 1 => by
    show cnt f (a + b) + (if f (a + b) = true then 1 else 0) = _
    rw [cnt_add f a b]; simp only [cnt]; omega
theorem cnt_mono (f : Nat → Bool) {a b : Nat} (h : a ≤ b) : cnt f a ≤ cnt f b := by
  obtain ⟨d, rfl⟩ := Nat.exists_eq_add_of_le h
  rw [cnt_add]; omega
theorem cnt_last (f : Nat → Bool) : ∀ n, cnt f n = 0 ∨ ∃ m, m < n ∧ f m = true ∧ cnt f n = cnt f (m + 1)
  | 0 => .inl rfl
  | n + 1 => by
    rcases Bool.eq_false_or_eq_true (f n) with h | h
    · exact .inr ⟨n, by omega, h, rfl⟩
    · rw [cnt_no h]
      rcases cnt_last f n with h1 | ⟨m, h1, h2, h3⟩
      · exact .inl h1
      · exact .inr ⟨m, by omega, h2, h3⟩
theorem cnt_first (f : Nat → Bool) : ∀ n, cnt f n = 0 ∨ ∃ i, i < n ∧ f i = true ∧ cnt f n = cnt (fun m => f (i + m)) (n - i)
  | 0 => .inl rfl
  | n + 1 => by
    rcases cnt_first f n with h1 | ⟨i, h1, h2, h3⟩
    · rcases Bool.eq_false_or_eq_true (f n) with h | h
      · refine .inr ⟨n, by omega, h, ?_⟩
        rw [cnt_yes h, h1, show n + 1 - n = 0 + 1 from by omega]
        simp [cnt, h]
      · rw [cnt_no h]; exact .inl h1
    · refine .inr ⟨i, by omega, h2, ?_⟩
      have := cnt_add f i (n + 1 - i)
      have h4 := cnt_add f i (n - i)
      rw [show i + (n + 1 - i) = n + 1 from by omega] at this
      rw [show i + (n - i) = n from by omega] at h4
      omega
section
variable {t : List (Int × Int)} {rest : Int}
theorem times_mono (h : tuneOk t = true) {i : Nat} : ∀ j, i ≤ j → j < t.length → (t.getD i (0, 0)).1 ≤ (t.getD j (0, 0)).1
  | 0, hi, _ => by obtain rfl : i = 0 := by omega
                   exact Int.le_refl _
  | j + 1, hi, hj => by
    rcases Nat.lt_or_ge i (j + 1) with hlt | hge
    · have h1 := times_mono h (i := i) j (by omega) (by omega)
      have h2 := okAt_of h hj
      unfold okAt at h2
      simp only [Bool.and_eq_true, Bool.or_eq_true, beq_iff_eq, Nat.add_sub_cancel] at h2
      rcases h2.2 with h3 | h3
      · omega
      · have := less2_true h3
        omega
    · obtain rfl : i = j + 1 := by omega
      exact Int.le_refl _
def bOk (t : List (Int × Int)) (rest : Int) (k i : Nat) : Bool := decide ((t.getD i (0, 0)).2 = (t.getD k (0, 0)).2 ∧ (t.getD k (0, 0)).1 - (t.getD i (0, 0)).1 < rest)
def fOk (t : List (Int × Int)) (rest : Int) (i m : Nat) : Bool := decide ((t.getD (i + m) (0, 0)).2 = (t.getD i (0, 0)).2 ∧ (t.getD (i + m) (0, 0)).1 < (t.getD i (0, 0)).1 + rest)
def cB (t : List (Int × Int)) (rest : Int) (k : Nat) : Nat := cnt (bOk t rest k) (k + 1)
def cF (t : List (Int × Int)) (rest : Int) (i : Nat) : Nat := cnt (fOk t rest i) (t.length - i)
theorem cB_cF (h : tuneOk t = true) {k : Nat} (hk : k < t.length) : ∃ i, i < t.length ∧ (t.getD i (0, 0)).2 = (t.getD k (0, 0)).2 ∧ cB t rest k ≤ cF t rest i := by
  rcases cnt_first (bOk t rest k) (k + 1) with h1 | ⟨i, h1, h2, h3⟩
  · exact ⟨k, hk, rfl, by unfold cB; omega⟩
  · have h4 : (t.getD i (0, 0)).2 = (t.getD k (0, 0)).2 ∧ (t.getD k (0, 0)).1 - (t.getD i (0, 0)).1 < rest := by simpa only [bOk, decide_eq_true_eq] using h2
    refine ⟨i, by omega, h4.1, ?_⟩
    unfold cB cF
    rw [h3]
    refine Nat.le_trans (cnt_imp (g := fOk t rest i) _ fun m hm hb => ?_) (cnt_mono _ (by omega))
    have h5 : (t.getD (i + m) (0, 0)).2 = (t.getD k (0, 0)).2 ∧ (t.getD k (0, 0)).1 - (t.getD (i + m) (0, 0)).1 < rest := by simpa only [bOk, decide_eq_true_eq] using hb
    have h6 := times_mono h (i := i + m) k (by omega) hk
    simp only [fOk, decide_eq_true_eq]
    omega
theorem cF_cB (h : tuneOk t = true) {i : Nat} (hi : i < t.length) : ∃ k, k < t.length ∧ (t.getD k (0, 0)).2 = (t.getD i (0, 0)).2 ∧ cF t rest i ≤ cB t rest k := by
  rcases cnt_last (fOk t rest i) (t.length - i) with h1 | ⟨m, h1, h2, h3⟩
  · exact ⟨i, hi, rfl, by unfold cF; omega⟩
  · have h4 : (t.getD (i + m) (0, 0)).2 = (t.getD i (0, 0)).2 ∧ (t.getD (i + m) (0, 0)).1 < (t.getD i (0, 0)).1 + rest := by simpa only [fOk, decide_eq_true_eq] using h2
    refine ⟨i + m, by omega, h4.1, ?_⟩
    unfold cB cF
    rw [h3, show i + m + 1 = i + (m + 1) from by omega, cnt_add (bOk t rest (i + m)) i (m + 1)]
    refine Nat.le_trans (cnt_imp (g := fun j => bOk t rest (i + m) (i + j)) _ fun j hj hb => ?_) (Nat.le_add_left _ _)
    have h5 : (t.getD (i + j) (0, 0)).2 = (t.getD i (0, 0)).2 ∧ (t.getD (i + j) (0, 0)).1 < (t.getD i (0, 0)).1 + rest := by simpa only [fOk, decide_eq_true_eq] using hb
    have h6 := times_mono h (i := i) (i + j) (by omega) (by omega)
    simp only [bOk, decide_eq_true_eq]
    omega
/-- For each pitch the greatest number. -/
def runM (c : Nat → Nat) (t : List (Int × Int)) : Nat → List Int
  | 0 => List.replicate 61 0
  | k + 1 => (runM c t k).set (t.getD k (0, 0)).2.toNat (max ((runM c t k).getD (t.getD k (0, 0)).2.toNat 0) (c k : Int))
theorem length_runM (c : Nat → Nat) (t : List (Int × Int)) : ∀ k, (runM c t k).length = 61
  | 0 => by simp [runM]
  | k + 1 => by simp only [runM, List.length_set]; exact length_runM c t k
theorem getD_setM {l : List Int} {i j : Nat} {x : Int} (hj : j < l.length) : (l.set i x).getD j 0 = if i = j then x else l.getD j 0 := by
  rw [List.getD_eq_getElem?_getD, List.getElem?_set, List.getD_eq_getElem?_getD]
  by_cases h : i = j
  · subst h; simp [hj]
  · simp [h]
theorem runM_at (c : Nat → Nat) {p : Nat} (hp : p < 61) : ∀ k, (∀ j, j < k → (t.getD j (0, 0)).2.toNat = p → (c j : Int) ≤ (runM c t k).getD p 0) ∧
    ((runM c t k).getD p 0 = 0 ∨ ∃ j, j < k ∧ (t.getD j (0, 0)).2.toNat = p ∧ (runM c t k).getD p 0 = c j)
  | 0 => ⟨fun j hj => absurd hj (by omega), .inl (by simp only [runM, List.getD_eq_getElem?_getD, List.getElem?_replicate]; rw [if_pos hp]; rfl)⟩
  | k + 1 => by
    obtain ⟨h1, h2⟩ := runM_at c hp k
    have hl := length_runM c t k
    simp only [runM]
    rw [getD_setM (by omega)]
    by_cases hq : (t.getD k (0, 0)).2.toNat = p
    · rw [if_pos hq, hq]
      refine ⟨fun j hj he => ?_, ?_⟩
      · rcases Nat.lt_or_ge j k with hlt | hge
        · have := h1 j hlt he; omega
        · obtain rfl : j = k := by omega
          omega
      · by_cases hm : (runM c t k).getD p 0 ≤ (c k : Int)
        · exact .inr ⟨k, by omega, hq, by omega⟩
        · rw [show max ((runM c t k).getD p 0) (c k : Int) = (runM c t k).getD p 0 from by omega]
          rcases h2 with h2 | ⟨j, a, b, d⟩
          · exact .inl h2
          · exact .inr ⟨j, by omega, b, d⟩
    · rw [if_neg hq]
      refine ⟨fun j hj he => ?_, ?_⟩
      · rcases Nat.lt_or_ge j k with hlt | hge
        · exact h1 j hlt he
        · obtain rfl : j = k := by omega
          exact absurd he hq
      · rcases h2 with h2 | ⟨j, a, b, d⟩
        · exact .inl h2
        · exact .inr ⟨j, by omega, b, d⟩
theorem runM_nonneg (c : Nat → Nat) {p : Nat} (hp : p < 61) (k : Nat) : 0 ≤ (runM c t k).getD p 0 := by
  rcases (runM_at (t := t) c hp k).2 with h | ⟨j, _, _, h⟩ <;> omega
theorem runM_same (h : tuneOk t = true) : runM (cF t rest) t t.length = runM (cB t rest) t t.length := by
  have l1 := length_runM (cF t rest) t t.length
  have l2 := length_runM (cB t rest) t t.length
  refine List.ext_getElem (by omega) fun p hp1 hp2 => ?_
  have hp : p < 61 := by omega
  have e1 : (runM (cF t rest) t t.length).getD p 0 = (runM (cF t rest) t t.length)[p] := by rw [List.getD_eq_getElem?_getD, List.getElem?_eq_getElem hp1]; rfl
  have e2 : (runM (cB t rest) t t.length).getD p 0 = (runM (cB t rest) t t.length)[p] := by rw [List.getD_eq_getElem?_getD, List.getElem?_eq_getElem hp2]; rfl
  rw [← e1, ← e2]
  obtain ⟨a1, a2⟩ := runM_at (t := t) (cF t rest) hp t.length
  obtain ⟨b1, b2⟩ := runM_at (t := t) (cB t rest) hp t.length
  have n1 := runM_nonneg (t := t) (cF t rest) hp t.length
  have n2 := runM_nonneg (t := t) (cB t rest) hp t.length
  apply Int.le_antisymm
  · rcases a2 with a2 | ⟨j, c1, c2, c3⟩
    · omega
    · obtain ⟨k, d1, d2, d3⟩ := cF_cB (rest := rest) h c1
      have := b1 k d1 (by rw [d2]; exact c2)
      omega
  · rcases b2 with b2 | ⟨j, c1, c2, c3⟩
    · omega
    · obtain ⟨k, d1, d2, d3⟩ := cB_cF (rest := rest) h c1
      have := a1 k d1 (by rw [d2]; exact c2)
      omega
end
def needed (t : List (Int × Int)) (rest : Int) : List Int := if tuneOk t = true ∧ inR rest 1 100 = true then runM (cB t rest) t t.length else []
theorem needed_no {t : List (Int × Int)} {rest : Int} (h : ¬ (tuneOk t = true ∧ inR rest 1 100 = true)) : needed t rest = [] := by unfold needed; rw [if_neg h]
theorem needed_B {t : List (Int × Int)} {rest : Int} (h : tuneOk t = true ∧ inR rest 1 100 = true) : needed t rest = runM (cB t rest) t t.length := by unfold needed; rw [if_pos h]
theorem needed_F {t : List (Int × Int)} {rest : Int} (h : tuneOk t = true ∧ inR rest 1 100 = true) : needed t rest = runM (cF t rest) t t.length := by
  rw [needed_B h]; exact (runM_same h.1).symm
end Go.Proofs.Ytakllloangpimaa
