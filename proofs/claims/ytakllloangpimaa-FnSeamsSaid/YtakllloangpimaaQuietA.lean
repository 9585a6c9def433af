/- QuietAngle, the plain law: the longest free arc's first angle, found over all angles or over those alone at which an arc begins. No program is named here. -/
import Derived.WalkKit
namespace Go.Proofs.Ytakllloangpimaa

/-- From a on, n angles are free, and not one more (at most S are asked). -/
def IsRun (f : Int → Bool) (S : Nat) (a : Int) (n : Nat) : Prop := n ≤ S ∧ (∀ j : Nat, j < n → f (a + (j : Int)) = true) ∧ (n < S → f (a + (n : Int)) = false)
theorem IsRun.unique {f : Int → Bool} {S : Nat} {a : Int} {n m : Nat} (h : IsRun f S a n) (k : IsRun f S a m) : n = m := by
  obtain ⟨h1, h2, h3⟩ := h
  obtain ⟨k1, k2, k3⟩ := k
  rcases Nat.lt_trichotomy n m with hlt | he | hlt
  · have := k2 n hlt
    rw [h3 (by omega)] at this; cases this
  · exact he
  · have := h2 m hlt
    rw [k3 (by omega)] at this; cases this
theorem exists_run (f : Int → Bool) (a : Int) : ∀ S : Nat, ∃ n, IsRun f S a n
  | 0 => ⟨0, Nat.le_refl _, fun j hj => absurd hj (by omega), fun h => absurd h (by omega)⟩
  | S + 1 => by
    obtain ⟨n, h1, h2, h3⟩ := exists_run f a S
    by_cases hn : n < S
    · exact ⟨n, by omega, h2, fun _ => h3 hn⟩
    · have : n = S := by omega
      subst this
      cases hf : f (a + (n : Int))
      · exact ⟨n, by omega, h2, fun _ => hf⟩
      · refine ⟨n + 1, by omega, fun j hj => ?_, fun h => absurd h (by omega)⟩
        rcases Nat.lt_or_ge j n with hlt | hge
        · exact h2 j hlt
        · have : j = n := by omega
          subst this; exact hf
noncomputable def runF (f : Int → Bool) (S : Nat) (a : Nat) : Nat := Classical.choose (exists_run f (a : Int) S)
theorem runF_is (f : Int → Bool) (S : Nat) (a : Nat) : IsRun f S (a : Int) (runF f S a) := Classical.choose_spec (exists_run f (a : Int) S)
theorem runF_eq {f : Int → Bool} {S a n : Nat} (h : IsRun f S (a : Int) n) : runF f S a = n := (runF_is f S a).unique h

/-- Of the angles below a for which P holds, b is the first of those with the longest run, and m is its length (b is -1 if there is none). -/
def Best (r : Nat → Nat) (P : Nat → Prop) (a : Nat) (b : Int) (m : Nat) : Prop :=
  (m = 0 ∧ b = -1 ∧ ∀ x, x < a → P x → r x = 0) ∨
  (0 < m ∧ ∃ y : Nat, y < a ∧ P y ∧ b = (y : Int) ∧ r y = m ∧ (∀ x, x < a → P x → r x ≤ m) ∧ ∀ x, x < y → P x → r x < m)
section
variable {r : Nat → Nat} {P : Nat → Prop} {a m : Nat} {b : Int}
theorem Best.start (r : Nat → Nat) (P : Nat → Prop) : Best r P 0 (-1) 0 := .inl ⟨rfl, rfl, fun x hx => absurd hx (by omega)⟩
theorem Best.skip (h : Best r P a b m) (hp : ¬ P a) : Best r P (a + 1) b m := by
  have he : ∀ x, x < a + 1 → P x → x < a := fun x hx hP => by
    rcases Nat.lt_or_ge x a with h | h
    · exact h
    · have : x = a := by omega
      subst this; exact absurd hP hp
  rcases h with ⟨h1, h2, h3⟩ | ⟨h1, y, h2, h3, h4, h5, h6, h7⟩
  · exact .inl ⟨h1, h2, fun x hx hP => h3 x (he x hx hP) hP⟩
  · exact .inr ⟨h1, y, by omega, h3, h4, h5, fun x hx hP => h6 x (he x hx hP) hP, h7⟩
theorem Best.less (h : Best r P a b m) (hr : r a ≤ m) : Best r P (a + 1) b m := by
  rcases h with ⟨h1, h2, h3⟩ | ⟨h1, y, h2, h3, h4, h5, h6, h7⟩
  · refine .inl ⟨h1, h2, fun x hx hP => ?_⟩
    rcases Nat.lt_or_ge x a with hlt | hge
    · exact h3 x hlt hP
    · have : x = a := by omega
      subst this; omega
  · refine .inr ⟨h1, y, by omega, h3, h4, h5, fun x hx hP => ?_, h7⟩
    rcases Nat.lt_or_ge x a with hlt | hge
    · exact h6 x hlt hP
    · have : x = a := by omega
      subst this; omega
theorem Best.more (h : Best r P a b m) (hp : P a) (hr : m < r a) : Best r P (a + 1) (a : Int) (r a) := by
  refine .inr ⟨by omega, a, by omega, hp, rfl, rfl, fun x hx hP => ?_, fun x hx hP => ?_⟩
  · rcases Nat.lt_or_ge x a with hlt | hge
    · rcases h with ⟨_, _, h3⟩ | ⟨_, y, _, _, _, _, h6, _⟩
      · have := h3 x hlt hP; omega
      · have := h6 x hlt hP; omega
    · have : x = a := by omega
      subst this; exact Nat.le_refl _
  · rcases h with ⟨_, _, h3⟩ | ⟨_, y, _, _, _, _, h6, _⟩
    · have := h3 x hx hP; omega
    · have := h6 x hx hP; omega
/-- The first longest run over all angles begins where P holds: then P's own is the same. -/
theorem Best.same {S m' : Nat} {b' : Int} (h : Best r (fun _ => True) S b m) (k : Best r P S b' m')
    (hP : ∀ y, y < S → 0 < r y → (∀ x, x < S → r x ≤ r y) → (∀ x, x < y → r x < r y) → P y) : b = b' := by
  rcases h with ⟨h1, h2, h3⟩ | ⟨h1, y, h2, _, h4, h5, h6, h7⟩
  · rcases k with ⟨k1, k2, k3⟩ | ⟨k1, z, k2, k3, k4, k5, k6, k7⟩
    · rw [h2, k2]
    · have := h3 z k2 trivial; omega
  · have hy : P y := hP y h2 (by omega) (fun x hx => by rw [h5]; exact h6 x hx trivial) (fun x hx => by rw [h5]; exact h7 x hx trivial)
    rcases k with ⟨k1, k2, k3⟩ | ⟨k1, z, k2, k3, k4, k5, k6, k7⟩
    · have := k3 y h2 hy; omega
    · have e1 := k6 y h2 hy
      have e2 := h6 z k2 trivial
      rcases Nat.lt_trichotomy y z with hlt | he | hlt
      · have := k7 y hlt hy; omega
      · rw [h4, k4, he]
      · have := h7 z hlt trivial; omega
end
section
variable {f : Int → Bool} {S : Nat}
/-- An arc that goes on from the angle ahead is no longer than that one's. -/
theorem run_before {a : Nat} (ha : 0 < a) (hf : f ((a : Int) - 1) = true) : runF f S a ≤ runF f S (a - 1) := by
  obtain ⟨h1, h2, h3⟩ := runF_is f S a
  obtain ⟨k1, k2, k3⟩ := runF_is f S (a - 1)
  have hc : ((a - 1 : Nat) : Int) = (a : Int) - 1 := by omega
  rw [hc] at k2 k3
  refine Nat.le_of_not_lt fun hlt => ?_
  have hn := k3 (by omega)
  generalize runF f S (a - 1) = m at *
  match m with
  | 0 => rw [show (a : Int) - 1 + ((0 : Nat) : Int) = (a : Int) - 1 by omega, hf] at hn; cases hn
  | m + 1 =>
    have := h2 m (by omega)
    rw [show (a : Int) - 1 + ((m + 1 : Nat) : Int) = (a : Int) + (m : Int) by omega, this] at hn; cases hn
/-- .. and at angle 0, going around, it is shorter than the last one's. -/
theorem run_around (hS : 0 < S) (hper : ∀ j : Nat, j ≤ S → f ((S : Int) + (j : Int)) = f (j : Int)) (hf : f ((S : Int) - 1) = true) {y : Nat} (hy : y < S) (hn : f (y : Int) = false) : runF f S 0 < runF f S (S - 1) := by
  obtain ⟨h1, h2, h3⟩ := runF_is f S 0
  have hlt : runF f S 0 < S := by
    refine Nat.lt_of_not_le fun hge => ?_
    have := h2 y (by omega)
    rw [show ((0 : Nat) : Int) + (y : Int) = (y : Int) by omega, hn] at this; cases this
  have : runF f S (S - 1) = runF f S 0 + 1 := by
    refine runF_eq ⟨by omega, fun j hj => ?_, fun h => ?_⟩
    · match j with
      | 0 => rw [show ((S - 1 : Nat) : Int) + ((0 : Nat) : Int) = (S : Int) - 1 by omega]; exact hf
      | j + 1 =>
        rw [show ((S - 1 : Nat) : Int) + ((j + 1 : Nat) : Int) = (S : Int) + (j : Int) by omega, hper j (by omega)]
        have := h2 j (by omega)
        rwa [show ((0 : Nat) : Int) + (j : Int) = (j : Int) by omega] at this
    · rw [show ((S - 1 : Nat) : Int) + ((runF f S 0 + 1 : Nat) : Int) = (S : Int) + (runF f S 0 : Int) by omega, hper _ (by omega)]
      have := h3 hlt
      rwa [show ((0 : Nat) : Int) + (runF f S 0 : Int) = (runF f S 0 : Int) by omega] at this
  omega
theorem best_same (hS : 0 < S) (hper : ∀ j : Nat, j ≤ S → f ((S : Int) + (j : Int)) = f (j : Int)) (hback : f (-1) = f ((S : Int) - 1)) {y : Nat} (hy : y < S) (hn : f (y : Int) = false)
    {b b' : Int} {m m' : Nat} (h : Best (runF f S) (fun _ => True) S b m) (k : Best (runF f S) (fun a => f ((a : Int) - 1) = false) S b' m') : b = b' := by
  refine h.same k fun a ha h0 hmax hfirst => ?_
  show f ((a : Int) - 1) = false
  cases hf : f ((a : Int) - 1)
  · rfl
  · rcases Nat.eq_zero_or_pos a with h | h
    · subst h
      rw [show ((0 : Nat) : Int) - 1 = -1 by omega, hback] at hf
      have := run_around hS hper hf hy hn
      have := hmax (S - 1) (by omega)
      omega
    · have := run_before (S := S) h hf
      have := hfirst (a - 1) (by omega)
      omega
theorem best_unique {r : Nat → Nat} {b b' : Int} {m m' : Nat} (h : Best r (fun _ => True) S b m) (k : Best r (fun _ => True) S b' m') : b = b' := h.same k fun _ _ _ _ _ => trivial
end
end Go.Proofs.Ytakllloangpimaa
