/- UpsideDown: what the reference's and the program's answer. -/
import Derived.Test.YtakllloangpimaaBack
import Derived.Test.YtakllloangpimaaTuneS
namespace Go.Proofs.Ytakllloangpimaa
open Go.RowKit
set_option linter.unusedVariables false

/-! ## Plain notions -/
def upF (s : Int) (p : Int × Int) : Int × Int := (p.1, s - p.2)
def upM (l : List (Int × Int)) : List (Int × Int) := if tuneOk l = true ∧ ¬ l.length = 0 then sortU (l.map (upF (lowM l + highM l))) else []
theorem lowTo_bounds {l : List (Int × Int)} (h : ∀ j, j < l.length → 0 ≤ (l.getD j (0, 0)).2 ∧ (l.getD j (0, 0)).2 ≤ 60) (h0 : 0 < l.length) : ∀ n, n ≤ l.length → 0 ≤ lowTo l n ∧ highTo l n ≤ 60 ∧ ∀ j, j < n → lowTo l n ≤ (l.getD j (0, 0)).2 ∧ (l.getD j (0, 0)).2 ≤ highTo l n
  | 0, _ => ⟨(h 0 h0).1, (h 0 h0).2, fun j hj => absurd hj (by omega)⟩
  | n + 1, hn => by
    obtain ⟨h1, h2, h3⟩ := lowTo_bounds h h0 n (by omega)
    obtain ⟨h4, h5⟩ := h n (by omega)
    have e1 : lowTo l (n + 1) = min (lowTo l n) (l.getD n (0, 0)).2 := rfl
    have e2 : highTo l (n + 1) = max (highTo l n) (l.getD n (0, 0)).2 := rfl
    rw [e1, e2]
    refine ⟨by omega, by omega, fun j hj => ?_⟩
    rcases Nat.lt_or_ge j n with hlt | hge
    · obtain ⟨h6, h7⟩ := h3 j hlt
      omega
    · have : j = n := by omega
      subst this; omega
theorem range_in {l : List (Int × Int)} (h : tuneOk l = true) (h0 : ¬ l.length = 0) : 0 ≤ lowM l ∧ highM l ≤ 60 ∧ lowM l ≤ highM l ∧ ∀ j, j < l.length → lowM l ≤ (l.getD j (0, 0)).2 ∧ (l.getD j (0, 0)).2 ≤ highM l := by
  obtain ⟨e1, e2⟩ := range_yes h (by omega)
  obtain ⟨h1, h2, h3⟩ := lowTo_bounds (l := l) (fun j hj => (tuneOk_mem h (mem_getD.1 ⟨j, hj, rfl⟩)).2) (by omega) l.length (Nat.le_refl _)
  rw [e1, e2]
  have := h3 0 (by omega)
  exact ⟨h1, h2, by omega, h3⟩
theorem up_ok {l : List (Int × Int)} (h : tuneOk l = true) (h0 : ¬ l.length = 0) : tuneOk (sortU (l.map (upF (lowM l + highM l)))) = true := by
  have h40 := (tuneOk_parts h).1
  obtain ⟨r1, r2, _, r3⟩ := range_in h h0
  refine tuneOk_of ?_ (sortU_si _) fun p hp => ?_
  · have := length_sortTo (l.map (upF (lowM l + highM l))) (l.map (upF (lowM l + highM l))).length
    unfold sortU
    rw [List.length_map] at *
    omega
  · rw [mem_sortU] at hp
    obtain ⟨q, hq, rfl⟩ := List.mem_map.1 hp
    obtain ⟨j, hj, hqe⟩ := mem_getD.2 hq
    have h5 := tuneOk_mem h hq
    have h6 := r3 j hj
    rw [hqe] at h6
    unfold upF
    simp only
    omega
theorem up_no {l : List (Int × Int)} (h : ¬ (tuneOk l = true ∧ ¬ l.length = 0)) : upM l = [] := if_neg h
theorem up_yes {l : List (Int × Int)} (h : tuneOk l = true) (h0 : ¬ l.length = 0) : upM l = sortU (l.map (upF (lowM l + highM l))) := if_pos ⟨h, h0⟩
end Go.Proofs.Ytakllloangpimaa
