/- Backward: what the reference's and the program's answer. -/
import Derived.Test.YtakllloangpimaaSn
import Derived.Test.YtakllloangpimaaChgB
namespace Go.Proofs.Ytakllloangpimaa
open Go.RowKit
set_option linter.unusedVariables false

/-! ## Plain notions -/
def sumM (l : List (Int × Int)) : Int := (l.getD 0 (0, 0)).1 + (l.getD (l.length - 1) (0, 0)).1
def backF (s : Int) (p : Int × Int) : Int × Int := (s - p.1, p.2)
def backM (l : List (Int × Int)) : List (Int × Int) := if tuneOk l = true ∧ ¬ l.length = 0 then sortU (l.map (backF (sumM l))) else []
theorem si_time {l : List (Int × Int)} (h : SI l) {i j : Nat} (hij : i ≤ j) (hj : j < l.length) : (l.getD i (0, 0)).1 ≤ (l.getD j (0, 0)).1 := by
  rcases Nat.lt_or_ge i j with hlt | hge
  · have := List.pairwise_iff_getElem.1 h i j (by omega) hj hlt
    rw [← getD_get (show i < l.length by omega), ← getD_get hj] at this
    unfold lt2 at this; omega
  · have : i = j := by omega
    subst this; exact Int.le_refl _
theorem back_ok {l : List (Int × Int)} (h : tuneOk l = true) (h0 : ¬ l.length = 0) : tuneOk (sortU (l.map (backF (sumM l)))) = true := by
  have hsi := tuneOk_si h
  have h40 := (tuneOk_parts h).1
  refine tuneOk_of ?_ (sortU_si _) fun p hp => ?_
  · have := length_sortTo (l.map (backF (sumM l))) (l.map (backF (sumM l))).length
    unfold sortU
    rw [List.length_map] at *
    omega
  · rw [mem_sortU] at hp
    obtain ⟨q, hq, rfl⟩ := List.mem_map.1 hp
    obtain ⟨j, hj, hqe⟩ := mem_getD.2 hq
    have h1 := si_time hsi (Nat.zero_le j) hj
    have h2 := si_time hsi (show j ≤ l.length - 1 by omega) (by omega)
    have h3 := tuneOk_mem h (mem_getD.1 ⟨0, by omega, rfl⟩)
    have h4 := tuneOk_mem h (mem_getD.1 ⟨l.length - 1, by omega, rfl⟩)
    have h5 := tuneOk_mem h hq
    rw [hqe] at h1 h2
    unfold backF sumM
    simp only
    omega
theorem back_no {l : List (Int × Int)} (h : ¬ (tuneOk l = true ∧ ¬ l.length = 0)) : backM l = [] := if_neg h
theorem back_yes {l : List (Int × Int)} (h : tuneOk l = true) (h0 : ¬ l.length = 0) : backM l = sortU (l.map (backF (sumM l))) := if_pos ⟨h, h0⟩
theorem sortN_map {l : List (Int × Int)} {f : Int × Int → Int × Int} (h : l.length ≤ 40) : sortN (l.map f) = sortU (l.map f) := if_pos (by rw [List.length_map]; exact h)
end Go.Proofs.Ytakllloangpimaa
