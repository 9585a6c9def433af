/- How an argument reads that is a slice of slices of structs of two ints. -/
import Derived.Test.YtpffdabpmfmimaaFrame
import Derived.Test.YtpffdabpmfmimaaTuneSS
namespace Go.Proofs.Ytpffdabpmfmimaa
open Go.ChangeShapes Go.WideShapes Go.ChangeAt Go.RowKit Go.Joins Go.Deep
section
variable {H : Type} {enc : TypeId × Value → H} {P : Program} {w : World} {base : Nat} {held : Bool}
theorem open_pairss_arg {t e q i0 i1 : TypeId} {f0 f1 : Field} {A : Option Addr} {n c : Nat} {d : DataW H} {p : List MemPlace} (ht : P.underlying t = some (.slice e)) (he : P.underlying e = some (.slice q)) (hq : P.underlying q = some (.struct #[f0, f1]))
    (ce : P.cellsOf e = 1) (cq : P.cellsOf q = 2) (o0 : f0.offset = 0) (o1 : f1.offset = 1) (e0 : f0.type = i0) (e1 : f1.type = i1) (c0 : P.cellsOf i0 = 1) (c1 : P.cellsOf i1 = 1)
    (u0 : P.underlying i0 = some (.int .i64)) (u1 : P.underlying i1 = some (.int .i64))
    (h : DataW.Trod enc P w base (fun _ => true) held t (.slice A n c) d p) :
    ∃ l : List (List (Int × Int)), n = l.length ∧ c ≤ maxLen ∧ n ≤ c ∧ (0 < l.length → ∃ b off, A = some ⟨b, off, none⟩ ∧ SlotsW w b off l) := by
  obtain ⟨fuel, hf⟩ := h
  rcases Go.Deep.open_slice1 ht ce hf with ⟨hcs, _⟩ | ⟨a, len, cap, m, n', V, D, Pl, hcs, _, hl, hm, hmm, _, hi⟩
  · simp [Value.cells] at hcs
    obtain ⟨rfl, rfl, rfl⟩ := hcs
    exact ⟨[], rfl, by simp [maxLen], Nat.le_refl _, fun h => by simp at h⟩
  · simp [Value.cells] at hcs
    obtain ⟨rfl, rfl, rfl⟩ := hcs
    simp only [if_true] at hmm
    subst hmm
    have each : ∀ j, j < m → ∃ y : (Option Addr × Nat) × List (Int × Int), w.cell? (a.add j) = some (.slice y.1.1 y.2.length y.1.2) ∧ y.2.length ≤ maxLen ∧ (0 < y.2.length → ∃ b off, y.1.1 = some ⟨b, off, none⟩ ∧ PairsAt w b off y.2) := by
      intro j hj
      obtain ⟨h0, t0⟩ := hi j hj
      obtain ⟨A', m', c', es⟩ := slice_form he t0
      simp only [List.cons.injEq, and_true] at es
      rw [es] at h0 t0
      obtain ⟨l, rfl, hm', hl', hr⟩ := open_pairs_arg (held := held) (d := D j) (p := Pl j) he hq cq o0 o1 e0 e1 c0 c1 u0 u1 ⟨n', t0⟩
      exact ⟨((A', c'), l), h0, Nat.le_trans hl' hm', hr⟩
    obtain ⟨g, hg⟩ := Go.Deep.choose_lt each
    refine ⟨(List.range n).map fun j => (g j).2, by simp, hm, hl, fun h => ?_⟩
    simp only [List.length_map, List.length_range] at h
    have h0 := (hg 0 (by omega)).1
    rw [show a.add 0 = a from by simp [Addr.add]] at h0
    have ha := spot_of_cell h0
    refine ⟨a.block, a.off, by rw [← ha], fun j hj => ?_⟩
    simp only [List.length_map, List.length_range] at hj
    obtain ⟨h1, h2, h3⟩ := hg j (by omega)
    rw [ha, add_none] at h1
    have hgd : ((List.range n).map fun j => (g j).2).getD j [] = (g j).2 := by
      rw [List.getD_eq_getElem?_getD, List.getElem?_map, List.getElem?_range hj]; rfl
    rw [hgd]
    exact ⟨_, _, h1, h2, h3⟩
end
end Go.Proofs.Ytpffdabpmfmimaa
