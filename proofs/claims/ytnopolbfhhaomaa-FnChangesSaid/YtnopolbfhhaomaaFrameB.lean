/- How an argument reads that is a slice of bytes. -/
import Derived.Test.YtnopolbfhhaomaaFrame
import Derived.Test.YtnopolbfhhaomaaDraw
namespace Go.Proofs.Ytnopolbfhhaomaa
open Go.ChangeShapes Go.WideShapes Go.ChangeAt Go.RowKit Go.Joins Go.Deep
section
variable {H : Type} {enc : TypeId × Value → H} {P : Program} {w : World} {base : Nat} {held : Bool}
def BytesAt (w : World) (b off : Nat) (l : List Int) : Prop := ∀ j, j < l.length → 0 ≤ l.getD j 0 ∧ l.getD j 0 < 256 ∧ w.cell? ⟨b, off + j, none⟩ = some (.int .u8 (l.getD j 0))
theorem open_bytes_arg {t e : TypeId} {A : Option Addr} {n c : Nat} {d : DataW H} {p : List MemPlace} (ht : P.underlying t = some (.slice e)) (he : P.underlying e = some (.int .u8)) (hc : P.cellsOf e = 1)
    (h : DataW.Trod enc P w base (fun _ => true) held t (.slice A n c) d p) :
    ∃ l : List Int, n = l.length ∧ c ≤ maxLen ∧ n ≤ c ∧ (0 < l.length → ∃ b off, A = some ⟨b, off, none⟩ ∧ BytesAt w b off l) := by
  obtain ⟨fuel, hf⟩ := h
  rcases open_ints ht he hc hf with ⟨hcs, _⟩ | ⟨a, len, cap, zs, hcs, _, hl, hm, hz, _, hcell, hwf⟩
  · simp [Value.cells] at hcs
    obtain ⟨rfl, rfl, rfl⟩ := hcs
    exact ⟨[], rfl, by simp [maxLen], Nat.le_refl _, fun h => by simp at h⟩
  · simp [Value.cells] at hcs
    obtain ⟨rfl, rfl, rfl⟩ := hcs
    simp only [if_true] at hz
    have hlen : (zs.take n).length = n := by simp; omega
    refine ⟨zs.take n, hlen.symm, hm, hl, fun h => ?_⟩
    have h0 := hcell 0 (by omega)
    rw [show a.add 0 = a from by simp [Addr.add]] at h0
    have ha := spot_of_cell h0
    refine ⟨a.block, a.off, by rw [← ha], fun j hj => ?_⟩
    have hj' : j < n := by omega
    have h1 := hcell j (by omega)
    have he1 : (zs.take n).getD j 0 = zs.getD j 0 := by rw [List.getD_eq_getElem?_getD, List.getD_eq_getElem?_getD, List.getElem?_take, if_pos hj']
    rw [ha, add_none] at h1
    have hmem : zs.getD j 0 ∈ zs := by
      rw [List.getD_eq_getElem?_getD, List.getElem?_eq_getElem (by omega)]
      exact List.getElem_mem _
    have hw : IntKind.u8.min ≤ zs.getD j 0 ∧ zs.getD j 0 ≤ IntKind.u8.max := by simpa [Lit.wf] using hwf _ hmem
    have m0 : IntKind.u8.min = 0 := by decide
    have m1 : IntKind.u8.max = 255 := by decide
    rw [m0, m1] at hw
    rw [he1]
    exact ⟨by omega, by omega, h1⟩
theorem bytes_ru {A : Option Addr} {l : List Int} (hn : l.length ≤ 1048576) (h : 0 < l.length → ∃ b off, A = some ⟨b, off, none⟩ ∧ BytesAt w b off l) : RU w A l.length := by
  refine ⟨hn, fun hl => ?_⟩
  obtain ⟨b, off, hA, hj⟩ := h hl
  refine ⟨b, off, hA, fun j hjl => ?_⟩
  obtain ⟨h1, h2, h3⟩ := hj j hjl
  exact ⟨(l.getD j 0).toNat, by omega, by rw [h3, show (((l.getD j 0).toNat : Nat) : Int) = l.getD j 0 by omega]⟩
end
end Go.Proofs.Ytnopolbfhhaomaa
