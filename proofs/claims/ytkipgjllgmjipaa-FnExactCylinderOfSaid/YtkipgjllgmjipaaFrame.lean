/- How the arguments of the laws read: slices of ints and of pairs of ints, structs of two ints, cylinders. No function of the program is named here. -/
import Derived.Test.YtkipgjllgmjipaaRows
import Derived.Test.YtkipgjllgmjipaaBase
import Derived.ProofKit
import Derived.OpenShut
import Derived.ShutString
import Derived.ChangeOld
import Derived.Deep.SlicePairs
import Derived.Lib.SmallJoins
import Derived.Deep.Fields
namespace Go.Proofs.Ytkipgjllgmjipaa
open Go.ChangeShapes Go.WideShapes Go.ChangeAt Go.RowKit Go.Joins Go.Deep

theorem Try_own : ownKnob Try.prog.godebug = none := by kernel_rfl
theorem Try_laidOut : laidOutB Try.prog = true := by kernel_rfl

section
variable {H : Type} {enc : TypeId × Value → H} {P : Program} {w : World} {base : Nat} {held : Bool}

theorem lt_of_cell {a : Addr} {v : Value} (h : w.cell? a = some v) : a.block < w.heap.size := World.block_lt_of_cell? w a h
theorem spot_of_cell {a : Addr} {v : Value} (h : w.cell? a = some v) : a = ⟨a.block, a.off, none⟩ := by
  obtain ⟨b, o, s⟩ := a
  have : s = none := World.cell?_spot h
  subst this
  rfl
theorem add_none (b o j : Nat) : (⟨b, o, none⟩ : Addr).add j = ⟨b, o + j, none⟩ := by
  unfold Addr.add
  by_cases h : j = 0 <;> simp [h]

/-- A slice of ints that came in. -/
theorem open_ints_arg {t e : TypeId} {A : Option Addr} {n c : Nat} {d : DataW H} {p : List MemPlace} (ht : P.underlying t = some (.slice e)) (he : P.underlying e = some (.int .i64)) (hc : P.cellsOf e = 1)
    (h : DataW.Trod enc P w base (fun _ => true) held t (.slice A n c) d p) :
    ∃ l : List Int, n = l.length ∧ c ≤ maxLen ∧ n ≤ c ∧ (0 < l.length → ∃ b off, A = some ⟨b, off, none⟩ ∧ IntsAt w b off l) := by
  obtain ⟨fuel, hf⟩ := h
  rcases open_ints ht he hc hf with ⟨hcs, _⟩ | ⟨a, len, cap, zs, hcs, _, hl, hm, hz, _, hcell, _⟩
  · simp [Value.cells] at hcs
    obtain ⟨rfl, rfl, rfl⟩ := hcs
    exact ⟨[], rfl, by simp [maxLen], Nat.le_refl _, fun h => by simp at h⟩
  · simp [Value.cells] at hcs
    obtain ⟨rfl, rfl, rfl⟩ := hcs
    simp only [if_true] at hz
    have hlen : (zs.take n).length = n := by simp; omega
    refine ⟨zs.take n, hlen.symm, hm, hl, fun h => ?_⟩
    have h0 := hcell 0 (by omega)
    rw [show a.add 0 = a from by simp [Addr.add]] at h0
    have ha := spot_of_cell h0
    refine ⟨a.block, a.off, by rw [← ha], lt_of_cell h0, fun j hj => ?_⟩
    have hj' : j < n := by omega
    have h1 := hcell j (by omega)
    rw [ha, add_none] at h1
    rw [h1, List.getD_eq_getElem?_getD, List.getD_eq_getElem?_getD, List.getElem?_take, if_pos hj']

/-- A slice of structs of two ints that came in. -/
theorem open_pairs_arg {t e i0 i1 : TypeId} {f0 f1 : Field} {A : Option Addr} {n c : Nat} {d : DataW H} {p : List MemPlace} (ht : P.underlying t = some (.slice e)) (he : P.underlying e = some (.struct #[f0, f1]))
    (ce : P.cellsOf e = 2) (o0 : f0.offset = 0) (o1 : f1.offset = 1) (e0 : f0.type = i0) (e1 : f1.type = i1) (c0 : P.cellsOf i0 = 1) (c1 : P.cellsOf i1 = 1)
    (u0 : P.underlying i0 = some (.int .i64)) (u1 : P.underlying i1 = some (.int .i64))
    (h : DataW.Trod enc P w base (fun _ => true) held t (.slice A n c) d p) :
    ∃ l : List (Int × Int), n = l.length ∧ c ≤ maxLen ∧ n ≤ c ∧ (0 < l.length → ∃ b off, A = some ⟨b, off, none⟩ ∧ PairsAt w b off l) := by
  subst e0 e1
  obtain ⟨fuel, hf⟩ := h
  rcases Go.Deep.open_slice_pairs ht he ce o0 o1 c0 c1 hf with ⟨hcs, _⟩ | ⟨a, len, cap, m, n', V0, V1, D0, D1, P0, P1, hcs, _, hl, hm, hmm, _, hi⟩
  · simp [Value.cells] at hcs
    obtain ⟨rfl, rfl, rfl⟩ := hcs
    exact ⟨[], rfl, by simp [maxLen], Nat.le_refl _, fun h => by simp at h⟩
  · simp [Value.cells] at hcs
    obtain ⟨rfl, rfl, rfl⟩ := hcs
    simp only [if_true] at hmm
    subst hmm
    have each : ∀ i, i < m → ∃ q : Int × Int, w.cell? (a.add (i * 2)) = some (.int .i64 q.1) ∧ w.cell? (a.add (i * 2 + 1)) = some (.int .i64 q.2) := by
      intro i him
      obtain ⟨h0, h1, t0, t1⟩ := hi i him
      obtain ⟨x, ex, _, _⟩ := DataW.trod_int u0 t0
      obtain ⟨y, ey, _, _⟩ := DataW.trod_int u1 t1
      simp only [List.cons.injEq, and_true] at ex ey
      exact ⟨(x, y), by rw [h0, ex], by rw [h1, ey]⟩
    obtain ⟨g, hg⟩ := Go.Deep.choose_lt each
    refine ⟨(List.range n).map g, by simp, hm, hl, fun h => ?_⟩
    simp only [List.length_map, List.length_range] at h
    have h0 := (hg 0 (by omega)).1
    rw [show a.add (0 * 2) = a from by simp [Addr.add]] at h0
    have ha := spot_of_cell h0
    refine ⟨a.block, a.off, by rw [← ha], lt_of_cell h0, fun j hj => ?_⟩
    simp only [List.length_map, List.length_range] at hj
    have h1 := hg j (by omega)
    rw [ha, add_none, add_none] at h1
    have hgd : ((List.range n).map g).getD j (0, 0) = g j := by
      rw [List.getD_eq_getElem?_getD, List.getElem?_map, List.getElem?_range hj]; rfl
    rw [hgd]
    exact ⟨h1.1, by rw [show a.off + j * 2 + 1 = a.off + (j * 2 + 1) from by omega]; exact h1.2⟩

/-- A struct of two ints that came in. -/
theorem open_pair_arg {r : Reach} {b0 : Nat} {t : TypeId} {f0 f1 : Field} {v : Value} {d : DataW H} {p : List MemPlace} (hs : P.underlying t = some (.struct #[f0, f1])) (hone : oneCellFields P #[f0, f1] = true) (hC : P.cellsOf t = 2)
    (u0 : P.underlying f0.type = some (.int .i64)) (u1 : P.underlying f1.type = some (.int .i64)) (hv : Value.okWide P w r b0 t v) (h : DataW.Trod enc P w base (fun _ => true) held t v d p) :
    ∃ x y : Int, v = .agg #[.int .i64 x, .int .i64 y] := by
  obtain ⟨v0, v1, y0, y1, n, rfl, _, _, h0, h1⟩ := open_agg2 hs hone hC hv h
  obtain ⟨x, ex, _, _⟩ := DataW.trod_int u0 h0
  obtain ⟨y, ey, _, _⟩ := DataW.trod_int u1 h1
  simp only [List.cons.injEq, and_true] at ex ey
  exact ⟨x, y, by rw [ex, ey]⟩

/-- A struct of two ints and a slice of structs of two ints that came in. -/
theorem open_cyl_arg {r : Reach} {b0 : Nat} {t e i0 i1 : TypeId} {f0 f1 f2 g0 g1 : Field} {v : Value} {d : DataW H} {p : List MemPlace} (hs : P.underlying t = some (.struct #[f0, f1, f2])) (hone : oneCellFields P #[f0, f1, f2] = true) (hC : P.cellsOf t = 3)
    (u0 : P.underlying f0.type = some (.int .i64)) (u1 : P.underlying f1.type = some (.int .i64)) (u2 : P.underlying f2.type = some (.slice e)) (he : P.underlying e = some (.struct #[g0, g1]))
    (ce : P.cellsOf e = 2) (o0 : g0.offset = 0) (o1 : g1.offset = 1) (e0 : g0.type = i0) (e1 : g1.type = i1) (c0 : P.cellsOf i0 = 1) (c1 : P.cellsOf i1 = 1)
    (k0 : P.underlying i0 = some (.int .i64)) (k1 : P.underlying i1 = some (.int .i64)) (hv : Value.okWide P w r b0 t v) (h : DataW.Trod enc P w base (fun _ => true) held t v d p) :
    ∃ (x y : Int) (A : Option Addr) (c : Nat) (l : List (Int × Int)), v = .agg #[.int .i64 x, .int .i64 y, .slice A l.length c] ∧ c ≤ maxLen ∧ l.length ≤ c ∧ (0 < l.length → ∃ b off, A = some ⟨b, off, none⟩ ∧ PairsAt w b off l) := by
  obtain ⟨v0, v1, v2, y0, y1, y2, n, rfl, _, _, h0, h1, h2⟩ := open_agg3 hs hone hC hv h
  obtain ⟨x, ex, _, _⟩ := DataW.trod_int u0 h0
  obtain ⟨y, ey, _, _⟩ := DataW.trod_int u1 h1
  obtain ⟨A, m, c, es⟩ := slice_form u2 h2
  simp only [List.cons.injEq, and_true] at ex ey es
  subst ex ey es
  obtain ⟨l, rfl, hm, hl, hr⟩ := open_pairs_arg (held := held) (d := y2.1) (p := y2.2) u2 he ce o0 o1 e0 e1 c0 c1 k0 k1 ⟨n, h2⟩
  exact ⟨x, y, A, c, l, rfl, hm, hl, hr⟩

end

end Go.Proofs.Ytkipgjllgmjipaa
