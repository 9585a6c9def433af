/- append of a whole slice of ints, at a step of a region that draws its order. No program is named here. -/
import Derived.Test.YtakllloangpimaaApp
import Derived.Test.YtakllloangpimaaBase2
namespace Go.Proofs.Ytakllloangpimaa
open Go.RowKit
set_option linter.unusedVariables false
theorem icells_news {w : World} {X : Option Addr} {l : List Int} (h : RI w X l) : ∀ ad, X = some ad → ∀ j u, (l.map (Value.int .i64))[j]? = some u → w.cell? (ad.add j) = some u := by
  intro ad hX j u hj
  have hlt : j < (l.map (Value.int .i64)).length := (List.getElem?_eq_some_iff.1 hj).1
  rw [List.length_map] at hlt
  obtain ⟨b, off, hA, hP⟩ := h.2 (by omega)
  rw [hX] at hA
  injection hA with hA
  subst hA
  have hadd : (⟨b, off, none⟩ : Addr).add j = ⟨b, off + j, none⟩ := by unfold Addr.add; by_cases hj0 : j = 0 <;> simp [hj0]
  rw [hadd, hP.2 j hlt, ← hj, List.getElem?_map, List.getD_eq_getElem?_getD, List.getElem?_eq_getElem hlt]; rfl
theorem icells_one (l : List Int) : ∀ u ∈ l.map (Value.int .i64), u.oneCell' = true := by
  intro u hu
  obtain ⟨b, _, rfl⟩ := List.mem_map.1 hu
  rfl
theorem step_app_ints {P : Program} {ops : Array Oper} {o : Oper} {a : Act} {K : Act → World → Prop} {Q : Exit → Act → World → Prop} {E : Prop} {wr : World} {z : Value} {bytes lo hi c c2 g ln mn r : Nat} {ad : Addr} {X : Option Addr} {l m : List Int} (s x : Operand) (t e : TypeId) (hgd : o.guard = none)
    (ho : o.op = .call { callee := .builtin .append, args := #[s, x], argTypes := #[t, t] }) (ht : P.underlying t = some (.slice e))
    (hinfo : (P.info? e).map (fun i => (i.zero, i.size, i.bytes)) = some (some z, 1, bytes)) (hzs : z.cells.size = 1) (hby : bytes ≤ 1024)
    (hs : a.eval s = .slice (some ⟨g, 0, none⟩) ln c) (hx : a.eval x = .slice X mn c2) (hXa : Hid (X = some ad)) (hln : Hid (l.length = ln)) (hmn : Hid (m.length = mn)) (hrn : Hid (ln + mn = r)) (hown : OwnI e lo hi wr (some ⟨g, 0, none⟩) c l) (hlo : lo ≤ wr.heap.size) (hr : RI wr (some ad) m) (hl : r ≤ 1048576)
    (h : ∀ g' c' w', OwnI e lo w'.heap.size w' (some ⟨g', 0, none⟩) c' (l ++ m) → Below lo wr w' → K (a.put o.dst (.slice (some ⟨g', 0, none⟩) r c')) w') :
    if Region.wanted o (yielded ops a.tmps) = true then Oper.wp P o a wr K Q else E := by
  have h1 := hln.out
  have h2 := hmn.out
  have h3 := hrn.out
  have h4 := hXa.out
  subst h1 h2 h3 h4
  have hw : Region.wanted o (yielded ops a.tmps) = true := by simp [Region.wanted, hgd]
  rw [if_pos hw]
  obtain ⟨i, hi, hz0, hz1, hz2⟩ := info_parts hinfo
  have hb : (l.length + m.length) * bytes ≤ 140737488355328 := Nat.le_trans (Nat.mul_le_mul (show l.length + m.length ≤ 4194304 by omega) hby) (by decide)
  refine wp_append_own _ s x t ho lo e i z 1 bytes ht hi hz0 hz1 hz2 hzs (by decide) _ _ _ hs hown.row ad m.length c2 (m.map (Value.int .i64)) hx (by rw [List.length_map, Nat.mul_one]) (icells_news hr ad rfl) (icells_one m) (by simp [maxLen]; omega) hb hlo ?_
  intro v' w' h2 h3 h4
  obtain ⟨A', c', hv, hob, hlt⟩ := ownsRow_form0 h2
  subst hv
  cases A' with
  | none =>
    have := h2.2
    rcases this with ⟨hv, _⟩ | ⟨_, _, _, hv, _⟩
    · cases (h4.1 hv).1
    · cases hv
  | some q =>
    have hq : ∃ g', q = ⟨g', 0, none⟩ := by
      rcases h2.2 with ⟨hv, _⟩ | ⟨g', _, _, hv, _⟩
      · cases hv
      · injection hv with hA _ _
        injection hA with hA
        exact ⟨g', hA⟩
    obtain ⟨g', rfl⟩ := hq
    have hbel : Below lo wr w' := by
      refine Below.grown (Below.refl lo wr) h3 hlo fun k hk => ?_
      simp only [Value.ownBlock, Option.some.injEq] at hk
      subst hk
      exact hown.c.lo_le _ rfl
    rw [← List.map_append] at h2
    exact h g' c' w' ⟨by rw [List.length_append]; exact h2, fun a ha => by injection ha with ha; subst ha; exact hlt _ rfl, Nat.le_refl _, by rw [List.length_append]; exact hl⟩ hbel
section
variable {w w' : World} {l : List Int}
theorem RI.front {b off k : Nat} (h : RI w (some ⟨b, off, none⟩) l) (hk : k ≤ l.length) : RI w (some ⟨b, off, none⟩) (l.take k) := by
  refine ⟨by rw [List.length_take]; have := h.1; omega, fun hl => ?_⟩
  rw [List.length_take] at hl
  obtain ⟨b', off', hA, hlt, hP⟩ := h.2 (by omega)
  refine ⟨b', off', hA, hlt, fun j hj => ?_⟩
  rw [List.length_take] at hj
  have : (l.take k).getD j 0 = l.getD j 0 := by rw [List.getD_eq_getElem?_getD, List.getElem?_take, if_pos (by omega), ← List.getD_eq_getElem?_getD]
  rw [this]
  exact hP j (by omega)
theorem RI.back {b off k : Nat} (h : RI w (some ⟨b, off, none⟩) l) (hk : k ≤ l.length) : RI w (some ⟨b, off + k, none⟩) (l.drop k) := by
  refine ⟨by rw [List.length_drop]; have := h.1; omega, fun hl => ?_⟩
  rw [List.length_drop] at hl
  obtain ⟨b', off', hA, hlt, hP⟩ := h.2 (by omega)
  injection hA with hA
  injection hA with h1 h2 _
  subst h1 h2
  refine ⟨b, off + k, rfl, hlt, fun j hj => ?_⟩
  rw [List.length_drop] at hj
  have : (l.drop k).getD j 0 = l.getD (k + j) 0 := by rw [List.getD_eq_getElem?_getD, List.getElem?_drop, ← List.getD_eq_getElem?_getD]
  rw [this]
  have := hP (k + j) (by omega)
  rwa [show off + (k + j) = off + k + j by omega] at this
end
end Go.Proofs.Ytakllloangpimaa
