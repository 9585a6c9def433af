/- append of a whole slice of pairs, at a step of a region that draws its order. No program is named here. -/
import Derived.Test.YtkipgjllgmjipaaApp
namespace Go.Proofs.Ytkipgjllgmjipaa
open Go.RowKit
theorem step_app_pairs {P : Program} {ops : Array Oper} {o : Oper} {a : Act} {K : Act → World → Prop} {Q : Exit → Act → World → Prop} {E : Prop} {wr : World} {z : Value} {bytes lo hi c c2 g : Nat} {ad : Addr} {l m : List (Int × Int)} (s x : Operand) (t e : TypeId) (hgd : o.guard = none)
    (ho : o.op = .call { callee := .builtin .append, args := #[s, x], argTypes := #[t, t] }) (ht : P.underlying t = some (.slice e))
    (hinfo : (P.info? e).map (fun i => (i.zero, i.size, i.bytes)) = some (some z, 2, bytes)) (hzs : z.cells.size = 2) (hby : bytes ≤ 1024)
    (hs : a.eval s = .slice (some ⟨g, 0, none⟩) l.length c) (hx : a.eval x = .slice (some ad) m.length c2) (hown : OwnP e lo hi wr (some ⟨g, 0, none⟩) c l) (hlo : lo ≤ wr.heap.size) (hr : RP wr (some ad) m) (hl : l.length + m.length ≤ 1048576)
    (h : ∀ g' c' w', OwnP e lo w'.heap.size w' (some ⟨g', 0, none⟩) c' (l ++ m) → Below lo wr w' → Hid (∀ b, b < wr.heap.size → b ≠ g → w'.heap[b]? = wr.heap[b]?) → K (a.put o.dst (.slice (some ⟨g', 0, none⟩) (l.length + m.length) c')) w') :
    if Region.wanted o (yielded ops a.tmps) = true then Oper.wp P o a wr K Q else E := by
  have hw : Region.wanted o (yielded ops a.tmps) = true := by simp [Region.wanted, hgd]
  rw [if_pos hw]
  obtain ⟨i, hi, hz0, hz1, hz2⟩ := info_parts hinfo
  have hb : (l.length + m.length) * bytes ≤ 140737488355328 := Nat.le_trans (Nat.mul_le_mul (show l.length + m.length ≤ 4194304 by omega) hby) (by decide)
  refine wp_append_own _ s x t ho lo e i z 2 bytes ht hi hz0 hz1 hz2 hzs (by decide) _ _ _ hs hown.row ad m.length c2 (pcells m) hx (length_pcells m) (pcells_news hr ad rfl) (pcells_one m) (by simp [maxLen]; omega) hb hlo ?_
  intro v' w' h2 h3 h4
  obtain ⟨A', c', hv, hob, hlt⟩ := ownsRow_form0 h2
  subst hv
  cases A' with
  | none =>
    have := h2.2
    rcases this with ⟨hv, _⟩ | ⟨_, _, _, hv, _⟩
    · cases (h4.1 hv).1
    · cases hv
  | some q =>
    have hq : ∃ g', q = ⟨g', 0, none⟩ := by
      rcases h2.2 with ⟨hv, _⟩ | ⟨g', _, _, hv, _⟩
      · cases hv
      · injection hv with hA _ _
        injection hA with hA
        exact ⟨g', hA⟩
    obtain ⟨g', rfl⟩ := hq
    have hbel : Below lo wr w' := by
      refine Below.grown (Below.refl lo wr) h3 hlo fun k hk => ?_
      simp only [Value.ownBlock, Option.some.injEq] at hk
      subst hk
      exact hown.lo_le _ rfl
    rw [← pcells_append] at h2
    exact h g' c' w' ⟨by rw [List.length_append]; exact h2, fun a ha => by injection ha with ha; subst ha; exact hlt _ rfl, Nat.le_refl _, by rw [List.length_append]; exact hl⟩ hbel
      fun b hb hne => h3.block b hb (by simp only [Value.ownBlock, ne_eq, Option.some.injEq]; exact hne)
/-- .. the lengths under their own names. -/
theorem step_app_pairs2 {P : Program} {ops : Array Oper} {o : Oper} {a : Act} {K : Act → World → Prop} {Q : Exit → Act → World → Prop} {E : Prop} {wr : World} {z : Value} {bytes lo hi c c2 g ln mn r : Nat} {ad : Addr} {l m : List (Int × Int)} (s x : Operand) (t e : TypeId) (hgd : o.guard = none)
    (ho : o.op = .call { callee := .builtin .append, args := #[s, x], argTypes := #[t, t] }) (ht : P.underlying t = some (.slice e))
    (hinfo : (P.info? e).map (fun i => (i.zero, i.size, i.bytes)) = some (some z, 2, bytes)) (hzs : z.cells.size = 2) (hby : bytes ≤ 1024)
    (hs : a.eval s = .slice (some ⟨g, 0, none⟩) ln c) (hx : a.eval x = .slice (some ad) mn c2) (hln : Hid (l.length = ln)) (hmn : Hid (m.length = mn)) (hrn : Hid (ln + mn = r)) (hown : OwnP e lo hi wr (some ⟨g, 0, none⟩) c l) (hlo : lo ≤ wr.heap.size) (hr : RP wr (some ad) m) (hl : r ≤ 1048576)
    (h : ∀ g' c' w', OwnP e lo w'.heap.size w' (some ⟨g', 0, none⟩) c' (l ++ m) → Below lo wr w' → Hid (∀ b, b < wr.heap.size → b ≠ g → w'.heap[b]? = wr.heap[b]?) → K (a.put o.dst (.slice (some ⟨g', 0, none⟩) r c')) w') :
    if Region.wanted o (yielded ops a.tmps) = true then Oper.wp P o a wr K Q else E := by
  have h1 := hln.out
  have h2 := hmn.out
  have h3 := hrn.out
  subst h1 h2 h3
  exact step_app_pairs s x t e hgd ho ht hinfo hzs hby hs hx hown hlo hr hl h
/-- .. the address, too. -/
theorem step_app_pairs3 {P : Program} {ops : Array Oper} {o : Oper} {a : Act} {K : Act → World → Prop} {Q : Exit → Act → World → Prop} {E : Prop} {wr : World} {z : Value} {bytes lo hi c c2 g ln mn r : Nat} {ad : Addr} {X : Option Addr} {l m : List (Int × Int)} (s x : Operand) (t e : TypeId) (hgd : o.guard = none)
    (ho : o.op = .call { callee := .builtin .append, args := #[s, x], argTypes := #[t, t] }) (ht : P.underlying t = some (.slice e))
    (hinfo : (P.info? e).map (fun i => (i.zero, i.size, i.bytes)) = some (some z, 2, bytes)) (hzs : z.cells.size = 2) (hby : bytes ≤ 1024)
    (hs : a.eval s = .slice (some ⟨g, 0, none⟩) ln c) (hx : a.eval x = .slice X mn c2) (hXa : Hid (X = some ad)) (hln : Hid (l.length = ln)) (hmn : Hid (m.length = mn)) (hrn : Hid (ln + mn = r)) (hown : OwnP e lo hi wr (some ⟨g, 0, none⟩) c l) (hlo : lo ≤ wr.heap.size) (hr : RP wr (some ad) m) (hl : r ≤ 1048576)
    (h : ∀ g' c' w', OwnP e lo w'.heap.size w' (some ⟨g', 0, none⟩) c' (l ++ m) → Below lo wr w' → Hid (∀ b, b < wr.heap.size → b ≠ g → w'.heap[b]? = wr.heap[b]?) → K (a.put o.dst (.slice (some ⟨g', 0, none⟩) r c')) w') :
    if Region.wanted o (yielded ops a.tmps) = true then Oper.wp P o a wr K Q else E := by
  have h1 := hln.out
  have h2 := hmn.out
  have h3 := hrn.out
  have h4 := hXa.out
  subst h1 h2 h3 h4
  exact step_app_pairs s x t e hgd ho ht hinfo hzs hby hs hx hown hlo hr hl h
section
variable {e : TypeId} {lo hi : Nat} {w w' : World} {A : Option Addr} {c : Nat} {l : List (Int × Int)}
theorem OwnP.drew (h : OwnP e lo hi w A c l) : OwnP e lo hi w.drew A c l := ⟨h.row, h.top, h.le, h.small⟩
theorem own_emptyAtP {W : World} (e : TypeId) {g : Nat} (hg : W.heap.size = g) : OwnP e g (g + 1) (W.alloc (.cells #[] e)) (some ⟨g, 0, none⟩) 0 [] := by
  subst hg; exact own_emptyP e
theorem RP.block {b off : Nat} (h : RP w (some ⟨b, off, none⟩) l) (hb : w'.heap[b]? = w.heap[b]?) (hs : w.heap.size ≤ w'.heap.size) : RP w' (some ⟨b, off, none⟩) l := by
  refine ⟨h.1, fun hl => ?_⟩
  obtain ⟨b', off', hA, hlt, hP⟩ := h.2 hl
  injection hA with hA
  injection hA with h1 h2 _
  subst h1 h2
  exact ⟨b, off, rfl, Nat.lt_of_lt_of_le hlt hs, fun j hj => ⟨(World.cell?_of_block (w := w) hb).trans (hP j hj).1, (World.cell?_of_block (w := w) hb).trans (hP j hj).2⟩⟩
theorem pairAt {w : World} {x y : Int} {T : TypeId} {g : Nat} (hg : w.heap.size = g) : RP (w.alloc (.cells #[.int .i64 x, .int .i64 y] T)) (some ⟨g, 0, none⟩) [(x, y)] := by
  subst hg
  have hh := heap_alloc_new w (.cells #[.int .i64 x, .int .i64 y] T)
  refine ⟨by simp, fun _ => ⟨w.heap.size, 0, rfl, by simp, fun j hj => ?_⟩⟩
  have : j = 0 := by simpa using hj
  subst this
  exact ⟨cell_of_row _ _ 0 _ _ _ hh, cell_of_row _ _ 1 _ _ _ hh⟩
/-- The front and the back of a slice that reads as a list. -/
theorem RP.front {b off k : Nat} (h : RP w (some ⟨b, off, none⟩) l) (hk : k ≤ l.length) : RP w (some ⟨b, off, none⟩) (l.take k) := by
  refine ⟨by rw [List.length_take]; have := h.1; omega, fun hl => ?_⟩
  rw [List.length_take] at hl
  obtain ⟨b', off', hA, hlt, hP⟩ := h.2 (by omega)
  refine ⟨b', off', hA, hlt, fun j hj => ?_⟩
  rw [List.length_take] at hj
  have : (l.take k).getD j (0, 0) = l.getD j (0, 0) := by rw [List.getD_eq_getElem?_getD, List.getElem?_take, if_pos (by omega), ← List.getD_eq_getElem?_getD]
  rw [this]
  exact hP j (by omega)
theorem RP.back {b off k : Nat} (h : RP w (some ⟨b, off, none⟩) l) (hk : k ≤ l.length) : RP w (some ⟨b, off + k * 2, none⟩) (l.drop k) := by
  refine ⟨by rw [List.length_drop]; have := h.1; omega, fun hl => ?_⟩
  rw [List.length_drop] at hl
  obtain ⟨b', off', hA, hlt, hP⟩ := h.2 (by omega)
  injection hA with hA
  injection hA with h1 h2 _
  subst h1 h2
  refine ⟨b, off + k * 2, rfl, hlt, fun j hj => ?_⟩
  rw [List.length_drop] at hj
  have : (l.drop k).getD j (0, 0) = l.getD (k + j) (0, 0) := by rw [List.getD_eq_getElem?_getD, List.getElem?_drop, ← List.getD_eq_getElem?_getD]
  rw [this]
  have := hP (k + j) (by omega)
  rwa [show off + (k + j) * 2 = off + k * 2 + j * 2 by omega] at this
end
end Go.Proofs.Ytkipgjllgmjipaa
