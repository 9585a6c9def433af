/- The laws' own helpers at slices of slices of two ints, and append to one. -/
import Derived.Test.YtakllloangpimaaSS
namespace Go.Proofs.Ytakllloangpimaa
open Go.RowKit
theorem OwnI.same {e : TypeId} {g c : Nat} {w w' : World} {l : List Int} (h : OwnI e g (g + 1) w (some ⟨g, 0, none⟩) c l) (hb : w'.heap[g]? = w.heap[g]?) (hs : w.heap.size ≤ w'.heap.size) : OwnI e g (g + 1) w' (some ⟨g, 0, none⟩) c l :=
  ⟨ownsRow_same h.row fun k hk => by simp only [Value.ownBlock, Option.some.injEq] at hk; subst hk; exact hb, h.top, Nat.le_trans h.le hs, h.small⟩
theorem own_two {W : World} (e : TypeId) {g : Nat} (hg : W.heap.size = g) (p q : Int) : OwnI e g (g + 1) (W.alloc (.cells #[.int .i64 p, .int .i64 q] e)) (some ⟨g, 0, none⟩) 2 (two (p, q)) := by
  subst hg
  exact ⟨World.ownsRow_lit (base := W.heap.size) (e := e) (size := 1) W #[.int .i64 p, .int .i64 q] 2 (Nat.le_refl _) (by simp [maxLen]) rfl, fun a ha => by injection ha with ha; subst ha; exact Nat.lt_succ_self _, by simp, by simp [two]⟩
/-- append of one slice of two ints, both just laid. -/
theorem wpList_app_two {P : Program} {ops : Array Oper} {rest : List Oper} {o : Oper} {a : Act} {Q : Exit → Act → World → Prop} {wr : World} {g : Nat} {T : TypeId} {p q : Int} (s x : Operand) (t e1 e2 : TypeId) (hgd : o.guard = none)
    (ho : o.op = .call { callee := .builtin .append, args := #[s, x], argTypes := #[t, t] }) (ht : P.underlying t = some (.slice e1)) {z : Value} {bytes : Nat}
    (hinfo : (P.info? e1).map (fun i => (i.zero, i.size, i.bytes)) = some (some z, 1, bytes)) (hzs : z.cells.size = 1) (hby : bytes ≤ 1024) {lo hi c : Nat} {A : Option Addr} {l : List (Int × Int)}
    (hs : a.eval s = .slice A l.length c) (hx : a.eval x = .slice (some ⟨g + 1, 0, none⟩) 1 1) (hg : wr.heap.size = g) (hown : OwnSS e1 e2 lo hi wr A c l) (hlo : lo ≤ wr.heap.size) (hl : l.length + 1 ≤ 1048576)
    (h : ∀ A' c' w', OwnSS e1 e2 lo w'.heap.size w' A' c' (l ++ [(p, q)]) → Below lo wr w' → Hid (∀ b, b < wr.heap.size → Off A b → w'.heap[b]? = wr.heap[b]? ∧ Off A' b) → wpList P ops Q rest (a.put o.dst (.slice A' (l ++ [(p, q)]).length c')) w') :
    wpList P ops Q (o :: rest) a ((wr.alloc (.cells #[.int .i64 p, .int .i64 q] e2)).alloc (.cells #[.slice (some ⟨g, 0, none⟩) 2 2] T)) := by
  subst hg
  generalize hW1 : wr.alloc (.cells #[.int .i64 p, .int .i64 q] e2) = W1
  have z1 : W1.heap.size = wr.heap.size + 1 := by rw [← hW1]; simp
  have hq1 : Below wr.heap.size wr W1 := by rw [← hW1]; exact bnew (Below.refl _ _) _
  have hnew : OwnI e2 wr.heap.size (wr.heap.size + 1) W1 (some ⟨wr.heap.size, 0, none⟩) 2 (two (p, q)) := by rw [← hW1]; exact own_two e2 rfl p q
  clear hW1
  generalize hW2 : W1.alloc (.cells #[.slice (some ⟨wr.heap.size, 0, none⟩) 2 2] T) = W2
  have z2 : W2.heap.size = W1.heap.size + 1 := by rw [← hW2]; simp
  have hq2 : Below W1.heap.size W1 W2 := by rw [← hW2]; exact bnew (Below.refl _ _) _
  have hc : W2.cell? ⟨wr.heap.size + 1, 0, none⟩ = some (sl2 wr.heap.size) := by
    rw [← hW2, ← z1]; exact cell_of_row _ _ 0 _ _ _ (heap_alloc_new W1 _)
  clear hW2
  have hq : Below wr.heap.size wr W2 := bthen hq1 hq2
  have hsmall := hown.small
  have hle := hown.le
  obtain ⟨gs, hgs, hout, hin, hdist⟩ := hown.ex
  refine wpList_app_slice (news := [sl2 wr.heap.size]) (n := l.length) (m := 1) s x t e1 hgd ho ht hinfo hzs (by decide) hs hx (hout.below hq hle) (by omega) rfl (fun u hu => ?_) (fun hX => by cases hX) (fun ad had j u hj => ?_) (by omega) hby fun A' c' w' h1 h2 h3 => ?_
  · rw [List.mem_singleton] at hu; subst hu; rfl
  · injection had with had
    subst had
    match j, hj with
    | 0, hj =>
      simp only [List.getElem?_cons_zero, Option.some.injEq] at hj
      subst hj
      rw [show (⟨wr.heap.size + 1, 0, none⟩ : Addr).add 0 = ⟨wr.heap.size + 1, 0, none⟩ from by simp [Addr.add]]
      exact hc
  · have hlen : (l ++ [(p, q)]).length = l.length + 1 := by simp
    have hs2 : W2.heap.size ≤ w'.heap.size := h2.size
    have key : OwnSS e1 e2 lo w'.heap.size w' A' c' (l ++ [(p, q)]) := by
      refine ⟨⟨gs ++ [wr.heap.size], by simp [hgs], ?_, fun j hj => ?_, fun i j hij hj => ?_⟩, Nat.le_refl _, by omega⟩
      · rw [hlen, List.map_append]; exact h1
      · rw [hlen] at hj
        rcases Nat.lt_or_ge j l.length with hlt | hge
        · obtain ⟨k1, k2, k3, k4⟩ := hin j hlt
          have e1 : (gs ++ [wr.heap.size]).getD j 0 = gs.getD j 0 := by rw [List.getD_eq_getElem?_getD, List.getElem?_append_left (by omega), ← List.getD_eq_getElem?_getD]
          have e2' : (l ++ [(p, q)]).getD j (0, 0) = l.getD j (0, 0) := by rw [List.getD_eq_getElem?_getD, List.getElem?_append_left hlt, ← List.getD_eq_getElem?_getD]
          rw [e1, e2']
          obtain ⟨m1, m2⟩ := h3 (gs.getD j 0) (by omega) k3
          exact ⟨k1, by omega, m2, (k4.below hq (by omega)).same m1 hs2⟩
        · have hj2 : j = l.length := by omega
          have e1 : (gs ++ [wr.heap.size]).getD j 0 = wr.heap.size := by rw [hj2, ← hgs, List.getD_eq_getElem?_getD]; simp
          have e2' : (l ++ [(p, q)]).getD j (0, 0) = (p, q) := by rw [hj2, List.getD_eq_getElem?_getD]; simp
          rw [e1, e2']
          obtain ⟨m1, m2⟩ := h3 wr.heap.size (by omega) (fun a ha => by have := hout.top a ha; omega)
          exact ⟨hlo, by omega, m2, (hnew.below hq2 (by omega)).same m1 hs2⟩
      · rw [hlen] at hj
        have e1 : (gs ++ [wr.heap.size]).getD i 0 = gs.getD i 0 := by rw [List.getD_eq_getElem?_getD, List.getElem?_append_left (by omega), ← List.getD_eq_getElem?_getD]
        rw [e1]
        rcases Nat.lt_or_ge j l.length with hlt | hge
        · have e2' : (gs ++ [wr.heap.size]).getD j 0 = gs.getD j 0 := by rw [List.getD_eq_getElem?_getD, List.getElem?_append_left (by omega), ← List.getD_eq_getElem?_getD]
          rw [e2']
          exact hdist i j hij hlt
        · have hj2 : j = l.length := by omega
          have e2' : (gs ++ [wr.heap.size]).getD j 0 = wr.heap.size := by rw [hj2, ← hgs, List.getD_eq_getElem?_getD]; simp
          rw [e2']
          have := (hin i (by omega)).2.1
          omega
    have := h A' c' w' key ((hq.mono hlo).trans h2) fun b hb ho => ⟨((h3 b (by omega) ho).1).trans (hq.block b hb), (h3 b (by omega) ho).2⟩
    rwa [hlen] at this

theorem two_length (p : Int × Int) : (two p).length = 2 := rfl
theorem upI_two (q : Int) : upI q 2 = [q, q + 1] := by simp [upI, List.range_succ]
end Go.Proofs.Ytakllloangpimaa
