/- append of a whole slice to a slice that the program has made. No program is named here. -/
import Derived.Test.YtkipgjllgmjipaaBase2
namespace Go.Proofs.Ytkipgjllgmjipaa
open Go.RowKit

theorem run_append_none {P : Program} {w : World} {base size c2 : Nat} {t ty e : TypeId} {i : TypeInfo} (ht : P.underlying t = some (.slice e)) (hi : P.info? e = some i)
    {v : Value} {n : Nat} {xs : List Value} (hown : w.ownsRow base e size v n xs) : (Builtin.append_ #[t, t] ty #[v, .slice none 0 c2]).run P w = .ok v w := by
  rcases hown.2 with ⟨rfl, rfl⟩ | ⟨g, cap, cur, rfl, _, _, hnc, _⟩
  · simp [Builtin.append_, run_underlying ht, sizeOf, typeInfo, hi, Builtin.lenOf, Builtin.firstCells]
  · simp [Builtin.append_, run_underlying ht, sizeOf, typeInfo, hi, Builtin.lenOf, Builtin.firstCells, hnc, storeCells]
theorem ownsRow_form0 {w : World} {lo : Nat} {e : TypeId} {size : Nat} {v : Value} {n : Nat} {xs : List Value} (h : w.ownsRow lo e size v n xs) : ∃ A c, v = .slice A n c ∧ v.ownBlock = A.map (·.block) ∧ ∀ a, A = some a → a.block < w.heap.size := by
  rcases h.2 with ⟨rfl, rfl⟩ | ⟨g, cap, cur, rfl, _, hg, _⟩
  · exact ⟨none, 0, rfl, rfl, fun a ha => by cases ha⟩
  · exact ⟨some ⟨g, 0, none⟩, cap, rfl, rfl, fun a ha => by injection ha with ha; subst ha; exact (Array.getElem?_eq_some_iff.1 hg).1⟩
theorem OwnC.drop_hi {e : TypeId} {size lo hi : Nat} {w : World} {A : Option Addr} {c n : Nat} {xs : List Value} (h : OwnC e size lo hi w A c n xs) : OwnC e size lo w.heap.size w A c n xs := h.hi_mono h.le (Nat.le_refl _)

/-- append(s, x..): x lies somewhere and reads as `news`. -/
theorem wpList_app_slice' {P : Program} {ops : Array Oper} {rest : List Oper} {o : Oper} {a : Act} {Q : Exit → Act → World → Prop} {wr : World} {news : List Value} (s x : Operand) (t e : TypeId) (hgd : o.guard = none)
    (ho : o.op = .call { callee := .builtin .append, args := #[s, x], argTypes := #[t, t] }) (ht : P.underlying t = some (.slice e)) {z : Value} {size bytes : Nat}
    (hinfo : (P.info? e).map (fun i => (i.zero, i.size, i.bytes)) = some (some z, size, bytes)) (hzs : z.cells.size = size) (hsz : 0 < size) {lo hi c n m c2 : Nat} {A X : Option Addr} {xs : List Value}
    (hs : a.eval s = .slice A n c) (hx : a.eval x = .slice X m c2) (hown : OwnC e size lo hi wr A c n xs) (hlo : lo ≤ wr.heap.size) (hnl : news.length = m * size) (h1 : ∀ u ∈ news, u.oneCell' = true)
    (hX : X = none → m = 0) (hcells : ∀ ad, X = some ad → ∀ j u, news[j]? = some u → wr.cell? (ad.add j) = some u) (hl : n + m ≤ 4194304) (hby : bytes ≤ 1024)
    (h : ∀ A' c' w', OwnC e size lo w'.heap.size w' A' c' (n + m) (xs ++ news) → Below lo wr w' → Hid (∀ b, b < wr.heap.size → Off A b → w'.heap[b]? = wr.heap[b]? ∧ Off A' b) → (A.isSome = true → A'.isSome = true) → wpList P ops Q rest (a.put o.dst (.slice A' (n + m) c')) w') :
    wpList P ops Q (o :: rest) a wr := by
  obtain ⟨i, hi, hz0, hz1, hz2⟩ := info_parts hinfo
  have hb : (n + m) * bytes ≤ 140737488355328 := Nat.le_trans (Nat.mul_le_mul hl hby) (by decide)
  match X, hx, hX, hcells with
  | none, hx, hX, _ =>
    have hm : m = 0 := hX rfl
    subst hm
    have hnews : news = [] := List.eq_nil_of_length_eq_zero (by omega)
    subst hnews
    refine wpList_plain hgd fun K hK => ?_
    unfold Oper.wp execOp
    simp only [ho, resolve, invoke, builtin, Sem.run_bind, Sem.run_pure, Result.andThen_ok, List.map_toArray, List.map_cons, List.map_nil, hs, hx, run_append_none (ty := o.type) (c2 := c2) ht hi hown.row]
    refine hK _ _ (h A c wr ?_ (Below.refl _ _) (fun b _ ho => ⟨rfl, ho⟩) id)
    rw [List.append_nil, Nat.add_zero]
    exact hown.drop_hi
  | some ad, hx, _, hcells =>
    refine wpList_append_own_at _ hgd s x t ho lo e i z size bytes ht hi hz0 hz1 hz2 hzs hsz _ _ _ hs hown.row ad m c2 news hx hnl (hcells ad rfl) h1 (by simp [maxLen]; omega) hb hlo ?_
    intro v' w' h2 h3 h4 h5
    obtain ⟨A', c', hv, hob, hlt⟩ := ownsRow_form0 h2
    subst hv
    have hbel : Below lo wr w' := by
      refine Below.grown (Below.refl lo wr) h3 hlo fun k hk => ?_
      cases A with
      | none => simp [Value.ownBlock] at hk
      | some a =>
        simp only [Value.ownBlock, Option.some.injEq] at hk
        subst hk
        exact hown.lo_le a rfl
    refine h A' c' w' ⟨h2, hlt, Nat.le_refl _⟩ hbel (fun b hb ho => ?_) fun hA => by
      cases A' with
      | some _ => rfl
      | none =>
        rcases h5 with h5 | h5
        · rw [hob] at h5
          cases A with
          | none => cases hA
          | some _ => simp [Value.ownBlock] at h5
        · rw [hob] at h5; simp at h5
    have hne : some b ≠ (Value.slice A n c).ownBlock := by
      cases A with
      | none => simp [Value.ownBlock]
      | some a => simp only [Value.ownBlock, ne_eq, Option.some.injEq]; exact fun e => ho a rfl e.symm
    refine ⟨h3.block b hb hne, fun a ha hab => ?_⟩
    subst ha hab
    rcases h5 with h5 | h5
    · exact hne (by rw [← h5, hob]; rfl)
    · rw [hob] at h5
      simp at h5
      omega

/-- .. less told. -/
theorem wpList_app_slice {P : Program} {ops : Array Oper} {rest : List Oper} {o : Oper} {a : Act} {Q : Exit → Act → World → Prop} {wr : World} {news : List Value} (s x : Operand) (t e : TypeId) (hgd : o.guard = none)
    (ho : o.op = .call { callee := .builtin .append, args := #[s, x], argTypes := #[t, t] }) (ht : P.underlying t = some (.slice e)) {z : Value} {size bytes : Nat}
    (hinfo : (P.info? e).map (fun i => (i.zero, i.size, i.bytes)) = some (some z, size, bytes)) (hzs : z.cells.size = size) (hsz : 0 < size) {lo hi c n m c2 : Nat} {A X : Option Addr} {xs : List Value}
    (hs : a.eval s = .slice A n c) (hx : a.eval x = .slice X m c2) (hown : OwnC e size lo hi wr A c n xs) (hlo : lo ≤ wr.heap.size) (hnl : news.length = m * size) (h1 : ∀ u ∈ news, u.oneCell' = true)
    (hX : X = none → m = 0) (hcells : ∀ ad, X = some ad → ∀ j u, news[j]? = some u → wr.cell? (ad.add j) = some u) (hl : n + m ≤ 4194304) (hby : bytes ≤ 1024)
    (h : ∀ A' c' w', OwnC e size lo w'.heap.size w' A' c' (n + m) (xs ++ news) → Below lo wr w' → Hid (∀ b, b < wr.heap.size → Off A b → w'.heap[b]? = wr.heap[b]? ∧ Off A' b) → wpList P ops Q rest (a.put o.dst (.slice A' (n + m) c')) w') :
    wpList P ops Q (o :: rest) a wr :=
  wpList_app_slice' s x t e hgd ho ht hinfo hzs hsz hs hx hown hlo hnl h1 hX hcells hl hby fun A' c' w' k1 k2 k3 _ => h A' c' w' k1 k2 k3

/-- The two cells of each of a list of pairs. -/
theorem pcells_news {w : World} {X : Option Addr} {l : List (Int × Int)} (h : RP w X l) : ∀ ad, X = some ad → ∀ j u, (pcells l)[j]? = some u → w.cell? (ad.add j) = some u := by
  intro ad hX j u hj
  have hlt : j < (pcells l).length := (List.getElem?_eq_some_iff.1 hj).1
  rw [length_pcells] at hlt
  obtain ⟨b, off, hA, hP⟩ := h.2 (by omega)
  rw [hX] at hA
  injection hA with hA
  subst hA
  have hadd : (⟨b, off, none⟩ : Addr).add j = ⟨b, off + j, none⟩ := by unfold Addr.add; by_cases hj0 : j = 0 <;> simp [hj0]
  rw [hadd]
  obtain ⟨p1, p2⟩ := pcells_at l (j / 2) (by omega)
  obtain ⟨q1, q2⟩ := hP.2 (j / 2) (by omega)
  rcases Nat.mod_two_eq_zero_or_one j with hm | hm
  · have e1 : j / 2 * 2 = j := by omega
    rw [e1] at p1 q1
    rw [q1, ← p1, hj]
  · have e1 : j / 2 * 2 + 1 = j := by omega
    have e2 : off + j / 2 * 2 + 1 = off + j := by omega
    rw [e1] at p2
    rw [e2] at q2
    rw [q2, ← p2, hj]
theorem pcells_one (l : List (Int × Int)) : ∀ u ∈ pcells l, u.oneCell' = true := by
  induction l with
  | nil => intro u hu; cases hu
  | cons p l ih =>
    intro u hu
    rw [pcells_cons] at hu
    rcases List.mem_cons.1 hu with rfl | hu
    · rfl
    rcases List.mem_cons.1 hu with rfl | hu
    · rfl
    · exact ih u hu
/-- append(s, x..) at slices of pairs. -/
theorem wpList_app_pairs {P : Program} {ops : Array Oper} {rest : List Oper} {o : Oper} {a : Act} {Q : Exit → Act → World → Prop} {wr : World} (s x : Operand) (t e : TypeId) (hgd : o.guard = none)
    (ho : o.op = .call { callee := .builtin .append, args := #[s, x], argTypes := #[t, t] }) (ht : P.underlying t = some (.slice e)) {z : Value} {bytes : Nat}
    (hinfo : (P.info? e).map (fun i => (i.zero, i.size, i.bytes)) = some (some z, 2, bytes)) (hzs : z.cells.size = 2) (hby : bytes ≤ 1024) {lo hi c c2 : Nat} {A X : Option Addr} {l m : List (Int × Int)}
    (hs : a.eval s = .slice A l.length c) (hx : a.eval x = .slice X m.length c2) (hown : OwnP e lo hi wr A c l) (hlo : lo ≤ wr.heap.size) (hr : RP wr X m) (hl : l.length + m.length ≤ 1048576)
    (h : ∀ A' c' w', OwnP e lo w'.heap.size w' A' c' (l ++ m) → Below lo wr w' → Hid (∀ b, b < wr.heap.size → Off A b → w'.heap[b]? = wr.heap[b]? ∧ Off A' b) → wpList P ops Q rest (a.put o.dst (.slice A' (l ++ m).length c')) w') :
    wpList P ops Q (o :: rest) a wr := by
  refine wpList_app_slice (news := pcells m) s x t e hgd ho ht hinfo hzs (by decide) hs hx hown.c hlo (length_pcells m) (pcells_one m) (fun hX => ?_) (pcells_news hr) (by omega) hby fun A' c' w' h1 h2 h3 => ?_
  · refine Nat.eq_zero_of_not_pos fun hp => ?_
    obtain ⟨b, off, hA, _⟩ := hr.2 hp
    rw [hX] at hA; cases hA
  · rw [← pcells_append, ← List.length_append] at h1
    have := h A' c' w' (h1.p (by rw [List.length_append]; exact hl)) h2 h3
    rwa [List.length_append] at this
/-- .. an address stays an address. -/
theorem wpList_app_pairs' {P : Program} {ops : Array Oper} {rest : List Oper} {o : Oper} {a : Act} {Q : Exit → Act → World → Prop} {wr : World} (s x : Operand) (t e : TypeId) (hgd : o.guard = none)
    (ho : o.op = .call { callee := .builtin .append, args := #[s, x], argTypes := #[t, t] }) (ht : P.underlying t = some (.slice e)) {z : Value} {bytes : Nat}
    (hinfo : (P.info? e).map (fun i => (i.zero, i.size, i.bytes)) = some (some z, 2, bytes)) (hzs : z.cells.size = 2) (hby : bytes ≤ 1024) {lo hi c c2 g : Nat} {X : Option Addr} {l m : List (Int × Int)}
    (hs : a.eval s = .slice (some ⟨g, 0, none⟩) l.length c) (hx : a.eval x = .slice X m.length c2) (hown : OwnP e lo hi wr (some ⟨g, 0, none⟩) c l) (hlo : lo ≤ wr.heap.size) (hr : RP wr X m) (hl : l.length + m.length ≤ 1048576)
    (h : ∀ g' c' w', OwnP e lo w'.heap.size w' (some ⟨g', 0, none⟩) c' (l ++ m) → Below lo wr w' → wpList P ops Q rest (a.put o.dst (.slice (some ⟨g', 0, none⟩) (l ++ m).length c')) w') :
    wpList P ops Q (o :: rest) a wr := by
  refine wpList_app_slice' (news := pcells m) s x t e hgd ho ht hinfo hzs (by decide) hs hx hown.c hlo (length_pcells m) (pcells_one m) (fun hX => ?_) (pcells_news hr) (by omega) hby fun A' c' w' h1 h2 h3 h4 => ?_
  · refine Nat.eq_zero_of_not_pos fun hp => ?_
    obtain ⟨b, off, hA, _⟩ := hr.2 hp
    rw [hX] at hA; cases hA
  · obtain ⟨A2, c2, hv, _, _⟩ := ownsRow_form0 h1.row
    rcases h1.row.2 with ⟨hv2, _⟩ | ⟨g', cap, cur, hv2, _⟩
    · injection hv2 with hA _ _
      subst hA
      cases h4 rfl
    · injection hv2 with hA _ hc
      subst hA hc
      rw [← pcells_append, ← List.length_append] at h1
      have := h g' c' w' (h1.p (by rw [List.length_append]; exact hl)) h2
      rwa [List.length_append] at this
end Go.Proofs.Ytkipgjllgmjipaa
