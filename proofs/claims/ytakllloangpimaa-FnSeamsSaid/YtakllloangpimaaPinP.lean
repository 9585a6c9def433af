/- The plain laws behind FnPins: turning a cylinder moves all pins, each angle's pins move along, a pin that is put in can be pulled out. -/
import Derived.Test.YtakllloangpimaaSortP
import Derived.Test.YtakllloangpimaaPinsAt
import Derived.Test.YtakllloangpimaaPullB
import Derived.Test.YtakllloangpimaaCof
namespace Go.Proofs.Ytakllloangpimaa
open Go.RowKit
set_option linter.unusedVariables false
section
variable {s t a b : Int} {l : List (Int × Int)}
theorem cylOk_of (h1 : 4 ≤ s ∧ s ≤ 96) (h2 : 1 ≤ t ∧ t ≤ 100) (h3 : l.length ≤ 100) (h4 : SP l) (h5 : ∀ p, p ∈ l → (0 ≤ p.1 ∧ p.1 ≤ t - 1) ∧ 0 ≤ p.2 ∧ p.2 ≤ s - 1) : cylOk s t l = true := by
  refine cylOk_all (inR_of h1.1 h1.2) (inR_of h2.1 h2.2) h3 (Nat.le_refl _) fun j hj => ?_
  obtain ⟨⟨a1, a2⟩, a3, a4⟩ := h5 _ (mem_getD.1 ⟨j, hj, rfl⟩)
  unfold cylAt
  rw [inR_of a1 a2, inR_of a3 a4]
  rcases Nat.eq_zero_or_pos j with e | e
  · simp [e]
  · have := h4.at (show j - 1 < j by omega) hj
    simp only [Bool.true_and, Bool.or_eq_true, beq_iff_eq]
    exact .inr (by unfold less2; exact decide_eq_true this)
theorem cylOk_mem (h : cylOk s t l = true) {p : Int × Int} (hp : p ∈ l) : (0 ≤ p.1 ∧ p.1 ≤ t - 1) ∧ 0 ≤ p.2 ∧ p.2 ≤ s - 1 := by
  obtain ⟨j, h1, h2⟩ := mem_getD.2 hp
  obtain ⟨_, _, _, h3⟩ := cylOk_parts h
  obtain ⟨h4, h5⟩ := cylAt_parts (h3 j h1)
  rw [h2] at h4 h5
  exact ⟨inR_true h4, inR_true h5⟩
theorem up_unique : ∀ {l m : List Int}, l.Pairwise (· < ·) → m.Pairwise (· < ·) → (∀ x, x ∈ l ↔ x ∈ m) → l = m
  | [], [], _, _, _ => rfl
  | [], y :: m, _, _, h => absurd ((h y).2 (List.mem_cons_self ..)) (by simp)
  | x :: l, [], _, _, h => absurd ((h x).1 (List.mem_cons_self ..)) (by simp)
  | x :: l, y :: m, hl, hm, h => by
    obtain ⟨l1, l2⟩ := List.pairwise_cons.1 hl
    obtain ⟨m1, m2⟩ := List.pairwise_cons.1 hm
    have e : x = y := by
      rcases List.mem_cons.1 ((h x).1 (List.mem_cons_self ..)) with e | e
      · exact e
      rcases List.mem_cons.1 ((h y).2 (List.mem_cons_self ..)) with e' | e'
      · exact e'.symm
      have := m1 _ e; have := l1 _ e'; omega
    subst e
    rw [up_unique l2 m2 fun z => ⟨fun hz => by
      rcases List.mem_cons.1 ((h z).1 (List.mem_cons_of_mem _ hz)) with e | e
      · subst e; exact absurd (l1 _ hz) (Int.lt_irrefl _)
      · exact e, fun hz => by
      rcases List.mem_cons.1 ((h z).2 (List.mem_cons_of_mem _ hz)) with e | e
      · subst e; exact absurd (m1 _ hz) (Int.lt_irrefl _)
      · exact e⟩]
theorem pick_filter (f : Int × Int → Option Int) (l : List (Int × Int)) : ∀ n, n ≤ l.length → pickTo f l n = (l.take n).filterMap f
  | 0, _ => by simp [pickTo]
  | n + 1, h => by
    have hlt : n < l.length := by omega
    rw [List.take_succ_eq_append_getElem hlt, List.filterMap_append, ← pick_filter f l n (by omega)]
    simp only [pickTo]
    rw [getD_at hlt]
    cases hf : f l[n] <;> simp [hf]
theorem modM_emod (n s : Int) : modM n s = n % s := tmod_fix
theorem pinsAt_eq (h : cylOk s t l = true) (ha : inR a (-1000000) 1000000 = true) : pinsAt s t l a = l.filterMap (atAngle (a % s)) := by
  rw [pinsAt_yes h ha, pick_filter _ _ _ (Nat.le_refl _), List.take_length, modM_emod]
theorem mem_pinsAt (h : cylOk s t l = true) (ha : inR a (-1000000) 1000000 = true) {q : Int} : q ∈ pinsAt s t l a ↔ (q, a % s) ∈ l := by
  rw [pinsAt_eq h ha, List.mem_filterMap]
  unfold atAngle
  constructor
  · rintro ⟨p, hp, hq⟩
    split at hq
    · rename_i he
      injection hq with hq
      rw [← he, ← hq]; exact hp
    · cases hq
  · intro hp
    exact ⟨_, hp, if_pos rfl⟩
theorem up_filter {y : Int} (h : SP l) : (l.filterMap (atAngle y)).Pairwise (· < ·) := by
  refine List.pairwise_filterMap.2 ((List.pairwise_map.1 h).imp ?_)
  intro p q hpq u hu v hv
  unfold atAngle at hu hv
  split at hu
  · rename_i e1
    split at hv
    · rename_i e2
      injection hu with hu; injection hv with hv
      subst hu hv
      rcases hpq with hh | hh
      · have h1 : p.2 < q.2 := hh
        omega
      · exact hh.2
    · cases hv
  · cases hu
theorem up_pinsAt (h : cylOk s t l = true) (ha : inR a (-1000000) 1000000 = true) : (pinsAt s t l a).Pairwise (· < ·) := by
  rw [pinsAt_eq h ha]; exact up_filter (cylOk_sp h)
theorem turnP_eq (p : Int × Int) : turnP s b p = (p.1, (p.2 + b) % s) := by unfold turnP; rw [tmod_fix]
theorem mem_turn (h : cylOk s t l = true) (hb : inR b (-1000000) 1000000 = true) {q : Int × Int} : q ∈ turnL s t l b ↔ ∃ p, p ∈ l ∧ turnP s b p = q := by
  rw [turn_yes h hb, mem_sortP]
  exact List.mem_map
theorem turn_sp (h : cylOk s t l = true) (hb : inR b (-1000000) 1000000 = true) : SP (turnL s t l b) := by rw [turn_yes h hb]; exact sp_sortP _
theorem turn_perm (h : cylOk s t l = true) (hb : inR b (-1000000) 1000000 = true) : (turnL s t l b).Perm (turnAll s b l) := by
  rw [turn_yes h hb]
  exact (List.perm_ext_iff_of_nodup (sp_sortP _).nodup (turn_nodup h)).2 fun x => mem_sortP
theorem turn_length (h : cylOk s t l = true) (hb : inR b (-1000000) 1000000 = true) : (turnL s t l b).length = l.length := by
  rw [(turn_perm h hb).length_eq, length_turnAll]
theorem turn_ok (h : cylOk s t l = true) (hb : inR b (-1000000) 1000000 = true) : cylOk s t (turnL s t l b) = true := by
  obtain ⟨h1, h2, h3, _⟩ := cylOk_parts h
  refine cylOk_of h1 h2 (by rw [turn_length h hb]; exact h3) (turn_sp h hb) fun q hq => ?_
  obtain ⟨p, hp, e⟩ := (mem_turn h hb).1 hq
  have := cylOk_mem h hp
  rw [turnP_eq] at e
  subst e
  have e1 := Int.emod_nonneg (p.2 + b) (show s ≠ 0 by omega)
  have e2 := Int.emod_lt_of_pos (p.2 + b) (show 0 < s by omega)
  simp only
  omega
theorem turn_fix (h : cylOk s t l = true) (hb : inR b (-1000000) 1000000 = true) (hf : ∀ p, p ∈ l → turnP s b p = p) : turnL s t l b = l :=
  sp_unique (turn_sp h hb) (cylOk_sp h) fun q => by
    rw [mem_turn h hb]
    exact ⟨fun ⟨p, hp, e⟩ => by rw [hf p hp] at e; rw [← e]; exact hp, fun hq => ⟨q, hq, hf q hq⟩⟩
theorem emod_id {x s : Int} (h : 0 ≤ x ∧ x ≤ s - 1) : x % s = x := Int.emod_eq_of_lt h.1 (by omega)
theorem turn_full (h : cylOk s t l = true) : turnL s t l (3 * s) = l := by
  obtain ⟨h1, h2, h3, _⟩ := cylOk_parts h
  refine turn_fix h (inR_of (by omega) (by omega)) fun p hp => ?_
  have hm := cylOk_mem h hp
  rw [turnP_eq, Int.add_mul_emod_self_right, emod_id hm.2]
theorem turn_back (h : cylOk s t l = true) (hb : inR b (-1000000) 1000000 = true) : turnL s t (turnL s t l b) (-b) = l := by
  have hb' : inR (-b) (-1000000) 1000000 = true := by have := inR_true hb; exact inR_of (by omega) (by omega)
  refine sp_unique (turn_sp (turn_ok h hb) hb') (cylOk_sp h) fun q => ?_
  have key : ∀ p, p ∈ l → turnP s (-b) (turnP s b p) = p := fun p hp => by
    have hm := cylOk_mem h hp
    rw [turnP_eq, turnP_eq]
    simp only
    rw [Int.emod_add_emod, show p.2 + b + -b = p.2 by omega, emod_id hm.2]
  rw [mem_turn (turn_ok h hb) hb']
  constructor
  · rintro ⟨p, hp, e⟩
    obtain ⟨r, hr, e2⟩ := (mem_turn h hb).1 hp
    rw [← e2, key r hr] at e
    rw [← e]; exact hr
  · intro hq
    exact ⟨turnP s b q, (mem_turn h hb).2 ⟨q, hq, rfl⟩, key q hq⟩
theorem pins_turned (h : cylOk s t l = true) (hb : inR b (-1000000) 1000000 = true) (ha : inR a (-1000000) 1000000 = true) (hab : inR (a + b) (-1000000) 1000000 = true) : pinsAt s t (turnL s t l b) (a + b) = pinsAt s t l a := by
  refine up_unique (up_pinsAt (turn_ok h hb) hab) (up_pinsAt h ha) fun q => ?_
  rw [mem_pinsAt (turn_ok h hb) hab, mem_pinsAt h ha, mem_turn h hb]
  constructor
  · rintro ⟨p, hp, e⟩
    have hm := cylOk_mem h hp
    rw [turnP_eq, Prod.mk.injEq] at e
    obtain ⟨e1, e2⟩ := e
    have e3 : (p.2 + b - b) % s = (a + b - b) % s := by rw [Int.sub_emod, e2, ← Int.sub_emod]
    rw [show p.2 + b - b = p.2 by omega, show a + b - b = a by omega, emod_id hm.2] at e3
    rw [← e3, ← e1]; exact hp
  · intro hp
    exact ⟨_, hp, by rw [turnP_eq]; simp only; rw [Int.emod_add_emod]⟩
theorem pins_around (h : cylOk s t l = true) (ha : inR a (-1000000) 1000000 = true) (ha' : inR (a - s) (-1000000) 1000000 = true) : pinsAt s t l (a - s) = pinsAt s t l a := by
  rw [pinsAt_eq h ha, pinsAt_eq h ha', Int.sub_emod_right]
/-- How many pins lie at the angles below K. -/
def angTo (s t : Int) (l : List (Int × Int)) : Nat → Nat
  | 0 => 0
  | K + 1 => angTo s t l K + (pinsAt s t l (K : Int)).length
theorem filter_next (K : Nat) (l : List (Int × Int)) : (l.filter fun p => decide (p.2 < (K : Int))).length + (l.filterMap (atAngle (K : Int))).length = (l.filter fun p => decide (p.2 < ((K + 1 : Nat) : Int))).length := by
  induction l with
  | nil => rfl
  | cons p r ihr =>
    rw [List.filter_cons, List.filterMap_cons, List.filter_cons]
    rcases Int.lt_trichotomy p.2 (K : Int) with hc | hc | hc
    · have hn : atAngle (K : Int) p = none := if_neg (by omega)
      rw [hn, decide_eq_true hc, decide_eq_true (show p.2 < ((K + 1 : Nat) : Int) by omega)]
      simp only [if_true, List.length_cons]
      omega
    · have hn : atAngle (K : Int) p = some p.1 := if_pos hc
      rw [hn, decide_eq_false (show ¬ p.2 < (K : Int) by omega), decide_eq_true (show p.2 < ((K + 1 : Nat) : Int) by omega)]
      simp only [if_true, List.length_cons]
      simp only [Bool.false_eq_true, if_false]
      omega
    · have hn : atAngle (K : Int) p = none := if_neg (by omega)
      rw [hn, decide_eq_false (show ¬ p.2 < (K : Int) by omega), decide_eq_false (show ¬ p.2 < ((K + 1 : Nat) : Int) by omega)]
      simp only [Bool.false_eq_true, if_false]
      exact ihr
theorem ang_filter (h : cylOk s t l = true) : ∀ K : Nat, (K : Int) ≤ s → angTo s t l K = (l.filter fun p => decide (p.2 < (K : Int))).length
  | 0, _ => by
    rw [List.filter_eq_nil_iff.2 (fun p hp => by have := cylOk_mem h hp; simp; omega)]; rfl
  | K + 1, hK => by
    have ih := ang_filter h K (by omega)
    obtain ⟨⟨s1, s2⟩, _, _, _⟩ := cylOk_parts h
    have e1 : pinsAt s t l (K : Int) = l.filterMap (atAngle (K : Int)) := by
      rw [pinsAt_eq h (inR_of (by omega) (by omega)), Int.emod_eq_of_lt (by omega) (by omega)]
    show angTo s t l K + _ = _
    rw [ih, e1, filter_next]
theorem ang_all {S : Nat} (h : cylOk (S : Int) t l = true) : angTo (S : Int) t l S = l.length := by
  rw [ang_filter h S (Int.le_refl _), List.filter_eq_self.2 (fun p hp => by have := cylOk_mem h hp; simp; omega)]
theorem ang_le (h : cylOk s t l = true) {K : Nat} (hK : (K : Int) ≤ s) : angTo s t l K ≤ l.length := by
  rw [ang_filter h K hK]; exact List.length_filter_le ..
/-- A pin in range is put in just if it is not there. -/
theorem put_ok (h : cylOk s t l = true) (h9 : l.length ≤ 99) {p : Int × Int} (hp : (0 ≤ p.1 ∧ p.1 ≤ t - 1) ∧ 0 ≤ p.2 ∧ p.2 ≤ s - 1) (hn : ¬ p ∈ l) : addPOk s t l p = true ∧ addPL s t l p = insP p l ∧ (insP p l).length = l.length + 1 ∧ cylOk s t (insP p l) = true := by
  obtain ⟨h1, h2, h3, _⟩ := cylOk_parts h
  have hz := length_insP_new hn
  have hk : cylOk s t (insP p l) = true := cylOk_of h1 h2 (by omega) (sp_insP (cylOk_sp h)) fun q hq => by
    rcases mem_insP.1 hq with e | e
    · subst e; exact hp
    · exact cylOk_mem h e
  have ho : addPOk s t l p = true := by rw [addP_new h hn, hk]
  exact ⟨ho, addP_yes ho, hz, hk⟩
theorem pull_ok (h : cylOk s t l = true) {k : Nat} (hk : k < l.length) : pullOk s t l (k : Int) = true ∧ (pullL s t l (k : Int)).length = l.length - 1 ∧ cylOk s t (pullL s t l (k : Int)) = true := by
  obtain ⟨h1, h2, h3, _⟩ := cylOk_parts h
  have ho : pullOk s t l (k : Int) = true := by unfold pullOk; rw [h, inR_of (by omega) (by omega)]; rfl
  have hl : pullL s t l (k : Int) = l.eraseIdx k := by rw [pull_yes ho, Int.toNat_natCast, List.eraseIdx_eq_take_drop_succ]
  have hz : (l.eraseIdx k).length = l.length - 1 := List.length_eraseIdx_of_lt hk
  have hsub := List.eraseIdx_sublist l k
  rw [hl]
  refine ⟨ho, hz, cylOk_of h1 h2 (by omega) ?_ fun q hq => cylOk_mem h (hsub.subset hq)⟩
  exact List.Pairwise.sublist (hsub.map _) (cylOk_sp h)
theorem pull_end : pullOk s t l (l.length : Int) = false := by
  unfold pullOk
  rw [show inR (l.length : Int) 0 ((l.length : Int) - 1) = false by unfold inR; exact decide_eq_false (by omega), Bool.and_false]
end
theorem cof_two : cofOk [(1, 5), (3, 5)] [2, 0] 8 3 = true ∧ cofS [(1, 5), (3, 5)] [2, 0] 8 3 = 8 ∧ cofT [(1, 5), (3, 5)] [2, 0] 8 3 = 3 ∧ cofL [(1, 5), (3, 5)] [2, 0] 8 3 = [(2, 1), (0, 3)] := by decide +kernel
end Go.Proofs.Ytakllloangpimaa
