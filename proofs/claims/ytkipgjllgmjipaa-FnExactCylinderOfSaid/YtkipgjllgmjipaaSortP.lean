/- Plain laws on pins (track, angle) in order: angle first, then track. No function of the program is named here. -/
import Derived.Test.YtkipgjllgmjipaaSortL
import Derived.Test.YtkipgjllgmjipaaCylOk
namespace Go.Proofs.Ytkipgjllgmjipaa
open Go.RowKit

def sw (p : Int × Int) : Int × Int := (p.2, p.1)
theorem sw_sw (p : Int × Int) : sw (sw p) = p := rfl
theorem sw_inj {p q : Int × Int} (h : sw p = sw q) : p = q := by rw [← sw_sw p, h, sw_sw]
theorem map_sw_sw (l : List (Int × Int)) : (l.map sw).map sw = l := by
  rw [List.map_map]
  induction l with
  | nil => rfl
  | cons p r ih => rw [List.map_cons, ih]; rfl
theorem getD_sw (l : List (Int × Int)) (k : Nat) : (l.map sw).getD k (0, 0) = sw (l.getD k (0, 0)) := by
  rw [List.getD_eq_getElem?_getD, List.getElem?_map, List.getD_eq_getElem?_getD]
  cases l[k]? <;> rfl
theorem mem_sw {l : List (Int × Int)} {x : Int × Int} : x ∈ l.map sw ↔ sw x ∈ l := by
  constructor
  · intro h
    obtain ⟨y, h1, h2⟩ := List.mem_map.1 h
    rw [← h2, sw_sw]; exact h1
  · intro h
    exact List.mem_map.2 ⟨sw x, h, sw_sw x⟩
def ltP (p q : Int × Int) : Prop := lt2 (sw p) (sw q)
instance (p q : Int × Int) : Decidable (ltP p q) := by unfold ltP; exact inferInstance
theorem ltP_irrefl (p : Int × Int) : ¬ ltP p p := lt2_irrefl _
/-- Strictly rising. -/
def SP (l : List (Int × Int)) : Prop := SI (l.map sw)
/-- p at its place, if it is not there. -/
def insP (p : Int × Int) (l : List (Int × Int)) : List (Int × Int) := (insU (sw p) (l.map sw)).map sw
def sortP (l : List (Int × Int)) : List (Int × Int) := (sortU (l.map sw)).map sw
/-- The first k, each put at its place. -/
def putTo (l : List (Int × Int)) (k : Nat) : List (Int × Int) := (sortTo (l.map sw) k).map sw
theorem putTo_succ (l : List (Int × Int)) (k : Nat) : putTo l (k + 1) = insP (l.getD k (0, 0)) (putTo l k) := by
  unfold putTo insP
  rw [map_sw_sw, ← getD_sw]; rfl
theorem putTo_all (l : List (Int × Int)) : putTo l l.length = sortP l := by
  unfold putTo sortP sortU
  rw [List.length_map]
theorem length_putTo (l : List (Int × Int)) (k : Nat) : (putTo l k).length ≤ k := by
  unfold putTo; rw [List.length_map]; exact length_sortTo _ k
theorem insP_at {p : Int × Int} {l : List (Int × Int)} {k : Nat} (hk : k ≤ l.length) (h1 : ∀ j, j < k → ltP (l.getD j (0, 0)) p) (h2 : k < l.length → ¬ ltP (l.getD k (0, 0)) p) :
    insP p l = if k < l.length ∧ l.getD k (0, 0) = p then l else l.take k ++ [p] ++ l.drop k := by
  unfold insP
  rw [insU_at (p := sw p) (l := l.map sw) (k := k) (by rw [List.length_map]; exact hk) (fun j hj => by rw [getD_sw]; exact h1 j hj) (fun hj => by rw [getD_sw]; rw [List.length_map] at hj; exact h2 hj)]
  by_cases e : k < l.length ∧ l.getD k (0, 0) = p
  · rw [if_pos e, if_pos ⟨by rw [List.length_map]; exact e.1, by rw [getD_sw, e.2]⟩, map_sw_sw]
  · rw [if_neg e, if_neg (fun hh => e ⟨by have := hh.1; rwa [List.length_map] at this, sw_inj (by rw [← getD_sw]; exact hh.2)⟩)]
    rw [List.map_append, List.map_append, ← List.map_take, ← List.map_drop, map_sw_sw, map_sw_sw]
    rfl
theorem mem_insP {p x : Int × Int} {l : List (Int × Int)} : x ∈ insP p l ↔ x = p ∨ x ∈ l := by
  unfold insP
  rw [mem_sw, mem_insU, mem_sw, sw_sw]
  constructor
  · rintro (h | h)
    · exact .inl (sw_inj h)
    · exact .inr h
  · rintro (h | h)
    · exact .inl (by rw [h])
    · exact .inr h
theorem mem_sortP {x : Int × Int} {l : List (Int × Int)} : x ∈ sortP l ↔ x ∈ l := by
  unfold sortP
  rw [mem_sw, mem_sortU, mem_sw, sw_sw]
theorem sp_insP {p : Int × Int} {l : List (Int × Int)} (h : SP l) : SP (insP p l) := by
  unfold SP insP; rw [map_sw_sw]; exact si_insU h
theorem sp_sortP (l : List (Int × Int)) : SP (sortP l) := by
  unfold SP sortP; rw [map_sw_sw]; exact sortU_si _
theorem sp_putTo (l : List (Int × Int)) (k : Nat) : SP (putTo l k) := by
  unfold SP putTo; rw [map_sw_sw]; exact si_sortTo _ _
theorem mem_putTo {l : List (Int × Int)} {x : Int × Int} {k : Nat} : x ∈ putTo l k ↔ ∃ j, j < k ∧ l.getD j (0, 0) = x := by
  unfold putTo
  rw [mem_sw, mem_sortTo]
  constructor
  · rintro ⟨j, h1, h2⟩; exact ⟨j, h1, sw_inj (by rw [← getD_sw]; exact h2)⟩
  · rintro ⟨j, h1, h2⟩; exact ⟨j, h1, by rw [getD_sw, h2]⟩
theorem sp_unique {l m : List (Int × Int)} (hl : SP l) (hm : SP m) (h : ∀ x, x ∈ l ↔ x ∈ m) : l = m := by
  have := si_unique hl hm (fun x => by rw [mem_sw, mem_sw, h])
  rw [← map_sw_sw l, this, map_sw_sw]
theorem sortP_eq {l m : List (Int × Int)} (h : SP m) (hm : ∀ x, x ∈ m ↔ x ∈ l) : sortP l = m := sp_unique (sp_sortP l) h fun x => by rw [mem_sortP, hm]
theorem getD_at {l : List (Int × Int)} {k : Nat} (h : k < l.length) : l.getD k (0, 0) = l[k] := by
  rw [List.getD_eq_getElem?_getD, List.getElem?_eq_getElem h]; rfl
theorem SP.at {l : List (Int × Int)} (h : SP l) {i j : Nat} (hij : i < j) (hj : j < l.length) : ltP (l.getD i (0, 0)) (l.getD j (0, 0)) := by
  have := List.pairwise_iff_getElem.1 h i j (by rw [List.length_map]; omega) (by rw [List.length_map]; exact hj) hij
  rw [List.getElem_map, List.getElem_map, ← getD_at, ← getD_at] at this
  exact this
theorem SP.of {l : List (Int × Int)} (h : ∀ i j, i < j → j < l.length → ltP (l.getD i (0, 0)) (l.getD j (0, 0))) : SP l :=
  List.pairwise_iff_getElem.2 fun i j hi hj hij => by
    rw [List.length_map] at hi hj
    have := h i j hij hj
    rw [List.getElem_map, List.getElem_map, ← getD_at hi, ← getD_at hj]
    exact this
theorem SP.nodup {l : List (Int × Int)} (h : SP l) : l.Nodup :=
  List.pairwise_iff_getElem.2 fun i j hi hj hij e => by
    have := h.at hij hj
    rw [getD_at hi, getD_at hj, e] at this
    exact ltP_irrefl _ this
/-- A sorted list of l's elements, none of them twice, is l put in order. -/
theorem sorted_eq {l m : List (Int × Int)} (hp : m.Perm l) (hs : ∀ i j, i < j → j < m.length → ¬ ltP (m.getD j (0, 0)) (m.getD i (0, 0))) (hn : l.Nodup) : m = sortP l := by
  have hm : m.Nodup := hp.nodup_iff.2 hn
  refine (sortP_eq (SP.of fun i j hij hj => ?_) fun x => hp.mem_iff).symm
  have h1 := hs i j hij hj
  have h2 : m.getD i (0, 0) ≠ m.getD j (0, 0) := by
    rw [getD_at (show i < m.length by omega), getD_at hj]
    exact List.pairwise_iff_getElem.1 hm i j (by omega) hj hij
  exact lt2_tri h1 (fun e => h2 (sw_inj e).symm)
theorem sorted_twice {l m : List (Int × Int)} (hp : m.Perm l) (hn : ¬ l.Nodup) : ¬ SP m := fun h => hn (hp.nodup_iff.1 h.nodup)
theorem cylOk_sp {s t : Int} {l : List (Int × Int)} (h : cylOk s t l = true) : SP l := by
  obtain ⟨_, _, _, h2⟩ := cylOk_parts h
  have step : ∀ k, k + 1 < l.length → ltP (l.getD k (0, 0)) (l.getD (k + 1) (0, 0)) := by
    intro k hk
    have := h2 (k + 1) hk
    unfold cylAt at this
    simp only [Bool.and_eq_true, Bool.or_eq_true, beq_iff_eq] at this
    rcases this.2 with e | e
    · omega
    · rw [show k + 1 - 1 = k by omega] at e; exact less2_true e
  have key : ∀ i d, i + d + 1 < l.length → ltP (l.getD i (0, 0)) (l.getD (i + d + 1) (0, 0)) := by
    intro i d
    induction d with
    | zero => intro hd; exact step i hd
    | succ d ih => intro hd; exact lt2_trans (ih (by omega)) (step (i + d + 1) hd)
  refine SP.of fun i j hij hj => ?_
  have := key i (j - i - 1) (by omega)
  rwa [show i + (j - i - 1) + 1 = j by omega] at this
theorem length_insU_new' {p : Int × Int} : ∀ {l : List (Int × Int)}, ¬ p ∈ l → (insU p l).length = l.length + 1
  | [], _ => rfl
  | q :: r, h => by
    obtain ⟨h1, h2⟩ := not_or.1 (fun hh => h (List.mem_cons.2 hh))
    have ih := length_insU_new' (p := p) (l := r) h2
    unfold insU
    split
    · rw [List.length_cons, ih, List.length_cons]
    · rw [if_neg (fun e => h1 e.symm)]; rfl
theorem length_insP_new {p : Int × Int} {l : List (Int × Int)} (h : ¬ p ∈ l) : (insP p l).length = l.length + 1 := by
  unfold insP
  rw [List.length_map, length_insU_new' (fun hm => h (by rw [mem_sw, sw_sw] at hm; exact hm)), List.length_map]
theorem length_insP_le (p : Int × Int) (l : List (Int × Int)) : (insP p l).length ≤ l.length + 1 := by
  unfold insP
  rw [List.length_map]
  have := length_insU (sw p) (l.map sw)
  rwa [List.length_map] at this

/-! ## What AddPin, TurnBy and CylinderOf answer -/
def addPOk (s t : Int) (l : List (Int × Int)) (p : Int × Int) : Bool := cylOk s t l && (!(decide (p ∈ l)) && cylOk s t (insP p l))
def addPL (s t : Int) (l : List (Int × Int)) (p : Int × Int) : List (Int × Int) := if addPOk s t l p = true then insP p l else l
section
variable {s t : Int} {l : List (Int × Int)} {p : Int × Int}
theorem addP_no (h : addPOk s t l p = false) : addPL s t l p = l := if_neg (by rw [h]; exact Bool.false_ne_true)
theorem addP_yes (h : addPOk s t l p = true) : addPL s t l p = insP p l := if_pos h
theorem addP_bad (h : cylOk s t l = false) : addPOk s t l p = false := by unfold addPOk; rw [h]; rfl
theorem addP_has (h : p ∈ l) : addPOk s t l p = false := by unfold addPOk; simp [h]
theorem addP_new (h : cylOk s t l = true) (hn : ¬ p ∈ l) : addPOk s t l p = cylOk s t (insP p l) := by unfold addPOk; rw [h]; simp [hn]
theorem addP_sort {m : List (Int × Int)} (h : cylOk s t l = true) (hn : ¬ p ∈ l) (hp : m.Perm (l ++ [p])) (hs : ∀ i j, i < j → j < m.length → ¬ ltP (m.getD j (0, 0)) (m.getD i (0, 0))) : m = insP p l := by
  rw [sorted_eq hp hs (List.nodup_append.2 ⟨(cylOk_sp h).nodup, by simp, fun a ha b hb e => hn (by rw [List.mem_singleton] at hb; subst hb; subst e; exact ha)⟩)]
  exact sortP_eq (sp_insP (cylOk_sp h)) fun x => by
    rw [mem_insP, List.mem_append, List.mem_singleton]
    exact ⟨fun h => h.symm, fun h => h.symm⟩
end
def turnP (s by' : Int) (p : Int × Int) : Int × Int := (p.1, ((p.2 + by').tmod s + s) % s)
def turnAll (s by' : Int) (l : List (Int × Int)) : List (Int × Int) := l.map (turnP s by')
def turnL (s t : Int) (l : List (Int × Int)) (by' : Int) : List (Int × Int) := if cylOk s t l = true ∧ inR by' (-1000000) 1000000 = true then sortP (turnAll s by' l) else l
section
variable {s t b : Int} {l : List (Int × Int)} {p : Int × Int}
theorem turn_no (h : ¬ (cylOk s t l = true ∧ inR b (-1000000) 1000000 = true)) : turnL s t l b = l := if_neg h
theorem turn_yes (h1 : cylOk s t l = true) (h2 : inR b (-1000000) 1000000 = true) : turnL s t l b = sortP (turnAll s b l) := if_pos ⟨h1, h2⟩
theorem tmod_fix {n s : Int} : (n.tmod s + s) % s = n % s := by
  rw [Int.tmod_def, show n - s * n.tdiv s + s = n + s * (1 - n.tdiv s) by rw [Int.mul_sub]; omega, Int.add_mul_emod_self_left]
theorem turn_nodup (h : cylOk s t l = true) : (turnAll s b l).Nodup := by
  have hn := (cylOk_sp h).nodup
  obtain ⟨⟨s1, s2⟩, _, _, _⟩ := cylOk_parts h
  have hmem : ∀ p, p ∈ l → 0 ≤ p.2 ∧ p.2 ≤ s - 1 := by
    intro p hp
    obtain ⟨j, h1, h2⟩ := mem_getD.2 hp
    have := cylOk_pin h h1 (x := p.1) (y := p.2) (Lib.hid h2)
    omega
  unfold turnAll
  refine List.pairwise_map.2 (List.Pairwise.imp_of_mem ?_ hn)
  intro p q hp hq hne he
  obtain ⟨p1, p2⟩ := hmem p hp
  obtain ⟨q1, q2⟩ := hmem q hq
  unfold turnP at he
  rw [tmod_fix, tmod_fix, Prod.mk.injEq] at he
  refine hne (Prod.ext he.1 ?_)
  have h3 : (p.2 + b - (q.2 + b)) % s = 0 := Int.emod_eq_zero_of_dvd (Int.dvd_of_emod_eq_zero (by rw [Int.sub_emod, he.2, Int.sub_self, Int.zero_emod]))
  rw [show p.2 + b - (q.2 + b) = p.2 - q.2 by omega] at h3
  obtain ⟨d, hd⟩ := Int.dvd_of_emod_eq_zero h3
  have hd0 : d = 0 := by
    rcases Int.lt_trichotomy d 0 with hlt | heq | hgt
    · have : s * d ≤ s * (-1) := Int.mul_le_mul_of_nonneg_left (by omega) (by omega)
      omega
    · exact heq
    · have : s * 1 ≤ s * d := Int.mul_le_mul_of_nonneg_left (by omega) (by omega)
      omega
  subst hd0
  omega
theorem turn_at {k : Nat} (hk : k < l.length) {x y : Int} (e : Hid (l.getD k (0, 0) = (x, y))) : (turnAll s b l).getD k (0, 0) = turnP s b (x, y) := by
  unfold turnAll
  rw [List.getD_eq_getElem?_getD, List.getElem?_map, ← e.out, getD_at hk, List.getElem?_eq_getElem hk]; rfl
theorem length_turnAll : (turnAll s b l).length = l.length := List.length_map ..
end
/-- The pins of a tune's notes, each with the tooth that te names. -/
def pinsOf (n : List (Int × Int)) (te : List Int) : List (Int × Int) := (List.range n.length).map fun k => (te.getD k 0, (n.getD k (0, 0)).1)
theorem length_pinsOf (n : List (Int × Int)) (te : List Int) : (pinsOf n te).length = n.length := by simp [pinsOf]
theorem pinsOf_at {n : List (Int × Int)} {te : List Int} {k : Nat} (h : k < n.length) {x y z : Int} (e1 : Hid (n.getD k (0, 0) = (x, y))) (e2 : Hid (te.getD k 0 = z)) : (pinsOf n te).getD k (0, 0) = (z, x) := by
  unfold pinsOf
  rw [List.getD_eq_getElem?_getD, List.getElem?_map, List.getElem?_range h, Option.map_some, Option.getD_some, e1.out, e2.out]
end Go.Proofs.Ytkipgjllgmjipaa
