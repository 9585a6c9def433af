/- AddNote: the plain law, and that the program's answers it. -/
import Derived.Test.YtkipgjllgmjipaaJoinL
namespace Go.Proofs.Ytkipgjllgmjipaa
open Go.RowKit
set_option linter.unusedVariables false

def addOk (t : List (Int × Int)) (n : Int × Int) : Bool := tuneOk t && (!(decide (n ∈ t)) && tuneOk (insU n t))
def addL (t : List (Int × Int)) (n : Int × Int) : List (Int × Int) := if addOk t n = true then insU n t else t
theorem add_no {t : List (Int × Int)} {n : Int × Int} (h : addOk t n = false) : addL t n = t := if_neg (by rw [h]; exact Bool.false_ne_true)
theorem add_yes {t : List (Int × Int)} {n : Int × Int} (h : addOk t n = true) : addL t n = insU n t := if_pos h
theorem add_sort {t : List (Int × Int)} {n : Int × Int} (h : tuneOk t = true) : sortU (t ++ [n]) = insU n t :=
  sortU_eq (si_insU (tuneOk_si h)) fun x => by
    rw [mem_insU, List.mem_append, List.mem_singleton]
    constructor
    · rintro (h | h)
      · exact .inr h
      · exact .inl h
    · rintro (h | h)
      · exact .inr h
      · exact .inl h
theorem add_in {t : List (Int × Int)} {n : Int × Int} (h : tuneOk t = true) (hn : n ∈ t) : insU n t = t :=
  si_unique (si_insU (tuneOk_si h)) (tuneOk_si h) fun x => by
    rw [mem_insU]
    constructor
    · rintro (h | h)
      · subst h; exact hn
      · exact h
    · exact fun h => .inr h
theorem add_full {t : List (Int × Int)} {n : Int × Int} (h : tuneOk t = true) (h40 : t.length = 40) : addOk t n = false := by
  unfold addOk
  by_cases hn : n ∈ t
  · simp [hn]
  · have : tuneOk (insU n t) = false := tuneOk_long (by rw [length_insU_new hn]; omega)
    rw [this]; simp
theorem add_has {t : List (Int × Int)} {n : Int × Int} (hn : n ∈ t) : addOk t n = false := by unfold addOk; simp [hn]
theorem add_new {t : List (Int × Int)} {n : Int × Int} (h : tuneOk t = true) (hn : ¬ n ∈ t) : addOk t n = tuneOk (insU n t) := by unfold addOk; rw [h]; simp [hn]
theorem add_bad {t : List (Int × Int)} {n : Int × Int} (h : tuneOk t = false) : addOk t n = false := by unfold addOk; rw [h]; rfl
/-- What the reference asks instead: that the list has grown. -/
theorem add_grown {t : List (Int × Int)} {n : Int × Int} (h : tuneOk t = true) : (insU n t).length = t.length ↔ n ∈ t := by
  constructor
  · intro he
    exact Classical.byContradiction fun hn => by rw [length_insU_new hn] at he; omega
  · intro hn; rw [add_in h hn]
theorem impl_hasNote {l : List (Int × Int)} {A : Option Addr} {c : Nat} {x y : Int} {w : World} (h : RP w A l) :
    Calls Try.prog 72 #[.slice A l.length c, .agg #[.int .i64 x, .int .i64 y]] w fun e w' => e = .returned (.bool (decide ((x, y) ∈ l))) ∧ Below w.heap.size w w' := by
  obtain ⟨hn, hA⟩ := h
  have HA := Lib.hid hA; clear hA
  have hyes : Hid (∀ k, k < l.length → l.getD k (0, 0) = (x, y) → decide ((x, y) ∈ l) = true) := fun k hk e => decide_eq_true (mem_getD.1 ⟨k, hk, e⟩)
  have hno : Hid ((∀ j, j < l.length → l.getD j (0, 0) ≠ (x, y)) → decide ((x, y) ∈ l) = false) := fun h => decide_eq_false fun hm => by
    obtain ⟨j, h1, h2⟩ := mem_getD.2 hm
    exact h j h1 h2
  go_enter Try.func72, Try.ntmps72
  go_wp2
  generalize hW : World.alloc w _ = W1
  obtain ⟨hb1, _, m0, m1⟩ := new2c hW
  clear hW
  have M0 := Lib.hid m0; have M1 := Lib.hid m1
  clear m0 m1
  go_loopw [9] (fun i wr => ∃ k : Nat, k ≤ l.length ∧ i = .int .i64 k ∧ Hid (∀ j, j < k → l.getD j (0, 0) ≠ (x, y)) ∧ Below W1.heap.size W1 wr) (fun i _ => l.length - (intOf i).toNat)
  case atStart => exact ⟨0, Nat.zero_le _, rfl, fun j hj => absurd hj (by omega), Below.refl _ _⟩
  case round =>
    obtain ⟨k, hk, rfl, hall, hbel⟩ := hrel
    by_cases hlt : k < l.length
    · obtain ⟨b, off, rfl, hP⟩ := HA.out (by omega)
      have HP := Lib.hid (hP.below hb1); clear hP
      obtain ⟨u, v, e1⟩ := pair_of l k
      have c1 := HP.out.c1 hbel hlt e1
      have c2 := HP.out.c2 hbel hlt e1
      have hb5 := bnew hbel (.cells #[.int .i64 u, .int .i64 v] 38)
      have x0 := cell_later M0.out hb5
      have x1 := cell_later M1.out hb5
      by_cases hx : u = x
      case neg =>
        go_wp2
        go_roundw
        case rel => exact ⟨k + 1, by omega, by go_num, fun j hj => by
          rcases Nat.lt_or_ge j k with h | h
          · exact hall.out j h
          · have : j = k := by omega
            subst this; rw [e1.out]; exact fun he => hx (congrArg Prod.fst he), hb5⟩
        case measure => simp [intOf]; omega
      subst hx
      by_cases hy : v = y
      case neg =>
        go_wp2
        go_roundw
        case rel => exact ⟨k + 1, by omega, by go_num, fun j hj => by
          rcases Nat.lt_or_ge j k with h | h
          · exact hall.out j h
          · have : j = k := by omega
            subst this; rw [e1.out]; exact fun he => hy (congrArg Prod.snd he), hb5⟩
        case measure => simp [intOf]; omega
      subst hy
      have hf := Lib.hid (hyes.out k hlt e1.out)
      go_wp2
      go_ret
      exact ⟨ret_bool hf.out.symm, bthen hb1 hb5⟩
    · obtain rfl : k = l.length := by omega
      have hf := Lib.hid (hno.out hall.out)
      go_wp2
      go_ret
      exact ⟨ret_bool hf.out.symm, bthen hb1 hbel⟩
end Go.Proofs.Ytkipgjllgmjipaa
