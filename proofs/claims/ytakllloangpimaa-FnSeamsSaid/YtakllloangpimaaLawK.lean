/- What the laws' own helpers answer. -/
import Derived.Test.YtakllloangpimaaFrameB
import Derived.Test.YtakllloangpimaaBase2
import Derived.Test.YtakllloangpimaaNum
namespace Go.Proofs.Ytakllloangpimaa
open Go.RowKit
set_option linter.unusedVariables false
theorem laws_big {A : Option Addr} {n c : Nat} {w : World} : Calls Try.prog 8 #[.slice A n c] w fun e w' => e = .returned (.bool (decide (1048576 < n))) ∧ w = w' := by
  go_enter Try.func8, Try.ntmps8
  go_wp2
  go_ret
  exact ⟨ret_bool (by simp; omega), rfl⟩
/-- A slice of bytes, its numbers known. -/
def RB (w : World) (A : Option Addr) (l : List Int) : Prop := l.length ≤ 1048576 ∧ (0 < l.length → ∃ b off, A = some ⟨b, off, none⟩ ∧ BytesAt w b off l)
theorem RB.below {w w' : World} {A : Option Addr} {l : List Int} (h : RB w A l) (hb : Below w.heap.size w w') : RB w' A l :=
  ⟨h.1, fun hl => by
    obtain ⟨b, off, hA, hj⟩ := h.2 hl
    exact ⟨b, off, hA, fun j hjl => by obtain ⟨h1, h2, h3⟩ := hj j hjl; exact ⟨h1, h2, cell_later h3 hb⟩⟩⟩
theorem RB.ru {w : World} {A : Option Addr} {l : List Int} (h : RB w A l) : RU w A l.length := bytes_ru h.1 h.2
/-- The number that the code holds for i. -/
def atV (l : List Int) (i : Int) : Int := if l.length = 0 then 0 else l.getD ((i * 5 + 1) % (l.length : Int)).toNat 0
theorem atV_range {w : World} {A : Option Addr} {l : List Int} (h : RB w A l) (i : Int) : 0 ≤ atV l i ∧ atV l i ≤ 255 := by
  unfold atV
  split
  · omega
  · rename_i h0
    have e1 := Int.emod_nonneg (i * 5 + 1) (show (l.length : Int) ≠ 0 by omega)
    have e2 := Int.emod_lt_of_pos (i * 5 + 1) (show 0 < (l.length : Int) by omega)
    obtain ⟨b, off, _, hj⟩ := h.2 (by omega)
    obtain ⟨h1, h2, _⟩ := hj ((i * 5 + 1) % (l.length : Int)).toNat (by omega)
    omega
theorem laws_at {A : Option Addr} {l : List Int} {c : Nat} {i : Int} {w : World} (h : RB w A l) (hi : 0 ≤ i ∧ i ≤ 10) : Calls Try.prog 10 #[.slice A l.length c, .int .i64 i] w fun e w' => e = .returned (.int .i64 (atV l i)) ∧ w = w' := by
  have H := Lib.hid h; clear h
  have hn := H.out.1
  by_cases h0 : l.length = 0
  · have q : ((l.length : Int) == 0) = true := by simp [h0]
    have e : Hid (atV l i = 0) := if_pos h0
    clear h0
    go_enter Try.func10, Try.ntmps10
    go_wp2
    go_ret
    exact ⟨ret_int e.out.symm, rfl⟩
  · have q : ((l.length : Int) == 0) = false := beq_eq_false_iff_ne.2 (by omega)
    obtain ⟨i1, i2⟩ := hi
    have e1 := Int.emod_nonneg (i * 5 + 1) (show (l.length : Int) ≠ 0 by omega)
    have e2 := Int.emod_lt_of_pos (i * 5 + 1) (show 0 < (l.length : Int) by omega)
    have E3 : (i * 5 + 1).tmod (l.length : Int) = (i * 5 + 1) % (l.length : Int) := Int.tmod_eq_emod_of_nonneg (by omega)
    obtain ⟨z, hz⟩ : ∃ z : Nat, Hid ((i * 5 + 1) % (l.length : Int) = (z : Int)) := ⟨((i * 5 + 1) % (l.length : Int)).toNat, by show _ = _; omega⟩
    have ev : Hid (atV l i = l.getD z 0) := by
      show (if _ then _ else _) = _
      rw [if_neg h0, hz.out, Int.toNat_natCast]
    rw [hz.out] at E3 e1 e2
    obtain ⟨b, off, rfl, hj⟩ := H.out.2 (by omega)
    obtain ⟨x1, x2, c1⟩ := hj z (by omega)
    obtain ⟨x, hx⟩ : ∃ x : Int, l.getD z 0 = x := ⟨_, rfl⟩
    rw [hx] at x1 x2 c1 ev
    have hzn : z < l.length := by omega
    have E5 : IntKind.i64.wrap x = x := IntWalk.i64_in _ (by omega)
    clear hj h0 hx
    go_enter Try.func10, Try.ntmps10
    go_wp2
    go_ret
    exact ⟨ret_int ev.out.symm, rfl⟩
theorem laws_same {l : List Int} {A B : Option Addr} {n m c d : Nat} {w : World} (h1 : RI w A l) (h2 : RI w B l) (hn : n = l.length) (hm : m = l.length) : Calls Try.prog 14 #[.slice A n c, .slice B m d] w fun e w' => e = .returned (.bool true) ∧ Below w.heap.size w w' := by
  subst hn hm
  have hl := h1.1
  have H1 := Lib.hid h1; have H2 := Lib.hid h2; clear h1 h2
  go_enter Try.func14, Try.ntmps14
  go_wp2
  go_loopw [5] (fun i wr => ∃ k : Nat, k ≤ l.length ∧ i = .int .i64 k ∧ Below w.heap.size w wr) (fun i _ => l.length - (intOf i).toNat)
  case atStart => exact ⟨0, Nat.zero_le _, rfl, Below.refl _ _⟩
  case round =>
    obtain ⟨k, hk, rfl, hbel⟩ := hrel
    by_cases hlt : k < l.length
    · obtain ⟨u, e1⟩ := int_of l k
      obtain ⟨b1, o1, rfl, P1⟩ := H1.out.2 (by omega)
      obtain ⟨b2, o2, rfl, P2⟩ := H2.out.2 (by omega)
      have m1 := P1.a1 hbel hlt e1; have m2 := P2.a1 hbel hlt e1
      clear P1 P2 e1
      go_wp2_with fail
      refine wp_region_after (by kernel_rfl) (by kernel_rfl) ?_
      repeat (go_big_quiet_step (fail))
      refine wpQuiet_nil ?_
      rintro _ ⟨⟨wq, hq⟩, rfl⟩
      replace hbel := bthen hbel hq
      clear hq
      clear m1 m2
      go_wp2
      go_roundw
      case rel => exact ⟨k + 1, by omega, by go_num, hbel⟩
      case measure => simp [intOf]; omega
    · go_wp2
      go_ret
      exact ⟨rfl, hbel⟩
theorem laws_has {l : List Int} {A : Option Addr} {n c : Nat} {x : Int} {w : World} (h : RI w A l) (hn : n = l.length) : Calls Try.prog 16 #[.slice A n c, .int .i64 x] w fun e w' => e = .returned (.bool (decide (x ∈ l))) ∧ w = w' := by
  subst hn
  have hl := h.1
  have H := Lib.hid h; clear h
  go_enter Try.func16, Try.ntmps16
  go_wp2
  go_loopw [5] (fun i wr => ∃ k : Nat, k ≤ l.length ∧ i = .int .i64 k ∧ Hid (∀ j, j < k → l.getD j 0 ≠ x) ∧ w = wr) (fun i _ => l.length - (intOf i).toNat)
  case atStart => exact ⟨0, Nat.zero_le _, rfl, fun j hj => by omega, rfl⟩
  case round =>
    obtain ⟨k, hk, rfl, hno, rfl⟩ := hrel
    by_cases hlt : k < l.length
    · obtain ⟨u, e1⟩ := int_of l k
      obtain ⟨b1, o1, rfl, P1⟩ := H.out.2 (by omega)
      have c1 := P1.c1 (Below.refl _ _) hlt e1
      clear P1
      by_cases hu : u = x
      · have hm : Hid (decide (x ∈ l) = true) := by
          refine decide_eq_true ?_
          rw [← hu, ← e1.out, List.getD_eq_getElem?_getD, List.getElem?_eq_getElem hlt]
          exact List.getElem_mem hlt
        have q : (u == x) = true := by rw [beq_iff_eq]; exact hu
        clear hu e1
        go_wp2
        go_ret
        exact ⟨ret_bool hm.out.symm, rfl⟩
      · have q : (u == x) = false := by rw [beq_eq_false_iff_ne]; exact hu
        have hno2 : Hid (∀ j, j < k + 1 → l.getD j 0 ≠ x) := fun j hj => by
          by_cases hjk : j = k
          · subst hjk; rw [e1.out]; exact hu
          · exact hno.out j (by omega)
        clear hu e1
        go_wp2
        go_roundw
        case rel => exact ⟨k + 1, by omega, by go_num, hno2, by first | rfl | trivial⟩
        case measure => simp [intOf]; omega
    · have hm : Hid (decide (x ∈ l) = false) := by
        refine decide_eq_false fun hx => ?_
        obtain ⟨j, hj, e⟩ := List.getElem_of_mem hx
        refine hno.out j (by omega) ?_
        rw [List.getD_eq_getElem?_getD, List.getElem?_eq_getElem hj, ← e]; rfl
      go_wp2
      go_ret
      exact ⟨ret_bool hm.out.symm, rfl⟩
end Go.Proofs.Ytakllloangpimaa
