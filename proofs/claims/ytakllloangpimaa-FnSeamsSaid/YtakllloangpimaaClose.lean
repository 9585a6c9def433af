/- ClosestPins: what it answers, and that the program's and the reference's functions answer it. -/
import Derived.Test.YtakllloangpimaaCylOk
import Derived.Test.YtakllloangpimaaBase2
namespace Go.Proofs.Ytakllloangpimaa
open Go.RowKit

/-! ## Plain notions -/
/-- f 0, f 1, .. f (n - 1), one after the other. -/
def runN {α : Type} (f : Nat → α → α) : Nat → α → α
  | 0, a => a
  | k + 1, a => f k (runN f k a)
theorem min_if (x y : Int) : min x y = if y < x then y else x := by split <;> omega
def gapIf (s : Int) (p q : Int × Int) (b : Int) : Int := if p.1 = q.1 then min b (gapM p.2 q.2 s) else b
def closeIn (s : Int) (l : List (Int × Int)) (i : Nat) (b : Int) (k : Nat) : Int := runN (fun j b => gapIf s (l.getD i (0, 0)) (l.getD j (0, 0)) b) k b
def closeOut (s : Int) (l : List (Int × Int)) (k : Nat) : Int := runN (fun i b => closeIn s l i b i) k s
def closestM (s t : Int) (l : List (Int × Int)) : Int := if cylOk s t l = true then closeOut s l l.length else -1
section
variable {s t : Int} {l : List (Int × Int)} {i k : Nat} {b x y x' y' : Int}
theorem closest_no (g : cylOk s t l = false) : closestM s t l = -1 := if_neg (by rw [g]; exact Bool.false_ne_true)
theorem closest_yes (g : cylOk s t l = true) : closestM s t l = closeOut s l l.length := if_pos g
theorem closeOut_next : closeIn s l k (closeOut s l k) k = closeOut s l (k + 1) := rfl
theorem closeIn_same (e : Hid (l.getD i (0, 0) = (x, y))) (e' : Hid (l.getD k (0, 0) = (x', y'))) (h : x = x') : closeIn s l i b (k + 1) = min (closeIn s l i b k) (gapM y y' s) := by
  show gapIf s (l.getD i (0, 0)) (l.getD k (0, 0)) (closeIn s l i b k) = _
  unfold gapIf; rw [e.out, e'.out]; exact if_pos h
theorem closeIn_other (e : Hid (l.getD i (0, 0) = (x, y))) (e' : Hid (l.getD k (0, 0) = (x', y'))) (h : x ≠ x') : closeIn s l i b (k + 1) = closeIn s l i b k := by
  show gapIf s (l.getD i (0, 0)) (l.getD k (0, 0)) (closeIn s l i b k) = _
  unfold gapIf; rw [e.out, e'.out]; exact if_neg h
end
set_option maxHeartbeats 1000000 in
theorem impl_ClosestPins {s t : Int} {l : List (Int × Int)} {A : Option Addr} {c : Nat} {w : World} (h : RP w A l) (hc : l.length ≤ c) :
    Calls Try.prog 44 #[.agg #[.int .i64 s, .int .i64 t, .slice A l.length c]] w fun e w' => e = .returned (.int .i64 (closestM s t l)) ∧ Below w.heap.size w w' := by
  have H := Lib.hid h
  obtain ⟨hn, hA⟩ := h
  have HA := Lib.hid hA; clear hA
  cases g : cylOk s t l
  · go_enter Try.func44, Try.ntmps44
    go_wp2_with (go_at_call 12; refine (impl_CylinderOk (H.out.below (bnew (Below.refl _ _) _))).mono ?_; rintro e w1 ⟨rfl, hbel⟩)
    go_ret
    exact ⟨ret_int (closest_no g).symm, bthen (bnew (Below.refl _ _) _) hbel⟩
  have hT := Lib.hid (closest_yes g)
  go_enter Try.func44, Try.ntmps44
  go_wp2_with fail
  generalize hW : World.alloc w _ = W1
  obtain ⟨hb1, _, m0, m1, m2⟩ := new3c hW
  clear hW
  refine (impl_CylinderOk (H.out.below hb1)).mono ?_
  rintro e w1 ⟨rfl, hbel⟩
  have M0 := Lib.hid (cell_later m0 hbel); have M2 := Lib.hid (cell_later m2 hbel)
  have hb2 := bthen hb1 hbel
  clear m0 m1 m2 hb1 hbel
  have x0 := M0.out
  have x2 := M2.out
  go_wp2
  clear x0 x2
  go_loopw [3, 16] (fun v i wr => ∃ k : Nat, k ≤ l.length ∧ i = .int .i64 k ∧ v = .int .i64 (closeOut s l k) ∧ Below w1.heap.size w1 wr) (fun _ i _ => l.length - (intOf i).toNat)
  case atStart => exact ⟨0, Nat.zero_le _, rfl, rfl, Below.refl _ _⟩
  case round =>
    obtain ⟨k, hk, rfl, rfl, hbel⟩ := hrel
    by_cases hlt : k < l.length
    · obtain ⟨b, off, rfl, hP⟩ := HA.out (by omega)
      have HP := Lib.hid (hP.below hb2); clear hP
      obtain ⟨x, y, e1⟩ := pair_of l k
      have c1 := HP.out.c1 hbel hlt e1
      have c2 := HP.out.c2 hbel hlt e1
      have x2 := cell_later M2.out (bnew hbel (.cells #[.int .i64 x, .int .i64 y] 32))
      go_wp2
      generalize hW : World.alloc wr _ = W2
      obtain ⟨hb3, _, n0, n1⟩ := new2c hW
      clear hW x2 c1 c2
      have N0 := Lib.hid n0; have N1 := Lib.hid n1
      replace hbel := bthen hbel hb3
      clear n0 n1 hb3
      go_loopw [3, 26] (fun v i wr' => ∃ j : Nat, j ≤ k ∧ i = .int .i64 j ∧ v = .int .i64 (closeIn s l k (closeOut s l k) j) ∧ Below W2.heap.size W2 wr') (fun _ i _ => k - (intOf i).toNat)
      case atStart => exact ⟨0, Nat.zero_le _, rfl, rfl, Below.refl _ _⟩
      case round =>
        obtain ⟨j, hj, rfl, rfl, hb4⟩ := hrel
        by_cases hjk : j < k
        · have hjl : j < l.length := by omega
          obtain ⟨x', y', e2⟩ := pair_of l j
          have hb5 := bnew hb4 (.cells #[.int .i64 x', .int .i64 y'] 32)
          have x0 := cell_later M0.out (bthen hbel hb5)
          have n0 := cell_later N0.out hb5
          have n1 := cell_later N1.out hb5
          have d1 := HP.out.c1 (bthen hbel hb4) hjl e2
          have d2 := HP.out.c2 (bthen hbel hb4) hjl e2
          by_cases ht : x = x'
          · have hs := Lib.hid (closeIn_same (s := s) (b := closeOut s l k) e1 e2 ht)
            subst ht
            generalize closeIn s l k (closeOut s l k) j = v at hs
            go_wp2_with (go_at_call 46; refine (impl_GapAround).mono ?_; rintro e w' ⟨rfl, rfl⟩)
            all_goals
              go_roundw
              case rel => exact ⟨j + 1, by omega, by go_num, by rw [hs.out, min_if], hb5⟩
              case measure => simp [intOf]; omega
          · have hs := Lib.hid (closeIn_other (s := s) (b := closeOut s l k) e1 e2 ht)
            have htb : (x == x') = false := by simpa using ht
            generalize closeIn s l k (closeOut s l k) j = v at hs
            go_wp2
            go_roundw
            case rel => exact ⟨j + 1, by omega, by go_num, by rw [hs.out], hb5⟩
            case measure => simp [intOf]; omega
        · obtain rfl : j = k := by omega
          go_wp2
          go_roundw
          case rel => exact ⟨j + 1, by omega, by go_num, by rw [closeOut_next], bthen hbel hb4⟩
          case measure => simp [intOf]; omega
    · obtain rfl : k = l.length := by omega
      go_wp2
      go_ret
      exact ⟨ret_int hT.out.symm, bthen hb2 hbel⟩
end Go.Proofs.Ytakllloangpimaa
