/- QuietAngle: what it answers, and that the program's and the reference's functions answer it. -/
import Derived.Test.YtakllloangpimaaQuietA
import Derived.Test.YtakllloangpimaaPinsAt
namespace Go.Proofs.Ytakllloangpimaa
open Go.RowKit

/-! ## Plain notions -/
def freeAt (s t : Int) (l : List (Int × Int)) (x : Int) : Bool := decide ((pinsAt s t l x).length = 0)
noncomputable def quietM (s t : Int) (l : List (Int × Int)) : Int :=
  if cylOk s t l = true then (if l.length = 0 then 0 else Classical.epsilon fun b : Int => ∃ m, Best (runF (freeAt s t l) s.toNat) (fun _ => True) s.toNat b m) else -1
theorem modM_eq {n s : Int} : modM n s = n % s := by
  unfold modM
  rw [Int.tmod_def, show n - s * n.tdiv s + s = n + s * (1 - n.tdiv s) by rw [Int.mul_sub]; omega, Int.add_mul_emod_self_left]
theorem pickTo_pos {f : Int × Int → Option Int} {l : List (Int × Int)} {k : Nat} {x : Int} (h : f (l.getD k (0, 0)) = some x) : ∀ n, k < n → 0 < (pickTo f l n).length
  | 0, hk => absurd hk (by omega)
  | n + 1, hk => by
    rcases Nat.lt_or_ge k n with hlt | hge
    · have := pickTo_pos h n hlt
      simp only [pickTo, List.length_append]; omega
    · have : k = n := by omega
      subst this
      simp only [pickTo, List.length_append, h, Option.toList_some, List.length_cons]; omega
theorem exists_best (r : Nat → Nat) : ∀ a, ∃ b m, Best r (fun _ => True) a b m
  | 0 => ⟨_, _, Best.start r _⟩
  | a + 1 => by
    obtain ⟨b, m, h⟩ := exists_best r a
    by_cases hr : r a ≤ m
    · exact ⟨b, m, h.less hr⟩
    · exact ⟨_, _, h.more trivial (by omega)⟩
section
variable {S : Nat} {t : Int} {l : List (Int × Int)} {b : Int} {m : Nat}
theorem free_same {x y : Int} (g : cylOk (S : Int) t l = true) (hx : inR x (-1000000) 1000000 = true) (hy : inR y (-1000000) 1000000 = true) (h : x % (S : Int) = y % (S : Int)) : freeAt S t l x = freeAt S t l y := by
  unfold freeAt
  rw [pinsAt_yes g hx, pinsAt_yes g hy, modM_eq, modM_eq, h]
theorem quiet_no {s : Int} (g : cylOk s t l = false) : quietM s t l = -1 := if_neg (by rw [g]; exact Bool.false_ne_true)
theorem quiet_none {s : Int} (g : cylOk s t l = true) (h : l.length = 0) : quietM s t l = 0 := by unfold quietM; rw [if_pos g, if_pos h]
theorem quiet_eps (g : cylOk (S : Int) t l = true) (h0 : ¬ l.length = 0) : ∃ m, Best (runF (freeAt S t l) S) (fun _ => True) S (quietM S t l) m := by
  have he : quietM (S : Int) t l = Classical.epsilon fun b : Int => ∃ m, Best (runF (freeAt S t l) S) (fun _ => True) S b m := by
    unfold quietM; rw [if_pos g, if_neg h0, Int.toNat_natCast]
  obtain ⟨b, m, hb⟩ := exists_best (runF (freeAt S t l) S) S
  rw [he]
  exact Classical.epsilon_spec (p := fun b : Int => ∃ m, Best (runF (freeAt S t l) S) (fun _ => True) S b m) ⟨b, m, hb⟩
theorem quiet_all (g : cylOk (S : Int) t l = true) (h0 : ¬ l.length = 0) (h : Best (runF (freeAt S t l) S) (fun _ => True) S b m) : quietM S t l = b := by
  obtain ⟨m', h'⟩ := quiet_eps g h0
  exact best_unique h' h
theorem quiet_some (g : cylOk (S : Int) t l = true) (h0 : ¬ l.length = 0) (h : Best (runF (freeAt S t l) S) (fun a => freeAt S t l ((a : Int) - 1) = false) S b m) : quietM S t l = b := by
  obtain ⟨m', h'⟩ := quiet_eps g h0
  obtain ⟨⟨s1, s2⟩, _, _, _⟩ := cylOk_parts g
  obtain ⟨x, y, e⟩ := pair_of l 0
  obtain ⟨_, _, y1, y2⟩ := cylOk_pin g (by omega) e
  have hy : freeAt (S : Int) t l ((y.toNat : Nat) : Int) = false := by
    rw [show ((y.toNat : Nat) : Int) = y by omega]
    have hm : modM y S = y := by rw [modM_eq]; exact Int.emod_eq_of_lt (by omega) (by omega)
    unfold freeAt
    rw [pinsAt_yes g (inR_of (by omega) (by omega)), hm]
    have := pickTo_pos (f := atAngle y) (l := l) (k := 0) (x := x) (by rw [e.out]; exact if_pos rfl) l.length (by omega)
    exact decide_eq_false (by omega)
  refine best_same (y := y.toNat) (by omega) (fun j hj => ?_) ?_ (by omega) hy h' h
  · exact free_same g (inR_of (by omega) (by omega)) (inR_of (by omega) (by omega)) (by rw [Int.add_emod_left])
  · refine free_same g (inR_of (by omega) (by omega)) (inR_of (by omega) (by omega)) ?_
    rw [show (S : Int) - 1 = (-1) + (S : Int) by omega, Int.add_emod_right]
theorem free_yes {s x : Int} (h : freeAt s t l x = true) : (((pinsAt s t l x).length : Int) == 0) = true := by
  unfold freeAt at h; simpa using h
theorem free_no {s x : Int} (h : freeAt s t l x = false) : (((pinsAt s t l x).length : Int) == 0) = false := by
  unfold freeAt at h; simpa using h
end
set_option maxHeartbeats 1000000 in
theorem impl_QuietAngle {s t : Int} {l : List (Int × Int)} {A : Option Addr} {c : Nat} {w : World} (h : RP w A l) :
    Calls Try.prog 47 #[.agg #[.int .i64 s, .int .i64 t, .slice A l.length c]] w fun e w' => e = .returned (.int .i64 (quietM s t l)) ∧ Below w.heap.size w w' := by
  have H := Lib.hid h
  have hn := h.1
  clear h
  go_enter Try.func47, Try.ntmps47
  go_wp2_with fail
  generalize hW : World.alloc w _ = W1
  obtain ⟨hbw, zb, p0, p1, p2⟩ := new3c hW
  clear hW
  refine (impl_CylinderOk (H.out.below hbw)).mono ?_
  rintro e w1 ⟨rfl, hq⟩
  replace p0 := cell_later p0 hq; replace p1 := cell_later p1 hq; replace p2 := cell_later p2 hq
  replace hbw := bthen hbw hq
  clear hq
  cases g : cylOk s t l
  · have hT := Lib.hid (quiet_no (t := t) (l := l) (s := s) g)
    go_wp2
    go_ret
    exact ⟨ret_int hT.out.symm, hbw⟩
  by_cases h0 : l.length = 0
  · have hT := Lib.hid (quiet_none g h0)
    have hs0 : ((l.length : Int) == 0) = true := by simp [h0]
    clear h0
    go_wp2
    go_ret
    exact ⟨ret_int hT.out.symm, hbw⟩
  have hs0 : ((l.length : Int) == 0) = false := by simpa using h0
  obtain ⟨⟨s1, s2⟩, _, h100, _⟩ := cylOk_parts g
  obtain ⟨S, rfl⟩ : ∃ S : Nat, s = (S : Int) := ⟨s.toNat, by omega⟩
  have hT := Lib.hid (fun b m => quiet_some (b := b) (m := m) g h0)
  have P0 := Lib.hid p0; have P1 := Lib.hid p1; have P2 := Lib.hid p2
  clear h0
  go_wp2
  clear p0 p1 p2
  go_loopw [3, 4, 5] (fun v u i wr => ∃ (a : Nat) (b : Int) (m : Nat), a ≤ S ∧ m ≤ S ∧ i = .int .i64 a ∧ v = .int .i64 b ∧ u = .int .i64 m ∧ Hid (Best (runF (freeAt S t l) S) (fun a => freeAt S t l ((a : Int) - 1) = false) a b m) ∧ Below w1.heap.size w1 wr) (fun _ _ i _ => S - (intOf i).toNat)
  case atStart => exact ⟨0, -1, 0, Nat.zero_le _, Nat.zero_le _, rfl, rfl, rfl, Best.start _ _, Below.refl _ _⟩
  case round =>
    obtain ⟨a, b, m, ha, hm, rfl, rfl, rfl, hB, hbel⟩ := hrel
    have x0 := cell_later P0.out hbel
    by_cases hlt : a < S
    · have x1 := cell_later P1.out hbel
      have x2 := cell_later P2.out hbel
      go_wp2_with fail
      refine (impl_PinsAt (H.out.below (bthen hbw hbel))).mono ?_
      rintro e wq ⟨B, d, rfl, _, hq⟩
      clear x0 x1 x2
      replace hbel := bthen hbel hq
      clear hq
      cases hst : freeAt S t l ((a : Int) - 1)
      case true =>
        have hl := free_yes hst
        go_wp2
        go_roundw
        case rel => exact ⟨a + 1, b, m, by omega, by omega, by go_num, rfl, rfl, hB.out.skip (by show ¬ (freeAt S t l ((a : Int) - 1) = false); rw [hst]; simp), hbel⟩
        case measure => simp [intOf]; omega
      have hl := free_no hst
      go_wp2
      clear hl
      go_loopw [6] (fun i wr' => ∃ n : Nat, n ≤ S ∧ i = .int .i64 n ∧ Hid (∀ j : Nat, j < n → freeAt S t l ((a : Int) + (j : Int)) = true) ∧ Below w1.heap.size w1 wr') (fun i _ => S - (intOf i).toNat)
      case atStart => exact ⟨0, Nat.zero_le _, rfl, fun j hj => absurd hj (by omega), hbel⟩
      case round =>
        clear hbel
        obtain ⟨n, hn2, rfl, hF, hbel⟩ := hrel
        have x0 := cell_later P0.out hbel
        have x1 := cell_later P1.out hbel
        have x2 := cell_later P2.out hbel
        by_cases hnS : n < S
        · cases hf : freeAt S t l ((a : Int) + (n : Int))
          · have hl := free_no hf
            have hr : Hid (runF (freeAt S t l) S a = n) := runF_eq ⟨hn2, hF.out, fun _ => hf⟩
            go_wp2_with fail
            refine (impl_PinsAt (H.out.below (bthen hbw hbel))).mono ?_
            rintro e wq ⟨B, d, rfl, _, hq⟩
            by_cases hmn : m < n
            · have hB2 := Lib.hid (hB.out.more hst (by rw [hr.out]; exact hmn))
              rw [hr.out] at hB2
              go_wp2
              go_roundw
              case rel => exact ⟨a + 1, _, _, by omega, hn2, by go_num, rfl, rfl, hB2, bthen hbel hq⟩
              case measure => simp [intOf]; omega
            · have hB2 := Lib.hid (hB.out.less (by rw [hr.out]; omega))
              go_wp2
              go_roundw
              case rel => exact ⟨a + 1, _, _, by omega, hm, by go_num, rfl, rfl, hB2, bthen hbel hq⟩
              case measure => simp [intOf]; omega
          · have hl := free_yes hf
            go_wp2_with fail
            refine (impl_PinsAt (H.out.below (bthen hbw hbel))).mono ?_
            rintro e wq ⟨B, d, rfl, _, hq⟩
            go_wp2
            go_roundw
            case rel => exact ⟨n + 1, by omega, by go_num, all_next hF hf, bthen hbel hq⟩
            case measure => simp [intOf]; omega
        · obtain rfl : n = S := by omega
          have hr : Hid (runF (freeAt n t l) n a = n) := runF_eq ⟨hn2, hF.out, fun h => absurd h (by omega)⟩
          by_cases hmn : m < n
          · have hB2 := Lib.hid (hB.out.more hst (by rw [hr.out]; exact hmn))
            rw [hr.out] at hB2
            go_wp2
            go_roundw
            case rel => exact ⟨a + 1, _, _, by omega, hn2, by go_num, rfl, rfl, hB2, hbel⟩
            case measure => simp [intOf]; omega
          · have hB2 := Lib.hid (hB.out.less (by rw [hr.out]; omega))
            go_wp2
            go_roundw
            case rel => exact ⟨a + 1, _, _, by omega, hm, by go_num, rfl, rfl, hB2, hbel⟩
            case measure => simp [intOf]; omega
    · obtain rfl : a = S := by omega
      have hfin := Lib.hid (hT.out _ _ hB.out)
      go_wp2
      go_ret
      exact ⟨ret_int hfin.out.symm, bthen hbw hbel⟩
end Go.Proofs.Ytakllloangpimaa
