/- IsPlayable and OnlyAtSeam: what they answer, and that the program's and the reference's functions answer it. -/
import Derived.Test.YtakllloangpimaaTooC
namespace Go.Proofs.Ytakllloangpimaa
open Go.RowKit

/-! ## Plain notions -/
def playM (s t : Int) (l : List (Int × Int)) (r : Int) : Bool := cylOk s t l && (inR r 1 96 && decide ((tooM s t l r).length = 0))
/-- Pairs of places of the list, the smaller one first. -/
def PairsOf (n : Nat) (out : List (Int × Int)) : Prop := ∀ k, k < out.length → ∃ i j : Nat, out.getD k (0, 0) = ((i : Int), (j : Int)) ∧ i < j ∧ j < n
section
variable {s t r : Int} {l : List (Int × Int)}
theorem PairsOf.snoc {n : Nat} {out : List (Int × Int)} {i j : Nat} (h : PairsOf n out) (h1 : i < j) (h2 : j < n) : PairsOf n (out ++ [((i : Int), (j : Int))]) := by
  intro k hk
  rcases Nat.lt_or_ge k out.length with hlt | hge
  · obtain ⟨a, b, e, h3⟩ := h k hlt
    exact ⟨a, b, by rw [List.getD_eq_getElem?_getD, List.getElem?_append_left hlt, ← List.getD_eq_getElem?_getD]; exact e, h3⟩
  · have : k = out.length := by simp at hk; omega
    exact ⟨i, j, by rw [this, List.getD_eq_getElem?_getD]; simp, h1, h2⟩
theorem tooIn_pairs {i : Nat} {out : List (Int × Int)} (h : PairsOf l.length out) : ∀ k, i + 1 + k ≤ l.length → PairsOf l.length (tooIn s r l i out k)
  | 0, _ => h
  | k + 1, hk => by
    have ih := tooIn_pairs (i := i) h k (by omega)
    show PairsOf l.length (tooIf s r l i (i + 1 + k) (tooIn s r l i out k))
    unfold tooIf
    split
    · exact ih.snoc (by omega) (by omega)
    · exact ih
theorem tooOut_pairs : ∀ k, k ≤ l.length → PairsOf l.length (tooOut s r l k)
  | 0, _ => fun k hk => absurd hk (by simp [tooOut, runN])
  | k + 1, hk => by
    rw [← tooOut_next]
    exact tooIn_pairs (tooOut_pairs k (by omega)) _ (by omega)
theorem tooM_pairs : PairsOf l.length (tooM s t l r) := by
  unfold tooM
  split
  · exact tooOut_pairs _ (Nat.le_refl _)
  · intro k hk; simp at hk
theorem tooM_ok (h : 0 < (tooM s t l r).length) : cylOk s t l = true ∧ inR r 1 96 = true := by
  unfold tooM at h
  split at h
  · assumption
  · simp at h
theorem angles_up (g : cylOk s t l = true) {i : Nat} : ∀ j, i ≤ j → j < l.length → (l.getD i (0, 0)).2 ≤ (l.getD j (0, 0)).2
  | 0, hij, _ => by have : i = 0 := by omega
                    subst this; exact Int.le_refl _
  | j + 1, hij, hj => by
    rcases Nat.lt_or_ge i (j + 1) with hlt | hge
    · have ih := angles_up (i := i) g j (by omega) (by omega)
      have hc := (cylOk_parts g).2.2.2 (j + 1) hj
      unfold cylAt at hc
      simp only [Bool.and_eq_true, Bool.or_eq_true, beq_iff_eq] at hc
      have h3 := hc.2
      rcases h3 with h3 | h3
      · omega
      · have := less2_true h3
        rw [show j + 1 - 1 = j by omega] at this
        omega
    · have : i = j + 1 := by omega
      subst this; exact Int.le_refl _
theorem tooM_le : (tooM s t l r).length ≤ 10000 := by
  unfold tooM
  split
  · rename_i h
    have h1 := (cylOk_parts h.1).2.2.1
    have := tooOut_le (s := s) (r := r) h1 l.length
    omega
  · simp
end
/-- How far the two pins of pair k stand from one another, the seam left out. -/
def wayOf (l out : List (Int × Int)) (k : Nat) : Int := (l.getD (out.getD k (0, 0)).2.toNat (0, 0)).2 - (l.getD (out.getD k (0, 0)).1.toNat (0, 0)).2
def seamM (s t : Int) (l : List (Int × Int)) (r : Int) : Bool := (List.range (tooM s t l r).length).all (fun k => decide (r ≤ wayOf l (tooM s t l r) k)) && decide (0 < (tooM s t l r).length)
section
variable {s t r : Int} {l : List (Int × Int)} {k : Nat}
theorem seam_no (hk : k < (tooM s t l r).length) (h : wayOf l (tooM s t l r) k < r) : seamM s t l r = false := by
  have : (List.range (tooM s t l r).length).all (fun k => decide (r ≤ wayOf l (tooM s t l r) k)) = false := by
    rw [List.all_eq_false]; exact ⟨k, List.mem_range.2 hk, by simp; omega⟩
  unfold seamM; rw [this, Bool.false_and]
theorem seam_yes (h : ∀ k, k < (tooM s t l r).length → r ≤ wayOf l (tooM s t l r) k) : seamM s t l r = decide (0 < (tooM s t l r).length) := by
  have : (List.range (tooM s t l r).length).all (fun k => decide (r ≤ wayOf l (tooM s t l r) k)) = true := by
    rw [List.all_eq_true]; intro k hk; simp; exact h k (List.mem_range.1 hk)
  unfold seamM; rw [this, Bool.true_and]
theorem way_eq {out : List (Int × Int)} {i j : Nat} {x y x' y' : Int} (e : Hid (out.getD k (0, 0) = ((i : Int), (j : Int)))) (e1 : Hid (l.getD i (0, 0) = (x, y))) (e2 : Hid (l.getD j (0, 0) = (x', y'))) : wayOf l out k = y' - y := by
  unfold wayOf
  rw [e.out]
  simp only [Int.toNat_natCast]
  rw [e1.out, e2.out]
end
set_option maxHeartbeats 400000 in
theorem impl_IsPlayable {s t r : Int} {l : List (Int × Int)} {A : Option Addr} {c : Nat} {w : World} (h : RP w A l) :
    Calls Try.prog 45 #[.agg #[.int .i64 s, .int .i64 t, .slice A l.length c], .int .i64 r] w fun e w' => e = .returned (.bool (playM s t l r)) ∧ Below w.heap.size w w' := by
  have H := Lib.hid h
  clear h
  have hT : Hid (playM s t l r = (cylOk s t l && (inR r 1 96 && decide ((tooM s t l r).length = 0)))) := rfl
  go_enter Try.func45, Try.ntmps45
  go_wp2_with fail
  generalize hW : World.alloc w _ = W1
  obtain ⟨hbel, zb, p0, p1, p2⟩ := new3c hW
  clear hW
  refine (impl_CylinderOk (H.out.below hbel)).mono ?_
  rintro e w1 ⟨rfl, hq⟩
  replace p0 := cell_later p0 hq; replace p1 := cell_later p1 hq; replace p2 := cell_later p2 hq
  replace hbel := bthen hbel hq
  clear hq
  cases g : cylOk s t l
  · go_wp2
    go_ret
    exact ⟨ret_bool (by rw [hT.out, g]; rfl), hbel⟩
  cases g2 : inR r 1 96
  · go_wp2_with (go_at_call 54; refine (impl_within).mono ?_; rintro e w' ⟨rfl, rfl⟩)
    go_ret
    exact ⟨ret_bool (by rw [hT.out, g2, Bool.false_and, Bool.and_false]), hbel⟩
  go_wp2_with (go_at_call 54; refine (impl_within).mono ?_; rintro e w' ⟨rfl, rfl⟩)
  refine (impl_TooClose (H.out.below hbel)).mono ?_
  rintro e w2 ⟨B, d, rfl, _, hq⟩
  go_wp2
  go_ret
  refine ⟨ret_bool ?_, bthen hbel hq⟩
  rw [hT.out, g, g2, Bool.true_and, Bool.true_and]
  cases (tooM s t l r).length <;> simp <;> omega
set_option maxHeartbeats 1000000 in
theorem impl_OnlyAtSeam {s t r : Int} {l : List (Int × Int)} {A : Option Addr} {c : Nat} {w : World} (h : RP w A l) :
    Calls Try.prog 50 #[.agg #[.int .i64 s, .int .i64 t, .slice A l.length c], .int .i64 r] w fun e w' => e = .returned (.bool (seamM s t l r)) ∧ Below w.heap.size w w' := by
  have H := Lib.hid h
  clear h
  go_enter Try.func50, Try.ntmps50
  go_wp2_with fail
  generalize hW : World.alloc w _ = W1
  obtain ⟨hbw, zb, p0, p1, p2⟩ := new3c hW
  clear hW
  refine (impl_TooClose (H.out.below hbw)).mono ?_
  rintro e w1 ⟨B, d, rfl, hO, hq⟩
  have P2 := Lib.hid (cell_later p2 hq)
  replace hbw := bthen hbw hq
  have hR := Lib.hid hO.reads
  have hp := Lib.hid (tooM_pairs (s := s) (t := t) (r := r) (l := l))
  have hk := Lib.hid (fun h => tooM_ok (s := s) (t := t) (r := r) (l := l) h)
  have hle := tooM_le (s := s) (t := t) (r := r) (l := l)
  have hno := Lib.hid (fun k h h2 => seam_no (s := s) (t := t) (r := r) (l := l) (k := k) h h2)
  have hyes := Lib.hid (fun h => seam_yes (s := s) (t := t) (r := r) (l := l) h)
  clear hO hq p0 p1 p2
  generalize tooM s t l r = L at *
  go_wp2
  go_loopw [13] (fun i wr => ∃ k : Nat, k ≤ L.length ∧ i = .int .i64 k ∧ Hid (∀ j, j < k → r ≤ wayOf l L j) ∧ Below w1.heap.size w1 wr) (fun i _ => L.length - (intOf i).toNat)
  case atStart => exact ⟨0, Nat.zero_le _, rfl, fun j hj => absurd hj (by omega), Below.refl _ _⟩
  case round =>
    obtain ⟨k, hk2, rfl, hall, hbel⟩ := hrel
    by_cases hlt : k < L.length
    · obtain ⟨i, j, e0, hij, hjl⟩ := hp.out k hlt
      have E0 := Lib.hid e0
      obtain ⟨g1, g2⟩ := hk.out (by omega)
      obtain ⟨x, y, e1⟩ := pair_of l i
      obtain ⟨x', y', e2⟩ := pair_of l j
      obtain ⟨_, _, y1, y2⟩ := cylOk_pin g1 (by omega) e1
      obtain ⟨_, _, y3, y4⟩ := cylOk_pin g1 hjl e2
      obtain ⟨⟨s1, s2⟩, _, h100, _⟩ := cylOk_parts g1
      have hway := Lib.hid (way_eq E0 e1 e2)
      obtain ⟨b, off, rfl, hblt, hcells⟩ := hR.out.2 (by omega)
      obtain ⟨g, c0, r0⟩ := hcells k hlt
      rw [e0] at r0
      obtain ⟨b3, off3, hA3, hI⟩ := r0.2 (by simp [two])
      injection hA3 with hA3
      injection hA3 with h1 h2 h3
      subst h1 h2
      obtain ⟨pb, poff, rfl, hP⟩ := H.out.2 (by omega)
      have HP := Lib.hid (hP.below hbw); clear hP
      have i0 := hI.a1 hbel (k := 0) (t := (i : Int)) (by simp [two]) (by simp [two, Hid])
      have i1 := hI.a1 hbel (k := 1) (t := (j : Int)) (by simp [two]) (by simp [two, Hid])
      rw [Nat.add_zero] at i0
      have x2 := cell_after P2.out hbel
      have q1 := HP.out.a2 hbel (show i < l.length by omega) e1
      have q2 := HP.out.a2 hbel hjl e2
      have hup := angles_up g1 j (Nat.le_of_lt hij) hjl
      rw [e1.out, e2.out] at hup
      have hmag : magM (y - y') = y' - y := by unfold magM; split <;> simp only at hup <;> omega
      have x0' := cell_later c0 hbel
      unfold sl2 at x0'
      clear e0 r0 hcells hI c0
      by_cases hw : y' - y < r
      · have hf := Lib.hid (hno.out k hlt (by rw [hway.out]; exact hw))
        have hm : magM (y - y') < r := by rw [hmag]; exact hw
        clear hmag
        go_wp2_with fail
        refine wp_region_after (by kernel_rfl) (by kernel_rfl) ?_
        repeat (go_big_quiet_step (first | (go_at_call 79; exact Calls.after_of_same (impl_magnitude (by omega) (by omega)))))
        refine wpQuiet_nil ?_
        rintro _ ⟨⟨wq, hq⟩, rfl⟩
        replace hbel := bthen hbel hq
        clear hq
        go_wp2
        go_ret
        exact ⟨ret_bool hf.out.symm, bthen hbw hbel⟩
      · have hm : ¬ magM (y - y') < r := by rw [hmag]; exact hw
        clear hmag
        go_wp2_with fail
        refine wp_region_after (by kernel_rfl) (by kernel_rfl) ?_
        repeat (go_big_quiet_step (first | (go_at_call 79; exact Calls.after_of_same (impl_magnitude (by omega) (by omega)))))
        refine wpQuiet_nil ?_
        rintro _ ⟨⟨wq, hq⟩, rfl⟩
        replace hbel := bthen hbel hq
        clear hq
        go_wp2
        go_roundw
        case rel => exact ⟨k + 1, by omega, by go_num, fun a ha => by
          rcases Nat.lt_or_ge a k with h | h
          · exact hall.out a h
          · have : a = k := by omega
            subst this; rw [hway.out]; omega, hbel⟩
        case measure => simp [intOf]; omega
    · have hf := Lib.hid (hyes.out fun a ha => hall.out a (by omega))
      go_wp2
      go_ret
      exact ⟨ret_bool hf.out.symm, bthen hbw hbel⟩
end Go.Proofs.Ytakllloangpimaa
