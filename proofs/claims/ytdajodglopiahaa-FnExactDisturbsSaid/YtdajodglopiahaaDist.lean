/- Disturbs: what it answers, and that the program's and the reference's functions answer it. -/
import Derived.Test.YtdajodglopiahaaClose
namespace Go.Proofs.Ytdajodglopiahaa
open Go.RowKit

/-! ## Plain notions -/
def distIf (s r : Int) (p q : Int × Int) (n : Int) : Int := if p.1 = q.1 ∧ gapM p.2 q.2 s < r then n + 1 else n
def distIn (s r : Int) (l m : List (Int × Int)) (i : Nat) (n : Int) (k : Nat) : Int := runN (fun j n => distIf s r (l.getD i (0, 0)) (m.getD j (0, 0)) n) k n
def distOut (s r : Int) (l m : List (Int × Int)) (k : Nat) : Int := runN (fun i n => distIn s r l m i n m.length) k 0
def disturbsM (s t : Int) (l : List (Int × Int)) (s' t' : Int) (m : List (Int × Int)) (r : Int) : Int :=
  if cylOk s t l = true ∧ cylOk s' t' m = true ∧ s = s' ∧ inR r 1 96 = true then distOut s r l m l.length else -1
section
variable {s t s' t' r n : Int} {l m : List (Int × Int)} {i k : Nat} {x y x' y' : Int}
theorem disturbs_no (h : ¬ (cylOk s t l = true ∧ cylOk s' t' m = true ∧ s = s' ∧ inR r 1 96 = true)) : disturbsM s t l s' t' m r = -1 := if_neg h
theorem disturbs_yes (h1 : cylOk s t l = true) (h2 : cylOk s t' m = true) (h3 : inR r 1 96 = true) : disturbsM s t l s t' m r = distOut s r l m l.length := if_pos ⟨h1, h2, rfl, h3⟩
theorem distOut_next : distIn s r l m k (distOut s r l m k) m.length = distOut s r l m (k + 1) := rfl
theorem distIn_step : distIn s r l m i n (k + 1) = distIf s r (l.getD i (0, 0)) (m.getD k (0, 0)) (distIn s r l m i n k) := rfl
theorem distIn_yes (e : Hid (l.getD i (0, 0) = (x, y))) (e' : Hid (m.getD k (0, 0) = (x', y'))) (h : x = x') (h2 : gapM y y' s < r) : distIn s r l m i n (k + 1) = distIn s r l m i n k + 1 := by
  rw [distIn_step]; unfold distIf; rw [e.out, e'.out]; exact if_pos ⟨h, h2⟩
theorem distIn_no (e : Hid (l.getD i (0, 0) = (x, y))) (e' : Hid (m.getD k (0, 0) = (x', y'))) (h : ¬ (x = x' ∧ gapM y y' s < r)) : distIn s r l m i n (k + 1) = distIn s r l m i n k := by
  rw [distIn_step]; unfold distIf; rw [e.out, e'.out]; exact if_neg h
theorem distIn_le (s r : Int) (l m : List (Int × Int)) (i : Nat) (n : Int) (k : Nat) : n ≤ distIn s r l m i n k ∧ distIn s r l m i n k ≤ n + k := by
  induction k with
  | zero => exact ⟨Int.le_refl n, by show n ≤ n + ((0 : Nat) : Int); omega⟩
  | succ k ih =>
    rw [distIn_step]; unfold distIf
    split <;> omega
theorem distOut_le (s r : Int) (l m : List (Int × Int)) (hm : m.length ≤ 100) (k : Nat) : 0 ≤ distOut s r l m k ∧ distOut s r l m k ≤ 100 * (k : Int) := by
  induction k with
  | zero => exact ⟨Int.le_refl 0, Int.le_refl 0⟩
  | succ k ih =>
    rw [← distOut_next]
    have := distIn_le s r l m k (distOut s r l m k) m.length
    omega
end
set_option maxHeartbeats 1000000 in
theorem spec_Disturbs {s t s' t' r : Int} {l m : List (Int × Int)} {A B : Option Addr} {c d : Nat} {w : World} (h1 : RP w A l) (h2 : RP w B m) :
    Calls Try.prog 31 #[.agg #[.int .i64 s, .int .i64 t, .slice A l.length c], .agg #[.int .i64 s', .int .i64 t', .slice B m.length d], .int .i64 r] w fun e w' => e = .returned (.int .i64 (disturbsM s t l s' t' m r)) ∧ Below w.heap.size w w' := by
  have H1 := Lib.hid h1
  have H2 := Lib.hid h2
  obtain ⟨hn, hA⟩ := h1
  have HA := Lib.hid hA; clear hA
  obtain ⟨hn2, hB⟩ := h2
  have HB := Lib.hid hB; clear hB
  go_enter Try.func31, Try.ntmps31
  go_wp2_with fail
  generalize hW : World.alloc w _ = W1
  obtain ⟨hbel, zb, p0, p1, p2⟩ := new3c hW
  clear hW
  generalize hW : World.alloc W1 _ = W2
  obtain ⟨hq, _, q0, q1, q2⟩ := new3c hW
  clear hW
  rw [zb] at q0 q1 q2
  replace p0 := cell_later p0 hq; replace p1 := cell_later p1 hq; replace p2 := cell_later p2 hq
  replace hbel := bthen hbel hq
  clear hq zb
  refine (spec_CylinderOk (H1.out.below hbel)).mono ?_
  rintro e w1 ⟨rfl, hq⟩
  replace p0 := cell_later p0 hq; replace p1 := cell_later p1 hq; replace p2 := cell_later p2 hq
  replace q0 := cell_later q0 hq; replace q1 := cell_later q1 hq; replace q2 := cell_later q2 hq
  replace hbel := bthen hbel hq
  clear hq
  cases g1 : cylOk s t l
  · go_wp2
    go_ret
    exact ⟨ret_int (disturbs_no (by rw [g1]; simp)).symm, hbel⟩
  go_wp2_with fail
  refine (spec_CylinderOk (H2.out.below hbel)).mono ?_
  rintro e w2 ⟨rfl, hq⟩
  replace p0 := cell_later p0 hq; replace p1 := cell_later p1 hq; replace p2 := cell_later p2 hq
  replace q0 := cell_later q0 hq; replace q1 := cell_later q1 hq; replace q2 := cell_later q2 hq
  replace hbel := bthen hbel hq
  clear hq
  cases g2 : cylOk s' t' m
  · go_wp2
    go_ret
    exact ⟨ret_int (disturbs_no (by rw [g2]; simp)).symm, hbel⟩
  by_cases hs : s = s'
  case neg =>
    have hsb : (s != s') = true := by simpa using hs
    go_wp2
    go_ret
    exact ⟨ret_int (disturbs_no (by simp [hs])).symm, hbel⟩
  subst hs
  cases g3 : inR r 1 96
  · go_wp2_with (go_at_call 50; refine (spec_l01In).mono ?_; rintro e w' ⟨rfl, rfl⟩)
    go_ret
    exact ⟨ret_int (disturbs_no (by rw [g3]; simp)).symm, hbel⟩
  have hT := Lib.hid (disturbs_yes g1 g2 g3)
  have hl1 : l.length ≤ 100 := (cylOk_parts g1).2.2.1
  have hl2 : m.length ≤ 100 := (cylOk_parts g2).2.2.1
  have HO := Lib.hid (distOut_le s r l m hl2)
  have HI := Lib.hid (distIn_le s r l m)
  have P0 := Lib.hid p0; have P2 := Lib.hid p2; have Q2 := Lib.hid q2
  have hb2 := hbel
  go_wp2_with (go_at_call 50; refine (spec_l01In).mono ?_; rintro e w' ⟨rfl, rfl⟩)
  clear p0 p1 p2 q0 q1 q2 hbel
  go_loopw [7, 8] (fun v i wr => ∃ k : Nat, k ≤ l.length ∧ i = .int .i64 k ∧ v = .int .i64 (distOut s r l m k) ∧ Below w2.heap.size w2 wr) (fun _ i _ => l.length - (intOf i).toNat)
  case atStart => exact ⟨0, Nat.zero_le _, rfl, rfl, Below.refl _ _⟩
  case round =>
    obtain ⟨k, hk, rfl, rfl, hbel⟩ := hrel
    have x2 := cell_later P2.out hbel
    by_cases hlt : k < l.length
    · obtain ⟨b, off, rfl, hP⟩ := HA.out (by omega)
      have HP := Lib.hid (hP.below hb2); clear hP
      obtain ⟨x, y, e1⟩ := pair_of l k
      go_wp2
      go_loopw [7, 9] (fun v i wr' => ∃ j : Nat, j ≤ m.length ∧ i = .int .i64 j ∧ v = .int .i64 (distIn s r l m k (distOut s r l m k) j) ∧ Below w2.heap.size w2 wr') (fun _ i _ => m.length - (intOf i).toNat)
      case atStart => exact ⟨0, Nat.zero_le _, rfl, rfl, hbel⟩
      case round =>
        clear hbel x2
        obtain ⟨j, hj, rfl, rfl, hbel⟩ := hrel
        have y2 := cell_later Q2.out hbel
        by_cases hjk : j < m.length
        · obtain ⟨b', off', rfl, hP'⟩ := HB.out (by omega)
          have HP' := Lib.hid (hP'.below hb2); clear hP'
          obtain ⟨x', y', e2⟩ := pair_of m j
          have x0 := cell_after P0.out hbel
          have x2 := cell_after P2.out hbel
          have z2 := cell_after Q2.out hbel
          have c1 := HP.out.a1 hbel hlt e1
          have c2 := HP.out.a2 hbel hlt e1
          have d1 := HP'.out.a1 hbel hjk e2
          have d2 := HP'.out.a2 hbel hjk e2
          have bo := HO.out k
          have bi := HI.out k (distOut s r l m k) j
          by_cases ht : x = x'
          · subst ht
            by_cases hg : gapM y y' s < r
            · have hs := Lib.hid (distIn_yes (s := s) (r := r) (n := distOut s r l m k) e1 e2 rfl hg)
              generalize distIn s r l m k (distOut s r l m k) j = v at hs bi
              generalize distOut s r l m k = v' at bo bi hs
              go_wp2_with fail
              refine wp_region_after (by kernel_rfl) (by kernel_rfl) ?_
              repeat (go_big_quiet_step (first | (go_at_call 61; exact Calls.after_of_same (spec_GapAround))))
              refine wpQuiet_nil ?_
              rintro _ ⟨⟨wq, hq⟩, rfl⟩
              replace hbel := bthen hbel hq
              clear hq
              go_wp2
              go_roundw
              case rel => exact ⟨j + 1, by omega, by go_num, by rw [hs.out], hbel⟩
              case measure => simp [intOf]; omega
            · have hs := Lib.hid (distIn_no (s := s) (r := r) (n := distOut s r l m k) e1 e2 (fun h => hg h.2))
              generalize distIn s r l m k (distOut s r l m k) j = v at hs bi
              generalize distOut s r l m k = v' at bo bi hs
              go_wp2_with fail
              refine wp_region_after (by kernel_rfl) (by kernel_rfl) ?_
              repeat (go_big_quiet_step (first | (go_at_call 61; exact Calls.after_of_same (spec_GapAround))))
              refine wpQuiet_nil ?_
              rintro _ ⟨⟨wq, hq⟩, rfl⟩
              replace hbel := bthen hbel hq
              clear hq
              go_wp2
              go_roundw
              case rel => exact ⟨j + 1, by omega, by go_num, by rw [hs.out], hbel⟩
              case measure => simp [intOf]; omega
          · have hs := Lib.hid (distIn_no (s := s) (r := r) (n := distOut s r l m k) e1 e2 (fun h => ht h.1))
            have htb : (x == x') = false := by simpa using ht
            generalize distIn s r l m k (distOut s r l m k) j = v at hs bi
            generalize distOut s r l m k = v' at bo bi hs
            go_wp2_with fail
            refine wp_region_after (by kernel_rfl) (by kernel_rfl) ?_
            repeat (go_big_quiet_step (first | (go_at_call 61; exact Calls.after_of_same (spec_GapAround))))
            refine wpQuiet_nil ?_
            rintro _ ⟨⟨wq, hq⟩, rfl⟩
            replace hbel := bthen hbel hq
            clear hq
            go_wp2
            go_roundw
            case rel => exact ⟨j + 1, by omega, by go_num, by rw [hs.out], hbel⟩
            case measure => simp [intOf]; omega
        · obtain rfl : j = m.length := by omega
          go_wp2
          go_roundw
          case rel => exact ⟨k + 1, by omega, by go_num, by rw [distOut_next], hbel⟩
          case measure => simp [intOf]; omega
    · obtain rfl : k = l.length := by omega
      go_wp2
      go_ret
      exact ⟨ret_int hT.out.symm, bthen hb2 hbel⟩
set_option maxHeartbeats 1000000 in
theorem impl_Disturbs {s t s' t' r : Int} {l m : List (Int × Int)} {A B : Option Addr} {c d : Nat} {w : World} (h1 : RP w A l) (h2 : RP w B m) :
    Calls Try.prog 32 #[.agg #[.int .i64 s, .int .i64 t, .slice A l.length c], .agg #[.int .i64 s', .int .i64 t', .slice B m.length d], .int .i64 r] w fun e w' => e = .returned (.int .i64 (disturbsM s t l s' t' m r)) ∧ Below w.heap.size w w' := by
  have H1 := Lib.hid h1
  have H2 := Lib.hid h2
  obtain ⟨hn, hA⟩ := h1
  have HA := Lib.hid hA; clear hA
  obtain ⟨hn2, hB⟩ := h2
  have HB := Lib.hid hB; clear hB
  go_enter Try.func32, Try.ntmps32
  go_wp2_with fail
  generalize hW : World.alloc w _ = W1
  obtain ⟨hbel, zb, p0, p1, p2⟩ := new3c hW
  clear hW
  generalize hW : World.alloc W1 _ = W2
  obtain ⟨hq, _, q0, q1, q2⟩ := new3c hW
  clear hW
  rw [zb] at q0 q1 q2
  replace p0 := cell_later p0 hq; replace p1 := cell_later p1 hq; replace p2 := cell_later p2 hq
  replace hbel := bthen hbel hq
  clear hq zb
  refine (impl_CylinderOk (H1.out.below hbel)).mono ?_
  rintro e w1 ⟨rfl, hq⟩
  replace p0 := cell_later p0 hq; replace p1 := cell_later p1 hq; replace p2 := cell_later p2 hq
  replace q0 := cell_later q0 hq; replace q1 := cell_later q1 hq; replace q2 := cell_later q2 hq
  replace hbel := bthen hbel hq
  clear hq
  cases g1 : cylOk s t l
  · go_wp2
    go_ret
    exact ⟨ret_int (disturbs_no (by rw [g1]; simp)).symm, hbel⟩
  go_wp2_with fail
  refine (impl_CylinderOk (H2.out.below hbel)).mono ?_
  rintro e w2 ⟨rfl, hq⟩
  replace p0 := cell_later p0 hq; replace p1 := cell_later p1 hq; replace p2 := cell_later p2 hq
  replace q0 := cell_later q0 hq; replace q1 := cell_later q1 hq; replace q2 := cell_later q2 hq
  replace hbel := bthen hbel hq
  clear hq
  cases g2 : cylOk s' t' m
  · go_wp2
    go_ret
    exact ⟨ret_int (disturbs_no (by rw [g2]; simp)).symm, hbel⟩
  by_cases hs : s = s'
  case neg =>
    have hsb : (s != s') = true := by simpa using hs
    go_wp2
    go_ret
    exact ⟨ret_int (disturbs_no (by simp [hs])).symm, hbel⟩
  subst hs
  cases g3 : inR r 1 96
  · go_wp2_with (go_at_call 54; refine (impl_within).mono ?_; rintro e w' ⟨rfl, rfl⟩)
    go_ret
    exact ⟨ret_int (disturbs_no (by rw [g3]; simp)).symm, hbel⟩
  have hT := Lib.hid (disturbs_yes g1 g2 g3)
  have hl1 : l.length ≤ 100 := (cylOk_parts g1).2.2.1
  have hl2 : m.length ≤ 100 := (cylOk_parts g2).2.2.1
  have HO := Lib.hid (distOut_le s r l m hl2)
  have HI := Lib.hid (distIn_le s r l m)
  have P0 := Lib.hid p0; have P2 := Lib.hid p2; have Q2 := Lib.hid q2
  have hb2 := hbel
  go_wp2_with (go_at_call 54; refine (impl_within).mono ?_; rintro e w' ⟨rfl, rfl⟩)
  clear p0 p1 p2 q0 q1 q2 hbel
  go_loopw [7, 35] (fun v i wr => ∃ k : Nat, k ≤ l.length ∧ i = .int .i64 k ∧ v = .int .i64 (distOut s r l m k) ∧ Below w2.heap.size w2 wr) (fun _ i _ => l.length - (intOf i).toNat)
  case atStart => exact ⟨0, Nat.zero_le _, rfl, rfl, Below.refl _ _⟩
  case round =>
    obtain ⟨k, hk, rfl, rfl, hbel⟩ := hrel
    by_cases hlt : k < l.length
    · obtain ⟨b, off, rfl, hP⟩ := HA.out (by omega)
      have HP := Lib.hid (hP.below hb2); clear hP
      obtain ⟨x, y, e1⟩ := pair_of l k
      have c1 := HP.out.c1 hbel hlt e1
      have c2 := HP.out.c2 hbel hlt e1
      have y2 := cell_later Q2.out (bnew hbel (.cells #[.int .i64 x, .int .i64 y] 36))
      go_wp2
      generalize hW : World.alloc wr _ = W3
      obtain ⟨hb3, _, n0, n1⟩ := new2c hW
      clear hW y2 c1 c2
      have N0 := Lib.hid n0; have N1 := Lib.hid n1
      replace hbel := bthen hbel hb3
      clear n0 n1 hb3
      go_loopw [7, 42] (fun v i wr' => ∃ j : Nat, j ≤ m.length ∧ i = .int .i64 j ∧ v = .int .i64 (distIn s r l m k (distOut s r l m k) j) ∧ Below W3.heap.size W3 wr') (fun _ i _ => m.length - (intOf i).toNat)
      case atStart => exact ⟨0, Nat.zero_le _, rfl, rfl, Below.refl _ _⟩
      case round =>
        obtain ⟨j, hj, rfl, rfl, hb4⟩ := hrel
        by_cases hjk : j < m.length
        · obtain ⟨b', off', rfl, hP'⟩ := HB.out (by omega)
          have HP' := Lib.hid (hP'.below hb2); clear hP'
          obtain ⟨x', y', e2⟩ := pair_of m j
          have hb5 := bnew hb4 (.cells #[.int .i64 x', .int .i64 y'] 36)
          have x0 := cell_later P0.out (bthen hbel hb5)
          have n0 := cell_later N0.out hb5
          have n1 := cell_later N1.out hb5
          have d1 := HP'.out.c1 (bthen hbel hb4) hjk e2
          have d2 := HP'.out.c2 (bthen hbel hb4) hjk e2
          have bo := HO.out k
          have bi := HI.out k (distOut s r l m k) j
          by_cases ht : x = x'
          · subst ht
            by_cases hg : gapM y y' s < r
            · have hs := Lib.hid (distIn_yes (s := s) (r := r) (n := distOut s r l m k) e1 e2 rfl hg)
              generalize distIn s r l m k (distOut s r l m k) j = v at hs bi
              generalize distOut s r l m k = v' at bo bi hs
              go_wp2_with (go_at_call 20; refine (impl_GapAround).mono ?_; rintro e w' ⟨rfl, rfl⟩)
              go_roundw
              case rel => exact ⟨j + 1, by omega, by go_num, by rw [hs.out], hb5⟩
              case measure => simp [intOf]; omega
            · have hs := Lib.hid (distIn_no (s := s) (r := r) (n := distOut s r l m k) e1 e2 (fun h => hg h.2))
              generalize distIn s r l m k (distOut s r l m k) j = v at hs bi
              generalize distOut s r l m k = v' at bo bi hs
              go_wp2_with (go_at_call 20; refine (impl_GapAround).mono ?_; rintro e w' ⟨rfl, rfl⟩)
              go_roundw
              case rel => exact ⟨j + 1, by omega, by go_num, by rw [hs.out], hb5⟩
              case measure => simp [intOf]; omega
          · have hs := Lib.hid (distIn_no (s := s) (r := r) (n := distOut s r l m k) e1 e2 (fun h => ht h.1))
            have htb : (x == x') = false := by simpa using ht
            generalize distIn s r l m k (distOut s r l m k) j = v at hs bi
            generalize distOut s r l m k = v' at bo bi hs
            go_wp2_with (go_at_call 20; refine (impl_GapAround).mono ?_; rintro e w' ⟨rfl, rfl⟩)
            go_roundw
            case rel => exact ⟨j + 1, by omega, by go_num, by rw [hs.out], hb5⟩
            case measure => simp [intOf]; omega
        · obtain rfl : j = m.length := by omega
          go_wp2
          go_roundw
          case rel => exact ⟨k + 1, by omega, by go_num, by rw [distOut_next], bthen hbel hb4⟩
          case measure => simp [intOf]; omega
    · obtain rfl : k = l.length := by omega
      go_wp2
      go_ret
      exact ⟨ret_int hT.out.symm, bthen hb2 hbel⟩
end Go.Proofs.Ytdajodglopiahaa
