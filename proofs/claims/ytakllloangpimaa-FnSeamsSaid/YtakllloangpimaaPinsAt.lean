/- PinsAt: what it answers, and that the program's and the reference's functions answer it. -/
import Derived.Test.YtakllloangpimaaCylOk
import Derived.Test.YtakllloangpimaaTuneR
import Derived.Test.YtakllloangpimaaIntS
namespace Go.Proofs.Ytakllloangpimaa
open Go.RowKit

/-! ## Plain notions -/
def modM (n s : Int) : Int := (n.tmod s + s) % s
theorem modM_range {n s : Int} (h : 0 < s) : 0 ≤ modM n s ∧ modM n s < s := by
  exact ⟨Int.emod_nonneg _ (by omega), Int.emod_lt_of_pos _ h⟩
def atAngle (y : Int) (p : Int × Int) : Option Int := if p.2 = y then some p.1 else none
def pinsAt (s t : Int) (l : List (Int × Int)) (a : Int) : List Int := if cylOk s t l = true ∧ inR a (-1000000) 1000000 = true then pickTo (atAngle (modM a s)) l l.length else []
theorem pinsAt_no {s t : Int} {l : List (Int × Int)} {a : Int} (h : ¬ (cylOk s t l = true ∧ inR a (-1000000) 1000000 = true)) : pinsAt s t l a = [] := if_neg h
theorem pinsAt_yes {s t : Int} {l : List (Int × Int)} {a : Int} (h1 : cylOk s t l = true) (h2 : inR a (-1000000) 1000000 = true) : pinsAt s t l a = pickTo (atAngle (modM a s)) l l.length := if_pos ⟨h1, h2⟩
theorem spec_l06Mod {n s : Int} {w : World} (h3 : 1 ≤ s) (h4 : s ≤ 1000) :
    Calls Try.prog 78 #[.int .i64 n, .int .i64 s] w fun e w' => e = .returned (.int .i64 (modM n s)) ∧ w = w' := by
  have r1 := Int.lt_tmod_of_pos n (show (0 : Int) < s by omega)
  have r2 := Int.tmod_lt_of_pos n (show (0 : Int) < s by omega)
  have r3 : Hid (modM n s = (n.tmod s + s) % s) := rfl
  have r4 := Int.lt_tmod_of_pos (n.tmod s + s) (show (0 : Int) < s by omega)
  have r5 := Int.tmod_lt_of_pos (n.tmod s + s) (show (0 : Int) < s by omega)
  go_enter Try.func78, Try.ntmps78
  go_wp2
  go_ret
  exact ⟨ret_int r3.out.symm, rfl⟩
theorem impl_around {n s : Int} {w : World} (h3 : 1 ≤ s) (h4 : s ≤ 1000) :
    Calls Try.prog 55 #[.int .i64 n, .int .i64 s] w fun e w' => e = .returned (.int .i64 (modM n s)) ∧ w = w' := by
  have r1 := Int.lt_tmod_of_pos n (show (0 : Int) < s by omega)
  have r2 := Int.tmod_lt_of_pos n (show (0 : Int) < s by omega)
  have r3 : Hid (modM n s = (n.tmod s + s) % s) := rfl
  have r4 := Int.lt_tmod_of_pos (n.tmod s + s) (show (0 : Int) < s by omega)
  have r5 := Int.tmod_lt_of_pos (n.tmod s + s) (show (0 : Int) < s by omega)
  go_enter Try.func55, Try.ntmps55
  go_wp2
  go_ret
  exact ⟨ret_int r3.out.symm, rfl⟩
set_option maxHeartbeats 1000000 in
theorem spec_PinsAt {s t a : Int} {l : List (Int × Int)} {A : Option Addr} {c : Nat} {w : World} (h : RP w A l) :
    Calls Try.prog 49 #[.agg #[.int .i64 s, .int .i64 t, .slice A l.length c], .int .i64 a] w fun e w' => ∃ B d, e = .returned (.slice B (pinsAt s t l a).length d) ∧ OwnI 3 w.heap.size w'.heap.size w' B d (pinsAt s t l a) ∧ Below w.heap.size w w' := by
  have H := Lib.hid h
  obtain ⟨hn, hA⟩ := h
  have HA := Lib.hid hA; clear hA
  go_enter Try.func49, Try.ntmps49
  go_wp2_with fail
  generalize hW : World.alloc w _ = W1
  obtain ⟨hb1, zb, p0, p1, p2⟩ := new3c hW
  clear hW
  have hown := own_emptyAt (W := W1) 3 zb
  generalize hW : World.alloc W1 _ = W2 at hown ⊢
  have hbel : Below W1.heap.size W1 W2 := by rw [← hW]; exact bnew (Below.refl _ _) _
  clear hW
  refine (spec_CylinderOk (H.out.below (bthen hb1 hbel))).mono ?_
  rintro e w1 ⟨rfl, hq⟩
  replace hown := (hown.below hq hown.le).hi_mono (Nat.le_trans hown.le hq.size) (Nat.le_refl _)
  replace hbel := bthen hbel hq
  clear hq
  cases g : cylOk s t l
  · have hT := Lib.hid (pinsAt_no (s := s) (t := t) (l := l) (a := a) (by rw [g]; simp))
    go_wp2
    go_ret
    rw [hT.out]
    exact ⟨_, _, rfl, hown.lo_mono (by omega), bthen hb1 hbel⟩
  cases g2 : inR a (-1000000) 1000000
  · have hT := Lib.hid (pinsAt_no (s := s) (t := t) (l := l) (a := a) (by rw [g2]; simp))
    go_wp2_with (go_at_call 72; refine (spec_l01In).mono ?_; rintro e w' ⟨rfl, rfl⟩)
    go_ret
    rw [hT.out]
    exact ⟨_, _, rfl, hown.lo_mono (by omega), bthen hb1 hbel⟩
  have hT := Lib.hid (pinsAt_yes g g2)
  obtain ⟨⟨s1, s2⟩, _, h100, _⟩ := cylOk_parts g
  obtain ⟨a1, a2⟩ := inR_true g2
  have P0 := Lib.hid p0; have P2 := Lib.hid p2
  clear p0 p1 p2
  go_wp2_with (go_at_call 72; refine (spec_l01In).mono ?_; rintro e w' ⟨rfl, rfl⟩)
  go_loopw [5, 6] (fun v i wr => ∃ (k : Nat) (B : Option Addr) (d : Nat), k ≤ l.length ∧ i = .int .i64 k ∧ v = .slice B (pickTo (atAngle (modM a s)) l k).length d ∧ OwnI 3 (w.heap.size + 1) wr.heap.size wr B d (pickTo (atAngle (modM a s)) l k) ∧ Below W1.heap.size W1 wr) (fun _ i _ => l.length - (intOf i).toNat)
  case atStart => exact ⟨0, _, _, Nat.zero_le _, rfl, rfl, hown, hbel⟩
  case round =>
    clear hown hbel
    obtain ⟨k, B, d, hk, rfl, rfl, hown, hbel⟩ := hrel
    have hpl := length_pickTo (atAngle (modM a s)) l k
    have x2 := cell_later P2.out hbel
    by_cases hlt : k < l.length
    · obtain ⟨b, off, rfl, hP⟩ := HA.out (by omega)
      have HP := Lib.hid (hP.below hb1); clear hP
      obtain ⟨x, y, e1⟩ := pair_of l k
      have y0 := cell_after P0.out hbel
      have y2 := cell_after P2.out hbel
      have c2 := HP.out.a2 hbel hlt e1
      by_cases htp : y = modM a s
      · have hs := Lib.hid (pickTo_yes (f := atAngle (modM a s)) e1 (if_pos htp))
        have htb : (y == modM a s) = true := by simpa using htp
        go_wp2_with fail
        refine wp_region_after (by kernel_rfl) (by kernel_rfl) ?_
        repeat (go_big_quiet_step (first | (go_at_call 78; exact Calls.after_of_same (spec_l06Mod (by omega) (by omega)))))
        refine wpQuiet_nil ?_
        rintro wq ⟨⟨_, hq⟩, rfl⟩
        replace hown := (hown.below hq hown.le).hi_mono hq.size (Nat.le_refl _)
        replace hbel := bthen hbel hq
        clear hq y0 y2 c2 x2
        have y2 := cell_later P2.out hbel
        have c1 := HP.out.c1 hbel hlt e1
        have hlo := hbel.size
        rw [zb] at hlo
        go_wp2_with (at_builtin; refine wpList_app_int (.tmp 35) (.tmp 42) 33 3 rfl rfl Try.underlying33 int_info rfl rfl rfl hown hlo (by omega) ?_; intro B' d' w2 hown2 hb2)
        go_roundw
        case rel => exact ⟨k + 1, B', d', by omega, by go_num, by rw [hs.out, List.length_append]; rfl, by rw [hs.out]; exact hown2, hbel.trans (by rw [zb]; exact hb2)⟩
        case measure => simp [intOf]; omega
      · have hs := Lib.hid (pickTo_no (f := atAngle (modM a s)) e1 (if_neg htp))
        have htb : (y == modM a s) = false := by simpa using htp
        go_wp2_with fail
        refine wp_region_after (by kernel_rfl) (by kernel_rfl) ?_
        repeat (go_big_quiet_step (first | (go_at_call 78; exact Calls.after_of_same (spec_l06Mod (by omega) (by omega)))))
        refine wpQuiet_nil ?_
        rintro wq ⟨⟨_, hq⟩, rfl⟩
        replace hown := (hown.below hq hown.le).hi_mono hq.size (Nat.le_refl _)
        replace hbel := bthen hbel hq
        clear hq
        go_wp2
        go_roundw
        case rel => exact ⟨k + 1, B, d, by omega, by go_num, by rw [hs.out], by rw [hs.out]; exact hown, hbel⟩
        case measure => simp [intOf]; omega
    · obtain rfl : k = l.length := by omega
      go_wp2
      go_ret
      rw [hT.out]
      exact ⟨_, _, rfl, hown.lo_mono (by omega), bthen hb1 hbel⟩
set_option maxHeartbeats 1000000 in
theorem impl_PinsAt {s t a : Int} {l : List (Int × Int)} {A : Option Addr} {c : Nat} {w : World} (h : RP w A l) :
    Calls Try.prog 13 #[.agg #[.int .i64 s, .int .i64 t, .slice A l.length c], .int .i64 a] w fun e w' => ∃ B d, e = .returned (.slice B (pinsAt s t l a).length d) ∧ OwnI 3 w.heap.size w'.heap.size w' B d (pinsAt s t l a) ∧ Below w.heap.size w w' := by
  have H := Lib.hid h
  obtain ⟨hn, hA⟩ := h
  have HA := Lib.hid hA; clear hA
  go_enter Try.func13, Try.ntmps13
  go_wp2_with fail
  generalize hW : World.alloc w _ = W1
  obtain ⟨hbel, zb, p0, p1, p2⟩ := new3c hW
  clear hW
  refine (impl_CylinderOk (H.out.below hbel)).mono ?_
  rintro e w1 ⟨rfl, hq⟩
  replace p0 := cell_later p0 hq; replace p2 := cell_later p2 hq
  replace hbel := bthen hbel hq
  clear hq
  cases g : cylOk s t l
  · have hT := Lib.hid (pinsAt_no (s := s) (t := t) (l := l) (a := a) (by rw [g]; simp))
    go_wp2
    go_ret
    rw [hT.out]
    exact ⟨_, _, rfl, OwnI.nil _ _ (Nat.le_refl _), hbel⟩
  cases g2 : inR a (-1000000) 1000000
  · have hT := Lib.hid (pinsAt_no (s := s) (t := t) (l := l) (a := a) (by rw [g2]; simp))
    go_wp2_with (go_at_call 54; refine (impl_within).mono ?_; rintro e w' ⟨rfl, rfl⟩)
    go_ret
    rw [hT.out]
    exact ⟨_, _, rfl, OwnI.nil _ _ (Nat.le_refl _), hbel⟩
  have hT := Lib.hid (pinsAt_yes g g2)
  obtain ⟨⟨s1, s2⟩, _, h100, _⟩ := cylOk_parts g
  obtain ⟨a1, a2⟩ := inR_true g2
  have P0 := Lib.hid p0; have P2 := Lib.hid p2
  clear p0 p1 p2
  have hbw := hbel
  have hown := own_empty (W := w1) 3
  have x2 := cell_later P2.out (bnew (Below.refl w1.heap.size w1) (.cells #[] 3))
  go_wp2_with (go_at_call 54; refine (impl_within).mono ?_; rintro e w' ⟨rfl, rfl⟩)
  clear x2 hbel
  go_loopw [5, 20] (fun v i wr => ∃ (k : Nat) (B : Option Addr) (d : Nat), k ≤ l.length ∧ i = .int .i64 k ∧ v = .slice B (pickTo (atAngle (modM a s)) l k).length d ∧ OwnI 3 w1.heap.size wr.heap.size wr B d (pickTo (atAngle (modM a s)) l k) ∧ Below w1.heap.size w1 wr) (fun _ i _ => l.length - (intOf i).toNat)
  case atStart => exact ⟨0, _, _, Nat.zero_le _, rfl, rfl, hown.hi_mono (by simp) (Nat.le_refl _), bnew (Below.refl _ _) _⟩
  case round =>
    clear hown
    obtain ⟨k, B, d, hk, rfl, rfl, hown, hbel⟩ := hrel
    have hpl := length_pickTo (atAngle (modM a s)) l k
    by_cases hlt : k < l.length
    · obtain ⟨b, off, rfl, hP⟩ := HA.out (by omega)
      have HP := Lib.hid (hP.below hbw); clear hP
      obtain ⟨x, y, e1⟩ := pair_of l k
      have c1 := HP.out.c1 hbel hlt e1
      have c2 := HP.out.c2 hbel hlt e1
      go_wp2_with fail
      generalize hW : World.alloc wr _ = W2
      obtain ⟨hq, _, n0, n1⟩ := new2c hW
      clear hW c1 c2
      have N0 := Lib.hid n0; have N1 := Lib.hid n1
      replace hown := (hown.below hq hown.le).hi_mono hq.size (Nat.le_refl _)
      replace hbel := bthen hbel hq
      clear n0 n1 hq
      have y0 := cell_after P0.out hbel
      have n1 := cell_after N1.out (Below.refl _ _)
      by_cases htp : y = modM a s
      · have hs := Lib.hid (pickTo_yes (f := atAngle (modM a s)) e1 (if_pos htp))
        have htb : (y == modM a s) = true := by simpa using htp
        refine wp_region_after (by kernel_rfl) (by kernel_rfl) ?_
        repeat (go_big_quiet_step (first | (go_at_call 55; exact Calls.after_of_same (impl_around (by omega) (by omega)))))
        refine wpQuiet_nil ?_
        rintro wq ⟨⟨_, hq⟩, rfl⟩
        have n0 := cell_later N0.out hq
        replace hown := (hown.below hq hown.le).hi_mono hq.size (Nat.le_refl _)
        replace hbel := bthen hbel hq
        clear hq y0 n1
        go_wp2_with (at_builtin; refine wpList_app_int (.tmp 31) (.tmp 34) 33 3 rfl rfl Try.underlying33 int_info rfl rfl rfl hown hbel.size (by omega) ?_; intro B' d' w2 hown2 hb2)
        go_roundw
        case rel => exact ⟨k + 1, B', d', by omega, by go_num, by rw [hs.out, List.length_append]; rfl, by rw [hs.out]; exact hown2, hbel.trans hb2⟩
        case measure => simp [intOf]; omega
      · have hs := Lib.hid (pickTo_no (f := atAngle (modM a s)) e1 (if_neg htp))
        have htb : (y == modM a s) = false := by simpa using htp
        refine wp_region_after (by kernel_rfl) (by kernel_rfl) ?_
        repeat (go_big_quiet_step (first | (go_at_call 55; exact Calls.after_of_same (impl_around (by omega) (by omega)))))
        refine wpQuiet_nil ?_
        rintro wq ⟨⟨_, hq⟩, rfl⟩
        replace hown := (hown.below hq hown.le).hi_mono hq.size (Nat.le_refl _)
        replace hbel := bthen hbel hq
        clear hq
        go_wp2
        go_roundw
        case rel => exact ⟨k + 1, B, d, by omega, by go_num, by rw [hs.out], by rw [hs.out]; exact hown, hbel⟩
        case measure => simp [intOf]; omega
    · obtain rfl : k = l.length := by omega
      go_wp2
      go_ret
      rw [hT.out]
      exact ⟨_, _, rfl, hown.lo_mono hbw.size, bthen hbw hbel⟩
end Go.Proofs.Ytakllloangpimaa
