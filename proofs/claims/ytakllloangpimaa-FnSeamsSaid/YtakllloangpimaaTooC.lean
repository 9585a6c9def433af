/- TooClose: what it answers, and that the program's and the reference's functions answer it. -/
import Derived.Test.YtakllloangpimaaClose
import Derived.Test.YtakllloangpimaaSSB
namespace Go.Proofs.Ytakllloangpimaa
open Go.RowKit

/-! ## Plain notions -/
def tooIf (s r : Int) (l : List (Int × Int)) (i j : Nat) (out : List (Int × Int)) : List (Int × Int) :=
  if (l.getD i (0, 0)).1 = (l.getD j (0, 0)).1 ∧ gapM (l.getD i (0, 0)).2 (l.getD j (0, 0)).2 s < r then out ++ [((i : Int), (j : Int))] else out
def tooIn (s r : Int) (l : List (Int × Int)) (i : Nat) (out : List (Int × Int)) (k : Nat) : List (Int × Int) := runN (fun d out => tooIf s r l i (i + 1 + d) out) k out
def tooOut (s r : Int) (l : List (Int × Int)) (k : Nat) : List (Int × Int) := runN (fun i out => tooIn s r l i out (l.length - (i + 1))) k []
def tooM (s t : Int) (l : List (Int × Int)) (r : Int) : List (Int × Int) := if cylOk s t l = true ∧ inR r 1 96 = true then tooOut s r l l.length else []
section
variable {s t r : Int} {l : List (Int × Int)} {i j k : Nat} {x y x' y' : Int} {out : List (Int × Int)}
theorem too_no (h : ¬ (cylOk s t l = true ∧ inR r 1 96 = true)) : tooM s t l r = [] := if_neg h
theorem too_yes (h1 : cylOk s t l = true) (h2 : inR r 1 96 = true) : tooM s t l r = tooOut s r l l.length := if_pos ⟨h1, h2⟩
theorem tooIn_start : tooIn s r l i out (i + 1 - (i + 1)) = out := by rw [Nat.sub_self]; rfl
theorem tooOut_next : tooIn s r l k (tooOut s r l k) (l.length - (k + 1)) = tooOut s r l (k + 1) := rfl
theorem tooIn_next (h : i + 1 ≤ j) : tooIn s r l i out (j + 1 - (i + 1)) = tooIf s r l i j (tooIn s r l i out (j - (i + 1))) := by
  rw [show j + 1 - (i + 1) = (j - (i + 1)) + 1 by omega]
  show tooIf s r l i (i + 1 + (j - (i + 1))) _ = _
  rw [show i + 1 + (j - (i + 1)) = j by omega]; rfl
theorem tooIn_yes (hj : i + 1 ≤ j) (e : Hid (l.getD i (0, 0) = (x, y))) (e' : Hid (l.getD j (0, 0) = (x', y'))) (h : x = x') (h2 : gapM y y' s < r) : tooIn s r l i out (j + 1 - (i + 1)) = tooIn s r l i out (j - (i + 1)) ++ [((i : Int), (j : Int))] := by
  rw [tooIn_next hj]; unfold tooIf; rw [e.out, e'.out]; exact if_pos ⟨h, h2⟩
theorem tooIn_no (hj : i + 1 ≤ j) (e : Hid (l.getD i (0, 0) = (x, y))) (e' : Hid (l.getD j (0, 0) = (x', y'))) (h : ¬ (x = x' ∧ gapM y y' s < r)) : tooIn s r l i out (j + 1 - (i + 1)) = tooIn s r l i out (j - (i + 1)) := by
  rw [tooIn_next hj]; unfold tooIf; rw [e.out, e'.out]; exact if_neg h
theorem tooIf_le : (tooIf s r l i j out).length ≤ out.length + 1 := by
  unfold tooIf; split <;> simp
theorem tooIn_le : ∀ k, (tooIn s r l i out k).length ≤ out.length + k
  | 0 => Nat.le_refl _
  | k + 1 => by
    have h1 := tooIn_le k
    have h2 : (tooIn s r l i out (k + 1)).length ≤ (tooIn s r l i out k).length + 1 := tooIf_le
    omega
theorem tooOut_le (hl : l.length ≤ 100) : ∀ k, (tooOut s r l k).length ≤ 100 * k
  | 0 => Nat.le_refl _
  | k + 1 => by
    have h1 := tooOut_le hl k
    rw [← tooOut_next]
    have h2 := tooIn_le (s := s) (r := r) (l := l) (i := k) (out := tooOut s r l k) (l.length - (k + 1))
    omega
end
theorem ss_info : (Try.prog.info? 33).map (fun i => (i.zero, i.size, i.bytes)) = some (some (.slice none 0 0), 1, 24) := by kernel_rfl
set_option maxHeartbeats 1000000 in
theorem impl_TooClose {s t r : Int} {l : List (Int × Int)} {A : Option Addr} {c : Nat} {w : World} (h : RP w A l) :
    Calls Try.prog 43 #[.agg #[.int .i64 s, .int .i64 t, .slice A l.length c], .int .i64 r] w fun e w' => ∃ B d, e = .returned (.slice B (tooM s t l r).length d) ∧ OwnSS 33 3 w.heap.size w'.heap.size w' B d (tooM s t l r) ∧ Below w.heap.size w w' := by
  have H := Lib.hid h
  obtain ⟨hn, hA⟩ := h
  have HA := Lib.hid hA; clear hA
  go_enter Try.func43, Try.ntmps43
  go_wp2_with fail
  generalize hW : World.alloc w _ = W1
  obtain ⟨hbel, zb, p0, p1, p2⟩ := new3c hW
  clear hW
  refine (impl_CylinderOk (H.out.below hbel)).mono ?_
  rintro e w1 ⟨rfl, hq⟩
  replace p0 := cell_later p0 hq; replace p2 := cell_later p2 hq
  replace hbel := bthen hbel hq
  clear hq
  cases g : cylOk s t l
  · have hT := Lib.hid (too_no (s := s) (t := t) (l := l) (r := r) (by rw [g]; simp))
    go_wp2
    go_ret
    rw [hT.out]
    exact ⟨_, _, rfl, OwnSS.nil _ _ _ (Nat.le_refl _), hbel⟩
  cases g2 : inR r 1 96
  · have hT := Lib.hid (too_no (s := s) (t := t) (l := l) (r := r) (by rw [g2]; simp))
    go_wp2_with (go_at_call 54; refine (impl_within).mono ?_; rintro e w' ⟨rfl, rfl⟩)
    go_ret
    rw [hT.out]
    exact ⟨_, _, rfl, OwnSS.nil _ _ _ (Nat.le_refl _), hbel⟩
  have hT := Lib.hid (too_yes g g2)
  obtain ⟨_, _, h100, _⟩ := cylOk_parts g
  have P0 := Lib.hid p0; have P2 := Lib.hid p2
  clear p0 p1 p2
  have hbw := hbel
  have hown := OwnSS.empty (W := w1) 33 3 rfl
  have x2 := cell_later P2.out (bnew (Below.refl w1.heap.size w1) (.cells #[] 33))
  go_wp2_with (go_at_call 54; refine (impl_within).mono ?_; rintro e w' ⟨rfl, rfl⟩)
  clear x2 hbel
  go_loopw [5, 22] (fun v i wr => ∃ (k : Nat) (B : Option Addr) (d : Nat), k ≤ l.length ∧ i = .int .i64 k ∧ v = .slice B (tooOut s r l k).length d ∧ OwnSS 33 3 w1.heap.size wr.heap.size wr B d (tooOut s r l k) ∧ Below w1.heap.size w1 wr) (fun _ i _ => l.length - (intOf i).toNat)
  case atStart => exact ⟨0, _, _, Nat.zero_le _, rfl, rfl, hown.hi_mono (by simp) (Nat.le_refl _), bnew (Below.refl _ _) _⟩
  case round =>
    clear hown
    obtain ⟨k, B, d, hk, rfl, rfl, hown, hbel⟩ := hrel
    by_cases hlt : k < l.length
    · obtain ⟨b, off, rfl, hP⟩ := HA.out (by omega)
      have HP := Lib.hid (hP.below hbw); clear hP
      obtain ⟨x, y, e1⟩ := pair_of l k
      have bo := tooOut_le (s := s) (r := r) h100 k
      have c1 := HP.out.c1 hbel hlt e1
      have c2 := HP.out.c2 hbel hlt e1
      go_wp2
      generalize hW : World.alloc wr _ = W2
      obtain ⟨hq, _, n0, n1⟩ := new2c hW
      clear hW c1 c2
      obtain ⟨gz, hgz⟩ : ∃ g, wr.heap.size = g := ⟨_, rfl⟩
      have hoffB := Lib.hid (hown.off (Nat.le_refl _))
      rw [hgz] at n0 n1 hoffB ⊢
      have N0 := Lib.hid n0; have N1 := Lib.hid n1
      have hgl : gz < W2.heap.size := World.block_lt_of_cell? _ _ n0
      replace hown := (hown.below hq hown.le).hi_mono hq.size (Nat.le_refl _)
      replace hbel := bthen hbel hq
      clear n0 n1 hq hgz
      go_loopw [5, 8] (fun v i wr' => ∃ (j : Nat) (B : Option Addr) (d : Nat), k + 1 ≤ j ∧ j ≤ l.length ∧ i = .int .i64 j ∧ v = .slice B (tooIn s r l k (tooOut s r l k) (j - (k + 1))).length d ∧ OwnSS 33 3 w1.heap.size wr'.heap.size wr' B d (tooIn s r l k (tooOut s r l k) (j - (k + 1))) ∧ Below w1.heap.size w1 wr' ∧ Hid (wr'.cell? ⟨gz, 0, none⟩ = some (.int .i64 x) ∧ wr'.cell? ⟨gz, 1, none⟩ = some (.int .i64 y)) ∧ Hid (Off B gz ∧ gz < wr'.heap.size)) (fun _ i _ => l.length - (intOf i).toNat)
      case atStart => exact ⟨k + 1, B, d, Nat.le_refl _, by omega, by go_num, by rw [tooIn_start], by rw [tooIn_start]; exact hown, hbel, ⟨N0.out, N1.out⟩, ⟨hoffB.out, hgl⟩⟩
      case round =>
        clear hown hbel hoffB N0 N1
        obtain ⟨j, B, d, hj1, hj, rfl, rfl, hown, hbel, hN, hO⟩ := hrel
        by_cases hjl : j < l.length
        · obtain ⟨x', y', e2⟩ := pair_of l j
          have bi := tooIn_le (s := s) (r := r) (l := l) (i := k) (out := tooOut s r l k) (j - (k + 1))
          have x2 := cell_later P2.out hbel
          have d1 := HP.out.c1 hbel hjl e2
          have d2 := HP.out.c2 hbel hjl e2
          have hb5 := bnew hbel (.cells #[.int .i64 x', .int .i64 y'] 32)
          have hb6 := bnew (Below.refl wr.heap.size wr) (.cells #[.int .i64 x', .int .i64 y'] 32)
          have y0 := cell_later P0.out hb5
          have n0 := cell_later hN.out.1 hb6
          have n1 := cell_later hN.out.2 hb6
          have hown' := (hown.below hb6 hown.le).hi_mono hb6.size (Nat.le_refl _)
          by_cases ht : x = x'
          · subst ht
            by_cases hg : gapM y y' s < r
            · have hs := Lib.hid (tooIn_yes (s := s) (r := r) (out := tooOut s r l k) hj1 e1 e2 rfl hg)
              generalize tooIn s r l k (tooOut s r l k) (j - (k + 1)) = v at hs bi hown hown' ⊢
              go_wp2_with (first | (go_at_call 46; refine (impl_GapAround).mono ?_; rintro e w' ⟨rfl, rfl⟩) | (at_builtin; refine wpList_app_two (.tmp 57) (.tmp 61) 69 33 3 rfl rfl Try.underlying69 ss_info rfl (by decide) rfl rfl (by simp) hown' hb5.size (by omega) ?_; intro B' d' w2 hown2 hb2 hoff))
              go_roundw
              case rel =>
                obtain ⟨o1, o2⟩ := hoff.out gz (Nat.lt_of_lt_of_le hO.out.2 hb6.size) hO.out.1
                exact ⟨j + 1, B', d', by omega, by omega, by go_num, by rw [hs.out, List.length_append]; rfl, by rw [hs.out]; exact hown2, hb5.trans hb2, ⟨(World.cell?_of_block (w := wr.alloc (.cells #[.int .i64 x, .int .i64 y'] 32)) (a := ⟨gz, 0, none⟩) o1).trans n0, (World.cell?_of_block (w := wr.alloc (.cells #[.int .i64 x, .int .i64 y'] 32)) (a := ⟨gz, 1, none⟩) o1).trans n1⟩, ⟨o2, Nat.lt_of_lt_of_le hO.out.2 (Nat.le_trans hb6.size hb2.size)⟩⟩
              case measure => simp [intOf]; omega
            · have hs := Lib.hid (tooIn_no (s := s) (r := r) (out := tooOut s r l k) hj1 e1 e2 (fun h => hg h.2))
              generalize tooIn s r l k (tooOut s r l k) (j - (k + 1)) = v at hs bi hown hown' ⊢
              go_wp2_with (go_at_call 46; refine (impl_GapAround).mono ?_; rintro e w' ⟨rfl, rfl⟩)
              go_roundw
              case rel => exact ⟨j + 1, B, d, by omega, by omega, by go_num, by rw [hs.out], by rw [hs.out]; exact hown', hb5, ⟨n0, n1⟩, ⟨hO.out.1, Nat.lt_of_lt_of_le hO.out.2 hb6.size⟩⟩
              case measure => simp [intOf]; omega
          · have hs := Lib.hid (tooIn_no (s := s) (r := r) (out := tooOut s r l k) hj1 e1 e2 (fun h => ht h.1))
            have htb : (x == x') = false := by simpa using ht
            generalize tooIn s r l k (tooOut s r l k) (j - (k + 1)) = v at hs bi hown hown' ⊢
            go_wp2_with (go_at_call 46; refine (impl_GapAround).mono ?_; rintro e w' ⟨rfl, rfl⟩)
            go_roundw
            case rel => exact ⟨j + 1, B, d, by omega, by omega, by go_num, by rw [hs.out], by rw [hs.out]; exact hown', hb5, ⟨n0, n1⟩, ⟨hO.out.1, Nat.lt_of_lt_of_le hO.out.2 hb6.size⟩⟩
            case measure => simp [intOf]; omega
        · obtain rfl : j = l.length := by omega
          have x2 := cell_later P2.out hbel
          go_wp2
          go_roundw
          case rel => exact ⟨k + 1, B, d, by omega, by go_num, by rw [tooOut_next], by rw [← tooOut_next]; exact hown, hbel⟩
          case measure => simp [intOf]; omega
    · obtain rfl : k = l.length := by omega
      go_wp2
      go_ret
      rw [hT.out]
      exact ⟨_, _, rfl, hown.lo_mono hbw.size, bthen hbw hbel⟩
end Go.Proofs.Ytakllloangpimaa
