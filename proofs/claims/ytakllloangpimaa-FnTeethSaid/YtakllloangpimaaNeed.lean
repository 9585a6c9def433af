/- TeethNeeded: that the program's and the reference's functions answer it. -/
import Derived.Test.YtakllloangpimaaNeedA
import Derived.Test.YtakllloangpimaaTeethB
import Derived.Test.YtakllloangpimaaTail
namespace Go.Proofs.Ytakllloangpimaa
open Go.RowKit

theorem pitch_nat {t : List (Int × Int)} {k : Nat} (h : tuneOk t = true) (hk : k < t.length) : ∃ (a : Int) (p : Nat), Hid (t.getD k (0, 0) = (a, (p : Int))) ∧ (0 ≤ a ∧ a ≤ 1000) ∧ p ≤ 60 := by
  obtain ⟨a, b, e⟩ := pair_of t k
  obtain ⟨h1, h2, h3⟩ := tuneOk_range h hk e
  refine ⟨a, b.toNat, ?_, h1, by omega⟩
  show _ = _
  rw [e.out, Int.toNat_of_nonneg h2]
theorem runM_next {c : Nat → Nat} {t : List (Int × Int)} {k p : Nat} {a : Int} (e : Hid (t.getD k (0, 0) = (a, (p : Int)))) {x : Int} (ex : Hid ((runM c t k).getD p 0 = x)) : runM c t (k + 1) = (runM c t k).set p (max x (c k : Int)) := by
  simp only [runM, e.out, Int.toNat_natCast, ex.out]
theorem bOk_eq {t : List (Int × Int)} {rest a b x y : Int} {k i : Nat} (e : Hid (t.getD k (0, 0) = (a, b))) (e2 : Hid (t.getD i (0, 0) = (x, y))) : bOk t rest k i = decide (y = b ∧ a - x < rest) := by
  unfold bOk; rw [e.out, e2.out]
theorem OwnP.cap {e : TypeId} {lo hi : Nat} {w : World} {A : Option Addr} {c : Nat} {l : List (Int × Int)} (h : OwnP e lo hi w A c l) : l.length ≤ c := by
  rcases h.row.2 with ⟨_, hn⟩ | ⟨g, cap, cur, hv, _, _, hc, _⟩
  · omega
  · injection hv with _ _ h3
    omega
theorem max_if (x y : Int) : max x y = if x < y then y else x := by split <;> omega
theorem fOk_eq {t : List (Int × Int)} {rest a b x y : Int} {k i : Nat} (e : Hid (t.getD k (0, 0) = (a, b))) (e2 : Hid (t.getD (k + i) (0, 0) = (x, y))) : fOk t rest k i = decide (y = b ∧ x < a + rest) := by
  unfold fOk; rw [e.out, e2.out]
theorem own_madeAt {W : World} (e : TypeId) {n g : Nat} (hn : n ≤ 1048576) (hg : W.heap.size = g) : OwnI e g (g + 1) (W.alloc (.cells (madeCells #[.int .i64 0] n) e)) (some ⟨g, 0, none⟩) n (List.replicate n 0) := by
  subst hg; exact own_madeI e hn

theorem impl_TeethNeeded_no {t : List (Int × Int)} {rest : Int} {A : Option Addr} {ca : Nat} {w : World} (h1 : RP w A t) (h : ¬ (tuneOk t = true ∧ inR rest 1 100 = true)) :
    Calls Try.prog 20 #[.slice A t.length ca, .int .i64 rest] w fun e w' => ∃ D d, e = .returned (.slice D (needed t rest).length d) ∧ OwnI 3 w.heap.size w'.heap.size w' D d (needed t rest) ∧ Below w.heap.size w w' := by
  have H1 := Lib.hid h1
  clear h1
  have hT := Lib.hid (needed_no h)
  cases g1 : tuneOk t
  · clear h
    go_enter Try.func20, Try.ntmps20
    go_wp2_with fail
    refine (impl_TuneOk H1.out).mono ?_
    rintro e w1 ⟨rfl, hbel⟩
    go_wp2
    go_ret
    rw [hT.out]
    exact ⟨none, 0, rfl, OwnI.nil _ _ (Nat.le_refl _), hbel⟩
  · have g2 : inR rest 1 100 = false := by
      cases g2 : inR rest 1 100
      · rfl
      · exact absurd ⟨g1, g2⟩ h
    clear h
    go_enter Try.func20, Try.ntmps20
    go_wp2_with fail
    refine (impl_TuneOk H1.out).mono ?_
    rintro e w1 ⟨rfl, hbel⟩
    go_wp2_with (go_at_call 54; refine (impl_within).mono ?_; rintro e w' ⟨rfl, rfl⟩)
    go_ret
    rw [hT.out]
    exact ⟨none, 0, rfl, OwnI.nil _ _ (Nat.le_refl _), hbel⟩
set_option maxHeartbeats 1000000 in
theorem impl_TeethNeeded {t : List (Int × Int)} {rest : Int} {A : Option Addr} {ca : Nat} {w : World} (h1 : RP w A t) (hca : t.length ≤ ca) :
    Calls Try.prog 20 #[.slice A t.length ca, .int .i64 rest] w fun e w' => ∃ D d, e = .returned (.slice D (needed t rest).length d) ∧ OwnI 3 w.heap.size w'.heap.size w' D d (needed t rest) ∧ Below w.heap.size w w' := by
  by_cases h : tuneOk t = true ∧ inR rest 1 100 = true
  case neg => exact impl_TeethNeeded_no h1 h
  have hT := Lib.hid (needed_F h)
  obtain ⟨g1, g2⟩ := h
  obtain ⟨r1, r2⟩ := inR_true g2
  have H1 := Lib.hid h1; clear h1
  have G1 := Lib.hid g1
  have l1 := H1.out.1
  have hmk := run_makeN (P := Try.prog) 33 3 _ 1 8 Try.underlying33 int_info 61 (by omega) (by omega)
  rw [show ((61 : Nat) : Int) = 61 from rfl] at hmk
  go_enter Try.func20, Try.ntmps20
  go_wp2_with fail
  refine (impl_TuneOk H1.out).mono ?_
  rintro e w2 ⟨rfl, hbel⟩
  go_wp2_with (go_at_call 54; refine (impl_within).mono ?_; rintro e w' ⟨rfl, rfl⟩)
  clear hmk
  obtain ⟨L, hL⟩ : ∃ L, w2.heap.size = L := ⟨_, rfl⟩
  have hwL : w.heap.size ≤ L := by rw [← hL]; exact hbel.size
  have hst : Hid (OwnI 3 L (L + 1) (w2.alloc (Obj.cells (madeCells #[Value.int IntKind.i64 0] 61) 3)) (some ⟨L, 0, none⟩) 61 (List.replicate 61 0) ∧ Below w.heap.size w (w2.alloc (Obj.cells (madeCells #[Value.int IntKind.i64 0] 61) 3))) :=
    ⟨own_madeAt 3 (by omega) hL, bnew hbel _⟩
  rw [hL]
  clear hL hbel
  go_loopw [22] (fun i wr => ∃ k : Nat, k ≤ t.length ∧ i = .int .i64 k ∧ Hid (OwnI 3 L (L + 1) wr (some ⟨L, 0, none⟩) 61 (runM (cF t rest) t k)) ∧ Below w.heap.size w wr) (fun i _ => t.length - (intOf i).toNat)
  case atStart => exact ⟨0, Nat.zero_le _, rfl, hst.out.1, hst.out.2⟩
  case round =>
    clear hst
    obtain ⟨k, hk, rfl, hown, hbel⟩ := hrel
    by_cases hlt : k < t.length
    · obtain ⟨b, off, rfl, hP⟩ := H1.out.2 (by omega)
      have HP := Lib.hid hP; clear hP
      obtain ⟨a, p, e1, ⟨p1, p2⟩, p3⟩ := pitch_nat G1.out hlt
      have c1 := HP.out.c1 hbel hlt e1
      have c2 := HP.out.c2 hbel hlt e1
      go_wp2
      clear c1 c2
      generalize hW : World.alloc wr _ = W2
      obtain ⟨hb2, hz2, n1, n2⟩ := new2c hW
      clear hW
      have ho := Lib.hid (hown.out.below hb2 hown.out.le); clear hown
      have hbl := Lib.hid (bthen hbel hb2); clear hbel
      have hz := Lib.hid hz2
      clear hb2 hz2
      have N1 := Lib.hid n1; clear n1
      have N2 := Lib.hid n2; clear n2
      go_loopw [8, 31] (fun v j wr' => ∃ m : Nat, m ≤ t.length - k ∧ j = .int .i64 m ∧ v = .int .i64 (cnt (fOk t rest k) m) ∧ Below W2.heap.size W2 wr') (fun _ j _ => t.length - k - (intOf j).toNat)
      case atStart => exact ⟨0, Nat.zero_le _, rfl, rfl, Below.refl _ _⟩
      case round =>
        obtain ⟨m, hm, rfl, rfl, hbi⟩ := hrel
        have hcm := cnt_le (fOk t rest k) m
        have hkl := hlt
        by_cases hml : m < t.length - k
        · have hmt : k + m < t.length := by omega
          obtain ⟨x, y, e2⟩ := pair_of t (k + m)
          obtain ⟨⟨q1, q2⟩, q3, q4⟩ := tuneOk_range G1.out hmt e2
          have hB := Lib.hid (fOk_eq (rest := rest) e1 e2)
          have n1 := cell_later N1.out (bnew hbi (.cells #[.int .i64 x, .int .i64 y] 41))
          have n2 := cell_later N2.out (bnew hbi (.cells #[.int .i64 x, .int .i64 y] 41))
          have c3 := HP.out.c1 (bthen hbl.out hbi) hmt e2
          have c4 := HP.out.c2 (bthen hbl.out hbi) hmt e2
          rw [show off + (k + m) * 2 = off + k * 2 + m * 2 from by omega] at c3 c4
          have hbk := Lib.hid hbi; clear hbi
          by_cases m1 : y = (p : Int)
          · have f1 : (y == (p : Int)) = true := by rw [beq_iff_eq]; exact m1
            have m1' := Lib.hid m1; clear m1
            by_cases m2 : x < a + rest
            · have hs := Lib.hid (cnt_yes (hB.out.trans (decide_eq_true ⟨m1'.out, m2⟩)))
              go_wp2
              go_roundw
              case rel => exact ⟨m + 1, by omega, by go_num, by rw [hs.out]; rfl, bnew hbk.out _⟩
              case measure => simp [intOf]; omega
            · have hs := Lib.hid (cnt_no (hB.out.trans (decide_eq_false (fun hh => m2 hh.2))))
              go_wp2
              go_roundw
              case rel => exact ⟨m + 1, by omega, by go_num, by rw [hs.out], bnew hbk.out _⟩
              case measure => simp [intOf]; omega
          · have hs := Lib.hid (cnt_no (hB.out.trans (decide_eq_false (fun hh => m1 hh.1))))
            have f1 : (y == (p : Int)) = false := by rw [beq_eq_false_iff_ne]; exact m1
            clear m1
            go_wp2
            go_roundw
            case rel => exact ⟨m + 1, by omega, by go_num, by rw [hs.out], bnew hbk.out _⟩
            case measure => simp [intOf]; omega
        · obtain rfl : m = t.length - k := by omega
          obtain ⟨x, ex⟩ := int_of (runM (cF t rest) t k) p
          have hp61 := Lib.hid (show p < (runM (cF t rest) t k).length by rw [length_runM]; omega)
          have ho1 := Lib.hid (ho.out.below hbi ho.out.le)
          have hb2 := Lib.hid (bthen hbl.out hbi)
          have hs := Lib.hid (runM_next (c := cF t rest) e1 ex)
          have n2 := cell_after N2.out hbi
          have c5 := ho1.out.all hp61.out ex
          have pz : (p : Int) < 61 := by omega
          clear hbi
          go_wp2_with fail
          refine wp_region_after_tail 11 (by kernel_rfl) (by kernel_rfl) ?_
          simp only [List.take_succ_cons, List.take_zero, List.drop_succ_cons, List.drop_zero]
          repeat (go_big_quiet_step (fail))
          refine wpQuiet_nil ?_
          rintro wq ⟨⟨_, hq⟩, rfl⟩
          have ho2 := Lib.hid (ho1.out.below hq ho1.out.le)
          have hb3 := Lib.hid (bthen hb2.out hq)
          obtain ⟨s1, s2⟩ := ho2.out.slot hp61.out
          clear hq n2 c5
          go_wp2
          go_roundw
          case rel =>
            refine ⟨k + 1, by omega, by go_num, ?_, hb3.out.setCell (p := ⟨L, p, none⟩) hwL _⟩
            rw [hs.out, max_if]
            exact ho2.out.stored p _
          case measure => simp [intOf]; omega
    · obtain rfl : k = t.length := by omega
      go_wp2
      go_ret
      rw [hT.out, length_runM]
      exact ⟨_, _, rfl, (hown.out.lo_mono hwL).hi_mono hown.out.le (Nat.le_refl _), hbel⟩
end Go.Proofs.Ytakllloangpimaa
