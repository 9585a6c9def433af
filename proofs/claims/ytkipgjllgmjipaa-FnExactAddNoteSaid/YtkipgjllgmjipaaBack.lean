/- Backward: what the reference's and the program's answer. -/
import Derived.Test.YtkipgjllgmjipaaSn
import Derived.Test.YtkipgjllgmjipaaChgB
namespace Go.Proofs.Ytkipgjllgmjipaa
open Go.RowKit
set_option linter.unusedVariables false

/-! ## Plain notions -/
def sumM (l : List (Int × Int)) : Int := (l.getD 0 (0, 0)).1 + (l.getD (l.length - 1) (0, 0)).1
def backF (s : Int) (p : Int × Int) : Int × Int := (s - p.1, p.2)
def backM (l : List (Int × Int)) : List (Int × Int) := if tuneOk l = true ∧ ¬ l.length = 0 then sortU (l.map (backF (sumM l))) else []
theorem si_time {l : List (Int × Int)} (h : SI l) {i j : Nat} (hij : i ≤ j) (hj : j < l.length) : (l.getD i (0, 0)).1 ≤ (l.getD j (0, 0)).1 := by
  rcases Nat.lt_or_ge i j with hlt | hge
  · have := List.pairwise_iff_getElem.1 h i j (by omega) hj hlt
    rw [← getD_get (show i < l.length by omega), ← getD_get hj] at this
    unfold lt2 at this; omega
  · have : i = j := by omega
    subst this; exact Int.le_refl _
theorem back_ok {l : List (Int × Int)} (h : tuneOk l = true) (h0 : ¬ l.length = 0) : tuneOk (sortU (l.map (backF (sumM l)))) = true := by
  have hsi := tuneOk_si h
  have h40 := (tuneOk_parts h).1
  refine tuneOk_of ?_ (sortU_si _) fun p hp => ?_
  · have := length_sortTo (l.map (backF (sumM l))) (l.map (backF (sumM l))).length
    unfold sortU
    rw [List.length_map] at *
    omega
  · rw [mem_sortU] at hp
    obtain ⟨q, hq, rfl⟩ := List.mem_map.1 hp
    obtain ⟨j, hj, hqe⟩ := mem_getD.2 hq
    have h1 := si_time hsi (Nat.zero_le j) hj
    have h2 := si_time hsi (show j ≤ l.length - 1 by omega) (by omega)
    have h3 := tuneOk_mem h (mem_getD.1 ⟨0, by omega, rfl⟩)
    have h4 := tuneOk_mem h (mem_getD.1 ⟨l.length - 1, by omega, rfl⟩)
    have h5 := tuneOk_mem h hq
    rw [hqe] at h1 h2
    unfold backF sumM
    simp only
    omega
theorem back_no {l : List (Int × Int)} (h : ¬ (tuneOk l = true ∧ ¬ l.length = 0)) : backM l = [] := if_neg h
theorem back_yes {l : List (Int × Int)} (h : tuneOk l = true) (h0 : ¬ l.length = 0) : backM l = sortU (l.map (backF (sumM l))) := if_pos ⟨h, h0⟩
theorem sortN_map {l : List (Int × Int)} {f : Int × Int → Int × Int} (h : l.length ≤ 40) : sortN (l.map f) = sortU (l.map f) := if_pos (by rw [List.length_map]; exact h)
set_option maxHeartbeats 2000000 in
theorem spec_Backward {l : List (Int × Int)} {A : Option Addr} {c : Nat} {w : World} (h : RP w A l) :
    Calls Try.prog 28 #[.slice A l.length c] w fun e w' => ∃ B d, e = .returned (.slice B (backM l).length d) ∧ OwnP 38 w.heap.size w'.heap.size w' B d (backM l) ∧ Below w.heap.size w w' := by
  have H := Lib.hid h
  obtain ⟨hn, hA⟩ := h
  have HA := Lib.hid hA; clear hA
  by_cases hno : ¬ (tuneOk l = true ∧ ¬ l.length = 0)
  · have hT := Lib.hid (back_no hno)
    have hno' := Lib.hid hno
    have hs0 : Hid (sortN [] = []) := rfl
    clear hno
    go_enter Try.func28, Try.ntmps28
    go_wp2
    go_loopw [3, 4] (fun v i wr => i = .int .i64 0 ∧ v = .slice (some ⟨w.heap.size, 0, none⟩) 0 0 ∧ OwnP 38 w.heap.size wr.heap.size wr (some ⟨w.heap.size, 0, none⟩) 0 [] ∧ Below w.heap.size w wr) (fun _ i _ => l.length - (intOf i).toNat)
    case atStart => exact ⟨rfl, rfl, (own_emptyP 38).hi_mono (by simp) (Nat.le_refl _), bnew (Below.refl _ _) _⟩
    case round =>
      obtain ⟨rfl, rfl, hown, hbel⟩ := hrel
      by_cases h0 : 0 < l.length
      · have g : tuneOk l = false := by
          cases g : tuneOk l
          · rfl
          · exact absurd ⟨g, by omega⟩ hno'.out
        go_wp2_with fail
        refine (spec_TuneOk (H.out.below hbel)).mono ?_
        rintro e w1 ⟨rfl, hb1⟩
        rw [g]
        replace hown := (hown.below hb1 hown.le).hi_mono hb1.size (Nat.le_refl _)
        replace hbel := bthen hbel hb1
        clear hb1
        have hO := Lib.hid (spec_SortNotes (c := 0) hown.reads)
        go_wp2_with fail
        refine hO.out.mono ?_
        rintro e w2 ⟨B, d, rfl, O, hq⟩
        go_wp2
        go_ret
        rw [hT.out]
        rw [hs0.out] at O
        exact ⟨_, _, rfl, O.lo_mono hbel.size, bthen hbel hq⟩
      · have hO := Lib.hid (spec_SortNotes (c := 0) hown.reads)
        go_wp2_with fail
        refine hO.out.mono ?_
        rintro e w2 ⟨B, d, rfl, O, hq⟩
        go_wp2
        go_ret
        rw [hT.out]
        rw [hs0.out] at O
        exact ⟨_, _, rfl, O.lo_mono hbel.size, bthen hbel hq⟩
  have g : tuneOk l = true := (Classical.not_not.1 hno).1
  have h0 : ¬ l.length = 0 := (Classical.not_not.1 hno).2
  clear hno
  have hT := Lib.hid ((back_yes g h0).trans (sortN_map (f := backF (sumM l)) (tuneOk_parts g).1).symm)
  have hrg := Lib.hid (fun k t u hk e => tuneOk_range (l := l) g (k := k) (t := t) (u := u) hk e)
  have h40 := (tuneOk_parts g).1
  obtain ⟨s0, u0, e0⟩ := pair_of l 0
  obtain ⟨s9, u9, e9⟩ := pair_of l (l.length - 1)
  have hk0 := Lib.hid (show 0 < l.length by omega)
  have hk9 := Lib.hid (show l.length - 1 < l.length by omega)
  obtain ⟨⟨a1, a2⟩, _, _⟩ := hrg.out 0 s0 u0 hk0.out e0
  obtain ⟨⟨a3, a4⟩, _, _⟩ := hrg.out _ s9 u9 hk9.out e9
  have hsum : Hid (sumM l = s0 + s9) := by show _ = _; unfold sumM; rw [e0.out, e9.out]
  rw [hsum.out] at hT
  have hnx := Lib.hid (fun k x y hk e => map_take (l := l) (f := backF (s0 + s9)) (k := k) (x := x) (y := y) hk e)
  have hMl : Hid ((l.map (backF (s0 + s9))).length = l.length) := by simp [Hid]
  have hpos : 1 ≤ (l.length : Int) := by omega
  generalize l.map (backF (s0 + s9)) = M at *
  clear h0
  go_enter Try.func28, Try.ntmps28
  go_wp2
  go_loopw [3, 4] (fun v i wr => ∃ (k : Nat) (B : Option Addr) (d : Nat) (L : List (Int × Int)), k ≤ l.length ∧ i = .int .i64 k ∧ Hid (L = M.take k) ∧ v = .slice B L.length d ∧ OwnP 38 w.heap.size wr.heap.size wr B d L ∧ Below w.heap.size w wr) (fun _ i _ => l.length - (intOf i).toNat)
  case atStart => exact ⟨0, _, _, [], Nat.zero_le _, rfl, rfl, rfl, (own_emptyP 38).hi_mono (by simp) (Nat.le_refl _), bnew (Below.refl _ _) _⟩
  case round =>
    obtain ⟨k, B, d, L, hk, rfl, hL, rfl, hown, hbel⟩ := hrel
    have hLk : L.length ≤ k := by rw [hL.out, List.length_take]; omega
    by_cases hlt : k < l.length
    · obtain ⟨b, off, rfl, hP⟩ := HA.out (by omega)
      have HP := Lib.hid hP; clear hP
      obtain ⟨x, y, e1⟩ := pair_of l k
      obtain ⟨⟨x1, x2⟩, y1, y2⟩ := hrg.out k x y hlt e1
      have hnx' := Lib.hid (hnx.out k x y hlt e1)
      go_wp2_with fail
      refine (spec_TuneOk (H.out.below hbel)).mono ?_
      rintro e w1 ⟨rfl, hb1⟩
      rw [g]
      replace hown := (hown.below hb1 hown.le).hi_mono hb1.size (Nat.le_refl _)
      replace hbel := bthen hbel hb1
      clear hb1
      have c0 := HP.out.w1 hbel hk0.out e0
      have c9 := HP.out.c1 hbel hk9.out e9
      have c1 := HP.out.c1 hbel hlt e1
      have c2 := HP.out.c2 hbel hlt e1
      have hlo := hbel.size
      have hownC := hown.c
      have hl2 : L.length + 1 ≤ 4194304 := by omega
      have o1 : ∀ u ∈ [Value.int .i64 (s0 + s9 - x), .int .i64 y], u.oneCell' = true := by simp [Value.oneCell']
      have hblt := HP.out.1
      have E1 : IntKind.i64.wrap (s0 + s9) = s0 + s9 := wrap_small (by omega) (by omega)
      have E2 : IntKind.i64.wrap (s0 + s9 - x) = s0 + s9 - x := wrap_small (by omega) (by omega)
      have E3 : IntKind.i64.wrap ((l.length : Int) - 1) = (l.length : Int) - 1 := wrap_small (by omega) (by omega)
      have j0 : (0 : Int) < (l.length : Int) := by omega
      have j1 : (0 : Int) ≤ (l.length : Int) - 1 := by omega
      have j2 : (l.length : Int) - 1 < (l.length : Int) := by omega
      have j3 : ((l.length : Int) - 1).toNat = l.length - 1 := by omega
      have j4 : (0 : Int) ≤ (k : Int) := by omega
      have j6 : l ≠ [] := List.ne_nil_of_length_pos (by omega)
      have j7 : 0 < l.length := by omega
      have j5 : (k : Int) < (l.length : Int) := by omega
      go_wp2_with fail
      go_region_held3 (fun W => W.cell? ⟨b, off, none⟩ = some (.int .i64 s0) ∧ W.cell? ⟨b, off + (l.length - 1) * 2, none⟩ = some (.int .i64 s9) ∧ W.cell? ⟨b, off + k * 2, none⟩ = some (.int .i64 x) ∧ W.cell? ⟨b, off + k * 2 + 1, none⟩ = some (.int .i64 y)) (first | exact ⟨q0, q9, q1, q2⟩ | go_keep) (first
        | (refine step_app_new [.int .i64 (s0 + s9 - x), .int .i64 y] (.tmp 16) (.tmp 41) 24 38 rfl rfl Try.underlying24 notes_inf rfl (Nat.succ_pos 1) rfl rfl hownC hlo (Nat.succ_pos 0) rfl o1 hl2 (Nat.le_of_ble_eq_true rfl) ?_; intro B' d' w2 hown2 hb2; have q0 := (hb2.cell (p := ⟨b, off, none⟩) hblt).trans c0; have q9 := (hb2.cell (p := ⟨b, off + (l.length - 1) * 2, none⟩) hblt).trans c9; have q1 := (hb2.cell (p := ⟨b, off + k * 2, none⟩) hblt).trans c1; have q2 := (hb2.cell (p := ⟨b, off + k * 2 + 1, none⟩) hblt).trans c2))
      have hown3 : OwnP 38 w.heap.size w2.heap.size w2 B' d' (L ++ [(s0 + s9 - x, y)]) := by
        have h := hown2
        rw [show [Value.int .i64 (s0 + s9 - x), .int .i64 y] = pcells [(s0 + s9 - x, y)] from rfl, ← pcells_append] at h
        exact OwnC.p (by rw [List.length_append]; exact h) (by rw [List.length_append]; show L.length + 1 ≤ _; omega)
      clear hown2 hownC o1 E1 E2 E3 j0 j1 j2 j3 j4 j5 j6 j7 q0 q9 q1 q2 c0 c9 c1 c2
      go_wp2
      go_roundw
      case rel => exact ⟨k + 1, B', d', L ++ [(s0 + s9 - x, y)], by omega, by go_num, by show _ = _; rw [hnx'.out, ← hL.out]; rfl, by rw [List.length_append]; rfl, hown3, hbel.trans hb2⟩
      case measure => simp [intOf]; omega
    · obtain rfl : k = l.length := by omega
      have hLM : L = M := by rw [hL.out, List.take_of_length_le (by rw [hMl.out]; exact Nat.le_refl _)]
      subst hLM
      have hO := Lib.hid (spec_SortNotes (c := d) hown.reads)
      clear hL hnx
      go_wp2_with fail
      refine hO.out.mono ?_
      rintro e w2 ⟨B', d', rfl, O, hq⟩
      go_wp2
      go_ret
      rw [hT.out]
      exact ⟨_, _, rfl, O.lo_mono hbel.size, bthen hbel hq⟩
theorem impl_Backward1 {x y n : Int} {p : Addr} {W : World} (hc : W.cell? p = some (.int .i64 n)) (h1 : -1000 ≤ x) (h2 : x ≤ 1000) (h5 : -2000 ≤ n) (h6 : n ≤ 2000) :
    Calls Try.prog 67 #[.agg #[.int .i64 x, .int .i64 y], .pointer (some p)] W fun e w' => e = .returned (.agg #[.int .i64 (n - x), .int .i64 y]) ∧ Below W.heap.size W w' := by
  have hp := cell_later hc (bnew (bnew (Below.refl W.heap.size W) (.cells #[.int .i64 x, .int .i64 y] 38)) (.cells #[.int .i64 0, .int .i64 0] 38))
  go_enter Try.func67, Try.ntmps67
  go_wp2
  refine bodyPost_ret (v := .agg #[.int .i64 (n - x), .int .i64 y]) (by simp [results, Try.results67, go_sem]) rfl ⟨rfl, ?_⟩
  exact bnew (bnew (Below.refl _ _) _) _
set_option maxHeartbeats 1000000 in
theorem impl_Backward {l : List (Int × Int)} {A : Option Addr} {c : Nat} {w : World} (h : RP w A l) :
    Calls Try.prog 29 #[.slice A l.length c] w fun e w' => ∃ B d, e = .returned (.slice B (backM l).length d) ∧ OwnP 38 w.heap.size w'.heap.size w' B d (backM l) ∧ Below w.heap.size w w' := by
  have H := Lib.hid h
  obtain ⟨hn, hA⟩ := h
  have HA := Lib.hid hA; clear hA
  go_enter Try.func29, Try.ntmps29
  go_wp2_with fail
  refine (impl_TuneOk H.out).mono ?_
  rintro e w1 ⟨rfl, hbel⟩
  cases g : tuneOk l
  · have hT := Lib.hid (back_no (l := l) (by rw [g]; simp))
    go_wp2
    go_ret
    rw [hT.out]
    exact ⟨_, _, rfl, OwnP.nil _ _ (Nat.le_refl _), hbel⟩
  by_cases h0 : l.length = 0
  · have hT := Lib.hid (back_no (l := l) (by rw [h0]; simp))
    have hs0 : ((l.length : Int) == 0) = true := by simp [h0]
    clear h0
    go_wp2
    go_ret
    rw [hT.out]
    exact ⟨_, _, rfl, OwnP.nil _ _ (Nat.le_refl _), hbel⟩
  have hs0 : ((l.length : Int) == 0) = false := beq_eq_false_iff_ne.2 (by omega)
  have hT := Lib.hid (back_yes g h0)
  have hM := Lib.hid (moved_yes (b := true) (f := backF (sumM l)) g rfl (back_ok g h0))
  have hrg := Lib.hid (fun k t u hk e => tuneOk_range (l := l) g (k := k) (t := t) (u := u) hk e)
  obtain ⟨b, off, rfl, hP⟩ := HA.out (by omega)
  have HP := Lib.hid hP; clear hP
  obtain ⟨s0, u0, e0⟩ := pair_of l 0
  obtain ⟨s9, u9, e9⟩ := pair_of l (l.length - 1)
  have hk0 := Lib.hid (show 0 < l.length by omega)
  have hk9 := Lib.hid (show l.length - 1 < l.length by omega)
  obtain ⟨⟨a1, a2⟩, _, _⟩ := hrg.out 0 s0 u0 hk0.out e0
  obtain ⟨⟨a3, a4⟩, _, _⟩ := hrg.out _ s9 u9 hk9.out e9
  have hsum : Hid (sumM l = s0 + s9) := by show _ = _; unfold sumM; rw [e0.out, e9.out]
  have hcall := fun W p hW hc => @impl_changed l (some ⟨b, off, none⟩) c W true 67 #[.pointer (some p)] (backF (sumM l)) (H.out.below hW) (enters_of Try.func67 (by kernel_rfl) rfl)
    (fun g hb W' x y k hW' hk e => by
      obtain ⟨⟨x1, x2⟩, y1, y2⟩ := tuneOk_range g hk e
      have := impl_Backward1 (x := x) (y := y) (n := s0 + s9) (p := p) (W := W') (cell_later hc hW') (by omega) (by omega) (by omega) (by omega)
      unfold backF
      rw [hsum.out]
      exact this)
  rw [hM.out.1, hM.out.2] at hcall
  have HC := Lib.hid hcall; clear hcall
  rw [← hT.out] at HC
  have c0 := HP.out.w1 hbel hk0.out e0
  have c9 := HP.out.c1 hbel hk9.out e9
  have E1 : IntKind.i64.wrap (s0 + s9) = s0 + s9 := wrap_small (by omega) (by omega)
  have E3 : IntKind.i64.wrap ((l.length : Int) - 1) = (l.length : Int) - 1 := wrap_small (by omega) (by omega)
  have j0 : (0 : Int) < (l.length : Int) := by omega
  have j1 : (0 : Int) ≤ (l.length : Int) - 1 := by omega
  have j2 : (l.length : Int) - 1 < (l.length : Int) := by omega
  have j3 : ((l.length : Int) - 1).toNat = l.length - 1 := by omega
  have j6 : l ≠ [] := List.ne_nil_of_length_pos (by omega)
  have j7 : 0 < l.length := by omega
  have hpos : 1 ≤ (l.length : Int) := by omega
  have n0 := World.new_ne w1 ⟨b, off, none⟩ c0
  have n9 := World.new_ne w1 ⟨b, off + (l.length - 1) * 2, none⟩ c9
  go_wp2_with fail
  go_region_held3 (fun W => W.cell? ⟨b, off, none⟩ = some (.int .i64 s0) ∧ W.cell? ⟨b, off + (l.length - 1) * 2, none⟩ = some (.int .i64 s9)) (go_keep) (fail)
  all_goals
    clear j0 j1 j2 j3 j6 j7 n0 n9 E1 E3 c0 c9
    have hW := (bnew hbel (.cells #[.int .i64 (s0 + s9)] 3)).drew
    have hc : ((w1.alloc (.cells #[.int .i64 (s0 + s9)] 3)).drew).cell? ⟨w1.heap.size, 0, none⟩ = some (.int .i64 (s0 + s9)) := cell_of_row _ _ 0 _ _ _ (heap_alloc_new w1 _)
    have hcc := Lib.hid (HC.out _ _ hW hc)
    have hWW := Lib.hid hW
    clear hW hc
    go_wp2_with fail
    refine hcc.out.mono ?_
    rintro e w2 ⟨B, d, rfl, O, hq⟩
    go_wp2
    go_ret
    exact ⟨_, _, rfl, O.lo_mono hWW.out.size, bthen hWW.out hq⟩
end Go.Proofs.Ytkipgjllgmjipaa
