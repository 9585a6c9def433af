/- UpsideDown: what the reference's and the program's answer. -/
import Derived.Test.YtkipgjllgmjipaaBack
import Derived.Test.YtkipgjllgmjipaaTuneS
namespace Go.Proofs.Ytkipgjllgmjipaa
open Go.RowKit
set_option linter.unusedVariables false

/-! ## Plain notions -/
def upF (s : Int) (p : Int × Int) : Int × Int := (p.1, s - p.2)
def upM (l : List (Int × Int)) : List (Int × Int) := if tuneOk l = true ∧ ¬ l.length = 0 then sortU (l.map (upF (lowM l + highM l))) else []
theorem lowTo_bounds {l : List (Int × Int)} (h : ∀ j, j < l.length → 0 ≤ (l.getD j (0, 0)).2 ∧ (l.getD j (0, 0)).2 ≤ 60) (h0 : 0 < l.length) : ∀ n, n ≤ l.length → 0 ≤ lowTo l n ∧ highTo l n ≤ 60 ∧ ∀ j, j < n → lowTo l n ≤ (l.getD j (0, 0)).2 ∧ (l.getD j (0, 0)).2 ≤ highTo l n
  | 0, _ => ⟨(h 0 h0).1, (h 0 h0).2, fun j hj => absurd hj (by omega)⟩
  | n + 1, hn => by
    obtain ⟨h1, h2, h3⟩ := lowTo_bounds h h0 n (by omega)
    obtain ⟨h4, h5⟩ := h n (by omega)
    have e1 : lowTo l (n + 1) = min (lowTo l n) (l.getD n (0, 0)).2 := rfl
    have e2 : highTo l (n + 1) = max (highTo l n) (l.getD n (0, 0)).2 := rfl
    rw [e1, e2]
    refine ⟨by omega, by omega, fun j hj => ?_⟩
    rcases Nat.lt_or_ge j n with hlt | hge
    · obtain ⟨h6, h7⟩ := h3 j hlt
      omega
    · have : j = n := by omega
      subst this; omega
theorem range_in {l : List (Int × Int)} (h : tuneOk l = true) (h0 : ¬ l.length = 0) : 0 ≤ lowM l ∧ highM l ≤ 60 ∧ lowM l ≤ highM l ∧ ∀ j, j < l.length → lowM l ≤ (l.getD j (0, 0)).2 ∧ (l.getD j (0, 0)).2 ≤ highM l := by
  obtain ⟨e1, e2⟩ := range_yes h (by omega)
  obtain ⟨h1, h2, h3⟩ := lowTo_bounds (l := l) (fun j hj => (tuneOk_mem h (mem_getD.1 ⟨j, hj, rfl⟩)).2) (by omega) l.length (Nat.le_refl _)
  rw [e1, e2]
  have := h3 0 (by omega)
  exact ⟨h1, h2, by omega, h3⟩
theorem up_ok {l : List (Int × Int)} (h : tuneOk l = true) (h0 : ¬ l.length = 0) : tuneOk (sortU (l.map (upF (lowM l + highM l)))) = true := by
  have h40 := (tuneOk_parts h).1
  obtain ⟨r1, r2, _, r3⟩ := range_in h h0
  refine tuneOk_of ?_ (sortU_si _) fun p hp => ?_
  · have := length_sortTo (l.map (upF (lowM l + highM l))) (l.map (upF (lowM l + highM l))).length
    unfold sortU
    rw [List.length_map] at *
    omega
  · rw [mem_sortU] at hp
    obtain ⟨q, hq, rfl⟩ := List.mem_map.1 hp
    obtain ⟨j, hj, hqe⟩ := mem_getD.2 hq
    have h5 := tuneOk_mem h hq
    have h6 := r3 j hj
    rw [hqe] at h6
    unfold upF
    simp only
    omega
theorem up_no {l : List (Int × Int)} (h : ¬ (tuneOk l = true ∧ ¬ l.length = 0)) : upM l = [] := if_neg h
theorem up_yes {l : List (Int × Int)} (h : tuneOk l = true) (h0 : ¬ l.length = 0) : upM l = sortU (l.map (upF (lowM l + highM l))) := if_pos ⟨h, h0⟩
set_option maxHeartbeats 2000000 in
theorem spec_UpsideDown {l : List (Int × Int)} {A : Option Addr} {c : Nat} {w : World} (h : RP w A l) :
    Calls Try.prog 30 #[.slice A l.length c] w fun e w' => ∃ B d, e = .returned (.slice B (upM l).length d) ∧ OwnP 38 w.heap.size w'.heap.size w' B d (upM l) ∧ Below w.heap.size w w' := by
  have H := Lib.hid h
  obtain ⟨hn, hA⟩ := h
  have HA := Lib.hid hA; clear hA
  by_cases hno : ¬ (tuneOk l = true ∧ ¬ l.length = 0)
  · have hT := Lib.hid (up_no hno)
    have hs0 : Hid (sortN [] = []) := rfl
    have hlow : lowM l = -1 := (range_no (fun h => hno ⟨h.1, by omega⟩)).1
    have hlt0 : ¬ 0 ≤ lowM l := by omega
    clear hno hlow
    go_enter Try.func30, Try.ntmps30
    go_wp2_with fail
    refine (spec_PitchRange (H.out.below (bnew (Below.refl _ _) _))).mono ?_
    rintro e w1 ⟨rfl, hq⟩
    have hbw := bthen (bnew (Below.refl _ _) _) hq
    have hown0 := (own_emptyP (W := w) 38).below hq (by simp)
    have hown1 := hown0.hi_mono (Nat.le_trans (by simp) hq.size) (Nat.le_refl _)
    clear hq hown0
    generalize lowM l = low at *
    generalize highM l = high at *
    go_wp2
    go_loopw [3, 6] (fun v i wr => i = .int .i64 0 ∧ v = .slice (some ⟨w.heap.size, 0, none⟩) 0 0 ∧ OwnP 38 w.heap.size wr.heap.size wr (some ⟨w.heap.size, 0, none⟩) 0 [] ∧ Below w.heap.size w wr) (fun _ i _ => l.length - (intOf i).toNat)
    case atStart => exact ⟨rfl, rfl, hown1, hbw⟩
    case round =>
      clear hown1 hbw
      obtain ⟨rfl, rfl, hown, hbel⟩ := hrel
      have hO := Lib.hid (spec_SortNotes (c := 0) hown.reads)
      by_cases h0 : 0 < l.length
      all_goals
        go_wp2_with fail
        refine hO.out.mono ?_
        rintro e w2 ⟨B, d, rfl, O, hq⟩
        go_wp2
        go_ret
        rw [hT.out]
        rw [hs0.out] at O
        exact ⟨_, _, rfl, O.lo_mono hbel.size, bthen hbel hq⟩
  have g : tuneOk l = true := (Classical.not_not.1 hno).1
  have h0 : ¬ l.length = 0 := (Classical.not_not.1 hno).2
  clear hno
  have hT := Lib.hid ((up_yes g h0).trans (sortN_map (f := upF (lowM l + highM l)) (tuneOk_parts g).1).symm)
  have hrg := Lib.hid (fun k t u hk e => tuneOk_range (l := l) g (k := k) (t := t) (u := u) hk e)
  have h40 := (tuneOk_parts g).1
  obtain ⟨r1, r2, r3, _⟩ := range_in g h0
  have hnx := Lib.hid (fun k x y hk e => map_take (l := l) (f := upF (lowM l + highM l)) (k := k) (x := x) (y := y) hk e)
  have hMl : Hid ((l.map (upF (lowM l + highM l))).length = l.length) := by simp [Hid]
  clear h0
  go_enter Try.func30, Try.ntmps30
  go_wp2_with fail
  refine (spec_PitchRange (H.out.below (bnew (Below.refl _ _) _))).mono ?_
  rintro e w1 ⟨rfl, hq⟩
  have hbw := bthen (bnew (Below.refl _ _) _) hq
  have hown0 := (own_emptyP (W := w) 38).below hq (by simp)
  have hown1 := hown0.hi_mono (Nat.le_trans (by simp) hq.size) (Nat.le_refl _)
  clear hq hown0
  generalize lowM l = low at *
  generalize highM l = high at *
  generalize l.map (upF (low + high)) = M at *
  go_wp2
  go_loopw [3, 6] (fun v i wr => ∃ (k : Nat) (B : Option Addr) (d : Nat) (L : List (Int × Int)), k ≤ l.length ∧ i = .int .i64 k ∧ Hid (L = M.take k) ∧ v = .slice B L.length d ∧ OwnP 38 w.heap.size wr.heap.size wr B d L ∧ Below w.heap.size w wr) (fun _ i _ => l.length - (intOf i).toNat)
  case atStart => exact ⟨0, _, _, [], Nat.zero_le _, rfl, rfl, rfl, hown1, hbw⟩
  case round =>
    clear hown1 hbw
    obtain ⟨k, B, d, L, hk, rfl, hL, rfl, hown, hbel⟩ := hrel
    have hLk : L.length ≤ k := by rw [hL.out, List.length_take]; omega
    by_cases hlt : k < l.length
    · obtain ⟨b, off, rfl, hP⟩ := HA.out (by omega)
      have HP := Lib.hid hP; clear hP
      obtain ⟨x, y, e1⟩ := pair_of l k
      obtain ⟨⟨x1, x2⟩, y1, y2⟩ := hrg.out k x y hlt e1
      have hnx' := Lib.hid (hnx.out k x y hlt e1)
      have c1 := HP.out.c1 hbel hlt e1
      have c2 := HP.out.c2 hbel hlt e1
      have hlo := hbel.size
      have hownC := hown.c
      have hl2 : L.length + 1 ≤ 4194304 := by omega
      have o1 : ∀ u ∈ [Value.int .i64 x, .int .i64 (low + high - y)], u.oneCell' = true := by simp [Value.oneCell']
      have hblt := HP.out.1
      have E1 : IntKind.i64.wrap (low + high) = low + high := wrap_small (by omega) (by omega)
      have E2 : IntKind.i64.wrap (low + high - y) = low + high - y := wrap_small (by omega) (by omega)
      have j4 : (0 : Int) ≤ (k : Int) := by omega
      have j5 : (k : Int) < (l.length : Int) := by omega
      go_wp2_with fail
      go_region_held3 (fun W => W.cell? ⟨b, off + k * 2, none⟩ = some (.int .i64 x) ∧ W.cell? ⟨b, off + k * 2 + 1, none⟩ = some (.int .i64 y)) (first | exact ⟨q1, q2⟩ | go_keep) (first
        | (refine step_app_new [.int .i64 x, .int .i64 (low + high - y)] (.tmp 23) (.tmp 39) 24 38 rfl rfl Try.underlying24 notes_inf rfl (Nat.succ_pos 1) rfl rfl hownC hlo (Nat.succ_pos 0) rfl o1 hl2 (Nat.le_of_ble_eq_true rfl) ?_; intro B' d' w2 hown2 hb2; have q1 := (hb2.cell (p := ⟨b, off + k * 2, none⟩) hblt).trans c1; have q2 := (hb2.cell (p := ⟨b, off + k * 2 + 1, none⟩) hblt).trans c2))
      have hown3 : OwnP 38 w.heap.size w2.heap.size w2 B' d' (L ++ [(x, low + high - y)]) := by
        have h := hown2
        rw [show [Value.int .i64 x, .int .i64 (low + high - y)] = pcells [(x, low + high - y)] from rfl, ← pcells_append] at h
        exact OwnC.p (by rw [List.length_append]; exact h) (by rw [List.length_append]; show L.length + 1 ≤ _; omega)
      clear hown2 hownC o1 E1 E2 j4 j5 q1 q2 c1 c2
      go_wp2
      go_roundw
      case rel => exact ⟨k + 1, B', d', L ++ [(x, low + high - y)], by omega, by go_num, by show _ = _; rw [hnx'.out, ← hL.out]; rfl, by rw [List.length_append]; rfl, hown3, hbel.trans hb2⟩
      case measure => simp [intOf]; omega
    · obtain rfl : k = l.length := by omega
      have hLM : L = M := by rw [hL.out, List.take_of_length_le (by rw [hMl.out]; exact Nat.le_refl _)]
      subst hLM
      have hO := Lib.hid (spec_SortNotes (c := d) hown.reads)
      clear hL hnx
      go_wp2_with fail
      refine hO.out.mono ?_
      rintro e w2 ⟨B', d', rfl, O, hq⟩
      go_wp2
      go_ret
      rw [hT.out]
      exact ⟨_, _, rfl, O.lo_mono hbel.size, bthen hbel hq⟩
theorem impl_UpsideDown1 {x y n m : Int} {p q : Addr} {W : World} (hc : W.cell? p = some (.int .i64 n)) (hd : W.cell? q = some (.int .i64 m)) (h3 : -1000 ≤ y) (h4 : y ≤ 1000) (h5 : -1000 ≤ n) (h6 : n ≤ 1000) (h7 : -1000 ≤ m) (h8 : m ≤ 1000) :
    Calls Try.prog 70 #[.agg #[.int .i64 x, .int .i64 y], .pointer (some p), .pointer (some q)] W fun e w' => e = .returned (.agg #[.int .i64 x, .int .i64 (n + m - y)]) ∧ Below W.heap.size W w' := by
  have hb := bnew (bnew (Below.refl W.heap.size W) (.cells #[.int .i64 x, .int .i64 y] 38)) (.cells #[.int .i64 0, .int .i64 0] 38)
  have hp := cell_later hc hb
  have hq := cell_later hd hb
  clear hb
  go_enter Try.func70, Try.ntmps70
  go_wp2
  refine bodyPost_ret (v := .agg #[.int .i64 x, .int .i64 (n + m - y)]) (by simp [results, Try.results70, go_sem]) rfl ⟨rfl, ?_⟩
  exact bnew (bnew (Below.refl _ _) _) _
set_option maxHeartbeats 1000000 in
theorem impl_UpsideDown {l : List (Int × Int)} {A : Option Addr} {c : Nat} {w : World} (h : RP w A l) :
    Calls Try.prog 31 #[.slice A l.length c] w fun e w' => ∃ B d, e = .returned (.slice B (upM l).length d) ∧ OwnP 38 w.heap.size w'.heap.size w' B d (upM l) ∧ Below w.heap.size w w' := by
  have H := Lib.hid h
  clear h
  go_enter Try.func31, Try.ntmps31
  go_wp2_with fail
  refine (impl_TuneOk H.out).mono ?_
  rintro e w1 ⟨rfl, hbel⟩
  cases g : tuneOk l
  · have hT := Lib.hid (up_no (l := l) (by rw [g]; simp))
    go_wp2
    go_ret
    rw [hT.out]
    exact ⟨_, _, rfl, OwnP.nil _ _ (Nat.le_refl _), hbel⟩
  by_cases h0 : l.length = 0
  · have hT := Lib.hid (up_no (l := l) (by rw [h0]; simp))
    have hs0 : ((l.length : Int) == 0) = true := by simp [h0]
    clear h0
    go_wp2
    go_ret
    rw [hT.out]
    exact ⟨_, _, rfl, OwnP.nil _ _ (Nat.le_refl _), hbel⟩
  have hs0 : ((l.length : Int) == 0) = false := beq_eq_false_iff_ne.2 (by omega)
  have hT := Lib.hid (up_yes g h0)
  have hM := Lib.hid (moved_yes (b := true) (f := upF (lowM l + highM l)) g rfl (up_ok g h0))
  obtain ⟨r1, r2, r3, _⟩ := range_in g h0
  have hcall := fun W p q hW hc hd => @impl_changed l A c W true 70 #[.pointer (some p), .pointer (some q)] (upF (lowM l + highM l)) (H.out.below hW) (enters_of Try.func70 (by kernel_rfl) rfl)
    (fun g hb W' x y k hW' hk e => by
      obtain ⟨⟨x1, x2⟩, y1, y2⟩ := tuneOk_range g hk e
      exact impl_UpsideDown1 (x := x) (y := y) (n := lowM l) (m := highM l) (p := p) (q := q) (W := W') (cell_later hc hW') (cell_later hd hW') (by omega) (by omega) (by omega) (by omega) (by omega) (by omega))
  rw [hM.out.1, hM.out.2, ← hT.out] at hcall
  have HC := Lib.hid hcall; clear hcall hM hT
  clear h0
  go_wp2_with fail
  refine (impl_PitchRange (H.out.below hbel)).mono ?_
  rintro e w2 ⟨rfl, hq⟩
  replace hbel := bthen hbel hq
  clear hq
  go_wp2_with fail
  have hW := bnew (bnew hbel (.cells #[.int .i64 (lowM l)] 3)) (.cells #[.int .i64 (highM l)] 3)
  have hc : ((w2.alloc (.cells #[.int .i64 (lowM l)] 3)).alloc (.cells #[.int .i64 (highM l)] 3)).cell? ⟨w2.heap.size, 0, none⟩ = some (.int .i64 (lowM l)) := cell_later (cell_of_row _ _ 0 _ _ _ (heap_alloc_new w2 _)) (bnew (Below.refl _ _) _)
  have hd : ((w2.alloc (.cells #[.int .i64 (lowM l)] 3)).alloc (.cells #[.int .i64 (highM l)] 3)).cell? ⟨w2.heap.size + 1, 0, none⟩ = some (.int .i64 (highM l)) := by
    simp
  refine (HC.out _ _ _ hW hc hd).mono ?_
  rintro e w3 ⟨B, d, rfl, O, hq⟩
  go_wp2
  go_ret
  exact ⟨_, _, rfl, O.lo_mono hW.size, bthen hW hq⟩
end Go.Proofs.Ytkipgjllgmjipaa
