/- UpsideDown: what the reference's and the program's answer. -/
import Derived.Test.YtnopolbfhhaomaaBack
import Derived.Test.YtnopolbfhhaomaaTuneS
namespace Go.Proofs.Ytnopolbfhhaomaa
open Go.RowKit
set_option linter.unusedVariables false

/-! ## Plain notions -/
def upF (s : Int) (p : Int × Int) : Int × Int := (p.1, s - p.2)
def upM (l : List (Int × Int)) : List (Int × Int) := if tuneOk l = true ∧ ¬ l.length = 0 then sortU (l.map (upF (lowM l + highM l))) else []
theorem lowTo_bounds {l : List (Int × Int)} (h : ∀ j, j < l.length → 0 ≤ (l.getD j (0, 0)).2 ∧ (l.getD j (0, 0)).2 ≤ 60) (h0 : 0 < l.length) : ∀ n, n ≤ l.length → 0 ≤ lowTo l n ∧ highTo l n ≤ 60 ∧ ∀ j, j < n → lowTo l n ≤ (l.getD j (0, 0)).2 ∧ (l.getD j (0, 0)).2 ≤ highTo l n
  | 0, _ => ⟨(h 0 h0).1, (h 0 h0).2, fun j hj => absurd hj (by omega)⟩
  | n + 1, hn => by
    obtain ⟨h1, h2, h3⟩ := lowTo_bounds h h0 n (by omega)
    obtain ⟨h4, h5⟩ := h n (by omega)
    have e1 : lowTo l (n + 1) = min (lowTo l n) (l.getD n (0, 0)).2 := rfl
    have e2 : highTo l (n + 1) = max (highTo l n) (l.getD n (0, 0)).2 := rfl
    rw [e1, e2]
    refine ⟨by omega, by omega, fun j hj => ?_⟩
    rcases Nat.lt_or_ge j n with hlt | hge
    · obtain ⟨h6, h7⟩ := h3 j hlt
      omega
    · have : j = n := by omega
      subst this; omega
theorem range_in {l : List (Int × Int)} (h : tuneOk l = true) (h0 : ¬ l.length = 0) : 0 ≤ lowM l ∧ highM l ≤ 60 ∧ lowM l ≤ highM l ∧ ∀ j, j < l.length → lowM l ≤ (l.getD j (0, 0)).2 ∧ (l.getD j (0, 0)).2 ≤ highM l := by
  obtain ⟨e1, e2⟩ := range_yes h (by omega)
  obtain ⟨h1, h2, h3⟩ := lowTo_bounds (l := l) (fun j hj => (tuneOk_mem h (mem_getD.1 ⟨j, hj, rfl⟩)).2) (by omega) l.length (Nat.le_refl _)
  rw [e1, e2]
  have := h3 0 (by omega)
  exact ⟨h1, h2, by omega, h3⟩
theorem up_ok {l : List (Int × Int)} (h : tuneOk l = true) (h0 : ¬ l.length = 0) : tuneOk (sortU (l.map (upF (lowM l + highM l)))) = true := by
  have h40 := (tuneOk_parts h).1
  obtain ⟨r1, r2, _, r3⟩ := range_in h h0
  refine tuneOk_of ?_ (sortU_si _) fun p hp => ?_
  · have := length_sortTo (l.map (upF (lowM l + highM l))) (l.map (upF (lowM l + highM l))).length
    unfold sortU
    rw [List.length_map] at *
    omega
  · rw [mem_sortU] at hp
    obtain ⟨q, hq, rfl⟩ := List.mem_map.1 hp
    obtain ⟨j, hj, hqe⟩ := mem_getD.2 hq
    have h5 := tuneOk_mem h hq
    have h6 := r3 j hj
    rw [hqe] at h6
    unfold upF
    simp only
    omega
theorem up_no {l : List (Int × Int)} (h : ¬ (tuneOk l = true ∧ ¬ l.length = 0)) : upM l = [] := if_neg h
theorem up_yes {l : List (Int × Int)} (h : tuneOk l = true) (h0 : ¬ l.length = 0) : upM l = sortU (l.map (upF (lowM l + highM l))) := if_pos ⟨h, h0⟩
theorem impl_UpsideDown1 {x y n m : Int} {p q : Addr} {W : World} (hc : W.cell? p = some (.int .i64 n)) (hd : W.cell? q = some (.int .i64 m)) (h3 : -1000 ≤ y) (h4 : y ≤ 1000) (h5 : -1000 ≤ n) (h6 : n ≤ 1000) (h7 : -1000 ≤ m) (h8 : m ≤ 1000) :
    Calls Try.prog 25 #[.agg #[.int .i64 x, .int .i64 y], .pointer (some p), .pointer (some q)] W fun e w' => e = .returned (.agg #[.int .i64 x, .int .i64 (n + m - y)]) ∧ Below W.heap.size W w' := by
  have hb := bnew (bnew (Below.refl W.heap.size W) (.cells #[.int .i64 x, .int .i64 y] 34)) (.cells #[.int .i64 0, .int .i64 0] 34)
  have hp := cell_later hc hb
  have hq := cell_later hd hb
  clear hb
  go_enter Try.func25, Try.ntmps25
  go_wp2
  refine bodyPost_ret (v := .agg #[.int .i64 x, .int .i64 (n + m - y)]) (by simp [results, Try.results25, go_sem]) rfl ⟨rfl, ?_⟩
  exact bnew (bnew (Below.refl _ _) _) _
set_option maxHeartbeats 1000000 in
theorem impl_UpsideDown {l : List (Int × Int)} {A : Option Addr} {c : Nat} {w : World} (h : RP w A l) :
    Calls Try.prog 10 #[.slice A l.length c] w fun e w' => ∃ B d, e = .returned (.slice B (upM l).length d) ∧ OwnP 34 w.heap.size w'.heap.size w' B d (upM l) ∧ Below w.heap.size w w' := by
  have H := Lib.hid h
  clear h
  go_enter Try.func10, Try.ntmps10
  go_wp2_with fail
  refine (impl_TuneOk H.out).mono ?_
  rintro e w1 ⟨rfl, hbel⟩
  cases g : tuneOk l
  · have hT := Lib.hid (up_no (l := l) (by rw [g]; simp))
    go_wp2
    go_ret
    rw [hT.out]
    exact ⟨_, _, rfl, OwnP.nil _ _ (Nat.le_refl _), hbel⟩
  by_cases h0 : l.length = 0
  · have hT := Lib.hid (up_no (l := l) (by rw [h0]; simp))
    have hs0 : ((l.length : Int) == 0) = true := by simp [h0]
    clear h0
    go_wp2
    go_ret
    rw [hT.out]
    exact ⟨_, _, rfl, OwnP.nil _ _ (Nat.le_refl _), hbel⟩
  have hs0 : ((l.length : Int) == 0) = false := beq_eq_false_iff_ne.2 (by omega)
  have hT := Lib.hid (up_yes g h0)
  have hM := Lib.hid (moved_yes (b := true) (f := upF (lowM l + highM l)) g rfl (up_ok g h0))
  obtain ⟨r1, r2, r3, _⟩ := range_in g h0
  have hcall := fun W p q hW hc hd => @impl_changed l A c W true 25 #[.pointer (some p), .pointer (some q)] (upF (lowM l + highM l)) (H.out.below hW) (enters_of Try.func25 (by kernel_rfl) rfl)
    (fun g hb W' x y k hW' hk e => by
      obtain ⟨⟨x1, x2⟩, y1, y2⟩ := tuneOk_range g hk e
      exact impl_UpsideDown1 (x := x) (y := y) (n := lowM l) (m := highM l) (p := p) (q := q) (W := W') (cell_later hc hW') (cell_later hd hW') (by omega) (by omega) (by omega) (by omega) (by omega) (by omega))
  rw [hM.out.1, hM.out.2, ← hT.out] at hcall
  have HC := Lib.hid hcall; clear hcall hM hT
  clear h0
  go_wp2_with fail
  refine (impl_PitchRange (H.out.below hbel)).mono ?_
  rintro e w2 ⟨rfl, hq⟩
  replace hbel := bthen hbel hq
  clear hq
  go_wp2_with fail
  have hW := bnew (bnew hbel (.cells #[.int .i64 (lowM l)] 3)) (.cells #[.int .i64 (highM l)] 3)
  have hc : ((w2.alloc (.cells #[.int .i64 (lowM l)] 3)).alloc (.cells #[.int .i64 (highM l)] 3)).cell? ⟨w2.heap.size, 0, none⟩ = some (.int .i64 (lowM l)) := cell_later (cell_of_row _ _ 0 _ _ _ (heap_alloc_new w2 _)) (bnew (Below.refl _ _) _)
  have hd : ((w2.alloc (.cells #[.int .i64 (lowM l)] 3)).alloc (.cells #[.int .i64 (highM l)] 3)).cell? ⟨w2.heap.size + 1, 0, none⟩ = some (.int .i64 (highM l)) := by
    simp
  refine (HC.out _ _ _ hW hc hd).mono ?_
  rintro e w3 ⟨B, d, rfl, O, hq⟩
  go_wp2
  go_ret
  exact ⟨_, _, rfl, O.lo_mono hW.size, bthen hW hq⟩
end Go.Proofs.Ytnopolbfhhaomaa
