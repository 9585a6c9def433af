/- sorted, changed and l03Move: what they answer. -/
import Derived.Test.YtkipgjllgmjipaaCmpt
import Derived.Test.YtkipgjllgmjipaaTuneR
import Derived.Deep.RegionHeld3
namespace Go.Proofs.Ytkipgjllgmjipaa
open Go.RowKit

/-! ## Plain notions -/
theorem okAt_parts {l : List (Int × Int)} {k : Nat} (h : okAt l k = true) : inR (l.getD k (0, 0)).1 0 1000 = true ∧ inR (l.getD k (0, 0)).2 0 60 = true ∧ (k = 0 ∨ lt2 (l.getD (k - 1) (0, 0)) (l.getD k (0, 0))) := by
  unfold okAt at h
  simp only [Bool.and_eq_true, Bool.or_eq_true, beq_iff_eq] at h
  refine ⟨h.1.1, h.1.2, ?_⟩
  rcases h.2 with h | h
  · exact .inl h
  · exact .inr (less2_true h)
theorem tuneOk_parts {l : List (Int × Int)} (h : tuneOk l = true) : l.length ≤ 40 ∧ ∀ k, k < l.length → okAt l k = true := by
  unfold tuneOk at h
  simp only [Bool.and_eq_true, decide_eq_true_eq, List.all_eq_true, List.mem_range] at h
  exact h
theorem getD_get {l : List (Int × Int)} {k : Nat} (h : k < l.length) : l.getD k (0, 0) = l[k] := by
  rw [List.getD_eq_getElem?_getD, List.getElem?_eq_getElem h]; rfl
theorem tuneOk_si {l : List (Int × Int)} (h : tuneOk l = true) : SI l := by
  obtain ⟨_, h2⟩ := tuneOk_parts h
  have key : ∀ i d, i + d + 1 < l.length → lt2 (l.getD i (0, 0)) (l.getD (i + d + 1) (0, 0)) := by
    intro i d
    induction d with
    | zero =>
      intro hd
      rcases (okAt_parts (h2 (i + 1) (by omega))).2.2 with e | e
      · omega
      · rw [show i + 1 - 1 = i by omega] at e; exact e
    | succ d ih =>
      intro hd
      refine lt2_trans (ih (by omega)) ?_
      rcases (okAt_parts (h2 (i + (d + 1) + 1) (by omega))).2.2 with e | e
      · omega
      · rw [show i + (d + 1) + 1 - 1 = i + d + 1 by omega] at e; exact e
  refine List.pairwise_iff_getElem.2 fun i j hi hj hij => ?_
  have := key i (j - i - 1) (by omega)
  rw [show i + (j - i - 1) + 1 = j by omega, getD_get hi, getD_get hj] at this
  exact this
theorem tuneOk_mem {l : List (Int × Int)} (h : tuneOk l = true) {p : Int × Int} (hp : p ∈ l) : (0 ≤ p.1 ∧ p.1 ≤ 1000) ∧ 0 ≤ p.2 ∧ p.2 ≤ 60 := by
  obtain ⟨j, h1, h2⟩ := mem_getD.2 hp
  have := okAt_parts ((tuneOk_parts h).2 j h1)
  rw [h2] at this
  exact ⟨inR_true this.1, inR_true this.2.1⟩
theorem tuneOk_of {l : List (Int × Int)} (h1 : l.length ≤ 40) (h2 : SI l) (h3 : ∀ p, p ∈ l → (0 ≤ p.1 ∧ p.1 ≤ 1000) ∧ 0 ≤ p.2 ∧ p.2 ≤ 60) : tuneOk l = true := by
  have hall : ∀ j, j < l.length → okAt l j = true := by
    intro k hk
    obtain ⟨⟨a1, a2⟩, a3, a4⟩ := h3 _ (mem_getD.1 ⟨k, hk, rfl⟩)
    unfold okAt
    rw [inR_of a1 a2, inR_of a3 a4]
    rcases Nat.eq_zero_or_pos k with e | e
    · simp [e]
    · have := List.pairwise_iff_getElem.1 h2 (k - 1) k (by omega) hk (by omega)
      rw [← getD_get (show k - 1 < l.length by omega), ← getD_get hk] at this
      simp only [Bool.true_and, Bool.or_eq_true, beq_iff_eq]
      exact .inr (by unfold less2; exact decide_eq_true this)
  rw [tuneOk_all (Nat.le_refl _) (h := hall), decide_eq_true h1]
def movedL (l : List (Int × Int)) (b : Bool) (f : Int × Int → Int × Int) : List (Int × Int) := if tuneOk l = true ∧ b = true ∧ tuneOk (sortU (l.map f)) = true then sortU (l.map f) else l
def movedOk (l : List (Int × Int)) (b : Bool) (f : Int × Int → Int × Int) : Bool := tuneOk l && (b && tuneOk (sortU (l.map f)))
theorem moved_no {l : List (Int × Int)} {b : Bool} {f : Int × Int → Int × Int} (h : ¬ (tuneOk l = true ∧ b = true ∧ tuneOk (sortU (l.map f)) = true)) : movedL l b f = l ∧ movedOk l b f = false := by
  refine ⟨if_neg h, ?_⟩
  unfold movedOk
  cases h1 : tuneOk l <;> cases h2 : b <;> cases h3 : tuneOk (sortU (l.map f)) <;> simp_all
theorem moved_yes {l : List (Int × Int)} {b : Bool} {f : Int × Int → Int × Int} (h1 : tuneOk l = true) (h2 : b = true) (h3 : tuneOk (sortU (l.map f)) = true) : movedL l b f = sortU (l.map f) ∧ movedOk l b f = true := by
  refine ⟨if_pos ⟨h1, h2, h3⟩, ?_⟩
  unfold movedOk
  rw [h1, h2, h3]; rfl
theorem si_map {l : List (Int × Int)} {f : Int × Int → Int × Int} (h : SI l) (hf : ∀ p q, lt2 p q → lt2 (f p) (f q)) : SI (l.map f) := List.Pairwise.map f (fun p q => hf p q) h
theorem map_take {l : List (Int × Int)} {f : Int × Int → Int × Int} {k : Nat} {x y : Int} (hk : k < l.length) (e : Hid (l.getD k (0, 0) = (x, y))) : (l.map f).take (k + 1) = (l.map f).take k ++ [f (x, y)] := by
  rw [List.take_succ_eq_append_getElem (by simpa using hk), List.getElem_map, ← getD_get hk, e.out]
theorem wrap_small {x : Int} (h1 : -1000000000 ≤ x) (h2 : x ≤ 1000000000) : IntKind.i64.wrap x = x := by
  simp [IntKind.wrap, IntKind.bits, IntKind.signed]; omega
theorem ret_sb2 {B : Option Addr} {n m d : Nat} {a b : Bool} (h : n = m) (h2 : a = b) : Ending.returned (.tuple #[.slice B n d, .bool a]) = .returned (.tuple #[.slice B m d, .bool b]) := by rw [h, h2]
theorem new_pair {w : World} {x y : Int} {T : TypeId} : RP (w.alloc (.cells #[.int .i64 x, .int .i64 y] T)) (some ⟨w.heap.size, 0, none⟩) [(x, y)] := by
  have hh := heap_alloc_new w (.cells #[.int .i64 x, .int .i64 y] T)
  refine ⟨by simp, fun _ => ⟨w.heap.size, 0, rfl, by simp, fun j hj => ?_⟩⟩
  have : j = 0 := by simpa using hj
  subst this
  exact ⟨cell_of_row _ _ 0 _ _ _ hh, cell_of_row _ _ 1 _ _ _ hh⟩
theorem impl_sorted {l : List (Int × Int)} {A : Option Addr} {c : Nat} {w : World} (h : RP w A l) :
    Calls Try.prog 55 #[.slice A l.length c] w fun e w' => ∃ g d, e = .returned (.slice (some ⟨g, 0, none⟩) (sortU l).length d) ∧ OwnP 38 w.heap.size w'.heap.size w' (some ⟨g, 0, none⟩) d (sortU l) ∧ Below w.heap.size w w' := by
  have H := Lib.hid h; clear h
  go_enter Try.func55, Try.ntmps55
  go_wp2_with fail
  refine (impl_copyNotes H.out).mono ?_
  rintro e w1 ⟨g, d, rfl, O, hq⟩
  go_wp2_with fail
  refine (sort_notes O).mono ?_
  rintro e w2 ⟨rfl, m, hperm, hsrt, O2, hk⟩
  have hml := hperm.length_eq
  have hded := Lib.hid (ded_sortU hperm hsrt)
  have hcon := compact_notes O2
  rw [hded.out, hml] at hcon
  have HC := Lib.hid hcon
  have hbel := hq.trans (hk.below hq.size (Nat.le_refl _))
  clear hcon O O2 hq hk hded hsrt hperm hml
  go_wp2_with fail
  refine HC.out.mono ?_
  rintro e w3 ⟨rfl, O3, hk3⟩
  go_wp2
  go_ret
  exact ⟨_, _, rfl, O3.hi_mono (Nat.le_trans O3.le (Nat.le_refl _)) (Nat.le_refl _), hbel.trans (hk3.below hbel.size (Nat.le_refl _))⟩
set_option maxHeartbeats 1000000 in
theorem spec_l03Move {l : List (Int × Int)} {A : Option Addr} {c : Nat} {w : World} {times time pitch : Int} (h : RP w A l) (t1 : 1 ≤ times) (t2 : times ≤ 100) (m1 : -1000 ≤ time) (m2 : time ≤ 1000) (p1 : -60 ≤ pitch) (p2 : pitch ≤ 60) :
    Calls Try.prog 59 #[.slice A l.length c, .int .i64 times, .int .i64 time, .int .i64 pitch] w fun e w' => ∃ B d, e = .returned (.tuple #[.slice B (movedL l true fun p => (p.1 * times + time, p.2 + pitch)).length d, .bool (movedOk l true fun p => (p.1 * times + time, p.2 + pitch))]) ∧
      OwnP 38 w.heap.size w'.heap.size w' B d (movedL l true fun p => (p.1 * times + time, p.2 + pitch)) ∧ Below w.heap.size w w' := by
  have H := Lib.hid h
  obtain ⟨hn, hA⟩ := h
  have HA := Lib.hid hA; clear hA
  cases g : tuneOk l
  · have hT := Lib.hid (moved_no (l := l) (b := true) (f := fun p => (p.1 * times + time, p.2 + pitch)) (by rw [g]; simp))
    go_enter Try.func59, Try.ntmps59
    go_wp2_with fail
    refine (spec_TuneOk H.out).mono ?_
    rintro e w1 ⟨rfl, hq⟩
    go_wp2_with fail
    refine (spec_l02Copy (H.out.below hq)).mono ?_
    rintro e w2 ⟨g2, d, rfl, O, hq2⟩
    go_wp2
    go_ret2
    rw [hT.out.1, hT.out.2]
    exact ⟨_, _, rfl, O.lo_mono hq.size, bthen hq hq2⟩
  have hsi := tuneOk_si g
  have hsm : Hid (sortU (l.map fun p => (p.1 * times + time, p.2 + pitch)) = l.map fun p => (p.1 * times + time, p.2 + pitch)) := by
    refine sortU_same (si_map hsi fun p q hpq => ?_)
    unfold lt2 at *
    rcases hpq with h | ⟨h1, h2⟩
    · have := Int.mul_lt_mul_of_pos_right h (show (0 : Int) < times by omega)
      exact .inl (by simp only; omega)
    · exact .inr (by simp only; rw [h1]; omega)
  have hrg := Lib.hid (fun k t u hk e => tuneOk_range (l := l) g (k := k) (t := t) (u := u) hk e)
  have h40 := (tuneOk_parts g).1
  have hno := Lib.hid (fun h => moved_no (l := l) (b := true) (f := fun p => (p.1 * times + time, p.2 + pitch)) h)
  have hyes := Lib.hid (fun h => moved_yes (l := l) (b := true) (f := fun p => (p.1 * times + time, p.2 + pitch)) g rfl h)
  rw [hsm.out] at hno hyes
  have hnx := Lib.hid (fun k x y hk e => map_take (l := l) (f := fun p => (p.1 * times + time, p.2 + pitch)) (k := k) (x := x) (y := y) hk e)
  have hMl : Hid ((l.map fun p => (p.1 * times + time, p.2 + pitch)).length = l.length) := by simp [Hid]
  clear hsi hsm
  generalize movedL l true (fun p => (p.1 * times + time, p.2 + pitch)) = R at *
  generalize movedOk l true (fun p => (p.1 * times + time, p.2 + pitch)) = ok at *
  generalize l.map (fun p => (p.1 * times + time, p.2 + pitch)) = M at *
  go_enter Try.func59, Try.ntmps59
  go_wp2_with fail
  refine (spec_TuneOk H.out).mono ?_
  rintro e w1 ⟨rfl, hq⟩
  have hbw := hq
  have hown := own_emptyP (W := w1) 38
  clear hq
  go_wp2
  go_loopw [10, 11] (fun v i wr => ∃ (k : Nat) (B : Option Addr) (d : Nat) (L : List (Int × Int)), k ≤ l.length ∧ i = .int .i64 k ∧ Hid (L = M.take k) ∧ v = .slice B L.length d ∧ OwnP 38 w1.heap.size wr.heap.size wr B d L ∧ Below w1.heap.size w1 wr) (fun _ i _ => l.length - (intOf i).toNat)
  case atStart => exact ⟨0, _, _, [], Nat.zero_le _, rfl, rfl, rfl, hown.hi_mono (by simp) (Nat.le_refl _), bnew (Below.refl _ _) _⟩
  case round =>
    clear hown
    obtain ⟨k, B, d, L, hk, rfl, hL, rfl, hown, hbel⟩ := hrel
    have hLk : L.length ≤ k := by rw [hL.out, List.length_take]; omega
    by_cases hlt : k < l.length
    · obtain ⟨b, off, rfl, hP⟩ := HA.out (by omega)
      have HP := Lib.hid (hP.below hbw); clear hP
      obtain ⟨x, y, e1⟩ := pair_of l k
      obtain ⟨⟨x1, x2⟩, y1, y2⟩ := hrg.out k x y hlt e1
      have c1 := HP.out.c1 hbel hlt e1
      have c2 := HP.out.c2 hbel hlt e1
      have hnx' := Lib.hid (hnx.out k x y hlt e1)
      have b1 : 0 ≤ x * times := Int.mul_nonneg x1 (by omega)
      have b2 : x * times ≤ 1000 * 100 := Int.mul_le_mul x2 t2 (by omega) (by omega)
      have hlo := hbel.size
      have hownC := hown.c
      have hl2 : L.length + 1 ≤ 4194304 := by omega
      have o1 : ∀ u ∈ [Value.int .i64 (x * times + time), .int .i64 (y + pitch)], u.oneCell' = true := by simp [Value.oneCell']
      have hblt := HP.out.1
      have E1 : IntKind.i64.wrap (x * times) = x * times := wrap_small (by omega) (by omega)
      have E2 : IntKind.i64.wrap (x * times + time) = x * times + time := wrap_small (by omega) (by omega)
      have E3 : IntKind.i64.wrap (y + pitch) = y + pitch := wrap_small (by omega) (by omega)
      go_wp2_with fail
      go_region_held3 (fun W => W.cell? ⟨b, off + k * 2, none⟩ = some (.int .i64 x) ∧ W.cell? ⟨b, off + k * 2 + 1, none⟩ = some (.int .i64 y)) (first | exact ⟨q1, q2⟩ | go_keep) (first
        | (refine step_app_new [.int .i64 (x * times + time), .int .i64 (y + pitch)] (.tmp 24) (.tmp 42) 24 38 rfl rfl Try.underlying24 notes_inf rfl (Nat.succ_pos 1) rfl rfl hownC hlo (Nat.succ_pos 0) rfl o1 hl2 (Nat.le_of_ble_eq_true rfl) ?_; intro B' d' w2 hown2 hb2; have q1 := (hb2.cell (p := ⟨b, off + k * 2, none⟩) hblt).trans c1; have q2 := (hb2.cell (p := ⟨b, off + k * 2 + 1, none⟩) hblt).trans c2))
      have hown3 : OwnP 38 w1.heap.size w2.heap.size w2 B' d' (L ++ [(x * times + time, y + pitch)]) := by
        have h := hown2
        rw [show [Value.int .i64 (x * times + time), .int .i64 (y + pitch)] = pcells [(x * times + time, y + pitch)] from rfl, ← pcells_append] at h
        exact OwnC.p (by rw [List.length_append]; exact h) (by rw [List.length_append]; show L.length + 1 ≤ _; omega)
      clear hown2 hownC o1 E1 E2 E3 q1 q2 c1 c2
      go_wp2
      go_roundw
      case rel => exact ⟨k + 1, B', d', L ++ [(x * times + time, y + pitch)], by omega, by go_num, by show _ = _; rw [hnx'.out, ← hL.out], by rw [List.length_append]; rfl, hown3, hbel.trans hb2⟩
      case measure => simp [intOf]; omega
    · obtain rfl : k = l.length := by omega
      have hLM : L = M := by rw [hL.out, List.take_of_length_le (by rw [hMl.out]; exact Nat.le_refl _)]
      subst hLM
      have hbb := Lib.hid (bthen hbw hbel)
      have hO := Lib.hid hown
      clear hL hnx
      go_wp2_with fail
      refine (spec_TuneOk hO.out.reads).mono ?_
      rintro e w3 ⟨rfl, hq⟩
      cases g2 : tuneOk L
      · obtain ⟨rfl, rfl⟩ := hno.out (by rw [g2]; simp)
        go_wp2_with fail
        refine (spec_l02Copy (H.out.below (bthen hbb.out hq))).mono ?_
        rintro e w4 ⟨g4, d4, rfl, O, hq2⟩
        go_wp2
        go_ret2
        exact ⟨_, _, rfl, O.lo_mono (bthen hbb.out hq).size, bthen (bthen hbb.out hq) hq2⟩
      · obtain ⟨rfl, rfl⟩ := hyes.out g2
        go_wp2
        go_ret2
        exact ⟨_, _, rfl, ((hO.out.below hq hO.out.le).hi_mono (Nat.le_trans hO.out.le hq.size) (Nat.le_refl _)).lo_mono hbw.size, bthen hbb.out hq⟩
end Go.Proofs.Ytkipgjllgmjipaa
