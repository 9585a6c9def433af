/- changed, and Higher, Later and Slower: what they answer. -/
import Derived.Test.YtkipgjllgmjipaaChg
namespace Go.Proofs.Ytkipgjllgmjipaa
open Go.RowKit
set_option linter.unusedVariables false
theorem mul_small {x n : Int} (h1 : -1000 ≤ x) (h2 : x ≤ 1000) (h5 : -1000 ≤ n) (h6 : n ≤ 1000) : -1000000 ≤ x * n ∧ x * n ≤ 1000000 := by
  have h : (x * n).natAbs ≤ 1000 * 1000 := by rw [Int.natAbs_mul]; exact Nat.mul_le_mul (by omega) (by omega)
  omega
set_option maxHeartbeats 1000000 in
theorem impl_changed {l : List (Int × Int)} {A : Option Addr} {c : Nat} {w : World} {b : Bool} {F : FuncId} {cb : Array Value} {f : Int × Int → Int × Int} (h : RP w A l) (heg : ∀ args w, (callFunc F args).run Try.prog w = .ok (.enter F args) w)
    (hf : tuneOk l = true → b = true → ∀ W x y k, Below w.heap.size w W → k < l.length → Hid (l.getD k (0, 0) = (x, y)) → Calls Try.prog F (#[.agg #[.int .i64 x, .int .i64 y]] ++ cb) W fun e w' => e = .returned (.agg #[.int .i64 (f (x, y)).1, .int .i64 (f (x, y)).2]) ∧ Below W.heap.size W w') :
    Calls Try.prog 60 #[.slice A l.length c, .bool b, .func (.func F) #[] cb] w fun e w' => ∃ B d, e = .returned (.tuple #[.slice B (movedL l b f).length d, .bool (movedOk l b f)]) ∧
      OwnP 38 w.heap.size w'.heap.size w' B d (movedL l b f) ∧ Below w.heap.size w w' := by
  have H := Lib.hid h
  obtain ⟨hn, hA⟩ := h
  have HA := Lib.hid hA; clear hA
  have HF := Lib.hid hf; clear hf
  have hno := Lib.hid (fun h => moved_no (l := l) (b := b) (f := f) h)
  have hyes := Lib.hid (fun h1 h2 h3 => moved_yes (l := l) (b := b) (f := f) h1 h2 h3)
  generalize movedL l b f = R at *
  generalize movedOk l b f = ok at *
  go_enter Try.func60, Try.ntmps60
  go_wp2_with fail
  refine (impl_TuneOk H.out).mono ?_
  rintro e w1 ⟨rfl, hq⟩
  cases g : tuneOk l
  · obtain ⟨rfl, rfl⟩ := hno.out (by rw [g]; simp)
    go_wp2_with fail
    refine (impl_copyNotes (H.out.below hq)).mono ?_
    rintro e w2 ⟨g2, d, rfl, O, hq2⟩
    go_wp2
    go_ret2
    exact ⟨_, _, rfl, O.lo_mono hq.size, bthen hq hq2⟩
  cases b
  · obtain ⟨rfl, rfl⟩ := hno.out (by simp)
    go_wp2_with fail
    refine (impl_copyNotes (H.out.below hq)).mono ?_
    rintro e w2 ⟨g2, d, rfl, O, hq2⟩
    go_wp2
    go_ret2
    exact ⟨_, _, rfl, O.lo_mono hq.size, bthen hq hq2⟩
  have h40 := (tuneOk_parts g).1
  have hF := Lib.hid (HF.out g rfl)
  have hnx := Lib.hid (fun k x y hk e => map_take (l := l) (f := f) (k := k) (x := x) (y := y) hk e)
  have hMl : Hid ((l.map f).length = l.length) := by simp [Hid]
  clear HF
  generalize l.map f = M at *
  have hbw := hq
  have hown := own_emptyP (W := w1) 38
  clear hq
  go_wp2
  go_loopw [8, 23] (fun v i wr => ∃ (k : Nat) (B : Option Addr) (d : Nat) (L : List (Int × Int)), k ≤ l.length ∧ i = .int .i64 k ∧ Hid (L = M.take k) ∧ v = .slice B L.length d ∧ OwnP 38 w1.heap.size wr.heap.size wr B d L ∧ Below w1.heap.size w1 wr) (fun _ i _ => l.length - (intOf i).toNat)
  case atStart => exact ⟨0, _, _, [], Nat.zero_le _, rfl, rfl, rfl, hown.hi_mono (by simp) (Nat.le_refl _), bnew (Below.refl _ _) _⟩
  case round =>
    clear hown
    obtain ⟨k, B, d, L, hk, rfl, hL, rfl, hown, hbel⟩ := hrel
    have hLk : L.length ≤ k := by rw [hL.out, List.length_take]; omega
    by_cases hlt : k < l.length
    · obtain ⟨b, off, rfl, hP⟩ := HA.out (by omega)
      have HP := Lib.hid (hP.below hbw); clear hP
      obtain ⟨x, y, e1⟩ := pair_of l k
      have c1 := HP.out.c1 hbel hlt e1
      have c2 := HP.out.c2 hbel hlt e1
      have hnx' := Lib.hid (hnx.out k x y hlt e1)
      have hcall := Lib.hid (hF.out (wr.alloc (.cells #[.int .i64 x, .int .i64 y] 38)) x y k (bnew (bthen hbw hbel) _) hlt e1)
      obtain ⟨a', b', hab⟩ : ∃ a' b', f (x, y) = (a', b') := ⟨_, _, rfl⟩
      rw [hab] at hcall hnx'
      clear hab c1 c2
      have c1 := HP.out.c1 hbel hlt e1
      have c2 := HP.out.c2 hbel hlt e1
      have hownW := (hown.new (.cells #[.int .i64 x, .int .i64 y] 38)).hi_mono (show wr.heap.size ≤ (wr.alloc (.cells #[.int .i64 x, .int .i64 y] 38)).heap.size by simp) (Nat.le_refl _)
      have hbelW := bnew hbel (.cells #[.int .i64 x, .int .i64 y] 38)
      go_wp2_with fail
      refine hcall.out.mono ?_
      rintro e w2 ⟨rfl, hq⟩
      replace hown := (hownW.below hq hownW.le).hi_mono hq.size (Nat.le_refl _)
      replace hbel := bthen hbelW hq
      clear hq hownW hbelW c1 c2
      go_wp2_with (at_builtin; refine wpList_app_pairs (l := L) (m := [(a', b')]) (.tmp 27) (.tmp 31) 24 38 rfl rfl Try.underlying24 notes_inf rfl (by decide) rfl rfl (hown.new _) (Nat.le_trans hbel.size (by simp)) new_pair (by simp; omega) ?_; intro B' d' w3 hown2 hb2 _)
      go_roundw
      case rel => exact ⟨k + 1, B', d', L ++ [(a', b')], by omega, by go_num, by show _ = _; rw [hnx'.out, ← hL.out], by rw [List.length_append]; rfl, hown2, (bnew hbel _).trans hb2⟩
      case measure => simp [intOf]; omega
    · obtain rfl : k = l.length := by omega
      have hLM : L = M := by rw [hL.out, List.take_of_length_le (by rw [hMl.out]; exact Nat.le_refl _)]
      subst hLM
      have hbb := Lib.hid (bthen hbw hbel)
      have hO := Lib.hid hown
      clear hL hnx hown hbel hF
      go_wp2_with fail
      refine (impl_sorted hO.out.reads).mono ?_
      rintro e w3 ⟨g3, d3, rfl, O3, hq⟩
      have hO3 := Lib.hid (O3.lo_mono (lo' := w.heap.size) hbb.out.size)
      have hbc := Lib.hid (bthen hbb.out hq)
      clear O3 hq
      go_wp2_with fail
      refine (impl_TuneOk hO3.out.reads).mono ?_
      rintro e w4 ⟨rfl, hq⟩
      cases g2 : tuneOk (sortU L)
      · obtain ⟨rfl, rfl⟩ := hno.out (by rw [g2]; simp)
        go_wp2_with fail
        refine (impl_copyNotes (H.out.below (bthen hbc.out hq))).mono ?_
        rintro e w5 ⟨g4, d4, rfl, O, hq2⟩
        go_wp2
        go_ret2
        exact ⟨_, _, rfl, O.lo_mono (bthen hbc.out hq).size, bthen (bthen hbc.out hq) hq2⟩
      · obtain ⟨rfl, rfl⟩ := hyes.out g trivial g2
        go_wp2
        go_ret2
        exact ⟨_, _, rfl, (hO3.out.below hq hO3.out.le).hi_mono (Nat.le_trans hO3.out.le hq.size) (Nat.le_refl _), bthen hbc.out hq⟩
theorem impl_Higher1 {x y n : Int} {p : Addr} {W : World} (hc : W.cell? p = some (.int .i64 n)) (h1 : -1000 ≤ x) (h2 : x ≤ 1000) (h3 : -1000 ≤ y) (h4 : y ≤ 1000) (h5 : -1000 ≤ n) (h6 : n ≤ 1000) :
    Calls Try.prog 62 #[.agg #[.int .i64 x, .int .i64 y], .pointer (some p)] W fun e w' => e = .returned (.agg #[.int .i64 (x), .int .i64 (y + n)]) ∧ Below W.heap.size W w' := by
  skip
  have hp := cell_later hc (bnew (bnew (Below.refl W.heap.size W) (.cells #[.int .i64 x, .int .i64 y] 38)) (.cells #[.int .i64 0, .int .i64 0] 38))
  go_enter Try.func62, Try.ntmps62
  go_wp2
  refine bodyPost_ret (v := .agg #[.int .i64 (x), .int .i64 (y + n)]) (by simp [results, Try.results62, go_sem]) rfl ⟨rfl, ?_⟩
  exact bnew (bnew (Below.refl _ _) _) _
theorem impl_Later1 {x y n : Int} {p : Addr} {W : World} (hc : W.cell? p = some (.int .i64 n)) (h1 : -1000 ≤ x) (h2 : x ≤ 1000) (h3 : -1000 ≤ y) (h4 : y ≤ 1000) (h5 : -1000 ≤ n) (h6 : n ≤ 1000) :
    Calls Try.prog 63 #[.agg #[.int .i64 x, .int .i64 y], .pointer (some p)] W fun e w' => e = .returned (.agg #[.int .i64 (x + n), .int .i64 (y)]) ∧ Below W.heap.size W w' := by
  skip
  have hp := cell_later hc (bnew (bnew (Below.refl W.heap.size W) (.cells #[.int .i64 x, .int .i64 y] 38)) (.cells #[.int .i64 0, .int .i64 0] 38))
  go_enter Try.func63, Try.ntmps63
  go_wp2
  refine bodyPost_ret (v := .agg #[.int .i64 (x + n), .int .i64 (y)]) (by simp [results, Try.results63, go_sem]) rfl ⟨rfl, ?_⟩
  exact bnew (bnew (Below.refl _ _) _) _
theorem impl_Slower1 {x y n : Int} {p : Addr} {W : World} (hc : W.cell? p = some (.int .i64 n)) (h1 : -1000 ≤ x) (h2 : x ≤ 1000) (h3 : -1000 ≤ y) (h4 : y ≤ 1000) (h5 : -1000 ≤ n) (h6 : n ≤ 1000) :
    Calls Try.prog 64 #[.agg #[.int .i64 x, .int .i64 y], .pointer (some p)] W fun e w' => e = .returned (.agg #[.int .i64 (x * n), .int .i64 (y)]) ∧ Below W.heap.size W w' := by
  have m1 : -1000000 ≤ x * n ∧ x * n ≤ 1000000 := mul_small h1 h2 h5 h6
  have hp := cell_later hc (bnew (bnew (Below.refl W.heap.size W) (.cells #[.int .i64 x, .int .i64 y] 38)) (.cells #[.int .i64 0, .int .i64 0] 38))
  go_enter Try.func64, Try.ntmps64
  go_wp2
  refine bodyPost_ret (v := .agg #[.int .i64 (x * n), .int .i64 (y)]) (by simp [results, Try.results64, go_sem]) rfl ⟨rfl, ?_⟩
  exact bnew (bnew (Below.refl _ _) _) _
end Go.Proofs.Ytkipgjllgmjipaa
