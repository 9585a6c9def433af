/- The draw of a tune: what is held of it. -/
import Derived.Test.YtnopolbfhhaomaaDraw
import Derived.Test.YtnopolbfhhaomaaSn
namespace Go.Proofs.Ytnopolbfhhaomaa
open Go.RowKit
set_option linter.unusedVariables false
/-- A drawn tune. -/
structure TuneD (t : List (Int × Int)) : Prop where
  si : SI t
  len : t.length ≤ 11
  mem : ∀ p, p ∈ t → (0 ≤ p.1 ∧ p.1 ≤ 15) ∧ 10 ≤ p.2 ∧ p.2 ≤ 19
theorem TuneD.ok {t : List (Int × Int)} (h : TuneD t) : tuneOk t = true := tuneOk_of (by have := h.len; omega) h.si fun p hp => by have := h.mem p hp; omega
theorem tuneD_sort {L : List (Int × Int)} (hl : L.length ≤ 11) (hm : ∀ p, p ∈ L → (0 ≤ p.1 ∧ p.1 ≤ 15) ∧ 10 ≤ p.2 ∧ p.2 ≤ 19) : TuneD (sortN L) := by
  have e : sortN L = sortU L := if_pos (by omega)
  rw [e]
  exact ⟨sortU_si L, Nat.le_trans (length_sortTo L _) hl, fun p hp => hm p (mem_sortU.1 hp)⟩
set_option maxHeartbeats 1000000 in
theorem spec_l02Tune {p : Nat} {A : Option Addr} {n c : Nat} {W0 w : World} (hc : Cur w p A n c) (h : RU W0 A n) (hb : Below W0.heap.size W0 w) (hp : W0.heap.size ≤ p) :
    Calls Try.prog 19 #[.pointer (some ⟨p, 0, none⟩)] w fun e w' => ∃ (t : List (Int × Int)) (B : Option Addr) (d : Nat), e = .returned (.slice B t.length d) ∧ TuneD t ∧ OwnP 34 w.heap.size w'.heap.size w' B d t ∧ Cur w' p A n c ∧ Kept p (p + 1) w w' := by
  have H := Lib.hid h; clear h
  have HB := Lib.hid hb; clear hb
  have hpl : p < w.heap.size := World.block_lt_of_cell? _ _ hc.c0
  go_enter Try.func19, Try.ntmps19
  go_wp2_with fail
  generalize hW : World.alloc w _ = W1
  have hn1 : Below w.heap.size w W1 := by rw [← hW]; exact bnew (Below.refl _ _) _
  have O1 : OwnP 34 w.heap.size W1.heap.size W1 (some ⟨w.heap.size, 0, none⟩) 0 [] := by rw [← hW]; exact (own_emptyP 34).hi_mono (by simp) (Nat.le_refl _)
  have C1 : Cur W1 p A n c := by
    obtain ⟨c0, ⟨i, hi, c1⟩, ⟨hh, c2⟩, f1, f2⟩ := hc
    exact ⟨cell_later c0 hn1, ⟨i, hi, cell_later c1 hn1⟩, ⟨hh, cell_later c2 hn1⟩, (hn1.frozen (p := ⟨p, 1, none⟩) hpl).trans f1, (hn1.frozen (p := ⟨p, 2, none⟩) hpl).trans f2⟩
  clear hW hc
  refine (spec_l01Below C1 H.out (bthen HB.out hn1) hp (by omega) (by omega)).mono ?_
  rintro e w1 ⟨m, rfl, hm, hc1, hk1⟩
  have O2 := O1.kept hk1 (.inr (by omega))
  have HK := Lib.hid ((bkept hn1 (Nat.le_refl _)).trans hk1 : Kept p (p + 1) w w1)
  have hs1 := hk1.size
  have hs0 := hn1.size
  have O3 := Lib.hid (O2.hi_mono hs1 (Nat.le_refl _))
  have HC := Lib.hid hc1
  clear O1 O2 C1 hc1 hk1 hn1
  go_wp2
  go_loopw [3, 5] (fun v i wr => ∃ (k d : Nat) (B : Option Addr) (L : List (Int × Int)), k ≤ m ∧ i = .int .i64 k ∧ v = .slice B L.length d ∧ L.length = k ∧ Hid (∀ q, q ∈ L → (0 ≤ q.1 ∧ q.1 ≤ 15) ∧ 10 ≤ q.2 ∧ q.2 ≤ 19) ∧ Hid (OwnP 34 w.heap.size wr.heap.size wr B d L) ∧ Hid (Cur wr p A n c) ∧ Kept p (p + 1) w wr) (fun _ i _ => m - (intOf i).toNat)
  case atStart => exact ⟨0, 0, _, [], Nat.zero_le _, rfl, rfl, rfl, fun q hq => by simp at hq, O3, HC, HK.out⟩
  clear O3 HC HK hs1 hs0
  case round =>
    obtain ⟨k, d, B, L, hk, rfl, rfl, hLk, hL, ho, hcu, hkp⟩ := hrel
    have hws := hkp.size
    have HB1 := Lib.hid (HB.out.trans (hkp.below HB.out.size hp))
    have HK1 := Lib.hid hkp
    have hLh := Lib.hid hLk
    clear hkp hLk
    by_cases hlt : k < m
    · go_wp2_with fail
      refine (spec_l01Below hcu.out H.out HB1.out hp (by omega) (by omega)).mono ?_
      rintro e w2 ⟨x, rfl, hx, hc2, hk2⟩
      have HB2 := Lib.hid (HB1.out.trans (hk2.below HB1.out.size hp))
      have hs2 := hk2.size
      go_wp2_with fail
      refine (spec_l01Below hc2 H.out HB2.out hp (by omega) (by omega)).mono ?_
      rintro e w3 ⟨y, rfl, hy, hc3, hk3⟩
      have hs3 := hk3.size
      have HK3 := Lib.hid ((HK1.out.trans hk2).trans hk3)
      have O3 := ((ho.out.kept hk2 (.inr (by omega))).kept hk3 (.inr (by omega))).hi_mono (Nat.le_trans hs2 hs3) (Nat.le_refl _)
      have HC3 := Lib.hid hc3
      have hlo3 : w.heap.size ≤ w3.heap.size := by omega
      have hLb : L.length + 1 ≤ 1048576 := by have := hLh.out; omega
      clear hc2 hk2 hc3 hk3 HB2
      go_wp2_with (at_builtin; refine wpList_app_pairs (l := L) (m := [((x : Int), 10 + (y : Int))]) (.tmp 14) (.tmp 21) 27 34 rfl rfl Try.underlying27 notes_inf rfl (by decide) rfl rfl (O3.new _) (by simp; omega) new_pair (by simpa using hLb) ?_; intro B' d' w4 O4 hb4 _)
      have hb34 : Below w.heap.size w3 w4 := ((Below.refl _ _).alloc hlo3 _).trans hb4
      have HC4 : Hid (Cur w4 p A n c) := by
        obtain ⟨c0, ⟨i, hi, c1⟩, ⟨hh, c2⟩, f1, f2⟩ := HC3.out
        have e := hb34.block p hpl
        exact ⟨(World.cell?_of_block (w := w3) (a := ⟨p, 0, none⟩) e).trans c0, ⟨i, hi, (World.cell?_of_block (w := w3) (a := ⟨p, 1, none⟩) e).trans c1⟩, ⟨hh, (World.cell?_of_block (w := w3) (a := ⟨p, 2, none⟩) e).trans c2⟩,
          (show w4.frozen? ⟨p, 1, none⟩ = w3.frozen? ⟨p, 1, none⟩ by unfold World.frozen?; rw [e]).trans f1, (show w4.frozen? ⟨p, 2, none⟩ = w3.frozen? ⟨p, 2, none⟩ by unfold World.frozen?; rw [e]).trans f2⟩
      have HK4 : Hid (Kept p (p + 1) w w4) := ⟨hb34.os.trans HK3.out.os, hb34.tape.trans HK3.out.tape, hb34.output.trans HK3.out.output, Nat.le_trans HK3.out.size hb34.size, fun j hj ho => (hb34.block j hj).trans (HK3.out.block j hj ho)⟩
      go_roundw
      case rel =>
        exact ⟨k + 1, d', B', _, by omega, by go_num, by rw [List.length_append]; rfl, by rw [List.length_append, hLh.out]; rfl, fun q hq => by
          rcases List.mem_append.1 hq with h | h
          · exact hL.out q h
          · rw [List.mem_singleton] at h
            subst h
            simp only
            omega, O4, HC4, HK4.out⟩
      case measure => simp [intOf]; omega
    · obtain rfl : k = m := by omega
      have hL11 : L.length ≤ 11 := by have := hLh.out; omega
      go_wp2_with fail
      refine (spec_SortNotes ho.out.reads).mono ?_
      rintro e w5 ⟨B5, d5, rfl, O5, hb5⟩
      have hT := Lib.hid (tuneD_sort hL11 hL.out)
      have O5' := Lib.hid (O5.lo_mono hws)
      have HC5 : Hid (Cur w5 p A n c) := by
        obtain ⟨c0, ⟨i, hi, c1⟩, ⟨hh, c2⟩, f1, f2⟩ := hcu.out
        exact ⟨cell_later c0 hb5, ⟨i, hi, cell_later c1 hb5⟩, ⟨hh, cell_later c2 hb5⟩, (hb5.frozen (p := ⟨p, 1, none⟩) (by simp only; omega)).trans f1, (hb5.frozen (p := ⟨p, 2, none⟩) (by simp only; omega)).trans f2⟩
      have HK5 := Lib.hid (HK1.out.trans (bkept hb5 (Nat.le_refl _)))
      clear O5 hb5
      go_wp2
      go_ret
      exact ⟨_, _, _, rfl, hT.out, O5'.out, HC5.out, HK5.out⟩
theorem spec_DrawTune {A : Option Addr} {n c : Nat} {w : World} (h : RU w A n) :
    Calls Try.prog 8 #[.slice A n c] w fun e w' => ∃ (t : List (Int × Int)) (B : Option Addr) (d : Nat), e = .returned (.slice B t.length d) ∧ TuneD t ∧ OwnP 34 w.heap.size w'.heap.size w' B d t ∧ Below w.heap.size w w' := by
  have H := Lib.hid h; clear h
  go_enter Try.func8, Try.ntmps8
  go_wp2_with fail
  refine (spec_l01New H.out).mono ?_
  rintro e w1 ⟨p, rfl, hp, hp2, hc1, hb1⟩
  have HB1 := Lib.hid hb1
  clear hb1
  go_wp2_with fail
  refine (spec_l02Tune hc1 H.out HB1.out hp).mono ?_
  rintro e w2 ⟨t, B, d, rfl, ht, O, hc2, hk⟩
  have HB2 := Lib.hid (HB1.out.trans (hk.below HB1.out.size hp))
  have HT := Lib.hid ht
  have HO := Lib.hid (O.lo_mono HB1.out.size)
  clear hc1 hc2 hk ht O
  go_wp2
  go_ret
  exact ⟨_, _, _, rfl, HT.out, HO.out, HB2.out⟩
end Go.Proofs.Ytnopolbfhhaomaa
