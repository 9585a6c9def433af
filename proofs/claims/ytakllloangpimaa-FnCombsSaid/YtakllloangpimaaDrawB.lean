/- The draw of a comb and a tune. -/
import Derived.Test.YtakllloangpimaaDrawT
import Derived.Test.YtakllloangpimaaDraw2
import Derived.Test.YtakllloangpimaaCmbP
namespace Go.Proofs.Ytakllloangpimaa
open Go.RowKit
set_option linter.unusedVariables false
def fiveInts : List Int := [0, 1, 1, 2, 3]
theorem five_range : ∀ k, k < fiveInts.length → 0 ≤ fiveInts.getD k 0 ∧ fiveInts.getD k 0 ≤ 3 := by decide
theorem cur_blockB {w w4 : World} {p : Nat} {A : Option Addr} {n c : Nat} (h : Cur w p A n c) (e : w4.heap[p]? = w.heap[p]?) : Cur w4 p A n c := by
  obtain ⟨c0, ⟨i, hi, c1⟩, ⟨hh, c2⟩, f1, f2⟩ := h
  exact ⟨(World.cell?_of_block (w := w) (a := ⟨p, 0, none⟩) e).trans c0, ⟨i, hi, (World.cell?_of_block (w := w) (a := ⟨p, 1, none⟩) e).trans c1⟩, ⟨hh, (World.cell?_of_block (w := w) (a := ⟨p, 2, none⟩) e).trans c2⟩,
    (show w4.frozen? ⟨p, 1, none⟩ = w.frozen? ⟨p, 1, none⟩ by unfold World.frozen?; rw [e]).trans f1, (show w4.frozen? ⟨p, 2, none⟩ = w.frozen? ⟨p, 2, none⟩ by unfold World.frozen?; rw [e]).trans f2⟩
theorem OwnI.kept' {e : TypeId} {lo hi : Nat} {w w' : World} {A : Option Addr} {c : Nat} {l : List Int} (h : OwnI e lo hi w A c l) {lo' hi' : Nat} (hk : Kept lo' hi' w w') (hd : hi ≤ lo' ∨ hi' ≤ lo) : OwnI e lo hi w' A c l := (h.c.kept hk hd).i h.small
theorem cur_newB {w : World} {p : Nat} {A : Option Addr} {n c : Nat} (h : Cur w p A n c) (o : Obj) : Cur (w.alloc o) p A n c := cur_blockB h ((bnew (Below.refl w.heap.size w) o).block p (World.block_lt_of_cell? _ _ h.c0))
theorem lit_intsB {W W' : World} {l : List Int} {T : TypeId} {p : Nat} (hp : p < W.heap.size) (hk : Kept p (p + 1) (W.alloc (.cells (l.map (Value.int .i64)).toArray T)) W') : ∀ j, j < l.length → W'.cell? ⟨W.heap.size, 0 + j, none⟩ = some (.int .i64 (l.getD j 0)) := by
  intro j hj
  have h1 : (W.alloc (.cells (l.map (Value.int .i64)).toArray T)).cell? ⟨W.heap.size, j, none⟩ = some (.int .i64 (l.getD j 0)) := by
    rw [cell_of_row _ _ j _ _ _ (heap_alloc_new W _), List.getElem?_toArray, List.getElem?_map, List.getD_eq_getElem?_getD, List.getElem?_eq_getElem hj]; rfl
  rw [Nat.zero_add]
  exact hk.cell' h1 (.inr (by simp only; omega))
set_option maxHeartbeats 2000000 in
theorem spec_l04Comb {p : Nat} {A : Option Addr} {n c : Nat} {W0 w : World} (hc : Cur w p A n c) (h : RU W0 A n) (hb : Below W0.heap.size W0 w) (hp : W0.heap.size ≤ p) :
    Calls Try.prog 67 #[.pointer (some ⟨p, 0, none⟩)] w fun e w' => ∃ (l : List Int) (B : Option Addr) (d : Nat), e = .returned (.slice B l.length d) ∧ combOk l = true ∧ OwnI 3 w.heap.size w'.heap.size w' B d l ∧ Cur w' p A n c ∧ Kept p (p + 1) w w' := by
  have H := Lib.hid h; clear h
  have HB := Lib.hid hb; clear hb
  have hpl : p < w.heap.size := World.block_lt_of_cell? _ _ hc.c0
  go_enter Try.func67, Try.ntmps67
  go_wp2_with fail
  generalize hW : World.alloc w _ = W1
  have hn1 : Below w.heap.size w W1 := by rw [← hW]; exact bnew (Below.refl _ _) _
  have O1 : OwnI 3 w.heap.size W1.heap.size W1 (some ⟨w.heap.size, 0, none⟩) 0 [] := by rw [← hW]; exact (own_empty 3).hi_mono (by simp) (Nat.le_refl _)
  clear hW
  have hc1 := cur_blockB hc (hn1.block p hpl)
  refine (spec_l01Below hc1 H.out (bthen HB.out hn1) hp (by omega) (by omega)).mono ?_
  rintro e w1 ⟨x, rfl, hx, hc2, hk2⟩
  have O2 := O1.kept' hk2 (.inr (by omega))
  have HK2 := Lib.hid ((bkept hn1 (Nat.le_refl _) : Kept p (p + 1) w W1).trans hk2)
  have zk := hk2.size
  clear hc hn1 hc1 hk2 O1
  go_wp2_with fail
  refine (spec_l01Below hc2 H.out (HB.out.trans (HK2.out.below HB.out.size hp)) hp (by omega) (by omega)).mono ?_
  rintro e w2 ⟨y, rfl, hy, hc3, hk3⟩
  have O3 := Lib.hid (((O2.kept' hk3 (.inr (by omega))).hi_mono (Nat.le_trans zk hk3.size) (Nat.le_refl _)))
  have HK3 := Lib.hid (HK2.out.trans hk3)
  have HC3 := Lib.hid hc3
  clear hc2 hk3 O2 HK2 zk hc3
  go_wp2
  go_loopw [3, 4, 6] (fun v a i wr => ∃ (k at' d : Nat) (B : Option Addr) (L : List Int), k ≤ 1 + y ∧ i = .int .i64 k ∧ a = .int .i64 at' ∧ v = .slice B L.length d ∧ Hid (L.length = k) ∧ at' ≤ 12 + 3 * k ∧ Hid (L.Pairwise (· ≤ ·) ∧ ∀ z, z ∈ L → 0 ≤ z ∧ z ≤ (at' : Int)) ∧ Hid (OwnI 3 w.heap.size wr.heap.size wr B d L) ∧ Hid (Cur wr p A n c) ∧ Kept p (p + 1) w wr) (fun _ _ i _ => 1 + y - (intOf i).toNat)
  case atStart => exact ⟨0, 8 + x, 0, _, [], by omega, rfl, by go_num, rfl, rfl, by omega, ⟨List.Pairwise.nil, fun z hz => by cases hz⟩, O3, HC3, HK3.out⟩
  clear O3 HC3 HK3
  case round =>
    obtain ⟨k, at', d, B, L, hk, rfl, rfl, rfl, hLk, hat, hL, ho, hcu, hkp⟩ := hrel
    have hws := hkp.size
    have HK1 := Lib.hid hkp
    clear hkp
    by_cases hlt : k < 1 + y
    · have hLb : L.length + 1 ≤ 1048576 := by have := hLk.out; omega
      go_wp2_with (at_builtin; refine wpList_app_int (l := L) (z := (at' : Int)) (.tmp 19) (.tmp 21) 33 3 rfl rfl Try.underlying33 int_info rfl rfl rfl ho.out hws hLb ?_; intro B' d' w4 O4 hb4)
      have HC4 := cur_blockB hcu.out (hb4.block p hpl)
      have HK4 : Hid (Kept p (p + 1) w w4) := ⟨hb4.os.trans HK1.out.os, hb4.tape.trans HK1.out.tape, hb4.output.trans HK1.out.output, Nat.le_trans HK1.out.size hb4.size, fun j hj ho => (hb4.block j hj).trans (HK1.out.block j hj ho)⟩
      have hz4 := hb4.size
      have hp4 : p < w4.heap.size := by omega
      have hal := bnew (Below.refl w4.heap.size w4) (.cells (fiveInts.map (Value.int .i64)).toArray 3)
      refine (spec_l01PickInt (l := fiveInts) (cur_newB HC4 _) H.out (bthen (HB.out.trans (HK4.out.below HB.out.size hp)) hal) hp (fun W hk => ⟨w4.heap.size, 0, rfl, lit_intsB hp4 hk⟩) (by decide) (by decide)).mono ?_
      rintro e w5 ⟨j, hj, rfl, hc5, hk5⟩
      obtain ⟨f1, f2⟩ := five_range j hj
      obtain ⟨q, hq⟩ : ∃ q : Nat, fiveInts.getD j 0 = (q : Int) := ⟨(fiveInts.getD j 0).toNat, by omega⟩
      rw [hq] at f1 f2 ⊢
      have HK5 := Lib.hid ((HK4.out.trans (bkept hal (Nat.le_refl _))).trans hk5)
      have O5 := Lib.hid (((O4.below hal (Nat.le_refl _)).kept' hk5 (.inr (by omega))).hi_mono (Nat.le_trans hal.size hk5.size) (Nat.le_refl _))
      have HC5 := Lib.hid hc5
      have hL2 : Hid ((L ++ [(at' : Int)]).Pairwise (· ≤ ·) ∧ ∀ z, z ∈ L ++ [(at' : Int)] → 0 ≤ z ∧ z ≤ ((at' + q : Nat) : Int)) := by
        obtain ⟨h1, h2⟩ := hL.out
        refine ⟨List.pairwise_append.2 ⟨h1, by simp, fun a ha b hb => ?_⟩, fun z hz => ?_⟩
        · rw [List.mem_singleton] at hb; subst hb; exact (h2 a ha).2
        · rcases List.mem_append.1 hz with h | h
          · have := h2 z h; omega
          · rw [List.mem_singleton] at h; subst h; omega
      have hl2 : Hid ((L ++ [(at' : Int)]).length = k + 1) := by show _ = _; rw [List.length_append, hLk.out]; rfl
      clear hc5 hk5 hal HC4 HK4 O4 hb4 hj hq hcu ho hL
      go_wp2
      go_roundw
      case rel => exact ⟨k + 1, at' + q, d', B', L ++ [(at' : Int)], by omega, by go_num, by go_num, by rw [List.length_append]; rfl, hl2, by omega, hL2, O5, HC5, HK5.out⟩
      case measure => simp [intOf]; omega
    · obtain rfl : k = 1 + y := by omega
      have hok : Hid (combOk L = true) := combOk_of (by have := hLk.out; omega) (by have := hLk.out; omega) hL.out.1 fun z hz => by have := hL.out.2 z hz; omega
      go_wp2
      go_ret
      exact ⟨_, _, _, rfl, hok.out, ho.out, hcu.out, HK1.out⟩
theorem spec_DrawComb {A : Option Addr} {n c : Nat} {w : World} (h : RU w A n) :
    Calls Try.prog 33 #[.slice A n c] w fun e w' => ∃ (l : List Int) (t : List (Int × Int)) (B D : Option Addr) (d g : Nat), e = .returned (.tuple #[.slice B l.length d, .slice D t.length g]) ∧ combOk l = true ∧ TuneD t ∧ RI w' B l ∧ RP w' D t ∧ Below w.heap.size w w' := by
  have H := Lib.hid h; clear h
  go_enter Try.func33, Try.ntmps33
  go_wp2_with fail
  refine (spec_l01New H.out).mono ?_
  rintro e w1 ⟨p, rfl, hp, hp2, hc1, hb1⟩
  have HB1 := Lib.hid hb1
  clear hb1
  go_wp2_with fail
  refine (spec_l04Comb hc1 H.out HB1.out hp).mono ?_
  rintro e w2 ⟨l, B, d, rfl, hl, O, hc2, hk⟩
  have HB2 := Lib.hid (HB1.out.trans (hk.below HB1.out.size hp))
  have HL := Lib.hid hl
  clear hc1 hk hl
  go_wp2_with fail
  refine (spec_l02Tune hc2 H.out HB2.out hp).mono ?_
  rintro e w3 ⟨t, D, g, rfl, ht, O3, hc3, hk3⟩
  have HB3 := Lib.hid (HB2.out.trans (hk3.below HB2.out.size hp))
  have HT := Lib.hid ht
  have HI := Lib.hid ((O.kept' hk3 (.inr (by omega))).reads)
  have HP := Lib.hid O3.reads
  clear hc2 hc3 hk3 ht O O3
  go_wp2
  go_ret2
  exact ⟨_, _, _, _, _, _, rfl, HL.out, HT.out, HI.out, HP.out, HB3.out⟩
end Go.Proofs.Ytakllloangpimaa
