/- The draws of numbers. -/
import Derived.Test.YtelmilgdoefmdaaDoorDraw
namespace Go.Proofs.YtelmilgdoefmdaaDoor
open Go.RowKit
set_option linter.unusedVariables false
theorem spec_l01Once {p : Nat} {A : Option Addr} {n c : Nat} {m : Int} {W0 w : World} (hc : Cur w p A n c) (h : RU W0 A n) (hb : Below W0.heap.size W0 w) (hp : W0.heap.size ≤ p) (hm1 : 1 ≤ m) (hm2 : m ≤ 1000000000) :
    Calls Tryd.prog 24 #[.pointer (some ⟨p, 0, none⟩), .int .i64 m] w fun e w' => ∃ b : Bool, e = .returned (.bool b) ∧ Cur w' p A n c ∧ Kept p (p + 1) w w' := by
  have H := Lib.hid h; clear h
  have HB := Lib.hid hb; clear hb
  go_enter Tryd.func24, Tryd.ntmps24
  go_wp2_with fail
  refine (spec_l01Below hc H.out HB.out hp hm1 hm2).mono ?_
  rintro e w1 ⟨x, rfl, hx, hc1, hk1⟩
  have HC := Lib.hid hc1; have HK := Lib.hid hk1
  clear hc hc1 hk1
  go_wp2
  go_ret
  exact ⟨_, rfl, HC.out, HK.out⟩
theorem spec_l01PickInt {p : Nat} {A B : Option Addr} {n c d : Nat} {l : List Int} {W0 w : World} (hc : Cur w p A n c) (h : RU W0 A n) (hb : Below W0.heap.size W0 w) (hp : W0.heap.size ≤ p)
    (hl : ∀ W, Kept p (p + 1) w W → ∃ b off, B = some ⟨b, off, none⟩ ∧ ∀ j, j < l.length → W.cell? ⟨b, off + j, none⟩ = some (.int .i64 (l.getD j 0))) (h1 : 1 ≤ l.length) (h2 : l.length ≤ 256) :
    Calls Tryd.prog 37 #[.pointer (some ⟨p, 0, none⟩), .slice B l.length d] w fun e w' => ∃ k : Nat, k < l.length ∧ e = .returned (.int .i64 (l.getD k 0)) ∧ Cur w' p A n c ∧ Kept p (p + 1) w w' := by
  have H := Lib.hid h; clear h
  have HB := Lib.hid hb; clear hb
  have HL := Lib.hid hl; clear hl
  go_enter Tryd.func37, Tryd.ntmps37
  go_wp2_with fail
  refine (spec_l01Below hc H.out HB.out hp (by omega) (by omega)).mono ?_
  rintro e w1 ⟨x, rfl, hx, hc1, hk1⟩
  have HC := Lib.hid hc1; have HK := Lib.hid hk1
  obtain ⟨b, off, rfl, hj⟩ := HL.out w1 hk1
  obtain ⟨u, hu⟩ : ∃ u, Hid (l.getD x 0 = u) := ⟨_, rfl⟩
  have c1 := hj x (by omega)
  rw [hu.out] at c1
  clear hc hc1 hk1 hj
  go_wp2
  go_ret
  exact ⟨x, by omega, ret_int hu.out.symm, HC.out, HK.out⟩
theorem lit_ints {W W' : World} {l : List Int} {T : TypeId} {p : Nat} (hp : p < W.heap.size) (hk : Kept p (p + 1) (W.alloc (.cells (l.map (Value.int .i64)).toArray T)) W') : ∀ j, j < l.length → W'.cell? ⟨W.heap.size, 0 + j, none⟩ = some (.int .i64 (l.getD j 0)) := by
  intro j hj
  have h1 : (W.alloc (.cells (l.map (Value.int .i64)).toArray T)).cell? ⟨W.heap.size, j, none⟩ = some (.int .i64 (l.getD j 0)) := by
    rw [cell_of_row _ _ j _ _ _ (heap_alloc_new W _), List.getElem?_toArray, List.getElem?_map, List.getD_eq_getElem?_getD, List.getElem?_eq_getElem hj]; rfl
  rw [Nat.zero_add]
  exact hk.cell' h1 (.inr (by simp only; omega))
def tenInts : List Int := [-1, 0, 127, 128, 16383, 16384, 1000000000, 1000000001, 9223372036854775807, -9223372036854775808]
theorem cur_new {w : World} {p : Nat} {A : Option Addr} {n c : Nat} (h : Cur w p A n c) (o : Obj) : Cur (w.alloc o) p A n c := by
  have hb := bnew (Below.refl w.heap.size w) o
  have hpl : p < w.heap.size := World.block_lt_of_cell? _ _ h.c0
  obtain ⟨c0, ⟨i, hi, c1⟩, ⟨hh, c2⟩, f1, f2⟩ := h
  exact ⟨cell_later c0 hb, ⟨i, hi, cell_later c1 hb⟩, ⟨hh, cell_later c2 hb⟩, (hb.frozen (p := ⟨p, 1, none⟩) hpl).trans f1, (hb.frozen (p := ⟨p, 2, none⟩) hpl).trans f2⟩
set_option maxHeartbeats 1000000 in
theorem spec_l01Number {p : Nat} {A : Option Addr} {n c : Nat} {W0 w : World} (hc : Cur w p A n c) (h : RU W0 A n) (hb : Below W0.heap.size W0 w) (hp : W0.heap.size ≤ p) :
    Calls Tryd.prog 31 #[.pointer (some ⟨p, 0, none⟩)] w fun e w' => ∃ x : Int, e = .returned (.int .i64 x) ∧ Cur w' p A n c ∧ Kept p (p + 1) w w' := by
  have H := Lib.hid h; clear h
  have HB := Lib.hid hb; clear hb
  go_enter Tryd.func31, Tryd.ntmps31
  go_wp2_with fail
  refine (spec_l01Below hc H.out HB.out hp (by omega) (by omega)).mono ?_
  rintro e w1 ⟨x, rfl, hx, hc1, hk1⟩
  have hpl : p < w1.heap.size := World.block_lt_of_cell? _ _ hc1.c0
  have HB1 := Lib.hid (HB.out.trans (hk1.below HB.out.size hp))
  have HK1 := Lib.hid hk1
  clear hc hk1
  by_cases x0 : x = 0
  · subst x0
    go_wp2_with fail
    have hal := bnew (Below.refl w1.heap.size w1) (.cells (tenInts.map (Value.int .i64)).toArray 3)
    refine (spec_l01PickInt (l := tenInts) (cur_new hc1 _) H.out (bthen HB1.out hal) hp (fun W hk => ⟨w1.heap.size, 0, rfl, lit_ints hpl hk⟩) (by decide) (by decide)).mono ?_
    rintro e w2 ⟨k, hk, rfl, hc2, hk2⟩
    obtain ⟨v, hv⟩ : ∃ v, v = tenInts.getD k 0 := ⟨_, rfl⟩
    rw [← hv]
    have HC := Lib.hid hc2; have HK := Lib.hid ((HK1.out.trans (bkept hal (Nat.le_refl _))).trans hk2)
    clear hc1 hc2 hk2 hal hv
    go_wp2
    go_ret
    exact ⟨_, rfl, HC.out, HK.out⟩
  by_cases x1 : x = 1
  · subst x1
    go_wp2_with fail
    refine (spec_l01Below hc1 H.out HB1.out hp (by omega) (by omega)).mono ?_
    rintro e w2 ⟨y, rfl, hy, hc2, hk2⟩
    have HC := Lib.hid hc2; have HK := Lib.hid (HK1.out.trans hk2)
    clear hc1 hc2 hk2
    go_wp2
    go_ret
    exact ⟨_, rfl, HC.out, HK.out⟩
  have q0 : ((x : Int) == 0) = false := by simp; omega
  have q1 : ((x : Int) == 1) = false := by simp; omega
  clear x0 x1
  go_wp2_with fail
  refine (spec_l01Below hc1 H.out HB1.out hp (by omega) (by omega)).mono ?_
  rintro e w2 ⟨y, rfl, hy, hc2, hk2⟩
  have HC := Lib.hid hc2; have HK := Lib.hid (HK1.out.trans hk2)
  clear hc1 hc2 hk2
  go_wp2
  go_ret
  exact ⟨_, rfl, HC.out, HK.out⟩
end Go.Proofs.YtelmilgdoefmdaaDoor
