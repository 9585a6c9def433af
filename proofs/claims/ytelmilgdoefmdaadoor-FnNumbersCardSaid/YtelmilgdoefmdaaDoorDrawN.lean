/- The draw of a number, with its bounds. -/
import Derived.Test.YtelmilgdoefmdaaDoorDraw2
namespace Go.Proofs.YtelmilgdoefmdaaDoor
open Go.RowKit
set_option linter.unusedVariables false
theorem ten_bounds : ∀ k, k < tenInts.length → -9223372036854775808 ≤ tenInts.getD k 0 ∧ tenInts.getD k 0 ≤ 9223372036854775807 := by decide
set_option maxHeartbeats 1000000 in
theorem spec_l01NumberB {p : Nat} {A : Option Addr} {n c : Nat} {W0 w : World} (hc : Cur w p A n c) (h : RU W0 A n) (hb : Below W0.heap.size W0 w) (hp : W0.heap.size ≤ p) :
    Calls Tryd.prog 31 #[.pointer (some ⟨p, 0, none⟩)] w fun e w' => ∃ x : Int, e = .returned (.int .i64 x) ∧ (-9223372036854775808 ≤ x ∧ x ≤ 9223372036854775807) ∧ Cur w' p A n c ∧ Kept p (p + 1) w w' := by
  have H := Lib.hid h; clear h
  have HB := Lib.hid hb; clear hb
  go_enter Tryd.func31, Tryd.ntmps31
  go_wp2_with fail
  refine (spec_l01Below hc H.out HB.out hp (by omega) (by omega)).mono ?_
  rintro e w1 ⟨x, rfl, hx, hc1, hk1⟩
  have hpl : p < w1.heap.size := World.block_lt_of_cell? _ _ hc1.c0
  have HB1 := Lib.hid (HB.out.trans (hk1.below HB.out.size hp))
  have HK1 := Lib.hid hk1
  clear hc hk1
  by_cases x0 : x = 0
  · subst x0
    go_wp2_with fail
    have hal := bnew (Below.refl w1.heap.size w1) (.cells (tenInts.map (Value.int .i64)).toArray 3)
    refine (spec_l01PickInt (l := tenInts) (cur_new hc1 _) H.out (bthen HB1.out hal) hp (fun W hk => ⟨w1.heap.size, 0, rfl, lit_ints hpl hk⟩) (by decide) (by decide)).mono ?_
    rintro e w2 ⟨k, hk, rfl, hc2, hk2⟩
    have hvb := Lib.hid (ten_bounds k hk)
    obtain ⟨v, hv⟩ : ∃ v, v = tenInts.getD k 0 := ⟨_, rfl⟩
    rw [← hv] at hvb ⊢
    have HC := Lib.hid hc2; have HK := Lib.hid ((HK1.out.trans (bkept hal (Nat.le_refl _))).trans hk2)
    clear hc1 hc2 hk2 hal hv
    go_wp2
    go_ret
    exact ⟨_, rfl, hvb.out, HC.out, HK.out⟩
  by_cases x1 : x = 1
  · subst x1
    go_wp2_with fail
    refine (spec_l01Below hc1 H.out HB1.out hp (by omega) (by omega)).mono ?_
    rintro e w2 ⟨y, rfl, hy, hc2, hk2⟩
    have HC := Lib.hid hc2; have HK := Lib.hid (HK1.out.trans hk2)
    clear hc1 hc2 hk2
    go_wp2
    go_ret
    exact ⟨_, rfl, by omega, HC.out, HK.out⟩
  have q0 : ((x : Int) == 0) = false := by simp; omega
  have q1 : ((x : Int) == 1) = false := by simp; omega
  clear x0 x1
  go_wp2_with fail
  refine (spec_l01Below hc1 H.out HB1.out hp (by omega) (by omega)).mono ?_
  rintro e w2 ⟨y, rfl, hy, hc2, hk2⟩
  have HC := Lib.hid hc2; have HK := Lib.hid (HK1.out.trans hk2)
  clear hc1 hc2 hk2
  go_wp2
  go_ret
  exact ⟨_, rfl, by omega, HC.out, HK.out⟩
theorem spec_DrawFormatInt {A : Option Addr} {n c : Nat} {w : World} (h : RU w A n) :
    Calls Tryd.prog 20 #[.slice A n c] w fun e w' => ∃ x : Int, e = .returned (.int .i64 x) ∧ (-9223372036854775808 ≤ x ∧ x ≤ 9223372036854775807) ∧ Below w.heap.size w w' := by
  have H := Lib.hid h; clear h
  go_enter Tryd.func20, Tryd.ntmps20
  go_wp2_with fail
  refine (spec_l01New H.out).mono ?_
  rintro e w1 ⟨p, rfl, hp, hp2, hc1, hb1⟩
  have HB1 := Lib.hid hb1
  clear hb1
  go_wp2_with fail
  refine (spec_l01Once hc1 H.out HB1.out hp (by omega) (by omega)).mono ?_
  rintro e w2 ⟨b, rfl, hc2, hk2⟩
  have HB2 := Lib.hid (HB1.out.trans (hk2.below HB1.out.size hp))
  clear hc1 hk2
  cases b
  · go_wp2_with fail
    refine (spec_l01NumberB hc2 H.out HB2.out hp).mono ?_
    rintro e w3 ⟨x, rfl, hx, hc3, hk3⟩
    have HB3 := Lib.hid (HB2.out.trans (hk3.below HB2.out.size hp))
    have HX := Lib.hid hx
    clear hc2 hk3 hc3 hx
    go_wp2
    go_ret
    exact ⟨_, rfl, HX.out, HB3.out⟩
  · go_wp2_with fail
    refine (spec_l01Below hc2 H.out HB2.out hp (by omega) (by omega)).mono ?_
    rintro e w3 ⟨x, rfl, hx, hc3, hk3⟩
    have HB3 := Lib.hid (HB2.out.trans (hk3.below HB2.out.size hp))
    clear hc2 hk3
    go_wp2_with fail
    refine (spec_l01Below hc3 H.out HB3.out hp (by omega) (by omega)).mono ?_
    rintro e w4 ⟨y, rfl, hy, hc4, hk4⟩
    have HB4 := Lib.hid (HB3.out.trans (hk4.below HB3.out.size hp))
    clear hc3 hk4 hc4
    have b1 : (x : Int) * ((y : Int) - 1000000) ≤ 1000000000000 := by
      refine Int.le_trans (Int.mul_le_mul_of_nonneg_left (show (y : Int) - 1000000 ≤ 1000000 by omega) (by omega)) (by omega)
    have b2 : -1000000000000 ≤ (x : Int) * ((y : Int) - 1000000) := by
      refine Int.le_trans (show -1000000000000 ≤ (x : Int) * (-1000000) by omega) (Int.mul_le_mul_of_nonneg_left (by omega) (by omega))
    have E0 : IntKind.i64.wrap ((y : Int) - 1000000) = (y : Int) - 1000000 := IntWalk.i64_in _ (by omega)
    have E1 : IntKind.i64.wrap ((x : Int) * ((y : Int) - 1000000)) = (x : Int) * ((y : Int) - 1000000) := IntWalk.i64_in _ (by omega)
    have HX : Hid (-9223372036854775808 ≤ (x : Int) * ((y : Int) - 1000000) ∧ (x : Int) * ((y : Int) - 1000000) ≤ 9223372036854775807) := by show _ ∧ _; omega
    clear b1 b2
    go_wp2
    go_ret
    exact ⟨_, rfl, HX.out, HB4.out⟩
end Go.Proofs.YtelmilgdoefmdaaDoor
