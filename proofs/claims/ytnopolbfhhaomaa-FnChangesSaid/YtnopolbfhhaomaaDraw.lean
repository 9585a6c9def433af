/- The draws: a cursor over bytes. -/
import Derived.Test.YtnopolbfhhaomaaBase2
import Derived.Test.YtnopolbfhhaomaaCylS
import Derived.Test.YtnopolbfhhaomaaNum
namespace Go.Proofs.Ytnopolbfhhaomaa
open Go.RowKit
set_option linter.unusedVariables false
theorem and255 (X : Int) : ∃ y : Nat, bits .and .i64 X 255 = (y : Int) ∧ y < 256 := by
  have h2 : (BitVec.ofInt 64 X &&& BitVec.ofInt 64 255).toNat < 256 := by
    rw [BitVec.toNat_and]; exact Nat.and_lt_two_pow (n := 8) _ (by decide)
  exact ⟨_, IntWalk.i64_in _ (by show _ ≤ ((BitVec.ofInt 64 X &&& BitVec.ofInt 64 255).toNat : Int) ∧ ((BitVec.ofInt 64 X &&& BitVec.ofInt 64 255).toNat : Int) ≤ _; omega), h2⟩
/-- A slice of bytes. -/
def RU (w : World) (A : Option Addr) (n : Nat) : Prop := n ≤ 1048576 ∧ (0 < n → ∃ b off, A = some ⟨b, off, none⟩ ∧ ∀ j, j < n → ∃ x : Nat, x < 256 ∧ w.cell? ⟨b, off + j, none⟩ = some (.int .u8 (x : Int)))
theorem RU.below {w w' : World} {A : Option Addr} {n : Nat} (h : RU w A n) (hb : Below w.heap.size w w') : RU w' A n :=
  ⟨h.1, fun hl => by obtain ⟨b, off, hA, hj⟩ := h.2 hl; exact ⟨b, off, hA, fun j hjl => by obtain ⟨x, h1, h2⟩ := hj j hjl; exact ⟨x, h1, cell_later h2 hb⟩⟩⟩
/-- The cursor lies in block p. -/
structure Cur (w : World) (p : Nat) (A : Option Addr) (n c : Nat) : Prop where
  c0 : w.cell? ⟨p, 0, none⟩ = some (.slice A n c)
  c1 : ∃ i : Nat, i ≤ n ∧ w.cell? ⟨p, 1, none⟩ = some (.int .i64 (i : Int))
  c2 : ∃ h : Int, w.cell? ⟨p, 2, none⟩ = some (.int .i64 h)
  f1 : w.frozen? ⟨p, 1, none⟩ = false
  f2 : w.frozen? ⟨p, 2, none⟩ = false
theorem spec_l01New {A : Option Addr} {n c : Nat} {w : World} (h : RU w A n) :
    Calls Try.prog 20 #[.slice A n c] w fun e w' => ∃ p, e = .returned (.pointer (some ⟨p, 0, none⟩)) ∧ w.heap.size ≤ p ∧ p < w'.heap.size ∧ Cur w' p A n c ∧ Below w.heap.size w w' := by
  have hn := h.1
  have H := Lib.hid h; clear h
  go_enter Try.func20, Try.ntmps20
  go_wp2
  go_loopw [3, 4] (fun v i wr => ∃ (k : Nat) (hh : Int), k ≤ n ∧ i = .int .i64 k ∧ v = .int .i64 hh ∧ Below w.heap.size w wr) (fun _ i _ => n - (intOf i).toNat)
  case atStart => exact ⟨0, _, Nat.zero_le _, rfl, rfl, Below.refl _ _⟩
  case round =>
    obtain ⟨k, hh, hk, rfl, rfl, hbel⟩ := hrel
    by_cases hlt : k < n
    · by_cases h4 : (k : Int) < 4000
      · obtain ⟨b, off, rfl, hP⟩ := H.out.2 (by omega)
        obtain ⟨x, hx, c0⟩ := hP k hlt
        have c1 := cell_later c0 hbel
        clear hP c0
        go_wp2
        go_roundw
        case rel => exact ⟨k + 1, _, by omega, by go_num, rfl, hbel⟩
        case measure => simp [intOf]; omega
      · go_wp2
        go_ret
        obtain ⟨b1, z1, d0, d1, d2⟩ := new3c (wr := wr) (x := .slice A n c) (y := .int .i64 0) (z := .int .i64 hh) (T := 50) rfl
        exact ⟨wr.heap.size, rfl, hbel.size, by simp, ⟨d0, ⟨0, Nat.zero_le _, d1⟩, ⟨hh, d2⟩, by simp, by simp⟩, bnew hbel _⟩
    · go_wp2
      go_ret
      obtain ⟨b1, z1, d0, d1, d2⟩ := new3c (wr := wr) (x := .slice A n c) (y := .int .i64 0) (z := .int .i64 hh) (T := 50) rfl
      exact ⟨wr.heap.size, rfl, hbel.size, by simp, ⟨d0, ⟨0, Nat.zero_le _, d1⟩, ⟨hh, d2⟩, by simp, by simp⟩, bnew hbel _⟩
theorem cyl_set1 {w wz : World} {g : Nat} {x y v u : Value} (h : w.setCell ⟨g, 1, none⟩ u = wz) (d0 : w.cell? ⟨g, 0, none⟩ = some x) (d1 : w.cell? ⟨g, 1, none⟩ = some v) (d2 : w.cell? ⟨g, 2, none⟩ = some y) :
    wz.cell? ⟨g, 0, none⟩ = some x ∧ wz.cell? ⟨g, 1, none⟩ = some u ∧ wz.cell? ⟨g, 2, none⟩ = some y ∧ Kept g (g + 1) w wz ∧ ∀ a, wz.frozen? a = w.frozen? a := by
  subst h
  refine ⟨?_, World.cell?_setCell_same _ _ _ d1, ?_, (Kept.refl _ _ _).setCell (p := ⟨g, 1, none⟩) (Nat.le_refl _) (Nat.lt_succ_self _) u, fun a => by simp⟩
  · rw [World.cell?_setCell_other _ _ _ _ (by simp)]; exact d0
  · rw [World.cell?_setCell_other _ _ _ _ (by simp)]; exact d2
set_option maxHeartbeats 1000000 in
theorem spec_l01Byte {p : Nat} {A : Option Addr} {n c : Nat} {W0 w : World} (hc : Cur w p A n c) (h : RU W0 A n) (hb : Below W0.heap.size W0 w) (hp : W0.heap.size ≤ p) :
    Calls Try.prog 39 #[.pointer (some ⟨p, 0, none⟩)] w fun e w' => ∃ x : Nat, e = .returned (.int .i64 (x : Int)) ∧ x < 256 ∧ Cur w' p A n c ∧ Kept p (p + 1) w w' := by
  have hn := h.1
  have H := Lib.hid h; clear h
  obtain ⟨c0, ⟨i, hle, c1⟩, ⟨hh, c2⟩, f1, f2⟩ := hc
  have hpl : p < w.heap.size := World.block_lt_of_cell? _ _ c0
  have HB := Lib.hid hb; clear hb
  by_cases hi : i < n
  · obtain ⟨b, off, rfl, hP⟩ := H.out.2 (by omega)
    obtain ⟨x, hx, c3⟩ := hP i hi
    have C3 : Hid (∀ W, Below W0.heap.size W0 W → W.cell? ⟨b, off + i, none⟩ = some (.int .u8 (x : Int))) := fun W h => cell_later c3 h
    clear hP c3
    go_enter Try.func39, Try.ntmps39
    go_wp2_with fail
    generalize hZ : w.setCell ⟨p, 2, none⟩ _ = w1
    obtain ⟨d0, d1, d2, hkz, hfz⟩ := cyl_set hZ c0 c1 c2
    rw [← hfz] at f1 f2
    clear hZ c0 c1 c2 hfz
    have D0 := cell_after d0 (Below.refl _ _); have D1 := cell_after d1 (Below.refl _ _); have D2 := cell_after d2 (Below.refl _ _)
    have hz1 := hkz.size
    have HB1 := Lib.hid (HB.out.trans (hkz.below HB.out.size hp))
    have HK1 := Lib.hid hkz
    clear hkz
    refine wp_region_after (by kernel_rfl) (by kernel_rfl) ?_
    repeat (go_big_quiet_step (fail))
    refine wpQuiet_nil ?_
    rintro w2 ⟨⟨_, hq⟩, rfl⟩
    replace d0 := cell_later d0 hq; replace d1 := cell_later d1 hq; replace d2 := cell_later d2 hq
    replace f1 := (hq.frozen (p := ⟨p, 1, none⟩) (by simp only; omega)).trans f1; replace f2 := (hq.frozen (p := ⟨p, 2, none⟩) (by simp only; omega)).trans f2
    have hz2 := hq.size
    have HB2 := Lib.hid (bthen HB1.out hq)
    have HK2 := Lib.hid (HK1.out.trans (bkept hq (Nat.le_refl _)))
    clear hq D0 D1 D2
    generalize hX : bits BinOp.and IntKind.i64 _ 255 = X3
    have h9 : ∃ y : Nat, X3 = (y : Int) ∧ y < 256 := by rw [← hX]; exact and255 _
    clear hX
    obtain ⟨y, rfl, hyl⟩ := h9
    have D0 := cell_after d0 (Below.refl _ _); have D1 := cell_after d1 (Below.refl _ _)
    go_wp2_with fail
    refine wp_region_after (by kernel_rfl) (by kernel_rfl) ?_
    repeat (go_big_quiet_step (fail))
    refine wpQuiet_nil ?_
    rintro w3 ⟨⟨_, hq⟩, rfl⟩
    replace d0 := cell_later d0 hq; replace d1 := cell_later d1 hq; replace d2 := cell_later d2 hq
    replace f1 := (hq.frozen (p := ⟨p, 1, none⟩) (by simp only; omega)).trans f1; replace f2 := (hq.frozen (p := ⟨p, 2, none⟩) (by simp only; omega)).trans f2
    have hz3 := hq.size
    have HB3 := Lib.hid (bthen HB2.out hq)
    have HK3 := Lib.hid (HK2.out.trans (bkept hq (Nat.le_refl _)))
    clear hq D0 D1
    have D0 := cell_after d0 (Below.refl _ _); have D1 := cell_after d1 (Below.refl _ _)
    have D3 := cell_after (C3.out w3 HB3.out) (Below.refl _ _)
    go_wp2_with fail
    refine wp_region_after (by kernel_rfl) (by kernel_rfl) ?_
    repeat (go_big_quiet_step (fail))
    refine wpQuiet_nil ?_
    rintro w4 ⟨⟨_, hq⟩, rfl⟩
    replace d0 := cell_later d0 hq; replace d1 := cell_later d1 hq; replace d2 := cell_later d2 hq
    replace f1 := (hq.frozen (p := ⟨p, 1, none⟩) (by simp only; omega)).trans f1; replace f2 := (hq.frozen (p := ⟨p, 2, none⟩) (by simp only; omega)).trans f2
    have HK4 := Lib.hid (HK3.out.trans (bkept hq (Nat.le_refl _)))
    clear hq D0 D1 D3
    generalize hX : bits BinOp.and IntKind.i64 _ 255 = X3
    have h9 : ∃ y : Nat, X3 = (y : Int) ∧ y < 256 := by rw [← hX]; exact and255 _
    clear hX
    obtain ⟨y4, rfl, hy4⟩ := h9
    have E1 : IntKind.i64.wrap ((i : Int) + 1) = (i : Int) + 1 := IntWalk.i64_in _ (by omega)
    go_wp2
    go_ret
    obtain ⟨e0, e1, e2, hk5, hf5⟩ := cyl_set1 (u := .int .i64 ((i : Int) + 1)) rfl d0 d1 d2
    exact ⟨y4, rfl, hy4, ⟨e0, ⟨i + 1, by omega, by rw [e1]; simp⟩, ⟨_, e2⟩, by rw [hf5]; exact f1, by rw [hf5]; exact f2⟩, HK4.out.trans hk5⟩
  · go_enter Try.func39, Try.ntmps39
    go_wp2_with fail
    generalize hZ : w.setCell ⟨p, 2, none⟩ _ = w1
    obtain ⟨d0, d1, d2, hkz, hfz⟩ := cyl_set hZ c0 c1 c2
    rw [← hfz] at f1 f2
    clear hZ c0 c1 c2 hfz
    have D0 := cell_after d0 (Below.refl _ _); have D1 := cell_after d1 (Below.refl _ _); have D2 := cell_after d2 (Below.refl _ _)
    have hz1 := hkz.size
    have HK1 := Lib.hid hkz
    clear hkz
    refine wp_region_after (by kernel_rfl) (by kernel_rfl) ?_
    repeat (go_big_quiet_step (fail))
    refine wpQuiet_nil ?_
    rintro w2 ⟨⟨_, hq⟩, rfl⟩
    replace d0 := cell_later d0 hq; replace d1 := cell_later d1 hq; replace d2 := cell_later d2 hq
    replace f1 := (hq.frozen (p := ⟨p, 1, none⟩) (by simp only; omega)).trans f1; replace f2 := (hq.frozen (p := ⟨p, 2, none⟩) (by simp only; omega)).trans f2
    have hz2 := hq.size
    have HK2 := Lib.hid (HK1.out.trans (bkept hq (Nat.le_refl _)))
    clear hq D0 D1 D2
    generalize hX : bits BinOp.and IntKind.i64 _ 255 = X3
    have h9 : ∃ y : Nat, X3 = (y : Int) ∧ y < 256 := by rw [← hX]; exact and255 _
    clear hX
    obtain ⟨y, rfl, hyl⟩ := h9
    have D0 := cell_after d0 (Below.refl _ _); have D1 := cell_after d1 (Below.refl _ _)
    go_wp2_with fail
    refine wp_region_after (by kernel_rfl) (by kernel_rfl) ?_
    repeat (go_big_quiet_step (fail))
    refine wpQuiet_nil ?_
    rintro w3 ⟨⟨_, hq⟩, rfl⟩
    replace d0 := cell_later d0 hq; replace d1 := cell_later d1 hq; replace d2 := cell_later d2 hq
    replace f1 := (hq.frozen (p := ⟨p, 1, none⟩) (by simp only; omega)).trans f1; replace f2 := (hq.frozen (p := ⟨p, 2, none⟩) (by simp only; omega)).trans f2
    have HK3 := Lib.hid (HK2.out.trans (bkept hq (Nat.le_refl _)))
    clear hq D0 D1
    go_wp2
    go_ret
    exact ⟨y, rfl, hyl, ⟨d0, ⟨i, hle, d1⟩, ⟨_, d2⟩, f1, f2⟩, HK3.out⟩
theorem spec_l01Below {p : Nat} {A : Option Addr} {n c : Nat} {m : Int} {W0 w : World} (hc : Cur w p A n c) (h : RU W0 A n) (hb : Below W0.heap.size W0 w) (hp : W0.heap.size ≤ p) (hm1 : 1 ≤ m) (hm2 : m ≤ 1000000000) :
    Calls Try.prog 33 #[.pointer (some ⟨p, 0, none⟩), .int .i64 m] w fun e w' => ∃ x : Nat, e = .returned (.int .i64 (x : Int)) ∧ (x : Int) < m ∧ Cur w' p A n c ∧ Kept p (p + 1) w w' := by
  have H := Lib.hid h; clear h
  have HB := Lib.hid hb; clear hb
  by_cases h256 : m ≤ 256
  · go_enter Try.func33, Try.ntmps33
    go_wp2_with fail
    refine (spec_l01Byte hc H.out HB.out hp).mono ?_
    rintro e w1 ⟨x, rfl, hx, hc1, hk1⟩
    have HC := Lib.hid hc1; have HK := Lib.hid hk1
    clear hc hc1 hk1
    have E3 : (x : Int).tmod m = (x : Int) % m := Int.tmod_eq_emod_of_nonneg (by omega)
    have e1 := Int.emod_nonneg (x : Int) (show m ≠ 0 by omega)
    have e2 := Int.emod_lt_of_pos (x : Int) (show 0 < m by omega)
    obtain ⟨z, hz⟩ : ∃ z : Nat, Hid ((x : Int) % m = (z : Int)) := ⟨((x : Int) % m).toNat, by show _ = _; omega⟩
    rw [hz.out] at E3 e1 e2
    go_wp2
    go_ret
    exact ⟨z, ret_int (by first | rfl | (rw [hz.out])), e2, HC.out, HK.out⟩
  · go_enter Try.func33, Try.ntmps33
    go_wp2_with fail
    refine (spec_l01Byte hc H.out HB.out hp).mono ?_
    rintro e w1 ⟨x1, rfl, hx1, hc1, hk1⟩
    have HB1 := Lib.hid (HB.out.trans (hk1.below HB.out.size hp))
    go_wp2_with fail
    refine (spec_l01Byte hc1 H.out HB1.out hp).mono ?_
    rintro e w2 ⟨x2, rfl, hx2, hc2, hk2⟩
    have HB2 := Lib.hid (HB1.out.trans (hk2.below HB1.out.size hp))
    go_wp2_with fail
    refine (spec_l01Byte hc2 H.out HB2.out hp).mono ?_
    rintro e w3 ⟨x3, rfl, hx3, hc3, hk3⟩
    have HB3 := Lib.hid (HB2.out.trans (hk3.below HB2.out.size hp))
    go_wp2_with fail
    refine (spec_l01Byte hc3 H.out HB3.out hp).mono ?_
    rintro e w4 ⟨x4, rfl, hx4, hc4, hk4⟩
    have HC := Lib.hid hc4; have HK := Lib.hid (((hk1.trans hk2).trans hk3).trans hk4)
    clear hc hc1 hc2 hc3 hc4 hk1 hk2 hk3 hk4
    have E3 : ((x1 : Int) * 16777216 + (x2 : Int) * 65536 + (x3 : Int) * 256 + (x4 : Int)).tmod m = ((x1 : Int) * 16777216 + (x2 : Int) * 65536 + (x3 : Int) * 256 + (x4 : Int)) % m := Int.tmod_eq_emod_of_nonneg (by omega)
    have e1 := Int.emod_nonneg ((x1 : Int) * 16777216 + (x2 : Int) * 65536 + (x3 : Int) * 256 + (x4 : Int)) (show m ≠ 0 by omega)
    have e2 := Int.emod_lt_of_pos ((x1 : Int) * 16777216 + (x2 : Int) * 65536 + (x3 : Int) * 256 + (x4 : Int)) (show 0 < m by omega)
    obtain ⟨z, hz⟩ : ∃ z : Nat, Hid (((x1 : Int) * 16777216 + (x2 : Int) * 65536 + (x3 : Int) * 256 + (x4 : Int)) % m = (z : Int)) := ⟨(((x1 : Int) * 16777216 + (x2 : Int) * 65536 + (x3 : Int) * 256 + (x4 : Int)) % m).toNat, by show _ = _; omega⟩
    rw [hz.out] at E3 e1 e2
    go_wp2
    go_ret
    exact ⟨z, ret_int (by first | rfl | (rw [hz.out])), e2, HC.out, HK.out⟩
end Go.Proofs.Ytnopolbfhhaomaa
