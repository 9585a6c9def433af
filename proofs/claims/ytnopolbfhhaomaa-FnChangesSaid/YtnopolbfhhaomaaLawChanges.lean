/- Whatever the bytes of the draw, the law FnChanges answers true: a tune that is turned twice is the same, and moving it keeps its form. There are no conditions. -/
import Derived.Test.YtnopolbfhhaomaaFrameB
import Derived.Test.YtnopolbfhhaomaaChgP
import Derived.Deep.RegionHeld3
namespace Go.Proofs.Ytnopolbfhhaomaa.lawChanges
open Go.ChangeShapes Go.WideShapes Go.ChangeAt Go.RowKit
set_option linter.unusedVariables false
def f3 (p : Int × Int) : Int × Int := (p.1, p.2 + 3)
def f53 (p : Int × Int) : Int × Int := (p.1 + 5, p.2 + 3)
def f2 (p : Int × Int) : Int × Int := (p.1 * 2, p.2)
section
variable {t : List (Int × Int)} {A B : Option Addr} {c d : Nat} {w : World}
theorem w_back (ht : TuneD t) (h : RP w A t) : Calls Try.prog 9 #[.slice A t.length c] w fun e w' => ∃ D d, e = .returned (.slice D t.length d) ∧ RP w' D (backM t) ∧ Below w.heap.size w w' :=
  (impl_Backward h).mono fun e w' ⟨D, d, he, O, hb⟩ => ⟨D, d, by rw [he, back_len ht], O.reads, hb⟩
theorem w_back2 (ht : TuneD t) (h : RP w A (backM t)) : Calls Try.prog 9 #[.slice A t.length c] w fun e w' => ∃ D d, e = .returned (.slice D t.length d) ∧ RP w' D t ∧ Below w.heap.size w w' := by
  have := impl_Backward (c := c) h
  rw [back_len ht, back_back ht] at this
  exact this.mono fun e w' ⟨D, d, he, O, hb⟩ => ⟨D, d, he, O.reads, hb⟩
theorem w_up (ht : TuneD t) (h : RP w A t) : Calls Try.prog 10 #[.slice A t.length c] w fun e w' => ∃ D d, e = .returned (.slice D t.length d) ∧ RP w' D (upM t) ∧ Below w.heap.size w w' :=
  (impl_UpsideDown h).mono fun e w' ⟨D, d, he, O, hb⟩ => ⟨D, d, by rw [he, up_len ht], O.reads, hb⟩
theorem w_up2 (ht : TuneD t) (h : RP w A (upM t)) : Calls Try.prog 10 #[.slice A t.length c] w fun e w' => ∃ D d, e = .returned (.slice D t.length d) ∧ RP w' D t ∧ Below w.heap.size w w' := by
  have := impl_UpsideDown (c := c) h
  rw [up_len ht, up_up ht] at this
  exact this.mono fun e w' ⟨D, d, he, O, hb⟩ => ⟨D, d, he, O.reads, hb⟩
theorem w_higher (ht : TuneD t) (h : RP w A t) : Calls Try.prog 11 #[.slice A t.length c, .int .i64 3] w fun e w' => ∃ D d, e = .returned (.tuple #[.slice D t.length d, .bool true]) ∧ RP w' D (t.map f3) ∧ Below w.heap.size w w' := by
  have := impl_Higher (c := c) (n := 3) h
  obtain ⟨e1, e2, _, _⟩ := higher3 ht
  rw [e1, e2, List.length_map] at this
  exact this.mono fun e w' ⟨D, d, he, O, hb⟩ => ⟨D, d, he, O.reads, hb⟩
theorem w_no (h : RP w A t) : Calls Try.prog 11 #[.slice A t.length c, .int .i64 61] w fun e w' => ∃ D n d, e = .returned (.tuple #[.slice D n d, .bool false]) ∧ Below w.heap.size w w' := by
  have := impl_Higher (c := c) (n := 61) h
  rw [no61] at this
  exact this.mono fun e w' ⟨D, d, he, O, hb⟩ => ⟨D, _, d, he, hb⟩
theorem w_later (ht : TuneD t) (h : RP w A (t.map f3)) : Calls Try.prog 12 #[.slice A t.length c, .int .i64 5] w fun e w' => ∃ D d, e = .returned (.tuple #[.slice D t.length d, .bool true]) ∧ RP w' D (t.map f53) ∧ Below w.heap.size w w' := by
  have := impl_Later (c := c) (n := 5) h
  obtain ⟨e1, e2, _, _⟩ := later5 ht
  rw [show t.map f3 = t.map (fun p => (p.1, p.2 + 3)) from rfl, e1, e2, List.length_map, List.length_map] at this
  exact this.mono fun e w' ⟨D, d, he, O, hb⟩ => ⟨D, d, he, O.reads, hb⟩
theorem w_later2 (ht : TuneD t) (h : RP w A (t.map f53)) : Calls Try.prog 12 #[.slice A t.length c, .int .i64 (-5)] w fun e w' => ∃ D d, e = .returned (.tuple #[.slice D t.length d, .bool true]) ∧ RP w' D (t.map f3) ∧ Below w.heap.size w w' := by
  have := impl_Later (c := c) (n := -5) h
  obtain ⟨e1, e2⟩ := back5 ht
  rw [show t.map f53 = t.map (fun p => (p.1 + 5, p.2 + 3)) from rfl, e1, e2, List.length_map, List.length_map] at this
  exact this.mono fun e w' ⟨D, d, he, O, hb⟩ => ⟨D, d, he, O.reads, hb⟩
theorem w_slower (ht : TuneD t) (h : RP w A t) : Calls Try.prog 13 #[.slice A t.length c, .int .i64 2] w fun e w' => ∃ D d, e = .returned (.tuple #[.slice D t.length d, .bool true]) ∧ RP w' D (t.map f2) ∧ Below w.heap.size w w' := by
  have := impl_Slower (c := c) (n := 2) h
  obtain ⟨e1, e2, _, _⟩ := slower2 ht
  rw [e1, e2, List.length_map] at this
  exact this.mono fun e w' ⟨D, d, he, O, hb⟩ => ⟨D, d, he, O.reads, hb⟩
theorem w_same (ht : TuneD t) (h : RP w A t) (h2 : RP w B (t.map f53)) : Calls Try.prog 14 #[.slice A t.length c, .slice B t.length d] w fun e w' => e = .returned (.bool true) ∧ Below w.heap.size w w' := by
  have := impl_SameTune (c := c) (d := d) h h2
  rw [List.length_map, show sameTune t (t.map f53) = true from same_later ht] at this
  exact this
theorem w_join1 (ht : TuneD t) (h : RP w A t) (h2 : RP w B (backM t)) {m : Nat} (hm : Hid ((joinL t (backM t)).length = m)) : Calls Try.prog 15 #[.slice A t.length c, .slice B t.length d] w fun e w' => ∃ D d, e = .returned (.tuple #[.slice D m d, .bool true]) ∧ RP w' D (joinL t (backM t)) ∧ Below w.heap.size w w' := by
  have := impl_JoinTunes (c := c) (c2 := d) h h2
  rw [back_len ht, join_ok ht (back_drawn ht), hm.out] at this
  exact this.mono fun e w' ⟨D, d, he, O, hb⟩ => ⟨D, d, he, O.reads, hb⟩
theorem w_join2 (ht : TuneD t) (h : RP w A t) (h2 : RP w B (backM t)) {m : Nat} (hm : Hid ((joinL t (backM t)).length = m)) : Calls Try.prog 15 #[.slice B t.length d, .slice A t.length c] w fun e w' => ∃ D d, e = .returned (.tuple #[.slice D m d, .bool true]) ∧ RP w' D (joinL t (backM t)) ∧ Below w.heap.size w w' := by
  have := impl_JoinTunes (c := d) (c2 := c) h2 h
  rw [back_len ht, join_ok (back_drawn ht) ht, (join_facts (back_drawn ht) ht).1, hm.out] at this
  exact this.mono fun e w' ⟨D, d, he, O, hb⟩ => ⟨D, d, he, O.reads, hb⟩
theorem w_lasts (h : RP w A t) : Calls Try.prog 16 #[.slice A t.length c] w fun e w' => e = .returned (.int .i64 (lastsM t)) ∧ Below w.heap.size w w' := impl_Lasts h
theorem w_lasts2 (ht : TuneD t) (h : RP w A (backM t)) : Calls Try.prog 16 #[.slice A t.length c] w fun e w' => e = .returned (.int .i64 (lastsM t)) ∧ Below w.heap.size w w' := by
  have := impl_Lasts (c := c) h
  rw [back_len ht, back_lasts ht] at this
  exact this
end
theorem laws_big {A : Option Addr} {n c : Nat} {w : World} : Calls Try.prog 7 #[.slice A n c] w fun e w' => e = .returned (.bool (decide (1048576 < n))) ∧ w = w' := by
  go_enter Try.func7, Try.ntmps7
  go_wp2
  go_ret
  exact ⟨ret_bool (by simp; omega), rfl⟩
set_option maxRecDepth 100000 in
set_option maxHeartbeats 8000000 in
theorem walk (w : World) (A0 : Option Addr) (c0 : Nat) (l0 : List Int) (cm0 : c0 ≤ maxLen) (cl0 : l0.length ≤ c0) (rd0 : 0 < l0.length → ∃ b off, A0 = some ⟨b, off, none⟩ ∧ BytesAt w b off l0) :
    Calls Try.prog 4 #[.slice A0 l0.length c0] w fun e w' => e = .returned (.bool true) ∧ Below w.heap.size w w' := by
  by_cases zz : 1048576 < l0.length
  · go_enter Try.func4, Try.ntmps4
    go_wp2_with fail
    refine (laws_big).mono ?_
    rintro e w1 ⟨rfl, rfl⟩
    rw [decide_eq_true zz]
    go_wp2
    go_ret
    exact ⟨rfl, Below.refl _ _⟩
  have R := Lib.hid (bytes_ru (Nat.le_of_not_lt zz) rd0)
  clear rd0
  go_enter Try.func4, Try.ntmps4
  go_wp2_with fail
  refine (laws_big).mono ?_
  rintro e w1 ⟨rfl, rfl⟩
  rw [decide_eq_false zz]
  clear zz cm0 cl0
  go_wp2_with fail
  refine (spec_DrawTune R.out).mono ?_
  rintro e w2 ⟨t, T, cT, rfl, ht, O, hb⟩
  have HT := Lib.hid ht
  have RT0 := Lib.hid O.reads
  have HB2 := Lib.hid hb
  have h11 := ht.len
  clear ht O hb R
  go_wp2_with fail
  refine (w_back HT.out RT0.out).mono ?_
  rintro e w3 ⟨Bb, cb, rfl, Rb, hq3⟩
  have Rb3 := Lib.hid Rb; have Hq3 := Lib.hid hq3
  clear Rb hq3
  go_wp2_with fail
  refine (w_up HT.out (RT0.out.below Hq3.out)).mono ?_
  rintro e w4 ⟨Bu, cu, rfl, Ru, hq⟩
  have Ru4 := Lib.hid Ru; have Hq4 := Lib.hid (bthen Hq3.out hq); have Hb4 := Lib.hid hq
  clear Ru hq
  go_wp2_with fail
  refine (w_higher HT.out (RT0.out.below Hq4.out)).mono ?_
  rintro e w5 ⟨Bh, ch, rfl, Rh, hq⟩
  have Rh5 := Lib.hid Rh; have Hq5 := Lib.hid (bthen Hq4.out hq); have Hb5 := Lib.hid (bthen Hb4.out hq); have Hu5 := Lib.hid hq
  clear Rh hq
  go_wp2_with fail
  refine (w_later HT.out Rh5.out).mono ?_
  rintro e w6 ⟨Bl, cl, rfl, Rl, hq⟩
  have Rl6 := Lib.hid Rl; have Hq6 := Lib.hid (bthen Hq5.out hq); have Hb6 := Lib.hid (bthen Hb5.out hq); have Hu6 := Lib.hid (bthen Hu5.out hq); have Hh6 := Lib.hid hq
  clear Rl hq
  go_wp2_with fail
  refine (w_slower HT.out (RT0.out.below Hq6.out)).mono ?_
  rintro e w7 ⟨Bs, cs, rfl, Rs, hq⟩
  have Rs7 := Lib.hid Rs; have Hq7 := Lib.hid (bthen Hq6.out hq); have Hb7 := Lib.hid (bthen Hb6.out hq); have Hu7 := Lib.hid (bthen Hu6.out hq); have Hh7 := Lib.hid (bthen Hh6.out hq); have Hl7 := Lib.hid hq
  clear Rs hq
  go_wp2_with fail
  refine (w_same HT.out (RT0.out.below Hq7.out) (Rl6.out.below Hl7.out)).mono ?_
  rintro e w8 ⟨rfl, hq⟩
  have Hq8 := Lib.hid (bthen Hq7.out hq); have Hb8 := Lib.hid (bthen Hb7.out hq); have Hu8 := Lib.hid (bthen Hu7.out hq); have Hh8 := Lib.hid (bthen Hh7.out hq); have Hl8 := Lib.hid (bthen Hl7.out hq); have Hs8 := Lib.hid hq
  clear hq
  go_wp2_with fail
  refine (w_back2 HT.out (Rb3.out.below Hb8.out)).mono ?_
  rintro e w9 ⟨Bc, cc, rfl, Rc, hq⟩
  have Rc9 := Lib.hid Rc; have Hq9 := Lib.hid (bthen Hq8.out hq); have Hb9 := Lib.hid (bthen Hb8.out hq); have Hu9 := Lib.hid (bthen Hu8.out hq); have Hh9 := Lib.hid (bthen Hh8.out hq); have Hl9 := Lib.hid (bthen Hl8.out hq); have Hs9 := Lib.hid (bthen Hs8.out hq)
  clear Rc hq
  go_wp2_with fail
  refine (w_up2 HT.out (Ru4.out.below Hu9.out)).mono ?_
  rintro e w10 ⟨Bd, cd, rfl, Rd, hq⟩
  have Rd10 := Lib.hid Rd; have Hq10 := Lib.hid (bthen Hq9.out hq); have Hb10 := Lib.hid (bthen Hb9.out hq); have Hh10 := Lib.hid (bthen Hh9.out hq); have Hl10 := Lib.hid (bthen Hl9.out hq); have Hs10 := Lib.hid (bthen Hs9.out hq); have Hc10 := Lib.hid hq
  clear Rd hq
  go_wp2_with fail
  refine (w_later2 HT.out (Rl6.out.below Hl10.out)).mono ?_
  rintro e W ⟨Bk, ck, rfl, Rk, hq⟩
  have RkW := Lib.hid Rk
  have RtW := Lib.hid (RT0.out.below (bthen Hq10.out hq))
  have RbW := Lib.hid (Rb3.out.below (bthen Hb10.out hq))
  have RhW := Lib.hid (Rh5.out.below (bthen Hh10.out hq))
  have RsW := Lib.hid (Rs7.out.below (bthen Hs10.out hq))
  have RcW := Lib.hid (Rc9.out.below (bthen Hc10.out hq))
  have RdW := Lib.hid (Rd10.out.below hq)
  have HBW := Lib.hid (bthen (bthen HB2.out Hq10.out) hq)
  clear Rk hq RT0 Rb3 Ru4 Rh5 Rl6 Rs7 Rc9 Rd10 Hq3 Hq4 Hq5 Hq6 Hq7 Hq8 Hq9 Hq10 Hb4 Hb5 Hb6 Hb7 Hb8 Hb9 Hb10 Hu5 Hu6 Hu7 Hu8 Hu9 Hh6 Hh7 Hh8 Hh9 Hh10 Hl7 Hl8 Hl9 Hl10 Hs8 Hs9 Hs10 Hc10 HB2
  go_wp2
  go_loopw [16] (fun i wr => ∃ k : Nat, k ≤ t.length ∧ i = .int .i64 k ∧ Below W.heap.size W wr) (fun i _ => t.length - (intOf i).toNat)
  case atStart => exact ⟨0, Nat.zero_le _, rfl, Below.refl _ _⟩
  case round =>
    obtain ⟨k, hk, rfl, hbel⟩ := hrel
    by_cases hlt : k < t.length
    · obtain ⟨x, y, e1⟩ := pair_of t k
      have hmx := HT.out.mem (x, y) (by rw [← e1.out]; exact mem_getD.1 ⟨k, hlt, rfl⟩)
      have eh : Hid ((t.map f3).getD k (0, 0) = (x, y + 3)) := map_at hlt e1
      have es : Hid ((t.map f2).getD k (0, 0) = (2 * x, y)) := by
        have := map_at (f := f2) hlt e1
        show _ = _
        rw [this.out]
        exact Prod.ext (by show x * 2 = 2 * x; omega) rfl
      have hl3 : k < (t.map f3).length := by rw [List.length_map]; exact hlt
      have hl2 : k < (t.map f2).length := by rw [List.length_map]; exact hlt
      obtain ⟨b1, o1, rfl, P1⟩ := RtW.out.2 (by omega)
      obtain ⟨b2, o2, rfl, P2⟩ := RcW.out.2 (by omega)
      obtain ⟨b3, o3, rfl, P3⟩ := RdW.out.2 (by omega)
      obtain ⟨b4, o4, rfl, P4⟩ := RsW.out.2 (by omega)
      obtain ⟨b5, o5, rfl, P5⟩ := RkW.out.2 (by omega)
      obtain ⟨b6, o6, rfl, P6⟩ := RhW.out.2 (by omega)
      have m1 := P1.a1 hbel hlt e1; have m2 := P1.a2 hbel hlt e1
      have m3 := P2.a1 hbel hlt e1; have m4 := P2.a2 hbel hlt e1
      have m5 := P3.a1 hbel hlt e1; have m6 := P3.a2 hbel hlt e1
      have m7 := P4.a1 hbel hl2 es; have m8 := P4.a2 hbel hl2 es
      have m9 := P5.a1 hbel hl3 eh; have m10 := P5.a2 hbel hl3 eh
      have m11 := P6.a1 hbel hl3 eh; have m12 := P6.a2 hbel hl3 eh
      clear P1 P2 P3 P4 P5 P6 hl2 hl3 eh es e1
      obtain ⟨⟨x1, x2⟩, y1, y2⟩ := hmx
      simp only at x1 x2 y1 y2
      have E1 : IntKind.i64.wrap (2 * x) = 2 * x := wrap_small (by omega) (by omega)
      have E2 : IntKind.i64.wrap (y + 3) = y + 3 := wrap_small (by omega) (by omega)
      go_wp2_with fail
      refine wp_region_after (by kernel_rfl) (by kernel_rfl) ?_
      simp only [List.append_eq, List.cons_append, List.nil_append]
      repeat (go_big_quiet_step (fail))
      refine wpQuiet_nil ?_
      rintro _ ⟨⟨wr, hq⟩, rfl⟩
      replace hbel := bthen hbel hq
      clear hq
      clear m1 m2 m3 m4 m5 m6 m7 m8 m9 m10 m11 m12
      go_wp2
      go_roundw
      case rel => exact ⟨k + 1, by omega, by go_num, hbel⟩
      case measure => simp [intOf]; omega
    · obtain rfl : k = t.length := by omega
      obtain ⟨m, hm⟩ : ∃ m, Hid ((joinL t (backM t)).length = m) := ⟨_, rfl⟩
      obtain ⟨_, j1, j2⟩ := join_facts HT.out (back_drawn HT.out)
      rw [hm.out] at j1 j2
      rw [back_len HT.out] at j2
      have HBr := Lib.hid hbel
      clear hbel
      go_wp2_with fail
      refine (w_join1 HT.out (RtW.out.below HBr.out) (RbW.out.below HBr.out) hm).mono ?_
      rintro e v1 ⟨J1, cj, rfl, RJ, hq⟩
      have RJ1 := Lib.hid RJ; have HB1 := Lib.hid (bthen HBr.out hq)
      clear RJ hq
      go_wp2_with fail
      refine (w_join2 HT.out (RtW.out.below HB1.out) (RbW.out.below HB1.out) hm).mono ?_
      rintro e V ⟨J2, ck2, rfl, RJ, hq⟩
      have RV2 := Lib.hid RJ; have RV1 := Lib.hid (RJ1.out.below hq); have HBV := Lib.hid (bthen HB1.out hq)
      clear RJ hq RJ1 HB1 HBr
      have q1 : ¬ (2 * (t.length : Int) < (m : Int)) := by omega
      have q2 : ¬ ((m : Int) < (t.length : Int)) := by omega
      have E3 : IntKind.i64.wrap (2 * (t.length : Int)) = 2 * (t.length : Int) := wrap_small (by omega) (by omega)
      go_wp2
      go_loopw [21] (fun i wr => ∃ k : Nat, k ≤ m ∧ i = .int .i64 k ∧ Below V.heap.size V wr) (fun i _ => m - (intOf i).toNat)
      case atStart => exact ⟨0, Nat.zero_le _, rfl, Below.refl _ _⟩
      case round =>
        obtain ⟨k, hk, rfl, hbel⟩ := hrel
        by_cases hlt : k < m
        · obtain ⟨x, y, e1⟩ := pair_of (joinL t (backM t)) k
          have hlj : k < (joinL t (backM t)).length := by rw [hm.out]; exact hlt
          obtain ⟨b1, o1, rfl, P1⟩ := RV1.out.2 (by omega)
          obtain ⟨b2, o2, rfl, P2⟩ := RV2.out.2 (by omega)
          have m1 := P1.a1 hbel hlj e1; have m2 := P1.a2 hbel hlj e1
          have m3 := P2.a1 hbel hlj e1; have m4 := P2.a2 hbel hlj e1
          clear P1 P2 hlj e1
          go_wp2_with fail
          refine wp_region_after (by kernel_rfl) (by kernel_rfl) ?_
          repeat (go_big_quiet_step (fail))
          refine wpQuiet_nil ?_
          rintro _ ⟨⟨wq, hq⟩, rfl⟩
          replace hbel := bthen hbel hq
          clear hq
          clear m1 m2 m3 m4
          go_wp2
          go_roundw
          case rel => exact ⟨k + 1, by omega, by go_num, hbel⟩
          case measure => simp [intOf]; omega
        · obtain rfl : k = m := by omega
          have HB5 := Lib.hid (bthen HBV.out hbel)
          clear hbel
          go_wp2_with fail
          refine (w_no (RtW.out.below HB5.out)).mono ?_
          rintro e v5 ⟨D5, n5, d5, rfl, hq⟩
          have HB6 := Lib.hid (bthen HB5.out hq)
          clear hq
          go_wp2_with fail
          refine (w_lasts2 HT.out (RbW.out.below HB6.out)).mono ?_
          rintro e v6 ⟨rfl, hq⟩
          have HB7 := Lib.hid (bthen HB6.out hq)
          clear hq
          go_wp2_with fail
          refine (w_lasts (RtW.out.below HB7.out)).mono ?_
          rintro e v7 ⟨rfl, hq⟩
          have HB8 := Lib.hid (bthen (bthen HBW.out HB7.out) hq)
          clear hq
          go_wp2
          go_ret
          exact ⟨rfl, HB8.out⟩

set_option maxRecDepth 100000 in
theorem lifted (os : Os) (started : os.Started) (H : Type) (enc : TypeId × Value → H) :
    ReturnsInHanded {} Try.checked os 4 .any (Rows.fnChangesSpec.pre6 enc Try.prog Try.f4 Rows.fnChangesRow.domain false) (Rows.fnChangesSpec.post enc Try.prog Try.f4 false true false false) := by
  refine returnsInHanded_of_change (C := Try.checked) Try_own started (by kernel_rfl) Try.func4
    (ChangeSpec.witness6 (enc := enc) (C := Try.checked) false ⟨#[], #[.slice none 0 0], []⟩ 8 (by kernel_rfl) (by kernel_rfl) (by kernel_rfl) (by kernel_rfl)) ?_
  intro W base args ds gs before hval0 hW hcnd _
  have hval : ∀ (j : Nat) t v, Try.f4.params[j]? = some t → args[j]? = some v → Value.okWide Try.prog W .any base t v := hval0
  have hW' := hW
  obtain ⟨p, q, hA0, hV, rfl, hfz, hnd⟩ := hW
  have hA : DataW.TrodAll enc Try.prog W 0 (fun _ => true) true Try.f4.params.toList args.toList ds p := hA0
  rw [Try.params4] at hA hval
  obtain ⟨v0, vs0, d0, ds0, p0, q0, hargs, rfl, rfl, h0, r0⟩ := trodAll_cons hA
  obtain ⟨rfl, rfl, rfl⟩ := trodAll_nil r0
  obtain rfl : args = #[v0] := by cases args; simp_all
  obtain ⟨rfl, rfl⟩ := trodVars_none hV
  obtain ⟨A0, n0, c0, rfl⟩ := okWide_slice Try.underlying25 (hval 0 25 v0 rfl rfl)
  have k0 := h0
  have lt0 : ∀ x ∈ p0, x.block < W.heap.size := by obtain ⟨m, hm⟩ := k0; exact DataW.trod_lt m _ _ _ hm
  obtain ⟨l0, rfl, cm0, cl0, rd0⟩ := open_bytes_arg Try.underlying25 Try.underlying5 (by kernel_rfl) h0
  clear hA0 hval0
  refine (walk W A0 c0 l0 cm0 cl0 rd0).mono fun e W' ⟨he, bel⟩ => ?_
  subst he
  exact ⟨_, rfl, _, _, _, [], _, [], hW', trodAll_mk1 (shut_bool Try.underlying4 _), (trodAll_cons_mk (Below.trod Try_laidOut (by kernel_rfl) (of_decide_eq_true (by kernel_rfl)) k0 bel lt0) trodAll_mk0), rfl, bel.frame _, fun h => by cases h⟩

theorem over : Rows.fnChangesRow.holds Try.pinned (OpenSpec.ofChange Rows.fnChangesSpec) :=
  OpenClaim.holds_of_wide 4 Try.f4 rfl rfl rfl rfl rfl rfl rfl ⟨rfl, rfl, rfl, rfl, rfl⟩ rfl rfl rfl rfl rfl (by kernel_rfl) Try.func4 (by kernel_rfl)
    (of_decide_eq_true (by kernel_rfl)) (by unfold Func.isWrapper; first | (rw [if_pos (by decide +kernel)]; kernel_rfl) | (rw [if_neg (by decide +kernel)]; exact ⟨rfl, rfl⟩))
    (fun os started H enc _ => lifted os started H enc)

theorem proved : Rows.FnChangesSaid := over
end Go.Proofs.Ytnopolbfhhaomaa.lawChanges
