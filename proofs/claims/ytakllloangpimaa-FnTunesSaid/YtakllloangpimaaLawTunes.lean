/- Whatever the bytes of the draw, the law FnTunes answers true: notes stand in order, and sorting keeps each of them once. There are no conditions. -/
import Derived.Test.YtakllloangpimaaFrameB
import Derived.Test.YtakllloangpimaaTunP
import Derived.Test.YtakllloangpimaaAddW
import Derived.Deep.RegionHeld3
namespace Go.Proofs.Ytakllloangpimaa.lawTunes
open Go.ChangeShapes Go.WideShapes Go.ChangeAt Go.RowKit
set_option linter.unusedVariables false
theorem laws_big {A : Option Addr} {n c : Nat} {w : World} : Calls Try.prog 8 #[.slice A n c] w fun e w' => e = .returned (.bool (decide (1048576 < n))) ∧ w = w' := by
  go_enter Try.func8, Try.ntmps8
  go_wp2
  go_ret
  exact ⟨ret_bool (by simp; omega), rfl⟩
theorem laws_at {A : Option Addr} {n c : Nat} {i : Int} {w : World} (h : RU w A n) (hi : 0 ≤ i ∧ i ≤ 10) : Calls Try.prog 10 #[.slice A n c, .int .i64 i] w fun e w' => ∃ x : Nat, e = .returned (.int .i64 (x : Int)) ∧ x < 256 ∧ Below w.heap.size w w' := by
  have H := Lib.hid h; clear h
  have hn := H.out.1
  by_cases h0 : n = 0
  · have q : ((n : Int) == 0) = true := by simp [h0]
    clear h0
    go_enter Try.func10, Try.ntmps10
    go_wp2
    go_ret
    exact ⟨0, rfl, by omega, Below.refl _ _⟩
  · have q : ((n : Int) == 0) = false := by simp; omega
    obtain ⟨i1, i2⟩ := hi
    have e1 := Int.emod_nonneg (i * 5 + 1) (show (n : Int) ≠ 0 by omega)
    have e2 := Int.emod_lt_of_pos (i * 5 + 1) (show 0 < (n : Int) by omega)
    have E3 : (i * 5 + 1).tmod (n : Int) = (i * 5 + 1) % (n : Int) := Int.tmod_eq_emod_of_nonneg (by omega)
    obtain ⟨z, hz⟩ : ∃ z : Nat, Hid ((i * 5 + 1) % (n : Int) = (z : Int)) := ⟨((i * 5 + 1) % (n : Int)).toNat, by show _ = _; omega⟩
    rw [hz.out] at E3 e1 e2
    obtain ⟨b, off, rfl, hj⟩ := H.out.2 (by omega)
    obtain ⟨x, hx, c1⟩ := hj z (by omega)
    have hzn : z < n := by omega
    clear hj
    go_enter Try.func10, Try.ntmps10
    go_wp2
    go_ret
    exact ⟨x, rfl, hx, Below.refl _ _⟩
section
variable {t : List (Int × Int)} {A B : Option Addr} {c d : Nat} {w : World}
theorem w_add (h : RP w A t) {a b : Int} {ok : Bool} (hok : addOk t (a, b) = ok) {m : Nat} (hm : Hid ((addL t (a, b)).length = m)) : Calls Try.prog 26 #[.slice A t.length c, .agg #[.int .i64 a, .int .i64 b]] w fun e w' => ∃ D d, e = .returned (.tuple #[.slice D m d, .bool ok]) ∧ RP w' D (addL t (a, b)) ∧ Below w.heap.size w w' := by
  have := impl_AddNote (c := c) (x := a) (y := b) h
  rw [hok, hm.out] at this
  exact this.mono fun e w' ⟨D, d, he, O, hb⟩ => ⟨D, d, he, O.reads, hb⟩
theorem w_sort (ht : TuneD t) {n : Nat} (h : RP w A (t ++ t)) (hn : Hid ((t ++ t).length = n)) : Calls Try.prog 28 #[.slice A n c] w fun e w' => ∃ D d, e = .returned (.slice D t.length d) ∧ RP w' D t ∧ Below w.heap.size w w' := by
  have := impl_SortNotes (c := c) h
  rw [hn.out, sort_twice ht] at this
  exact this.mono fun e w' ⟨D, d, he, O, hb⟩ => ⟨D, d, he, O.reads, hb⟩
theorem w_at (h : RP w A t) {x : Int} {m : Nat} (hm : Hid ((notesAt t x).length = m)) : Calls Try.prog 29 #[.slice A t.length c, .int .i64 x] w fun e w' => ∃ D d, e = .returned (.slice D m d) ∧ RI w' D (notesAt t x) ∧ Below w.heap.size w w' := by
  have := impl_NotesAt (c := c) (p := x) h
  rw [hm.out] at this
  exact this.mono fun e w' ⟨D, d, he, O, hb⟩ => ⟨D, d, he, O.reads, hb⟩
theorem w_ok {n : Nat} {u : List (Int × Int)} {b : Bool} (h : RP w A u) (hn : Hid (u.length = n)) (hb : tuneOk u = b) : Calls Try.prog 27 #[.slice A n c] w fun e w' => e = .returned (.bool b) ∧ Below w.heap.size w w' := by
  have := impl_TuneOk (c := c) h
  rw [hn.out, hb] at this
  exact this
theorem w_lasts {x : Int} (h : RP w A t) (hx : lastsM t = x) : Calls Try.prog 31 #[.slice A t.length c] w fun e w' => e = .returned (.int .i64 x) ∧ Below w.heap.size w w' := by
  have := impl_Lasts (c := c) h
  rw [hx] at this
  exact this
theorem w_sample : Calls Try.prog 32 #[] w fun e w' => ∃ B d, e = .returned (.slice B 5 d) ∧ Below w.heap.size w w' :=
  (impl_SampleTune).mono fun e w' ⟨B, d, he, _, hb⟩ => ⟨B, d, he, hb⟩
theorem w_range {x y : Int} (h : RP w A t) (hx : Hid (lowM t = x)) (hy : Hid (highM t = y)) : Calls Try.prog 30 #[.slice A t.length c] w fun e w' => e = .returned (.tuple #[.int .i64 x, .int .i64 y]) ∧ Below w.heap.size w w' := by
  have := impl_PitchRange (c := c) h
  rw [hx.out, hy.out] at this
  exact this
end
set_option maxRecDepth 100000 in
set_option maxHeartbeats 8000000 in
theorem walk (w : World) (A0 : Option Addr) (c0 : Nat) (l0 : List Int) (cm0 : c0 ≤ maxLen) (cl0 : l0.length ≤ c0) (rd0 : 0 < l0.length → ∃ b off, A0 = some ⟨b, off, none⟩ ∧ BytesAt w b off l0) :
    Calls Try.prog 5 #[.slice A0 l0.length c0] w fun e w' => e = .returned (.bool true) ∧ Below w.heap.size w w' := by
  by_cases zz : 1048576 < l0.length
  · go_enter Try.func5, Try.ntmps5
    go_wp2_with fail
    refine (laws_big).mono ?_
    rintro e w1 ⟨rfl, rfl⟩
    rw [decide_eq_true zz]
    go_wp2
    go_ret
    exact ⟨rfl, Below.refl _ _⟩
  have R := Lib.hid (bytes_ru (Nat.le_of_not_lt zz) rd0)
  clear rd0
  go_enter Try.func5, Try.ntmps5
  go_wp2_with fail
  refine (laws_big).mono ?_
  rintro e w1 ⟨rfl, rfl⟩
  rw [decide_eq_false zz]
  clear zz cm0 cl0
  go_wp2_with fail
  refine (spec_DrawTune R.out).mono ?_
  rintro e w2 ⟨t, T, cT, rfl, ht, O, hb⟩
  have HT := Lib.hid ht
  have RT0 := Lib.hid O.reads
  have HB2 := Lib.hid hb
  have h11 := ht.len
  clear ht O hb
  go_wp2_with fail
  refine (laws_at (R.out.below HB2.out) (by omega)).mono ?_
  rintro e w3 ⟨x0, rfl, hx0, hq3⟩
  have HB3 := Lib.hid (bthen HB2.out hq3)
  have Hq3 := Lib.hid hq3
  clear hq3
  have E1 : (x0 : Int).tmod 30 = (x0 : Int) % 30 := Int.tmod_eq_emod_of_nonneg (by omega)
  obtain ⟨a, ha⟩ : ∃ a : Int, Hid ((x0 : Int) % 30 = a) := ⟨_, rfl⟩
  rw [ha.out] at E1
  have ha2 : 0 ≤ a ∧ a ≤ 29 := by have := ha.out; omega
  go_wp2_with fail
  refine (laws_at (R.out.below HB3.out) (by omega)).mono ?_
  rintro e w4 ⟨x1, rfl, hx1, hq⟩
  have HB4 := Lib.hid (bthen HB3.out hq)
  have Hq4 := Lib.hid (bthen Hq3.out hq)
  clear hq HB3 Hq3 R
  have E2 : (x1 : Int).tmod 61 = (x1 : Int) % 61 := Int.tmod_eq_emod_of_nonneg (by omega)
  obtain ⟨b, hb⟩ : ∃ b : Int, Hid ((x1 : Int) % 61 = b) := ⟨_, rfl⟩
  rw [hb.out] at E2
  have hb2 : 0 ≤ b ∧ b ≤ 60 := by have := hb.out; omega
  go_wp2_with fail
  clear E1 E2 ha hb
  generalize hW : World.alloc w4 _ = W5
  obtain ⟨b5, z5, p0, p1⟩ := new2c hW
  clear hW z5
  have RT5 := Lib.hid (RT0.out.below (bthen Hq4.out b5))
  have HB5 := Lib.hid (bthen HB4.out b5)
  clear RT0 Hq4 HB4 HB2 b5
  obtain ⟨m, hm⟩ : ∃ m, Hid ((addL t (a, b)).length = m) := ⟨_, rfl⟩
  obtain ⟨ok, hok⟩ : ∃ ok, Hid (addOk t (a, b) = ok) := ⟨_, rfl⟩
  refine (w_add RT5.out hok.out hm).mono ?_
  rintro e w6 ⟨X, cx, rfl, RX, hq⟩
  have RX6 := Lib.hid RX
  have RT6 := Lib.hid (RT5.out.below hq)
  have HB6 := Lib.hid (bthen HB5.out hq)
  have P0 := Lib.hid (cell_later p0 hq); have P1 := Lib.hid (cell_later p1 hq)
  clear RX hq p0 p1 RT5 HB5
  go_wp2
  go_loopw [7, 8] (fun v i wr => ∃ (k : Nat) (fb : Bool), k ≤ t.length ∧ i = .int .i64 k ∧ v = .bool fb ∧ Hid (foundTo t (a, b) k = fb) ∧ Below w6.heap.size w6 wr) (fun _ i _ => t.length - (intOf i).toNat)
  case atStart => exact ⟨0, false, Nat.zero_le _, rfl, rfl, rfl, Below.refl _ _⟩
  case round =>
    obtain ⟨k, fb, hk, rfl, rfl, hf, hbel⟩ := hrel
    by_cases hlt : k < t.length
    · cases fb
      · obtain ⟨u, v, e1⟩ := pair_of t k
        obtain ⟨bt, ot, rfl, HP⟩ := RT6.out.2 (by omega)
        have m1 := HP.a1 hbel hlt e1; have m2 := HP.a2 hbel hlt e1
        have m3 := cell_after P0.out hbel; have m4 := cell_after P1.out hbel
        clear HP
        have hnx : ∀ d, decide ((u, v) = (a, b)) = d → Hid (foundTo t (a, b) (k + 1) = d) := fun d hd => by
          show (foundTo t (a, b) k || decide (t.getD k (0, 0) = (a, b))) = d
          rw [hf.out, e1.out, hd]; rfl
        have HN := Lib.hid hnx
        clear hnx e1
        by_cases hu : u = a
        · have hu' := hu.symm
          subst hu'
          by_cases hv : v = b
          · have hv' := hv.symm
            subst hv'
            have hn := HN.out true (decide_eq_true rfl)
            go_wp2_with fail
            refine wp_region_after (by kernel_rfl) (by kernel_rfl) ?_
            repeat (go_big_quiet_step (fail))
            refine wpQuiet_nil ?_
            rintro _ ⟨⟨wq, hq⟩, rfl⟩
            replace hbel := bthen hbel hq
            clear hq
            clear m1 m2 m3 m4
            go_wp2
            go_roundw
            case rel => exact ⟨k + 1, true, by omega, by go_num, rfl, hn, hbel⟩
            case measure => simp [intOf]; omega
          · have hn := HN.out false (decide_eq_false (fun h => hv (congrArg Prod.snd h)))
            go_wp2_with fail
            refine wp_region_after (by kernel_rfl) (by kernel_rfl) ?_
            repeat (go_big_quiet_step (fail))
            refine wpQuiet_nil ?_
            rintro _ ⟨⟨wq, hq⟩, rfl⟩
            replace hbel := bthen hbel hq
            clear hq
            clear m1 m2 m3 m4
            go_wp2
            go_roundw
            case rel => exact ⟨k + 1, false, by omega, by go_num, rfl, hn, hbel⟩
            case measure => simp [intOf]; omega
        · have hn := HN.out false (decide_eq_false (fun h => hu (congrArg Prod.fst h)))
          go_wp2_with fail
          refine wp_region_after (by kernel_rfl) (by kernel_rfl) ?_
          repeat (go_big_quiet_step (fail))
          refine wpQuiet_nil ?_
          rintro _ ⟨⟨wq, hq⟩, rfl⟩
          replace hbel := bthen hbel hq
          clear hq
          clear m1 m2 m3 m4
          go_wp2
          go_roundw
          case rel => exact ⟨k + 1, false, by omega, by go_num, rfl, hn, hbel⟩
          case measure => simp [intOf]; omega
      · have hn : Hid (foundTo t (a, b) (k + 1) = true) := by
          show (foundTo t (a, b) k || decide (t.getD k (0, 0) = (a, b))) = true
          rw [hf.out]; rfl
        go_wp2_with fail
        refine wp_region_after (by kernel_rfl) (by kernel_rfl) ?_
        repeat (go_big_quiet_step (fail))
        refine wpQuiet_nil ?_
        rintro _ ⟨⟨wq, hq⟩, rfl⟩
        replace hbel := bthen hbel hq
        clear hq
        go_wp2
        go_roundw
        case rel => exact ⟨k + 1, true, by omega, by go_num, rfl, hn, hbel⟩
        case measure => simp [intOf]; omega
    · obtain rfl : k = t.length := by omega
      have hfm := hf.out
      rw [found_all] at hfm
      have RTr := Lib.hid (RT6.out.below hbel)
      have RXr := Lib.hid (RX6.out.below hbel)
      have HBr := Lib.hid (bthen HB6.out hbel)
      clear hbel RT6 RX6 HB6 P0 P1
      go_upto_region 11 with fail
      go_cut [68] from 50 (fun s68 wx => s68 = .bool false ∧ Below wr.heap.size wr wx)
      case first =>
        by_cases hmem : (a, b) ∈ t
        · rw [decide_eq_true hmem] at hfm
          subst hfm
          have hk0 := hok.out
          rw [add_has hmem] at hk0
          subst hk0
          clear hmem hok hm hf RXr
          go_wp2_with fail
          go_meet
          case rel => exact ⟨rfl, Below.refl _ _⟩
        · rw [decide_eq_false hmem] at hfm
          subst hfm
          obtain ⟨k1, k2, k3⟩ := add_drawn HT.out ha2 hb2 hmem
          have hk0 := hok.out
          rw [k1] at hk0
          subst hk0
          have hmt : m = t.length + 1 := hm.out.symm.trans k2
          subst hmt
          go_wp2_with fail
          refine (w_ok RXr.out hm k3).mono ?_
          rintro e w7 ⟨rfl, hq⟩
          go_wp2_with fail
          go_meet
          case rel => exact ⟨rfl, hq⟩
      case rest =>
      obtain ⟨rfl, hq⟩ := hcut
      obtain ⟨w7, hw7⟩ : ∃ W, W = wc := ⟨_, rfl⟩
      subst hw7
      have RT7 := Lib.hid (RTr.out.below hq); have HB7 := Lib.hid (bthen HBr.out hq)
      clear hq RTr RXr HBr hok hm hf hfm
      go_wp2_with (at_builtin; first
        | (refine wpList_app_pairs' (l := []) (m := t) (.tmp 69) (.tmp 70) 42 41 rfl rfl Try.underlying42 notes_inf rfl (by decide) rfl rfl (own_emptyP 41) (by simp) (RT7.out.below (bnew (Below.refl _ _) _)) (by simp; omega) ?_; intro g1 d1 v1 O1 hb1)
        | (refine wpList_app_pairs (l := [] ++ t) (m := t) (.tmp 71) (.tmp 72) 42 41 rfl rfl Try.underlying42 notes_inf rfl (by decide) rfl rfl O1 (Nat.le_trans (bnew (Below.refl w7.heap.size w7) (.cells #[] 41)).size hb1.size) (RT7.out.below ((bnew (Below.refl _ _) _).trans hb1)) (by simp; omega) ?_; intro A2 d2 v2 O2 hb2 _))
      refine (w_sort HT.out (show RP v2 A2 (t ++ t) from O2.reads) (Lib.hid (by simp))).mono ?_
      rintro e V ⟨S, cS, rfl, RS9, hq⟩
      have RSV := Lib.hid RS9
      have HqV := Lib.hid (bthen (((bnew (Below.refl w7.heap.size w7) (.cells #[] 41)).trans hb1).trans hb2) hq)
      have RTV := Lib.hid (RT7.out.below HqV.out); have HBV := Lib.hid (bthen HB7.out HqV.out)
      clear RS9 hq hb1 hb2 O1 O2 RT7 HB7 HqV
      go_wp2
      go_loopw [11, 12] (fun v i wr => ∃ (K s : Nat), K ≤ 17 ∧ i = .int .i64 K ∧ v = .int .i64 s ∧ Hid (sumTo t t.length K = s) ∧ Below V.heap.size V wr) (fun _ i _ => 17 - (intOf i).toNat)
      case atStart => exact ⟨0, 0, by omega, rfl, rfl, rfl, Below.refl _ _⟩
      case round =>
        obtain ⟨K, s, hK, rfl, rfl, hs, hbel⟩ := hrel
        have HBr := Lib.hid hbel
        clear hbel
        by_cases hlt : K < 17
        · have hd : decide ((K : Int) ≤ 16) = true := decide_eq_true (by omega)
          obtain ⟨m2, hm2⟩ : ∃ m, Hid ((notesAt t (K : Int)).length = m) := ⟨_, rfl⟩
          have hs2 : Hid (sumTo t t.length (K + 1) = s + m2) := by show _ = _; rw [sum_step HT.out, hm2.out, hs.out]
          have hs3 : s + m2 ≤ 11 := by have := sum_le HT.out (show K + 1 ≤ 17 by omega); rw [hs2.out] at this; exact Nat.le_trans this h11
          go_wp2_with fail
          refine (w_at (RTV.out.below HBr.out) hm2).mono ?_
          rintro e v3 ⟨L, cL, rfl, RL, hq⟩
          have RL3 := Lib.hid RL; have HB3 := Lib.hid (bthen HBr.out hq)
          clear RL hq
          go_wp2
          go_loopw [14] (fun i wr => ∃ k : Nat, 1 ≤ k ∧ (k ≤ m2 ∨ k = 1) ∧ i = .int .i64 k ∧ Below v3.heap.size v3 wr) (fun i _ => m2 - (intOf i).toNat)
          case atStart => exact ⟨1, by omega, .inr rfl, rfl, Below.refl _ _⟩
          case round =>
            obtain ⟨k, h1, hk, rfl, hbel⟩ := hrel
            by_cases hlk : k < m2
            · have hlm : k < (notesAt t (K : Int)).length := by rw [hm2.out]; exact hlk
              obtain ⟨u, e1⟩ := int_of (notesAt t (K : Int)) k
              obtain ⟨v, e2⟩ := int_of (notesAt t (K : Int)) (k - 1)
              have hup := notes_up HT.out (K : Int) h1 hlm e1 e2
              obtain ⟨bl, ol, rfl, HP⟩ := RL3.out.2 (by omega)
              have m1 := HP.a1 hbel hlm e1
              have m3 := HP.a1 hbel (show k - 1 < _ by omega) e2
              clear HP hlm e1 e2
              go_wp2_with fail
              refine wp_region_after (by kernel_rfl) (by kernel_rfl) ?_
              repeat (go_big_quiet_step (fail))
              refine wpQuiet_nil ?_
              rintro _ ⟨⟨wq, hq⟩, rfl⟩
              replace hbel := bthen hbel hq
              clear hq
              clear m1 m3
              go_wp2
              go_roundw
              case rel => exact ⟨k + 1, by omega, .inl (by omega), by go_num, hbel⟩
              case measure => simp [intOf]; omega
            · have HB4 := Lib.hid (bthen HB3.out hbel)
              clear hbel HB3
              go_wp2
              go_roundw
              case rel => exact ⟨K + 1, s + m2, by omega, by go_num, by go_num, hs2, HB4.out⟩
              case measure => simp [intOf]; omega
        · have hd : decide ((K : Int) ≤ 16) = false := decide_eq_false (by omega)
          have hst : s = t.length := by
            have := sum_all HT.out t.length (Nat.le_refl _)
            rw [← this, ← hs.out, show K = 17 by omega]
          subst hst
          clear hs
          obtain ⟨lo, hlo⟩ : ∃ x, Hid (lowM t = x) := ⟨_, rfl⟩
          obtain ⟨hi, hhi⟩ : ∃ x, Hid (highM t = x) := ⟨_, rfl⟩
          go_wp2_with fail
          refine (w_range (RTV.out.below HBr.out) hlo hhi).mono ?_
          rintro e X ⟨rfl, hq⟩
          have HBX := Lib.hid (bthen HBV.out (bthen HBr.out hq))
          have RTX := Lib.hid (RTV.out.below (bthen HBr.out hq)); have RSX := Lib.hid (RSV.out.below (bthen HBr.out hq))
          clear hq HBr HBV RTV RSV
          go_wp2
          go_loopw [17] (fun i wr => ∃ k : Nat, k ≤ t.length ∧ i = .int .i64 k ∧ Below X.heap.size X wr) (fun i _ => t.length - (intOf i).toNat)
          case atStart => exact ⟨0, Nat.zero_le _, rfl, Below.refl _ _⟩
          case round =>
            obtain ⟨k, hk, rfl, hbel⟩ := hrel
            by_cases hlt : k < t.length
            · obtain ⟨x, y, e1⟩ := pair_of t k
              obtain ⟨_, _, hr⟩ := range_facts HT.out (show ¬ t.length = 0 by omega)
              obtain ⟨r1, r2⟩ := hr (x, y) (by rw [← e1.out]; exact mem_getD.1 ⟨k, hlt, rfl⟩)
              rw [hlo.out] at r1
              rw [hhi.out] at r2
              have r3 : ¬ y < lo := by simp only at r1; omega
              have r4 : ¬ hi < y := by simp only at r2; omega
              have r5 := decide_eq_false r3; have r6 := decide_eq_false r4
              clear r1 r2 hr
              obtain ⟨b1, o1, rfl, P1⟩ := RTX.out.2 (by omega)
              obtain ⟨b2, o2, rfl, P2⟩ := RSX.out.2 (by omega)
              have m1 := P1.a1 hbel hlt e1; have m2 := P1.a2 hbel hlt e1
              have m3 := P2.a1 hbel hlt e1; have m4 := P2.a2 hbel hlt e1
              clear P1 P2 e1
              go_wp2_with fail
              refine wp_region_after (by kernel_rfl) (by kernel_rfl) ?_
              repeat (go_big_quiet_step (fail))
              refine wpQuiet_nil ?_
              rintro _ ⟨⟨wq, hq⟩, rfl⟩
              replace hbel := bthen hbel hq
              clear hq
              clear m1 m2 m3 m4
              go_wp2
              go_roundw
              case rel => exact ⟨k + 1, by omega, by go_num, hbel⟩
              case measure => simp [intOf]; omega
            · obtain rfl : k = t.length := by omega
              have RTr := Lib.hid (RTX.out.below hbel)
              clear RSX hlt hk hhi
              by_cases h0 : t.length = 0
              · have q0 : decide (0 < t.length) = false := decide_eq_false (by omega)
                have q1 : ((t.length : Int) == 0) = true := by simp [h0]
                have hlo1 : lo = -1 := by rw [← hlo.out]; exact low_none h0
                subst hlo1
                clear hlo h0
                go_wp2_with fail
                refine wp_region_after (by kernel_rfl) (by kernel_rfl) ?_
                repeat (go_big_quiet_step (fail))
                refine wpQuiet_nil ?_
                rintro _ ⟨⟨wq, hq⟩, rfl⟩
                replace hbel := bthen hbel hq
                clear hq
                go_wp2_with fail
                refine (w_ok (RTX.out.below hbel) (Lib.hid rfl) HT.out.ok).mono ?_
                rintro e y1 ⟨rfl, hq1⟩
                go_wp2_with fail
                refine (w_sample).mono ?_
                rintro e y2 ⟨B9, d9, rfl, hq2⟩
                go_wp2
                go_ret
                exact ⟨rfl, bthen (bthen (bthen HBX.out hbel) hq1) hq2⟩
              · have q0 : decide (0 < t.length) = true := decide_eq_true (by omega)
                have q1 : ((t.length : Int) == 0) = false := beq_eq_false_iff_ne.2 (by omega)
                have hlo1 := low_some HT.out h0
                rw [hlo.out] at hlo1
                have q2 : (lo == -1) = false := by simp; omega
                obtain ⟨x, y, e1⟩ := pair_of t (t.length - 1)
                obtain ⟨x', y', e2⟩ := pair_of t 0
                have hl := lasts_eq HT.out h0
                have m1 := HT.out.mem (x, y) (by rw [← e1.out]; exact mem_getD.1 ⟨t.length - 1, by omega, rfl⟩)
                have m2 := HT.out.mem (x', y') (by rw [← e2.out]; exact mem_getD.1 ⟨0, by omega, rfl⟩)
                rw [e1.out, e2.out] at hl
                obtain ⟨⟨i1, i2⟩, _, _⟩ := m1
                obtain ⟨⟨i3, i4⟩, _, _⟩ := m2
                simp only at i1 i2 i3 i4 hl
                have E1 : IntKind.i64.wrap (x - x') = x - x' := wrap_small (by omega) (by omega)
                have hl' := Lib.hid hl
                obtain ⟨b1, o1, rfl, P1⟩ := RTX.out.2 (by omega)
                have c1 := P1.a1 hbel (show t.length - 1 < t.length by omega) e1
                have c2 := P1.z1 hbel (by omega) e2
                have n1 : 1 ≤ t.length := by omega
                clear hl P1 e1 e2 hlo hlo1
                go_wp2_with fail
                refine wp_region_after (by kernel_rfl) (by kernel_rfl) ?_
                repeat (go_big_quiet_step (first | (go_at_call 31; exact Calls.after_of (w_lasts (RTr.out.below (After.h _)) hl'.out))))
                refine wpQuiet_nil ?_
                rintro _ ⟨⟨wq, hq⟩, rfl⟩
                replace hbel := bthen hbel hq
                clear hq
                clear c1 c2 RTr
                go_wp2_with fail
                refine (w_ok (RTX.out.below hbel) (Lib.hid rfl) HT.out.ok).mono ?_
                rintro e y1 ⟨rfl, hq1⟩
                go_wp2_with fail
                refine (w_sample).mono ?_
                rintro e y2 ⟨B9, d9, rfl, hq2⟩
                go_wp2
                go_ret
                exact ⟨rfl, bthen (bthen (bthen HBX.out hbel) hq1) hq2⟩

set_option maxRecDepth 100000 in
theorem lifted (os : Os) (started : os.Started) (H : Type) (enc : TypeId × Value → H) :
    ReturnsInHanded {} Try.checked os 5 .any (Rows.fnTunesSpec.pre6 enc Try.prog Try.f5 Rows.fnTunesRow.domain false) (Rows.fnTunesSpec.post enc Try.prog Try.f5 false true false false) := by
  refine returnsInHanded_of_change (C := Try.checked) Try_own started (by kernel_rfl) Try.func5
    (ChangeSpec.witness6 (enc := enc) (C := Try.checked) false ⟨#[], #[.slice none 0 0], []⟩ 8 (by kernel_rfl) (by kernel_rfl) (by kernel_rfl) (by kernel_rfl)) ?_
  intro W base args ds gs before hval0 hW hcnd _
  have hval : ∀ (j : Nat) t v, Try.f5.params[j]? = some t → args[j]? = some v → Value.okWide Try.prog W .any base t v := hval0
  have hW' := hW
  obtain ⟨p, q, hA0, hV, rfl, hfz, hnd⟩ := hW
  have hA : DataW.TrodAll enc Try.prog W 0 (fun _ => true) true Try.f5.params.toList args.toList ds p := hA0
  rw [Try.params5] at hA hval
  obtain ⟨v0, vs0, d0, ds0, p0, q0, hargs, rfl, rfl, h0, r0⟩ := trodAll_cons hA
  obtain ⟨rfl, rfl, rfl⟩ := trodAll_nil r0
  obtain rfl : args = #[v0] := by cases args; simp_all
  obtain ⟨rfl, rfl⟩ := trodVars_none hV
  obtain ⟨A0, n0, c0, rfl⟩ := okWide_slice Try.underlying22 (hval 0 22 v0 rfl rfl)
  have k0 := h0
  have lt0 : ∀ x ∈ p0, x.block < W.heap.size := by obtain ⟨m, hm⟩ := k0; exact DataW.trod_lt m _ _ _ hm
  obtain ⟨l0, rfl, cm0, cl0, rd0⟩ := open_bytes_arg Try.underlying22 Try.underlying5 (by kernel_rfl) h0
  clear hA0 hval0
  refine (walk W A0 c0 l0 cm0 cl0 rd0).mono fun e W' ⟨he, bel⟩ => ?_
  subst he
  exact ⟨_, rfl, _, _, _, [], _, [], hW', trodAll_mk1 (shut_bool Try.underlying4 _), (trodAll_cons_mk (Below.trod Try_laidOut (by kernel_rfl) (of_decide_eq_true (by kernel_rfl)) k0 bel lt0) trodAll_mk0), rfl, bel.frame _, fun h => by cases h⟩

theorem over : Rows.fnTunesRow.holds Try.pinned (OpenSpec.ofChange Rows.fnTunesSpec) :=
  OpenClaim.holds_of_wide 5 Try.f5 rfl rfl rfl rfl rfl rfl rfl ⟨rfl, rfl, rfl, rfl, rfl⟩ rfl rfl rfl rfl rfl (by kernel_rfl) Try.func5 (by kernel_rfl)
    (of_decide_eq_true (by kernel_rfl)) (by unfold Func.isWrapper; first | (rw [if_pos (by decide +kernel)]; kernel_rfl) | (rw [if_neg (by decide +kernel)]; exact ⟨rfl, rfl⟩))
    (fun os started H enc _ => lifted os started H enc)

theorem proved : Rows.FnTunesSaid := over
end Go.Proofs.Ytakllloangpimaa.lawTunes
