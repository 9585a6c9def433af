/- Whatever the bytes of the draw, the law FnCombs answers true: a tune can be played just if no pitch is missing, and the best move misses the fewest. There are no conditions. -/
import Derived.Test.YtakllloangpimaaLawK
import Derived.Test.YtakllloangpimaaDrawB
import Derived.Deep.RegionHeld3
namespace Go.Proofs.Ytakllloangpimaa.lawCombs
open Go.ChangeShapes Go.WideShapes Go.ChangeAt Go.RowKit
set_option linter.unusedVariables false
section
variable {c : List Int} {t : List (Int × Int)} {A B : Option Addr} {n m ca cb : Nat} {w : World}
theorem w_miss {L : List Int} {k : Nat} (h1 : RI w A c) (h2 : RP w B t) (hn : n = c.length) (hm : m = t.length) (hL : missing c t = L) (hk : L.length = k) :
    Calls Try.prog 34 #[.slice A n ca, .slice B m cb] w fun e w' => ∃ D d, e = .returned (.slice D k d) ∧ RI w' D L ∧ Below w.heap.size w w' := by
  subst hn hm hL hk
  exact (impl_MissingPitches h1 h2).mono fun e w' ⟨D, d, he, O, hq⟩ => ⟨D, d, he, O.reads, hq⟩
theorem w_best {x : Int} {N : Nat} (h1 : RI w A c) (h2 : RP w B t) (e1 : bestBy c t = x) (e2 : bestN c t = (N : Int)) :
    Calls Try.prog 35 #[.slice A c.length ca, .slice B t.length cb] w fun e w' => e = .returned (.tuple #[.int .i64 x, .int .i64 (N : Int)]) ∧ Below w.heap.size w w' := by
  have := impl_BestMove (ca := ca) (cb := cb) h1 h2
  rwa [e1, e2] at this
theorem w_play {b : Bool} (h1 : RI w A c) (h2 : RP w B t) (hn : n = c.length) (hb : canPlay c t = b) :
    Calls Try.prog 36 #[.slice A n ca, .slice B t.length cb] w fun e w' => e = .returned (.bool b) ∧ Below w.heap.size w w' := by
  subst hn hb
  exact impl_CanPlay h1 h2
theorem w_up {x : Int} {u : List (Int × Int)} {k : Nat} {b : Bool} (h : RP w B t) (hu : upL t x = u) (hk : u.length = k) (hb : upOk t x = b) :
    Calls Try.prog 37 #[.slice B t.length cb, .int .i64 x] w fun e w' => ∃ D d, e = .returned (.tuple #[.slice D k d, .bool b]) ∧ RP w' D u ∧ Below w.heap.size w w' := by
  subst hu hk hb
  exact (impl_Higher h).mono fun e w' ⟨D, d, he, O, hq⟩ => ⟨D, d, he, O.reads, hq⟩
theorem w_upS {x : Int} {u : List (Int × Int)} {k : Nat} {b : Bool} (h : RP w B t) (hu : upL t x = u) (hk : u.length = k) (hb : upOk t x = b) :
    Calls Try.prog 38 #[.slice B t.length cb, .int .i64 x] w fun e w' => ∃ D d, e = .returned (.tuple #[.slice D k d, .bool b]) ∧ RP w' D u ∧ Below w.heap.size w w' := by
  subst hu hk hb
  exact (spec_Higher h).mono fun e w' ⟨D, d, he, O, hq⟩ => ⟨D, d, he, O.reads, hq⟩
theorem w_teeth {p : Int} {k : Nat} (h : RI w A c) (hk : (teethOf c p).length = k) : Calls Try.prog 39 #[.slice A c.length ca, .int .i64 p] w fun e w' => ∃ D d, e = .returned (.slice D k d) ∧ Below w.heap.size w w' := by
  subst hk
  exact (impl_TeethOf h).mono fun e w' ⟨D, d, he, O, hq⟩ => ⟨D, d, he, hq⟩
theorem w_combOk (h : RI w A c) (hn : n = c.length) (hk : combOk c = true) : Calls Try.prog 41 #[.slice A n ca] w fun e w' => e = .returned (.bool true) ∧ Below w.heap.size w w' := by
  subst hn
  have := impl_CombOk (c := ca) h
  rwa [hk] at this
theorem w_for {L : List Int} {k : Nat} {b : Bool} (h : RT w B [t]) (hL : combForL [t] = L) (hk : L.length = k) (hb : combForOk [t] = b) : Calls Try.prog 40 #[.slice B 1 cb] w fun e w' => ∃ D d, e = .returned (.tuple #[.slice D k d, .bool b]) ∧ RI w' D L ∧ Below w.heap.size w w' := by
  subst hL hk hb
  exact (impl_CombFor h).mono fun e w' ⟨D, d, he, O, hq⟩ => ⟨D, d, he, O.reads, hq⟩
theorem w_has {x : Int} {L : List Int} {b : Bool} (h : RI w A L) (hm : m = L.length) (hx : decide (x ∈ L) = b) : Calls Try.prog 16 #[.slice A m ca, .int .i64 x] w fun e w' => e = .returned (.bool b) ∧ w = w' := by
  have := laws_has (c := ca) (x := x) h hm
  rwa [hx] at this
end
set_option maxRecDepth 100000 in
set_option maxHeartbeats 8000000 in
theorem walk (w : World) (A0 : Option Addr) (c0 : Nat) (l0 : List Int) (cm0 : c0 ≤ maxLen) (cl0 : l0.length ≤ c0) (rd0 : 0 < l0.length → ∃ b off, A0 = some ⟨b, off, none⟩ ∧ BytesAt w b off l0) :
    Calls Try.prog 6 #[.slice A0 l0.length c0] w fun e w' => e = .returned (.bool true) ∧ Below w.heap.size w w' := by
  by_cases zz : 1048576 < l0.length
  · go_enter Try.func6, Try.ntmps6
    go_wp2_with fail
    refine (laws_big).mono ?_
    rintro e w1 ⟨rfl, rfl⟩
    rw [decide_eq_true zz]
    go_wp2
    go_ret
    exact ⟨rfl, Below.refl _ _⟩
  have R : Hid (RB w A0 l0) := ⟨Nat.le_of_not_lt zz, rd0⟩
  clear rd0
  go_enter Try.func6, Try.ntmps6
  go_wp2_with fail
  refine (laws_big).mono ?_
  rintro e w1 ⟨rfl, rfl⟩
  rw [decide_eq_false zz]
  clear zz cm0 cl0
  go_wp2_with fail
  refine (spec_DrawComb R.out.ru).mono ?_
  rintro e w1 ⟨c, t, A, B, ca, cb, rfl, hc, ht, hA, hB, hb1⟩
  have HC := Lib.hid hc
  have HT := Lib.hid ht
  have RA1 := Lib.hid hA; have RB1 := Lib.hid hB
  have HB1 := Lib.hid hb1
  have hc24 := (combOk_length hc).2
  have ht11 := ht.len
  obtain ⟨x, N, bp1, bp2, ⟨bx1, bx2⟩, hNm, bup, bmiss, bleast⟩ := best_parts hc ht
  obtain ⟨M, hM⟩ : ∃ M, Hid (missing c t = M) := ⟨_, rfl⟩
  obtain ⟨j, hj⟩ : ∃ j, Hid (M.length = j) := ⟨_, rfl⟩
  rw [hM.out, hj.out] at hNm
  have BP1 := Lib.hid bp1; have BP2 := Lib.hid bp2; have BUP := Lib.hid bup; have BMI := Lib.hid bmiss; have BLE := Lib.hid bleast
  have hplay : Hid (canPlay c t = (M.isEmpty)) := by show _ = _; rw [canPlay_eq hc ht, hM.out]
  obtain ⟨pl, hpl⟩ : ∃ b, Hid (M.isEmpty = b) := ⟨_, rfl⟩
  have hpe := empty_eq hpl.out
  rw [hj.out] at hpe
  have hpe' := Lib.hid hpe
  have hj61 : j ≤ 61 := by
    rw [← hj.out, ← hM.out]
    unfold missing
    split
    · exact length_listTo _ 61
    · simp
  rw [hpl.out] at hplay
  clear hc ht hA hB hb1 bp1 bp2 bup bmiss bleast R hpe
  go_wp2_with fail
  refine (w_miss RA1.out RB1.out rfl rfl hM.out hj.out).mono ?_
  rintro e w2 ⟨D, d, rfl, hRM, hq⟩
  have RM2 := Lib.hid hRM
  have HB2 := Lib.hid (bthen HB1.out hq)
  have hqq := Lib.hid hq
  clear hRM hq
  go_wp2_with fail
  refine (w_best (RA1.out.below hqq.out) (RB1.out.below hqq.out) BP1.out BP2.out).mono ?_
  rintro e w3 ⟨rfl, hq⟩
  have RM3 := Lib.hid (RM2.out.below hq)
  have RA3 := Lib.hid (RA1.out.below (bthen hqq.out hq))
  have RB3 := Lib.hid (RB1.out.below (bthen hqq.out hq))
  have HB3 := Lib.hid (bthen HB2.out hq)
  clear hq hqq RM2 RA1 RB1 HB1 HB2
  go_wp2_with fail
  refine (w_play RA3.out RB3.out rfl hplay.out).mono ?_
  rintro e w4 ⟨rfl, hq⟩
  have RM4 := Lib.hid (RM3.out.below hq)
  have RA4 := Lib.hid (RA3.out.below hq)
  have RB4 := Lib.hid (RB3.out.below hq)
  have HB4 := Lib.hid (bthen HB3.out hq)
  clear hq RM3 RA3 RB3 HB3
  have hpe := hpe'.out
  obtain ⟨u, hu⟩ : ∃ u, Hid (upL t x = u) := ⟨_, rfl⟩
  obtain ⟨ul, hul⟩ : ∃ q, Hid (u.length = q) := ⟨_, rfl⟩
  have BMI2 : Hid ((missing c u).length = N) := by show _ = _; rw [← hu.out]; exact BMI.out
  go_wp2_with fail
  refine (w_up RB4.out hu.out hul.out BUP.out).mono ?_
  rintro e w5 ⟨U, cU, rfl, hRU, hq⟩
  have RU5 := Lib.hid hRU
  have HB5 := Lib.hid (bthen HB4.out hq)
  have RA5 := Lib.hid (RA4.out.below hq)
  have hq5 := Lib.hid hq
  clear hRU hq hpe
  go_wp2_with fail
  refine (w_miss RA5.out RU5.out rfl hul.out.symm rfl BMI2.out).mono ?_
  rintro e X ⟨D2, d2, rfl, -, hq⟩
  have RMX := Lib.hid (RM4.out.below (bthen hq5.out hq))
  have RAX := Lib.hid (RA4.out.below (bthen hq5.out hq))
  have RBX := Lib.hid (RB4.out.below (bthen hq5.out hq))
  have HBX := Lib.hid (bthen HB5.out hq)
  clear hq hq5 RM4 RA4 RB4 HB4 RU5 RA5 HB5 BMI BMI2 BUP BP1 BP2 hul hu
  go_wp2
  go_loopw [10] (fun i wr => ∃ dd : Int, -12 ≤ dd ∧ dd ≤ 13 ∧ i = .int .i64 dd ∧ Below X.heap.size X wr) (fun i _ => (13 - intOf i).toNat)
  case atStart => exact ⟨-12, by omega, by omega, rfl, Below.refl _ _⟩
  case round =>
    obtain ⟨dd, hd1, hd2, rfl, hbel⟩ := hrel
    have HBl := Lib.hid hbel
    clear hbel
    by_cases hlt : dd ≤ 12
    · obtain ⟨v, hv⟩ : ∃ u, Hid (upL t dd = u) := ⟨_, rfl⟩
      obtain ⟨vl, hvl⟩ : ∃ q, Hid (v.length = q) := ⟨_, rfl⟩
      obtain ⟨K, hK⟩ : ∃ q, Hid ((missing c v).length = q) := ⟨_, rfl⟩
      cases hok : upOk t dd
      · go_wp2_with fail
        refine (w_upS (RBX.out.below HBl.out) hv.out hvl.out hok).mono ?_
        rintro e w6 ⟨V, cV, rfl, hRV, hq⟩
        have HB6 := Lib.hid (bthen HBl.out hq)
        clear hq hRV
        go_wp2
        go_roundw
        case rel => exact ⟨dd + 1, by omega, by omega, by go_num, HB6.out⟩
        case measure => simp [intOf]; omega
      · have hNK : N ≤ K := by
          have := BLE.out dd hd1 hlt hok
          rwa [hv.out, hK.out] at this
        go_wp2_with fail
        refine (w_upS (RBX.out.below HBl.out) hv.out hvl.out hok).mono ?_
        rintro e w6 ⟨V, cV, rfl, hRV, hq⟩
        have HB6 := Lib.hid (bthen HBl.out hq)
        have RV6 := Lib.hid hRV
        clear hq hRV
        go_wp2_with fail
        refine (w_miss (RAX.out.below HB6.out) RV6.out rfl hvl.out.symm rfl hK.out).mono ?_
        rintro e w7 ⟨D3, d3, rfl, -, hq⟩
        have HB7 := Lib.hid (bthen HB6.out hq)
        clear hq
        go_wp2
        go_roundw
        case rel => exact ⟨dd + 1, by omega, by omega, by go_num, HB7.out⟩
        case measure => simp [intOf]; omega
    · go_wp2
      go_loopw [13, 14] (fun s i wr => ∃ K m : Nat, K ≤ 61 ∧ i = .int .i64 K ∧ s = .int .i64 m ∧ Hid (teethTo c c.length K = m) ∧ Below X.heap.size X wr) (fun _ i _ => 61 - (intOf i).toNat)
      case atStart => exact ⟨0, 0, by omega, rfl, rfl, rfl, HBl.out⟩
      clear HBl
      case round =>
        obtain ⟨K, m, hK, rfl, rfl, hm, hbel⟩ := hrel
        have HBl := Lib.hid hbel
        clear hbel
        by_cases hlt2 : K < 61
        · have hd : decide ((K : Int) ≤ 60) = true := decide_eq_true (by omega)
          obtain ⟨q, hq0⟩ : ∃ q, Hid ((teethOf c (K : Int)).length = q) := ⟨_, rfl⟩
          have hm2 : Hid (teethTo c c.length (K + 1) = m + q) := by show _ = _; rw [teeth_step HC.out, hm.out, hq0.out]
          have hmq : m + q ≤ 24 := by
            have := teeth_le HC.out (show K + 1 ≤ 61 by omega)
            rw [hm2.out] at this
            omega
          go_wp2_with fail
          refine (w_teeth (RAX.out.below HBl.out) hq0.out).mono ?_
          rintro e w6 ⟨D3, d3, rfl, hq⟩
          have HB6 := Lib.hid (bthen HBl.out hq)
          clear hq
          go_wp2
          go_roundw
          case rel => exact ⟨K + 1, m + q, by omega, by go_num, by go_num, hm2, HB6.out⟩
          case measure => simp [intOf]; omega
        · have hd : decide ((K : Int) ≤ 60) = false := decide_eq_false (by omega)
          have hml : m = c.length := by
            have := teeth_all HC.out c.length (Nat.le_refl _)
            rw [← hm.out, show K = 61 by omega]; exact this
          subst hml
          clear hm
          go_wp2
          go_loopw [15] (fun i wr => ∃ k : Nat, k ≤ t.length ∧ i = .int .i64 k ∧ Below X.heap.size X wr) (fun i _ => t.length - (intOf i).toNat)
          case atStart => exact ⟨0, Nat.zero_le _, rfl, HBl.out⟩
          clear HBl
          case round =>
            obtain ⟨k, hk, rfl, hbel⟩ := hrel
            by_cases hlt3 : k < t.length
            · obtain ⟨y, z, e1⟩ := pair_of t k
              have hmh := Lib.hid (miss_has HC.out HT.out hlt3 e1)
              rw [hM.out] at hmh
              obtain ⟨hp, hhp⟩ : ∃ b, Hid (hasP c z = b) := ⟨_, rfl⟩
              have hte := Lib.hid (teeth_none HC.out hhp.out)
              rw [hhp.out] at hmh
              obtain ⟨q, hq0⟩ : ∃ q, Hid ((teethOf c z).length = q) := ⟨_, rfl⟩
              rw [hq0.out] at hte
              have hte' := hte.out
              obtain ⟨bt, ot, rfl, PB⟩ := RBX.out.2 (by omega)
              have HP := Lib.hid PB
              have RAl := Lib.hid (RAX.out.below hbel)
              have RMl := Lib.hid (RMX.out.below hbel)
              have HBl := Lib.hid hbel
              have m2 := PB.c2 hbel hlt3 e1
              have HK : Hid (∀ W, Below wr.heap.size wr W → W.cell? ⟨bt, ot + k * 2 + 1, none⟩ = some (.int .i64 z)) := fun W h => cell_later m2 h
              have hdr := Lib.hid ((Below.refl wr.heap.size wr).drew)
              have RAd := Lib.hid (RAl.out.below hdr.out)
              clear PB e1 hbel
              go_wp2_with fail
              clear m2
              go_region_held3 (fun W => W.cell? ⟨bt, ot + k * 2 + 1, none⟩ = some (.int .i64 z)) (first | exact HK.out _ hq5 | exact HK.out _ hdr.out | go_keep) (first
                | (go_at_call 39; refine (w_teeth RAd.out hq0.out).mono ?_; rintro e w6 ⟨D3, d3, rfl, hq3⟩; have hq5 := hdr.out.trans hq3)
                | (go_at_call 16; refine (w_has (RMl.out.below hq5) hj.out.symm hmh.out).mono ?_; rintro e w' ⟨rfl, rfl⟩))
              all_goals
                have HB6 := Lib.hid (bthen HBl.out hq5)
                clear HK hdr RAd hq3 hq5
                go_wp2
                go_roundw
                case rel => exact ⟨k + 1, by omega, by go_num, HB6.out⟩
                case measure => simp [intOf]; omega
            · obtain rfl : k = t.length := by omega
              have RBl := Lib.hid (RBX.out.below hbel)
              have RAl := Lib.hid (RAX.out.below hbel)
              have HBl := Lib.hid (bthen HBX.out hbel)
              clear hbel
              go_wp2_with fail
              have hRT := tunes_one (cb := cb) RBl.out 42 (g := wr.heap.size) rfl
              have RT := Lib.hid hRT
              have hbn := bnew (Below.refl wr.heap.size wr) (.cells #[.slice B t.length cb] 42)
              have RBm := Lib.hid (RBl.out.below hbn)
              have RAm := Lib.hid (RAl.out.below hbn)
              have HBm := Lib.hid (bthen HBl.out hbn)
              clear hbn hRT RBl RAl HBl
              by_cases h0 : t.length = 0
              · obtain ⟨L, hL⟩ : ∃ L, Hid (combForL [t] = L) := ⟨_, rfl⟩
                obtain ⟨q, hq0⟩ : ∃ q, Hid (L.length = q) := ⟨_, rfl⟩
                have q0 : decide (0 < t.length) = false := decide_eq_false (by omega)
                refine (w_for RT.out hL.out hq0.out (combFor_none HT.out h0)).mono ?_
                rintro e w6 ⟨D3, d3, rfl, hRF, hq⟩
                have HB6 := Lib.hid (bthen HBm.out hq)
                have RA6 := Lib.hid (RAm.out.below hq)
                clear hq hRF h0
                go_wp2_with fail
                refine (w_combOk RA6.out rfl HC.out).mono ?_
                rintro e w7 ⟨rfl, hq⟩
                have HB7 := Lib.hid (bthen HB6.out hq)
                clear hq
                go_wp2
                go_ret
                exact ⟨rfl, HB7.out⟩
              · obtain ⟨f1, f2⟩ := combFor_some HT.out h0
                obtain ⟨L, hL⟩ : ∃ L, Hid (combL [t] = L) := ⟨_, rfl⟩
                obtain ⟨q, hq0⟩ : ∃ q, Hid (L.length = q) := ⟨_, rfl⟩
                have hpm := Lib.hid (play_made HT.out h0)
                rw [hL.out] at f2 hpm
                have F2 := Lib.hid f2
                have q0 : decide (0 < t.length) = true := decide_eq_true (by omega)
                refine (w_for RT.out ((combFor_yes f1).trans hL.out) hq0.out f1).mono ?_
                rintro e w6 ⟨D3, d3, rfl, hRF, hq⟩
                have HB6 := Lib.hid (bthen HBm.out hq)
                have RA6 := Lib.hid (RAm.out.below hq)
                have RB6 := Lib.hid (RBm.out.below hq)
                have RF6 := Lib.hid hRF
                clear hq hRF h0 f1 f2
                go_wp2_with fail
                refine (w_play RF6.out RB6.out hq0.out.symm hpm.out).mono ?_
                rintro e w7 ⟨rfl, hq⟩
                have HB7 := Lib.hid (bthen HB6.out hq)
                have RA7 := Lib.hid (RA6.out.below hq)
                have RF7 := Lib.hid (RF6.out.below hq)
                clear hq RA6 RB6 RF6
                go_wp2_with fail
                refine (w_combOk RF7.out hq0.out.symm F2.out).mono ?_
                rintro e w8 ⟨rfl, hq⟩
                have HB8 := Lib.hid (bthen HB7.out hq)
                have RA8 := Lib.hid (RA7.out.below hq)
                clear hq RA7 RF7
                go_wp2_with fail
                refine (w_combOk RA8.out rfl HC.out).mono ?_
                rintro e w9 ⟨rfl, hq⟩
                have HB9 := Lib.hid (bthen HB8.out hq)
                clear hq
                go_wp2
                go_ret
                exact ⟨rfl, HB9.out⟩

set_option maxRecDepth 100000 in
theorem lifted (os : Os) (started : os.Started) (H : Type) (enc : TypeId × Value → H) :
    ReturnsInHanded {} Try.checked os 6 .any (Rows.fnCombsSpec.pre6 enc Try.prog Try.f6 Rows.fnCombsRow.domain false) (Rows.fnCombsSpec.post enc Try.prog Try.f6 false true false false) := by
  refine returnsInHanded_of_change (C := Try.checked) Try_own started (by kernel_rfl) Try.func6
    (ChangeSpec.witness6 (enc := enc) (C := Try.checked) false ⟨#[], #[.slice none 0 0], []⟩ 8 (by kernel_rfl) (by kernel_rfl) (by kernel_rfl) (by kernel_rfl)) ?_
  intro W base args ds gs before hval0 hW hcnd _
  have hval : ∀ (j : Nat) t v, Try.f6.params[j]? = some t → args[j]? = some v → Value.okWide Try.prog W .any base t v := hval0
  have hW' := hW
  obtain ⟨p, q, hA0, hV, rfl, hfz, hnd⟩ := hW
  have hA : DataW.TrodAll enc Try.prog W 0 (fun _ => true) true Try.f6.params.toList args.toList ds p := hA0
  rw [Try.params6] at hA hval
  obtain ⟨v0, vs0, d0, ds0, p0, q0, hargs, rfl, rfl, h0, r0⟩ := trodAll_cons hA
  obtain ⟨rfl, rfl, rfl⟩ := trodAll_nil r0
  obtain rfl : args = #[v0] := by cases args; simp_all
  obtain ⟨rfl, rfl⟩ := trodVars_none hV
  obtain ⟨A0, n0, c0, rfl⟩ := okWide_slice Try.underlying22 (hval 0 22 v0 rfl rfl)
  have k0 := h0
  have lt0 : ∀ x ∈ p0, x.block < W.heap.size := by obtain ⟨m, hm⟩ := k0; exact DataW.trod_lt m _ _ _ hm
  obtain ⟨l0, rfl, cm0, cl0, rd0⟩ := open_bytes_arg Try.underlying22 Try.underlying5 (by kernel_rfl) h0
  clear hA0 hval0
  refine (walk W A0 c0 l0 cm0 cl0 rd0).mono fun e W' ⟨he, bel⟩ => ?_
  subst he
  exact ⟨_, rfl, _, _, _, [], _, [], hW', trodAll_mk1 (shut_bool Try.underlying4 _), (trodAll_cons_mk (Below.trod Try_laidOut (by kernel_rfl) (of_decide_eq_true (by kernel_rfl)) k0 bel lt0) trodAll_mk0), rfl, bel.frame _, fun h => by cases h⟩

theorem over : Rows.fnCombsRow.holds Try.pinned (OpenSpec.ofChange Rows.fnCombsSpec) :=
  OpenClaim.holds_of_wide 6 Try.f6 rfl rfl rfl rfl rfl rfl rfl ⟨rfl, rfl, rfl, rfl, rfl⟩ rfl rfl rfl rfl rfl (by kernel_rfl) Try.func6 (by kernel_rfl)
    (of_decide_eq_true (by kernel_rfl)) (by unfold Func.isWrapper; first | (rw [if_pos (by decide +kernel)]; kernel_rfl) | (rw [if_neg (by decide +kernel)]; exact ⟨rfl, rfl⟩))
    (fun os started H enc _ => lifted os started H enc)

theorem proved : Rows.FnCombsSaid := over
end Go.Proofs.Ytakllloangpimaa.lawCombs
