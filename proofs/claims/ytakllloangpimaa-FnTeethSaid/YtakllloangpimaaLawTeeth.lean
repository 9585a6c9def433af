/- Whatever the bytes of the draw, the law FnTeeth answers true: as many teeth as are needed are enough, and one less is not. There are no conditions. -/
import Derived.Test.YtakllloangpimaaLawK
import Derived.Test.YtakllloangpimaaTthP
import Derived.Test.YtakllloangpimaaStepI
import Derived.Deep.RegionHeld3
namespace Go.Proofs.Ytakllloangpimaa.lawTeeth
open Go.ChangeShapes Go.WideShapes Go.ChangeAt Go.RowKit
set_option linter.unusedVariables false
theorem capI {e : TypeId} {lo hi : Nat} {w : World} {A : Option Addr} {c : Nat} {l : List Int} (h : OwnI e lo hi w A c l) : l.length ≤ c := by
  rcases h.row.2 with ⟨_, hn⟩ | ⟨g, cap, cur, hv, _, _, hc, _⟩
  · omega
  · injection hv with _ _ h3
    omega
section
variable {c : List Int} {t : List (Int × Int)} {r x : Int} {A B C : Option Addr} {n m ca cb cc : Nat} {w : World}
theorem w_need {N : List Int} (h : RP w B t) (hc : t.length ≤ cb) (hN : needed t r = N) (hl : N.length = 61) :
    Calls Try.prog 20 #[.slice B t.length cb, .int .i64 r] w fun e w' => ∃ D d, e = .returned (.slice D 61 d) ∧ RI w' D N ∧ Below w.heap.size w w' := by
  subst hN
  have := impl_TeethNeeded (rest := r) h hc
  rw [hl] at this
  exact this.mono fun e w' ⟨D, d, he, O, hq⟩ => ⟨D, d, he, O.reads, hq⟩
theorem w_least {L : List Int} {b : Bool} (h : RP w B t) (hc : t.length ≤ cb) (hL : leastL t r = L) (hb : leastOk t r = b) :
    Calls Try.prog 21 #[.slice B t.length cb, .int .i64 r] w fun e w' => ∃ D d, e = .returned (.tuple #[.slice D L.length d, .bool b]) ∧ L.length ≤ d ∧ RI w' D L ∧ Below w.heap.size w w' := by
  subst hL hb
  exact (impl_LeastComb h hc).mono fun e w' ⟨D, d, he, O, hq⟩ => ⟨D, d, he, capI O, O.reads, hq⟩
theorem w_long {k : Int} (h1 : RI w A c) (hn : n = c.length) (h2 : RP w B t) (hk : longestRest c t = k) :
    Calls Try.prog 22 #[.slice A n ca, .slice B t.length cb] w fun e w' => e = .returned (.int .i64 k) ∧ Below w.heap.size w w' := by
  subst hk hn
  exact impl_LongestRest h1 h2
theorem w_assign {L : List Int} (h1 : RI w A c) (hn : n = c.length) (h2 : RP w B t) (ho : assignOk c t x = true) (hL : assignL c t x = L) (hl : L.length = t.length) :
    Calls Try.prog 23 #[.slice A n ca, .slice B t.length cb, .int .i64 x] w fun e w' => ∃ D d, e = .returned (.tuple #[.slice D t.length d, .bool true]) ∧ RI w' D L ∧ Below w.heap.size w w' := by
  subst hn hL
  have := impl_AssignTeeth (rest := x) (ca := ca) (cb := cb) h1 h2
  rw [ho, hl] at this
  exact this.mono fun e w' ⟨D, d, he, O, hq⟩ => ⟨D, d, he, O.reads, hq⟩
theorem w_assignF (h1 : RI w A c) (hn : n = c.length) (h2 : RP w B t) (ho : assignOk c t x = false) :
    Calls Try.prog 23 #[.slice A n ca, .slice B t.length cb, .int .i64 x] w fun e w' => ∃ D k d, e = .returned (.tuple #[.slice D k d, .bool false]) ∧ Below w.heap.size w w' := by
  subst hn
  have := impl_AssignTeeth (rest := x) (ca := ca) (cb := cb) h1 h2
  rw [ho] at this
  exact this.mono fun e w' ⟨D, d, he, O, hq⟩ => ⟨D, _, d, he, hq⟩
theorem w_assigned {L : List Int} (h1 : RI w A c) (h2 : RP w B t) (h3 : RI w C L) (hm : m = L.length) (ho : isAssigned c t x L = true) :
    Calls Try.prog 24 #[.slice A c.length ca, .slice B t.length cb, .int .i64 x, .slice C m cc] w fun e w' => e = .returned (.bool true) ∧ Below w.heap.size w w' := by
  subst hm
  have := impl_IsAssigned (rest := x) (ca := ca) (cb := cb) (cc := cc) h1 h2 h3
  rwa [ho] at this
theorem w_teeth {p : Int} {k : Nat} (h : RI w A c) (hk : (teethOf c p).length = k) : Calls Try.prog 25 #[.slice A c.length ca, .int .i64 p] w fun e w' => ∃ D d, e = .returned (.slice D k d) ∧ Below w.heap.size w w' := by
  subst hk
  exact (spec_TeethOf h).mono fun e w' ⟨D, d, he, O, hq⟩ => ⟨D, d, he, hq⟩
theorem lit_one {W : World} {T : TypeId} : RI (W.alloc (.cells #[.int .i64 12] T)) (some ⟨W.heap.size, 0, none⟩) [12] := by
  have hh := heap_alloc_new W (.cells #[.int .i64 12] T)
  refine ⟨by simp, fun _ => ⟨W.heap.size, 0, rfl, by simp, fun j hj => ?_⟩⟩
  have : j = 0 := by simpa using hj
  subst this
  exact cell_of_row _ _ 0 _ _ _ hh
end
set_option maxRecDepth 100000 in
set_option maxHeartbeats 8000000 in
theorem walk (w : World) (A0 : Option Addr) (c0 : Nat) (l0 : List Int) (cm0 : c0 ≤ maxLen) (cl0 : l0.length ≤ c0) (rd0 : 0 < l0.length → ∃ b off, A0 = some ⟨b, off, none⟩ ∧ BytesAt w b off l0) :
    Calls Try.prog 4 #[.slice A0 l0.length c0] w fun e w' => e = .returned (.bool true) ∧ Below w.heap.size w w' := by
  by_cases zz : 1048576 < l0.length
  · go_enter Try.func4, Try.ntmps4
    go_wp2_with fail
    refine (laws_big).mono ?_
    rintro e w1 ⟨rfl, rfl⟩
    rw [decide_eq_true zz]
    go_wp2
    go_ret
    exact ⟨rfl, Below.refl _ _⟩
  have R : Hid (RB w A0 l0) := ⟨Nat.le_of_not_lt zz, rd0⟩
  clear rd0
  go_enter Try.func4, Try.ntmps4
  go_wp2_with fail
  refine (laws_big).mono ?_
  rintro e w1 ⟨rfl, rfl⟩
  rw [decide_eq_false zz]
  clear zz cm0 cl0
  go_wp2_with fail
  refine (spec_DrawTune R.out.ru).mono ?_
  rintro e w1 ⟨t, T, cT, rfl, ht, O, hb1⟩
  have HT := Lib.hid ht
  have HCAP := Lib.hid O.cap
  have RT1 := Lib.hid O.reads
  have HB1 := Lib.hid hb1
  have R1 := Lib.hid (R.out.below hb1)
  have ht11 := ht.len
  clear ht O hb1 R
  go_wp2_with fail
  refine (laws_at R1.out (by omega)).mono ?_
  rintro e w' ⟨rfl, rfl⟩
  have hx := atV_range R1.out 0
  generalize atV l0 0 = x0 at hx ⊢
  have E1 : x0.tmod 6 = x0 % 6 := Int.tmod_eq_emod_of_nonneg hx.1
  obtain ⟨q, hq⟩ : ∃ q : Int, Hid (x0 % 6 = q) := ⟨_, rfl⟩
  rw [hq.out] at E1
  have hq2 : 0 ≤ q ∧ q ≤ 5 := by have := hq.out; omega
  obtain ⟨r, hr⟩ : ∃ r : Int, 1 + q = r := ⟨_, rfl⟩
  have hr6 : 1 ≤ r ∧ r ≤ 6 := by omega
  clear hq hx
  go_wp2_with fail
  obtain ⟨N, hN⟩ : ∃ N, Hid (needed t r = N) := ⟨_, rfl⟩
  have hNl := Lib.hid (need_len HT.out hr6)
  rw [hN.out] at hNl
  have hr' := Lib.hid hr
  clear E1 hr hq2
  refine (w_need RT1.out HCAP.out hN.out hNl.out).mono ?_
  rintro e w2 ⟨D, d, rfl, hRN, hb⟩
  have RN2 := Lib.hid hRN
  have RT2 := Lib.hid (RT1.out.below hb)
  have HB2 := Lib.hid (bthen HB1.out hb)
  clear hRN hb RT1 HB1 R1
  by_cases h0 : t.length = 0
  · have q0 : decide (0 < t.length) = false := decide_eq_false (by omega)
    have hok := leastOk_eq HT.out hr6
    rw [q0] at hok
    obtain ⟨L, hL⟩ : ∃ L, Hid (leastL t r = L) := ⟨_, rfl⟩
    have HOK := Lib.hid hok
    have HL0 := Lib.hid (longest_none h0)
    clear h0 hok
    go_wp2_with fail
    refine (w_least RT2.out HCAP.out hL.out HOK.out).mono ?_
    rintro e w3 ⟨D3, d3, rfl, -, -, hb⟩
    have RT3 := Lib.hid (RT2.out.below hb)
    have HB3 := Lib.hid (bthen HB2.out hb)
    clear hb
    go_wp2_with fail
    have hbn := bnew (Below.refl w3.heap.size w3) (.cells #[.int .i64 12] 3)
    refine (w_long (c := [12]) lit_one rfl (RT3.out.below hbn) HL0.out).mono ?_
    rintro e w4 ⟨rfl, hb⟩
    have HB4 := Lib.hid (bthen HB3.out (bthen hbn hb))
    clear hb hbn
    go_wp2
    go_ret
    exact ⟨rfl, HB4.out⟩
  have q0 : decide (0 < t.length) = true := decide_eq_true (by omega)
  have hok := leastOk_eq HT.out hr6
  rw [q0] at hok
  have HOK := Lib.hid hok
  obtain ⟨c, hc⟩ : ∃ c, Hid (leastB N = c) := ⟨_, rfl⟩
  have hck := least_ok HT.out hr6 h0
  rw [hN.out, hc.out] at hck
  have HCK := Lib.hid hck
  have hLc : Hid (leastL t r = c) := by
    show leastC (needed t r) = c
    rw [hN.out]
    unfold leastC
    rw [hc.out, if_pos hck]
  have hen := enough HT.out hr6 h0
  rw [hN.out, hc.out] at hen
  have HEN := Lib.hid hen
  have hle := least_len HT.out hr6
  rw [hN.out, hc.out] at hle
  have hsum : Hid (c.length = sumN N 61) := hle.1
  have hcl : c.length ≤ 11 := by have := hle.2; omega
  have hnot : Hid (∀ k, k < c.length → assignOk (c.take k ++ c.drop (k + 1)) t r = false) := fun k hk => by
    have := not_less HT.out hr6 (k := k)
    rw [hN.out, hc.out] at this
    exact this hk
  have htn : Hid (∀ p : Nat, p < 61 → ((teethOf c (p : Int)).length : Int) = N.getD p 0) := fun p hp => by
    have := teeth_need HT.out hr6 h0 hp
    rwa [hN.out, hc.out] at this
  obtain ⟨a, ha⟩ : ∃ a, Hid (assignL c t r = a) := ⟨_, rfl⟩
  obtain ⟨g1, g2⟩ := assigned_ok hen
  rw [ha.out] at g1 g2
  have HG1 := Lib.hid g1; have HG2 := Lib.hid g2
  obtain ⟨L, l1, l2, l3, l4, l5⟩ := longest_facts hr6 hen
  have HL1 := Lib.hid l1; have HL4 := Lib.hid l4; have HL5 := Lib.hid l5
  obtain ⟨a2, ha2⟩ : ∃ a, Hid (assignL c t (L : Int) = a) := ⟨_, rfl⟩
  have hg3 := (assigned_ok l4).2
  rw [ha2.out] at hg3
  have HG3 := Lib.hid hg3
  have hsle : Hid (∀ P, P ≤ 61 → sumN N P ≤ 11) := fun P hP => by
    have h1 := sum_le_P HT.out hr6 P hP
    have h2 := sumP_le HT.out P t.length (Nat.le_refl _)
    rw [hN.out] at h1
    omega
  have hnn : Hid (∀ p, p < 61 → 0 ≤ N.getD p 0) := fun p hp => by
    have := need_nonneg HT.out hr6 hp
    rwa [hN.out] at this
  clear hok hck hen hle g1 g2 l1 l4 l5 hg3
  go_wp2_with fail
  refine (w_least RT2.out HCAP.out hLc.out HOK.out).mono ?_
  rintro e w3 ⟨C, cc, rfl, hcc, hRC, hb⟩
  have RC3 := Lib.hid hRC
  have RT3 := Lib.hid (RT2.out.below hb)
  have RN3 := Lib.hid (RN2.out.below hb)
  have HB3 := Lib.hid (bthen HB2.out hb)
  clear hb hRC RT2 RN2 HB2
  go_wp2_with fail
  refine (w_assign RC3.out rfl RT3.out HEN.out ha.out HG2.out).mono ?_
  rintro e w4 ⟨D4, d4, rfl, hRA, hb⟩
  have RA4 := Lib.hid hRA
  have RC4 := Lib.hid (RC3.out.below hb)
  have RT4 := Lib.hid (RT3.out.below hb)
  have RN4 := Lib.hid (RN3.out.below hb)
  have HB4 := Lib.hid (bthen HB3.out hb)
  clear hb hRA RC3 RT3 RN3 HB3
  go_wp2_with fail
  refine (w_assigned RC4.out RT4.out RA4.out HG2.out.symm HG1.out).mono ?_
  rintro e X ⟨rfl, hb⟩
  have RC := Lib.hid (RC4.out.below hb)
  have RT := Lib.hid (RT4.out.below hb)
  have RN := Lib.hid (RN4.out.below hb)
  have HBX := Lib.hid (bthen HB4.out hb)
  clear hb RA4 RC4 RT4 RN4 HB4
  go_wp2
  go_loopw [10] (fun i wr => ∃ k : Nat, k ≤ c.length ∧ i = .int .i64 k ∧ Below X.heap.size X wr) (fun i _ => c.length - (intOf i).toNat)
  case atStart => exact ⟨0, Nat.zero_le _, rfl, Below.refl _ _⟩
  case round =>
    obtain ⟨k, hk, rfl, hbel⟩ := hrel
    by_cases hlt : k < c.length
    · have HBr := Lib.hid hbel
      have RCr := RC.out.below hbel
      have RTr := Lib.hid (RT.out.below hbel)
      have HN := Lib.hid (hnot.out k hlt)
      obtain ⟨b, off, rfl, hP⟩ := RC.out.2 (by omega)
      clear hP hbel
      obtain ⟨m, hm⟩ : ∃ m : Nat, m = k + 1 := ⟨_, rfl⟩
      have hmc : Hid (m = k + 1) := hm
      rw [← hm] at HN
      have DB1 : Hid (Below wr.heap.size wr (wr.alloc (.cells #[] 3)).drew) := (bnew (Below.refl _ _) _).drew
      have F1 : Hid (OwnI 3 wr.heap.size (wr.heap.size + 1) (wr.alloc (.cells #[] 3)).drew (some ⟨wr.heap.size, 0, none⟩) 0 []) := (own_emptyAt (W := wr) 3 rfl).c.drew.i (by simp)
      have L1 : Hid (wr.heap.size ≤ ((wr.alloc (.cells #[] 3)).drew).heap.size) := DB1.out.size
      have HF : Hid (RI (wr.alloc (.cells #[] 3)).drew (some ⟨b, off, none⟩) (c.take k)) := (RCr.front (by omega)).below DB1.out
      obtain ⟨AD, hAD⟩ : ∃ AD : Addr, AD = if cc = m then ⟨b, off, none⟩ else ⟨b, off + m, none⟩ := ⟨_, rfl⟩
      have hX63 : Hid ((if cc = m then some (⟨b, off, none⟩ : Addr) else some ⟨b, off + m, none⟩) = some AD) := by
        show _ = _
        rw [hAD]; split <;> rfl
      have HBk : Hid (∀ W, Below wr.heap.size wr W → RI W (some AD) (c.drop m)) := fun W h => by
        by_cases hda : cc = m
        · exact ⟨by rw [List.length_drop]; omega, fun hl => by rw [List.length_drop] at hl; omega⟩
        · rw [hAD, if_neg hda]; exact (RCr.back (by omega)).below h
      have hl1 : (c.take k).length = k := by rw [List.length_take]; omega
      have len0 : Hid ((c.take k).length = k) := hl1
      have len1 : Hid (([] ++ c.take k).length = k) := by show _ = _; rw [List.nil_append]; exact hl1
      have lenz : Hid (0 + k = k) := Nat.zero_add k
      have hbn : Hid (k ≤ 1048576) := Lib.hid (by omega)
      have len2 : Hid ((c.drop m).length = c.length - m) := by show _ = _; rw [List.length_drop]
      have lenr : Hid (k + (c.length - m) = c.length - 1) := by show _ = _; omega
      have hbd : Hid (c.length - 1 ≤ 1048576) := Lib.hid (by omega)
      have hln2 : Hid (c.length - 1 = (c.take k ++ c.drop m).length) := by show _ = _; rw [List.length_append, hl1, len2.out]; omega
      have hdr := Lib.hid ((Below.refl wr.heap.size wr).drew)
      clear hAD RCr hl1
      have E1 : IntKind.i64.wrap ((k : Int) + 1) = (m : Int) := by simp [IntKind.wrap, IntKind.bits, IntKind.signed]; omega
      have i1 : (0 : Int) ≤ (k : Int) := by omega
      have i2 : (k : Int) ≤ (cc : Int) := by omega
      have i3 : (0 : Int) ≤ (m : Int) := by omega
      have i4 : (m : Int) ≤ (c.length : Int) := by omega
      have i5 : (c.length : Int) ≤ (cc : Int) := by omega
      have hk0 : ¬ (k : Int) < 0 := by omega
      clear hm
      have hX := hX63.out
      go_wp2_with fail
      go_region_held3 (fun _ => True) (trivial) (first
        | (have hmk := hbq1; refine step_app_ints (ad := AD) (l := [] ++ c.take k) (m := c.drop m) (c2 := cc - m) (.tmp 81) (.tmp 85) 33 3 rfl rfl Try.underlying33 int_info rfl (Nat.le_of_ble_eq_true rfl) rfl rfl (Lib.hid rfl) len1 len2 lenr O5 hq5 (HBk.out _ hbq1) hbd.out ?_; intro g6 d6 w6 O6 hb6; have hbq2 := hbq1.trans hb6)
        | (refine step_app_ints (ad := ⟨b, off, none⟩) (l := []) (m := c.take k) (c2 := cc) (.tmp 77) (.tmp 80) 33 3 rfl rfl Try.underlying33 int_info rfl (Nat.le_of_ble_eq_true rfl) rfl rfl (Lib.hid rfl) (Lib.hid rfl) len0 lenz F1.out L1.out HF.out hbn.out ?_; intro g5 d5 w5 O5 hb5; have hbq1 := DB1.out.trans hb5; have hq5 := Nat.le_trans L1.out hb5.size))
      all_goals
        rw [List.nil_append] at O6
        have RL6 := Lib.hid O6.reads
        have HB6 := Lib.hid (bthen HBr.out hbq2)
        have RT6 := Lib.hid (RTr.out.below hbq2)
        clear hX hX63 HBk HF hdr DB1 F1 L1 len0 len1 E1 O6 O5 hbq1 hbq2 hq5 hb5 hb6
        go_wp2_with fail
        refine (w_assignF RL6.out hln2.out RT6.out HN.out).mono ?_
        rintro e w7 ⟨D7, k7, d7, rfl, hb⟩
        have HB7 := Lib.hid (bthen HB6.out hb)
        clear hb
        go_wp2
        go_roundw
        case rel => exact ⟨k + 1, by omega, by go_num, HB7.out⟩
        case measure => simp [intOf]; omega
    · have HBr := Lib.hid hbel
      clear hbel
      go_wp2
      go_loopw [14, 15] (fun s i wr => ∃ P m : Nat, P ≤ 61 ∧ i = .int .i64 P ∧ s = .int .i64 m ∧ Hid (sumN N P = m) ∧ Below X.heap.size X wr) (fun _ i _ => 61 - (intOf i).toNat)
      case atStart => exact ⟨0, 0, by omega, rfl, rfl, rfl, HBr.out⟩
      clear HBr
      case round =>
        obtain ⟨P, m, hP, rfl, rfl, hm, hbel⟩ := hrel
        have HBl := Lib.hid hbel
        by_cases hlt2 : P < 61
        · have hd : decide ((P : Int) ≤ 60) = true := decide_eq_true (by omega)
          have hPl : P < N.length := by rw [hNl.out]; exact hlt2
          obtain ⟨v, e1⟩ := int_of N P
          have hv := hnn.out P hlt2
          have htv := htn.out P hlt2
          rw [e1.out] at hv htv
          obtain ⟨y, rfl⟩ : ∃ y : Nat, v = (y : Int) := ⟨v.toNat, by omega⟩
          have hty : Hid ((teethOf c (P : Int)).length = y) := by show _ = _; omega
          have hm2 : Hid (sumN N (P + 1) = m + y) := by
            show sumN N P + (N.getD P 0).toNat = _
            rw [hm.out, e1.out, Int.toNat_natCast]
          have hmy : m + y ≤ 11 := by have := hsle.out (P + 1) (by omega); rw [hm2.out] at this; exact this
          obtain ⟨bn, on, rfl, PN⟩ := RN.out.2 (by omega)
          have m1 := PN.c1 hbel hPl e1
          have HK : Hid (∀ W, Below wr.heap.size wr W → W.cell? ⟨bn, on + P, none⟩ = some (.int .i64 (y : Int))) := fun W h => cell_later m1 h
          have hdr := Lib.hid ((Below.refl wr.heap.size wr).drew)
          have RCd := Lib.hid (RC.out.below (bthen hbel hdr.out))
          have i61 : (P : Int) < 61 := by omega
          clear htv e1 PN hbel hPl hv
          go_wp2_with fail
          clear m1
          go_region_held3 (fun W => W.cell? ⟨bn, on + P, none⟩ = some (.int .i64 (y : Int))) (first | exact HK.out _ hq5 | exact HK.out _ hdr.out | go_keep) (first
            | (go_at_call 25; refine (w_teeth RCd.out hty.out).mono ?_; rintro e w6 ⟨D3, d3, rfl, hq3⟩; have hq5 := hdr.out.trans hq3))
          all_goals
            have HB6 := Lib.hid (bthen HBl.out hq5)
            clear HK hdr RCd hq3 hq5
            go_wp2
            go_roundw
            case rel => exact ⟨P + 1, m + y, by omega, by go_num, by go_num, hm2, HB6.out⟩
            case measure => simp [intOf]; omega
        · have hd : decide ((P : Int) ≤ 60) = false := decide_eq_false (by omega)
          have hml : m = c.length := by
            rw [hsum.out, ← hm.out, show P = 61 by omega]
          subst hml
          clear hm hbel
          go_wp2_with fail
          refine (w_long (RC.out.below HBl.out) rfl (RT.out.below HBl.out) HL1.out).mono ?_
          rintro e w4 ⟨rfl, hb⟩
          have HB4 := Lib.hid (bthen HBl.out hb)
          clear hb
          go_wp2_with fail
          refine (w_assign (RC.out.below HB4.out) rfl (RT.out.below HB4.out) HL4.out ha2.out HG3.out).mono ?_
          rintro e w5 ⟨D5, d5, rfl, -, hb⟩
          have HB5 := Lib.hid (bthen HB4.out hb)
          clear hb
          go_wp2_with fail
          refine (w_assignF (RC.out.below HB5.out) rfl (RT.out.below HB5.out) HL5.out).mono ?_
          rintro e w6 ⟨D6, k6, d6, rfl, hb⟩
          have HB6 := Lib.hid (bthen HBX.out (bthen HB5.out hb))
          clear hb
          go_wp2
          go_ret
          exact ⟨rfl, HB6.out⟩

set_option maxRecDepth 100000 in
theorem lifted (os : Os) (started : os.Started) (H : Type) (enc : TypeId × Value → H) :
    ReturnsInHanded {} Try.checked os 4 .any (Rows.fnTeethSpec.pre6 enc Try.prog Try.f4 Rows.fnTeethRow.domain false) (Rows.fnTeethSpec.post enc Try.prog Try.f4 false true false false) := by
  refine returnsInHanded_of_change (C := Try.checked) Try_own started (by kernel_rfl) Try.func4
    (ChangeSpec.witness6 (enc := enc) (C := Try.checked) false ⟨#[], #[.slice none 0 0], []⟩ 8 (by kernel_rfl) (by kernel_rfl) (by kernel_rfl) (by kernel_rfl)) ?_
  intro W base args ds gs before hval0 hW hcnd _
  have hval : ∀ (j : Nat) t v, Try.f4.params[j]? = some t → args[j]? = some v → Value.okWide Try.prog W .any base t v := hval0
  have hW' := hW
  obtain ⟨p, q, hA0, hV, rfl, hfz, hnd⟩ := hW
  have hA : DataW.TrodAll enc Try.prog W 0 (fun _ => true) true Try.f4.params.toList args.toList ds p := hA0
  rw [Try.params4] at hA hval
  obtain ⟨v0, vs0, d0, ds0, p0, q0, hargs, rfl, rfl, h0, r0⟩ := trodAll_cons hA
  obtain ⟨rfl, rfl, rfl⟩ := trodAll_nil r0
  obtain rfl : args = #[v0] := by cases args; simp_all
  obtain ⟨rfl, rfl⟩ := trodVars_none hV
  obtain ⟨A0, n0, c0, rfl⟩ := okWide_slice Try.underlying22 (hval 0 22 v0 rfl rfl)
  have k0 := h0
  have lt0 : ∀ x ∈ p0, x.block < W.heap.size := by obtain ⟨m, hm⟩ := k0; exact DataW.trod_lt m _ _ _ hm
  obtain ⟨l0, rfl, cm0, cl0, rd0⟩ := open_bytes_arg Try.underlying22 Try.underlying5 (by kernel_rfl) h0
  clear hA0 hval0
  refine (walk W A0 c0 l0 cm0 cl0 rd0).mono fun e W' ⟨he, bel⟩ => ?_
  subst he
  exact ⟨_, rfl, _, _, _, [], _, [], hW', trodAll_mk1 (shut_bool Try.underlying4 _), (trodAll_cons_mk (Below.trod Try_laidOut (by kernel_rfl) (of_decide_eq_true (by kernel_rfl)) k0 bel lt0) trodAll_mk0), rfl, bel.frame _, fun h => by cases h⟩

theorem over : Rows.fnTeethRow.holds Try.pinned (OpenSpec.ofChange Rows.fnTeethSpec) :=
  OpenClaim.holds_of_wide 4 Try.f4 rfl rfl rfl rfl rfl rfl rfl ⟨rfl, rfl, rfl, rfl, rfl⟩ rfl rfl rfl rfl rfl (by kernel_rfl) Try.func4 (by kernel_rfl)
    (of_decide_eq_true (by kernel_rfl)) (by unfold Func.isWrapper; first | (rw [if_pos (by decide +kernel)]; kernel_rfl) | (rw [if_neg (by decide +kernel)]; exact ⟨rfl, rfl⟩))
    (fun os started H enc _ => lifted os started H enc)

theorem proved : Rows.FnTeethSaid := over
end Go.Proofs.Ytakllloangpimaa.lawTeeth
