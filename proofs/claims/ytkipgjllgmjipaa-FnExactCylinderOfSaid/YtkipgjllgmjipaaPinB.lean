/- l06Put of the reference: a pin put at its place. (Printed by tools/genput.py.) -/
import Derived.Test.YtkipgjllgmjipaaSortP
import Derived.Test.YtkipgjllgmjipaaPull
import Derived.Test.YtkipgjllgmjipaaPinA
namespace Go.Proofs.Ytkipgjllgmjipaa
open Go.RowKit
set_option linter.unusedVariables false
theorem of_factP {p G : Prop} (h : p) (k : p → G) : G := k h
theorem pA (O : List (Int × Int)) (a : Nat) (h : a ≤ O.length) : Hid (([] ++ O.take a).length = a) := by
  show _ = _; rw [List.nil_append, List.length_take]; omega
theorem pB (O : List (Int × Int)) (a : Nat) (p : Int × Int) (h : a ≤ O.length) : Hid (([] ++ O.take a ++ [p]).length = a + 1) := by
  show _ = _; rw [List.length_append, (pA O a h).out]; rfl
theorem pC (O : List (Int × Int)) (a : Nat) : Hid ((O.drop a).length = O.length - a) := by
  show _ = _; rw [List.length_drop]
theorem pD (O : List (Int × Int)) (a : Nat) (h : a ≤ O.length) : Hid (a + 1 + (O.length - a) = O.length + 1) := by
  show _ = _; omega
def putNew (p : Int × Int) (O : List (Int × Int)) : Bool := decide ((insP p O).length = O.length + 1)
section
variable {O : List (Int × Int)} {a : Nat} {p : Int × Int}
theorem put_new (ha : a ≤ O.length) (h1 : Hid (∀ j, j < a → ltP (O.getD j (0, 0)) p)) (h2 : a < O.length → ¬ ltP (O.getD a (0, 0)) p) (h3 : ¬ (a < O.length ∧ O.getD a (0, 0) = p)) : Hid (O.take a ++ [p] ++ O.drop a = insP p O) := by
  show _ = _
  rw [insP_at ha h1.out h2, if_neg h3]
theorem put_old (ha : a < O.length) (h1 : Hid (∀ j, j < a → ltP (O.getD j (0, 0)) p)) (e2 : Hid (O.getD a (0, 0) = p)) : Hid (insP p O = O) := by
  show _ = _
  rw [insP_at (Nat.le_of_lt ha) h1.out (fun _ => by rw [e2.out]; exact ltP_irrefl p), if_pos ⟨ha, e2.out⟩]
theorem put_len (h : Hid (O.take a ++ [p] ++ O.drop a = insP p O)) : Hid ((insP p O).length = O.length + 1) := by
  show _ = _
  rw [← h.out, List.length_append, List.length_append, List.length_take, List.length_drop]
  simp only [List.length_cons, List.length_nil]
  omega
theorem put_same (h : Hid (insP p O = O)) : putNew p O = false := decide_eq_false (by rw [h.out]; omega)
theorem put_has (h : SP O) : putNew p O = !(decide (p ∈ O)) := by
  by_cases hm : p ∈ O
  · rw [decide_eq_true hm, put_same (sp_unique (sp_insP h) h fun x => by
      rw [mem_insP]
      constructor
      · rintro (e | e)
        · rw [e]; exact hm
        · exact e
      · exact fun e => .inr e)]
    rfl
  · rw [decide_eq_false hm]
    exact decide_eq_true (length_insP_new hm)
end
set_option maxHeartbeats 4000000 in
theorem spec_l06Put {x y : Int} {O : List (Int × Int)} {b off c : Nat} {w : World} (h : RP w (some ⟨b, off, none⟩) O) (hc : O.length ≤ c) (h1 : O.length + 1 ≤ 1048576) :
    Calls Try.prog 80 #[.slice (some ⟨b, off, none⟩) O.length c, .agg #[.int .i64 x, .int .i64 y]] w fun e w' => ∃ g d, e = .returned (.tuple #[.slice (some ⟨g, 0, none⟩) (insP (x, y) O).length d, .bool (putNew (x, y) O)]) ∧ OwnP 63 w.heap.size w'.heap.size w' (some ⟨g, 0, none⟩) d (insP (x, y) O) ∧ Below w.heap.size w w' := by
  have HR := Lib.hid h; clear h
  go_enter Try.func80, Try.ntmps80
  go_wp2
  generalize hW : World.alloc w _ = W1
  obtain ⟨hb1, zz, m0, m1⟩ := new2c hW
  clear hW
  have M0 : Hid (∀ W, Below w.heap.size w W → Below W1.heap.size W1 W → W.cell? ⟨w.heap.size, 0, none⟩ = some (.int .i64 x) ∧ W.cell? ⟨w.heap.size, 1, none⟩ = some (.int .i64 y)) := fun W _ h => ⟨cell_later m0 h, cell_later m1 h⟩
  clear m0 m1
  go_loopw [6] (fun i wr => ∃ at' : Nat, at' ≤ O.length ∧ i = .int .i64 at' ∧ Hid (∀ j, j < at' → ltP (O.getD j (0, 0)) (x, y)) ∧ Below w.heap.size w wr ∧ Below W1.heap.size W1 wr) (fun i _ => O.length - (intOf i).toNat)
  case atStart => exact ⟨0, Nat.zero_le _, rfl, fun j hj => absurd hj (by omega), hb1, Below.refl _ _⟩
  clear hb1
  case round =>
    obtain ⟨at', hat', rfl, hfr, hbel, hb1⟩ := hrel
    obtain ⟨p0, p1⟩ := M0.out wr hbel hb1
    by_cases hat : at' < O.length
    · obtain ⟨b', off', hAe, hP⟩ := HR.out.2 (by omega)
      injection hAe with hAe
      injection hAe with hA1 hA2 _
      subst hA1 hA2
      have HP := Lib.hid hP; clear hP
      obtain ⟨u, v, e2⟩ := pair_of O at'
      have x0 := cell_after p0 (Below.refl _ _)
      have x1 := cell_after p1 (Below.refl _ _)
      have c1 := HP.out.a1 hbel hat e2
      have c2 := HP.out.a2 hbel hat e2
      clear p0 p1
      cases hls : less2 v u y x
      case true =>
        go_wp2_with fail
        refine wp_region_after (by kernel_rfl) (by kernel_rfl) ?_
        repeat (go_big_quiet_step (first | (go_at_call 97; exact Calls.after_of (spec_l06Less))))
        refine wpQuiet_nil ?_
        rintro wq ⟨⟨_, hq⟩, rfl⟩
        replace hbel := bthen hbel hq
        replace hb1 := bthen hb1 hq
        clear hq c1 c2 x0 x1
        go_wp2
        go_roundw
        case rel => exact ⟨at' + 1, by omega, by go_num, fun j hj => by
          rcases Nat.lt_or_ge j at' with h | h
          · exact hfr.out j h
          · have : j = at' := by omega
            subst this; rw [e2.out]; exact less2_true hls, hbel, hb1⟩
        case measure => simp [intOf]; omega
      have hnl : Hid (¬ ltP (u, v) (x, y)) := less2_false hls
      go_wp2_with fail
      refine wp_region_after (by kernel_rfl) (by kernel_rfl) ?_
      repeat (go_big_quiet_step (first | (go_at_call 97; exact Calls.after_of (spec_l06Less))))
      refine wpQuiet_nil ?_
      rintro wq ⟨⟨_, hq⟩, rfl⟩
      replace hbel := bthen hbel hq
      replace hb1 := bthen hb1 hq
      clear hq c1 c2 x0 x1
      obtain ⟨p0, p1⟩ := M0.out wq hbel hb1
      have x0 := cell_after p0 (Below.refl _ _)
      have x1 := cell_after p1 (Below.refl _ _)
      have c1 := HP.out.a1 hbel hat e2
      have c2 := HP.out.a2 hbel hat e2
      clear p0 p1
      by_cases hx : u = x
      case neg =>
        have hput0 := put_new hat' hfr (fun _ => by rw [e2.out]; exact hnl.out) (fun h => hx (congrArg Prod.fst (e2.out.symm.trans h.2)))
        go_wp2_with fail
        refine wp_region_after (by kernel_rfl) (by kernel_rfl) ?_
        repeat (go_big_quiet_step (fail))
        refine wpQuiet_nil ?_
        rintro wN ⟨⟨_, hq⟩, rfl⟩
        replace hbel := bthen hbel hq
        replace hb1 := bthen hb1 hq
        clear hq c1 c2 x0 x1
        obtain ⟨k1, k2⟩ := M0.out wN hbel hb1
        have hdcap := hc
        have R0 := HR.out.below hbel
        have RF := R0.front (k := at') hat'
        have RB := R0.back (k := at') hat'
        have HF : Hid (∀ W, Below wN.heap.size wN W → RP W (some ⟨b, off, none⟩) (O.take at')) := fun W h => RF.below h
        obtain ⟨AD, hAD⟩ : ∃ AD : Addr, AD = if c = at' then ⟨b, off, none⟩ else ⟨b, off + at' * 2, none⟩ := ⟨_, rfl⟩
        have hX63 : Hid ((if c = at' then some (⟨b, off, none⟩ : Addr) else some ⟨b, off + at' * 2, none⟩) = some AD) := by
          show _ = _
          rw [hAD]; split <;> rfl
        have HBk : Hid (∀ W, Below wN.heap.size wN W → RP W (some AD) (O.drop at')) := fun W h => by
          by_cases hda : c = at'
          · exact ⟨by rw [List.length_drop]; omega, fun hl => by rw [List.length_drop] at hl; omega⟩
          · rw [hAD, if_neg hda]; exact RB.below h
        have HK : Hid (∀ W, Below wN.heap.size wN W → W.cell? ⟨w.heap.size, 0, none⟩ = some (.int .i64 x) ∧ W.cell? ⟨w.heap.size, 1, none⟩ = some (.int .i64 y) ∧ Below wN.heap.size wN W) := fun W h => ⟨cell_later k1 h, cell_later k2 h, h⟩
        clear R0 RF RB hAD
        have hdr := Lib.hid ((Below.refl wN.heap.size wN).drew)
        have D1 : Hid (Below wN.heap.size wN (wN.alloc (.cells #[] 63)).drew) := (bnew (Below.refl _ _) _).drew
        have D2 : Hid (Below wN.heap.size wN ((wN.alloc (.cells #[] 63)).alloc (.cells #[.int .i64 x, .int .i64 y] 63)).drew) := (bnew (bnew (Below.refl _ _) _) _).drew
        have D3 : Hid (Below wN.heap.size wN ((wN.alloc (.cells #[.int .i64 x, .int .i64 y] 63)).alloc (.cells #[] 63)).drew) := (bnew (bnew (Below.refl _ _) _) _).drew
        have D4 : Hid (Below wN.heap.size wN (wN.alloc (.cells #[.int .i64 x, .int .i64 y] 63)).drew) := (bnew (Below.refl _ _) _).drew
        have F1 : Hid (OwnP 63 wN.heap.size (wN.heap.size + 1) (wN.alloc (.cells #[] 63)).drew (some ⟨wN.heap.size, 0, none⟩) 0 []) := (own_emptyAtP _ rfl).drew
        have F2 : Hid (OwnP 63 wN.heap.size (wN.heap.size + 1) ((wN.alloc (.cells #[] 63)).alloc (.cells #[.int .i64 x, .int .i64 y] 63)).drew (some ⟨wN.heap.size, 0, none⟩) 0 []) := ((own_emptyAtP _ rfl).new _).drew
        have F3 : Hid (OwnP 63 (wN.heap.size + 1) (wN.heap.size + 1 + 1) ((wN.alloc (.cells #[.int .i64 x, .int .i64 y] 63)).alloc (.cells #[] 63)).drew (some ⟨wN.heap.size + 1, 0, none⟩) 0 []) := (own_emptyAtP _ (by simp)).drew
        have L1 : Hid (wN.heap.size ≤ ((wN.alloc (.cells #[] 63)).drew).heap.size) := D1.out.size
        have L2 : Hid (wN.heap.size ≤ (((wN.alloc (.cells #[] 63)).alloc (.cells #[.int .i64 x, .int .i64 y] 63)).drew).heap.size) := D2.out.size
        have L3 : Hid (wN.heap.size + 1 ≤ (((wN.alloc (.cells #[.int .i64 x, .int .i64 y] 63)).alloc (.cells #[] 63)).drew).heap.size) := by
          show wN.heap.size + 1 ≤ ((wN.alloc (.cells #[.int .i64 x, .int .i64 y] 63)).alloc (.cells #[] 63)).heap.size
          simp
        have G2 : Hid (∀ w', Hid (∀ j, j < (((wN.alloc (.cells #[] 63)).alloc (.cells #[.int .i64 x, .int .i64 y] 63)).drew).heap.size → j ≠ wN.heap.size → w'.heap[j]? = (((wN.alloc (.cells #[] 63)).alloc (.cells #[.int .i64 x, .int .i64 y] 63)).drew).heap[j]?) → (((wN.alloc (.cells #[] 63)).alloc (.cells #[.int .i64 x, .int .i64 y] 63)).drew).heap.size ≤ w'.heap.size → RP w' (some ⟨wN.heap.size + 1, 0, none⟩) [(x, y)]) := fun w' h hs =>
          ((pairAt (w := wN.alloc (.cells #[] 63)) (g := wN.heap.size + 1) (by simp)).below (Below.refl _ _).drew).block (h.out _ (by show wN.heap.size + 1 < ((wN.alloc (.cells #[] 63)).alloc (.cells #[.int .i64 x, .int .i64 y] 63)).heap.size; simp) (by omega)) hs
        have G3 : Hid (∀ w', Hid (∀ j, j < (((wN.alloc (.cells #[.int .i64 x, .int .i64 y] 63)).alloc (.cells #[] 63)).drew).heap.size → j ≠ wN.heap.size + 1 → w'.heap[j]? = (((wN.alloc (.cells #[.int .i64 x, .int .i64 y] 63)).alloc (.cells #[] 63)).drew).heap[j]?) → (((wN.alloc (.cells #[.int .i64 x, .int .i64 y] 63)).alloc (.cells #[] 63)).drew).heap.size ≤ w'.heap.size → RP w' (some ⟨wN.heap.size, 0, none⟩) [(x, y)]) := fun w' h hs =>
          ((pairAt (w := wN) (g := wN.heap.size) rfl).below (bnew (Below.refl _ _) _).drew).block (h.out _ (by show wN.heap.size < ((wN.alloc (.cells #[.int .i64 x, .int .i64 y] 63)).alloc (.cells #[] 63)).heap.size; simp; omega) (by omega)) hs
        have LA : Hid (∀ W, Below wN.heap.size wN W → wN.heap.size ≤ (W.alloc (.cells #[.int .i64 x, .int .i64 y] 63)).heap.size) := fun W h => Nat.le_trans h.size (by simp)
        have hm0 : Hid (([] : List (Int × Int)).length = 0) := rfl
        have hm1 : Hid ((O.take at').length = at') := by show _ = _; rw [List.length_take]; omega
        have hm2 : Hid ((O.drop at').length = O.length - at') := by show _ = _; rw [List.length_drop]
        have hm3 : Hid (([(x, y)] : List (Int × Int)).length = 1) := rfl
        have hm4 : Hid (([] ++ O.take at').length = at') := by show _ = _; rw [List.nil_append, List.length_take]; omega
        have hm5 : Hid (([] ++ O.take at' ++ [(x, y)]).length = at' + 1) := by show _ = _; rw [List.length_append, hm4.out]; rfl
        have hr1 : Hid (0 + at' = at') := Nat.zero_add _
        have hr2 : Hid (at' + 1 = at' + 1) := rfl
        have hr3 : Hid (at' + 1 + (O.length - at') = O.length + 1) := by show _ = _; omega
        have hby16 : Hid (16 ≤ 1024) := by show 16 ≤ 1024; decide
        have hb54 : Hid (at' ≤ 1048576) := Lib.hid (by omega)
        have hb60 : Hid (at' + 1 ≤ 1048576) := Lib.hid (by omega)
        have hb64 : Hid (O.length + 1 ≤ 1048576) := Lib.hid (by omega)
        have i1 : (0 : Int) ≤ (at' : Int) := by omega
        have i2 : (at' : Int) ≤ (c : Int) := by omega
        have i3 : (at' : Int) ≤ (O.length : Int) := by omega
        have i4 : (O.length : Int) ≤ (c : Int) := by omega
        go_wp2_with fail
        go_region_held3 (fun W => W.cell? ⟨w.heap.size, 0, none⟩ = some (.int .i64 x) ∧ W.cell? ⟨w.heap.size, 1, none⟩ = some (.int .i64 y) ∧ Below wN.heap.size wN W) (with_reducible (first | exact HK.out _ hbq3 | exact HK.out _ hbq2 | exact HK.out _ (bnew hbq1 _) | exact HK.out _ hbq1 | exact HK.out _ hdr.out | exact HK.out _ D1.out | exact HK.out _ D4.out | exact HK.out _ D2.out | exact HK.out _ D3.out)) (first
          | (have hmk := hbq2; refine step_app_pairs3 (X := if c = at' then some (⟨b, off, none⟩ : Addr) else some ⟨b, off + at' * 2, none⟩) (ad := AD) (l := [] ++ O.take at' ++ [(x, y)]) (m := O.drop at') (c2 := c - at') (.tmp 43) (.tmp 46) 51 63 rfl rfl Try.underlying51 pins_inf rfl hby16.out rfl rfl hX63 (pB O at' (x, y) hat') (pC O at') (pD O at' hat') O2 hlo2 (HBk.out _ hbq2) hb64.out ?_; intro g3 d3 w3 O3 hb3 hk3; have hbq3 := hbq2.trans (hb3.mono hlow))
          | (have hmk := hp1; refine step_app_pairs2 (l := [] ++ O.take at') (m := [(x, y)]) (c2 := 1) (.tmp 40) (.tmp 42) 51 63 rfl rfl Try.underlying51 pins_inf rfl hby16.out rfl rfl (pA O at' hat') (Lib.hid rfl) (Lib.hid rfl) O1 hlo1 hp1 hb60.out ?_; intro g2 d2 w2 O2 hb2 hk2; have hbq2 := hbq1.trans (hb2.mono hlow); have hlo2 := Nat.le_trans hlo1 hb2.size)
          | (have hmk := hbq1; have t1 := O1.new (.cells #[.int .i64 x, .int .i64 y] 63); have t2 := LA.out _ hbq1; have t3 := pairAt (w := w1) (x := x) (y := y) (T := 63) rfl; refine step_app_pairs2 (l := [] ++ O.take at') (m := [(x, y)]) (c2 := 1) (.tmp 40) (.tmp 42) 51 63 rfl rfl Try.underlying51 pins_inf rfl hby16.out rfl rfl (pA O at' hat') (Lib.hid rfl) (Lib.hid rfl) t1 t2 t3 hb60.out ?_; intro g2 d2 w2 O2 hb2 hk2; have hbq2 := (bnew hbq1 (.cells #[.int .i64 x, .int .i64 y] 63)).trans hb2; have hlo2 := Nat.le_trans t2 hb2.size)
          | (refine of_factP (p := (((wN.alloc (.cells #[] 63)).alloc (.cells #[.int .i64 x, .int .i64 y] 63)).drew).cell? ⟨w.heap.size, 0, none⟩ = some (.int .i64 x) ∧ (((wN.alloc (.cells #[] 63)).alloc (.cells #[.int .i64 x, .int .i64 y] 63)).drew).cell? ⟨w.heap.size, 1, none⟩ = some (.int .i64 y) ∧ Below wN.heap.size wN (((wN.alloc (.cells #[] 63)).alloc (.cells #[.int .i64 x, .int .i64 y] 63)).drew)) ?_ (fun q2 => ?_); with_reducible assumption; refine step_app_pairs2 (l := []) (m := O.take at') (c2 := c) (.tmp 36) (.tmp 39) 51 63 rfl rfl Try.underlying51 pins_inf rfl hby16.out rfl rfl hm0 hm1 hr1 F2.out L2.out (HF.out _ D2.out) hb54.out ?_; intro g1 d1 w1 O1 hb1 hk1; have hbq1 := D2.out.trans hb1; have hlow := Nat.le_refl wN.heap.size; have hlo1 := Nat.le_trans L2.out hb1.size; have hp1 := G2.out w1 hk1 hb1.size)
          | (refine of_factP (p := (((wN.alloc (.cells #[.int .i64 x, .int .i64 y] 63)).alloc (.cells #[] 63)).drew).cell? ⟨w.heap.size, 0, none⟩ = some (.int .i64 x) ∧ (((wN.alloc (.cells #[.int .i64 x, .int .i64 y] 63)).alloc (.cells #[] 63)).drew).cell? ⟨w.heap.size, 1, none⟩ = some (.int .i64 y) ∧ Below wN.heap.size wN (((wN.alloc (.cells #[.int .i64 x, .int .i64 y] 63)).alloc (.cells #[] 63)).drew)) ?_ (fun q2 => ?_); with_reducible assumption; refine step_app_pairs2 (l := []) (m := O.take at') (c2 := c) (.tmp 36) (.tmp 39) 51 63 rfl rfl Try.underlying51 pins_inf rfl hby16.out rfl rfl hm0 hm1 hr1 F3.out L3.out (HF.out _ D3.out) hb54.out ?_; intro g1 d1 w1 O1 hb1 hk1; have hbq1 := D3.out.trans (hb1.mono (Nat.le_succ _)); have hlow := Nat.le_succ wN.heap.size; have hlo1 := Nat.le_trans L3.out hb1.size; have hp1 := G3.out w1 hk1 hb1.size)
          | (refine step_app_pairs2 (l := []) (m := O.take at') (c2 := c) (.tmp 36) (.tmp 39) 51 63 rfl rfl Try.underlying51 pins_inf rfl hby16.out rfl rfl hm0 hm1 hr1 F1.out L1.out (HF.out _ D1.out) hb54.out ?_; intro g1 d1 w1 O1 hb1 hk1; have hbq1 := D1.out.trans hb1; have hlow := Nat.le_refl wN.heap.size; have hlo1 := Nat.le_trans L1.out hb1.size))
        all_goals
          clear D1 D2 D3 D4 F1 F2 F3 L1 L2 L3 G2 G3 LA hm0 hm1 hm2 hm3 hm4 hm5 hr1 hr2 hr3 i1 i2 i3 i4
          rw [List.nil_append, hput0.out] at O3
          have hlen : Hid ((insP (x, y) O).length = O.length + 1) := put_len hput0
          have hfl : Hid (putNew (x, y) O = true) := decide_eq_true hlen.out
          go_wp2
          all_goals
            go_ret2
            rw [hlen.out, hfl.out]
            exact ⟨g3, d3, rfl, O3.lo_mono (Nat.le_trans hbel.size hlow), hbel.trans (hbq3.mono hbel.size)⟩
      have hx' := hx.symm
      subst hx'
      by_cases hy : v = y
      case neg =>
        have hput0 := put_new hat' hfr (fun _ => by rw [e2.out]; exact hnl.out) (fun h => hy (congrArg Prod.snd (e2.out.symm.trans h.2)))
        go_wp2_with fail
        refine wp_region_after (by kernel_rfl) (by kernel_rfl) ?_
        repeat (go_big_quiet_step (fail))
        refine wpQuiet_nil ?_
        rintro wN ⟨⟨_, hq⟩, rfl⟩
        replace hbel := bthen hbel hq
        replace hb1 := bthen hb1 hq
        clear hq c1 c2 x0 x1
        obtain ⟨k1, k2⟩ := M0.out wN hbel hb1
        have hdcap := hc
        have R0 := HR.out.below hbel
        have RF := R0.front (k := at') hat'
        have RB := R0.back (k := at') hat'
        have HF : Hid (∀ W, Below wN.heap.size wN W → RP W (some ⟨b, off, none⟩) (O.take at')) := fun W h => RF.below h
        obtain ⟨AD, hAD⟩ : ∃ AD : Addr, AD = if c = at' then ⟨b, off, none⟩ else ⟨b, off + at' * 2, none⟩ := ⟨_, rfl⟩
        have hX63 : Hid ((if c = at' then some (⟨b, off, none⟩ : Addr) else some ⟨b, off + at' * 2, none⟩) = some AD) := by
          show _ = _
          rw [hAD]; split <;> rfl
        have HBk : Hid (∀ W, Below wN.heap.size wN W → RP W (some AD) (O.drop at')) := fun W h => by
          by_cases hda : c = at'
          · exact ⟨by rw [List.length_drop]; omega, fun hl => by rw [List.length_drop] at hl; omega⟩
          · rw [hAD, if_neg hda]; exact RB.below h
        have HK : Hid (∀ W, Below wN.heap.size wN W → W.cell? ⟨w.heap.size, 0, none⟩ = some (.int .i64 x) ∧ W.cell? ⟨w.heap.size, 1, none⟩ = some (.int .i64 y) ∧ Below wN.heap.size wN W) := fun W h => ⟨cell_later k1 h, cell_later k2 h, h⟩
        clear R0 RF RB hAD
        have hdr := Lib.hid ((Below.refl wN.heap.size wN).drew)
        have D1 : Hid (Below wN.heap.size wN (wN.alloc (.cells #[] 63)).drew) := (bnew (Below.refl _ _) _).drew
        have D2 : Hid (Below wN.heap.size wN ((wN.alloc (.cells #[] 63)).alloc (.cells #[.int .i64 x, .int .i64 y] 63)).drew) := (bnew (bnew (Below.refl _ _) _) _).drew
        have D3 : Hid (Below wN.heap.size wN ((wN.alloc (.cells #[.int .i64 x, .int .i64 y] 63)).alloc (.cells #[] 63)).drew) := (bnew (bnew (Below.refl _ _) _) _).drew
        have D4 : Hid (Below wN.heap.size wN (wN.alloc (.cells #[.int .i64 x, .int .i64 y] 63)).drew) := (bnew (Below.refl _ _) _).drew
        have F1 : Hid (OwnP 63 wN.heap.size (wN.heap.size + 1) (wN.alloc (.cells #[] 63)).drew (some ⟨wN.heap.size, 0, none⟩) 0 []) := (own_emptyAtP _ rfl).drew
        have F2 : Hid (OwnP 63 wN.heap.size (wN.heap.size + 1) ((wN.alloc (.cells #[] 63)).alloc (.cells #[.int .i64 x, .int .i64 y] 63)).drew (some ⟨wN.heap.size, 0, none⟩) 0 []) := ((own_emptyAtP _ rfl).new _).drew
        have F3 : Hid (OwnP 63 (wN.heap.size + 1) (wN.heap.size + 1 + 1) ((wN.alloc (.cells #[.int .i64 x, .int .i64 y] 63)).alloc (.cells #[] 63)).drew (some ⟨wN.heap.size + 1, 0, none⟩) 0 []) := (own_emptyAtP _ (by simp)).drew
        have L1 : Hid (wN.heap.size ≤ ((wN.alloc (.cells #[] 63)).drew).heap.size) := D1.out.size
        have L2 : Hid (wN.heap.size ≤ (((wN.alloc (.cells #[] 63)).alloc (.cells #[.int .i64 x, .int .i64 y] 63)).drew).heap.size) := D2.out.size
        have L3 : Hid (wN.heap.size + 1 ≤ (((wN.alloc (.cells #[.int .i64 x, .int .i64 y] 63)).alloc (.cells #[] 63)).drew).heap.size) := by
          show wN.heap.size + 1 ≤ ((wN.alloc (.cells #[.int .i64 x, .int .i64 y] 63)).alloc (.cells #[] 63)).heap.size
          simp
        have G2 : Hid (∀ w', Hid (∀ j, j < (((wN.alloc (.cells #[] 63)).alloc (.cells #[.int .i64 x, .int .i64 y] 63)).drew).heap.size → j ≠ wN.heap.size → w'.heap[j]? = (((wN.alloc (.cells #[] 63)).alloc (.cells #[.int .i64 x, .int .i64 y] 63)).drew).heap[j]?) → (((wN.alloc (.cells #[] 63)).alloc (.cells #[.int .i64 x, .int .i64 y] 63)).drew).heap.size ≤ w'.heap.size → RP w' (some ⟨wN.heap.size + 1, 0, none⟩) [(x, y)]) := fun w' h hs =>
          ((pairAt (w := wN.alloc (.cells #[] 63)) (g := wN.heap.size + 1) (by simp)).below (Below.refl _ _).drew).block (h.out _ (by show wN.heap.size + 1 < ((wN.alloc (.cells #[] 63)).alloc (.cells #[.int .i64 x, .int .i64 y] 63)).heap.size; simp) (by omega)) hs
        have G3 : Hid (∀ w', Hid (∀ j, j < (((wN.alloc (.cells #[.int .i64 x, .int .i64 y] 63)).alloc (.cells #[] 63)).drew).heap.size → j ≠ wN.heap.size + 1 → w'.heap[j]? = (((wN.alloc (.cells #[.int .i64 x, .int .i64 y] 63)).alloc (.cells #[] 63)).drew).heap[j]?) → (((wN.alloc (.cells #[.int .i64 x, .int .i64 y] 63)).alloc (.cells #[] 63)).drew).heap.size ≤ w'.heap.size → RP w' (some ⟨wN.heap.size, 0, none⟩) [(x, y)]) := fun w' h hs =>
          ((pairAt (w := wN) (g := wN.heap.size) rfl).below (bnew (Below.refl _ _) _).drew).block (h.out _ (by show wN.heap.size < ((wN.alloc (.cells #[.int .i64 x, .int .i64 y] 63)).alloc (.cells #[] 63)).heap.size; simp; omega) (by omega)) hs
        have LA : Hid (∀ W, Below wN.heap.size wN W → wN.heap.size ≤ (W.alloc (.cells #[.int .i64 x, .int .i64 y] 63)).heap.size) := fun W h => Nat.le_trans h.size (by simp)
        have hm0 : Hid (([] : List (Int × Int)).length = 0) := rfl
        have hm1 : Hid ((O.take at').length = at') := by show _ = _; rw [List.length_take]; omega
        have hm2 : Hid ((O.drop at').length = O.length - at') := by show _ = _; rw [List.length_drop]
        have hm3 : Hid (([(x, y)] : List (Int × Int)).length = 1) := rfl
        have hm4 : Hid (([] ++ O.take at').length = at') := by show _ = _; rw [List.nil_append, List.length_take]; omega
        have hm5 : Hid (([] ++ O.take at' ++ [(x, y)]).length = at' + 1) := by show _ = _; rw [List.length_append, hm4.out]; rfl
        have hr1 : Hid (0 + at' = at') := Nat.zero_add _
        have hr2 : Hid (at' + 1 = at' + 1) := rfl
        have hr3 : Hid (at' + 1 + (O.length - at') = O.length + 1) := by show _ = _; omega
        have hby16 : Hid (16 ≤ 1024) := by show 16 ≤ 1024; decide
        have hb54 : Hid (at' ≤ 1048576) := Lib.hid (by omega)
        have hb60 : Hid (at' + 1 ≤ 1048576) := Lib.hid (by omega)
        have hb64 : Hid (O.length + 1 ≤ 1048576) := Lib.hid (by omega)
        have i1 : (0 : Int) ≤ (at' : Int) := by omega
        have i2 : (at' : Int) ≤ (c : Int) := by omega
        have i3 : (at' : Int) ≤ (O.length : Int) := by omega
        have i4 : (O.length : Int) ≤ (c : Int) := by omega
        go_wp2_with fail
        go_region_held3 (fun W => W.cell? ⟨w.heap.size, 0, none⟩ = some (.int .i64 x) ∧ W.cell? ⟨w.heap.size, 1, none⟩ = some (.int .i64 y) ∧ Below wN.heap.size wN W) (with_reducible (first | exact HK.out _ hbq3 | exact HK.out _ hbq2 | exact HK.out _ (bnew hbq1 _) | exact HK.out _ hbq1 | exact HK.out _ hdr.out | exact HK.out _ D1.out | exact HK.out _ D4.out | exact HK.out _ D2.out | exact HK.out _ D3.out)) (first
          | (have hmk := hbq2; refine step_app_pairs3 (X := if c = at' then some (⟨b, off, none⟩ : Addr) else some ⟨b, off + at' * 2, none⟩) (ad := AD) (l := [] ++ O.take at' ++ [(x, y)]) (m := O.drop at') (c2 := c - at') (.tmp 43) (.tmp 46) 51 63 rfl rfl Try.underlying51 pins_inf rfl hby16.out rfl rfl hX63 (pB O at' (x, y) hat') (pC O at') (pD O at' hat') O2 hlo2 (HBk.out _ hbq2) hb64.out ?_; intro g3 d3 w3 O3 hb3 hk3; have hbq3 := hbq2.trans (hb3.mono hlow))
          | (have hmk := hp1; refine step_app_pairs2 (l := [] ++ O.take at') (m := [(x, y)]) (c2 := 1) (.tmp 40) (.tmp 42) 51 63 rfl rfl Try.underlying51 pins_inf rfl hby16.out rfl rfl (pA O at' hat') (Lib.hid rfl) (Lib.hid rfl) O1 hlo1 hp1 hb60.out ?_; intro g2 d2 w2 O2 hb2 hk2; have hbq2 := hbq1.trans (hb2.mono hlow); have hlo2 := Nat.le_trans hlo1 hb2.size)
          | (have hmk := hbq1; have t1 := O1.new (.cells #[.int .i64 x, .int .i64 y] 63); have t2 := LA.out _ hbq1; have t3 := pairAt (w := w1) (x := x) (y := y) (T := 63) rfl; refine step_app_pairs2 (l := [] ++ O.take at') (m := [(x, y)]) (c2 := 1) (.tmp 40) (.tmp 42) 51 63 rfl rfl Try.underlying51 pins_inf rfl hby16.out rfl rfl (pA O at' hat') (Lib.hid rfl) (Lib.hid rfl) t1 t2 t3 hb60.out ?_; intro g2 d2 w2 O2 hb2 hk2; have hbq2 := (bnew hbq1 (.cells #[.int .i64 x, .int .i64 y] 63)).trans hb2; have hlo2 := Nat.le_trans t2 hb2.size)
          | (refine of_factP (p := (((wN.alloc (.cells #[] 63)).alloc (.cells #[.int .i64 x, .int .i64 y] 63)).drew).cell? ⟨w.heap.size, 0, none⟩ = some (.int .i64 x) ∧ (((wN.alloc (.cells #[] 63)).alloc (.cells #[.int .i64 x, .int .i64 y] 63)).drew).cell? ⟨w.heap.size, 1, none⟩ = some (.int .i64 y) ∧ Below wN.heap.size wN (((wN.alloc (.cells #[] 63)).alloc (.cells #[.int .i64 x, .int .i64 y] 63)).drew)) ?_ (fun q2 => ?_); with_reducible assumption; refine step_app_pairs2 (l := []) (m := O.take at') (c2 := c) (.tmp 36) (.tmp 39) 51 63 rfl rfl Try.underlying51 pins_inf rfl hby16.out rfl rfl hm0 hm1 hr1 F2.out L2.out (HF.out _ D2.out) hb54.out ?_; intro g1 d1 w1 O1 hb1 hk1; have hbq1 := D2.out.trans hb1; have hlow := Nat.le_refl wN.heap.size; have hlo1 := Nat.le_trans L2.out hb1.size; have hp1 := G2.out w1 hk1 hb1.size)
          | (refine of_factP (p := (((wN.alloc (.cells #[.int .i64 x, .int .i64 y] 63)).alloc (.cells #[] 63)).drew).cell? ⟨w.heap.size, 0, none⟩ = some (.int .i64 x) ∧ (((wN.alloc (.cells #[.int .i64 x, .int .i64 y] 63)).alloc (.cells #[] 63)).drew).cell? ⟨w.heap.size, 1, none⟩ = some (.int .i64 y) ∧ Below wN.heap.size wN (((wN.alloc (.cells #[.int .i64 x, .int .i64 y] 63)).alloc (.cells #[] 63)).drew)) ?_ (fun q2 => ?_); with_reducible assumption; refine step_app_pairs2 (l := []) (m := O.take at') (c2 := c) (.tmp 36) (.tmp 39) 51 63 rfl rfl Try.underlying51 pins_inf rfl hby16.out rfl rfl hm0 hm1 hr1 F3.out L3.out (HF.out _ D3.out) hb54.out ?_; intro g1 d1 w1 O1 hb1 hk1; have hbq1 := D3.out.trans (hb1.mono (Nat.le_succ _)); have hlow := Nat.le_succ wN.heap.size; have hlo1 := Nat.le_trans L3.out hb1.size; have hp1 := G3.out w1 hk1 hb1.size)
          | (refine step_app_pairs2 (l := []) (m := O.take at') (c2 := c) (.tmp 36) (.tmp 39) 51 63 rfl rfl Try.underlying51 pins_inf rfl hby16.out rfl rfl hm0 hm1 hr1 F1.out L1.out (HF.out _ D1.out) hb54.out ?_; intro g1 d1 w1 O1 hb1 hk1; have hbq1 := D1.out.trans hb1; have hlow := Nat.le_refl wN.heap.size; have hlo1 := Nat.le_trans L1.out hb1.size))
        all_goals
          clear D1 D2 D3 D4 F1 F2 F3 L1 L2 L3 G2 G3 LA hm0 hm1 hm2 hm3 hm4 hm5 hr1 hr2 hr3 i1 i2 i3 i4
          rw [List.nil_append, hput0.out] at O3
          have hlen : Hid ((insP (x, y) O).length = O.length + 1) := put_len hput0
          have hfl : Hid (putNew (x, y) O = true) := decide_eq_true hlen.out
          go_wp2
          all_goals
            go_ret2
            rw [hlen.out, hfl.out]
            exact ⟨g3, d3, rfl, O3.lo_mono (Nat.le_trans hbel.size hlow), hbel.trans (hbq3.mono hbel.size)⟩
      have hy' := hy.symm
      subst hy'
      have hkp := put_old hat hfr e2
      have hfl := Lib.hid (put_same hkp)
      go_wp2_with fail
      refine wp_region_after (by kernel_rfl) (by kernel_rfl) ?_
      repeat (go_big_quiet_step (fail))
      refine wpQuiet_nil ?_
      rintro wN ⟨⟨_, hq⟩, rfl⟩
      replace hbel := bthen hbel hq
      clear hq c1 c2 x0 x1 hb1
      have R5 := Lib.hid (HR.out.below (bnew hbel (.cells #[] 63)))
      go_wp2_with (at_builtin; refine wpList_app_pairs' (l := []) (m := O) (.tmp 33) (.tmp 34) 51 63 rfl rfl Try.underlying51 pins_inf rfl (by decide) rfl rfl (own_emptyP 63) (by simp) R5.out (by simp; omega) ?_; intro g' d' w2 hown hb2)
      go_ret2
      rw [List.nil_append] at hown
      rw [hkp.out, hfl.out]
      exact ⟨_, _, by simp, hown.lo_mono hbel.size, (bnew hbel (.cells #[] 63)).trans (hb2.mono hbel.size)⟩
    · have hput0 := put_new (p := (x, y)) hat' hfr (fun h => absurd h hat) (fun h => absurd h.1 hat)
      go_wp2_with fail
      refine wp_region_after (by kernel_rfl) (by kernel_rfl) ?_
      repeat (go_big_quiet_step (first | (go_at_call 97; exact Calls.after_of (spec_l06Less))))
      refine wpQuiet_nil ?_
      rintro wq ⟨⟨_, hq⟩, rfl⟩
      replace hbel := bthen hbel hq
      replace hb1 := bthen hb1 hq
      clear hq
      go_wp2_with fail
      refine wp_region_after (by kernel_rfl) (by kernel_rfl) ?_
      repeat (go_big_quiet_step (first | (go_at_call 97; exact Calls.after_of (spec_l06Less))))
      refine wpQuiet_nil ?_
      rintro wN ⟨⟨_, hq⟩, rfl⟩
      replace hbel := bthen hbel hq
      replace hb1 := bthen hb1 hq
      clear hq p0 p1
      obtain ⟨k1, k2⟩ := M0.out wN hbel hb1
      have hdcap := hc
      have R0 := HR.out.below hbel
      have RF := R0.front (k := at') hat'
      have RB := R0.back (k := at') hat'
      have HF : Hid (∀ W, Below wN.heap.size wN W → RP W (some ⟨b, off, none⟩) (O.take at')) := fun W h => RF.below h
      obtain ⟨AD, hAD⟩ : ∃ AD : Addr, AD = if c = at' then ⟨b, off, none⟩ else ⟨b, off + at' * 2, none⟩ := ⟨_, rfl⟩
      have hX63 : Hid ((if c = at' then some (⟨b, off, none⟩ : Addr) else some ⟨b, off + at' * 2, none⟩) = some AD) := by
        show _ = _
        rw [hAD]; split <;> rfl
      have HBk : Hid (∀ W, Below wN.heap.size wN W → RP W (some AD) (O.drop at')) := fun W h => by
        by_cases hda : c = at'
        · exact ⟨by rw [List.length_drop]; omega, fun hl => by rw [List.length_drop] at hl; omega⟩
        · rw [hAD, if_neg hda]; exact RB.below h
      have HK : Hid (∀ W, Below wN.heap.size wN W → W.cell? ⟨w.heap.size, 0, none⟩ = some (.int .i64 x) ∧ W.cell? ⟨w.heap.size, 1, none⟩ = some (.int .i64 y) ∧ Below wN.heap.size wN W) := fun W h => ⟨cell_later k1 h, cell_later k2 h, h⟩
      clear R0 RF RB hAD
      have hdr := Lib.hid ((Below.refl wN.heap.size wN).drew)
      have D1 : Hid (Below wN.heap.size wN (wN.alloc (.cells #[] 63)).drew) := (bnew (Below.refl _ _) _).drew
      have D2 : Hid (Below wN.heap.size wN ((wN.alloc (.cells #[] 63)).alloc (.cells #[.int .i64 x, .int .i64 y] 63)).drew) := (bnew (bnew (Below.refl _ _) _) _).drew
      have D3 : Hid (Below wN.heap.size wN ((wN.alloc (.cells #[.int .i64 x, .int .i64 y] 63)).alloc (.cells #[] 63)).drew) := (bnew (bnew (Below.refl _ _) _) _).drew
      have D4 : Hid (Below wN.heap.size wN (wN.alloc (.cells #[.int .i64 x, .int .i64 y] 63)).drew) := (bnew (Below.refl _ _) _).drew
      have F1 : Hid (OwnP 63 wN.heap.size (wN.heap.size + 1) (wN.alloc (.cells #[] 63)).drew (some ⟨wN.heap.size, 0, none⟩) 0 []) := (own_emptyAtP _ rfl).drew
      have F2 : Hid (OwnP 63 wN.heap.size (wN.heap.size + 1) ((wN.alloc (.cells #[] 63)).alloc (.cells #[.int .i64 x, .int .i64 y] 63)).drew (some ⟨wN.heap.size, 0, none⟩) 0 []) := ((own_emptyAtP _ rfl).new _).drew
      have F3 : Hid (OwnP 63 (wN.heap.size + 1) (wN.heap.size + 1 + 1) ((wN.alloc (.cells #[.int .i64 x, .int .i64 y] 63)).alloc (.cells #[] 63)).drew (some ⟨wN.heap.size + 1, 0, none⟩) 0 []) := (own_emptyAtP _ (by simp)).drew
      have L1 : Hid (wN.heap.size ≤ ((wN.alloc (.cells #[] 63)).drew).heap.size) := D1.out.size
      have L2 : Hid (wN.heap.size ≤ (((wN.alloc (.cells #[] 63)).alloc (.cells #[.int .i64 x, .int .i64 y] 63)).drew).heap.size) := D2.out.size
      have L3 : Hid (wN.heap.size + 1 ≤ (((wN.alloc (.cells #[.int .i64 x, .int .i64 y] 63)).alloc (.cells #[] 63)).drew).heap.size) := by
        show wN.heap.size + 1 ≤ ((wN.alloc (.cells #[.int .i64 x, .int .i64 y] 63)).alloc (.cells #[] 63)).heap.size
        simp
      have G2 : Hid (∀ w', Hid (∀ j, j < (((wN.alloc (.cells #[] 63)).alloc (.cells #[.int .i64 x, .int .i64 y] 63)).drew).heap.size → j ≠ wN.heap.size → w'.heap[j]? = (((wN.alloc (.cells #[] 63)).alloc (.cells #[.int .i64 x, .int .i64 y] 63)).drew).heap[j]?) → (((wN.alloc (.cells #[] 63)).alloc (.cells #[.int .i64 x, .int .i64 y] 63)).drew).heap.size ≤ w'.heap.size → RP w' (some ⟨wN.heap.size + 1, 0, none⟩) [(x, y)]) := fun w' h hs =>
        ((pairAt (w := wN.alloc (.cells #[] 63)) (g := wN.heap.size + 1) (by simp)).below (Below.refl _ _).drew).block (h.out _ (by show wN.heap.size + 1 < ((wN.alloc (.cells #[] 63)).alloc (.cells #[.int .i64 x, .int .i64 y] 63)).heap.size; simp) (by omega)) hs
      have G3 : Hid (∀ w', Hid (∀ j, j < (((wN.alloc (.cells #[.int .i64 x, .int .i64 y] 63)).alloc (.cells #[] 63)).drew).heap.size → j ≠ wN.heap.size + 1 → w'.heap[j]? = (((wN.alloc (.cells #[.int .i64 x, .int .i64 y] 63)).alloc (.cells #[] 63)).drew).heap[j]?) → (((wN.alloc (.cells #[.int .i64 x, .int .i64 y] 63)).alloc (.cells #[] 63)).drew).heap.size ≤ w'.heap.size → RP w' (some ⟨wN.heap.size, 0, none⟩) [(x, y)]) := fun w' h hs =>
        ((pairAt (w := wN) (g := wN.heap.size) rfl).below (bnew (Below.refl _ _) _).drew).block (h.out _ (by show wN.heap.size < ((wN.alloc (.cells #[.int .i64 x, .int .i64 y] 63)).alloc (.cells #[] 63)).heap.size; simp; omega) (by omega)) hs
      have LA : Hid (∀ W, Below wN.heap.size wN W → wN.heap.size ≤ (W.alloc (.cells #[.int .i64 x, .int .i64 y] 63)).heap.size) := fun W h => Nat.le_trans h.size (by simp)
      have hm0 : Hid (([] : List (Int × Int)).length = 0) := rfl
      have hm1 : Hid ((O.take at').length = at') := by show _ = _; rw [List.length_take]; omega
      have hm2 : Hid ((O.drop at').length = O.length - at') := by show _ = _; rw [List.length_drop]
      have hm3 : Hid (([(x, y)] : List (Int × Int)).length = 1) := rfl
      have hm4 : Hid (([] ++ O.take at').length = at') := by show _ = _; rw [List.nil_append, List.length_take]; omega
      have hm5 : Hid (([] ++ O.take at' ++ [(x, y)]).length = at' + 1) := by show _ = _; rw [List.length_append, hm4.out]; rfl
      have hr1 : Hid (0 + at' = at') := Nat.zero_add _
      have hr2 : Hid (at' + 1 = at' + 1) := rfl
      have hr3 : Hid (at' + 1 + (O.length - at') = O.length + 1) := by show _ = _; omega
      have hby16 : Hid (16 ≤ 1024) := by show 16 ≤ 1024; decide
      have hb54 : Hid (at' ≤ 1048576) := Lib.hid (by omega)
      have hb60 : Hid (at' + 1 ≤ 1048576) := Lib.hid (by omega)
      have hb64 : Hid (O.length + 1 ≤ 1048576) := Lib.hid (by omega)
      have i1 : (0 : Int) ≤ (at' : Int) := by omega
      have i2 : (at' : Int) ≤ (c : Int) := by omega
      have i3 : (at' : Int) ≤ (O.length : Int) := by omega
      have i4 : (O.length : Int) ≤ (c : Int) := by omega
      go_wp2_with fail
      go_region_held3 (fun W => W.cell? ⟨w.heap.size, 0, none⟩ = some (.int .i64 x) ∧ W.cell? ⟨w.heap.size, 1, none⟩ = some (.int .i64 y) ∧ Below wN.heap.size wN W) (with_reducible (first | exact HK.out _ hbq3 | exact HK.out _ hbq2 | exact HK.out _ (bnew hbq1 _) | exact HK.out _ hbq1 | exact HK.out _ hdr.out | exact HK.out _ D1.out | exact HK.out _ D4.out | exact HK.out _ D2.out | exact HK.out _ D3.out)) (first
        | (have hmk := hbq2; refine step_app_pairs3 (X := if c = at' then some (⟨b, off, none⟩ : Addr) else some ⟨b, off + at' * 2, none⟩) (ad := AD) (l := [] ++ O.take at' ++ [(x, y)]) (m := O.drop at') (c2 := c - at') (.tmp 43) (.tmp 46) 51 63 rfl rfl Try.underlying51 pins_inf rfl hby16.out rfl rfl hX63 (pB O at' (x, y) hat') (pC O at') (pD O at' hat') O2 hlo2 (HBk.out _ hbq2) hb64.out ?_; intro g3 d3 w3 O3 hb3 hk3; have hbq3 := hbq2.trans (hb3.mono hlow))
        | (have hmk := hp1; refine step_app_pairs2 (l := [] ++ O.take at') (m := [(x, y)]) (c2 := 1) (.tmp 40) (.tmp 42) 51 63 rfl rfl Try.underlying51 pins_inf rfl hby16.out rfl rfl (pA O at' hat') (Lib.hid rfl) (Lib.hid rfl) O1 hlo1 hp1 hb60.out ?_; intro g2 d2 w2 O2 hb2 hk2; have hbq2 := hbq1.trans (hb2.mono hlow); have hlo2 := Nat.le_trans hlo1 hb2.size)
        | (have hmk := hbq1; have t1 := O1.new (.cells #[.int .i64 x, .int .i64 y] 63); have t2 := LA.out _ hbq1; have t3 := pairAt (w := w1) (x := x) (y := y) (T := 63) rfl; refine step_app_pairs2 (l := [] ++ O.take at') (m := [(x, y)]) (c2 := 1) (.tmp 40) (.tmp 42) 51 63 rfl rfl Try.underlying51 pins_inf rfl hby16.out rfl rfl (pA O at' hat') (Lib.hid rfl) (Lib.hid rfl) t1 t2 t3 hb60.out ?_; intro g2 d2 w2 O2 hb2 hk2; have hbq2 := (bnew hbq1 (.cells #[.int .i64 x, .int .i64 y] 63)).trans hb2; have hlo2 := Nat.le_trans t2 hb2.size)
        | (refine of_factP (p := (((wN.alloc (.cells #[] 63)).alloc (.cells #[.int .i64 x, .int .i64 y] 63)).drew).cell? ⟨w.heap.size, 0, none⟩ = some (.int .i64 x) ∧ (((wN.alloc (.cells #[] 63)).alloc (.cells #[.int .i64 x, .int .i64 y] 63)).drew).cell? ⟨w.heap.size, 1, none⟩ = some (.int .i64 y) ∧ Below wN.heap.size wN (((wN.alloc (.cells #[] 63)).alloc (.cells #[.int .i64 x, .int .i64 y] 63)).drew)) ?_ (fun q2 => ?_); with_reducible assumption; refine step_app_pairs2 (l := []) (m := O.take at') (c2 := c) (.tmp 36) (.tmp 39) 51 63 rfl rfl Try.underlying51 pins_inf rfl hby16.out rfl rfl hm0 hm1 hr1 F2.out L2.out (HF.out _ D2.out) hb54.out ?_; intro g1 d1 w1 O1 hb1 hk1; have hbq1 := D2.out.trans hb1; have hlow := Nat.le_refl wN.heap.size; have hlo1 := Nat.le_trans L2.out hb1.size; have hp1 := G2.out w1 hk1 hb1.size)
        | (refine of_factP (p := (((wN.alloc (.cells #[.int .i64 x, .int .i64 y] 63)).alloc (.cells #[] 63)).drew).cell? ⟨w.heap.size, 0, none⟩ = some (.int .i64 x) ∧ (((wN.alloc (.cells #[.int .i64 x, .int .i64 y] 63)).alloc (.cells #[] 63)).drew).cell? ⟨w.heap.size, 1, none⟩ = some (.int .i64 y) ∧ Below wN.heap.size wN (((wN.alloc (.cells #[.int .i64 x, .int .i64 y] 63)).alloc (.cells #[] 63)).drew)) ?_ (fun q2 => ?_); with_reducible assumption; refine step_app_pairs2 (l := []) (m := O.take at') (c2 := c) (.tmp 36) (.tmp 39) 51 63 rfl rfl Try.underlying51 pins_inf rfl hby16.out rfl rfl hm0 hm1 hr1 F3.out L3.out (HF.out _ D3.out) hb54.out ?_; intro g1 d1 w1 O1 hb1 hk1; have hbq1 := D3.out.trans (hb1.mono (Nat.le_succ _)); have hlow := Nat.le_succ wN.heap.size; have hlo1 := Nat.le_trans L3.out hb1.size; have hp1 := G3.out w1 hk1 hb1.size)
        | (refine step_app_pairs2 (l := []) (m := O.take at') (c2 := c) (.tmp 36) (.tmp 39) 51 63 rfl rfl Try.underlying51 pins_inf rfl hby16.out rfl rfl hm0 hm1 hr1 F1.out L1.out (HF.out _ D1.out) hb54.out ?_; intro g1 d1 w1 O1 hb1 hk1; have hbq1 := D1.out.trans hb1; have hlow := Nat.le_refl wN.heap.size; have hlo1 := Nat.le_trans L1.out hb1.size))
      all_goals
        clear D1 D2 D3 D4 F1 F2 F3 L1 L2 L3 G2 G3 LA hm0 hm1 hm2 hm3 hm4 hm5 hr1 hr2 hr3 i1 i2 i3 i4
        rw [List.nil_append, hput0.out] at O3
        have hlen : Hid ((insP (x, y) O).length = O.length + 1) := put_len hput0
        have hfl : Hid (putNew (x, y) O = true) := decide_eq_true hlen.out
        go_wp2
        all_goals
          go_ret2
          rw [hlen.out, hfl.out]
          exact ⟨g3, d3, rfl, O3.lo_mono (Nat.le_trans hbel.size hlow), hbel.trans (hbq3.mono hbel.size)⟩
end Go.Proofs.Ytkipgjllgmjipaa
