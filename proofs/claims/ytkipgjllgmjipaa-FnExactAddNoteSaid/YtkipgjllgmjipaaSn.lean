/- SortNotes: what the reference's and the program's answer. -/
import Derived.Test.YtkipgjllgmjipaaChg
import Derived.Test.YtkipgjllgmjipaaStepA
namespace Go.Proofs.Ytkipgjllgmjipaa
open Go.RowKit
set_option linter.unusedVariables false

def sortN (l : List (Int × Int)) : List (Int × Int) := if l.length ≤ 40 then sortU l else []
theorem lenA (O : List (Int × Int)) (a : Nat) (h : a ≤ O.length) : Hid (([] ++ O.take a).length = a) := by
  show _ = _; rw [List.nil_append, List.length_take]; omega
theorem lenB (O : List (Int × Int)) (a : Nat) (p : Int × Int) (h : a ≤ O.length) : Hid (([] ++ O.take a ++ [p]).length = a + 1) := by
  show _ = _; rw [List.length_append, (lenA O a h).out]; rfl
theorem lenC (O : List (Int × Int)) (a : Nat) : Hid ((O.drop a).length = O.length - a) := by
  show _ = _; rw [List.length_drop]
theorem lenD (O : List (Int × Int)) (a : Nat) (h : a ≤ O.length) : Hid (a + 1 + (O.length - a) = O.length + 1) := by
  show _ = _; omega
theorem of_fact {p G : Prop} (h : p) (k : p → G) : G := k h
theorem park {p : Prop} (h : Hid p) : p := h
theorem OwnP.capN {e : TypeId} {lo hi : Nat} {w : World} {A : Option Addr} {c : Nat} {l : List (Int × Int)} (h : OwnP e lo hi w A c l) : l.length ≤ c := by
  rcases h.row.2 with ⟨_, hn⟩ | ⟨g, cap, cur, hv, _, _, hc, _⟩
  · omega
  · injection hv with _ _ h3
    omega
theorem sort_keep {l O : List (Int × Int)} {k a : Nat} {x y : Int} (hO : Hid (O = sortTo l k)) (e1 : Hid (l.getD k (0, 0) = (x, y))) (ha : a < O.length) (h1 : Hid (∀ j, j < a → lt2 (O.getD j (0, 0)) (x, y))) (e2 : Hid (O.getD a (0, 0) = (x, y))) : O = sortTo l (k + 1) := by
  show O = insU (l.getD k (0, 0)) (sortTo l k)
  rw [e1.out, ← hO.out, insU_at (Nat.le_of_lt ha) h1.out (fun _ => by rw [e2.out]; exact lt2_irrefl _), if_pos ⟨ha, e2.out⟩]
theorem sort_put {l O : List (Int × Int)} {k a : Nat} {x y : Int} (hO : Hid (O = sortTo l k)) (e1 : Hid (l.getD k (0, 0) = (x, y))) (ha : a ≤ O.length) (h1 : Hid (∀ j, j < a → lt2 (O.getD j (0, 0)) (x, y))) (h2 : a < O.length → ¬ lt2 (O.getD a (0, 0)) (x, y)) (h3 : ¬ (a < O.length ∧ O.getD a (0, 0) = (x, y))) :
    O.take a ++ [(x, y)] ++ O.drop a = sortTo l (k + 1) := by
  show _ = insU (l.getD k (0, 0)) (sortTo l k)
  rw [e1.out, ← hO.out, insU_at ha h1.out h2, if_neg h3]
set_option maxHeartbeats 2000000 in
theorem spec_SortNotes {l : List (Int × Int)} {A : Option Addr} {c : Nat} {w : World} (h : RP w A l) :
    Calls Try.prog 16 #[.slice A l.length c] w fun e w' => ∃ B d, e = .returned (.slice B (sortN l).length d) ∧ OwnP 38 w.heap.size w'.heap.size w' B d (sortN l) ∧ Below w.heap.size w w' := by
  obtain ⟨hn, hA⟩ := h
  have HA := Lib.hid hA; clear hA
  by_cases h40 : 40 < l.length
  · have hT : Hid (sortN l = []) := if_neg (by omega)
    go_enter Try.func16, Try.ntmps16
    go_wp2
    go_loopw [3, 4] (fun v i wr => i = .int .i64 0 ∧ v = .slice (some ⟨w.heap.size, 0, none⟩) 0 0 ∧ OwnP 38 w.heap.size wr.heap.size wr (some ⟨w.heap.size, 0, none⟩) 0 [] ∧ Below w.heap.size w wr) (fun _ i _ => l.length - (intOf i).toNat)
    case atStart => exact ⟨rfl, rfl, (own_emptyP 38).hi_mono (by simp) (Nat.le_refl _), bnew (Below.refl _ _) _⟩
    case round =>
      obtain ⟨rfl, rfl, hown, hbel⟩ := hrel
      go_wp2
      go_ret
      rw [hT.out]
      exact ⟨_, _, rfl, hown, hbel⟩
  have hT : Hid (sortN l = sortTo l l.length) := if_pos (by omega)
  go_enter Try.func16, Try.ntmps16
  go_wp2
  go_loopw [3, 4] (fun v i wr => ∃ (k g d : Nat) (O : List (Int × Int)), k ≤ l.length ∧ i = .int .i64 k ∧ Hid (O = sortTo l k) ∧ v = .slice (some ⟨g, 0, none⟩) O.length d ∧ OwnP 38 w.heap.size wr.heap.size wr (some ⟨g, 0, none⟩) d O ∧ Below w.heap.size w wr) (fun _ i _ => l.length - (intOf i).toNat)
  case atStart => exact ⟨0, _, _, [], Nat.zero_le _, rfl, rfl, rfl, (own_emptyP 38).hi_mono (by simp) (Nat.le_refl _), bnew (Below.refl _ _) _⟩
  case round =>
    obtain ⟨k, g, d, O, hk, rfl, hO, rfl, hown, hbel⟩ := hrel
    have hOk : O.length ≤ k := by rw [hO.out]; exact length_sortTo l k
    by_cases hlt : k < l.length
    · obtain ⟨b, off, rfl, hP⟩ := HA.out (by omega)
      have HP := Lib.hid hP; clear hP
      obtain ⟨x, y, e1⟩ := pair_of l k
      go_wp2
      go_loopw [5] (fun i5 wr => ∃ at' : Nat, at' ≤ O.length ∧ i5 = .int .i64 at' ∧ Hid (∀ j, j < at' → lt2 (O.getD j (0, 0)) (x, y)) ∧ OwnP 38 w.heap.size wr.heap.size wr (some ⟨g, 0, none⟩) d O ∧ Below w.heap.size w wr) (fun i5 _ => O.length - (intOf i5).toNat)
      case atStart => exact ⟨0, Nat.zero_le _, rfl, fun j hj => absurd hj (by omega), hown, hbel⟩
      case round =>
        clear hown hbel
        obtain ⟨at', hat', rfl, hfr, hown, hbel⟩ := hrel
        by_cases hat : at' < O.length
        · obtain ⟨u, v, e2⟩ := pair_of O at'
          have c1 := cell_after (hown.at1 hat e2) (Below.refl _ _)
          have c2 := cell_after (hown.at2 hat e2) (Below.refl _ _)
          have d1 := HP.out.a1 hbel hlt e1
          have d2 := HP.out.a2 hbel hlt e1
          cases hls : less2 u v x y
          case true =>
            go_wp2_with fail
            refine wp_region_after (by kernel_rfl) (by kernel_rfl) ?_
            repeat (go_big_quiet_step (first | (go_at_call 54; exact Calls.after_of (spec_l02Less))))
            refine wpQuiet_nil ?_
            rintro wq ⟨⟨_, hq⟩, rfl⟩
            replace hown := (hown.below hq hown.le).hi_mono hq.size (Nat.le_refl _)
            replace hbel := bthen hbel hq
            clear hq c1 c2 d1 d2
            go_wp2
            go_roundw
            case rel => exact ⟨at' + 1, by omega, by go_num, fun j hj => by
              rcases Nat.lt_or_ge j at' with h | h
              · exact hfr.out j h
              · have : j = at' := by omega
                subst this; rw [e2.out]; exact less2_true hls, hown, hbel⟩
            case measure => simp [intOf]; omega
          have hnl : Hid (¬ lt2 (u, v) (x, y)) := less2_false hls
          have hq0 : ((at' : Int) == (O.length : Int)) = false := by simp; omega
          go_wp2_with fail
          refine wp_region_after (by kernel_rfl) (by kernel_rfl) ?_
          repeat (go_big_quiet_step (first | (go_at_call 54; exact Calls.after_of (spec_l02Less))))
          refine wpQuiet_nil ?_
          rintro wq ⟨⟨_, hq⟩, rfl⟩
          replace hown := (hown.below hq hown.le).hi_mono hq.size (Nat.le_refl _)
          replace hbel := bthen hbel hq
          clear hq c1 c2 d1 d2
          have c1 := cell_after (hown.at1 hat e2) (Below.refl _ _)
          have c2 := cell_after (hown.at2 hat e2) (Below.refl _ _)
          have d1 := HP.out.a1 hbel hlt e1
          have d2 := HP.out.a2 hbel hlt e1
          by_cases hx : u = x
          case neg =>
            have hput0 := Lib.hid (sort_put hO e1 hat' hfr (fun _ => by rw [e2.out]; exact hnl.out) (fun h => hx (congrArg Prod.fst (e2.out.symm.trans h.2))))
            go_wp2_with fail
            refine wp_region_after (by kernel_rfl) (by kernel_rfl) ?_
            repeat (go_big_quiet_step (fail))
            refine wpQuiet_nil ?_
            rintro wN ⟨⟨_, hq⟩, rfl⟩
            replace hown := (hown.below hq hown.le).hi_mono hq.size (Nat.le_refl _)
            replace hbel := bthen hbel hq
            clear hq c1 c2 d1 d2
            have hdcap := hown.capN
            have R0 := hown.reads
            have RF := R0.front (k := at') hat'
            have RB := R0.back (k := at') hat'
            rw [Nat.zero_add] at RB
            have HF : Hid (∀ W, Below wN.heap.size wN W → RP W (some ⟨g, 0, none⟩) (O.take at')) := fun W h => RF.below h
            obtain ⟨AD, hAD⟩ : ∃ AD : Addr, AD = if d = at' then ⟨g, 0, none⟩ else ⟨g, at' * 2, none⟩ := ⟨_, rfl⟩
            have hX63 : Hid ((if d = at' then some (⟨g, 0, none⟩ : Addr) else some ⟨g, at' * 2, none⟩) = some AD) := by
              show _ = _
              rw [hAD]; split <;> rfl
            have HBk : Hid (∀ W, Below wN.heap.size wN W → RP W (some AD) (O.drop at')) := fun W h => by
              by_cases hda : d = at'
              · exact ⟨by rw [List.length_drop]; omega, fun hl => by rw [List.length_drop] at hl; omega⟩
              · rw [hAD, if_neg hda]; exact RB.below h
            have k1 := HP.out.c1 hbel hlt e1
            have k2 := HP.out.c2 hbel hlt e1
            have HK : Hid (∀ W, Below wN.heap.size wN W → W.cell? ⟨b, off + k * 2, none⟩ = some (.int .i64 x) ∧ W.cell? ⟨b, off + k * 2 + 1, none⟩ = some (.int .i64 y) ∧ Below wN.heap.size wN W) := fun W h => ⟨cell_later k1 h, cell_later k2 h, h⟩
            clear R0 RF RB k1 k2 hAD
            have hdr := Lib.hid ((Below.refl wN.heap.size wN).drew)
            have D1 : Hid (Below wN.heap.size wN (wN.alloc (.cells #[] 38)).drew) := (bnew (Below.refl _ _) _).drew
            have D2 : Hid (Below wN.heap.size wN ((wN.alloc (.cells #[] 38)).alloc (.cells #[.int .i64 x, .int .i64 y] 38)).drew) := (bnew (bnew (Below.refl _ _) _) _).drew
            have D3 : Hid (Below wN.heap.size wN ((wN.alloc (.cells #[.int .i64 x, .int .i64 y] 38)).alloc (.cells #[] 38)).drew) := (bnew (bnew (Below.refl _ _) _) _).drew
            have D4 : Hid (Below wN.heap.size wN (wN.alloc (.cells #[.int .i64 x, .int .i64 y] 38)).drew) := (bnew (Below.refl _ _) _).drew
            have F1 : Hid (OwnP 38 wN.heap.size (wN.heap.size + 1) (wN.alloc (.cells #[] 38)).drew (some ⟨wN.heap.size, 0, none⟩) 0 []) := (own_emptyAtP _ rfl).drew
            have F2 : Hid (OwnP 38 wN.heap.size (wN.heap.size + 1) ((wN.alloc (.cells #[] 38)).alloc (.cells #[.int .i64 x, .int .i64 y] 38)).drew (some ⟨wN.heap.size, 0, none⟩) 0 []) := ((own_emptyAtP _ rfl).new _).drew
            have F3 : Hid (OwnP 38 (wN.heap.size + 1) (wN.heap.size + 1 + 1) ((wN.alloc (.cells #[.int .i64 x, .int .i64 y] 38)).alloc (.cells #[] 38)).drew (some ⟨wN.heap.size + 1, 0, none⟩) 0 []) := (own_emptyAtP _ (by simp)).drew
            have L1 : Hid (wN.heap.size ≤ ((wN.alloc (.cells #[] 38)).drew).heap.size) := D1.out.size
            have L2 : Hid (wN.heap.size ≤ (((wN.alloc (.cells #[] 38)).alloc (.cells #[.int .i64 x, .int .i64 y] 38)).drew).heap.size) := D2.out.size
            have L3 : Hid (wN.heap.size + 1 ≤ (((wN.alloc (.cells #[.int .i64 x, .int .i64 y] 38)).alloc (.cells #[] 38)).drew).heap.size) := by
              show wN.heap.size + 1 ≤ ((wN.alloc (.cells #[.int .i64 x, .int .i64 y] 38)).alloc (.cells #[] 38)).heap.size
              simp
            have G2 : Hid (∀ w', Hid (∀ j, j < (((wN.alloc (.cells #[] 38)).alloc (.cells #[.int .i64 x, .int .i64 y] 38)).drew).heap.size → j ≠ wN.heap.size → w'.heap[j]? = (((wN.alloc (.cells #[] 38)).alloc (.cells #[.int .i64 x, .int .i64 y] 38)).drew).heap[j]?) → (((wN.alloc (.cells #[] 38)).alloc (.cells #[.int .i64 x, .int .i64 y] 38)).drew).heap.size ≤ w'.heap.size → RP w' (some ⟨wN.heap.size + 1, 0, none⟩) [(x, y)]) := fun w' h hs =>
              ((pairAt (w := wN.alloc (.cells #[] 38)) (g := wN.heap.size + 1) (by simp)).below (Below.refl _ _).drew).block (h.out _ (by show wN.heap.size + 1 < ((wN.alloc (.cells #[] 38)).alloc (.cells #[.int .i64 x, .int .i64 y] 38)).heap.size; simp) (by omega)) hs
            have G3 : Hid (∀ w', Hid (∀ j, j < (((wN.alloc (.cells #[.int .i64 x, .int .i64 y] 38)).alloc (.cells #[] 38)).drew).heap.size → j ≠ wN.heap.size + 1 → w'.heap[j]? = (((wN.alloc (.cells #[.int .i64 x, .int .i64 y] 38)).alloc (.cells #[] 38)).drew).heap[j]?) → (((wN.alloc (.cells #[.int .i64 x, .int .i64 y] 38)).alloc (.cells #[] 38)).drew).heap.size ≤ w'.heap.size → RP w' (some ⟨wN.heap.size, 0, none⟩) [(x, y)]) := fun w' h hs =>
              ((pairAt (w := wN) (g := wN.heap.size) rfl).below (bnew (Below.refl _ _) _).drew).block (h.out _ (by show wN.heap.size < ((wN.alloc (.cells #[.int .i64 x, .int .i64 y] 38)).alloc (.cells #[] 38)).heap.size; simp; omega) (by omega)) hs
            have LA : Hid (∀ W, Below wN.heap.size wN W → wN.heap.size ≤ (W.alloc (.cells #[.int .i64 x, .int .i64 y] 38)).heap.size) := fun W h => Nat.le_trans h.size (by simp)
            have hm0 : Hid (([] : List (Int × Int)).length = 0) := rfl
            have hm1 : Hid ((O.take at').length = at') := by show _ = _; rw [List.length_take]; omega
            have hm2 : Hid ((O.drop at').length = O.length - at') := by show _ = _; rw [List.length_drop]
            have hm3 : Hid (([(x, y)] : List (Int × Int)).length = 1) := rfl
            have hm4 : Hid (([] ++ O.take at').length = at') := by show _ = _; rw [List.nil_append, List.length_take]; omega
            have hm5 : Hid (([] ++ O.take at' ++ [(x, y)]).length = at' + 1) := by show _ = _; rw [List.length_append, hm4.out]; rfl
            have hr1 : Hid (0 + at' = at') := Nat.zero_add _
            have hr2 : Hid (at' + 1 = at' + 1) := rfl
            have hr3 : Hid (at' + 1 + (O.length - at') = O.length + 1) := by show _ = _; omega
            have hby16 : Hid (16 ≤ 1024) := by show 16 ≤ 1024; decide
            have hb54 : Hid (at' ≤ 1048576) := Lib.hid (by omega)
            have hb60 : Hid (at' + 1 ≤ 1048576) := Lib.hid (by omega)
            have hb64 : Hid (O.length + 1 ≤ 1048576) := Lib.hid (by omega)
            have i1 : (0 : Int) ≤ (at' : Int) := by omega
            have i2 : (at' : Int) ≤ (d : Int) := by omega
            have i3 : (at' : Int) ≤ (O.length : Int) := by omega
            have i4 : (O.length : Int) ≤ (d : Int) := by omega
            go_wp2_with fail
            go_region_held3 (fun W => W.cell? ⟨b, off + k * 2, none⟩ = some (.int .i64 x) ∧ W.cell? ⟨b, off + k * 2 + 1, none⟩ = some (.int .i64 y) ∧ Below wN.heap.size wN W) (with_reducible (first | exact HK.out _ hbq3 | exact HK.out _ hbq2 | exact HK.out _ (bnew hbq1 _) | exact HK.out _ hbq1 | exact HK.out _ hdr.out | exact HK.out _ D1.out | exact HK.out _ D4.out | exact HK.out _ D2.out | exact HK.out _ D3.out)) (first
              | (have hmk := hbq2; refine step_app_pairs3 (X := if d = at' then some (⟨g, 0, none⟩ : Addr) else some ⟨g, at' * 2, none⟩) (ad := AD) (l := [] ++ O.take at' ++ [(x, y)]) (m := O.drop at') (c2 := d - at') (.tmp 60) (.tmp 63) 24 38 rfl rfl Try.underlying24 notes_inf rfl hby16.out rfl rfl hX63 (lenB O at' (x, y) hat') (lenC O at') (lenD O at' hat') O2 hlo2 (HBk.out _ hbq2) hb64.out ?_; intro g3 d3 w3 O3 hb3 hk3; have hbq3 := hbq2.trans (hb3.mono hlow))
              | (have hmk := hp1; refine step_app_pairs2 (l := [] ++ O.take at') (m := [(x, y)]) (c2 := 1) (.tmp 54) (.tmp 59) 24 38 rfl rfl Try.underlying24 notes_inf rfl hby16.out rfl rfl (lenA O at' hat') (Lib.hid rfl) (Lib.hid rfl) O1 hlo1 hp1 hb60.out ?_; intro g2 d2 w2 O2 hb2 hk2; have hbq2 := hbq1.trans (hb2.mono hlow); have hlo2 := Nat.le_trans hlo1 hb2.size)
              | (have hmk := hbq1; have t1 := O1.new (.cells #[.int .i64 x, .int .i64 y] 38); have t2 := LA.out _ hbq1; have t3 := pairAt (w := w1) (x := x) (y := y) (T := 38) rfl; refine step_app_pairs2 (l := [] ++ O.take at') (m := [(x, y)]) (c2 := 1) (.tmp 54) (.tmp 59) 24 38 rfl rfl Try.underlying24 notes_inf rfl hby16.out rfl rfl (lenA O at' hat') (Lib.hid rfl) (Lib.hid rfl) t1 t2 t3 hb60.out ?_; intro g2 d2 w2 O2 hb2 hk2; have hbq2 := (bnew hbq1 (.cells #[.int .i64 x, .int .i64 y] 38)).trans hb2; have hlo2 := Nat.le_trans t2 hb2.size)
              | (refine of_fact (p := (((wN.alloc (.cells #[] 38)).alloc (.cells #[.int .i64 x, .int .i64 y] 38)).drew).cell? ⟨b, off + k * 2, none⟩ = some (.int .i64 x) ∧ (((wN.alloc (.cells #[] 38)).alloc (.cells #[.int .i64 x, .int .i64 y] 38)).drew).cell? ⟨b, off + k * 2 + 1, none⟩ = some (.int .i64 y) ∧ Below wN.heap.size wN (((wN.alloc (.cells #[] 38)).alloc (.cells #[.int .i64 x, .int .i64 y] 38)).drew)) ?_ (fun q2 => ?_); with_reducible assumption; refine step_app_pairs2 (l := []) (m := O.take at') (c2 := d) (.tmp 50) (.tmp 53) 24 38 rfl rfl Try.underlying24 notes_inf rfl hby16.out rfl rfl hm0 hm1 hr1 F2.out L2.out (HF.out _ D2.out) hb54.out ?_; intro g1 d1 w1 O1 hb1 hk1; have hbq1 := D2.out.trans hb1; have hlow := Nat.le_refl wN.heap.size; have hlo1 := Nat.le_trans L2.out hb1.size; have hp1 := G2.out w1 hk1 hb1.size)
              | (refine of_fact (p := (((wN.alloc (.cells #[.int .i64 x, .int .i64 y] 38)).alloc (.cells #[] 38)).drew).cell? ⟨b, off + k * 2, none⟩ = some (.int .i64 x) ∧ (((wN.alloc (.cells #[.int .i64 x, .int .i64 y] 38)).alloc (.cells #[] 38)).drew).cell? ⟨b, off + k * 2 + 1, none⟩ = some (.int .i64 y) ∧ Below wN.heap.size wN (((wN.alloc (.cells #[.int .i64 x, .int .i64 y] 38)).alloc (.cells #[] 38)).drew)) ?_ (fun q2 => ?_); with_reducible assumption; refine step_app_pairs2 (l := []) (m := O.take at') (c2 := d) (.tmp 50) (.tmp 53) 24 38 rfl rfl Try.underlying24 notes_inf rfl hby16.out rfl rfl hm0 hm1 hr1 F3.out L3.out (HF.out _ D3.out) hb54.out ?_; intro g1 d1 w1 O1 hb1 hk1; have hbq1 := D3.out.trans (hb1.mono (Nat.le_succ _)); have hlow := Nat.le_succ wN.heap.size; have hlo1 := Nat.le_trans L3.out hb1.size; have hp1 := G3.out w1 hk1 hb1.size)
              | (refine step_app_pairs2 (l := []) (m := O.take at') (c2 := d) (.tmp 50) (.tmp 53) 24 38 rfl rfl Try.underlying24 notes_inf rfl hby16.out rfl rfl hm0 hm1 hr1 F1.out L1.out (HF.out _ D1.out) hb54.out ?_; intro g1 d1 w1 O1 hb1 hk1; have hbq1 := D1.out.trans hb1; have hlow := Nat.le_refl wN.heap.size; have hlo1 := Nat.le_trans L1.out hb1.size))
            all_goals
              clear D1 D2 D3 D4 F1 F2 F3 L1 L2 L3 G2 G3 LA hm0 hm1 hm2 hm3 hm4 hm5 hr1 hr2 hr3 i1 i2 i3 i4
              rw [List.nil_append] at O3
              have hput := Lib.hid hput0.out
              rw [hput.out] at O3
              have hlen : Hid ((sortTo l (k + 1)).length = O.length + 1) := by
                show _ = _
                rw [← hput.out, List.length_append, List.length_append, List.length_take, List.length_drop]
                simp only [List.length_cons, List.length_nil]
                omega
              go_wp2
              go_roundw
              case rel => exact ⟨k + 1, g3, d3, sortTo l (k + 1), by omega, by go_num, rfl, by rw [hlen.out], O3.lo_mono (Nat.le_trans hbel.size hlow), hbel.trans (hbq3.mono hbel.size)⟩
              case measure => simp [intOf]; omega
          by_cases hy : v = y
          case neg =>
            have hx' := hx.symm
            clear hx
            subst hx'
            have hput0 := Lib.hid (sort_put hO e1 hat' hfr (fun _ => by rw [e2.out]; exact hnl.out) (fun h => hy (congrArg Prod.snd (e2.out.symm.trans h.2))))
            go_wp2_with fail
            refine wp_region_after (by kernel_rfl) (by kernel_rfl) ?_
            repeat (go_big_quiet_step (fail))
            refine wpQuiet_nil ?_
            rintro wN ⟨⟨_, hq⟩, rfl⟩
            replace hown := (hown.below hq hown.le).hi_mono hq.size (Nat.le_refl _)
            replace hbel := bthen hbel hq
            clear hq c1 c2 d1 d2
            have hdcap := hown.capN
            have R0 := hown.reads
            have RF := R0.front (k := at') hat'
            have RB := R0.back (k := at') hat'
            rw [Nat.zero_add] at RB
            have HF : Hid (∀ W, Below wN.heap.size wN W → RP W (some ⟨g, 0, none⟩) (O.take at')) := fun W h => RF.below h
            obtain ⟨AD, hAD⟩ : ∃ AD : Addr, AD = if d = at' then ⟨g, 0, none⟩ else ⟨g, at' * 2, none⟩ := ⟨_, rfl⟩
            have hX63 : Hid ((if d = at' then some (⟨g, 0, none⟩ : Addr) else some ⟨g, at' * 2, none⟩) = some AD) := by
              show _ = _
              rw [hAD]; split <;> rfl
            have HBk : Hid (∀ W, Below wN.heap.size wN W → RP W (some AD) (O.drop at')) := fun W h => by
              by_cases hda : d = at'
              · exact ⟨by rw [List.length_drop]; omega, fun hl => by rw [List.length_drop] at hl; omega⟩
              · rw [hAD, if_neg hda]; exact RB.below h
            have k1 := HP.out.c1 hbel hlt e1
            have k2 := HP.out.c2 hbel hlt e1
            have HK : Hid (∀ W, Below wN.heap.size wN W → W.cell? ⟨b, off + k * 2, none⟩ = some (.int .i64 x) ∧ W.cell? ⟨b, off + k * 2 + 1, none⟩ = some (.int .i64 y) ∧ Below wN.heap.size wN W) := fun W h => ⟨cell_later k1 h, cell_later k2 h, h⟩
            clear R0 RF RB k1 k2 hAD
            have hdr := Lib.hid ((Below.refl wN.heap.size wN).drew)
            have D1 : Hid (Below wN.heap.size wN (wN.alloc (.cells #[] 38)).drew) := (bnew (Below.refl _ _) _).drew
            have D2 : Hid (Below wN.heap.size wN ((wN.alloc (.cells #[] 38)).alloc (.cells #[.int .i64 x, .int .i64 y] 38)).drew) := (bnew (bnew (Below.refl _ _) _) _).drew
            have D3 : Hid (Below wN.heap.size wN ((wN.alloc (.cells #[.int .i64 x, .int .i64 y] 38)).alloc (.cells #[] 38)).drew) := (bnew (bnew (Below.refl _ _) _) _).drew
            have D4 : Hid (Below wN.heap.size wN (wN.alloc (.cells #[.int .i64 x, .int .i64 y] 38)).drew) := (bnew (Below.refl _ _) _).drew
            have F1 : Hid (OwnP 38 wN.heap.size (wN.heap.size + 1) (wN.alloc (.cells #[] 38)).drew (some ⟨wN.heap.size, 0, none⟩) 0 []) := (own_emptyAtP _ rfl).drew
            have F2 : Hid (OwnP 38 wN.heap.size (wN.heap.size + 1) ((wN.alloc (.cells #[] 38)).alloc (.cells #[.int .i64 x, .int .i64 y] 38)).drew (some ⟨wN.heap.size, 0, none⟩) 0 []) := ((own_emptyAtP _ rfl).new _).drew
            have F3 : Hid (OwnP 38 (wN.heap.size + 1) (wN.heap.size + 1 + 1) ((wN.alloc (.cells #[.int .i64 x, .int .i64 y] 38)).alloc (.cells #[] 38)).drew (some ⟨wN.heap.size + 1, 0, none⟩) 0 []) := (own_emptyAtP _ (by simp)).drew
            have L1 : Hid (wN.heap.size ≤ ((wN.alloc (.cells #[] 38)).drew).heap.size) := D1.out.size
            have L2 : Hid (wN.heap.size ≤ (((wN.alloc (.cells #[] 38)).alloc (.cells #[.int .i64 x, .int .i64 y] 38)).drew).heap.size) := D2.out.size
            have L3 : Hid (wN.heap.size + 1 ≤ (((wN.alloc (.cells #[.int .i64 x, .int .i64 y] 38)).alloc (.cells #[] 38)).drew).heap.size) := by
              show wN.heap.size + 1 ≤ ((wN.alloc (.cells #[.int .i64 x, .int .i64 y] 38)).alloc (.cells #[] 38)).heap.size
              simp
            have G2 : Hid (∀ w', Hid (∀ j, j < (((wN.alloc (.cells #[] 38)).alloc (.cells #[.int .i64 x, .int .i64 y] 38)).drew).heap.size → j ≠ wN.heap.size → w'.heap[j]? = (((wN.alloc (.cells #[] 38)).alloc (.cells #[.int .i64 x, .int .i64 y] 38)).drew).heap[j]?) → (((wN.alloc (.cells #[] 38)).alloc (.cells #[.int .i64 x, .int .i64 y] 38)).drew).heap.size ≤ w'.heap.size → RP w' (some ⟨wN.heap.size + 1, 0, none⟩) [(x, y)]) := fun w' h hs =>
              ((pairAt (w := wN.alloc (.cells #[] 38)) (g := wN.heap.size + 1) (by simp)).below (Below.refl _ _).drew).block (h.out _ (by show wN.heap.size + 1 < ((wN.alloc (.cells #[] 38)).alloc (.cells #[.int .i64 x, .int .i64 y] 38)).heap.size; simp) (by omega)) hs
            have G3 : Hid (∀ w', Hid (∀ j, j < (((wN.alloc (.cells #[.int .i64 x, .int .i64 y] 38)).alloc (.cells #[] 38)).drew).heap.size → j ≠ wN.heap.size + 1 → w'.heap[j]? = (((wN.alloc (.cells #[.int .i64 x, .int .i64 y] 38)).alloc (.cells #[] 38)).drew).heap[j]?) → (((wN.alloc (.cells #[.int .i64 x, .int .i64 y] 38)).alloc (.cells #[] 38)).drew).heap.size ≤ w'.heap.size → RP w' (some ⟨wN.heap.size, 0, none⟩) [(x, y)]) := fun w' h hs =>
              ((pairAt (w := wN) (g := wN.heap.size) rfl).below (bnew (Below.refl _ _) _).drew).block (h.out _ (by show wN.heap.size < ((wN.alloc (.cells #[.int .i64 x, .int .i64 y] 38)).alloc (.cells #[] 38)).heap.size; simp; omega) (by omega)) hs
            have LA : Hid (∀ W, Below wN.heap.size wN W → wN.heap.size ≤ (W.alloc (.cells #[.int .i64 x, .int .i64 y] 38)).heap.size) := fun W h => Nat.le_trans h.size (by simp)
            have hm0 : Hid (([] : List (Int × Int)).length = 0) := rfl
            have hm1 : Hid ((O.take at').length = at') := by show _ = _; rw [List.length_take]; omega
            have hm2 : Hid ((O.drop at').length = O.length - at') := by show _ = _; rw [List.length_drop]
            have hm3 : Hid (([(x, y)] : List (Int × Int)).length = 1) := rfl
            have hm4 : Hid (([] ++ O.take at').length = at') := by show _ = _; rw [List.nil_append, List.length_take]; omega
            have hm5 : Hid (([] ++ O.take at' ++ [(x, y)]).length = at' + 1) := by show _ = _; rw [List.length_append, hm4.out]; rfl
            have hr1 : Hid (0 + at' = at') := Nat.zero_add _
            have hr2 : Hid (at' + 1 = at' + 1) := rfl
            have hr3 : Hid (at' + 1 + (O.length - at') = O.length + 1) := by show _ = _; omega
            have hby16 : Hid (16 ≤ 1024) := by show 16 ≤ 1024; decide
            have hb54 : Hid (at' ≤ 1048576) := Lib.hid (by omega)
            have hb60 : Hid (at' + 1 ≤ 1048576) := Lib.hid (by omega)
            have hb64 : Hid (O.length + 1 ≤ 1048576) := Lib.hid (by omega)
            have i1 : (0 : Int) ≤ (at' : Int) := by omega
            have i2 : (at' : Int) ≤ (d : Int) := by omega
            have i3 : (at' : Int) ≤ (O.length : Int) := by omega
            have i4 : (O.length : Int) ≤ (d : Int) := by omega
            go_wp2_with fail
            go_region_held3 (fun W => W.cell? ⟨b, off + k * 2, none⟩ = some (.int .i64 x) ∧ W.cell? ⟨b, off + k * 2 + 1, none⟩ = some (.int .i64 y) ∧ Below wN.heap.size wN W) (with_reducible (first | exact HK.out _ hbq3 | exact HK.out _ hbq2 | exact HK.out _ (bnew hbq1 _) | exact HK.out _ hbq1 | exact HK.out _ hdr.out | exact HK.out _ D1.out | exact HK.out _ D4.out | exact HK.out _ D2.out | exact HK.out _ D3.out)) (first
              | (have hmk := hbq2; refine step_app_pairs3 (X := if d = at' then some (⟨g, 0, none⟩ : Addr) else some ⟨g, at' * 2, none⟩) (ad := AD) (l := [] ++ O.take at' ++ [(x, y)]) (m := O.drop at') (c2 := d - at') (.tmp 60) (.tmp 63) 24 38 rfl rfl Try.underlying24 notes_inf rfl hby16.out rfl rfl hX63 (lenB O at' (x, y) hat') (lenC O at') (lenD O at' hat') O2 hlo2 (HBk.out _ hbq2) hb64.out ?_; intro g3 d3 w3 O3 hb3 hk3; have hbq3 := hbq2.trans (hb3.mono hlow))
              | (have hmk := hp1; refine step_app_pairs2 (l := [] ++ O.take at') (m := [(x, y)]) (c2 := 1) (.tmp 54) (.tmp 59) 24 38 rfl rfl Try.underlying24 notes_inf rfl hby16.out rfl rfl (lenA O at' hat') (Lib.hid rfl) (Lib.hid rfl) O1 hlo1 hp1 hb60.out ?_; intro g2 d2 w2 O2 hb2 hk2; have hbq2 := hbq1.trans (hb2.mono hlow); have hlo2 := Nat.le_trans hlo1 hb2.size)
              | (have hmk := hbq1; have t1 := O1.new (.cells #[.int .i64 x, .int .i64 y] 38); have t2 := LA.out _ hbq1; have t3 := pairAt (w := w1) (x := x) (y := y) (T := 38) rfl; refine step_app_pairs2 (l := [] ++ O.take at') (m := [(x, y)]) (c2 := 1) (.tmp 54) (.tmp 59) 24 38 rfl rfl Try.underlying24 notes_inf rfl hby16.out rfl rfl (lenA O at' hat') (Lib.hid rfl) (Lib.hid rfl) t1 t2 t3 hb60.out ?_; intro g2 d2 w2 O2 hb2 hk2; have hbq2 := (bnew hbq1 (.cells #[.int .i64 x, .int .i64 y] 38)).trans hb2; have hlo2 := Nat.le_trans t2 hb2.size)
              | (refine of_fact (p := (((wN.alloc (.cells #[] 38)).alloc (.cells #[.int .i64 x, .int .i64 y] 38)).drew).cell? ⟨b, off + k * 2, none⟩ = some (.int .i64 x) ∧ (((wN.alloc (.cells #[] 38)).alloc (.cells #[.int .i64 x, .int .i64 y] 38)).drew).cell? ⟨b, off + k * 2 + 1, none⟩ = some (.int .i64 y) ∧ Below wN.heap.size wN (((wN.alloc (.cells #[] 38)).alloc (.cells #[.int .i64 x, .int .i64 y] 38)).drew)) ?_ (fun q2 => ?_); with_reducible assumption; refine step_app_pairs2 (l := []) (m := O.take at') (c2 := d) (.tmp 50) (.tmp 53) 24 38 rfl rfl Try.underlying24 notes_inf rfl hby16.out rfl rfl hm0 hm1 hr1 F2.out L2.out (HF.out _ D2.out) hb54.out ?_; intro g1 d1 w1 O1 hb1 hk1; have hbq1 := D2.out.trans hb1; have hlow := Nat.le_refl wN.heap.size; have hlo1 := Nat.le_trans L2.out hb1.size; have hp1 := G2.out w1 hk1 hb1.size)
              | (refine of_fact (p := (((wN.alloc (.cells #[.int .i64 x, .int .i64 y] 38)).alloc (.cells #[] 38)).drew).cell? ⟨b, off + k * 2, none⟩ = some (.int .i64 x) ∧ (((wN.alloc (.cells #[.int .i64 x, .int .i64 y] 38)).alloc (.cells #[] 38)).drew).cell? ⟨b, off + k * 2 + 1, none⟩ = some (.int .i64 y) ∧ Below wN.heap.size wN (((wN.alloc (.cells #[.int .i64 x, .int .i64 y] 38)).alloc (.cells #[] 38)).drew)) ?_ (fun q2 => ?_); with_reducible assumption; refine step_app_pairs2 (l := []) (m := O.take at') (c2 := d) (.tmp 50) (.tmp 53) 24 38 rfl rfl Try.underlying24 notes_inf rfl hby16.out rfl rfl hm0 hm1 hr1 F3.out L3.out (HF.out _ D3.out) hb54.out ?_; intro g1 d1 w1 O1 hb1 hk1; have hbq1 := D3.out.trans (hb1.mono (Nat.le_succ _)); have hlow := Nat.le_succ wN.heap.size; have hlo1 := Nat.le_trans L3.out hb1.size; have hp1 := G3.out w1 hk1 hb1.size)
              | (refine step_app_pairs2 (l := []) (m := O.take at') (c2 := d) (.tmp 50) (.tmp 53) 24 38 rfl rfl Try.underlying24 notes_inf rfl hby16.out rfl rfl hm0 hm1 hr1 F1.out L1.out (HF.out _ D1.out) hb54.out ?_; intro g1 d1 w1 O1 hb1 hk1; have hbq1 := D1.out.trans hb1; have hlow := Nat.le_refl wN.heap.size; have hlo1 := Nat.le_trans L1.out hb1.size))
            all_goals
              clear D1 D2 D3 D4 F1 F2 F3 L1 L2 L3 G2 G3 LA hm0 hm1 hm2 hm3 hm4 hm5 hr1 hr2 hr3 i1 i2 i3 i4
              rw [List.nil_append] at O3
              have hput := Lib.hid hput0.out
              rw [hput.out] at O3
              have hlen : Hid ((sortTo l (k + 1)).length = O.length + 1) := by
                show _ = _
                rw [← hput.out, List.length_append, List.length_append, List.length_take, List.length_drop]
                simp only [List.length_cons, List.length_nil]
                omega
              go_wp2
              go_roundw
              case rel => exact ⟨k + 1, g3, d3, sortTo l (k + 1), by omega, by go_num, rfl, by rw [hlen.out], O3.lo_mono (Nat.le_trans hbel.size hlow), hbel.trans (hbq3.mono hbel.size)⟩
              case measure => simp [intOf]; omega
          subst hx hy
          have hkp := Lib.hid (sort_keep hO e1 hat hfr e2)
          go_wp2_with fail
          refine wp_region_after (by kernel_rfl) (by kernel_rfl) ?_
          repeat (go_big_quiet_step (fail))
          refine wpQuiet_nil ?_
          rintro wN ⟨⟨_, hq⟩, rfl⟩
          replace hown := (hown.below hq hown.le).hi_mono hq.size (Nat.le_refl _)
          replace hbel := bthen hbel hq
          clear hq c1 c2 d1 d2
          go_wp2
          go_roundw
          case rel => exact ⟨k + 1, g, d, O, by omega, by go_num, hkp.out, rfl, hown, hbel⟩
          case measure => simp [intOf]; omega
        · have hq0 : ((at' : Int) == (O.length : Int)) = true := by simp; omega
          go_wp2_with fail
          refine wp_region_after (by kernel_rfl) (by kernel_rfl) ?_
          repeat (go_big_quiet_step (first | (go_at_call 54; exact Calls.after_of (spec_l02Less))))
          refine wpQuiet_nil ?_
          rintro wq ⟨⟨_, hq⟩, rfl⟩
          replace hown := (hown.below hq hown.le).hi_mono hq.size (Nat.le_refl _)
          replace hbel := bthen hbel hq
          clear hq
          go_wp2_with fail
          refine wp_region_after (by kernel_rfl) (by kernel_rfl) ?_
          repeat (go_big_quiet_step (first | (go_at_call 54; exact Calls.after_of (spec_l02Less))))
          refine wpQuiet_nil ?_
          rintro wN ⟨⟨_, hq⟩, rfl⟩
          replace hown := (hown.below hq hown.le).hi_mono hq.size (Nat.le_refl _)
          replace hbel := bthen hbel hq
          clear hq
          have hdcap := hown.capN
          have R0 := hown.reads
          have RF := R0.front (k := at') hat'
          have RB := R0.back (k := at') hat'
          rw [Nat.zero_add] at RB
          have HF : Hid (∀ W, Below wN.heap.size wN W → RP W (some ⟨g, 0, none⟩) (O.take at')) := fun W h => RF.below h
          obtain ⟨AD, hAD⟩ : ∃ AD : Addr, AD = if d = at' then ⟨g, 0, none⟩ else ⟨g, at' * 2, none⟩ := ⟨_, rfl⟩
          have hX63 : Hid ((if d = at' then some (⟨g, 0, none⟩ : Addr) else some ⟨g, at' * 2, none⟩) = some AD) := by
            show _ = _
            rw [hAD]; split <;> rfl
          have HBk : Hid (∀ W, Below wN.heap.size wN W → RP W (some AD) (O.drop at')) := fun W h => by
            by_cases hda : d = at'
            · exact ⟨by rw [List.length_drop]; omega, fun hl => by rw [List.length_drop] at hl; omega⟩
            · rw [hAD, if_neg hda]; exact RB.below h
          have k1 := HP.out.c1 hbel hlt e1
          have k2 := HP.out.c2 hbel hlt e1
          have HK : Hid (∀ W, Below wN.heap.size wN W → W.cell? ⟨b, off + k * 2, none⟩ = some (.int .i64 x) ∧ W.cell? ⟨b, off + k * 2 + 1, none⟩ = some (.int .i64 y) ∧ Below wN.heap.size wN W) := fun W h => ⟨cell_later k1 h, cell_later k2 h, h⟩
          clear R0 RF RB k1 k2 hAD
          have hdr := Lib.hid ((Below.refl wN.heap.size wN).drew)
          have D1 : Hid (Below wN.heap.size wN (wN.alloc (.cells #[] 38)).drew) := (bnew (Below.refl _ _) _).drew
          have D2 : Hid (Below wN.heap.size wN ((wN.alloc (.cells #[] 38)).alloc (.cells #[.int .i64 x, .int .i64 y] 38)).drew) := (bnew (bnew (Below.refl _ _) _) _).drew
          have D3 : Hid (Below wN.heap.size wN ((wN.alloc (.cells #[.int .i64 x, .int .i64 y] 38)).alloc (.cells #[] 38)).drew) := (bnew (bnew (Below.refl _ _) _) _).drew
          have D4 : Hid (Below wN.heap.size wN (wN.alloc (.cells #[.int .i64 x, .int .i64 y] 38)).drew) := (bnew (Below.refl _ _) _).drew
          have F1 : Hid (OwnP 38 wN.heap.size (wN.heap.size + 1) (wN.alloc (.cells #[] 38)).drew (some ⟨wN.heap.size, 0, none⟩) 0 []) := (own_emptyAtP _ rfl).drew
          have F2 : Hid (OwnP 38 wN.heap.size (wN.heap.size + 1) ((wN.alloc (.cells #[] 38)).alloc (.cells #[.int .i64 x, .int .i64 y] 38)).drew (some ⟨wN.heap.size, 0, none⟩) 0 []) := ((own_emptyAtP _ rfl).new _).drew
          have F3 : Hid (OwnP 38 (wN.heap.size + 1) (wN.heap.size + 1 + 1) ((wN.alloc (.cells #[.int .i64 x, .int .i64 y] 38)).alloc (.cells #[] 38)).drew (some ⟨wN.heap.size + 1, 0, none⟩) 0 []) := (own_emptyAtP _ (by simp)).drew
          have L1 : Hid (wN.heap.size ≤ ((wN.alloc (.cells #[] 38)).drew).heap.size) := D1.out.size
          have L2 : Hid (wN.heap.size ≤ (((wN.alloc (.cells #[] 38)).alloc (.cells #[.int .i64 x, .int .i64 y] 38)).drew).heap.size) := D2.out.size
          have L3 : Hid (wN.heap.size + 1 ≤ (((wN.alloc (.cells #[.int .i64 x, .int .i64 y] 38)).alloc (.cells #[] 38)).drew).heap.size) := by
            show wN.heap.size + 1 ≤ ((wN.alloc (.cells #[.int .i64 x, .int .i64 y] 38)).alloc (.cells #[] 38)).heap.size
            simp
          have G2 : Hid (∀ w', Hid (∀ j, j < (((wN.alloc (.cells #[] 38)).alloc (.cells #[.int .i64 x, .int .i64 y] 38)).drew).heap.size → j ≠ wN.heap.size → w'.heap[j]? = (((wN.alloc (.cells #[] 38)).alloc (.cells #[.int .i64 x, .int .i64 y] 38)).drew).heap[j]?) → (((wN.alloc (.cells #[] 38)).alloc (.cells #[.int .i64 x, .int .i64 y] 38)).drew).heap.size ≤ w'.heap.size → RP w' (some ⟨wN.heap.size + 1, 0, none⟩) [(x, y)]) := fun w' h hs =>
            ((pairAt (w := wN.alloc (.cells #[] 38)) (g := wN.heap.size + 1) (by simp)).below (Below.refl _ _).drew).block (h.out _ (by show wN.heap.size + 1 < ((wN.alloc (.cells #[] 38)).alloc (.cells #[.int .i64 x, .int .i64 y] 38)).heap.size; simp) (by omega)) hs
          have G3 : Hid (∀ w', Hid (∀ j, j < (((wN.alloc (.cells #[.int .i64 x, .int .i64 y] 38)).alloc (.cells #[] 38)).drew).heap.size → j ≠ wN.heap.size + 1 → w'.heap[j]? = (((wN.alloc (.cells #[.int .i64 x, .int .i64 y] 38)).alloc (.cells #[] 38)).drew).heap[j]?) → (((wN.alloc (.cells #[.int .i64 x, .int .i64 y] 38)).alloc (.cells #[] 38)).drew).heap.size ≤ w'.heap.size → RP w' (some ⟨wN.heap.size, 0, none⟩) [(x, y)]) := fun w' h hs =>
            ((pairAt (w := wN) (g := wN.heap.size) rfl).below (bnew (Below.refl _ _) _).drew).block (h.out _ (by show wN.heap.size < ((wN.alloc (.cells #[.int .i64 x, .int .i64 y] 38)).alloc (.cells #[] 38)).heap.size; simp; omega) (by omega)) hs
          have LA : Hid (∀ W, Below wN.heap.size wN W → wN.heap.size ≤ (W.alloc (.cells #[.int .i64 x, .int .i64 y] 38)).heap.size) := fun W h => Nat.le_trans h.size (by simp)
          have hm0 : Hid (([] : List (Int × Int)).length = 0) := rfl
          have hm1 : Hid ((O.take at').length = at') := by show _ = _; rw [List.length_take]; omega
          have hm2 : Hid ((O.drop at').length = O.length - at') := by show _ = _; rw [List.length_drop]
          have hm3 : Hid (([(x, y)] : List (Int × Int)).length = 1) := rfl
          have hm4 : Hid (([] ++ O.take at').length = at') := by show _ = _; rw [List.nil_append, List.length_take]; omega
          have hm5 : Hid (([] ++ O.take at' ++ [(x, y)]).length = at' + 1) := by show _ = _; rw [List.length_append, hm4.out]; rfl
          have hr1 : Hid (0 + at' = at') := Nat.zero_add _
          have hr2 : Hid (at' + 1 = at' + 1) := rfl
          have hr3 : Hid (at' + 1 + (O.length - at') = O.length + 1) := by show _ = _; omega
          have hby16 : Hid (16 ≤ 1024) := by show 16 ≤ 1024; decide
          have hb54 : Hid (at' ≤ 1048576) := Lib.hid (by omega)
          have hb60 : Hid (at' + 1 ≤ 1048576) := Lib.hid (by omega)
          have hb64 : Hid (O.length + 1 ≤ 1048576) := Lib.hid (by omega)
          have i1 : (0 : Int) ≤ (at' : Int) := by omega
          have i2 : (at' : Int) ≤ (d : Int) := by omega
          have i3 : (at' : Int) ≤ (O.length : Int) := by omega
          have i4 : (O.length : Int) ≤ (d : Int) := by omega
          go_wp2_with fail
          go_region_held3 (fun W => W.cell? ⟨b, off + k * 2, none⟩ = some (.int .i64 x) ∧ W.cell? ⟨b, off + k * 2 + 1, none⟩ = some (.int .i64 y) ∧ Below wN.heap.size wN W) (with_reducible (first | exact HK.out _ hbq3 | exact HK.out _ hbq2 | exact HK.out _ (bnew hbq1 _) | exact HK.out _ hbq1 | exact HK.out _ hdr.out | exact HK.out _ D1.out | exact HK.out _ D4.out | exact HK.out _ D2.out | exact HK.out _ D3.out)) (first
            | (have hmk := hbq2; refine step_app_pairs3 (X := if d = at' then some (⟨g, 0, none⟩ : Addr) else some ⟨g, at' * 2, none⟩) (ad := AD) (l := [] ++ O.take at' ++ [(x, y)]) (m := O.drop at') (c2 := d - at') (.tmp 60) (.tmp 63) 24 38 rfl rfl Try.underlying24 notes_inf rfl hby16.out rfl rfl hX63 (lenB O at' (x, y) hat') (lenC O at') (lenD O at' hat') O2 hlo2 (HBk.out _ hbq2) hb64.out ?_; intro g3 d3 w3 O3 hb3 hk3; have hbq3 := hbq2.trans (hb3.mono hlow))
            | (have hmk := hp1; refine step_app_pairs2 (l := [] ++ O.take at') (m := [(x, y)]) (c2 := 1) (.tmp 54) (.tmp 59) 24 38 rfl rfl Try.underlying24 notes_inf rfl hby16.out rfl rfl (lenA O at' hat') (Lib.hid rfl) (Lib.hid rfl) O1 hlo1 hp1 hb60.out ?_; intro g2 d2 w2 O2 hb2 hk2; have hbq2 := hbq1.trans (hb2.mono hlow); have hlo2 := Nat.le_trans hlo1 hb2.size)
            | (have hmk := hbq1; have t1 := O1.new (.cells #[.int .i64 x, .int .i64 y] 38); have t2 := LA.out _ hbq1; have t3 := pairAt (w := w1) (x := x) (y := y) (T := 38) rfl; refine step_app_pairs2 (l := [] ++ O.take at') (m := [(x, y)]) (c2 := 1) (.tmp 54) (.tmp 59) 24 38 rfl rfl Try.underlying24 notes_inf rfl hby16.out rfl rfl (lenA O at' hat') (Lib.hid rfl) (Lib.hid rfl) t1 t2 t3 hb60.out ?_; intro g2 d2 w2 O2 hb2 hk2; have hbq2 := (bnew hbq1 (.cells #[.int .i64 x, .int .i64 y] 38)).trans hb2; have hlo2 := Nat.le_trans t2 hb2.size)
            | (refine of_fact (p := (((wN.alloc (.cells #[] 38)).alloc (.cells #[.int .i64 x, .int .i64 y] 38)).drew).cell? ⟨b, off + k * 2, none⟩ = some (.int .i64 x) ∧ (((wN.alloc (.cells #[] 38)).alloc (.cells #[.int .i64 x, .int .i64 y] 38)).drew).cell? ⟨b, off + k * 2 + 1, none⟩ = some (.int .i64 y) ∧ Below wN.heap.size wN (((wN.alloc (.cells #[] 38)).alloc (.cells #[.int .i64 x, .int .i64 y] 38)).drew)) ?_ (fun q2 => ?_); with_reducible assumption; refine step_app_pairs2 (l := []) (m := O.take at') (c2 := d) (.tmp 50) (.tmp 53) 24 38 rfl rfl Try.underlying24 notes_inf rfl hby16.out rfl rfl hm0 hm1 hr1 F2.out L2.out (HF.out _ D2.out) hb54.out ?_; intro g1 d1 w1 O1 hb1 hk1; have hbq1 := D2.out.trans hb1; have hlow := Nat.le_refl wN.heap.size; have hlo1 := Nat.le_trans L2.out hb1.size; have hp1 := G2.out w1 hk1 hb1.size)
            | (refine of_fact (p := (((wN.alloc (.cells #[.int .i64 x, .int .i64 y] 38)).alloc (.cells #[] 38)).drew).cell? ⟨b, off + k * 2, none⟩ = some (.int .i64 x) ∧ (((wN.alloc (.cells #[.int .i64 x, .int .i64 y] 38)).alloc (.cells #[] 38)).drew).cell? ⟨b, off + k * 2 + 1, none⟩ = some (.int .i64 y) ∧ Below wN.heap.size wN (((wN.alloc (.cells #[.int .i64 x, .int .i64 y] 38)).alloc (.cells #[] 38)).drew)) ?_ (fun q2 => ?_); with_reducible assumption; refine step_app_pairs2 (l := []) (m := O.take at') (c2 := d) (.tmp 50) (.tmp 53) 24 38 rfl rfl Try.underlying24 notes_inf rfl hby16.out rfl rfl hm0 hm1 hr1 F3.out L3.out (HF.out _ D3.out) hb54.out ?_; intro g1 d1 w1 O1 hb1 hk1; have hbq1 := D3.out.trans (hb1.mono (Nat.le_succ _)); have hlow := Nat.le_succ wN.heap.size; have hlo1 := Nat.le_trans L3.out hb1.size; have hp1 := G3.out w1 hk1 hb1.size)
            | (refine step_app_pairs2 (l := []) (m := O.take at') (c2 := d) (.tmp 50) (.tmp 53) 24 38 rfl rfl Try.underlying24 notes_inf rfl hby16.out rfl rfl hm0 hm1 hr1 F1.out L1.out (HF.out _ D1.out) hb54.out ?_; intro g1 d1 w1 O1 hb1 hk1; have hbq1 := D1.out.trans hb1; have hlow := Nat.le_refl wN.heap.size; have hlo1 := Nat.le_trans L1.out hb1.size))
          all_goals
            clear D1 D2 D3 D4 F1 F2 F3 L1 L2 L3 G2 G3 LA hm0 hm1 hm2 hm3 hm4 hm5 hr1 hr2 hr3 i1 i2 i3 i4
            rw [List.nil_append] at O3
            have hput := Lib.hid (sort_put hO e1 hat' hfr (fun h => absurd h (by omega)) (fun h => absurd h.1 (by omega)))
            rw [hput.out] at O3
            have hlen : Hid ((sortTo l (k + 1)).length = O.length + 1) := by
              show _ = _
              rw [← hput.out, List.length_append, List.length_append, List.length_take, List.length_drop]
              simp only [List.length_cons, List.length_nil]
              omega
            go_wp2
            go_roundw
            case rel => exact ⟨k + 1, g3, d3, sortTo l (k + 1), by omega, by go_num, rfl, by rw [hlen.out], O3.lo_mono (Nat.le_trans hbel.size hlow), hbel.trans (hbq3.mono hbel.size)⟩
            case measure => simp [intOf]; omega
    · obtain rfl : k = l.length := by omega
      go_wp2
      go_ret
      rw [hT.out, ← hO.out]
      exact ⟨_, _, rfl, hown, hbel⟩
theorem impl_SortNotes {l : List (Int × Int)} {A : Option Addr} {c : Nat} {w : World} (h : RP w A l) :
    Calls Try.prog 18 #[.slice A l.length c] w fun e w' => ∃ B d, e = .returned (.slice B (sortN l).length d) ∧ OwnP 38 w.heap.size w'.heap.size w' B d (sortN l) ∧ Below w.heap.size w w' := by
  have hn := h.1
  have H := Lib.hid h; clear h
  by_cases h40 : 40 < l.length
  · have hT : Hid (sortN l = []) := if_neg (by omega)
    go_enter Try.func18, Try.ntmps18
    go_wp2
    go_ret
    rw [hT.out]
    exact ⟨_, _, rfl, OwnP.nil _ _ (Nat.le_refl _), Below.refl _ _⟩
  have hT : Hid (sortN l = sortU l) := if_pos (by omega)
  go_enter Try.func18, Try.ntmps18
  go_wp2_with fail
  refine (impl_sorted H.out).mono ?_
  rintro e w1 ⟨g, d, rfl, O, hq⟩
  go_wp2
  go_ret
  rw [hT.out]
  exact ⟨_, _, rfl, O, hq⟩
end Go.Proofs.Ytkipgjllgmjipaa
