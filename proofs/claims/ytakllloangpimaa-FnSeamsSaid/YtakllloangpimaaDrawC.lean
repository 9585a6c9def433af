/- The draw of a cylinder: what is held of it. -/
import Derived.Test.YtakllloangpimaaDraw
import Derived.Test.YtakllloangpimaaPinP
import Derived.Test.YtakllloangpimaaPinC
import Derived.Test.YtakllloangpimaaCylM
import Derived.Deep.RegionWith
namespace Go.Proofs.Ytakllloangpimaa
open Go.RowKit
set_option linter.unusedVariables false
/-- A drawn cylinder. -/
structure CylD (s t : Int) (l : List (Int × Int)) : Prop where
  s1 : 4 ≤ s ∧ s ≤ 24
  t1 : 1 ≤ t ∧ t ≤ 8
  len : l.length ≤ 9
  ok : cylOk s t l = true
theorem ins_ok {s t : Int} {l : List (Int × Int)} (h : cylOk s t l = true) (h9 : l.length ≤ 8) {p : Int × Int} (hp : (0 ≤ p.1 ∧ p.1 ≤ t - 1) ∧ 0 ≤ p.2 ∧ p.2 ≤ s - 1) : cylOk s t (insP p l) = true := by
  obtain ⟨h1, h2, h3, _⟩ := cylOk_parts h
  have := length_insP_le p l
  refine cylOk_of h1 h2 (by omega) (sp_insP (cylOk_sp h)) fun q hq => ?_
  rcases mem_insP.1 hq with e | e
  · subst e; exact hp
  · exact cylOk_mem h e
theorem zc_kept {G lo hi : Nat} {W W' : World} (h : ZC G W) (hk : Kept lo hi W W') (ho : G < lo ∨ hi ≤ G) : ZC G W' := by
  obtain ⟨⟨d0, d1, d2⟩, f0, f1, f2⟩ := h
  have hlt : G < W.heap.size := World.block_lt_of_cell? _ _ d0
  have e := hk.block G hlt ho
  refine ⟨⟨hk.cell' d0 ho, hk.cell' d1 ho, hk.cell' d2 ho⟩, ?_, ?_, ?_⟩ <;> unfold World.frozen? at * <;> rw [e] <;> assumption
theorem kept_set {p R : Nat} {w w' : World} (h : Kept p (p + 1) w w') (hR : w.heap.size ≤ R) (o : Nat) (v : Value) : Kept p (p + 1) w (w'.setCell ⟨R, o, none⟩ v) := by
  have K := (Kept.refl R (R + 1) w').setCell (p := ⟨R, o, none⟩) (Nat.le_refl _) (Nat.lt_succ_self _) v
  exact ⟨K.os.trans h.os, K.tape.trans h.tape, K.output.trans h.output, Nat.le_trans h.size K.size, fun k hk ho => (K.block k (Nat.lt_of_lt_of_le hk h.size) (.inl (by omega))).trans (h.block k hk ho)⟩
theorem Kept.trans' {p G : Nat} {w w' w2 : World} (h : Kept p (p + 1) w w') (k : Kept G (G + 1) w' w2) (hG : w.heap.size ≤ G) : Kept p (p + 1) w w2 :=
  ⟨k.os.trans h.os, k.tape.trans h.tape, k.output.trans h.output, Nat.le_trans h.size k.size, fun j hj ho => (k.block j (Nat.lt_of_lt_of_le hj h.size) (.inl (by omega))).trans (h.block j hj ho)⟩
theorem cur_kept {w w4 : World} {p : Nat} {A : Option Addr} {n c lo hi : Nat} (h : Cur w p A n c) (hk : Kept lo hi w w4) (ho : p < lo ∨ hi ≤ p) : Cur w4 p A n c := by
  have hpl : p < w.heap.size := World.block_lt_of_cell? _ _ h.c0
  have e := hk.block p hpl ho
  obtain ⟨c0, ⟨i, hi, c1⟩, ⟨hh, c2⟩, f1, f2⟩ := h
  exact ⟨(World.cell?_of_block (w := w) (a := ⟨p, 0, none⟩) e).trans c0, ⟨i, hi, (World.cell?_of_block (w := w) (a := ⟨p, 1, none⟩) e).trans c1⟩, ⟨hh, (World.cell?_of_block (w := w) (a := ⟨p, 2, none⟩) e).trans c2⟩,
    (show w4.frozen? ⟨p, 1, none⟩ = w.frozen? ⟨p, 1, none⟩ by unfold World.frozen?; rw [e]).trans f1, (show w4.frozen? ⟨p, 2, none⟩ = w.frozen? ⟨p, 2, none⟩ by unfold World.frozen?; rw [e]).trans f2⟩
theorem cur_later {w w4 : World} {p : Nat} {A : Option Addr} {n c : Nat} (h : Cur w p A n c) (hb : Below w.heap.size w w4) : Cur w4 p A n c := cur_kept h (bkept hb (Nat.le_refl _) : Kept (p + 1) (p + 1) w w4) (.inl (by omega))
set_option maxHeartbeats 2000000 in
theorem spec_l06Cylinder {p : Nat} {A : Option Addr} {n c : Nat} {W0 w : World} (hc : Cur w p A n c) (h : RU W0 A n) (hb : Below W0.heap.size W0 w) (hp : W0.heap.size ≤ p) :
    Calls Try.prog 51 #[.pointer (some ⟨p, 0, none⟩)] w fun e w' => ∃ (s t : Int) (l : List (Int × Int)) (B : Option Addr) (d : Nat), e = .returned (.agg #[.int .i64 s, .int .i64 t, .slice B l.length d]) ∧ CylD s t l ∧ OwnP 32 w.heap.size w'.heap.size w' B d l ∧ Cur w' p A n c ∧ Kept p (p + 1) w w' := by
  have H := Lib.hid h; clear h
  have HB := Lib.hid hb; clear hb
  have hpl : p < w.heap.size := World.block_lt_of_cell? _ _ hc.c0
  go_enter Try.func51, Try.ntmps51
  go_wp2_with fail
  have hzc := (zc_new (V := w) (T := 26) (Below.refl _ _)).2
  generalize hW : World.alloc w _ = W1 at hzc ⊢
  have hn1 : Below w.heap.size w W1 := by rw [← hW]; exact bnew (Below.refl _ _) _
  have zz : W1.heap.size = w.heap.size + 1 := by rw [← hW]; simp
  clear hW
  have hc1 := cur_later hc hn1
  refine (spec_l01Below hc1 H.out (bthen HB.out hn1) hp (by omega) (by omega)).mono ?_
  rintro e w1 ⟨x, rfl, hx, hc2, hk2⟩
  have hz2 := zc_kept hzc hk2 (.inr (by omega))
  have HK2 := Lib.hid ((bkept hn1 (Nat.le_refl _) : Kept p (p + 1) w W1).trans hk2)
  have zk2 := hk2.size
  clear hc hzc hn1 hc1 hk2
  go_wp2_with fail
  refine (spec_l01Below hc2 H.out (HB.out.trans (HK2.out.below HB.out.size hp)) hp (by omega) (by omega)).mono ?_
  rintro e w2 ⟨y, rfl, hy, hc3, hk3⟩
  have hz3 := zc_kept hz2 hk3 (.inr (by omega))
  have HK3 := Lib.hid (HK2.out.trans hk3)
  have zk3 := hk3.size
  clear hc2 hz2 HK2 hk3
  go_wp2_with fail
  obtain ⟨s, hs⟩ : ∃ s : Int, s = 4 + (x : Int) := ⟨_, rfl⟩
  obtain ⟨t, ht⟩ : ∃ t : Int, t = 1 + (y : Int) := ⟨_, rfl⟩
  rw [← hs, ← ht]
  have s1 : 4 ≤ s ∧ s ≤ 24 := by omega
  have t1 : 1 ≤ t ∧ t ≤ 8 := by omega
  clear hs ht hx hy
  generalize hV : World.alloc w2 _ = V2
  obtain ⟨bv2, zv2, d0, d1, d2⟩ := new3c hV
  have f2 := new_frozen hV 2
  clear hV
  have hz4 := (zc_later hz3 bv2).2
  have hc4 := cur_later hc3 bv2
  have HK4 := Lib.hid (HK3.out.trans (bkept bv2 (Nat.le_refl _)))
  obtain ⟨G, hG⟩ : ∃ G, w2.heap.size = G := ⟨_, rfl⟩
  rw [hG] at d0 d1 d2 f2 zv2
  have hGw : w.heap.size + 1 ≤ G := by omega
  have hGp : p + 1 ≤ G := by omega
  clear hz3 hc3 HK3 bv2 zk2 zk3 zz
  refine (spec_l01Below hc4 H.out (HB.out.trans (HK4.out.below HB.out.size hp)) hp (by omega) (by omega)).mono ?_
  rintro e w3 ⟨m0, rfl, hm0, hc5, hk5⟩
  have hz5 := Lib.hid (zc_kept hz4 hk5 (.inr (by omega)))
  have zk5 := hk5.size
  replace d0 := hk5.cell' d0 (.inr (by omega)); replace d1 := hk5.cell' d1 (.inr (by omega)); replace d2 := hk5.cell' d2 (.inr (by omega))
  have f2' : w3.frozen? ⟨G, 2, none⟩ = false := by
    have e := hk5.block G (by omega) (.inr hGp)
    unfold World.frozen? at *; rw [e]; exact f2
  have HK5 := Lib.hid (HK4.out.trans hk5)
  have HC5 := Lib.hid hc5
  clear hc4 hz4 HK4 hk5 f2 hc5
  have HP0 : Hid (cylOk s t [] = true) := cylOk_of (by omega) (by omega) (by simp) (show SP [] by exact List.Pairwise.nil) (fun q hq => by simp at hq)
  go_wp2
  go_loopw [4] (fun i wr => ∃ (m d lo hi : Nat) (B : Option Addr) (L : List (Int × Int)), i = .int .i64 m ∧ L.length + m ≤ 9 ∧ Hid (cylOk s t L = true) ∧ Hid ((wr.cell? ⟨G, 0, none⟩ = some (.int .i64 s) ∧ wr.cell? ⟨G, 1, none⟩ = some (.int .i64 t) ∧ wr.cell? ⟨G, 2, none⟩ = some (.slice B L.length d)) ∧ wr.frozen? ⟨G, 2, none⟩ = false) ∧
    Hid (OwnP 32 lo hi wr B d L) ∧ (hi ≤ G ∨ G < lo) ∧ w.heap.size + 1 ≤ lo ∧ G < wr.heap.size ∧ Hid (ZC w.heap.size wr) ∧ Hid (Cur wr p A n c) ∧ Kept p (p + 1) w wr) (fun i _ => (intOf i).toNat)
  case atStart => exact ⟨m0, 0, w.heap.size + 1, w.heap.size + 1, none, [], rfl, by simp; omega, HP0.out, ⟨⟨d0, d1, d2⟩, f2'⟩, ⟨World.ownsRow_nil _ _ _ _, fun a ha => (by cases ha), by omega, by simp⟩, .inl hGw, Nat.le_refl _, by omega, hz5.out, HC5.out, HK5.out⟩
  clear d0 d1 d2 f2' hz5 HC5 HK5 hm0 zk5 zv2 hG
  case round =>
    obtain ⟨m, d, lo, hi, B, L, rfl, hLm, hok, hd, ho, hdis, hlo, hDr, hzc, hcu, hkp⟩ := hrel
    obtain ⟨⟨d0, d1, d2⟩, f2⟩ := hd.out
    have hws := hkp.size
    by_cases hlt : 0 < m
    · have hdr := Lib.hid ((Below.refl wr.heap.size wr).drew)
      have HKd : Hid (Kept p (p + 1) wr wr.drew) := bkept hdr.out (Nat.le_refl _)
      have hcud := Lib.hid (cur_later hcu.out hdr.out)
      have HK : Hid (∀ W, Kept p (p + 1) wr W → W.cell? ⟨G, 0, none⟩ = some (.int .i64 s) ∧ W.cell? ⟨G, 1, none⟩ = some (.int .i64 t) ∧ W.frozen? ⟨G, 2, none⟩ = false) := fun W h => by
        refine ⟨h.cell' d0 (.inr hGp), h.cell' d1 (.inr hGp), ?_⟩
        have e := h.block G hDr (.inr hGp)
        unfold World.frozen? at *; rw [e]; exact f2
      have HS : Hid (∀ W, Kept p (p + 1) wr W → W.cell? ⟨G, 2, none⟩ = some (.slice B L.length d)) := fun W h => h.cell' d2 (.inr hGp)
      have HT : Hid (∀ W, Kept p (p + 1) wr W → ∀ v, (W.setCell ⟨G, 2, none⟩ v).cell? ⟨G, 0, none⟩ = some (.int .i64 s) ∧ (W.setCell ⟨G, 2, none⟩ v).cell? ⟨G, 1, none⟩ = some (.int .i64 t) ∧ (W.setCell ⟨G, 2, none⟩ v).frozen? ⟨G, 2, none⟩ = false) := fun W h v => by
        obtain ⟨a1, a2, a3⟩ := HK.out W h
        refine ⟨?_, ?_, by simpa using a3⟩
        · rw [World.cell?_setCell_other _ _ _ _ (by simp)]; exact a1
        · rw [World.cell?_setCell_other _ _ _ _ (by simp)]; exact a2
      have hs0 := HS.out _ HKd.out
      have HBk : Hid (∀ W, Kept p (p + 1) wr W → Below W0.heap.size W0 W) := fun W h => HB.out.trans ((hkp.trans h).below HB.out.size hp)
      have HRk : Hid (∀ W, Kept p (p + 1) wr W → RP W B L) := fun W h => (ho.out.kept h (.inr (by omega))).reads
      have HF : Hid (∀ W, Kept p (p + 1) wr W → W.frozen? ⟨G, 2, none⟩ = false ∧ ZC w.heap.size W ∧ OwnP 32 lo hi W B d L) := fun W h => by
        refine ⟨?_, zc_kept hzc.out h (.inr (by omega)), ho.out.kept h (.inr (by omega))⟩
        have e := h.block G hDr (.inr hGp)
        unfold World.frozen? at *; rw [e]; exact f2
      have hcap := Lib.hid ho.out.capC
      have hfo := Lib.hid ho.out.formP
      have hbd : Hid (L.length + 1 ≤ 1048576) := Lib.hid (by omega)
      have ht1 : Hid (1 ≤ t ∧ t ≤ 1000000000) := by show _ ∧ _; omega
      have hs1 : Hid (1 ≤ s ∧ s ≤ 1000000000) := by show _ ∧ _; omega
      have hkw := Lib.hid hkp
      clear hd ho hkp hzc hcu
      go_wp2_with fail
      go_region_with (first
        | (go_at_call 77; refine (spec_l06PutF (HRk.out _ hk6) hcap.out hfo.out hbd.out).mono ?_; rintro e w7 ⟨g7, d7, rfl, O7, hq7⟩; have hk7 := hk6.trans (bkept hq7 (Nat.le_refl _)); have hs7 := HS.out _ hk7; obtain ⟨i7, j7, k7⟩ := HK.out _ hk7)
        | (go_at_call 80; refine (spec_l01Below hc5 H.out (HBk.out _ hk5) hp hs1.out.1 hs1.out.2).mono ?_; rintro e w6 ⟨a6, rfl, ha6, hc6, hk60⟩; have hk6 := hk5.trans hk60; have hs6 := HS.out _ hk6; obtain ⟨i6, j6, k6⟩ := HK.out _ hk6)
        | (go_at_call 80; refine (spec_l01Below hcud.out H.out (HBk.out _ HKd.out) hp ht1.out.1 ht1.out.2).mono ?_; rintro e w5 ⟨a5, rfl, ha5, hc5, hk50⟩; have hk5 := HKd.out.trans hk50; have hs5 := HS.out _ hk5; obtain ⟨i5, j5, k5⟩ := HK.out _ hk5))
      all_goals
        have hk7' := Lib.hid hk7
        have hc7 := Lib.hid (cur_later hc6 hq7)
        obtain ⟨e0, e1, -⟩ := HK.out _ hk7
        have e2 := HS.out _ hk7
        obtain ⟨f7, hz7, -⟩ := HF.out _ hk7
        have hz7' := Lib.hid hz7
        have hO7 := Lib.hid O7
        have hok7 := Lib.hid (ins_ok (p := ((a5 : Int), (a6 : Int))) hok.out (by omega) ⟨⟨by simp only; omega, by simp only; omega⟩, by simp only; omega, by simp only; omega⟩)
        have hll : (insP ((a5 : Int), (a6 : Int)) L).length ≤ L.length + 1 := length_insP_le _ _
        have hz6 := hk6.size
        have hz77 := hq7.size
        clear d0 d1 d2 hs0 hs5 hs6 hs7 i5 j5 k5 i6 j6 k6 i7 j7 k7 hk5 hk50 hk6 hk60 hq7 hc5 hc6 hk7 O7 hz7 HK HS HT HBk HRk HF hcap hfo hbd hdr HKd hcud
        go_wp2
        generalize hZ : w7.setCell ⟨G, 2, none⟩ _ = wz
        obtain ⟨D0, D1, D2, hkz, hfz⟩ := cyl_set hZ e0 e1 e2
        rw [← hfz] at f7
        clear hZ e0 e1 e2 hfz
        have hsz := hkz.size
        go_roundw
        case rel =>
          exact ⟨m - 1, d7, w6.heap.size, w7.heap.size, some ⟨g7, 0, none⟩, _, by go_num, by omega, hok7.out, ⟨⟨D0, D1, D2⟩, f7⟩, hO7.out.kept hkz (.inr (by omega)), .inr (by omega), by omega, by omega, zc_kept hz7'.out hkz (.inl (by omega)), cur_kept hc7.out hkz (.inl (by omega)),
            (hkw.out.trans hk7'.out).trans' hkz (by omega)⟩
        case measure => simp [intOf]; omega
    · obtain rfl : m = 0 := by omega
      obtain ⟨⟨P0, P1, P2⟩, Q0, Q1, Q2⟩ := hzc.out
      have hlen : L.length ≤ 9 := by omega
      have hkw := Lib.hid hkp
      clear hkp
      go_wp2
      refine bodyPost_ret (v := .agg #[.int .i64 s, .int .i64 t, .slice B L.length d]) (by simp [results, Try.results51, go_sem, *]) rfl ?_
      have K := (((Kept.refl w.heap.size (w.heap.size + 1) wr).setCell (p := ⟨w.heap.size, 0, none⟩) (Nat.le_refl _) (Nat.lt_succ_self _) (.int .i64 s)).setCell (p := ⟨w.heap.size, 1, none⟩) (Nat.le_refl _) (Nat.lt_succ_self _) (.int .i64 t)).setCell (p := ⟨w.heap.size, 2, none⟩) (Nat.le_refl _) (Nat.lt_succ_self _) (.slice B L.length d)
      exact ⟨s, t, L, B, d, rfl, ⟨s1, t1, hlen, hok.out⟩, ((ho.out.kept K (.inr hlo)).lo_mono (by omega)).hi_mono (Nat.le_trans ho.out.le K.size) (Nat.le_refl _), cur_kept hcu.out K (.inl hpl), kept_set (kept_set (kept_set hkw.out (Nat.le_refl _) 0 _) (Nat.le_refl _) 1 _) (Nat.le_refl _) 2 _⟩
theorem spec_DrawCylinder {A : Option Addr} {n c : Nat} {w : World} (h : RU w A n) :
    Calls Try.prog 9 #[.slice A n c] w fun e w' => ∃ (s t : Int) (l : List (Int × Int)) (B : Option Addr) (d : Nat), e = .returned (.agg #[.int .i64 s, .int .i64 t, .slice B l.length d]) ∧ CylD s t l ∧ OwnP 32 w.heap.size w'.heap.size w' B d l ∧ Below w.heap.size w w' := by
  have H := Lib.hid h; clear h
  go_enter Try.func9, Try.ntmps9
  go_wp2_with fail
  have hzc := (zc_new (V := w) (T := 26) (Below.refl _ _)).2
  generalize hW : World.alloc w _ = W1 at hzc ⊢
  have hn1 : Below w.heap.size w W1 := by rw [← hW]; exact bnew (Below.refl _ _) _
  have zz : W1.heap.size = w.heap.size + 1 := by rw [← hW]; simp
  clear hW
  refine (spec_l01New (H.out.below hn1)).mono ?_
  rintro e w1 ⟨p, rfl, hp, hp2, hc1, hb1⟩
  have hz1 := (zc_later hzc hb1).2
  have HB1 := Lib.hid (bthen hn1 hb1)
  have zb1 := hb1.size
  have HRU := Lib.hid ((H.out.below hn1))
  have HB11 := Lib.hid hb1
  clear hn1 hzc hb1
  go_wp2_with fail
  refine (spec_l06Cylinder hc1 HRU.out HB11.out hp).mono ?_
  rintro e w2 ⟨s, t, l, B, d, rfl, hD, O, hc2, hk⟩
  have hz2 := zc_kept hz1 hk (.inl (by omega))
  obtain ⟨⟨P0, P1, P2⟩, Q0, Q1, Q2⟩ := hz2
  have HBf := Lib.hid (HB1.out.trans (hk.below HB1.out.size (by omega)))
  have HO := Lib.hid O
  have HD := Lib.hid hD
  clear hc1 hc2 hk O hD hz1 hp2
  go_wp2
  refine bodyPost_ret (v := .agg #[.int .i64 s, .int .i64 t, .slice B l.length d]) (by simp [results, Try.results9, go_sem, *]) rfl ?_
  obtain ⟨k1, k2⟩ := res_end (R := w.heap.size) (v0 := .int .i64 s) (v1 := .int .i64 t) (v2 := .slice B l.length d) HO.out HBf.out (by omega) (by omega)
  exact ⟨_, _, _, _, _, rfl, HD.out, k1, k2⟩
end Go.Proofs.Ytakllloangpimaa
