/- PullPin: what the program's and the reference's answer. -/
import Derived.Test.YtakllloangpimaaPull
import Derived.Test.YtakllloangpimaaCylS
namespace Go.Proofs.Ytakllloangpimaa
open Go.RowKit
set_option linter.unusedVariables false
def pullOk (s t : Int) (l : List (Int × Int)) (k : Int) : Bool := cylOk s t l && inR k 0 ((l.length : Int) - 1)
def pullL (s t : Int) (l : List (Int × Int)) (k : Int) : List (Int × Int) := if pullOk s t l k = true then l.take k.toNat ++ l.drop (k.toNat + 1) else l
theorem pull_no {s t k : Int} {l : List (Int × Int)} (h : pullOk s t l k = false) : pullL s t l k = l := if_neg (by rw [h]; exact Bool.false_ne_true)
theorem pull_yes {s t k : Int} {l : List (Int × Int)} (h : pullOk s t l k = true) : pullL s t l k = l.take k.toNat ++ l.drop (k.toNat + 1) := if_pos h
set_option maxHeartbeats 1000000 in
theorem impl_PullPin {s t k : Int} {l : List (Int × Int)} {A : Option Addr} {c : Nat} {w : World} (h : RP w A l) (hc : l.length ≤ c) :
    Calls Try.prog 17 #[.agg #[.int .i64 s, .int .i64 t, .slice A l.length c], .int .i64 k] w fun e w' => ∃ B d, e = .returned (.tuple #[.agg #[.int .i64 s, .int .i64 t, .slice B (pullL s t l k).length d], .bool (pullOk s t l k)]) ∧ OwnP 32 w.heap.size w'.heap.size w' B d (pullL s t l k) ∧ Below w.heap.size w w' := by
  have hn := h.1
  have H := Lib.hid h; clear h
  go_enter Try.func17, Try.ntmps17
  go_wp2_with fail
  generalize hW1 : World.alloc w _ = W1
  obtain ⟨b1, z1, r0, r1, r2⟩ := new3c hW1
  generalize hW2 : World.alloc W1 _ = W2
  obtain ⟨b2, z2, p0, p1, p2⟩ := new3c hW2
  have q0 := new_frozen hW2 0; have q1 := new_frozen hW2 1; have q2 := new_frozen hW2 2
  rw [z1] at p0 p1 p2 q0 q1 q2
  clear hW1 hW2
  replace r0 := cell_later r0 b2; replace r1 := cell_later r1 b2; replace r2 := cell_later r2 b2
  have hb := bthen b1 b2
  clear b1 b2
  refine (impl_copyCylinder (H.out.below hb)).mono ?_
  rintro e w1 ⟨g, d, rfl, O, hq⟩
  have hbo := bnew hq (.cells #[.int .i64 s, .int .i64 t, .slice (some ⟨g, 0, none⟩) l.length d] 26)
  have x0 := cell_later r0 hbo; have x1 := cell_later r1 hbo; have x2 := cell_later r2 hbo
  clear hbo
  go_wp2_with fail
  clear x0 x1 x2
  generalize hW3 : World.alloc w1 _ = W3
  obtain ⟨b3, z3, d0, d1, d2⟩ := new3c hW3
  have f2 := new_frozen hW3 2
  clear hW3
  have hq3 := bthen hq b3
  replace O := O.below b3 O.le
  have hb3 := bthen hb hq3
  refine (impl_CylinderOk (H.out.below hb3)).mono ?_
  rintro e w4 ⟨rfl, hq4⟩
  have h24 := bthen hq3 hq4
  replace O := O.below hq4 O.le
  replace r0 := cell_later r0 h24; replace r1 := cell_later r1 h24; replace r2 := cell_later r2 h24
  replace p0 := cell_later p0 h24; replace p1 := cell_later p1 h24; replace p2 := cell_later p2 h24
  replace q0 := (h24.frozen (p := ⟨w.heap.size + 1, 0, none⟩) (by simp only; omega)).trans q0
  replace q1 := (h24.frozen (p := ⟨w.heap.size + 1, 1, none⟩) (by simp only; omega)).trans q1
  replace q2 := (h24.frozen (p := ⟨w.heap.size + 1, 2, none⟩) (by simp only; omega)).trans q2
  replace d0 := cell_later d0 hq4; replace d1 := cell_later d1 hq4; replace d2 := cell_later d2 hq4
  replace f2 := (hq4.frozen (p := ⟨w1.heap.size, 2, none⟩) (by simp only; omega)).trans f2
  have hb4 := Lib.hid (bthen hb3 hq4)
  have O' := Lib.hid O
  have Z := Lib.hid (And.intro z1 (And.intro z2 (And.intro hq.size (And.intro z3 hq4.size))))
  clear O hq hq3 hq4 h24 hb hb3 b3 z1 z2 z3
  by_cases hok : pullOk s t l k = false
  · have hL := Lib.hid (pull_no hok)
    have hok' := Lib.hid hok
    have hcase : cylOk s t l = false ∨ k < 0 ∨ (l.length : Int) ≤ k := by
      unfold pullOk at hok
      rcases Bool.and_eq_false_iff.1 hok with h | h
      · exact .inl h
      · rcases inR_false h with h | h
        · exact .inr (.inl h)
        · exact .inr (.inr (by omega))
    clear hok
    cases g1 : cylOk s t l
    · go_wp2
      refine bodyPost_ret (v := .tuple #[.agg #[.int .i64 s, .int .i64 t, .slice (some ⟨g, 0, none⟩) l.length d], .bool false]) (by simp [results, Try.results17, go_sem, *]) rfl ?_
      obtain ⟨z1, z2, y1, z3, y4⟩ := Z.out
      have K := (((Kept.refl (w.heap.size + 1) (w.heap.size + 2) w4).setCell (p := ⟨w.heap.size + 1, 0, none⟩) (by simp only; omega) (by simp only; omega) (.int .i64 s)).setCell (p := ⟨w.heap.size + 1, 1, none⟩) (by simp only; omega) (by simp only; omega) (.int .i64 t)).setCell (p := ⟨w.heap.size + 1, 2, none⟩) (by simp only; omega) (by simp only; omega) (.slice (some ⟨g, 0, none⟩) l.length d)
      have O2 := (O'.out.kept K (.inr (by omega))).lo_mono (lo' := w.heap.size) (by omega)
      rw [hL.out, hok'.out]
      exact ⟨_, _, rfl, O2.hi_mono (Nat.le_trans O'.out.le K.size) (Nat.le_refl _), hb4.out.trans (K.below (by omega) (by omega))⟩
    · rcases hcase with h | h | h
      · rw [g1] at h; cases h
      · go_wp2
        refine bodyPost_ret (v := .tuple #[.agg #[.int .i64 s, .int .i64 t, .slice (some ⟨g, 0, none⟩) l.length d], .bool false]) (by simp [results, Try.results17, go_sem, *]) rfl ?_
        obtain ⟨z1, z2, y1, z3, y4⟩ := Z.out
        have K := (((Kept.refl (w.heap.size + 1) (w.heap.size + 2) w4).setCell (p := ⟨w.heap.size + 1, 0, none⟩) (by simp only; omega) (by simp only; omega) (.int .i64 s)).setCell (p := ⟨w.heap.size + 1, 1, none⟩) (by simp only; omega) (by simp only; omega) (.int .i64 t)).setCell (p := ⟨w.heap.size + 1, 2, none⟩) (by simp only; omega) (by simp only; omega) (.slice (some ⟨g, 0, none⟩) l.length d)
        have O2 := (O'.out.kept K (.inr (by omega))).lo_mono (lo' := w.heap.size) (by omega)
        rw [hL.out, hok'.out]
        exact ⟨_, _, rfl, O2.hi_mono (Nat.le_trans O'.out.le K.size) (Nat.le_refl _), hb4.out.trans (K.below (by omega) (by omega))⟩
      · have hk0 : ¬ k < 0 := by omega
        go_wp2
        refine bodyPost_ret (v := .tuple #[.agg #[.int .i64 s, .int .i64 t, .slice (some ⟨g, 0, none⟩) l.length d], .bool false]) (by simp [results, Try.results17, go_sem, *]) rfl ?_
        obtain ⟨z1, z2, y1, z3, y4⟩ := Z.out
        have K := (((Kept.refl (w.heap.size + 1) (w.heap.size + 2) w4).setCell (p := ⟨w.heap.size + 1, 0, none⟩) (by simp only; omega) (by simp only; omega) (.int .i64 s)).setCell (p := ⟨w.heap.size + 1, 1, none⟩) (by simp only; omega) (by simp only; omega) (.int .i64 t)).setCell (p := ⟨w.heap.size + 1, 2, none⟩) (by simp only; omega) (by simp only; omega) (.slice (some ⟨g, 0, none⟩) l.length d)
        have O2 := (O'.out.kept K (.inr (by omega))).lo_mono (lo' := w.heap.size) (by omega)
        rw [hL.out, hok'.out]
        exact ⟨_, _, rfl, O2.hi_mono (Nat.le_trans O'.out.le K.size) (Nat.le_refl _), hb4.out.trans (K.below (by omega) (by omega))⟩
  have hok' := Lib.hid (show pullOk s t l k = true by cases h : pullOk s t l k; exact absurd h hok; rfl)
  have hL := Lib.hid (pull_yes hok'.out)
  have hparts := hok'.out
  unfold pullOk at hparts
  rw [Bool.and_eq_true] at hparts
  obtain ⟨g1, g2⟩ := hparts
  obtain ⟨k1, k2⟩ := inR_true g2
  obtain ⟨n, rfl⟩ : ∃ n : Nat, k = (n : Int) := ⟨k.toNat, by omega⟩
  rw [Int.toNat_natCast] at hL
  rw [g1]
  obtain ⟨b, off, rfl, hP⟩ := H.out.2 (by omega)
  clear hP hok g2
  have RA := H.out.below hb4.out
  have HF : Hid (RP w4.drew (some ⟨b, off, none⟩) (l.take n)) := (RA.front (by omega)).below (Below.refl _ _).drew
  obtain ⟨m, hm⟩ : ∃ m : Nat, m = n + 1 := ⟨_, rfl⟩
  have hmc : Hid (m = n + 1) := hm
  rw [← hm] at hL
  obtain ⟨AD, hAD⟩ : ∃ AD : Addr, AD = if c = m then ⟨b, off, none⟩ else ⟨b, off + m * 2, none⟩ := ⟨_, rfl⟩
  have hX63 : Hid ((if c = m then some (⟨b, off, none⟩ : Addr) else some ⟨b, off + m * 2, none⟩) = some AD) := by
    show _ = _
    rw [hAD]; split <;> rfl
  have HBk : Hid (∀ W, Below w4.heap.size w4 W → RP W (some AD) (l.drop m)) := fun W h => by
    by_cases hda : c = m
    · exact ⟨by rw [List.length_drop]; omega, fun hl => by rw [List.length_drop] at hl; omega⟩
    · rw [hAD, if_neg hda]; exact (RA.back (by omega)).below h
  have hl1 : (l.take n).length = n := by rw [List.length_take]; omega
  have hcp := impl_copyPins (c := c) HF.out
  rw [hl1] at hcp
  have HC := Lib.hid hcp
  have len1 : Hid ((l.take n).length = n) := hl1
  have len2 : Hid ((l.drop m).length = l.length - m) := by show _ = _; rw [List.length_drop]
  have lenr : Hid (n + (l.length - m) = l.length - 1) := by show _ = _; omega
  have hdr := Lib.hid ((Below.refl w4.heap.size w4).drew)
  have HK : Hid (∀ W, Below w4.heap.size w4 W → W.cell? ⟨w.heap.size, 0, none⟩ = some (.int .i64 s) ∧ W.cell? ⟨w.heap.size, 2, none⟩ = some (.slice (some ⟨b, off, none⟩) l.length c)) := fun W h => ⟨cell_later r0 h, cell_later r2 h⟩
  have HS : Hid (∀ W u, Below w4.heap.size w4 W → (W.setCell ⟨w1.heap.size, 2, none⟩ u).cell? ⟨w.heap.size, 0, none⟩ = some (.int .i64 s) ∧ (W.setCell ⟨w1.heap.size, 2, none⟩ u).cell? ⟨w.heap.size, 2, none⟩ = some (.slice (some ⟨b, off, none⟩) l.length c)) := fun W u h => by
    have hlt : w.heap.size < w1.heap.size := by have := Z.out; omega
    have hk : Kept w1.heap.size (w1.heap.size + 1) W (W.setCell ⟨w1.heap.size, 2, none⟩ u) := (Kept.refl _ _ _).setCell (p := ⟨w1.heap.size, 2, none⟩) (Nat.le_refl _) (Nat.lt_succ_self _) u
    exact ⟨(hk.cell (World.block_lt_of_cell? _ _ (cell_later r0 h)) (.inl hlt)).trans (cell_later r0 h), (hk.cell (World.block_lt_of_cell? _ _ (cell_later r2 h)) (.inl hlt)).trans (cell_later r2 h)⟩
  have HD : Hid (∀ W, Below w4.heap.size w4 W → (W.cell? ⟨w1.heap.size, 0, none⟩ = some (.int .i64 s) ∧ W.cell? ⟨w1.heap.size, 1, none⟩ = some (.int .i64 t) ∧ W.cell? ⟨w1.heap.size, 2, none⟩ = some (.slice (some ⟨g, 0, none⟩) l.length d)) ∧ W.frozen? ⟨w1.heap.size, 2, none⟩ = false) := fun W h =>
    ⟨⟨cell_later d0 h, cell_later d1 h, cell_later d2 h⟩, (h.frozen (p := ⟨w1.heap.size, 2, none⟩) (by have := Z.out; simp only; omega)).trans f2⟩
  have hbd : Hid (l.length - 1 ≤ 1048576) := Lib.hid (by omega)
  have hln2 : Hid ((l.take n ++ l.drop m).length = l.length - 1) := by show _ = _; rw [List.length_append, hl1, len2.out]; omega
  have hne : w.heap.size < w1.heap.size := by have := Z.out; omega
  clear hAD RA hcp hl1 O'
  have E1 : IntKind.i64.wrap ((n : Int) + 1) = (m : Int) := by simp [IntKind.wrap, IntKind.bits, IntKind.signed]; omega
  have i1 : (0 : Int) ≤ (n : Int) := by omega
  have i2 : (n : Int) ≤ (c : Int) := by omega
  have i3 : (0 : Int) ≤ (m : Int) := by omega
  have i4 : (m : Int) ≤ (l.length : Int) := by omega
  have i5 : (l.length : Int) ≤ (c : Int) := by omega
  have hk0 : ¬ (n : Int) < 0 := by omega
  have hk9 : ¬ (l.length : Int) ≤ (n : Int) := by omega
  clear hm
  have hX := hX63.out
  go_wp2_with fail
  go_region_held3 (fun W => W.cell? ⟨w.heap.size, 0, none⟩ = some (.int .i64 s) ∧ W.cell? ⟨w.heap.size, 2, none⟩ = some (.slice (some ⟨b, off, none⟩) l.length c)) (first | exact HS.out _ _ hbq2 | exact HK.out _ hbq2 | exact HK.out _ hbq1 | exact HK.out _ hdr.out) (first
    | (have hmk := hbq1; refine step_app_pairs2 (ad := AD) (l := l.take n) (m := l.drop m) (c2 := c - m) (.tmp 28) (.tmp 33) 24 32 rfl rfl Try.underlying24 pins_inf rfl (Nat.le_of_ble_eq_true rfl) rfl rfl len1 len2 lenr O5 hq5.size (HBk.out _ hbq1) hbd.out ?_; intro g6 d6 w6 O6 hb6 hk6; have hbq2 := hbq1.trans (hb6.mono hdr.out.size); obtain ⟨⟨e0, e1, e2⟩, e3⟩ := HD.out w6 hbq2)
    | (go_at_call 59; have hs := HC.out; refine hs.mono ?_; rintro e w5 ⟨g5, d5, rfl, O5, hq5⟩; have hy := hdr.out; have hbq1 := hy.trans (hq5.mono hy.size)))
  all_goals
    have P0 := cell_later p0 hbq2; have P1 := cell_later p1 hbq2; have P2 := cell_later p2 hbq2
    have Q0 := (hbq2.frozen (p := ⟨w.heap.size + 1, 0, none⟩) (by have := Z.out; simp only; omega)).trans q0
    have Q1 := (hbq2.frozen (p := ⟨w.heap.size + 1, 1, none⟩) (by have := Z.out; simp only; omega)).trans q1
    have Q2 := (hbq2.frozen (p := ⟨w.heap.size + 1, 2, none⟩) (by have := Z.out; simp only; omega)).trans q2
    generalize hZ : w6.setCell ⟨w1.heap.size, 2, none⟩ (.slice (some ⟨g6, 0, none⟩) (l.length - 1) d6) = wz
    obtain ⟨D0, D1, D2, hkz, hfz⟩ := cyl_set hZ e0 e1 e2
    clear hZ e0 e1 e2 e3 HD HS HK hX hX63 HBk HC HF hdr d0 d1 d2 f2 p0 p1 p2 q0 q1 q2 r0 r1 r2 E1
    obtain ⟨z1, z2, y1, z3, y4⟩ := Z.out
    replace P0 := hkz.cell' P0 (.inl (by simp only; omega)); replace P1 := hkz.cell' P1 (.inl (by simp only; omega)); replace P2 := hkz.cell' P2 (.inl (by simp only; omega))
    rw [← hfz] at Q0 Q1 Q2
    have HB := Lib.hid ((bthen hb4.out hbq2).trans (hkz.below (B := w.heap.size) (by have := hbq2.size; omega) (by omega)))
    have O6' : OwnP 32 w4.heap.size w6.heap.size w6 (some ⟨g6, 0, none⟩) d6 (l.take n ++ l.drop m) := O6
    have O7 := Lib.hid (O6'.kept hkz (.inr (by omega)))
    have hsz := Lib.hid (And.intro hbq2.size hkz.size)
    have hz4 : w.heap.size + 2 ≤ w4.heap.size ∧ w1.heap.size + 1 ≤ w4.heap.size ∧ w.heap.size + 2 ≤ w1.heap.size := by omega
    have Z9 := Lib.hid hz4
    clear hz4
    clear hkz hfz O6' O6 O5 hbq1 hbq2 hq5 hb6 hk6 hb4 y1 y4 z1 z2
    go_wp2
    refine bodyPost_ret (v := .tuple #[.agg #[.int .i64 s, .int .i64 t, .slice (some ⟨g6, 0, none⟩) (l.length - 1) d6], .bool true]) (by simp [results, Try.results17, go_sem, *]) rfl ?_
    obtain ⟨z1, z2, z3⟩ := Z9.out
    have y6 := hsz.out.1
    have y7 := hsz.out.2
    have K := (((Kept.refl (w.heap.size + 1) (w.heap.size + 2) wz).setCell (p := ⟨w.heap.size + 1, 0, none⟩) (by simp only; omega) (by simp only; omega) (.int .i64 s)).setCell (p := ⟨w.heap.size + 1, 1, none⟩) (by simp only; omega) (by simp only; omega) (.int .i64 t)).setCell (p := ⟨w.heap.size + 1, 2, none⟩) (by simp only; omega) (by simp only; omega) (.slice (some ⟨g6, 0, none⟩) (l.length - 1) d6)
    have O8 := (O7.out.kept K (.inr (by omega))).lo_mono (lo' := w.heap.size) (by omega)
    rw [hL.out, hok'.out, hln2.out]
    exact ⟨_, _, rfl, O8.hi_mono (Nat.le_trans hsz.out.2 K.size) (Nat.le_refl _), HB.out.trans (K.below (by omega) (by omega))⟩
end Go.Proofs.Ytakllloangpimaa
