/- CylinderOf: what the program's and the reference's answer. -/
import Derived.Test.YtkipgjllgmjipaaTurn
import Derived.Deep.RegionLawGrows
namespace Go.Proofs.Ytkipgjllgmjipaa
open Go.RowKit
set_option linter.unusedVariables false
def cofOk (n : List (Int × Int)) (te : List Int) (s t : Int) : Bool := tuneOk n && (decide (te.length = n.length) && (decide (pinsOf n te).Nodup && cylOk s t (sortP (pinsOf n te))))
def cofS (n : List (Int × Int)) (te : List Int) (s t : Int) : Int := if cofOk n te s t = true then s else 0
def cofT (n : List (Int × Int)) (te : List Int) (s t : Int) : Int := if cofOk n te s t = true then t else 0
def cofL (n : List (Int × Int)) (te : List Int) (s t : Int) : List (Int × Int) := if cofOk n te s t = true then sortP (pinsOf n te) else []
section
variable {n : List (Int × Int)} {te : List Int} {s t : Int}
theorem cof_false (h : cofOk n te s t = false) : cofS n te s t = 0 ∧ cofT n te s t = 0 ∧ cofL n te s t = [] ∧ cofOk n te s t = false := by
  have hn : ¬ cofOk n te s t = true := by rw [h]; exact Bool.false_ne_true
  exact ⟨if_neg hn, if_neg hn, if_neg hn, h⟩
theorem cof_true (h : cofOk n te s t = true) : cofS n te s t = s ∧ cofT n te s t = t ∧ cofL n te s t = sortP (pinsOf n te) ∧ cofOk n te s t = true := ⟨if_pos h, if_pos h, if_pos h, h⟩
theorem cof_bad (h : tuneOk n = false) : cofOk n te s t = false := by unfold cofOk; rw [h]; rfl
theorem cof_len (h : te.length ≠ n.length) : cofOk n te s t = false := by unfold cofOk; rw [decide_eq_false h]; simp
theorem cof_twice (h : ¬ (pinsOf n te).Nodup) : cofOk n te s t = false := by unfold cofOk; rw [decide_eq_false h]; simp
theorem cof_rest (h1 : tuneOk n = true) (h2 : te.length = n.length) (h3 : (pinsOf n te).Nodup) : cofOk n te s t = cylOk s t (sortP (pinsOf n te)) := by unfold cofOk; rw [h1, decide_eq_true h2, decide_eq_true h3]; rfl
/-- What the program asks of its sorted list. -/
theorem cof_sorted {m : List (Int × Int)} (h1 : tuneOk n = true) (h2 : te.length = n.length) (hp : m.Perm (pinsOf n te)) (hs : ∀ i j, i < j → j < m.length → ¬ ltP (m.getD j (0, 0)) (m.getD i (0, 0))) :
    cofOk n te s t = cylOk s t m ∧ (cylOk s t m = true → m = sortP (pinsOf n te)) := by
  by_cases hn : (pinsOf n te).Nodup
  · have e := sorted_eq hp hs hn
    exact ⟨by rw [cof_rest h1 h2 hn, e], fun _ => e⟩
  · have hf : cylOk s t m = false := by
      cases h : cylOk s t m
      · rfl
      · exact absurd (cylOk_sp h) (sorted_twice hp hn)
    exact ⟨by rw [cof_twice hn, hf], fun h => by rw [hf] at h; cases h⟩
end
theorem take_next {P : List (Int × Int)} {k : Nat} (hk : k < P.length) {p : Int × Int} (e : Hid (P.getD k (0, 0) = p)) : P.take (k + 1) = P.take k ++ [p] := by
  rw [List.take_succ_eq_append_getElem hk, ← e.out, getD_at hk]
theorem mem_take_putTo {P : List (Int × Int)} {k : Nat} (hk : k ≤ P.length) {x : Int × Int} : x ∈ putTo P k ↔ x ∈ P.take k := by
  rw [mem_putTo, ← mem_getD]
  have hl : (P.take k).length = k := by rw [List.length_take]; omega
  have he : ∀ j, j < k → (P.take k).getD j (0, 0) = P.getD j (0, 0) := fun j hj => by rw [List.getD_eq_getElem?_getD, List.getElem?_take, if_pos hj, ← List.getD_eq_getElem?_getD]
  constructor
  · rintro ⟨j, h1, h2⟩; exact ⟨j, by omega, by rw [he j h1]; exact h2⟩
  · rintro ⟨j, h1, h2⟩; exact ⟨j, by omega, by rw [← he j (by omega)]; exact h2⟩
theorem nodup_next {P : List (Int × Int)} {k : Nat} (hk : k < P.length) {p : Int × Int} (e : Hid (P.getD k (0, 0) = p)) (hn : (P.take k).Nodup) (hp : putNew p (putTo P k) = true) : (P.take (k + 1)).Nodup := by
  rw [put_has (sp_putTo P k)] at hp
  have hm : ¬ p ∈ putTo P k := by simpa using hp
  rw [mem_take_putTo (Nat.le_of_lt hk)] at hm
  rw [take_next hk e]
  exact List.nodup_append.2 ⟨hn, by simp, fun a ha b hb he => hm (by rw [List.mem_singleton] at hb; rw [← hb, ← he]; exact ha)⟩
theorem nodup_not {P : List (Int × Int)} {k : Nat} (hk : k < P.length) {p : Int × Int} (e : Hid (P.getD k (0, 0) = p)) (hp : putNew p (putTo P k) = false) : ¬ P.Nodup := by
  rw [put_has (sp_putTo P k)] at hp
  have hm : p ∈ putTo P k := by simpa using hp
  rw [mem_take_putTo (Nat.le_of_lt hk)] at hm
  intro hn
  have h1 : (P.take (k + 1)).Nodup := hn.sublist (List.take_sublist _ _)
  rw [take_next hk e] at h1
  exact (List.nodup_append.1 h1).2.2 p hm p (by simp) rfl
set_option maxHeartbeats 1000000 in
theorem impl_CylinderOf {s t : Int} {n : List (Int × Int)} {te : List Int} {A B : Option Addr} {ca cb : Nat} {w : World} (h1 : RP w A n) (h2 : RI w B te) :
    Calls Try.prog 52 #[.slice A n.length ca, .slice B te.length cb, .int .i64 s, .int .i64 t] w fun e w' => ∃ D d, e = .returned (.tuple #[.agg #[.int .i64 (cofS n te s t), .int .i64 (cofT n te s t), .slice D (cofL n te s t).length d], .bool (cofOk n te s t)]) ∧ OwnP 63 w.heap.size w'.heap.size w' D d (cofL n te s t) ∧ Below w.heap.size w w' := by
  have hn := h1.1
  have H1 := Lib.hid h1; have H2 := Lib.hid h2; clear h1 h2
  go_enter Try.func52, Try.ntmps52
  go_wp2_with fail
  generalize hW1 : World.alloc w _ = W1
  obtain ⟨b1, z1, u0, u1, u2⟩ := new3c hW1
  have q0 := new_frozen hW1 0; have q1 := new_frozen hW1 1; have q2 := new_frozen hW1 2
  clear hW1
  have HU : Hid (∀ W, Below W1.heap.size W1 W → (W.cell? ⟨w.heap.size, 0, none⟩ = some (.int .i64 0) ∧ W.cell? ⟨w.heap.size, 1, none⟩ = some (.int .i64 0) ∧ W.cell? ⟨w.heap.size, 2, none⟩ = some (.slice none 0 0)) ∧ W.frozen? ⟨w.heap.size, 0, none⟩ = false ∧ W.frozen? ⟨w.heap.size, 1, none⟩ = false ∧ W.frozen? ⟨w.heap.size, 2, none⟩ = false) := fun W h =>
    ⟨⟨cell_later u0 h, cell_later u1 h, cell_later u2 h⟩, (h.frozen (p := ⟨w.heap.size, 0, none⟩) (by simp only; omega)).trans q0, (h.frozen (p := ⟨w.heap.size, 1, none⟩) (by simp only; omega)).trans q1, (h.frozen (p := ⟨w.heap.size, 2, none⟩) (by simp only; omega)).trans q2⟩
  clear u0 u1 u2 q0 q1 q2
  have HR1 : Hid (∀ W, Below W1.heap.size W1 W → RP W A n) := fun W h => H1.out.below (bthen b1 h)
  have HR2 : Hid (∀ W, Below W1.heap.size W1 W → RI W B te) := fun W h => H2.out.below (bthen b1 h)
  have HBW : Hid (∀ W, Below W1.heap.size W1 W → Below w.heap.size w W) := fun W h => bthen b1 h
  clear b1
  refine (impl_TuneOk (HR1.out W1 (Below.refl _ _))).mono ?_
  rintro e w2 ⟨rfl, hq2⟩
  cases g1 : tuneOk n
  · have hF := Lib.hid (cof_false (cof_bad (te := te) (s := s) (t := t) g1))
    obtain ⟨⟨P0, P1, P2⟩, Q0, Q1, Q2⟩ := HU.out w2 hq2
    have HB := Lib.hid (HBW.out w2 hq2)
    clear hq2
    go_wp2
    refine bodyPost_ret (v := .tuple #[.agg #[.int .i64 0, .int .i64 0, .slice none 0 0], .bool false]) (by simp [results, Try.results52, go_sem, *]) rfl ?_
    obtain ⟨k1, k2⟩ := res_end (R := w.heap.size) (v0 := .int .i64 0) (v1 := .int .i64 0) (v2 := .slice none 0 0) (OwnP.nil 63 (lo := w.heap.size + 1) _ (Nat.le_refl _)) HB.out (by omega) (by omega)
    rw [hF.out.1, hF.out.2.1, hF.out.2.2.1, hF.out.2.2.2]
    exact ⟨_, _, rfl, k1, k2⟩
  by_cases hlen : te.length = n.length
  case neg =>
    have hF := Lib.hid (cof_false (cof_len (n := n) (s := s) (t := t) hlen))
    have hne : ((te.length : Int) != (n.length : Int)) = true := by simp; omega
    obtain ⟨⟨P0, P1, P2⟩, Q0, Q1, Q2⟩ := HU.out w2 hq2
    have HB := Lib.hid (HBW.out w2 hq2)
    clear hq2
    go_wp2
    refine bodyPost_ret (v := .tuple #[.agg #[.int .i64 0, .int .i64 0, .slice none 0 0], .bool false]) (by simp [results, Try.results52, go_sem, *]) rfl ?_
    obtain ⟨k1, k2⟩ := res_end (R := w.heap.size) (v0 := .int .i64 0) (v1 := .int .i64 0) (v2 := .slice none 0 0) (OwnP.nil 63 (lo := w.heap.size + 1) _ (Nat.le_refl _)) HB.out (by omega) (by omega)
    rw [hF.out.1, hF.out.2.1, hF.out.2.2.1, hF.out.2.2.2]
    exact ⟨_, _, rfl, k1, k2⟩
  have hne : ((te.length : Int) != (n.length : Int)) = false := by simp; omega
  have hsort : Hid (∀ m : List (Int × Int), m.Perm (pinsOf n te) → (∀ i j, i < j → j < m.length → ¬ ltP (m.getD j (0, 0)) (m.getD i (0, 0))) → cofOk n te s t = cylOk s t m ∧ (cylOk s t m = true → m = sortP (pinsOf n te))) := fun m hp hs => cof_sorted g1 hlen hp hs
  have h40 := (tuneOk_parts g1).1
  have hlen' := Lib.hid hlen
  clear g1 hlen
  have hPl : Hid ((pinsOf n te).length = n.length) := length_pinsOf n te
  go_wp2
  generalize hW3 : World.alloc w2 _ = W3
  obtain ⟨b3, z3, d0, d1, d2⟩ := new3c hW3
  have f2 := new_frozen hW3 2
  clear hW3
  have HB2 : Hid (∀ W, Below w2.heap.size w2 W → Below W1.heap.size W1 W) := fun W h => bthen hq2 h
  have hz2 := hq2.size
  clear hq2
  go_loopw [29] (fun i wr => ∃ (k d : Nat) (D : Option Addr), k ≤ n.length ∧ i = .int .i64 k ∧ Hid ((wr.cell? ⟨w2.heap.size, 0, none⟩ = some (.int .i64 s) ∧ wr.cell? ⟨w2.heap.size, 1, none⟩ = some (.int .i64 t) ∧ wr.cell? ⟨w2.heap.size, 2, none⟩ = some (.slice D k d)) ∧ wr.frozen? ⟨w2.heap.size, 2, none⟩ = false) ∧
    Hid (OwnP 63 (w2.heap.size + 1) wr.heap.size wr D d ((pinsOf n te).take k)) ∧ w2.heap.size + 1 ≤ wr.heap.size ∧ Below w2.heap.size w2 wr) (fun i _ => n.length - (intOf i).toNat)
  case atStart => exact ⟨0, 0, none, Nat.zero_le _, rfl, ⟨⟨d0, d1, d2⟩, f2⟩, OwnP.nil _ _ (Nat.le_refl _), by omega, b3⟩
  clear d0 d1 d2 f2 b3
  case round =>
    obtain ⟨k, d, D, hk, rfl, hd, ho, hDr, hbel⟩ := hrel
    obtain ⟨⟨d0, d1, d2⟩, f2⟩ := hd.out
    by_cases hlt : k < n.length
    · obtain ⟨bb, off, rfl, hP⟩ := (HR1.out w2 (HB2.out w2 (Below.refl _ _))).2 (by omega)
      obtain ⟨bt, oft, rfl, hI⟩ := (HR2.out w2 (HB2.out w2 (Below.refl _ _))).2 (by rw [hlen'.out]; omega)
      have HP := Lib.hid hP; have HI := Lib.hid hI; clear hP hI
      obtain ⟨x, y, e1⟩ := pair_of n k
      obtain ⟨z, e2⟩ := int_of te k
      have e3 : Hid ((pinsOf n te).getD k (0, 0) = (z, x)) := pinsOf_at hlt e1 e2
      have hkt : k < te.length := by have := hlen'.out; omega
      have hnext := Lib.hid (take_next (by rw [hPl.out]; exact hlt) e3)
      have htl : Hid (((pinsOf n te).take k).length = k) := by show _ = _; rw [List.length_take, hPl.out]; omega
      have c1 := HP.out.c1 hbel hlt e1
      have c2 := HP.out.c2 hbel hlt e1
      go_wp2_with fail
      generalize hW5 : World.alloc wr _ = W5
      obtain ⟨b5, z5, n0, n1⟩ := new2c hW5
      clear hW5 c1 c2
      have hb5 := Lib.hid (bthen hbel b5)
      have n2' := n0
      have D2 := cell_later d2 b5
      have T0 := HI.out.c1 hb5.out hkt e2
      have HDk : Hid (∀ W, Below (w2.heap.size + 1) W5 W → (W.cell? ⟨w2.heap.size, 0, none⟩ = some (.int .i64 s) ∧ W.cell? ⟨w2.heap.size, 1, none⟩ = some (.int .i64 t) ∧ W.cell? ⟨w2.heap.size, 2, none⟩ = some (.slice D k d)) ∧ W.frozen? ⟨w2.heap.size, 2, none⟩ = false) := fun W h =>
        ⟨⟨(World.cell?_of_block (w := W5) (a := ⟨w2.heap.size, 0, none⟩) (h.block _ (Nat.lt_succ_self _))).trans (cell_later d0 b5), (World.cell?_of_block (w := W5) (a := ⟨w2.heap.size, 1, none⟩) (h.block _ (Nat.lt_succ_self _))).trans (cell_later d1 b5), (World.cell?_of_block (w := W5) (a := ⟨w2.heap.size, 2, none⟩) (h.block _ (Nat.lt_succ_self _))).trans (cell_later d2 b5)⟩,
          (frozen_of_block (a := ⟨w2.heap.size, 2, none⟩) (h.block _ (Nat.lt_succ_self _))).trans ((b5.frozen (p := ⟨w2.heap.size, 2, none⟩) (by simp only; omega)).trans f2)⟩
      have O5 : Hid (OwnC 63 2 (w2.heap.size + 1) wr.heap.size W5 D d k (pcells ((pinsOf n te).take k))) := by
        have h := (ho.out.below b5 (Nat.le_refl _)).c
        rw [htl.out] at h
        exact h
      have hlo5 : Hid (w2.heap.size + 1 ≤ W5.heap.size) := Lib.hid (by omega)
      have hone : Hid (∀ u ∈ [Value.int .i64 z, Value.int .i64 x], u.oneCell' = true) := by
        show ∀ u ∈ [Value.int .i64 z, Value.int .i64 x], u.oneCell' = true
        intro u hu
        simp only [List.mem_cons, List.mem_nil_iff, or_false] at hu
        rcases hu with rfl | rfl <;> rfl
      have hk4 : Hid (k + 1 ≤ 4194304) := Lib.hid (by omega)
      have hby16 : Hid (16 ≤ 1024) := by show 16 ≤ 1024; decide
      have HKt : Hid (∀ W, Below (w2.heap.size + 1) W5 W → W.cell? ⟨bt, oft + k, none⟩ = some (.int .i64 z)) := fun W h => (World.cell?_of_block (w := W5) (a := ⟨bt, oft + k, none⟩) (h.block _ (Nat.lt_succ_of_lt HI.out.1))).trans T0
      have HSt : Hid (∀ W u, Below (w2.heap.size + 1) W5 W → (W.setCell ⟨w2.heap.size, 2, none⟩ u).cell? ⟨bt, oft + k, none⟩ = some (.int .i64 z)) := fun W u h => by
        have hk : Kept w2.heap.size (w2.heap.size + 1) W (W.setCell ⟨w2.heap.size, 2, none⟩ u) := (Kept.refl _ _ _).setCell (p := ⟨w2.heap.size, 2, none⟩) (Nat.le_refl _) (Nat.lt_succ_self _) u
        exact hk.cell' (HKt.out W h) (.inl HI.out.1)
      have hdr : Hid (Below (w2.heap.size + 1) W5 W5.drew) := (Below.refl _ _).drew
      have hdA : Hid (Below (w2.heap.size + 1) W5 (W5.alloc (.cells #[.int .i64 z, .int .i64 x] 63)).drew) := (Below.alloc (Below.refl _ _) (by omega) _).drew
      have D2a : (W5.alloc (.cells #[.int .i64 z, .int .i64 x] 63)).cell? ⟨w2.heap.size, 2, none⟩ = some (.slice D k d) := cell_later D2 (bnew (Below.refl _ _) _)
      have D2b : (W5.alloc (.cells #[.int .i64 z, .int .i64 x] 63)).drew.cell? ⟨w2.heap.size, 2, none⟩ = some (.slice D k d) := D2a
      have Z5 := Lib.hid z5
      clear d0 d1 d2 f2 hd ho hbel b5 n1 n2' z5
      go_region_law (first
        | (refine step_app_new [.int .i64 z, .int .i64 x] (.tmp 35) (.tmp 43) 51 63 rfl rfl Try.underlying51 pins_inf rfl (Nat.succ_pos 1) rfl rfl O5.out hlo5.out (Nat.succ_pos 0) rfl hone.out hk4.out hby16.out ?_; intro D' d' w6 O6 hb6; obtain ⟨⟨e0, e1', e2'⟩, e3'⟩ := HDk.out w6 hb6))
      all_goals
        have hz6 := hb6.size
        have z5 := Z5.out
        have hbz := Lib.hid (hb5.out.trans (hb6.mono (Nat.le_succ _)))
        have O7 : OwnP 63 (w2.heap.size + 1) w6.heap.size w6 D' d' ((pinsOf n te).take (k + 1)) := by
          have hp : pcells ((pinsOf n te).take (k + 1)) = pcells ((pinsOf n te).take k) ++ [.int .i64 z, .int .i64 x] := by rw [hnext.out, pcells_append]; rfl
          have hl1 : ((pinsOf n te).take (k + 1)).length = k + 1 := by rw [hnext.out, List.length_append, htl.out]; rfl
          rw [← hp] at O6
          exact ⟨by rw [hl1]; exact O6.row, O6.top, O6.le, by rw [hl1]; omega⟩
        have O7' := Lib.hid O7
        clear O6 O7 hb6 HDk hone
        go_wp2
        generalize hZ : w6.setCell ⟨w2.heap.size, 2, none⟩ _ = wz
        obtain ⟨D0, D1, D2', hkz, hfz⟩ := cyl_set hZ e0 e1' e2'
        rw [← hfz] at e3'
        have hsz := hkz.size
        clear hZ e0 e1' e2' hfz
        go_roundw
        case rel =>
          exact ⟨k + 1, d', D', by omega, by go_num, ⟨⟨D0, D1, D2'⟩, e3'⟩, (O7'.out.kept hkz (.inr (Nat.le_refl _))).hi_mono hsz (Nat.le_refl _), by omega, hbz.out.trans (hkz.below (B := w2.heap.size) hbz.out.size (Nat.le_refl _))⟩
        case measure => simp [intOf]; omega
    · obtain rfl : k = n.length := by omega
      have hta : (pinsOf n te).take n.length = pinsOf n te := by rw [← hPl.out, List.take_length]
      rw [hta] at ho
      have hq9 := Lib.hid (HB2.out wr hbel)
      clear hta hbel
      go_wp2_with fail
      refine (impl_sortedAt ho.out.reads hPl).mono ?_
      rintro e w6 ⟨g6, d6, m, rfl, hp, hs, O6, hq6⟩
      have hml := Lib.hid ((hp.length_eq).trans hPl.out)
      have hcf := Lib.hid (hsort.out m hp hs)
      clear hp hs
      replace d0 := cell_later d0 hq6; replace d1 := cell_later d1 hq6; replace d2 := cell_later d2 hq6
      replace f2 := (hq6.frozen (p := ⟨w2.heap.size, 2, none⟩) (by simp only; omega)).trans f2
      have hq26 := Lib.hid (bthen hq9.out hq6)
      have hs6 := hq6.size
      have O6' := Lib.hid O6
      clear hq6 O6
      go_wp2_with fail
      generalize hZ : w6.setCell ⟨w2.heap.size, 2, none⟩ _ = wz
      obtain ⟨D0, D1, D2, hkz, hfz⟩ := cyl_set hZ d0 d1 d2
      clear hZ d0 d1 d2 f2 hfz
      have O7 := O6'.out.kept hkz (.inr (by omega))
      have hq2z := hq26.out.trans (hkz.below (B := W1.heap.size) hq26.out.size (by omega))
      have hsz := hkz.size
      clear hkz O6' hq26
      refine (impl_CylinderOkAt O7.reads hml).mono ?_
      rintro e w7 ⟨rfl, hq7⟩
      have O8 := Lib.hid (O7.below hq7 O7.le)
      have hq27 := bthen hq2z hq7
      replace D0 := cell_later D0 hq7; replace D1 := cell_later D1 hq7; replace D2 := cell_later D2 hq7
      clear O7 hq2z hq7
      obtain ⟨⟨P0, P1, P2⟩, Q0, Q1, Q2⟩ := HU.out w7 hq27
      have HB := Lib.hid (HBW.out w7 hq27)
      clear hq27
      cases g7 : cylOk s t m
      · have hF := Lib.hid (cof_false (hcf.out.1.trans g7))
        clear D0 D1 D2
        go_wp2
        refine bodyPost_ret (v := .tuple #[.agg #[.int .i64 0, .int .i64 0, .slice none 0 0], .bool false]) (by simp [results, Try.results52, go_sem, *]) rfl ?_
        obtain ⟨k1, k2⟩ := res_end (R := w.heap.size) (v0 := .int .i64 0) (v1 := .int .i64 0) (v2 := .slice none 0 0) (OwnP.nil 63 (lo := w.heap.size + 1) _ (Nat.le_refl _)) HB.out (by omega) (by omega)
        rw [hF.out.1, hF.out.2.1, hF.out.2.2.1, hF.out.2.2.2]
        exact ⟨_, _, rfl, k1, k2⟩
      · have hF := Lib.hid (cof_true (hcf.out.1.trans g7))
        obtain rfl := hcf.out.2 g7
        go_wp2
        refine bodyPost_ret (v := .tuple #[.agg #[.int .i64 s, .int .i64 t, .slice (some ⟨g6, 0, none⟩) n.length d6], .bool true]) (by simp [results, Try.results52, go_sem, *]) rfl ?_
        obtain ⟨k1, k2⟩ := res_end (R := w.heap.size) (v0 := .int .i64 s) (v1 := .int .i64 t) (v2 := .slice (some ⟨g6, 0, none⟩) n.length d6) O8.out HB.out (by omega) (by omega)
        rw [hF.out.1, hF.out.2.1, hF.out.2.2.1, hF.out.2.2.2, hml.out]
        exact ⟨_, _, rfl, k1, k2⟩
set_option maxHeartbeats 1000000 in
theorem spec_CylinderOf {s t : Int} {n : List (Int × Int)} {te : List Int} {A B : Option Addr} {ca cb : Nat} {w : World} (h1 : RP w A n) (h2 : RI w B te) :
    Calls Try.prog 51 #[.slice A n.length ca, .slice B te.length cb, .int .i64 s, .int .i64 t] w fun e w' => ∃ D d, e = .returned (.tuple #[.agg #[.int .i64 (cofS n te s t), .int .i64 (cofT n te s t), .slice D (cofL n te s t).length d], .bool (cofOk n te s t)]) ∧ OwnP 63 w.heap.size w'.heap.size w' D d (cofL n te s t) ∧ Below w.heap.size w w' := by
  have hn := h1.1
  have H1 := Lib.hid h1; have H2 := Lib.hid h2; clear h1 h2
  go_enter Try.func51, Try.ntmps51
  go_wp2_with fail
  generalize hW1 : World.alloc w _ = W1
  obtain ⟨b1, z1, u0, u1, u2⟩ := new3c hW1
  have q0 := new_frozen hW1 0; have q1 := new_frozen hW1 1; have q2 := new_frozen hW1 2
  clear hW1
  generalize hW2 : World.alloc W1 _ = W2
  obtain ⟨b2, z2, d0, d1, d2⟩ := new3c hW2
  have f2 := new_frozen hW2 2
  clear hW2
  have HU : Hid (∀ W, Below W1.heap.size W1 W → (W.cell? ⟨w.heap.size, 0, none⟩ = some (.int .i64 0) ∧ W.cell? ⟨w.heap.size, 1, none⟩ = some (.int .i64 0) ∧ W.cell? ⟨w.heap.size, 2, none⟩ = some (.slice none 0 0)) ∧ W.frozen? ⟨w.heap.size, 0, none⟩ = false ∧ W.frozen? ⟨w.heap.size, 1, none⟩ = false ∧ W.frozen? ⟨w.heap.size, 2, none⟩ = false) := fun W h =>
    ⟨⟨cell_later u0 h, cell_later u1 h, cell_later u2 h⟩, (h.frozen (p := ⟨w.heap.size, 0, none⟩) (by simp only; omega)).trans q0, (h.frozen (p := ⟨w.heap.size, 1, none⟩) (by simp only; omega)).trans q1, (h.frozen (p := ⟨w.heap.size, 2, none⟩) (by simp only; omega)).trans q2⟩
  clear u0 u1 u2 q0 q1 q2
  have HR1 : Hid (∀ W, Below W1.heap.size W1 W → RP W A n) := fun W h => H1.out.below (bthen b1 h)
  have HR2 : Hid (∀ W, Below W1.heap.size W1 W → RI W B te) := fun W h => H2.out.below (bthen b1 h)
  have HBW : Hid (∀ W, Below W1.heap.size W1 W → Below w.heap.size w W) := fun W h => bthen b1 h
  clear b1
  rw [z1] at d0 d1 d2 f2
  refine (spec_TuneOk (HR1.out W2 b2)).mono ?_
  rintro e w2 ⟨rfl, hq2⟩
  replace d0 := cell_later d0 hq2; replace d1 := cell_later d1 hq2; replace d2 := cell_later d2 hq2
  replace f2 := (hq2.frozen (p := ⟨w.heap.size + 1, 2, none⟩) (by simp only; omega)).trans f2
  have hq12 := bthen b2 hq2
  have hz2 := hq2.size
  clear b2 hq2
  cases g1 : tuneOk n
  · have hF := Lib.hid (cof_false (cof_bad (te := te) (s := s) (t := t) g1))
    obtain ⟨⟨P0, P1, P2⟩, Q0, Q1, Q2⟩ := HU.out w2 hq12
    have HB := Lib.hid (HBW.out w2 hq12)
    clear hq12
    go_wp2
    refine bodyPost_ret (v := .tuple #[.agg #[.int .i64 0, .int .i64 0, .slice none 0 0], .bool false]) (by simp [results, Try.results51, go_sem, *]) rfl ?_
    obtain ⟨k1, k2⟩ := res_end (R := w.heap.size) (v0 := .int .i64 0) (v1 := .int .i64 0) (v2 := .slice none 0 0) (OwnP.nil 63 (lo := w.heap.size + 1) _ (Nat.le_refl _)) HB.out (by omega) (by omega)
    rw [hF.out.1, hF.out.2.1, hF.out.2.2.1, hF.out.2.2.2]
    exact ⟨_, _, rfl, k1, k2⟩
  by_cases hlen : te.length = n.length
  case neg =>
    have hF := Lib.hid (cof_false (cof_len (n := n) (s := s) (t := t) hlen))
    have hne : ((te.length : Int) != (n.length : Int)) = true := by simp; omega
    obtain ⟨⟨P0, P1, P2⟩, Q0, Q1, Q2⟩ := HU.out w2 hq12
    have HB := Lib.hid (HBW.out w2 hq12)
    clear hq12
    go_wp2
    refine bodyPost_ret (v := .tuple #[.agg #[.int .i64 0, .int .i64 0, .slice none 0 0], .bool false]) (by simp [results, Try.results51, go_sem, *]) rfl ?_
    obtain ⟨k1, k2⟩ := res_end (R := w.heap.size) (v0 := .int .i64 0) (v1 := .int .i64 0) (v2 := .slice none 0 0) (OwnP.nil 63 (lo := w.heap.size + 1) _ (Nat.le_refl _)) HB.out (by omega) (by omega)
    rw [hF.out.1, hF.out.2.1, hF.out.2.2.1, hF.out.2.2.2]
    exact ⟨_, _, rfl, k1, k2⟩
  have hne : ((te.length : Int) != (n.length : Int)) = false := by simp; omega
  have hrest : Hid ((pinsOf n te).Nodup → cofOk n te s t = cylOk s t (sortP (pinsOf n te))) := fun h => cof_rest g1 hlen h
  have h40 := (tuneOk_parts g1).1
  have hlen' := Lib.hid hlen
  clear g1 hlen
  have hPl : Hid ((pinsOf n te).length = n.length) := length_pinsOf n te
  go_wp2
  go_loopw [11] (fun i wr => ∃ (k d lo hi : Nat) (D : Option Addr) (L : List (Int × Int)), k ≤ n.length ∧ i = .int .i64 k ∧ L.length ≤ k ∧ Hid (L = putTo (pinsOf n te) k) ∧ Hid ((pinsOf n te).take k).Nodup ∧ Hid (FormP D d L) ∧ Hid ((wr.cell? ⟨w.heap.size + 1, 0, none⟩ = some (.int .i64 s) ∧ wr.cell? ⟨w.heap.size + 1, 1, none⟩ = some (.int .i64 t) ∧ wr.cell? ⟨w.heap.size + 1, 2, none⟩ = some (.slice D L.length d)) ∧ wr.frozen? ⟨w.heap.size + 1, 2, none⟩ = false) ∧
    Hid (OwnP 63 lo hi wr D d L) ∧ w.heap.size + 1 < lo ∧ w.heap.size + 1 < wr.heap.size ∧ Below W1.heap.size W1 wr) (fun i _ => n.length - (intOf i).toNat)
  case atStart => exact ⟨0, 0, w.heap.size + 1 + 1, w.heap.size + 1 + 1, none, [], Nat.zero_le _, rfl, Nat.le_refl _, rfl, List.nodup_nil, .inl ⟨rfl, rfl, rfl⟩, ⟨⟨d0, d1, d2⟩, f2⟩, OwnP.nil _ _ (by omega), Nat.lt_succ_self _, by omega, hq12⟩
  clear d0 d1 d2 f2 hq12
  case round =>
    obtain ⟨k, d, lo, hi, D, L, hk, rfl, hLk, hLe, hnd, hfo, hd, ho, hlo, hDr, hbel⟩ := hrel
    obtain ⟨⟨d0, d1, d2⟩, f2⟩ := hd.out
    by_cases hlt : k < n.length
    · obtain ⟨bb, off, rfl, hP⟩ := (HR1.out W1 (Below.refl _ _)).2 (by omega)
      obtain ⟨bt, oft, rfl, hI⟩ := (HR2.out W1 (Below.refl _ _)).2 (by rw [hlen'.out]; omega)
      have HP := Lib.hid hP; have HI := Lib.hid hI; clear hP hI
      obtain ⟨x, y, e1⟩ := pair_of n k
      obtain ⟨z, e2⟩ := int_of te k
      have e3 : Hid ((pinsOf n te).getD k (0, 0) = (z, x)) := pinsOf_at hlt e1 e2
      have hkt : k < te.length := by have := hlen'.out; omega
      have hkP : Hid (k < (pinsOf n te).length) := by show _ < _; rw [hPl.out]; exact hlt
      have c1 := HP.out.c1 hbel hlt e1
      have t0 := HI.out.c1 hbel hkt e2
      have HK : Hid (∀ W, Below wr.heap.size wr W → W.cell? ⟨w.heap.size + 1, 2, none⟩ = some (.slice D L.length d) ∧ W.cell? ⟨bt, oft + k, none⟩ = some (.int .i64 z) ∧ W.cell? ⟨bb, off + k * 2, none⟩ = some (.int .i64 x)) := fun W h => ⟨cell_later d2 h, cell_later t0 h, cell_later c1 h⟩
      have HD : Hid (∀ W, Below wr.heap.size wr W → (W.cell? ⟨w.heap.size + 1, 0, none⟩ = some (.int .i64 s) ∧ W.cell? ⟨w.heap.size + 1, 1, none⟩ = some (.int .i64 t) ∧ W.cell? ⟨w.heap.size + 1, 2, none⟩ = some (.slice D L.length d)) ∧ W.frozen? ⟨w.heap.size + 1, 2, none⟩ = false) := fun W h =>
        ⟨⟨cell_later d0 h, cell_later d1 h, cell_later d2 h⟩, (h.frozen (p := ⟨w.heap.size + 1, 2, none⟩) (by simp only; omega)).trans f2⟩
      have hdr := Lib.hid ((Below.refl wr.heap.size wr).drew)
      have OR : Hid (RP wr.drew D L) := ho.out.reads.below hdr.out
      have hcap := Lib.hid ho.out.capC
      have hbd : Hid (L.length + 1 ≤ 1048576) := Lib.hid (by omega)
      have hbl := Lib.hid hbel
      clear hd ho hbel
      go_wp2_with fail
      clear d0 d1 d2 f2 c1 t0
      go_region_held3 (fun W => W.cell? ⟨w.heap.size + 1, 2, none⟩ = some (.slice D L.length d) ∧ W.cell? ⟨bt, oft + k, none⟩ = some (.int .i64 z) ∧ W.cell? ⟨bb, off + k * 2, none⟩ = some (.int .i64 x)) (first | exact HK.out _ hq5 | exact HK.out _ hdr.out | go_keep) (first
        | (go_at_call 80; refine (spec_l06PutF OR.out hcap.out hfo.out hbd.out).mono ?_; rintro e w5 ⟨g5, d5, rfl, O5, hq9⟩; have hq5 := hdr.out.trans hq9))
      all_goals
        obtain ⟨⟨d0, d1, d2⟩, f2⟩ := HD.out w5 hq5
        have hns : Hid (insP (z, x) L = putTo (pinsOf n te) (k + 1)) := by
          show _ = _
          rw [putTo_succ, e3.out, ← hLe.out]
        have O5' : OwnP 63 wr.heap.size w5.heap.size w5 (some ⟨g5, 0, none⟩) d5 (insP (z, x) L) := O5
        have hO5 := Lib.hid O5'
        have hz5 := hq5.size
        have hbz := Lib.hid (bthen hbl.out hq5)
        have hll : (insP (z, x) L).length ≤ L.length + 1 := length_insP_le _ _
        clear HK HD OR hcap hdr O5 O5' hq5 hq9
        cases gp : putNew (z, x) L
        · have hF := Lib.hid (cof_false (cof_twice (s := s) (t := t) (nodup_not hkP.out e3 (by rw [← hLe.out]; exact gp))))
          obtain ⟨⟨P0, P1, P2⟩, Q0, Q1, Q2⟩ := HU.out w5 hbz.out
          have HB := Lib.hid (HBW.out w5 hbz.out)
          clear d0 d1 d2 f2
          go_wp2
          refine bodyPost_ret (v := .tuple #[.agg #[.int .i64 0, .int .i64 0, .slice none 0 0], .bool false]) (by simp [results, Try.results51, go_sem, *]) rfl ?_
          obtain ⟨k1, k2⟩ := res_end (R := w.heap.size) (v0 := .int .i64 0) (v1 := .int .i64 0) (v2 := .slice none 0 0) (OwnP.nil 63 (lo := w.heap.size + 1) _ (Nat.le_refl _)) HB.out (by omega) (by omega)
          rw [hF.out.1, hF.out.2.1, hF.out.2.2.1, hF.out.2.2.2]
          exact ⟨_, _, rfl, k1, k2⟩
        · have hnd2 := Lib.hid (nodup_next hkP.out e3 hnd.out (by rw [← hLe.out]; exact gp))
          clear gp
          go_wp2
          generalize hZ : w5.setCell ⟨w.heap.size + 1, 2, none⟩ _ = wz
          obtain ⟨D0, D1, D2, hkz, hfz⟩ := cyl_set hZ d0 d1 d2
          rw [← hfz] at f2
          clear hZ d0 d1 d2 hfz
          have hsz := hkz.size
          go_roundw
          case rel =>
            exact ⟨k + 1, d5, wr.heap.size, w5.heap.size, _, _, by omega, by go_num, by omega, hns.out, hnd2.out, .inr ⟨_, _, rfl⟩, ⟨⟨D0, D1, D2⟩, f2⟩, hO5.out.kept hkz (.inr (by omega)), by omega, by omega, hbz.out.trans (hkz.below (B := W1.heap.size) hbz.out.size (by omega))⟩
          case measure => simp [intOf]; omega
    · obtain rfl : k = n.length := by omega
      have hta : (pinsOf n te).take n.length = pinsOf n te := by rw [← hPl.out, List.take_length]
      rw [hta] at hnd
      have hT : Hid (L = sortP (pinsOf n te)) := by show _ = _; rw [hLe.out, ← hPl.out, putTo_all]
      have hcf : Hid (cofOk n te s t = cylOk s t L) := by show _ = _; rw [hrest.out hnd.out, hT.out]
      have hq9 := Lib.hid hbel
      clear hta hbel hd
      go_wp2_with fail
      refine (spec_CylinderOk ho.out.reads).mono ?_
      rintro e w7 ⟨rfl, hq7⟩
      have O8 := Lib.hid (ho.out.below hq7 ho.out.le)
      have hq27 := bthen hq9.out hq7
      replace d0 := cell_later d0 hq7; replace d1 := cell_later d1 hq7; replace d2 := cell_later d2 hq7
      obtain ⟨⟨P0, P1, P2⟩, Q0, Q1, Q2⟩ := HU.out w7 hq27
      have HB := Lib.hid (HBW.out w7 hq27)
      clear hq27 hq7 ho
      cases g7 : cylOk s t L
      · have hF := Lib.hid (cof_false (hcf.out.trans g7))
        clear d0 d1 d2
        go_wp2
        refine bodyPost_ret (v := .tuple #[.agg #[.int .i64 0, .int .i64 0, .slice none 0 0], .bool false]) (by simp [results, Try.results51, go_sem, *]) rfl ?_
        obtain ⟨k1, k2⟩ := res_end (R := w.heap.size) (v0 := .int .i64 0) (v1 := .int .i64 0) (v2 := .slice none 0 0) (OwnP.nil 63 (lo := w.heap.size + 1) _ (Nat.le_refl _)) HB.out (by omega) (by omega)
        rw [hF.out.1, hF.out.2.1, hF.out.2.2.1, hF.out.2.2.2]
        exact ⟨_, _, rfl, k1, k2⟩
      · have hF := Lib.hid (cof_true (hcf.out.trans g7))
        clear f2
        go_wp2
        refine bodyPost_ret (v := .tuple #[.agg #[.int .i64 s, .int .i64 t, .slice D L.length d], .bool true]) (by simp [results, Try.results51, go_sem, *]) rfl ?_
        obtain ⟨k1, k2⟩ := res_end (R := w.heap.size) (v0 := .int .i64 s) (v1 := .int .i64 t) (v2 := .slice D L.length d) O8.out HB.out (by omega) (by omega)
        rw [hF.out.1, hF.out.2.1, hF.out.2.2.1, hF.out.2.2.2, ← hT.out]
        exact ⟨_, _, rfl, k1, k2⟩
end Go.Proofs.Ytkipgjllgmjipaa
