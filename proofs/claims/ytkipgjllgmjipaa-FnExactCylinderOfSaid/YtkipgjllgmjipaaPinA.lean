/- AddPin of the program: what it answers. -/
import Derived.Test.YtkipgjllgmjipaaSrtP
import Derived.Test.YtkipgjllgmjipaaCylT
import Derived.Test.YtkipgjllgmjipaaChg
namespace Go.Proofs.Ytkipgjllgmjipaa
open Go.RowKit
set_option linter.unusedVariables false
theorem frozen_of_block {w w' : World} {a : Addr} (h : w'.heap[a.block]? = w.heap[a.block]?) : w'.frozen? a = w.frozen? a := by
  unfold World.frozen?; rw [h]
theorem parkP {p : Prop} (h : Hid p) : p := h.out
theorem impl_hasPin {l : List (Int × Int)} {A : Option Addr} {c : Nat} {x y : Int} {w : World} (h : RP w A l) :
    Calls Try.prog 90 #[.slice A l.length c, .agg #[.int .i64 x, .int .i64 y]] w fun e w' => e = .returned (.bool (decide ((x, y) ∈ l))) ∧ Below w.heap.size w w' := by
  obtain ⟨hn, hA⟩ := h
  have HA := Lib.hid hA; clear hA
  have hyes : Hid (∀ k, k < l.length → l.getD k (0, 0) = (x, y) → decide ((x, y) ∈ l) = true) := fun k hk e => decide_eq_true (mem_getD.1 ⟨k, hk, e⟩)
  have hno : Hid ((∀ j, j < l.length → l.getD j (0, 0) ≠ (x, y)) → decide ((x, y) ∈ l) = false) := fun h => decide_eq_false fun hm => by
    obtain ⟨j, h1, h2⟩ := mem_getD.2 hm
    exact h j h1 h2
  go_enter Try.func90, Try.ntmps90
  go_wp2
  generalize hW : World.alloc w _ = W1
  obtain ⟨hb1, _, m0, m1⟩ := new2c hW
  clear hW
  have M0 := Lib.hid m0; have M1 := Lib.hid m1
  clear m0 m1
  go_loopw [9] (fun i wr => ∃ k : Nat, k ≤ l.length ∧ i = .int .i64 k ∧ Hid (∀ j, j < k → l.getD j (0, 0) ≠ (x, y)) ∧ Below W1.heap.size W1 wr) (fun i _ => l.length - (intOf i).toNat)
  case atStart => exact ⟨0, Nat.zero_le _, rfl, fun j hj => absurd hj (by omega), Below.refl _ _⟩
  case round =>
    obtain ⟨k, hk, rfl, hall, hbel⟩ := hrel
    by_cases hlt : k < l.length
    · obtain ⟨b, off, rfl, hP⟩ := HA.out (by omega)
      have HP := Lib.hid (hP.below hb1); clear hP
      obtain ⟨u, v, e1⟩ := pair_of l k
      have c1 := HP.out.c1 hbel hlt e1
      have c2 := HP.out.c2 hbel hlt e1
      have hb5 := bnew hbel (.cells #[.int .i64 u, .int .i64 v] 63)
      have x0 := cell_later M0.out hb5
      have x1 := cell_later M1.out hb5
      by_cases hx : u = x
      case neg =>
        go_wp2
        go_roundw
        case rel => exact ⟨k + 1, by omega, by go_num, fun j hj => by
          rcases Nat.lt_or_ge j k with h | h
          · exact hall.out j h
          · have : j = k := by omega
            subst this; rw [e1.out]; exact fun he => hx (congrArg Prod.fst he), hb5⟩
        case measure => simp [intOf]; omega
      subst hx
      by_cases hy : v = y
      case neg =>
        go_wp2
        go_roundw
        case rel => exact ⟨k + 1, by omega, by go_num, fun j hj => by
          rcases Nat.lt_or_ge j k with h | h
          · exact hall.out j h
          · have : j = k := by omega
            subst this; rw [e1.out]; exact fun he => hy (congrArg Prod.snd he), hb5⟩
        case measure => simp [intOf]; omega
      subst hy
      have hf := Lib.hid (hyes.out k hlt e1.out)
      go_wp2
      go_ret
      exact ⟨ret_bool hf.out.symm, bthen hb1 hb5⟩
    · obtain rfl : k = l.length := by omega
      have hf := Lib.hid (hno.out hall.out)
      go_wp2
      go_ret
      exact ⟨ret_bool hf.out.symm, bthen hb1 hbel⟩
theorem impl_sortedAt {l : List (Int × Int)} {A : Option Addr} {c n : Nat} {w : World} (h : RP w A l) (hn : Hid (l.length = n)) :
    Calls Try.prog 86 #[.slice A n c] w fun e w' => ∃ g d m, e = .returned (.slice (some ⟨g, 0, none⟩) n d) ∧ m.Perm l ∧ (∀ i j, i < j → j < m.length → ¬ ltP (m.getD j (0, 0)) (m.getD i (0, 0))) ∧ OwnP 63 w.heap.size w'.heap.size w' (some ⟨g, 0, none⟩) d m ∧ Below w.heap.size w w' := by
  have := hn.out
  subst this
  exact impl_sortedPins h
theorem impl_CylinderOkAt {s t : Int} {l : List (Int × Int)} {A : Option Addr} {c n : Nat} {w : World} (h : RP w A l) (hn : Hid (l.length = n)) :
    Calls Try.prog 84 #[.agg #[.int .i64 s, .int .i64 t, .slice A n c]] w fun e w' => e = .returned (.bool (cylOk s t l)) ∧ Below w.heap.size w w' := by
  have := hn.out
  subst this
  exact impl_CylinderOk h
set_option maxHeartbeats 1000000 in
theorem impl_AddPin {s t x y : Int} {l : List (Int × Int)} {A : Option Addr} {c : Nat} {w : World} (h : RP w A l) :
    Calls Try.prog 50 #[.agg #[.int .i64 s, .int .i64 t, .slice A l.length c], .agg #[.int .i64 x, .int .i64 y]] w fun e w' => ∃ B d, e = .returned (.tuple #[.agg #[.int .i64 s, .int .i64 t, .slice B (addPL s t l (x, y)).length d], .bool (addPOk s t l (x, y))]) ∧ OwnP 63 w.heap.size w'.heap.size w' B d (addPL s t l (x, y)) ∧ Below w.heap.size w w' := by
  have hn := h.1
  have H := Lib.hid h; clear h
  go_enter Try.func50, Try.ntmps50
  go_wp2_with fail
  generalize hW1 : World.alloc w _ = W1
  obtain ⟨b1, z1, r0, r1, r2⟩ := new3c hW1
  generalize hW2 : World.alloc W1 _ = W2
  obtain ⟨b2, z2, p0, p1⟩ := new2c hW2
  generalize hW3 : World.alloc W2 _ = W3
  obtain ⟨b3, z3, u0, u1, u2⟩ := new3c hW3
  have q0 := new_frozen hW3 0; have q1 := new_frozen hW3 1; have q2 := new_frozen hW3 2
  rw [z1] at p0 p1
  rw [z2, z1] at u0 u1 u2 q0 q1 q2
  clear hW1 hW2 hW3
  have b23 := bthen b2 b3
  replace r0 := cell_later r0 b23; replace r1 := cell_later r1 b23; replace r2 := cell_later r2 b23
  replace p0 := cell_later p0 b3; replace p1 := cell_later p1 b3
  have hb := bthen b1 b23
  clear b1 b2 b3 b23
  have zz : W3.heap.size = w.heap.size + 3 := by omega
  clear z1 z2 z3
  refine (impl_CylinderOk (H.out.below hb)).mono ?_
  rintro e w1 ⟨rfl, hq⟩
  have HR : Hid (∀ W, Below W3.heap.size W3 W → (W.cell? ⟨w.heap.size, 0, none⟩ = some (.int .i64 s) ∧ W.cell? ⟨w.heap.size, 1, none⟩ = some (.int .i64 t) ∧ W.cell? ⟨w.heap.size, 2, none⟩ = some (.slice A l.length c)) ∧ W.cell? ⟨w.heap.size + 1, 0, none⟩ = some (.int .i64 x) ∧ W.cell? ⟨w.heap.size + 1, 1, none⟩ = some (.int .i64 y)) := fun W h =>
    ⟨⟨cell_later r0 h, cell_later r1 h, cell_later r2 h⟩, cell_later p0 h, cell_later p1 h⟩
  have HU : Hid (∀ W, Below W3.heap.size W3 W → (W.cell? ⟨w.heap.size + 2, 0, none⟩ = some (.int .i64 0) ∧ W.cell? ⟨w.heap.size + 2, 1, none⟩ = some (.int .i64 0) ∧ W.cell? ⟨w.heap.size + 2, 2, none⟩ = some (.slice none 0 0)) ∧ W.frozen? ⟨w.heap.size + 2, 0, none⟩ = false ∧ W.frozen? ⟨w.heap.size + 2, 1, none⟩ = false ∧ W.frozen? ⟨w.heap.size + 2, 2, none⟩ = false) := fun W h =>
    ⟨⟨cell_later u0 h, cell_later u1 h, cell_later u2 h⟩, (h.frozen (p := ⟨w.heap.size + 2, 0, none⟩) (by simp only; omega)).trans q0, (h.frozen (p := ⟨w.heap.size + 2, 1, none⟩) (by simp only; omega)).trans q1, (h.frozen (p := ⟨w.heap.size + 2, 2, none⟩) (by simp only; omega)).trans q2⟩
  clear r0 r1 r2 p0 p1 u0 u1 u2 q0 q1 q2
  have HRP : Hid (∀ W, Below W3.heap.size W3 W → RP W A l) := fun W h => H.out.below (bthen hb h)
  have HBW : Hid (∀ W, Below W3.heap.size W3 W → Below w.heap.size w W) := fun W h => bthen hb h
  clear hb
  -- a copy is given back
  have HEND : Hid (addPOk s t l (x, y) = false → addPL s t l (x, y) = l) := addP_no
  obtain ⟨⟨r0, r1, r2⟩, p0, p1⟩ := HR.out w1 hq
  cases g1 : cylOk s t l
  · have hK := Lib.hid (addP_bad (p := (x, y)) g1)
    have hL := Lib.hid (HEND.out hK.out)
    go_wp2_with fail
    refine (impl_copyCylinder (HRP.out w1 hq)).mono ?_
    rintro e w2 ⟨g, d, rfl, O, hq2⟩
    have hz := hq.size
    have hqq := bthen hq hq2
    obtain ⟨⟨P0, P1, P2⟩, Q0, Q1, Q2⟩ := HU.out w2 hqq
    have O' := Lib.hid O; have HB := Lib.hid (HBW.out w2 hqq)
    clear O hq hq2 hqq r0 r1 r2 p0 p1
    go_wp2
    refine bodyPost_ret (v := .tuple #[.agg #[.int .i64 s, .int .i64 t, .slice (some ⟨g, 0, none⟩) l.length d], .bool false]) (by simp [results, Try.results50, go_sem, *]) rfl ?_
    obtain ⟨k1, k2⟩ := res_end (R := w.heap.size + 2) (v0 := .int .i64 s) (v1 := .int .i64 t) (v2 := .slice (some ⟨g, 0, none⟩) l.length d) O'.out HB.out (by omega) (by omega)
    rw [hL.out, hK.out]
    exact ⟨_, _, rfl, k1, k2⟩
  go_wp2_with fail
  refine (impl_hasPin (x := x) (y := y) (HRP.out w1 hq)).mono ?_
  rintro e w2 ⟨rfl, hq2⟩
  replace hq := bthen hq hq2
  clear hq2 r0 r1 r2 p0 p1
  obtain ⟨⟨r0, r1, r2⟩, p0, p1⟩ := HR.out w2 hq
  by_cases hm : (x, y) ∈ l
  · have hK := Lib.hid (addP_has (s := s) (t := t) hm)
    have hL := Lib.hid (HEND.out hK.out)
    rw [decide_eq_true hm]
    clear hm
    go_wp2_with fail
    refine (impl_copyCylinder (HRP.out w2 hq)).mono ?_
    rintro e w3 ⟨g, d, rfl, O, hq2⟩
    have hz := hq.size
    have hqq := bthen hq hq2
    obtain ⟨⟨P0, P1, P2⟩, Q0, Q1, Q2⟩ := HU.out w3 hqq
    have O' := Lib.hid O; have HB := Lib.hid (HBW.out w3 hqq)
    clear O hq hq2 hqq r0 r1 r2 p0 p1
    go_wp2
    refine bodyPost_ret (v := .tuple #[.agg #[.int .i64 s, .int .i64 t, .slice (some ⟨g, 0, none⟩) l.length d], .bool false]) (by simp [results, Try.results50, go_sem, *]) rfl ?_
    obtain ⟨k1, k2⟩ := res_end (R := w.heap.size + 2) (v0 := .int .i64 s) (v1 := .int .i64 t) (v2 := .slice (some ⟨g, 0, none⟩) l.length d) O'.out HB.out (by omega) (by omega)
    rw [hL.out, hK.out]
    exact ⟨_, _, rfl, k1, k2⟩
  rw [decide_eq_false hm]
  have h100 := (cylOk_parts g1).2.2.1
  have hnew := Lib.hid (addP_new g1 hm)
  have hsort : Hid (∀ m : List (Int × Int), m.Perm (l ++ [(x, y)]) → (∀ i j, i < j → j < m.length → ¬ ltP (m.getD j (0, 0)) (m.getD i (0, 0))) → m = insP (x, y) l) := fun m h1 h2 => addP_sort g1 hm h1 h2
  have hlen : Hid ((insP (x, y) l).length = l.length + 1) := length_insP_new hm
  clear g1 hm
  go_wp2_with fail
  refine (impl_copyCylinder (HRP.out w2 hq)).mono ?_
  rintro e w3 ⟨g, d, rfl, O, hq3⟩
  have hz3 := hq.size
  have hq23 := bthen hq hq3
  clear r0 r1 r2 p0 p1
  obtain ⟨⟨r0, r1, r2⟩, p0, p1⟩ := HR.out w3 hq23
  have hbo := bnew (Below.refl w3.heap.size w3) (.cells #[.int .i64 s, .int .i64 t, .slice (some ⟨g, 0, none⟩) l.length d] 53)
  have y0 := cell_later p0 hbo; have y1 := cell_later p1 hbo
  clear hbo
  go_wp2_with (at_builtin; refine parkP ?_)
  apply Lib.hid
  generalize hW4 : World.alloc w3 _ = W4
  obtain ⟨b4, z4, d0, d1, d2⟩ := new3c hW4
  have f2 := new_frozen hW4 2
  clear hW4 y0 y1 r0 r1 r2 p0 p1
  have htop : g < w3.heap.size := O.top _ rfl
  have hoz := hq3.size
  have O4 := O.below b4 O.le
  clear O
  refine wpList_app_pairs (l := l) (m := [(x, y)]) (.tmp 21) (.tmp 23) 51 63 rfl rfl Try.underlying51 pins_inf rfl (by decide) rfl rfl (O4.new _) (by simp; omega) (pairAt z4) (by simp; omega) ?_
  intro B5 d5 w5 O5 hb5 hk5
  have hnewb := bnew (Below.refl W4.heap.size W4) (.cells #[.int .i64 x, .int .i64 y] 63)
  have hsame := (hk5.out w3.heap.size (by simp; omega) (fun a ha => by injection ha with ha; subst ha; simp only; omega)).1
  have hq25 : Below W3.heap.size W3 w5 := (bthen (bthen hq23 b4) hnewb).trans (hb5.mono hz3)
  replace d0 := (World.cell?_of_block (a := ⟨w3.heap.size, 0, none⟩) hsame).trans (cell_later d0 hnewb)
  replace d1 := (World.cell?_of_block (a := ⟨w3.heap.size, 1, none⟩) hsame).trans (cell_later d1 hnewb)
  replace d2 := (World.cell?_of_block (a := ⟨w3.heap.size, 2, none⟩) hsame).trans (cell_later d2 hnewb)
  replace f2 := (frozen_of_block (a := ⟨w3.heap.size, 2, none⟩) hsame).trans ((hnewb.frozen (p := ⟨w3.heap.size, 2, none⟩) (by simp only; omega)).trans f2)
  have hs5 := hb5.size
  have hs5' : w3.heap.size + 1 ≤ w5.heap.size := by simp at hs5; omega
  clear hsame hnewb hb5 hk5 O4 hs5 b4
  go_wp2_with fail
  refine (impl_sortedAt O5.reads (Lib.hid (by simp))).mono ?_
  rintro e w6 ⟨g6, d6, m, rfl, hp, hs, O6, hq6⟩
  obtain rfl := hsort.out m hp hs
  clear hp hs O5
  replace d0 := cell_later d0 hq6; replace d1 := cell_later d1 hq6; replace d2 := cell_later d2 hq6
  replace f2 := (hq6.frozen (p := ⟨w3.heap.size, 2, none⟩) (by simp only; omega)).trans f2
  have hq26 := bthen hq25 hq6
  have hs6 := hq6.size
  have O6' := Lib.hid O6
  have hq26' := Lib.hid hq26
  clear hq6 hq25 O6 hq26
  go_wp2_with fail
  generalize hZ : w6.setCell ⟨w3.heap.size, 2, none⟩ _ = wz
  obtain ⟨D0, D1, D2, hkz, hfz⟩ := cyl_set hZ d0 d1 d2
  clear hZ d0 d1 d2 f2 hfz
  have O7 := O6'.out.kept hkz (.inr (by omega))
  have hq2z := hq26'.out.trans (hkz.below (B := W3.heap.size) hq26'.out.size (by omega))
  have hsz := hkz.size
  clear hkz O6' hq26'
  refine (impl_CylinderOkAt O7.reads (Lib.hid (by rw [hlen.out]))).mono ?_
  rintro e w7 ⟨rfl, hq7⟩
  have O8 := Lib.hid (O7.below hq7 O7.le)
  have hq27 := bthen hq2z hq7
  replace D0 := cell_later D0 hq7; replace D1 := cell_later D1 hq7; replace D2 := cell_later D2 hq7
  clear O7 hq2z hq7
  cases g7 : cylOk s t (insP (x, y) l)
  · have hK := Lib.hid (hnew.out.trans g7)
    have hL := Lib.hid (HEND.out hK.out)
    clear D0 D1 D2 O8
    obtain ⟨⟨r0, r1, r2⟩, p0, p1⟩ := HR.out w7 hq27
    go_wp2_with fail
    refine (impl_copyCylinder (HRP.out w7 hq27)).mono ?_
    rintro e w8 ⟨g8, d8, rfl, O, hq8⟩
    have hz := hq27.size
    have hqq := bthen hq27 hq8
    obtain ⟨⟨P0, P1, P2⟩, Q0, Q1, Q2⟩ := HU.out w8 hqq
    have O' := Lib.hid O; have HB := Lib.hid (HBW.out w8 hqq)
    clear O hq27 hq8 hqq r0 r1 r2 p0 p1
    go_wp2
    refine bodyPost_ret (v := .tuple #[.agg #[.int .i64 s, .int .i64 t, .slice (some ⟨g8, 0, none⟩) l.length d8], .bool false]) (by simp [results, Try.results50, go_sem, *]) rfl ?_
    obtain ⟨k1, k2⟩ := res_end (R := w.heap.size + 2) (v0 := .int .i64 s) (v1 := .int .i64 t) (v2 := .slice (some ⟨g8, 0, none⟩) l.length d8) O'.out HB.out (by omega) (by omega)
    rw [hL.out, hK.out]
    exact ⟨_, _, rfl, k1, k2⟩
  · have hK := Lib.hid (hnew.out.trans g7)
    have hL := Lib.hid (addP_yes hK.out)
    obtain ⟨⟨P0, P1, P2⟩, Q0, Q1, Q2⟩ := HU.out w7 hq27
    have HB := Lib.hid (HBW.out w7 hq27)
    clear hq27
    go_wp2
    refine bodyPost_ret (v := .tuple #[.agg #[.int .i64 s, .int .i64 t, .slice (some ⟨g6, 0, none⟩) (l.length + 1) d6], .bool true]) (by simp [results, Try.results50, go_sem, *]) rfl ?_
    obtain ⟨k1, k2⟩ := res_end (R := w.heap.size + 2) (v0 := .int .i64 s) (v1 := .int .i64 t) (v2 := .slice (some ⟨g6, 0, none⟩) (l.length + 1) d6) O8.out HB.out (by omega) (by omega)
    rw [hL.out, hK.out, hlen.out]
    exact ⟨_, _, rfl, k1, k2⟩
end Go.Proofs.Ytkipgjllgmjipaa
