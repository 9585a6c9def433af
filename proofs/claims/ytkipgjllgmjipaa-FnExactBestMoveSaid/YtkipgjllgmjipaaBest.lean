/- BestMove: what it answers, and that the program's and the reference's functions answer it. -/
import Derived.Test.YtkipgjllgmjipaaMove
import Derived.Test.YtkipgjllgmjipaaMissingB
namespace Go.Proofs.Ytkipgjllgmjipaa
open Go.RowKit
set_option linter.unusedVariables false

def upL (t : List (Int × Int)) (n : Int) : List (Int × Int) := movedL t (inR n (-60) 60) fun p => (p.1, p.2 + n)
def upOk (t : List (Int × Int)) (n : Int) : Bool := movedOk t (inR n (-60) 60) fun p => (p.1, p.2 + n)
/-- The moves in their order: 1, -1, 2, -2, .. -/
def mv (k : Nat) : Int := if k % 2 = 0 then ((k / 2 : Nat) : Int) + 1 else -(((k / 2 : Nat) : Int) + 1)
def better (comb : List Int) (t : List (Int × Int)) (n : Int) (r : Int × Nat) : Int × Nat :=
  if upOk t n = true ∧ (missing comb (upL t n)).length < r.2 then (n, (missing comb (upL t n)).length) else r
def bestTo (comb : List Int) (t : List (Int × Int)) : Nat → Int × Nat
  | 0 => (0, (missing comb t).length)
  | k + 1 => better comb t (mv k) (bestTo comb t k)
def bestBy (comb : List Int) (t : List (Int × Int)) : Int := if combOk comb = true ∧ tuneOk t = true then (bestTo comb t 24).1 else 0
def bestN (comb : List Int) (t : List (Int × Int)) : Int := if combOk comb = true ∧ tuneOk t = true then ((bestTo comb t 24).2 : Int) else -1
section
variable {comb : List Int} {t : List (Int × Int)} {k M n : Nat} {b m : Int}
theorem mv_even (k : Nat) : mv (2 * k) = (k : Int) + 1 := by
  unfold mv
  rw [if_pos (by omega), show 2 * k / 2 = k by omega]
theorem mv_odd (k : Nat) : mv (2 * k + 1) = -((k : Int) + 1) := by
  unfold mv
  rw [if_neg (by omega), show (2 * k + 1) / 2 = k by omega]
theorem best_no (h : ¬ (combOk comb = true ∧ tuneOk t = true)) : bestBy comb t = 0 ∧ bestN comb t = -1 := ⟨if_neg h, if_neg h⟩
theorem best_yes (h : combOk comb = true ∧ tuneOk t = true) (hb : bestTo comb t 24 = (b, n)) : bestBy comb t = b ∧ bestN comb t = (n : Int) := by
  refine ⟨?_, ?_⟩
  · unfold bestBy; rw [if_pos h, hb]
  · unfold bestN; rw [if_pos h, hb]
theorem best_take (hb : Hid (bestTo comb t k = (b, n))) (hm : Hid (mv k = m)) (h1 : upOk t m = true) (hM : Hid ((missing comb (upL t m)).length = M)) (h2 : M < n) : bestTo comb t (k + 1) = (m, M) := by
  show better comb t (mv k) (bestTo comb t k) = _
  rw [hm.out, hb.out]
  unfold better
  rw [if_pos ⟨h1, by rw [hM.out]; exact h2⟩, hM.out]
theorem best_leave (hb : Hid (bestTo comb t k = (b, n))) (hm : Hid (mv k = m)) (h : upOk t m = false ∨ ∃ M, (missing comb (upL t m)).length = M ∧ ¬ M < n) : bestTo comb t (k + 1) = (b, n) := by
  show better comb t (mv k) (bestTo comb t k) = _
  rw [hm.out, hb.out]
  unfold better
  refine if_neg fun hh => ?_
  rcases h with h | ⟨M, h1, h2⟩
  · rw [h] at hh; exact Bool.false_ne_true hh.1
  · rw [h1] at hh; exact h2 hh.2
end
theorem impl_Up {l : List (Int × Int)} {A : Option Addr} {c : Nat} {n m : Int} {w : World} (h : RP w A l) (hm : n = m) :
    Calls Try.prog 23 #[.slice A l.length c, .int .i64 n] w fun e w' => ∃ B d, e = .returned (.tuple #[.slice B (upL l m).length d, .bool (upOk l m)]) ∧ OwnP 38 w.heap.size w'.heap.size w' B d (upL l m) ∧ Below w.heap.size w w' := by
  subst hm; exact impl_Higher h
theorem impl_Miss {comb : List Int} {t : List (Int × Int)} {A B : Option Addr} {ca cb M : Nat} {w : World} (h1 : RI w A comb) (h2 : RP w B t) (hM : Hid ((missing comb t).length = M)) :
    Calls Try.prog 76 #[.slice A comb.length ca, .slice B t.length cb] w fun e w' => ∃ D d, e = .returned (.slice D M d) ∧ Below w.heap.size w w' :=
  (impl_MissingPitches h1 h2).mono fun e w' ⟨D, d, he, _, hb⟩ => ⟨D, d, by rw [← hM.out]; exact he, hb⟩
theorem impl_BestMove_no {comb : List Int} {t : List (Int × Int)} {A B : Option Addr} {ca cb : Nat} {w : World} (h1 : RI w A comb) (h2 : RP w B t) (h : ¬ (combOk comb = true ∧ tuneOk t = true)) :
    Calls Try.prog 39 #[.slice A comb.length ca, .slice B t.length cb] w fun e w' => e = .returned (.tuple #[.int .i64 (bestBy comb t), .int .i64 (bestN comb t)]) ∧ Below w.heap.size w w' := by
  obtain ⟨e1, e2⟩ := best_no h
  rw [e1, e2]
  clear e1 e2
  have H1 := Lib.hid h1; have H2 := Lib.hid h2; clear h1 h2
  cases g1 : combOk comb
  · go_enter Try.func39, Try.ntmps39
    go_wp2_with fail
    refine (impl_CombOk H1.out).mono ?_
    rintro e w1 ⟨rfl, hb1⟩
    rw [g1]
    go_wp2
    go_ret2
    exact ⟨rfl, hb1⟩
  · have g2 : tuneOk t = false := by
      cases g : tuneOk t
      · rfl
      · exact absurd ⟨g1, g⟩ h
    clear h
    go_enter Try.func39, Try.ntmps39
    go_wp2_with fail
    refine (impl_CombOk H1.out).mono ?_
    rintro e w1 ⟨rfl, hb1⟩
    rw [g1]
    go_wp2_with fail
    refine (impl_TuneOk (H2.out.below hb1)).mono ?_
    rintro e w2 ⟨rfl, hb2⟩
    rw [g2]
    go_wp2
    go_ret2
    exact ⟨rfl, bthen hb1 hb2⟩
set_option maxHeartbeats 1000000 in
theorem impl_BestMove {comb : List Int} {t : List (Int × Int)} {A B : Option Addr} {ca cb : Nat} {w : World} (h1 : RI w A comb) (h2 : RP w B t) :
    Calls Try.prog 39 #[.slice A comb.length ca, .slice B t.length cb] w fun e w' => e = .returned (.tuple #[.int .i64 (bestBy comb t), .int .i64 (bestN comb t)]) ∧ Below w.heap.size w w' := by
  by_cases h : combOk comb = true ∧ tuneOk t = true
  case neg => exact impl_BestMove_no h1 h2 h
  have hfin : Hid (∀ b n, bestTo comb t 24 = (b, n) → bestBy comb t = b ∧ bestN comb t = (n : Int)) := fun b n hb => best_yes h hb
  obtain ⟨g1, g2⟩ := h
  have H1 := Lib.hid h1; have H2 := Lib.hid h2; clear h1 h2
  obtain ⟨M0, hM0⟩ : ∃ M, Hid ((missing comb t).length = M) := ⟨_, rfl⟩
  have hstart : Hid (bestTo comb t (2 * 0) = (0, M0)) := by show _ = _; rw [← hM0.out]; rfl
  go_enter Try.func39, Try.ntmps39
  go_wp2_with fail
  refine (impl_CombOk H1.out).mono ?_
  rintro e w1 ⟨rfl, hb1⟩
  rw [g1]
  go_wp2_with fail
  refine (impl_TuneOk (H2.out.below hb1)).mono ?_
  rintro e w2 ⟨rfl, hb2⟩
  rw [g2]
  replace hb2 := bthen hb1 hb2
  clear hb1 g1 g2
  go_wp2_with fail
  refine (impl_Miss (H1.out.below hb2) (H2.out.below hb2) hM0).mono ?_
  rintro e w3 ⟨D, d, rfl, hb3⟩
  replace hb3 := bthen hb2 hb3
  clear hb2
  go_wp2
  go_loopw [6, 7, 8] (fun v6 v7 i wr => ∃ (k : Nat) (b : Int) (n : Nat), k ≤ 12 ∧ i = .int .i64 ((k : Int) + 1) ∧ v6 = .int .i64 b ∧ v7 = .int .i64 (n : Int) ∧ Hid (bestTo comb t (2 * k) = (b, n)) ∧ Below w.heap.size w wr) (fun _ _ i _ => 14 - (intOf i).toNat)
  case atStart => exact ⟨0, 0, M0, by omega, rfl, rfl, rfl, hstart.out, hb3⟩
  clear hb3
  case round =>
    obtain ⟨k, b, n, hk, rfl, rfl, rfl, hbt, hbel⟩ := hrel
    by_cases hlt : k < 12
    · have hdk : decide ((k : Int) + 1 ≤ 12) = true := decide_eq_true (by omega)
      go_wp2_with fail
      generalize hW : World.alloc wr _ = W2
      obtain ⟨hb2, z2, x0, x1⟩ := new2c hW
      clear hW
      obtain ⟨g, hg⟩ : ∃ g, g = wr.heap.size := ⟨_, rfl⟩
      rw [← hg] at x0 x1 ⊢
      have HX : Hid (∀ j, j < 2 → W2.cell? ⟨g, j, none⟩ = some (.int .i64 (mv (2 * k + j)))) := fun j hj => by
        rcases Nat.lt_or_ge j 1 with h | h
        · obtain rfl : j = 0 := by omega
          rw [Nat.add_zero, mv_even]; exact x0
        · obtain rfl : j = 1 := by omega
          rw [mv_odd]; exact x1
      have HV : Hid (∀ j, j < 2 → -12 ≤ mv (2 * k + j) ∧ mv (2 * k + j) ≤ 12) := fun j hj => by
        rcases Nat.lt_or_ge j 1 with h | h
        · obtain rfl : j = 0 := by omega
          rw [Nat.add_zero, mv_even]; omega
        · obtain rfl : j = 1 := by omega
          rw [mv_odd]; omega
      replace hbel := Lib.hid (bthen hbel hb2)
      clear x0 x1 hb2 z2 hg
      go_loopw [6, 7, 34] (fun v6 v7 i wr => ∃ (j : Nat) (b : Int) (n : Nat), j ≤ 2 ∧ i = .int .i64 (j : Int) ∧ v6 = .int .i64 b ∧ v7 = .int .i64 (n : Int) ∧ Hid (bestTo comb t (2 * k + j) = (b, n)) ∧ Below W2.heap.size W2 wr) (fun _ _ i _ => 2 - (intOf i).toNat)
      case atStart => exact ⟨0, b, n, by omega, rfl, rfl, rfl, hbt.out, Below.refl _ _⟩
      clear hbt
      case round =>
        obtain ⟨j, b, n, hj, rfl, rfl, rfl, hbt, hbi⟩ := hrel
        by_cases hjl : j < 2
        · obtain ⟨m, hm⟩ : ∃ m, Hid (mv (2 * k + j) = m) := ⟨_, rfl⟩
          have c1 := cell_later (HX.out j hjl) hbi
          obtain ⟨m1, m2⟩ := HV.out j hjl
          rw [hm.out] at c1 m1 m2
          have hby := bthen hbel.out hbi
          obtain ⟨M, hM⟩ : ∃ M, Hid ((missing comb (upL t m)).length = M) := ⟨_, rfl⟩
          go_wp2_with fail
          refine (impl_Up (m := m) (H2.out.below hby) rfl).mono ?_
          rintro e w4 ⟨B4, d4, rfl, O, hb4⟩
          have R4 := Lib.hid O.reads
          have hbj := Lib.hid (hbi.trans (hb4.mono hbi.size))
          have hbz := Lib.hid (bthen hby hb4)
          clear O hb4 hby c1 hbi
          cases g3 : upOk t m
          · have hn := Lib.hid (best_leave hbt hm (.inl g3))
            clear g3
            go_wp2
            go_roundw
            case rel => exact ⟨j + 1, b, n, by omega, by go_num, rfl, rfl, hn.out, hbj.out⟩
            case measure => simp [intOf]; omega
          · go_wp2_with fail
            refine (impl_Miss (H1.out.below hbz.out) R4.out hM).mono ?_
            rintro e w5 ⟨D5, d5, rfl, hb5⟩
            have R5 := Lib.hid (R4.out.below hb5)
            have hbj2 := Lib.hid (hbj.out.trans (hb5.mono hbj.out.size))
            have hbz2 := Lib.hid (bthen hbz.out hb5)
            clear hb5
            by_cases hlm : M < n
            · have hn := Lib.hid (best_take hbt hm g3 hM hlm)
              clear g3
              go_wp2_with fail
              refine (impl_Miss (H1.out.below hbz2.out) R5.out hM).mono ?_
              rintro e w6 ⟨D6, d6, rfl, hb6⟩
              have hbj3 := Lib.hid (hbj2.out.trans (hb6.mono hbj2.out.size))
              clear hb6
              go_wp2
              go_roundw
              case rel => exact ⟨j + 1, m, M, by omega, by go_num, rfl, rfl, hn.out, hbj3.out⟩
              case measure => simp [intOf]; omega
            · have hn := Lib.hid (best_leave hbt hm (.inr ⟨M, hM.out, hlm⟩))
              clear g3
              go_wp2
              go_roundw
              case rel => exact ⟨j + 1, b, n, by omega, by go_num, rfl, rfl, hn.out, hbj2.out⟩
              case measure => simp [intOf]; omega
        · obtain rfl : j = 2 := by omega
          have hn : Hid (bestTo comb t (2 * (k + 1)) = (b, n)) := hbt.out
          go_wp2
          go_roundw
          case rel => exact ⟨k + 1, b, n, by omega, by go_num, rfl, rfl, hn.out, bthen hbel.out hbi⟩
          case measure => simp [intOf]; omega
    · obtain rfl : k = 12 := by omega
      obtain ⟨e1, e2⟩ := hfin.out b n hbt.out
      have E1 := Lib.hid e1; have E2 := Lib.hid e2; clear e1 e2
      go_wp2
      go_ret2
      rw [E1.out, E2.out]
      exact ⟨rfl, hbel⟩
theorem spec_Up {l : List (Int × Int)} {A : Option Addr} {c : Nat} {n m : Int} {w : World} (h : RP w A l) (hm : n = m) :
    Calls Try.prog 22 #[.slice A l.length c, .int .i64 n] w fun e w' => ∃ B d, e = .returned (.tuple #[.slice B (upL l m).length d, .bool (upOk l m)]) ∧ OwnP 38 w.heap.size w'.heap.size w' B d (upL l m) ∧ Below w.heap.size w w' := by
  subst hm; exact spec_Higher h
theorem spec_Miss {comb : List Int} {t : List (Int × Int)} {A B : Option Addr} {ca cb M : Nat} {w : World} (h1 : RI w A comb) (h2 : RP w B t) (hM : Hid ((missing comb t).length = M)) :
    Calls Try.prog 74 #[.slice A comb.length ca, .slice B t.length cb] w fun e w' => ∃ D d, e = .returned (.slice D M d) ∧ Below w.heap.size w w' :=
  (spec_MissingPitches h1 h2).mono fun e w' ⟨D, d, he, _, hb⟩ => ⟨D, d, by rw [← hM.out]; exact he, hb⟩
theorem spec_BestMove_no {comb : List Int} {t : List (Int × Int)} {A B : Option Addr} {ca cb : Nat} {w : World} (h1 : RI w A comb) (h2 : RP w B t) (h : ¬ (combOk comb = true ∧ tuneOk t = true)) :
    Calls Try.prog 37 #[.slice A comb.length ca, .slice B t.length cb] w fun e w' => e = .returned (.tuple #[.int .i64 (bestBy comb t), .int .i64 (bestN comb t)]) ∧ Below w.heap.size w w' := by
  obtain ⟨e1, e2⟩ := best_no h
  rw [e1, e2]
  clear e1 e2
  have H1 := Lib.hid h1; have H2 := Lib.hid h2; clear h1 h2
  cases g1 : combOk comb
  · go_enter Try.func37, Try.ntmps37
    go_wp2_with fail
    refine (spec_CombOk H1.out).mono ?_
    rintro e w1 ⟨rfl, hb1⟩
    rw [g1]
    go_wp2
    go_ret2
    exact ⟨rfl, hb1⟩
  · have g2 : tuneOk t = false := by
      cases g : tuneOk t
      · rfl
      · exact absurd ⟨g1, g⟩ h
    clear h
    go_enter Try.func37, Try.ntmps37
    go_wp2_with fail
    refine (spec_CombOk H1.out).mono ?_
    rintro e w1 ⟨rfl, hb1⟩
    rw [g1]
    go_wp2_with fail
    refine (spec_TuneOk (H2.out.below hb1)).mono ?_
    rintro e w2 ⟨rfl, hb2⟩
    rw [g2]
    go_wp2
    go_ret2
    exact ⟨rfl, bthen hb1 hb2⟩
set_option maxHeartbeats 1000000 in
theorem spec_BestMove {comb : List Int} {t : List (Int × Int)} {A B : Option Addr} {ca cb : Nat} {w : World} (h1 : RI w A comb) (h2 : RP w B t) :
    Calls Try.prog 37 #[.slice A comb.length ca, .slice B t.length cb] w fun e w' => e = .returned (.tuple #[.int .i64 (bestBy comb t), .int .i64 (bestN comb t)]) ∧ Below w.heap.size w w' := by
  by_cases h : combOk comb = true ∧ tuneOk t = true
  case neg => exact spec_BestMove_no h1 h2 h
  have hfin : Hid (∀ b n, bestTo comb t 24 = (b, n) → bestBy comb t = b ∧ bestN comb t = (n : Int)) := fun b n hb => best_yes h hb
  obtain ⟨g1, g2⟩ := h
  have H1 := Lib.hid h1; have H2 := Lib.hid h2; clear h1 h2
  obtain ⟨M0, hM0⟩ : ∃ M, Hid ((missing comb t).length = M) := ⟨_, rfl⟩
  have hstart : Hid (bestTo comb t (2 * 0) = (0, M0)) := by show _ = _; rw [← hM0.out]; rfl
  go_enter Try.func37, Try.ntmps37
  go_wp2_with fail
  refine (spec_CombOk H1.out).mono ?_
  rintro e w1 ⟨rfl, hb1⟩
  rw [g1]
  go_wp2_with fail
  refine (spec_TuneOk (H2.out.below hb1)).mono ?_
  rintro e w2 ⟨rfl, hb2⟩
  rw [g2]
  replace hb2 := bthen hb1 hb2
  clear hb1 g1 g2
  go_wp2_with fail
  refine (spec_Miss (H1.out.below hb2) (H2.out.below hb2) hM0).mono ?_
  rintro e w3 ⟨D, d, rfl, hb3⟩
  replace hb3 := bthen hb2 hb3
  clear hb2
  go_wp2
  go_loopw [6, 7, 8] (fun v6 v7 i wr => ∃ (k : Nat) (b : Int) (n : Nat), k ≤ 12 ∧ i = .int .i64 ((k : Int) + 1) ∧ v6 = .int .i64 b ∧ v7 = .int .i64 (n : Int) ∧ Hid (bestTo comb t (2 * k) = (b, n)) ∧ Below w.heap.size w wr) (fun _ _ i _ => 14 - (intOf i).toNat)
  case atStart => exact ⟨0, 0, M0, by omega, rfl, rfl, rfl, hstart.out, hb3⟩
  clear hb3
  case round =>
    obtain ⟨k, b, n, hk, rfl, rfl, rfl, hbt, hbel⟩ := hrel
    by_cases hlt : k < 12
    · have hdk : decide ((k : Int) + 1 ≤ 12) = true := decide_eq_true (by omega)
      obtain ⟨W2, rfl⟩ : ∃ W2, W2 = wr := ⟨_, rfl⟩
      have hbl := Lib.hid hbel
      clear hbel
      go_wp2
      go_loopw [6, 7, 9] (fun v6 v7 i wr => ∃ (j : Nat) (b : Int) (n : Nat), ((j = 0 ∧ i = .int .i64 1) ∨ (j = 1 ∧ i = .int .i64 (-1)) ∨ (j = 2 ∧ i = .int .i64 (-3))) ∧ v6 = .int .i64 b ∧ v7 = .int .i64 (n : Int) ∧ Hid (bestTo comb t (2 * k + j) = (b, n)) ∧ Below W2.heap.size W2 wr) (fun _ _ i _ => ((intOf i + 3) / 2).toNat)
      case atStart => exact ⟨0, b, n, .inl ⟨rfl, rfl⟩, rfl, rfl, hbt.out, Below.refl _ _⟩
      clear hbt
      case round =>
        obtain ⟨j, b, n, hj, rfl, rfl, hbt, hbi⟩ := hrel
        have hby := bthen hbl.out hbi
        rcases hj with ⟨rfl, rfl⟩ | ⟨rfl, rfl⟩ | ⟨rfl, rfl⟩
        · obtain ⟨m, hm⟩ : ∃ m, Hid (mv (2 * k + 0) = m) := ⟨_, rfl⟩
          have hmk : Hid (m = (k : Int) + 1) := by show _ = _; rw [← hm.out, Nat.add_zero, mv_even]
          obtain ⟨M, hM⟩ : ∃ M, Hid ((missing comb (upL t m)).length = M) := ⟨_, rfl⟩
          go_wp2_with fail
          refine (spec_Up (m := m) (H2.out.below hby) (by have := hmk.out; omega)).mono ?_
          rintro e w4 ⟨B4, d4, rfl, O, hb4⟩
          have R4 := Lib.hid O.reads
          have hbj := Lib.hid (hbi.trans (hb4.mono hbi.size))
          have hbz := Lib.hid (bthen hby hb4)
          clear O hb4 hby hbi
          cases g3 : upOk t m
          · have hn := Lib.hid (best_leave hbt hm (.inl g3))
            clear g3 hmk
            go_wp2
            go_roundw
            case rel => exact ⟨1, b, n, .inr (.inl ⟨rfl, by go_num⟩), rfl, rfl, hn.out, hbj.out⟩
            case measure => first | decide | (simp [intOf]; done)
          · go_wp2_with fail
            refine (spec_Miss (H1.out.below hbz.out) R4.out hM).mono ?_
            rintro e w5 ⟨D5, d5, rfl, hb5⟩
            have R5 := Lib.hid (R4.out.below hb5)
            have hbj2 := Lib.hid (hbj.out.trans (hb5.mono hbj.out.size))
            have hbz2 := Lib.hid (bthen hbz.out hb5)
            clear hb5
            by_cases hlm : M < n
            · have hn := Lib.hid (best_take hbt hm g3 hM hlm)
              clear g3
              go_wp2_with fail
              refine (spec_Miss (H1.out.below hbz2.out) R5.out hM).mono ?_
              rintro e w6 ⟨D6, d6, rfl, hb6⟩
              have hbj3 := Lib.hid (hbj2.out.trans (hb6.mono hbj2.out.size))
              clear hb6
              go_wp2
              go_roundw
              case rel => exact ⟨1, m, M, .inr (.inl ⟨rfl, by go_num⟩), by have := hmk.out; congr 1; omega, rfl, hn.out, hbj3.out⟩
              case measure => first | decide | (simp [intOf]; done)
            · have hn := Lib.hid (best_leave hbt hm (.inr ⟨M, hM.out, hlm⟩))
              clear g3 hmk
              go_wp2
              go_roundw
              case rel => exact ⟨1, b, n, .inr (.inl ⟨rfl, by go_num⟩), rfl, rfl, hn.out, hbj2.out⟩
              case measure => first | decide | (simp [intOf]; done)
        · obtain ⟨m, hm⟩ : ∃ m, Hid (mv (2 * k + 1) = m) := ⟨_, rfl⟩
          have hmk : Hid (m = -((k : Int) + 1)) := by show _ = _; rw [← hm.out, mv_odd]
          obtain ⟨M, hM⟩ : ∃ M, Hid ((missing comb (upL t m)).length = M) := ⟨_, rfl⟩
          go_wp2_with fail
          refine (spec_Up (m := m) (H2.out.below hby) (by have := hmk.out; omega)).mono ?_
          rintro e w4 ⟨B4, d4, rfl, O, hb4⟩
          have R4 := Lib.hid O.reads
          have hbj := Lib.hid (hbi.trans (hb4.mono hbi.size))
          have hbz := Lib.hid (bthen hby hb4)
          clear O hb4 hby hbi
          cases g3 : upOk t m
          · have hn := Lib.hid (best_leave hbt hm (.inl g3))
            clear g3 hmk
            go_wp2
            go_roundw
            case rel => exact ⟨2, b, n, .inr (.inr ⟨rfl, by go_num⟩), rfl, rfl, hn.out, hbj.out⟩
            case measure => first | decide | (simp [intOf]; done)
          · go_wp2_with fail
            refine (spec_Miss (H1.out.below hbz.out) R4.out hM).mono ?_
            rintro e w5 ⟨D5, d5, rfl, hb5⟩
            have R5 := Lib.hid (R4.out.below hb5)
            have hbj2 := Lib.hid (hbj.out.trans (hb5.mono hbj.out.size))
            have hbz2 := Lib.hid (bthen hbz.out hb5)
            clear hb5
            by_cases hlm : M < n
            · have hn := Lib.hid (best_take hbt hm g3 hM hlm)
              clear g3
              go_wp2_with fail
              refine (spec_Miss (H1.out.below hbz2.out) R5.out hM).mono ?_
              rintro e w6 ⟨D6, d6, rfl, hb6⟩
              have hbj3 := Lib.hid (hbj2.out.trans (hb6.mono hbj2.out.size))
              clear hb6
              go_wp2
              go_roundw
              case rel => exact ⟨2, m, M, .inr (.inr ⟨rfl, by go_num⟩), by have := hmk.out; congr 1; omega, rfl, hn.out, hbj3.out⟩
              case measure => first | decide | (simp [intOf]; done)
            · have hn := Lib.hid (best_leave hbt hm (.inr ⟨M, hM.out, hlm⟩))
              clear g3 hmk
              go_wp2
              go_roundw
              case rel => exact ⟨2, b, n, .inr (.inr ⟨rfl, by go_num⟩), rfl, rfl, hn.out, hbj2.out⟩
              case measure => first | decide | (simp [intOf]; done)
        · have hn : Hid (bestTo comb t (2 * (k + 1)) = (b, n)) := hbt.out
          go_wp2
          go_roundw
          case rel => exact ⟨k + 1, b, n, by omega, by go_num, rfl, rfl, hn.out, hby⟩
          case measure => simp [intOf]; omega
    · obtain rfl : k = 12 := by omega
      obtain ⟨e1, e2⟩ := hfin.out b n hbt.out
      have E1 := Lib.hid e1; have E2 := Lib.hid e2; clear e1 e2
      go_wp2
      go_ret2
      rw [E1.out, E2.out]
      exact ⟨rfl, hbel⟩
end Go.Proofs.Ytkipgjllgmjipaa
