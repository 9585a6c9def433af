/- LeastComb: what it answers, and that the program's and the reference's functions answer it. -/
import Derived.Test.YtfihipbjgjelfaaNeed
namespace Go.Proofs.Ytfihipbjgjelfaa
open Go.RowKit

/-! ## Plain notions -/
/-- So many of each number below p. -/
def blocks (n : List Int) : Nat → List Int
  | 0 => []
  | p + 1 => blocks n p ++ List.replicate (n.getD p 0).toNat (p : Int)
def leastB (n : List Int) : List Int := blocks n n.length
def leastC (n : List Int) : List Int := if combOk (leastB n) = true then leastB n else []
def leastL (t : List (Int × Int)) (rest : Int) : List Int := leastC (needed t rest)
def leastOk (t : List (Int × Int)) (rest : Int) : Bool := combOk (leastB (needed t rest))
theorem length_blocks {n : List Int} (h : Hid (∀ p : Nat, n.getD p 0 ≤ 40)) : ∀ p, (blocks n p).length ≤ 40 * p
  | 0 => Nat.le_refl _
  | p + 1 => by
    have h1 := length_blocks h p
    have h2 := h.out p
    simp only [blocks, List.length_append, List.length_replicate]
    omega
theorem tuneOk_le {t : List (Int × Int)} (h : tuneOk t = true) : t.length ≤ 40 := by
  unfold tuneOk at h; simp only [Bool.and_eq_true, decide_eq_true_eq] at h; exact h.1
theorem needed_le (t : List (Int × Int)) (rest : Int) (p : Nat) : (needed t rest).getD p 0 ≤ 40 := by
  by_cases h : tuneOk t = true ∧ inR rest 1 100 = true
  · rw [needed_B h]
    have hl := length_runM (cB t rest) t t.length
    have h40 := tuneOk_le h.1
    by_cases hp : p < 61
    · rcases (runM_at (t := t) (cB t rest) hp t.length).2 with h2 | ⟨j, h1, _, h3⟩
      · omega
      · have := cnt_le (bOk t rest j) (j + 1)
        unfold cB at h3
        unfold cB
        omega
    · rw [List.getD_eq_getElem?_getD, List.getElem?_eq_none (by omega)]; simp
  · rw [needed_no h]; simp
theorem needed_len (t : List (Int × Int)) (rest : Int) : (needed t rest).length ≤ 61 := by
  by_cases h : tuneOk t = true ∧ inR rest 1 100 = true
  · rw [needed_B h, length_runM]; exact Nat.le_refl _
  · rw [needed_no h]; simp
/-- The blocks below p, and m times p. -/
def part (n : List Int) (p m : Nat) : List Int := blocks n p ++ List.replicate m (p : Int)
theorem part_zero (n : List Int) (p : Nat) : part n p 0 = blocks n p := by simp [part]
theorem part_next (n : List Int) (p m : Nat) : part n p (m + 1) = part n p m ++ [(p : Int)] := by
  unfold part; rw [List.replicate_succ', List.append_assoc]
theorem part_all {n : List Int} {p : Nat} {x : Int} (e : Hid (n.getD p 0 = x)) : part n p x.toNat = blocks n (p + 1) := by simp only [part, blocks, e.out]
theorem length_part (n : List Int) (p m : Nat) : (part n p m).length = (blocks n p).length + m := by simp [part]

set_option maxHeartbeats 1000000 in
theorem impl_combOf {n : List Int} {A : Option Addr} {ca : Nat} {w : World} (h1 : RI w A n) (hn : n.length ≤ 61) (hle : Hid (∀ p : Nat, n.getD p 0 ≤ 40)) :
    Calls Try.prog 57 #[.slice A n.length ca] w fun e w' => ∃ D d, e = .returned (.tuple #[.slice D (leastC n).length d, .bool (combOk (leastB n))]) ∧ OwnI 3 w.heap.size w'.heap.size w' D d (leastC n) ∧ Below w.heap.size w w' := by
  have H1 := Lib.hid h1; clear h1
  go_enter Try.func57, Try.ntmps57
  go_wp2
  go_loopw [4, 11] (fun v i wr => ∃ (k : Nat) (D : Option Addr) (d : Nat), k ≤ n.length ∧ i = .int .i64 k ∧ v = .slice D (blocks n k).length d ∧ OwnI 3 w.heap.size wr.heap.size wr D d (blocks n k) ∧ Below w.heap.size w wr) (fun _ i _ => n.length - (intOf i).toNat)
  case atStart => exact ⟨0, _, _, Nat.zero_le _, rfl, rfl, (own_empty 3).hi_mono (by simp) (Nat.le_refl _), bnew (Below.refl _ _) _⟩
  case round =>
    obtain ⟨k, D, d, hk, rfl, rfl, hown, hbel⟩ := hrel
    have hlb := length_blocks hle k
    by_cases hlt : k < n.length
    · obtain ⟨b, off, rfl, hP⟩ := H1.out.2 (by omega)
      have HP := Lib.hid hP; clear hP
      obtain ⟨x, e1⟩ := int_of n k
      have hx : x ≤ 40 := by have := hle.out k; rw [e1.out] at this; exact this
      have c1 := HP.out.c1 hbel hlt e1
      have hp0 := Lib.hid (part_zero n k)
      have hou : Hid (OwnI 3 w.heap.size wr.heap.size wr D d (part n k 0)) := by rw [hp0.out]; exact hown
      have hle0 : (blocks n k).length = (part n k 0).length := by rw [hp0.out]
      have hle0' := Lib.hid hle0; clear hle0
      have hbl := Lib.hid hbel; clear hbel hown
      go_wp2
      go_loopw [4, 7] (fun v j wr' => ∃ (m : Nat) (D : Option Addr) (d : Nat), m ≤ x.toNat ∧ j = .int .i64 m ∧ v = .slice D (part n k m).length d ∧ OwnI 3 w.heap.size wr'.heap.size wr' D d (part n k m) ∧ Below w.heap.size w wr') (fun _ j _ => x.toNat - (intOf j).toNat)
      case atStart => exact ⟨0, D, d, Nat.zero_le _, rfl, by rw [hle0'.out], hou.out, hbl.out⟩
      case round =>
        clear hou hbl hle0' c1
        obtain ⟨m, D, d, hm, rfl, rfl, hown, hbel⟩ := hrel
        have hlp := length_part n k m
        have hlp' : (part n k m).length ≤ 10000 := by omega
        have hlph := Lib.hid hlp; clear hlp
        by_cases hml : (m : Int) < x
        · have hs := Lib.hid (part_next n k m)
          go_wp2_with (at_builtin; refine wpList_app_int (.tmp 21) (.tmp 23) 27 3 rfl rfl Try.underlying27 int_info rfl rfl rfl hown hbel.size (by omega) ?_; intro B' d' w2 hown2 hb2)
          go_roundw
          case rel => exact ⟨m + 1, B', d', by omega, by go_num, by rw [hs.out, List.length_append]; rfl, by rw [hs.out]; exact hown2, hbel.trans hb2⟩
          case measure => simp [intOf]; omega
        · have hmx : m = x.toNat := by omega
          have hs : Hid (part n k m = blocks n (k + 1)) := by show _ = _; rw [hmx]; exact part_all e1
          clear hmx
          go_wp2
          go_roundw
          case rel => exact ⟨k + 1, D, d, by omega, by go_num, by rw [hs.out], by rw [← hs.out]; exact hown, hbel⟩
          case measure => simp [intOf]; omega
    · obtain rfl : k = n.length := by omega
      have hbl := Lib.hid hbel; clear hbel
      cases g : combOk (leastB n)
      · have hT : Hid (leastC n = []) := by show _ = _; unfold leastC; rw [if_neg (by rw [g]; exact Bool.false_ne_true)]
        go_wp2_with fail
        refine (impl_CombOk hown.reads).mono ?_
        rintro e w3 ⟨rfl, hb3⟩
        have g' : combOk (blocks n n.length) = false := g
        have G := Lib.hid g; clear g
        go_wp2
        go_ret2
        rw [hT.out, G.out]
        exact ⟨none, 0, rfl, OwnI.nil _ _ (Nat.le_refl _), bthen hbl.out hb3⟩
      · have hT : Hid (leastC n = blocks n n.length) := by show _ = _; unfold leastC; rw [if_pos g]; rfl
        have hou := Lib.hid hown
        go_wp2_with fail
        refine (impl_CombOk hown.reads).mono ?_
        rintro e w3 ⟨rfl, hb3⟩
        have g' : combOk (blocks n n.length) = true := g
        have G := Lib.hid g; clear g
        clear hown
        go_wp2
        go_ret2
        rw [hT.out, G.out]
        exact ⟨_, _, rfl, (hou.out.below hb3 hou.out.le).hi_mono hb3.size (Nat.le_refl _), bthen hbl.out hb3⟩
theorem impl_LeastComb {t : List (Int × Int)} {rest : Int} {A : Option Addr} {ca : Nat} {w : World} (h1 : RP w A t) (hca : t.length ≤ ca) :
    Calls Try.prog 19 #[.slice A t.length ca, .int .i64 rest] w fun e w' => ∃ D d, e = .returned (.tuple #[.slice D (leastL t rest).length d, .bool (leastOk t rest)]) ∧ OwnI 3 w.heap.size w'.heap.size w' D d (leastL t rest) ∧ Below w.heap.size w w' := by
  have H1 := Lib.hid h1; clear h1
  go_enter Try.func19, Try.ntmps19
  go_wp2_with fail
  refine (impl_TeethNeeded H1.out hca).mono ?_
  rintro e w1 ⟨G, c, rfl, hL, hb1⟩
  go_wp2_with fail
  refine (impl_combOf hL.reads (needed_len t rest) (needed_le t rest)).mono ?_
  rintro e w2 ⟨D, d, rfl, hO, hb2⟩
  go_wp2
  go_ret2
  exact ⟨_, _, rfl, hO.lo_mono hb1.size, bthen hb1 hb2⟩
set_option maxHeartbeats 1000000 in
theorem spec_LeastComb {t : List (Int × Int)} {rest : Int} {A : Option Addr} {ca : Nat} {w : World} (h1 : RP w A t) :
    Calls Try.prog 44 #[.slice A t.length ca, .int .i64 rest] w fun e w' => ∃ D d, e = .returned (.tuple #[.slice D (leastL t rest).length d, .bool (leastOk t rest)]) ∧ OwnI 3 w.heap.size w'.heap.size w' D d (leastL t rest) ∧ Below w.heap.size w w' := by
  have hb0 := Lib.hid (bnew (Below.refl w.heap.size w) (.cells #[] 3))
  have H1 := Lib.hid (h1.below hb0.out); clear h1
  obtain ⟨n, hn⟩ : ∃ n, needed t rest = n := ⟨_, rfl⟩
  have hn61 : n.length ≤ 61 := by rw [← hn]; exact needed_len t rest
  have hle : Hid (∀ p : Nat, n.getD p 0 ≤ 40) := by rw [← hn]; exact needed_le t rest
  have hTL : Hid (leastL t rest = leastC n) := by show _ = _; rw [← hn]; rfl
  have hTO : Hid (leastOk t rest = combOk (leastB n)) := by show _ = _; rw [← hn]; rfl
  have hN := Lib.hid hn; clear hn
  go_enter Try.func44, Try.ntmps44
  go_wp2_with fail
  refine (spec_TeethNeeded H1.out).mono ?_
  rintro e w3 ⟨G, c, rfl, hL, hb3⟩
  rw [hN.out] at hL ⊢
  have hst : Hid (OwnI 3 w.heap.size w3.heap.size w3 (some ⟨w.heap.size, 0, none⟩) 0 [] ∧ (∀ g, G = some g → Off (some ⟨w.heap.size, 0, none⟩) g.block) ∧ Below w.heap.size w w3) := by
    refine ⟨((own_empty 3 (W := w)).below hb3 (by simp)).hi_mono (by have := hb3.size; simp at this; omega) (Nat.le_refl _), fun g hg a ha => ?_, bthen hb0.out hb3⟩
    injection ha with ha
    subst ha
    have := hL.lo_le g hg
    simp at this
    show w.heap.size ≠ g.block
    omega
  have hL2 := Lib.hid hL; clear hL
  clear hb3 hb0
  obtain ⟨z0, hz0⟩ : ∃ z0, (w.alloc (.cells #[] 3)).heap.size = z0 := ⟨_, rfl⟩
  rw [hz0] at hL2
  clear hz0
  obtain ⟨z1, hz1⟩ : ∃ z1, w3.heap.size = z1 := ⟨_, rfl⟩
  have hL3 : Hid (OwnI 3 z0 z1 w3 G c n) := by rw [← hz1]; exact hL2.out
  clear hz1 hL2
  go_wp2
  go_loopw [6, 8] (fun v i wr => ∃ (k : Nat) (D : Option Addr) (d : Nat), k ≤ n.length ∧ i = .int .i64 k ∧ v = .slice D (blocks n k).length d ∧ OwnI 3 w.heap.size wr.heap.size wr D d (blocks n k) ∧ Hid (OwnI 3 z0 z1 wr G c n) ∧
      (∀ g, G = some g → Off D g.block) ∧ Below w.heap.size w wr) (fun _ i _ => n.length - (intOf i).toNat)
  case atStart => exact ⟨0, _, _, Nat.zero_le _, rfl, rfl, hst.out.1, hL3, hst.out.2.1, hst.out.2.2⟩
  case round =>
    clear hst hL3
    obtain ⟨k, D, d, hk, rfl, rfl, hown, hL, hoff, hbel⟩ := hrel
    have hlb := length_blocks hle k
    have hof := Lib.hid hoff; clear hoff
    by_cases hlt : k < n.length
    · obtain ⟨x, e1⟩ := int_of n k
      have hx : x ≤ 40 := by have := hle.out k; rw [e1.out] at this; exact this
      have hp0 := Lib.hid (part_zero n k)
      have hou : Hid (OwnI 3 w.heap.size wr.heap.size wr D d (part n k 0)) := by rw [hp0.out]; exact hown
      have hle0 : (blocks n k).length = (part n k 0).length := by rw [hp0.out]
      have hle0' := Lib.hid hle0; clear hle0
      have hbl := Lib.hid hbel; clear hbel hown
      obtain ⟨b, off, hG, _⟩ := hL.out.reads.2 (by omega)
      subst hG
      go_wp2
      go_loopw [6, 9] (fun v j wr' => ∃ (m : Nat) (D : Option Addr) (d : Nat), m ≤ x.toNat ∧ j = .int .i64 m ∧ v = .slice D (part n k m).length d ∧ OwnI 3 w.heap.size wr'.heap.size wr' D d (part n k m) ∧ Hid (OwnI 3 z0 z1 wr' (some ⟨b, off, none⟩) c n) ∧
          Hid (Off D b) ∧ Below w.heap.size w wr') (fun _ j _ => x.toNat - (intOf j).toNat)
      case atStart => exact ⟨0, D, d, Nat.zero_le _, rfl, by rw [hle0'.out], hou.out, hL, hof.out _ rfl, hbl.out⟩
      case round =>
        clear hou hbl hle0' hL hof
        obtain ⟨m, D, d, hm, rfl, rfl, hown, hL, hoff, hbel⟩ := hrel
        obtain ⟨b', off', hG, hP⟩ := hL.out.reads.2 (by omega)
        cases hG
        have HP := Lib.hid hP; clear hP
        have c1 := HP.out.c1 (Below.refl _ _) hlt e1
        have hlp := length_part n k m
        have hlp' : (part n k m).length ≤ 10000 := by omega
        have hlph := Lib.hid hlp; clear hlp
        by_cases hml : (m : Int) < x
        · have hs := Lib.hid (part_next n k m)
          have ho := Lib.hid hown; clear hown
          have hww := hbel.size
          have hbl := Lib.hid hbel; clear hbel
          go_wp2_with (at_builtin; refine wpList_app_int' (.tmp 28) (.tmp 30) 27 3 rfl rfl Try.underlying27 int_info rfl rfl rfl ho.out hww (by omega) ?_; intro B' d' w6 hown2 hb6 hoff6)
          go_roundw
          case rel =>
            have hlt6 : b < wr.heap.size := Nat.lt_of_lt_of_le (hL.out.top _ rfl) hL.out.le
            have h6 := hoff6.out b hlt6 hoff.out
            have hL6 : Hid (OwnI 3 z0 z1 w6 (some ⟨b, off, none⟩) c n) := Lib.hid (OwnI.off (w' := w6) hL.out (fun a ha => by cases ha; exact h6.1) hb6.size)
            have hb6' := hbl.out.trans hb6
            have e1 : (part n k m ++ [(k : Int)]).length = (part n k (m + 1)).length := by rw [hs.out]
            rw [← hs.out] at hown2
            refine ⟨m + 1, B', d', by omega, by go_num, ?_, hown2, hL6, h6.2, hb6'⟩
            rw [← e1, List.length_append]; rfl
          case measure => simp [intOf]; omega
        · have hmx : m = x.toNat := by omega
          have hs : Hid (part n k m = blocks n (k + 1)) := by show _ = _; rw [hmx]; exact part_all e1
          clear hmx
          go_wp2
          go_roundw
          case rel => exact ⟨k + 1, D, d, by omega, by go_num, by rw [hs.out], by rw [← hs.out]; exact hown, hL, fun g hg => by cases hg; exact hoff.out, hbel⟩
          case measure => simp [intOf]; omega
    · obtain rfl : k = n.length := by omega
      have hbl := Lib.hid hbel; clear hbel
      cases g : combOk (leastB n)
      · have hT : Hid (leastC n = []) := by show _ = _; unfold leastC; rw [if_neg (by rw [g]; exact Bool.false_ne_true)]
        go_wp2_with fail
        refine (spec_CombOk hown.reads).mono ?_
        rintro e w4 ⟨rfl, hb4⟩
        have g' : combOk (blocks n n.length) = false := g
        have G := Lib.hid g; clear g
        have hbx := Lib.hid (bthen hbl.out hb4)
        go_wp2
        go_ret2
        rw [hTL.out, hTO.out, hT.out, G.out]
        exact ⟨_, _, rfl, ((own_empty 3).lo_mono hbx.out.size).hi_mono (by simp) (Nat.le_refl _), bnew hbx.out _⟩
      · have hT : Hid (leastC n = blocks n n.length) := by show _ = _; unfold leastC; rw [if_pos g]; rfl
        have hou := Lib.hid hown
        go_wp2_with fail
        refine (spec_CombOk hown.reads).mono ?_
        rintro e w4 ⟨rfl, hb4⟩
        have g' : combOk (blocks n n.length) = true := g
        have G := Lib.hid g; clear g
        clear hown
        go_wp2
        go_ret2
        rw [hTL.out, hTO.out, hT.out, G.out]
        exact ⟨_, _, rfl, (hou.out.below hb4 hou.out.le).hi_mono hb4.size (Nat.le_refl _), bthen hbl.out hb4⟩
end Go.Proofs.Ytfihipbjgjelfaa
