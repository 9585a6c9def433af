/- LeastComb: what it answers, and that the program's and the reference's functions answer it. -/
import Derived.Test.YtakllloangpimaaNeed
namespace Go.Proofs.Ytakllloangpimaa
open Go.RowKit

/-! ## Plain notions -/
/-- So many of each number below p. -/
def blocks (n : List Int) : Nat → List Int
  | 0 => []
  | p + 1 => blocks n p ++ List.replicate (n.getD p 0).toNat (p : Int)
def leastB (n : List Int) : List Int := blocks n n.length
def leastC (n : List Int) : List Int := if combOk (leastB n) = true then leastB n else []
def leastL (t : List (Int × Int)) (rest : Int) : List Int := leastC (needed t rest)
def leastOk (t : List (Int × Int)) (rest : Int) : Bool := combOk (leastB (needed t rest))
theorem length_blocks {n : List Int} (h : Hid (∀ p : Nat, n.getD p 0 ≤ 40)) : ∀ p, (blocks n p).length ≤ 40 * p
  | 0 => Nat.le_refl _
  | p + 1 => by
    have h1 := length_blocks h p
    have h2 := h.out p
    simp only [blocks, List.length_append, List.length_replicate]
    omega
theorem tuneOk_le {t : List (Int × Int)} (h : tuneOk t = true) : t.length ≤ 40 := by
  unfold tuneOk at h; simp only [Bool.and_eq_true, decide_eq_true_eq] at h; exact h.1
theorem needed_le (t : List (Int × Int)) (rest : Int) (p : Nat) : (needed t rest).getD p 0 ≤ 40 := by
  by_cases h : tuneOk t = true ∧ inR rest 1 100 = true
  · rw [needed_B h]
    have hl := length_runM (cB t rest) t t.length
    have h40 := tuneOk_le h.1
    by_cases hp : p < 61
    · rcases (runM_at (t := t) (cB t rest) hp t.length).2 with h2 | ⟨j, h1, _, h3⟩
      · omega
      · have := cnt_le (bOk t rest j) (j + 1)
        unfold cB at h3
        unfold cB
        omega
    · rw [List.getD_eq_getElem?_getD, List.getElem?_eq_none (by omega)]; simp
  · rw [needed_no h]; simp
theorem needed_len (t : List (Int × Int)) (rest : Int) : (needed t rest).length ≤ 61 := by
  by_cases h : tuneOk t = true ∧ inR rest 1 100 = true
  · rw [needed_B h, length_runM]; exact Nat.le_refl _
  · rw [needed_no h]; simp
/-- The blocks below p, and m times p. -/
def part (n : List Int) (p m : Nat) : List Int := blocks n p ++ List.replicate m (p : Int)
theorem part_zero (n : List Int) (p : Nat) : part n p 0 = blocks n p := by simp [part]
theorem part_next (n : List Int) (p m : Nat) : part n p (m + 1) = part n p m ++ [(p : Int)] := by
  unfold part; rw [List.replicate_succ', List.append_assoc]
theorem part_all {n : List Int} {p : Nat} {x : Int} (e : Hid (n.getD p 0 = x)) : part n p x.toNat = blocks n (p + 1) := by simp only [part, blocks, e.out]
theorem length_part (n : List Int) (p m : Nat) : (part n p m).length = (blocks n p).length + m := by simp [part]

set_option maxHeartbeats 1000000 in
theorem impl_combOf {n : List Int} {A : Option Addr} {ca : Nat} {w : World} (h1 : RI w A n) (hn : n.length ≤ 61) (hle : Hid (∀ p : Nat, n.getD p 0 ≤ 40)) :
    Calls Try.prog 61 #[.slice A n.length ca] w fun e w' => ∃ D d, e = .returned (.tuple #[.slice D (leastC n).length d, .bool (combOk (leastB n))]) ∧ OwnI 3 w.heap.size w'.heap.size w' D d (leastC n) ∧ Below w.heap.size w w' := by
  have H1 := Lib.hid h1; clear h1
  go_enter Try.func61, Try.ntmps61
  go_wp2
  go_loopw [4, 11] (fun v i wr => ∃ (k : Nat) (D : Option Addr) (d : Nat), k ≤ n.length ∧ i = .int .i64 k ∧ v = .slice D (blocks n k).length d ∧ OwnI 3 w.heap.size wr.heap.size wr D d (blocks n k) ∧ Below w.heap.size w wr) (fun _ i _ => n.length - (intOf i).toNat)
  case atStart => exact ⟨0, _, _, Nat.zero_le _, rfl, rfl, (own_empty 3).hi_mono (by simp) (Nat.le_refl _), bnew (Below.refl _ _) _⟩
  case round =>
    obtain ⟨k, D, d, hk, rfl, rfl, hown, hbel⟩ := hrel
    have hlb := length_blocks hle k
    by_cases hlt : k < n.length
    · obtain ⟨b, off, rfl, hP⟩ := H1.out.2 (by omega)
      have HP := Lib.hid hP; clear hP
      obtain ⟨x, e1⟩ := int_of n k
      have hx : x ≤ 40 := by have := hle.out k; rw [e1.out] at this; exact this
      have c1 := HP.out.c1 hbel hlt e1
      have hp0 := Lib.hid (part_zero n k)
      have hou : Hid (OwnI 3 w.heap.size wr.heap.size wr D d (part n k 0)) := by rw [hp0.out]; exact hown
      have hle0 : (blocks n k).length = (part n k 0).length := by rw [hp0.out]
      have hle0' := Lib.hid hle0; clear hle0
      have hbl := Lib.hid hbel; clear hbel hown
      go_wp2
      go_loopw [4, 7] (fun v j wr' => ∃ (m : Nat) (D : Option Addr) (d : Nat), m ≤ x.toNat ∧ j = .int .i64 m ∧ v = .slice D (part n k m).length d ∧ OwnI 3 w.heap.size wr'.heap.size wr' D d (part n k m) ∧ Below w.heap.size w wr') (fun _ j _ => x.toNat - (intOf j).toNat)
      case atStart => exact ⟨0, D, d, Nat.zero_le _, rfl, by rw [hle0'.out], hou.out, hbl.out⟩
      case round =>
        clear hou hbl hle0' c1
        obtain ⟨m, D, d, hm, rfl, rfl, hown, hbel⟩ := hrel
        have hlp := length_part n k m
        have hlp' : (part n k m).length ≤ 10000 := by omega
        have hlph := Lib.hid hlp; clear hlp
        by_cases hml : (m : Int) < x
        · have hs := Lib.hid (part_next n k m)
          go_wp2_with (at_builtin; refine wpList_app_int (.tmp 21) (.tmp 23) 33 3 rfl rfl Try.underlying33 int_info rfl rfl rfl hown hbel.size (by omega) ?_; intro B' d' w2 hown2 hb2)
          go_roundw
          case rel => exact ⟨m + 1, B', d', by omega, by go_num, by rw [hs.out, List.length_append]; rfl, by rw [hs.out]; exact hown2, hbel.trans hb2⟩
          case measure => simp [intOf]; omega
        · have hmx : m = x.toNat := by omega
          have hs : Hid (part n k m = blocks n (k + 1)) := by show _ = _; rw [hmx]; exact part_all e1
          clear hmx
          go_wp2
          go_roundw
          case rel => exact ⟨k + 1, D, d, by omega, by go_num, by rw [hs.out], by rw [← hs.out]; exact hown, hbel⟩
          case measure => simp [intOf]; omega
    · obtain rfl : k = n.length := by omega
      have hbl := Lib.hid hbel; clear hbel
      cases g : combOk (leastB n)
      · have hT : Hid (leastC n = []) := by show _ = _; unfold leastC; rw [if_neg (by rw [g]; exact Bool.false_ne_true)]
        go_wp2_with fail
        refine (impl_CombOk hown.reads).mono ?_
        rintro e w3 ⟨rfl, hb3⟩
        have g' : combOk (blocks n n.length) = false := g
        have G := Lib.hid g; clear g
        go_wp2
        go_ret2
        rw [hT.out, G.out]
        exact ⟨none, 0, rfl, OwnI.nil _ _ (Nat.le_refl _), bthen hbl.out hb3⟩
      · have hT : Hid (leastC n = blocks n n.length) := by show _ = _; unfold leastC; rw [if_pos g]; rfl
        have hou := Lib.hid hown
        go_wp2_with fail
        refine (impl_CombOk hown.reads).mono ?_
        rintro e w3 ⟨rfl, hb3⟩
        have g' : combOk (blocks n n.length) = true := g
        have G := Lib.hid g; clear g
        clear hown
        go_wp2
        go_ret2
        rw [hT.out, G.out]
        exact ⟨_, _, rfl, (hou.out.below hb3 hou.out.le).hi_mono hb3.size (Nat.le_refl _), bthen hbl.out hb3⟩
theorem impl_LeastComb {t : List (Int × Int)} {rest : Int} {A : Option Addr} {ca : Nat} {w : World} (h1 : RP w A t) (hca : t.length ≤ ca) :
    Calls Try.prog 21 #[.slice A t.length ca, .int .i64 rest] w fun e w' => ∃ D d, e = .returned (.tuple #[.slice D (leastL t rest).length d, .bool (leastOk t rest)]) ∧ OwnI 3 w.heap.size w'.heap.size w' D d (leastL t rest) ∧ Below w.heap.size w w' := by
  have H1 := Lib.hid h1; clear h1
  go_enter Try.func21, Try.ntmps21
  go_wp2_with fail
  refine (impl_TeethNeeded H1.out hca).mono ?_
  rintro e w1 ⟨G, c, rfl, hL, hb1⟩
  go_wp2_with fail
  refine (impl_combOf hL.reads (needed_len t rest) (needed_le t rest)).mono ?_
  rintro e w2 ⟨D, d, rfl, hO, hb2⟩
  go_wp2
  go_ret2
  exact ⟨_, _, rfl, hO.lo_mono hb1.size, bthen hb1 hb2⟩
end Go.Proofs.Ytakllloangpimaa
