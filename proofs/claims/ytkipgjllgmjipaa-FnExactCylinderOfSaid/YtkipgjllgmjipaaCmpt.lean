/- slices.Compact at notes: its own text walked at this program. -/
import Derived.Test.YtkipgjllgmjipaaSrtB
import Derived.Lib.SliceRun
namespace Go.Proofs.Ytkipgjllgmjipaa
open Go.RowKit
section
variable {e : TypeId} {lo hi g c k : Nat} {w : World} {l : List (Int × Int)} {x y : Int}
theorem OwnP.at1 (h : OwnP e lo hi w (some ⟨g, 0, none⟩) c l) (hk : k < l.length) (e1 : Hid (l.getD k (0, 0) = (x, y))) : w.cell? ⟨g, k * 2, none⟩ = some (.int .i64 x) := by
  obtain ⟨p1, _⟩ := pcells_at l k hk
  rw [h.row.cellAt (k * 2) (by omega), p1, e1.out]
theorem OwnP.at2 (h : OwnP e lo hi w (some ⟨g, 0, none⟩) c l) (hk : k < l.length) (e1 : Hid (l.getD k (0, 0) = (x, y))) : w.cell? ⟨g, k * 2 + 1, none⟩ = some (.int .i64 y) := by
  obtain ⟨_, p2⟩ := pcells_at l k hk
  rw [h.row.cellAt (k * 2 + 1) (by omega), p2, e1.out]
end
theorem zero_pairs (n : Nat) : (Builtin.zeroCells #[.int .i64 0, .int .i64 0] n).toList = List.replicate (n * 2) (Value.int .i64 0) := by
  simp [Builtin.zeroCells]
  apply List.ext_getElem
  · simp
  · intro i h1 h2
    have : i % 2 = 0 ∨ i % 2 = 1 := by omega
    rcases this with h | h <;> simp [h]
theorem run_clear_pairs {P : Program} (w : World) (t e ty : TypeId) (ht : P.underlying t = some (.slice e)) (hv : ∀ w, (zeroValue e).run P w = .ok (.agg #[.int .i64 0, .int .i64 0]) w) (b o n c : Nat) (hn : 0 < n)
    (hc : ∀ j, j < n * 2 → (w.cell? ⟨b, o + j, none⟩).isSome = true) (hf : ∀ j, j < n * 2 → w.frozen? ⟨b, o + j, none⟩ = false) :
    (Builtin.clear_ #[t] ty #[.slice (some ⟨b, o, none⟩) n c]).run P w = .ok (.tuple #[]) (w.setCells b o (List.replicate (n * 2) (.int .i64 0))) := by
  have hzc := zero_pairs n
  have hst := run_storeCells_cells (P := P) b o (List.replicate (n * 2) (Value.int .i64 0)) 0 w (by simpa using hc) (by simpa using hf) (by intro v hv'; rw [List.eq_of_mem_replicate hv']; rfl)
  simp only [Nat.add_zero] at hst
  obtain ⟨m, rfl⟩ : ∃ m, n = m + 1 := ⟨n - 1, by omega⟩
  simp [Builtin.clear_, run_underlying ht, hv, hzc, hst, Value.cells]
theorem zeroV_note : ∀ w, (zeroValue 38).run Try.prog w = .ok (.agg #[.int .i64 0, .int .i64 0]) w := fun _ => by kernel_rfl
/-! ## Plain notions -/
theorem ded_keep {l : List (Int × Int)} {m : Nat} (h : l.getD m (0, 0) ≠ l.getD (m - 1) (0, 0)) : ded l (m + 1) = ded l m ++ [l.getD m (0, 0)] := by
  show (if _ then _ else _) = _; rw [if_pos (.inr h)]
theorem ded_drop {l : List (Int × Int)} {m : Nat} (hm : 0 < m) (h : l.getD m (0, 0) = l.getD (m - 1) (0, 0)) : ded l (m + 1) = ded l m := by
  show (if _ then _ else _) = _; rw [if_neg (by rintro (h1 | h1); omega; exact h1 h)]
theorem over_at {D l : List (Int × Int)} {j : Nat} (h : D.length ≤ j) : (D ++ l.drop D.length).getD j (0, 0) = l.getD j (0, 0) := by
  rw [List.getD_eq_getElem?_getD, List.getElem?_append_right h, List.getElem?_drop, List.getD_eq_getElem?_getD, show D.length + (j - D.length) = j by omega]
theorem over_set {D l : List (Int × Int)} {p : Int × Int} (h : D.length < l.length) : (D ++ l.drop D.length).set D.length p = (D ++ [p]) ++ l.drop (D ++ [p]).length := by
  rw [List.set_append_right _ _ (Nat.le_refl _), Nat.sub_self, List.drop_eq_getElem_cons h, List.set_cons_zero, List.length_append]
  simp
set_option maxHeartbeats 1000000 in
theorem compact_notes {lo hi g c : Nat} {l : List (Int × Int)} {w : World} (h : OwnP 38 lo hi w (some ⟨g, 0, none⟩) c l) :
    Calls Try.prog 93 #[.slice (some ⟨g, 0, none⟩) l.length c] w fun r w' => r = .returned (.slice (some ⟨g, 0, none⟩) (ded l l.length).length c) ∧ OwnP 38 lo hi w' (some ⟨g, 0, none⟩) c (ded l l.length) ∧ Kept lo hi w w' := by
  have hn := h.small
  have hglo : lo ≤ g := h.lo_le _ rfl
  have hghi : g < hi := h.top _ rfl
  have hcap : l.length ≤ c := by
    rcases h.row.2 with ⟨_, hn⟩ | ⟨g, cap, cur, hv, _, _, hc, _⟩
    · omega
    · injection hv with _ _ h3
      omega
  have hcm : c ≤ maxLen := by
    rcases h.row.2 with ⟨hv, _⟩ | ⟨g, cap, cur, hv, _, _, _, hc, _⟩
    · cases hv
    · injection hv with _ _ h3
      omega
  unfold maxLen at hcm
  have H := Lib.hid h; clear h
  by_cases h2 : l.length < 2
  · have hd := Lib.hid (ded_all (l := l) (m := l.length) (Nat.le_refl _) (fun j h1 h3 => absurd h3 (by omega)))
    go_enter Try.func93, Try.ntmps93
    go_wp2
    go_ret
    rw [hd.out, List.take_length]
    exact ⟨rfl, H.out, Kept.refl _ _ _⟩
  go_enter Try.func93, Try.ntmps93
  go_wp2
  go_loopw [3] (fun i wr => ∃ k : Nat, 1 ≤ k ∧ k ≤ l.length ∧ i = .int .i64 k ∧ Hid (∀ j, 0 < j → j < k → l.getD j (0, 0) ≠ l.getD (j - 1) (0, 0)) ∧ OwnP 38 lo hi wr (some ⟨g, 0, none⟩) c l ∧ Kept lo hi w wr) (fun i _ => l.length - (intOf i).toNat)
  case atStart => exact ⟨1, Nat.le_refl _, by omega, rfl, fun j h1 h3 => absurd h3 (by omega), H.out, Kept.refl _ _ _⟩
  case round =>
    obtain ⟨k, hk1, hk, rfl, hall, hown, hkept⟩ := hrel
    by_cases hlt : k < l.length
    · obtain ⟨x, y, e1⟩ := pair_of l k
      obtain ⟨x', y', e2⟩ := pair_of l (k - 1)
      have c1 := cell_after (hown.at1 hlt e1) (Below.refl _ _)
      have c2 := cell_after (hown.at2 hlt e1) (Below.refl _ _)
      have d1 := cell_after (hown.at1 (show k - 1 < l.length by omega) e2) (Below.refl _ _)
      have d2 := cell_after (hown.at2 (show k - 1 < l.length by omega) e2) (Below.refl _ _)
      have hown' := Lib.hid hown
      have hkept' := Lib.hid hkept
      clear hown hkept
      by_cases hx : x = x'
      case neg =>
        go_wp2_with fail
        refine wp_region_after (by kernel_rfl) (by kernel_rfl) ?_
        repeat (go_big_quiet_step (fail))
        refine wpQuiet_nil ?_
        rintro wq ⟨⟨_, hq⟩, rfl⟩
        go_wp2
        go_roundw
        case rel => exact ⟨k + 1, by omega, by omega, by go_num, fun j h1 h3 => by
          rcases Nat.lt_or_ge j k with h | h
          · exact hall.out j h1 h
          · have : j = k := by omega
            subst this; rw [e1.out, e2.out]; simp [hx], hown'.out.below hq hown'.out.le, hkept'.out.trans (bkept hq (Nat.le_refl _))⟩
        case measure => simp [intOf]; omega
      by_cases hy : y = y'
      case neg =>
        subst hx
        go_wp2_with fail
        refine wp_region_after (by kernel_rfl) (by kernel_rfl) ?_
        repeat (go_big_quiet_step (fail))
        refine wpQuiet_nil ?_
        rintro wq ⟨⟨_, hq⟩, rfl⟩
        go_wp2
        go_roundw
        case rel => exact ⟨k + 1, by omega, by omega, by go_num, fun j h1 h3 => by
          rcases Nat.lt_or_ge j k with h | h
          · exact hall.out j h1 h
          · have : j = k := by omega
            subst this; rw [e1.out, e2.out]; simp [hy], hown'.out.below hq hown'.out.le, hkept'.out.trans (bkept hq (Nat.le_refl _))⟩
        case measure => simp [intOf]; omega
      subst hx hy
      have he0 := Lib.hid (e1.out.trans e2.out.symm)
      have hd0 := Lib.hid (ded_all (l := l) (m := k) hk hall.out)
      have hd1 := Lib.hid (ded_drop (l := l) hk1 he0.out)
      go_wp2_with fail
      refine wp_region_after (by kernel_rfl) (by kernel_rfl) ?_
      repeat (go_big_quiet_step (fail))
      refine wpQuiet_nil ?_
      rintro wq ⟨⟨_, hq⟩, rfl⟩
      have hown := hown'.out.below hq hown'.out.le
      have hkept := hkept'.out.trans (bkept (hi := hi) (lo := lo) hq (Nat.le_refl _))
      clear hown' hkept' c1 c2 d1 d2 hq
      have hck : k ≤ c := by omega
      go_wp2
      go_loopw [3, 5] (fun i3 i5 wr => ∃ kk m : Nat, 1 ≤ m ∧ k + m ≤ l.length ∧ i3 = .int .i64 kk ∧ i5 = .int .i64 m ∧ Hid (kk = (ded l (k + m)).length) ∧ kk < k + m ∧ OwnP 38 lo hi wr (some ⟨g, 0, none⟩) c (ded l (k + m) ++ l.drop (ded l (k + m)).length) ∧ Kept lo hi w wr) (fun _ i5 _ => l.length - k - (intOf i5).toNat)
      case atStart =>
        refine ⟨k, 1, Nat.le_refl _, by omega, rfl, rfl, ?_, by omega, ?_, hkept⟩
        · show k = _
          rw [hd1.out, hd0.out, List.length_take]; omega
        · rw [hd1.out, hd0.out, List.length_take, Nat.min_eq_left hk, List.take_append_drop]
          exact hown
      case round =>
        clear hown hkept
        obtain ⟨kk, m, hm1, hkm, rfl, rfl, hkk, hlt2, hown, hkept⟩ := hrel
        have hlen : (ded l (k + m) ++ l.drop (ded l (k + m)).length).length = l.length := by
          rw [List.length_append, List.length_drop, ← hkk.out]; omega
        have hown' := Lib.hid hown
        have hkept' := Lib.hid hkept
        have hlen' := Lib.hid hlen
        clear hown hkept hlen
        by_cases hm : k + m < l.length
        · obtain ⟨u1, u2, f1⟩ := pair_of l (k + m)
          obtain ⟨v1, v2, f2⟩ := pair_of l (k + m - 1)
          have g1 : Hid ((ded l (k + m) ++ l.drop (ded l (k + m)).length).getD (k + m) (0, 0) = (u1, u2)) := (over_at (by rw [← hkk.out]; omega)).trans f1.out
          have g2 : Hid ((ded l (k + m) ++ l.drop (ded l (k + m)).length).getD (k + m - 1) (0, 0) = (v1, v2)) := (over_at (by rw [← hkk.out]; omega)).trans f2.out
          have c1 := hown'.out.at1 (by rw [hlen'.out]; exact hm) g1
          have c2 := hown'.out.at2 (by rw [hlen'.out]; exact hm) g1
          have d1 := hown'.out.at1 (by rw [hlen'.out]; omega) g2
          have d2 := hown'.out.at2 (by rw [hlen'.out]; omega) g2
          rw [show (k + m) * 2 = k * 2 + m * 2 by omega] at c1 c2
          rw [show (k + m - 1) * 2 = k * 2 + (m - 1) * 2 by omega] at d1 d2
          have a1 := cell_after c1 (Below.refl _ _)
          have a2 := cell_after c2 (Below.refl _ _)
          have b1 := cell_after d1 (Below.refl _ _)
          have b2 := cell_after d2 (Below.refl _ _)
          clear d1 d2 c1 c2
          by_cases hx : u1 = v1
          case neg =>
            go_wp2_with fail
            refine wp_region_after (by kernel_rfl) (by kernel_rfl) ?_
            repeat (go_big_quiet_step (fail))
            refine wpQuiet_nil ?_
            rintro wq ⟨⟨_, hq⟩, rfl⟩
            have hown := hown'.out.below hq hown'.out.le
            have hkept := hkept'.out.trans (bkept (hi := hi) (lo := lo) hq (Nat.le_refl _))
            clear hown' hkept' a1 a2 b1 b2
            obtain ⟨_, _, s1, s2, s3, s4⟩ := hown.slot (k := kk) (by rw [hlen'.out]; omega)
            have c1 := hown.at1 (by rw [hlen'.out]; exact hm) g1
            have c2 := hown.at2 (by rw [hlen'.out]; exact hm) g1
            rw [show (k + m) * 2 = k * 2 + m * 2 by omega] at c1 c2
            have hd2 := Lib.hid (ded_keep (l := l) (m := k + m) (by rw [f1.out, f2.out]; simp [hx]))
            have hst := Lib.hid (hown.stored kk u1 u2)
            clear hown hq
            go_wp2
            go_roundw
            case rel =>
              refine ⟨kk + 1, m + 1, by omega, by omega, by go_num, by go_num, ?_, by omega, ?_, (hkept.setCell (p := ⟨g, _, none⟩) hglo hghi _).setCell (p := ⟨g, _, none⟩) hglo hghi _⟩
              · show kk + 1 = _
                rw [show k + (m + 1) = k + m + 1 by omega, hd2.out, List.length_append, ← hkk.out]; rfl
              · have h := hst.out
                rw [hkk.out, over_set (by rw [← hkk.out]; omega), ← f1.out, ← hd2.out, ← hkk.out] at h
                exact h
            case measure => simp [intOf]; omega
          by_cases hy : u2 = v2
          case neg =>
            subst hx
            go_wp2_with fail
            refine wp_region_after (by kernel_rfl) (by kernel_rfl) ?_
            repeat (go_big_quiet_step (fail))
            refine wpQuiet_nil ?_
            rintro wq ⟨⟨_, hq⟩, rfl⟩
            have hown := hown'.out.below hq hown'.out.le
            have hkept := hkept'.out.trans (bkept (hi := hi) (lo := lo) hq (Nat.le_refl _))
            clear hown' hkept' a1 a2 b1 b2
            obtain ⟨_, _, s1, s2, s3, s4⟩ := hown.slot (k := kk) (by rw [hlen'.out]; omega)
            have c1 := hown.at1 (by rw [hlen'.out]; exact hm) g1
            have c2 := hown.at2 (by rw [hlen'.out]; exact hm) g1
            rw [show (k + m) * 2 = k * 2 + m * 2 by omega] at c1 c2
            have hd2 := Lib.hid (ded_keep (l := l) (m := k + m) (by rw [f1.out, f2.out]; simp [hy]))
            have hst := Lib.hid (hown.stored kk u1 u2)
            clear hown hq
            go_wp2
            go_roundw
            case rel =>
              refine ⟨kk + 1, m + 1, by omega, by omega, by go_num, by go_num, ?_, by omega, ?_, (hkept.setCell (p := ⟨g, _, none⟩) hglo hghi _).setCell (p := ⟨g, _, none⟩) hglo hghi _⟩
              · show kk + 1 = _
                rw [show k + (m + 1) = k + m + 1 by omega, hd2.out, List.length_append, ← hkk.out]; rfl
              · have h := hst.out
                rw [hkk.out, over_set (by rw [← hkk.out]; omega), ← f1.out, ← hd2.out, ← hkk.out] at h
                exact h
            case measure => simp [intOf]; omega
          subst hx hy
          have he1 := Lib.hid (f1.out.trans f2.out.symm)
          have hd2 := Lib.hid (ded_drop (l := l) (m := k + m) (by omega) he1.out)
          go_wp2_with fail
          refine wp_region_after (by kernel_rfl) (by kernel_rfl) ?_
          repeat (go_big_quiet_step (fail))
          refine wpQuiet_nil ?_
          rintro wq ⟨⟨_, hq⟩, rfl⟩
          go_wp2
          go_roundw
          case rel =>
            refine ⟨kk, m + 1, by omega, by omega, by go_num, by go_num, ?_, by omega, ?_, hkept'.out.trans (bkept (hi := hi) (lo := lo) hq (Nat.le_refl _))⟩
            · show kk = _
              rw [show k + (m + 1) = k + m + 1 by omega, hd2.out, ← hkk.out]
            · rw [show k + (m + 1) = k + m + 1 by omega, hd2.out]
              exact hown'.out.below hq hown'.out.le
          case measure => simp [intOf]; omega
        · have hkn : k + m = l.length := by omega
          have hrow := hown'.out.row
          have hcl : ∀ ty, (Builtin.clear_ #[24] ty #[.slice (some ⟨g, kk * 2, none⟩) (l.length - kk) (c - kk)]).run Try.prog wr = .ok (.tuple #[]) (wr.setCells g (kk * 2) (List.replicate ((l.length - kk) * 2) (.int .i64 0))) := fun ty =>
            run_clear_pairs wr _ _ ty Try.underlying24 zeroV_note g (kk * 2) _ _ (by omega)
              (fun j hj => by
                rw [hrow.cellAt (kk * 2 + j) (by rw [hlen'.out]; omega), List.getElem?_eq_getElem (by rw [length_pcells, hlen'.out]; omega)]; rfl)
              (fun j hj => hrow.frozenAt _)
          obtain ⟨k1, k2⟩ := own_setCells (List.replicate ((l.length - kk) * 2) (.int .i64 0)) (kk * 2) wr _ hrow (by rw [List.length_replicate, length_pcells, hlen'.out]; omega)
          have K1 := Lib.hid k1; have K2 := Lib.hid k2
          clear hrow k1 k2
          go_wp2
          go_ret
          have hkk' := hkk.out
          rw [hkn] at hkk'
          rw [← hkk']
          have ho := own_shrink (k := kk) K1.out (by rw [hlen'.out]; omega)
          have hpre : ((pcells (ded l (k + m) ++ l.drop (ded l (k + m)).length)).take (kk * 2) ++ List.replicate ((l.length - kk) * 2) (Value.int .i64 0) ++ (pcells (ded l (k + m) ++ l.drop (ded l (k + m)).length)).drop (kk * 2 + (List.replicate ((l.length - kk) * 2) (Value.int .i64 0)).length)).take (kk * 2) = pcells (ded l l.length) := by
            have hl1 : (pcells (ded l (k + m))).length = kk * 2 := by rw [length_pcells, ← hkk.out]
            rw [pcells_append, List.take_left' hl1, List.append_assoc, List.take_left' hl1, hkn]
          rw [hpre] at ho
          refine ⟨rfl, ⟨by rw [← hkk']; exact ho, fun a ha => by injection ha with ha; subst ha; exact hghi, Nat.le_trans hown'.out.le K2.out.size, by omega⟩, hkept'.out.trans ⟨K2.out.os, K2.out.tape, K2.out.output, K2.out.size, fun j hj ho => K2.out.block j hj (by omega)⟩⟩
    · obtain rfl : k = l.length := by omega
      have hd := Lib.hid (ded_all (l := l) (m := l.length) (Nat.le_refl _) hall.out)
      go_wp2
      go_ret
      rw [hd.out, List.take_length]
      exact ⟨rfl, hown, hkept⟩
end Go.Proofs.Ytkipgjllgmjipaa
