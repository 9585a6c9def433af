/- Copies of tunes, and slices.SortFunc at notes in the words of these texts. -/
import Derived.Test.YtkipgjllgmjipaaSrt
import Derived.Test.YtkipgjllgmjipaaSortL
import Derived.Test.YtkipgjllgmjipaaTuneW
import Derived.Test.YtkipgjllgmjipaaBase2
open Go.Shelf
namespace Go.Proofs.Ytkipgjllgmjipaa
open Go.RowKit Go.Sort

theorem notes_inf : (Try.prog.info? 38).map (fun i => (i.zero, i.size, i.bytes)) = some (some (.agg #[.int .i64 0, .int .i64 0]), 2, 16) := by kernel_rfl
/-! ## Many stores into a slice that the program has made -/
theorem own_setCells {base g n c size : Nat} {e : TypeId} : ∀ (vs : List Value) (o : Nat) (w : World) (xs : List Value), w.ownsRow base e size (.slice (some ⟨g, 0, none⟩) n c) n xs → o + vs.length ≤ xs.length →
    (w.setCells g o vs).ownsRow base e size (.slice (some ⟨g, 0, none⟩) n c) n (xs.take o ++ vs ++ xs.drop (o + vs.length)) ∧ Kept g (g + 1) w (w.setCells g o vs)
  | [], o, w, xs, h, _ => by
    rw [show w.setCells g o [] = w from rfl]
    refine ⟨?_, Kept.refl _ _ _⟩
    simpa using h
  | v :: r, o, w, xs, h, hl => by
    have h1 := (h.stored o v).1
    obtain ⟨h2, h3⟩ := own_setCells r (o + 1) (w.setCell ⟨g, o, none⟩ v) (xs.set o v) h1 (by simp at hl ⊢; omega)
    have hk : Kept g (g + 1) w (w.setCell ⟨g, o, none⟩ v) := (Kept.refl _ _ _).setCell (p := ⟨g, o, none⟩) (Nat.le_refl _) (Nat.lt_succ_self _) v
    refine ⟨?_, hk.trans h3⟩
    have e : (xs.set o v).take (o + 1) ++ r ++ (xs.set o v).drop (o + 1 + r.length) = xs.take o ++ v :: r ++ xs.drop (o + (v :: r).length) := by
      have ho : o < xs.length := by simp at hl; omega
      rw [List.drop_set_of_lt (by omega), List.take_set, List.take_succ_eq_append_getElem ho, List.set_append_right _ _ (by simp; omega)]
      have : o - (List.take o xs).length = 0 := by simp; omega
      rw [this]
      simp only [List.set_cons_zero, List.append_assoc, List.cons_append, List.nil_append, List.length_cons]
      rw [show o + 1 + r.length = o + (r.length + 1) by omega]
    rw [← e]
    exact h2
theorem own_shrink {w : World} {base g n c size k : Nat} {e : TypeId} {xs : List Value} (h : w.ownsRow base e size (.slice (some ⟨g, 0, none⟩) n c) n xs) (hk : k ≤ n) : w.ownsRow base e size (.slice (some ⟨g, 0, none⟩) k c) k (xs.take (k * size)) := by
  obtain ⟨hl, h2⟩ := h
  rcases h2 with ⟨h', _⟩ | ⟨g', cap, cur, hv, hb, hg, hn, hm, hs, ht⟩
  · cases h'
  · have hks : k * size ≤ n * size := Nat.mul_le_mul_right _ hk
    injection hv with hA _ hc
    injection hA with hA
    injection hA with hA _ _
    subst hA hc
    refine ⟨by rw [List.length_take]; omega, .inr ⟨g, c, cur, rfl, hb, hg, by omega, hm, hs, ?_⟩⟩
    rw [← ht, List.take_take, Nat.min_eq_left hks]
theorem ownsRow_heap {w w' : World} {base g n c size : Nat} {e : TypeId} {xs : List Value} (h : w.ownsRow base e size (.slice (some ⟨g, 0, none⟩) n c) n xs) (hh : w'.heap[g]? = w.heap[g]?) : w'.ownsRow base e size (.slice (some ⟨g, 0, none⟩) n c) n xs :=
  ownsRow_same h fun k hk => by simp only [Value.ownBlock, Option.some.injEq] at hk; subst hk; exact hh
theorem impl_copyNotes {l : List (Int × Int)} {A : Option Addr} {c : Nat} {w : World} (h : RP w A l) :
    Calls Try.prog 71 #[.slice A l.length c] w fun e w' => ∃ g d, e = .returned (.slice (some ⟨g, 0, none⟩) l.length d) ∧ OwnP 38 w.heap.size w'.heap.size w' (some ⟨g, 0, none⟩) d l ∧ Below w.heap.size w w' := by
  have hn := h.1
  have H := Lib.hid h; clear h
  go_enter Try.func71, Try.ntmps71
  go_wp2_with (at_builtin; refine wpList_app_pairs' (l := []) (m := l) (.tmp 3) (.tmp 4) 24 38 rfl rfl Try.underlying24 notes_inf rfl (by decide) rfl rfl (own_emptyP 38) (by simp) (H.out.below (bnew (Below.refl _ _) _)) (by simpa using hn) ?_; intro g' d' w2 hown hb2)
  go_ret
  rw [List.nil_append] at hown
  exact ⟨_, _, by simp, hown, (bnew (Below.refl _ _) _).trans hb2⟩
theorem spec_l02Copy {l : List (Int × Int)} {A : Option Addr} {c : Nat} {w : World} (h : RP w A l) :
    Calls Try.prog 58 #[.slice A l.length c] w fun e w' => ∃ g d, e = .returned (.slice (some ⟨g, 0, none⟩) l.length d) ∧ OwnP 38 w.heap.size w'.heap.size w' (some ⟨g, 0, none⟩) d l ∧ Below w.heap.size w w' := by
  have hn := h.1
  have H := Lib.hid h; clear h
  go_enter Try.func58, Try.ntmps58
  go_wp2_with (at_builtin; refine wpList_app_pairs' (l := []) (m := l) (.tmp 3) (.tmp 4) 24 38 rfl rfl Try.underlying24 notes_inf rfl (by decide) rfl rfl (own_emptyP 38) (by simp) (H.out.below (bnew (Below.refl _ _) _)) (by simpa using hn) ?_; intro g' d' w2 hown hb2)
  go_ret
  rw [List.nil_append] at hown
  exact ⟨_, _, by simp, hown, (bnew (Below.refl _ _) _).trans hb2⟩
/-! ## slices.SortFunc -/
def encN (x : Int × Int) : List Value := [.int .i64 x.1, .int .i64 x.2]
def cfN (x y : Int × Int) : Int := comp2 x.1 x.2 y.1 y.2
theorem ltN (x y : Int × Int) : ltOf cfN x y = decide (lt2 x y) := by
  unfold ltOf cfN comp2 less2 lt2
  by_cases h : x.1 < y.1 ∨ x.1 = y.1 ∧ x.2 < y.2
  · simp [h]
  · simp only [h, decide_false, Bool.false_eq_true, if_false]
    split <;> simp
theorem swoN : SWO (ltOf cfN) where
  irrefl x := by rw [ltN]; exact decide_eq_false (lt2_irrefl x)
  trans x y z h1 h2 := by
    rw [ltN] at *
    exact decide_eq_true (lt2_trans (of_decide_eq_true h1) (of_decide_eq_true h2))
  ntrans x y z h1 h2 := by
    rw [ltN] at *
    have h1 := of_decide_eq_false h1
    have h2 := of_decide_eq_false h2
    refine decide_eq_false ?_
    unfold lt2 at *
    omega
theorem closure_notes (x y : Int × Int) (W : World) : Calls Try.prog 92 #[.agg #[.int .i64 x.1, .int .i64 x.2], .agg #[.int .i64 y.1, .int .i64 y.2]] W fun e w' => e = .returned (.int .i64 (cfN x y)) ∧ ∃ q os', w' = grow (W.drewN q) os' := by
  obtain ⟨a, b⟩ := x
  obtain ⟨c, d⟩ := y
  go_enter Try.func92, Try.ntmps92
  go_wp2
  all_goals
    go_ret
    refine ⟨ret_int ?_, 0, _, by rw [alloc_eq_grow, alloc_eq_grow, grow_grow]; rfl⟩
    simp only [cfN, comp2, less2, decide_eq_true_eq]
    first | (rw [if_pos (by omega)]; done) | (rw [if_neg (by omega), if_pos (by omega)]; done) | rw [if_neg (by omega), if_neg (by omega)]
theorem cmpLays_notes (blk off size : Nat) (w : World) : CmpLays Try.prog 92 #[] encN 2 cfN blk off size w :=
  fun _ _ _ _ x y => closure_notes x y _
theorem flat_pcells (l : List (Int × Int)) : (flatK encN 2 l.toArray).toList = pcells l := by
  apply List.ext_getElem?
  intro j
  by_cases hj : j < l.length * 2
  · have hs : j < (flatK encN 2 l.toArray).size := by rw [size_flatK]; simpa using hj
    rw [Array.getElem?_toList, Array.getElem?_eq_getElem hs, ← getElem!_pos (flatK encN 2 l.toArray) j hs, get_flatK encN 2 _ j (by simpa using hj)]
    obtain ⟨p1, p2⟩ := pcells_at l (j / 2) (by omega)
    have hg : l.toArray[j / 2]! = l.getD (j / 2) (0, 0) := by
      have : j / 2 < l.length := by omega
      rw [getElem!_pos _ _ (by simpa using this), List.getD_eq_getElem?_getD, List.getElem?_eq_getElem this]; rfl
    rw [hg]
    rcases Nat.mod_two_eq_zero_or_one j with hm | hm
    · rw [show j / 2 * 2 = j by omega] at p1
      rw [p1, hm]; rfl
    · rw [show j / 2 * 2 + 1 = j by omega] at p2
      rw [p2, hm]; rfl
  · rw [Array.getElem?_toList, Array.getElem?_eq_none (by rw [size_flatK]; simpa using hj), List.getElem?_eq_none (by rw [length_pcells]; omega)]
theorem isAgg_note : ∀ w, (isAgg 38).run Try.prog w = .ok true w := fun _ => by kernel_rfl
theorem sizeOf_note : ∀ w, (Go.sizeOf 38).run Try.prog w = .ok 2 w := fun _ => by kernel_rfl
theorem holds_notes {e : TypeId} {lo hi g c : Nat} {w : World} {l : List (Int × Int)} (h : OwnP e lo hi w (some ⟨g, 0, none⟩) c l) : HoldsK encN 2 w g 0 l.toArray := by
  intro j hj
  rw [size_flatK] at hj
  have hj' : j < l.length * 2 := by simpa using hj
  rw [Nat.zero_add]
  refine ⟨?_, h.row.frozenAt _⟩
  rw [h.row.cellAt j hj', ← flat_pcells, Array.getElem?_toList, Array.getElem?_eq_getElem (by rw [size_flatK]; exact hj), getElem!_pos _ _ (by rw [size_flatK]; exact hj)]
  rfl
theorem get_toList (d : Array (Int × Int)) {j : Nat} (hj : j < d.size) : d.toList.getD j (0, 0) = d[j]! := by
  rw [getElem!_pos d j hj, List.getD_eq_getElem?_getD, Array.getElem?_toList, Array.getElem?_eq_getElem hj]; rfl
theorem sort_notes {e : TypeId} {lo hi g c : Nat} {w : World} {l : List (Int × Int)} (h : OwnP e lo hi w (some ⟨g, 0, none⟩) c l) :
    Calls Try.prog 91 #[.slice (some ⟨g, 0, none⟩) l.length c, .func (.func 92) #[] #[]] w fun r w' => r = .returned (.tuple #[]) ∧
      ∃ m : List (Int × Int), m.Perm l ∧ (∀ i j, i < j → j < m.length → ¬ lt2 (m.getD j (0, 0)) (m.getD i (0, 0))) ∧ OwnP e lo hi w' (some ⟨g, 0, none⟩) c m ∧ Kept lo hi w w' := by
  have eg : ∀ args w, (callFunc 92 args).run Try.prog w = .ok (.enter 92 args) w := enters_of Try.func92 (by kernel_rfl) rfl
  have hlo : lo ≤ g := h.lo_le _ rfl
  have hhi : g < hi := h.top _ rfl
  have hle := h.le
  have hsm := h.small
  have hH := holds_notes h
  have hcon := AnyQ.slices_SortFunc Try.sortNotes 2 isAgg_note sizeOf_note encN (fun _ => rfl) (fun x v hv => by simp [encN] at hv; rcases hv with rfl | rfl <;> rfl) cfN swoN 92 #[] g 0 c l.toArray w eg (cmpLays_notes g 0 _ w) hH (by omega) (by simp; omega)
  rw [List.size_toArray] at hcon
  change Calls Try.prog 91 _ _ _ at hcon
  refine hcon.mono ?_
  rintro r w' ⟨rfl, d', n, os, hp, hs, rfl⟩
  obtain ⟨hp1, _, hp3⟩ := hp
  have hsz : d'.size = l.length := by simpa using hp1
  have hperm : d'.toList.Perm l := by
    have e1 : d'.extract 0 l.length = d' := by rw [← hsz]; simp
    have e2 : l.toArray.extract 0 l.length = l.toArray := by simp
    rw [e1, e2] at hp3
    simpa using hp3
  have hlen : d'.toList.length = l.length := by simpa using hsz
  have hfl : (flatK encN 2 d').toList = pcells d'.toList := by
    have := flat_pcells d'.toList
    simpa using this
  have hw : sortWorldK encN 2 w g 0 n d' os = grow ((w.drewN n).setCells g 0 (pcells d'.toList)) os := by
    have hk := Lib.putRow_eq_setCells id w g 0 (flatK encN 2 l.toArray) (pcells d'.toList) n hH (by rw [length_pcells, size_flatK, hlen]; simp)
    rw [List.map_id] at hk
    rw [← hk, ← hfl]
    rfl
  obtain ⟨k1, k2⟩ := own_setCells (pcells d'.toList) 0 (w.drewN n) (pcells l) (h.row : (w.drewN n).ownsRow _ _ _ _ _ _) (by rw [length_pcells, length_pcells, hlen]; omega)
  have hk3 : Kept lo hi w ((w.drewN n).setCells g 0 (pcells d'.toList)) :=
    ⟨k2.os, k2.tape, k2.output, k2.size, fun j hj ho => k2.block j hj (by omega)⟩
  have hk4 : Kept lo hi w (sortWorldK encN 2 w g 0 n d' os) := by
    rw [hw]
    refine hk3.trans ⟨rfl, rfl, rfl, by simp [grow], fun j hj _ => ?_⟩
    simp only [grow]
    rw [Array.getElem?_append_left hj]
  refine ⟨rfl, d'.toList, hperm, fun i j hij hj => ?_, ⟨?_, fun a ha => by injection ha with ha; subst ha; exact hhi, Nat.le_trans hle hk4.size, by omega⟩, hk4⟩
  · rw [hlen] at hj
    have := hs i j (Nat.zero_le _) hij hj
    rw [ltN] at this
    rw [get_toList d' (by omega), get_toList d' (by omega)]
    exact of_decide_eq_false this
  · rw [hw, hlen]
    have : (pcells l).take 0 ++ pcells d'.toList ++ (pcells l).drop (0 + (pcells d'.toList).length) = pcells d'.toList := by
      rw [List.take_zero, List.nil_append, List.drop_of_length_le (by rw [length_pcells, length_pcells, hlen]; omega), List.append_nil]
    rw [this] at k1
    refine ownsRow_heap k1 ?_
    simp only [grow]
    have hg : g < ((w.drewN n).setCells g 0 (pcells d'.toList)).heap.size := Nat.lt_of_lt_of_le (show g < w.heap.size by omega) hk3.size
    rw [Array.getElem?_append_left hg]
end Go.Proofs.Ytkipgjllgmjipaa
