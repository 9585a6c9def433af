/- MissingPitches: what it answers, and that the program's and the reference's functions answer it. -/
import Derived.Test.YtkipgjllgmjipaaTeethB
namespace Go.Proofs.Ytkipgjllgmjipaa
open Go.RowKit

/-! ## Plain notions -/
/-- One of the first k notes has the pitch p. -/
def usedTo (t : List (Int × Int)) (p : Int) : Nat → Bool
  | 0 => false
  | k + 1 => usedTo t p k || decide ((t.getD k (0, 0)).2 = p)
def usedAll (ts : List (List (Int × Int))) (p : Int) : Nat → Bool
  | 0 => false
  | k + 1 => usedAll ts p k || usedTo (ts.getD k []) p (ts.getD k []).length
/-- The numbers below n of which f is true. -/
def listTo (f : Int → Bool) : Nat → List Int
  | 0 => []
  | n + 1 => listTo f n ++ if f (n : Int) = true then [(n : Int)] else []
def hasP (l : List Int) (p : Int) : Bool := !(placesTo l p l.length).isEmpty
def missAt (comb : List Int) (t : List (Int × Int)) (p : Int) : Bool := usedTo t p t.length && !hasP comb p
def missing (comb : List Int) (t : List (Int × Int)) : List Int := if combOk comb = true ∧ tuneOk t = true then listTo (missAt comb t) 61 else []
theorem usedTo_had {t : List (Int × Int)} {p : Int} {k : Nat} (h : Hid (usedTo t p k = true)) : Hid (usedTo t p (k + 1) = true) := by
  show _ = _; simp only [usedTo, h.out, Bool.true_or]
theorem usedTo_next {t : List (Int × Int)} {p x y : Int} {k : Nat} {b : Bool} (h : Hid (usedTo t p k = false)) (e : Hid (t.getD k (0, 0) = (x, y))) (hb : decide (y = p) = b) : Hid (usedTo t p (k + 1) = b) := by
  show _ = _; simp only [usedTo, h.out, e.out, Bool.false_or, hb]
theorem listTo_yes {f : Int → Bool} {n : Nat} (h : f (n : Int) = true) : listTo f (n + 1) = listTo f n ++ [(n : Int)] := by simp only [listTo, if_pos h]
theorem listTo_no {f : Int → Bool} {n : Nat} (h : f (n : Int) = false) : listTo f (n + 1) = listTo f n := by simp [listTo, h]
theorem length_listTo (f : Int → Bool) : ∀ n, (listTo f n).length ≤ n
  | 0 => Nat.le_refl _
  | n + 1 => by
    have := length_listTo f n
    cases h : f (n : Int)
    · rw [listTo_no h]; omega
    · rw [listTo_yes h, List.length_append]; simp; omega
theorem listTo_filter (f g : Int → Bool) : ∀ n, (listTo f n).filter g = listTo (fun p => f p && g p) n
  | 0 => rfl
  | n + 1 => by
    simp only [listTo, List.filter_append, listTo_filter f g n]
    rcases Bool.eq_false_or_eq_true (f (n : Int)) with h | h <;> rcases Bool.eq_false_or_eq_true (g (n : Int)) with h2 | h2 <;> simp [h, h2]
/-- Those of the first k elements of which f is true. -/
def pickI (f : Int → Bool) (l : List Int) : Nat → List Int
  | 0 => []
  | k + 1 => pickI f l k ++ if f (l.getD k 0) = true then [l.getD k 0] else []
theorem pickI_yes {f : Int → Bool} {l : List Int} {k : Nat} {x : Int} (e : Hid (l.getD k 0 = x)) (h : f x = true) : pickI f l (k + 1) = pickI f l k ++ [x] := by simp only [pickI, e.out, if_pos h]
theorem pickI_no {f : Int → Bool} {l : List Int} {k : Nat} {x : Int} (e : Hid (l.getD k 0 = x)) (h : f x = false) : pickI f l (k + 1) = pickI f l k := by simp only [pickI, e.out, h]; simp
theorem length_pickI (f : Int → Bool) (l : List Int) : ∀ k, (pickI f l k).length ≤ k
  | 0 => Nat.le_refl _
  | k + 1 => by
    have := length_pickI f l k
    simp only [pickI, List.length_append]
    split <;> simp <;> omega
theorem pickI_take (f : Int → Bool) (l : List Int) : ∀ k, k ≤ l.length → pickI f l k = (l.take k).filter f
  | 0, _ => by simp [pickI]
  | k + 1, hk => by
    have hlt : k < l.length := by omega
    rw [List.take_succ_eq_append_getElem hlt, List.filter_append, ← pickI_take f l k (by omega)]
    simp only [pickI]
    rw [List.getD_eq_getElem?_getD, List.getElem?_eq_getElem hlt, Option.getD_some]
    cases h : f l[k] <;> simp [h]
theorem pickI_all (f : Int → Bool) (l : List Int) : pickI f l l.length = l.filter f := by rw [pickI_take f l _ (Nat.le_refl _), List.take_length]
theorem placesTo_mono {l : List Int} {p : Int} {k : Nat} (h : placesTo l p k ≠ []) : ∀ n, k ≤ n → placesTo l p n ≠ []
  | 0, hn => by obtain rfl : k = 0 := by omega
                exact h
  | n + 1, hn => by
    rcases Nat.lt_or_ge k (n + 1) with hlt | hge
    · have := placesTo_mono h n (by omega)
      simp only [placesTo]
      intro h2
      exact this (List.append_eq_nil_iff.1 h2).1
    · obtain rfl : k = n + 1 := by omega
      exact h
theorem hasP_yes {l : List Int} {p x : Int} {k : Nat} (hk : k < l.length) (e : Hid (l.getD k 0 = x)) (h : x = p) : hasP l p = true := by
  have h1 : placesTo l p (k + 1) ≠ [] := by rw [placesTo_yes (e.out.trans h)]; simp
  have h2 := placesTo_mono h1 l.length hk
  unfold hasP
  cases h3 : placesTo l p l.length
  · exact absurd h3 h2
  · rfl
theorem hasP_no {l : List Int} {p : Int} (h : Hid (placesTo l p l.length = [])) : hasP l p = false := by unfold hasP; rw [h.out]; rfl
theorem placesTo_none {l : List Int} {p x : Int} {k : Nat} (h : Hid (placesTo l p k = [])) (e : Hid (l.getD k 0 = x)) (hx : ¬ x = p) : Hid (placesTo l p (k + 1) = []) := by
  show _ = _; rw [placesTo_no (by rw [e.out]; exact hx), h.out]
theorem teeth_none {l : List Int} {p : Int} {b : Bool} (g : combOk l = true) (h : hasP l p = b) : (((teethOf l p).length : Int) == 0) = !b := by
  subst h
  have : teethOf l p = placesTo l p l.length := by unfold teethOf; rw [if_pos g]
  unfold hasP
  rw [this]
  cases placesTo l p l.length
  · rfl
  · rw [Bool.not_not]; simp [beq_eq_false_iff_ne]; omega
theorem missing_no {comb : List Int} {t : List (Int × Int)} (h : ¬ (combOk comb = true ∧ tuneOk t = true)) : missing comb t = [] := by unfold missing; rw [if_neg h]

/-! ## The walks -/
theorem spec_MissingPitches_no {comb : List Int} {t : List (Int × Int)} {A B : Option Addr} {ca cb : Nat} {w : World} (h1 : RI w A comb) (h2 : RP w B t) (h : ¬ (combOk comb = true ∧ tuneOk t = true)) :
    Calls Try.prog 74 #[.slice A comb.length ca, .slice B t.length cb] w fun e w' => ∃ D d, e = .returned (.slice D (missing comb t).length d) ∧ OwnI 3 w.heap.size w'.heap.size w' D d (missing comb t) ∧ Below w.heap.size w w' := by
  have hb0 := bnew (Below.refl w.heap.size w) (.cells #[] 3)
  have H1 := Lib.hid (h1.below hb0)
  have H2 := Lib.hid (h2.below hb0)
  clear h1 h2
  have HO := Lib.hid ((own_empty 3 (W := w)).hi_mono (hi' := (w.alloc (.cells #[] 3)).heap.size) (by simp) (Nat.le_refl _))
  have hb0' := Lib.hid hb0; clear hb0
  have hT := Lib.hid (missing_no h)
  cases g1 : combOk comb
  · clear h
    go_enter Try.func74, Try.ntmps74
    go_wp2_with fail
    refine (spec_CombOk H1.out).mono ?_
    rintro e w1 ⟨rfl, hbel⟩
    go_wp2
    go_ret
    rw [hT.out]
    exact ⟨_, _, rfl, (HO.out.below hbel (Nat.le_refl _)).hi_mono hbel.size (Nat.le_refl _), bthen hb0'.out hbel⟩
  · have g2 : tuneOk t = false := by
      cases g2 : tuneOk t
      · rfl
      · exact absurd ⟨g1, g2⟩ h
    clear h
    go_enter Try.func74, Try.ntmps74
    go_wp2_with fail
    refine (spec_CombOk H1.out).mono ?_
    rintro e w1 ⟨rfl, hbel⟩
    go_wp2_with fail
    refine (spec_TuneOk (H2.out.below hbel)).mono ?_
    rintro e w2 ⟨rfl, hb2⟩
    replace hbel := bthen hbel hb2
    go_wp2
    go_ret
    rw [hT.out]
    exact ⟨_, _, rfl, (HO.out.below hbel (Nat.le_refl _)).hi_mono hbel.size (Nat.le_refl _), bthen hb0'.out hbel⟩
set_option maxHeartbeats 1000000 in
theorem spec_MissingPitches {comb : List Int} {t : List (Int × Int)} {A B : Option Addr} {ca cb : Nat} {w : World} (h1 : RI w A comb) (h2 : RP w B t) :
    Calls Try.prog 74 #[.slice A comb.length ca, .slice B t.length cb] w fun e w' => ∃ D d, e = .returned (.slice D (missing comb t).length d) ∧ OwnI 3 w.heap.size w'.heap.size w' D d (missing comb t) ∧ Below w.heap.size w w' := by
  by_cases h : combOk comb = true ∧ tuneOk t = true
  case neg => exact spec_MissingPitches_no h1 h2 h
  have hT : Hid (missing comb t = listTo (missAt comb t) 61) := by show _ = _; unfold missing; rw [if_pos h]
  obtain ⟨g1, g2⟩ := h
  have G1 := Lib.hid g1
  have hb0 := bnew (Below.refl w.heap.size w) (.cells #[] 3)
  have H1' := Lib.hid (h1.below hb0)
  have H2' := Lib.hid (h2.below hb0)
  have H1 := Lib.hid h1; clear h1
  have H2 := Lib.hid h2; clear h2
  have l2 := H2.out.1
  have HO := Lib.hid ((own_empty 3 (W := w)).hi_mono (hi' := (w.alloc (.cells #[] 3)).heap.size) (by simp) (Nat.le_refl _))
  have hb0' := Lib.hid hb0; clear hb0
  go_enter Try.func74, Try.ntmps74
  go_wp2_with fail
  refine (spec_CombOk H1'.out).mono ?_
  rintro e w1 ⟨rfl, hbel⟩
  go_wp2_with fail
  refine (spec_TuneOk (H2'.out.below hbel)).mono ?_
  rintro e w2 ⟨rfl, hb2⟩
  replace hbel := bthen hbel hb2
  clear hb2
  have hst : Hid (OwnI 3 w.heap.size w2.heap.size w2 (some ⟨w.heap.size, 0, none⟩) 0 [] ∧ Below w.heap.size w w2) := ⟨(HO.out.below hbel (Nat.le_refl _)).hi_mono hbel.size (Nat.le_refl _), bthen hb0'.out hbel⟩
  clear hbel HO hb0' H1' H2'
  go_wp2
  go_loopw [5, 6] (fun v i wr => ∃ (k : Nat) (D : Option Addr) (d : Nat), k ≤ 61 ∧ i = .int .i64 k ∧ v = .slice D (listTo (missAt comb t) k).length d ∧ OwnI 3 w.heap.size wr.heap.size wr D d (listTo (missAt comb t) k) ∧ Below w.heap.size w wr) (fun _ i _ => 61 - (intOf i).toNat)
  case atStart => exact ⟨0, _, _, by omega, rfl, rfl, hst.out.1, hst.out.2⟩
  case round =>
    clear hst
    obtain ⟨k, D, d, hk, rfl, rfl, hown, hbel⟩ := hrel
    have hpl := length_listTo (missAt comb t) k
    by_cases hlt : k < 61
    · have hou := Lib.hid hown; clear hown
      have hbl := Lib.hid hbel; clear hbel
      obtain ⟨W2, rfl⟩ : ∃ W2, W2 = wr := ⟨_, rfl⟩
      go_wp2
      go_loopw [7, 8] (fun u j wr' => ∃ (m : Nat) (b : Bool), m ≤ t.length ∧ j = .int .i64 m ∧ u = .bool b ∧ Hid (usedTo t (k : Int) m = b) ∧ Below W2.heap.size W2 wr') (fun _ j _ => t.length - (intOf j).toNat)
      case atStart => exact ⟨0, false, Nat.zero_le _, rfl, rfl, rfl, Below.refl _ _⟩
      case round =>
        obtain ⟨m, b, hm, rfl, rfl, hus, hbi⟩ := hrel
        by_cases hml : m < t.length
        · cases b
          · obtain ⟨b1, o1, rfl, hP⟩ := H2.out.2 (by omega)
            have HP := Lib.hid hP; clear hP
            obtain ⟨x, y, e1⟩ := pair_of t m
            have c2 := HP.out.c2 (bthen hbl.out hbi) hml e1
            by_cases hy : y = (k : Int)
            · have hn := Lib.hid (usedTo_next hus e1 (decide_eq_true hy))
              have q1 : (y == (k : Int)) = true := by rw [beq_iff_eq]; exact hy
              clear hy
              go_wp2
              go_roundw
              case rel => exact ⟨m + 1, true, by omega, by go_num, rfl, hn.out, hbi⟩
              case measure => simp [intOf]; omega
            · have hn := Lib.hid (usedTo_next hus e1 (decide_eq_false hy))
              have q1 : (y == (k : Int)) = false := by rw [beq_eq_false_iff_ne]; exact hy
              clear hy
              go_wp2
              go_roundw
              case rel => exact ⟨m + 1, false, by omega, by go_num, rfl, hn.out, hbi⟩
              case measure => simp [intOf]; omega
          · have hn := Lib.hid (usedTo_had hus)
            go_wp2
            go_roundw
            case rel => exact ⟨m + 1, true, by omega, by go_num, rfl, hn.out, hbi⟩
            case measure => simp [intOf]; omega
        · obtain rfl : m = t.length := by omega
          cases b
          · have hs := Lib.hid (listTo_no (f := missAt comb t) (n := k) (by unfold missAt; rw [hus.out]; rfl))
            go_wp2
            go_roundw
            case rel => exact ⟨k + 1, D, d, by omega, by go_num, by rw [hs.out], by rw [hs.out]; exact (hou.out.below hbi hou.out.le).hi_mono hbi.size (Nat.le_refl _), bthen hbl.out hbi⟩
            case measure => simp [intOf]; omega
          · cases hh : hasP comb (k : Int)
            · have hs := Lib.hid (listTo_yes (f := missAt comb t) (n := k) (by unfold missAt; rw [hus.out, hh]; rfl))
              have q := teeth_none G1.out hh
              rw [Bool.not_false] at q
              clear hh
              go_wp2_with fail
              refine (spec_TeethOf (H1.out.below (bthen hbl.out hbi))).mono ?_
              rintro e w3 ⟨E, f, rfl, -, hb3⟩
              have hbx := hbi.trans (hb3.mono hbi.size)
              have hown := (hou.out.below hbx hou.out.le).hi_mono hbx.size (Nat.le_refl _)
              have hbel := bthen hbl.out hbx
              clear hb3 hbx
              go_wp2_with (at_builtin; refine wpList_app_int (.tmp 47) (.tmp 49) 41 3 rfl rfl Try.underlying41 int_info rfl rfl rfl hown hbel.size (by omega) ?_; intro B' d' w4 hown2 hb4)
              go_roundw
              case rel => exact ⟨k + 1, B', d', by omega, by go_num, by rw [hs.out, List.length_append]; rfl, by rw [hs.out]; exact hown2, hbel.trans hb4⟩
              case measure => simp [intOf]; omega
            · have hs := Lib.hid (listTo_no (f := missAt comb t) (n := k) (by unfold missAt; rw [hus.out, hh]; rfl))
              have q := teeth_none G1.out hh
              rw [Bool.not_true] at q
              clear hh
              go_wp2_with fail
              refine (spec_TeethOf (H1.out.below (bthen hbl.out hbi))).mono ?_
              rintro e w3 ⟨E, f, rfl, -, hb3⟩
              have hbx := hbi.trans (hb3.mono hbi.size)
              go_wp2
              go_roundw
              case rel => exact ⟨k + 1, D, d, by omega, by go_num, by rw [hs.out], by rw [hs.out]; exact (hou.out.below hbx hou.out.le).hi_mono hbx.size (Nat.le_refl _), bthen hbl.out hbx⟩
              case measure => simp [intOf]; omega
    · obtain rfl : k = 61 := by omega
      go_wp2
      go_ret
      rw [hT.out]
      exact ⟨_, _, rfl, hown, hbel⟩
theorem impl_holds {l : List Int} {x : Int} {A : Option Addr} {c : Nat} {w : World} (h : RI w A l) :
    Calls Try.prog 96 #[.slice A l.length c, .int .i64 x] w fun e w' => e = .returned (.bool (hasP l x)) ∧ Below w.heap.size w w' := by
  obtain ⟨hn, hA⟩ := h
  have HA := Lib.hid hA; clear hA
  go_enter Try.func96, Try.ntmps96
  go_wp2
  go_loopw [9] (fun i wr => ∃ k : Nat, k ≤ l.length ∧ i = .int .i64 k ∧ Hid (placesTo l x k = []) ∧ Below w.heap.size w wr) (fun i _ => l.length - (intOf i).toNat)
  case atStart => exact ⟨0, Nat.zero_le _, rfl, rfl, Below.refl _ _⟩
  case round =>
    obtain ⟨k, hk, rfl, hno, hbel⟩ := hrel
    by_cases hlt : k < l.length
    · obtain ⟨b, off, rfl, hP⟩ := HA.out (by omega)
      have HP := Lib.hid hP; clear hP
      obtain ⟨t, e1⟩ := int_of l k
      have c1 := HP.out.c1 hbel hlt e1
      by_cases ht : t = x
      · have hn := Lib.hid (hasP_yes hlt e1 ht)
        have q : (t == x) = true := by rw [beq_iff_eq]; exact ht
        clear ht
        go_wp2
        go_ret
        exact ⟨ret_bool hn.out.symm, hbel⟩
      · have hn := Lib.hid (placesTo_none hno e1 ht)
        have q : (t == x) = false := by rw [beq_eq_false_iff_ne]; exact ht
        clear ht
        go_wp2
        go_roundw
        case rel => exact ⟨k + 1, by omega, by go_num, hn.out, hbel⟩
        case measure => simp [intOf]; omega
    · obtain rfl : k = l.length := by omega
      have hn := Lib.hid (hasP_no hno)
      go_wp2
      go_ret
      exact ⟨ret_bool hn.out.symm, hbel⟩
/-- A slice of tunes. -/
def TunesAt (w : World) (b off : Nat) (ts : List (List (Int × Int))) : Prop := ∀ j, j < ts.length → ∃ (B : Option Addr) (c : Nat), w.cell? ⟨b, off + j, none⟩ = some (.slice B (ts.getD j []).length c) ∧ RP w B (ts.getD j [])
def RT (w : World) (A : Option Addr) (ts : List (List (Int × Int))) : Prop := ts.length ≤ 1048576 ∧ (0 < ts.length → ∃ b off, A = some ⟨b, off, none⟩ ∧ TunesAt w b off ts)
theorem TunesAt.below {w w' : World} {b off : Nat} {ts : List (List (Int × Int))} (h : TunesAt w b off ts) (hb : Below w.heap.size w w') : TunesAt w' b off ts := fun j hj => by
  obtain ⟨B, c, h1, h2⟩ := h j hj
  exact ⟨B, c, (hb.cell (World.block_lt_of_cell? w _ h1)).trans h1, h2.below hb⟩
theorem RT.below {w w' : World} {A : Option Addr} {ts : List (List (Int × Int))} (h : RT w A ts) (hb : Below w.heap.size w w') : RT w' A ts :=
  ⟨h.1, fun hl => by obtain ⟨b, off, h1, h2⟩ := h.2 hl; exact ⟨b, off, h1, h2.below hb⟩⟩
theorem usedAll_next {ts : List (List (Int × Int))} {p : Int} {k : Nat} {b : Bool} {u : List (Int × Int)} (h : Hid (usedAll ts p k = false)) (e : Hid (ts.getD k [] = u)) (hb : usedTo u p u.length = b) : Hid (usedAll ts p (k + 1) = b) := by
  show _ = _; simp only [usedAll, h.out, e.out, Bool.false_or, hb]
theorem usedAll_had {ts : List (List (Int × Int))} {p : Int} {k : Nat} (h : Hid (usedAll ts p k = true)) : Hid (usedAll ts p (k + 1) = true) := by
  show _ = _; simp only [usedAll, h.out, Bool.true_or]
set_option maxHeartbeats 1000000 in
theorem impl_pitchesOf {ts : List (List (Int × Int))} {A : Option Addr} {ca : Nat} {w : World} (h1 : RT w A ts) :
    Calls Try.prog 95 #[.slice A ts.length ca] w fun e w' => ∃ D d, e = .returned (.slice D (listTo (fun p => usedAll ts p ts.length) 61).length d) ∧ OwnI 3 w.heap.size w'.heap.size w' D d (listTo (fun p => usedAll ts p ts.length) 61) ∧ Below w.heap.size w w' := by
  have H1 := Lib.hid h1; clear h1
  have l1 := H1.out.1
  obtain ⟨F, hF⟩ : ∃ F : Int → Bool, Hid (F = fun p => usedAll ts p ts.length) := ⟨_, rfl⟩
  rw [← hF.out]
  go_enter Try.func95, Try.ntmps95
  go_wp2
  go_loopw [3, 4] (fun v i wr => ∃ (k : Nat) (D : Option Addr) (d : Nat), k ≤ 61 ∧ i = .int .i64 k ∧ v = .slice D (listTo F k).length d ∧ OwnI 3 w.heap.size wr.heap.size wr D d (listTo F k) ∧ Below w.heap.size w wr) (fun _ i _ => 61 - (intOf i).toNat)
  case atStart => exact ⟨0, _, _, by omega, rfl, rfl, (own_empty 3).hi_mono (by simp) (Nat.le_refl _), bnew (Below.refl _ _) _⟩
  case round =>
    obtain ⟨k, D, d, hk, rfl, rfl, hown, hbel⟩ := hrel
    have hpl := length_listTo F k
    by_cases hlt : k < 61
    · have hou := Lib.hid hown; clear hown
      have hbl := Lib.hid hbel; clear hbel
      obtain ⟨W2, rfl⟩ : ∃ W2, W2 = wr := ⟨_, rfl⟩
      go_wp2
      go_loopw [5, 17] (fun u j wr' => ∃ (m : Nat) (b : Bool), m ≤ ts.length ∧ j = .int .i64 m ∧ u = .bool b ∧ Hid (usedAll ts (k : Int) m = b) ∧ Below W2.heap.size W2 wr') (fun _ j _ => ts.length - (intOf j).toNat)
      case atStart => exact ⟨0, false, Nat.zero_le _, rfl, rfl, rfl, Below.refl _ _⟩
      case round =>
        obtain ⟨m, b, hm, rfl, rfl, hus, hbi⟩ := hrel
        by_cases hml : m < ts.length
        · obtain ⟨b1, o1, rfl, hP⟩ := H1.out.2 (by omega)
          obtain ⟨B, c, hc, hR⟩ := hP m hml
          obtain ⟨u, hu⟩ : ∃ u, Hid (ts.getD m [] = u) := ⟨_, rfl⟩
          rw [hu.out] at hc hR
          have c1 := cell_later hc (bthen hbl.out hbi)
          have R := Lib.hid (hR.below (bthen hbl.out hbi))
          have lu := R.out.1
          clear hc hR hP
          have hbx := Lib.hid hbi; clear hbi
          obtain ⟨W3, rfl⟩ : ∃ W3, W3 = wr := ⟨_, rfl⟩
          go_wp2
          go_loopw [5, 23] (fun v j wr' => ∃ (n : Nat) (b' : Bool), n ≤ u.length ∧ j = .int .i64 n ∧ v = .bool b' ∧ Hid ((b || usedTo u (k : Int) n) = b') ∧ Below W3.heap.size W3 wr') (fun _ j _ => u.length - (intOf j).toNat)
          case atStart => exact ⟨0, b, Nat.zero_le _, rfl, rfl, (by show _ = _; simp [usedTo]), Below.refl _ _⟩
          case round =>
            obtain ⟨n, b', hn, rfl, rfl, hus2, hbj⟩ := hrel
            by_cases hnl : n < u.length
            · obtain ⟨b2, o2, rfl, hP⟩ := R.out.2 (by omega)
              have HP := Lib.hid hP; clear hP
              obtain ⟨x, y, e1⟩ := pair_of u n
              have c2 := HP.out.c1 hbj hnl e1
              have c3 := HP.out.c2 hbj hnl e1
              have hbk := Lib.hid hbj; clear hbj
              cases b'
              · have hf := Bool.or_eq_false_iff.1 hus2.out
                by_cases hy : y = (k : Int)
                · have hq := Lib.hid (usedTo_next (p := (k : Int)) (Lib.hid hf.2) e1 (decide_eq_true hy))
                  have q1 : (y == (k : Int)) = true := by rw [beq_iff_eq]; exact hy
                  clear hy hf
                  go_wp2
                  go_roundw
                  case rel => exact ⟨n + 1, true, by omega, by go_num, rfl, (by show _ = _; rw [hq.out.out, Bool.or_true]), bnew hbk.out _⟩
                  case measure => simp [intOf]; omega
                · have hq := Lib.hid (usedTo_next (p := (k : Int)) (Lib.hid hf.2) e1 (decide_eq_false hy))
                  have hb := Lib.hid hf.1
                  have q1 : (y == (k : Int)) = false := by rw [beq_eq_false_iff_ne]; exact hy
                  clear hy hf
                  go_wp2
                  go_roundw
                  case rel => exact ⟨n + 1, false, by omega, by go_num, rfl, (by show _ = _; rw [hq.out.out, hb.out]; rfl), bnew hbk.out _⟩
                  case measure => simp [intOf]; omega
              · go_wp2
                go_roundw
                case rel => exact ⟨n + 1, true, by omega, by go_num, rfl, (by show _ = _; have := hus2.out; simp only [usedTo]; rw [← Bool.or_assoc, this, Bool.true_or]), bnew hbk.out _⟩
                case measure => simp [intOf]; omega
            · obtain rfl : n = u.length := by omega
              have hn : Hid (usedAll ts (k : Int) (m + 1) = b') := by
                show _ = _
                simp only [usedAll, hus.out, hu.out]; exact hus2.out
              go_wp2
              go_roundw
              case rel => exact ⟨m + 1, b', by omega, by go_num, rfl, hn, hbx.out.trans (hbj.mono hbx.out.size)⟩
              case measure => simp [intOf]; omega
        · obtain rfl : m = ts.length := by omega
          cases b
          · have hs := Lib.hid (listTo_no (f := F) (n := k) (by rw [hF.out]; exact hus.out))
            go_wp2
            go_roundw
            case rel => exact ⟨k + 1, D, d, by omega, by go_num, by rw [hs.out], by rw [hs.out]; exact (hou.out.below hbi hou.out.le).hi_mono hbi.size (Nat.le_refl _), bthen hbl.out hbi⟩
            case measure => simp [intOf]; omega
          · have hs := Lib.hid (listTo_yes (f := F) (n := k) (by rw [hF.out]; exact hus.out))
            have hown := (hou.out.below hbi hou.out.le).hi_mono hbi.size (Nat.le_refl _)
            have hbel := bthen hbl.out hbi
            clear hbi
            go_wp2_with (at_builtin; refine wpList_app_int (.tmp 37) (.tmp 39) 41 3 rfl rfl Try.underlying41 int_info rfl rfl rfl hown hbel.size (by omega) ?_; intro B' d' w4 hown2 hb4)
            go_roundw
            case rel => exact ⟨k + 1, B', d', by omega, by go_num, by rw [hs.out, List.length_append]; rfl, by rw [hs.out]; exact hown2, hbel.trans hb4⟩
            case measure => simp [intOf]; omega
    · obtain rfl : k = 61 := by omega
      go_wp2
      go_ret
      exact ⟨_, _, rfl, hown, hbel⟩
end Go.Proofs.Ytkipgjllgmjipaa
