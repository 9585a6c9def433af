/- AssignTeeth and LongestRest: what they answer, and that the program's and the reference's functions answer it. -/
import Derived.Test.YtakllloangpimaaTuneR
import Derived.Test.YtakllloangpimaaComb
import Derived.Test.YtakllloangpimaaBase2
namespace Go.Proofs.Ytakllloangpimaa
open Go.RowKit

/-! ## Plain notions -/
/-- The tooth i has the note's pitch and has rested. -/
def okTooth (comb last : List Int) (p : Int × Int) (rest : Int) (i : Nat) : Bool := decide (comb.getD i 0 = p.2 ∧ rest ≤ p.1 - last.getD i 0)
def stepA (comb : List Int) (rest : Int) (s : Option (List Int × List Int)) (p : Int × Int) : Option (List Int × List Int) :=
  s.bind fun lo => ((List.range comb.length).find? (okTooth comb lo.1 p rest)).map fun i => (lo.1.set i p.1, lo.2 ++ [(i : Int)])
/-- The last times of the teeth, and the teeth, of the first k notes. -/
def runA (comb : List Int) (t : List (Int × Int)) (rest : Int) : Nat → Option (List Int × List Int)
  | 0 => some (List.replicate comb.length (-1000), [])
  | k + 1 => stepA comb rest (runA comb t rest k) (t.getD k (0, 0))
def assignR (comb : List Int) (t : List (Int × Int)) (rest : Int) : Option (List Int × List Int) :=
  if combOk comb = true ∧ tuneOk t = true ∧ inR rest 1 100 = true then runA comb t rest t.length else none
def assignL (comb : List Int) (t : List (Int × Int)) (rest : Int) : List Int := ((assignR comb t rest).map (·.2)).getD []
def assignOk (comb : List Int) (t : List (Int × Int)) (rest : Int) : Bool := (assignR comb t rest).isSome
section
variable {comb : List Int} {t : List (Int × Int)} {rest : Int}
theorem runA_none {k : Nat} (h : runA comb t rest k = none) : ∀ n, k ≤ n → runA comb t rest n = none := by
  intro n hn
  induction n with
  | zero => obtain rfl : k = 0 := by omega
            exact h
  | succ n ih =>
    rcases Nat.lt_or_ge k (n + 1) with hlt | hge
    · simp only [runA, stepA, ih (by omega)]; rfl
    · obtain rfl : k = n + 1 := by omega
      exact h
theorem find_some {p : Nat → Bool} {n i : Nat} (hi : i < n) (h : p i = true) (h2 : ∀ j, j < i → p j = false) : (List.range n).find? p = some i := by
  rw [List.find?_range_eq_some]
  exact ⟨h, List.mem_range.2 hi, fun j hj => by simp [h2 j hj]⟩
theorem find_none {p : Nat → Bool} {n : Nat} (h2 : ∀ j, j < n → p j = false) : (List.range n).find? p = none := by
  rw [List.find?_range_eq_none]
  exact fun j hj => by simp [h2 j hj]
theorem runA_yes {k i : Nat} {last out : List Int} {a b : Int} (h : runA comb t rest k = some (last, out)) (e : Hid (t.getD k (0, 0) = (a, b))) (hi : i < comb.length) (h1 : okTooth comb last (a, b) rest i = true)
    (h2 : ∀ j, j < i → okTooth comb last (a, b) rest j = false) : runA comb t rest (k + 1) = some (last.set i a, out ++ [(i : Int)]) := by
  simp only [runA, stepA, h, e.out, Option.bind_some, find_some hi h1 h2, Option.map_some]
theorem runA_no {k : Nat} {last out : List Int} {a b : Int} (h : runA comb t rest k = some (last, out)) (e : Hid (t.getD k (0, 0) = (a, b)))
    (h2 : ∀ j, j < comb.length → okTooth comb last (a, b) rest j = false) : runA comb t rest (k + 1) = none := by
  simp only [runA, stepA, h, e.out, Option.bind_some, find_none h2, Option.map_none]
theorem assign_head (h : ¬ (combOk comb = true ∧ tuneOk t = true ∧ inR rest 1 100 = true)) : assignL comb t rest = [] ∧ assignOk comb t rest = false := by
  unfold assignL assignOk assignR; rw [if_neg h]; exact ⟨rfl, rfl⟩
theorem assign_no (h : combOk comb = true ∧ tuneOk t = true ∧ inR rest 1 100 = true) {k : Nat} (hk : k ≤ t.length) (hr : runA comb t rest k = none) : assignL comb t rest = [] ∧ assignOk comb t rest = false := by
  unfold assignL assignOk assignR; rw [if_pos h, runA_none hr _ hk]; exact ⟨rfl, rfl⟩
theorem assign_yes (h : combOk comb = true ∧ tuneOk t = true ∧ inR rest 1 100 = true) {last out : List Int} (hr : runA comb t rest t.length = some (last, out)) : assignL comb t rest = out ∧ assignOk comb t rest = true := by
  unfold assignL assignOk assignR; rw [if_pos h, hr]; exact ⟨rfl, rfl⟩
/-- What is true of the state behind k notes. -/
structure GoodA (comb : List Int) (k : Nat) (last out : List Int) : Prop where
  len : last.length = comb.length
  out : out.length = k
  times : ∀ i, i < last.length → last.getD i 0 = -1000 ∨ 0 ≤ last.getD i 0 ∧ last.getD i 0 ≤ 1000
theorem goodA_start : GoodA comb 0 (List.replicate comb.length (-1000)) [] := ⟨by simp, rfl, fun i hi => .inl (by simp at hi; simp [hi])⟩
theorem getD_set {l : List Int} {i j : Nat} {x : Int} (hj : j < l.length) : (l.set i x).getD j 0 = if i = j then x else l.getD j 0 := by
  rw [List.getD_eq_getElem?_getD, List.getElem?_set, List.getD_eq_getElem?_getD]
  by_cases h : i = j
  · subst h; simp [hj]
  · simp [h]
theorem goodA_next {k i : Nat} {last out : List Int} {a : Int} (h : GoodA comb k last out) (ha : 0 ≤ a ∧ a ≤ 1000) : GoodA comb (k + 1) (last.set i a) (out ++ [(i : Int)]) :=
  ⟨by rw [List.length_set, h.len], by simp [h.out], fun j hj => by
    rw [List.length_set] at hj
    rw [getD_set hj]
    split
    · exact .inr ha
    · exact h.times j hj⟩
/-- From when on each tooth is free again. -/
def freeOf (rest : Int) (last : List Int) : List Int := last.map fun x => if x < 0 then 0 else x + rest
theorem freeOf_at {last : List Int} {i : Nat} (hi : i < last.length) : (freeOf rest last).getD i 0 = if last.getD i 0 < 0 then 0 else last.getD i 0 + rest := by
  rw [List.getD_eq_getElem?_getD, freeOf, List.getElem?_map, List.getD_eq_getElem?_getD, List.getElem?_eq_getElem hi]; rfl
theorem freeOf_start : freeOf rest (List.replicate comb.length (-1000)) = List.replicate comb.length 0 := by simp [freeOf]
theorem freeOf_set {last : List Int} {i : Nat} {a : Int} (ha : 0 ≤ a) : freeOf rest (last.set i a) = (freeOf rest last).set i (a + rest) := by
  unfold freeOf; rw [List.map_set, if_neg (by omega)]
theorem okTooth_free {last : List Int} {i k : Nat} {out : List Int} {a b x f : Int} (h : GoodA comb k last out) (hi : i < comb.length) (e : Hid (comb.getD i 0 = x)) (e2 : Hid ((freeOf rest last).getD i 0 = f)) (ha : 0 ≤ a) (h1 : 1 ≤ rest) (h2 : rest ≤ 100) :
    okTooth comb last (a, b) rest i = decide (x = b ∧ f ≤ a) := by
  have hi' : i < last.length := by rw [h.len]; exact hi
  have hf := e2.out
  rw [freeOf_at hi'] at hf
  unfold okTooth
  rw [e.out]
  rcases h.times i hi' with ht | ht
  · rw [ht] at hf ⊢
    rw [if_pos (by omega)] at hf
    rw [Bool.eq_iff_iff]; simp only [decide_eq_true_eq]; omega
  · rw [if_neg (by omega)] at hf
    rw [Bool.eq_iff_iff]; simp only [decide_eq_true_eq]; omega
theorem okTooth_last {last : List Int} {i : Nat} {a b x f : Int} (e : Hid (comb.getD i 0 = x)) (e2 : Hid (last.getD i 0 = f)) : okTooth comb last (a, b) rest i = decide (x = b ∧ rest ≤ a - f) := by
  unfold okTooth; rw [e.out, e2.out]
end
theorem allF_next {k : Nat} {p : Nat → Bool} (h : Hid (∀ j, j < k → p j = false)) (hk : p k = false) : Hid (∀ j, j < k + 1 → p j = false) := fun j hj => by
  rcases Nat.lt_or_ge j k with hlt | hge
  · exact h.out j hlt
  · have : j = k := by omega
    subst this; exact hk
theorem ret_lb {A : Option Addr} {n m c : Nat} {x y : Bool} (h : n = m) (h2 : x = y) : Ending.returned (.tuple #[.slice A n c, .bool x]) = .returned (.tuple #[.slice A m c, .bool y]) := by rw [h, h2]
/-- A block that is not the slice's own is kept. -/
theorem OwnI.off {e : TypeId} {lo hi : Nat} {w w' : World} {A : Option Addr} {c : Nat} {l : List Int} (h : OwnI e lo hi w A c l) (hb : ∀ a, A = some a → w'.heap[a.block]? = w.heap[a.block]?) (hs : w.heap.size ≤ w'.heap.size) : OwnI e lo hi w' A c l :=
  ⟨ownsRow_same h.row fun g hg => by
    cases A with
    | none => simp [Value.ownBlock] at hg
    | some a =>
      simp only [Value.ownBlock, Option.some.injEq] at hg
      subst hg
      exact hb a rfl, h.top, Nat.le_trans h.le hs, h.small⟩

/-! ## The walks -/
theorem impl_AssignTeeth_no {comb : List Int} {t : List (Int × Int)} {rest : Int} {A B : Option Addr} {ca cb : Nat} {w : World} (h1 : RI w A comb) (h2 : RP w B t)
    (h : ¬ (combOk comb = true ∧ tuneOk t = true ∧ inR rest 1 100 = true)) :
    Calls Try.prog 23 #[.slice A comb.length ca, .slice B t.length cb, .int .i64 rest] w fun e w' => ∃ D d, e = .returned (.tuple #[.slice D (assignL comb t rest).length d, .bool (assignOk comb t rest)]) ∧ OwnI 3 w.heap.size w'.heap.size w' D d (assignL comb t rest) ∧ Below w.heap.size w w' := by
  have H1 := Lib.hid h1; clear h1
  have H2 := Lib.hid h2; clear h2
  have hn := H2.out.1
  have hT := Lib.hid (assign_head h)
  cases g1 : combOk comb
  · clear h
    go_enter Try.func23, Try.ntmps23
    go_wp2_with (go_at_call 41; refine (impl_CombOk H1.out).mono ?_; rintro e w1 ⟨rfl, hbel⟩)
    go_ret2
    rw [hT.out.1, hT.out.2]
    exact ⟨none, 0, rfl, OwnI.nil _ _ (Nat.le_refl _), hbel⟩
  cases g2 : tuneOk t
  · clear h
    go_enter Try.func23, Try.ntmps23
    go_wp2_with fail
    refine (impl_CombOk H1.out).mono ?_
    rintro e w1 ⟨rfl, hbel⟩
    go_wp2_with fail
    refine (impl_TuneOk (H2.out.below hbel)).mono ?_
    rintro e w2 ⟨rfl, hb2⟩
    replace hbel := bthen hbel hb2
    go_wp2
    go_ret2
    rw [hT.out.1, hT.out.2]
    exact ⟨none, 0, rfl, OwnI.nil _ _ (Nat.le_refl _), hbel⟩
  · have g3 : inR rest 1 100 = false := by
      cases g3 : inR rest 1 100
      · rfl
      · exact absurd ⟨g1, g2, g3⟩ h
    clear h
    go_enter Try.func23, Try.ntmps23
    go_wp2_with fail
    refine (impl_CombOk H1.out).mono ?_
    rintro e w1 ⟨rfl, hbel⟩
    go_wp2_with fail
    refine (impl_TuneOk (H2.out.below hbel)).mono ?_
    rintro e w2 ⟨rfl, hb2⟩
    replace hbel := bthen hbel hb2
    go_wp2_with (go_at_call 54; refine (impl_within).mono ?_; rintro e w' ⟨rfl, rfl⟩)
    go_ret2
    rw [hT.out.1, hT.out.2]
    exact ⟨none, 0, rfl, OwnI.nil _ _ (Nat.le_refl _), hbel⟩
set_option maxHeartbeats 1000000 in
theorem impl_AssignTeeth {comb : List Int} {t : List (Int × Int)} {rest : Int} {A B : Option Addr} {ca cb : Nat} {w : World} (h1 : RI w A comb) (h2 : RP w B t) :
    Calls Try.prog 23 #[.slice A comb.length ca, .slice B t.length cb, .int .i64 rest] w fun e w' => ∃ D d, e = .returned (.tuple #[.slice D (assignL comb t rest).length d, .bool (assignOk comb t rest)]) ∧ OwnI 3 w.heap.size w'.heap.size w' D d (assignL comb t rest) ∧ Below w.heap.size w w' := by
  by_cases h : combOk comb = true ∧ tuneOk t = true ∧ inR rest 1 100 = true
  case neg => exact impl_AssignTeeth_no h1 h2 h
  have hh := Lib.hid h
  obtain ⟨g1, g2, g3⟩ := h
  have H1 := Lib.hid h1; clear h1
  have H2 := Lib.hid h2; clear h2
  have l1 := H1.out.1
  have l2 := H2.out.1
  obtain ⟨r1, r2⟩ := inR_true g3
  have hmk := run_makeN (P := Try.prog) 33 3 _ 1 8 Try.underlying33 int_info comb.length (by omega) l1
  go_enter Try.func23, Try.ntmps23
  go_wp2_with fail
  refine (impl_CombOk H1.out).mono ?_
  rintro e w1 ⟨rfl, hbel⟩
  go_wp2_with fail
  refine (impl_TuneOk (H2.out.below hbel)).mono ?_
  rintro e w2 ⟨rfl, hb2⟩
  replace hbel := bthen hbel hb2
  clear hb2
  go_wp2_with (go_at_call 54; refine (impl_within).mono ?_; rintro e w' ⟨rfl, rfl⟩)
  clear hmk
  obtain ⟨F, hF⟩ : ∃ F, w2.heap.size = F := ⟨_, rfl⟩
  have hst : Hid (OwnI 3 F (F + 1) ((w2.alloc (Obj.cells (madeCells #[Value.int IntKind.i64 0] comb.length) 3)).alloc (Obj.cells #[] 3)) (some ⟨F, 0, none⟩) comb.length (freeOf rest (List.replicate comb.length (-1000))) ∧
      OwnI 3 (F + 1) ((w2.alloc (Obj.cells (madeCells #[Value.int IntKind.i64 0] comb.length) 3)).alloc (Obj.cells #[] 3)).heap.size ((w2.alloc (Obj.cells (madeCells #[Value.int IntKind.i64 0] comb.length) 3)).alloc (Obj.cells #[] 3)) (some ⟨F + 1, 0, none⟩) 0 [] ∧
      Below w.heap.size w ((w2.alloc (Obj.cells (madeCells #[Value.int IntKind.i64 0] comb.length) 3)).alloc (Obj.cells #[] 3))) := by
    subst hF
    refine ⟨by rw [freeOf_start]; exact (own_madeI 3 l1).new _, (own_emptyAt 3 (by simp)).hi_mono (by simp) (Nat.le_refl _), bnew (bnew hbel _) _⟩
  have hwF : w.heap.size ≤ F := by rw [← hF]; exact hbel.size
  rw [hF]
  clear hF hbel
  go_loopw [9, 32] (fun v i wr => ∃ (k : Nat) (last out : List Int) (D : Option Addr) (d : Nat), k ≤ t.length ∧ i = .int .i64 k ∧ v = .slice D out.length d ∧ Hid (runA comb t rest k = some (last, out)) ∧ GoodA comb k last out ∧
      OwnI 3 F (F + 1) wr (some ⟨F, 0, none⟩) comb.length (freeOf rest last) ∧ OwnI 3 (F + 1) wr.heap.size wr D d out ∧ Below w.heap.size w wr) (fun _ i _ => t.length - (intOf i).toNat)
  case atStart => exact ⟨0, _, [], _, _, Nat.zero_le _, rfl, rfl, rfl, goodA_start, hst.out.1, hst.out.2.1, hst.out.2.2⟩
  case round =>
    clear hst
    obtain ⟨k, last, out, D, d, hk, rfl, rfl, hrun, hgood, hfree, hout, hbel⟩ := hrel
    have hlen := hgood.out
    by_cases hlt : k < t.length
    · obtain ⟨b2, o2, rfl, hP⟩ := H2.out.2 (by omega)
      have HP2 := Lib.hid hP; clear hP
      obtain ⟨a, b, e2⟩ := pair_of t k
      obtain ⟨⟨p1, p2⟩, p3, p4⟩ := tuneOk_range g2 hlt e2
      have c1 := HP2.out.c1 hbel hlt e2
      have c2 := HP2.out.c2 hbel hlt e2
      have hg' := Lib.hid hgood; clear hgood
      have hln := Lib.hid hlen; clear hlen
      go_wp2
      clear c1 c2
      generalize hW : World.alloc wr _ = W2
      obtain ⟨hb2, hz2, n1, n2⟩ := new2c hW
      clear hW
      replace hfree := hfree.below hb2 hfree.le
      replace hout := (hout.below hb2 hout.le).hi_mono hb2.size (Nat.le_refl _)
      replace hbel := bthen hbel hb2
      have hz := Lib.hid hz2
      clear hb2 hz2
      have N1 := Lib.hid n1; clear n1
      have N2 := Lib.hid n2; clear n2
      have hfr := Lib.hid hfree; clear hfree
      have hou := Lib.hid hout; clear hout
      have hbl := Lib.hid hbel; clear hbel
      go_loopw [12] (fun j wr' => ∃ m : Nat, m ≤ comb.length ∧ j = .int .i64 m ∧ Hid (∀ j, j < m → okTooth comb last (a, b) rest j = false) ∧ Below W2.heap.size W2 wr') (fun j _ => comb.length - (intOf j).toNat)
      case atStart => exact ⟨0, Nat.zero_le _, rfl, fun j hj => absurd hj (by omega), Below.refl _ _⟩
      case round =>
        obtain ⟨m, hm, rfl, hno, hbi⟩ := hrel
        have n1 := cell_after N1.out hbi
        have n2 := cell_after N2.out hbi
        by_cases hml : m < comb.length
        · obtain ⟨b1, o1, rfl, hP⟩ := H1.out.2 (by omega)
          have HP1 := Lib.hid hP; clear hP
          have hfl := Lib.hid (show m < (freeOf rest last).length by rw [freeOf, List.length_map, hg'.out.len]; exact hml)
          obtain ⟨x, e1⟩ := int_of comb m
          obtain ⟨f, ef⟩ := int_of (freeOf rest last) m
          have hokm := Lib.hid (okTooth_free (b := b) hg'.out hml e1 ef p1 r1 r2)
          have hfn := Lib.hid (hfr.out.below hbi hfr.out.le)
          have c3 := HP1.out.a1 (bthen hbl.out hbi) hml e1
          have c4 := hfn.out.all hfl.out ef
          have mz : (m : Int) < (comb.length : Int) := by omega
          by_cases m1 : x = b
          · have q1 : (x != b) = false := by rw [bne_eq_false_iff_eq]; exact m1
            have m1' := Lib.hid m1; clear m1
            by_cases m2 : a < f
            · go_wp2_with fail
              refine wp_region_after (by kernel_rfl) (by kernel_rfl) ?_
              repeat (go_big_quiet_step (fail))
              refine wpQuiet_nil ?_
              rintro wq ⟨⟨_, hq⟩, rfl⟩
              replace hbi := hbi.trans (hq.mono hbi.size)
              clear hq
              go_wp2
              go_roundw
              case rel => exact ⟨m + 1, by omega, by go_num, allF_next hno (by rw [hokm.out]; exact decide_eq_false (by omega)), hbi⟩
              case measure => simp [intOf]; omega
            · have q2 : decide (a < f) = false := decide_eq_false m2
              have hyes := Lib.hid (runA_yes hrun.out e2 hml (by rw [hokm.out]; exact decide_eq_true ⟨m1'.out, by omega⟩) hno.out)
              go_wp2_with fail
              refine wp_region_after (by kernel_rfl) (by kernel_rfl) ?_
              repeat (go_big_quiet_step (fail))
              refine wpQuiet_nil ?_
              rintro wq ⟨⟨_, hq⟩, rfl⟩
              replace hbi := hbi.trans (hq.mono hbi.size)
              clear hq c3 c4 n1 n2 hfn
              have n1 := cell_later N1.out hbi
              have hfn := Lib.hid (hfr.out.below hbi hfr.out.le)
              obtain ⟨s1, s2⟩ := hfn.out.slot hfl.out
              have hon := Lib.hid (((hou.out.below hbi hou.out.le).hi_mono hbi.size (Nat.le_refl _)).kept ((Kept.refl F (F + 1) wq).setCell (p := ⟨F, m, none⟩) (Nat.le_refl _) (Nat.lt_succ_self F) (.int .i64 (a + rest))) (.inr (Nat.le_refl _)))
              have hfs := Lib.hid (hfn.out.stored m (a + rest))
              have hbw := Lib.hid ((bthen hbl.out hbi).setCell (p := ⟨F, m, none⟩) hwF (.int .i64 (a + rest)))
              have hln' := hln.out
              have hFz : F + 1 ≤ wq.heap.size := hfn.out.le
              go_wp2_with (at_builtin; refine wpList_app_int (.tmp 71) (.tmp 73) 33 3 rfl rfl Try.underlying33 int_info rfl rfl (by simp [World.setCell]) hon.out (by simpa [World.setCell] using hFz) (by omega) ?_; intro B' d' w3 hown3 hb3)
              go_roundw
              case rel =>
                refine ⟨k + 1, _, _, B', d', by omega, by go_num, by rw [List.length_append, hln.out]; rfl, hyes, goodA_next hg'.out ⟨p1, p2⟩, ?_, hown3, hbw.out.trans (hb3.mono (by omega))⟩
                rw [freeOf_set p1]
                exact hfs.out.below hb3 (Nat.le_refl _)
              case measure => simp [intOf]; omega
          · have q1 : (x != b) = true := by rw [bne_iff_ne]; exact m1
            go_wp2_with fail
            refine wp_region_after (by kernel_rfl) (by kernel_rfl) ?_
            repeat (go_big_quiet_step (fail))
            refine wpQuiet_nil ?_
            rintro wq ⟨⟨_, hq⟩, rfl⟩
            replace hbi := hbi.trans (hq.mono hbi.size)
            clear hq
            go_wp2
            go_roundw
            case rel => exact ⟨m + 1, by omega, by go_num, allF_next hno (by rw [hokm.out]; exact decide_eq_false (fun hh => m1 hh.1)), hbi⟩
            case measure => simp [intOf]; omega
        · obtain rfl : m = comb.length := by omega
          have hnone := Lib.hid (assign_no (t := t) hh.out (k := k + 1) (by omega) (runA_no hrun.out e2 hno.out))
          have hbx := Lib.hid (bthen hbl.out hbi)
          go_wp2_with fail
          refine wp_region_after (by kernel_rfl) (by kernel_rfl) ?_
          repeat (go_big_quiet_step (fail))
          refine wpQuiet_nil ?_
          rintro wq ⟨⟨_, hq⟩, rfl⟩
          go_wp2
          go_ret2
          rw [hnone.out.1, hnone.out.2]
          exact ⟨none, 0, rfl, OwnI.nil _ _ (Nat.le_refl _), bthen hbx.out hq⟩
    · obtain rfl : k = t.length := by omega
      have hyes := Lib.hid (assign_yes hh.out hrun.out)
      go_wp2
      go_ret2
      rw [hyes.out.1, hyes.out.2]
      exact ⟨_, _, rfl, hout.lo_mono (by omega), hbel⟩
end Go.Proofs.Ytakllloangpimaa
