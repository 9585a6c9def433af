/- MissingPitches of the program, and CanPlay: that the program's and the reference's functions answer the same. -/
import Derived.Test.YtkipgjllgmjipaaMissing
namespace Go.Proofs.Ytkipgjllgmjipaa
open Go.RowKit

def canPlay (comb : List Int) (t : List (Int × Int)) : Bool := combOk comb && (tuneOk t && (missing comb t).isEmpty)
theorem missing_yes {comb : List Int} {t : List (Int × Int)} {L : List Int} (h : combOk comb = true ∧ tuneOk t = true) (hL : listTo (fun p => usedAll [t] p [t].length) 61 = L) :
    missing comb t = pickI (fun x => !hasP comb x) L L.length := by
  subst hL
  unfold missing
  rw [if_pos h, pickI_all, listTo_filter]
  congr 1
theorem tunes_one {W : World} {B : Option Addr} {cb g : Nat} {t : List (Int × Int)} (h : RP W B t) (T : TypeId) (hg : W.heap.size = g) : RT (W.alloc (.cells #[.slice B t.length cb] T)) (some ⟨g, 0, none⟩) [t] := by
  subst hg
  have hh := heap_alloc_new W (.cells #[.slice B t.length cb] T)
  refine ⟨by simp, fun _ => ⟨_, _, rfl, fun j hj => ?_⟩⟩
  have : j = 0 := by simp at hj; exact hj
  subst this
  exact ⟨B, cb, cell_of_row _ _ 0 _ _ _ hh, h.below (bnew (Below.refl _ _) _)⟩
theorem empty_eq {l : List Int} {b : Bool} (h : l.isEmpty = b) : ((l.length : Int) == 0) = b := by
  subst h; cases l
  · rfl
  · simp [beq_eq_false_iff_ne]; omega

theorem impl_MissingPitches_no {comb : List Int} {t : List (Int × Int)} {A B : Option Addr} {ca cb : Nat} {w : World} (h1 : RI w A comb) (h2 : RP w B t) (h : ¬ (combOk comb = true ∧ tuneOk t = true)) :
    Calls Try.prog 76 #[.slice A comb.length ca, .slice B t.length cb] w fun e w' => ∃ D d, e = .returned (.slice D (missing comb t).length d) ∧ OwnI 3 w.heap.size w'.heap.size w' D d (missing comb t) ∧ Below w.heap.size w w' := by
  have H1 := Lib.hid h1
  have H2 := Lib.hid h2
  clear h1 h2
  have hT := Lib.hid (missing_no h)
  cases g1 : combOk comb
  · clear h
    go_enter Try.func76, Try.ntmps76
    go_wp2_with fail
    refine (impl_CombOk H1.out).mono ?_
    rintro e w1 ⟨rfl, hbel⟩
    go_wp2
    go_ret
    rw [hT.out]
    exact ⟨none, 0, rfl, OwnI.nil _ _ (Nat.le_refl _), hbel⟩
  · have g2 : tuneOk t = false := by
      cases g2 : tuneOk t
      · rfl
      · exact absurd ⟨g1, g2⟩ h
    clear h
    go_enter Try.func76, Try.ntmps76
    go_wp2_with fail
    refine (impl_CombOk H1.out).mono ?_
    rintro e w1 ⟨rfl, hbel⟩
    go_wp2_with fail
    refine (impl_TuneOk (H2.out.below hbel)).mono ?_
    rintro e w2 ⟨rfl, hb2⟩
    replace hbel := bthen hbel hb2
    go_wp2
    go_ret
    rw [hT.out]
    exact ⟨none, 0, rfl, OwnI.nil _ _ (Nat.le_refl _), hbel⟩
set_option maxHeartbeats 1000000 in
theorem impl_MissingPitches {comb : List Int} {t : List (Int × Int)} {A B : Option Addr} {ca cb : Nat} {w : World} (h1 : RI w A comb) (h2 : RP w B t) :
    Calls Try.prog 76 #[.slice A comb.length ca, .slice B t.length cb] w fun e w' => ∃ D d, e = .returned (.slice D (missing comb t).length d) ∧ OwnI 3 w.heap.size w'.heap.size w' D d (missing comb t) ∧ Below w.heap.size w w' := by
  by_cases h : combOk comb = true ∧ tuneOk t = true
  case neg => exact impl_MissingPitches_no h1 h2 h
  obtain ⟨L, hL⟩ : ∃ L, listTo (fun p => usedAll [t] p [t].length) 61 = L := ⟨_, rfl⟩
  obtain ⟨F, hF⟩ : ∃ F : Int → Bool, Hid (F = fun x => !hasP comb x) := ⟨_, rfl⟩
  have hT := Lib.hid (missing_yes h hL)
  rw [← hF.out] at hT
  have hLe := Lib.hid hL; clear hL
  obtain ⟨g1, g2⟩ := h
  have H1 := Lib.hid h1; clear h1
  have H2 := Lib.hid h2; clear h2
  go_enter Try.func76, Try.ntmps76
  go_wp2_with fail
  refine (impl_CombOk H1.out).mono ?_
  rintro e w1 ⟨rfl, hbel⟩
  go_wp2_with fail
  refine (impl_TuneOk (H2.out.below hbel)).mono ?_
  rintro e w2 ⟨rfl, hb2⟩
  replace hbel := bthen hbel hb2
  clear hb2
  have hbl := Lib.hid hbel; clear hbel
  go_wp2_with fail
  refine (impl_pitchesOf (ts := [t]) (tunes_one (H2.out.below (bnew hbl.out _)) _ (by simp))).mono ?_
  rintro e w3 ⟨G, c, rfl, hL, hb3⟩
  rw [hLe.out] at hL ⊢
  have hls := hL.small
  have hst : Hid (OwnI 3 w.heap.size w3.heap.size w3 (some ⟨w2.heap.size, 0, none⟩) 0 [] ∧ (∀ g, G = some g → Off (some ⟨w2.heap.size, 0, none⟩) g.block) ∧ Below w.heap.size w w3) := by
    refine ⟨((((own_empty 3 (W := w2)).new _).below hb3 (by simp)).lo_mono hbl.out.size).hi_mono (by have := hb3.size; simp at this; omega) (Nat.le_refl _), fun g hg a ha => ?_, bthen (bnew (bnew hbl.out _) _) hb3⟩
    injection ha with ha
    subst ha
    have := hL.lo_le g hg
    simp at this
    show w2.heap.size ≠ g.block
    omega
  have hL2 := Lib.hid hL; clear hL
  clear hb3 hbl
  obtain ⟨z0, hz0⟩ : ∃ z0, ((w2.alloc (.cells #[] 3)).alloc (.cells #[.slice B t.length cb] 24)).heap.size = z0 := ⟨_, rfl⟩
  rw [hz0] at hL2
  clear hz0
  obtain ⟨z1, hz1⟩ : ∃ z1, w3.heap.size = z1 := ⟨_, rfl⟩
  have hL3 : Hid (OwnI 3 z0 z1 w3 G c L) := by rw [← hz1]; exact hL2.out
  clear hz1 hL2
  go_wp2
  go_loopw [5, 21] (fun v i wr => ∃ (k : Nat) (D : Option Addr) (d : Nat), k ≤ L.length ∧ i = .int .i64 k ∧ v = .slice D (pickI F L k).length d ∧ OwnI 3 w.heap.size wr.heap.size wr D d (pickI F L k) ∧ Hid (OwnI 3 z0 z1 wr G c L) ∧
      (∀ g, G = some g → Off D g.block) ∧ Below w.heap.size w wr) (fun _ i _ => L.length - (intOf i).toNat)
  case atStart => exact ⟨0, _, _, Nat.zero_le _, rfl, rfl, hst.out.1, hL3, hst.out.2.1, hst.out.2.2⟩
  case round =>
    clear hst hL3
    obtain ⟨k, D, d, hk, rfl, rfl, hown, hL, hoff, hbel⟩ := hrel
    have hpl := length_pickI F L k
    have hof := Lib.hid hoff; clear hoff
    by_cases hlt : k < L.length
    · obtain ⟨b, off, hG, hP⟩ := hL.out.reads.2 (by omega)
      subst hG
      have HP := Lib.hid hP; clear hP
      obtain ⟨x, e1⟩ := int_of L k
      have c1 := HP.out.c1 (Below.refl _ _) hlt e1
      cases g : hasP comb x
      · have hs := Lib.hid (pickI_yes (f := F) e1 (by rw [hF.out]; show (!hasP comb x) = true; rw [g]; rfl))
        go_wp2_with fail
        refine (impl_holds (H1.out.below hbel)).mono ?_
        rintro e w5 ⟨rfl, hb5⟩
        replace hown := (hown.below hb5 hown.le).hi_mono hb5.size (Nat.le_refl _)
        have hL5 := Lib.hid (hL.out.below hb5 hL.out.le)
        replace hbel := bthen hbel hb5
        clear hb5 c1
        have hww := hbel.size
        have ho := Lib.hid hown; clear hown
        have hbl := Lib.hid hbel; clear hbel
        go_wp2_with (at_builtin; refine wpList_app_int' (.tmp 29) (.tmp 31) 41 3 rfl rfl Try.underlying41 int_info rfl rfl rfl ho.out hww (by omega) ?_; intro B' d' w6 hown2 hb6 hoff6)
        go_roundw
        case rel =>
          have hlt6 : b < w5.heap.size := Nat.lt_of_lt_of_le (hL5.out.top _ rfl) hL5.out.le
          have h6 := hoff6.out b hlt6 (hof.out _ rfl)
          have hL6 : Hid (OwnI 3 z0 z1 w6 (some ⟨b, off, none⟩) c L) := Lib.hid (OwnI.off (w' := w6) hL5.out (fun a ha => by cases ha; exact h6.1) hb6.size)
          have hof6 : ∀ g, some (⟨b, off, none⟩ : Addr) = some g → Off B' g.block := fun a ha => by cases ha; exact h6.2
          have hb6' := hbl.out.trans hb6
          have e1 : (pickI F L k ++ [x]).length = (pickI F L (k + 1)).length := by rw [hs.out]
          rw [← hs.out] at hown2
          refine ⟨k + 1, B', d', by omega, by go_num, ?_, hown2, hL6, hof6, hb6'⟩
          rw [← e1, List.length_append]; rfl
        case measure => simp [intOf]; omega
      · have hs := Lib.hid (pickI_no (f := F) e1 (by rw [hF.out]; show (!hasP comb x) = false; rw [g]; rfl))
        go_wp2_with fail
        refine (impl_holds (H1.out.below hbel)).mono ?_
        rintro e w5 ⟨rfl, hb5⟩
        replace hown := (hown.below hb5 hown.le).hi_mono hb5.size (Nat.le_refl _)
        have hL5 := Lib.hid (hL.out.below hb5 hL.out.le)
        replace hbel := bthen hbel hb5
        clear hb5 c1
        go_wp2
        go_roundw
        case rel => exact ⟨k + 1, D, d, by omega, by go_num, by rw [hs.out], by rw [hs.out]; exact hown, hL5, hof.out, hbel⟩
        case measure => simp [intOf]; omega
    · obtain rfl : k = L.length := by omega
      go_wp2
      go_ret
      rw [hT.out]
      exact ⟨_, _, rfl, hown, hbel⟩
end Go.Proofs.Ytkipgjllgmjipaa
