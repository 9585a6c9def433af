/- JoinTunes: what the reference's and the program's answer. -/
import Derived.Test.YtnopolbfhhaomaaJoinL
namespace Go.Proofs.Ytnopolbfhhaomaa
open Go.RowKit
set_option linter.unusedVariables false
set_option maxHeartbeats 1000000 in
theorem impl_JoinTunes {a b : List (Int × Int)} {A B : Option Addr} {c c2 : Nat} {w : World} (h1 : RP w A a) (h2 : RP w B b) :
    Calls Try.prog 15 #[.slice A a.length c, .slice B b.length c2] w fun e w' => ∃ D d, e = .returned (.tuple #[.slice D (joinL a b).length d, .bool (joinOk a b)]) ∧ OwnP 34 w.heap.size w'.heap.size w' D d (joinL a b) ∧ Below w.heap.size w w' := by
  have H1 := Lib.hid h1; clear h1
  have H2 := Lib.hid h2; clear h2
  go_enter Try.func15, Try.ntmps15
  go_wp2_with fail
  refine (impl_TuneOk H1.out).mono ?_
  rintro e w1 ⟨rfl, hbel⟩
  cases g1 : tuneOk a
  · have hk : joinOk a b = false := by unfold joinOk; rw [g1]; rfl
    have hL := join_no hk
    go_wp2
    go_ret2
    rw [hL, hk]
    exact ⟨_, _, rfl, OwnP.nil _ _ (Nat.le_refl _), hbel⟩
  go_wp2_with fail
  refine (impl_TuneOk (H2.out.below hbel)).mono ?_
  rintro e w2 ⟨rfl, hq⟩
  replace hbel := bthen hbel hq
  clear hq
  cases g2 : tuneOk b
  · have hk : joinOk a b = false := by unfold joinOk; rw [g2, Bool.false_and, Bool.and_false]
    have hL := join_no hk
    go_wp2
    go_ret2
    rw [hL, hk]
    exact ⟨_, _, rfl, OwnP.nil _ _ (Nat.le_refl _), hbel⟩
  have hjt := Lib.hid (join_tune g1 g2)
  have hab := Lib.hid (join_same (a := a) (b := b))
  have la := (tuneOk_parts g1).1
  have lb := (tuneOk_parts g2).1
  go_wp2_with fail
  refine (impl_copyNotes (H1.out.below hbel)).mono ?_
  rintro e w3 ⟨g, d, rfl, O, hq⟩
  have hbel3 := bthen hbel hq
  have O2 := O.lo_mono (lo' := w.heap.size) hbel.size
  clear O hq hbel
  go_wp2_with (at_builtin; refine wpList_app_pairs (l := a) (m := b) (.tmp 16) (.tmp 17) 27 34 rfl rfl Try.underlying27 notes_inf rfl (by decide) rfl rfl O2 hbel3.size (H2.out.below hbel3) (by omega) ?_; intro D d' w4 O4 hb4 _)
  have hbel4 := Lib.hid (hbel3.trans hb4)
  have hO4 := Lib.hid (impl_sorted (c := d') O4.reads)
  have hs4 := O4.le
  clear O2 hbel3 hb4
  rw [List.length_append] at hO4
  refine hO4.out.mono ?_
  rintro e w5 ⟨g5, d5, rfl, O5, hq5⟩
  have hbel5 := bthen hbel4.out hq5
  have O5' := O5.lo_mono (lo' := w.heap.size) hbel4.out.size
  clear hq5 O5
  go_wp2_with fail
  refine (impl_TuneOk O5'.reads).mono ?_
  rintro e w6 ⟨rfl, hq6⟩
  have O6 := (O5'.below hq6 O5'.le).hi_mono (Nat.le_trans O5'.le hq6.size) (Nat.le_refl _)
  have hbel6 := bthen hbel5 hq6
  rw [hjt.out]
  cases hk : joinOk a b
  · have hL := join_no hk
    go_wp2
    go_ret2
    rw [hL, hk]
    exact ⟨_, _, rfl, OwnP.nil _ _ (Nat.le_refl _), hbel6⟩
  · have hL := join_yes hk
    rw [← hab.out] at hL
    go_wp2
    go_ret2
    rw [hL, hk]
    exact ⟨_, _, rfl, O6, hbel6⟩
end Go.Proofs.Ytnopolbfhhaomaa
