/- CombFor: what it answers, and that the program's and the reference's functions answer it. -/
import Derived.Test.YtakllloangpimaaMissing
namespace Go.Proofs.Ytakllloangpimaa
open Go.RowKit

def tunesOk (ts : List (List (Int × Int))) : Bool := (List.range ts.length).all fun k => tuneOk (ts.getD k [])
def combL (ts : List (List (Int × Int))) : List Int := listTo (fun p => usedAll ts p ts.length) 61
def combForOk (ts : List (List (Int × Int))) : Bool := tunesOk ts && combOk (combL ts)
def combForL (ts : List (List (Int × Int))) : List Int := if combForOk ts = true then combL ts else []
theorem comb_list {ts : List (List (Int × Int))} {F : Int → Bool} (h : F = fun p => usedAll ts p ts.length) : combL ts = listTo F 61 := by subst h; unfold combL; with_reducible rfl
theorem combFor_no {ts : List (List (Int × Int))} (h : combForOk ts = false) : combForL ts = [] := by unfold combForL; rw [h]; rfl
theorem combFor_yes {ts : List (List (Int × Int))} (h : combForOk ts = true) : combForL ts = combL ts := by unfold combForL; rw [if_pos h]
theorem tunesOk_no {ts : List (List (Int × Int))} {k : Nat} {u : List (Int × Int)} (hk : k < ts.length) (e : Hid (ts.getD k [] = u)) (h : tuneOk u = false) : combForOk ts = false := by
  have : tunesOk ts = false := by
    unfold tunesOk
    rw [List.all_eq_false]; exact ⟨k, List.mem_range.2 hk, by rw [e.out, h]; exact Bool.false_ne_true⟩
  unfold combForOk; rw [this]; rfl
theorem tunesOk_yes {ts : List (List (Int × Int))} {b : Bool} (h : Hid (∀ j, j < ts.length → tuneOk (ts.getD j []) = true)) (hb : combOk (combL ts) = b) : combForOk ts = b := by
  have : tunesOk ts = true := by unfold tunesOk; rw [List.all_eq_true]; intro j hj; exact h.out j (List.mem_range.1 hj)
  unfold combForOk; rw [this, hb]; rfl
theorem okT_next {ts : List (List (Int × Int))} {k : Nat} {u : List (Int × Int)} (h : Hid (∀ j, j < k → tuneOk (ts.getD j []) = true)) (e : Hid (ts.getD k [] = u)) (hu : tuneOk u = true) : Hid (∀ j, j < k + 1 → tuneOk (ts.getD j []) = true) := fun j hj => by
  rcases Nat.lt_or_ge j k with hlt | hge
  · exact h.out j hlt
  · obtain rfl : j = k := by omega
    rw [e.out]; exact hu

set_option maxHeartbeats 1000000 in
theorem impl_CombFor {ts : List (List (Int × Int))} {A : Option Addr} {ca : Nat} {w : World} (h1 : RT w A ts) :
    Calls Try.prog 40 #[.slice A ts.length ca] w fun e w' => ∃ D d, e = .returned (.tuple #[.slice D (combForL ts).length d, .bool (combForOk ts)]) ∧ OwnI 3 w.heap.size w'.heap.size w' D d (combForL ts) ∧ Below w.heap.size w w' := by
  have H1 := Lib.hid h1; clear h1
  have l1 := H1.out.1
  go_enter Try.func40, Try.ntmps40
  go_wp2
  go_loopw [9] (fun i wr => ∃ k : Nat, k ≤ ts.length ∧ i = .int .i64 k ∧ Hid (∀ j, j < k → tuneOk (ts.getD j []) = true) ∧ Below w.heap.size w wr) (fun i _ => ts.length - (intOf i).toNat)
  case atStart => exact ⟨0, Nat.zero_le _, rfl, fun j hj => absurd hj (by omega), Below.refl _ _⟩
  case round =>
    obtain ⟨k, hk, rfl, hok, hbel⟩ := hrel
    by_cases hlt : k < ts.length
    · obtain ⟨b1, o1, rfl, hP⟩ := H1.out.2 (by omega)
      obtain ⟨B, c, hc, hR⟩ := hP k hlt
      obtain ⟨u, hu⟩ : ∃ u, Hid (ts.getD k [] = u) := ⟨_, rfl⟩
      rw [hu.out] at hc hR
      have c1 := cell_later hc hbel
      have R := Lib.hid (hR.below hbel)
      have hbl := Lib.hid hbel; clear hc hR hP hbel
      cases g : tuneOk u
      · have hF := Lib.hid (tunesOk_no hlt hu g)
        have hT := Lib.hid (combFor_no hF.out)
        go_wp2_with fail
        refine (impl_TuneOk R.out).mono ?_
        rintro e w2 ⟨rfl, hb2⟩
        go_wp2
        go_ret2
        rw [hT.out, hF.out]
        exact ⟨none, 0, rfl, OwnI.nil _ _ (Nat.le_refl _), bthen hbl.out hb2⟩
      · have hn := Lib.hid (okT_next hok hu g)
        go_wp2_with fail
        refine (impl_TuneOk R.out).mono ?_
        rintro e w2 ⟨rfl, hb2⟩
        go_wp2
        go_roundw
        case rel => exact ⟨k + 1, by omega, by go_num, hn.out, bthen hbl.out hb2⟩
        case measure => simp [intOf]; omega
    · obtain rfl : k = ts.length := by omega
      have hbl := Lib.hid hbel; clear hbel
      go_wp2_with fail
      refine (impl_pitchesOf (H1.out.below hbl.out)).mono ?_
      rintro e w2 ⟨D, d, rfl, hO, hb2⟩
      have hbx := Lib.hid (bthen hbl.out hb2)
      have hlo := Lib.hid hbl.out.size
      cases g : combOk (listTo (fun p => usedAll ts p ts.length) 61)
      · have hF := Lib.hid (tunesOk_yes hok g)
        have hT := Lib.hid (combFor_no hF.out)
        go_wp2_with fail
        refine (impl_CombOk hO.reads).mono ?_
        rintro e w3 ⟨rfl, hb3⟩
        go_wp2
        go_ret2
        rw [hT.out, hF.out]
        exact ⟨none, 0, rfl, OwnI.nil _ _ (Nat.le_refl _), bthen hbx.out hb3⟩
      · have hF := Lib.hid (tunesOk_yes hok g)
        have hT := Lib.hid (combFor_yes hF.out)
        have hou := Lib.hid hO
        go_wp2_with fail
        refine (impl_CombOk hO.reads).mono ?_
        rintro e w3 ⟨rfl, hb3⟩
        clear hO
        go_wp2
        go_ret2
        rw [hT.out, hF.out]
        exact ⟨_, _, rfl, ((hou.out.lo_mono hlo.out).below hb3 hou.out.le).hi_mono hb3.size (Nat.le_refl _), bthen hbx.out hb3⟩
end Go.Proofs.Ytakllloangpimaa
