/- Higher, Later and Slower: that the program's and the reference's answer the same. -/
import Derived.Test.YtnopolbfhhaomaaChgB
namespace Go.Proofs.Ytnopolbfhhaomaa
open Go.RowKit
set_option linter.unusedVariables false
theorem Higher_f (n : Int) : (fun p : Int × Int => (p.1 * 1 + 0, p.2 + n)) = fun p => (p.1, p.2 + n) := by funext p; simp
set_option maxHeartbeats 400000 in
theorem impl_Higher {l : List (Int × Int)} {A : Option Addr} {c : Nat} {n : Int} {w : World} (h : RP w A l) :
    Calls Try.prog 11 #[.slice A l.length c, .int .i64 n] w fun e w' => ∃ B d, e = .returned (.tuple #[.slice B (movedL l (inR n (-60) 60) fun p => (p.1, p.2 + n)).length d, .bool (movedOk l (inR n (-60) 60) fun p => (p.1, p.2 + n))]) ∧
      OwnP 34 w.heap.size w'.heap.size w' B d (movedL l (inR n (-60) 60) fun p => (p.1, p.2 + n)) ∧ Below w.heap.size w w' := by
  have H := Lib.hid h; clear h
  have heg : ∀ args w, (callFunc 27 args).run Try.prog w = .ok (.enter 27 args) w := enters_of Try.func27 (by kernel_rfl) rfl
  have HG := Lib.hid heg; clear heg
  generalize hR : movedL l (inR n (-60) 60) (fun p => (p.1, p.2 + n)) = R
  generalize hO : movedOk l (inR n (-60) 60) (fun p => (p.1, p.2 + n)) = ok
  have HR := Lib.hid (And.intro hR hO); clear hR hO
  go_enter Try.func11, Try.ntmps11
  go_wp2_with (go_at_call 26; refine (impl_within).mono ?_; rintro e w' ⟨rfl, rfl⟩)
  generalize hW : World.alloc w _ = W1
  have hb1 : Below w.heap.size w W1 := by rw [← hW]; exact bnew (Below.refl _ _) _
  have m0 : W1.cell? ⟨w.heap.size, 0, none⟩ = some (.int .i64 n) := by rw [← hW]; exact cell_of_row _ _ 0 _ _ _ (heap_alloc_new w _)
  clear hW
  refine (impl_changed (f := fun p => (p.1, p.2 + n)) (H.out.below hb1) HG.out (fun g hb W x y k hW hk e => ?_)).mono ?_
  · obtain ⟨⟨x1, x2⟩, y1, y2⟩ := tuneOk_range g hk e
    obtain ⟨n1, n2⟩ := inR_true hb
    exact impl_Higher1 (cell_later m0 hW) (by omega) (by omega) (by omega) (by omega) (by omega) (by omega)
  rintro e w2 ⟨B, d, rfl, O, hq⟩
  rw [HR.out.1] at O ⊢
  rw [HR.out.2]
  go_wp2
  go_ret2
  exact ⟨_, _, rfl, O.lo_mono hb1.size, bthen hb1 hq⟩
set_option maxHeartbeats 400000 in
theorem impl_Later {l : List (Int × Int)} {A : Option Addr} {c : Nat} {n : Int} {w : World} (h : RP w A l) :
    Calls Try.prog 12 #[.slice A l.length c, .int .i64 n] w fun e w' => ∃ B d, e = .returned (.tuple #[.slice B (movedL l (inR n (-1000) 1000) fun p => (p.1 + n, p.2)).length d, .bool (movedOk l (inR n (-1000) 1000) fun p => (p.1 + n, p.2))]) ∧
      OwnP 34 w.heap.size w'.heap.size w' B d (movedL l (inR n (-1000) 1000) fun p => (p.1 + n, p.2)) ∧ Below w.heap.size w w' := by
  have H := Lib.hid h; clear h
  have heg : ∀ args w, (callFunc 28 args).run Try.prog w = .ok (.enter 28 args) w := enters_of Try.func28 (by kernel_rfl) rfl
  have HG := Lib.hid heg; clear heg
  generalize hR : movedL l (inR n (-1000) 1000) (fun p => (p.1 + n, p.2)) = R
  generalize hO : movedOk l (inR n (-1000) 1000) (fun p => (p.1 + n, p.2)) = ok
  have HR := Lib.hid (And.intro hR hO); clear hR hO
  go_enter Try.func12, Try.ntmps12
  go_wp2_with (go_at_call 26; refine (impl_within).mono ?_; rintro e w' ⟨rfl, rfl⟩)
  generalize hW : World.alloc w _ = W1
  have hb1 : Below w.heap.size w W1 := by rw [← hW]; exact bnew (Below.refl _ _) _
  have m0 : W1.cell? ⟨w.heap.size, 0, none⟩ = some (.int .i64 n) := by rw [← hW]; exact cell_of_row _ _ 0 _ _ _ (heap_alloc_new w _)
  clear hW
  refine (impl_changed (f := fun p => (p.1 + n, p.2)) (H.out.below hb1) HG.out (fun g hb W x y k hW hk e => ?_)).mono ?_
  · obtain ⟨⟨x1, x2⟩, y1, y2⟩ := tuneOk_range g hk e
    obtain ⟨n1, n2⟩ := inR_true hb
    exact impl_Later1 (cell_later m0 hW) (by omega) (by omega) (by omega) (by omega) (by omega) (by omega)
  rintro e w2 ⟨B, d, rfl, O, hq⟩
  rw [HR.out.1] at O ⊢
  rw [HR.out.2]
  go_wp2
  go_ret2
  exact ⟨_, _, rfl, O.lo_mono hb1.size, bthen hb1 hq⟩
set_option maxHeartbeats 400000 in
theorem impl_Slower {l : List (Int × Int)} {A : Option Addr} {c : Nat} {n : Int} {w : World} (h : RP w A l) :
    Calls Try.prog 13 #[.slice A l.length c, .int .i64 n] w fun e w' => ∃ B d, e = .returned (.tuple #[.slice B (movedL l (inR n (1) 100) fun p => (p.1 * n, p.2)).length d, .bool (movedOk l (inR n (1) 100) fun p => (p.1 * n, p.2))]) ∧
      OwnP 34 w.heap.size w'.heap.size w' B d (movedL l (inR n (1) 100) fun p => (p.1 * n, p.2)) ∧ Below w.heap.size w w' := by
  have H := Lib.hid h; clear h
  have heg : ∀ args w, (callFunc 29 args).run Try.prog w = .ok (.enter 29 args) w := enters_of Try.func29 (by kernel_rfl) rfl
  have HG := Lib.hid heg; clear heg
  generalize hR : movedL l (inR n (1) 100) (fun p => (p.1 * n, p.2)) = R
  generalize hO : movedOk l (inR n (1) 100) (fun p => (p.1 * n, p.2)) = ok
  have HR := Lib.hid (And.intro hR hO); clear hR hO
  go_enter Try.func13, Try.ntmps13
  go_wp2_with (go_at_call 26; refine (impl_within).mono ?_; rintro e w' ⟨rfl, rfl⟩)
  generalize hW : World.alloc w _ = W1
  have hb1 : Below w.heap.size w W1 := by rw [← hW]; exact bnew (Below.refl _ _) _
  have m0 : W1.cell? ⟨w.heap.size, 0, none⟩ = some (.int .i64 n) := by rw [← hW]; exact cell_of_row _ _ 0 _ _ _ (heap_alloc_new w _)
  clear hW
  refine (impl_changed (f := fun p => (p.1 * n, p.2)) (H.out.below hb1) HG.out (fun g hb W x y k hW hk e => ?_)).mono ?_
  · obtain ⟨⟨x1, x2⟩, y1, y2⟩ := tuneOk_range g hk e
    obtain ⟨n1, n2⟩ := inR_true hb
    exact impl_Slower1 (cell_later m0 hW) (by omega) (by omega) (by omega) (by omega) (by omega) (by omega)
  rintro e w2 ⟨B, d, rfl, O, hq⟩
  rw [HR.out.1] at O ⊢
  rw [HR.out.2]
  go_wp2
  go_ret2
  exact ⟨_, _, rfl, O.lo_mono hb1.size, bthen hb1 hq⟩
end Go.Proofs.Ytnopolbfhhaomaa
