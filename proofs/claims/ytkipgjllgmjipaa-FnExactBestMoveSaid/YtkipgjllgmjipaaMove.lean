/- Higher, Later and Slower: that the program's and the reference's answer the same. -/
import Derived.Test.YtkipgjllgmjipaaChgB
namespace Go.Proofs.Ytkipgjllgmjipaa
open Go.RowKit
set_option linter.unusedVariables false
theorem Higher_f (n : Int) : (fun p : Int × Int => (p.1 * 1 + 0, p.2 + n)) = fun p => (p.1, p.2 + n) := by funext p; simp
set_option maxHeartbeats 400000 in
theorem impl_Higher {l : List (Int × Int)} {A : Option Addr} {c : Nat} {n : Int} {w : World} (h : RP w A l) :
    Calls Try.prog 23 #[.slice A l.length c, .int .i64 n] w fun e w' => ∃ B d, e = .returned (.tuple #[.slice B (movedL l (inR n (-60) 60) fun p => (p.1, p.2 + n)).length d, .bool (movedOk l (inR n (-60) 60) fun p => (p.1, p.2 + n))]) ∧
      OwnP 38 w.heap.size w'.heap.size w' B d (movedL l (inR n (-60) 60) fun p => (p.1, p.2 + n)) ∧ Below w.heap.size w w' := by
  have H := Lib.hid h; clear h
  have heg : ∀ args w, (callFunc 62 args).run Try.prog w = .ok (.enter 62 args) w := enters_of Try.func62 (by kernel_rfl) rfl
  have HG := Lib.hid heg; clear heg
  generalize hR : movedL l (inR n (-60) 60) (fun p => (p.1, p.2 + n)) = R
  generalize hO : movedOk l (inR n (-60) 60) (fun p => (p.1, p.2 + n)) = ok
  have HR := Lib.hid (And.intro hR hO); clear hR hO
  go_enter Try.func23, Try.ntmps23
  go_wp2_with (go_at_call 61; refine (impl_within).mono ?_; rintro e w' ⟨rfl, rfl⟩)
  generalize hW : World.alloc w _ = W1
  have hb1 : Below w.heap.size w W1 := by rw [← hW]; exact bnew (Below.refl _ _) _
  have m0 : W1.cell? ⟨w.heap.size, 0, none⟩ = some (.int .i64 n) := by rw [← hW]; exact cell_of_row _ _ 0 _ _ _ (heap_alloc_new w _)
  clear hW
  refine (impl_changed (f := fun p => (p.1, p.2 + n)) (H.out.below hb1) HG.out (fun g hb W x y k hW hk e => ?_)).mono ?_
  · obtain ⟨⟨x1, x2⟩, y1, y2⟩ := tuneOk_range g hk e
    obtain ⟨n1, n2⟩ := inR_true hb
    exact impl_Higher1 (cell_later m0 hW) (by omega) (by omega) (by omega) (by omega) (by omega) (by omega)
  rintro e w2 ⟨B, d, rfl, O, hq⟩
  rw [HR.out.1] at O ⊢
  rw [HR.out.2]
  go_wp2
  go_ret2
  exact ⟨_, _, rfl, O.lo_mono hb1.size, bthen hb1 hq⟩
theorem spec_Higher {l : List (Int × Int)} {A : Option Addr} {c : Nat} {n : Int} {w : World} (h : RP w A l) :
    Calls Try.prog 22 #[.slice A l.length c, .int .i64 n] w fun e w' => ∃ B d, e = .returned (.tuple #[.slice B (movedL l (inR n (-60) 60) fun p => (p.1, p.2 + n)).length d, .bool (movedOk l (inR n (-60) 60) fun p => (p.1, p.2 + n))]) ∧
      OwnP 38 w.heap.size w'.heap.size w' B d (movedL l (inR n (-60) 60) fun p => (p.1, p.2 + n)) ∧ Below w.heap.size w w' := by
  have H := Lib.hid h; clear h
  cases g : inR n (-60) 60
  · have hT := Lib.hid (moved_no (l := l) (b := false) (f := fun p => (p.1, p.2 + n)) (by simp))
    generalize movedL l false (fun p => (p.1, p.2 + n)) = R at *
    generalize movedOk l false (fun p => (p.1, p.2 + n)) = ok at *
    obtain ⟨rfl, rfl⟩ := hT.out
    go_enter Try.func22, Try.ntmps22
    go_wp2_with (first | (go_at_call 57; refine (spec_l01In).mono ?_; rintro e w' ⟨rfl, rfl⟩) | (go_at_call 58; refine (spec_l02Copy H.out).mono ?_; rintro e w2 ⟨g2, d, rfl, O, hq2⟩))
    go_ret2
    exact ⟨_, _, rfl, O, hq2⟩
  obtain ⟨n1, n2⟩ := inR_true g
  have hM := @spec_l03Move l A c w (1) (0) (n) H.out (by omega) (by omega) (by omega) (by omega) (by omega) (by omega)
  rw [Higher_f n] at hM
  have HM := Lib.hid hM; clear hM
  generalize movedL l true (fun p => (p.1, p.2 + n)) = R at *
  generalize movedOk l true (fun p => (p.1, p.2 + n)) = ok at *
  go_enter Try.func22, Try.ntmps22
  go_wp2_with (go_at_call 57; refine (spec_l01In).mono ?_; rintro e w' ⟨rfl, rfl⟩)
  refine HM.out.mono ?_
  rintro e w2 ⟨B, d, rfl, O, hq⟩
  go_wp2
  go_ret2
  exact ⟨_, _, rfl, O, hq⟩
theorem Later_f (n : Int) : (fun p : Int × Int => (p.1 * 1 + n, p.2 + 0)) = fun p => (p.1 + n, p.2) := by funext p; simp
set_option maxHeartbeats 400000 in
theorem impl_Later {l : List (Int × Int)} {A : Option Addr} {c : Nat} {n : Int} {w : World} (h : RP w A l) :
    Calls Try.prog 25 #[.slice A l.length c, .int .i64 n] w fun e w' => ∃ B d, e = .returned (.tuple #[.slice B (movedL l (inR n (-1000) 1000) fun p => (p.1 + n, p.2)).length d, .bool (movedOk l (inR n (-1000) 1000) fun p => (p.1 + n, p.2))]) ∧
      OwnP 38 w.heap.size w'.heap.size w' B d (movedL l (inR n (-1000) 1000) fun p => (p.1 + n, p.2)) ∧ Below w.heap.size w w' := by
  have H := Lib.hid h; clear h
  have heg : ∀ args w, (callFunc 63 args).run Try.prog w = .ok (.enter 63 args) w := enters_of Try.func63 (by kernel_rfl) rfl
  have HG := Lib.hid heg; clear heg
  generalize hR : movedL l (inR n (-1000) 1000) (fun p => (p.1 + n, p.2)) = R
  generalize hO : movedOk l (inR n (-1000) 1000) (fun p => (p.1 + n, p.2)) = ok
  have HR := Lib.hid (And.intro hR hO); clear hR hO
  go_enter Try.func25, Try.ntmps25
  go_wp2_with (go_at_call 61; refine (impl_within).mono ?_; rintro e w' ⟨rfl, rfl⟩)
  generalize hW : World.alloc w _ = W1
  have hb1 : Below w.heap.size w W1 := by rw [← hW]; exact bnew (Below.refl _ _) _
  have m0 : W1.cell? ⟨w.heap.size, 0, none⟩ = some (.int .i64 n) := by rw [← hW]; exact cell_of_row _ _ 0 _ _ _ (heap_alloc_new w _)
  clear hW
  refine (impl_changed (f := fun p => (p.1 + n, p.2)) (H.out.below hb1) HG.out (fun g hb W x y k hW hk e => ?_)).mono ?_
  · obtain ⟨⟨x1, x2⟩, y1, y2⟩ := tuneOk_range g hk e
    obtain ⟨n1, n2⟩ := inR_true hb
    exact impl_Later1 (cell_later m0 hW) (by omega) (by omega) (by omega) (by omega) (by omega) (by omega)
  rintro e w2 ⟨B, d, rfl, O, hq⟩
  rw [HR.out.1] at O ⊢
  rw [HR.out.2]
  go_wp2
  go_ret2
  exact ⟨_, _, rfl, O.lo_mono hb1.size, bthen hb1 hq⟩
theorem spec_Later {l : List (Int × Int)} {A : Option Addr} {c : Nat} {n : Int} {w : World} (h : RP w A l) :
    Calls Try.prog 24 #[.slice A l.length c, .int .i64 n] w fun e w' => ∃ B d, e = .returned (.tuple #[.slice B (movedL l (inR n (-1000) 1000) fun p => (p.1 + n, p.2)).length d, .bool (movedOk l (inR n (-1000) 1000) fun p => (p.1 + n, p.2))]) ∧
      OwnP 38 w.heap.size w'.heap.size w' B d (movedL l (inR n (-1000) 1000) fun p => (p.1 + n, p.2)) ∧ Below w.heap.size w w' := by
  have H := Lib.hid h; clear h
  cases g : inR n (-1000) 1000
  · have hT := Lib.hid (moved_no (l := l) (b := false) (f := fun p => (p.1 + n, p.2)) (by simp))
    generalize movedL l false (fun p => (p.1 + n, p.2)) = R at *
    generalize movedOk l false (fun p => (p.1 + n, p.2)) = ok at *
    obtain ⟨rfl, rfl⟩ := hT.out
    go_enter Try.func24, Try.ntmps24
    go_wp2_with (first | (go_at_call 57; refine (spec_l01In).mono ?_; rintro e w' ⟨rfl, rfl⟩) | (go_at_call 58; refine (spec_l02Copy H.out).mono ?_; rintro e w2 ⟨g2, d, rfl, O, hq2⟩))
    go_ret2
    exact ⟨_, _, rfl, O, hq2⟩
  obtain ⟨n1, n2⟩ := inR_true g
  have hM := @spec_l03Move l A c w (1) (n) (0) H.out (by omega) (by omega) (by omega) (by omega) (by omega) (by omega)
  rw [Later_f n] at hM
  have HM := Lib.hid hM; clear hM
  generalize movedL l true (fun p => (p.1 + n, p.2)) = R at *
  generalize movedOk l true (fun p => (p.1 + n, p.2)) = ok at *
  go_enter Try.func24, Try.ntmps24
  go_wp2_with (go_at_call 57; refine (spec_l01In).mono ?_; rintro e w' ⟨rfl, rfl⟩)
  refine HM.out.mono ?_
  rintro e w2 ⟨B, d, rfl, O, hq⟩
  go_wp2
  go_ret2
  exact ⟨_, _, rfl, O, hq⟩
theorem Slower_f (n : Int) : (fun p : Int × Int => (p.1 * n + 0, p.2 + 0)) = fun p => (p.1 * n, p.2) := by funext p; simp
set_option maxHeartbeats 400000 in
theorem impl_Slower {l : List (Int × Int)} {A : Option Addr} {c : Nat} {n : Int} {w : World} (h : RP w A l) :
    Calls Try.prog 27 #[.slice A l.length c, .int .i64 n] w fun e w' => ∃ B d, e = .returned (.tuple #[.slice B (movedL l (inR n (1) 100) fun p => (p.1 * n, p.2)).length d, .bool (movedOk l (inR n (1) 100) fun p => (p.1 * n, p.2))]) ∧
      OwnP 38 w.heap.size w'.heap.size w' B d (movedL l (inR n (1) 100) fun p => (p.1 * n, p.2)) ∧ Below w.heap.size w w' := by
  have H := Lib.hid h; clear h
  have heg : ∀ args w, (callFunc 64 args).run Try.prog w = .ok (.enter 64 args) w := enters_of Try.func64 (by kernel_rfl) rfl
  have HG := Lib.hid heg; clear heg
  generalize hR : movedL l (inR n (1) 100) (fun p => (p.1 * n, p.2)) = R
  generalize hO : movedOk l (inR n (1) 100) (fun p => (p.1 * n, p.2)) = ok
  have HR := Lib.hid (And.intro hR hO); clear hR hO
  go_enter Try.func27, Try.ntmps27
  go_wp2_with (go_at_call 61; refine (impl_within).mono ?_; rintro e w' ⟨rfl, rfl⟩)
  generalize hW : World.alloc w _ = W1
  have hb1 : Below w.heap.size w W1 := by rw [← hW]; exact bnew (Below.refl _ _) _
  have m0 : W1.cell? ⟨w.heap.size, 0, none⟩ = some (.int .i64 n) := by rw [← hW]; exact cell_of_row _ _ 0 _ _ _ (heap_alloc_new w _)
  clear hW
  refine (impl_changed (f := fun p => (p.1 * n, p.2)) (H.out.below hb1) HG.out (fun g hb W x y k hW hk e => ?_)).mono ?_
  · obtain ⟨⟨x1, x2⟩, y1, y2⟩ := tuneOk_range g hk e
    obtain ⟨n1, n2⟩ := inR_true hb
    exact impl_Slower1 (cell_later m0 hW) (by omega) (by omega) (by omega) (by omega) (by omega) (by omega)
  rintro e w2 ⟨B, d, rfl, O, hq⟩
  rw [HR.out.1] at O ⊢
  rw [HR.out.2]
  go_wp2
  go_ret2
  exact ⟨_, _, rfl, O.lo_mono hb1.size, bthen hb1 hq⟩
theorem spec_Slower {l : List (Int × Int)} {A : Option Addr} {c : Nat} {n : Int} {w : World} (h : RP w A l) :
    Calls Try.prog 26 #[.slice A l.length c, .int .i64 n] w fun e w' => ∃ B d, e = .returned (.tuple #[.slice B (movedL l (inR n (1) 100) fun p => (p.1 * n, p.2)).length d, .bool (movedOk l (inR n (1) 100) fun p => (p.1 * n, p.2))]) ∧
      OwnP 38 w.heap.size w'.heap.size w' B d (movedL l (inR n (1) 100) fun p => (p.1 * n, p.2)) ∧ Below w.heap.size w w' := by
  have H := Lib.hid h; clear h
  cases g : inR n (1) 100
  · have hT := Lib.hid (moved_no (l := l) (b := false) (f := fun p => (p.1 * n, p.2)) (by simp))
    generalize movedL l false (fun p => (p.1 * n, p.2)) = R at *
    generalize movedOk l false (fun p => (p.1 * n, p.2)) = ok at *
    obtain ⟨rfl, rfl⟩ := hT.out
    go_enter Try.func26, Try.ntmps26
    go_wp2_with (first | (go_at_call 57; refine (spec_l01In).mono ?_; rintro e w' ⟨rfl, rfl⟩) | (go_at_call 58; refine (spec_l02Copy H.out).mono ?_; rintro e w2 ⟨g2, d, rfl, O, hq2⟩))
    go_ret2
    exact ⟨_, _, rfl, O, hq2⟩
  obtain ⟨n1, n2⟩ := inR_true g
  have hM := @spec_l03Move l A c w (n) (0) (0) H.out (by omega) (by omega) (by omega) (by omega) (by omega) (by omega)
  rw [Slower_f n] at hM
  have HM := Lib.hid hM; clear hM
  generalize movedL l true (fun p => (p.1 * n, p.2)) = R at *
  generalize movedOk l true (fun p => (p.1 * n, p.2)) = ok at *
  go_enter Try.func26, Try.ntmps26
  go_wp2_with (go_at_call 57; refine (spec_l01In).mono ?_; rintro e w' ⟨rfl, rfl⟩)
  refine HM.out.mono ?_
  rintro e w2 ⟨B, d, rfl, O, hq⟩
  go_wp2
  go_ret2
  exact ⟨_, _, rfl, O, hq⟩
end Go.Proofs.Ytkipgjllgmjipaa
