/- The draws of numbers. -/
import Derived.Test.YtakllloangpimaaDraw
namespace Go.Proofs.Ytakllloangpimaa
open Go.RowKit
set_option linter.unusedVariables false
theorem spec_l01PickInt {p : Nat} {A B : Option Addr} {n c d : Nat} {l : List Int} {W0 w : World} (hc : Cur w p A n c) (h : RU W0 A n) (hb : Below W0.heap.size W0 w) (hp : W0.heap.size ≤ p)
    (hl : ∀ W, Kept p (p + 1) w W → ∃ b off, B = some ⟨b, off, none⟩ ∧ ∀ j, j < l.length → W.cell? ⟨b, off + j, none⟩ = some (.int .i64 (l.getD j 0))) (h1 : 1 ≤ l.length) (h2 : l.length ≤ 256) :
    Calls Try.prog 85 #[.pointer (some ⟨p, 0, none⟩), .slice B l.length d] w fun e w' => ∃ k : Nat, k < l.length ∧ e = .returned (.int .i64 (l.getD k 0)) ∧ Cur w' p A n c ∧ Kept p (p + 1) w w' := by
  have H := Lib.hid h; clear h
  have HB := Lib.hid hb; clear hb
  have HL := Lib.hid hl; clear hl
  go_enter Try.func85, Try.ntmps85
  go_wp2_with fail
  refine (spec_l01Below hc H.out HB.out hp (by omega) (by omega)).mono ?_
  rintro e w1 ⟨x, rfl, hx, hc1, hk1⟩
  have HC := Lib.hid hc1; have HK := Lib.hid hk1
  obtain ⟨b, off, rfl, hj⟩ := HL.out w1 hk1
  obtain ⟨u, hu⟩ : ∃ u, Hid (l.getD x 0 = u) := ⟨_, rfl⟩
  have c1 := hj x (by omega)
  rw [hu.out] at c1
  clear hc hc1 hk1 hj
  go_wp2
  go_ret
  exact ⟨x, by omega, ret_int hu.out.symm, HC.out, HK.out⟩
end Go.Proofs.Ytakllloangpimaa
