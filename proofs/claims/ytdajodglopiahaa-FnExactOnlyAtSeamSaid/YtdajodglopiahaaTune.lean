/- The functions over tunes that only read: what TuneOk answers, and the law's own helpers that copy, compare, mark and look again at lists of notes. -/
import Derived.Test.YtdajodglopiahaaNum
namespace Go.Proofs.Ytdajodglopiahaa
open Go.RowKit

/-! ## Plain notions -/
def okAt (l : List (Int × Int)) (k : Nat) : Bool :=
  inR (l.getD k (0, 0)).1 0 1000 && inR (l.getD k (0, 0)).2 0 60 && (k == 0 || less2 (l.getD (k - 1) (0, 0)).1 (l.getD (k - 1) (0, 0)).2 (l.getD k (0, 0)).1 (l.getD k (0, 0)).2)
def tuneOk (l : List (Int × Int)) : Bool := decide (l.length ≤ 40) && (List.range l.length).all (okAt l)

theorem tuneOk_no {l : List (Int × Int)} {k : Nat} (hk : k < l.length) (h : okAt l k = false) : tuneOk l = false := by
  have : (List.range l.length).all (okAt l) = false := by
    rw [List.all_eq_false]; exact ⟨k, List.mem_range.2 hk, by rw [h]; exact Bool.false_ne_true⟩
  unfold tuneOk; rw [this, Bool.and_false]
theorem tuneOk_long {l : List (Int × Int)} (h : 40 < l.length) : tuneOk l = false := by
  unfold tuneOk; rw [decide_eq_false (by omega), Bool.false_and]
theorem tuneOk_all {l : List (Int × Int)} {k : Nat} (hk : l.length ≤ k) (h : Hid (∀ j, j < k → okAt l j = true)) : tuneOk l = decide (l.length ≤ 40) := by
  have : (List.range l.length).all (okAt l) = true := by
    rw [List.all_eq_true]; intro j hj; exact h.out j (by have := List.mem_range.1 hj; omega)
  unfold tuneOk; rw [this, Bool.and_true]
section
variable {l : List (Int × Int)} {k : Nat} {t u t' u' : Int}
theorem okAt_time (e : Hid (l.getD k (0, 0) = (t, u))) (g : inR t 0 1000 = false) : okAt l k = false := by unfold okAt; rw [e.out]; simp [g]
theorem okAt_pitch (e : Hid (l.getD k (0, 0) = (t, u))) (g : inR u 0 60 = false) : okAt l k = false := by unfold okAt; rw [e.out]; simp [g]
theorem okAt_next (hk : 0 < k) (e : Hid (l.getD k (0, 0) = (t, u))) (e' : Hid (l.getD (k - 1) (0, 0) = (t', u'))) (g1 : inR t 0 1000 = true) (g2 : inR u 0 60 = true) : okAt l k = less2 t' u' t u := by
  unfold okAt; rw [e.out, e'.out]; simp [g1, g2]; omega
theorem okAt_first (hk : ¬ 0 < k) (e : Hid (l.getD k (0, 0) = (t, u))) (g1 : inR t 0 1000 = true) (g2 : inR u 0 60 = true) : okAt l k = true := by
  unfold okAt; rw [e.out]; simp [g1, g2]; omega
theorem all_next {p : Nat → Bool} (h : Hid (∀ j, j < k → p j = true)) (hk : p k = true) : Hid (∀ j, j < k + 1 → p j = true) := fun j hj => by
  rcases Nat.lt_or_ge j k with hlt | hge
  · exact h.out j hlt
  · have : j = k := by omega
    subst this; exact hk
end

/-! ## The walks -/
end Go.Proofs.Ytdajodglopiahaa
