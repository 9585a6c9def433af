/- Lasts, PitchRange, NotesAt, SameTune, SampleTune: what they answer, and that the program's and the reference's functions answer it. -/
import Derived.Test.YtkipgjllgmjipaaTune
import Derived.Test.YtkipgjllgmjipaaIntS
namespace Go.Proofs.Ytkipgjllgmjipaa
open Go.RowKit

/-! ## Plain notions -/
theorem okAt_of {l : List (Int × Int)} (h : tuneOk l = true) {k : Nat} (hk : k < l.length) : okAt l k = true := by
  unfold tuneOk at h
  simp only [Bool.and_eq_true, List.all_eq_true, List.mem_range] at h
  exact h.2 k hk
theorem tuneOk_length {l : List (Int × Int)} (h : tuneOk l = true) : l.length ≤ 40 := by
  unfold tuneOk at h
  simp only [Bool.and_eq_true, decide_eq_true_eq] at h
  exact h.1
theorem tuneOk_range {l : List (Int × Int)} (h : tuneOk l = true) {k : Nat} (hk : k < l.length) {t u : Int} (e : Hid (l.getD k (0, 0) = (t, u))) : (0 ≤ t ∧ t ≤ 1000) ∧ 0 ≤ u ∧ u ≤ 60 := by
  have := okAt_of h hk
  unfold okAt at this
  rw [e.out] at this
  simp only [Bool.and_eq_true] at this
  exact ⟨inR_true this.1.1, inR_true this.1.2⟩
def lastsM (l : List (Int × Int)) : Int := if tuneOk l = true then (if l.length = 0 then 0 else (l.getD (l.length - 1) (0, 0)).1 - (l.getD 0 (0, 0)).1) else -1
def sampleL : List (Int × Int) := [(0, 12), (2, 16), (4, 12), (4, 19), (6, 16)]

/-- What f picks of the first k notes. -/
def pickTo (f : Int × Int → Option Int) (l : List (Int × Int)) : Nat → List Int
  | 0 => []
  | k + 1 => pickTo f l k ++ (f (l.getD k (0, 0))).toList
theorem pickTo_yes {f : Int × Int → Option Int} {l : List (Int × Int)} {k : Nat} {t u x : Int} (e : Hid (l.getD k (0, 0) = (t, u))) (h : f (t, u) = some x) : pickTo f l (k + 1) = pickTo f l k ++ [x] := by
  simp only [pickTo, e.out, h, Option.toList_some]
theorem pickTo_no {f : Int × Int → Option Int} {l : List (Int × Int)} {k : Nat} {t u : Int} (e : Hid (l.getD k (0, 0) = (t, u))) (h : f (t, u) = none) : pickTo f l (k + 1) = pickTo f l k := by
  simp only [pickTo, e.out, h, Option.toList_none, List.append_nil]
theorem length_pickTo (f : Int × Int → Option Int) (l : List (Int × Int)) : ∀ k, (pickTo f l k).length ≤ k
  | 0 => Nat.le_refl _
  | k + 1 => by
    have := length_pickTo f l k
    have h1 : (f (l.getD k (0, 0))).toList.length ≤ 1 := by cases f (l.getD k (0, 0)) <;> simp
    simp only [pickTo, List.length_append]; omega
def atTime (x : Int) (p : Int × Int) : Option Int := if p.1 = x then some p.2 else none
def notesAt (l : List (Int × Int)) (x : Int) : List Int := if tuneOk l = true then pickTo (atTime x) l l.length else []

/-! ## The walks -/
theorem own_sample {e : TypeId} {w : World} : OwnP e w.heap.size (w.alloc (.cells (pcells sampleL).toArray e)).heap.size (w.alloc (.cells (pcells sampleL).toArray e)) (some ⟨w.heap.size, 0, none⟩) 5 sampleL := by
  have h := World.ownsRow_lit (base := w.heap.size) (e := e) (size := 2) w (pcells sampleL).toArray 5 (Nat.le_refl _) (by simp [maxLen]) rfl
  exact ⟨h, fun a ha => by injection ha with ha; subst ha; simp, Nat.le_refl _, by simp [sampleL]⟩
end Go.Proofs.Ytkipgjllgmjipaa
