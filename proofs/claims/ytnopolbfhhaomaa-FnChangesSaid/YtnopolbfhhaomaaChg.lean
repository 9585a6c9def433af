/- sorted, changed and l03Move: what they answer. -/
import Derived.Test.YtnopolbfhhaomaaCmpt
import Derived.Test.YtnopolbfhhaomaaTuneR
import Derived.Deep.RegionHeld3
namespace Go.Proofs.Ytnopolbfhhaomaa
open Go.RowKit

/-! ## Plain notions -/
theorem okAt_parts {l : List (Int × Int)} {k : Nat} (h : okAt l k = true) : inR (l.getD k (0, 0)).1 0 1000 = true ∧ inR (l.getD k (0, 0)).2 0 60 = true ∧ (k = 0 ∨ lt2 (l.getD (k - 1) (0, 0)) (l.getD k (0, 0))) := by
  unfold okAt at h
  simp only [Bool.and_eq_true, Bool.or_eq_true, beq_iff_eq] at h
  refine ⟨h.1.1, h.1.2, ?_⟩
  rcases h.2 with h | h
  · exact .inl h
  · exact .inr (less2_true h)
theorem tuneOk_parts {l : List (Int × Int)} (h : tuneOk l = true) : l.length ≤ 40 ∧ ∀ k, k < l.length → okAt l k = true := by
  unfold tuneOk at h
  simp only [Bool.and_eq_true, decide_eq_true_eq, List.all_eq_true, List.mem_range] at h
  exact h
theorem getD_get {l : List (Int × Int)} {k : Nat} (h : k < l.length) : l.getD k (0, 0) = l[k] := by
  rw [List.getD_eq_getElem?_getD, List.getElem?_eq_getElem h]; rfl
theorem tuneOk_si {l : List (Int × Int)} (h : tuneOk l = true) : SI l := by
  obtain ⟨_, h2⟩ := tuneOk_parts h
  have key : ∀ i d, i + d + 1 < l.length → lt2 (l.getD i (0, 0)) (l.getD (i + d + 1) (0, 0)) := by
    intro i d
    induction d with
    | zero =>
      intro hd
      rcases (okAt_parts (h2 (i + 1) (by omega))).2.2 with e | e
      · omega
      · rw [show i + 1 - 1 = i by omega] at e; exact e
    | succ d ih =>
      intro hd
      refine lt2_trans (ih (by omega)) ?_
      rcases (okAt_parts (h2 (i + (d + 1) + 1) (by omega))).2.2 with e | e
      · omega
      · rw [show i + (d + 1) + 1 - 1 = i + d + 1 by omega] at e; exact e
  refine List.pairwise_iff_getElem.2 fun i j hi hj hij => ?_
  have := key i (j - i - 1) (by omega)
  rw [show i + (j - i - 1) + 1 = j by omega, getD_get hi, getD_get hj] at this
  exact this
theorem tuneOk_mem {l : List (Int × Int)} (h : tuneOk l = true) {p : Int × Int} (hp : p ∈ l) : (0 ≤ p.1 ∧ p.1 ≤ 1000) ∧ 0 ≤ p.2 ∧ p.2 ≤ 60 := by
  obtain ⟨j, h1, h2⟩ := mem_getD.2 hp
  have := okAt_parts ((tuneOk_parts h).2 j h1)
  rw [h2] at this
  exact ⟨inR_true this.1, inR_true this.2.1⟩
theorem tuneOk_of {l : List (Int × Int)} (h1 : l.length ≤ 40) (h2 : SI l) (h3 : ∀ p, p ∈ l → (0 ≤ p.1 ∧ p.1 ≤ 1000) ∧ 0 ≤ p.2 ∧ p.2 ≤ 60) : tuneOk l = true := by
  have hall : ∀ j, j < l.length → okAt l j = true := by
    intro k hk
    obtain ⟨⟨a1, a2⟩, a3, a4⟩ := h3 _ (mem_getD.1 ⟨k, hk, rfl⟩)
    unfold okAt
    rw [inR_of a1 a2, inR_of a3 a4]
    rcases Nat.eq_zero_or_pos k with e | e
    · simp [e]
    · have := List.pairwise_iff_getElem.1 h2 (k - 1) k (by omega) hk (by omega)
      rw [← getD_get (show k - 1 < l.length by omega), ← getD_get hk] at this
      simp only [Bool.true_and, Bool.or_eq_true, beq_iff_eq]
      exact .inr (by unfold less2; exact decide_eq_true this)
  rw [tuneOk_all (Nat.le_refl _) (h := hall), decide_eq_true h1]
def movedL (l : List (Int × Int)) (b : Bool) (f : Int × Int → Int × Int) : List (Int × Int) := if tuneOk l = true ∧ b = true ∧ tuneOk (sortU (l.map f)) = true then sortU (l.map f) else l
def movedOk (l : List (Int × Int)) (b : Bool) (f : Int × Int → Int × Int) : Bool := tuneOk l && (b && tuneOk (sortU (l.map f)))
theorem moved_no {l : List (Int × Int)} {b : Bool} {f : Int × Int → Int × Int} (h : ¬ (tuneOk l = true ∧ b = true ∧ tuneOk (sortU (l.map f)) = true)) : movedL l b f = l ∧ movedOk l b f = false := by
  refine ⟨if_neg h, ?_⟩
  unfold movedOk
  cases h1 : tuneOk l <;> cases h2 : b <;> cases h3 : tuneOk (sortU (l.map f)) <;> simp_all
theorem moved_yes {l : List (Int × Int)} {b : Bool} {f : Int × Int → Int × Int} (h1 : tuneOk l = true) (h2 : b = true) (h3 : tuneOk (sortU (l.map f)) = true) : movedL l b f = sortU (l.map f) ∧ movedOk l b f = true := by
  refine ⟨if_pos ⟨h1, h2, h3⟩, ?_⟩
  unfold movedOk
  rw [h1, h2, h3]; rfl
theorem si_map {l : List (Int × Int)} {f : Int × Int → Int × Int} (h : SI l) (hf : ∀ p q, lt2 p q → lt2 (f p) (f q)) : SI (l.map f) := List.Pairwise.map f (fun p q => hf p q) h
theorem map_take {l : List (Int × Int)} {f : Int × Int → Int × Int} {k : Nat} {x y : Int} (hk : k < l.length) (e : Hid (l.getD k (0, 0) = (x, y))) : (l.map f).take (k + 1) = (l.map f).take k ++ [f (x, y)] := by
  rw [List.take_succ_eq_append_getElem (by simpa using hk), List.getElem_map, ← getD_get hk, e.out]
theorem wrap_small {x : Int} (h1 : -1000000000 ≤ x) (h2 : x ≤ 1000000000) : IntKind.i64.wrap x = x := by
  simp [IntKind.wrap, IntKind.bits, IntKind.signed]; omega
theorem ret_sb2 {B : Option Addr} {n m d : Nat} {a b : Bool} (h : n = m) (h2 : a = b) : Ending.returned (.tuple #[.slice B n d, .bool a]) = .returned (.tuple #[.slice B m d, .bool b]) := by rw [h, h2]
theorem new_pair {w : World} {x y : Int} {T : TypeId} : RP (w.alloc (.cells #[.int .i64 x, .int .i64 y] T)) (some ⟨w.heap.size, 0, none⟩) [(x, y)] := by
  have hh := heap_alloc_new w (.cells #[.int .i64 x, .int .i64 y] T)
  refine ⟨by simp, fun _ => ⟨w.heap.size, 0, rfl, by simp, fun j hj => ?_⟩⟩
  have : j = 0 := by simpa using hj
  subst this
  exact ⟨cell_of_row _ _ 0 _ _ _ hh, cell_of_row _ _ 1 _ _ _ hh⟩
theorem impl_sorted {l : List (Int × Int)} {A : Option Addr} {c : Nat} {w : World} (h : RP w A l) :
    Calls Try.prog 30 #[.slice A l.length c] w fun e w' => ∃ g d, e = .returned (.slice (some ⟨g, 0, none⟩) (sortU l).length d) ∧ OwnP 34 w.heap.size w'.heap.size w' (some ⟨g, 0, none⟩) d (sortU l) ∧ Below w.heap.size w w' := by
  have H := Lib.hid h; clear h
  go_enter Try.func30, Try.ntmps30
  go_wp2_with fail
  refine (impl_copyNotes H.out).mono ?_
  rintro e w1 ⟨g, d, rfl, O, hq⟩
  go_wp2_with fail
  refine (sort_notes O).mono ?_
  rintro e w2 ⟨rfl, m, hperm, hsrt, O2, hk⟩
  have hml := hperm.length_eq
  have hded := Lib.hid (ded_sortU hperm hsrt)
  have hcon := compact_notes O2
  rw [hded.out, hml] at hcon
  have HC := Lib.hid hcon
  have hbel := hq.trans (hk.below hq.size (Nat.le_refl _))
  clear hcon O O2 hq hk hded hsrt hperm hml
  go_wp2_with fail
  refine HC.out.mono ?_
  rintro e w3 ⟨rfl, O3, hk3⟩
  go_wp2
  go_ret
  exact ⟨_, _, rfl, O3.hi_mono (Nat.le_trans O3.le (Nat.le_refl _)) (Nat.le_refl _), hbel.trans (hk3.below hbel.size (Nat.le_refl _))⟩
end Go.Proofs.Ytnopolbfhhaomaa
