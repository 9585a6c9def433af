/- The laws' helpers that copy and look again at cylinders. -/
import Derived.Test.YtkipgjllgmjipaaCyl
import Derived.Test.YtkipgjllgmjipaaBase2
namespace Go.Proofs.Ytkipgjllgmjipaa
open Go.RowKit
theorem new_frozen {wr W : World} {cs : Array Value} {T : TypeId} (h : wr.alloc (.cells cs T) = W) (o : Nat) : W.frozen? ⟨wr.heap.size, o, none⟩ = false := by
  subst h; simp
theorem OwnP.capC {e : TypeId} {lo hi : Nat} {w : World} {A : Option Addr} {c : Nat} {l : List (Int × Int)} (h : OwnP e lo hi w A c l) : l.length ≤ c := by
  rcases h.row.2 with ⟨_, hn⟩ | ⟨g, cap, cur, hv, _, _, hc, _⟩
  · omega
  · injection hv with _ _ h3
    omega
set_option maxHeartbeats 400000 in
theorem laws_toCylinder {s t : Int} {l : List (Int × Int)} {A : Option Addr} {c : Nat} {w : World} (h : RP w A l) :
    Calls Try.prog 43 #[.agg #[.int .i64 s, .int .i64 t, .slice A l.length c]] w fun e w' => ∃ B d, e = .returned (.agg #[.int .i64 s, .int .i64 t, .slice B l.length d]) ∧ OwnP 63 w.heap.size w'.heap.size w' B d l ∧ Below w.heap.size w w' := by
  have H := Lib.hid h; clear h
  go_enter Try.func43, Try.ntmps43
  go_wp2_with fail
  generalize hW1 : World.alloc w _ = W1
  obtain ⟨b1, z1, _, _, _⟩ := new3c hW1
  generalize hW2 : World.alloc W1 _ = W2
  obtain ⟨b2, z2, p0, p1, p2⟩ := new3c hW2
  have q0 := new_frozen hW2 0; have q1 := new_frozen hW2 1; have q2 := new_frozen hW2 2
  generalize hW3 : World.alloc W2 _ = W3
  obtain ⟨b3, z3, r0, r1, r2⟩ := new3c hW3
  have t2 := new_frozen hW3 2
  rw [z1] at p0 p1 p2 q0 q1 q2
  rw [z2, z1] at r0 r1 r2 t2
  clear hW1 hW2 hW3
  have hb : Below w.heap.size w W3 := bthen (bthen b1 b2) b3
  refine (laws_toPinS (H.out.below hb)).mono ?_
  rintro e wq ⟨B, d, rfl, O, hq⟩
  have p0' := cell_later p0 (bthen b3 hq); have p1' := cell_later p1 (bthen b3 hq); have p2' := cell_later p2 (bthen b3 hq)
  have q0' := ((bthen b3 hq).frozen (p := ⟨w.heap.size + 1, 0, none⟩) (by simp only; omega)).trans q0
  have q1' := ((bthen b3 hq).frozen (p := ⟨w.heap.size + 1, 1, none⟩) (by simp only; omega)).trans q1
  have q2' := ((bthen b3 hq).frozen (p := ⟨w.heap.size + 1, 2, none⟩) (by simp only; omega)).trans q2
  have r0' := cell_later r0 hq; have r1' := cell_later r1 hq; have r2' := cell_later r2 hq
  have t2' := (hq.frozen (p := ⟨w.heap.size + 1 + 1, 2, none⟩) (by simp only; omega)).trans t2
  have O' := Lib.hid O
  clear p0 p1 p2 q0 q1 q2 r0 r1 r2 t2 O
  have hz := hq.size
  have hlow := hb.trans (hq.mono hb.size)
  clear hb hq b1 b2 b3
  have HB := Lib.hid hlow; clear hlow
  have Z := Lib.hid (And.intro hz (And.intro z1 (And.intro z2 z3)))
  clear hz z1 z2 z3
  go_wp2
  refine bodyPost_ret (v := .agg #[.int .i64 s, .int .i64 t, .slice B l.length d]) (by simp [results, Try.results43, go_sem, *]) rfl ?_
  obtain ⟨hz, z1, z2, z3⟩ := Z.out
  have K := ((((Kept.refl (w.heap.size + 1) (w.heap.size + 3) wq).setCell (p := ⟨w.heap.size + 1 + 1, 2, none⟩) (by simp only; omega) (by simp only; omega) (.slice B l.length d)).setCell (p := ⟨w.heap.size + 1, 0, none⟩) (by simp only; omega) (by simp only; omega) (.int .i64 s)).setCell (p := ⟨w.heap.size + 1, 1, none⟩) (by simp only; omega) (by simp only; omega) (.int .i64 t)).setCell (p := ⟨w.heap.size + 1, 2, none⟩) (by simp only; omega) (by simp only; omega) (.slice B l.length d)
  have O2 := (O'.out.kept K (.inr (by omega))).lo_mono (lo' := w.heap.size) (by omega)
  exact ⟨B, d, rfl, O2.hi_mono K.size (Nat.le_refl _), HB.out.trans (K.below (by omega) (by omega))⟩
theorem laws_heldCylinder {q s t : Int} {n : Nat} {A : Option Addr} {c : Nat} {w : World} (h : RP w A (upP q n)) (hq : 0 ≤ q) (hq2 : q ≤ 1048576 * 1048576) :
    Calls Try.prog 47 #[.agg #[.int .i64 s, .int .i64 t, .slice A n c], .int .i64 q] w fun e w' => e = .returned (.int .i64 (q + 2 * n)) ∧ Below w.heap.size w w' := by
  have hn := h.1
  rw [length_upP] at hn
  have H := Lib.hid h; clear h
  go_enter Try.func47, Try.ntmps47
  go_wp2_with fail
  refine (laws_heldPinS (H.out.below (bnew (Below.refl _ _) _)) hq hq2).mono ?_
  rintro e w1 ⟨rfl, hb⟩
  go_wp2
  go_ret
  exact ⟨rfl, bthen (bnew (Below.refl _ _) _) hb⟩
end Go.Proofs.Ytkipgjllgmjipaa
