/- The law's own helpers that make a copy of a list of notes and that write into one. -/
import Derived.Test.YtkipgjllgmjipaaTune
namespace Go.Proofs.Ytkipgjllgmjipaa
open Go.RowKit
theorem notes_info : (Try.prog.info? 38).map (fun i => (i.zero, i.size, i.bytes)) = some (some (.agg #[.int .i64 0, .int .i64 0]), 2, 16) := by kernel_rfl
set_option maxHeartbeats 400000 in
theorem laws_toNoteS {l : List (Int × Int)} {A : Option Addr} {c : Nat} {w : World} (h : RP w A l) :
    Calls Try.prog 17 #[.slice A l.length c] w fun e w' => ∃ B d, e = .returned (.slice B l.length d) ∧ OwnP 38 w.heap.size w'.heap.size w' B d l ∧ Below w.heap.size w w' := by
  obtain ⟨hn, hA⟩ := h
  have HA := Lib.hid hA; clear hA
  have hmk := run_makeN (P := Try.prog) 24 38 _ 2 16 Try.underlying24 notes_info l.length (by omega) hn
  go_enter Try.func17, Try.ntmps17
  go_wp2
  clear hmk
  generalize hW : World.alloc w _ = W1
  obtain ⟨hown, hb1, hlt1⟩ := own_made2 hW hn
  clear hW
  go_loopw [4] (fun i wr => ∃ k : Nat, k ≤ l.length ∧ i = .int .i64 k ∧ OwnP 38 w.heap.size (w.heap.size + 1) wr (some ⟨w.heap.size, 0, none⟩) l.length (fill l (List.replicate l.length (0, 0)) k) ∧ Below w.heap.size w wr) (fun i _ => l.length - (intOf i).toNat)
  case atStart => exact ⟨0, Nat.zero_le _, rfl, by rw [fill_zero]; exact ⟨hown.row, fun a ha => by injection ha with ha; subst ha; exact Nat.lt_succ_self _, hlt1, hown.small⟩, hb1⟩
  clear hown hb1 hlt1
  case round =>
    obtain ⟨k, hk, rfl, hown, hbel⟩ := hrel
    by_cases hlt : k < l.length
    · obtain ⟨b, off, rfl, hP⟩ := HA.out (by omega)
      have HP := Lib.hid hP; clear hP
      obtain ⟨t, u, e1⟩ := pair_of l k
      have c1 := HP.out.c1 hbel hlt e1
      have c2 := HP.out.c2 hbel hlt e1
      have hown' := Lib.hid hown; clear hown
      go_wp2_with (go_at_call 35; refine (laws_toNote).mono ?_; rintro e wq ⟨rfl, hq⟩; obtain ⟨x, y, s1, s2, s3, s4⟩ := (hown'.out.below hq hown'.out.le).slot (k := k) (by rw [length_fill _ _ _ (by simp)]; exact hlt))
      go_roundw
      case rel =>
        refine ⟨k + 1, by omega, by go_num, ?_, ((bthen hbel hq).setCell (p := ⟨w.heap.size, _, none⟩) (Nat.le_refl _) _).setCell (p := ⟨w.heap.size, _, none⟩) (Nat.le_refl _) _⟩
        have h := (hown'.out.below hq hown'.out.le).stored k t u
        rw [← e1.out, fill_set _ _ _ (by simp) hlt] at h
        exact h
      case measure => simp [intOf]; omega
    · obtain rfl : k = l.length := by omega
      rw [fill_all _ _ (by simp)] at hown
      go_wp2
      go_ret
      exact ⟨_, _, rfl, hown.hi_mono hown.le (Nat.le_refl _), hbel⟩
theorem fillP_up {q : Int} {n : Nat} {m : List (Int × Int)} (h : m.length = n) {k : Nat} (hk : k < n) {x y : Int} (hx : x = q + 2 * (k : Int)) (hy : y = q + 2 * (k : Int) + 1) : (fill (upP q n) m k).set k (x, y) = fill (upP q n) m (k + 1) := by
  rw [← fill_set (upP q n) m k (by rw [length_upP]; exact h) (by rw [length_upP]; exact hk) (0, 0), upP_at q n k hk, hx, hy]
set_option maxHeartbeats 400000 in
theorem laws_markNoteS {e : TypeId} {lo hi : Nat} {q : Int} {l : List (Int × Int)} {A : Option Addr} {c : Nat} {w : World} (h : OwnP e lo hi w A c l) (hq : 0 ≤ q) (hq2 : q ≤ 1048576 * 1048576) :
    Calls Try.prog 20 #[.slice A l.length c, .int .i64 q] w fun r w' => r = .returned (.int .i64 (q + 2 * l.length)) ∧ OwnP e lo hi w' A c (upP q l.length) ∧ Kept lo hi w w' := by
  have hn := h.small
  have H := Lib.hid h; clear h
  obtain ⟨n, hnl⟩ : ∃ n, n = l.length := ⟨_, rfl⟩
  rw [← hnl] at hn ⊢
  have HL := Lib.hid hnl; clear hnl
  go_enter Try.func20, Try.ntmps20
  go_wp2
  go_loopw [1, 5] (fun v i wr => ∃ k : Nat, k ≤ n ∧ i = .int .i64 k ∧ v = .int .i64 (q + 2 * (k : Int)) ∧ OwnP e lo hi wr A c (fill (upP q n) l k) ∧ Kept lo hi w wr) (fun _ i _ => n - (intOf i).toNat)
  case atStart => exact ⟨0, Nat.zero_le _, rfl, by simp, by rw [fill_zero]; exact H.out, Kept.refl _ _ _⟩
  case round =>
    obtain ⟨k, hk, rfl, rfl, hown, hkept⟩ := hrel
    by_cases hlt : k < n
    · have hlen : (fill (upP q n) l k).length = n := by rw [length_fill _ _ _ (by rw [length_upP, HL.out]), length_upP]
      obtain ⟨g, rfl, hg1, hg2, _, _⟩ := hown.form (by omega)
      obtain ⟨x, y, s1, s2, s3, s4⟩ := hown.slot (k := k) (by omega)
      have hown' := Lib.hid hown; clear hown
      have hlen' := Lib.hid hlen; clear hlen
      go_wp2
      go_roundw
      case rel =>
        refine ⟨k + 1, by omega, by go_num, by go_num, ?_, (hkept.setCell (p := ⟨g, _, none⟩) hg1 hg2 _).setCell (p := ⟨g, _, none⟩) hg1 hg2 _⟩
        have h := hown'.out.stored k (q + 2 * (k : Int)) (q + 2 * (k : Int) + 1)
        rw [fillP_up HL.out.symm hlt rfl rfl] at h
        exact h
      case measure => simp [intOf]; omega
    · obtain rfl : k = n := by omega
      have hf : fill (upP q k) l k = upP q k := by
        have := fill_all (upP q k) l (by rw [length_upP, HL.out])
        rwa [length_upP] at this
      rw [hf] at hown
      clear hf
      go_wp2
      go_ret
      exact ⟨rfl, hown, hkept⟩
end Go.Proofs.Ytkipgjllgmjipaa
