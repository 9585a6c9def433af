/- The law's own helpers over lists of ints: copy, compare, mark, look again. -/
import Derived.Test.YtkipgjllgmjipaaNum
namespace Go.Proofs.Ytkipgjllgmjipaa
open Go.RowKit
theorem int_info : (Try.prog.info? 3).map (fun i => (i.zero, i.size, i.bytes)) = some (some (.int .i64 0), 1, 8) := by kernel_rfl
theorem laws_eqIntS {l : List Int} {A B : Option Addr} {c d : Nat} {w : World} (h1 : RI w A l) (h2 : RI w B l) :
    Calls Try.prog 40 #[.slice A l.length c, .slice B l.length d] w fun e w' => e = .returned (.bool true) ∧ Below w.heap.size w w' := by
  obtain ⟨hn, hA⟩ := h1
  obtain ⟨_, hB⟩ := h2
  have HA := Lib.hid hA; clear hA
  have HB := Lib.hid hB; clear hB
  go_enter Try.func40, Try.ntmps40
  go_wp2
  go_loopw [5] (fun i wr => ∃ k : Nat, k ≤ l.length ∧ i = .int .i64 k ∧ Below w.heap.size w wr) (fun i _ => l.length - (intOf i).toNat)
  case atStart => exact ⟨0, Nat.zero_le _, rfl, Below.refl _ _⟩
  case round =>
    obtain ⟨k, hk, rfl, hbel⟩ := hrel
    by_cases hlt : k < l.length
    · obtain ⟨b, off, rfl, hP⟩ := HA.out (by omega)
      obtain ⟨b', off', rfl, hP'⟩ := HB.out (by omega)
      obtain ⟨t, e1⟩ := int_of l k
      have c1 := hP.a1 hbel hlt e1
      have d1 := hP'.a1 hbel hlt e1
      clear hP hP'
      go_wp2_with fail
      refine wp_region_after (by kernel_rfl) (by kernel_rfl) ?_
      repeat (go_big_quiet_step (fail))
      refine wpQuiet_nil ?_
      rintro _ ⟨⟨wq, hq⟩, rfl⟩
      replace hbel := bthen hbel hq
      clear hq
      go_wp2
      go_roundw
      case rel => exact ⟨k + 1, by omega, by go_num, hbel⟩
      case measure => simp [intOf]; omega
    · go_wp2
      go_ret
      exact ⟨rfl, hbel⟩
theorem fillI_up {q : Int} {n : Nat} {m : List Int} (h : m.length = n) {k : Nat} (hk : k < n) {x : Int} (hx : x = q + (k : Int)) : (fill (upI q n) m k).set k x = fill (upI q n) m (k + 1) := by
  rw [← fill_set (upI q n) m k (by rw [length_upI]; exact h) (by rw [length_upI]; exact hk) 0, upI_at q n k hk, hx]
set_option maxHeartbeats 400000 in
theorem laws_markIntS {e : TypeId} {lo hi : Nat} {q : Int} {l : List Int} {A : Option Addr} {c : Nat} {w : World} (h : OwnI e lo hi w A c l) (hq : 0 ≤ q) (hq2 : q ≤ 1048576 * 1048576) :
    Calls Try.prog 53 #[.slice A l.length c, .int .i64 q] w fun r w' => r = .returned (.int .i64 (q + l.length)) ∧ OwnI e lo hi w' A c (upI q l.length) ∧ Kept lo hi w w' := by
  have hn := h.small
  have H := Lib.hid h; clear h
  obtain ⟨n, hnl⟩ : ∃ n, n = l.length := ⟨_, rfl⟩
  rw [← hnl] at hn ⊢
  have HL := Lib.hid hnl; clear hnl
  go_enter Try.func53, Try.ntmps53
  go_wp2
  go_loopw [1, 5] (fun v i wr => ∃ k : Nat, k ≤ n ∧ i = .int .i64 k ∧ v = .int .i64 (q + (k : Int)) ∧ OwnI e lo hi wr A c (fill (upI q n) l k) ∧ Kept lo hi w wr) (fun _ i _ => n - (intOf i).toNat)
  case atStart => exact ⟨0, Nat.zero_le _, rfl, by simp, by rw [fill_zero]; exact H.out, Kept.refl _ _ _⟩
  case round =>
    obtain ⟨k, hk, rfl, rfl, hown, hkept⟩ := hrel
    by_cases hlt : k < n
    · have hlen : (fill (upI q n) l k).length = n := by rw [length_fill _ _ _ (by rw [length_upI, HL.out]), length_upI]
      obtain ⟨g, rfl, hg1, hg2, _, _⟩ := hown.form (by omega)
      obtain ⟨s1, s2⟩ := hown.slot (k := k) (by omega)
      have hown' := Lib.hid hown; clear hown
      have hlen' := Lib.hid hlen; clear hlen
      go_wp2
      go_roundw
      case rel =>
        refine ⟨k + 1, by omega, by go_num, by go_num, ?_, hkept.setCell (p := ⟨g, _, none⟩) hg1 hg2 _⟩
        have h := hown'.out.stored k (q + (k : Int))
        rw [fillI_up HL.out.symm hlt rfl] at h
        exact h
      case measure => simp [intOf]; omega
    · obtain rfl : k = n := by omega
      have hf : fill (upI q k) l k = upI q k := by
        have := fill_all (upI q k) l (by rw [length_upI, HL.out])
        rwa [length_upI] at this
      rw [hf] at hown
      clear hf
      go_wp2
      go_ret
      exact ⟨rfl, hown, hkept⟩
set_option maxHeartbeats 400000 in
theorem laws_toIntS {l : List Int} {A : Option Addr} {c : Nat} {w : World} (h : RI w A l) :
    Calls Try.prog 38 #[.slice A l.length c] w fun e w' => ∃ B d, e = .returned (.slice B l.length d) ∧ OwnI 3 w.heap.size w'.heap.size w' B d l ∧ Below w.heap.size w w' := by
  obtain ⟨hn, hA⟩ := h
  have HA := Lib.hid hA; clear hA
  have hmk := run_makeN (P := Try.prog) 41 3 _ 1 8 Try.underlying41 int_info l.length (by omega) hn
  go_enter Try.func38, Try.ntmps38
  go_wp2
  clear hmk
  generalize hW : World.alloc w _ = W1
  obtain ⟨hown, hb1, hlt1⟩ := own_made1 hW hn
  clear hW
  go_loopw [4] (fun i wr => ∃ k : Nat, k ≤ l.length ∧ i = .int .i64 k ∧ OwnI 3 w.heap.size (w.heap.size + 1) wr (some ⟨w.heap.size, 0, none⟩) l.length (fill l (List.replicate l.length 0) k) ∧ Below w.heap.size w wr) (fun i _ => l.length - (intOf i).toNat)
  case atStart => exact ⟨0, Nat.zero_le _, rfl, by rw [fill_zero]; exact ⟨hown.row, fun a ha => by injection ha with ha; subst ha; exact Nat.lt_succ_self _, hlt1, hown.small⟩, hb1⟩
  clear hown hb1 hlt1
  case round =>
    obtain ⟨k, hk, rfl, hown, hbel⟩ := hrel
    by_cases hlt : k < l.length
    · obtain ⟨b, off, rfl, hP⟩ := HA.out (by omega)
      have HP := Lib.hid hP; clear hP
      obtain ⟨t, e1⟩ := int_of l k
      have c1 := HP.out.c1 hbel hlt e1
      obtain ⟨s1, s2⟩ := hown.slot (k := k) (by rw [length_fill _ _ _ (by simp)]; exact hlt)
      have hown' := Lib.hid hown; clear hown
      go_wp2
      go_roundw
      case rel =>
        refine ⟨k + 1, by omega, by go_num, ?_, hbel.setCell (p := ⟨w.heap.size, _, none⟩) (Nat.le_refl _) _⟩
        have h := hown'.out.stored k t
        rw [← e1.out, fill_set _ _ _ (by simp) hlt, e1.out] at h
        exact h
      case measure => simp [intOf]; omega
    · obtain rfl : k = l.length := by omega
      rw [fill_all _ _ (by simp)] at hown
      go_wp2
      go_ret
      exact ⟨_, _, rfl, hown.hi_mono hown.le (Nat.le_refl _), hbel⟩
end Go.Proofs.Ytkipgjllgmjipaa
