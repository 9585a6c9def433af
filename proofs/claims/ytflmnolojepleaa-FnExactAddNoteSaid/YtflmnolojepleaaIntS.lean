/- The law's own helpers over lists of ints: copy, compare, mark, look again. -/
import Derived.Test.YtflmnolojepleaaNum
namespace Go.Proofs.Ytflmnolojepleaa
open Go.RowKit
theorem int_info : (Try.prog.info? 3).map (fun i => (i.zero, i.size, i.bytes)) = some (some (.int .i64 0), 1, 8) := by kernel_rfl
theorem laws_eqIntS {l : List Int} {A B : Option Addr} {c d : Nat} {w : World} (h1 : RI w A l) (h2 : RI w B l) :
    Calls Try.prog 49 #[.slice A l.length c, .slice B l.length d] w fun e w' => e = .returned (.bool true) ∧ Below w.heap.size w w' := by
  obtain ⟨hn, hA⟩ := h1
  obtain ⟨_, hB⟩ := h2
  have HA := Lib.hid hA; clear hA
  have HB := Lib.hid hB; clear hB
  go_enter Try.func49, Try.ntmps49
  go_wp2
  go_loopw [5] (fun i wr => ∃ k : Nat, k ≤ l.length ∧ i = .int .i64 k ∧ Below w.heap.size w wr) (fun i _ => l.length - (intOf i).toNat)
  case atStart => exact ⟨0, Nat.zero_le _, rfl, Below.refl _ _⟩
  case round =>
    obtain ⟨k, hk, rfl, hbel⟩ := hrel
    by_cases hlt : k < l.length
    · obtain ⟨b, off, rfl, hP⟩ := HA.out (by omega)
      obtain ⟨b', off', rfl, hP'⟩ := HB.out (by omega)
      obtain ⟨t, e1⟩ := int_of l k
      have c1 := hP.a1 hbel hlt e1
      have d1 := hP'.a1 hbel hlt e1
      clear hP hP'
      go_wp2_with fail
      refine wp_region_after (by kernel_rfl) (by kernel_rfl) ?_
      repeat (go_big_quiet_step (fail))
      refine wpQuiet_nil ?_
      rintro _ ⟨⟨wq, hq⟩, rfl⟩
      replace hbel := bthen hbel hq
      clear hq
      go_wp2
      go_roundw
      case rel => exact ⟨k + 1, by omega, by go_num, hbel⟩
      case measure => simp [intOf]; omega
    · go_wp2
      go_ret
      exact ⟨rfl, hbel⟩
set_option maxHeartbeats 400000 in
theorem laws_toIntS {l : List Int} {A : Option Addr} {c : Nat} {w : World} (h : RI w A l) :
    Calls Try.prog 47 #[.slice A l.length c] w fun e w' => ∃ B d, e = .returned (.slice B l.length d) ∧ OwnI 3 w.heap.size w'.heap.size w' B d l ∧ Below w.heap.size w w' := by
  obtain ⟨hn, hA⟩ := h
  have HA := Lib.hid hA; clear hA
  have hmk := run_makeN (P := Try.prog) 46 3 _ 1 8 Try.underlying46 int_info l.length (by omega) hn
  go_enter Try.func47, Try.ntmps47
  go_wp2
  clear hmk
  generalize hW : World.alloc w _ = W1
  obtain ⟨hown, hb1, hlt1⟩ := own_made1 hW hn
  clear hW
  go_loopw [4] (fun i wr => ∃ k : Nat, k ≤ l.length ∧ i = .int .i64 k ∧ OwnI 3 w.heap.size (w.heap.size + 1) wr (some ⟨w.heap.size, 0, none⟩) l.length (fill l (List.replicate l.length 0) k) ∧ Below w.heap.size w wr) (fun i _ => l.length - (intOf i).toNat)
  case atStart => exact ⟨0, Nat.zero_le _, rfl, by rw [fill_zero]; exact ⟨hown.row, fun a ha => by injection ha with ha; subst ha; exact Nat.lt_succ_self _, hlt1, hown.small⟩, hb1⟩
  clear hown hb1 hlt1
  case round =>
    obtain ⟨k, hk, rfl, hown, hbel⟩ := hrel
    by_cases hlt : k < l.length
    · obtain ⟨b, off, rfl, hP⟩ := HA.out (by omega)
      have HP := Lib.hid hP; clear hP
      obtain ⟨t, e1⟩ := int_of l k
      have c1 := HP.out.c1 hbel hlt e1
      obtain ⟨s1, s2⟩ := hown.slot (k := k) (by rw [length_fill _ _ _ (by simp)]; exact hlt)
      have hown' := Lib.hid hown; clear hown
      go_wp2
      go_roundw
      case rel =>
        refine ⟨k + 1, by omega, by go_num, ?_, hbel.setCell (p := ⟨w.heap.size, _, none⟩) (Nat.le_refl _) _⟩
        have h := hown'.out.stored k t
        rw [← e1.out, fill_set _ _ _ (by simp) hlt, e1.out] at h
        exact h
      case measure => simp [intOf]; omega
    · obtain rfl : k = l.length := by omega
      rw [fill_all _ _ (by simp)] at hown
      go_wp2
      go_ret
      exact ⟨_, _, rfl, hown.hi_mono hown.le (Nat.le_refl _), hbel⟩
end Go.Proofs.Ytflmnolojepleaa
