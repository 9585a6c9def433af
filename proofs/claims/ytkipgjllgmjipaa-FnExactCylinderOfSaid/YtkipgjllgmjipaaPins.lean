/- The helpers of the laws at pins: after Tune and TuneW, pins for notes. -/
import Derived.Test.YtkipgjllgmjipaaTune
namespace Go.Proofs.Ytkipgjllgmjipaa
open Go.RowKit
theorem laws_szPinS_yes {A : Option Addr} {n c : Nat} {left : Int} {w : World} (h : (n : Int) ≤ left) (h2 : left ≤ 1048576) : Calls Try.prog 77 #[.slice A n c, .int .i64 left] w fun e w' => e = .returned (.int .i64 (left - n)) ∧ w = w' := by
  go_enter Try.func77, Try.ntmps77
  go_wp2
  go_ret
  exact ⟨rfl, rfl⟩
theorem laws_szPinS_no {A : Option Addr} {n c : Nat} {left : Int} {w : World} (h : left < n) (h0 : 0 ≤ left) (h2 : left ≤ 1048576) (hm : n ≤ maxLen) : Calls Try.prog 77 #[.slice A n c, .int .i64 left] w fun e w' => e = .returned (.int .i64 (-1)) ∧ w = w' := by
  unfold maxLen at hm
  go_enter Try.func77, Try.ntmps77
  go_wp2
  go_ret
  exact ⟨rfl, rfl⟩
theorem laws_toPin {t u : Int} {w : World} : Calls Try.prog 49 #[.agg #[.int .i64 t, .int .i64 u]] w fun e w' => e = .returned (.agg #[.int .i64 t, .int .i64 u]) ∧ Below w.heap.size w w' := by
  go_enter Try.func49, Try.ntmps49
  go_wp2
  refine bodyPost_ret (v := .agg #[.int .i64 t, .int .i64 u]) (by simp [results, Try.results49, go_sem]) rfl ⟨rfl, ?_⟩
  exact bnew (bnew (bnew (Below.refl _ _) _) _) _
theorem laws_eqPin {a b c d : Int} {w : World} : Calls Try.prog 101 #[.agg #[.int .i64 a, .int .i64 b], .agg #[.int .i64 c, .int .i64 d]] w fun e w' => e = .returned (.bool (decide ((a, b) = (c, d)))) ∧ Below w.heap.size w w' := by
  by_cases h : a = c
  · subst h
    by_cases h : b = d
    · subst h
      go_enter Try.func101, Try.ntmps101
      go_wp2
      go_ret
      exact ⟨ret_bool (by simp), bnew (bnew (Below.refl _ _) _) _⟩
    · go_enter Try.func101, Try.ntmps101
      go_wp2
      go_ret
      exact ⟨ret_bool (by simp [h]), bnew (bnew (Below.refl _ _) _) _⟩
  · go_enter Try.func101, Try.ntmps101
    go_wp2
    go_ret
    exact ⟨ret_bool (by simp [h]), bnew (bnew (Below.refl _ _) _) _⟩
theorem laws_eqPinS {l : List (Int × Int)} {A B : Option Addr} {c d : Nat} {w : World} (h1 : RP w A l) (h2 : RP w B l) :
    Calls Try.prog 87 #[.slice A l.length c, .slice B l.length d] w fun e w' => e = .returned (.bool true) ∧ Below w.heap.size w w' := by
  obtain ⟨hn, hA⟩ := h1
  obtain ⟨_, hB⟩ := h2
  have HA := Lib.hid hA; clear hA
  have HB := Lib.hid hB; clear hB
  go_enter Try.func87, Try.ntmps87
  go_wp2
  go_loopw [5] (fun i wr => ∃ k : Nat, k ≤ l.length ∧ i = .int .i64 k ∧ Below w.heap.size w wr) (fun i _ => l.length - (intOf i).toNat)
  case atStart => exact ⟨0, Nat.zero_le _, rfl, Below.refl _ _⟩
  case round =>
    obtain ⟨k, hk, rfl, hbel⟩ := hrel
    by_cases hlt : k < l.length
    · obtain ⟨b, off, rfl, hP⟩ := HA.out (by omega)
      obtain ⟨b', off', rfl, hP'⟩ := HB.out (by omega)
      obtain ⟨t, u, e1⟩ := pair_of l k
      have c1 := hP.a1 hbel hlt e1
      have c2 := hP.a2 hbel hlt e1
      have d1 := hP'.a1 hbel hlt e1
      have d2 := hP'.a2 hbel hlt e1
      clear hP hP'
      go_wp2_with fail
      refine wp_region_after (by kernel_rfl) (by kernel_rfl) ?_
      repeat (go_big_quiet_step (first | (go_at_call 101; exact Calls.after_of (laws_eqPin))))
      refine wpQuiet_nil ?_
      rintro _ ⟨⟨wq, hq⟩, rfl⟩
      replace hbel := bthen hbel hq
      clear hq
      go_wp2
      go_roundw
      case rel => exact ⟨k + 1, by omega, by go_num, hbel⟩
      case measure => simp [intOf]; omega
    · go_wp2
      go_ret
      exact ⟨rfl, hbel⟩
theorem laws_heldPinS {q : Int} {n : Nat} {A : Option Addr} {c : Nat} {w : World} (h : RP w A (upP q n)) (hq : 0 ≤ q) (hq2 : q ≤ 1048576 * 1048576) :
    Calls Try.prog 89 #[.slice A n c, .int .i64 q] w fun e w' => e = .returned (.int .i64 (q + 2 * n)) ∧ Below w.heap.size w w' := by
  obtain ⟨hn, hA⟩ := h
  rw [length_upP] at hn hA
  have HA := Lib.hid hA; clear hA
  go_enter Try.func89, Try.ntmps89
  go_wp2
  go_loopw [1, 5] (fun v i wr => ∃ k : Nat, k ≤ n ∧ i = .int .i64 k ∧ v = .int .i64 (q + 2 * (k : Int)) ∧ Below w.heap.size w wr) (fun _ i _ => n - (intOf i).toNat)
  case atStart => exact ⟨0, Nat.zero_le _, rfl, by simp, Below.refl _ _⟩
  case round =>
    obtain ⟨k, hk, rfl, rfl, hbel⟩ := hrel
    by_cases hlt : k < n
    · obtain ⟨b, off, rfl, hP⟩ := HA.out (by omega)
      have e1 : Hid ((upP q n).getD k (0, 0) = (q + 2 * (k : Int), q + 2 * (k : Int) + 1)) := upP_at q n k hlt
      have c1 := hP.c1 hbel (by rw [length_upP]; exact hlt) e1
      have c2 := hP.c2 hbel (by rw [length_upP]; exact hlt) e1
      clear hP e1
      go_wp2
      go_roundw
      case rel => exact ⟨k + 1, by omega, by go_num, by go_num, hbel⟩
      case measure => simp [intOf]; omega
    · obtain rfl : k = n := by omega
      go_wp2
      go_ret
      exact ⟨rfl, hbel⟩
theorem pins_info : (Try.prog.info? 63).map (fun i => (i.zero, i.size, i.bytes)) = some (some (.agg #[.int .i64 0, .int .i64 0]), 2, 16) := by kernel_rfl
set_option maxHeartbeats 400000 in
theorem laws_toPinS {l : List (Int × Int)} {A : Option Addr} {c : Nat} {w : World} (h : RP w A l) :
    Calls Try.prog 82 #[.slice A l.length c] w fun e w' => ∃ B d, e = .returned (.slice B l.length d) ∧ OwnP 63 w.heap.size w'.heap.size w' B d l ∧ Below w.heap.size w w' := by
  obtain ⟨hn, hA⟩ := h
  have HA := Lib.hid hA; clear hA
  have hmk := run_makeN (P := Try.prog) 51 63 _ 2 16 Try.underlying51 pins_info l.length (by omega) hn
  go_enter Try.func82, Try.ntmps82
  go_wp2
  clear hmk
  generalize hW : World.alloc w _ = W1
  obtain ⟨hown, hb1, hlt1⟩ := own_made2 hW hn
  clear hW
  go_loopw [4] (fun i wr => ∃ k : Nat, k ≤ l.length ∧ i = .int .i64 k ∧ OwnP 63 w.heap.size (w.heap.size + 1) wr (some ⟨w.heap.size, 0, none⟩) l.length (fill l (List.replicate l.length (0, 0)) k) ∧ Below w.heap.size w wr) (fun i _ => l.length - (intOf i).toNat)
  case atStart => exact ⟨0, Nat.zero_le _, rfl, by rw [fill_zero]; exact ⟨hown.row, fun a ha => by injection ha with ha; subst ha; exact Nat.lt_succ_self _, hlt1, hown.small⟩, hb1⟩
  clear hown hb1 hlt1
  case round =>
    obtain ⟨k, hk, rfl, hown, hbel⟩ := hrel
    by_cases hlt : k < l.length
    · obtain ⟨b, off, rfl, hP⟩ := HA.out (by omega)
      have HP := Lib.hid hP; clear hP
      obtain ⟨t, u, e1⟩ := pair_of l k
      have c1 := HP.out.c1 hbel hlt e1
      have c2 := HP.out.c2 hbel hlt e1
      have hown' := Lib.hid hown; clear hown
      go_wp2_with (go_at_call 49; refine (laws_toPin).mono ?_; rintro e wq ⟨rfl, hq⟩; obtain ⟨x, y, s1, s2, s3, s4⟩ := (hown'.out.below hq hown'.out.le).slot (k := k) (by rw [length_fill _ _ _ (by simp)]; exact hlt))
      go_roundw
      case rel =>
        refine ⟨k + 1, by omega, by go_num, ?_, ((bthen hbel hq).setCell (p := ⟨w.heap.size, _, none⟩) (Nat.le_refl _) _).setCell (p := ⟨w.heap.size, _, none⟩) (Nat.le_refl _) _⟩
        have h := (hown'.out.below hq hown'.out.le).stored k t u
        rw [← e1.out, fill_set _ _ _ (by simp) hlt] at h
        exact h
      case measure => simp [intOf]; omega
    · obtain rfl : k = l.length := by omega
      rw [fill_all _ _ (by simp)] at hown
      go_wp2
      go_ret
      exact ⟨_, _, rfl, hown.hi_mono hown.le (Nat.le_refl _), hbel⟩
theorem fillP_up {q : Int} {n : Nat} {m : List (Int × Int)} (h : m.length = n) {k : Nat} (hk : k < n) {x y : Int} (hx : x = q + 2 * (k : Int)) (hy : y = q + 2 * (k : Int) + 1) : (fill (upP q n) m k).set k (x, y) = fill (upP q n) m (k + 1) := by
  rw [← fill_set (upP q n) m k (by rw [length_upP]; exact h) (by rw [length_upP]; exact hk) (0, 0), upP_at q n k hk, hx, hy]
set_option maxHeartbeats 400000 in
theorem laws_markPinS {e : TypeId} {lo hi : Nat} {q : Int} {l : List (Int × Int)} {A : Option Addr} {c : Nat} {w : World} (h : OwnP e lo hi w A c l) (hq : 0 ≤ q) (hq2 : q ≤ 1048576 * 1048576) :
    Calls Try.prog 88 #[.slice A l.length c, .int .i64 q] w fun r w' => r = .returned (.int .i64 (q + 2 * l.length)) ∧ OwnP e lo hi w' A c (upP q l.length) ∧ Kept lo hi w w' := by
  have hn := h.small
  have H := Lib.hid h; clear h
  obtain ⟨n, hnl⟩ : ∃ n, n = l.length := ⟨_, rfl⟩
  rw [← hnl] at hn ⊢
  have HL := Lib.hid hnl; clear hnl
  go_enter Try.func88, Try.ntmps88
  go_wp2
  go_loopw [1, 5] (fun v i wr => ∃ k : Nat, k ≤ n ∧ i = .int .i64 k ∧ v = .int .i64 (q + 2 * (k : Int)) ∧ OwnP e lo hi wr A c (fill (upP q n) l k) ∧ Kept lo hi w wr) (fun _ i _ => n - (intOf i).toNat)
  case atStart => exact ⟨0, Nat.zero_le _, rfl, by simp, by rw [fill_zero]; exact H.out, Kept.refl _ _ _⟩
  case round =>
    obtain ⟨k, hk, rfl, rfl, hown, hkept⟩ := hrel
    by_cases hlt : k < n
    · have hlen : (fill (upP q n) l k).length = n := by rw [length_fill _ _ _ (by rw [length_upP, HL.out]), length_upP]
      obtain ⟨g, rfl, hg1, hg2, _, _⟩ := hown.form (by omega)
      obtain ⟨x, y, s1, s2, s3, s4⟩ := hown.slot (k := k) (by omega)
      have hown' := Lib.hid hown; clear hown
      have hlen' := Lib.hid hlen; clear hlen
      go_wp2
      go_roundw
      case rel =>
        refine ⟨k + 1, by omega, by go_num, by go_num, ?_, (hkept.setCell (p := ⟨g, _, none⟩) hg1 hg2 _).setCell (p := ⟨g, _, none⟩) hg1 hg2 _⟩
        have h := hown'.out.stored k (q + 2 * (k : Int)) (q + 2 * (k : Int) + 1)
        rw [fillP_up HL.out.symm hlt rfl rfl] at h
        exact h
      case measure => simp [intOf]; omega
    · obtain rfl : k = n := by omega
      have hf : fill (upP q k) l k = upP q k := by
        have := fill_all (upP q k) l (by rw [length_upP, HL.out])
        rwa [length_upP] at this
      rw [hf] at hown
      clear hf
      go_wp2
      go_ret
      exact ⟨rfl, hown, hkept⟩
end Go.Proofs.Ytkipgjllgmjipaa
