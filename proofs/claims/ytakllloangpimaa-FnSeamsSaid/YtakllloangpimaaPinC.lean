/- l06Put of the reference at nil, and AddPin of the reference. -/
import Derived.Test.YtakllloangpimaaPinB
namespace Go.Proofs.Ytakllloangpimaa
open Go.RowKit
set_option linter.unusedVariables false
/-- nil, or an address at the front of a block's part. -/
def FormP (A : Option Addr) (c : Nat) (l : List (Int × Int)) : Prop := (A = none ∧ c = 0 ∧ l = []) ∨ ∃ b off, A = some ⟨b, off, none⟩
theorem OwnP.formP {e : TypeId} {lo hi : Nat} {w : World} {A : Option Addr} {c : Nat} {l : List (Int × Int)} (h : OwnP e lo hi w A c l) : FormP A c l := by
  rcases h.row.2 with ⟨hv, hn⟩ | ⟨g, cap, cur, hv, _⟩
  · injection hv with h1 h2 h3
    exact .inl ⟨h1, h3, List.eq_nil_of_length_eq_zero h2⟩
  · injection hv with h1 _ _
    exact .inr ⟨g, 0, h1⟩
set_option maxHeartbeats 2000000 in
theorem spec_l06Put_nil {x y : Int} {w : World} :
    Calls Try.prog 77 #[.slice none 0 0, .agg #[.int .i64 x, .int .i64 y]] w fun e w' => ∃ g d, e = .returned (.tuple #[.slice (some ⟨g, 0, none⟩) 1 d, .bool true]) ∧ OwnP 32 w.heap.size w'.heap.size w' (some ⟨g, 0, none⟩) d [(x, y)] ∧ Below w.heap.size w w' := by
  go_enter Try.func77, Try.ntmps77
  go_wp2
  generalize hW : World.alloc w _ = W1
  obtain ⟨hb1, zz, m0, m1⟩ := new2c hW
  clear hW
  have M0 : Hid (∀ W, Below w.heap.size w W → Below W1.heap.size W1 W → W.cell? ⟨w.heap.size, 0, none⟩ = some (.int .i64 x) ∧ W.cell? ⟨w.heap.size, 1, none⟩ = some (.int .i64 y)) := fun W _ h => ⟨cell_later m0 h, cell_later m1 h⟩
  clear m0 m1
  go_loopw [6] (fun i wr => i = .int .i64 0 ∧ Below w.heap.size w wr ∧ Below W1.heap.size W1 wr) (fun _ _ => 0)
  case atStart => exact ⟨rfl, hb1, Below.refl _ _⟩
  clear hb1
  case round =>
    obtain ⟨rfl, hbel, hb1⟩ := hrel
    go_wp2_with fail
    refine wp_region_after (by kernel_rfl) (by kernel_rfl) ?_
    repeat (go_big_quiet_step (first | (go_at_call 87; exact Calls.after_of (spec_l06Less))))
    refine wpQuiet_nil ?_
    rintro wq ⟨⟨_, hq⟩, rfl⟩
    replace hbel := bthen hbel hq
    replace hb1 := bthen hb1 hq
    clear hq
    go_wp2_with fail
    refine wp_region_after (by kernel_rfl) (by kernel_rfl) ?_
    repeat (go_big_quiet_step (first | (go_at_call 87; exact Calls.after_of (spec_l06Less))))
    refine wpQuiet_nil ?_
    rintro wN ⟨⟨_, hq⟩, rfl⟩
    replace hbel := bthen hbel hq
    replace hb1 := bthen hb1 hq
    clear hq
    obtain ⟨k1, k2⟩ := M0.out wN hbel hb1
    have HK : Hid (∀ W, Below wN.heap.size wN W → W.cell? ⟨w.heap.size, 0, none⟩ = some (.int .i64 x) ∧ W.cell? ⟨w.heap.size, 1, none⟩ = some (.int .i64 y) ∧ Below wN.heap.size wN W) := fun W h => ⟨cell_later k1 h, cell_later k2 h, h⟩
    clear k1 k2
    have hdr := Lib.hid ((Below.refl wN.heap.size wN).drew)
    have D1 : Hid (Below wN.heap.size wN (wN.alloc (.cells #[] 32)).drew) := (bnew (Below.refl _ _) _).drew
    have D2 : Hid (Below wN.heap.size wN ((wN.alloc (.cells #[] 32)).alloc (.cells #[.int .i64 x, .int .i64 y] 32)).drew) := (bnew (bnew (Below.refl _ _) _) _).drew
    have D3 : Hid (Below wN.heap.size wN ((wN.alloc (.cells #[.int .i64 x, .int .i64 y] 32)).alloc (.cells #[] 32)).drew) := (bnew (bnew (Below.refl _ _) _) _).drew
    have D4 : Hid (Below wN.heap.size wN (wN.alloc (.cells #[.int .i64 x, .int .i64 y] 32)).drew) := (bnew (Below.refl _ _) _).drew
    have F1 : Hid (OwnP 32 wN.heap.size (wN.heap.size + 1) (wN.alloc (.cells #[] 32)).drew (some ⟨wN.heap.size, 0, none⟩) 0 []) := (own_emptyAtP _ rfl).drew
    have F2 : Hid (OwnP 32 wN.heap.size (wN.heap.size + 1) ((wN.alloc (.cells #[] 32)).alloc (.cells #[.int .i64 x, .int .i64 y] 32)).drew (some ⟨wN.heap.size, 0, none⟩) 0 []) := ((own_emptyAtP _ rfl).new _).drew
    have F3 : Hid (OwnP 32 (wN.heap.size + 1) (wN.heap.size + 1 + 1) ((wN.alloc (.cells #[.int .i64 x, .int .i64 y] 32)).alloc (.cells #[] 32)).drew (some ⟨wN.heap.size + 1, 0, none⟩) 0 []) := (own_emptyAtP _ (by simp)).drew
    have L1 : Hid (wN.heap.size ≤ ((wN.alloc (.cells #[] 32)).drew).heap.size) := D1.out.size
    have L2 : Hid (wN.heap.size ≤ (((wN.alloc (.cells #[] 32)).alloc (.cells #[.int .i64 x, .int .i64 y] 32)).drew).heap.size) := D2.out.size
    have L3 : Hid (wN.heap.size + 1 ≤ (((wN.alloc (.cells #[.int .i64 x, .int .i64 y] 32)).alloc (.cells #[] 32)).drew).heap.size) := by
      show wN.heap.size + 1 ≤ ((wN.alloc (.cells #[.int .i64 x, .int .i64 y] 32)).alloc (.cells #[] 32)).heap.size
      simp
    have P2 : Hid (RP ((wN.alloc (.cells #[] 32)).alloc (.cells #[.int .i64 x, .int .i64 y] 32)).drew (some ⟨wN.heap.size + 1, 0, none⟩) [(x, y)]) := (pairAt (w := wN.alloc (.cells #[] 32)) (g := wN.heap.size + 1) (by simp)).below (Below.refl _ _).drew
    have P3 : Hid (RP ((wN.alloc (.cells #[.int .i64 x, .int .i64 y] 32)).alloc (.cells #[] 32)).drew (some ⟨wN.heap.size, 0, none⟩) [(x, y)]) := (pairAt (w := wN) (g := wN.heap.size) rfl).below (bnew (Below.refl _ _) _).drew
    have LA : Hid (∀ W, Below wN.heap.size wN W → wN.heap.size ≤ (W.alloc (.cells #[.int .i64 x, .int .i64 y] 32)).heap.size) := fun W h => Nat.le_trans h.size (by simp)
    have hb60 : Hid (1 ≤ 1048576) := by show 1 ≤ 1048576; decide
    have hby16 : Hid (16 ≤ 1024) := by show 16 ≤ 1024; decide
    go_wp2_with fail
    go_region_held3 (fun W => W.cell? ⟨w.heap.size, 0, none⟩ = some (.int .i64 x) ∧ W.cell? ⟨w.heap.size, 1, none⟩ = some (.int .i64 y) ∧ Below wN.heap.size wN W) (with_reducible (first | exact HK.out _ hbq3 | exact HK.out _ hbq2 | exact HK.out _ (bnew hbq1 _) | exact HK.out _ hbq1 | exact HK.out _ hdr.out | exact HK.out _ D1.out | exact HK.out _ D4.out | exact HK.out _ D2.out | exact HK.out _ D3.out)) (first
      | (have hmk := hbq2; refine step_app_none (l := [] ++ [(x, y)]) (c2 := 0) (.tmp 43) (.tmp 46) 24 32 rfl rfl Try.underlying24 pins_inf rfl rfl O2 ?_; intro w3 O3 hb3; have hbq3 := hbq2.trans (hb3.mono hbq2.size))
      | (have hmk := hp1; refine step_app_pairs2 (l := []) (m := [(x, y)]) (c2 := 1) (.tmp 40) (.tmp 42) 24 32 rfl rfl Try.underlying24 pins_inf rfl hby16.out rfl rfl (Lib.hid rfl) (Lib.hid rfl) (Lib.hid rfl) O1 hlo1 hp1 hb60.out ?_; intro g2 d2 w2 O2 hb2 hk2; have hbq2 := hbq1.trans (hb2.mono hlow); have hlo2 := Nat.le_trans hlo1 hb2.size)
      | (have hmk := hbq1; have t1 := O1.new (.cells #[.int .i64 x, .int .i64 y] 32); have t2 := LA.out _ hbq1; have t3 := pairAt (w := w1) (x := x) (y := y) (T := 32) rfl; refine step_app_pairs2 (l := []) (m := [(x, y)]) (c2 := 1) (.tmp 40) (.tmp 42) 24 32 rfl rfl Try.underlying24 pins_inf rfl hby16.out rfl rfl (Lib.hid rfl) (Lib.hid rfl) (Lib.hid rfl) t1 t2 t3 hb60.out ?_; intro g2 d2 w2 O2 hb2 hk2; have hbq2 := (bnew hbq1 (.cells #[.int .i64 x, .int .i64 y] 32)).trans hb2; have hlo2 := Nat.le_trans t2 hb2.size)
      | (refine step_app_none (l := []) (c2 := 0) (.tmp 36) (.tmp 39) 24 32 rfl rfl Try.underlying24 pins_inf rfl rfl F2.out ?_; intro w1 O1 hb1; have hbq1 := D2.out.trans (hb1.mono D2.out.size); have hlow := Nat.le_refl wN.heap.size; have hlo1 := Nat.le_trans L2.out hb1.size; have hp1 := P2.out.below hb1)
      | (refine step_app_none (l := []) (c2 := 0) (.tmp 36) (.tmp 39) 24 32 rfl rfl Try.underlying24 pins_inf rfl rfl F3.out ?_; intro w1 O1 hb1; have hbq1 := D3.out.trans (hb1.mono D3.out.size); have hlow := Nat.le_succ wN.heap.size; have hlo1 := Nat.le_trans L3.out hb1.size; have hp1 := P3.out.below hb1)
      | (refine step_app_none (l := []) (c2 := 0) (.tmp 36) (.tmp 39) 24 32 rfl rfl Try.underlying24 pins_inf rfl rfl F1.out ?_; intro w1 O1 hb1; have hbq1 := D1.out.trans (hb1.mono D1.out.size); have hlow := Nat.le_refl wN.heap.size; have hlo1 := Nat.le_trans L1.out hb1.size))
    all_goals
      clear D1 D2 D3 D4 F1 F2 F3 L1 L2 L3 P2 P3 LA
      rw [List.nil_append] at O3
      go_wp2
      all_goals
        go_ret2
        exact ⟨_, _, by simp, (O3.lo_mono (Nat.le_trans hbel.size hlow)).hi_mono O3.le (Nat.le_refl _), hbel.trans (hbq3.mono hbel.size)⟩
theorem insP_nil (p : Int × Int) : insP p [] = [p] := rfl
theorem putNew_nil (p : Int × Int) : putNew p [] = true := rfl
theorem spec_l06PutF {x y : Int} {O : List (Int × Int)} {A : Option Addr} {c : Nat} {w : World} (h : RP w A O) (hc : O.length ≤ c) (hA : FormP A c O) (h1 : O.length + 1 ≤ 1048576) :
    Calls Try.prog 77 #[.slice A O.length c, .agg #[.int .i64 x, .int .i64 y]] w fun e w' => ∃ g d, e = .returned (.tuple #[.slice (some ⟨g, 0, none⟩) (insP (x, y) O).length d, .bool (putNew (x, y) O)]) ∧ OwnP 32 w.heap.size w'.heap.size w' (some ⟨g, 0, none⟩) d (insP (x, y) O) ∧ Below w.heap.size w w' := by
  rcases hA with ⟨rfl, rfl, rfl⟩ | ⟨b, off, rfl⟩
  · exact spec_l06Put_nil
  · exact spec_l06Put h hc h1
end Go.Proofs.Ytakllloangpimaa
