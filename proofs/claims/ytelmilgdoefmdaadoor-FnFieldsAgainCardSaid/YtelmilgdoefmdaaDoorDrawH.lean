/- The draws of strings. -/
import Derived.Test.YtelmilgdoefmdaaDoorDraw2
import Derived.Test.YtelmilgdoefmdaaDoorHex
namespace Go.Proofs.YtelmilgdoefmdaaDoor
open Go.RowKit
set_option linter.unusedVariables false
theorem parkH {p : Prop} (h : Hid p) : p := h.out
/-- Behind the store of one byte. -/
theorem OwnC.put {e : TypeId} {lo hi : Nat} {w : World} {g c n : Nat} {l : List UInt8} (h : OwnC e 1 lo hi w (some ⟨g, 0, none⟩) c n (l.map byteV)) (k : Nat) (b : UInt8) :
    OwnC e 1 lo hi (w.setCell ⟨g, k, none⟩ (byteV b)) (some ⟨g, 0, none⟩) c n ((l.set k b).map byteV) := by
  have h1 := (h.row.stored k (byteV b)).1
  rw [← List.map_set] at h1
  exact ⟨h1, h.top, by have := h.le; simpa [World.setCell] using this⟩
theorem OwnC.byteSlot {e : TypeId} {lo hi : Nat} {w : World} {g c n : Nat} {l : List UInt8} (h : OwnC e 1 lo hi w (some ⟨g, 0, none⟩) c n (l.map byteV)) {k : Nat} (hk : k < l.length) (hn : l.length = n) :
    w.cell? ⟨g, k, none⟩ = some (.int .u8 (((l.getD k 0).toNat : Nat) : Int)) ∧ w.frozen? ⟨g, k, none⟩ = false := by
  refine ⟨(h.row.cellAt k (by omega)).trans ?_, h.row.frozenAt _⟩
  rw [List.getElem?_map, List.getD_eq_getElem?_getD, List.getElem?_eq_getElem hk]; rfl
theorem own_madeU {W : World} (e : TypeId) {n : Nat} (hn : n ≤ 1048576) : OwnC e 1 W.heap.size (W.heap.size + 1) (W.alloc (.cells (madeCells #[.int .u8 0] n) e)) (some ⟨W.heap.size, 0, none⟩) n n ((List.replicate n (0 : UInt8)).map byteV) := by
  have hr := World.ownsRow_lit (base := W.heap.size) (e := e) (size := 1) W (madeCells #[.int .u8 0] n) n (Nat.le_refl _) (by simp [maxLen]; omega) (by rw [size_madeCells]; omega)
  have he : (List.replicate n (0 : UInt8)).map byteV = (madeCells #[.int .u8 0] n).toList := by rw [toList_madeCells_one, List.map_replicate]; rfl
  rw [← he] at hr
  exact ⟨hr, fun a ha => by injection ha with ha; subst ha; exact Nat.lt_succ_self _, by simp⟩
theorem byteV_of {x : Nat} (hx : x < 256) : byteV (UInt8.ofNat x) = .int .u8 (x : Int) := by
  unfold byteV
  rw [UInt8.toNat_ofNat', Nat.mod_eq_of_lt (by omega)]
theorem size_mk (l : List UInt8) : (⟨l.toArray⟩ : ByteArray).size = l.length := rfl
theorem spec_l01Long {n x : Nat} {w : World} (hn : n ≤ 1048576) (hx : x < 256) : Calls Tryd.prog 25 #[.int .i64 (n : Int), .int .u8 (x : Int)] w fun e w' => ∃ s : ByteArray, e = .returned (.string s) ∧ s.size = n ∧ Below w.heap.size w w' := by
  have hmk := fun W => run_makeN (P := Tryd.prog) 24 5 _ 1 1 Tryd.underlying24 byte_info n (by omega) hn W
  have HX := Lib.hid (byteV_of hx)
  go_enter Tryd.func25, Tryd.ntmps25
  go_wp2
  clear hmk
  go_loopw [6] (fun i wr => ∃ (k : Nat) (l : List UInt8), k ≤ n ∧ i = .int .i64 k ∧ Hid (l.length = n) ∧ Hid (OwnC 5 1 w.heap.size wr.heap.size wr (some ⟨w.heap.size, 0, none⟩) n n (l.map byteV)) ∧ Below w.heap.size w wr) (fun i _ => n - (intOf i).toNat)
  case atStart => exact ⟨0, List.replicate n (0 : UInt8), Nat.zero_le _, rfl, Lib.hid (List.length_replicate ..), ((by simpa using own_madeU 5 hn : OwnC 5 1 _ _ _ _ n n ((List.replicate n (0 : UInt8)).map byteV))).hi_mono (by simp) (Nat.le_refl _), bnew (Below.refl _ _) _⟩
  case round =>
    obtain ⟨k, l, hk, rfl, hl, ho, hbel⟩ := hrel
    have hlo := ho.out.top _ rfl
    by_cases hlt : k < n
    · obtain ⟨c1, f1⟩ := ho.out.byteSlot (k := k) (by rw [hl.out]; exact hlt) hl.out
      have hp := Lib.hid (ho.out.put k (UInt8.ofNat x))
      rw [HX.out] at hp
      go_wp2
      go_roundw
      case rel => exact ⟨k + 1, l.set k (UInt8.ofNat x), by omega, by go_num, by show _ = _; rw [List.length_set]; exact hl.out, by simpa [World.setCell] using hp, hbel.setCell (Nat.le_refl _) _⟩
      case measure => simp [intOf]; omega
    · have hcv := conv_back Tryd.underlying24 Tryd.underlying5 Tryd.underlying9 ho.out hl.out
      go_wp2
      go_ret
      exact ⟨_, rfl, (size_mk l).trans hl.out, hbel⟩
theorem cur_block {w w4 : World} {p : Nat} {A : Option Addr} {n c : Nat} (h : Cur w p A n c) (e : w4.heap[p]? = w.heap[p]?) : Cur w4 p A n c := by
  obtain ⟨c0, ⟨i, hi, c1⟩, ⟨hh, c2⟩, f1, f2⟩ := h
  exact ⟨(World.cell?_of_block (w := w) (a := ⟨p, 0, none⟩) e).trans c0, ⟨i, hi, (World.cell?_of_block (w := w) (a := ⟨p, 1, none⟩) e).trans c1⟩, ⟨hh, (World.cell?_of_block (w := w) (a := ⟨p, 2, none⟩) e).trans c2⟩,
    (show w4.frozen? ⟨p, 1, none⟩ = w.frozen? ⟨p, 1, none⟩ by unfold World.frozen?; rw [e]).trans f1, (show w4.frozen? ⟨p, 2, none⟩ = w.frozen? ⟨p, 2, none⟩ by unfold World.frozen?; rw [e]).trans f2⟩
set_option maxHeartbeats 1000000 in
theorem spec_l01Text {p : Nat} {A : Option Addr} {n c m : Nat} {W0 w : World} (hc : Cur w p A n c) (h : RU W0 A n) (hb : Below W0.heap.size W0 w) (hp : W0.heap.size ≤ p) (hm : m ≤ 5000) :
    Calls Tryd.prog 27 #[.pointer (some ⟨p, 0, none⟩), .int .i64 (m : Int)] w fun e w' => ∃ s : ByteArray, e = .returned (.string s) ∧ s.size = m ∧ Cur w' p A n c ∧ Kept p (p + 1) w w' := by
  have H := Lib.hid h; clear h
  have HB := Lib.hid hb; clear hb
  have hpl : p < w.heap.size := World.block_lt_of_cell? _ _ hc.c0
  have HC := Lib.hid hc; clear hc
  go_enter Tryd.func27, Tryd.ntmps27
  go_wp2
  go_loopw [5, 6] (fun v i wr => ∃ (k d : Nat) (B : Option Addr) (l : List UInt8), k ≤ m ∧ i = .int .i64 k ∧ v = .slice B k d ∧ Hid (l.length = k) ∧ Hid (OwnC 5 1 w.heap.size wr.heap.size wr B d k (l.map byteV)) ∧ Hid (Cur wr p A n c) ∧ Kept p (p + 1) w wr) (fun _ i _ => m - (intOf i).toNat)
  case atStart => exact ⟨0, _, _, [], Nat.zero_le _, rfl, rfl, rfl, ((OwnC.empty 5 1).hi_mono (by simp) (Nat.le_refl _) : OwnC 5 1 _ _ _ _ 0 0 []), cur_new HC.out _, bkept (bnew (Below.refl _ _) _) (Nat.le_refl _)⟩
  case round =>
    obtain ⟨k, d, B, l, hk, rfl, rfl, hl, ho, hcu, hkp⟩ := hrel
    have hws := hkp.size
    by_cases hlt : k < m
    · have HB1 := Lib.hid (HB.out.trans (hkp.below HB.out.size hp))
      have HK1 := Lib.hid hkp
      clear hkp
      go_wp2_with fail
      refine (spec_l01Byte hcu.out H.out HB1.out hp).mono ?_
      rintro e w2 ⟨x, rfl, hx, hc2, hk2⟩
      have hs2 := hk2.size
      have O2 := ((ho.out.kept hk2 (.inr (by omega))).hi_mono hs2 (Nat.le_refl _))
      have HK2 := Lib.hid (HK1.out.trans hk2)
      have HC2 := Lib.hid hc2
      have hlo : w.heap.size ≤ w2.heap.size := by omega
      have HX := Lib.hid (byteV_of hx)
      have E1 : IntKind.u8.wrap (x : Int) = (x : Int) := IntWalk.u8_in _ (by omega)
      clear hc2 hk2
      go_wp2_with (at_builtin; refine parkH ?_)
      refine Lib.hid ?_
      refine wpList_app_cells (news := [.int .u8 (x : Int)]) (.tmp 15) (.tmp 19) 24 5 rfl rfl Tryd.underlying24 byte_info rfl (Nat.succ_pos 0) rfl rfl rfl O2 hlo (Nat.succ_pos 0) rfl (by simp [Value.oneCell']) (by omega) (by decide) ?_
      intro B' d' w4 O4 hb4
      have HC4 : Hid (Cur w4 p A n c) := cur_block HC2.out (hb4.block p hpl)
      have HK4 : Hid (Kept p (p + 1) w w4) := ⟨hb4.os.trans HK2.out.os, hb4.tape.trans HK2.out.tape, hb4.output.trans HK2.out.output, Nat.le_trans HK2.out.size hb4.size, fun j hj ho => (hb4.block j hj).trans (HK2.out.block j hj ho)⟩
      go_wp2
      go_roundw
      case rel => exact ⟨k + 1, d', B', l ++ [UInt8.ofNat x], by omega, by go_num, rfl, by show _ = _; rw [List.length_append, hl.out]; rfl, by rw [List.map_append, List.map_singleton, HX.out]; exact O4, HC4, HK4.out⟩
      case measure => simp [intOf]; omega
    · obtain rfl : k = m := by omega
      have hcv := conv_back Tryd.underlying24 Tryd.underlying5 Tryd.underlying9 ho.out hl.out
      go_wp2
      go_ret
      exact ⟨_, rfl, (size_mk l).trans hl.out, hcu.out, hkp⟩
theorem spec_DrawEncodeHex {A : Option Addr} {n c : Nat} {w : World} (h : RU w A n) :
    Calls Tryd.prog 11 #[.slice A n c] w fun e w' => ∃ s : ByteArray, e = .returned (.string s) ∧ s.size ≤ 1048576 ∧ Below w.heap.size w w' := by
  have H := Lib.hid h; clear h
  go_enter Tryd.func11, Tryd.ntmps11
  go_wp2_with fail
  refine (spec_l01New H.out).mono ?_
  rintro e w1 ⟨p, rfl, hp, hp2, hc1, hb1⟩
  have HB1 := Lib.hid hb1
  clear hb1
  go_wp2_with fail
  refine (spec_l01Once hc1 H.out HB1.out hp (by omega) (by omega)).mono ?_
  rintro e w2 ⟨b, rfl, hc2, hk2⟩
  have HB2 := Lib.hid (HB1.out.trans (hk2.below HB1.out.size hp))
  clear hc1 hk2
  cases b
  · go_wp2_with fail
    refine (spec_l01Below hc2 H.out HB2.out hp (by omega) (by omega)).mono ?_
    rintro e w3 ⟨x, rfl, hx, hc3, hk3⟩
    have HB3 := Lib.hid (HB2.out.trans (hk3.below HB2.out.size hp))
    clear hc2 hk3
    go_wp2_with fail
    refine (spec_l01Text hc3 H.out HB3.out hp (by omega)).mono ?_
    rintro e w4 ⟨s, rfl, hs, hc4, hk4⟩
    have HB4 := Lib.hid (HB3.out.trans (hk4.below HB3.out.size hp))
    clear hc3 hk4 hc4
    have HS : Hid (s.size ≤ 1048576) := by show _ ≤ _; omega
    clear hs
    go_wp2
    go_ret
    exact ⟨s, rfl, HS.out, HB4.out⟩
  · go_wp2_with fail
    refine (spec_l01Below hc2 H.out HB2.out hp (by omega) (by omega)).mono ?_
    rintro e w3 ⟨x, rfl, hx, hc3, hk3⟩
    have HB3 := Lib.hid (HB2.out.trans (hk3.below HB2.out.size hp))
    clear hc2 hk3 hc3
    go_wp2_with fail
    have E1 : (20000 : Int) + (x : Int) = ((20000 + x : Nat) : Int) := by omega
    rw [E1]
    refine (spec_l01Long (n := 20000 + x) (x := 200) (by omega) (by omega)).mono ?_
    rintro e w4 ⟨s, rfl, hs, hb4⟩
    have HB4 := Lib.hid (bthen HB3.out hb4)
    clear hb4 E1
    have HS : Hid (s.size ≤ 1048576) := by show _ ≤ _; omega
    clear hs
    go_wp2
    go_ret
    exact ⟨s, rfl, HS.out, HB4.out⟩
end Go.Proofs.YtelmilgdoefmdaaDoor
