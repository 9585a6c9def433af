/- The draw of a line. -/
import Derived.Test.YtelmilgdoefmdaaDoorDrawH
import Derived.Deep.Cut
import Derived.Deep.CutRange
namespace Go.Proofs.YtelmilgdoefmdaaDoor
open Go.RowKit
set_option linter.unusedVariables false
theorem conv_oneF {y : Int} {fb : UInt8} (w : World) (h : ((fb.toNat : Nat) : Int) = y) : (convert 24 9 (.slice (some ⟨w.heap.size, 0, none⟩) 1 1)).run Tryd.prog (w.alloc (.cells #[.int .u8 y] 5)) = .ok (.string ⟨#[fb]⟩) (w.alloc (.cells #[.int .u8 y] 5)) := by
  refine run_convert_bytes_back (P := Tryd.prog) (w.alloc (.cells #[.int .u8 y] 5)) 24 9 5 ⟨w.heap.size, 0, none⟩ 1 [fb] Tryd.underlying24 Tryd.underlying5 Tryd.underlying9 fun j hj => ?_
  have hj0 : j = 0 := by simpa using hj
  subst hj0
  have hadd : (⟨w.heap.size, 0, none⟩ : Addr).add 0 = ⟨w.heap.size, 0, none⟩ := by simp [Addr.add]
  rw [hadd, cell_of_row _ _ 0 _ _ _ (heap_alloc_new w _)]
  show some (Value.int .u8 y) = some (Value.int .u8 ((fb.toNat : Nat) : Int))
  rw [h]
theorem cur_later' {w w4 : World} {p : Nat} {A : Option Addr} {n c : Nat} (h : Cur w p A n c) (hb : Below w.heap.size w w4) : Cur w4 p A n c := cur_block h (hb.block p (World.block_lt_of_cell? _ _ h.c0))
theorem spec_l01Pick {p : Nat} {A B : Option Addr} {n c d : Nat} {l : List ByteArray} {W0 w : World} (hc : Cur w p A n c) (h : RU W0 A n) (hb : Below W0.heap.size W0 w) (hp : W0.heap.size ≤ p)
    (hl : ∀ W, Kept p (p + 1) w W → ∃ b off, B = some ⟨b, off, none⟩ ∧ ∀ j, j < l.length → W.cell? ⟨b, off + j, none⟩ = some (.string (l.getD j ⟨#[]⟩))) (h1 : 1 ≤ l.length) (h2 : l.length ≤ 256) :
    Calls Tryd.prog 29 #[.pointer (some ⟨p, 0, none⟩), .slice B l.length d] w fun e w' => ∃ k : Nat, k < l.length ∧ e = .returned (.string (l.getD k ⟨#[]⟩)) ∧ Cur w' p A n c ∧ Kept p (p + 1) w w' := by
  have H := Lib.hid h; clear h
  have HB := Lib.hid hb; clear hb
  have HL := Lib.hid hl; clear hl
  go_enter Tryd.func29, Tryd.ntmps29
  go_wp2_with fail
  refine (spec_l01Below hc H.out HB.out hp (by omega) (by omega)).mono ?_
  rintro e w1 ⟨x, rfl, hx, hc1, hk1⟩
  have HC := Lib.hid hc1; have HK := Lib.hid hk1
  obtain ⟨b, off, rfl, hj⟩ := HL.out w1 hk1
  obtain ⟨u, hu⟩ : ∃ u, Hid (l.getD x ⟨#[]⟩ = u) := ⟨_, rfl⟩
  have c1 := hj x (by omega)
  rw [hu.out] at c1
  clear hc hc1 hk1 hj
  go_wp2
  go_ret
  exact ⟨x, by omega, by rw [hu.out]; rfl, HC.out, HK.out⟩
def sixStrs : List ByteArray := [⟨#[32]⟩, ⟨#[32, 32]⟩, ⟨#[9]⟩, ⟨#[10]⟩, ⟨#[127]⟩, ⟨#[233]⟩]
theorem six_size : ∀ k, k < sixStrs.length → (sixStrs.getD k ⟨#[]⟩).size ≤ 2 := by decide
theorem lit_strs {W W' : World} {l : List ByteArray} {T : TypeId} {p : Nat} (hp : p < W.heap.size) (hk : Kept p (p + 1) (W.alloc (.cells (l.map Value.string).toArray T)) W') : ∀ j, j < l.length → W'.cell? ⟨W.heap.size, 0 + j, none⟩ = some (.string (l.getD j ⟨#[]⟩)) := by
  intro j hj
  have h1 : (W.alloc (.cells (l.map Value.string).toArray T)).cell? ⟨W.heap.size, j, none⟩ = some (.string (l.getD j ⟨#[]⟩)) := by
    rw [cell_of_row _ _ j _ _ _ (heap_alloc_new W _), List.getElem?_toArray, List.getElem?_map, List.getD_eq_getElem?_getD, List.getElem?_eq_getElem hj]; rfl
  rw [Nat.zero_add]
  exact hk.cell' h1 (.inr (by simp only; omega))
set_option maxRecDepth 100000 in
set_option maxHeartbeats 4000000 in
theorem spec_DrawSplitFields {A : Option Addr} {n c : Nat} {w0 : World} (h : RU w0 A n) :
    Calls Tryd.prog 14 #[.slice A n c] w0 fun e w' => ∃ s : ByteArray, e = .returned (.string s) ∧ s.size ≤ 1048576 ∧ Below w0.heap.size w0 w' := by
  have H := Lib.hid h; clear h
  go_enter Tryd.func14, Tryd.ntmps14
  go_wp2_with fail
  refine (spec_l01New H.out).mono ?_
  rintro e w ⟨p, rfl, hp, hp2, hc1, hb1⟩
  have HB := Lib.hid hb1
  have hpl : p < w.heap.size := hp2
  clear hb1 hp2
  go_wp2_with fail
  refine (spec_l01Below hc1 H.out HB.out hp (by omega) (by omega)).mono ?_
  rintro e w1 ⟨n0, rfl, hn0, hc2, hk2⟩
  have HK2 := Lib.hid hk2
  clear hk2 hc1
  go_wp2_with fail
  refine (spec_l01Once hc2 H.out (HB.out.trans (HK2.out.below HB.out.size hp)) hp (by omega) (by omega)).mono ?_
  rintro e w2 ⟨b, rfl, hc3, hk3⟩
  have HK3 := Lib.hid (HK2.out.trans hk3)
  clear hk3 hc2 HK2
  go_upto_if 13 with fail
  go_cut [4] from 12 (fun s4 wx => ∃ q : Nat, s4 = .int .i64 (q : Int) ∧ q ≤ 25 ∧ Cur wx p A n c ∧ Kept p (p + 1) w wx)
  case first =>
    cases b
    · go_wp2_with fail
      go_meet
      case rel => exact ⟨n0, rfl, by omega, hc3, HK3.out⟩
    · go_wp2_with fail
      refine (spec_l01Below hc3 H.out (HB.out.trans (HK3.out.below HB.out.size hp)) hp (by omega) (by omega)).mono ?_
      rintro e w3 ⟨x, rfl, hx, hc4, hk4⟩
      have HK4 := Lib.hid (HK3.out.trans hk4)
      have HC4 := Lib.hid hc4
      clear hk4 hc3 hc4 HK3
      go_wp2_with fail
      go_meet
      case rel => exact ⟨24 + x, by go_num, by omega, HC4.out, HK4.out⟩
  case rest =>
  obtain ⟨q, rfl, hq, hcq, hkq⟩ := hcut
  have HKq := Lib.hid hkq
  have HCq := Lib.hid hcq
  clear hkq hcq hc3 HK3 hn0
  go_wp2
  go_loopw [5, 6] (fun v i wr => ∃ (k : Nat) (S : ByteArray), k ≤ q ∧ i = .int .i64 k ∧ v = .string S ∧ S.size ≤ 8 * k ∧ Hid (Cur wr p A n c) ∧ Kept p (p + 1) w wr) (fun _ i _ => q - (intOf i).toNat)
  case atStart => exact ⟨0, ⟨#[]⟩, Nat.zero_le _, rfl, rfl, by show 0 ≤ _; omega, HCq, HKq.out⟩
  clear HKq HCq
  case round =>
    obtain ⟨k, S, hk, rfl, rfl, hS, HCa, hkp⟩ := hrel
    have HKa := Lib.hid hkp
    clear hkp
    by_cases hlt : k < q
    · by_cases hk0 : 0 < k
      · go_wp2_with fail
        refine (spec_l01Below HCa.out H.out (HB.out.trans (HKa.out.below HB.out.size hp)) hp (by omega) (by omega)).mono ?_
        rintro e u1 ⟨a, rfl, ha, hc1, hk1⟩
        have HKb := Lib.hid (HKa.out.trans hk1)
        clear hk1
        go_wp2_with fail
        refine (spec_l01Below hc1 H.out (HB.out.trans (HKb.out.below HB.out.size hp)) hp (by omega) (by omega)).mono ?_
        rintro e u2 ⟨b, rfl, hb', hc2, hk2⟩
        have HKc := Lib.hid (HKb.out.trans hk2)
        have HCc := Lib.hid hc2
        clear hc1 hc2 hk2 HKb HKa HCa
        obtain ⟨m, hm⟩ : ∃ m : Nat, (a : Int) * (b : Int) = (m : Int) ∧ m ≤ 2 := by
          have : a = 0 ∨ a = 1 := by omega
          rcases this with rfl | rfl
          · exact ⟨0, by simp, by omega⟩
          · exact ⟨b, by simp, by omega⟩
        obtain ⟨hm1, hm2⟩ := hm
        have E0 : IntKind.i64.wrap ((a : Int) * (b : Int)) = (m : Int) := by rw [hm1]; exact IntWalk.i64_in _ (by omega)
        clear hm1
        go_wp2_with fail
        have E1 : (1 : Int) + (m : Int) = ((1 + m : Nat) : Int) := by omega
        rw [E1]
        refine (spec_l01Long (n := 1 + m) (x := 32) (by omega) (by omega)).mono ?_
        rintro e u3 ⟨Z, rfl, hZ, hb3⟩
        have HKx := Lib.hid (HKc.out.trans (bkept hb3 (Nat.le_refl _) : Kept p (p + 1) u2 u3))
        have HCx := Lib.hid (cur_later' HCc.out hb3)
        have hZs : Z.size ≤ 3 := by omega
        have hap : (S ++ Z).size = S.size + Z.size := ByteArray.size_append
        obtain ⟨Q, hQ⟩ : ∃ Q, S ++ Z = Q := ⟨_, rfl⟩
        rw [hQ] at hap
        clear E0 E1 hb3 HKc HCc ha hb' hm2
        have SZ_ : Q.size ≤ 8 * k + 3 := by omega

        go_wp2
        clear hap hZ hZs hQ
        go_loopw [5, 7] (fun v i wx => ∃ (j : Nat) (S : ByteArray), j ≤ 5 ∧ i = .int .i64 j ∧ v = .string S ∧ S.size ≤ (8 * k + 3) + j ∧ Hid (Cur wx p A n c) ∧ Kept p (p + 1) w wx) (fun _ i _ => 5 - (intOf i).toNat)
        case atStart => exact ⟨0, Q, by omega, rfl, rfl, by omega, HCx, HKx.out⟩
        clear HCx HKx
        case round =>
          obtain ⟨j, S2, hj, rfl, rfl, hS2, hcu, hkp⟩ := hrel
          have HK1 := Lib.hid hkp
          clear hkp
          go_wp2_with fail
          refine (spec_l01Below hcu.out H.out (HB.out.trans (HK1.out.below HB.out.size hp)) hp (by omega) (by omega)).mono ?_
          rintro e v1 ⟨x, rfl, hx, hc1, hk1⟩
          have HK2 := Lib.hid (HK1.out.trans hk1)
          have HC2 := Lib.hid hc1
          clear hc1 hk1 hcu HK1
          by_cases hle : j ≤ x
          · go_wp2_with fail
            refine (spec_l01Below HC2.out H.out (HB.out.trans (HK2.out.below HB.out.size hp)) hp (by omega) (by omega)).mono ?_
            rintro e v2 ⟨y, rfl, hy, hc3, hk3⟩
            have HC3 := Lib.hid hc3
            have HK3 := Lib.hid (HK2.out.trans hk3)
            clear hc3 hk3 HC2 HK2
            have E1 : IntKind.i64.wrap (33 + (y : Int)) = 33 + (y : Int) := IntWalk.i64_in _ (by omega)
            have E2 : IntKind.u8.wrap (33 + (y : Int)) = 33 + (y : Int) := IntWalk.u8_in _ (by omega)
            obtain ⟨fb, hfb⟩ : ∃ fb : UInt8, ((fb.toNat : Nat) : Int) = 33 + (y : Int) := ⟨UInt8.ofNat (33 + y), by rw [UInt8.toNat_ofNat', Nat.mod_eq_of_lt (by omega)]; omega⟩
            have hcv := conv_oneF v2 hfb
            have hsz : Hid ((S2 ++ (⟨#[fb]⟩ : ByteArray)).size = S2.size + 1) := by
              show _ = _
              rw [ByteArray.size_append]; rfl
            have hs1 : (⟨#[fb]⟩ : ByteArray).size = 1 := rfl
            have HC4 := Lib.hid (cur_new HC3.out (.cells #[.int .u8 (33 + (y : Int))] 5))
            have HK4 := Lib.hid (HK3.out.trans (bkept (bnew (Below.refl _ _) (.cells #[.int .u8 (33 + (y : Int))] 5)) (Nat.le_refl _) : Kept p (p + 1) v2 _))
            clear hfb HC3 HK3
            go_wp2
            go_roundw
            case rel => exact ⟨j + 1, _, by omega, by go_num, rfl, by have := hsz.out; omega, HC4, HK4.out⟩
            case measure => simp [intOf]; omega
          · go_wp2
            go_roundw
            case rel => exact ⟨k + 1, S2, by omega, by go_num, rfl, by omega, HC2, HK2.out⟩
            case measure => simp [intOf]; omega
      · obtain rfl : k = 0 := by omega
        go_wp2_with fail
        refine (spec_l01Once HCa.out H.out (HB.out.trans (HKa.out.below HB.out.size hp)) hp (by omega) (by omega)).mono ?_
        rintro e u0 ⟨b', rfl, hc0, hk0'⟩
        have HK0 := Lib.hid (HKa.out.trans hk0')
        have HC0 := Lib.hid hc0
        clear hc0 hk0' HKa HCa
        have HKa := HK0
        have HCa := HC0
        clear HK0 HC0
        cases b'
        · have HKx := HKa
          have HCx := HCa
          clear HKa HCa

          go_wp2
          go_loopw [5, 7] (fun v i wx => ∃ (j : Nat) (S : ByteArray), j ≤ 5 ∧ i = .int .i64 j ∧ v = .string S ∧ S.size ≤ 0 + j ∧ Hid (Cur wx p A n c) ∧ Kept p (p + 1) w wx) (fun _ i _ => 5 - (intOf i).toNat)
          case atStart => exact ⟨0, S, by omega, rfl, rfl, by omega, HCx, HKx.out⟩
          clear HCx HKx
          case round =>
            obtain ⟨j, S2, hj, rfl, rfl, hS2, hcu, hkp⟩ := hrel
            have HK1 := Lib.hid hkp
            clear hkp
            go_wp2_with fail
            refine (spec_l01Below hcu.out H.out (HB.out.trans (HK1.out.below HB.out.size hp)) hp (by omega) (by omega)).mono ?_
            rintro e v1 ⟨x, rfl, hx, hc1, hk1⟩
            have HK2 := Lib.hid (HK1.out.trans hk1)
            have HC2 := Lib.hid hc1
            clear hc1 hk1 hcu HK1
            by_cases hle : j ≤ x
            · go_wp2_with fail
              refine (spec_l01Below HC2.out H.out (HB.out.trans (HK2.out.below HB.out.size hp)) hp (by omega) (by omega)).mono ?_
              rintro e v2 ⟨y, rfl, hy, hc3, hk3⟩
              have HC3 := Lib.hid hc3
              have HK3 := Lib.hid (HK2.out.trans hk3)
              clear hc3 hk3 HC2 HK2
              have E1 : IntKind.i64.wrap (33 + (y : Int)) = 33 + (y : Int) := IntWalk.i64_in _ (by omega)
              have E2 : IntKind.u8.wrap (33 + (y : Int)) = 33 + (y : Int) := IntWalk.u8_in _ (by omega)
              obtain ⟨fb, hfb⟩ : ∃ fb : UInt8, ((fb.toNat : Nat) : Int) = 33 + (y : Int) := ⟨UInt8.ofNat (33 + y), by rw [UInt8.toNat_ofNat', Nat.mod_eq_of_lt (by omega)]; omega⟩
              have hcv := conv_oneF v2 hfb
              have hsz : Hid ((S2 ++ (⟨#[fb]⟩ : ByteArray)).size = S2.size + 1) := by
                show _ = _
                rw [ByteArray.size_append]; rfl
              have hs1 : (⟨#[fb]⟩ : ByteArray).size = 1 := rfl
              have HC4 := Lib.hid (cur_new HC3.out (.cells #[.int .u8 (33 + (y : Int))] 5))
              have HK4 := Lib.hid (HK3.out.trans (bkept (bnew (Below.refl _ _) (.cells #[.int .u8 (33 + (y : Int))] 5)) (Nat.le_refl _) : Kept p (p + 1) v2 _))
              clear hfb HC3 HK3
              go_wp2
              go_roundw
              case rel => exact ⟨j + 1, _, by omega, by go_num, rfl, by have := hsz.out; omega, HC4, HK4.out⟩
              case measure => simp [intOf]; omega
            · go_wp2
              go_roundw
              case rel => exact ⟨1, S2, by omega, by go_num, rfl, by omega, HC2, HK2.out⟩
              case measure => simp [intOf]; omega
        · go_wp2_with fail
          refine (spec_l01Below HCa.out H.out (HB.out.trans (HKa.out.below HB.out.size hp)) hp (by omega) (by omega)).mono ?_
          rintro e u1 ⟨a, rfl, ha, hc1, hk1⟩
          have HKb := Lib.hid (HKa.out.trans hk1)
          clear hk1
          go_wp2_with fail
          refine (spec_l01Below hc1 H.out (HB.out.trans (HKb.out.below HB.out.size hp)) hp (by omega) (by omega)).mono ?_
          rintro e u2 ⟨b, rfl, hb', hc2, hk2⟩
          have HKc := Lib.hid (HKb.out.trans hk2)
          have HCc := Lib.hid hc2
          clear hc1 hc2 hk2 HKb HKa HCa
          obtain ⟨m, hm⟩ : ∃ m : Nat, (a : Int) * (b : Int) = (m : Int) ∧ m ≤ 2 := by
            have : a = 0 ∨ a = 1 := by omega
            rcases this with rfl | rfl
            · exact ⟨0, by simp, by omega⟩
            · exact ⟨b, by simp, by omega⟩
          obtain ⟨hm1, hm2⟩ := hm
          have E0 : IntKind.i64.wrap ((a : Int) * (b : Int)) = (m : Int) := by rw [hm1]; exact IntWalk.i64_in _ (by omega)
          clear hm1
          go_wp2_with fail
          have E1 : (1 : Int) + (m : Int) = ((1 + m : Nat) : Int) := by omega
          rw [E1]
          refine (spec_l01Long (n := 1 + m) (x := 32) (by omega) (by omega)).mono ?_
          rintro e u3 ⟨Z, rfl, hZ, hb3⟩
          have HKx := Lib.hid (HKc.out.trans (bkept hb3 (Nat.le_refl _) : Kept p (p + 1) u2 u3))
          have HCx := Lib.hid (cur_later' HCc.out hb3)
          have hZs : Z.size ≤ 3 := by omega
          have hap : (S ++ Z).size = S.size + Z.size := ByteArray.size_append
          obtain ⟨Q, hQ⟩ : ∃ Q, S ++ Z = Q := ⟨_, rfl⟩
          rw [hQ] at hap
          clear E0 E1 hb3 HKc HCc ha hb' hm2
          have SZ_ : Q.size ≤ 3 := by omega

          go_wp2
          clear hap hZ hZs hQ
          go_loopw [5, 7] (fun v i wx => ∃ (j : Nat) (S : ByteArray), j ≤ 5 ∧ i = .int .i64 j ∧ v = .string S ∧ S.size ≤ 3 + j ∧ Hid (Cur wx p A n c) ∧ Kept p (p + 1) w wx) (fun _ i _ => 5 - (intOf i).toNat)
          case atStart => exact ⟨0, Q, by omega, rfl, rfl, by omega, HCx, HKx.out⟩
          clear HCx HKx
          case round =>
            obtain ⟨j, S2, hj, rfl, rfl, hS2, hcu, hkp⟩ := hrel
            have HK1 := Lib.hid hkp
            clear hkp
            go_wp2_with fail
            refine (spec_l01Below hcu.out H.out (HB.out.trans (HK1.out.below HB.out.size hp)) hp (by omega) (by omega)).mono ?_
            rintro e v1 ⟨x, rfl, hx, hc1, hk1⟩
            have HK2 := Lib.hid (HK1.out.trans hk1)
            have HC2 := Lib.hid hc1
            clear hc1 hk1 hcu HK1
            by_cases hle : j ≤ x
            · go_wp2_with fail
              refine (spec_l01Below HC2.out H.out (HB.out.trans (HK2.out.below HB.out.size hp)) hp (by omega) (by omega)).mono ?_
              rintro e v2 ⟨y, rfl, hy, hc3, hk3⟩
              have HC3 := Lib.hid hc3
              have HK3 := Lib.hid (HK2.out.trans hk3)
              clear hc3 hk3 HC2 HK2
              have E1 : IntKind.i64.wrap (33 + (y : Int)) = 33 + (y : Int) := IntWalk.i64_in _ (by omega)
              have E2 : IntKind.u8.wrap (33 + (y : Int)) = 33 + (y : Int) := IntWalk.u8_in _ (by omega)
              obtain ⟨fb, hfb⟩ : ∃ fb : UInt8, ((fb.toNat : Nat) : Int) = 33 + (y : Int) := ⟨UInt8.ofNat (33 + y), by rw [UInt8.toNat_ofNat', Nat.mod_eq_of_lt (by omega)]; omega⟩
              have hcv := conv_oneF v2 hfb
              have hsz : Hid ((S2 ++ (⟨#[fb]⟩ : ByteArray)).size = S2.size + 1) := by
                show _ = _
                rw [ByteArray.size_append]; rfl
              have hs1 : (⟨#[fb]⟩ : ByteArray).size = 1 := rfl
              have HC4 := Lib.hid (cur_new HC3.out (.cells #[.int .u8 (33 + (y : Int))] 5))
              have HK4 := Lib.hid (HK3.out.trans (bkept (bnew (Below.refl _ _) (.cells #[.int .u8 (33 + (y : Int))] 5)) (Nat.le_refl _) : Kept p (p + 1) v2 _))
              clear hfb HC3 HK3
              go_wp2
              go_roundw
              case rel => exact ⟨j + 1, _, by omega, by go_num, rfl, by have := hsz.out; omega, HC4, HK4.out⟩
              case measure => simp [intOf]; omega
            · go_wp2
              go_roundw
              case rel => exact ⟨1, S2, by omega, by go_num, rfl, by omega, HC2, HK2.out⟩
              case measure => simp [intOf]; omega
    · obtain rfl : k = q := by omega
      go_wp2_with fail
      refine (spec_l01Below HCa.out H.out (HB.out.trans (HKa.out.below HB.out.size hp)) hp (by omega) (by omega)).mono ?_
      rintro e u1 ⟨x, rfl, hx, hc1, hk1⟩
      have HKb := Lib.hid (HKa.out.trans hk1)
      have hpu : p < u1.heap.size := Nat.lt_of_lt_of_le hpl HKb.out.size
      clear hk1 HKa HCa
      by_cases x0 : x = 0
      · subst x0
        go_wp2_with fail
        have hal := bnew (Below.refl u1.heap.size u1) (.cells (sixStrs.map Value.string).toArray 9)
        refine (spec_l01Pick (l := sixStrs) (cur_new hc1 _) H.out (bthen (HB.out.trans (HKb.out.below HB.out.size hp)) hal) hp (fun W hk => ⟨u1.heap.size, 0, rfl, lit_strs hpu hk⟩) (by decide) (by decide)).mono ?_
        rintro e u2 ⟨j, hj, rfl, hc2, hk2⟩
        have h6 := six_size j hj
        obtain ⟨Z, hZ⟩ : ∃ Z, sixStrs.getD j ⟨#[]⟩ = Z := ⟨_, rfl⟩
        rw [hZ] at h6 ⊢
        have HKc := Lib.hid ((HKb.out.trans (bkept hal (Nat.le_refl _))).trans hk2)
        have hap : (S ++ Z).size = S.size + Z.size := ByteArray.size_append
        have hap' := Lib.hid hap
        clear hc1 hc2 hk2 hal hZ hj HKb hap
        go_wp2
        go_ret
        exact ⟨_, rfl, by have := hap'.out; omega, HB.out.trans (HKc.out.below HB.out.size hp)⟩
      by_cases x1 : x = 1
      · subst x1
        by_cases h600 : S.size < 600
        · go_wp2_with fail
          refine (spec_l01Below hc1 H.out (HB.out.trans (HKb.out.below HB.out.size hp)) hp (by omega) (by omega)).mono ?_
          rintro e u2 ⟨y, rfl, hy, hc2, hk2⟩
          have HKc := Lib.hid (HKb.out.trans hk2)
          clear hc1 hc2 hk2 HKb
          go_wp2_with fail
          obtain ⟨m, hm⟩ : ∃ m : Nat, 600 - (S.size : Int) + (y : Int) = (m : Int) := ⟨600 - S.size + y, by omega⟩
          rw [hm]
          refine (spec_l01Long (n := m) (x := 32) (by omega) (by omega)).mono ?_
          rintro e u3 ⟨Z, rfl, hZ, hb3⟩
          have HKx := Lib.hid (HKc.out.trans (bkept hb3 (Nat.le_refl _) : Kept p (p + 1) u2 u3))
          have hZs : Z.size ≤ 601 := by omega
          have hap' := Lib.hid (ByteArray.size_append : (S ++ Z).size = S.size + Z.size)
          clear hm hZ hb3 HKc
          go_wp2
          go_ret
          exact ⟨_, rfl, by have := hap'.out; omega, HB.out.trans (HKx.out.below HB.out.size hp)⟩
        · exfalso
          omega
      have q0 : ((x : Int) == 0) = false := beq_eq_false_iff_ne.2 (by omega)
      have q1 : ((x : Int) == 1) = false := beq_eq_false_iff_ne.2 (by omega)
      clear x0 x1
      go_wp2
      go_ret
      exact ⟨_, rfl, by omega, HB.out.trans (HKb.out.below HB.out.size hp)⟩
end Go.Proofs.YtelmilgdoefmdaaDoor
