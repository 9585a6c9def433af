/- DecodeHex of the program. -/
import Derived.Test.YtnopolbfhhaomaaHexI
namespace Go.Proofs.Ytnopolbfhhaomaa
open Go.RowKit
set_option maxHeartbeats 1000000 in
theorem impl_DecodeHex {s : ByteArray} {w : World} (hs : s.size ≤ 1048576) : Calls Try.prog 6 #[.string s] w fun e w' => e = .returned (.tuple #[.string (decHexS s), .bool (decHexOk s)]) ∧ Below w.heap.size w w' := by
  by_cases h2 : s.size % 2 = 0
  case neg =>
    have hT := Lib.hid (decHex_no (s := s) (by omega))
    have E' : (((s.size : Int) % 2) != 0) = true := by rw [bne_iff_ne]; omega
    go_enter Try.func6, Try.ntmps6
    go_wp2
    go_ret2
    exact ⟨ret_sb hT.out.1.symm hT.out.2.symm, Below.refl _ _⟩
  have E' : (((s.size : Int) % 2) != 0) = false := by rw [bne_eq_false_iff_eq]; omega
  by_cases h : 40000 < s.size
  · have hT := Lib.hid (decHex_no (s := s) (by omega))
    have h5 : (20000 : Int) < (s.size : Int) / 2 := by omega
    go_enter Try.func6, Try.ntmps6
    go_wp2
    go_ret2
    exact ⟨ret_sb hT.out.1.symm hT.out.2.symm, Below.refl _ _⟩
  have hh : Hid (s.size ≤ 40000 ∧ s.size % 2 = 0) := ⟨by omega, h2⟩
  obtain ⟨n, hn⟩ : ∃ n, s.size / 2 = n := ⟨_, rfl⟩
  have hn2 : s.size ≤ n * 2 := by omega
  have hn3 : n * 2 ≤ s.size := by omega
  have hN := Lib.hid hn; clear hn
  have hH2 := Lib.hid h2; clear h2
  have hmk := fun W => run_makeCap (P := Try.prog) 25 5 _ 1 1 Try.underlying25 byte_info n (by omega) (by omega) W ((s.size : Int) / 2) (by omega)
  have h5 : ¬ (20000 : Int) < (s.size : Int) / 2 := by omega
  go_enter Try.func6, Try.ntmps6
  go_wp2
  clear hmk
  go_loopw [4, 5] (fun v i wr => ∃ (k : Nat) (l : List UInt8) (B : Option Addr) (d : Nat), k ≤ n ∧ i = .int .i64 ((k * 2 : Nat) : Int) ∧ v = .slice B k d ∧ Hid (decTo s k = some l) ∧ OwnC 5 1 w.heap.size wr.heap.size wr B d k (l.map byteV) ∧ Hid (l.length = k) ∧ Below w.heap.size w wr) (fun _ i _ => s.size - (intOf i).toNat)
  case atStart => exact ⟨0, [], _, _, Nat.zero_le _, rfl, rfl, rfl, (OwnC.made 5 1 n _ (by simp [maxLen]; omega) (by rw [size_madeCells]; omega)).hi_mono (by simp) (Nat.le_refl _), rfl, bnew (Below.refl _ _) _⟩
  case round =>
    obtain ⟨k, l, B, d, hk, rfl, rfl, hl, hown, hlen, hbel⟩ := hrel
    by_cases hlt : k < n
    · have i1 : k * 2 < s.size := by omega
      have i2 : k * 2 + 1 < s.size := by omega
      have e1 := byteAt_eq i1
      have e2 := byteAt_eq i2
      obtain ⟨x, hx⟩ : ∃ x, Hid (byteAt s (k * 2) = x) := ⟨_, rfl⟩
      obtain ⟨y, hy⟩ : ∃ y, Hid (byteAt s (k * 2 + 1) = y) := ⟨_, rfl⟩
      rw [hx.out] at e1
      rw [hy.out] at e2
      have x2 : x < 256 := by rw [← e1]; exact s[k * 2].toNat_lt
      have y2 : y < 256 := by rw [← e2]; exact s[k * 2 + 1].toNat_lt
      obtain ⟨a1, a2⟩ := valN_range x
      obtain ⟨b1, b2⟩ := valN_range y
      have hbl := Lib.hid hbel; clear hbel
      by_cases m1 : valN x < 0
      · have hT := Lib.hid (decHex_bad hh.out (by rw [hN.out]; exact hlt) hx hy (.inl m1))
        go_wp2_with fail
        refine (impl_IndexByte x2).mono ?_
        rintro e w' ⟨rfl, rfl⟩
        go_wp2_with fail
        refine (impl_IndexByte y2).mono ?_
        rintro e w' ⟨rfl, rfl⟩
        go_wp2
        go_ret2
        exact ⟨ret_sb hT.out.1.symm hT.out.2.symm, hbl.out⟩
      by_cases m2 : valN y < 0
      · have hT := Lib.hid (decHex_bad hh.out (by rw [hN.out]; exact hlt) hx hy (.inr m2))
        go_wp2_with fail
        refine (impl_IndexByte x2).mono ?_
        rintro e w' ⟨rfl, rfl⟩
        go_wp2_with fail
        refine (impl_IndexByte y2).mono ?_
        rintro e w' ⟨rfl, rfl⟩
        go_wp2
        go_ret2
        exact ⟨ret_sb hT.out.1.symm hT.out.2.symm, hbl.out⟩
      have hs' := Lib.hid (decTo_next hl hx hy (by omega) (by omega))
      have hbm := Lib.hid (byte_made (a := valN x) (b := valN y) (by omega) (by omega) (by omega) (by omega))
      have hlo : w.heap.size ≤ wr.heap.size := hbl.out.size
      have ho := Lib.hid hown; clear hown
      go_wp2_with fail
      refine (impl_IndexByte x2).mono ?_
      rintro e w' ⟨rfl, rfl⟩
      go_wp2_with fail
      refine (impl_IndexByte y2).mono ?_
      rintro e w' ⟨rfl, rfl⟩
      go_wp2_with (at_builtin; refine park ?_)
      refine Lib.hid ?_
      refine wpList_app_cells (news := [.int .u8 (16 * valN x + valN y)]) (.tmp 43) (.tmp 49) 25 5 rfl rfl Try.underlying25 byte_info rfl (Nat.succ_pos 0) rfl rfl rfl ho.out hlo (Nat.succ_pos 0) rfl (by simp [Value.oneCell']) (by omega) (by decide) ?_
      intro B' d' w3 hown3 hb3
      go_wp2
      go_roundw
      case rel => exact ⟨k + 1, _, B', d', by omega, by rw [show (((k + 1) * 2 : Nat) : Int) = (k : Int) * 2 + 2 from by omega], rfl, hs'.out, by rw [List.map_append, hbm.out]; exact hown3, by show _ = _; rw [List.length_append, hlen.out]; rfl, hbl.out.trans hb3⟩
      case measure => simp [intOf]; omega
    · obtain rfl : k = n := by omega
      have hT := Lib.hid (decHex_yes hh.out (by rw [hN.out]; exact hl.out))
      have hcv := conv_back Try.underlying25 Try.underlying5 Try.underlying9 hown hlen.out
      go_wp2
      go_ret2
      exact ⟨ret_sb hT.out.1.symm hT.out.2.symm, hbel⟩
end Go.Proofs.Ytnopolbfhhaomaa
