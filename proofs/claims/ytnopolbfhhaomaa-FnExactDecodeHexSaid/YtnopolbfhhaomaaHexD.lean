/- DecodeHex: what it answers, and that the reference's function answers it. -/
import Derived.Test.YtnopolbfhhaomaaHex
namespace Go.Proofs.Ytnopolbfhhaomaa
open Go.RowKit
/-! ## Plain notions -/
/-- The value of a hexadecimal figure; -1 for any other byte. -/
def valN (x : Nat) : Int := if 48 ≤ x ∧ x ≤ 57 then (x : Int) - 48 else if 97 ≤ x ∧ x ≤ 102 then (x : Int) - 97 + 10 else -1
theorem valN_range (x : Nat) : -1 ≤ valN x ∧ valN x ≤ 15 := by
  unfold valN
  by_cases h : 48 ≤ x ∧ x ≤ 57
  · rw [if_pos h]; omega
  · rw [if_neg h]
    by_cases h2 : 97 ≤ x ∧ x ≤ 102
    · rw [if_pos h2]; omega
    · rw [if_neg h2]; omega
def byteAt (s : ByteArray) (i : Nat) : Nat := (s.data.toList.getD i 0).toNat
theorem byteAt_eq {s : ByteArray} {i : Nat} (h : i < s.size) : s[i].toNat = byteAt s i := by
  unfold byteAt
  rw [List.getD_eq_getElem?_getD, List.getElem?_eq_getElem (by simpa using h)]; rfl
def decTo (s : ByteArray) : Nat → Option (List UInt8)
  | 0 => some []
  | k + 1 => (decTo s k).bind fun l => if valN (byteAt s (k * 2)) < 0 ∨ valN (byteAt s (k * 2 + 1)) < 0 then none else some (l ++ [UInt8.ofNat (16 * valN (byteAt s (k * 2)) + valN (byteAt s (k * 2 + 1))).toNat])
def decHex (s : ByteArray) : Option (List UInt8) := if s.size ≤ 40000 ∧ s.size % 2 = 0 then decTo s (s.size / 2) else none
def decHexS (s : ByteArray) : ByteArray := ((decHex s).map fun l => ⟨l.toArray⟩).getD ⟨#[]⟩
def decHexOk (s : ByteArray) : Bool := (decHex s).isSome
theorem decTo_none {s : ByteArray} {k : Nat} (h : decTo s k = none) : ∀ n, k ≤ n → decTo s n = none
  | 0, hn => by obtain rfl : k = 0 := by omega
                exact h
  | n + 1, hn => by
    rcases Nat.lt_or_ge k (n + 1) with hlt | hge
    · simp only [decTo, decTo_none h n (by omega)]; rfl
    · obtain rfl : k = n + 1 := by omega
      exact h
theorem decHex_no {s : ByteArray} (h : ¬ (s.size ≤ 40000 ∧ s.size % 2 = 0)) : decHexS s = ⟨#[]⟩ ∧ decHexOk s = false := by
  unfold decHexS decHexOk decHex; rw [if_neg h]; exact ⟨rfl, rfl⟩
theorem decHex_bad {s : ByteArray} (h : s.size ≤ 40000 ∧ s.size % 2 = 0) {k : Nat} (hk : k < s.size / 2) {x y : Nat} (e1 : Hid (byteAt s (k * 2) = x)) (e2 : Hid (byteAt s (k * 2 + 1) = y)) (hb : valN x < 0 ∨ valN y < 0) :
    decHexS s = ⟨#[]⟩ ∧ decHexOk s = false := by
  have h1 : decTo s (k + 1) = none := by
    simp only [decTo, e1.out, e2.out, if_pos hb]
    cases decTo s k <;> rfl
  unfold decHexS decHexOk decHex; rw [if_pos h, decTo_none h1 _ hk]; exact ⟨rfl, rfl⟩
theorem decHex_yes {s : ByteArray} (h : s.size ≤ 40000 ∧ s.size % 2 = 0) {l : List UInt8} (hl : decTo s (s.size / 2) = some l) : decHexS s = ⟨l.toArray⟩ ∧ decHexOk s = true := by
  unfold decHexS decHexOk decHex; rw [if_pos h, hl]; exact ⟨rfl, rfl⟩
theorem decTo_next {s : ByteArray} {k x y : Nat} {l : List UInt8} (hl : Hid (decTo s k = some l)) (e1 : Hid (byteAt s (k * 2) = x)) (e2 : Hid (byteAt s (k * 2 + 1) = y)) (h1 : 0 ≤ valN x) (h2 : 0 ≤ valN y) :
    Hid (decTo s (k + 1) = some (l ++ [UInt8.ofNat (16 * valN x + valN y).toNat])) := by
  show _ = _
  simp only [decTo, hl.out, Option.bind_some, e1.out, e2.out]
  rw [if_neg (by omega)]
theorem byte_made {a b : Int} (h1 : 0 ≤ a) (h2 : a ≤ 15) (h3 : 0 ≤ b) (h4 : b ≤ 15) : [UInt8.ofNat (16 * a + b).toNat].map byteV = [.int .u8 (16 * a + b)] := by
  simp only [List.map_cons, List.map_nil, byteV, UInt8.toNat_ofNat']
  rw [Nat.mod_eq_of_lt (by omega), Int.toNat_of_nonneg (by omega)]
theorem park {p : Prop} (h : Hid p) : p := h.out
/-! ## The walks -/
theorem spec_l01Value {x : Nat} {w : World} (hx : x < 256) : Calls Try.prog 17 #[.int .u8 (x : Int)] w fun e w' => e = .returned (.int .i64 (valN x)) ∧ w = w' := by
  by_cases h1 : 48 ≤ x ∧ x ≤ 57
  · obtain ⟨a, b⟩ := h1
    go_enter Try.func17, Try.ntmps17
    go_wp2
    go_ret
    exact ⟨ret_int (by unfold valN; rw [if_pos ⟨by omega, by omega⟩]), rfl⟩
  · by_cases h2 : 97 ≤ x ∧ x ≤ 102
    · obtain ⟨a, b⟩ := h2
      go_enter Try.func17, Try.ntmps17
      go_wp2
      go_ret
      exact ⟨ret_int (by unfold valN; rw [if_neg (by omega), if_pos ⟨by omega, by omega⟩]), rfl⟩
    · have hv : Hid (valN x = -1) := by show _ = _; unfold valN; rw [if_neg h1, if_neg h2]
      by_cases c1 : x < 48
      · go_enter Try.func17, Try.ntmps17
        go_wp2
        go_ret
        exact ⟨ret_int hv.out.symm, rfl⟩
      · by_cases c2 : x < 97
        · have c3 : 57 < x := by omega
          go_enter Try.func17, Try.ntmps17
          go_wp2
          go_ret
          exact ⟨ret_int hv.out.symm, rfl⟩
        · have c3 : 102 < x := by omega
          go_enter Try.func17, Try.ntmps17
          go_wp2
          go_ret
          exact ⟨ret_int hv.out.symm, rfl⟩
set_option maxHeartbeats 1000000 in
theorem spec_DecodeHex {s : ByteArray} {w : World} (hs : s.size ≤ 1048576) : Calls Try.prog 5 #[.string s] w fun e w' => e = .returned (.tuple #[.string (decHexS s), .bool (decHexOk s)]) ∧ Below w.heap.size w w' := by
  by_cases h : 40000 < s.size
  · have hT := Lib.hid (decHex_no (s := s) (by omega))
    go_enter Try.func5, Try.ntmps5
    go_wp2
    go_ret2
    exact ⟨ret_sb hT.out.1.symm hT.out.2.symm, Below.refl _ _⟩
  by_cases h2 : s.size % 2 = 0
  case neg =>
    have hT := Lib.hid (decHex_no (s := s) (by omega))
    have E : (((s.size : Int).tmod 2) != 0) = true := by rw [Int.tmod_eq_emod_of_nonneg (by omega), bne_iff_ne]; omega
    have E' : (((s.size : Int) % 2) != 0) = true := by rw [bne_iff_ne]; omega
    go_enter Try.func5, Try.ntmps5
    go_wp2
    go_ret2
    exact ⟨ret_sb hT.out.1.symm hT.out.2.symm, Below.refl _ _⟩
  have hh : Hid (s.size ≤ 40000 ∧ s.size % 2 = 0) := ⟨by omega, h2⟩
  have E : (((s.size : Int).tmod 2) != 0) = false := by rw [Int.tmod_eq_emod_of_nonneg (by omega), bne_eq_false_iff_eq]; omega
  have E' : (((s.size : Int) % 2) != 0) = false := by rw [bne_eq_false_iff_eq]; omega
  obtain ⟨n, hn⟩ : ∃ n, s.size / 2 = n := ⟨_, rfl⟩
  have hn2 : s.size ≤ n * 2 := by omega
  have hn3 : n * 2 ≤ s.size := by omega
  have hN := Lib.hid hn; clear hn
  have hH2 := Lib.hid h2; clear h2
  go_enter Try.func5, Try.ntmps5
  go_wp2
  clear E E'
  go_loopw [4, 5] (fun v i wr => ∃ (k : Nat) (l : List UInt8) (B : Option Addr) (d : Nat), k ≤ n ∧ i = .int .i64 ((k * 2 : Nat) : Int) ∧ v = .slice B k d ∧ Hid (decTo s k = some l) ∧ OwnC 5 1 w.heap.size wr.heap.size wr B d k (l.map byteV) ∧ Hid (l.length = k) ∧ Below w.heap.size w wr) (fun _ i _ => s.size - (intOf i).toNat)
  case atStart => exact ⟨0, [], _, _, Nat.zero_le _, rfl, rfl, rfl, (OwnC.empty 5 1).hi_mono (by simp) (Nat.le_refl _), rfl, bnew (Below.refl _ _) _⟩
  case round =>
    obtain ⟨k, l, B, d, hk, rfl, rfl, hl, hown, hlen, hbel⟩ := hrel
    by_cases hlt : k < n
    · have i1 : k * 2 < s.size := by omega
      have i2 : k * 2 + 1 < s.size := by omega
      have e1 := byteAt_eq i1
      have e2 := byteAt_eq i2
      obtain ⟨x, hx⟩ : ∃ x, Hid (byteAt s (k * 2) = x) := ⟨_, rfl⟩
      obtain ⟨y, hy⟩ : ∃ y, Hid (byteAt s (k * 2 + 1) = y) := ⟨_, rfl⟩
      rw [hx.out] at e1
      rw [hy.out] at e2
      have x2 : x < 256 := by rw [← e1]; exact s[k * 2].toNat_lt
      have y2 : y < 256 := by rw [← e2]; exact s[k * 2 + 1].toNat_lt
      obtain ⟨a1, a2⟩ := valN_range x
      obtain ⟨b1, b2⟩ := valN_range y
      have hbl := Lib.hid hbel; clear hbel
      by_cases m1 : valN x < 0
      · have hT := Lib.hid (decHex_bad hh.out (by rw [hN.out]; exact hlt) hx hy (.inl m1))
        go_wp2_with fail
        refine (spec_l01Value x2).mono ?_
        rintro e w' ⟨rfl, rfl⟩
        go_wp2_with fail
        refine (spec_l01Value y2).mono ?_
        rintro e w' ⟨rfl, rfl⟩
        go_wp2
        go_ret2
        exact ⟨ret_sb hT.out.1.symm hT.out.2.symm, hbl.out⟩
      by_cases m2 : valN y < 0
      · have hT := Lib.hid (decHex_bad hh.out (by rw [hN.out]; exact hlt) hx hy (.inr m2))
        go_wp2_with fail
        refine (spec_l01Value x2).mono ?_
        rintro e w' ⟨rfl, rfl⟩
        go_wp2_with fail
        refine (spec_l01Value y2).mono ?_
        rintro e w' ⟨rfl, rfl⟩
        go_wp2
        go_ret2
        exact ⟨ret_sb hT.out.1.symm hT.out.2.symm, hbl.out⟩
      have hs' := Lib.hid (decTo_next hl hx hy (by omega) (by omega))
      have hbm := Lib.hid (byte_made (a := valN x) (b := valN y) (by omega) (by omega) (by omega) (by omega))
      have hlo : w.heap.size ≤ wr.heap.size := hbl.out.size
      have ho := Lib.hid hown; clear hown
      go_wp2_with fail
      refine (spec_l01Value x2).mono ?_
      rintro e w' ⟨rfl, rfl⟩
      go_wp2_with fail
      refine (spec_l01Value y2).mono ?_
      rintro e w' ⟨rfl, rfl⟩
      go_wp2_with (at_builtin; refine park ?_)
      refine Lib.hid ?_
      refine wpList_app_cells (news := [.int .u8 (16 * valN x + valN y)]) (.tmp 39) (.tmp 45) 25 5 rfl rfl Try.underlying25 byte_info rfl (Nat.succ_pos 0) rfl rfl rfl ho.out hlo (Nat.succ_pos 0) rfl (by simp [Value.oneCell']) (by omega) (by decide) ?_
      intro B' d' w3 hown3 hb3
      go_wp2
      go_roundw
      case rel => exact ⟨k + 1, _, B', d', by omega, by rw [show (((k + 1) * 2 : Nat) : Int) = (k : Int) * 2 + 2 from by omega], rfl, hs'.out, by rw [List.map_append, hbm.out]; exact hown3, by show _ = _; rw [List.length_append, hlen.out]; rfl, hbl.out.trans hb3⟩
      case measure => simp [intOf]; omega
    · obtain rfl : k = n := by omega
      have hT := Lib.hid (decHex_yes hh.out (by rw [hN.out]; exact hl.out))
      have hcv := conv_back Try.underlying25 Try.underlying5 Try.underlying9 hown hlen.out
      go_wp2
      go_ret2
      exact ⟨ret_sb hT.out.1.symm hT.out.2.symm, hbel⟩
end Go.Proofs.Ytnopolbfhhaomaa
