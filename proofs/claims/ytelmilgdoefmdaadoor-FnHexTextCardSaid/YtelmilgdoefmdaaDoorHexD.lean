/- DecodeHex: what it answers, and that the reference's function answers it. -/
import Derived.Test.YtelmilgdoefmdaaDoorHex
namespace Go.Proofs.YtelmilgdoefmdaaDoor
open Go.RowKit
/-! ## Plain notions -/
/-- The value of a hexadecimal figure; -1 for any other byte. -/
def valN (x : Nat) : Int := if 48 ≤ x ∧ x ≤ 57 then (x : Int) - 48 else if 97 ≤ x ∧ x ≤ 102 then (x : Int) - 97 + 10 else -1
theorem valN_range (x : Nat) : -1 ≤ valN x ∧ valN x ≤ 15 := by
  unfold valN
  by_cases h : 48 ≤ x ∧ x ≤ 57
  · rw [if_pos h]; omega
  · rw [if_neg h]
    by_cases h2 : 97 ≤ x ∧ x ≤ 102
    · rw [if_pos h2]; omega
    · rw [if_neg h2]; omega
def byteAt (s : ByteArray) (i : Nat) : Nat := (s.data.toList.getD i 0).toNat
theorem byteAt_eq {s : ByteArray} {i : Nat} (h : i < s.size) : s[i].toNat = byteAt s i := by
  unfold byteAt
  rw [List.getD_eq_getElem?_getD, List.getElem?_eq_getElem (by simpa using h)]; rfl
def decTo (s : ByteArray) : Nat → Option (List UInt8)
  | 0 => some []
  | k + 1 => (decTo s k).bind fun l => if valN (byteAt s (k * 2)) < 0 ∨ valN (byteAt s (k * 2 + 1)) < 0 then none else some (l ++ [UInt8.ofNat (16 * valN (byteAt s (k * 2)) + valN (byteAt s (k * 2 + 1))).toNat])
def decHex (s : ByteArray) : Option (List UInt8) := if s.size ≤ 40000 ∧ s.size % 2 = 0 then decTo s (s.size / 2) else none
def decHexS (s : ByteArray) : ByteArray := ((decHex s).map fun l => ⟨l.toArray⟩).getD ⟨#[]⟩
def decHexOk (s : ByteArray) : Bool := (decHex s).isSome
theorem decTo_none {s : ByteArray} {k : Nat} (h : decTo s k = none) : ∀ n, k ≤ n → decTo s n = none
  | 0, hn => by obtain rfl : k = 0 := by omega
                exact h
  | n + 1, hn => by
    rcases Nat.lt_or_ge k (n + 1) with hlt | hge
    · simp only [decTo, decTo_none h n (by omega)]; rfl
    · obtain rfl : k = n + 1 := by omega
      exact h
theorem decHex_no {s : ByteArray} (h : ¬ (s.size ≤ 40000 ∧ s.size % 2 = 0)) : decHexS s = ⟨#[]⟩ ∧ decHexOk s = false := by
  unfold decHexS decHexOk decHex; rw [if_neg h]; exact ⟨rfl, rfl⟩
theorem decHex_bad {s : ByteArray} (h : s.size ≤ 40000 ∧ s.size % 2 = 0) {k : Nat} (hk : k < s.size / 2) {x y : Nat} (e1 : Hid (byteAt s (k * 2) = x)) (e2 : Hid (byteAt s (k * 2 + 1) = y)) (hb : valN x < 0 ∨ valN y < 0) :
    decHexS s = ⟨#[]⟩ ∧ decHexOk s = false := by
  have h1 : decTo s (k + 1) = none := by
    simp only [decTo, e1.out, e2.out, if_pos hb]
    cases decTo s k <;> rfl
  unfold decHexS decHexOk decHex; rw [if_pos h, decTo_none h1 _ hk]; exact ⟨rfl, rfl⟩
theorem decHex_yes {s : ByteArray} (h : s.size ≤ 40000 ∧ s.size % 2 = 0) {l : List UInt8} (hl : decTo s (s.size / 2) = some l) : decHexS s = ⟨l.toArray⟩ ∧ decHexOk s = true := by
  unfold decHexS decHexOk decHex; rw [if_pos h, hl]; exact ⟨rfl, rfl⟩
theorem decTo_next {s : ByteArray} {k x y : Nat} {l : List UInt8} (hl : Hid (decTo s k = some l)) (e1 : Hid (byteAt s (k * 2) = x)) (e2 : Hid (byteAt s (k * 2 + 1) = y)) (h1 : 0 ≤ valN x) (h2 : 0 ≤ valN y) :
    Hid (decTo s (k + 1) = some (l ++ [UInt8.ofNat (16 * valN x + valN y).toNat])) := by
  show _ = _
  simp only [decTo, hl.out, Option.bind_some, e1.out, e2.out]
  rw [if_neg (by omega)]
theorem byte_made {a b : Int} (h1 : 0 ≤ a) (h2 : a ≤ 15) (h3 : 0 ≤ b) (h4 : b ≤ 15) : [UInt8.ofNat (16 * a + b).toNat].map byteV = [.int .u8 (16 * a + b)] := by
  simp only [List.map_cons, List.map_nil, byteV, UInt8.toNat_ofNat']
  rw [Nat.mod_eq_of_lt (by omega), Int.toNat_of_nonneg (by omega)]
theorem park {p : Prop} (h : Hid p) : p := h.out
/-! ## The walks -/
end Go.Proofs.YtelmilgdoefmdaaDoor
