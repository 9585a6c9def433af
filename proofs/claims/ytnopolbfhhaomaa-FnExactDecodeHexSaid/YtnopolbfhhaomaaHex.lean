/- EncodeHex and DecodeHex: what they answer, and that the program's and the reference's functions answer it. -/
import Derived.Test.YtnopolbfhhaomaaNum
import Derived.Test.YtnopolbfhhaomaaTail
import Derived.Deep.RegionHeld3
import Derived.Deep.AppendLies
import Derived.Laws.IdiomStrings
import Derived.Lib.BufferRead
namespace Go.Proofs.Ytnopolbfhhaomaa
open Go.RowKit
/-! ## Plain notions -/
/-- The hexadecimal figure of a number below 16. -/
def fig (x : Nat) : UInt8 := UInt8.ofNat (if x < 10 then 48 + x else 87 + x)
def byteV (b : UInt8) : Value := .int .u8 (b.toNat : Int)
def hexL (l : List UInt8) : List UInt8 := l.flatMap fun b => [fig (b.toNat / 16), fig (b.toNat % 16)]
theorem hexL_snoc (l : List UInt8) (b : UInt8) : hexL (l ++ [b]) = hexL l ++ [fig (b.toNat / 16), fig (b.toNat % 16)] := by simp [hexL]
theorem length_hexL (l : List UInt8) : (hexL l).length = l.length * 2 := by
  induction l with
  | nil => rfl
  | cons b l ih => simp only [hexL, List.flatMap_cons, List.length_append] at ih ⊢; rw [ih]; simp; omega
def encHexOk (s : ByteArray) : Bool := decide (s.size ≤ 20000)
def encHexS (s : ByteArray) : ByteArray := if s.size ≤ 20000 then ⟨(hexL s.data.toList).toArray⟩ else ⟨#[]⟩
theorem take_snoc (s : ByteArray) (k : Nat) (h : k < s.size) : s.data.toList.take (k + 1) = s.data.toList.take k ++ [s[k]] := by
  rw [List.take_succ_eq_append_getElem (by simpa using h)]; rfl
theorem take_all (s : ByteArray) : s.data.toList.take s.size = s.data.toList := List.take_of_length_le (by simp)
theorem fig_val {x : Nat} (h : x < 16) : ((fig x).toNat : Int) = if (x : Int) < 10 then 48 + (x : Int) else 87 + (x : Int) := by
  unfold fig
  by_cases h10 : x < 10
  · rw [if_pos h10, if_pos (by omega), UInt8.toNat_ofNat', Nat.mod_eq_of_lt (by omega)]; omega
  · rw [if_neg h10, if_neg (by omega), UInt8.toNat_ofNat', Nat.mod_eq_of_lt (by omega)]; omega

theorem encHex_long {s : ByteArray} (h : 20000 < s.size) : encHexS s = ⟨#[]⟩ ∧ encHexOk s = false := ⟨if_neg (by omega), decide_eq_false (by omega)⟩
theorem encHex_fits {s : ByteArray} (h : ¬ 20000 < s.size) : encHexS s = ⟨(hexL s.data.toList).toArray⟩ ∧ encHexOk s = true := ⟨if_pos (by omega), decide_eq_true (by omega)⟩
theorem fig_at : ∀ (i : Nat) (h : i < 16), (({ data := #[48, 49, 50, 51, 52, 53, 54, 55, 56, 57, 97, 98, 99, 100, 101, 102] } : ByteArray)[i]'h).toNat = (fig i).toNat := by decide
/-! ## The walks -/
theorem byte_info : (Try.prog.info? 5).map (fun i => (i.zero, i.size, i.bytes)) = some (some (.int .u8 0), 1, 1) := by kernel_rfl
theorem ret_sb {a b : ByteArray} {x y : Bool} (h : a = b) (h2 : x = y) : Ending.returned (.tuple #[.string a, .bool x]) = .returned (.tuple #[.string b, .bool y]) := by rw [h, h2]
theorem ret_u8 {a b : Int} (h : a = b) : Ending.returned (.int .u8 a) = .returned (.int .u8 b) := by rw [h]
theorem one_u8 (x y : Int) : ∀ u ∈ [Value.int .u8 x, Value.int .u8 y], u.oneCell' = true := by simp [Value.oneCell']
theorem two_bytes {b c : UInt8} {x y : Nat} (h1 : Hid (b.toNat = x)) (h2 : Hid (c.toNat = y)) : [b, c].map byteV = [.int .u8 (x : Int), .int .u8 (y : Int)] := by rw [← h1.out, ← h2.out]; rfl
theorem one_bytes (l : List UInt8) : ∀ u ∈ l.map byteV, u.oneCell' = true := by
  intro u hu
  obtain ⟨b, _, rfl⟩ := List.mem_map.1 hu
  rfl
/-- The bytes that the program has gathered, made into a string. -/
theorem conv_back {P : Program} {src e dst : TypeId} (hs : P.underlying src = some (.slice e)) (he : P.underlying e = some (.int .u8)) (hd : P.underlying dst = some .string)
    {lo hi : Nat} {w : World} {A : Option Addr} {c n : Nat} {l : List UInt8} (h : OwnC e 1 lo hi w A c n (l.map byteV)) (hn : l.length = n) : (convert src dst (.slice A n c)).run P w = .ok (.string ⟨l.toArray⟩) w := by
  subst hn
  by_cases h0 : 0 < l.length
  · obtain ⟨g, rfl, _, _, _, hr⟩ := h.form h0
    refine run_convert_bytes_back w src dst e ⟨g, 0, none⟩ c l hs he hd fun j hj => ?_
    have hadd : (⟨g, 0, none⟩ : Addr).add j = ⟨g, j, none⟩ := by unfold Addr.add; by_cases hj0 : j = 0 <;> simp [hj0]
    rw [hadd, hr.cellAt j (by omega), List.getElem?_map, List.getElem?_eq_getElem hj]
    rfl
  · have hl : l = [] := List.eq_nil_of_length_eq_zero (by omega)
    subst hl
    rcases A with _ | a
    · exact Lib.run_convert_nil_bytes w src dst e c hs he hd
    · exact run_convert_bytes_back w src dst e a c [] hs he hd (fun j hj => by simp at hj)
end Go.Proofs.Ytnopolbfhhaomaa
