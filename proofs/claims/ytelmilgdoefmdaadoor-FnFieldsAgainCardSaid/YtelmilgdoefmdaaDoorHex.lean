/- EncodeHex and DecodeHex: what they answer, and that the program's and the reference's functions answer it. -/
import Derived.Test.YtelmilgdoefmdaaDoorNum
import Derived.Test.YtelmilgdoefmdaaDoorTail
import Derived.Deep.RegionHeld3
import Derived.Deep.AppendLies
import Derived.Laws.IdiomStrings
import Derived.Lib.BufferRead
namespace Go.Proofs.YtelmilgdoefmdaaDoor
open Go.RowKit
/-! ## Plain notions -/
/-- The hexadecimal figure of a number below 16. -/
def fig (x : Nat) : UInt8 := UInt8.ofNat (if x < 10 then 48 + x else 87 + x)
def byteV (b : UInt8) : Value := .int .u8 (b.toNat : Int)
def hexL (l : List UInt8) : List UInt8 := l.flatMap fun b => [fig (b.toNat / 16), fig (b.toNat % 16)]
theorem hexL_snoc (l : List UInt8) (b : UInt8) : hexL (l ++ [b]) = hexL l ++ [fig (b.toNat / 16), fig (b.toNat % 16)] := by simp [hexL]
theorem length_hexL (l : List UInt8) : (hexL l).length = l.length * 2 := by
  induction l with
  | nil => rfl
  | cons b l ih => simp only [hexL, List.flatMap_cons, List.length_append] at ih ⊢; rw [ih]; simp; omega
def encHexOk (s : ByteArray) : Bool := decide (s.size ≤ 20000)
def encHexS (s : ByteArray) : ByteArray := if s.size ≤ 20000 then ⟨(hexL s.data.toList).toArray⟩ else ⟨#[]⟩
theorem take_snoc (s : ByteArray) (k : Nat) (h : k < s.size) : s.data.toList.take (k + 1) = s.data.toList.take k ++ [s[k]] := by
  rw [List.take_succ_eq_append_getElem (by simpa using h)]; rfl
theorem take_all (s : ByteArray) : s.data.toList.take s.size = s.data.toList := List.take_of_length_le (by simp)
theorem fig_val {x : Nat} (h : x < 16) : ((fig x).toNat : Int) = if (x : Int) < 10 then 48 + (x : Int) else 87 + (x : Int) := by
  unfold fig
  by_cases h10 : x < 10
  · rw [if_pos h10, if_pos (by omega), UInt8.toNat_ofNat', Nat.mod_eq_of_lt (by omega)]; omega
  · rw [if_neg h10, if_neg (by omega), UInt8.toNat_ofNat', Nat.mod_eq_of_lt (by omega)]; omega

theorem encHex_long {s : ByteArray} (h : 20000 < s.size) : encHexS s = ⟨#[]⟩ ∧ encHexOk s = false := ⟨if_neg (by omega), decide_eq_false (by omega)⟩
theorem encHex_fits {s : ByteArray} (h : ¬ 20000 < s.size) : encHexS s = ⟨(hexL s.data.toList).toArray⟩ ∧ encHexOk s = true := ⟨if_pos (by omega), decide_eq_true (by omega)⟩
theorem fig_at : ∀ (i : Nat) (h : i < 16), (({ data := #[48, 49, 50, 51, 52, 53, 54, 55, 56, 57, 97, 98, 99, 100, 101, 102] } : ByteArray)[i]'h).toNat = (fig i).toNat := by decide
/-! ## The walks -/
theorem byte_info : (Tryd.prog.info? 5).map (fun i => (i.zero, i.size, i.bytes)) = some (some (.int .u8 0), 1, 1) := by kernel_rfl
theorem ret_sb {a b : ByteArray} {x y : Bool} (h : a = b) (h2 : x = y) : Ending.returned (.tuple #[.string a, .bool x]) = .returned (.tuple #[.string b, .bool y]) := by rw [h, h2]
theorem ret_u8 {a b : Int} (h : a = b) : Ending.returned (.int .u8 a) = .returned (.int .u8 b) := by rw [h]
theorem one_u8 (x y : Int) : ∀ u ∈ [Value.int .u8 x, Value.int .u8 y], u.oneCell' = true := by simp [Value.oneCell']
theorem two_bytes {b c : UInt8} {x y : Nat} (h1 : Hid (b.toNat = x)) (h2 : Hid (c.toNat = y)) : [b, c].map byteV = [.int .u8 (x : Int), .int .u8 (y : Int)] := by rw [← h1.out, ← h2.out]; rfl
theorem one_bytes (l : List UInt8) : ∀ u ∈ l.map byteV, u.oneCell' = true := by
  intro u hu
  obtain ⟨b, _, rfl⟩ := List.mem_map.1 hu
  rfl
/-- The bytes that the program has gathered, made into a string. -/
theorem conv_back {P : Program} {src e dst : TypeId} (hs : P.underlying src = some (.slice e)) (he : P.underlying e = some (.int .u8)) (hd : P.underlying dst = some .string)
    {lo hi : Nat} {w : World} {A : Option Addr} {c n : Nat} {l : List UInt8} (h : OwnC e 1 lo hi w A c n (l.map byteV)) (hn : l.length = n) : (convert src dst (.slice A n c)).run P w = .ok (.string ⟨l.toArray⟩) w := by
  subst hn
  by_cases h0 : 0 < l.length
  · obtain ⟨g, rfl, _, _, _, hr⟩ := h.form h0
    refine run_convert_bytes_back w src dst e ⟨g, 0, none⟩ c l hs he hd fun j hj => ?_
    have hadd : (⟨g, 0, none⟩ : Addr).add j = ⟨g, j, none⟩ := by unfold Addr.add; by_cases hj0 : j = 0 <;> simp [hj0]
    rw [hadd, hr.cellAt j (by omega), List.getElem?_map, List.getElem?_eq_getElem hj]
    rfl
  · have hl : l = [] := List.eq_nil_of_length_eq_zero (by omega)
    subst hl
    rcases A with _ | a
    · exact Lib.run_convert_nil_bytes w src dst e c hs he hd
    · exact run_convert_bytes_back w src dst e a c [] hs he hd (fun j hj => by simp at hj)
theorem spec_l01Figure {x : Int} {w : World} (h0 : 0 ≤ x) (h1 : x < 16) : Calls Tryd.prog 21 #[.int .i64 x] w fun e w' => e = .returned (byteV (fig x.toNat)) ∧ w = w' := by
  by_cases h : x < 10
  · go_enter Tryd.func21, Tryd.ntmps21
    go_wp2
    go_ret
    refine ⟨ret_u8 ?_, rfl⟩
    rw [fig_val (by omega), if_pos (by omega)]
    show 48 + x = 48 + (x.toNat : Int)
    omega
  · go_enter Tryd.func21, Tryd.ntmps21
    go_wp2
    go_ret
    refine ⟨ret_u8 ?_, rfl⟩
    rw [fig_val (by omega), if_neg (by omega)]
    show 97 + x - 10 = 87 + (x.toNat : Int)
    omega
theorem impl_EncodeHex {s : ByteArray} {w : World} (hs : s.size ≤ 1048576) : Calls Tryd.prog 12 #[.string s] w fun e w' => e = .returned (.tuple #[.string (encHexS s), .bool (encHexOk s)]) ∧ Below w.heap.size w w' := by
  by_cases h : 20000 < s.size
  · go_enter Tryd.func12, Tryd.ntmps12
    go_wp2
    go_ret2
    exact ⟨ret_sb (encHex_long h).1.symm (encHex_long h).2.symm, Below.refl _ _⟩
  · have hmk := fun W => run_makeCap (P := Tryd.prog) 24 5 _ 1 1 Tryd.underlying24 byte_info (2 * s.size) (by omega) (by omega) W (2 * (s.size : Int)) (by omega)
    go_enter Tryd.func12, Tryd.ntmps12
    go_wp2
    clear hmk
    go_loopw [4, 5] (fun v i wr => ∃ (k : Nat) (B : Option Addr) (d : Nat), k ≤ s.size ∧ i = .int .i64 k ∧ v = .slice B (k * 2) d ∧ OwnC 5 1 w.heap.size wr.heap.size wr B d (k * 2) ((hexL (s.data.toList.take k)).map byteV) ∧ Below w.heap.size w wr) (fun _ i _ => s.size - (intOf i).toNat)
    case atStart => exact ⟨0, _, _, Nat.zero_le _, rfl, rfl, (OwnC.made 5 1 (2 * s.size) _ (by simp [maxLen]; omega) (by rw [size_madeCells]; omega)).hi_mono (by simp) (Nat.le_refl _), bnew (Below.refl _ _) _⟩
    case round =>
      obtain ⟨k, B, d, hk, rfl, rfl, hown, hbel⟩ := hrel
      by_cases hlt : k < s.size
      · have HS := Lib.hid (take_snoc s k hlt)
        obtain ⟨x, hx, hx2⟩ : ∃ x : Nat, s[k].toNat = x ∧ x < 256 := ⟨_, rfl, s[k].toNat_lt⟩
        have hlo := hbel.size
        have hl2 : k * 2 + 2 ≤ 4194304 := by omega
        go_wp2_with fail
        obtain ⟨y1, HB1⟩ : ∃ y : Nat, Hid ((fig (x / 16)).toNat = y) := ⟨_, rfl⟩
        obtain ⟨y2, HB2⟩ : ∃ y : Nat, Hid ((fig (x % 16)).toNat = y) := ⟨_, rfl⟩
        have F1 : (({ data := #[48, 49, 50, 51, 52, 53, 54, 55, 56, 57, 97, 98, 99, 100, 101, 102] } : ByteArray)[((x : Int) / 16).toNat]'(show ((x : Int) / 16).toNat < 16 by omega)).toNat = y1 := (fig_at _ _).trans (by rw [show ((x : Int) / 16).toNat = x / 16 from by omega]; exact HB1.out)
        have F2 : (({ data := #[48, 49, 50, 51, 52, 53, 54, 55, 56, 57, 97, 98, 99, 100, 101, 102] } : ByteArray)[((x : Int) % 16).toNat]'(show ((x : Int) % 16).toNat < 16 by omega)).toNat = y2 := (fig_at _ _).trans (by rw [show ((x : Int) % 16).toNat = x % 16 from by omega]; exact HB2.out)
        have E1 : IntKind.u8.wrap ((x : Int) / 16) = (x : Int) / 16 := IntWalk.u8_in _ (by omega)
        have E3 : (x : Int).tmod 16 = (x : Int) % 16 := Int.tmod_eq_emod_of_nonneg (by omega)
        have E2 : IntKind.u8.wrap ((x : Int) % 16) = (x : Int) % 16 := IntWalk.u8_in _ (by omega)
        have H1 : (x : Int) / 16 < 16 := by omega
        have H2 : (x : Int) % 16 < 16 := by omega
        have H3 : (0 : Int) ≤ (x : Int) / 16 := by omega
        have H4 : (0 : Int) ≤ (x : Int) % 16 := by omega
        go_region_held3 (fun _ => True) (trivial) (first
          | (refine step_app_new [.int .u8 (y1 : Int), .int .u8 (y2 : Int)] (.tmp 19) (.tmp 30) 24 5 rfl rfl Tryd.underlying24 byte_info rfl (Nat.succ_pos 0) rfl rfl hown hlo (Nat.succ_pos 1) rfl (one_u8 y1 y2) hl2 (Nat.le_of_ble_eq_true rfl) ?_; intro B' d' w2 hown2 hb2))
        all_goals
          clear E1 E2 E3 H1 H2 H3 H4 F1 F2
          go_wp2
          go_roundw
          case rel => exact ⟨k + 1, B', d', by omega, by go_num, by rw [Nat.succ_mul], by rw [HS.out, hexL_snoc, hx, List.map_append, Nat.succ_mul, two_bytes HB1 HB2]; exact hown2, hbel.trans hb2⟩
          case measure => simp [intOf]; omega
      · obtain rfl : k = s.size := by omega
        rw [take_all] at hown
        have hcv := conv_back Tryd.underlying24 Tryd.underlying5 Tryd.underlying9 hown (by rw [length_hexL]; simp)
        go_wp2
        go_ret2
        exact ⟨ret_sb (encHex_fits h).1.symm (encHex_fits h).2.symm, hbel⟩
end Go.Proofs.YtelmilgdoefmdaaDoor
