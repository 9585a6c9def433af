/- DecodeHex takes back what EncodeHex made. -/
import Derived.Test.YtelmilgdoefmdaaDoorHexJ
namespace Go.Proofs.YtelmilgdoefmdaaDoor
theorem hexL_at : ∀ (L : List UInt8) (k : Nat), k < L.length → (hexL L).getD (k * 2) 0 = fig ((L.getD k 0).toNat / 16) ∧ (hexL L).getD (k * 2 + 1) 0 = fig ((L.getD k 0).toNat % 16)
  | [], k, h => by simp at h
  | b :: L, 0, _ => ⟨rfl, rfl⟩
  | b :: L, k + 1, h => by
    have ih := hexL_at L k (by simpa using h)
    have e : hexL (b :: L) = fig (b.toNat / 16) :: fig (b.toNat % 16) :: hexL L := rfl
    rw [e, show (k + 1) * 2 = k * 2 + 1 + 1 by omega]
    exact ih
theorem valN_fig : ∀ x : Nat, x < 16 → valN (fig x).toNat = (x : Int) := by decide
theorem dec_enc (s : ByteArray) : ∀ k, k ≤ s.data.toList.length → decTo ⟨(hexL s.data.toList).toArray⟩ k = some (s.data.toList.take k)
  | 0, _ => rfl
  | k + 1, h => by
    have ih := dec_enc s k (by omega)
    obtain ⟨a1, a2⟩ := hexL_at s.data.toList k (by omega)
    have hb := (s.data.toList.getD k 0).toNat_lt
    have e1 : byteAt ⟨(hexL s.data.toList).toArray⟩ (k * 2) = (fig ((s.data.toList.getD k 0).toNat / 16)).toNat := by unfold byteAt; rw [← a1]
    have e2 : byteAt ⟨(hexL s.data.toList).toArray⟩ (k * 2 + 1) = (fig ((s.data.toList.getD k 0).toNat % 16)).toNat := by unfold byteAt; rw [← a2]
    have v1 := valN_fig ((s.data.toList.getD k 0).toNat / 16) (by omega)
    have v2 := valN_fig ((s.data.toList.getD k 0).toNat % 16) (by omega)
    have hn := (decTo_next (Lib.hid ih) (Lib.hid e1) (Lib.hid e2) (by rw [v1]; omega) (by rw [v2]; omega)).out
    rw [hn, v1, v2, List.take_succ_eq_append_getElem (by omega)]
    have e3 : (16 * (((s.data.toList.getD k 0).toNat / 16 : Nat) : Int) + (((s.data.toList.getD k 0).toNat % 16 : Nat) : Int)).toNat = (s.data.toList.getD k 0).toNat := by omega
    rw [e3, UInt8.ofNat_toNat, List.getD_eq_getElem?_getD, List.getElem?_eq_getElem (by omega)]
    rfl
theorem size_enc {s : ByteArray} (h : s.size ≤ 20000) : (encHexS s).size = s.size * 2 := by
  rw [encHexS, if_pos h]
  show (hexL s.data.toList).length = _
  rw [length_hexL]
  simp
theorem hex_again {s : ByteArray} (h : s.size ≤ 20000) : decHexS (encHexS s) = s ∧ decHexOk (encHexS s) = true := by
  have hz := size_enc h
  have hl : s.data.toList.length = s.size := by simp
  have h1 := dec_enc s s.size (by omega)
  rw [← hl, List.take_length, hl] at h1
  have h2 : decTo (encHexS s) ((encHexS s).size / 2) = some s.data.toList := by
    rw [hz, Nat.mul_div_cancel _ (by omega), encHexS, if_pos h]; exact h1
  have h3 := decHex_yes (s := encHexS s) ⟨by omega, by omega⟩ h2
  exact ⟨h3.1.trans (by cases s; rfl), h3.2⟩
end Go.Proofs.YtelmilgdoefmdaaDoor
