/- The decimal text of a number, read again. -/
import Derived.Test.YtelmilgdoefmdaaDoorItoa
import Derived.Lib.ItoaMem
import Derived.Lib.AtoiAll
import Derived.Lib.AtoiAllCases
namespace Go.Proofs.YtelmilgdoefmdaaDoor
open Go.RowKit
set_option linter.unusedVariables false
/-- The number that figures spell. -/
def valL (l : List UInt8) : Nat := l.foldl (fun a c => 10 * a + (c.toNat - 48)) 0
theorem valL_snoc (l : List UInt8) (c : UInt8) : valL (l ++ [c]) = 10 * valL l + (c.toNat - 48) := by simp [valL]
theorem figB {x : Nat} (h : x < 10) : (UInt8.ofNat (48 + x)).toNat = 48 + x := by rw [UInt8.toNat_ofNat', Nat.mod_eq_of_lt (by omega)]
theorem dd_small {n : Nat} (h : n < 10) : Lib.decDigits n = [UInt8.ofNat (48 + n)] := by rw [Lib.decDigits, dif_pos h]
theorem dd_big {n : Nat} (h : ¬ n < 10) : Lib.decDigits n = Lib.decDigits (n / 10) ++ [UInt8.ofNat (48 + n % 10)] := by rw [Lib.decDigits, dif_neg h]
theorem val_dd (n : Nat) : valL (Lib.decDigits n) = n := by
  induction n using Nat.strongRecOn with
  | _ n ih =>
    by_cases h : n < 10
    · rw [dd_small h]
      show 10 * 0 + ((UInt8.ofNat (48 + n)).toNat - 48) = n
      rw [figB h]; omega
    · rw [dd_big h, valL_snoc, ih (n / 10) (by omega), figB (by omega)]; omega
theorem fig_dd (n : Nat) : ∀ c, c ∈ Lib.decDigits n → 48 ≤ c.toNat ∧ c.toNat ≤ 57 := by
  induction n using Nat.strongRecOn with
  | _ n ih =>
    intro c hc
    by_cases h : n < 10
    · rw [dd_small h, List.mem_singleton] at hc
      subst hc
      rw [figB h]; omega
    · rw [dd_big h, List.mem_append, List.mem_singleton] at hc
      rcases hc with hc | hc
      · exact ih (n / 10) (by omega) c hc
      · subst hc
        rw [figB (by omega)]; omega
theorem len_dd : ∀ k n, n < 10 ^ (k + 1) → (Lib.decDigits n).length ≤ k + 1
  | 0, n, h => by rw [dd_small (by omega)]; simp
  | k + 1, n, h => by
    by_cases h10 : n < 10
    · rw [dd_small h10]; simp
    · have e : 10 ^ (k + 1 + 1) = 10 ^ (k + 1) * 10 := Nat.pow_succ ..
      have := len_dd k (n / 10) (by omega)
      rw [dd_big h10, List.length_append]
      simp only [List.length_singleton]
      omega
theorem dd_ne (n : Nat) : Lib.decDigits n ≠ [] := by
  by_cases h : n < 10
  · rw [dd_small h]; simp
  · rw [dd_big h]; simp
theorem parse_snoc : ∀ (l : List UInt8) (acc u : Nat) (c : UInt8), Lib.parseUint10 acc l = .ok u → Lib.parseUint10 acc (l ++ [c]) = Lib.parseUint10 u [c]
  | [], acc, u, c, h => by
    simp only [Lib.parseUint10] at h
    injection h with h
    subst h; rfl
  | b :: l, acc, u, c, h => by
    rw [List.cons_append]
    simp only [Lib.parseUint10] at h
    split at h
    · rename_i h1
      split at h
      · cases h
      · rename_i h2
        split at h
        · cases h
        · rename_i h3
          have ih := parse_snoc l _ u c h
          rw [Lib.parseUint10, if_pos h1, if_neg h2, if_neg h3, ih]
    · cases h
theorem parse_dd (n : Nat) (hn : n ≤ 1000000000) : Lib.parseUint10 0 (Lib.decDigits n) = .ok n := by
  induction n using Nat.strongRecOn with
  | _ n ih =>
    by_cases h : n < 10
    · rw [dd_small h]
      simp only [Lib.parseUint10]
      rw [figB h, if_pos (by omega), if_neg (by omega), if_neg (by omega)]
      congr 1; omega
    · rw [dd_big h, parse_snoc _ _ _ _ (ih (n / 10) (by omega) (by omega))]
      simp only [Lib.parseUint10]
      rw [figB (show n % 10 < 10 by omega), if_pos (by omega), if_neg (by omega), if_neg (by omega)]
      congr 1; omega
theorem atoi_dd (n : Nat) (hn : n ≤ 1000000000) : Lib.atoiAll (Lib.decDigits n) = .ok (n : Int) := by
  have hp := parse_dd n hn
  have hf := fig_dd n
  cases hd : Lib.decDigits n with
  | nil => exact absurd hd (dd_ne n)
  | cons c r =>
    rw [hd] at hp hf
    have hc := hf c (List.mem_cons_self ..)
    rw [Lib.atoiAll_plain c r (by omega) (by omega), Lib.parseMag, if_neg (by simp), hp]
    show (if 9223372036854775808 ≤ n then _ else _) = _
    rw [if_neg (by omega)]
/-! ## What ParseUint answers -/
def puOk (s : ByteArray) : Bool := decide (valL s.data.toList ≤ 1000000000 ∧ Lib.decDigits (valL s.data.toList) = s.data.toList)
def puN (s : ByteArray) : Int := if puOk s = true then (valL s.data.toList : Int) else 0
theorem itoa_nat (n : Nat) : itoaS (n : Int) = ⟨(Lib.decDigits n).toArray⟩ := by unfold itoaS; rw [Lib.itoa_nonneg]
theorem itoa_data {n : Nat} {s : ByteArray} (h : itoaS (n : Int) = s) : s.data.toList = Lib.decDigits n := by
  rw [← h, itoa_nat]
theorem pu_yes {n : Nat} {s : ByteArray} (hn : n ≤ 1000000000) (h : itoaS (n : Int) = s) : puN s = (n : Int) ∧ puOk s = true := by
  have e := itoa_data h
  have ho : puOk s = true := by
    unfold puOk
    rw [e, val_dd]
    exact decide_eq_true ⟨hn, rfl⟩
  refine ⟨?_, ho⟩
  unfold puN
  rw [if_pos ho, e, val_dd]
theorem pu_no {s : ByteArray} (h : ∀ n : Nat, n ≤ 1000000000 → itoaS (n : Int) ≠ s) : puN s = 0 ∧ puOk s = false := by
  have ho : puOk s = false := by
    unfold puOk
    refine decide_eq_false fun ⟨h1, h2⟩ => h _ h1 ?_
    rw [itoa_nat, h2]
  refine ⟨?_, ho⟩
  unfold puN
  rw [ho]; rfl
theorem atoi_of {n : Nat} {s : ByteArray} (hn : n ≤ 1000000000) (h : itoaS (n : Int) = s) : Lib.atoiAll s.data.toList = .ok (n : Int) := by
  rw [itoa_data h]; exact atoi_dd n hn
theorem pu_not {s : ByteArray} (h : ∀ n : Int, Lib.atoiAll s.data.toList ≠ .ok n) : puN s = 0 ∧ puOk s = false := pu_no fun _ hn e => h _ (atoi_of hn e)
theorem pu_range {s : ByteArray} (h : Lib.atoiAll s.data.toList = .range) : puN s = 0 ∧ puOk s = false := pu_no fun n hn e => by rw [atoi_of hn e] at h; cases h
theorem pu_other {s : ByteArray} {v : Int} (h : Lib.atoiAll s.data.toList = .ok v) (hv : v < 0 ∨ 1000000000 < v ∨ itoaS v ≠ s) : puN s = 0 ∧ puOk s = false := pu_no fun n hn e => by
  rw [atoi_of hn e] at h
  injection h with h
  rcases hv with h1 | h1 | h1
  · omega
  · omega
  · exact h1 (by rw [← h]; exact e)
theorem pu_long {s : ByteArray} (h : 10 < s.size) : puN s = 0 ∧ puOk s = false := pu_no fun n hn e => by
  have h1 := len_dd 9 n (by omega)
  rw [← itoa_data e] at h1
  have e1 : s.size = s.data.size := rfl
  have e2 : s.data.toList.length = s.data.size := Array.length_toList
  omega
theorem pu_fig {s : ByteArray} {k : Nat} (hk : k < s.size) (h : s[k].toNat < 48 ∨ 57 < s[k].toNat) : puN s = 0 ∧ puOk s = false := pu_no fun n hn e => by
  have h1 := fig_dd n s[k] (by rw [← itoa_data e]; exact Array.getElem_mem_toList ..)
  omega
theorem pu_val {s : ByteArray} {n : Nat} (hv : valL s.data.toList = n) (h : 1000000000 < n ∨ itoaS (n : Int) ≠ s) : puN s = 0 ∧ puOk s = false := pu_no fun m hm e => by
  have : n = m := by rw [← hv, itoa_data e, val_dd]
  subst this
  rcases h with h | h
  · omega
  · exact h e
theorem pu_int {n : Int} (h0 : -9223372036854775808 ≤ n) : (0 ≤ n ∧ n ≤ 1000000000 → puN (itoaS n) = n ∧ puOk (itoaS n) = true) ∧ (¬ (0 ≤ n ∧ n ≤ 1000000000) → puN (itoaS n) = 0 ∧ puOk (itoaS n) = false) := by
  refine ⟨fun ⟨h1, h2⟩ => ?_, fun hn => pu_no fun m hm e => ?_⟩
  · obtain ⟨m, rfl⟩ : ∃ m : Nat, n = (m : Int) := ⟨n.toNat, by omega⟩
    exact pu_yes (by omega) rfl
  · have e1 : Lib.itoa (m : Int) = Lib.itoa n := by
      have := congrArg (fun b : ByteArray => b.data.toList) e
      exact this
    rw [Lib.itoa_nonneg] at e1
    by_cases hneg : n < 0
    · obtain ⟨k, rfl⟩ : ∃ k : Nat, n = -(k : Int) := ⟨n.natAbs, by omega⟩
      rw [Lib.itoa_neg k (by omega)] at e1
      have := fig_dd m 45 (by rw [e1]; exact List.mem_cons_self ..)
      exact absurd this.1 (by decide)
    · obtain ⟨k, rfl⟩ : ∃ k : Nat, n = (k : Int) := ⟨n.toNat, by omega⟩
      rw [Lib.itoa_nonneg] at e1
      have : valL (Lib.decDigits m) = valL (Lib.decDigits k) := by rw [e1]
      rw [val_dd, val_dd] at this
      omega
end Go.Proofs.YtelmilgdoefmdaaDoor
