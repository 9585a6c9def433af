/- The plain law behind FnFieldsAgain: the fields of a line, joined by single spaces, have the same fields. -/
import Derived.Test.YtelmilgdoefmdaaDoorSplit
namespace Go.Proofs.YtelmilgdoefmdaaDoor
open Go.RowKit
set_option linter.unusedVariables false
/-- A field: not empty, its bytes neither spaces nor anything odd. -/
def GoodF (f : ByteArray) : Prop := 0 < f.size ∧ ∀ c, c ∈ f.data.toList → 33 ≤ c.toNat ∧ c.toNat ≤ 126
def joinL (p : List ByteArray) : List UInt8 := (p.map fun f => f.data.toList ++ [32]).flatten
def joinS (p : List ByteArray) : ByteArray := ⟨(joinL p).toArray⟩
theorem joinL_snoc (p : List ByteArray) (f : ByteArray) : joinL (p ++ [f]) = joinL p ++ (f.data.toList ++ [32]) := by simp [joinL]
theorem joinL_append (p q : List ByteArray) : joinL (p ++ q) = joinL p ++ joinL q := by simp [joinL]
theorem len_data (f : ByteArray) : f.data.toList.length = f.size := by simp
theorem joinS_snoc (p : List ByteArray) (f : ByteArray) : joinS p ++ f ++ ⟨#[32]⟩ = joinS (p ++ [f]) := by
  apply ByteArray.ext
  rw [ByteArray.data_append, ByteArray.data_append]
  apply Array.ext'
  simp [joinS, joinL_snoc]
theorem size_joinS (p : List ByteArray) : (joinS p).size = (joinL p).length := rfl
theorem ext_list (s : ByteArray) (a b : Nat) : (s.extract a b).data.toList = (s.data.toList.drop a).take (b - a) := by
  rw [ByteArray.data_extract, Array.toList_extract, List.extract_eq_take_drop]
theorem fields_good {s : ByteArray} (hok : ∀ j, j < s.size → byteOk s j = true) : ∀ k, k ≤ s.size + 1 → (fieldsTo s k).2 ≤ k ∧ (∀ j, (fieldsTo s k).2 ≤ j → j < k → j < s.size → bt s j ≠ 32) ∧ (∀ f, f ∈ (fieldsTo s k).1 → GoodF f) ∧ (joinL (fieldsTo s k).1).length ≤ (fieldsTo s k).2
  | 0, _ => ⟨Nat.le_refl _, fun j _ hj => by omega, fun f hf => by simp [fieldsTo] at hf, by simp [fieldsTo, joinL]⟩
  | k + 1, hk => by
    obtain ⟨h1, h2, h3, h4⟩ := fields_good hok k (by omega)
    by_cases hs : k < s.size ∧ bt s k ≠ 32
    · rw [f_stay (F := (fieldsTo s k).1) (st := (fieldsTo s k).2) (Lib.hid rfl) hs.1 hs.2]
      refine ⟨by simp only; omega, fun j hj1 hj2 hj3 => ?_, h3, h4⟩
      by_cases hjk : j = k
      · subst hjk; exact hs.2
      · exact h2 j hj1 (by omega) hj3
    · by_cases hst : (fieldsTo s k).2 < k
      · rw [f_cut (F := (fieldsTo s k).1) (st := (fieldsTo s k).2) (Lib.hid rfl) hs hst]
        have hl : (s.extract (fieldsTo s k).2 k).data.toList.length = k - (fieldsTo s k).2 := by
          rw [ext_list, List.length_take, List.length_drop, len_data]; omega
        refine ⟨Nat.le_refl _, fun j hj1 hj2 _ => by simp only at hj1; omega, fun f hf => ?_, ?_⟩
        · rcases List.mem_append.1 hf with hf | hf
          · exact h3 f hf
          rw [List.mem_singleton] at hf
          subst hf
          refine ⟨by rw [← len_data, hl]; omega, fun c hc => ?_⟩
          obtain ⟨i, hi, e⟩ := List.getElem_of_mem hc
          rw [hl] at hi
          have hj : (fieldsTo s k).2 + i < s.size := by omega
          have e2 : bt s ((fieldsTo s k).2 + i) = c.toNat := by
            unfold bt
            rw [← e]
            congr 1
            simp only [ext_list]
            rw [List.getElem_take, List.getElem_drop, List.getD_eq_getElem?_getD, List.getElem?_eq_getElem (by rw [len_data]; exact hj)]
            rfl
          have b1 := hok _ hj
          have b2 := h2 ((fieldsTo s k).2 + i) (by omega) (by omega) hj
          unfold byteOk at b1
          rw [decide_eq_true_eq, e2] at b1
          rw [e2] at b2
          omega
        · rw [joinL_snoc, List.length_append, List.length_append, hl]
          simp only [List.length_singleton]
          omega
      · rw [f_skip (F := (fieldsTo s k).1) (st := (fieldsTo s k).2) (Lib.hid rfl) hs hst]
        exact ⟨Nat.le_refl _, fun j hj1 hj2 _ => by simp only at hj1; omega, h3, by simp only; omega⟩
theorem bt_mid {X Y Z : List UInt8} {i : Nat} (h : i < Y.length) : bt ⟨(X ++ (Y ++ Z)).toArray⟩ (X.length + i) = (Y.getD i 0).toNat := by
  unfold bt
  congr 1
  rw [List.getD_eq_getElem?_getD, List.getD_eq_getElem?_getD]
  show ((X ++ (Y ++ Z))[X.length + i]?).getD 0 = _
  rw [List.getElem?_append_right (by omega), Nat.add_sub_cancel_left, List.getElem?_append_left h]
theorem fields_step {X Z : List UInt8} {f : ByteArray} {F : List ByteArray} (hg : GoodF f) (h : fieldsTo ⟨(X ++ ((f.data.toList ++ [32]) ++ Z)).toArray⟩ X.length = (F, X.length)) :
    fieldsTo ⟨(X ++ ((f.data.toList ++ [32]) ++ Z)).toArray⟩ (X.length + f.size + 1) = (F ++ [f], X.length + f.size + 1) := by
  have hz : (⟨(X ++ ((f.data.toList ++ [32]) ++ Z)).toArray⟩ : ByteArray).size = X.length + (f.size + 1 + Z.length) := by
    show (X ++ ((f.data.toList ++ [32]) ++ Z)).length = _
    rw [List.length_append, List.length_append, List.length_append, len_data]; rfl
  have hy : (f.data.toList ++ [32]).length = f.size + 1 := by rw [List.length_append, len_data]; rfl
  have stay : ∀ i, i ≤ f.size → fieldsTo ⟨(X ++ ((f.data.toList ++ [32]) ++ Z)).toArray⟩ (X.length + i) = (F, X.length) := by
    intro i
    induction i with
    | zero => intro _; exact h
    | succ i ih =>
      intro hi
      have hi' : i < f.data.toList.length := by rw [len_data]; omega
      refine f_stay (k := X.length + i) (Lib.hid (ih (by omega))) (by rw [hz]; omega) ?_
      rw [bt_mid (by rw [hy]; omega), List.getD_eq_getElem?_getD, List.getElem?_append_left hi', List.getElem?_eq_getElem hi']
      have := (hg.2 f.data.toList[i] (List.getElem_mem hi')).1
      show f.data.toList[i].toNat ≠ 32
      omega
  have h32 : bt ⟨(X ++ ((f.data.toList ++ [32]) ++ Z)).toArray⟩ (X.length + f.size) = 32 := by
    rw [bt_mid (by rw [hy]; omega), List.getD_eq_getElem?_getD, List.getElem?_append_right (by rw [len_data]; omega), len_data, Nat.sub_self]; rfl
  rw [f_cut (k := X.length + f.size) (Lib.hid (stay f.size (Nat.le_refl _))) (fun hh => hh.2 h32) (by have := hg.1; omega)]
  have he : (⟨(X ++ ((f.data.toList ++ [32]) ++ Z)).toArray⟩ : ByteArray).extract X.length (X.length + f.size) = f := by
    apply ByteArray.ext
    apply Array.ext'
    rw [ext_list]
    show ((X ++ ((f.data.toList ++ [32]) ++ Z)).drop X.length).take _ = _
    rw [List.drop_left, Nat.add_sub_cancel_left, List.append_assoc, ← len_data, List.take_left]
  rw [he]
theorem fields_join {p : List ByteArray} (hg : ∀ f, f ∈ p → GoodF f) : ∀ m, m ≤ p.length → fieldsTo (joinS p) (joinL (p.take m)).length = (p.take m, (joinL (p.take m)).length)
  | 0, _ => by simp [joinL, fieldsTo]
  | m + 1, hm => by
    have hlt : m < p.length := by omega
    have ih := fields_join hg m (by omega)
    have e1 : p.take (m + 1) = p.take m ++ [p[m]] := List.take_succ_eq_append_getElem hlt
    have e2 : joinS p = ⟨(joinL (p.take m) ++ ((p[m].data.toList ++ [32]) ++ joinL (p.drop (m + 1)))).toArray⟩ := by
      unfold joinS
      congr 2
      rw [← List.append_assoc, ← joinL_snoc, ← e1, ← joinL_append, List.take_append_drop]
    rw [e2] at ih ⊢
    have := fields_step (hg _ (List.getElem_mem hlt)) ih
    rw [e1, joinL_snoc, List.length_append, List.length_append, len_data]
    simp only [List.length_singleton]
    rw [show (joinL (p.take m)).length + (p[m].size + 1) = (joinL (p.take m)).length + p[m].size + 1 by omega]
    exact this
theorem join_bytes {p : List ByteArray} (hg : ∀ f, f ∈ p → GoodF f) : ∀ c, c ∈ joinL p → 32 ≤ c.toNat ∧ c.toNat ≤ 126 := by
  intro c hc
  unfold joinL at hc
  rw [List.mem_flatten] at hc
  obtain ⟨l, hl, hcl⟩ := hc
  obtain ⟨f, hf, rfl⟩ := List.mem_map.1 hl
  rcases List.mem_append.1 hcl with h | h
  · have := (hg f hf).2 c h; omega
  · rw [List.mem_singleton] at h
    subst h; decide
theorem join_again {p : List ByteArray} (hg : ∀ f, f ∈ p → GoodF f) (h24 : p.length ≤ 24) (h600 : (joinS p).size ≤ 600) : spL (joinS p) = p ∧ spOk (joinS p) = true := by
  have hf := fields_join hg p.length (Nat.le_refl _)
  rw [List.take_length, ← size_joinS] at hf
  have hf2 := f_skip (Lib.hid hf) (fun hh => absurd hh.1 (Nat.lt_irrefl _)) (Nat.lt_irrefl _)
  have hb : Hid (∀ j, j < (joinS p).size → byteOk (joinS p) j = true) := fun j hj => by
    refine decide_eq_true ?_
    have hj' : j < (joinL p).length := hj
    have := join_bytes hg (joinL p)[j] (List.getElem_mem hj')
    unfold bt
    show 32 ≤ ((joinL p).getD j 0).toNat ∧ ((joinL p).getD j 0).toNat ≤ 126
    rw [List.getD_eq_getElem?_getD, List.getElem?_eq_getElem hj']
    exact this
  have ho : spOk (joinS p) = true := by
    rw [sp_all h600 hb (Lib.hid hf2)]
    exact decide_eq_true h24
  refine ⟨?_, ho⟩
  rw [(sp_yes ho).1, hf2]
/-- What is held of a line's fields. -/
theorem sp_good {s : ByteArray} (h : spOk s = true) : (∀ f, f ∈ spL s → GoodF f) ∧ (spL s).length ≤ 24 ∧ (joinL (spL s)).length ≤ 601 := by
  have e := (sp_yes h).1
  unfold spOk at h
  simp only [Bool.and_eq_true, decide_eq_true_eq, List.all_eq_true, List.mem_range] at h
  obtain ⟨h1, h2, h3⟩ := h
  obtain ⟨a1, _, a3, a4⟩ := fields_good h2 (s.size + 1) (Nat.le_refl _)
  rw [e]
  exact ⟨a3, h3, by omega⟩
theorem join_le (p : List ByteArray) (k : Nat) : (joinL (p.take k)).length ≤ (joinL p).length := by
  have : joinL p = joinL (p.take k) ++ joinL (p.drop k) := by rw [← joinL_append, List.take_append_drop]
  rw [this, List.length_append]; omega
end Go.Proofs.YtelmilgdoefmdaaDoor
