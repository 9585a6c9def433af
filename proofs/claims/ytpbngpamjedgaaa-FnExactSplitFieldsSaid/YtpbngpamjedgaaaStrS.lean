/- Lists of strings: what is held of them, and the law's own helpers that compare, mark and look again at them. -/
import Derived.Test.YtpbngpamjedgaaaNum
import Derived.Test.YtpbngpamjedgaaaTail
import Derived.Test.YtpbngpamjedgaaaBase2
import Derived.Deep.RegionHeld3
import Derived.Deep.AppendLies
import Derived.Laws.IdiomStrings
import Derived.Lib.BufferRead
namespace Go.Proofs.Ytpbngpamjedgaaa
open Go.RowKit
set_option linter.unusedVariables false
/-- The slice (address A) reads as the list of strings. -/
def RS (w : World) (A : Option Addr) (l : List ByteArray) : Prop :=
  l.length ≤ 1048576 ∧ (0 < l.length → ∃ b off, A = some ⟨b, off, none⟩ ∧ ∀ j, j < l.length → w.cell? ⟨b, off + j, none⟩ = some (.string (l.getD j ⟨#[]⟩)))
theorem RS.below {w w' : World} {A : Option Addr} {l : List ByteArray} (h : RS w A l) (hb : Below w.heap.size w w') : RS w' A l :=
  ⟨h.1, fun hl => by obtain ⟨b, off, hA, hj⟩ := h.2 hl; exact ⟨b, off, hA, fun j hjl => cell_later (hj j hjl) hb⟩⟩
structure OwnS (e : TypeId) (lo hi : Nat) (w : World) (A : Option Addr) (c : Nat) (l : List ByteArray) : Prop where
  own : OwnC e 1 lo hi w A c l.length (l.map Value.string)
  le : hi ≤ w.heap.size
  small : l.length ≤ 1048576
section
variable {e : TypeId} {lo hi : Nat} {w w' : World} {A : Option Addr} {c : Nat} {l : List ByteArray}
theorem OwnS.below (h : OwnS e lo hi w A c l) {B : Nat} (hb : Below B w w') (hB : hi ≤ B) : OwnS e lo hi w' A c l := ⟨h.own.below hb hB, Nat.le_trans h.le hb.size, h.small⟩
theorem OwnS.kept (h : OwnS e lo hi w A c l) {lo' hi' : Nat} (hk : Kept lo' hi' w w') (hd : hi ≤ lo' ∨ hi' ≤ lo) : OwnS e lo hi w' A c l := ⟨h.own.kept hk hd, Nat.le_trans h.le hk.size, h.small⟩
theorem OwnS.hi_mono {hi' : Nat} (h : OwnS e lo hi w A c l) (h1 : hi ≤ hi') (h2 : hi' ≤ w.heap.size) : OwnS e lo hi' w A c l := ⟨h.own.hi_mono h1 h2, h2, h.small⟩
theorem OwnS.nil (e : TypeId) {lo hi : Nat} (w : World) (h : hi ≤ w.heap.size) : OwnS e lo hi w none 0 [] := ⟨OwnC.nil e w h, h, by simp⟩
theorem strs_at {l : List ByteArray} {k : Nat} (hk : k < l.length) : (l.map Value.string)[k]? = some (.string (l.getD k ⟨#[]⟩)) := by
  rw [List.getElem?_map, List.getD_eq_getElem?_getD, List.getElem?_eq_getElem hk]; rfl
theorem OwnS.reads (h : OwnS e lo hi w A c l) : RS w A l := by
  refine ⟨h.small, fun hl => ?_⟩
  obtain ⟨g, rfl, _, _, hlt, row⟩ := h.own.form hl
  exact ⟨g, 0, rfl, fun j hj => by rw [Nat.zero_add, row.cellAt j (by omega)]; exact strs_at hj⟩
theorem OwnS.slot {g : Nat} (h : OwnS e lo hi w (some ⟨g, 0, none⟩) c l) {k : Nat} (hk : k < l.length) : w.cell? ⟨g, k, none⟩ = some (.string (l.getD k ⟨#[]⟩)) ∧ w.frozen? ⟨g, k, none⟩ = false :=
  ⟨(h.own.row.cellAt k (by omega)).trans (strs_at hk), h.own.row.frozenAt _⟩
theorem OwnS.stored {g : Nat} (h : OwnS e lo hi w (some ⟨g, 0, none⟩) c l) (k : Nat) (x : ByteArray) : OwnS e lo hi (w.setCell ⟨g, k, none⟩ (.string x)) (some ⟨g, 0, none⟩) c (l.set k x) := by
  have h1 := (h.own.row.stored k (.string x)).1
  have h2 := h.le
  refine ⟨⟨?_, h.own.top, by simpa [World.setCell] using h2⟩, by simpa [World.setCell] using h2, by rw [List.length_set]; exact h.small⟩
  rw [List.map_set, List.length_set]; exact h1
theorem OwnS.form (h : OwnS e lo hi w A c l) (hl : 0 < l.length) : ∃ g, A = some ⟨g, 0, none⟩ ∧ lo ≤ g ∧ g < hi := by
  obtain ⟨g, h1, h2, h3, _⟩ := h.own.form hl
  exact ⟨g, h1, h2, h3⟩
end
/-! ## The marks -/
def fig10 (r : Nat) : UInt8 := UInt8.ofNat (48 + r % 10)
theorem fig10_val (r : Nat) : ((fig10 r).toNat : Int) = 48 + (r : Int) % 10 := by
  unfold fig10
  rw [UInt8.toNat_ofNat', Nat.mod_eq_of_lt (by omega)]; omega
/-- The figures of r ahead of acc. -/
def figs : Nat → Nat → ByteArray → ByteArray
  | 0, _, acc => acc
  | fuel + 1, r, acc => if r = 0 then acc else figs fuel (r / 10) (⟨#[fig10 r]⟩ ++ acc)
theorem figs_fuel : ∀ (f r : Nat) (acc : ByteArray) (g : Nat), r ≤ f → r ≤ g → figs f r acc = figs g r acc
  | 0, r, acc, g, h, _ => by
    obtain rfl : r = 0 := by omega
    cases g <;> simp [figs]
  | f + 1, r, acc, 0, _, h => by
    obtain rfl : r = 0 := by omega
    simp [figs]
  | f + 1, r, acc, g + 1, h1, h2 => by
    unfold figs
    split
    · rfl
    · exact figs_fuel f _ _ g (by omega) (by omega)
def mt (k : Int) : ByteArray := if k ≤ 0 then ⟨#[109, 48]⟩ else ⟨#[109]⟩ ++ figs k.toNat k.toNat ⟨#[]⟩
theorem figs_next {r : Nat} (acc : ByteArray) (h : 0 < r) : figs r r acc = figs (r / 10) (r / 10) (⟨#[fig10 r]⟩ ++ acc) := by
  obtain ⟨f, rfl⟩ : ∃ f, r = f + 1 := ⟨r - 1, by omega⟩
  rw [show figs (f + 1) (f + 1) acc = if f + 1 = 0 then acc else figs f ((f + 1) / 10) (⟨#[fig10 (f + 1)]⟩ ++ acc) from rfl, if_neg (by omega)]
  exact figs_fuel _ _ _ _ (by omega) (Nat.le_refl _)
def upS (q : Int) (n : Nat) : List ByteArray := (List.range n).map fun (j : Nat) => mt (q + (j : Int))
theorem length_upS (q : Int) (n : Nat) : (upS q n).length = n := by simp [upS]
theorem upS_at (q : Int) (n k : Nat) (h : k < n) : (upS q n).getD k ⟨#[]⟩ = mt (q + (k : Int)) := by
  rw [List.getD_eq_getElem?_getD, List.getElem?_eq_getElem (by simpa [upS] using h)]; simp [upS]
theorem laws_eqStringS {l : List ByteArray} {A B : Option Addr} {c d : Nat} {w : World} (h1 : RS w A l) (h2 : RS w B l) :
    Calls Try.prog 10 #[.slice A l.length c, .slice B l.length d] w fun e w' => e = .returned (.bool true) ∧ Below w.heap.size w w' := by
  have hn := h1.1
  have H1 := Lib.hid h1; have H2 := Lib.hid h2; clear h1 h2
  go_enter Try.func10, Try.ntmps10
  go_wp2
  go_loopw [5] (fun i wr => ∃ k : Nat, k ≤ l.length ∧ i = .int .i64 k ∧ Below w.heap.size w wr) (fun i _ => l.length - (intOf i).toNat)
  case atStart => exact ⟨0, Nat.zero_le _, rfl, Below.refl _ _⟩
  case round =>
    obtain ⟨k, hk, rfl, hbel⟩ := hrel
    by_cases hlt : k < l.length
    · obtain ⟨b, off, rfl, hP⟩ := H1.out.2 (by omega)
      obtain ⟨b', off', rfl, hP'⟩ := H2.out.2 (by omega)
      obtain ⟨u, hu⟩ : ∃ u, Hid (l.getD k ⟨#[]⟩ = u) := ⟨_, rfl⟩
      have k1 := hP k hlt
      have k2 := hP' k hlt
      rw [hu.out] at k1 k2
      have c1 := cell_after k1 hbel
      have c2 := cell_after k2 hbel
      clear hP hP' k1 k2
      go_wp2_with fail
      refine wp_region_after (by kernel_rfl) (by kernel_rfl) ?_
      repeat (go_big_quiet_step (fail))
      refine wpQuiet_nil ?_
      rintro _ ⟨⟨wq, hq⟩, rfl⟩
      replace hbel := bthen hbel hq
      clear hq
      clear c1 c2
      go_wp2
      go_roundw
      case rel => exact ⟨k + 1, by omega, by go_num, hbel⟩
      case measure => simp [intOf]; omega
    · go_wp2
      go_ret
      exact ⟨rfl, hbel⟩
theorem ret_str {a b : ByteArray} (h : a = b) : Ending.returned (.string a) = .returned (.string b) := by rw [h]
set_option maxHeartbeats 1000000 in
theorem laws_markText {k : Int} {w : World} (hk : k ≤ 4000000) : Calls Try.prog 17 #[.int .i64 k] w fun e w' => e = .returned (.string (mt k)) ∧ Below w.heap.size w w' := by
  by_cases h0 : k ≤ 0
  · have hm : Hid (mt k = ⟨#[109, 48]⟩) := if_pos h0
    go_enter Try.func17, Try.ntmps17
    go_wp2
    go_ret
    exact ⟨ret_str (by rw [hm.out]), Below.refl _ _⟩
  obtain ⟨n, rfl⟩ : ∃ n : Nat, k = (n : Int) := ⟨k.toNat, by omega⟩
  have hm : Hid (mt (n : Int) = ⟨#[109]⟩ ++ figs n n ⟨#[]⟩) := by
    show _ = _
    unfold mt
    rw [if_neg h0, Int.toNat_natCast]
  go_enter Try.func17, Try.ntmps17
  go_wp2
  go_loopw [0, 3] (fun u v wr => ∃ (r : Nat) (acc : ByteArray), u = .int .i64 r ∧ v = .string acc ∧ acc.size + r ≤ n ∧ Hid (figs r r acc = figs n n ⟨#[]⟩) ∧ Below w.heap.size w wr) (fun u _ _ => (intOf u).toNat)
  case atStart => exact ⟨n, ⟨#[]⟩, rfl, rfl, by show 0 + n ≤ n; omega, rfl, Below.refl _ _⟩
  case round =>
    obtain ⟨r, acc, rfl, rfl, hsz, hfg, hbel⟩ := hrel
    by_cases hr : 0 < r
    · obtain ⟨fb, hfb⟩ : ∃ fb, Hid (fig10 r = fb) := ⟨_, rfl⟩
      have hn2 : Hid (figs (r / 10) (r / 10) (⟨#[fb]⟩ ++ acc) = figs n n ⟨#[]⟩) := by
        show _ = _
        rw [← hfg.out, figs_next acc hr, hfb.out]
      have hb : Hid (((fb.toNat : Nat) : Int) = 48 + (r : Int) % 10) := by
        show _ = _
        rw [← hfb.out, fig10_val]
      have E3 : (r : Int).tmod 10 = (r : Int) % 10 := Int.tmod_eq_emod_of_nonneg (by omega)
      have E4 : (r : Int).tdiv 10 = (r : Int) / 10 := Int.tdiv_eq_ediv_of_nonneg (by omega)
      have hcv : (convert 22 9 (.slice (some ⟨wr.heap.size, 0, none⟩) 1 1)).run Try.prog (wr.alloc (.cells #[.int .u8 (48 + (r : Int) % 10)] 5)) = .ok (.string ⟨#[fb]⟩) (wr.alloc (.cells #[.int .u8 (48 + (r : Int) % 10)] 5)) := by
        refine run_convert_bytes_back (P := Try.prog) (wr.alloc (.cells #[.int .u8 (48 + (r : Int) % 10)] 5)) 22 9 5 ⟨wr.heap.size, 0, none⟩ 1 [fb] Try.underlying22 Try.underlying5 Try.underlying9 fun j hj => ?_
        have hj0 : j = 0 := by simpa using hj
        subst hj0
        have hadd : (⟨wr.heap.size, 0, none⟩ : Addr).add 0 = ⟨wr.heap.size, 0, none⟩ := by simp [Addr.add]
        rw [hadd, cell_of_row _ _ 0 _ _ _ (heap_alloc_new wr _)]
        show some (Value.int .u8 (48 + (r : Int) % 10)) = some (Value.int .u8 ((fb.toNat : Nat) : Int))
        rw [hb.out]
      have hbel2 := Lib.hid (bnew hbel (.cells #[.int .u8 (48 + (r : Int) % 10)] 5))
      have hsz2 : Hid ((⟨#[fb]⟩ ++ acc : ByteArray).size = 1 + acc.size) := by
        show _ = _
        rw [ByteArray.size_append]; rfl
      clear hbel
      go_wp2
      go_roundw
      case rel => exact ⟨r / 10, ⟨#[fb]⟩ ++ acc, by go_num, rfl, by have := hsz2.out; omega, hn2, hbel2.out⟩
      case measure => simp [intOf]; omega
    · obtain rfl : r = 0 := by omega
      have hfin : Hid (mt (n : Int) = ⟨#[109]⟩ ++ acc) := by
        show _ = _
        rw [hm.out, ← hfg.out]; rfl
      go_wp2
      go_ret
      exact ⟨ret_str hfin.out.symm, hbel⟩
theorem fillS_up {q : Int} {n : Nat} {m : List ByteArray} (h : m.length = n) {k : Nat} (hk : k < n) {x : ByteArray} (hx : x = mt (q + (k : Int))) : (fill (upS q n) m k).set k x = fill (upS q n) m (k + 1) := by
  rw [← fill_set (upS q n) m k (by rw [length_upS]; exact h) (by rw [length_upS]; exact hk) ⟨#[]⟩, upS_at q n k hk, hx]
set_option maxHeartbeats 400000 in
theorem laws_markStringS {e : TypeId} {lo hi : Nat} {q : Int} {l : List ByteArray} {A : Option Addr} {c : Nat} {w : World} (h : OwnS e lo hi w A c l) (hq : 0 ≤ q) (hq2 : q ≤ 1048576) :
    Calls Try.prog 11 #[.slice A l.length c, .int .i64 q] w fun r w' => r = .returned (.int .i64 (q + l.length)) ∧ OwnS e lo hi w' A c (upS q l.length) ∧ Kept lo hi w w' := by
  have hn := h.small
  have H := Lib.hid h; clear h
  obtain ⟨n, hnl⟩ : ∃ n, n = l.length := ⟨_, rfl⟩
  rw [← hnl] at hn ⊢
  have HL := Lib.hid hnl; clear hnl
  go_enter Try.func11, Try.ntmps11
  go_wp2
  go_loopw [1, 5] (fun v i wr => ∃ k : Nat, k ≤ n ∧ i = .int .i64 k ∧ v = .int .i64 (q + (k : Int)) ∧ OwnS e lo hi wr A c (fill (upS q n) l k) ∧ Kept lo hi w wr) (fun _ i _ => n - (intOf i).toNat)
  case atStart => exact ⟨0, Nat.zero_le _, rfl, by simp, by rw [fill_zero]; exact H.out, Kept.refl _ _ _⟩
  case round =>
    obtain ⟨k, hk, rfl, rfl, hown, hkept⟩ := hrel
    by_cases hlt : k < n
    · have hlen : (fill (upS q n) l k).length = n := by rw [length_fill _ _ _ (by rw [length_upS, HL.out]), length_upS]
      obtain ⟨g, rfl, hg1, hg2⟩ := hown.form (by omega)
      have hown' := Lib.hid hown; clear hown
      have hlen' := Lib.hid hlen; clear hlen
      have hkept' := Lib.hid hkept; clear hkept
      go_wp2_with fail
      refine (laws_markText (by omega)).mono ?_
      rintro e1 wq ⟨rfl, hq9⟩
      have ho2 := Lib.hid (hown'.out.below hq9 hown'.out.le)
      obtain ⟨s1, s2⟩ := ho2.out.slot (k := k) (by rw [hlen'.out]; exact hlt)
      have hk2 := Lib.hid (hkept'.out.trans (bkept hq9 (Nat.le_refl _)))
      clear hq9
      go_wp2
      go_roundw
      case rel =>
        refine ⟨k + 1, by omega, by go_num, by go_num, ?_, hk2.out.setCell (p := ⟨g, _, none⟩) hg1 hg2 _⟩
        have h := ho2.out.stored k (mt (q + (k : Int)))
        rw [fillS_up HL.out.symm hlt rfl] at h
        exact h
      case measure => simp [intOf]; omega
    · obtain rfl : k = n := by omega
      have hf : fill (upS q k) l k = upS q k := by
        have := fill_all (upS q k) l (by rw [length_upS, HL.out])
        rwa [length_upS] at this
      rw [hf] at hown
      clear hf
      go_wp2
      go_ret
      exact ⟨rfl, hown, hkept⟩
theorem laws_heldStringS {q : Int} {n : Nat} {A : Option Addr} {c : Nat} {w : World} (h : RS w A (upS q n)) (hq : 0 ≤ q) (hq2 : q ≤ 1048576) :
    Calls Try.prog 12 #[.slice A n c, .int .i64 q] w fun e w' => e = .returned (.int .i64 (q + n)) ∧ Below w.heap.size w w' := by
  obtain ⟨hn, hA⟩ := h
  rw [length_upS] at hn hA
  have HA := Lib.hid hA; clear hA
  go_enter Try.func12, Try.ntmps12
  go_wp2
  go_loopw [1, 5] (fun v i wr => ∃ k : Nat, k ≤ n ∧ i = .int .i64 k ∧ v = .int .i64 (q + (k : Int)) ∧ Below w.heap.size w wr) (fun _ i _ => n - (intOf i).toNat)
  case atStart => exact ⟨0, Nat.zero_le _, rfl, by simp, Below.refl _ _⟩
  case round =>
    obtain ⟨k, hk, rfl, rfl, hbel⟩ := hrel
    by_cases hlt : k < n
    · obtain ⟨b, off, rfl, hP⟩ := HA.out (by omega)
      have k1 := hP k (by omega)
      rw [upS_at q n k hlt] at k1
      have c1 := cell_after k1 hbel
      clear hP k1
      go_wp2_with fail
      refine wp_region_after (by kernel_rfl) (by kernel_rfl) ?_
      repeat (go_big_quiet_step (first | (go_at_call 17; exact Calls.after_of (laws_markText (by omega)))))
      refine wpQuiet_nil ?_
      rintro _ ⟨⟨wq, hq⟩, rfl⟩
      replace hbel := bthen hbel hq
      clear hq
      clear c1
      go_wp2
      go_roundw
      case rel => exact ⟨k + 1, by omega, by go_num, by go_num, hbel⟩
      case measure => simp [intOf]; omega
    · obtain rfl : k = n := by omega
      go_wp2
      go_ret
      exact ⟨rfl, hbel⟩
end Go.Proofs.Ytpbngpamjedgaaa
