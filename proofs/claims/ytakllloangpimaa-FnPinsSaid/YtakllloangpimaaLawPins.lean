/- Whatever the bytes of the draw, the law FnPins answers true: turning a cylinder moves all pins, and a full turn moves none. There are no conditions. -/
import Derived.Test.YtakllloangpimaaLawK
import Derived.Test.YtakllloangpimaaDrawC
import Derived.Test.YtakllloangpimaaTurn
import Derived.Deep.RegionHeld3
import Derived.Deep.Cut
namespace Go.Proofs.Ytakllloangpimaa.lawPins
open Go.ChangeShapes Go.WideShapes Go.ChangeAt Go.RowKit
set_option linter.unusedVariables false
/-- A boxed cylinder. -/
def CB (w : World) (G : Nat) (s t : Int) (A : Option Addr) (n d : Nat) : Prop := w.cell? ⟨G, 0, none⟩ = some (.int .i64 s) ∧ w.cell? ⟨G, 1, none⟩ = some (.int .i64 t) ∧ w.cell? ⟨G, 2, none⟩ = some (.slice A n d)
theorem CB.below {w w' : World} {G : Nat} {s t : Int} {A : Option Addr} {n d : Nat} (h : CB w G s t A n d) (hb : Below w.heap.size w w') : CB w' G s t A n d := ⟨cell_later h.1 hb, cell_later h.2.1 hb, cell_later h.2.2 hb⟩
theorem CB.after {w w' : World} {G : Nat} {s t : Int} {A : Option Addr} {n d : Nat} (h : CB w G s t A n d) (hb : Below w.heap.size w w') :
    (∀ q : After w'.heap.size w', q.w.cell? ⟨G, 0, none⟩ = some (.int .i64 s)) ∧ (∀ q : After w'.heap.size w', q.w.cell? ⟨G, 1, none⟩ = some (.int .i64 t)) ∧ (∀ q : After w'.heap.size w', q.w.cell? ⟨G, 2, none⟩ = some (.slice A n d)) := ⟨cell_after h.1 hb, cell_after h.2.1 hb, cell_after h.2.2 hb⟩
theorem lit_two {W W' : World} {T : TypeId} (h : W.alloc (.cells #[.int .i64 1, .int .i64 5, .int .i64 3, .int .i64 5] T) = W') : Below W.heap.size W W' ∧ W'.heap.size = W.heap.size + 1 ∧ RP W' (some ⟨W.heap.size, 0, none⟩) [(1, 5), (3, 5)] := by
  subst h
  have hh := heap_alloc_new W (.cells #[.int .i64 1, .int .i64 5, .int .i64 3, .int .i64 5] T)
  refine ⟨bnew (Below.refl _ _) _, by simp, by simp, fun _ => ⟨W.heap.size, 0, rfl, by simp, fun j hj => ?_⟩⟩
  have hj2 : j = 0 ∨ j = 1 := by have : j < 2 := hj; omega
  rcases hj2 with rfl | rfl
  · exact ⟨cell_of_row _ _ 0 _ _ _ hh, cell_of_row _ _ 1 _ _ _ hh⟩
  · exact ⟨cell_of_row _ _ 2 _ _ _ hh, cell_of_row _ _ 3 _ _ _ hh⟩
theorem lit_ints2 {W W' : World} {T : TypeId} (h : W.alloc (.cells #[.int .i64 2, .int .i64 0] T) = W') : Below W.heap.size W W' ∧ W'.heap.size = W.heap.size + 1 ∧ RI W' (some ⟨W.heap.size, 0, none⟩) [2, 0] := by
  subst h
  have hh := heap_alloc_new W (.cells #[.int .i64 2, .int .i64 0] T)
  refine ⟨bnew (Below.refl _ _) _, by simp, by simp, fun _ => ⟨W.heap.size, 0, rfl, by simp, fun j hj => ?_⟩⟩
  have hj2 : j = 0 ∨ j = 1 := by have : j < 2 := hj; omega
  rcases hj2 with rfl | rfl
  · exact cell_of_row _ _ 0 _ _ _ hh
  · exact cell_of_row _ _ 1 _ _ _ hh
section
variable {s t b : Int} {l : List (Int × Int)} {A : Option Addr} {c n : Nat} {w : World}
theorem w_turn (h : RP w A l) (hk : cylOk s t l = true) (hb : inR b (-1000000) 1000000 = true) : Calls Try.prog 11 #[.agg #[.int .i64 s, .int .i64 t, .slice A l.length c], .int .i64 b] w fun e w' => ∃ B d, e = .returned (.agg #[.int .i64 s, .int .i64 t, .slice B l.length d]) ∧ RP w' B (turnL s t l b) ∧ Below w.heap.size w w' := by
  have := impl_TurnBy (s := s) (t := t) (b := b) (c := c) h
  rw [turn_length hk hb] at this
  exact this.mono fun e w' ⟨B, d, he, O, hq⟩ => ⟨B, d, he, O.reads, hq⟩
theorem w_back (h : RP w A (turnL s t l b)) (hn : n = l.length) (hk : cylOk s t l = true) (hb : inR b (-1000000) 1000000 = true) : Calls Try.prog 11 #[.agg #[.int .i64 s, .int .i64 t, .slice A n c], .int .i64 (-b)] w fun e w' => ∃ B d, e = .returned (.agg #[.int .i64 s, .int .i64 t, .slice B l.length d]) ∧ RP w' B l ∧ Below w.heap.size w w' := by
  have := impl_TurnBy (s := s) (t := t) (b := -b) (c := c) h
  rw [turn_back hk hb, turn_length hk hb, ← hn] at this
  subst hn
  exact this.mono fun e w' ⟨B, d, he, O, hq⟩ => ⟨B, d, he, O.reads, hq⟩
theorem w_full (h : RP w A l) (hk : cylOk s t l = true) : Calls Try.prog 11 #[.agg #[.int .i64 s, .int .i64 t, .slice A l.length c], .int .i64 (3 * s)] w fun e w' => ∃ B d, e = .returned (.agg #[.int .i64 s, .int .i64 t, .slice B l.length d]) ∧ RP w' B l ∧ Below w.heap.size w w' := by
  have := impl_TurnBy (s := s) (t := t) (b := 3 * s) (c := c) h
  rw [turn_full hk] at this
  exact this.mono fun e w' ⟨B, d, he, O, hq⟩ => ⟨B, d, he, O.reads, hq⟩
theorem w_ok (h : RP w A l) (hn : n = l.length) (hk : cylOk s t l = true) : Calls Try.prog 12 #[.agg #[.int .i64 s, .int .i64 t, .slice A n c]] w fun e w' => e = .returned (.bool true) ∧ Below w.heap.size w w' := by
  subst hn
  have := impl_CylinderOk (s := s) (t := t) (c := c) h
  rwa [hk] at this
theorem w_pins {x : Int} {L : List Int} {m : Nat} (h : RP w A l) (hn : n = l.length) (hL : pinsAt s t l x = L) (hm : L.length = m) : Calls Try.prog 13 #[.agg #[.int .i64 s, .int .i64 t, .slice A n c], .int .i64 x] w fun e w' => ∃ B d, e = .returned (.slice B m d) ∧ RI w' B L ∧ Below w.heap.size w w' := by
  subst hn hL hm
  exact (impl_PinsAt h).mono fun e w' ⟨B, d, he, O, hq⟩ => ⟨B, d, he, O.reads, hq⟩
theorem w_addno {x y : Int} (h : RP w A l) (hm : (x, y) ∈ l) : Calls Try.prog 15 #[.agg #[.int .i64 s, .int .i64 t, .slice A l.length c], .agg #[.int .i64 x, .int .i64 y]] w fun e w' => ∃ B d, e = .returned (.tuple #[.agg #[.int .i64 s, .int .i64 t, .slice B l.length d], .bool false]) ∧ Below w.heap.size w w' := by
  have := impl_AddPin (s := s) (t := t) (x := x) (y := y) (c := c) h
  rw [addP_no (addP_has hm), addP_has hm] at this
  exact this.mono fun e w' ⟨B, d, he, O, hq⟩ => ⟨B, d, he, hq⟩
theorem w_add {x y : Int} {L : List (Int × Int)} (h : RP w A l) (h1 : addPOk s t l (x, y) = true) (h2 : addPL s t l (x, y) = L) : Calls Try.prog 15 #[.agg #[.int .i64 s, .int .i64 t, .slice A l.length c], .agg #[.int .i64 x, .int .i64 y]] w fun e w' => ∃ B d, e = .returned (.tuple #[.agg #[.int .i64 s, .int .i64 t, .slice B L.length d], .bool true]) ∧ L.length ≤ d ∧ RP w' B L ∧ Below w.heap.size w w' := by
  have := impl_AddPin (s := s) (t := t) (x := x) (y := y) (c := c) h
  rw [h1, h2] at this
  exact this.mono fun e w' ⟨B, d, he, O, hq⟩ => ⟨B, d, he, O.capC, O.reads, hq⟩
theorem w_pull {k : Nat} {m : Nat} {L : List (Int × Int)} (h : RP w A l) (hc : l.length ≤ c) (h1 : pullOk s t l (k : Int) = true) (h2 : pullL s t l (k : Int) = L) (hm : L.length = m) : Calls Try.prog 17 #[.agg #[.int .i64 s, .int .i64 t, .slice A l.length c], .int .i64 (k : Int)] w fun e w' => ∃ B d, e = .returned (.tuple #[.agg #[.int .i64 s, .int .i64 t, .slice B m d], .bool true]) ∧ RP w' B L ∧ Below w.heap.size w w' := by
  subst hm
  have := impl_PullPin (s := s) (t := t) (k := (k : Int)) h hc
  rw [h1, h2] at this
  exact this.mono fun e w' ⟨B, d, he, O, hq⟩ => ⟨B, d, he, O.reads, hq⟩
theorem w_pullno (h : RP w A l) (hc : l.length ≤ c) : Calls Try.prog 17 #[.agg #[.int .i64 s, .int .i64 t, .slice A l.length c], .int .i64 (l.length : Int)] w fun e w' => ∃ B d, e = .returned (.tuple #[.agg #[.int .i64 s, .int .i64 t, .slice B l.length d], .bool false]) ∧ Below w.heap.size w w' := by
  have := impl_PullPin (s := s) (t := t) (k := (l.length : Int)) h hc
  rw [pull_no pull_end, pull_end] at this
  exact this.mono fun e w' ⟨B, d, he, O, hq⟩ => ⟨B, d, he, hq⟩
theorem w_cof {B : Option Addr} {d : Nat} (h1 : RP w A [(1, 5), (3, 5)]) (h2 : RI w B [2, 0]) : Calls Try.prog 18 #[.slice A 2 c, .slice B 2 d, .int .i64 8, .int .i64 3] w fun e w' => ∃ D d, e = .returned (.tuple #[.agg #[.int .i64 8, .int .i64 3, .slice D 2 d], .bool true]) ∧ RP w' D [(2, 1), (0, 3)] ∧ Below w.heap.size w w' := by
  obtain ⟨k1, k2, k3, k4⟩ := cof_two
  have := impl_CylinderOf (s := 8) (t := 3) (ca := c) (cb := d) h1 h2
  rw [k1, k2, k3, k4] at this
  exact this.mono fun e w' ⟨D, d, he, O, hq⟩ => ⟨D, d, he, O.reads, hq⟩
theorem w_hasT {x : Int} {L : List Int} {m : Nat} (h : RI w A L) (hm : L.length = m) (hx : x ∈ L) : Calls Try.prog 16 #[.slice A m c, .int .i64 x] w fun e w' => e = .returned (.bool true) ∧ w = w' := by
  have := laws_has (c := c) (x := x) h hm.symm
  rwa [decide_eq_true hx] at this
theorem w_hasF {x : Int} {L : List Int} {m : Nat} (h : RI w A L) (hm : L.length = m) (hx : ¬ x ∈ L) : Calls Try.prog 16 #[.slice A m c, .int .i64 x] w fun e w' => e = .returned (.bool false) ∧ w = w' := by
  have := laws_has (c := c) (x := x) h hm.symm
  rwa [decide_eq_false hx] at this
end
theorem i1_ok : (0 : Int) ≤ 1 ∧ (1 : Int) ≤ 10 := by decide
theorem i2_ok : (0 : Int) ≤ 2 ∧ (2 : Int) ≤ 10 := by decide
set_option maxRecDepth 100000 in
set_option maxHeartbeats 8000000 in
theorem walk (w : World) (A0 : Option Addr) (c0 : Nat) (l0 : List Int) (cm0 : c0 ≤ maxLen) (cl0 : l0.length ≤ c0) (rd0 : 0 < l0.length → ∃ b off, A0 = some ⟨b, off, none⟩ ∧ BytesAt w b off l0) :
    Calls Try.prog 3 #[.slice A0 l0.length c0] w fun e w' => e = .returned (.bool true) ∧ Below w.heap.size w w' := by
  by_cases zz : 1048576 < l0.length
  · go_enter Try.func3, Try.ntmps3
    go_wp2_with fail
    refine (laws_big).mono ?_
    rintro e w1 ⟨rfl, rfl⟩
    rw [decide_eq_true zz]
    go_wp2
    go_ret
    exact ⟨rfl, Below.refl _ _⟩
  have R : Hid (RB w A0 l0) := ⟨Nat.le_of_not_lt zz, rd0⟩
  clear rd0
  go_enter Try.func3, Try.ntmps3
  go_wp2_with fail
  refine (laws_big).mono ?_
  rintro e w1 ⟨rfl, rfl⟩
  rw [decide_eq_false zz]
  clear zz cm0 cl0
  go_wp2_with fail
  refine (spec_DrawCylinder R.out.ru).mono ?_
  rintro e w1 ⟨s, t, l, A, cA, rfl, hD, O, hb1⟩
  have HCAP := Lib.hid O.capC
  have RA1 := Lib.hid O.reads
  have HB1 := Lib.hid hb1
  obtain ⟨⟨s1, s2⟩, ⟨t1, t2⟩, h9, hok⟩ := hD
  have HK := Lib.hid hok
  obtain ⟨S, rfl⟩ : ∃ S : Nat, s = (S : Int) := ⟨s.toNat, by omega⟩
  clear O hb1 hok
  go_wp2_with fail
  generalize hW : World.alloc w1 _ = W2
  obtain ⟨b2, z2, p0, p1, p2⟩ := new3c hW
  clear hW
  have CA2 : Hid (CB W2 w1.heap.size (S : Int) t A l.length cA) := ⟨p0, p1, p2⟩
  have RA2 := Lib.hid (RA1.out.below b2)
  have HB2 := Lib.hid (bthen HB1.out b2)
  have R2 := Lib.hid (R.out.below HB2.out)
  clear b2 z2 RA1 HB1 R
  refine (laws_at R2.out (by omega)).mono ?_
  rintro e w' ⟨rfl, rfl⟩
  have hr0 := atV_range R2.out 0
  generalize atV l0 0 = b at hr0 ⊢
  have HIB : Hid (inR b (-1000000) 1000000 = true) := inR_of (by omega) (by omega)
  go_wp2_with fail
  refine (w_turn RA2.out HK.out HIB.out).mono ?_
  rintro e w3 ⟨T, cT, rfl, RT3, hb3⟩
  have HBa := Lib.hid hb3
  clear hb3 p0 p1 p2
  go_wp2_with fail
  generalize hW : World.alloc w3 _ = W4
  obtain ⟨b4, z4, p0, p1, p2⟩ := new3c hW
  clear hW
  have CT4 : Hid (CB W4 w3.heap.size (S : Int) t T l.length cT) := ⟨p0, p1, p2⟩
  have RT4 := Lib.hid (RT3.below b4)
  have HBb := Lib.hid (bthen HBa.out b4)
  clear b4 RT3 HBa z4
  refine (w_back RT4.out rfl HK.out HIB.out).mono ?_
  rintro e w5 ⟨B, cB, rfl, RB5, hb5⟩
  have HBc := Lib.hid (bthen HBb.out hb5)
  have hb5' := Lib.hid hb5
  obtain ⟨q0, q1, q2⟩ := CA2.out.below HBc.out
  have bn := bnew (Below.refl w5.heap.size w5) (.cells #[.int .i64 (S : Int), .int .i64 t, .slice B l.length cB] 26)
  have q0' := cell_later q0 bn; have q1' := cell_later q1 bn; have q2' := cell_later q2 bn
  clear hb5 p0 p1 p2 bn
  have E3 : Hid (IntKind.i64.wrap (3 * (S : Int)) = 3 * (S : Int)) := IntWalk.i64_in _ (by omega)
  go_wp2_with fail
  generalize hW : World.alloc w5 _ = W6
  obtain ⟨b6, z6, p0, p1, p2⟩ := new3c hW
  clear hW
  have CB6 : Hid (CB W6 w5.heap.size (S : Int) t B l.length cB) := ⟨p0, p1, p2⟩
  have RB6 := Lib.hid (RB5.below b6)
  have HBd := Lib.hid (bthen HBc.out b6)
  have hbt6 := Lib.hid (bthen hb5'.out b6)
  clear b6 z6 RB5 HBc HBb hb5' q0 q1 q2 q0' q1' q2'
  refine (w_full (RA2.out.below HBd.out) HK.out).mono ?_
  rintro e w7 ⟨F, cF, rfl, RF7, hb7⟩
  have HBe := Lib.hid (bthen HBd.out hb7)
  have hbt7 := Lib.hid (bthen hbt6.out hb7)
  have hbb7 := Lib.hid hb7
  obtain ⟨q0, q1, q2⟩ := CA2.out.below HBe.out
  obtain ⟨t0, t1', t2'⟩ := CT4.out.below hbt7.out
  obtain ⟨y0, y1, y2⟩ := CB6.out.below hbb7.out
  clear hb7 p0 p1 p2 E3
  have bn := bnew (Below.refl w7.heap.size w7) (.cells #[.int .i64 (S : Int), .int .i64 t, .slice F l.length cF] 26)
  have q0' := cell_later q0 bn; have q1' := cell_later q1 bn; have q2' := cell_later q2 bn
  have t0' := cell_later t0 bn; have t1'' := cell_later t1' bn; have t2'' := cell_later t2' bn
  have y0' := cell_later y0 bn; have y1' := cell_later y1 bn; have y2' := cell_later y2 bn
  clear bn
  go_wp2_with fail
  generalize hW : World.alloc w7 _ = W8
  obtain ⟨b8, z8, p0, p1, p2⟩ := new3c hW
  clear hW q0' q1' q2' t0' t1'' t2'' y0' y1' y2' q0 q1 q2 t0 t1' t2' y0 y1 y2
  have CF8 : Hid (CB W8 w7.heap.size (S : Int) t F l.length cF) := ⟨p0, p1, p2⟩
  have RF8 := Lib.hid (RF7.below b8)
  have HB28 := Lib.hid (bthen HBe.out b8)
  have hbt8 := Lib.hid (bthen hbt7.out b8)
  have hbb8 := Lib.hid (bthen hbb7.out b8)
  clear b8 z8 RF7 HBe hbt6 hbt7 hbb7 HBd p0 p1 p2
  refine (w_ok (RT4.out.below hbt8.out) (turn_length HK.out HIB.out).symm (turn_ok HK.out HIB.out)).mono ?_
  rintro e X ⟨rfl, hq⟩
  have HB7 := Lib.hid (bthen HB2.out (bthen HB28.out hq))
  have CA := Lib.hid (CA2.out.below (bthen HB28.out hq))
  have RA := Lib.hid (RA2.out.below (bthen HB28.out hq))
  have RX := Lib.hid (R2.out.below (bthen HB28.out hq))
  have CT := Lib.hid (CT4.out.below (bthen hbt8.out hq))
  have RT := Lib.hid (RT4.out.below (bthen hbt8.out hq))
  have CBx := Lib.hid (CB6.out.below (bthen hbb8.out hq))
  have RBx := Lib.hid (RB6.out.below (bthen hbb8.out hq))
  have CF := Lib.hid (CF8.out.below hq)
  have RF := Lib.hid (RF8.out.below hq)
  clear hq CA2 RA2 R2 CT4 RT4 CB6 RB6 CF8 RF8 HB28 hbt8 hbb8 HB2
  go_wp2
  go_loopw [8] (fun i wr => ∃ k : Nat, k ≤ l.length ∧ i = .int .i64 k ∧ Below X.heap.size X wr) (fun i _ => l.length - (intOf i).toNat)
  case atStart => exact ⟨0, Nat.zero_le _, rfl, Below.refl _ _⟩
  case round =>
    obtain ⟨k, hk, rfl, hbel⟩ := hrel
    by_cases hlt : k < l.length
    · obtain ⟨u, v, e1⟩ := pair_of l k
      obtain ⟨ba, oa, rfl, PA⟩ := RA.out.2 (by omega)
      obtain ⟨bb, ob, rfl, PB⟩ := RBx.out.2 (by omega)
      obtain ⟨bf, of, rfl, PF⟩ := RF.out.2 (by omega)
      have m1 := PA.a1 hbel hlt e1; have m2 := PA.a2 hbel hlt e1
      have m3 := PB.a1 hbel hlt e1; have m4 := PB.a2 hbel hlt e1
      have m5 := PF.a1 hbel hlt e1; have m6 := PF.a2 hbel hlt e1
      obtain ⟨a0, a1, a2⟩ := CA.out.below hbel
      obtain ⟨-, -, n2⟩ := CA.out.after hbel
      obtain ⟨-, -, n3⟩ := CBx.out.after hbel
      obtain ⟨-, -, n4⟩ := CF.out.after hbel
      clear PA PB PF e1
      go_wp2_with fail
      refine wp_region_after (by kernel_rfl) (by kernel_rfl) ?_
      repeat (go_big_quiet_step (fail))
      refine wpQuiet_nil ?_
      rintro _ ⟨⟨wq, hq⟩, rfl⟩
      replace hbel := bthen hbel hq
      clear hq
      clear m1 m2 m3 m4 m5 m6 n2 n3 n4 a0 a1 a2
      go_wp2
      go_roundw
      case rel => exact ⟨k + 1, by omega, by go_num, hbel⟩
      case measure => simp [intOf]; omega
    · obtain ⟨a0, a1, a2⟩ := CA.out.below hbel
      go_wp2
      clear a0 a1 a2
      have HBr := Lib.hid hbel
      clear hbel
      go_loopw [9, 10] (fun v i wx => ∃ K m : Nat, K ≤ S ∧ i = .int .i64 K ∧ v = .int .i64 m ∧ Hid (angTo (S : Int) t l K = m) ∧ Below X.heap.size X wx) (fun _ i _ => S - (intOf i).toNat)
      case atStart => exact ⟨0, 0, Nat.zero_le _, rfl, rfl, rfl, HBr.out⟩
      clear HBr
      case round =>
        obtain ⟨K, m, hK, rfl, rfl, hm, hbel⟩ := hrel
        have HBr := Lib.hid hbel
        obtain ⟨a0, a1, a2⟩ := CA.out.below hbel
        clear hbel
        by_cases hlt2 : K < S
        · have i1 : inR (K : Int) (-1000000) 1000000 = true := inR_of (by omega) (by omega)
          have i2 : inR ((K : Int) + b) (-1000000) 1000000 = true := inR_of (by omega) (by omega)
          have i3 : inR ((K : Int) - (S : Int)) (-1000000) 1000000 = true := inR_of (by omega) (by omega)
          have hp2 := Lib.hid (pins_turned HK.out HIB.out i1 i2)
          have hp3 := Lib.hid (pins_around HK.out i1 i3)
          obtain ⟨L, hL⟩ : ∃ L, Hid (pinsAt (S : Int) t l (K : Int) = L) := ⟨_, rfl⟩
          rw [hL.out] at hp2 hp3
          obtain ⟨j, hj⟩ : ∃ j, Hid (L.length = j) := ⟨_, rfl⟩
          have hm2 : Hid (angTo (S : Int) t l (K + 1) = m + j) := by
            show angTo (S : Int) t l K + _ = _
            rw [hm.out, hL.out, hj.out]
          have hmj : m + j ≤ 9 := by
            have := ang_le HK.out (show ((K + 1 : Nat) : Int) ≤ (S : Int) by omega)
            rw [hm2.out] at this
            omega
          clear i1 i2 i3
          go_wp2_with fail
          refine (w_pins (RA.out.below HBr.out) rfl hL.out hj.out).mono ?_
          rintro e v1 ⟨D1, d1, rfl, RL1, hq⟩
          have RL := Lib.hid RL1
          have HBs := Lib.hid (bthen HBr.out hq)
          obtain ⟨t0, t1', t2'⟩ := CT.out.below HBs.out
          clear RL1 hq a0 a1 a2
          go_wp2_with fail
          refine (w_pins (RT.out.below HBs.out) (turn_length HK.out HIB.out).symm hp2.out hj.out).mono ?_
          rintro e v2 ⟨D2, d2, rfl, RL2, hq⟩
          have RLa := Lib.hid (RL.out.below hq)
          have RLb := Lib.hid RL2
          have HBt := Lib.hid (bthen HBs.out hq)
          clear RL2 hq t0 t1' t2'
          go_wp2_with fail
          refine (laws_same RLa.out RLb.out hj.out.symm hj.out.symm).mono ?_
          rintro e v3 ⟨rfl, hq⟩
          have RLc := Lib.hid (RLa.out.below hq)
          have HBu := Lib.hid (bthen HBt.out hq)
          obtain ⟨a0, a1, a2⟩ := CA.out.below HBu.out
          clear hq RLa RLb RL HBs HBt HBr
          go_wp2_with fail
          refine (w_pins (RA.out.below HBu.out) rfl hp3.out hj.out).mono ?_
          rintro e v4 ⟨D4, d4, rfl, RL4, hq⟩
          have RLd := Lib.hid (RLc.out.below hq)
          have RLe := Lib.hid RL4
          have HBv := Lib.hid (bthen HBu.out hq)
          clear RL4 hq a0 a1 a2
          go_wp2_with fail
          refine (laws_same RLd.out RLe.out hj.out.symm hj.out.symm).mono ?_
          rintro e v5 ⟨rfl, hq⟩
          have HBw := Lib.hid (bthen HBv.out hq)
          clear hq RLd RLe RLc HBu HBv
          go_wp2
          go_roundw
          case rel => exact ⟨K + 1, m + j, by omega, by go_num, by go_num, hm2, HBw.out⟩
          case measure => simp [intOf]; omega
        · obtain rfl : K = S := by omega
          have hml : m = l.length := by rw [← hm.out]; exact ang_all HK.out
          subst hml
          clear hm hlt2 hK
          have RBr := Lib.hid (RX.out.below HBr.out)
          have hx1 := atV_range RBr.out 1
          have hx2 := atV_range RBr.out 2
          have CALL1 : Hid (∀ W, RB W A0 l0 → Calls Try.prog 10 #[.slice A0 l0.length c0, .int .i64 1] W fun e w' => e = .returned (.int .i64 (atV l0 1)) ∧ W = w') := fun W h => laws_at h i1_ok
          have CALL2 : Hid (∀ W, RB W A0 l0 → Calls Try.prog 10 #[.slice A0 l0.length c0, .int .i64 2] W fun e w' => e = .returned (.int .i64 (atV l0 2)) ∧ W = w') := fun W h => laws_at h i2_ok
          generalize atV l0 1 = x1 at hx1 CALL1
          generalize atV l0 2 = x2 at hx2 CALL2
          have E1 : x1.tmod t = x1 % t := Int.tmod_eq_emod_of_nonneg hx1.1
          have E2 : x2.tmod (K : Int) = x2 % (K : Int) := Int.tmod_eq_emod_of_nonneg hx2.1
          have u1 := Int.emod_nonneg x1 (show t ≠ 0 by omega)
          have u2 := Int.emod_lt_of_pos x1 (show 0 < t by omega)
          have v1 := Int.emod_nonneg x2 (show (K : Int) ≠ 0 by omega)
          have v2 := Int.emod_lt_of_pos x2 (show 0 < (K : Int) by omega)
          generalize x1 % t = u at E1 u1 u2
          generalize x2 % (K : Int) = v at E2 v1 v2
          have ut : t ≠ 0 := by omega
          have uK : (K : Int) ≠ 0 := by omega
          have utb : (t == 0) = false := beq_eq_false_iff_ne.2 ut
          have uKb : ((K : Int) == 0) = false := beq_eq_false_iff_ne.2 uK
          have uK0 : K ≠ 0 := by omega
          have uK0b : (K == 0) = false := beq_eq_false_iff_ne.2 uK0
          have W1u : IntKind.i64.wrap u = u := IntWalk.i64_in _ (by omega)
          have W1v : IntKind.i64.wrap v = v := IntWalk.i64_in _ (by omega)
          go_upto_region 23 with fail
          go_cut [12] from 134 (fun s12 wx => s12 = .pointer (some ⟨wr.heap.size, 0, none⟩) ∧ wx = (wr.alloc (.cells #[.int .i64 u, .int .i64 v] 32)).drew)
          case first =>
            have N0 := World.new_ne wr _ a0; have N1 := World.new_ne wr _ a1; have N2 := World.new_ne wr _ a2
            have RBd : Hid (RB wr.drew A0 l0) := RBr.out.below ((Below.refl _ _).drew)
            have RBa : Hid (RB (wr.alloc (.cells #[.int .i64 0, .int .i64 0] 32)).drew A0 l0) := RBr.out.below ((bnew (Below.refl _ _) _).drew)
            go_region_held3 (fun W => W.cell? ⟨w1.heap.size, 0, none⟩ = some (.int .i64 (K : Int)) ∧ W.cell? ⟨w1.heap.size, 1, none⟩ = some (.int .i64 t) ∧ W.cell? ⟨w1.heap.size, 2, none⟩ = some (.slice A l.length cA)) (go_keep) (first
              | (go_at_call 10; with_reducible refine (CALL1.out _ RBd.out).mono ?_; rintro e w' ⟨rfl, rfl⟩)
              | (go_at_call 10; with_reducible refine (CALL1.out _ RBa.out).mono ?_; rintro e w' ⟨rfl, rfl⟩)
              | (go_at_call 10; with_reducible refine (CALL2.out _ RBd.out).mono ?_; rintro e w' ⟨rfl, rfl⟩)
              | (go_at_call 10; with_reducible refine (CALL2.out _ RBa.out).mono ?_; rintro e w' ⟨rfl, rfl⟩))
            all_goals
              go_wp2_with fail
              go_meet
              exact ⟨rfl, rfl⟩
          case rest =>
          obtain ⟨rfl, hwc⟩ := hcut
          obtain ⟨W9, hW9⟩ : ∃ W, wr.alloc (.cells #[.int .i64 u, .int .i64 v] 32) = W := ⟨_, rfl⟩
          rw [hW9] at hwc
          obtain ⟨b10, z10, r0, r1⟩ := new2c hW9
          have bd : Below wr.heap.size wr wc := by rw [hwc]; exact b10.drew
          replace r0 := cell_later r0 (show Below W9.heap.size W9 wc by rw [hwc]; exact (Below.refl _ _).drew)
          replace r1 := cell_later r1 (show Below W9.heap.size W9 wc by rw [hwc]; exact (Below.refl _ _).drew)
          have HB10 := Lib.hid (bthen HBr.out bd)
          clear hwc hW9 z10 b10 bd a0 a1 a2 W1u W1v ut uK utb uKb uK0 uK0b E1 E2 CALL1 CALL2 RBr hx1 hx2
          obtain ⟨W10, hW10⟩ : ∃ W, W = wc := ⟨_, rfl⟩
          subst hW10
          obtain ⟨a0, a1, a2⟩ := CA.out.below HB10.out
          go_wp2_with fail
          clear a0 a1 a2
          have RA10 := Lib.hid (RA.out.below HB10.out)
          have hmem : Hid ((u ∈ pinsAt (K : Int) t l v) ↔ (u, v) ∈ l) := by
            show _ ↔ _
            rw [mem_pinsAt HK.out (inR_of (by omega) (by omega)), Int.emod_eq_of_lt v1 v2]
          obtain ⟨L, hL⟩ : ∃ L, Hid (pinsAt (K : Int) t l v = L) := ⟨_, rfl⟩
          obtain ⟨j, hj⟩ : ∃ j, Hid (L.length = j) := ⟨_, rfl⟩
          rw [hL.out] at hmem
          by_cases hin : (u, v) ∈ l
          · have hinL := Lib.hid (hmem.out.2 hin)
            refine (w_addno RA10.out hin).mono ?_
            rintro e w11 ⟨D, d, rfl, hq⟩
            have HB11 := Lib.hid (bthen HB10.out hq)
            have r0' := cell_later r0 hq; have r1' := cell_later r1 hq
            obtain ⟨a0, a1, a2⟩ := CA.out.below HB11.out
            clear hq r0 r1 hin hmem RA10 HB10
            have bn := bnew (Below.refl w11.heap.size w11) (.cells #[.int .i64 (K : Int), .int .i64 t, .slice D l.length d] 26)
            have HB12 := Lib.hid (bthen HB11.out bn)
            have r0 := cell_later r0' bn; have r1 := cell_later r1' bn
            clear bn r0' r1' a0 a1 a2
            go_wp2_with fail
            generalize hW : World.alloc w11 _ = W12 at r0 r1 HB12 ⊢
            clear hW HB11
            obtain ⟨a0, a1, a2⟩ := CA.out.below HB12.out
            have HH : Hid (∀ W, Below W12.heap.size W12 W → W.cell? ⟨w1.heap.size, 0, none⟩ = some (.int .i64 (K : Int)) ∧ W.cell? ⟨w1.heap.size, 1, none⟩ = some (.int .i64 t) ∧ W.cell? ⟨w1.heap.size, 2, none⟩ = some (.slice A l.length cA) ∧ W.cell? ⟨wr.heap.size, 0, none⟩ = some (.int .i64 u) ∧ W.cell? ⟨wr.heap.size, 1, none⟩ = some (.int .i64 v)) := fun W h => ⟨cell_later a0 h, cell_later a1 h, cell_later a2 h, cell_later r0 h, cell_later r1 h⟩
            have hdr := Lib.hid ((Below.refl W12.heap.size W12).drew)
            have RAd := Lib.hid (RA.out.below (bthen HB12.out hdr.out))
            clear a0 a1 a2 r0 r1
            go_region_held3 (fun W => W.cell? ⟨w1.heap.size, 0, none⟩ = some (.int .i64 (K : Int)) ∧ W.cell? ⟨w1.heap.size, 1, none⟩ = some (.int .i64 t) ∧ W.cell? ⟨w1.heap.size, 2, none⟩ = some (.slice A l.length cA) ∧ W.cell? ⟨wr.heap.size, 0, none⟩ = some (.int .i64 u) ∧ W.cell? ⟨wr.heap.size, 1, none⟩ = some (.int .i64 v)) (first | exact HH.out _ hq5 | exact HH.out _ hdr.out | go_keep) (first
              | (go_at_call 13; refine (w_pins RAd.out rfl hL.out hj.out).mono ?_; rintro e w13 ⟨D3, d3, rfl, RL3, hq3⟩; have hq5 := hdr.out.trans hq3)
              | (go_at_call 16; refine (w_hasT RL3 hj.out hinL.out).mono ?_; rintro e w' ⟨rfl, rfl⟩))
            all_goals
              have HBz := Lib.hid (bthen HB12.out hq5)
              clear HH hdr RAd hq3 hq5 RL3 hL hj hinL HB12
              have RAz := Lib.hid (RA.out.below HBz.out)
              obtain ⟨ca0, ca1, ca2⟩ := CA.out.below HBz.out
              go_wp2_with fail
              refine (w_pullno RAz.out HCAP.out).mono ?_
              rintro e z1 ⟨D1, e1, rfl, hq⟩
              have HBy := Lib.hid (bthen HBz.out hq)
              clear ca0 ca1 ca2 hq HBz RAz
              go_wp2_with fail
              generalize hW : World.alloc z1 _ = Z2
              have b3 : Below z1.heap.size z1 Z2 := by rw [← hW]; exact bnew (Below.refl _ _) _
              have z3 : Z2.heap.size = z1.heap.size + 1 := by rw [← hW]; simp
              clear hW
              generalize hW : World.alloc Z2 _ = Z3
              obtain ⟨b4, z4, rN⟩ := lit_two hW
              clear hW
              generalize hW : World.alloc Z3 _ = Z4
              obtain ⟨b5, z5, rT⟩ := lit_ints2 hW
              clear hW
              rw [z4, z3] at rT
              rw [z3] at rN
              have RN := Lib.hid (rN.below b5); have RTe := Lib.hid rT
              have HBx := Lib.hid (bthen HBy.out (bthen (bthen b3 b4) b5))
              clear b3 b4 b5 rN rT HBy z3 z4 z5
              with_reducible refine (w_cof RN.out RTe.out).mono ?_
              rintro e Z5 ⟨D2, e2, rfl, RZ, hq⟩
              have HBw := Lib.hid (bthen HBx.out hq)
              obtain ⟨bz, oz, rfl, PZ⟩ := RZ.2 (by decide)
              obtain ⟨ca0, ca1, ca2⟩ := CA.out.below HBw.out
              have d1 := PZ.z1 (Below.refl _ _) (by decide) (t := 2) (u := 1) (Lib.hid rfl)
              have d2 := PZ.z2 (Below.refl _ _) (by decide) (t := 2) (u := 1) (Lib.hid rfl)
              have bn := bnew (Below.refl Z5.heap.size Z5) (.cells #[.int .i64 8, .int .i64 3, .slice (some ⟨bz, oz, none⟩) 2 e2] 26)
              have ca0' := cell_later ca0 bn; have ca1' := cell_later ca1 bn; have ca2' := cell_later ca2 bn
              have d1' := cell_later (d1 ⟨Z5, Below.refl _ _⟩) bn; have d2' := cell_later (d2 ⟨Z5, Below.refl _ _⟩) bn
              clear hq HBx RN RTe PZ RZ bn
              go_wp2
              go_ret
              exact ⟨rfl, bthen HB7.out (bnew HBw.out _)⟩
          · have hinL := Lib.hid (fun h => hin (hmem.out.1 h))
            obtain ⟨k1, k2, k3, k4⟩ := put_ok HK.out (by omega) ⟨⟨u1, by omega⟩, v1, by omega⟩ hin
            obtain ⟨x, hx⟩ : ∃ x, Hid (insP (u, v) l = x) := ⟨_, rfl⟩
            have hmx : Hid ((u, v) ∈ x) := by
              show _ ∈ _
              rw [← hx.out]; exact mem_insP.2 (.inl rfl)
            rw [hx.out] at k2 k3 k4
            have HX4 := Lib.hid k4
            have K3 := Lib.hid k3
            have hx10 : x.length ≤ 10 := by omega
            refine (w_add RA10.out k1 k2).mono ?_
            rintro e w11 ⟨D, d, rfl, hxd, RXp, hq⟩
            have HB11 := Lib.hid (bthen HB10.out hq)
            have r0' := cell_later r0 hq; have r1' := cell_later r1 hq
            obtain ⟨a0, a1, a2⟩ := CA.out.below HB11.out
            have RXq := Lib.hid RXp
            clear hq r0 r1 hin hmem RA10 HB10 k1 k2 k3 k4 hx RXp
            have hW : ∃ W, W = w11.alloc (.cells #[.int .i64 (K : Int), .int .i64 t, .slice D x.length d] 26) := ⟨_, rfl⟩
            obtain ⟨W12, hW⟩ := hW
            obtain ⟨bn, z12, g0, g1, g2⟩ := new3c hW.symm
            have HB12 := Lib.hid (bthen HB11.out bn)
            have r0 := cell_later r0' bn; have r1 := cell_later r1' bn
            have RX12 := Lib.hid (RXq.out.below bn)
            have CX : Hid (CB W12 w11.heap.size (K : Int) t D x.length d) := ⟨g0, g1, g2⟩
            clear bn r0' r1' a0 a1 a2 z12 g0 g1 g2 RXq
            go_wp2_with fail
            rw [← hW]
            clear hW HB11
            obtain ⟨a0, a1, a2⟩ := CA.out.below HB12.out
            have HH : Hid (∀ W, Below W12.heap.size W12 W → W.cell? ⟨w1.heap.size, 0, none⟩ = some (.int .i64 (K : Int)) ∧ W.cell? ⟨w1.heap.size, 1, none⟩ = some (.int .i64 t) ∧ W.cell? ⟨w1.heap.size, 2, none⟩ = some (.slice A l.length cA) ∧ W.cell? ⟨wr.heap.size, 0, none⟩ = some (.int .i64 u) ∧ W.cell? ⟨wr.heap.size, 1, none⟩ = some (.int .i64 v)) := fun W h => ⟨cell_later a0 h, cell_later a1 h, cell_later a2 h, cell_later r0 h, cell_later r1 h⟩
            have hdr := Lib.hid ((Below.refl W12.heap.size W12).drew)
            have RAd := Lib.hid (RA.out.below (bthen HB12.out hdr.out))
            clear a0 a1 a2 r0 r1
            go_region_held3 (fun W => W.cell? ⟨w1.heap.size, 0, none⟩ = some (.int .i64 (K : Int)) ∧ W.cell? ⟨w1.heap.size, 1, none⟩ = some (.int .i64 t) ∧ W.cell? ⟨w1.heap.size, 2, none⟩ = some (.slice A l.length cA) ∧ W.cell? ⟨wr.heap.size, 0, none⟩ = some (.int .i64 u) ∧ W.cell? ⟨wr.heap.size, 1, none⟩ = some (.int .i64 v)) (first | exact HH.out _ hq5 | exact HH.out _ hdr.out | go_keep) (first
              | (go_at_call 13; refine (w_pins RAd.out rfl hL.out hj.out).mono ?_; rintro e w13 ⟨D3, d3, rfl, RL3, hq3⟩; have hq5 := hdr.out.trans hq3)
              | (go_at_call 16; refine (w_hasF RL3 hj.out hinL.out).mono ?_; rintro e w' ⟨rfl, rfl⟩))
            all_goals
              have HB13 := Lib.hid (bthen HB12.out hq5)
              have CX13 := Lib.hid (CX.out.below hq5)
              have RX13 := Lib.hid (RX12.out.below hq5)
              obtain ⟨-, -, -, r0, r1⟩ := HH.out _ hq5
              clear HH hdr RAd hq3 hq5 RL3 hL hj hinL HB12 CX RX12
              go_wp2
              go_loopw [15] (fun i wy => ∃ k : Nat, k ≤ x.length ∧ i = .int .i64 k ∧ Hid (∀ j, j < k → x.getD j (0, 0) ≠ (u, v)) ∧ Below w13.heap.size w13 wy) (fun i _ => x.length - (intOf i).toNat)
              case atStart => exact ⟨0, Nat.zero_le _, rfl, fun j hj => by omega, Below.refl _ _⟩
              case round =>
                obtain ⟨k, hkx, rfl, hno, hbel⟩ := hrel
                by_cases hlx : k < x.length
                · obtain ⟨u', v', e1⟩ := pair_of x k
                  obtain ⟨bx, ox, rfl, PX⟩ := RX13.out.2 (by omega)
                  have m1 := PX.a1 hbel hlx e1; have m2 := PX.a2 hbel hlx e1
                  obtain ⟨-, -, n2⟩ := CX13.out.after hbel
                  have n3 := cell_after r0 hbel; have n4 := cell_after r1 hbel
                  clear PX
                  by_cases hu : u' = u ∧ v' = v
                  · obtain ⟨rfl, rfl⟩ := hu
                    clear e1
                    go_wp2_with fail
                    refine wp_region_after (by kernel_rfl) (by kernel_rfl) ?_
                    repeat (go_big_quiet_step (fail))
                    refine wpQuiet_nil ?_
                    rintro wq ⟨⟨_, hq⟩, rfl⟩
                    replace hbel := bthen hbel hq
                    clear hq m1 m2 n2 n3 n4
                    have HBp := Lib.hid (bthen HB13.out hbel)
                    have RXp := Lib.hid (RX13.out.below hbel)
                    obtain ⟨g0, g1, g2⟩ := CX13.out.below hbel
                    obtain ⟨j1, j2, j3⟩ := pull_ok HX4.out hlx
                    have J3 := Lib.hid j3
                    have hyl : Hid ((pullL (K : Int) t x (k : Int)).length = l.length) := by show _ = _; rw [j2, K3.out]; omega
                    clear hbel j2 j3 hno
                    go_wp2_with fail
                    refine (w_pull RXp.out hxd j1 rfl hyl.out).mono ?_
                    rintro e w14 ⟨Y, cY, rfl, RY, hq⟩
                    have HBq := Lib.hid (bthen HBp.out hq)
                    have bn := bnew (Below.refl w14.heap.size w14) (.cells #[.int .i64 (K : Int), .int .i64 t, .slice Y l.length cY] 26)
                    have RYq := Lib.hid (RY.below bn)
                    have HBr' := Lib.hid (bthen HBq.out bn)
                    obtain ⟨a0, a1, a2⟩ := CA.out.below HBq.out
                    have a0' := cell_later a0 bn; have a1' := cell_later a1 bn; have a2' := cell_later a2 bn
                    clear hq RY bn g0 g1 g2
                    go_wp2_with fail
                    refine (w_ok RYq.out hyl.out.symm J3.out).mono ?_
                    rintro e w15 ⟨rfl, hq⟩
                    have HBz := Lib.hid (bthen HBr'.out hq)
                    clear hq a0 a1 a2 a0' a1' a2' RYq HBr' HBq HBp RXp J3 hyl j1
                    have RAz := Lib.hid (RA.out.below HBz.out)
                    obtain ⟨ca0, ca1, ca2⟩ := CA.out.below HBz.out
                    go_wp2_with fail
                    refine (w_pullno RAz.out HCAP.out).mono ?_
                    rintro e z1 ⟨D1, e1, rfl, hq⟩
                    have HBy := Lib.hid (bthen HBz.out hq)
                    clear ca0 ca1 ca2 hq HBz RAz
                    go_wp2_with fail
                    generalize hW : World.alloc z1 _ = Z2
                    have b3 : Below z1.heap.size z1 Z2 := by rw [← hW]; exact bnew (Below.refl _ _) _
                    have z3 : Z2.heap.size = z1.heap.size + 1 := by rw [← hW]; simp
                    clear hW
                    generalize hW : World.alloc Z2 _ = Z3
                    obtain ⟨b4, z4, rN⟩ := lit_two hW
                    clear hW
                    generalize hW : World.alloc Z3 _ = Z4
                    obtain ⟨b5, z5, rT⟩ := lit_ints2 hW
                    clear hW
                    rw [z4, z3] at rT
                    rw [z3] at rN
                    have RN := Lib.hid (rN.below b5); have RTe := Lib.hid rT
                    have HBx := Lib.hid (bthen HBy.out (bthen (bthen b3 b4) b5))
                    clear b3 b4 b5 rN rT HBy z3 z4 z5
                    with_reducible refine (w_cof RN.out RTe.out).mono ?_
                    rintro e Z5 ⟨D2, e2, rfl, RZ, hq⟩
                    have HBw := Lib.hid (bthen HBx.out hq)
                    obtain ⟨bz, oz, rfl, PZ⟩ := RZ.2 (by decide)
                    obtain ⟨ca0, ca1, ca2⟩ := CA.out.below HBw.out
                    have d1 := PZ.z1 (Below.refl _ _) (by decide) (t := 2) (u := 1) (Lib.hid rfl)
                    have d2 := PZ.z2 (Below.refl _ _) (by decide) (t := 2) (u := 1) (Lib.hid rfl)
                    have bn := bnew (Below.refl Z5.heap.size Z5) (.cells #[.int .i64 8, .int .i64 3, .slice (some ⟨bz, oz, none⟩) 2 e2] 26)
                    have ca0' := cell_later ca0 bn; have ca1' := cell_later ca1 bn; have ca2' := cell_later ca2 bn
                    have d1' := cell_later (d1 ⟨Z5, Below.refl _ _⟩) bn; have d2' := cell_later (d2 ⟨Z5, Below.refl _ _⟩) bn
                    clear hq HBx RN RTe PZ RZ bn
                    go_wp2
                    go_ret
                    exact ⟨rfl, bthen HB7.out (bnew HBw.out _)⟩
                  · have hno2 : Hid (∀ j, j < k + 1 → x.getD j (0, 0) ≠ (u, v)) := fun j hj => by
                      by_cases hjk : j = k
                      · subst hjk
                        rw [e1.out]
                        exact fun h => hu ⟨congrArg Prod.fst h, congrArg Prod.snd h⟩
                      · exact hno.out j (by omega)
                    by_cases hu1 : u' = u
                    · have hv1 : v' ≠ v := fun h => hu ⟨hu1, h⟩
                      subst hu1
                      clear hu e1
                      go_wp2_with fail
                      refine wp_region_after (by kernel_rfl) (by kernel_rfl) ?_
                      repeat (go_big_quiet_step (fail))
                      refine wpQuiet_nil ?_
                      rintro wq ⟨⟨_, hq⟩, rfl⟩
                      replace hbel := bthen hbel hq
                      clear hq m1 m2 n2 n3 n4
                      go_wp2
                      go_roundw
                      case rel => exact ⟨k + 1, by omega, by go_num, hno2, hbel⟩
                      case measure => simp [intOf]; omega
                    · clear hu e1
                      go_wp2_with fail
                      refine wp_region_after (by kernel_rfl) (by kernel_rfl) ?_
                      repeat (go_big_quiet_step (fail))
                      refine wpQuiet_nil ?_
                      rintro wq ⟨⟨_, hq⟩, rfl⟩
                      replace hbel := bthen hbel hq
                      clear hq m1 m2 n2 n3 n4
                      go_wp2
                      go_roundw
                      case rel => exact ⟨k + 1, by omega, by go_num, hno2, hbel⟩
                      case measure => simp [intOf]; omega
                · exfalso
                  obtain ⟨j, h1, h2⟩ := mem_getD.2 hmx.out
                  exact hno.out j (by omega) h2

set_option maxRecDepth 100000 in
theorem lifted (os : Os) (started : os.Started) (H : Type) (enc : TypeId × Value → H) :
    ReturnsInHanded {} Try.checked os 3 .any (Rows.fnPinsSpec.pre6 enc Try.prog Try.f3 Rows.fnPinsRow.domain false) (Rows.fnPinsSpec.post enc Try.prog Try.f3 false true false false) := by
  refine returnsInHanded_of_change (C := Try.checked) Try_own started (by kernel_rfl) Try.func3
    (ChangeSpec.witness6 (enc := enc) (C := Try.checked) false ⟨#[], #[.slice none 0 0], []⟩ 8 (by kernel_rfl) (by kernel_rfl) (by kernel_rfl) (by kernel_rfl)) ?_
  intro W base args ds gs before hval0 hW hcnd _
  have hval : ∀ (j : Nat) t v, Try.f3.params[j]? = some t → args[j]? = some v → Value.okWide Try.prog W .any base t v := hval0
  have hW' := hW
  obtain ⟨p, q, hA0, hV, rfl, hfz, hnd⟩ := hW
  have hA : DataW.TrodAll enc Try.prog W 0 (fun _ => true) true Try.f3.params.toList args.toList ds p := hA0
  rw [Try.params3] at hA hval
  obtain ⟨v0, vs0, d0, ds0, p0, q0, hargs, rfl, rfl, h0, r0⟩ := trodAll_cons hA
  obtain ⟨rfl, rfl, rfl⟩ := trodAll_nil r0
  obtain rfl : args = #[v0] := by cases args; simp_all
  obtain ⟨rfl, rfl⟩ := trodVars_none hV
  obtain ⟨A0, n0, c0, rfl⟩ := okWide_slice Try.underlying22 (hval 0 22 v0 rfl rfl)
  have k0 := h0
  have lt0 : ∀ x ∈ p0, x.block < W.heap.size := by obtain ⟨m, hm⟩ := k0; exact DataW.trod_lt m _ _ _ hm
  obtain ⟨l0, rfl, cm0, cl0, rd0⟩ := open_bytes_arg Try.underlying22 Try.underlying5 (by kernel_rfl) h0
  clear hA0 hval0
  refine (walk W A0 c0 l0 cm0 cl0 rd0).mono fun e W' ⟨he, bel⟩ => ?_
  subst he
  exact ⟨_, rfl, _, _, _, [], _, [], hW', trodAll_mk1 (shut_bool Try.underlying4 _), (trodAll_cons_mk (Below.trod Try_laidOut (by kernel_rfl) (of_decide_eq_true (by kernel_rfl)) k0 bel lt0) trodAll_mk0), rfl, bel.frame _, fun h => by cases h⟩

theorem over : Rows.fnPinsRow.holds Try.pinned (OpenSpec.ofChange Rows.fnPinsSpec) :=
  OpenClaim.holds_of_wide 3 Try.f3 rfl rfl rfl rfl rfl rfl rfl ⟨rfl, rfl, rfl, rfl, rfl⟩ rfl rfl rfl rfl rfl (by kernel_rfl) Try.func3 (by kernel_rfl)
    (of_decide_eq_true (by kernel_rfl)) (by unfold Func.isWrapper; first | (rw [if_pos (by decide +kernel)]; kernel_rfl) | (rw [if_neg (by decide +kernel)]; exact ⟨rfl, rfl⟩))
    (fun os started H enc _ => lifted os started H enc)

theorem proved : Rows.FnPinsSaid := over
end Go.Proofs.Ytakllloangpimaa.lawPins
