/-
  No cell of these rows narrows 'for every input' (looked for: loops, veiled, ifaces, maps, wideKeys, modest, calm, conditions, laid).
  DERIVED. THE GIVEN ROWS OF THIS SEAT. 10 by the template 'for every input the law returns true; each argument reads behind the call as it read before'; 0 by the template 'total and deterministic' (their statements: YtdajodglopiahaaTotals.lean).
  GIVEN WITH THE SEED: the statements are not yours to turn. If you find one false, say at which input.
  Laid BY PROGRAM, IN A SANDBOX (cutbox-rows.mjs): the forced cells as the released guide's own fill.sh prints them over the translation 68fa0d30bbacf1b3… (all of the seat's roots in one cut). By AI agents, Wed Nov 11 2026. No macro, syntax, notation, axiom, sorry.
-/
import Derived.Test.YtdajodglopiahaaChecked
import GoSem.Claim
import GoSem.ClaimJoined
import GoSem.ClaimMapViews
import Derived.JoinedTies
import Derived.KernelRfl
namespace Go.Proofs.Ytdajodglopiahaa
/- THE CELL 'sum', in the pinned program and in every row, IS THE sha256 OF THE DUMP (.gsa) THAT YtdajodglopiahaaProg.lean LOADS. Nothing in Lean hashes anything: it is a label: what it is worth is what the hold of that sum in a sandbox is worth. -/
noncomputable def Try.pinned : Pinned := { name := "ytdajodglopiahaa", sum := "68fa0d30bbacf1b3c1648529337e39d25b437780f55943f23de688a620636e9e", checked := Try.checked }
namespace Rows
def none {H : Type} : Left H := { results := [], args := [] }

/-- 'laws.FnSeams': WHATEVER THE INPUT: true; the input reads as it did. -/
def fnSeamsSpec : ChangeSpec := { name := "fnSeams", fn := fun _ => fun
  | [d] => { results := [.lit (.bool true)], args := [d] }
  | _ => none }
def fnSeamsRow : OpenClaim := { program := "ytdajodglopiahaa", sum := "68fa0d30bbacf1b3c1648529337e39d25b437780f55943f23de688a620636e9e", func := "loop.example/g03309/laws.FnSeams", spec := "fnSeams", apart := false }
def FnSeamsSaid : Prop := fnSeamsRow.holds Try.pinned (OpenSpec.ofChange fnSeamsSpec)

/-- ITS FALSE NEIGHBOUR: 'it returns false'. Refute it at one input. -/
def fnSeamsWrong : ChangeSpec := { name := "fnSeams", fn := fun _ => fun
  | [d] => { results := [.lit (.bool false)], args := [d] }
  | _ => none }
def FnSeamsWrongFalsely : Prop := fnSeamsRow.holds Try.pinned (OpenSpec.ofChange fnSeamsWrong)

/-- 'laws.FnExactCylinderOk': WHATEVER THE INPUT: true; the input reads as it did. -/
def fnExactCylinderOkSpec : ChangeSpec := { name := "fnExactCylinderOk", fn := fun _ => fun
  | [d] => { results := [.lit (.bool true)], args := [d] }
  | _ => none }
def fnExactCylinderOkRow : OpenClaim := { program := "ytdajodglopiahaa", sum := "68fa0d30bbacf1b3c1648529337e39d25b437780f55943f23de688a620636e9e", func := "loop.example/g03309/laws.FnExactCylinderOk", spec := "fnExactCylinderOk", apart := false }
def FnExactCylinderOkSaid : Prop := fnExactCylinderOkRow.holds Try.pinned (OpenSpec.ofChange fnExactCylinderOkSpec)

/-- ITS FALSE NEIGHBOUR: 'it returns false'. Refute it at one input. -/
def fnExactCylinderOkWrong : ChangeSpec := { name := "fnExactCylinderOk", fn := fun _ => fun
  | [d] => { results := [.lit (.bool false)], args := [d] }
  | _ => none }
def FnExactCylinderOkWrongFalsely : Prop := fnExactCylinderOkRow.holds Try.pinned (OpenSpec.ofChange fnExactCylinderOkWrong)

/-- 'laws.FnExactClosestPins': WHATEVER THE INPUT: true; the input reads as it did. -/
def fnExactClosestPinsSpec : ChangeSpec := { name := "fnExactClosestPins", fn := fun _ => fun
  | [d] => { results := [.lit (.bool true)], args := [d] }
  | _ => none }
def fnExactClosestPinsRow : OpenClaim := { program := "ytdajodglopiahaa", sum := "68fa0d30bbacf1b3c1648529337e39d25b437780f55943f23de688a620636e9e", func := "loop.example/g03309/laws.FnExactClosestPins", spec := "fnExactClosestPins", apart := false }
def FnExactClosestPinsSaid : Prop := fnExactClosestPinsRow.holds Try.pinned (OpenSpec.ofChange fnExactClosestPinsSpec)

/-- ITS FALSE NEIGHBOUR: 'it returns false'. Refute it at one input. -/
def fnExactClosestPinsWrong : ChangeSpec := { name := "fnExactClosestPins", fn := fun _ => fun
  | [d] => { results := [.lit (.bool false)], args := [d] }
  | _ => none }
def FnExactClosestPinsWrongFalsely : Prop := fnExactClosestPinsRow.holds Try.pinned (OpenSpec.ofChange fnExactClosestPinsWrong)

/-- 'laws.FnExactDisturbs': WHATEVER THE INPUT: true; the input reads as it did. -/
def fnExactDisturbsSpec : ChangeSpec := { name := "fnExactDisturbs", fn := fun _ => fun
  | [d1, d2, d3] => { results := [.lit (.bool true)], args := [d1, d2, d3] }
  | _ => none }
def fnExactDisturbsRow : OpenClaim := { program := "ytdajodglopiahaa", sum := "68fa0d30bbacf1b3c1648529337e39d25b437780f55943f23de688a620636e9e", func := "loop.example/g03309/laws.FnExactDisturbs", spec := "fnExactDisturbs", apart := false }
def FnExactDisturbsSaid : Prop := fnExactDisturbsRow.holds Try.pinned (OpenSpec.ofChange fnExactDisturbsSpec)

/-- ITS FALSE NEIGHBOUR: 'it returns false'. Refute it at one input. -/
def fnExactDisturbsWrong : ChangeSpec := { name := "fnExactDisturbs", fn := fun _ => fun
  | [d1, d2, d3] => { results := [.lit (.bool false)], args := [d1, d2, d3] }
  | _ => none }
def FnExactDisturbsWrongFalsely : Prop := fnExactDisturbsRow.holds Try.pinned (OpenSpec.ofChange fnExactDisturbsWrong)

/-- 'laws.FnExactIsPlayable': WHATEVER THE INPUT: true; the input reads as it did. -/
def fnExactIsPlayableSpec : ChangeSpec := { name := "fnExactIsPlayable", fn := fun _ => fun
  | [d1, d2] => { results := [.lit (.bool true)], args := [d1, d2] }
  | _ => none }
def fnExactIsPlayableRow : OpenClaim := { program := "ytdajodglopiahaa", sum := "68fa0d30bbacf1b3c1648529337e39d25b437780f55943f23de688a620636e9e", func := "loop.example/g03309/laws.FnExactIsPlayable", spec := "fnExactIsPlayable", apart := false }
def FnExactIsPlayableSaid : Prop := fnExactIsPlayableRow.holds Try.pinned (OpenSpec.ofChange fnExactIsPlayableSpec)

/-- ITS FALSE NEIGHBOUR: 'it returns false'. Refute it at one input. -/
def fnExactIsPlayableWrong : ChangeSpec := { name := "fnExactIsPlayable", fn := fun _ => fun
  | [d1, d2] => { results := [.lit (.bool false)], args := [d1, d2] }
  | _ => none }
def FnExactIsPlayableWrongFalsely : Prop := fnExactIsPlayableRow.holds Try.pinned (OpenSpec.ofChange fnExactIsPlayableWrong)

/-- 'laws.FnExactPullPin': WHATEVER THE INPUT: true; the input reads as it did. -/
def fnExactPullPinSpec : ChangeSpec := { name := "fnExactPullPin", fn := fun _ => fun
  | [d1, d2] => { results := [.lit (.bool true)], args := [d1, d2] }
  | _ => none }
def fnExactPullPinRow : OpenClaim := { program := "ytdajodglopiahaa", sum := "68fa0d30bbacf1b3c1648529337e39d25b437780f55943f23de688a620636e9e", func := "loop.example/g03309/laws.FnExactPullPin", spec := "fnExactPullPin", apart := false }
def FnExactPullPinSaid : Prop := fnExactPullPinRow.holds Try.pinned (OpenSpec.ofChange fnExactPullPinSpec)

/-- ITS FALSE NEIGHBOUR: 'it returns false'. Refute it at one input. -/
def fnExactPullPinWrong : ChangeSpec := { name := "fnExactPullPin", fn := fun _ => fun
  | [d1, d2] => { results := [.lit (.bool false)], args := [d1, d2] }
  | _ => none }
def FnExactPullPinWrongFalsely : Prop := fnExactPullPinRow.holds Try.pinned (OpenSpec.ofChange fnExactPullPinWrong)

/-- 'laws.FnExactPinsAt': WHATEVER THE INPUT: true; the input reads as it did. -/
def fnExactPinsAtSpec : ChangeSpec := { name := "fnExactPinsAt", fn := fun _ => fun
  | [d1, d2] => { results := [.lit (.bool true)], args := [d1, d2] }
  | _ => none }
def fnExactPinsAtRow : OpenClaim := { program := "ytdajodglopiahaa", sum := "68fa0d30bbacf1b3c1648529337e39d25b437780f55943f23de688a620636e9e", func := "loop.example/g03309/laws.FnExactPinsAt", spec := "fnExactPinsAt", apart := false }
def FnExactPinsAtSaid : Prop := fnExactPinsAtRow.holds Try.pinned (OpenSpec.ofChange fnExactPinsAtSpec)

/-- ITS FALSE NEIGHBOUR: 'it returns false'. Refute it at one input. -/
def fnExactPinsAtWrong : ChangeSpec := { name := "fnExactPinsAt", fn := fun _ => fun
  | [d1, d2] => { results := [.lit (.bool false)], args := [d1, d2] }
  | _ => none }
def FnExactPinsAtWrongFalsely : Prop := fnExactPinsAtRow.holds Try.pinned (OpenSpec.ofChange fnExactPinsAtWrong)

/-- 'laws.FnExactOnlyAtSeam': WHATEVER THE INPUT: true; the input reads as it did. -/
def fnExactOnlyAtSeamSpec : ChangeSpec := { name := "fnExactOnlyAtSeam", fn := fun _ => fun
  | [d1, d2] => { results := [.lit (.bool true)], args := [d1, d2] }
  | _ => none }
def fnExactOnlyAtSeamRow : OpenClaim := { program := "ytdajodglopiahaa", sum := "68fa0d30bbacf1b3c1648529337e39d25b437780f55943f23de688a620636e9e", func := "loop.example/g03309/laws.FnExactOnlyAtSeam", spec := "fnExactOnlyAtSeam", apart := false }
def FnExactOnlyAtSeamSaid : Prop := fnExactOnlyAtSeamRow.holds Try.pinned (OpenSpec.ofChange fnExactOnlyAtSeamSpec)

/-- ITS FALSE NEIGHBOUR: 'it returns false'. Refute it at one input. -/
def fnExactOnlyAtSeamWrong : ChangeSpec := { name := "fnExactOnlyAtSeam", fn := fun _ => fun
  | [d1, d2] => { results := [.lit (.bool false)], args := [d1, d2] }
  | _ => none }
def FnExactOnlyAtSeamWrongFalsely : Prop := fnExactOnlyAtSeamRow.holds Try.pinned (OpenSpec.ofChange fnExactOnlyAtSeamWrong)

/-- 'laws.FnExactQuietAngle': WHATEVER THE INPUT: true; the input reads as it did. -/
def fnExactQuietAngleSpec : ChangeSpec := { name := "fnExactQuietAngle", fn := fun _ => fun
  | [d] => { results := [.lit (.bool true)], args := [d] }
  | _ => none }
def fnExactQuietAngleRow : OpenClaim := { program := "ytdajodglopiahaa", sum := "68fa0d30bbacf1b3c1648529337e39d25b437780f55943f23de688a620636e9e", func := "loop.example/g03309/laws.FnExactQuietAngle", spec := "fnExactQuietAngle", apart := false }
def FnExactQuietAngleSaid : Prop := fnExactQuietAngleRow.holds Try.pinned (OpenSpec.ofChange fnExactQuietAngleSpec)

/-- ITS FALSE NEIGHBOUR: 'it returns false'. Refute it at one input. -/
def fnExactQuietAngleWrong : ChangeSpec := { name := "fnExactQuietAngle", fn := fun _ => fun
  | [d] => { results := [.lit (.bool false)], args := [d] }
  | _ => none }
def FnExactQuietAngleWrongFalsely : Prop := fnExactQuietAngleRow.holds Try.pinned (OpenSpec.ofChange fnExactQuietAngleWrong)

/-- 'laws.FnExactTooClose': WHATEVER THE INPUT: true; the input reads as it did. -/
def fnExactTooCloseSpec : ChangeSpec := { name := "fnExactTooClose", fn := fun _ => fun
  | [d1, d2] => { results := [.lit (.bool true)], args := [d1, d2] }
  | _ => none }
def fnExactTooCloseRow : OpenClaim := { program := "ytdajodglopiahaa", sum := "68fa0d30bbacf1b3c1648529337e39d25b437780f55943f23de688a620636e9e", func := "loop.example/g03309/laws.FnExactTooClose", spec := "fnExactTooClose", apart := false }
def FnExactTooCloseSaid : Prop := fnExactTooCloseRow.holds Try.pinned (OpenSpec.ofChange fnExactTooCloseSpec)

/-- ITS FALSE NEIGHBOUR: 'it returns false'. Refute it at one input. -/
def fnExactTooCloseWrong : ChangeSpec := { name := "fnExactTooClose", fn := fun _ => fun
  | [d1, d2] => { results := [.lit (.bool false)], args := [d1, d2] }
  | _ => none }
def FnExactTooCloseWrongFalsely : Prop := fnExactTooCloseRow.holds Try.pinned (OpenSpec.ofChange fnExactTooCloseWrong)

/- THE SECOND FORM. 'bulk': how many values and letters a reading holds, each counted each time it is reached (what is shared counts as often as it is met; a slice's spare places count too). A statement '..UptoSaid' is the law's where the arguments, and the package variables that the reading takes, are together of bulk at most 1048576: NARROWER than '..Said'. Prove '..Said' where nothing that the law and all that it calls make is longer than what came in: it says more and counts as full. Else prove '..UptoSaid'. A law counts once. -/
mutual
def uptoBulk {H : Type} : DataW H → Nat
  | .lit (.string bytes) => bytes.length + 1
  | .lit _ => 1
  | .nil => 1
  | .ptr d => uptoBulk d + 1
  | .slice elems spare => uptoBulkAll elems + uptoBulkAll spare + 1
  | .agg parts => uptoBulkAll parts + 1
  | .iface _ d => uptoBulk d + 1
  | .map entries => uptoBulkEntries entries + 1
  | .held _ => 1
def uptoBulkAll {H : Type} : List (DataW H) → Nat
  | [] => 0
  | d :: r => uptoBulk d + uptoBulkAll r
def uptoBulkEntries {H : Type} : List (Lit × DataW H) → Nat
  | [] => 0
  | x :: r => uptoBulkEntry x + uptoBulkEntries r
def uptoBulkEntry {H : Type} : Lit × DataW H → Nat
  | (.string bytes, d) => bytes.length + uptoBulk d + 1
  | (_, d) => uptoBulk d + 1
 end
def uptoSmall : (H : Type) → List (DataW H) → Bool := fun _ ds => decide (uptoBulkAll ds ≤ 1048576)
def OpenSpec.upto (s : _root_.Go.ChangeSpec) : _root_.Go.OpenSpec := { _root_.Go.OpenSpec.ofChange s with cond := some uptoSmall }

/-- 'laws.FnSeams', WHERE WHAT IT READS IS OF BULK AT MOST 1048576: true; the input reads as it did. -/
def fnSeamsUptoRow : OpenClaim := { program := "ytdajodglopiahaa", sum := "68fa0d30bbacf1b3c1648529337e39d25b437780f55943f23de688a620636e9e", func := "loop.example/g03309/laws.FnSeams", spec := "fnSeams", apart := false, narrowed := true }
def FnSeamsUptoSaid : Prop := fnSeamsUptoRow.holds Try.pinned (OpenSpec.upto fnSeamsSpec)

/-- 'laws.FnExactCylinderOk', WHERE WHAT IT READS IS OF BULK AT MOST 1048576: true; the input reads as it did. -/
def fnExactCylinderOkUptoRow : OpenClaim := { program := "ytdajodglopiahaa", sum := "68fa0d30bbacf1b3c1648529337e39d25b437780f55943f23de688a620636e9e", func := "loop.example/g03309/laws.FnExactCylinderOk", spec := "fnExactCylinderOk", apart := false, narrowed := true }
def FnExactCylinderOkUptoSaid : Prop := fnExactCylinderOkUptoRow.holds Try.pinned (OpenSpec.upto fnExactCylinderOkSpec)

/-- 'laws.FnExactClosestPins', WHERE WHAT IT READS IS OF BULK AT MOST 1048576: true; the input reads as it did. -/
def fnExactClosestPinsUptoRow : OpenClaim := { program := "ytdajodglopiahaa", sum := "68fa0d30bbacf1b3c1648529337e39d25b437780f55943f23de688a620636e9e", func := "loop.example/g03309/laws.FnExactClosestPins", spec := "fnExactClosestPins", apart := false, narrowed := true }
def FnExactClosestPinsUptoSaid : Prop := fnExactClosestPinsUptoRow.holds Try.pinned (OpenSpec.upto fnExactClosestPinsSpec)

/-- 'laws.FnExactDisturbs', WHERE WHAT IT READS IS OF BULK AT MOST 1048576: true; the input reads as it did. -/
def fnExactDisturbsUptoRow : OpenClaim := { program := "ytdajodglopiahaa", sum := "68fa0d30bbacf1b3c1648529337e39d25b437780f55943f23de688a620636e9e", func := "loop.example/g03309/laws.FnExactDisturbs", spec := "fnExactDisturbs", apart := false, narrowed := true }
def FnExactDisturbsUptoSaid : Prop := fnExactDisturbsUptoRow.holds Try.pinned (OpenSpec.upto fnExactDisturbsSpec)

/-- 'laws.FnExactIsPlayable', WHERE WHAT IT READS IS OF BULK AT MOST 1048576: true; the input reads as it did. -/
def fnExactIsPlayableUptoRow : OpenClaim := { program := "ytdajodglopiahaa", sum := "68fa0d30bbacf1b3c1648529337e39d25b437780f55943f23de688a620636e9e", func := "loop.example/g03309/laws.FnExactIsPlayable", spec := "fnExactIsPlayable", apart := false, narrowed := true }
def FnExactIsPlayableUptoSaid : Prop := fnExactIsPlayableUptoRow.holds Try.pinned (OpenSpec.upto fnExactIsPlayableSpec)

/-- 'laws.FnExactPullPin', WHERE WHAT IT READS IS OF BULK AT MOST 1048576: true; the input reads as it did. -/
def fnExactPullPinUptoRow : OpenClaim := { program := "ytdajodglopiahaa", sum := "68fa0d30bbacf1b3c1648529337e39d25b437780f55943f23de688a620636e9e", func := "loop.example/g03309/laws.FnExactPullPin", spec := "fnExactPullPin", apart := false, narrowed := true }
def FnExactPullPinUptoSaid : Prop := fnExactPullPinUptoRow.holds Try.pinned (OpenSpec.upto fnExactPullPinSpec)

/-- 'laws.FnExactPinsAt', WHERE WHAT IT READS IS OF BULK AT MOST 1048576: true; the input reads as it did. -/
def fnExactPinsAtUptoRow : OpenClaim := { program := "ytdajodglopiahaa", sum := "68fa0d30bbacf1b3c1648529337e39d25b437780f55943f23de688a620636e9e", func := "loop.example/g03309/laws.FnExactPinsAt", spec := "fnExactPinsAt", apart := false, narrowed := true }
def FnExactPinsAtUptoSaid : Prop := fnExactPinsAtUptoRow.holds Try.pinned (OpenSpec.upto fnExactPinsAtSpec)

/-- 'laws.FnExactOnlyAtSeam', WHERE WHAT IT READS IS OF BULK AT MOST 1048576: true; the input reads as it did. -/
def fnExactOnlyAtSeamUptoRow : OpenClaim := { program := "ytdajodglopiahaa", sum := "68fa0d30bbacf1b3c1648529337e39d25b437780f55943f23de688a620636e9e", func := "loop.example/g03309/laws.FnExactOnlyAtSeam", spec := "fnExactOnlyAtSeam", apart := false, narrowed := true }
def FnExactOnlyAtSeamUptoSaid : Prop := fnExactOnlyAtSeamUptoRow.holds Try.pinned (OpenSpec.upto fnExactOnlyAtSeamSpec)

/-- 'laws.FnExactQuietAngle', WHERE WHAT IT READS IS OF BULK AT MOST 1048576: true; the input reads as it did. -/
def fnExactQuietAngleUptoRow : OpenClaim := { program := "ytdajodglopiahaa", sum := "68fa0d30bbacf1b3c1648529337e39d25b437780f55943f23de688a620636e9e", func := "loop.example/g03309/laws.FnExactQuietAngle", spec := "fnExactQuietAngle", apart := false, narrowed := true }
def FnExactQuietAngleUptoSaid : Prop := fnExactQuietAngleUptoRow.holds Try.pinned (OpenSpec.upto fnExactQuietAngleSpec)

/-- 'laws.FnExactTooClose', WHERE WHAT IT READS IS OF BULK AT MOST 1048576: true; the input reads as it did. -/
def fnExactTooCloseUptoRow : OpenClaim := { program := "ytdajodglopiahaa", sum := "68fa0d30bbacf1b3c1648529337e39d25b437780f55943f23de688a620636e9e", func := "loop.example/g03309/laws.FnExactTooClose", spec := "fnExactTooClose", apart := false, narrowed := true }
def FnExactTooCloseUptoSaid : Prop := fnExactTooCloseUptoRow.holds Try.pinned (OpenSpec.upto fnExactTooCloseSpec)

end Rows
end Go.Proofs.Ytdajodglopiahaa
