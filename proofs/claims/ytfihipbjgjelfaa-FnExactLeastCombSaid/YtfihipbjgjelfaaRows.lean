/-
  No cell of these rows narrows 'for every input' (looked for: loops, veiled, ifaces, maps, wideKeys, modest, calm, conditions, laid).
  DERIVED. THE GIVEN ROWS OF THIS SEAT. 12 by the template 'for every input the law returns true; each argument reads behind the call as it read before'; 0 by the template 'total and deterministic' (their statements: YtfihipbjgjelfaaTotals.lean).
  GIVEN WITH THE SEED: the statements are not yours to turn. If you find one false, say at which input.
  Laid BY PROGRAM, IN A SANDBOX (cutbox-rows.mjs): the forced cells as the released guide's own fill.sh prints them over the translation 5b5674417473e9be… (all of the seat's roots in one cut). By AI agents, Wed Nov 11 2026. No macro, syntax, notation, axiom, sorry.
-/
import Derived.Test.YtfihipbjgjelfaaChecked
import GoSem.Claim
import GoSem.ClaimJoined
import GoSem.ClaimMapViews
import Derived.JoinedTies
import Derived.KernelRfl
namespace Go.Proofs.Ytfihipbjgjelfaa
/- THE CELL 'sum', in the pinned program and in every row, IS THE sha256 OF THE DUMP (.gsa) THAT YtfihipbjgjelfaaProg.lean LOADS. Nothing in Lean hashes anything: it is a label: what it is worth is what the hold of that sum in a sandbox is worth. -/
noncomputable def Try.pinned : Pinned := { name := "ytfihipbjgjelfaa", sum := "5b5674417473e9bed011b5ea6fe95c3abdd959c458bba96290217e15a0ba73b9", checked := Try.checked }
namespace Rows
def none {H : Type} : Left H := { results := [], args := [] }

/-- 'laws.FnTeeth': WHATEVER THE INPUT: true; the input reads as it did. -/
def fnTeethSpec : ChangeSpec := { name := "fnTeeth", fn := fun _ => fun
  | [d] => { results := [.lit (.bool true)], args := [d] }
  | _ => none }
def fnTeethRow : OpenClaim := { program := "ytfihipbjgjelfaa", sum := "5b5674417473e9bed011b5ea6fe95c3abdd959c458bba96290217e15a0ba73b9", func := "loop.example/g03309/laws.FnTeeth", spec := "fnTeeth", apart := false }
def FnTeethSaid : Prop := fnTeethRow.holds Try.pinned (OpenSpec.ofChange fnTeethSpec)

/-- ITS FALSE NEIGHBOUR: 'it returns false'. Refute it at one input. -/
def fnTeethWrong : ChangeSpec := { name := "fnTeeth", fn := fun _ => fun
  | [d] => { results := [.lit (.bool false)], args := [d] }
  | _ => none }
def FnTeethWrongFalsely : Prop := fnTeethRow.holds Try.pinned (OpenSpec.ofChange fnTeethWrong)

/-- 'laws.FnExactSameTune': WHATEVER THE INPUT: true; the input reads as it did. -/
def fnExactSameTuneSpec : ChangeSpec := { name := "fnExactSameTune", fn := fun _ => fun
  | [d1, d2] => { results := [.lit (.bool true)], args := [d1, d2] }
  | _ => none }
def fnExactSameTuneRow : OpenClaim := { program := "ytfihipbjgjelfaa", sum := "5b5674417473e9bed011b5ea6fe95c3abdd959c458bba96290217e15a0ba73b9", func := "loop.example/g03309/laws.FnExactSameTune", spec := "fnExactSameTune", apart := false }
def FnExactSameTuneSaid : Prop := fnExactSameTuneRow.holds Try.pinned (OpenSpec.ofChange fnExactSameTuneSpec)

/-- ITS FALSE NEIGHBOUR: 'it returns false'. Refute it at one input. -/
def fnExactSameTuneWrong : ChangeSpec := { name := "fnExactSameTune", fn := fun _ => fun
  | [d1, d2] => { results := [.lit (.bool false)], args := [d1, d2] }
  | _ => none }
def FnExactSameTuneWrongFalsely : Prop := fnExactSameTuneRow.holds Try.pinned (OpenSpec.ofChange fnExactSameTuneWrong)

/-- 'laws.FnExactPitchRange': WHATEVER THE INPUT: true; the input reads as it did. -/
def fnExactPitchRangeSpec : ChangeSpec := { name := "fnExactPitchRange", fn := fun _ => fun
  | [d] => { results := [.lit (.bool true)], args := [d] }
  | _ => none }
def fnExactPitchRangeRow : OpenClaim := { program := "ytfihipbjgjelfaa", sum := "5b5674417473e9bed011b5ea6fe95c3abdd959c458bba96290217e15a0ba73b9", func := "loop.example/g03309/laws.FnExactPitchRange", spec := "fnExactPitchRange", apart := false }
def FnExactPitchRangeSaid : Prop := fnExactPitchRangeRow.holds Try.pinned (OpenSpec.ofChange fnExactPitchRangeSpec)

/-- ITS FALSE NEIGHBOUR: 'it returns false'. Refute it at one input. -/
def fnExactPitchRangeWrong : ChangeSpec := { name := "fnExactPitchRange", fn := fun _ => fun
  | [d] => { results := [.lit (.bool false)], args := [d] }
  | _ => none }
def FnExactPitchRangeWrongFalsely : Prop := fnExactPitchRangeRow.holds Try.pinned (OpenSpec.ofChange fnExactPitchRangeWrong)

/-- 'laws.FnExactNotesAt': WHATEVER THE INPUT: true; the input reads as it did. -/
def fnExactNotesAtSpec : ChangeSpec := { name := "fnExactNotesAt", fn := fun _ => fun
  | [d1, d2] => { results := [.lit (.bool true)], args := [d1, d2] }
  | _ => none }
def fnExactNotesAtRow : OpenClaim := { program := "ytfihipbjgjelfaa", sum := "5b5674417473e9bed011b5ea6fe95c3abdd959c458bba96290217e15a0ba73b9", func := "loop.example/g03309/laws.FnExactNotesAt", spec := "fnExactNotesAt", apart := false }
def FnExactNotesAtSaid : Prop := fnExactNotesAtRow.holds Try.pinned (OpenSpec.ofChange fnExactNotesAtSpec)

/-- ITS FALSE NEIGHBOUR: 'it returns false'. Refute it at one input. -/
def fnExactNotesAtWrong : ChangeSpec := { name := "fnExactNotesAt", fn := fun _ => fun
  | [d1, d2] => { results := [.lit (.bool false)], args := [d1, d2] }
  | _ => none }
def FnExactNotesAtWrongFalsely : Prop := fnExactNotesAtRow.holds Try.pinned (OpenSpec.ofChange fnExactNotesAtWrong)

/-- 'laws.FnExactTeethNeeded': WHATEVER THE INPUT: true; the input reads as it did. -/
def fnExactTeethNeededSpec : ChangeSpec := { name := "fnExactTeethNeeded", fn := fun _ => fun
  | [d1, d2] => { results := [.lit (.bool true)], args := [d1, d2] }
  | _ => none }
def fnExactTeethNeededRow : OpenClaim := { program := "ytfihipbjgjelfaa", sum := "5b5674417473e9bed011b5ea6fe95c3abdd959c458bba96290217e15a0ba73b9", func := "loop.example/g03309/laws.FnExactTeethNeeded", spec := "fnExactTeethNeeded", apart := false }
def FnExactTeethNeededSaid : Prop := fnExactTeethNeededRow.holds Try.pinned (OpenSpec.ofChange fnExactTeethNeededSpec)

/-- ITS FALSE NEIGHBOUR: 'it returns false'. Refute it at one input. -/
def fnExactTeethNeededWrong : ChangeSpec := { name := "fnExactTeethNeeded", fn := fun _ => fun
  | [d1, d2] => { results := [.lit (.bool false)], args := [d1, d2] }
  | _ => none }
def FnExactTeethNeededWrongFalsely : Prop := fnExactTeethNeededRow.holds Try.pinned (OpenSpec.ofChange fnExactTeethNeededWrong)

/-- 'laws.FnExactIsAssigned': WHATEVER THE INPUT: true; the input reads as it did. -/
def fnExactIsAssignedSpec : ChangeSpec := { name := "fnExactIsAssigned", fn := fun _ => fun
  | [d1, d2, d3, d4] => { results := [.lit (.bool true)], args := [d1, d2, d3, d4] }
  | _ => none }
def fnExactIsAssignedRow : OpenClaim := { program := "ytfihipbjgjelfaa", sum := "5b5674417473e9bed011b5ea6fe95c3abdd959c458bba96290217e15a0ba73b9", func := "loop.example/g03309/laws.FnExactIsAssigned", spec := "fnExactIsAssigned", apart := false }
def FnExactIsAssignedSaid : Prop := fnExactIsAssignedRow.holds Try.pinned (OpenSpec.ofChange fnExactIsAssignedSpec)

/-- ITS FALSE NEIGHBOUR: 'it returns false'. Refute it at one input. -/
def fnExactIsAssignedWrong : ChangeSpec := { name := "fnExactIsAssigned", fn := fun _ => fun
  | [d1, d2, d3, d4] => { results := [.lit (.bool false)], args := [d1, d2, d3, d4] }
  | _ => none }
def FnExactIsAssignedWrongFalsely : Prop := fnExactIsAssignedRow.holds Try.pinned (OpenSpec.ofChange fnExactIsAssignedWrong)

/-- 'laws.FnExactLongestRest': WHATEVER THE INPUT: true; the input reads as it did. -/
def fnExactLongestRestSpec : ChangeSpec := { name := "fnExactLongestRest", fn := fun _ => fun
  | [d1, d2] => { results := [.lit (.bool true)], args := [d1, d2] }
  | _ => none }
def fnExactLongestRestRow : OpenClaim := { program := "ytfihipbjgjelfaa", sum := "5b5674417473e9bed011b5ea6fe95c3abdd959c458bba96290217e15a0ba73b9", func := "loop.example/g03309/laws.FnExactLongestRest", spec := "fnExactLongestRest", apart := false }
def FnExactLongestRestSaid : Prop := fnExactLongestRestRow.holds Try.pinned (OpenSpec.ofChange fnExactLongestRestSpec)

/-- ITS FALSE NEIGHBOUR: 'it returns false'. Refute it at one input. -/
def fnExactLongestRestWrong : ChangeSpec := { name := "fnExactLongestRest", fn := fun _ => fun
  | [d1, d2] => { results := [.lit (.bool false)], args := [d1, d2] }
  | _ => none }
def FnExactLongestRestWrongFalsely : Prop := fnExactLongestRestRow.holds Try.pinned (OpenSpec.ofChange fnExactLongestRestWrong)

/-- 'laws.FnExactCanPlay': WHATEVER THE INPUT: true; the input reads as it did. -/
def fnExactCanPlaySpec : ChangeSpec := { name := "fnExactCanPlay", fn := fun _ => fun
  | [d1, d2] => { results := [.lit (.bool true)], args := [d1, d2] }
  | _ => none }
def fnExactCanPlayRow : OpenClaim := { program := "ytfihipbjgjelfaa", sum := "5b5674417473e9bed011b5ea6fe95c3abdd959c458bba96290217e15a0ba73b9", func := "loop.example/g03309/laws.FnExactCanPlay", spec := "fnExactCanPlay", apart := false }
def FnExactCanPlaySaid : Prop := fnExactCanPlayRow.holds Try.pinned (OpenSpec.ofChange fnExactCanPlaySpec)

/-- ITS FALSE NEIGHBOUR: 'it returns false'. Refute it at one input. -/
def fnExactCanPlayWrong : ChangeSpec := { name := "fnExactCanPlay", fn := fun _ => fun
  | [d1, d2] => { results := [.lit (.bool false)], args := [d1, d2] }
  | _ => none }
def FnExactCanPlayWrongFalsely : Prop := fnExactCanPlayRow.holds Try.pinned (OpenSpec.ofChange fnExactCanPlayWrong)

/-- 'laws.FnExactAssignTeeth': WHATEVER THE INPUT: true; the input reads as it did. -/
def fnExactAssignTeethSpec : ChangeSpec := { name := "fnExactAssignTeeth", fn := fun _ => fun
  | [d1, d2, d3] => { results := [.lit (.bool true)], args := [d1, d2, d3] }
  | _ => none }
def fnExactAssignTeethRow : OpenClaim := { program := "ytfihipbjgjelfaa", sum := "5b5674417473e9bed011b5ea6fe95c3abdd959c458bba96290217e15a0ba73b9", func := "loop.example/g03309/laws.FnExactAssignTeeth", spec := "fnExactAssignTeeth", apart := false }
def FnExactAssignTeethSaid : Prop := fnExactAssignTeethRow.holds Try.pinned (OpenSpec.ofChange fnExactAssignTeethSpec)

/-- ITS FALSE NEIGHBOUR: 'it returns false'. Refute it at one input. -/
def fnExactAssignTeethWrong : ChangeSpec := { name := "fnExactAssignTeeth", fn := fun _ => fun
  | [d1, d2, d3] => { results := [.lit (.bool false)], args := [d1, d2, d3] }
  | _ => none }
def FnExactAssignTeethWrongFalsely : Prop := fnExactAssignTeethRow.holds Try.pinned (OpenSpec.ofChange fnExactAssignTeethWrong)

/-- 'laws.FnExactLeastComb': WHATEVER THE INPUT: true; the input reads as it did. -/
def fnExactLeastCombSpec : ChangeSpec := { name := "fnExactLeastComb", fn := fun _ => fun
  | [d1, d2] => { results := [.lit (.bool true)], args := [d1, d2] }
  | _ => none }
def fnExactLeastCombRow : OpenClaim := { program := "ytfihipbjgjelfaa", sum := "5b5674417473e9bed011b5ea6fe95c3abdd959c458bba96290217e15a0ba73b9", func := "loop.example/g03309/laws.FnExactLeastComb", spec := "fnExactLeastComb", apart := false }
def FnExactLeastCombSaid : Prop := fnExactLeastCombRow.holds Try.pinned (OpenSpec.ofChange fnExactLeastCombSpec)

/-- ITS FALSE NEIGHBOUR: 'it returns false'. Refute it at one input. -/
def fnExactLeastCombWrong : ChangeSpec := { name := "fnExactLeastComb", fn := fun _ => fun
  | [d1, d2] => { results := [.lit (.bool false)], args := [d1, d2] }
  | _ => none }
def FnExactLeastCombWrongFalsely : Prop := fnExactLeastCombRow.holds Try.pinned (OpenSpec.ofChange fnExactLeastCombWrong)

/-- 'laws.FnExactMissingPitches': WHATEVER THE INPUT: true; the input reads as it did. -/
def fnExactMissingPitchesSpec : ChangeSpec := { name := "fnExactMissingPitches", fn := fun _ => fun
  | [d1, d2] => { results := [.lit (.bool true)], args := [d1, d2] }
  | _ => none }
def fnExactMissingPitchesRow : OpenClaim := { program := "ytfihipbjgjelfaa", sum := "5b5674417473e9bed011b5ea6fe95c3abdd959c458bba96290217e15a0ba73b9", func := "loop.example/g03309/laws.FnExactMissingPitches", spec := "fnExactMissingPitches", apart := false }
def FnExactMissingPitchesSaid : Prop := fnExactMissingPitchesRow.holds Try.pinned (OpenSpec.ofChange fnExactMissingPitchesSpec)

/-- ITS FALSE NEIGHBOUR: 'it returns false'. Refute it at one input. -/
def fnExactMissingPitchesWrong : ChangeSpec := { name := "fnExactMissingPitches", fn := fun _ => fun
  | [d1, d2] => { results := [.lit (.bool false)], args := [d1, d2] }
  | _ => none }
def FnExactMissingPitchesWrongFalsely : Prop := fnExactMissingPitchesRow.holds Try.pinned (OpenSpec.ofChange fnExactMissingPitchesWrong)

/-- 'laws.FnExactCombFor': WHATEVER THE INPUT: true; the input reads as it did. -/
def fnExactCombForSpec : ChangeSpec := { name := "fnExactCombFor", fn := fun _ => fun
  | [d] => { results := [.lit (.bool true)], args := [d] }
  | _ => none }
def fnExactCombForRow : OpenClaim := { program := "ytfihipbjgjelfaa", sum := "5b5674417473e9bed011b5ea6fe95c3abdd959c458bba96290217e15a0ba73b9", func := "loop.example/g03309/laws.FnExactCombFor", spec := "fnExactCombFor", apart := false }
def FnExactCombForSaid : Prop := fnExactCombForRow.holds Try.pinned (OpenSpec.ofChange fnExactCombForSpec)

/-- ITS FALSE NEIGHBOUR: 'it returns false'. Refute it at one input. -/
def fnExactCombForWrong : ChangeSpec := { name := "fnExactCombFor", fn := fun _ => fun
  | [d] => { results := [.lit (.bool false)], args := [d] }
  | _ => none }
def FnExactCombForWrongFalsely : Prop := fnExactCombForRow.holds Try.pinned (OpenSpec.ofChange fnExactCombForWrong)

/- THE SECOND FORM. 'bulk': how many values and letters a reading holds, each counted each time it is reached (what is shared counts as often as it is met; a slice's spare places count too). A statement '..UptoSaid' is the law's where the arguments, and the package variables that the reading takes, are together of bulk at most 1048576: NARROWER than '..Said'. Prove '..Said' where nothing that the law and all that it calls make is longer than what came in: it says more and counts as full. Else prove '..UptoSaid'. A law counts once. -/
mutual
def uptoBulk {H : Type} : DataW H → Nat
  | .lit (.string bytes) => bytes.length + 1
  | .lit _ => 1
  | .nil => 1
  | .ptr d => uptoBulk d + 1
  | .slice elems spare => uptoBulkAll elems + uptoBulkAll spare + 1
  | .agg parts => uptoBulkAll parts + 1
  | .iface _ d => uptoBulk d + 1
  | .map entries => uptoBulkEntries entries + 1
  | .held _ => 1
def uptoBulkAll {H : Type} : List (DataW H) → Nat
  | [] => 0
  | d :: r => uptoBulk d + uptoBulkAll r
def uptoBulkEntries {H : Type} : List (Lit × DataW H) → Nat
  | [] => 0
  | x :: r => uptoBulkEntry x + uptoBulkEntries r
def uptoBulkEntry {H : Type} : Lit × DataW H → Nat
  | (.string bytes, d) => bytes.length + uptoBulk d + 1
  | (_, d) => uptoBulk d + 1
 end
def uptoSmall : (H : Type) → List (DataW H) → Bool := fun _ ds => decide (uptoBulkAll ds ≤ 1048576)
def OpenSpec.upto (s : _root_.Go.ChangeSpec) : _root_.Go.OpenSpec := { _root_.Go.OpenSpec.ofChange s with cond := some uptoSmall }

/-- 'laws.FnTeeth', WHERE WHAT IT READS IS OF BULK AT MOST 1048576: true; the input reads as it did. -/
def fnTeethUptoRow : OpenClaim := { program := "ytfihipbjgjelfaa", sum := "5b5674417473e9bed011b5ea6fe95c3abdd959c458bba96290217e15a0ba73b9", func := "loop.example/g03309/laws.FnTeeth", spec := "fnTeeth", apart := false, narrowed := true }
def FnTeethUptoSaid : Prop := fnTeethUptoRow.holds Try.pinned (OpenSpec.upto fnTeethSpec)

/-- 'laws.FnExactSameTune', WHERE WHAT IT READS IS OF BULK AT MOST 1048576: true; the input reads as it did. -/
def fnExactSameTuneUptoRow : OpenClaim := { program := "ytfihipbjgjelfaa", sum := "5b5674417473e9bed011b5ea6fe95c3abdd959c458bba96290217e15a0ba73b9", func := "loop.example/g03309/laws.FnExactSameTune", spec := "fnExactSameTune", apart := false, narrowed := true }
def FnExactSameTuneUptoSaid : Prop := fnExactSameTuneUptoRow.holds Try.pinned (OpenSpec.upto fnExactSameTuneSpec)

/-- 'laws.FnExactPitchRange', WHERE WHAT IT READS IS OF BULK AT MOST 1048576: true; the input reads as it did. -/
def fnExactPitchRangeUptoRow : OpenClaim := { program := "ytfihipbjgjelfaa", sum := "5b5674417473e9bed011b5ea6fe95c3abdd959c458bba96290217e15a0ba73b9", func := "loop.example/g03309/laws.FnExactPitchRange", spec := "fnExactPitchRange", apart := false, narrowed := true }
def FnExactPitchRangeUptoSaid : Prop := fnExactPitchRangeUptoRow.holds Try.pinned (OpenSpec.upto fnExactPitchRangeSpec)

/-- 'laws.FnExactNotesAt', WHERE WHAT IT READS IS OF BULK AT MOST 1048576: true; the input reads as it did. -/
def fnExactNotesAtUptoRow : OpenClaim := { program := "ytfihipbjgjelfaa", sum := "5b5674417473e9bed011b5ea6fe95c3abdd959c458bba96290217e15a0ba73b9", func := "loop.example/g03309/laws.FnExactNotesAt", spec := "fnExactNotesAt", apart := false, narrowed := true }
def FnExactNotesAtUptoSaid : Prop := fnExactNotesAtUptoRow.holds Try.pinned (OpenSpec.upto fnExactNotesAtSpec)

/-- 'laws.FnExactTeethNeeded', WHERE WHAT IT READS IS OF BULK AT MOST 1048576: true; the input reads as it did. -/
def fnExactTeethNeededUptoRow : OpenClaim := { program := "ytfihipbjgjelfaa", sum := "5b5674417473e9bed011b5ea6fe95c3abdd959c458bba96290217e15a0ba73b9", func := "loop.example/g03309/laws.FnExactTeethNeeded", spec := "fnExactTeethNeeded", apart := false, narrowed := true }
def FnExactTeethNeededUptoSaid : Prop := fnExactTeethNeededUptoRow.holds Try.pinned (OpenSpec.upto fnExactTeethNeededSpec)

/-- 'laws.FnExactIsAssigned', WHERE WHAT IT READS IS OF BULK AT MOST 1048576: true; the input reads as it did. -/
def fnExactIsAssignedUptoRow : OpenClaim := { program := "ytfihipbjgjelfaa", sum := "5b5674417473e9bed011b5ea6fe95c3abdd959c458bba96290217e15a0ba73b9", func := "loop.example/g03309/laws.FnExactIsAssigned", spec := "fnExactIsAssigned", apart := false, narrowed := true }
def FnExactIsAssignedUptoSaid : Prop := fnExactIsAssignedUptoRow.holds Try.pinned (OpenSpec.upto fnExactIsAssignedSpec)

/-- 'laws.FnExactLongestRest', WHERE WHAT IT READS IS OF BULK AT MOST 1048576: true; the input reads as it did. -/
def fnExactLongestRestUptoRow : OpenClaim := { program := "ytfihipbjgjelfaa", sum := "5b5674417473e9bed011b5ea6fe95c3abdd959c458bba96290217e15a0ba73b9", func := "loop.example/g03309/laws.FnExactLongestRest", spec := "fnExactLongestRest", apart := false, narrowed := true }
def FnExactLongestRestUptoSaid : Prop := fnExactLongestRestUptoRow.holds Try.pinned (OpenSpec.upto fnExactLongestRestSpec)

/-- 'laws.FnExactCanPlay', WHERE WHAT IT READS IS OF BULK AT MOST 1048576: true; the input reads as it did. -/
def fnExactCanPlayUptoRow : OpenClaim := { program := "ytfihipbjgjelfaa", sum := "5b5674417473e9bed011b5ea6fe95c3abdd959c458bba96290217e15a0ba73b9", func := "loop.example/g03309/laws.FnExactCanPlay", spec := "fnExactCanPlay", apart := false, narrowed := true }
def FnExactCanPlayUptoSaid : Prop := fnExactCanPlayUptoRow.holds Try.pinned (OpenSpec.upto fnExactCanPlaySpec)

/-- 'laws.FnExactAssignTeeth', WHERE WHAT IT READS IS OF BULK AT MOST 1048576: true; the input reads as it did. -/
def fnExactAssignTeethUptoRow : OpenClaim := { program := "ytfihipbjgjelfaa", sum := "5b5674417473e9bed011b5ea6fe95c3abdd959c458bba96290217e15a0ba73b9", func := "loop.example/g03309/laws.FnExactAssignTeeth", spec := "fnExactAssignTeeth", apart := false, narrowed := true }
def FnExactAssignTeethUptoSaid : Prop := fnExactAssignTeethUptoRow.holds Try.pinned (OpenSpec.upto fnExactAssignTeethSpec)

/-- 'laws.FnExactLeastComb', WHERE WHAT IT READS IS OF BULK AT MOST 1048576: true; the input reads as it did. -/
def fnExactLeastCombUptoRow : OpenClaim := { program := "ytfihipbjgjelfaa", sum := "5b5674417473e9bed011b5ea6fe95c3abdd959c458bba96290217e15a0ba73b9", func := "loop.example/g03309/laws.FnExactLeastComb", spec := "fnExactLeastComb", apart := false, narrowed := true }
def FnExactLeastCombUptoSaid : Prop := fnExactLeastCombUptoRow.holds Try.pinned (OpenSpec.upto fnExactLeastCombSpec)

/-- 'laws.FnExactMissingPitches', WHERE WHAT IT READS IS OF BULK AT MOST 1048576: true; the input reads as it did. -/
def fnExactMissingPitchesUptoRow : OpenClaim := { program := "ytfihipbjgjelfaa", sum := "5b5674417473e9bed011b5ea6fe95c3abdd959c458bba96290217e15a0ba73b9", func := "loop.example/g03309/laws.FnExactMissingPitches", spec := "fnExactMissingPitches", apart := false, narrowed := true }
def FnExactMissingPitchesUptoSaid : Prop := fnExactMissingPitchesUptoRow.holds Try.pinned (OpenSpec.upto fnExactMissingPitchesSpec)

/-- 'laws.FnExactCombFor', WHERE WHAT IT READS IS OF BULK AT MOST 1048576: true; the input reads as it did. -/
def fnExactCombForUptoRow : OpenClaim := { program := "ytfihipbjgjelfaa", sum := "5b5674417473e9bed011b5ea6fe95c3abdd959c458bba96290217e15a0ba73b9", func := "loop.example/g03309/laws.FnExactCombFor", spec := "fnExactCombFor", apart := false, narrowed := true }
def FnExactCombForUptoSaid : Prop := fnExactCombForUptoRow.holds Try.pinned (OpenSpec.upto fnExactCombForSpec)

end Rows
end Go.Proofs.Ytfihipbjgjelfaa
