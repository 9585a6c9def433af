/-
  No cell of these rows narrows 'for every input' (looked for: loops, veiled, ifaces, maps, wideKeys, modest, calm, conditions, laid).
  DERIVED. THE GIVEN ROWS OF THIS SEAT. 5 by the template 'for every input the law returns true; each argument reads behind the call as it read before'; 0 by the template 'total and deterministic' (their statements: YtakllloangpimaaTotals.lean).
  GIVEN WITH THE SEED: the statements are not yours to turn. If you find one false, say at which input.
  Laid BY PROGRAM, IN A SANDBOX (cutbox-rows.mjs): the forced cells as the released guide's own fill.sh prints them over the translation fddd6985ff0092ab… (all of the seat's roots in one cut). By AI agents, Wed Nov 11 2026. No macro, syntax, notation, axiom, sorry.
-/
import Derived.Test.YtakllloangpimaaChecked
import GoSem.Claim
import GoSem.ClaimJoined
import GoSem.ClaimMapViews
import Derived.JoinedTies
import Derived.KernelRfl
namespace Go.Proofs.Ytakllloangpimaa
/- THE CELL 'sum', in the pinned program and in every row, IS THE sha256 OF THE DUMP (.gsa) THAT YtakllloangpimaaProg.lean LOADS. Nothing in Lean hashes anything: it is a label: what it is worth is what the hold of that sum in a sandbox is worth. -/
noncomputable def Try.pinned : Pinned := { name := "ytakllloangpimaa", sum := "fddd6985ff0092abde66cd5d392d6439506d5eb8574f0841d60efb7834ac755b", checked := Try.checked }
namespace Rows
def none {H : Type} : Left H := { results := [], args := [] }

/-- 'laws.FnPins': WHATEVER THE INPUT: true; the input reads as it did. -/
def fnPinsSpec : ChangeSpec := { name := "fnPins", fn := fun _ => fun
  | [d] => { results := [.lit (.bool true)], args := [d] }
  | _ => none }
def fnPinsRow : OpenClaim := { program := "ytakllloangpimaa", sum := "fddd6985ff0092abde66cd5d392d6439506d5eb8574f0841d60efb7834ac755b", func := "loop.example/g03309/laws.FnPins", spec := "fnPins", unfollowed := true, recurses := true, apart := false }
def FnPinsSaid : Prop := fnPinsRow.holds Try.pinned (OpenSpec.ofChange fnPinsSpec)

/-- ITS FALSE NEIGHBOUR: 'it returns false'. Refute it at one input. -/
def fnPinsWrong : ChangeSpec := { name := "fnPins", fn := fun _ => fun
  | [d] => { results := [.lit (.bool false)], args := [d] }
  | _ => none }
def FnPinsWrongFalsely : Prop := fnPinsRow.holds Try.pinned (OpenSpec.ofChange fnPinsWrong)

/-- 'laws.FnTeeth': WHATEVER THE INPUT: true; the input reads as it did. -/
def fnTeethSpec : ChangeSpec := { name := "fnTeeth", fn := fun _ => fun
  | [d] => { results := [.lit (.bool true)], args := [d] }
  | _ => none }
def fnTeethRow : OpenClaim := { program := "ytakllloangpimaa", sum := "fddd6985ff0092abde66cd5d392d6439506d5eb8574f0841d60efb7834ac755b", func := "loop.example/g03309/laws.FnTeeth", spec := "fnTeeth", apart := false }
def FnTeethSaid : Prop := fnTeethRow.holds Try.pinned (OpenSpec.ofChange fnTeethSpec)

/-- ITS FALSE NEIGHBOUR: 'it returns false'. Refute it at one input. -/
def fnTeethWrong : ChangeSpec := { name := "fnTeeth", fn := fun _ => fun
  | [d] => { results := [.lit (.bool false)], args := [d] }
  | _ => none }
def FnTeethWrongFalsely : Prop := fnTeethRow.holds Try.pinned (OpenSpec.ofChange fnTeethWrong)

/-- 'laws.FnTunes': WHATEVER THE INPUT: true; the input reads as it did. -/
def fnTunesSpec : ChangeSpec := { name := "fnTunes", fn := fun _ => fun
  | [d] => { results := [.lit (.bool true)], args := [d] }
  | _ => none }
def fnTunesRow : OpenClaim := { program := "ytakllloangpimaa", sum := "fddd6985ff0092abde66cd5d392d6439506d5eb8574f0841d60efb7834ac755b", func := "loop.example/g03309/laws.FnTunes", spec := "fnTunes", unfollowed := true, recurses := true, apart := false }
def FnTunesSaid : Prop := fnTunesRow.holds Try.pinned (OpenSpec.ofChange fnTunesSpec)

/-- ITS FALSE NEIGHBOUR: 'it returns false'. Refute it at one input. -/
def fnTunesWrong : ChangeSpec := { name := "fnTunes", fn := fun _ => fun
  | [d] => { results := [.lit (.bool false)], args := [d] }
  | _ => none }
def FnTunesWrongFalsely : Prop := fnTunesRow.holds Try.pinned (OpenSpec.ofChange fnTunesWrong)

/-- 'laws.FnCombs': WHATEVER THE INPUT: true; the input reads as it did. -/
def fnCombsSpec : ChangeSpec := { name := "fnCombs", fn := fun _ => fun
  | [d] => { results := [.lit (.bool true)], args := [d] }
  | _ => none }
def fnCombsRow : OpenClaim := { program := "ytakllloangpimaa", sum := "fddd6985ff0092abde66cd5d392d6439506d5eb8574f0841d60efb7834ac755b", func := "loop.example/g03309/laws.FnCombs", spec := "fnCombs", unfollowed := true, recurses := true, apart := false }
def FnCombsSaid : Prop := fnCombsRow.holds Try.pinned (OpenSpec.ofChange fnCombsSpec)

/-- ITS FALSE NEIGHBOUR: 'it returns false'. Refute it at one input. -/
def fnCombsWrong : ChangeSpec := { name := "fnCombs", fn := fun _ => fun
  | [d] => { results := [.lit (.bool false)], args := [d] }
  | _ => none }
def FnCombsWrongFalsely : Prop := fnCombsRow.holds Try.pinned (OpenSpec.ofChange fnCombsWrong)

/-- 'laws.FnSeams': WHATEVER THE INPUT: true; the input reads as it did. -/
def fnSeamsSpec : ChangeSpec := { name := "fnSeams", fn := fun _ => fun
  | [d] => { results := [.lit (.bool true)], args := [d] }
  | _ => none }
def fnSeamsRow : OpenClaim := { program := "ytakllloangpimaa", sum := "fddd6985ff0092abde66cd5d392d6439506d5eb8574f0841d60efb7834ac755b", func := "loop.example/g03309/laws.FnSeams", spec := "fnSeams", apart := false }
def FnSeamsSaid : Prop := fnSeamsRow.holds Try.pinned (OpenSpec.ofChange fnSeamsSpec)

/-- ITS FALSE NEIGHBOUR: 'it returns false'. Refute it at one input. -/
def fnSeamsWrong : ChangeSpec := { name := "fnSeams", fn := fun _ => fun
  | [d] => { results := [.lit (.bool false)], args := [d] }
  | _ => none }
def FnSeamsWrongFalsely : Prop := fnSeamsRow.holds Try.pinned (OpenSpec.ofChange fnSeamsWrong)

/- THE SECOND FORM. 'bulk': how many values and letters a reading holds, each counted each time it is reached (what is shared counts as often as it is met; a slice's spare places count too). A statement '..UptoSaid' is the law's where the arguments, and the package variables that the reading takes, are together of bulk at most 1048576: NARROWER than '..Said'. Prove '..Said' where nothing that the law and all that it calls make is longer than what came in: it says more and counts as full. Else prove '..UptoSaid'. A law counts once. -/
mutual
def uptoBulk {H : Type} : DataW H → Nat
  | .lit (.string bytes) => bytes.length + 1
  | .lit _ => 1
  | .nil => 1
  | .ptr d => uptoBulk d + 1
  | .slice elems spare => uptoBulkAll elems + uptoBulkAll spare + 1
  | .agg parts => uptoBulkAll parts + 1
  | .iface _ d => uptoBulk d + 1
  | .map entries => uptoBulkEntries entries + 1
  | .held _ => 1
def uptoBulkAll {H : Type} : List (DataW H) → Nat
  | [] => 0
  | d :: r => uptoBulk d + uptoBulkAll r
def uptoBulkEntries {H : Type} : List (Lit × DataW H) → Nat
  | [] => 0
  | x :: r => uptoBulkEntry x + uptoBulkEntries r
def uptoBulkEntry {H : Type} : Lit × DataW H → Nat
  | (.string bytes, d) => bytes.length + uptoBulk d + 1
  | (_, d) => uptoBulk d + 1
 end
def uptoSmall : (H : Type) → List (DataW H) → Bool := fun _ ds => decide (uptoBulkAll ds ≤ 1048576)
def OpenSpec.upto (s : _root_.Go.ChangeSpec) : _root_.Go.OpenSpec := { _root_.Go.OpenSpec.ofChange s with cond := some uptoSmall }

/-- 'laws.FnPins', WHERE WHAT IT READS IS OF BULK AT MOST 1048576: true; the input reads as it did. -/
def fnPinsUptoRow : OpenClaim := { program := "ytakllloangpimaa", sum := "fddd6985ff0092abde66cd5d392d6439506d5eb8574f0841d60efb7834ac755b", func := "loop.example/g03309/laws.FnPins", spec := "fnPins", unfollowed := true, recurses := true, apart := false, narrowed := true }
def FnPinsUptoSaid : Prop := fnPinsUptoRow.holds Try.pinned (OpenSpec.upto fnPinsSpec)

/-- 'laws.FnTeeth', WHERE WHAT IT READS IS OF BULK AT MOST 1048576: true; the input reads as it did. -/
def fnTeethUptoRow : OpenClaim := { program := "ytakllloangpimaa", sum := "fddd6985ff0092abde66cd5d392d6439506d5eb8574f0841d60efb7834ac755b", func := "loop.example/g03309/laws.FnTeeth", spec := "fnTeeth", apart := false, narrowed := true }
def FnTeethUptoSaid : Prop := fnTeethUptoRow.holds Try.pinned (OpenSpec.upto fnTeethSpec)

/-- 'laws.FnTunes', WHERE WHAT IT READS IS OF BULK AT MOST 1048576: true; the input reads as it did. -/
def fnTunesUptoRow : OpenClaim := { program := "ytakllloangpimaa", sum := "fddd6985ff0092abde66cd5d392d6439506d5eb8574f0841d60efb7834ac755b", func := "loop.example/g03309/laws.FnTunes", spec := "fnTunes", unfollowed := true, recurses := true, apart := false, narrowed := true }
def FnTunesUptoSaid : Prop := fnTunesUptoRow.holds Try.pinned (OpenSpec.upto fnTunesSpec)

/-- 'laws.FnCombs', WHERE WHAT IT READS IS OF BULK AT MOST 1048576: true; the input reads as it did. -/
def fnCombsUptoRow : OpenClaim := { program := "ytakllloangpimaa", sum := "fddd6985ff0092abde66cd5d392d6439506d5eb8574f0841d60efb7834ac755b", func := "loop.example/g03309/laws.FnCombs", spec := "fnCombs", unfollowed := true, recurses := true, apart := false, narrowed := true }
def FnCombsUptoSaid : Prop := fnCombsUptoRow.holds Try.pinned (OpenSpec.upto fnCombsSpec)

/-- 'laws.FnSeams', WHERE WHAT IT READS IS OF BULK AT MOST 1048576: true; the input reads as it did. -/
def fnSeamsUptoRow : OpenClaim := { program := "ytakllloangpimaa", sum := "fddd6985ff0092abde66cd5d392d6439506d5eb8574f0841d60efb7834ac755b", func := "loop.example/g03309/laws.FnSeams", spec := "fnSeams", apart := false, narrowed := true }
def FnSeamsUptoSaid : Prop := fnSeamsUptoRow.holds Try.pinned (OpenSpec.upto fnSeamsSpec)

end Rows
end Go.Proofs.Ytakllloangpimaa
