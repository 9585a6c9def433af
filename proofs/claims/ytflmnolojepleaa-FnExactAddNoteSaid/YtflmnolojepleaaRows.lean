/-
  No cell of these rows narrows 'for every input' (looked for: loops, veiled, ifaces, maps, wideKeys, modest, calm, conditions, laid).
  DERIVED. THE GIVEN ROWS OF THIS SEAT. 12 by the template 'for every input the law returns true; each argument reads behind the call as it read before'; 0 by the template 'total and deterministic' (their statements: YtflmnolojepleaaTotals.lean).
  GIVEN WITH THE SEED: the statements are not yours to turn. If you find one false, say at which input.
  Laid BY PROGRAM, IN A SANDBOX (cutbox-rows.mjs): the forced cells as the released guide's own fill.sh prints them over the translation 590e164cbccb3314… (all of the seat's roots in one cut). By AI agents, Wed Nov 11 2026. No macro, syntax, notation, axiom, sorry.
-/
import Derived.Test.YtflmnolojepleaaChecked
import GoSem.Claim
import GoSem.ClaimJoined
import GoSem.ClaimMapViews
import Derived.JoinedTies
import Derived.KernelRfl
namespace Go.Proofs.Ytflmnolojepleaa
/- THE CELL 'sum', in the pinned program and in every row, IS THE sha256 OF THE DUMP (.gsa) THAT YtflmnolojepleaaProg.lean LOADS. Nothing in Lean hashes anything: it is a label: what it is worth is what the hold of that sum in a sandbox is worth. -/
noncomputable def Try.pinned : Pinned := { name := "ytflmnolojepleaa", sum := "590e164cbccb3314d45b86b44a162a3652d42b389e220897f8b02221f7986d0c", checked := Try.checked }
namespace Rows
def none {H : Type} : Left H := { results := [], args := [] }

/-- 'laws.FnExactSortNotes': WHATEVER THE INPUT: true; the input reads as it did. -/
def fnExactSortNotesSpec : ChangeSpec := { name := "fnExactSortNotes", fn := fun _ => fun
  | [d] => { results := [.lit (.bool true)], args := [d] }
  | _ => none }
def fnExactSortNotesRow : OpenClaim := { program := "ytflmnolojepleaa", sum := "590e164cbccb3314d45b86b44a162a3652d42b389e220897f8b02221f7986d0c", func := "loop.example/g03309/laws.FnExactSortNotes", spec := "fnExactSortNotes", unfollowed := true, recurses := true, apart := false }
def FnExactSortNotesSaid : Prop := fnExactSortNotesRow.holds Try.pinned (OpenSpec.ofChange fnExactSortNotesSpec)

/-- ITS FALSE NEIGHBOUR: 'it returns false'. Refute it at one input. -/
def fnExactSortNotesWrong : ChangeSpec := { name := "fnExactSortNotes", fn := fun _ => fun
  | [d] => { results := [.lit (.bool false)], args := [d] }
  | _ => none }
def FnExactSortNotesWrongFalsely : Prop := fnExactSortNotesRow.holds Try.pinned (OpenSpec.ofChange fnExactSortNotesWrong)

/-- 'laws.FnExactHigher': WHATEVER THE INPUT: true; the input reads as it did. -/
def fnExactHigherSpec : ChangeSpec := { name := "fnExactHigher", fn := fun _ => fun
  | [d1, d2] => { results := [.lit (.bool true)], args := [d1, d2] }
  | _ => none }
def fnExactHigherRow : OpenClaim := { program := "ytflmnolojepleaa", sum := "590e164cbccb3314d45b86b44a162a3652d42b389e220897f8b02221f7986d0c", func := "loop.example/g03309/laws.FnExactHigher", spec := "fnExactHigher", unfollowed := true, recurses := true, apart := false }
def FnExactHigherSaid : Prop := fnExactHigherRow.holds Try.pinned (OpenSpec.ofChange fnExactHigherSpec)

/-- ITS FALSE NEIGHBOUR: 'it returns false'. Refute it at one input. -/
def fnExactHigherWrong : ChangeSpec := { name := "fnExactHigher", fn := fun _ => fun
  | [d1, d2] => { results := [.lit (.bool false)], args := [d1, d2] }
  | _ => none }
def FnExactHigherWrongFalsely : Prop := fnExactHigherRow.holds Try.pinned (OpenSpec.ofChange fnExactHigherWrong)

/-- 'laws.FnExactLater': WHATEVER THE INPUT: true; the input reads as it did. -/
def fnExactLaterSpec : ChangeSpec := { name := "fnExactLater", fn := fun _ => fun
  | [d1, d2] => { results := [.lit (.bool true)], args := [d1, d2] }
  | _ => none }
def fnExactLaterRow : OpenClaim := { program := "ytflmnolojepleaa", sum := "590e164cbccb3314d45b86b44a162a3652d42b389e220897f8b02221f7986d0c", func := "loop.example/g03309/laws.FnExactLater", spec := "fnExactLater", unfollowed := true, recurses := true, apart := false }
def FnExactLaterSaid : Prop := fnExactLaterRow.holds Try.pinned (OpenSpec.ofChange fnExactLaterSpec)

/-- ITS FALSE NEIGHBOUR: 'it returns false'. Refute it at one input. -/
def fnExactLaterWrong : ChangeSpec := { name := "fnExactLater", fn := fun _ => fun
  | [d1, d2] => { results := [.lit (.bool false)], args := [d1, d2] }
  | _ => none }
def FnExactLaterWrongFalsely : Prop := fnExactLaterRow.holds Try.pinned (OpenSpec.ofChange fnExactLaterWrong)

/-- 'laws.FnExactSlower': WHATEVER THE INPUT: true; the input reads as it did. -/
def fnExactSlowerSpec : ChangeSpec := { name := "fnExactSlower", fn := fun _ => fun
  | [d1, d2] => { results := [.lit (.bool true)], args := [d1, d2] }
  | _ => none }
def fnExactSlowerRow : OpenClaim := { program := "ytflmnolojepleaa", sum := "590e164cbccb3314d45b86b44a162a3652d42b389e220897f8b02221f7986d0c", func := "loop.example/g03309/laws.FnExactSlower", spec := "fnExactSlower", unfollowed := true, recurses := true, apart := false }
def FnExactSlowerSaid : Prop := fnExactSlowerRow.holds Try.pinned (OpenSpec.ofChange fnExactSlowerSpec)

/-- ITS FALSE NEIGHBOUR: 'it returns false'. Refute it at one input. -/
def fnExactSlowerWrong : ChangeSpec := { name := "fnExactSlower", fn := fun _ => fun
  | [d1, d2] => { results := [.lit (.bool false)], args := [d1, d2] }
  | _ => none }
def FnExactSlowerWrongFalsely : Prop := fnExactSlowerRow.holds Try.pinned (OpenSpec.ofChange fnExactSlowerWrong)

/-- 'laws.FnExactBackward': WHATEVER THE INPUT: true; the input reads as it did. -/
def fnExactBackwardSpec : ChangeSpec := { name := "fnExactBackward", fn := fun _ => fun
  | [d] => { results := [.lit (.bool true)], args := [d] }
  | _ => none }
def fnExactBackwardRow : OpenClaim := { program := "ytflmnolojepleaa", sum := "590e164cbccb3314d45b86b44a162a3652d42b389e220897f8b02221f7986d0c", func := "loop.example/g03309/laws.FnExactBackward", spec := "fnExactBackward", unfollowed := true, recurses := true, apart := false }
def FnExactBackwardSaid : Prop := fnExactBackwardRow.holds Try.pinned (OpenSpec.ofChange fnExactBackwardSpec)

/-- ITS FALSE NEIGHBOUR: 'it returns false'. Refute it at one input. -/
def fnExactBackwardWrong : ChangeSpec := { name := "fnExactBackward", fn := fun _ => fun
  | [d] => { results := [.lit (.bool false)], args := [d] }
  | _ => none }
def FnExactBackwardWrongFalsely : Prop := fnExactBackwardRow.holds Try.pinned (OpenSpec.ofChange fnExactBackwardWrong)

/-- 'laws.FnExactAddNote': WHATEVER THE INPUT: true; the input reads as it did. -/
def fnExactAddNoteSpec : ChangeSpec := { name := "fnExactAddNote", fn := fun _ => fun
  | [d1, d2] => { results := [.lit (.bool true)], args := [d1, d2] }
  | _ => none }
def fnExactAddNoteRow : OpenClaim := { program := "ytflmnolojepleaa", sum := "590e164cbccb3314d45b86b44a162a3652d42b389e220897f8b02221f7986d0c", func := "loop.example/g03309/laws.FnExactAddNote", spec := "fnExactAddNote", unfollowed := true, recurses := true, apart := false }
def FnExactAddNoteSaid : Prop := fnExactAddNoteRow.holds Try.pinned (OpenSpec.ofChange fnExactAddNoteSpec)

/-- ITS FALSE NEIGHBOUR: 'it returns false'. Refute it at one input. -/
def fnExactAddNoteWrong : ChangeSpec := { name := "fnExactAddNote", fn := fun _ => fun
  | [d1, d2] => { results := [.lit (.bool false)], args := [d1, d2] }
  | _ => none }
def FnExactAddNoteWrongFalsely : Prop := fnExactAddNoteRow.holds Try.pinned (OpenSpec.ofChange fnExactAddNoteWrong)

/-- 'laws.FnExactJoinTunes': WHATEVER THE INPUT: true; the input reads as it did. -/
def fnExactJoinTunesSpec : ChangeSpec := { name := "fnExactJoinTunes", fn := fun _ => fun
  | [d1, d2] => { results := [.lit (.bool true)], args := [d1, d2] }
  | _ => none }
def fnExactJoinTunesRow : OpenClaim := { program := "ytflmnolojepleaa", sum := "590e164cbccb3314d45b86b44a162a3652d42b389e220897f8b02221f7986d0c", func := "loop.example/g03309/laws.FnExactJoinTunes", spec := "fnExactJoinTunes", unfollowed := true, recurses := true, apart := false }
def FnExactJoinTunesSaid : Prop := fnExactJoinTunesRow.holds Try.pinned (OpenSpec.ofChange fnExactJoinTunesSpec)

/-- ITS FALSE NEIGHBOUR: 'it returns false'. Refute it at one input. -/
def fnExactJoinTunesWrong : ChangeSpec := { name := "fnExactJoinTunes", fn := fun _ => fun
  | [d1, d2] => { results := [.lit (.bool false)], args := [d1, d2] }
  | _ => none }
def FnExactJoinTunesWrongFalsely : Prop := fnExactJoinTunesRow.holds Try.pinned (OpenSpec.ofChange fnExactJoinTunesWrong)

/-- 'laws.FnTunes': WHATEVER THE INPUT: true; the input reads as it did. -/
def fnTunesSpec : ChangeSpec := { name := "fnTunes", fn := fun _ => fun
  | [d] => { results := [.lit (.bool true)], args := [d] }
  | _ => none }
def fnTunesRow : OpenClaim := { program := "ytflmnolojepleaa", sum := "590e164cbccb3314d45b86b44a162a3652d42b389e220897f8b02221f7986d0c", func := "loop.example/g03309/laws.FnTunes", spec := "fnTunes", unfollowed := true, recurses := true, apart := false }
def FnTunesSaid : Prop := fnTunesRow.holds Try.pinned (OpenSpec.ofChange fnTunesSpec)

/-- ITS FALSE NEIGHBOUR: 'it returns false'. Refute it at one input. -/
def fnTunesWrong : ChangeSpec := { name := "fnTunes", fn := fun _ => fun
  | [d] => { results := [.lit (.bool false)], args := [d] }
  | _ => none }
def FnTunesWrongFalsely : Prop := fnTunesRow.holds Try.pinned (OpenSpec.ofChange fnTunesWrong)

/-- 'laws.FnChanges': WHATEVER THE INPUT: true; the input reads as it did. -/
def fnChangesSpec : ChangeSpec := { name := "fnChanges", fn := fun _ => fun
  | [d] => { results := [.lit (.bool true)], args := [d] }
  | _ => none }
def fnChangesRow : OpenClaim := { program := "ytflmnolojepleaa", sum := "590e164cbccb3314d45b86b44a162a3652d42b389e220897f8b02221f7986d0c", func := "loop.example/g03309/laws.FnChanges", spec := "fnChanges", unfollowed := true, recurses := true, apart := false }
def FnChangesSaid : Prop := fnChangesRow.holds Try.pinned (OpenSpec.ofChange fnChangesSpec)

/-- ITS FALSE NEIGHBOUR: 'it returns false'. Refute it at one input. -/
def fnChangesWrong : ChangeSpec := { name := "fnChanges", fn := fun _ => fun
  | [d] => { results := [.lit (.bool false)], args := [d] }
  | _ => none }
def FnChangesWrongFalsely : Prop := fnChangesRow.holds Try.pinned (OpenSpec.ofChange fnChangesWrong)

/-- 'laws.FnExactUpsideDown': WHATEVER THE INPUT: true; the input reads as it did. -/
def fnExactUpsideDownSpec : ChangeSpec := { name := "fnExactUpsideDown", fn := fun _ => fun
  | [d] => { results := [.lit (.bool true)], args := [d] }
  | _ => none }
def fnExactUpsideDownRow : OpenClaim := { program := "ytflmnolojepleaa", sum := "590e164cbccb3314d45b86b44a162a3652d42b389e220897f8b02221f7986d0c", func := "loop.example/g03309/laws.FnExactUpsideDown", spec := "fnExactUpsideDown", unfollowed := true, recurses := true, apart := false }
def FnExactUpsideDownSaid : Prop := fnExactUpsideDownRow.holds Try.pinned (OpenSpec.ofChange fnExactUpsideDownSpec)

/-- ITS FALSE NEIGHBOUR: 'it returns false'. Refute it at one input. -/
def fnExactUpsideDownWrong : ChangeSpec := { name := "fnExactUpsideDown", fn := fun _ => fun
  | [d] => { results := [.lit (.bool false)], args := [d] }
  | _ => none }
def FnExactUpsideDownWrongFalsely : Prop := fnExactUpsideDownRow.holds Try.pinned (OpenSpec.ofChange fnExactUpsideDownWrong)

/-- 'laws.FnExactBestMove': WHATEVER THE INPUT: true; the input reads as it did. -/
def fnExactBestMoveSpec : ChangeSpec := { name := "fnExactBestMove", fn := fun _ => fun
  | [d1, d2] => { results := [.lit (.bool true)], args := [d1, d2] }
  | _ => none }
def fnExactBestMoveRow : OpenClaim := { program := "ytflmnolojepleaa", sum := "590e164cbccb3314d45b86b44a162a3652d42b389e220897f8b02221f7986d0c", func := "loop.example/g03309/laws.FnExactBestMove", spec := "fnExactBestMove", unfollowed := true, recurses := true, apart := false }
def FnExactBestMoveSaid : Prop := fnExactBestMoveRow.holds Try.pinned (OpenSpec.ofChange fnExactBestMoveSpec)

/-- ITS FALSE NEIGHBOUR: 'it returns false'. Refute it at one input. -/
def fnExactBestMoveWrong : ChangeSpec := { name := "fnExactBestMove", fn := fun _ => fun
  | [d1, d2] => { results := [.lit (.bool false)], args := [d1, d2] }
  | _ => none }
def FnExactBestMoveWrongFalsely : Prop := fnExactBestMoveRow.holds Try.pinned (OpenSpec.ofChange fnExactBestMoveWrong)

/-- 'laws.FnCombs': WHATEVER THE INPUT: true; the input reads as it did. -/
def fnCombsSpec : ChangeSpec := { name := "fnCombs", fn := fun _ => fun
  | [d] => { results := [.lit (.bool true)], args := [d] }
  | _ => none }
def fnCombsRow : OpenClaim := { program := "ytflmnolojepleaa", sum := "590e164cbccb3314d45b86b44a162a3652d42b389e220897f8b02221f7986d0c", func := "loop.example/g03309/laws.FnCombs", spec := "fnCombs", unfollowed := true, recurses := true, apart := false }
def FnCombsSaid : Prop := fnCombsRow.holds Try.pinned (OpenSpec.ofChange fnCombsSpec)

/-- ITS FALSE NEIGHBOUR: 'it returns false'. Refute it at one input. -/
def fnCombsWrong : ChangeSpec := { name := "fnCombs", fn := fun _ => fun
  | [d] => { results := [.lit (.bool false)], args := [d] }
  | _ => none }
def FnCombsWrongFalsely : Prop := fnCombsRow.holds Try.pinned (OpenSpec.ofChange fnCombsWrong)

/- THE SECOND FORM. 'bulk': how many values and letters a reading holds, each counted each time it is reached (what is shared counts as often as it is met; a slice's spare places count too). A statement '..UptoSaid' is the law's where the arguments, and the package variables that the reading takes, are together of bulk at most 1048576: NARROWER than '..Said'. Prove '..Said' where nothing that the law and all that it calls make is longer than what came in: it says more and counts as full. Else prove '..UptoSaid'. A law counts once. -/
mutual
def uptoBulk {H : Type} : DataW H → Nat
  | .lit (.string bytes) => bytes.length + 1
  | .lit _ => 1
  | .nil => 1
  | .ptr d => uptoBulk d + 1
  | .slice elems spare => uptoBulkAll elems + uptoBulkAll spare + 1
  | .agg parts => uptoBulkAll parts + 1
  | .iface _ d => uptoBulk d + 1
  | .map entries => uptoBulkEntries entries + 1
  | .held _ => 1
def uptoBulkAll {H : Type} : List (DataW H) → Nat
  | [] => 0
  | d :: r => uptoBulk d + uptoBulkAll r
def uptoBulkEntries {H : Type} : List (Lit × DataW H) → Nat
  | [] => 0
  | x :: r => uptoBulkEntry x + uptoBulkEntries r
def uptoBulkEntry {H : Type} : Lit × DataW H → Nat
  | (.string bytes, d) => bytes.length + uptoBulk d + 1
  | (_, d) => uptoBulk d + 1
 end
def uptoSmall : (H : Type) → List (DataW H) → Bool := fun _ ds => decide (uptoBulkAll ds ≤ 1048576)
def OpenSpec.upto (s : _root_.Go.ChangeSpec) : _root_.Go.OpenSpec := { _root_.Go.OpenSpec.ofChange s with cond := some uptoSmall }

/-- 'laws.FnExactSortNotes', WHERE WHAT IT READS IS OF BULK AT MOST 1048576: true; the input reads as it did. -/
def fnExactSortNotesUptoRow : OpenClaim := { program := "ytflmnolojepleaa", sum := "590e164cbccb3314d45b86b44a162a3652d42b389e220897f8b02221f7986d0c", func := "loop.example/g03309/laws.FnExactSortNotes", spec := "fnExactSortNotes", unfollowed := true, recurses := true, apart := false, narrowed := true }
def FnExactSortNotesUptoSaid : Prop := fnExactSortNotesUptoRow.holds Try.pinned (OpenSpec.upto fnExactSortNotesSpec)

/-- 'laws.FnExactHigher', WHERE WHAT IT READS IS OF BULK AT MOST 1048576: true; the input reads as it did. -/
def fnExactHigherUptoRow : OpenClaim := { program := "ytflmnolojepleaa", sum := "590e164cbccb3314d45b86b44a162a3652d42b389e220897f8b02221f7986d0c", func := "loop.example/g03309/laws.FnExactHigher", spec := "fnExactHigher", unfollowed := true, recurses := true, apart := false, narrowed := true }
def FnExactHigherUptoSaid : Prop := fnExactHigherUptoRow.holds Try.pinned (OpenSpec.upto fnExactHigherSpec)

/-- 'laws.FnExactLater', WHERE WHAT IT READS IS OF BULK AT MOST 1048576: true; the input reads as it did. -/
def fnExactLaterUptoRow : OpenClaim := { program := "ytflmnolojepleaa", sum := "590e164cbccb3314d45b86b44a162a3652d42b389e220897f8b02221f7986d0c", func := "loop.example/g03309/laws.FnExactLater", spec := "fnExactLater", unfollowed := true, recurses := true, apart := false, narrowed := true }
def FnExactLaterUptoSaid : Prop := fnExactLaterUptoRow.holds Try.pinned (OpenSpec.upto fnExactLaterSpec)

/-- 'laws.FnExactSlower', WHERE WHAT IT READS IS OF BULK AT MOST 1048576: true; the input reads as it did. -/
def fnExactSlowerUptoRow : OpenClaim := { program := "ytflmnolojepleaa", sum := "590e164cbccb3314d45b86b44a162a3652d42b389e220897f8b02221f7986d0c", func := "loop.example/g03309/laws.FnExactSlower", spec := "fnExactSlower", unfollowed := true, recurses := true, apart := false, narrowed := true }
def FnExactSlowerUptoSaid : Prop := fnExactSlowerUptoRow.holds Try.pinned (OpenSpec.upto fnExactSlowerSpec)

/-- 'laws.FnExactBackward', WHERE WHAT IT READS IS OF BULK AT MOST 1048576: true; the input reads as it did. -/
def fnExactBackwardUptoRow : OpenClaim := { program := "ytflmnolojepleaa", sum := "590e164cbccb3314d45b86b44a162a3652d42b389e220897f8b02221f7986d0c", func := "loop.example/g03309/laws.FnExactBackward", spec := "fnExactBackward", unfollowed := true, recurses := true, apart := false, narrowed := true }
def FnExactBackwardUptoSaid : Prop := fnExactBackwardUptoRow.holds Try.pinned (OpenSpec.upto fnExactBackwardSpec)

/-- 'laws.FnExactAddNote', WHERE WHAT IT READS IS OF BULK AT MOST 1048576: true; the input reads as it did. -/
def fnExactAddNoteUptoRow : OpenClaim := { program := "ytflmnolojepleaa", sum := "590e164cbccb3314d45b86b44a162a3652d42b389e220897f8b02221f7986d0c", func := "loop.example/g03309/laws.FnExactAddNote", spec := "fnExactAddNote", unfollowed := true, recurses := true, apart := false, narrowed := true }
def FnExactAddNoteUptoSaid : Prop := fnExactAddNoteUptoRow.holds Try.pinned (OpenSpec.upto fnExactAddNoteSpec)

/-- 'laws.FnExactJoinTunes', WHERE WHAT IT READS IS OF BULK AT MOST 1048576: true; the input reads as it did. -/
def fnExactJoinTunesUptoRow : OpenClaim := { program := "ytflmnolojepleaa", sum := "590e164cbccb3314d45b86b44a162a3652d42b389e220897f8b02221f7986d0c", func := "loop.example/g03309/laws.FnExactJoinTunes", spec := "fnExactJoinTunes", unfollowed := true, recurses := true, apart := false, narrowed := true }
def FnExactJoinTunesUptoSaid : Prop := fnExactJoinTunesUptoRow.holds Try.pinned (OpenSpec.upto fnExactJoinTunesSpec)

/-- 'laws.FnTunes', WHERE WHAT IT READS IS OF BULK AT MOST 1048576: true; the input reads as it did. -/
def fnTunesUptoRow : OpenClaim := { program := "ytflmnolojepleaa", sum := "590e164cbccb3314d45b86b44a162a3652d42b389e220897f8b02221f7986d0c", func := "loop.example/g03309/laws.FnTunes", spec := "fnTunes", unfollowed := true, recurses := true, apart := false, narrowed := true }
def FnTunesUptoSaid : Prop := fnTunesUptoRow.holds Try.pinned (OpenSpec.upto fnTunesSpec)

/-- 'laws.FnChanges', WHERE WHAT IT READS IS OF BULK AT MOST 1048576: true; the input reads as it did. -/
def fnChangesUptoRow : OpenClaim := { program := "ytflmnolojepleaa", sum := "590e164cbccb3314d45b86b44a162a3652d42b389e220897f8b02221f7986d0c", func := "loop.example/g03309/laws.FnChanges", spec := "fnChanges", unfollowed := true, recurses := true, apart := false, narrowed := true }
def FnChangesUptoSaid : Prop := fnChangesUptoRow.holds Try.pinned (OpenSpec.upto fnChangesSpec)

/-- 'laws.FnExactUpsideDown', WHERE WHAT IT READS IS OF BULK AT MOST 1048576: true; the input reads as it did. -/
def fnExactUpsideDownUptoRow : OpenClaim := { program := "ytflmnolojepleaa", sum := "590e164cbccb3314d45b86b44a162a3652d42b389e220897f8b02221f7986d0c", func := "loop.example/g03309/laws.FnExactUpsideDown", spec := "fnExactUpsideDown", unfollowed := true, recurses := true, apart := false, narrowed := true }
def FnExactUpsideDownUptoSaid : Prop := fnExactUpsideDownUptoRow.holds Try.pinned (OpenSpec.upto fnExactUpsideDownSpec)

/-- 'laws.FnExactBestMove', WHERE WHAT IT READS IS OF BULK AT MOST 1048576: true; the input reads as it did. -/
def fnExactBestMoveUptoRow : OpenClaim := { program := "ytflmnolojepleaa", sum := "590e164cbccb3314d45b86b44a162a3652d42b389e220897f8b02221f7986d0c", func := "loop.example/g03309/laws.FnExactBestMove", spec := "fnExactBestMove", unfollowed := true, recurses := true, apart := false, narrowed := true }
def FnExactBestMoveUptoSaid : Prop := fnExactBestMoveUptoRow.holds Try.pinned (OpenSpec.upto fnExactBestMoveSpec)

/-- 'laws.FnCombs', WHERE WHAT IT READS IS OF BULK AT MOST 1048576: true; the input reads as it did. -/
def fnCombsUptoRow : OpenClaim := { program := "ytflmnolojepleaa", sum := "590e164cbccb3314d45b86b44a162a3652d42b389e220897f8b02221f7986d0c", func := "loop.example/g03309/laws.FnCombs", spec := "fnCombs", unfollowed := true, recurses := true, apart := false, narrowed := true }
def FnCombsUptoSaid : Prop := fnCombsUptoRow.holds Try.pinned (OpenSpec.upto fnCombsSpec)

end Rows
end Go.Proofs.Ytflmnolojepleaa
