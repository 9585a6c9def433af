/-
  No cell of these rows narrows 'for every input' (looked for: loops, veiled, ifaces, maps, wideKeys, modest, calm, conditions, laid).
  DERIVED. THE GIVEN ROWS OF THIS SEAT. 12 by the template 'for every input the law returns true; each argument reads behind the call as it read before'; 0 by the template 'total and deterministic' (their statements: YtkipgjllgmjipaaTotals.lean).
  GIVEN WITH THE SEED: the statements are not yours to turn. If you find one false, say at which input.
  Laid BY PROGRAM, IN A SANDBOX (cutbox-rows.mjs): the forced cells as the released guide's own fill.sh prints them over the translation 50f5a847fc917480… (all of the seat's roots in one cut). By AI agents, Wed Nov 11 2026. No macro, syntax, notation, axiom, sorry.
-/
import Derived.Test.YtkipgjllgmjipaaChecked
import GoSem.Claim
import GoSem.ClaimJoined
import GoSem.ClaimMapViews
import Derived.JoinedTies
import Derived.KernelRfl
namespace Go.Proofs.Ytkipgjllgmjipaa
/- THE CELL 'sum', in the pinned program and in every row, IS THE sha256 OF THE DUMP (.gsa) THAT YtkipgjllgmjipaaProg.lean LOADS. Nothing in Lean hashes anything: it is a label: what it is worth is what the hold of that sum in a sandbox is worth. -/
noncomputable def Try.pinned : Pinned := { name := "ytkipgjllgmjipaa", sum := "50f5a847fc917480803da2eac93c2c03fd81ae1195d0f01347e9fd00351c97ac", checked := Try.checked }
namespace Rows
def none {H : Type} : Left H := { results := [], args := [] }

/-- 'laws.FnExactSortNotes': WHATEVER THE INPUT: true; the input reads as it did. -/
def fnExactSortNotesSpec : ChangeSpec := { name := "fnExactSortNotes", fn := fun _ => fun
  | [d] => { results := [.lit (.bool true)], args := [d] }
  | _ => none }
def fnExactSortNotesRow : OpenClaim := { program := "ytkipgjllgmjipaa", sum := "50f5a847fc917480803da2eac93c2c03fd81ae1195d0f01347e9fd00351c97ac", func := "loop.example/g03309/laws.FnExactSortNotes", spec := "fnExactSortNotes", unfollowed := true, recurses := true, apart := false }
def FnExactSortNotesSaid : Prop := fnExactSortNotesRow.holds Try.pinned (OpenSpec.ofChange fnExactSortNotesSpec)

/-- ITS FALSE NEIGHBOUR: 'it returns false'. Refute it at one input. -/
def fnExactSortNotesWrong : ChangeSpec := { name := "fnExactSortNotes", fn := fun _ => fun
  | [d] => { results := [.lit (.bool false)], args := [d] }
  | _ => none }
def FnExactSortNotesWrongFalsely : Prop := fnExactSortNotesRow.holds Try.pinned (OpenSpec.ofChange fnExactSortNotesWrong)

/-- 'laws.FnExactHigher': WHATEVER THE INPUT: true; the input reads as it did. -/
def fnExactHigherSpec : ChangeSpec := { name := "fnExactHigher", fn := fun _ => fun
  | [d1, d2] => { results := [.lit (.bool true)], args := [d1, d2] }
  | _ => none }
def fnExactHigherRow : OpenClaim := { program := "ytkipgjllgmjipaa", sum := "50f5a847fc917480803da2eac93c2c03fd81ae1195d0f01347e9fd00351c97ac", func := "loop.example/g03309/laws.FnExactHigher", spec := "fnExactHigher", unfollowed := true, recurses := true, apart := false }
def FnExactHigherSaid : Prop := fnExactHigherRow.holds Try.pinned (OpenSpec.ofChange fnExactHigherSpec)

/-- ITS FALSE NEIGHBOUR: 'it returns false'. Refute it at one input. -/
def fnExactHigherWrong : ChangeSpec := { name := "fnExactHigher", fn := fun _ => fun
  | [d1, d2] => { results := [.lit (.bool false)], args := [d1, d2] }
  | _ => none }
def FnExactHigherWrongFalsely : Prop := fnExactHigherRow.holds Try.pinned (OpenSpec.ofChange fnExactHigherWrong)

/-- 'laws.FnExactLater': WHATEVER THE INPUT: true; the input reads as it did. -/
def fnExactLaterSpec : ChangeSpec := { name := "fnExactLater", fn := fun _ => fun
  | [d1, d2] => { results := [.lit (.bool true)], args := [d1, d2] }
  | _ => none }
def fnExactLaterRow : OpenClaim := { program := "ytkipgjllgmjipaa", sum := "50f5a847fc917480803da2eac93c2c03fd81ae1195d0f01347e9fd00351c97ac", func := "loop.example/g03309/laws.FnExactLater", spec := "fnExactLater", unfollowed := true, recurses := true, apart := false }
def FnExactLaterSaid : Prop := fnExactLaterRow.holds Try.pinned (OpenSpec.ofChange fnExactLaterSpec)

/-- ITS FALSE NEIGHBOUR: 'it returns false'. Refute it at one input. -/
def fnExactLaterWrong : ChangeSpec := { name := "fnExactLater", fn := fun _ => fun
  | [d1, d2] => { results := [.lit (.bool false)], args := [d1, d2] }
  | _ => none }
def FnExactLaterWrongFalsely : Prop := fnExactLaterRow.holds Try.pinned (OpenSpec.ofChange fnExactLaterWrong)

/-- 'laws.FnExactSlower': WHATEVER THE INPUT: true; the input reads as it did. -/
def fnExactSlowerSpec : ChangeSpec := { name := "fnExactSlower", fn := fun _ => fun
  | [d1, d2] => { results := [.lit (.bool true)], args := [d1, d2] }
  | _ => none }
def fnExactSlowerRow : OpenClaim := { program := "ytkipgjllgmjipaa", sum := "50f5a847fc917480803da2eac93c2c03fd81ae1195d0f01347e9fd00351c97ac", func := "loop.example/g03309/laws.FnExactSlower", spec := "fnExactSlower", unfollowed := true, recurses := true, apart := false }
def FnExactSlowerSaid : Prop := fnExactSlowerRow.holds Try.pinned (OpenSpec.ofChange fnExactSlowerSpec)

/-- ITS FALSE NEIGHBOUR: 'it returns false'. Refute it at one input. -/
def fnExactSlowerWrong : ChangeSpec := { name := "fnExactSlower", fn := fun _ => fun
  | [d1, d2] => { results := [.lit (.bool false)], args := [d1, d2] }
  | _ => none }
def FnExactSlowerWrongFalsely : Prop := fnExactSlowerRow.holds Try.pinned (OpenSpec.ofChange fnExactSlowerWrong)

/-- 'laws.FnExactBackward': WHATEVER THE INPUT: true; the input reads as it did. -/
def fnExactBackwardSpec : ChangeSpec := { name := "fnExactBackward", fn := fun _ => fun
  | [d] => { results := [.lit (.bool true)], args := [d] }
  | _ => none }
def fnExactBackwardRow : OpenClaim := { program := "ytkipgjllgmjipaa", sum := "50f5a847fc917480803da2eac93c2c03fd81ae1195d0f01347e9fd00351c97ac", func := "loop.example/g03309/laws.FnExactBackward", spec := "fnExactBackward", unfollowed := true, recurses := true, apart := false }
def FnExactBackwardSaid : Prop := fnExactBackwardRow.holds Try.pinned (OpenSpec.ofChange fnExactBackwardSpec)

/-- ITS FALSE NEIGHBOUR: 'it returns false'. Refute it at one input. -/
def fnExactBackwardWrong : ChangeSpec := { name := "fnExactBackward", fn := fun _ => fun
  | [d] => { results := [.lit (.bool false)], args := [d] }
  | _ => none }
def FnExactBackwardWrongFalsely : Prop := fnExactBackwardRow.holds Try.pinned (OpenSpec.ofChange fnExactBackwardWrong)

/-- 'laws.FnExactUpsideDown': WHATEVER THE INPUT: true; the input reads as it did. -/
def fnExactUpsideDownSpec : ChangeSpec := { name := "fnExactUpsideDown", fn := fun _ => fun
  | [d] => { results := [.lit (.bool true)], args := [d] }
  | _ => none }
def fnExactUpsideDownRow : OpenClaim := { program := "ytkipgjllgmjipaa", sum := "50f5a847fc917480803da2eac93c2c03fd81ae1195d0f01347e9fd00351c97ac", func := "loop.example/g03309/laws.FnExactUpsideDown", spec := "fnExactUpsideDown", unfollowed := true, recurses := true, apart := false }
def FnExactUpsideDownSaid : Prop := fnExactUpsideDownRow.holds Try.pinned (OpenSpec.ofChange fnExactUpsideDownSpec)

/-- ITS FALSE NEIGHBOUR: 'it returns false'. Refute it at one input. -/
def fnExactUpsideDownWrong : ChangeSpec := { name := "fnExactUpsideDown", fn := fun _ => fun
  | [d] => { results := [.lit (.bool false)], args := [d] }
  | _ => none }
def FnExactUpsideDownWrongFalsely : Prop := fnExactUpsideDownRow.holds Try.pinned (OpenSpec.ofChange fnExactUpsideDownWrong)

/-- 'laws.FnExactJoinTunes': WHATEVER THE INPUT: true; the input reads as it did. -/
def fnExactJoinTunesSpec : ChangeSpec := { name := "fnExactJoinTunes", fn := fun _ => fun
  | [d1, d2] => { results := [.lit (.bool true)], args := [d1, d2] }
  | _ => none }
def fnExactJoinTunesRow : OpenClaim := { program := "ytkipgjllgmjipaa", sum := "50f5a847fc917480803da2eac93c2c03fd81ae1195d0f01347e9fd00351c97ac", func := "loop.example/g03309/laws.FnExactJoinTunes", spec := "fnExactJoinTunes", unfollowed := true, recurses := true, apart := false }
def FnExactJoinTunesSaid : Prop := fnExactJoinTunesRow.holds Try.pinned (OpenSpec.ofChange fnExactJoinTunesSpec)

/-- ITS FALSE NEIGHBOUR: 'it returns false'. Refute it at one input. -/
def fnExactJoinTunesWrong : ChangeSpec := { name := "fnExactJoinTunes", fn := fun _ => fun
  | [d1, d2] => { results := [.lit (.bool false)], args := [d1, d2] }
  | _ => none }
def FnExactJoinTunesWrongFalsely : Prop := fnExactJoinTunesRow.holds Try.pinned (OpenSpec.ofChange fnExactJoinTunesWrong)

/-- 'laws.FnExactAddNote': WHATEVER THE INPUT: true; the input reads as it did. -/
def fnExactAddNoteSpec : ChangeSpec := { name := "fnExactAddNote", fn := fun _ => fun
  | [d1, d2] => { results := [.lit (.bool true)], args := [d1, d2] }
  | _ => none }
def fnExactAddNoteRow : OpenClaim := { program := "ytkipgjllgmjipaa", sum := "50f5a847fc917480803da2eac93c2c03fd81ae1195d0f01347e9fd00351c97ac", func := "loop.example/g03309/laws.FnExactAddNote", spec := "fnExactAddNote", unfollowed := true, recurses := true, apart := false }
def FnExactAddNoteSaid : Prop := fnExactAddNoteRow.holds Try.pinned (OpenSpec.ofChange fnExactAddNoteSpec)

/-- ITS FALSE NEIGHBOUR: 'it returns false'. Refute it at one input. -/
def fnExactAddNoteWrong : ChangeSpec := { name := "fnExactAddNote", fn := fun _ => fun
  | [d1, d2] => { results := [.lit (.bool false)], args := [d1, d2] }
  | _ => none }
def FnExactAddNoteWrongFalsely : Prop := fnExactAddNoteRow.holds Try.pinned (OpenSpec.ofChange fnExactAddNoteWrong)

/-- 'laws.FnExactBestMove': WHATEVER THE INPUT: true; the input reads as it did. -/
def fnExactBestMoveSpec : ChangeSpec := { name := "fnExactBestMove", fn := fun _ => fun
  | [d1, d2] => { results := [.lit (.bool true)], args := [d1, d2] }
  | _ => none }
def fnExactBestMoveRow : OpenClaim := { program := "ytkipgjllgmjipaa", sum := "50f5a847fc917480803da2eac93c2c03fd81ae1195d0f01347e9fd00351c97ac", func := "loop.example/g03309/laws.FnExactBestMove", spec := "fnExactBestMove", unfollowed := true, recurses := true, apart := false }
def FnExactBestMoveSaid : Prop := fnExactBestMoveRow.holds Try.pinned (OpenSpec.ofChange fnExactBestMoveSpec)

/-- ITS FALSE NEIGHBOUR: 'it returns false'. Refute it at one input. -/
def fnExactBestMoveWrong : ChangeSpec := { name := "fnExactBestMove", fn := fun _ => fun
  | [d1, d2] => { results := [.lit (.bool false)], args := [d1, d2] }
  | _ => none }
def FnExactBestMoveWrongFalsely : Prop := fnExactBestMoveRow.holds Try.pinned (OpenSpec.ofChange fnExactBestMoveWrong)

/-- 'laws.FnExactTurnBy': WHATEVER THE INPUT: true; the input reads as it did. -/
def fnExactTurnBySpec : ChangeSpec := { name := "fnExactTurnBy", fn := fun _ => fun
  | [d1, d2] => { results := [.lit (.bool true)], args := [d1, d2] }
  | _ => none }
def fnExactTurnByRow : OpenClaim := { program := "ytkipgjllgmjipaa", sum := "50f5a847fc917480803da2eac93c2c03fd81ae1195d0f01347e9fd00351c97ac", func := "loop.example/g03309/laws.FnExactTurnBy", spec := "fnExactTurnBy", unfollowed := true, recurses := true, apart := false }
def FnExactTurnBySaid : Prop := fnExactTurnByRow.holds Try.pinned (OpenSpec.ofChange fnExactTurnBySpec)

/-- ITS FALSE NEIGHBOUR: 'it returns false'. Refute it at one input. -/
def fnExactTurnByWrong : ChangeSpec := { name := "fnExactTurnBy", fn := fun _ => fun
  | [d1, d2] => { results := [.lit (.bool false)], args := [d1, d2] }
  | _ => none }
def FnExactTurnByWrongFalsely : Prop := fnExactTurnByRow.holds Try.pinned (OpenSpec.ofChange fnExactTurnByWrong)

/-- 'laws.FnExactAddPin': WHATEVER THE INPUT: true; the input reads as it did. -/
def fnExactAddPinSpec : ChangeSpec := { name := "fnExactAddPin", fn := fun _ => fun
  | [d1, d2] => { results := [.lit (.bool true)], args := [d1, d2] }
  | _ => none }
def fnExactAddPinRow : OpenClaim := { program := "ytkipgjllgmjipaa", sum := "50f5a847fc917480803da2eac93c2c03fd81ae1195d0f01347e9fd00351c97ac", func := "loop.example/g03309/laws.FnExactAddPin", spec := "fnExactAddPin", unfollowed := true, recurses := true, apart := false }
def FnExactAddPinSaid : Prop := fnExactAddPinRow.holds Try.pinned (OpenSpec.ofChange fnExactAddPinSpec)

/-- ITS FALSE NEIGHBOUR: 'it returns false'. Refute it at one input. -/
def fnExactAddPinWrong : ChangeSpec := { name := "fnExactAddPin", fn := fun _ => fun
  | [d1, d2] => { results := [.lit (.bool false)], args := [d1, d2] }
  | _ => none }
def FnExactAddPinWrongFalsely : Prop := fnExactAddPinRow.holds Try.pinned (OpenSpec.ofChange fnExactAddPinWrong)

/-- 'laws.FnExactCylinderOf': WHATEVER THE INPUT: true; the input reads as it did. -/
def fnExactCylinderOfSpec : ChangeSpec := { name := "fnExactCylinderOf", fn := fun _ => fun
  | [d1, d2, d3, d4] => { results := [.lit (.bool true)], args := [d1, d2, d3, d4] }
  | _ => none }
def fnExactCylinderOfRow : OpenClaim := { program := "ytkipgjllgmjipaa", sum := "50f5a847fc917480803da2eac93c2c03fd81ae1195d0f01347e9fd00351c97ac", func := "loop.example/g03309/laws.FnExactCylinderOf", spec := "fnExactCylinderOf", unfollowed := true, recurses := true, apart := false }
def FnExactCylinderOfSaid : Prop := fnExactCylinderOfRow.holds Try.pinned (OpenSpec.ofChange fnExactCylinderOfSpec)

/-- ITS FALSE NEIGHBOUR: 'it returns false'. Refute it at one input. -/
def fnExactCylinderOfWrong : ChangeSpec := { name := "fnExactCylinderOf", fn := fun _ => fun
  | [d1, d2, d3, d4] => { results := [.lit (.bool false)], args := [d1, d2, d3, d4] }
  | _ => none }
def FnExactCylinderOfWrongFalsely : Prop := fnExactCylinderOfRow.holds Try.pinned (OpenSpec.ofChange fnExactCylinderOfWrong)

/- THE SECOND FORM. 'bulk': how many values and letters a reading holds, each counted each time it is reached (what is shared counts as often as it is met; a slice's spare places count too). A statement '..UptoSaid' is the law's where the arguments, and the package variables that the reading takes, are together of bulk at most 1048576: NARROWER than '..Said'. Prove '..Said' where nothing that the law and all that it calls make is longer than what came in: it says more and counts as full. Else prove '..UptoSaid'. A law counts once. -/
mutual
def uptoBulk {H : Type} : DataW H → Nat
  | .lit (.string bytes) => bytes.length + 1
  | .lit _ => 1
  | .nil => 1
  | .ptr d => uptoBulk d + 1
  | .slice elems spare => uptoBulkAll elems + uptoBulkAll spare + 1
  | .agg parts => uptoBulkAll parts + 1
  | .iface _ d => uptoBulk d + 1
  | .map entries => uptoBulkEntries entries + 1
  | .held _ => 1
def uptoBulkAll {H : Type} : List (DataW H) → Nat
  | [] => 0
  | d :: r => uptoBulk d + uptoBulkAll r
def uptoBulkEntries {H : Type} : List (Lit × DataW H) → Nat
  | [] => 0
  | x :: r => uptoBulkEntry x + uptoBulkEntries r
def uptoBulkEntry {H : Type} : Lit × DataW H → Nat
  | (.string bytes, d) => bytes.length + uptoBulk d + 1
  | (_, d) => uptoBulk d + 1
 end
def uptoSmall : (H : Type) → List (DataW H) → Bool := fun _ ds => decide (uptoBulkAll ds ≤ 1048576)
def OpenSpec.upto (s : _root_.Go.ChangeSpec) : _root_.Go.OpenSpec := { _root_.Go.OpenSpec.ofChange s with cond := some uptoSmall }

/-- 'laws.FnExactSortNotes', WHERE WHAT IT READS IS OF BULK AT MOST 1048576: true; the input reads as it did. -/
def fnExactSortNotesUptoRow : OpenClaim := { program := "ytkipgjllgmjipaa", sum := "50f5a847fc917480803da2eac93c2c03fd81ae1195d0f01347e9fd00351c97ac", func := "loop.example/g03309/laws.FnExactSortNotes", spec := "fnExactSortNotes", unfollowed := true, recurses := true, apart := false, narrowed := true }
def FnExactSortNotesUptoSaid : Prop := fnExactSortNotesUptoRow.holds Try.pinned (OpenSpec.upto fnExactSortNotesSpec)

/-- 'laws.FnExactHigher', WHERE WHAT IT READS IS OF BULK AT MOST 1048576: true; the input reads as it did. -/
def fnExactHigherUptoRow : OpenClaim := { program := "ytkipgjllgmjipaa", sum := "50f5a847fc917480803da2eac93c2c03fd81ae1195d0f01347e9fd00351c97ac", func := "loop.example/g03309/laws.FnExactHigher", spec := "fnExactHigher", unfollowed := true, recurses := true, apart := false, narrowed := true }
def FnExactHigherUptoSaid : Prop := fnExactHigherUptoRow.holds Try.pinned (OpenSpec.upto fnExactHigherSpec)

/-- 'laws.FnExactLater', WHERE WHAT IT READS IS OF BULK AT MOST 1048576: true; the input reads as it did. -/
def fnExactLaterUptoRow : OpenClaim := { program := "ytkipgjllgmjipaa", sum := "50f5a847fc917480803da2eac93c2c03fd81ae1195d0f01347e9fd00351c97ac", func := "loop.example/g03309/laws.FnExactLater", spec := "fnExactLater", unfollowed := true, recurses := true, apart := false, narrowed := true }
def FnExactLaterUptoSaid : Prop := fnExactLaterUptoRow.holds Try.pinned (OpenSpec.upto fnExactLaterSpec)

/-- 'laws.FnExactSlower', WHERE WHAT IT READS IS OF BULK AT MOST 1048576: true; the input reads as it did. -/
def fnExactSlowerUptoRow : OpenClaim := { program := "ytkipgjllgmjipaa", sum := "50f5a847fc917480803da2eac93c2c03fd81ae1195d0f01347e9fd00351c97ac", func := "loop.example/g03309/laws.FnExactSlower", spec := "fnExactSlower", unfollowed := true, recurses := true, apart := false, narrowed := true }
def FnExactSlowerUptoSaid : Prop := fnExactSlowerUptoRow.holds Try.pinned (OpenSpec.upto fnExactSlowerSpec)

/-- 'laws.FnExactBackward', WHERE WHAT IT READS IS OF BULK AT MOST 1048576: true; the input reads as it did. -/
def fnExactBackwardUptoRow : OpenClaim := { program := "ytkipgjllgmjipaa", sum := "50f5a847fc917480803da2eac93c2c03fd81ae1195d0f01347e9fd00351c97ac", func := "loop.example/g03309/laws.FnExactBackward", spec := "fnExactBackward", unfollowed := true, recurses := true, apart := false, narrowed := true }
def FnExactBackwardUptoSaid : Prop := fnExactBackwardUptoRow.holds Try.pinned (OpenSpec.upto fnExactBackwardSpec)

/-- 'laws.FnExactUpsideDown', WHERE WHAT IT READS IS OF BULK AT MOST 1048576: true; the input reads as it did. -/
def fnExactUpsideDownUptoRow : OpenClaim := { program := "ytkipgjllgmjipaa", sum := "50f5a847fc917480803da2eac93c2c03fd81ae1195d0f01347e9fd00351c97ac", func := "loop.example/g03309/laws.FnExactUpsideDown", spec := "fnExactUpsideDown", unfollowed := true, recurses := true, apart := false, narrowed := true }
def FnExactUpsideDownUptoSaid : Prop := fnExactUpsideDownUptoRow.holds Try.pinned (OpenSpec.upto fnExactUpsideDownSpec)

/-- 'laws.FnExactJoinTunes', WHERE WHAT IT READS IS OF BULK AT MOST 1048576: true; the input reads as it did. -/
def fnExactJoinTunesUptoRow : OpenClaim := { program := "ytkipgjllgmjipaa", sum := "50f5a847fc917480803da2eac93c2c03fd81ae1195d0f01347e9fd00351c97ac", func := "loop.example/g03309/laws.FnExactJoinTunes", spec := "fnExactJoinTunes", unfollowed := true, recurses := true, apart := false, narrowed := true }
def FnExactJoinTunesUptoSaid : Prop := fnExactJoinTunesUptoRow.holds Try.pinned (OpenSpec.upto fnExactJoinTunesSpec)

/-- 'laws.FnExactAddNote', WHERE WHAT IT READS IS OF BULK AT MOST 1048576: true; the input reads as it did. -/
def fnExactAddNoteUptoRow : OpenClaim := { program := "ytkipgjllgmjipaa", sum := "50f5a847fc917480803da2eac93c2c03fd81ae1195d0f01347e9fd00351c97ac", func := "loop.example/g03309/laws.FnExactAddNote", spec := "fnExactAddNote", unfollowed := true, recurses := true, apart := false, narrowed := true }
def FnExactAddNoteUptoSaid : Prop := fnExactAddNoteUptoRow.holds Try.pinned (OpenSpec.upto fnExactAddNoteSpec)

/-- 'laws.FnExactBestMove', WHERE WHAT IT READS IS OF BULK AT MOST 1048576: true; the input reads as it did. -/
def fnExactBestMoveUptoRow : OpenClaim := { program := "ytkipgjllgmjipaa", sum := "50f5a847fc917480803da2eac93c2c03fd81ae1195d0f01347e9fd00351c97ac", func := "loop.example/g03309/laws.FnExactBestMove", spec := "fnExactBestMove", unfollowed := true, recurses := true, apart := false, narrowed := true }
def FnExactBestMoveUptoSaid : Prop := fnExactBestMoveUptoRow.holds Try.pinned (OpenSpec.upto fnExactBestMoveSpec)

/-- 'laws.FnExactTurnBy', WHERE WHAT IT READS IS OF BULK AT MOST 1048576: true; the input reads as it did. -/
def fnExactTurnByUptoRow : OpenClaim := { program := "ytkipgjllgmjipaa", sum := "50f5a847fc917480803da2eac93c2c03fd81ae1195d0f01347e9fd00351c97ac", func := "loop.example/g03309/laws.FnExactTurnBy", spec := "fnExactTurnBy", unfollowed := true, recurses := true, apart := false, narrowed := true }
def FnExactTurnByUptoSaid : Prop := fnExactTurnByUptoRow.holds Try.pinned (OpenSpec.upto fnExactTurnBySpec)

/-- 'laws.FnExactAddPin', WHERE WHAT IT READS IS OF BULK AT MOST 1048576: true; the input reads as it did. -/
def fnExactAddPinUptoRow : OpenClaim := { program := "ytkipgjllgmjipaa", sum := "50f5a847fc917480803da2eac93c2c03fd81ae1195d0f01347e9fd00351c97ac", func := "loop.example/g03309/laws.FnExactAddPin", spec := "fnExactAddPin", unfollowed := true, recurses := true, apart := false, narrowed := true }
def FnExactAddPinUptoSaid : Prop := fnExactAddPinUptoRow.holds Try.pinned (OpenSpec.upto fnExactAddPinSpec)

/-- 'laws.FnExactCylinderOf', WHERE WHAT IT READS IS OF BULK AT MOST 1048576: true; the input reads as it did. -/
def fnExactCylinderOfUptoRow : OpenClaim := { program := "ytkipgjllgmjipaa", sum := "50f5a847fc917480803da2eac93c2c03fd81ae1195d0f01347e9fd00351c97ac", func := "loop.example/g03309/laws.FnExactCylinderOf", spec := "fnExactCylinderOf", unfollowed := true, recurses := true, apart := false, narrowed := true }
def FnExactCylinderOfUptoSaid : Prop := fnExactCylinderOfUptoRow.holds Try.pinned (OpenSpec.upto fnExactCylinderOfSpec)

end Rows
end Go.Proofs.Ytkipgjllgmjipaa
