/-
  No cell of these rows narrows 'for every input' (looked for: loops, veiled, ifaces, maps, wideKeys, modest, calm, conditions, laid).
  DERIVED. THE GIVEN ROWS OF THIS SEAT. 10 by the template 'for every input the law returns true; each argument reads behind the call as it read before'; 0 by the template 'total and deterministic' (their statements: YtmdhbgkmkmmmpaaTotals.lean).
  GIVEN WITH THE SEED: the statements are not yours to turn. If you find one false, say at which input.
  Laid BY PROGRAM, IN A SANDBOX (cutbox-rows.mjs): the forced cells as the released guide's own fill.sh prints them over the translation f3669d306b0e5812… (all of the seat's roots in one cut). By AI agents, Wed Nov 11 2026. No macro, syntax, notation, axiom, sorry.
-/
import Derived.Test.YtmdhbgkmkmmmpaaChecked
import GoSem.Claim
import GoSem.ClaimJoined
import GoSem.ClaimMapViews
import Derived.JoinedTies
import Derived.KernelRfl
namespace Go.Proofs.Ytmdhbgkmkmmmpaa
/- THE CELL 'sum', in the pinned program and in every row, IS THE sha256 OF THE DUMP (.gsa) THAT YtmdhbgkmkmmmpaaProg.lean LOADS. Nothing in Lean hashes anything: it is a label: what it is worth is what the hold of that sum in a sandbox is worth. -/
noncomputable def Try.pinned : Pinned := { name := "ytmdhbgkmkmmmpaa", sum := "f3669d306b0e58129771faa41f56fdfe1373ac582055cd6ea2d5e81f8ac8330c", checked := Try.checked }
namespace Rows
def none {H : Type} : Left H := { results := [], args := [] }

/-- 'tollbridgelaw24.DiffTells': WHATEVER THE INPUT: true; the input reads as it did. -/
def diffTellsSpec : ChangeSpec := { name := "diffTells", fn := fun _ => fun
  | [d1, d2] => { results := [.lit (.bool true)], args := [d1, d2] }
  | _ => none }
def diffTellsRow : OpenClaim := { program := "ytmdhbgkmkmmmpaa", sum := "f3669d306b0e58129771faa41f56fdfe1373ac582055cd6ea2d5e81f8ac8330c", func := "tollbridge/tollbridgelaw24.DiffTells", spec := "diffTells", unfollowed := true, recurses := true, plainKeys := false, apart := false }
def DiffTellsSaid : Prop := diffTellsRow.holds Try.pinned (OpenSpec.ofChange diffTellsSpec)

/-- ITS FALSE NEIGHBOUR: 'it returns false'. Refute it at one input. -/
def diffTellsWrong : ChangeSpec := { name := "diffTells", fn := fun _ => fun
  | [d1, d2] => { results := [.lit (.bool false)], args := [d1, d2] }
  | _ => none }
def DiffTellsWrongFalsely : Prop := diffTellsRow.holds Try.pinned (OpenSpec.ofChange diffTellsWrong)

/-- 'tollbridgelaw24.DiffStill': WHATEVER THE INPUT: true; the input reads as it did. -/
def diffStillSpec : ChangeSpec := { name := "diffStill", fn := fun _ => fun
  | [d1, d2] => { results := [.lit (.bool true)], args := [d1, d2] }
  | _ => none }
def diffStillRow : OpenClaim := { program := "ytmdhbgkmkmmmpaa", sum := "f3669d306b0e58129771faa41f56fdfe1373ac582055cd6ea2d5e81f8ac8330c", func := "tollbridge/tollbridgelaw24.DiffStill", spec := "diffStill", unfollowed := true, recurses := true, plainKeys := false, apart := false }
def DiffStillSaid : Prop := diffStillRow.holds Try.pinned (OpenSpec.ofChange diffStillSpec)

/-- ITS FALSE NEIGHBOUR: 'it returns false'. Refute it at one input. -/
def diffStillWrong : ChangeSpec := { name := "diffStill", fn := fun _ => fun
  | [d1, d2] => { results := [.lit (.bool false)], args := [d1, d2] }
  | _ => none }
def DiffStillWrongFalsely : Prop := diffStillRow.holds Try.pinned (OpenSpec.ofChange diffStillWrong)

/-- 'tollbridgelaw24.DiffFalls': WHATEVER THE INPUT: true; the input reads as it did. -/
def diffFallsSpec : ChangeSpec := { name := "diffFalls", fn := fun _ => fun
  | [d1, d2] => { results := [.lit (.bool true)], args := [d1, d2] }
  | _ => none }
def diffFallsRow : OpenClaim := { program := "ytmdhbgkmkmmmpaa", sum := "f3669d306b0e58129771faa41f56fdfe1373ac582055cd6ea2d5e81f8ac8330c", func := "tollbridge/tollbridgelaw24.DiffFalls", spec := "diffFalls", unfollowed := true, recurses := true, plainKeys := false, apart := false }
def DiffFallsSaid : Prop := diffFallsRow.holds Try.pinned (OpenSpec.ofChange diffFallsSpec)

/-- ITS FALSE NEIGHBOUR: 'it returns false'. Refute it at one input. -/
def diffFallsWrong : ChangeSpec := { name := "diffFalls", fn := fun _ => fun
  | [d1, d2] => { results := [.lit (.bool false)], args := [d1, d2] }
  | _ => none }
def DiffFallsWrongFalsely : Prop := diffFallsRow.holds Try.pinned (OpenSpec.ofChange diffFallsWrong)

/-- 'tollbridgelaw07.MessageWrites': WHATEVER THE INPUT: true; the input reads as it did. -/
def messageWritesSpec : ChangeSpec := { name := "messageWrites", fn := fun _ => fun
  | [d] => { results := [.lit (.bool true)], args := [d] }
  | _ => none }
def messageWritesRow : OpenClaim := { program := "ytmdhbgkmkmmmpaa", sum := "f3669d306b0e58129771faa41f56fdfe1373ac582055cd6ea2d5e81f8ac8330c", func := "tollbridge/tollbridgelaw07.MessageWrites", spec := "messageWrites", unfollowed := true, recurses := true, plainKeys := false, apart := false }
def MessageWritesSaid : Prop := messageWritesRow.holds Try.pinned (OpenSpec.ofChange messageWritesSpec)

/-- ITS FALSE NEIGHBOUR: 'it returns false'. Refute it at one input. -/
def messageWritesWrong : ChangeSpec := { name := "messageWrites", fn := fun _ => fun
  | [d] => { results := [.lit (.bool false)], args := [d] }
  | _ => none }
def MessageWritesWrongFalsely : Prop := messageWritesRow.holds Try.pinned (OpenSpec.ofChange messageWritesWrong)

/-- 'tollbridgelaw07.MessageReads': WHATEVER THE INPUT: true; the input reads as it did. -/
def messageReadsSpec : ChangeSpec := { name := "messageReads", fn := fun _ => fun
  | [d] => { results := [.lit (.bool true)], args := [d] }
  | _ => none }
def messageReadsRow : OpenClaim := { program := "ytmdhbgkmkmmmpaa", sum := "f3669d306b0e58129771faa41f56fdfe1373ac582055cd6ea2d5e81f8ac8330c", func := "tollbridge/tollbridgelaw07.MessageReads", spec := "messageReads", unfollowed := true, recurses := true, plainKeys := false, apart := false }
def MessageReadsSaid : Prop := messageReadsRow.holds Try.pinned (OpenSpec.ofChange messageReadsSpec)

/-- ITS FALSE NEIGHBOUR: 'it returns false'. Refute it at one input. -/
def messageReadsWrong : ChangeSpec := { name := "messageReads", fn := fun _ => fun
  | [d] => { results := [.lit (.bool false)], args := [d] }
  | _ => none }
def MessageReadsWrongFalsely : Prop := messageReadsRow.holds Try.pinned (OpenSpec.ofChange messageReadsWrong)

/-- 'tollbridgelaw07.MessageBack': WHATEVER THE INPUT: true; the input reads as it did. -/
def messageBackSpec : ChangeSpec := { name := "messageBack", fn := fun _ => fun
  | [d1, d2] => { results := [.lit (.bool true)], args := [d1, d2] }
  | _ => none }
def messageBackRow : OpenClaim := { program := "ytmdhbgkmkmmmpaa", sum := "f3669d306b0e58129771faa41f56fdfe1373ac582055cd6ea2d5e81f8ac8330c", func := "tollbridge/tollbridgelaw07.MessageBack", spec := "messageBack", unfollowed := true, recurses := true, plainKeys := false, apart := false }
def MessageBackSaid : Prop := messageBackRow.holds Try.pinned (OpenSpec.ofChange messageBackSpec)

/-- ITS FALSE NEIGHBOUR: 'it returns false'. Refute it at one input. -/
def messageBackWrong : ChangeSpec := { name := "messageBack", fn := fun _ => fun
  | [d1, d2] => { results := [.lit (.bool false)], args := [d1, d2] }
  | _ => none }
def MessageBackWrongFalsely : Prop := messageBackRow.holds Try.pinned (OpenSpec.ofChange messageBackWrong)

/-- 'tollbridgelaw07.MessageWhole': WHATEVER THE INPUT: true; the input reads as it did. -/
def messageWholeSpec : ChangeSpec := { name := "messageWhole", fn := fun _ => fun
  | [d1, d2, d3] => { results := [.lit (.bool true)], args := [d1, d2, d3] }
  | _ => none }
def messageWholeRow : OpenClaim := { program := "ytmdhbgkmkmmmpaa", sum := "f3669d306b0e58129771faa41f56fdfe1373ac582055cd6ea2d5e81f8ac8330c", func := "tollbridge/tollbridgelaw07.MessageWhole", spec := "messageWhole", unfollowed := true, recurses := true, plainKeys := false, apart := false }
def MessageWholeSaid : Prop := messageWholeRow.holds Try.pinned (OpenSpec.ofChange messageWholeSpec)

/-- ITS FALSE NEIGHBOUR: 'it returns false'. Refute it at one input. -/
def messageWholeWrong : ChangeSpec := { name := "messageWhole", fn := fun _ => fun
  | [d1, d2, d3] => { results := [.lit (.bool false)], args := [d1, d2, d3] }
  | _ => none }
def MessageWholeWrongFalsely : Prop := messageWholeRow.holds Try.pinned (OpenSpec.ofChange messageWholeWrong)

/-- 'tollbridgelaw09.TuplesBest': WHATEVER THE INPUT: true; the input reads as it did. -/
def tuplesBestSpec : ChangeSpec := { name := "tuplesBest", fn := fun _ => fun
  | [d1, d2] => { results := [.lit (.bool true)], args := [d1, d2] }
  | _ => none }
def tuplesBestRow : OpenClaim := { program := "ytmdhbgkmkmmmpaa", sum := "f3669d306b0e58129771faa41f56fdfe1373ac582055cd6ea2d5e81f8ac8330c", func := "tollbridge/tollbridgelaw09.TuplesBest", spec := "tuplesBest", unfollowed := true, recurses := true, plainKeys := false, apart := false }
def TuplesBestSaid : Prop := tuplesBestRow.holds Try.pinned (OpenSpec.ofChange tuplesBestSpec)

/-- ITS FALSE NEIGHBOUR: 'it returns false'. Refute it at one input. -/
def tuplesBestWrong : ChangeSpec := { name := "tuplesBest", fn := fun _ => fun
  | [d1, d2] => { results := [.lit (.bool false)], args := [d1, d2] }
  | _ => none }
def TuplesBestWrongFalsely : Prop := tuplesBestRow.holds Try.pinned (OpenSpec.ofChange tuplesBestWrong)

/-- 'tollbridgelaw09.TuplesPlays': WHATEVER THE INPUT: true; the input reads as it did. -/
def tuplesPlaysSpec : ChangeSpec := { name := "tuplesPlays", fn := fun _ => fun
  | [d] => { results := [.lit (.bool true)], args := [d] }
  | _ => none }
def tuplesPlaysRow : OpenClaim := { program := "ytmdhbgkmkmmmpaa", sum := "f3669d306b0e58129771faa41f56fdfe1373ac582055cd6ea2d5e81f8ac8330c", func := "tollbridge/tollbridgelaw09.TuplesPlays", spec := "tuplesPlays", unfollowed := true, recurses := true, plainKeys := false, apart := false }
def TuplesPlaysSaid : Prop := tuplesPlaysRow.holds Try.pinned (OpenSpec.ofChange tuplesPlaysSpec)

/-- ITS FALSE NEIGHBOUR: 'it returns false'. Refute it at one input. -/
def tuplesPlaysWrong : ChangeSpec := { name := "tuplesPlays", fn := fun _ => fun
  | [d] => { results := [.lit (.bool false)], args := [d] }
  | _ => none }
def TuplesPlaysWrongFalsely : Prop := tuplesPlaysRow.holds Try.pinned (OpenSpec.ofChange tuplesPlaysWrong)

/-- 'tollbridgelaw09.TuplesFull': WHATEVER THE INPUT: true; the input reads as it did. -/
def tuplesFullSpec : ChangeSpec := { name := "tuplesFull", fn := fun _ => fun
  | [] => { results := [.lit (.bool true)], args := [] }
  | _ => none }
def tuplesFullRow : OpenClaim := { program := "ytmdhbgkmkmmmpaa", sum := "f3669d306b0e58129771faa41f56fdfe1373ac582055cd6ea2d5e81f8ac8330c", func := "tollbridge/tollbridgelaw09.TuplesFull", spec := "tuplesFull", unfollowed := true, recurses := true, plainKeys := false, apart := false }
def TuplesFullSaid : Prop := tuplesFullRow.holds Try.pinned (OpenSpec.ofChange tuplesFullSpec)

/-- ITS FALSE NEIGHBOUR: 'it returns false'. Refute it at one input. -/
def tuplesFullWrong : ChangeSpec := { name := "tuplesFull", fn := fun _ => fun
  | [] => { results := [.lit (.bool false)], args := [] }
  | _ => none }
def TuplesFullWrongFalsely : Prop := tuplesFullRow.holds Try.pinned (OpenSpec.ofChange tuplesFullWrong)

/- THE SECOND FORM. 'bulk': how many values and letters a reading holds, each counted each time it is reached (what is shared counts as often as it is met; a slice's spare places count too). A statement '..UptoSaid' is the law's where the arguments, and the package variables that the reading takes, are together of bulk at most 1048576: NARROWER than '..Said'. Prove '..Said' where nothing that the law and all that it calls make is longer than what came in: it says more and counts as full. Else prove '..UptoSaid'. A law counts once. -/
mutual
def uptoBulk {H : Type} : DataW H → Nat
  | .lit (.string bytes) => bytes.length + 1
  | .lit _ => 1
  | .nil => 1
  | .ptr d => uptoBulk d + 1
  | .slice elems spare => uptoBulkAll elems + uptoBulkAll spare + 1
  | .agg parts => uptoBulkAll parts + 1
  | .iface _ d => uptoBulk d + 1
  | .map entries => uptoBulkEntries entries + 1
  | .held _ => 1
def uptoBulkAll {H : Type} : List (DataW H) → Nat
  | [] => 0
  | d :: r => uptoBulk d + uptoBulkAll r
def uptoBulkEntries {H : Type} : List (Lit × DataW H) → Nat
  | [] => 0
  | x :: r => uptoBulkEntry x + uptoBulkEntries r
def uptoBulkEntry {H : Type} : Lit × DataW H → Nat
  | (.string bytes, d) => bytes.length + uptoBulk d + 1
  | (_, d) => uptoBulk d + 1
 end
def uptoSmall : (H : Type) → List (DataW H) → Bool := fun _ ds => decide (uptoBulkAll ds ≤ 1048576)
def OpenSpec.upto (s : _root_.Go.ChangeSpec) : _root_.Go.OpenSpec := { _root_.Go.OpenSpec.ofChange s with cond := some uptoSmall }

/-- 'tollbridgelaw24.DiffTells', WHERE WHAT IT READS IS OF BULK AT MOST 1048576: true; the input reads as it did. -/
def diffTellsUptoRow : OpenClaim := { program := "ytmdhbgkmkmmmpaa", sum := "f3669d306b0e58129771faa41f56fdfe1373ac582055cd6ea2d5e81f8ac8330c", func := "tollbridge/tollbridgelaw24.DiffTells", spec := "diffTells", unfollowed := true, recurses := true, plainKeys := false, apart := false, narrowed := true }
def DiffTellsUptoSaid : Prop := diffTellsUptoRow.holds Try.pinned (OpenSpec.upto diffTellsSpec)

/-- 'tollbridgelaw24.DiffStill', WHERE WHAT IT READS IS OF BULK AT MOST 1048576: true; the input reads as it did. -/
def diffStillUptoRow : OpenClaim := { program := "ytmdhbgkmkmmmpaa", sum := "f3669d306b0e58129771faa41f56fdfe1373ac582055cd6ea2d5e81f8ac8330c", func := "tollbridge/tollbridgelaw24.DiffStill", spec := "diffStill", unfollowed := true, recurses := true, plainKeys := false, apart := false, narrowed := true }
def DiffStillUptoSaid : Prop := diffStillUptoRow.holds Try.pinned (OpenSpec.upto diffStillSpec)

/-- 'tollbridgelaw24.DiffFalls', WHERE WHAT IT READS IS OF BULK AT MOST 1048576: true; the input reads as it did. -/
def diffFallsUptoRow : OpenClaim := { program := "ytmdhbgkmkmmmpaa", sum := "f3669d306b0e58129771faa41f56fdfe1373ac582055cd6ea2d5e81f8ac8330c", func := "tollbridge/tollbridgelaw24.DiffFalls", spec := "diffFalls", unfollowed := true, recurses := true, plainKeys := false, apart := false, narrowed := true }
def DiffFallsUptoSaid : Prop := diffFallsUptoRow.holds Try.pinned (OpenSpec.upto diffFallsSpec)

/-- 'tollbridgelaw07.MessageWrites', WHERE WHAT IT READS IS OF BULK AT MOST 1048576: true; the input reads as it did. -/
def messageWritesUptoRow : OpenClaim := { program := "ytmdhbgkmkmmmpaa", sum := "f3669d306b0e58129771faa41f56fdfe1373ac582055cd6ea2d5e81f8ac8330c", func := "tollbridge/tollbridgelaw07.MessageWrites", spec := "messageWrites", unfollowed := true, recurses := true, plainKeys := false, apart := false, narrowed := true }
def MessageWritesUptoSaid : Prop := messageWritesUptoRow.holds Try.pinned (OpenSpec.upto messageWritesSpec)

/-- 'tollbridgelaw07.MessageReads', WHERE WHAT IT READS IS OF BULK AT MOST 1048576: true; the input reads as it did. -/
def messageReadsUptoRow : OpenClaim := { program := "ytmdhbgkmkmmmpaa", sum := "f3669d306b0e58129771faa41f56fdfe1373ac582055cd6ea2d5e81f8ac8330c", func := "tollbridge/tollbridgelaw07.MessageReads", spec := "messageReads", unfollowed := true, recurses := true, plainKeys := false, apart := false, narrowed := true }
def MessageReadsUptoSaid : Prop := messageReadsUptoRow.holds Try.pinned (OpenSpec.upto messageReadsSpec)

/-- 'tollbridgelaw07.MessageBack', WHERE WHAT IT READS IS OF BULK AT MOST 1048576: true; the input reads as it did. -/
def messageBackUptoRow : OpenClaim := { program := "ytmdhbgkmkmmmpaa", sum := "f3669d306b0e58129771faa41f56fdfe1373ac582055cd6ea2d5e81f8ac8330c", func := "tollbridge/tollbridgelaw07.MessageBack", spec := "messageBack", unfollowed := true, recurses := true, plainKeys := false, apart := false, narrowed := true }
def MessageBackUptoSaid : Prop := messageBackUptoRow.holds Try.pinned (OpenSpec.upto messageBackSpec)

/-- 'tollbridgelaw07.MessageWhole', WHERE WHAT IT READS IS OF BULK AT MOST 1048576: true; the input reads as it did. -/
def messageWholeUptoRow : OpenClaim := { program := "ytmdhbgkmkmmmpaa", sum := "f3669d306b0e58129771faa41f56fdfe1373ac582055cd6ea2d5e81f8ac8330c", func := "tollbridge/tollbridgelaw07.MessageWhole", spec := "messageWhole", unfollowed := true, recurses := true, plainKeys := false, apart := false, narrowed := true }
def MessageWholeUptoSaid : Prop := messageWholeUptoRow.holds Try.pinned (OpenSpec.upto messageWholeSpec)

/-- 'tollbridgelaw09.TuplesBest', WHERE WHAT IT READS IS OF BULK AT MOST 1048576: true; the input reads as it did. -/
def tuplesBestUptoRow : OpenClaim := { program := "ytmdhbgkmkmmmpaa", sum := "f3669d306b0e58129771faa41f56fdfe1373ac582055cd6ea2d5e81f8ac8330c", func := "tollbridge/tollbridgelaw09.TuplesBest", spec := "tuplesBest", unfollowed := true, recurses := true, plainKeys := false, apart := false, narrowed := true }
def TuplesBestUptoSaid : Prop := tuplesBestUptoRow.holds Try.pinned (OpenSpec.upto tuplesBestSpec)

/-- 'tollbridgelaw09.TuplesPlays', WHERE WHAT IT READS IS OF BULK AT MOST 1048576: true; the input reads as it did. -/
def tuplesPlaysUptoRow : OpenClaim := { program := "ytmdhbgkmkmmmpaa", sum := "f3669d306b0e58129771faa41f56fdfe1373ac582055cd6ea2d5e81f8ac8330c", func := "tollbridge/tollbridgelaw09.TuplesPlays", spec := "tuplesPlays", unfollowed := true, recurses := true, plainKeys := false, apart := false, narrowed := true }
def TuplesPlaysUptoSaid : Prop := tuplesPlaysUptoRow.holds Try.pinned (OpenSpec.upto tuplesPlaysSpec)

/-- 'tollbridgelaw09.TuplesFull', WHERE WHAT IT READS IS OF BULK AT MOST 1048576: true; the input reads as it did. -/
def tuplesFullUptoRow : OpenClaim := { program := "ytmdhbgkmkmmmpaa", sum := "f3669d306b0e58129771faa41f56fdfe1373ac582055cd6ea2d5e81f8ac8330c", func := "tollbridge/tollbridgelaw09.TuplesFull", spec := "tuplesFull", unfollowed := true, recurses := true, plainKeys := false, apart := false, narrowed := true }
def TuplesFullUptoSaid : Prop := tuplesFullUptoRow.holds Try.pinned (OpenSpec.upto tuplesFullSpec)

end Rows
end Go.Proofs.Ytmdhbgkmkmmmpaa
