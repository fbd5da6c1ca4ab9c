/-
  No cell of these rows narrows 'for every input' (looked for: loops, veiled, ifaces, maps, wideKeys, modest, calm, conditions, laid).
  DERIVED. THE GIVEN ROWS OF THIS SEAT. 12 by the template 'for every input the law returns true; each argument reads behind the call as it read before'; 0 by the template 'total and deterministic' (their statements: YtafmpcaneeplpaaTotals.lean).
  GIVEN WITH THE SEED: the statements are not yours to turn. If you find one false, say at which input.
  Laid BY PROGRAM, IN A SANDBOX (cutbox-rows.mjs): the forced cells as the released guide's own fill.sh prints them over the translation a527a226f07300aa… (all of the seat's roots in one cut). By AI agents, Wed Nov 11 2026. No macro, syntax, notation, axiom, sorry.
-/
import Derived.Test.YtafmpcaneeplpaaChecked
import GoSem.Claim
import GoSem.ClaimJoined
import GoSem.ClaimMapViews
import Derived.JoinedTies
import Derived.KernelRfl
namespace Go.Proofs.Ytafmpcaneeplpaa
/- THE CELL 'sum', in the pinned program and in every row, IS THE sha256 OF THE DUMP (.gsa) THAT YtafmpcaneeplpaaProg.lean LOADS. Nothing in Lean hashes anything: it is a label: what it is worth is what the hold of that sum in a sandbox is worth. -/
noncomputable def Try.pinned : Pinned := { name := "ytafmpcaneeplpaa", sum := "a527a226f07300aa5c1e6b45d50c46649a1a6566dec9cbd69c7cf8f49228e899", checked := Try.checked }
namespace Rows
def none {H : Type} : Left H := { results := [], args := [] }

/-- 'furlonglaw.WorldTells': WHATEVER THE INPUT: true; the input reads as it did. -/
def worldTellsSpec : ChangeSpec := { name := "worldTells", fn := fun _ => fun
  | [d1, d2, d3] => { results := [.lit (.bool true)], args := [d1, d2, d3] }
  | _ => none }
def worldTellsRow : OpenClaim := { program := "ytafmpcaneeplpaa", sum := "a527a226f07300aa5c1e6b45d50c46649a1a6566dec9cbd69c7cf8f49228e899", func := "furlong/furlonglaw.WorldTells", spec := "worldTells", unfollowed := true, recurses := true, apart := false }
def WorldTellsSaid : Prop := worldTellsRow.holds Try.pinned (OpenSpec.ofChange worldTellsSpec)

/-- ITS FALSE NEIGHBOUR: 'it returns false'. Refute it at one input. -/
def worldTellsWrong : ChangeSpec := { name := "worldTells", fn := fun _ => fun
  | [d1, d2, d3] => { results := [.lit (.bool false)], args := [d1, d2, d3] }
  | _ => none }
def WorldTellsWrongFalsely : Prop := worldTellsRow.holds Try.pinned (OpenSpec.ofChange worldTellsWrong)

/-- 'furlonglaw.BoundOf': WHATEVER THE INPUT: true; the input reads as it did. -/
def boundOfSpec : ChangeSpec := { name := "boundOf", fn := fun _ => fun
  | [d1, d2] => { results := [.lit (.bool true)], args := [d1, d2] }
  | _ => none }
def boundOfRow : OpenClaim := { program := "ytafmpcaneeplpaa", sum := "a527a226f07300aa5c1e6b45d50c46649a1a6566dec9cbd69c7cf8f49228e899", func := "furlong/furlonglaw.BoundOf", spec := "boundOf", unfollowed := true, recurses := true, apart := false }
def BoundOfSaid : Prop := boundOfRow.holds Try.pinned (OpenSpec.ofChange boundOfSpec)

/-- ITS FALSE NEIGHBOUR: 'it returns false'. Refute it at one input. -/
def boundOfWrong : ChangeSpec := { name := "boundOf", fn := fun _ => fun
  | [d1, d2] => { results := [.lit (.bool false)], args := [d1, d2] }
  | _ => none }
def BoundOfWrongFalsely : Prop := boundOfRow.holds Try.pinned (OpenSpec.ofChange boundOfWrong)

/-- 'furlonglaw.BoundReady': WHATEVER THE INPUT: true; the input reads as it did. -/
def boundReadySpec : ChangeSpec := { name := "boundReady", fn := fun _ => fun
  | [d1, d2] => { results := [.lit (.bool true)], args := [d1, d2] }
  | _ => none }
def boundReadyRow : OpenClaim := { program := "ytafmpcaneeplpaa", sum := "a527a226f07300aa5c1e6b45d50c46649a1a6566dec9cbd69c7cf8f49228e899", func := "furlong/furlonglaw.BoundReady", spec := "boundReady", unfollowed := true, recurses := true, apart := false }
def BoundReadySaid : Prop := boundReadyRow.holds Try.pinned (OpenSpec.ofChange boundReadySpec)

/-- ITS FALSE NEIGHBOUR: 'it returns false'. Refute it at one input. -/
def boundReadyWrong : ChangeSpec := { name := "boundReady", fn := fun _ => fun
  | [d1, d2] => { results := [.lit (.bool false)], args := [d1, d2] }
  | _ => none }
def BoundReadyWrongFalsely : Prop := boundReadyRow.holds Try.pinned (OpenSpec.ofChange boundReadyWrong)

/-- 'furlonglaw.BoundTrue': WHATEVER THE INPUT: true; the input reads as it did. -/
def boundTrueSpec : ChangeSpec := { name := "boundTrue", fn := fun _ => fun
  | [d1, d2] => { results := [.lit (.bool true)], args := [d1, d2] }
  | _ => none }
def boundTrueRow : OpenClaim := { program := "ytafmpcaneeplpaa", sum := "a527a226f07300aa5c1e6b45d50c46649a1a6566dec9cbd69c7cf8f49228e899", func := "furlong/furlonglaw.BoundTrue", spec := "boundTrue", unfollowed := true, recurses := true, apart := false }
def BoundTrueSaid : Prop := boundTrueRow.holds Try.pinned (OpenSpec.ofChange boundTrueSpec)

/-- ITS FALSE NEIGHBOUR: 'it returns false'. Refute it at one input. -/
def boundTrueWrong : ChangeSpec := { name := "boundTrue", fn := fun _ => fun
  | [d1, d2] => { results := [.lit (.bool false)], args := [d1, d2] }
  | _ => none }
def BoundTrueWrongFalsely : Prop := boundTrueRow.holds Try.pinned (OpenSpec.ofChange boundTrueWrong)

/-- 'furlonglaw.TellTells': WHATEVER THE INPUT: true; the input reads as it did. -/
def tellTellsSpec : ChangeSpec := { name := "tellTells", fn := fun _ => fun
  | [d1, d2] => { results := [.lit (.bool true)], args := [d1, d2] }
  | _ => none }
def tellTellsRow : OpenClaim := { program := "ytafmpcaneeplpaa", sum := "a527a226f07300aa5c1e6b45d50c46649a1a6566dec9cbd69c7cf8f49228e899", func := "furlong/furlonglaw.TellTells", spec := "tellTells", unfollowed := true, recurses := true, apart := false }
def TellTellsSaid : Prop := tellTellsRow.holds Try.pinned (OpenSpec.ofChange tellTellsSpec)

/-- ITS FALSE NEIGHBOUR: 'it returns false'. Refute it at one input. -/
def tellTellsWrong : ChangeSpec := { name := "tellTells", fn := fun _ => fun
  | [d1, d2] => { results := [.lit (.bool false)], args := [d1, d2] }
  | _ => none }
def TellTellsWrongFalsely : Prop := tellTellsRow.holds Try.pinned (OpenSpec.ofChange tellTellsWrong)

/-- 'furlonglaw.TellTrue': WHATEVER THE INPUT: true; the input reads as it did. -/
def tellTrueSpec : ChangeSpec := { name := "tellTrue", fn := fun _ => fun
  | [d1, d2] => { results := [.lit (.bool true)], args := [d1, d2] }
  | _ => none }
def tellTrueRow : OpenClaim := { program := "ytafmpcaneeplpaa", sum := "a527a226f07300aa5c1e6b45d50c46649a1a6566dec9cbd69c7cf8f49228e899", func := "furlong/furlonglaw.TellTrue", spec := "tellTrue", unfollowed := true, recurses := true, apart := false }
def TellTrueSaid : Prop := tellTrueRow.holds Try.pinned (OpenSpec.ofChange tellTrueSpec)

/-- ITS FALSE NEIGHBOUR: 'it returns false'. Refute it at one input. -/
def tellTrueWrong : ChangeSpec := { name := "tellTrue", fn := fun _ => fun
  | [d1, d2] => { results := [.lit (.bool false)], args := [d1, d2] }
  | _ => none }
def TellTrueWrongFalsely : Prop := tellTrueRow.holds Try.pinned (OpenSpec.ofChange tellTrueWrong)

/-- 'furlonglaw.CastSends': WHATEVER THE INPUT: true; the input reads as it did. -/
def castSendsSpec : ChangeSpec := { name := "castSends", fn := fun _ => fun
  | [d1, d2, d3, d4] => { results := [.lit (.bool true)], args := [d1, d2, d3, d4] }
  | _ => none }
def castSendsRow : OpenClaim := { program := "ytafmpcaneeplpaa", sum := "a527a226f07300aa5c1e6b45d50c46649a1a6566dec9cbd69c7cf8f49228e899", func := "furlong/furlonglaw.CastSends", spec := "castSends", inPlace := ["slices.overlaps[furlong/api.Msg]"], unfollowed := true, recurses := true, apart := false }
def CastSendsSaid : Prop := castSendsRow.holds Try.pinned (OpenSpec.ofChange castSendsSpec)

/-- ITS FALSE NEIGHBOUR: 'it returns false'. Refute it at one input. -/
def castSendsWrong : ChangeSpec := { name := "castSends", fn := fun _ => fun
  | [d1, d2, d3, d4] => { results := [.lit (.bool false)], args := [d1, d2, d3, d4] }
  | _ => none }
def CastSendsWrongFalsely : Prop := castSendsRow.holds Try.pinned (OpenSpec.ofChange castSendsWrong)

/-- 'furlonglaw.CastNulls': WHATEVER THE INPUT: true; the input reads as it did. -/
def castNullsSpec : ChangeSpec := { name := "castNulls", fn := fun _ => fun
  | [d1, d2, d3] => { results := [.lit (.bool true)], args := [d1, d2, d3] }
  | _ => none }
def castNullsRow : OpenClaim := { program := "ytafmpcaneeplpaa", sum := "a527a226f07300aa5c1e6b45d50c46649a1a6566dec9cbd69c7cf8f49228e899", func := "furlong/furlonglaw.CastNulls", spec := "castNulls", inPlace := ["slices.overlaps[furlong/api.Msg]"], unfollowed := true, recurses := true, apart := false }
def CastNullsSaid : Prop := castNullsRow.holds Try.pinned (OpenSpec.ofChange castNullsSpec)

/-- ITS FALSE NEIGHBOUR: 'it returns false'. Refute it at one input. -/
def castNullsWrong : ChangeSpec := { name := "castNulls", fn := fun _ => fun
  | [d1, d2, d3] => { results := [.lit (.bool false)], args := [d1, d2, d3] }
  | _ => none }
def CastNullsWrongFalsely : Prop := castNullsRow.holds Try.pinned (OpenSpec.ofChange castNullsWrong)

/-- 'furlonglaw.CastTrue': WHATEVER THE INPUT: true; the input reads as it did. -/
def castTrueSpec : ChangeSpec := { name := "castTrue", fn := fun _ => fun
  | [d1, d2, d3, d4] => { results := [.lit (.bool true)], args := [d1, d2, d3, d4] }
  | _ => none }
def castTrueRow : OpenClaim := { program := "ytafmpcaneeplpaa", sum := "a527a226f07300aa5c1e6b45d50c46649a1a6566dec9cbd69c7cf8f49228e899", func := "furlong/furlonglaw.CastTrue", spec := "castTrue", inPlace := ["slices.overlaps[furlong/api.Msg]"], unfollowed := true, recurses := true, apart := false }
def CastTrueSaid : Prop := castTrueRow.holds Try.pinned (OpenSpec.ofChange castTrueSpec)

/-- ITS FALSE NEIGHBOUR: 'it returns false'. Refute it at one input. -/
def castTrueWrong : ChangeSpec := { name := "castTrue", fn := fun _ => fun
  | [d1, d2, d3, d4] => { results := [.lit (.bool false)], args := [d1, d2, d3, d4] }
  | _ => none }
def CastTrueWrongFalsely : Prop := castTrueRow.holds Try.pinned (OpenSpec.ofChange castTrueWrong)

/-- 'furlonglaw.MoveOnes': WHATEVER THE INPUT: true; the input reads as it did. -/
def moveOnesSpec : ChangeSpec := { name := "moveOnes", fn := fun _ => fun
  | [d1, d2, d3] => { results := [.lit (.bool true)], args := [d1, d2, d3] }
  | _ => none }
def moveOnesRow : OpenClaim := { program := "ytafmpcaneeplpaa", sum := "a527a226f07300aa5c1e6b45d50c46649a1a6566dec9cbd69c7cf8f49228e899", func := "furlong/furlonglaw.MoveOnes", spec := "moveOnes", inPlace := ["slices.overlaps[furlong/api.Msg]"], unfollowed := true, recurses := true, apart := false }
def MoveOnesSaid : Prop := moveOnesRow.holds Try.pinned (OpenSpec.ofChange moveOnesSpec)

/-- ITS FALSE NEIGHBOUR: 'it returns false'. Refute it at one input. -/
def moveOnesWrong : ChangeSpec := { name := "moveOnes", fn := fun _ => fun
  | [d1, d2, d3] => { results := [.lit (.bool false)], args := [d1, d2, d3] }
  | _ => none }
def MoveOnesWrongFalsely : Prop := moveOnesRow.holds Try.pinned (OpenSpec.ofChange moveOnesWrong)

/-- 'furlonglaw.MoveWires': WHATEVER THE INPUT: true; the input reads as it did. -/
def moveWiresSpec : ChangeSpec := { name := "moveWires", fn := fun _ => fun
  | [d1, d2, d3] => { results := [.lit (.bool true)], args := [d1, d2, d3] }
  | _ => none }
def moveWiresRow : OpenClaim := { program := "ytafmpcaneeplpaa", sum := "a527a226f07300aa5c1e6b45d50c46649a1a6566dec9cbd69c7cf8f49228e899", func := "furlong/furlonglaw.MoveWires", spec := "moveWires", inPlace := ["slices.overlaps[furlong/api.Msg]"], unfollowed := true, recurses := true, apart := false }
def MoveWiresSaid : Prop := moveWiresRow.holds Try.pinned (OpenSpec.ofChange moveWiresSpec)

/-- ITS FALSE NEIGHBOUR: 'it returns false'. Refute it at one input. -/
def moveWiresWrong : ChangeSpec := { name := "moveWires", fn := fun _ => fun
  | [d1, d2, d3] => { results := [.lit (.bool false)], args := [d1, d2, d3] }
  | _ => none }
def MoveWiresWrongFalsely : Prop := moveWiresRow.holds Try.pinned (OpenSpec.ofChange moveWiresWrong)

/-- 'furlonglaw.MoveTrue': WHATEVER THE INPUT: true; the input reads as it did. -/
def moveTrueSpec : ChangeSpec := { name := "moveTrue", fn := fun _ => fun
  | [d1, d2, d3] => { results := [.lit (.bool true)], args := [d1, d2, d3] }
  | _ => none }
def moveTrueRow : OpenClaim := { program := "ytafmpcaneeplpaa", sum := "a527a226f07300aa5c1e6b45d50c46649a1a6566dec9cbd69c7cf8f49228e899", func := "furlong/furlonglaw.MoveTrue", spec := "moveTrue", inPlace := ["slices.overlaps[furlong/api.Msg]"], unfollowed := true, recurses := true, apart := false }
def MoveTrueSaid : Prop := moveTrueRow.holds Try.pinned (OpenSpec.ofChange moveTrueSpec)

/-- ITS FALSE NEIGHBOUR: 'it returns false'. Refute it at one input. -/
def moveTrueWrong : ChangeSpec := { name := "moveTrue", fn := fun _ => fun
  | [d1, d2, d3] => { results := [.lit (.bool false)], args := [d1, d2, d3] }
  | _ => none }
def MoveTrueWrongFalsely : Prop := moveTrueRow.holds Try.pinned (OpenSpec.ofChange moveTrueWrong)

/- THE SECOND FORM. 'bulk': how many values and letters a reading holds, each counted each time it is reached (what is shared counts as often as it is met; a slice's spare places count too). A statement '..UptoSaid' is the law's where the arguments, and the package variables that the reading takes, are together of bulk at most 1048576: NARROWER than '..Said'. Prove '..Said' where nothing that the law and all that it calls make is longer than what came in: it says more and counts as full. Else prove '..UptoSaid'. A law counts once. -/
mutual
def uptoBulk {H : Type} : DataW H → Nat
  | .lit (.string bytes) => bytes.length + 1
  | .lit _ => 1
  | .nil => 1
  | .ptr d => uptoBulk d + 1
  | .slice elems spare => uptoBulkAll elems + uptoBulkAll spare + 1
  | .agg parts => uptoBulkAll parts + 1
  | .iface _ d => uptoBulk d + 1
  | .map entries => uptoBulkEntries entries + 1
  | .held _ => 1
def uptoBulkAll {H : Type} : List (DataW H) → Nat
  | [] => 0
  | d :: r => uptoBulk d + uptoBulkAll r
def uptoBulkEntries {H : Type} : List (Lit × DataW H) → Nat
  | [] => 0
  | x :: r => uptoBulkEntry x + uptoBulkEntries r
def uptoBulkEntry {H : Type} : Lit × DataW H → Nat
  | (.string bytes, d) => bytes.length + uptoBulk d + 1
  | (_, d) => uptoBulk d + 1
 end
def uptoSmall : (H : Type) → List (DataW H) → Bool := fun _ ds => decide (uptoBulkAll ds ≤ 1048576)
def OpenSpec.upto (s : _root_.Go.ChangeSpec) : _root_.Go.OpenSpec := { _root_.Go.OpenSpec.ofChange s with cond := some uptoSmall }

/-- 'furlonglaw.WorldTells', WHERE WHAT IT READS IS OF BULK AT MOST 1048576: true; the input reads as it did. -/
def worldTellsUptoRow : OpenClaim := { program := "ytafmpcaneeplpaa", sum := "a527a226f07300aa5c1e6b45d50c46649a1a6566dec9cbd69c7cf8f49228e899", func := "furlong/furlonglaw.WorldTells", spec := "worldTells", unfollowed := true, recurses := true, apart := false, narrowed := true }
def WorldTellsUptoSaid : Prop := worldTellsUptoRow.holds Try.pinned (OpenSpec.upto worldTellsSpec)

/-- 'furlonglaw.BoundOf', WHERE WHAT IT READS IS OF BULK AT MOST 1048576: true; the input reads as it did. -/
def boundOfUptoRow : OpenClaim := { program := "ytafmpcaneeplpaa", sum := "a527a226f07300aa5c1e6b45d50c46649a1a6566dec9cbd69c7cf8f49228e899", func := "furlong/furlonglaw.BoundOf", spec := "boundOf", unfollowed := true, recurses := true, apart := false, narrowed := true }
def BoundOfUptoSaid : Prop := boundOfUptoRow.holds Try.pinned (OpenSpec.upto boundOfSpec)

/-- 'furlonglaw.BoundReady', WHERE WHAT IT READS IS OF BULK AT MOST 1048576: true; the input reads as it did. -/
def boundReadyUptoRow : OpenClaim := { program := "ytafmpcaneeplpaa", sum := "a527a226f07300aa5c1e6b45d50c46649a1a6566dec9cbd69c7cf8f49228e899", func := "furlong/furlonglaw.BoundReady", spec := "boundReady", unfollowed := true, recurses := true, apart := false, narrowed := true }
def BoundReadyUptoSaid : Prop := boundReadyUptoRow.holds Try.pinned (OpenSpec.upto boundReadySpec)

/-- 'furlonglaw.BoundTrue', WHERE WHAT IT READS IS OF BULK AT MOST 1048576: true; the input reads as it did. -/
def boundTrueUptoRow : OpenClaim := { program := "ytafmpcaneeplpaa", sum := "a527a226f07300aa5c1e6b45d50c46649a1a6566dec9cbd69c7cf8f49228e899", func := "furlong/furlonglaw.BoundTrue", spec := "boundTrue", unfollowed := true, recurses := true, apart := false, narrowed := true }
def BoundTrueUptoSaid : Prop := boundTrueUptoRow.holds Try.pinned (OpenSpec.upto boundTrueSpec)

/-- 'furlonglaw.TellTells', WHERE WHAT IT READS IS OF BULK AT MOST 1048576: true; the input reads as it did. -/
def tellTellsUptoRow : OpenClaim := { program := "ytafmpcaneeplpaa", sum := "a527a226f07300aa5c1e6b45d50c46649a1a6566dec9cbd69c7cf8f49228e899", func := "furlong/furlonglaw.TellTells", spec := "tellTells", unfollowed := true, recurses := true, apart := false, narrowed := true }
def TellTellsUptoSaid : Prop := tellTellsUptoRow.holds Try.pinned (OpenSpec.upto tellTellsSpec)

/-- 'furlonglaw.TellTrue', WHERE WHAT IT READS IS OF BULK AT MOST 1048576: true; the input reads as it did. -/
def tellTrueUptoRow : OpenClaim := { program := "ytafmpcaneeplpaa", sum := "a527a226f07300aa5c1e6b45d50c46649a1a6566dec9cbd69c7cf8f49228e899", func := "furlong/furlonglaw.TellTrue", spec := "tellTrue", unfollowed := true, recurses := true, apart := false, narrowed := true }
def TellTrueUptoSaid : Prop := tellTrueUptoRow.holds Try.pinned (OpenSpec.upto tellTrueSpec)

/-- 'furlonglaw.CastSends', WHERE WHAT IT READS IS OF BULK AT MOST 1048576: true; the input reads as it did. -/
def castSendsUptoRow : OpenClaim := { program := "ytafmpcaneeplpaa", sum := "a527a226f07300aa5c1e6b45d50c46649a1a6566dec9cbd69c7cf8f49228e899", func := "furlong/furlonglaw.CastSends", spec := "castSends", inPlace := ["slices.overlaps[furlong/api.Msg]"], unfollowed := true, recurses := true, apart := false, narrowed := true }
def CastSendsUptoSaid : Prop := castSendsUptoRow.holds Try.pinned (OpenSpec.upto castSendsSpec)

/-- 'furlonglaw.CastNulls', WHERE WHAT IT READS IS OF BULK AT MOST 1048576: true; the input reads as it did. -/
def castNullsUptoRow : OpenClaim := { program := "ytafmpcaneeplpaa", sum := "a527a226f07300aa5c1e6b45d50c46649a1a6566dec9cbd69c7cf8f49228e899", func := "furlong/furlonglaw.CastNulls", spec := "castNulls", inPlace := ["slices.overlaps[furlong/api.Msg]"], unfollowed := true, recurses := true, apart := false, narrowed := true }
def CastNullsUptoSaid : Prop := castNullsUptoRow.holds Try.pinned (OpenSpec.upto castNullsSpec)

/-- 'furlonglaw.CastTrue', WHERE WHAT IT READS IS OF BULK AT MOST 1048576: true; the input reads as it did. -/
def castTrueUptoRow : OpenClaim := { program := "ytafmpcaneeplpaa", sum := "a527a226f07300aa5c1e6b45d50c46649a1a6566dec9cbd69c7cf8f49228e899", func := "furlong/furlonglaw.CastTrue", spec := "castTrue", inPlace := ["slices.overlaps[furlong/api.Msg]"], unfollowed := true, recurses := true, apart := false, narrowed := true }
def CastTrueUptoSaid : Prop := castTrueUptoRow.holds Try.pinned (OpenSpec.upto castTrueSpec)

/-- 'furlonglaw.MoveOnes', WHERE WHAT IT READS IS OF BULK AT MOST 1048576: true; the input reads as it did. -/
def moveOnesUptoRow : OpenClaim := { program := "ytafmpcaneeplpaa", sum := "a527a226f07300aa5c1e6b45d50c46649a1a6566dec9cbd69c7cf8f49228e899", func := "furlong/furlonglaw.MoveOnes", spec := "moveOnes", inPlace := ["slices.overlaps[furlong/api.Msg]"], unfollowed := true, recurses := true, apart := false, narrowed := true }
def MoveOnesUptoSaid : Prop := moveOnesUptoRow.holds Try.pinned (OpenSpec.upto moveOnesSpec)

/-- 'furlonglaw.MoveWires', WHERE WHAT IT READS IS OF BULK AT MOST 1048576: true; the input reads as it did. -/
def moveWiresUptoRow : OpenClaim := { program := "ytafmpcaneeplpaa", sum := "a527a226f07300aa5c1e6b45d50c46649a1a6566dec9cbd69c7cf8f49228e899", func := "furlong/furlonglaw.MoveWires", spec := "moveWires", inPlace := ["slices.overlaps[furlong/api.Msg]"], unfollowed := true, recurses := true, apart := false, narrowed := true }
def MoveWiresUptoSaid : Prop := moveWiresUptoRow.holds Try.pinned (OpenSpec.upto moveWiresSpec)

/-- 'furlonglaw.MoveTrue', WHERE WHAT IT READS IS OF BULK AT MOST 1048576: true; the input reads as it did. -/
def moveTrueUptoRow : OpenClaim := { program := "ytafmpcaneeplpaa", sum := "a527a226f07300aa5c1e6b45d50c46649a1a6566dec9cbd69c7cf8f49228e899", func := "furlong/furlonglaw.MoveTrue", spec := "moveTrue", inPlace := ["slices.overlaps[furlong/api.Msg]"], unfollowed := true, recurses := true, apart := false, narrowed := true }
def MoveTrueUptoSaid : Prop := moveTrueUptoRow.holds Try.pinned (OpenSpec.upto moveTrueSpec)

end Rows
end Go.Proofs.Ytafmpcaneeplpaa
