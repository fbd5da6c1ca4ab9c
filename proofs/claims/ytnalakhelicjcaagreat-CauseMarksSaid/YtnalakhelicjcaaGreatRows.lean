/-
  No cell of these rows narrows 'for every input' (looked for: loops, veiled, ifaces, maps, wideKeys, modest, calm, conditions, laid).
  DERIVED. THE GIVEN ROWS OF THIS SEAT. 6 by the template 'for every input the law returns true; each argument reads behind the call as it read before'; 0 by the template 'total and deterministic' (their statements: YtnalakhelicjcaaGreatTotals.lean).
  GIVEN WITH THE SEED: the statements are not yours to turn. If you find one false, say at which input.
  Laid BY PROGRAM, IN A SANDBOX (cutbox-rows.mjs): the forced cells as the released guide's own fill.sh prints them over the translation e0ed0e5380d23ad5… (all of the seat's roots in one cut). By AI agents, Wed Nov 11 2026. No macro, syntax, notation, axiom, sorry.
-/
import Derived.Test.YtnalakhelicjcaaGreatChecked
import GoSem.Claim
import GoSem.ClaimJoined
import GoSem.ClaimMapViews
import Derived.JoinedTies
import Derived.KernelRfl
namespace Go.Proofs.YtnalakhelicjcaaGreat
/- THE CELL 'sum', in the pinned program and in every row, IS THE sha256 OF THE DUMP (.gsa) THAT YtnalakhelicjcaaGreatProg.lean LOADS. Nothing in Lean hashes anything: it is a label: what it is worth is what the hold of that sum in a sandbox is worth. -/
noncomputable def Tryz.pinned : Pinned := { name := "ytnalakhelicjcaagreat", sum := "e0ed0e5380d23ad54cc5c482e4ac4e8bacf62a0fdb283fe5c8bd13a1011e62be", checked := Tryz.checked }
namespace Rows
def none {H : Type} : Left H := { results := [], args := [] }

/-- 'furlonglaw.LogReplays': WHATEVER THE INPUT: true; the input reads as it did. -/
def logReplaysSpec : ChangeSpec := { name := "logReplays", fn := fun _ => fun
  | [d1, d2] => { results := [.lit (.bool true)], args := [d1, d2] }
  | _ => none }
def logReplaysRow : OpenClaim := { program := "ytnalakhelicjcaagreat", sum := "e0ed0e5380d23ad54cc5c482e4ac4e8bacf62a0fdb283fe5c8bd13a1011e62be", func := "furlong/furlonglaw.LogReplays", spec := "logReplays", inPlace := ["slices.overlaps[furlong/api.Msg]"], unfollowed := true, recurses := true, apart := false }
def LogReplaysSaid : Prop := logReplaysRow.holds Tryz.pinned (OpenSpec.ofChange logReplaysSpec)

/-- ITS FALSE NEIGHBOUR: 'it returns false'. Refute it at one input. -/
def logReplaysWrong : ChangeSpec := { name := "logReplays", fn := fun _ => fun
  | [d1, d2] => { results := [.lit (.bool false)], args := [d1, d2] }
  | _ => none }
def LogReplaysWrongFalsely : Prop := logReplaysRow.holds Tryz.pinned (OpenSpec.ofChange logReplaysWrong)

/-- 'furlonglaw.LogRecovers': WHATEVER THE INPUT: true; the input reads as it did. -/
def logRecoversSpec : ChangeSpec := { name := "logRecovers", fn := fun _ => fun
  | [d1, d2, d3] => { results := [.lit (.bool true)], args := [d1, d2, d3] }
  | _ => none }
def logRecoversRow : OpenClaim := { program := "ytnalakhelicjcaagreat", sum := "e0ed0e5380d23ad54cc5c482e4ac4e8bacf62a0fdb283fe5c8bd13a1011e62be", func := "furlong/furlonglaw.LogRecovers", spec := "logRecovers", inPlace := ["slices.overlaps[furlong/api.Msg]"], unfollowed := true, recurses := true, apart := false }
def LogRecoversSaid : Prop := logRecoversRow.holds Tryz.pinned (OpenSpec.ofChange logRecoversSpec)

/-- ITS FALSE NEIGHBOUR: 'it returns false'. Refute it at one input. -/
def logRecoversWrong : ChangeSpec := { name := "logRecovers", fn := fun _ => fun
  | [d1, d2, d3] => { results := [.lit (.bool false)], args := [d1, d2, d3] }
  | _ => none }
def LogRecoversWrongFalsely : Prop := logRecoversRow.holds Tryz.pinned (OpenSpec.ofChange logRecoversWrong)

/-- 'furlonglaw.LogKept': WHATEVER THE INPUT: true; the input reads as it did. -/
def logKeptSpec : ChangeSpec := { name := "logKept", fn := fun _ => fun
  | [d1, d2, d3, d4] => { results := [.lit (.bool true)], args := [d1, d2, d3, d4] }
  | _ => none }
def logKeptRow : OpenClaim := { program := "ytnalakhelicjcaagreat", sum := "e0ed0e5380d23ad54cc5c482e4ac4e8bacf62a0fdb283fe5c8bd13a1011e62be", func := "furlong/furlonglaw.LogKept", spec := "logKept", inPlace := ["slices.overlaps[furlong/api.Msg]"], unfollowed := true, recurses := true, apart := false }
def LogKeptSaid : Prop := logKeptRow.holds Tryz.pinned (OpenSpec.ofChange logKeptSpec)

/-- ITS FALSE NEIGHBOUR: 'it returns false'. Refute it at one input. -/
def logKeptWrong : ChangeSpec := { name := "logKept", fn := fun _ => fun
  | [d1, d2, d3, d4] => { results := [.lit (.bool false)], args := [d1, d2, d3, d4] }
  | _ => none }
def LogKeptWrongFalsely : Prop := logKeptRow.holds Tryz.pinned (OpenSpec.ofChange logKeptWrong)

/-- 'furlonglaw.LogMore': WHATEVER THE INPUT: true; the input reads as it did. -/
def logMoreSpec : ChangeSpec := { name := "logMore", fn := fun _ => fun
  | [d1, d2, d3, d4] => { results := [.lit (.bool true)], args := [d1, d2, d3, d4] }
  | _ => none }
def logMoreRow : OpenClaim := { program := "ytnalakhelicjcaagreat", sum := "e0ed0e5380d23ad54cc5c482e4ac4e8bacf62a0fdb283fe5c8bd13a1011e62be", func := "furlong/furlonglaw.LogMore", spec := "logMore", inPlace := ["slices.overlaps[furlong/api.Msg]"], unfollowed := true, recurses := true, apart := false }
def LogMoreSaid : Prop := logMoreRow.holds Tryz.pinned (OpenSpec.ofChange logMoreSpec)

/-- ITS FALSE NEIGHBOUR: 'it returns false'. Refute it at one input. -/
def logMoreWrong : ChangeSpec := { name := "logMore", fn := fun _ => fun
  | [d1, d2, d3, d4] => { results := [.lit (.bool false)], args := [d1, d2, d3, d4] }
  | _ => none }
def LogMoreWrongFalsely : Prop := logMoreRow.holds Tryz.pinned (OpenSpec.ofChange logMoreWrong)

/-- 'furlonglaw.CauseMarks': WHATEVER THE INPUT: true; the input reads as it did. -/
def causeMarksSpec : ChangeSpec := { name := "causeMarks", fn := fun _ => fun
  | [d1, d2, d3] => { results := [.lit (.bool true)], args := [d1, d2, d3] }
  | _ => none }
def causeMarksRow : OpenClaim := { program := "ytnalakhelicjcaagreat", sum := "e0ed0e5380d23ad54cc5c482e4ac4e8bacf62a0fdb283fe5c8bd13a1011e62be", func := "furlong/furlonglaw.CauseMarks", spec := "causeMarks", inPlace := ["slices.overlaps[furlong/api.Msg]"], unfollowed := true, recurses := true, apart := false }
def CauseMarksSaid : Prop := causeMarksRow.holds Tryz.pinned (OpenSpec.ofChange causeMarksSpec)

/-- ITS FALSE NEIGHBOUR: 'it returns false'. Refute it at one input. -/
def causeMarksWrong : ChangeSpec := { name := "causeMarks", fn := fun _ => fun
  | [d1, d2, d3] => { results := [.lit (.bool false)], args := [d1, d2, d3] }
  | _ => none }
def CauseMarksWrongFalsely : Prop := causeMarksRow.holds Tryz.pinned (OpenSpec.ofChange causeMarksWrong)

/-- 'furlonglaw.RestWorlds': WHATEVER THE INPUT: true; the input reads as it did. -/
def restWorldsSpec : ChangeSpec := { name := "restWorlds", fn := fun _ => fun
  | [d1, d2] => { results := [.lit (.bool true)], args := [d1, d2] }
  | _ => none }
def restWorldsRow : OpenClaim := { program := "ytnalakhelicjcaagreat", sum := "e0ed0e5380d23ad54cc5c482e4ac4e8bacf62a0fdb283fe5c8bd13a1011e62be", func := "furlong/furlonglaw.RestWorlds", spec := "restWorlds", inPlace := ["slices.overlaps[furlong/api.Msg]"], unfollowed := true, recurses := true, apart := false }
def RestWorldsSaid : Prop := restWorldsRow.holds Tryz.pinned (OpenSpec.ofChange restWorldsSpec)

/-- ITS FALSE NEIGHBOUR: 'it returns false'. Refute it at one input. -/
def restWorldsWrong : ChangeSpec := { name := "restWorlds", fn := fun _ => fun
  | [d1, d2] => { results := [.lit (.bool false)], args := [d1, d2] }
  | _ => none }
def RestWorldsWrongFalsely : Prop := restWorldsRow.holds Tryz.pinned (OpenSpec.ofChange restWorldsWrong)

/- THE SECOND FORM. 'bulk': how many values and letters a reading holds, each counted each time it is reached (what is shared counts as often as it is met; a slice's spare places count too). A statement '..UptoSaid' is the law's where the arguments, and the package variables that the reading takes, are together of bulk at most 1048576: NARROWER than '..Said'. Prove '..Said' where nothing that the law and all that it calls make is longer than what came in: it says more and counts as full. Else prove '..UptoSaid'. A law counts once. -/
mutual
def uptoBulk {H : Type} : DataW H → Nat
  | .lit (.string bytes) => bytes.length + 1
  | .lit _ => 1
  | .nil => 1
  | .ptr d => uptoBulk d + 1
  | .slice elems spare => uptoBulkAll elems + uptoBulkAll spare + 1
  | .agg parts => uptoBulkAll parts + 1
  | .iface _ d => uptoBulk d + 1
  | .map entries => uptoBulkEntries entries + 1
  | .held _ => 1
def uptoBulkAll {H : Type} : List (DataW H) → Nat
  | [] => 0
  | d :: r => uptoBulk d + uptoBulkAll r
def uptoBulkEntries {H : Type} : List (Lit × DataW H) → Nat
  | [] => 0
  | x :: r => uptoBulkEntry x + uptoBulkEntries r
def uptoBulkEntry {H : Type} : Lit × DataW H → Nat
  | (.string bytes, d) => bytes.length + uptoBulk d + 1
  | (_, d) => uptoBulk d + 1
 end
def uptoSmall : (H : Type) → List (DataW H) → Bool := fun _ ds => decide (uptoBulkAll ds ≤ 1048576)
def OpenSpec.upto (s : _root_.Go.ChangeSpec) : _root_.Go.OpenSpec := { _root_.Go.OpenSpec.ofChange s with cond := some uptoSmall }

/-- 'furlonglaw.LogReplays', WHERE WHAT IT READS IS OF BULK AT MOST 1048576: true; the input reads as it did. -/
def logReplaysUptoRow : OpenClaim := { program := "ytnalakhelicjcaagreat", sum := "e0ed0e5380d23ad54cc5c482e4ac4e8bacf62a0fdb283fe5c8bd13a1011e62be", func := "furlong/furlonglaw.LogReplays", spec := "logReplays", inPlace := ["slices.overlaps[furlong/api.Msg]"], unfollowed := true, recurses := true, apart := false, narrowed := true }
def LogReplaysUptoSaid : Prop := logReplaysUptoRow.holds Tryz.pinned (OpenSpec.upto logReplaysSpec)

/-- 'furlonglaw.LogRecovers', WHERE WHAT IT READS IS OF BULK AT MOST 1048576: true; the input reads as it did. -/
def logRecoversUptoRow : OpenClaim := { program := "ytnalakhelicjcaagreat", sum := "e0ed0e5380d23ad54cc5c482e4ac4e8bacf62a0fdb283fe5c8bd13a1011e62be", func := "furlong/furlonglaw.LogRecovers", spec := "logRecovers", inPlace := ["slices.overlaps[furlong/api.Msg]"], unfollowed := true, recurses := true, apart := false, narrowed := true }
def LogRecoversUptoSaid : Prop := logRecoversUptoRow.holds Tryz.pinned (OpenSpec.upto logRecoversSpec)

/-- 'furlonglaw.LogKept', WHERE WHAT IT READS IS OF BULK AT MOST 1048576: true; the input reads as it did. -/
def logKeptUptoRow : OpenClaim := { program := "ytnalakhelicjcaagreat", sum := "e0ed0e5380d23ad54cc5c482e4ac4e8bacf62a0fdb283fe5c8bd13a1011e62be", func := "furlong/furlonglaw.LogKept", spec := "logKept", inPlace := ["slices.overlaps[furlong/api.Msg]"], unfollowed := true, recurses := true, apart := false, narrowed := true }
def LogKeptUptoSaid : Prop := logKeptUptoRow.holds Tryz.pinned (OpenSpec.upto logKeptSpec)

/-- 'furlonglaw.LogMore', WHERE WHAT IT READS IS OF BULK AT MOST 1048576: true; the input reads as it did. -/
def logMoreUptoRow : OpenClaim := { program := "ytnalakhelicjcaagreat", sum := "e0ed0e5380d23ad54cc5c482e4ac4e8bacf62a0fdb283fe5c8bd13a1011e62be", func := "furlong/furlonglaw.LogMore", spec := "logMore", inPlace := ["slices.overlaps[furlong/api.Msg]"], unfollowed := true, recurses := true, apart := false, narrowed := true }
def LogMoreUptoSaid : Prop := logMoreUptoRow.holds Tryz.pinned (OpenSpec.upto logMoreSpec)

/-- 'furlonglaw.CauseMarks', WHERE WHAT IT READS IS OF BULK AT MOST 1048576: true; the input reads as it did. -/
def causeMarksUptoRow : OpenClaim := { program := "ytnalakhelicjcaagreat", sum := "e0ed0e5380d23ad54cc5c482e4ac4e8bacf62a0fdb283fe5c8bd13a1011e62be", func := "furlong/furlonglaw.CauseMarks", spec := "causeMarks", inPlace := ["slices.overlaps[furlong/api.Msg]"], unfollowed := true, recurses := true, apart := false, narrowed := true }
def CauseMarksUptoSaid : Prop := causeMarksUptoRow.holds Tryz.pinned (OpenSpec.upto causeMarksSpec)

/-- 'furlonglaw.RestWorlds', WHERE WHAT IT READS IS OF BULK AT MOST 1048576: true; the input reads as it did. -/
def restWorldsUptoRow : OpenClaim := { program := "ytnalakhelicjcaagreat", sum := "e0ed0e5380d23ad54cc5c482e4ac4e8bacf62a0fdb283fe5c8bd13a1011e62be", func := "furlong/furlonglaw.RestWorlds", spec := "restWorlds", inPlace := ["slices.overlaps[furlong/api.Msg]"], unfollowed := true, recurses := true, apart := false, narrowed := true }
def RestWorldsUptoSaid : Prop := restWorldsUptoRow.holds Tryz.pinned (OpenSpec.upto restWorldsSpec)

end Rows
end Go.Proofs.YtnalakhelicjcaaGreat
