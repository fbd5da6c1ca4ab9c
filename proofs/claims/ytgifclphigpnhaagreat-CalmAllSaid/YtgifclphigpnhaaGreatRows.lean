/-
  No cell of these rows narrows 'for every input' (looked for: loops, veiled, ifaces, maps, wideKeys, modest, calm, conditions, laid).
  DERIVED. THE GIVEN ROWS OF THIS SEAT. 10 by the template 'for every input the law returns true; each argument reads behind the call as it read before'; 0 by the template 'total and deterministic' (their statements: YtgifclphigpnhaaGreatTotals.lean).
  GIVEN WITH THE SEED: the statements are not yours to turn. If you find one false, say at which input.
  Laid BY PROGRAM, IN A SANDBOX (cutbox-rows.mjs): the forced cells as the released guide's own fill.sh prints them over the translation 6e61dce962097a78… (all of the seat's roots in one cut). By AI agents, Wed Nov 11 2026. No macro, syntax, notation, axiom, sorry.
-/
import Derived.Test.YtgifclphigpnhaaGreatChecked
import GoSem.Claim
import GoSem.ClaimJoined
import GoSem.ClaimMapViews
import Derived.JoinedTies
import Derived.KernelRfl
namespace Go.Proofs.YtgifclphigpnhaaGreat
/- THE CELL 'sum', in the pinned program and in every row, IS THE sha256 OF THE DUMP (.gsa) THAT YtgifclphigpnhaaGreatProg.lean LOADS. Nothing in Lean hashes anything: it is a label: what it is worth is what the hold of that sum in a sandbox is worth. -/
noncomputable def Tryz.pinned : Pinned := { name := "ytgifclphigpnhaagreat", sum := "6e61dce962097a782f54e84603ae5228748c8a2fe61232d6f3f8137358dcd461", checked := Tryz.checked }
namespace Rows
def none {H : Type} : Left H := { results := [], args := [] }

/-- 'furlonglaw.CalmTells': WHATEVER THE INPUT: true; the input reads as it did. -/
def calmTellsSpec : ChangeSpec := { name := "calmTells", fn := fun _ => fun
  | [d] => { results := [.lit (.bool true)], args := [d] }
  | _ => none }
def calmTellsRow : OpenClaim := { program := "ytgifclphigpnhaagreat", sum := "6e61dce962097a782f54e84603ae5228748c8a2fe61232d6f3f8137358dcd461", func := "furlong/furlonglaw.CalmTells", spec := "calmTells", inPlace := ["slices.overlaps[furlong/api.Msg]"], unfollowed := true, recurses := true, apart := false }
def CalmTellsSaid : Prop := calmTellsRow.holds Tryz.pinned (OpenSpec.ofChange calmTellsSpec)

/-- ITS FALSE NEIGHBOUR: 'it returns false'. Refute it at one input. -/
def calmTellsWrong : ChangeSpec := { name := "calmTells", fn := fun _ => fun
  | [d] => { results := [.lit (.bool false)], args := [d] }
  | _ => none }
def CalmTellsWrongFalsely : Prop := calmTellsRow.holds Tryz.pinned (OpenSpec.ofChange calmTellsWrong)

/-- 'furlonglaw.CalmCalms': WHATEVER THE INPUT: true; the input reads as it did. -/
def calmCalmsSpec : ChangeSpec := { name := "calmCalms", fn := fun _ => fun
  | [d] => { results := [.lit (.bool true)], args := [d] }
  | _ => none }
def calmCalmsRow : OpenClaim := { program := "ytgifclphigpnhaagreat", sum := "6e61dce962097a782f54e84603ae5228748c8a2fe61232d6f3f8137358dcd461", func := "furlong/furlonglaw.CalmCalms", spec := "calmCalms", inPlace := ["slices.overlaps[furlong/api.Msg]"], unfollowed := true, recurses := true, apart := false }
def CalmCalmsSaid : Prop := calmCalmsRow.holds Tryz.pinned (OpenSpec.ofChange calmCalmsSpec)

/-- ITS FALSE NEIGHBOUR: 'it returns false'. Refute it at one input. -/
def calmCalmsWrong : ChangeSpec := { name := "calmCalms", fn := fun _ => fun
  | [d] => { results := [.lit (.bool false)], args := [d] }
  | _ => none }
def CalmCalmsWrongFalsely : Prop := calmCalmsRow.holds Tryz.pinned (OpenSpec.ofChange calmCalmsWrong)

/-- 'furlonglaw.LogDoes': WHATEVER THE INPUT: true; the input reads as it did. -/
def logDoesSpec : ChangeSpec := { name := "logDoes", fn := fun _ => fun
  | [d1, d2] => { results := [.lit (.bool true)], args := [d1, d2] }
  | _ => none }
def logDoesRow : OpenClaim := { program := "ytgifclphigpnhaagreat", sum := "6e61dce962097a782f54e84603ae5228748c8a2fe61232d6f3f8137358dcd461", func := "furlong/furlonglaw.LogDoes", spec := "logDoes", inPlace := ["slices.overlaps[furlong/api.Msg]"], unfollowed := true, recurses := true, apart := false }
def LogDoesSaid : Prop := logDoesRow.holds Tryz.pinned (OpenSpec.ofChange logDoesSpec)

/-- ITS FALSE NEIGHBOUR: 'it returns false'. Refute it at one input. -/
def logDoesWrong : ChangeSpec := { name := "logDoes", fn := fun _ => fun
  | [d1, d2] => { results := [.lit (.bool false)], args := [d1, d2] }
  | _ => none }
def LogDoesWrongFalsely : Prop := logDoesRow.holds Tryz.pinned (OpenSpec.ofChange logDoesWrong)

/-- 'furlonglaw.LogRight': WHATEVER THE INPUT: true; the input reads as it did. -/
def logRightSpec : ChangeSpec := { name := "logRight", fn := fun _ => fun
  | [d1, d2, d3] => { results := [.lit (.bool true)], args := [d1, d2, d3] }
  | _ => none }
def logRightRow : OpenClaim := { program := "ytgifclphigpnhaagreat", sum := "6e61dce962097a782f54e84603ae5228748c8a2fe61232d6f3f8137358dcd461", func := "furlong/furlonglaw.LogRight", spec := "logRight", inPlace := ["slices.overlaps[furlong/api.Msg]"], unfollowed := true, recurses := true, apart := false }
def LogRightSaid : Prop := logRightRow.holds Tryz.pinned (OpenSpec.ofChange logRightSpec)

/-- ITS FALSE NEIGHBOUR: 'it returns false'. Refute it at one input. -/
def logRightWrong : ChangeSpec := { name := "logRight", fn := fun _ => fun
  | [d1, d2, d3] => { results := [.lit (.bool false)], args := [d1, d2, d3] }
  | _ => none }
def LogRightWrongFalsely : Prop := logRightRow.holds Tryz.pinned (OpenSpec.ofChange logRightWrong)

/-- 'furlonglaw.CalmTrue': WHATEVER THE INPUT: true; the input reads as it did. -/
def calmTrueSpec : ChangeSpec := { name := "calmTrue", fn := fun _ => fun
  | [d1, d2, d3] => { results := [.lit (.bool true)], args := [d1, d2, d3] }
  | _ => none }
def calmTrueRow : OpenClaim := { program := "ytgifclphigpnhaagreat", sum := "6e61dce962097a782f54e84603ae5228748c8a2fe61232d6f3f8137358dcd461", func := "furlong/furlonglaw.CalmTrue", spec := "calmTrue", inPlace := ["slices.overlaps[furlong/api.Msg]"], unfollowed := true, recurses := true, apart := false }
def CalmTrueSaid : Prop := calmTrueRow.holds Tryz.pinned (OpenSpec.ofChange calmTrueSpec)

/-- ITS FALSE NEIGHBOUR: 'it returns false'. Refute it at one input. -/
def calmTrueWrong : ChangeSpec := { name := "calmTrue", fn := fun _ => fun
  | [d1, d2, d3] => { results := [.lit (.bool false)], args := [d1, d2, d3] }
  | _ => none }
def CalmTrueWrongFalsely : Prop := calmTrueRow.holds Tryz.pinned (OpenSpec.ofChange calmTrueWrong)

/-- 'furlonglaw.BoundGrows': WHATEVER THE INPUT: true; the input reads as it did. -/
def boundGrowsSpec : ChangeSpec := { name := "boundGrows", fn := fun _ => fun
  | [d1, d2, d3, d4, d5] => { results := [.lit (.bool true)], args := [d1, d2, d3, d4, d5] }
  | _ => none }
def boundGrowsRow : OpenClaim := { program := "ytgifclphigpnhaagreat", sum := "6e61dce962097a782f54e84603ae5228748c8a2fe61232d6f3f8137358dcd461", func := "furlong/furlonglaw.BoundGrows", spec := "boundGrows", inPlace := ["slices.overlaps[furlong/api.Msg]"], unfollowed := true, recurses := true, apart := false }
def BoundGrowsSaid : Prop := boundGrowsRow.holds Tryz.pinned (OpenSpec.ofChange boundGrowsSpec)

/-- ITS FALSE NEIGHBOUR: 'it returns false'. Refute it at one input. -/
def boundGrowsWrong : ChangeSpec := { name := "boundGrows", fn := fun _ => fun
  | [d1, d2, d3, d4, d5] => { results := [.lit (.bool false)], args := [d1, d2, d3, d4, d5] }
  | _ => none }
def BoundGrowsWrongFalsely : Prop := boundGrowsRow.holds Tryz.pinned (OpenSpec.ofChange boundGrowsWrong)

/-- 'furlonglaw.AgreeSafe': WHATEVER THE INPUT: true; the input reads as it did. -/
def agreeSafeSpec : ChangeSpec := { name := "agreeSafe", fn := fun _ => fun
  | [d1, d2, d3, d4, d5] => { results := [.lit (.bool true)], args := [d1, d2, d3, d4, d5] }
  | _ => none }
def agreeSafeRow : OpenClaim := { program := "ytgifclphigpnhaagreat", sum := "6e61dce962097a782f54e84603ae5228748c8a2fe61232d6f3f8137358dcd461", func := "furlong/furlonglaw.AgreeSafe", spec := "agreeSafe", inPlace := ["slices.overlaps[furlong/api.Msg]"], unfollowed := true, recurses := true, apart := false }
def AgreeSafeSaid : Prop := agreeSafeRow.holds Tryz.pinned (OpenSpec.ofChange agreeSafeSpec)

/-- ITS FALSE NEIGHBOUR: 'it returns false'. Refute it at one input. -/
def agreeSafeWrong : ChangeSpec := { name := "agreeSafe", fn := fun _ => fun
  | [d1, d2, d3, d4, d5] => { results := [.lit (.bool false)], args := [d1, d2, d3, d4, d5] }
  | _ => none }
def AgreeSafeWrongFalsely : Prop := agreeSafeRow.holds Tryz.pinned (OpenSpec.ofChange agreeSafeWrong)

/-- 'furlonglaw.CalmAll': WHATEVER THE INPUT: true; the input reads as it did. -/
def calmAllSpec : ChangeSpec := { name := "calmAll", fn := fun _ => fun
  | [d1, d2, d3] => { results := [.lit (.bool true)], args := [d1, d2, d3] }
  | _ => none }
def calmAllRow : OpenClaim := { program := "ytgifclphigpnhaagreat", sum := "6e61dce962097a782f54e84603ae5228748c8a2fe61232d6f3f8137358dcd461", func := "furlong/furlonglaw.CalmAll", spec := "calmAll", inPlace := ["slices.overlaps[furlong/api.Msg]"], unfollowed := true, recurses := true, apart := false }
def CalmAllSaid : Prop := calmAllRow.holds Tryz.pinned (OpenSpec.ofChange calmAllSpec)

/-- ITS FALSE NEIGHBOUR: 'it returns false'. Refute it at one input. -/
def calmAllWrong : ChangeSpec := { name := "calmAll", fn := fun _ => fun
  | [d1, d2, d3] => { results := [.lit (.bool false)], args := [d1, d2, d3] }
  | _ => none }
def CalmAllWrongFalsely : Prop := calmAllRow.holds Tryz.pinned (OpenSpec.ofChange calmAllWrong)

/-- 'furlonglaw.AgreeOrder': WHATEVER THE INPUT: true; the input reads as it did. -/
def agreeOrderSpec : ChangeSpec := { name := "agreeOrder", fn := fun _ => fun
  | [d1, d2, d3, d4, d5] => { results := [.lit (.bool true)], args := [d1, d2, d3, d4, d5] }
  | _ => none }
def agreeOrderRow : OpenClaim := { program := "ytgifclphigpnhaagreat", sum := "6e61dce962097a782f54e84603ae5228748c8a2fe61232d6f3f8137358dcd461", func := "furlong/furlonglaw.AgreeOrder", spec := "agreeOrder", inPlace := ["slices.overlaps[furlong/api.Msg]"], unfollowed := true, recurses := true, apart := false }
def AgreeOrderSaid : Prop := agreeOrderRow.holds Tryz.pinned (OpenSpec.ofChange agreeOrderSpec)

/-- ITS FALSE NEIGHBOUR: 'it returns false'. Refute it at one input. -/
def agreeOrderWrong : ChangeSpec := { name := "agreeOrder", fn := fun _ => fun
  | [d1, d2, d3, d4, d5] => { results := [.lit (.bool false)], args := [d1, d2, d3, d4, d5] }
  | _ => none }
def AgreeOrderWrongFalsely : Prop := agreeOrderRow.holds Tryz.pinned (OpenSpec.ofChange agreeOrderWrong)

/-- 'furlonglaw.AgreeGrows': WHATEVER THE INPUT: true; the input reads as it did. -/
def agreeGrowsSpec : ChangeSpec := { name := "agreeGrows", fn := fun _ => fun
  | [d1, d2, d3, d4, d5] => { results := [.lit (.bool true)], args := [d1, d2, d3, d4, d5] }
  | _ => none }
def agreeGrowsRow : OpenClaim := { program := "ytgifclphigpnhaagreat", sum := "6e61dce962097a782f54e84603ae5228748c8a2fe61232d6f3f8137358dcd461", func := "furlong/furlonglaw.AgreeGrows", spec := "agreeGrows", inPlace := ["slices.overlaps[furlong/api.Msg]"], unfollowed := true, recurses := true, apart := false }
def AgreeGrowsSaid : Prop := agreeGrowsRow.holds Tryz.pinned (OpenSpec.ofChange agreeGrowsSpec)

/-- ITS FALSE NEIGHBOUR: 'it returns false'. Refute it at one input. -/
def agreeGrowsWrong : ChangeSpec := { name := "agreeGrows", fn := fun _ => fun
  | [d1, d2, d3, d4, d5] => { results := [.lit (.bool false)], args := [d1, d2, d3, d4, d5] }
  | _ => none }
def AgreeGrowsWrongFalsely : Prop := agreeGrowsRow.holds Tryz.pinned (OpenSpec.ofChange agreeGrowsWrong)

/- THE SECOND FORM. 'bulk': how many values and letters a reading holds, each counted each time it is reached (what is shared counts as often as it is met; a slice's spare places count too). A statement '..UptoSaid' is the law's where the arguments, and the package variables that the reading takes, are together of bulk at most 1048576: NARROWER than '..Said'. Prove '..Said' where nothing that the law and all that it calls make is longer than what came in: it says more and counts as full. Else prove '..UptoSaid'. A law counts once. -/
mutual
def uptoBulk {H : Type} : DataW H → Nat
  | .lit (.string bytes) => bytes.length + 1
  | .lit _ => 1
  | .nil => 1
  | .ptr d => uptoBulk d + 1
  | .slice elems spare => uptoBulkAll elems + uptoBulkAll spare + 1
  | .agg parts => uptoBulkAll parts + 1
  | .iface _ d => uptoBulk d + 1
  | .map entries => uptoBulkEntries entries + 1
  | .held _ => 1
def uptoBulkAll {H : Type} : List (DataW H) → Nat
  | [] => 0
  | d :: r => uptoBulk d + uptoBulkAll r
def uptoBulkEntries {H : Type} : List (Lit × DataW H) → Nat
  | [] => 0
  | x :: r => uptoBulkEntry x + uptoBulkEntries r
def uptoBulkEntry {H : Type} : Lit × DataW H → Nat
  | (.string bytes, d) => bytes.length + uptoBulk d + 1
  | (_, d) => uptoBulk d + 1
 end
def uptoSmall : (H : Type) → List (DataW H) → Bool := fun _ ds => decide (uptoBulkAll ds ≤ 1048576)
def OpenSpec.upto (s : _root_.Go.ChangeSpec) : _root_.Go.OpenSpec := { _root_.Go.OpenSpec.ofChange s with cond := some uptoSmall }

/-- 'furlonglaw.CalmTells', WHERE WHAT IT READS IS OF BULK AT MOST 1048576: true; the input reads as it did. -/
def calmTellsUptoRow : OpenClaim := { program := "ytgifclphigpnhaagreat", sum := "6e61dce962097a782f54e84603ae5228748c8a2fe61232d6f3f8137358dcd461", func := "furlong/furlonglaw.CalmTells", spec := "calmTells", inPlace := ["slices.overlaps[furlong/api.Msg]"], unfollowed := true, recurses := true, apart := false, narrowed := true }
def CalmTellsUptoSaid : Prop := calmTellsUptoRow.holds Tryz.pinned (OpenSpec.upto calmTellsSpec)

/-- 'furlonglaw.CalmCalms', WHERE WHAT IT READS IS OF BULK AT MOST 1048576: true; the input reads as it did. -/
def calmCalmsUptoRow : OpenClaim := { program := "ytgifclphigpnhaagreat", sum := "6e61dce962097a782f54e84603ae5228748c8a2fe61232d6f3f8137358dcd461", func := "furlong/furlonglaw.CalmCalms", spec := "calmCalms", inPlace := ["slices.overlaps[furlong/api.Msg]"], unfollowed := true, recurses := true, apart := false, narrowed := true }
def CalmCalmsUptoSaid : Prop := calmCalmsUptoRow.holds Tryz.pinned (OpenSpec.upto calmCalmsSpec)

/-- 'furlonglaw.LogDoes', WHERE WHAT IT READS IS OF BULK AT MOST 1048576: true; the input reads as it did. -/
def logDoesUptoRow : OpenClaim := { program := "ytgifclphigpnhaagreat", sum := "6e61dce962097a782f54e84603ae5228748c8a2fe61232d6f3f8137358dcd461", func := "furlong/furlonglaw.LogDoes", spec := "logDoes", inPlace := ["slices.overlaps[furlong/api.Msg]"], unfollowed := true, recurses := true, apart := false, narrowed := true }
def LogDoesUptoSaid : Prop := logDoesUptoRow.holds Tryz.pinned (OpenSpec.upto logDoesSpec)

/-- 'furlonglaw.LogRight', WHERE WHAT IT READS IS OF BULK AT MOST 1048576: true; the input reads as it did. -/
def logRightUptoRow : OpenClaim := { program := "ytgifclphigpnhaagreat", sum := "6e61dce962097a782f54e84603ae5228748c8a2fe61232d6f3f8137358dcd461", func := "furlong/furlonglaw.LogRight", spec := "logRight", inPlace := ["slices.overlaps[furlong/api.Msg]"], unfollowed := true, recurses := true, apart := false, narrowed := true }
def LogRightUptoSaid : Prop := logRightUptoRow.holds Tryz.pinned (OpenSpec.upto logRightSpec)

/-- 'furlonglaw.CalmTrue', WHERE WHAT IT READS IS OF BULK AT MOST 1048576: true; the input reads as it did. -/
def calmTrueUptoRow : OpenClaim := { program := "ytgifclphigpnhaagreat", sum := "6e61dce962097a782f54e84603ae5228748c8a2fe61232d6f3f8137358dcd461", func := "furlong/furlonglaw.CalmTrue", spec := "calmTrue", inPlace := ["slices.overlaps[furlong/api.Msg]"], unfollowed := true, recurses := true, apart := false, narrowed := true }
def CalmTrueUptoSaid : Prop := calmTrueUptoRow.holds Tryz.pinned (OpenSpec.upto calmTrueSpec)

/-- 'furlonglaw.BoundGrows', WHERE WHAT IT READS IS OF BULK AT MOST 1048576: true; the input reads as it did. -/
def boundGrowsUptoRow : OpenClaim := { program := "ytgifclphigpnhaagreat", sum := "6e61dce962097a782f54e84603ae5228748c8a2fe61232d6f3f8137358dcd461", func := "furlong/furlonglaw.BoundGrows", spec := "boundGrows", inPlace := ["slices.overlaps[furlong/api.Msg]"], unfollowed := true, recurses := true, apart := false, narrowed := true }
def BoundGrowsUptoSaid : Prop := boundGrowsUptoRow.holds Tryz.pinned (OpenSpec.upto boundGrowsSpec)

/-- 'furlonglaw.AgreeSafe', WHERE WHAT IT READS IS OF BULK AT MOST 1048576: true; the input reads as it did. -/
def agreeSafeUptoRow : OpenClaim := { program := "ytgifclphigpnhaagreat", sum := "6e61dce962097a782f54e84603ae5228748c8a2fe61232d6f3f8137358dcd461", func := "furlong/furlonglaw.AgreeSafe", spec := "agreeSafe", inPlace := ["slices.overlaps[furlong/api.Msg]"], unfollowed := true, recurses := true, apart := false, narrowed := true }
def AgreeSafeUptoSaid : Prop := agreeSafeUptoRow.holds Tryz.pinned (OpenSpec.upto agreeSafeSpec)

/-- 'furlonglaw.CalmAll', WHERE WHAT IT READS IS OF BULK AT MOST 1048576: true; the input reads as it did. -/
def calmAllUptoRow : OpenClaim := { program := "ytgifclphigpnhaagreat", sum := "6e61dce962097a782f54e84603ae5228748c8a2fe61232d6f3f8137358dcd461", func := "furlong/furlonglaw.CalmAll", spec := "calmAll", inPlace := ["slices.overlaps[furlong/api.Msg]"], unfollowed := true, recurses := true, apart := false, narrowed := true }
def CalmAllUptoSaid : Prop := calmAllUptoRow.holds Tryz.pinned (OpenSpec.upto calmAllSpec)

/-- 'furlonglaw.AgreeOrder', WHERE WHAT IT READS IS OF BULK AT MOST 1048576: true; the input reads as it did. -/
def agreeOrderUptoRow : OpenClaim := { program := "ytgifclphigpnhaagreat", sum := "6e61dce962097a782f54e84603ae5228748c8a2fe61232d6f3f8137358dcd461", func := "furlong/furlonglaw.AgreeOrder", spec := "agreeOrder", inPlace := ["slices.overlaps[furlong/api.Msg]"], unfollowed := true, recurses := true, apart := false, narrowed := true }
def AgreeOrderUptoSaid : Prop := agreeOrderUptoRow.holds Tryz.pinned (OpenSpec.upto agreeOrderSpec)

/-- 'furlonglaw.AgreeGrows', WHERE WHAT IT READS IS OF BULK AT MOST 1048576: true; the input reads as it did. -/
def agreeGrowsUptoRow : OpenClaim := { program := "ytgifclphigpnhaagreat", sum := "6e61dce962097a782f54e84603ae5228748c8a2fe61232d6f3f8137358dcd461", func := "furlong/furlonglaw.AgreeGrows", spec := "agreeGrows", inPlace := ["slices.overlaps[furlong/api.Msg]"], unfollowed := true, recurses := true, apart := false, narrowed := true }
def AgreeGrowsUptoSaid : Prop := agreeGrowsUptoRow.holds Tryz.pinned (OpenSpec.upto agreeGrowsSpec)

end Rows
end Go.Proofs.YtgifclphigpnhaaGreat
