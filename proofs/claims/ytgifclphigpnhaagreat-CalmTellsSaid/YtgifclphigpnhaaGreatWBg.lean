/-
  Worlds: what must be in any case.
-/
import Derived.Test.YtgifclphigpnhaaGreatKS
import Derived.StillTailTactics
set_option maxRecDepth 100000
namespace Go.Proofs.YtgifclphigpnhaaGreat
open Go.RowKit Go.Shelf Go.BigFrame

def aA : Ac := ⟨1, 0, 0, ⟨#[97]⟩⟩
def XA : Wd := doneF (beginX 3 [3, 6]) [aA]
theorem XA_0 : errX XA = 0 := by decide +kernel
theorem X0_0 : errX (beginX 3 [3, 6]) = 0 := by decide +kernel
theorem XA_x : errX (lastSet XA 0 1 0 1) = 1 := by decide +kernel
theorem XA_y : errX (wireSet XA 0 1 (((XA.wires.getD 0 []).getD 1 []).set 0 { ((XA.wires.getD 0 []).getD 1 []).getD 0 M.zero with src := 1 })) = 1 := by decide +kernel
theorem XA_z : errX (wireSet XA 0 2 ((XA.wires.getD 0 []).getD 1 [])) = 1 := by decide +kernel
theorem XA_n : XA.nodes.length = 3 ∧ XA.wires.length = 3 ∧ XA.groups.length = 2 ∧ (XA.nodes.getD 0 N.zero).last.length = 2 ∧ ((XA.nodes.getD 0 N.zero).last.getD 1 []).length = 3 ∧ (XA.wires.getD 0 []).length = 3 ∧ ((XA.wires.getD 0 []).getD 1 []).length = 1 := by decide +kernel
theorem XN_3 : errX Wd.none = 3 := by decide +kernel
theorem bF0 : beginF 3 [3, 6] = (0, beginX 3 [3, 6]) := rfl
theorem bF1 : beginF 3 [] = (2, Wd.none) := rfl

end Go.Proofs.YtgifclphigpnhaaGreat
