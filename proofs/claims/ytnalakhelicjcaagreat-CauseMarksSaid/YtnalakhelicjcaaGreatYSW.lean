/-
  Worlds, the document's answer: two that are the same are the same.
-/
import Derived.Test.YtnalakhelicjcaaGreatYKE
import Derived.Test.YtnalakhelicjcaaGreatYKG
import Derived.Test.YtnalakhelicjcaaGreatYKO
import Derived.Deep.CutRange
set_option maxRecDepth 100000
namespace Go.Proofs.YtnalakhelicjcaaGreat
open Go.RowKit Go.Shelf Go.BigFrame
theorem sameMs_self (xs:List M):sameMs xs xs = true:=sameMs_iff.2 rfl
end Go.Proofs.YtnalakhelicjcaaGreat
