/-
  Worlds, the document's answer: two that are the same are the same.
-/
import Derived.Test.YtnalakhelicjcaaYKE
import Derived.Test.YtnalakhelicjcaaYKG
import Derived.Test.YtnalakhelicjcaaYKO
import Derived.Deep.CutRange
set_option maxRecDepth 100000
namespace Go.Proofs.Ytnalakhelicjcaa
open Go.RowKit Go.Shelf Go.BigFrame

end Go.Proofs.Ytnalakhelicjcaa
