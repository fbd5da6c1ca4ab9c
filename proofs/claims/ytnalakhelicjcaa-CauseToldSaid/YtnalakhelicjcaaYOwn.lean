/-
  The document's answer: a world of its own.
-/
import Derived.Test.YtnalakhelicjcaaYKO
set_option maxRecDepth 100000
namespace Go.Proofs.Ytnalakhelicjcaa
open Go.RowKit Go.Shelf Go.BigFrame

end Go.Proofs.Ytnalakhelicjcaa
