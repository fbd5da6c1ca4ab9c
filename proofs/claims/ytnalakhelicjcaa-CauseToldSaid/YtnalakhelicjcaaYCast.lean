/-
  Worlds, the document's answer: a message is cast.
-/
import Derived.Test.YtnalakhelicjcaaYKC
set_option maxRecDepth 100000
namespace Go.Proofs.Ytnalakhelicjcaa
open Go.RowKit Go.Shelf Go.BigFrame

end Go.Proofs.Ytnalakhelicjcaa
