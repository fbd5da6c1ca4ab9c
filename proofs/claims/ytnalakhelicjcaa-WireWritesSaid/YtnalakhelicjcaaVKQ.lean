/-
  The program: a node of a world of one's own holds a message, and is told what is ready.
  A world of the call's own: one message more on a wire.
-/
import Derived.Test.YtnalakhelicjcaaVKP
import Derived.Test.YtnalakhelicjcaaVKN
import Derived.Test.YtnalakhelicjcaaVKB
import Derived.Test.YtnalakhelicjcaaVKC
set_option maxRecDepth 100000
namespace Go.Proofs.Ytnalakhelicjcaa
open Go.RowKit Go.Shelf Go.BigFrame

end Go.Proofs.Ytnalakhelicjcaa

set_option maxRecDepth 100000
namespace Go.Proofs.Ytnalakhelicjcaa
open Go.RowKit Go.Shelf Go.BigFrame

end Go.Proofs.Ytnalakhelicjcaa
