/-
  Sending, the plain law: what comes is right; the message is behind all on each other member's wire, and nowhere else.
  A drawn region whose operations behind the first calls only read: from there on one walk in the text's order.
-/
import Derived.Test.YtnalakhelicjcaaVKP
import Derived.Test.YtnalakhelicjcaaVKD
import Derived.Test.YtnalakhelicjcaaVKN
import Derived.Deep.QuietTactic
import Derived.BigQuiet
set_option maxRecDepth 100000
namespace Go.Proofs.Ytnalakhelicjcaa
open Go.RowKit

end Go.Proofs.Ytnalakhelicjcaa

set_option maxRecDepth 100000
namespace Go.Proofs.Ytnalakhelicjcaa
open Go.RowKit Go.Shelf Go.BigFrame

section
variable {P : Program} {md : Region.Mode} {Q : Exit → Act → World → Prop}
end
end Go.Proofs.Ytnalakhelicjcaa
