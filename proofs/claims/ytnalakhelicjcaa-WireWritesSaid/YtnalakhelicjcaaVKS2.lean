/-
  The program's first world.
  The program begins a world, errors too.
-/
import Derived.Test.YtnalakhelicjcaaVBeg
import Derived.Deep.CutRange
import Derived.Test.YtnalakhelicjcaaVKD
set_option maxRecDepth 100000
namespace Go.Proofs.Ytnalakhelicjcaa
open Go.RowKit Go.Shelf Go.BigFrame

end Go.Proofs.Ytnalakhelicjcaa

set_option maxRecDepth 100000
namespace Go.Proofs.Ytnalakhelicjcaa
open Go.RowKit Go.Shelf Go.BigFrame

theorem gErr_small {nodes : Int} {gs : List Int} (hg : gErr nodes gs = 0) : 1 ≤ nodes ∧ nodes ≤ 4 ∧ gs.length ≤ 3 := by
  unfold gErr at hg
  unfold inB at hg
  refine ⟨?_, ?_, ?_⟩ <;> (split at hg <;> first | (split at hg <;> first | (simp at *; omega) | cases hg) | cases hg)
end Go.Proofs.Ytnalakhelicjcaa
