/-
  Groups: the loop over all groups that have these nodes, and who goes round it: Of, Share.
  The program: is a world right, and are there such nodes?
  The program: how far a node is.
  The program: how many are ready; how far is a node, errors too.
  The program: what is ready of a node, errors too.
-/
import Derived.RangeFuncNested
import Derived.RangeFuncBound
import Derived.RangeFuncCalls
import Derived.RangeFuncLeaves
import Derived.RangeFuncBox
import Derived.Shelf.Abstract
import Derived.Shelf.RegionOpen
import Derived.OwnWalkIn
import Derived.TacticsInMore
import Derived.LoopNIn
import Derived.LoopIn
import Derived.Maps.AppendAt
import Derived.Test.YtnalakhelicjcaaVKG
import Derived.Test.YtnalakhelicjcaaVKL
import Derived.Test.YtnalakhelicjcaaVKB
import Derived.Test.YtnalakhelicjcaaVKJ
import Derived.Test.YtnalakhelicjcaaVKE
namespace Go.Proofs.Ytnalakhelicjcaa
open Go.RowKit Go.Shelf
attribute [local go_sem] Oper.semAt_some
/-- The groups up to k that have all of ns. -/
def both (xs ns : List Int) (k : Nat) : List Int := ((List.range k).filter fun (j : Nat) => !ns.any fun n => !hasB xs (j : Int) n).map fun (j : Nat) => (j : Int)
end Go.Proofs.Ytnalakhelicjcaa

set_option maxRecDepth 100000
namespace Go.Proofs.Ytnalakhelicjcaa
open Go.RowKit Go.Shelf Go.BigFrame

end Go.Proofs.Ytnalakhelicjcaa

set_option maxRecDepth 100000
namespace Go.Proofs.Ytnalakhelicjcaa
open Go.RowKit Go.Shelf Go.BigFrame
attribute [local go_sem] Oper.semAt_some

end Go.Proofs.Ytnalakhelicjcaa

set_option maxRecDepth 100000
namespace Go.Proofs.Ytnalakhelicjcaa
open Go.RowKit Go.Shelf Go.BigFrame

end Go.Proofs.Ytnalakhelicjcaa

set_option maxRecDepth 100000
namespace Go.Proofs.Ytnalakhelicjcaa
open Go.RowKit Go.Shelf Go.BigFrame

theorem Msgs.take {w : World} {a : Option Addr} {n cap : Nat} {ms : List M} (h : Msgs w (.slice a n cap) ms) {k : Nat} (hk : k ≤ ms.length) : Row w (.slice a k cap) k 5 ((ms.take k).flatMap M.cells) := by
  obtain ⟨_, h1, h2, a', cap', h3, h4, h5⟩ := h
  cases h3
  rw [flat_len] at h2
  refine ⟨by rw [flat_len, List.length_take]; omega, by rw [flat_len, List.length_take]; omega, a, cap, rfl, by omega, fun hn => ?_⟩
  obtain ⟨b, off, ha, hc⟩ := h5 (by omega)
  refine ⟨b, off, ha, fun j hj => ?_⟩
  rw [← flat_take] at hj ⊢
  rw [List.length_take] at hj
  rw [hc j (by omega), List.getD_eq_getElem?_getD, List.getD_eq_getElem?_getD, List.getElem?_take, if_pos (by omega)]

/-- A beginning of a list of messages. -/
theorem Msgs.takes {w : World} {a : Option Addr} {n cap : Nat} {ms : List M} (h : Msgs w (.slice a n cap) ms) {k : Nat} (hk : k ≤ ms.length) : Msgs w (.slice a k cap) (ms.take k) := by
  refine ⟨fun m hm => h.1 m (List.mem_of_mem_take hm), ?_⟩
  have := h.take hk
  rwa [List.length_take, Nat.min_eq_left hk]
end Go.Proofs.Ytnalakhelicjcaa
