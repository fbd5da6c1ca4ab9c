/-
  Worlds, the document's answer: is the world right, are there such nodes?
  Worlds, the document's answer: may it move; how far is a node, errors too.
  Worlds, the document's answer: what is ready, errors too.
-/
import Derived.Test.YtnalakhelicjcaaYKW
import Derived.Test.YtnalakhelicjcaaYKB
set_option maxRecDepth 100000
namespace Go.Proofs.Ytnalakhelicjcaa
open Go.RowKit Go.Shelf Go.BigFrame

def nodeE (X : Wd) (n : Int) : Int := if errX X = 0 then if inB n 0 ((X.nodes.length : Int) - 1) = true then 0 else 4 else errX X

end Go.Proofs.Ytnalakhelicjcaa

set_option maxRecDepth 100000
namespace Go.Proofs.Ytnalakhelicjcaa
open Go.RowKit Go.Shelf Go.BigFrame

def moveE (X : Wd) (a b : Int) : Int := if nodeE X a = 0 then nodeE X b else nodeE X a
theorem nodeE_ok {X : Wd} {n : Int} (h : nodeE X n = 0) : errX X = 0 ∧ 0 ≤ n ∧ n < X.nodes.length := by
  unfold nodeE at h
  split at h
  · rename_i he
    split at h
    · rename_i hi
      simp only [inB, Bool.and_eq_true, decide_eq_true_eq] at hi
      exact ⟨he, hi.1, by omega⟩
    · cases h
  · rename_i he
    exact absurd h he

end Go.Proofs.Ytnalakhelicjcaa

set_option maxRecDepth 100000
namespace Go.Proofs.Ytnalakhelicjcaa
open Go.RowKit Go.Shelf Go.BigFrame

end Go.Proofs.Ytnalakhelicjcaa
