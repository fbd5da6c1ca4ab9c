/-
  One step of a right world, in plain words: what a message that comes, or is cast, changes.
-/
import Derived.Test.YtnalakhelicjcaaVKCa
import Derived.Test.YtnalakhelicjcaaVKB3
set_option maxRecDepth 100000
namespace Go.Proofs.Ytnalakhelicjcaa
open Go.RowKit

def nd (X : Wd) (n : Nat) : N := X.nodes.getD n N.zero
/-- What node n has heard of node k in group g. -/
def heard (X : Wd) (n g k : Nat) : Int := ((nd X n).last.getD g []).getD k 0
/-- A node has held a message (none, if it is a Null), and was told what was ready. -/
structure Kept (h t : List M) (m : M) (Y : Wd) (n : Nat) : Prop where
  parts : ∃ R, (nd Y n).told = t ++ R ∧ R ++ (nd Y n).held = (if m.null = true then h else putM h m) ∧ ∀ x ∈ R, x.stamp ≤ boundX Y n
  left : ∀ x ∈ (nd Y n).held, boundX Y n < x.stamp
/-- The first message of a wire came. -/
structure Mv (X : Wd) (a b : Nat) (m : M) (Y : Wd) : Prop where
  at_ : a < X.nodes.length ∧ b < X.nodes.length ∧ a ≠ b
  like : Like X Y
  first : ∃ l, wireL X a b = m :: l ∧ wireL Y a b = l
  wires : ∀ c d, ¬ (c = a ∧ d = b) → wireL Y c d = wireL X c d
  others : ∀ k, k ≠ b → nd Y k = nd X k
  clock : (nd Y b).clock = max (nd X b).clock m.stamp
  hrd : ∀ g k, g < X.groups.length → k < X.nodes.length → heard Y b g k = if (g : Int) = m.grp ∧ k = a then max (heard X b g k) m.stamp else heard X b g k
  kept : Kept (nd X b).held (nd X b).told m Y b
/-- A message was cast. -/
structure Sn (X : Wd) (n : Nat) (m : M) (Y : Wd) : Prop where
  at_ : n < X.nodes.length
  src : m.src = (n : Int)
  stamp : m.stamp = (nd X n).clock + 1
  fine : msgE X.nodes.length X.groups m = 0
  mem : hasB X.groups m.grp n = true
  like : Like X Y
  wires : ∀ a b, a < X.nodes.length → b < X.nodes.length → wireL Y a b = if a = n ∧ b ≠ n ∧ hasB X.groups m.grp b = true then wireL X a b ++ [m] else wireL X a b
  others : ∀ k, k ≠ n → nd Y k = nd X k
  clock : (nd Y n).clock = (nd X n).clock + 1
  last : (nd Y n).last = (nd X n).last
  kept : Kept (nd X n).held (nd X n).told m Y n
/-- One step. -/
inductive Step (X Y : Wd) : Prop where
  | move {a b : Nat} {m : M} (h : Mv X a b m Y) : Step X Y
  | cast {n : Nat} {m : M} (h : Sn X n m Y) : Step X Y
theorem Step.like {X Y : Wd} (h : Step X Y) : Like X Y := by
  cases h with
  | move h => exact h.like
  | cast h => exact h.like
end Go.Proofs.Ytnalakhelicjcaa
