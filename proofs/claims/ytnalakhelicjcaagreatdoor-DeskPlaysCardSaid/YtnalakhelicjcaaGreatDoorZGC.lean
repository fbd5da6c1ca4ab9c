/-
  A world of the call's own: a message changed in place; one wire laid for another.
-/
import Derived.Test.YtnalakhelicjcaaGreatDoorZKC
import Derived.Test.YtnalakhelicjcaaGreatDoorZKB
namespace Go.Proofs.YtnalakhelicjcaaGreatDoor
open Go.RowKit Go.Deep
section
variable {α:Type} {El:ElO α} {o:Bool} {e:TypeId} {s:Nat} {w:World} {S:Nat → Prop} {v:Value} {xs:List α}
end
section
variable {o:Bool} {w:World} {S:Nat → Prop} {gv nv wv:Value} {X:Wd}
end
end Go.Proofs.YtnalakhelicjcaaGreatDoor
namespace Go.Proofs.YtnalakhelicjcaaGreatDoor
open Go.RowKit Go.Deep
end Go.Proofs.YtnalakhelicjcaaGreatDoor
set_option maxRecDepth 100000
namespace Go.Proofs.YtnalakhelicjcaaGreatDoor
open Go.RowKit
theorem boundS_le (X:Wd) (n g k:Nat) (a:Int):boundS X n g k a ≤ a:=by
 unfold boundS
 split
 ·omega
 ·exact Int.le_refl _
theorem boundG_anti (X:Wd) (n g:Nat) (a:Int) {m m':Nat} (h:m ≤ m'):boundG X n g m' a ≤ boundG X n g m a:=by
 induction m' with
 | zero=>rw [show m = 0 by omega];exact Int.le_refl _
 | succ m' ih =>
  by_cases e:m = m' + 1
  ·rw [e];exact Int.le_refl _
  ·rw [boundG_succ]
   exact Int.le_trans (boundS_le _ _ _ _ _) (ih (by omega))
theorem boundG_le (X:Wd) (n g m:Nat) (a:Int):boundG X n g m a ≤ a:=boundG_anti X n g a (Nat.zero_le m)
theorem boundM_anti (X:Wd) (n:Nat) {m m':Nat} (h:m ≤ m'):boundM X n m' ≤ boundM X n m:=by
 induction m' with
 | zero=>rw [show m = 0 by omega];exact Int.le_refl _
 | succ m' ih =>
  by_cases e:m = m' + 1
  ·rw [e];exact Int.le_refl _
  ·rw [boundM_succ]
   exact Int.le_trans (boundG_le _ _ _ _ _) (ih (by omega))
theorem boundX_clock (X:Wd) (n:Nat):boundX X n ≤ (X.nodes.getD n N.zero).clock:=boundM_anti X n (Nat.zero_le _)
theorem boundX_last {X:Wd} {n g k:Nat} (hg:g < X.groups.length) (hk:k < X.nodes.length) (hn:k ≠ n) (h1:hasB X.groups g n = true) (h2:hasB X.groups g k = true) :
  boundX X n ≤ ((X.nodes.getD n N.zero).last.getD g []).getD k 0:=by
 have h:=boundM_anti X n (show g + 1 ≤ X.groups.length from hg)
 rw [boundM_succ] at h
 have h3:=boundG_anti X n g (boundM X n g) (show k + 1 ≤ X.nodes.length from hk)
 rw [boundG_succ] at h3
 have h4:boundS X n g k (boundG X n g k (boundM X n g)) ≤ ((X.nodes.getD n N.zero).last.getD g []).getD k 0:=by
  unfold boundS
  rw [if_pos (by simp [hn,h1,h2])]
  omega
 exact Int.le_trans h (Int.le_trans h3 h4)
end Go.Proofs.YtnalakhelicjcaaGreatDoor
