/-
  A world of the call's own: a message changed in place; one wire laid for another.
-/
import Derived.Test.YtnalakhelicjcaaVKC
namespace Go.Proofs.Ytnalakhelicjcaa
open Go.RowKit Go.Deep

section
variable {α : Type} {El : ElO α} {o : Bool} {e : TypeId} {s : Nat} {w : World} {S : Nat → Prop} {v : Value} {xs : List α}
end
section
variable {o : Bool} {w : World} {S : Nat → Prop} {gv nv wv : Value} {X : Wd}
end
end Go.Proofs.Ytnalakhelicjcaa
