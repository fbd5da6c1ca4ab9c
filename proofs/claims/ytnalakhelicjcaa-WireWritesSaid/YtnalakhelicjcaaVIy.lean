/-
  Draining, rounds, calm, in steps; in a calm world nobody holds anything, and nothing is on its way.
-/
import Derived.Test.YtnalakhelicjcaaVIx
import Derived.Test.YtnalakhelicjcaaVKCa
set_option maxRecDepth 100000
namespace Go.Proofs.Ytnalakhelicjcaa
open Go.RowKit

/-- Steps whose casts are Nulls. -/
inductive NSteps (X : Wd) : Nat → Wd → Prop
  | refl : NSteps X 0 X
  | move {k : Nat} {Y Z : Wd} {a b : Nat} {m : M} (h : NSteps X k Y) (s : Mv Y a b m Z) : NSteps X k Z
  | cast {k : Nat} {Y Z : Wd} {n : Nat} {m : M} (h : NSteps X k Y) (s : Sn Y n m Z) (h0 : m.null = true) : NSteps X (k + 1) Z
theorem NSteps.trans {X Y Z : Wd} {j k : Nat} (h : NSteps X j Y) (h2 : NSteps Y k Z) : NSteps X (j + k) Z := by
  induction h2 with
  | refl => exact h
  | move _ s ih => exact .move ih s
  | cast _ s h0 ih => exact .cast ih s h0
/-- No cast: what is empty stays so. -/
theorem NSteps.empty {X Y : Wd} {k : Nat} (h : NSteps X k Y) (h0 : k = 0) {c d : Nat} (he : wireL X c d = []) : wireL Y c d = [] := by
  induction h with
  | refl => exact he
  | @move k Y Z a b m _ s ih =>
    have := ih h0
    by_cases e : c = a ∧ d = b
    · obtain ⟨rfl, rfl⟩ := e
      obtain ⟨l, hl, _⟩ := s.first
      rw [hl] at this
      cases this
    · rw [s.wires c d e]; exact this
  | cast => cases h0

end Go.Proofs.Ytnalakhelicjcaa
