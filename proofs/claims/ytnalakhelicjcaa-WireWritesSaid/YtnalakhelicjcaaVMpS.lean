/-
  A set of numbers as a map that the call has made: a store, a range over it.
-/
import Derived.Test.YtnalakhelicjcaaVMkP
import Derived.Test.YtnalakhelicjcaaVOLt
import Derived.Maps.RangeWalk
import Derived.Maps.OwnSet
import Derived.Maps.Ext
namespace Go.Proofs.Ytnalakhelicjcaa
open Go.RowKit Go.Deep Go.Maps Go.WideShapes
open Go.WideElems (Fit rg rd_key rg_of)

/-- How D reads as a set. -/
def SetD (D : DataW Unit) (f : St) : Prop := (∀ x : Int, Maps.has D (.int .i64 x) = (decide (0 ≤ x) && f x.toNat)) ∧ ∀ i, f i = true → i < 100
/-- Block b is a map that holds just the numbers of f. -/
def SetAt (w : World) (b : Nat) (f : St) : Prop := ∃ n D, w.ownsMap Try.prog 3 (plainElem (H := Unit) Try.prog 4) b n D ∧ SetD D f
theorem SetAt.made (w : World) : SetAt (w.alloc (.map #[] 0)) w.heap.size emptyS :=
  ⟨0, .map [], World.ownsMap_made _ _ _ _, fun x => by simp [emptyS, Maps.has], fun i h => by cases h⟩
theorem SetAt.keep {w w' : World} {b : Nat} {f : St} (h : SetAt w b f) (k : w'.heap[b]? = w.heap[b]?) : SetAt w' b f := by
  obtain ⟨n, D, ⟨es, cl, h1, h2⟩, h3⟩ := h
  exact ⟨n, D, ⟨es, cl, k.trans h1, h2⟩, h3⟩
theorem SetAt.lt {w : World} {b : Nat} {f : St} (h : SetAt w b f) : b < w.heap.size := by
  obtain ⟨n, D, h1, _⟩ := h
  exact h1.lt

/-- One number more. -/
theorem SetAt.put {w : World} {b n : Nat} {D : DataW Unit} {f : St} {i : Nat} (h : w.ownsMap Try.prog 3 (plainElem (H := Unit) Try.prog 4) b n (D.put (.int .i64 (i : Int)) (.lit (.bool true)))) (hm : IsMap D) (hD : SetD D f) (hi : i < 100) : SetAt w b (fun j => f j || j == i) := by
  refine ⟨n, _, h, fun x => ?_, fun j hj => ?_⟩
  · by_cases e : x = (i : Int)
    · subst e
      rw [has_put_same hm (by simp [WideAt.IsKeyLit])]
      simp
    · rw [has_put_other (by simpa using e), hD.1 x]
      show _ = (decide (0 ≤ x) && (f x.toNat || x.toNat == i))
      by_cases hx : 0 ≤ x
      · have : (x.toNat == i) = false := by simp; omega
        rw [this]
        simp
      · simp [hx]
  · rw [Bool.or_eq_true] at hj
    rcases hj with hj | hj
    · exact hD.2 j hj
    · have : j = i := by simpa using hj
      omega

/-- A range over the set of block b: l are still to come. -/
def SetRg (w : World) (b r : Nat) (f l : St) (cnt : Nat) : Prop := ∃ D left, w.ranges Try.prog 3 (plainElem (H := Unit) Try.prog 4) b r 100 D left cnt ∧ SetD D f ∧ (∀ x : Int, left (.int .i64 x) = (decide (0 ≤ x) && l x.toNat)) ∧ ∀ i, l i = true → f i = true
theorem SetRg.keep {w w' : World} {b r cnt : Nat} {f l : St} (h : SetRg w b r f l cnt) (k1 : w'.heap[b]? = w.heap[b]?) (k2 : w'.heap[r]? = w.heap[r]?) : SetRg w' b r f l cnt := by
  obtain ⟨D, left, ⟨es, clock, since, seen, c0, h1, h2, h3, h4, h5, h6⟩, h7⟩ := h
  exact ⟨D, left, ⟨es, clock, since, seen, c0, k1.trans h1, h2, h3, h4, k2.trans h5, h6⟩, h7⟩
theorem SetRg.at {w : World} {b r cnt : Nat} {f l : St} (h : SetRg w b r f l cnt) : SetAt w b f := by
  obtain ⟨D, left, h, h2, _⟩ := h
  exact ⟨100, D, h.owns, h2⟩
theorem SetRg.bound {w : World} {b r cnt : Nat} {f l : St} (h : SetRg w b r f l cnt) {i : Nat} (hi : l i = true) : f i = true ∧ i < 100 := by
  obtain ⟨D, left, _, h2, _, h4⟩ := h
  exact ⟨h4 i hi, h2.2 i (h4 i hi)⟩
section
variable (w : World) {ops : Array Oper} {rest : List Oper} {o : Oper} {a : Act} {Q : Exit → Act → World → Prop}
end
end Go.Proofs.Ytnalakhelicjcaa
