/-
  The document's answer: a world's beginning.
-/
import Derived.Test.YtnalakhelicjcaaYKO
import Derived.Deep.RegionHeld3
import Derived.Deep.OwnRows
set_option maxRecDepth 100000
namespace Go.Proofs.Ytnalakhelicjcaa
open Go.RowKit Go.Shelf Go.BigFrame

def beginX (n : Nat) (gs : List Int) : Wd := ⟨gs, List.replicate n ⟨0, List.replicate gs.length (List.replicate n 0), [], []⟩, List.replicate n (List.replicate n [])⟩
/-- What make lays, elements of one cell. -/
theorem OSl.made {α : Type} {El : ElO α} {e : TypeId} {z : Value} {x : α} (w : World) (n : Nat) (h : ∀ w, El w (fun _ => False) [z] x) (hn : n * 1 * 8 ≤ 140737488351232) :
    OSl El true e 1 (w.alloc (.cells (madeCells #[z] n) e)) (fun b => b = w.heap.size) (.slice (some ⟨w.heap.size, 0, none⟩) n n) (List.replicate n x) := by
  have hr := World.rowIs_made w z n e
  obtain ⟨c, hc, hcn, _⟩ := hr
  refine .inr ⟨w.heap.size, 0, n, fun _ _ => False, by simp, rfl, ⟨c, hc, by omega⟩, by simp, by unfold maxLen; omega, fun _ => rfl, by simpa using hn, fun i hi => ⟨[z], rfl, fun j hj => ?_, ?_⟩, fun _ _ h => h.elim, fun _ _ _ h => h.elim⟩
  · obtain rfl : j = 0 := by omega
    rw [List.length_replicate] at hi
    rw [Nat.zero_add, Nat.mul_one, Nat.add_zero, (World.rowIs_made w z n e).cell hi]; rfl
  · rw [List.getElem_replicate]; exact h _
theorem rep_succ {α : Type} (k : Nat) (x : α) : List.replicate (k + 1) x = List.replicate k x ++ [x] := List.replicate_succ'

end Go.Proofs.Ytnalakhelicjcaa
