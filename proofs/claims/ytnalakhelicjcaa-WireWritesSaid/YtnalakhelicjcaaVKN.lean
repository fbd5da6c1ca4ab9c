/-
  slices.Grow of nothing, slices.Concat of lists of messages: a new row of all of them.
  The program: a node of a world of one's own is told what is ready.
  A slice of the call's own, of which the first k elements are own already, and the others still another's.
  A region that draws its order among calls that make memory of their own: whichever comes first, what comes of each is told once; loads taken where some operations have come up already. Nothing of a program.
  The program: a world of its own.
-/
import Derived.Test.YtnalakhelicjcaaVKW
import Derived.Test.YtnalakhelicjcaaVKO
import Derived.Test.YtnalakhelicjcaaVKA
import Derived.Lib.AppendZerosOnto
import Derived.Test.YtnalakhelicjcaaVKT
import Derived.Test.YtnalakhelicjcaaVKB
import Derived.Test.YtnalakhelicjcaaVKS3
set_option maxRecDepth 100000
namespace Go.Proofs.Ytnalakhelicjcaa
open Go.RowKit Go.Shelf Go.BigFrame

end Go.Proofs.Ytnalakhelicjcaa

set_option maxRecDepth 100000
namespace Go.Proofs.Ytnalakhelicjcaa
open Go.RowKit Go.Shelf Go.BigFrame

/-- A literal of two slices of messages, newly laid. -/
theorem MsgRows.two {w' : World} {a b : Value} {x y : List M} (h1 : Msgs w' a x) (h2 : Msgs w' b y) {B : Nat} (k0 : w'.cell? ⟨B, 0, none⟩ = some a) (k1 : w'.cell? ⟨B, 1, none⟩ = some b) : MsgRows w' (.slice (some ⟨B, 0, none⟩) 2 2) [x, y] := by
  refine ⟨[[a], [b]], rfl, by simp, ⟨rfl, by simp, _, _, rfl, by simp, fun _ => ⟨B, 0, rfl, fun k hk => ?_⟩⟩, fun i h1' h2' => ?_⟩
  · match k, hk with
    | 0, _ => exact k0
    | 1, _ => exact k1
  · match i, h1' with
    | 0, _ => exact ⟨a, rfl, h1⟩
    | 1, _ => exact ⟨b, rfl, h2⟩
end Go.Proofs.Ytnalakhelicjcaa

namespace Go.Proofs.Ytnalakhelicjcaa
open Go.RowKit

section
variable {α : Type} {El : World → List Value → α → Prop} {OEl : ElO α} {w0 w : World} {xs : List α} {k : Nat}
/-- An element: own, or another's. -/
def Mix (w0 : World) (El : World → List Value → α → Prop) (OEl : ElO α) : ElO (Bool × α) := fun w T cs x => (x.1 = true → OEl w T cs x.2) ∧ (x.1 = false → El w0 cs x.2)
theorem Mix.stays (h : OStays OEl) : OStays (Mix w0 El OEl) := fun w w' T cs x hx hl => ⟨fun e => h w w' T cs x.2 (hx.1 e) hl, hx.2⟩
end

theorem ints_one {w : World} {v : Value} {l : List Int} (h : Ints w v l) : v.oneCell' = true := by obtain ⟨_, a, cap, rfl, _⟩ := h.open; rfl
theorem msgs_one {w : World} {v : Value} {l : List M} (h : Msgs w v l) : v.oneCell' = true := by obtain ⟨_, a, cap, rfl, _⟩ := h.open; rfl
theorem IntsEl.one : ∀ w cs x, IntsEl w cs x → ∀ u ∈ cs, u.oneCell' = true := by
  rintro w cs x ⟨u, rfl, h⟩ v hv
  obtain rfl : v = u := by simpa using hv
  exact ints_one h
theorem MsgsEl.one : ∀ w cs x, MsgsEl w cs x → ∀ u ∈ cs, u.oneCell' = true := by
  rintro w cs x ⟨u, rfl, h⟩ v hv
  obtain rfl : v = u := by simpa using hv
  exact msgs_one h
theorem MsgRowsEl.one : ∀ w cs x, MsgRowsEl w cs x → ∀ u ∈ cs, u.oneCell' = true := by
  rintro w cs x ⟨u, rfl, h⟩ v hv
  obtain rfl : v = u := by simpa using hv
  obtain ⟨_, a, cap, rfl, _⟩ := h.form
  rfl
theorem NodeEl.one : ∀ w cs x, NodeEl w cs x → ∀ u ∈ cs, u.oneCell' = true := by
  rintro w cs x ⟨lv, hv, tv, rfl, _, h1, h2, h3⟩ u hu
  obtain ⟨_, a, cap, rfl, _⟩ := h1.form
  simp only [List.mem_cons, List.not_mem_nil, or_false] at hu
  rcases hu with rfl | rfl | rfl | rfl
  · rfl
  · rfl
  · exact msgs_one h2
  · exact msgs_one h3
end Go.Proofs.Ytnalakhelicjcaa

namespace Go.Proofs.Ytnalakhelicjcaa
open Go.RowKit
section
variable {P : Program} {ops : Array Oper} {Q : Exit → Act → World → Prop} {md : Region.Mode} {S : World → Prop} {n : Nat}

/-- The call of a function, the arguments known. -/
def Enters (P : Program) (o : Oper) (a : Act) (f : FuncId) (args : Array Value) : Prop := ∀ w : World, (execOp a.eval o).run P w = .ok (.enter f args) w
/-- A value's block is new. -/
def InNew (w w' : World) (v : Value) : Prop := ∀ b, v.ownBlock = some b → w.heap.size ≤ b ∧ b < w'.heap.size
/-- Two values lie in two blocks. -/
def Off (v u : Value) : Prop := ∀ b, v.ownBlock = some b → u.ownBlock ≠ some b
theorem InNew.off {a b c : World} {v u : Value} (h : InNew a b v) (k : InNew b c u) : Off v u := fun x hx hy => by have := (h x hx).2; have := (k x hy).1; omega
theorem Off.symm {v u : Value} (h : Off v u) : Off u v := fun x hx hy => h x hy hx

theorem Enters.put {o : Oper} {a : Act} {f : FuncId} {args : Array Value} {d : Option Tmp} {v : Value} (h : Enters P o a f args) (hs : ∀ cs b, o.op ≠ .select cs b) (hd : ∀ t, d = some t → t ∉ o.looksAt ops) : Enters P o (a.put d v) f args := by
  intro w
  rw [execOp_put o hs a d v hd]
  exact h w
end
end Go.Proofs.Ytnalakhelicjcaa

set_option maxRecDepth 100000
namespace Go.Proofs.Ytnalakhelicjcaa
open Go.RowKit Go.Shelf Go.BigFrame

end Go.Proofs.Ytnalakhelicjcaa
