/-
  The scribe in memory, and what the stores leave of it.
-/
import Derived.Test.YtnalakhelicjcaaVLn
import Derived.Test.YtnalakhelicjcaaVKO
set_option maxRecDepth 100000
namespace Go.Proofs.Ytnalakhelicjcaa
open Go.RowKit Go.Deep

/-- A box of five cells, laid anew. -/
theorem five_put {w : World} {F : Nat} {e : TypeId} (h : BlkIs w F e 5) (v0 v1 v2 v3 v4 : Value) :
    BlkIs (((((w.setCell ⟨F, 0, none⟩ v0).setCell ⟨F, 1, none⟩ v1).setCell ⟨F, 2, none⟩ v2).setCell ⟨F, 3, none⟩ v3).setCell ⟨F, 4, none⟩ v4) F e 5 ∧
    (((((w.setCell ⟨F, 0, none⟩ v0).setCell ⟨F, 1, none⟩ v1).setCell ⟨F, 2, none⟩ v2).setCell ⟨F, 3, none⟩ v3).setCell ⟨F, 4, none⟩ v4).cell? ⟨F, 0, none⟩ = some v0 ∧
    (((((w.setCell ⟨F, 0, none⟩ v0).setCell ⟨F, 1, none⟩ v1).setCell ⟨F, 2, none⟩ v2).setCell ⟨F, 3, none⟩ v3).setCell ⟨F, 4, none⟩ v4).cell? ⟨F, 1, none⟩ = some v1 ∧
    (((((w.setCell ⟨F, 0, none⟩ v0).setCell ⟨F, 1, none⟩ v1).setCell ⟨F, 2, none⟩ v2).setCell ⟨F, 3, none⟩ v3).setCell ⟨F, 4, none⟩ v4).cell? ⟨F, 2, none⟩ = some v2 ∧
    (((((w.setCell ⟨F, 0, none⟩ v0).setCell ⟨F, 1, none⟩ v1).setCell ⟨F, 2, none⟩ v2).setCell ⟨F, 3, none⟩ v3).setCell ⟨F, 4, none⟩ v4).cell? ⟨F, 3, none⟩ = some v3 ∧
    (((((w.setCell ⟨F, 0, none⟩ v0).setCell ⟨F, 1, none⟩ v1).setCell ⟨F, 2, none⟩ v2).setCell ⟨F, 3, none⟩ v3).setCell ⟨F, 4, none⟩ v4).cell? ⟨F, 4, none⟩ = some v4 := by
  refine ⟨h.setCell.setCell.setCell.setCell.setCell, ?_, ?_, ?_, ?_, ?_⟩
  · rw [cell_setCell 0 (by omega), cell_setCell 0 (by omega), cell_setCell 0 (by omega), cell_setCell 0 (by omega), h.cell_set (by omega)]
  · rw [cell_setCell 1 (by omega), cell_setCell 1 (by omega), cell_setCell 1 (by omega), h.setCell.cell_set (by omega)]
  · rw [cell_setCell 2 (by omega), cell_setCell 2 (by omega), h.setCell.setCell.cell_set (by omega)]
  · rw [cell_setCell 3 (by omega), h.setCell.setCell.setCell.cell_set (by omega)]
  · rw [h.setCell.setCell.setCell.setCell.cell_set (by omega)]
/-- The scribe in block B; the colours tell whose a block is: the world's (1), of what was sent (2), ahead (3), known (4). -/
structure ScAt (base : Nat) (w : World) (B : Nat) (c : Nat → Nat) (gv nv wv sv av kv : Value) (s : Sc) : Prop where
  box : BlkIs w B 61 6
  c0 : w.cell? ⟨B, 0, none⟩ = some gv
  c1 : w.cell? ⟨B, 1, none⟩ = some nv
  c2 : w.cell? ⟨B, 2, none⟩ = some wv
  c3 : w.cell? ⟨B, 3, none⟩ = some sv
  c4 : w.cell? ⟨B, 4, none⟩ = some av
  c5 : w.cell? ⟨B, 5, none⟩ = some kv
  X : OWd false w (fun b => c b = 1) gv nv wv s.X
  S : OMsgs true w (fun b => c b = 2) sv s.sent
  A : OSets w (fun b => c b = 3) av s.ahead
  K : OSets w (fun b => c b = 4) kv s.known
  b : ∀ b, c b ≠ 0 → base ≤ b ∧ b < w.heap.size
  B0 : base ≤ B
  cB : c B = 0
namespace ScAt
variable {base B : Nat} {w w' : World} {c : Nat → Nat} {gv nv wv sv av kv : Value} {s : Sc}
theorem lt (h : ScAt base w B c gv nv wv sv av kv s) : B < w.heap.size := h.box.lt
theorem keep (h : ScAt base w B c gv nv wv sv av kv s) (k : Lies (fun b => b < w.heap.size) w w') (hs : w.heap.size ≤ w'.heap.size) : ScAt base w' B c gv nv wv sv av kv s := by
  have hB := k B h.lt
  have hl : ∀ j, Lies (fun b => c b = j + 1) w w' := fun j b hb => k b (h.b b (by omega)).2
  have hc : ∀ {j : Nat} {v : Value}, w.cell? ⟨B, j, none⟩ = some v → w'.cell? ⟨B, j, none⟩ = some v := fun hv => (World.cell?_of_block (w := w) hB).trans hv
  exact ⟨h.box.same hB, hc h.c0, hc h.c1, hc h.c2, hc h.c3, hc h.c4, hc h.c5, h.X.keep (hl 0), h.S.keep (hl 1), h.A.keep (hl 2), h.K.keep (hl 3), fun b hb => ⟨(h.b b hb).1, Nat.lt_of_lt_of_le (h.b b hb).2 hs⟩, h.B0, h.cB⟩
theorem below (h : ScAt base w B c gv nv wv sv av kv s) (k : Below w.heap.size w w') : ScAt base w' B c gv nv wv sv av kv s := h.keep (fun b hb => k.block b hb) k.size
end ScAt
end Go.Proofs.Ytnalakhelicjcaa
