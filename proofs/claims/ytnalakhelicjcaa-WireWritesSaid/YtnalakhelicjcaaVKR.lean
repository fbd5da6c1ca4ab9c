/-
  The program: a message is cast out of a right world.
  The program: a message is sent, a Null is sent: errors too.
-/
import Derived.Test.YtnalakhelicjcaaVKQ
import Derived.Test.YtnalakhelicjcaaVKN
import Derived.Test.YtnalakhelicjcaaVKL
import Derived.Test.YtnalakhelicjcaaVKD
set_option maxRecDepth 100000
namespace Go.Proofs.Ytnalakhelicjcaa
open Go.RowKit Go.Shelf Go.BigFrame

/-- A message in a box of its own. -/
def MBox (w : World) (b : Nat) (m : M) : Prop := BlkIs w b 33 5 ∧ MsgBox w b m
theorem MBox.new (w : World) (m : M) : MBox (w.alloc (.cells #[.int .i64 m.src, .int .i64 m.grp, .int .i64 m.stamp, .bool m.null, .string m.body] 33)) w.heap.size m := ⟨⟨_, heap_alloc_new w _, rfl⟩, MsgBox.new _ _ _⟩
theorem MBox.keep {w w' : World} {b : Nat} {m : M} (h : MBox w b m) (k : w'.heap[b]? = w.heap[b]?) : MBox w' b m := ⟨h.1.same k, h.2.keep k⟩
theorem MBox.stamp {w : World} {b : Nat} {m : M} (h : MBox w b m) (s : Int) : MBox (w.setCell ⟨b, 2, none⟩ (.int .i64 s)) b { m with stamp := s } := by
  obtain ⟨h0, m0, m1, m2, m3, m4⟩ := h
  exact ⟨h0.setCell, (cell_setCell 0 (by omega)).trans m0, (cell_setCell 1 (by omega)).trans m1, h0.cell_set (by omega), (cell_setCell 3 (by omega)).trans m3, (cell_setCell 4 (by omega)).trans m4⟩
theorem MBox.lt {w : World} {b : Nat} {m : M} (h : MBox w b m) : b < w.heap.size := h.1.lt

/-- What lies beside the world that is built: the four boxes. -/
structure OutSt (w wr : World) (B : Nat) (pg pn pw gv nv wv : Value) (m : M) : Prop where
  par : OBox wr w.heap.size 40 pg pn pw
  msg : MBox wr (w.heap.size + 1) m
  res : OBox wr (w.heap.size + 2) 40 (.slice none 0 0) (.slice none 0 0) (.slice none 0 0)
  out : OBox wr B 40 gv nv wv
  bel : Below w.heap.size w wr
  B : w.heap.size + 3 ≤ B ∧ B < wr.heap.size
theorem OutSt.within {w wr w' : World} {B : Nat} {pg pn pw gv nv wv : Value} {m : M} {S : Nat → Prop} (h : OutSt w wr B pg pn pw gv nv wv m) (hw : Within S wr w') (hS : ∀ c, S c → w.heap.size + 3 ≤ c ∧ c ≠ B) : OutSt w w' B pg pn pw gv nv wv m := by
  have hB := h.B
  have hk : ∀ c, c < w.heap.size + 3 ∨ c = B → w'.heap[c]? = wr.heap[c]? := fun c hc => hw.lies c (by omega) (fun hs => by have := hS c hs; omega)
  exact ⟨h.par.keep (hk _ (by omega)), h.msg.keep (hk _ (by omega)), h.res.keep (hk _ (by omega)), h.out.keep (hk _ (by omega)), h.bel.trans (hw.below (by omega) (fun c hc => by have := hS c hc; omega)), hB.1, Nat.lt_of_lt_of_le hB.2 hw.size⟩

end Go.Proofs.Ytnalakhelicjcaa

set_option maxRecDepth 100000
namespace Go.Proofs.Ytnalakhelicjcaa
open Go.RowKit Go.Shelf Go.BigFrame

end Go.Proofs.Ytnalakhelicjcaa
