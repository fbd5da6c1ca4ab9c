/-
  A node learns a message, and all that came ahead of it.
-/
import Derived.Test.YtnalakhelicjcaaVMpS
import Derived.Test.YtnalakhelicjcaaVKC
set_option maxRecDepth 100000
namespace Go.Proofs.Ytnalakhelicjcaa
open Go.RowKit Go.Deep Go.Maps

def SetEl : ElO St := fun w T cs f => ∃ b, cs = [.map (some b)] ∧ T b ∧ SetAt w b f
theorem SetEl.stays : OStays SetEl := fun _ _ _ _ _ ⟨b, h1, h2, h3⟩ k => ⟨b, h1, h2, h3.keep (k b h2)⟩
theorem SetEl.lt : OLt SetEl := fun _ _ _ _ ⟨b, h1, h2, h3⟩ => ⟨b, h1, ⟨h2, h3.lt⟩, h3⟩
/-- Sets, in a row: each a map of its own. -/
def OSets (w : World) (S : Nat → Prop) (v : Value) (fs : List St) : Prop := OSl SetEl true 63 1 w S v fs
theorem OSets.keep {w w' : World} {S : Nat → Prop} {v : Value} {fs : List St} (h : OSets w S v fs) (k : Lies S w w') : OSets w' S v fs := OSl.keep SetEl.stays h k
theorem OSets.lt {w : World} {S : Nat → Prop} {v : Value} {fs : List St} (h : OSets w S v fs) : OSets w (fun b => S b ∧ b < w.heap.size) v fs := OSl.lt SetEl.lt h
/-- All that was there, but for the blocks of S, is as it was. -/
structure Save (S : Nat → Prop) (w w' : World) : Prop where
  os : w'.os = w.os
  tape : w'.tape = w.tape
  output : w'.output = w.output
  size : w.heap.size ≤ w'.heap.size
  block : ∀ k, k < w.heap.size → ¬ S k → w'.heap[k]? = w.heap[k]?
namespace Save
variable {S T : Nat → Prop} {w w1 w2 : World}
theorem refl (S : Nat → Prop) (w : World) : Save S w w := ⟨rfl, rfl, rfl, Nat.le_refl _, fun _ _ _ => rfl⟩
theorem trans (h : Save S w w1) (k : Save T w1 w2) (hT : ∀ b, T b → b < w.heap.size → S b) : Save S w w2 :=
  ⟨k.os.trans h.os, k.tape.trans h.tape, k.output.trans h.output, Nat.le_trans h.size k.size, fun i hi hn => (k.block i (Nat.lt_of_lt_of_le hi h.size) (fun ht => hn (hT i ht hi))).trans (h.block i hi hn)⟩
theorem grown {b : Nat} (h : w.grownBy w1 (some b)) (hb : S b) : Save S w w1 := ⟨h.os, h.tape, h.output, h.size, fun k hk hn => h.block k hk (fun e => hn (by rw [Option.some.inj e]; exact hb))⟩
theorem below {B : Nat} (h : Save S w w1) (hS : ∀ b, S b → B ≤ b) (hB : B ≤ w.heap.size) : Below B w w1 := ⟨h.os, h.tape, h.output, h.size, fun k hk => h.block k (by omega) (fun hs => by have := hS k hs; omega)⟩
theorem of_below {B : Nat} (h : Below B w w1) (hB : ∀ b, B ≤ b → b < w.heap.size → S b) : Save S w w1 := ⟨h.os, h.tape, h.output, h.size, fun k hk hn => h.block k (Nat.lt_of_not_le fun hle => hn (hB k hle hk))⟩
theorem mono (h : Save S w w1) (k : ∀ b, S b → T b) : Save T w w1 := ⟨h.os, h.tape, h.output, h.size, fun i hi hn => h.block i hi (fun hs => hn (k i hs))⟩
theorem cell (h : Save S w w1) {a : Addr} {v : Value} (hc : w.cell? a = some v) (hn : ¬ S a.block) : w1.cell? a = some v := (World.cell?_of_block (h.block a.block (cell_lt hc) hn)).trans hc
theorem lies (h : Save S w w1) (hT : ∀ b, T b → b < w.heap.size ∧ ¬ S b) : Lies T w w1 := fun b hb => h.block b (hT b hb).1 (hT b hb).2
end Save

end Go.Proofs.Ytnalakhelicjcaa
