/-
  A node's clock and a number of its table may be set, one after the other.
  The program: a message comes, of a right world.
  Moving, the plain law: what comes of a right world is right; the first of the wire is there no more, and nobody else has changed.
  A wire is emptied: the program's, the document's.
  A message comes, a wire is emptied: errors too.
-/
import Derived.Test.YtnalakhelicjcaaVKD
import Derived.Test.YtnalakhelicjcaaVKR
import Derived.Test.YtnalakhelicjcaaVKR3
import Derived.Test.YtnalakhelicjcaaVKT
set_option maxRecDepth 100000
namespace Go.Proofs.Ytnalakhelicjcaa
open Go.RowKit Go.Shelf Go.BigFrame

theorem MvSt.drewN {w wr : World} {B C : Nat} {S : Nat → Prop} {gv nv wv : Value} {m : M} (h : MvSt w wr B C S gv nv wv m) (n : Nat) : MvSt w (wr.drewN n) B C S gv nv wv m :=
  ⟨h.1.keep rfl, h.2.1.keep rfl, h.2.2.1.keep rfl, below_trans h.2.2.2.1 (below_drewN wr n), h.2.2.2.2⟩
end Go.Proofs.Ytnalakhelicjcaa

set_option maxRecDepth 100000
namespace Go.Proofs.Ytnalakhelicjcaa
open Go.RowKit Go.Shelf Go.BigFrame

end Go.Proofs.Ytnalakhelicjcaa

set_option maxRecDepth 100000
namespace Go.Proofs.Ytnalakhelicjcaa
open Go.RowKit

/-- What comes when a node holds a message and is told. -/
structure Ended (Z : Wd) (n : Nat) (m : M) (Y : Wd) : Prop where
  right : Right Y
  len : Y.nodes.length = Z.nodes.length
  groups : Y.groups = Z.groups
  wires : Y.wires = Z.wires
  others : ∀ k, k ≠ n → Y.nodes.getD k N.zero = Z.nodes.getD k N.zero
  clock : (Y.nodes.getD n N.zero).clock = (Z.nodes.getD n N.zero).clock
  count : (Y.nodes.getD n N.zero).held.length + (Y.nodes.getD n N.zero).told.length = (Z.nodes.getD n N.zero).held.length + (Z.nodes.getD n N.zero).told.length + (if m.null = true then 0 else 1)
/-- What it means that the first of a wire has come. -/
structure Moved (X : Wd) (a b : Nat) (m : M) (Y : Wd) : Prop where
  right : Right Y
  len : Y.nodes.length = X.nodes.length
  groups : Y.groups = X.groups
  wires : Y.wires = X.wires.set a ((X.wires.getD a []).set b ((wireL X a b).drop 1))
  others : ∀ k, k ≠ b → Y.nodes.getD k N.zero = X.nodes.getD k N.zero
  clock : (X.nodes.getD b N.zero).clock ≤ (Y.nodes.getD b N.zero).clock ∧ m.stamp ≤ (Y.nodes.getD b N.zero).clock
  count : (Y.nodes.getD b N.zero).held.length + (Y.nodes.getD b N.zero).told.length = (X.nodes.getD b N.zero).held.length + (X.nodes.getD b N.zero).told.length + (if m.null = true then 0 else 1)
theorem rightE_in {K : Int} {gs : List Int} {m : M} (h : msgE K gs m = 0) : inRange K gs m ∧ hasB gs m.grp m.src = true := by
  unfold msgE at h
  split at h
  · unfold rightE at h
    split at h
    · rename_i hi
      split at h
      · rename_i hh
        exact ⟨hi, hh⟩
      · cases h
    · cases h
  · rename_i hg
    exact absurd h hg
end Go.Proofs.Ytnalakhelicjcaa

set_option maxRecDepth 100000
namespace Go.Proofs.Ytnalakhelicjcaa
open Go.RowKit Go.Shelf Go.BigFrame

/-- The box of the world that was handed in, and the box of what comes. -/
def TwoBox (w wr : World) : Prop := (∃ pg pn pw, OBox wr w.heap.size 40 pg pn pw) ∧ OBox wr (w.heap.size + 1) 40 (.slice none 0 0) (.slice none 0 0) (.slice none 0 0) ∧ Below w.heap.size w wr
/-- The box of the world holds one of the call's own. -/
def WireSt (w wr : World) (Y : Wd) : Prop :=
  ∃ (gv nv wv : Value) (S : Nat → Prop), OWd false wr S gv nv wv Y ∧ OBox wr w.heap.size 40 gv nv wv ∧ OBox wr (w.heap.size + 1) 40 (.slice none 0 0) (.slice none 0 0) (.slice none 0 0) ∧ Below w.heap.size w wr ∧ ∀ c, S c → w.heap.size + 2 ≤ c ∧ c < wr.heap.size
theorem TwoBox.next {w wr w2 : World} {Z : Wd} {gv nv wv : Value} {S : Nat → Prop} (h : TwoBox w wr) (hb : Below wr.heap.size wr w2) (hO : OWd false w2 S gv nv wv Z) (hS : ∀ c, S c → wr.heap.size ≤ c ∧ c < w2.heap.size) :
    WireSt w (((w2.setCell ⟨w.heap.size, 0, none⟩ gv).setCell ⟨w.heap.size, 1, none⟩ nv).setCell ⟨w.heap.size, 2, none⟩ wv) Z := by
  obtain ⟨⟨_, _, _, h2⟩, h3, h4⟩ := h
  have hl := h2.lt
  have hl3 := h3.lt
  have hsz := hb.size
  have key : ∀ c : Nat, c ≠ w.heap.size → (((w2.setCell ⟨w.heap.size, 0, none⟩ gv).setCell ⟨w.heap.size, 1, none⟩ nv).setCell ⟨w.heap.size, 2, none⟩ wv).heap[c]? = w2.heap[c]? := fun c hc => by
    rw [set3_blk hc]
  refine ⟨gv, nv, wv, S, hO.keep (fun c hc => key c (by have := hS c hc; omega)), (((h2.keep (hb.block _ hl)).set0 gv).set1 nv).set2 wv, (h3.keep (hb.block _ hl3)).keep (key _ (by omega)), ?_, fun c hc => ?_⟩
  · exact set3_below (h4.trans (hb.mono (by omega))) (by omega)
  · rw [set3_size]
    have := hS c hc
    omega

end Go.Proofs.Ytnalakhelicjcaa

set_option maxRecDepth 100000
namespace Go.Proofs.Ytnalakhelicjcaa
open Go.RowKit Go.Shelf Go.BigFrame

end Go.Proofs.Ytnalakhelicjcaa
