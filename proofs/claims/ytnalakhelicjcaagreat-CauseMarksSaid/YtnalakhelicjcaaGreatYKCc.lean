/-
  The document's answer: all wires are drained.
  The document's answer: drained, a round, calm.
  The document's answer: calm.
-/
import Derived.Test.YtnalakhelicjcaaGreatYKCa
import Derived.Test.YtnalakhelicjcaaGreatYKV
import Derived.Test.YtnalakhelicjcaaGreatYCast
set_option maxRecDepth 100000
namespace Go.Proofs.YtnalakhelicjcaaGreat
open Go.RowKit Go.Shelf Go.BigFrame
end Go.Proofs.YtnalakhelicjcaaGreat
set_option maxRecDepth 100000
namespace Go.Proofs.YtnalakhelicjcaaGreat
open Go.RowKit Go.Shelf Go.BigFrame
def RdSt (w wr:World) (Y:Wd):Prop:=
 ∃ (gv nv wv:Value),OBox wr w.heap.size 37 gv nv wv ∧ OBox wr (w.heap.size + 1) 37 (.slice none 0 0) (.slice none 0 0) (.slice none 0 0) ∧ Below w.heap.size w wr ∧
  ((Ints w gv Y.groups ∧ Nodes w nv Y.nodes ∧ Wires w wv Y.wires) ∨ ∃ S,OWd false wr S gv nv wv Y)
theorem RdSt.reads {w wr:World} {Y:Wd} (h:RdSt w wr Y):∃ (gv nv wv:Value),OBox wr w.heap.size 37 gv nv wv ∧ OBox wr (w.heap.size + 1) 37 (.slice none 0 0) (.slice none 0 0) (.slice none 0 0) ∧ Below w.heap.size w wr ∧ Ints wr gv Y.groups ∧ Nodes wr nv Y.nodes ∧ Wires wr wv Y.wires:=by
 obtain ⟨gv,nv,wv,h1,h2,h3,h4⟩:=h
 refine ⟨gv,nv,wv,h1,h2,h3, ?_⟩
 rcases h4 with ⟨k1,k2,k3⟩ | ⟨S,k1⟩
 ·exact ⟨k1.below h3,k2.below h3,k3.below h3⟩
 ·exact k1.parts
theorem WireSt.rd {w wr:World} {Y:Wd} (h:WireSt w wr Y):RdSt w wr Y:=by
 obtain ⟨gv,nv,wv,S,h1,h2,h3,h4,_⟩:=h
 exact ⟨gv,nv,wv,h2,h3,h4, .inr ⟨S,h1⟩⟩
end Go.Proofs.YtnalakhelicjcaaGreat
set_option maxRecDepth 100000
namespace Go.Proofs.YtnalakhelicjcaaGreat
open Go.RowKit Go.Shelf Go.BigFrame
def CalmSt (w wr:World) (B:Nat) (Y:Wd):Prop:=
 ∃ (gv nv wv:Value) (S:Nat → Prop),OWd false wr S gv nv wv Y ∧ OBox wr B 37 gv nv wv ∧ OBox wr (w.heap.size + 1) 37 (.slice none 0 0) (.slice none 0 0) (.slice none 0 0) ∧ Below w.heap.size w wr ∧ ∀ c,S c → w.heap.size + 2 ≤ c ∧ c < wr.heap.size ∧ c ≠ B
theorem CalmSt.next {w wr w2:World} {B:Nat} {Y Z:Wd} {gv nv wv:Value} {S:Nat → Prop} (h:CalmSt w wr B Y) (hB:w.heap.size + 2 ≤ B) (hb:Below wr.heap.size wr w2) (hO:OWd false w2 S gv nv wv Z) (hS:∀ c,S c → wr.heap.size ≤ c ∧ c < w2.heap.size) :
  CalmSt w (((w2.setCell ⟨B,0,none⟩ gv).setCell ⟨B,1,none⟩ nv).setCell ⟨B,2,none⟩ wv) B Z:=by
 obtain ⟨_,_,_,_,_,h2,h3,h4,_⟩:=h
 have hl:=h2.lt
 have hl3:=h3.lt
 have hsz:=hb.size
 have key:∀ c:Nat,c ≠ B → (((w2.setCell ⟨B,0,none⟩ gv).setCell ⟨B,1,none⟩ nv).setCell ⟨B,2,none⟩ wv).heap[c]? = w2.heap[c]?:=fun c hc=>by
  rw [set3_blk hc]
 refine ⟨gv,nv,wv,S,hO.keep (fun c hc=>key c (by have:=hS c hc;omega)),(((h2.keep (hb.block _ hl)).set0 gv).set1 nv).set2 wv,(h3.keep (hb.block _ hl3)).keep (key _ (by omega)), ?_,fun c hc=>?_⟩
 ·exact set3_below (h4.trans (hb.mono (by omega))) (by omega)
 ·rw [set3_size]
  have:=hS c hc
  omega
end Go.Proofs.YtnalakhelicjcaaGreat
