/-
  Worlds, the document's answer: a node is told what is ready, errors too.
-/
import Derived.Test.YtnalakhelicjcaaGreatDoorZKD
set_option maxRecDepth 100000
namespace Go.Proofs.YtnalakhelicjcaaGreatDoor
open Go.RowKit Go.Shelf Go.BigFrame
def WPost3 (w:World) (r:Int × Int × Wd) (e:Ending) (w':World):Prop:=
 ∃ (gv nv wv:Value) (S:Nat → Prop),e = .returned (.tuple #[.agg #[gv,nv,wv], .int .i64 r.2.1, .int .i64 r.1]) ∧ OWd false w' S gv nv wv r.2.2 ∧ (∀ b,S b → w.heap.size ≤ b ∧ b < w'.heap.size) ∧ Below w.heap.size w w'
theorem WPost3.none {w w':World} {e:Int} (h:Below w.heap.size w w'):WPost3 w (e,0,Wd.none) (.returned (.tuple #[.agg #[.slice none 0 0, .slice none 0 0, .slice none 0 0], .int .i64 0, .int .i64 e])) w':=
 ⟨_,_,_,fun _=>False,rfl,OWd.empty _ _ _,fun _ h=>h.elim,h⟩
theorem WPost3.fin {w w2:World} {r:Int × Int × Wd} {o:Bool} {B k:Nat} {gv nv wv:Value} {S:Nat → Prop} (hO:OWd o w2 S gv nv wv r.2.2) (hS:∀ c,S c → k ≤ c ∧ c < w2.heap.size) (hB:B < k) (hw:w.heap.size ≤ B) (hb:Below w.heap.size w w2) {e n:Int} (he:e = r.1) (hn:n = r.2.1) :
  WPost3 w r (.returned (.tuple #[.agg #[gv,nv,wv], .int .i64 n, .int .i64 e])) (((w2.setCell ⟨B,0,Option.none⟩ gv).setCell ⟨B,1,Option.none⟩ nv).setCell ⟨B,2,Option.none⟩ wv):=
 ⟨gv,nv,wv,S,by rw [he,hn],OWd.any (hO.keep fun c hc=>set3_blk (by have:=hS c hc;omega)),fun c hc=>by rw [set3_size];have:=hS c hc;omega,set3_below hb hw⟩
end Go.Proofs.YtnalakhelicjcaaGreatDoor
