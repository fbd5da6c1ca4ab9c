/-
  The scribe in memory, and what the stores leave of it.
-/
import Derived.Test.YtnalakhelicjcaaGreatYLn
import Derived.Test.YtnalakhelicjcaaGreatYKO
set_option maxRecDepth 100000
namespace Go.Proofs.YtnalakhelicjcaaGreat
open Go.RowKit Go.Deep
theorem recol (c:Nat → Nat) {k:Nat} (hk:k ≠ 0) (S:Nat → Prop) (h:∀ b,S b → c b = k ∨ c b = 0) :
  ∃ c':Nat → Nat,(∀ b,c' b = k ↔ S b) ∧ (∀ j b,j ≠ 0 → j ≠ k → (c' b = j ↔ c b = j)) ∧ ∀ b,c' b ≠ 0 → c b ≠ 0 ∨ S b:=by
 classical
 refine ⟨fun b=>if S b then k else if c b = k then 0 else c b,fun b=>?_,fun j b h0 hj=>?_,fun b hb=>?_⟩
 ·by_cases hs:S b
  ·simp [hs]
  ·by_cases hc:c b = k
   ·simp [hs,hc];omega
   ·simp [hs,hc]
 ·by_cases hs:S b
  ·have:=h b hs
   simp [hs];omega
  ·by_cases hc:c b = k
   ·simp [hs,hc];omega
   ·simp [hs,hc]
 ·by_cases hs:S b
  ·exact Or.inr hs
  ·by_cases hc:c b = k
   ·simp [hs,hc] at hb
   ·simp [hs,hc] at hb;exact Or.inl hb
theorem five_put {w:World} {F:Nat} {e:TypeId} (h:BlkIs w F e 5) (v0 v1 v2 v3 v4:Value) :
  BlkIs (((((w.setCell ⟨F,0,none⟩ v0).setCell ⟨F,1,none⟩ v1).setCell ⟨F,2,none⟩ v2).setCell ⟨F,3,none⟩ v3).setCell ⟨F,4,none⟩ v4) F e 5 ∧
  (((((w.setCell ⟨F,0,none⟩ v0).setCell ⟨F,1,none⟩ v1).setCell ⟨F,2,none⟩ v2).setCell ⟨F,3,none⟩ v3).setCell ⟨F,4,none⟩ v4).cell? ⟨F,0,none⟩ = some v0 ∧
  (((((w.setCell ⟨F,0,none⟩ v0).setCell ⟨F,1,none⟩ v1).setCell ⟨F,2,none⟩ v2).setCell ⟨F,3,none⟩ v3).setCell ⟨F,4,none⟩ v4).cell? ⟨F,1,none⟩ = some v1 ∧
  (((((w.setCell ⟨F,0,none⟩ v0).setCell ⟨F,1,none⟩ v1).setCell ⟨F,2,none⟩ v2).setCell ⟨F,3,none⟩ v3).setCell ⟨F,4,none⟩ v4).cell? ⟨F,2,none⟩ = some v2 ∧
  (((((w.setCell ⟨F,0,none⟩ v0).setCell ⟨F,1,none⟩ v1).setCell ⟨F,2,none⟩ v2).setCell ⟨F,3,none⟩ v3).setCell ⟨F,4,none⟩ v4).cell? ⟨F,3,none⟩ = some v3 ∧
  (((((w.setCell ⟨F,0,none⟩ v0).setCell ⟨F,1,none⟩ v1).setCell ⟨F,2,none⟩ v2).setCell ⟨F,3,none⟩ v3).setCell ⟨F,4,none⟩ v4).cell? ⟨F,4,none⟩ = some v4:=by
 refine ⟨h.setCell.setCell.setCell.setCell.setCell, ?_, ?_, ?_, ?_, ?_⟩
 ·rw [cell_setCell 0 (by omega),cell_setCell 0 (by omega),cell_setCell 0 (by omega),cell_setCell 0 (by omega),h.cell_set (by omega)]
 ·rw [cell_setCell 1 (by omega),cell_setCell 1 (by omega),cell_setCell 1 (by omega),h.setCell.cell_set (by omega)]
 ·rw [cell_setCell 2 (by omega),cell_setCell 2 (by omega),h.setCell.setCell.cell_set (by omega)]
 ·rw [cell_setCell 3 (by omega),h.setCell.setCell.setCell.cell_set (by omega)]
 ·rw [h.setCell.setCell.setCell.setCell.cell_set (by omega)]
theorem five_body {w:World} {F:Nat} {e:TypeId} (h:BlkIs w F e 5) {v0 v1 v2 v3:Value} (c0:w.cell? ⟨F,0,none⟩ = some v0) (c1:w.cell? ⟨F,1,none⟩ = some v1) (c2:w.cell? ⟨F,2,none⟩ = some v2) (c3:w.cell? ⟨F,3,none⟩ = some v3) (v:Value) :
  BlkIs (w.setCell ⟨F,4,none⟩ v) F e 5 ∧ (w.setCell ⟨F,4,none⟩ v).cell? ⟨F,0,none⟩ = some v0 ∧ (w.setCell ⟨F,4,none⟩ v).cell? ⟨F,1,none⟩ = some v1 ∧ (w.setCell ⟨F,4,none⟩ v).cell? ⟨F,2,none⟩ = some v2 ∧ (w.setCell ⟨F,4,none⟩ v).cell? ⟨F,3,none⟩ = some v3 ∧ (w.setCell ⟨F,4,none⟩ v).cell? ⟨F,4,none⟩ = some v:=
 ⟨h.setCell,(cell_setCell 0 (by omega)).trans c0,(cell_setCell 1 (by omega)).trans c1,(cell_setCell 2 (by omega)).trans c2,(cell_setCell 3 (by omega)).trans c3,h.cell_set (by omega)⟩
theorem infoCSet:(Tryz.prog.info? 90).map (fun i=>(i.zero,i.size,i.bytes)) = some (some (.map none),1,8):=by kernel_rfl
structure ScAt (base:Nat) (w:World) (B:Nat) (c:Nat → Nat) (gv nv wv sv av kv:Value) (s:Sc):Prop where
 box:BlkIs w B 88 6
 c0:w.cell? ⟨B,0,none⟩ = some gv
 c1:w.cell? ⟨B,1,none⟩ = some nv
 c2:w.cell? ⟨B,2,none⟩ = some wv
 c3:w.cell? ⟨B,3,none⟩ = some sv
 c4:w.cell? ⟨B,4,none⟩ = some av
 c5:w.cell? ⟨B,5,none⟩ = some kv
 X:OWd false w (fun b=>c b = 1) gv nv wv s.X
 S:OMsgs true w (fun b=>c b = 2) sv s.sent
 A:OSets w (fun b=>c b = 3) av s.ahead
 K:OSets w (fun b=>c b = 4) kv s.known
 b:∀ b,c b ≠ 0 → base ≤ b ∧ b < w.heap.size
 B0:base ≤ B
 cB:c B = 0
namespace ScAt
variable {base B:Nat} {w w':World} {c:Nat → Nat} {gv nv wv sv av kv:Value} {s:Sc}
theorem lt (h:ScAt base w B c gv nv wv sv av kv s):B < w.heap.size:=h.box.lt
theorem keep (h:ScAt base w B c gv nv wv sv av kv s) (k:Lies (fun b=>b < w.heap.size) w w') (hs:w.heap.size ≤ w'.heap.size):ScAt base w' B c gv nv wv sv av kv s:=by
 have hB:=k B h.lt
 have hl:∀ j,Lies (fun b=>c b = j + 1) w w':=fun j b hb=>k b (h.b b (by omega)).2
 have hc:∀ {j:Nat} {v:Value},w.cell? ⟨B,j,none⟩ = some v → w'.cell? ⟨B,j,none⟩ = some v:=fun hv=>(World.cell?_of_block (w:=w) hB).trans hv
 exact ⟨h.box.same hB,hc h.c0,hc h.c1,hc h.c2,hc h.c3,hc h.c4,hc h.c5,h.X.keep (hl 0),h.S.keep (hl 1),h.A.keep (hl 2),h.K.keep (hl 3),fun b hb=>⟨(h.b b hb).1,Nat.lt_of_lt_of_le (h.b b hb).2 hs⟩,h.B0,h.cB⟩
theorem below (h:ScAt base w B c gv nv wv sv av kv s) (k:Below w.heap.size w w'):ScAt base w' B c gv nv wv sv av kv s:=h.keep (fun b hb=>k.block b hb) k.size
theorem learned (h:ScAt base w B c gv nv wv sv av kv s) {fs:List St} (hK:OSets w' (fun b=>c b = 4) kv fs) (hv:Save (fun b=>c b = 4) w w'):ScAt base w' B c gv nv wv sv av kv ⟨s.X,s.sent,s.ahead,fs⟩:=by
 have hB:=hv.block B h.lt (by rw [h.cB];omega)
 have hl:∀ j,j ≠ 4 → j ≠ 0 → Lies (fun b=>c b = j) w w':=fun j hj h0 b hb=>hv.block b (h.b b (by omega)).2 (by omega)
 have hc:∀ {j:Nat} {v:Value},w.cell? ⟨B,j,none⟩ = some v → w'.cell? ⟨B,j,none⟩ = some v:=fun hv=>(World.cell?_of_block (w:=w) hB).trans hv
 exact ⟨h.box.same hB,hc h.c0,hc h.c1,hc h.c2,hc h.c3,hc h.c4,hc h.c5,h.X.keep (hl 1 (by omega) (by omega)),h.S.keep (hl 2 (by omega) (by omega)),h.A.keep (hl 3 (by omega) (by omega)),hK,fun b hb=>⟨(h.b b hb).1,Nat.lt_of_lt_of_le (h.b b hb).2 hv.size⟩,h.B0,h.cB⟩
theorem setX (h:ScAt base w B c gv nv wv sv av kv s) {S:Nat → Prop} {gu nu wu:Value} {Y:Wd} (hO:OWd false w S gu nu wu Y) (hS:∀ b,S b → c b = 0 ∧ base ≤ b ∧ b < w.heap.size ∧ b ≠ B) :
  ∃ c',ScAt base (((w.setCell ⟨B,0,none⟩ gu).setCell ⟨B,1,none⟩ nu).setCell ⟨B,2,none⟩ wu) B c' gu nu wu sv av kv ⟨Y,s.sent,s.ahead,s.known⟩:=by
 obtain ⟨c',r1,r2,r3⟩:=recol c (k:=1) (by omega) S (fun b hb=>Or.inr (hS b hb).1)
 have hf:∀ b,b ≠ B → (((w.setCell ⟨B,0,none⟩ gu).setCell ⟨B,1,none⟩ nu).setCell ⟨B,2,none⟩ wu).heap[b]? = w.heap[b]?:=fun b hb=>set3_blk hb
 have hl:∀ j,j ≠ 0 → Lies (fun b=>c b = j) w (((w.setCell ⟨B,0,none⟩ gu).setCell ⟨B,1,none⟩ nu).setCell ⟨B,2,none⟩ wu):=fun j h0 b hb=>hf b (fun e=>by
  have h1:c b = j:=hb
  rw [e,h.cB] at h1;omega)
 have hb0:=h.box
 refine ⟨c',hb0.setCell.setCell.setCell, ?_, ?_, ?_, ?_, ?_, ?_,(hO.keep fun b hb=>hf b (hS b hb).2.2.2).mono fun b hb=>(r1 b).2 hb,OSl.mono (h.S.keep (hl 2 (by omega))) fun b hb=>(r2 2 b (by omega) (by omega)).2 hb,OSl.mono (h.A.keep (hl 3 (by omega))) fun b hb=>(r2 3 b (by omega) (by omega)).2 hb,OSl.mono (h.K.keep (hl 4 (by omega))) fun b hb=>(r2 4 b (by omega) (by omega)).2 hb,fun b hb=>?_,h.B0, ?_⟩
 ·rw [cell_setCell 0 (by omega),cell_setCell 0 (by omega),hb0.cell_set (by omega)]
 ·rw [cell_setCell 1 (by omega),hb0.setCell.cell_set (by omega)]
 ·rw [hb0.setCell.setCell.cell_set (by omega)]
 ·rw [cell_setCell 3 (by omega),cell_setCell 3 (by omega),cell_setCell 3 (by omega)];exact h.c3
 ·rw [cell_setCell 4 (by omega),cell_setCell 4 (by omega),cell_setCell 4 (by omega)];exact h.c4
 ·rw [cell_setCell 5 (by omega),cell_setCell 5 (by omega),cell_setCell 5 (by omega)];exact h.c5
 ·rw [set3_size]
  rcases r3 b hb with h1 | h1
  ·exact h.b b h1
  ·exact ⟨(hS b h1).2.1,(hS b h1).2.2.1⟩
 ·refine Classical.byContradiction fun hn=>?_
  rcases r3 B hn with h1 | h1
  ·exact h1 h.cB
  ·exact (hS B h1).2.2.2 rfl
theorem setS (h:ScAt base w B c gv nv wv sv av kv s) {S:Nat → Prop} {v:Value} {ms:List M} (hL:Lies (fun b=>b < w.heap.size ∧ ¬ c b = 2) w w') (hs:w.heap.size ≤ w'.heap.size) (hO:OMsgs true w' S v ms) (hS:∀ b,S b → (c b = 2 ∨ w.heap.size ≤ b) ∧ b < w'.heap.size) :
  ∃ c',ScAt base (w'.setCell ⟨B,3,none⟩ v) B c' gv nv wv v av kv ⟨s.X,ms,s.ahead,s.known⟩ ∧ ∀ b,c' b ≠ 0 → c b ≠ 0 ∨ w.heap.size ≤ b:=by
 obtain ⟨c',r1,r2,r3⟩:=recol c (k:=2) (by omega) S (fun b hb=>(hS b hb).1.imp id fun h1=>Classical.byContradiction fun hn=>by have:=(h.b b hn).2;omega)
 have hSB:¬ S B:=fun hb=>by
  rcases (hS B hb).1 with h1 | h1
  ·rw [h.cB] at h1;omega
  ·have:=h.lt;omega
 have hB:=hL B ⟨h.lt,by rw [h.cB];omega⟩
 have hf:∀ b,b ≠ B → (w'.setCell ⟨B,3,none⟩ v).heap[b]? = w'.heap[b]?:=fun b hb=>Go.Deep.blk_setCell_other _ _ _ _ hb
 have hl:∀ j,j ≠ 0 → j ≠ 2 → Lies (fun b=>c b = j) w (w'.setCell ⟨B,3,none⟩ v):=fun j h0 h2 b hb=>by
  have h1:c b = j:=hb
  exact (hf b (fun e=>by rw [e,h.cB] at h1;omega)).trans (hL b ⟨(h.b b (by omega)).2,by omega⟩)
 have hb0:=h.box.same hB
 have hc:∀ {j:Nat} {u:Value},j ≠ 3 → w.cell? ⟨B,j,none⟩ = some u → (w'.setCell ⟨B,3,none⟩ v).cell? ⟨B,j,none⟩ = some u:=fun hj hv=>(cell_setCell _ hj).trans ((World.cell?_of_block (w:=w) hB).trans hv)
 refine ⟨c',⟨hb0.setCell,hc (by omega) h.c0,hc (by omega) h.c1,hc (by omega) h.c2,hb0.cell_set (by omega),hc (by omega) h.c4,hc (by omega) h.c5,(h.X.keep (hl 1 (by omega) (by omega))).mono fun b hb=>(r2 1 b (by omega) (by omega)).2 hb,OSl.mono (hO.keep fun b hb=>hf b (fun e=>hSB (e ▸ hb))) fun b hb=>(r1 b).2 hb,OSl.mono (h.A.keep (hl 3 (by omega) (by omega))) fun b hb=>(r2 3 b (by omega) (by omega)).2 hb,OSl.mono (h.K.keep (hl 4 (by omega) (by omega))) fun b hb=>(r2 4 b (by omega) (by omega)).2 hb,fun b hb=>?_,h.B0, ?_⟩,fun b hb=>?_⟩
 ·rw [Go.Deep.nblk_setCell]
  rcases r3 b hb with h1 | h1
  ·exact ⟨(h.b b h1).1,Nat.lt_of_lt_of_le (h.b b h1).2 hs⟩
  ·refine ⟨?_,(hS b h1).2⟩
   rcases (hS b h1).1 with h2 | h2
   ·exact (h.b b (by omega)).1
   ·have:=h.B0;have:=h.lt;omega
 ·refine Classical.byContradiction fun hn=>?_
  rcases r3 B hn with h1 | h1
  ·exact h1 h.cB
  ·exact hSB h1
 ·rcases r3 b hb with h1 | h1
  ·exact Or.inl h1
  ·exact (hS b h1).1.imp (fun h=>by omega) id
theorem setA (h:ScAt base w B c gv nv wv sv av kv s) {S:Nat → Prop} {v:Value} {fs:List St} (hL:Lies (fun b=>b < w.heap.size ∧ ¬ c b = 3) w w') (hs:w.heap.size ≤ w'.heap.size) (hO:OSets w' S v fs) (hS:∀ b,S b → (c b = 3 ∨ c b = 0) ∧ b ≠ B ∧ base ≤ b ∧ b < w'.heap.size) :
  ∃ c',ScAt base (w'.setCell ⟨B,4,none⟩ v) B c' gv nv wv sv v kv ⟨s.X,s.sent,fs,s.known⟩ ∧ ∀ b,c' b ≠ 0 → c b ≠ 0 ∨ S b:=by
 obtain ⟨c',r1,r2,r3⟩:=recol c (k:=3) (by omega) S (fun b hb=>(hS b hb).1)
 have hB:=hL B ⟨h.lt,by rw [h.cB];omega⟩
 have hf:∀ b,b ≠ B → (w'.setCell ⟨B,4,none⟩ v).heap[b]? = w'.heap[b]?:=fun b hb=>Go.Deep.blk_setCell_other _ _ _ _ hb
 have hl:∀ j,j ≠ 0 → j ≠ 3 → Lies (fun b=>c b = j) w (w'.setCell ⟨B,4,none⟩ v):=fun j h0 h2 b hb=>by
  have h1:c b = j:=hb
  exact (hf b (fun e=>by rw [e,h.cB] at h1;omega)).trans (hL b ⟨(h.b b (by omega)).2,by omega⟩)
 have hb0:=h.box.same hB
 have hc:∀ {j:Nat} {u:Value},j ≠ 4 → w.cell? ⟨B,j,none⟩ = some u → (w'.setCell ⟨B,4,none⟩ v).cell? ⟨B,j,none⟩ = some u:=fun hj hv=>(cell_setCell _ hj).trans ((World.cell?_of_block (w:=w) hB).trans hv)
 refine ⟨c',⟨hb0.setCell,hc (by omega) h.c0,hc (by omega) h.c1,hc (by omega) h.c2,hc (by omega) h.c3,hb0.cell_set (by omega),hc (by omega) h.c5,(h.X.keep (hl 1 (by omega) (by omega))).mono fun b hb=>(r2 1 b (by omega) (by omega)).2 hb,OSl.mono (h.S.keep (hl 2 (by omega) (by omega))) fun b hb=>(r2 2 b (by omega) (by omega)).2 hb,OSl.mono (hO.keep fun b hb=>hf b (hS b hb).2.1) fun b hb=>(r1 b).2 hb,OSl.mono (h.K.keep (hl 4 (by omega) (by omega))) fun b hb=>(r2 4 b (by omega) (by omega)).2 hb,fun b hb=>?_,h.B0, ?_⟩,r3⟩
 ·rw [Go.Deep.nblk_setCell]
  rcases r3 b hb with h1 | h1
  ·exact ⟨(h.b b h1).1,Nat.lt_of_lt_of_le (h.b b h1).2 hs⟩
  ·exact ⟨(hS b h1).2.2.1,(hS b h1).2.2.2⟩
 ·refine Classical.byContradiction fun hn=>?_
  rcases r3 B hn with h1 | h1
  ·exact h1 h.cB
  ·exact (hS B h1).2.1 rfl
end ScAt
end Go.Proofs.YtnalakhelicjcaaGreat
