/-
  What the document's answer notes, in memory.
-/
import Derived.Test.YtnalakhelicjcaaGreatYBo
import Derived.Test.YtnalakhelicjcaaGreatYSc
set_option maxRecDepth 100000
namespace Go.Proofs.YtnalakhelicjcaaGreat
open Go.RowKit Go.Deep
theorem OBoolsEl.lt:OLt OBoolsEl:=fun _ _ _ _ ⟨u,h,h2⟩=>⟨u,h,OSl.lt (fun _ _ _ _ h=>h) h2⟩
structure RfAt (base:Nat) (w:World) (B:Nat) (c:Nat → Nat) (gv nv wv sv av kv:Value) (r:Rf):Prop where
 box:OBox w B 37 gv nv wv
 X:OWd false w (fun b=>c b = 1) gv nv wv r.X
 S:OMsgs true w (fun b=>c b = 2) sv r.all
 A:OBRows w (fun b=>c b = 3) av r.ahead
 K:OBRows w (fun b=>c b = 4) kv r.known
 b:∀ b,c b ≠ 0 → base ≤ b ∧ b < w.heap.size
 B0:base ≤ B
 cB:c B = 0
namespace RfAt
variable {base B:Nat} {w w':World} {c:Nat → Nat} {gv nv wv sv av kv:Value} {r:Rf}
theorem lt (h:RfAt base w B c gv nv wv sv av kv r):B < w.heap.size:=h.box.lt
theorem below (h:RfAt base w B c gv nv wv sv av kv r) (k:Below w.heap.size w w'):RfAt base w' B c gv nv wv sv av kv r:=by
 have hl:∀ j,Lies (fun b=>c b = j + 1) w w':=fun j b hb=>k.block b (h.b b (by omega)).2
 exact ⟨h.box.keep (k.block B h.lt),h.X.keep (hl 0),h.S.keep (hl 1),h.A.keep (hl 2),h.K.keep (hl 3),fun b hb=>⟨(h.b b hb).1,Nat.lt_of_lt_of_le (h.b b hb).2 k.size⟩,h.B0,h.cB⟩
theorem setX (h:RfAt base w B c gv nv wv sv av kv r) {S:Nat → Prop} {gu nu wu:Value} {Y:Wd} (hO:OWd false w S gu nu wu Y) (hS:∀ b,S b → c b = 0 ∧ base ≤ b ∧ b < w.heap.size ∧ b ≠ B) :
  ∃ c',RfAt base (((w.setCell ⟨B,0,none⟩ gu).setCell ⟨B,1,none⟩ nu).setCell ⟨B,2,none⟩ wu) B c' gu nu wu sv av kv ⟨Y,r.all,r.ahead,r.known⟩:=by
 obtain ⟨c',r1,r2,r3⟩:=recol c (k:=1) (by omega) S (fun b hb=>Or.inr (hS b hb).1)
 have hf:∀ b,b ≠ B → (((w.setCell ⟨B,0,none⟩ gu).setCell ⟨B,1,none⟩ nu).setCell ⟨B,2,none⟩ wu).heap[b]? = w.heap[b]?:=fun b hb=>set3_blk hb
 have hl:∀ j,j ≠ 0 → Lies (fun b=>c b = j) w (((w.setCell ⟨B,0,none⟩ gu).setCell ⟨B,1,none⟩ nu).setCell ⟨B,2,none⟩ wu):=fun j h0 b hb=>hf b (fun e=>by
  have h1:c b = j:=hb
  rw [e,h.cB] at h1;omega)
 refine ⟨c',h.box.put gu nu wu,(hO.keep fun b hb=>hf b (hS b hb).2.2.2).mono fun b hb=>(r1 b).2 hb,OSl.mono (h.S.keep (hl 2 (by omega))) fun b hb=>(r2 2 b (by omega) (by omega)).2 hb,OSl.mono (h.A.keep (hl 3 (by omega))) fun b hb=>(r2 3 b (by omega) (by omega)).2 hb,OSl.mono (h.K.keep (hl 4 (by omega))) fun b hb=>(r2 4 b (by omega) (by omega)).2 hb,fun b hb=>?_,h.B0, ?_⟩
 ·rw [set3_size]
  rcases r3 b hb with h1 | h1
  ·exact h.b b h1
  ·exact ⟨(hS b h1).2.1,(hS b h1).2.2.1⟩
 ·refine Classical.byContradiction fun hn=>?_
  rcases r3 B hn with h1 | h1
  ·exact h1 h.cB
  ·exact (hS B h1).2.2.2 rfl
theorem setS (h:RfAt base w B c gv nv wv sv av kv r) {S:Nat → Prop} {v:Value} {ms:List M} (hL:Lies (fun b=>b < w.heap.size ∧ ¬ c b = 2) w w') (hs:w.heap.size ≤ w'.heap.size) (hO:OMsgs true w' S v ms) (hS:∀ b,S b → (c b = 2 ∨ c b = 0) ∧ b ≠ B ∧ base ≤ b ∧ b < w'.heap.size) :
  ∃ c',RfAt base w' B c' gv nv wv v av kv ⟨r.X,ms,r.ahead,r.known⟩ ∧ ∀ b,c' b ≠ 0 → c b ≠ 0 ∨ S b:=by
 obtain ⟨c',r1,r2,r3⟩:=recol c (k:=2) (by omega) S (fun b hb=>(hS b hb).1)
 have hl:∀ j,j ≠ 0 → j ≠ 2 → Lies (fun b=>c b = j) w w':=fun j h0 h2 b hb=>by
  have h1:c b = j:=hb
  exact hL b ⟨(h.b b (by omega)).2,by omega⟩
 refine ⟨c',⟨h.box.keep (hL B ⟨h.lt,by rw [h.cB];omega⟩),(h.X.keep (hl 1 (by omega) (by omega))).mono fun b hb=>(r2 1 b (by omega) (by omega)).2 hb,OSl.mono hO fun b hb=>(r1 b).2 hb,OSl.mono (h.A.keep (hl 3 (by omega) (by omega))) fun b hb=>(r2 3 b (by omega) (by omega)).2 hb,OSl.mono (h.K.keep (hl 4 (by omega) (by omega))) fun b hb=>(r2 4 b (by omega) (by omega)).2 hb,fun b hb=>?_,h.B0, ?_⟩,r3⟩
 ·rcases r3 b hb with h1 | h1
  ·exact ⟨(h.b b h1).1,Nat.lt_of_lt_of_le (h.b b h1).2 hs⟩
  ·exact ⟨(hS b h1).2.2.1,(hS b h1).2.2.2⟩
 ·refine Classical.byContradiction fun hn=>?_
  rcases r3 B hn with h1 | h1
  ·exact h1 h.cB
  ·exact (hS B h1).2.1 rfl
theorem setA (h:RfAt base w B c gv nv wv sv av kv r) {S:Nat → Prop} {v:Value} {l:List (List Bool)} (hL:Lies (fun b=>b < w.heap.size ∧ ¬ c b = 3) w w') (hs:w.heap.size ≤ w'.heap.size) (hO:OBRows w' S v l) (hS:∀ b,S b → (c b = 3 ∨ c b = 0) ∧ b ≠ B ∧ base ≤ b ∧ b < w'.heap.size) :
  ∃ c',RfAt base w' B c' gv nv wv sv v kv ⟨r.X,r.all,l,r.known⟩ ∧ ∀ b,c' b ≠ 0 → c b ≠ 0 ∨ S b:=by
 obtain ⟨c',r1,r2,r3⟩:=recol c (k:=3) (by omega) S (fun b hb=>(hS b hb).1)
 have hl:∀ j,j ≠ 0 → j ≠ 3 → Lies (fun b=>c b = j) w w':=fun j h0 h2 b hb=>by
  have h1:c b = j:=hb
  exact hL b ⟨(h.b b (by omega)).2,by omega⟩
 refine ⟨c',⟨h.box.keep (hL B ⟨h.lt,by rw [h.cB];omega⟩),(h.X.keep (hl 1 (by omega) (by omega))).mono fun b hb=>(r2 1 b (by omega) (by omega)).2 hb,OSl.mono (h.S.keep (hl 2 (by omega) (by omega))) fun b hb=>(r2 2 b (by omega) (by omega)).2 hb,OSl.mono hO fun b hb=>(r1 b).2 hb,OSl.mono (h.K.keep (hl 4 (by omega) (by omega))) fun b hb=>(r2 4 b (by omega) (by omega)).2 hb,fun b hb=>?_,h.B0, ?_⟩,r3⟩
 ·rcases r3 b hb with h1 | h1
  ·exact ⟨(h.b b h1).1,Nat.lt_of_lt_of_le (h.b b h1).2 hs⟩
  ·exact ⟨(hS b h1).2.2.1,(hS b h1).2.2.2⟩
 ·refine Classical.byContradiction fun hn=>?_
  rcases r3 B hn with h1 | h1
  ·exact h1 h.cB
  ·exact (hS B h1).2.1 rfl
theorem setK (h:RfAt base w B c gv nv wv sv av kv r) {S:Nat → Prop} {v:Value} {l:List (List Bool)} (hL:Lies (fun b=>b < w.heap.size ∧ ¬ c b = 4) w w') (hs:w.heap.size ≤ w'.heap.size) (hO:OBRows w' S v l) (hS:∀ b,S b → (c b = 4 ∨ c b = 0) ∧ b ≠ B ∧ base ≤ b ∧ b < w'.heap.size) :
  ∃ c',RfAt base w' B c' gv nv wv sv av v ⟨r.X,r.all,r.ahead,l⟩ ∧ ∀ b,c' b ≠ 0 → c b ≠ 0 ∨ S b:=by
 obtain ⟨c',r1,r2,r3⟩:=recol c (k:=4) (by omega) S (fun b hb=>(hS b hb).1)
 have hl:∀ j,j ≠ 0 → j ≠ 4 → Lies (fun b=>c b = j) w w':=fun j h0 h2 b hb=>by
  have h1:c b = j:=hb
  exact hL b ⟨(h.b b (by omega)).2,by omega⟩
 refine ⟨c',⟨h.box.keep (hL B ⟨h.lt,by rw [h.cB];omega⟩),(h.X.keep (hl 1 (by omega) (by omega))).mono fun b hb=>(r2 1 b (by omega) (by omega)).2 hb,OSl.mono (h.S.keep (hl 2 (by omega) (by omega))) fun b hb=>(r2 2 b (by omega) (by omega)).2 hb,OSl.mono (h.A.keep (hl 3 (by omega) (by omega))) fun b hb=>(r2 3 b (by omega) (by omega)).2 hb,OSl.mono hO fun b hb=>(r1 b).2 hb,fun b hb=>?_,h.B0, ?_⟩,r3⟩
 ·rcases r3 b hb with h1 | h1
  ·exact ⟨(h.b b h1).1,Nat.lt_of_lt_of_le (h.b b h1).2 hs⟩
  ·exact ⟨(hS b h1).2.2.1,(hS b h1).2.2.2⟩
 ·refine Classical.byContradiction fun hn=>?_
  rcases r3 B hn with h1 | h1
  ·exact h1 h.cB
  ·exact (hS B h1).2.1 rfl
end RfAt
theorem OBRows.row_at {w:World} {S:Nat → Prop} {v:Value} {l:List (List Bool)} (h:OBRows w S v l) {i:Nat} (hi:i < l.length) :
  ∃ (g cap:Nat) (T:Nat → Prop) (u:Value),v = .slice (some ⟨g,0,none⟩) l.length cap ∧ l.length ≤ cap ∧ S g ∧ BlkIs w g 92 cap ∧ w.cell? ⟨g,i,none⟩ = some u ∧ OBools w T u (l.getD i []) ∧ (∀ b,T b → S b ∧ b ≠ g) ∧
   (∀ w' r,Lies (fun b=>S b ∧ ¬ T b) w w' → OBools w' T u r → OBRows w' S v (l.set i r)) ∧
   ∀ w' T' u' r,Lies (fun b=>S b ∧ ¬ T b) w w' → OBools w' T' u' r → (∀ b,T' b → T b ∨ ¬ S b) → OBRows (w'.setCell ⟨g,i,none⟩ u') (fun b=>S b ∨ T' b) v (l.set i r):=by
 obtain ⟨g,off,cap,T,cs,e1,e2,e3,e4,e5,e6,e7,⟨u,rfl,e8⟩,e9,back⟩:=OSl.at OBoolsEl.stays h hi
 obtain rfl:=e5 rfl
 have k1:=e7 0 (by omega)
 simp only [Nat.zero_add,Nat.mul_one,Nat.add_zero] at e3 e7 back k1
 have hgT:∀ w',Lies (fun b=>S b ∧ ¬ T b) w w' → w'.heap[g]? = w.heap[g]?:=fun w' hL=>hL g ⟨e2,fun h=>(e9 g h).2 rfl⟩
 refine ⟨g,cap,T,u,e1,e4,e2,e3,k1,by rw [getD_lt l [] hi];exact e8,e9,fun w' r hL hO=>?_,fun w' T' u' r hL hO hT=>?_⟩
 ·exact OSl.mono (back w' T [u] r (fun b hb=>hL b ⟨hb.1,hb.2.2⟩) (BlkSet.same (hgT w' hL) (fun j hj=>e7 j (by simpa using hj))) rfl ⟨u,rfl,hO⟩ (fun b hb=>Or.inl hb)) (fun b hb=>hb.elim id (fun h=>(e9 b h).1))
 ·have hgT':∀ b,T' b → b ≠ g:=fun b hb e=>by
   subst e
   rcases hT _ hb with h1 | h1
   ·exact (e9 _ h1).2 rfl
   ·exact h1 e2
  have hB:BlkSet w (w'.setCell ⟨g,i,none⟩ u') g i [u']:=
   (BlkSet.same (w:=w) (w':=w') (p:=i) (cs:=[u]) (hgT w' hL) (fun j hj=>e7 j (by simpa using hj))).set e3 0 (by simp) (by simp;omega) _
  exact back _ T' [u'] r (fun b hb=>(Go.Deep.blk_setCell_other _ _ _ _ hb.2.1).trans (hL b ⟨hb.1,hb.2.2⟩)) hB rfl ⟨u',rfl,hO.keep (fun b hb=>Go.Deep.blk_setCell_other _ _ _ _ (hgT' b hb))⟩ hT
end Go.Proofs.YtnalakhelicjcaaGreat
