/-
  An append of a row, empty or not, onto a row of one's own.
  One element more, onto a slice of one's own whose elements lie in blocks of their own.
  A region that draws its order: loads are taken first while a fact on memory holds behind each of the first n operations; behind these it need hold no more. Nothing of a program.
  Words for functions that hand back a world of their own.
-/
import Derived.Test.YtnalakhelicjcaaGreatDoorZKA
import Derived.Test.YtnalakhelicjcaaGreatDoorZKM
import Derived.Deep.AppendLies
import Derived.Deep.RegionHeld3
import Derived.Test.YtnalakhelicjcaaGreatDoorZKW
namespace Go.Proofs.YtnalakhelicjcaaGreatDoor
open Go.RowKit
theorem grownBy_refl (w:World) (r:Option Nat):w.grownBy w r:=⟨rfl,rfl,rfl,Nat.le_refl _,fun _ _ _=>rfl⟩
section
variable {P:Program} (w:World)
theorem run_append_row (base:Nat) (t ty e:TypeId) (i:TypeInfo) (z:Value) (size bytes:Nat) (ht:P.underlying t = some (.slice e)) (hi:P.info? e = some i) (hz:i.zero = some z)
  (hsize:i.size = size) (hby:i.bytes = bytes) (hzs:z.cells.size = size) (hsz:0 < size)
  (v:Value) (n:Nat) (xs:List Value) (hown:w.ownsRow base e size v n xs) (x:Value) (m:Nat) (news:List Value) (hx:Row w x m size news) (h1:∀ u ∈ news,u.oneCell' = true)
  (h63:n + m ≤ maxLen) (hbytes:(n + m) * bytes ≤ 140737488355328) (hbase:base ≤ w.heap.size) :
  ∃ v' w',(Builtin.append_ #[t,t] ty #[v,x]).run P w = .ok v' w' ∧ w'.ownsRow base e size v' (n + m) (xs ++ news) ∧ w.grownBy w' v.ownBlock ∧ (v'.ownBlock = v.ownBlock ∨ v'.ownBlock = some w.heap.size):=by
 obtain ⟨hl,_,a,c,rfl,hc,hcells⟩:=hx
 rcases Nat.eq_zero_or_pos m with h0 | h0
 ·subst h0
  have hn:news = []:=List.eq_nil_of_length_eq_zero (by simpa using hl)
  subst hn
  refine ⟨v,w,run_append_zero (P:=P) (w:=w) base t ty e i size ht hi v n xs hown a c,by simpa using hown,grownBy_refl _ _, .inl rfl⟩
 ·obtain ⟨b,off,rfl,hcc⟩:=hcells (by omega)
  obtain ⟨v',w',hr,h2,h3,_,h5⟩:=run_append_own_at (P:=P) w base t ty e i z size bytes ht hi hz hsize hby hzs hsz v n xs hown ⟨b,off,none⟩ m c news hl
   (fun j u hj=>by
    have hjl:j < news.length:=(List.getElem?_eq_some_iff.1 hj).1
    rw [Addr.add0,hcc j hjl,List.getD_eq_getElem?_getD,hj];rfl) h1 h63 hbytes hbase
  exact ⟨v',w',hr,h2,h3,h5⟩
theorem wp_append_row {o:Oper} {a:Act} {K:Act → World → Prop} {Q:Exit → Act → World → Prop} (s x:Operand) (t:TypeId)
  (ho:o.op = .call { callee:=.builtin .append,args:=#[s,x],argTypes:=#[t,t] })
  (base:Nat) (e:TypeId) (i:TypeInfo) (z:Value) (size bytes:Nat) (ht:P.underlying t = some (.slice e)) (hi:P.info? e = some i) (hz:i.zero = some z)
  (hsize:i.size = size) (hby:i.bytes = bytes) (hzs:z.cells.size = size) (hsz:0 < size)
  (v:Value) (n:Nat) (xs:List Value) (hs:a.eval s = v) (hown:w.ownsRow base e size v n xs) (u:Value) (m:Nat) (news:List Value) (hx:a.eval x = u) (hrow:Row w u m size news) (h1:∀ u ∈ news,u.oneCell' = true)
  (h63:n + m ≤ maxLen) (hbytes:(n + m) * bytes ≤ 140737488355328) (hbase:base ≤ w.heap.size)
  (h:∀ v' w',w'.ownsRow base e size v' (n + m) (xs ++ news) → w.grownBy w' v.ownBlock → (v'.ownBlock = v.ownBlock ∨ v'.ownBlock = some w.heap.size) → K (a.put o.dst v') w'):o.wp P a w K Q:=by
 obtain ⟨v',w',hr,h2,h3,h4⟩:=run_append_row (P:=P) w base t o.type e i z size bytes ht hi hz hsize hby hzs hsz v n xs hown u m news hrow h1 h63 hbytes hbase
 unfold Oper.wp execOp
 simp only [ho,resolve,invoke,builtin,Sem.run_bind,Sem.run_pure,Result.andThen_ok,List.map_toArray,List.map_cons,List.map_nil,hs,hx,hr]
 exact h v' w' h2 h3 h4
theorem wpList_append_row {ops:Array Oper} {rest:List Oper} {o:Oper} {a:Act} {Q:Exit → Act → World → Prop} (hgd:o.guard = none) (s x:Operand) (t:TypeId)
  (ho:o.op = .call { callee:=.builtin .append,args:=#[s,x],argTypes:=#[t,t] })
  (base:Nat) (e:TypeId) (i:TypeInfo) (z:Value) (size bytes:Nat) (ht:P.underlying t = some (.slice e)) (hi:P.info? e = some i) (hz:i.zero = some z)
  (hsize:i.size = size) (hby:i.bytes = bytes) (hzs:z.cells.size = size) (hsz:0 < size)
  (v:Value) (n:Nat) (xs:List Value) (hs:a.eval s = v) (hown:w.ownsRow base e size v n xs) (u:Value) (m:Nat) (news:List Value) (hx:a.eval x = u) (hrow:Row w u m size news) (h1:∀ u ∈ news,u.oneCell' = true)
  (h63:n + m ≤ maxLen) (hbytes:(n + m) * bytes ≤ 140737488355328) (hbase:base ≤ w.heap.size)
  (h:∀ v' w',w'.ownsRow base e size v' (n + m) (xs ++ news) → w.grownBy w' v.ownBlock → (v'.ownBlock = v.ownBlock ∨ v'.ownBlock = some w.heap.size) → wpList P ops Q rest (a.put o.dst v') w'):wpList P ops Q (o :: rest) a w:=
 wpList_plain hgd fun _ hK=>wp_append_row w s x t ho base e i z size bytes ht hi hz hsize hby hzs hsz v n xs hs hown u m news hx hrow h1 h63 hbytes hbase fun v' w' h2 h3 h4=>hK _ _ (h v' w' h2 h3 h4)
end
end Go.Proofs.YtnalakhelicjcaaGreatDoor
namespace Go.Proofs.YtnalakhelicjcaaGreatDoor
open Go.RowKit
section
variable {P:Program} (w:World) {α:Type} {El:ElO α}
def Pushed (w:World) (El:ElO α) (e:TypeId) (s:Nat) (S T:Nat → Prop) (xs:List α) (x:α) (v':Value) (w':World):Prop:=
 (∃ S',OSl El true e s w' S' v' (xs ++ [x]) ∧ (∀ b,S' b → (S b ∨ T b ∨ b = w.heap.size) ∧ b < w'.heap.size)) ∧ w.heap.size ≤ w'.heap.size ∧ Lies (fun b=>b < w.heap.size ∧ ¬ S b) w w' ∧
  (∀ B,(∀ b,S b → B ≤ b) → B ≤ w.heap.size → Below B w w') ∧ ∃ a cap,v' = .slice a (xs.length + 1) cap
theorem run_push (t ty e:TypeId) (i:TypeInfo) (z:Value) (s bytes:Nat) (ht:P.underlying t = some (.slice e)) (hi:P.info? e = some i) (hz:i.zero = some z)
  (hsize:i.size = s) (hby:i.bytes = bytes) (hzs:z.cells.size = s) (hsz:0 < s) (hE:OStays El)
  (v:Value) (S:Nat → Prop) (xs:List α) (h:OSl El true e s w S v xs) (hS:∀ b,S b → b < w.heap.size) (ad:Addr) (c:Nat) (news:List Value) (hl:news.length = s) (hnews:∀ j u,news[j]? = some u → w.cell? (ad.add j) = some u) (h1:∀ u ∈ news,u.oneCell' = true)
  (T:Nat → Prop) (x:α) (hx:El w T news x) (hT:∀ b,T b → ¬ S b ∧ b < w.heap.size) (h63:xs.length + 1 ≤ 1000000) (hb2:bytes ≤ 1000) (hs2:s ≤ 100) :
  ∃ v' w',(Builtin.append_ #[t,t] ty #[v, .slice (some ad) 1 c]).run P w = .ok v' w' ∧ Pushed w El e s S T xs x v' w':=by
 obtain ⟨cl,hown,hcl,back⟩:=OSl.owns (base:=0) hE h (fun _ _=>Nat.zero_le _)
 have hbb:(xs.length + 1) * bytes ≤ 1000000 * 1000:=Nat.mul_le_mul h63 hb2
 have hss:(xs.length + 1) * s ≤ 1000000 * 100:=Nat.mul_le_mul h63 hs2
 obtain ⟨g,cap,w',hr,hown',hgrow,hat,hglt⟩:=run_append_lies (P:=P) w t ty 0 e i z s bytes ht hi hz hsize hby hzs hsz v xs.length cl hown ad 1 c news (by rw [hl,Nat.one_mul]) hnews h1 (by omega) (by unfold maxLen;omega) (by omega) (Nat.zero_le _) w.heap.size rfl
 have hvS:∀ b,v.ownBlock = some b → S b:=by
  intro b hb
  rcases h with ⟨a0,rfl,_,ha0⟩ | ⟨g0,off,cap0,T0,rfl,h2,_⟩
  ·obtain rfl:=ha0 rfl
   cases hb
  ·cases hb;exact h2
 have hLies:Lies (fun b=>b < w.heap.size ∧ ¬ S b) w w':=fun b hb=>hgrow.block b hb.1 (fun e=>hb.2 (hvS b e.symm))
 have hnotS:g = w.heap.size → ¬ S g:=fun e hS'=>by have:=hS g hS';omega
 refine ⟨_,w',hr,⟨_,back w' g cap T news x hown' hl (by omega) (hat.imp id hnotS) (fun b hb=>hgrow.block b (hS b hb.1) hb.2) (hE _ _ _ _ _ hx (fun b hb=>hLies b ⟨(hT b hb).2,(hT b hb).1⟩)) (fun b hb=>⟨(hT b hb).1,fun e=>?_⟩),fun b hb=>?_⟩,hgrow.size,hLies,fun B hB hBw=>?_,_,_,rfl⟩
 ·subst e
  rcases hat with hat | hat
  ·exact (hT b hb).1 (hvS b hat)
  ·have:=(hT b hb).2;omega
 ·rcases hb with hb | hb | hb
  ·exact ⟨Or.inl hb,Nat.lt_of_lt_of_le (hS b hb) hgrow.size⟩
  ·subst hb
   exact ⟨hat.elim (fun h=>Or.inl (hvS b h)) (fun h=>Or.inr (Or.inr h)),hglt⟩
  ·exact ⟨Or.inr (Or.inl hb),Nat.lt_of_lt_of_le (hT b hb).2 hgrow.size⟩
 ·exact ⟨hgrow.os,hgrow.tape,hgrow.output,hgrow.size,fun k hk=>hgrow.block k (by omega) (fun e=>by have:=hB k (hvS k e.symm);omega)⟩
theorem wp_push {o:Oper} {a:Act} {K:Act → World → Prop} {Q:Exit → Act → World → Prop} (s0 x0:Operand) (t:TypeId)
  (ho:o.op = .call { callee:=.builtin .append,args:=#[s0,x0],argTypes:=#[t,t] })
  (e:TypeId) (i:TypeInfo) (z:Value) (s bytes:Nat) (ht:P.underlying t = some (.slice e)) (hi:P.info? e = some i) (hz:i.zero = some z)
  (hsize:i.size = s) (hby:i.bytes = bytes) (hzs:z.cells.size = s) (hsz:0 < s) (hE:OStays El)
  (v:Value) (hs:a.eval s0 = v) (S:Nat → Prop) (xs:List α) (h:OSl El true e s w S v xs) (hS:∀ b,S b → b < w.heap.size) (ad:Addr) (c:Nat) (hx0:a.eval x0 = .slice (some ad) 1 c) (news:List Value) (hl:news.length = s) (hnews:∀ j u,news[j]? = some u → w.cell? (ad.add j) = some u) (h1:∀ u ∈ news,u.oneCell' = true)
  (T:Nat → Prop) (x:α) (hx:El w T news x) (hT:∀ b,T b → ¬ S b ∧ b < w.heap.size) (h63:xs.length + 1 ≤ 1000000) (hb2:bytes ≤ 1000) (hs2:s ≤ 100)
  (hK:∀ v' w',Pushed w El e s S T xs x v' w' → K (a.put o.dst v') w'):o.wp P a w K Q:=by
 obtain ⟨v',w',hr,h2⟩:=run_push (P:=P) w t o.type e i z s bytes ht hi hz hsize hby hzs hsz hE v S xs h hS ad c news hl hnews h1 T x hx hT h63 hb2 hs2
 unfold Oper.wp execOp
 simp only [ho,resolve,invoke,builtin,Sem.run_bind,Sem.run_pure,Result.andThen_ok,List.map_toArray,List.map_cons,List.map_nil,hs,hx0,hr]
 exact hK v' w' h2
theorem wpList_push {ops:Array Oper} {rest:List Oper} {o:Oper} {a:Act} {Q:Exit → Act → World → Prop} (hgd:o.guard = none) (s0 x0:Operand) (t:TypeId)
  (ho:o.op = .call { callee:=.builtin .append,args:=#[s0,x0],argTypes:=#[t,t] })
  (e:TypeId) (i:TypeInfo) (z:Value) (s bytes:Nat) (ht:P.underlying t = some (.slice e)) (hi:P.info? e = some i) (hz:i.zero = some z)
  (hsize:i.size = s) (hby:i.bytes = bytes) (hzs:z.cells.size = s) (hsz:0 < s) (hE:OStays El)
  (v:Value) (hs:a.eval s0 = v) (S:Nat → Prop) (xs:List α) (h:OSl El true e s w S v xs) (hS:∀ b,S b → b < w.heap.size) (ad:Addr) (c:Nat) (hx0:a.eval x0 = .slice (some ad) 1 c) (news:List Value) (hl:news.length = s) (hnews:∀ j u,news[j]? = some u → w.cell? (ad.add j) = some u) (h1:∀ u ∈ news,u.oneCell' = true)
  (T:Nat → Prop) (x:α) (hx:El w T news x) (hT:∀ b,T b → ¬ S b ∧ b < w.heap.size) (h63:xs.length + 1 ≤ 1000000) (hb2:bytes ≤ 1000) (hs2:s ≤ 100)
  (hK:∀ v' w',Pushed w El e s S T xs x v' w' → wpList P ops Q rest (a.put o.dst v') w'):wpList P ops Q (o :: rest) a w:=
 wpList_plain hgd fun _ hK'=>wp_push w s0 x0 t ho e i z s bytes ht hi hz hsize hby hzs hsz hE v hs S xs h hS ad c hx0 news hl hnews h1 T x hx hT h63 hb2 hs2 fun v' w' h2=>hK' _ _ (hK v' w' h2)
end
def OBox (w:World) (b:Nat) (e:TypeId) (u v x:Value):Prop:=BlkIs w b e 3 ∧ w.cell? ⟨b,0,none⟩ = some u ∧ w.cell? ⟨b,1,none⟩ = some v ∧ w.cell? ⟨b,2,none⟩ = some x
theorem OBox.new (w:World) (e:TypeId) (u v x:Value):OBox (w.alloc (.cells #[u,v,x] e)) w.heap.size e u v x:=by
 refine ⟨⟨_,heap_alloc_new w _,rfl⟩, ?_, ?_, ?_⟩ <;> simp
theorem OBox.keep {w w':World} {b:Nat} {e:TypeId} {u v x:Value} (h:OBox w b e u v x) (k:w'.heap[b]? = w.heap[b]?):OBox w' b e u v x:=by
 obtain ⟨h0,h1,h2,h3⟩:=h
 exact ⟨h0.same k,(World.cell?_of_block (w:=w) (a:=⟨b,0,none⟩) k).trans h1,(World.cell?_of_block (w:=w) (a:=⟨b,1,none⟩) k).trans h2,(World.cell?_of_block (w:=w) (a:=⟨b,2,none⟩) k).trans h3⟩
theorem OBox.set0 {w:World} {b:Nat} {e:TypeId} {u v x:Value} (h:OBox w b e u v x) (u':Value):OBox (w.setCell ⟨b,0,none⟩ u') b e u' v x:=by
 obtain ⟨h0,h1,h2,h3⟩:=h
 exact ⟨h0.setCell,h0.cell_set (by omega),(cell_setCell 1 (by omega)).trans h2,(cell_setCell 2 (by omega)).trans h3⟩
theorem OBox.set1 {w:World} {b:Nat} {e:TypeId} {u v x:Value} (h:OBox w b e u v x) (v':Value):OBox (w.setCell ⟨b,1,none⟩ v') b e u v' x:=by
 obtain ⟨h0,h1,h2,h3⟩:=h
 exact ⟨h0.setCell,(cell_setCell 0 (by omega)).trans h1,h0.cell_set (by omega),(cell_setCell 2 (by omega)).trans h3⟩
theorem OBox.set2 {w:World} {b:Nat} {e:TypeId} {u v x:Value} (h:OBox w b e u v x) (x':Value):OBox (w.setCell ⟨b,2,none⟩ x') b e u v x':=by
 obtain ⟨h0,h1,h2,h3⟩:=h
 exact ⟨h0.setCell,(cell_setCell 0 (by omega)).trans h1,(cell_setCell 1 (by omega)).trans h2,h0.cell_set (by omega)⟩
theorem OBox.all {w:World} {b:Nat} {e:TypeId} {u v x:Value} (h:OBox w b e u v x):w.frozen? ⟨b,0,none⟩ = false ∧ w.frozen? ⟨b,1,none⟩ = false ∧ w.frozen? ⟨b,2,none⟩ = false ∧ w.cell? ⟨b,0,none⟩ = some u ∧ w.cell? ⟨b,1,none⟩ = some v ∧ w.cell? ⟨b,2,none⟩ = some x:=⟨h.1.frozen 0,h.1.frozen 1,h.1.frozen 2,h.2⟩
theorem OBox.put {w:World} {b:Nat} {e:TypeId} {u v x:Value} (h:OBox w b e u v x) (u' v' x':Value):OBox (((w.setCell ⟨b,0,none⟩ u').setCell ⟨b,1,none⟩ v').setCell ⟨b,2,none⟩ x') b e u' v' x':=((h.set0 u').set1 v').set2 x'
theorem OBox.put3 {w:World} {b:Nat} {e:TypeId} {u v x:Value} (h:OBox w b e u v x) (u' v' x':Value) :
  (((w.setCell ⟨b,0,none⟩ u').setCell ⟨b,1,none⟩ v').setCell ⟨b,2,none⟩ x').cell? ⟨b,0,none⟩ = some u' ∧ (((w.setCell ⟨b,0,none⟩ u').setCell ⟨b,1,none⟩ v').setCell ⟨b,2,none⟩ x').cell? ⟨b,1,none⟩ = some v' ∧ (((w.setCell ⟨b,0,none⟩ u').setCell ⟨b,1,none⟩ v').setCell ⟨b,2,none⟩ x').cell? ⟨b,2,none⟩ = some x':=(h.put u' v' x').2
theorem set3_blk {w:World} {b c:Nat} {u v x:Value} (h:c ≠ b):(((w.setCell ⟨b,0,none⟩ u).setCell ⟨b,1,none⟩ v).setCell ⟨b,2,none⟩ x).heap[c]? = w.heap[c]?:=by
 rw [Go.Deep.blk_setCell_other _ _ _ _ h,Go.Deep.blk_setCell_other _ _ _ _ h,Go.Deep.blk_setCell_other _ _ _ _ h]
theorem set3_size {w:World} {b:Nat} {u v x:Value}:(((w.setCell ⟨b,0,none⟩ u).setCell ⟨b,1,none⟩ v).setCell ⟨b,2,none⟩ x).heap.size = w.heap.size:=by
 rw [Go.Deep.nblk_setCell,Go.Deep.nblk_setCell,Go.Deep.nblk_setCell]
theorem OBox.lt {w:World} {b:Nat} {e:TypeId} {u v x:Value} (h:OBox w b e u v x):b < w.heap.size:=h.1.lt
theorem below_setCell {B:Nat} {w w':World} (h:Below B w w') {a:Addr} (ha:B ≤ a.block) (v:Value):Below B w (w'.setCell a v):=
 h.trans ⟨rfl,rfl,rfl,by rw [Go.Deep.nblk_setCell];exact Nat.le_refl _,fun k hk=>Go.Deep.blk_setCell_other _ _ _ _ (by omega)⟩
theorem set3_below {B b:Nat} {w w':World} {u v x:Value} (h:Below B w w') (hb:B ≤ b):Below B w (((w'.setCell ⟨b,0,none⟩ u).setCell ⟨b,1,none⟩ v).setCell ⟨b,2,none⟩ x):=below_setCell (below_setCell (below_setCell h hb _) hb _) hb _
theorem boxes2 (w:World) (u v x:Value) (e:TypeId) :
  ∃ wA,Hid ((w.alloc (.cells #[u,v,x] e)).alloc (.cells #[.slice none 0 0, .slice none 0 0, .slice none 0 0] e) = wA) ∧ Below w.heap.size w wA ∧ OBox wA w.heap.size e u v x ∧ OBox wA (w.heap.size + 1) e (.slice none 0 0) (.slice none 0 0) (.slice none 0 0):=by
 refine ⟨_,Lib.hid rfl,below_a2 w _ _,(OBox.new w e u v x).keep (Go.Deep.blk_alloc_lt _ _ _ (by rw [World.size_alloc];omega)), ?_⟩
 have h:=OBox.new (w.alloc (.cells #[u,v,x] e)) e (.slice none 0 0) (.slice none 0 0) (.slice none 0 0)
 rwa [World.size_alloc] at h
theorem below_row {B:Nat} {w w':World} {r:Option Nat} (h:w.grownBy w' r) (hr:∀ k,r = some k → B ≤ k) (hB:B ≤ w.heap.size):Below B w w':=
 ⟨h.os,h.tape,h.output,h.size,fun k hk=>h.block k (by omega) (fun e=>by have:=hr k e.symm;omega)⟩
end Go.Proofs.YtnalakhelicjcaaGreatDoor
namespace Go.Proofs.YtnalakhelicjcaaGreatDoor
open Go.RowKit
section
variable {P:Program} {ops:Array Oper} {Q:Exit → Act → World → Prop} {md:Region.Mode} {S:World → Prop} {n:Nat}
def wpAnyN (P:Program) (md:Region.Mode) (ops:Array Oper) (Q:Exit → Act → World → Prop) (S:World → Prop) (n:Nat):Nat → Array Bool → Act → World → Prop
 | 0,listed,a,w=>Region.ready md ops listed = [] ∧ Q .normal a w
 | fuel + 1,listed,a,w =>
  (Region.ready md ops listed = [] → Q .normal a w) ∧
  ∀ i ∈ Region.ready md ops listed,wpOp P ops Q i (fun a' w'=>(i < n → S w') ∧ wpAnyN P md ops Q S n fuel (listed.setIfInBounds i true) a' w') a w
theorem wpAny_of_N:∀ (fuel:Nat) (listed:Array Bool) (a:Act) (w:World),wpAnyN P md ops Q S n fuel listed a w → wpAny P md ops Q fuel listed a w
 | 0,_,_,_,h=>h
 | fuel + 1,_,_,_,h=>⟨h.1,fun i hi=>wpOp_mono (fun a' w' h'=>wpAny_of_N fuel _ a' w' h'.2) (h.2 i hi)⟩
theorem wpAnyN_first {i:Nat} {oi:Oper} {v:Value} (hi:ops[i]? = some oi) (hsel:∀ (j:Nat) (o:Oper) cs b,ops[j]? = some o → o.op ≠ .select cs b)
  (hs:Region.sinkB md ops n = true) (hc:Region.chainB md ops n = true) (hn:n < ops.size) (hin:i < n)
  (hQ:∀ c a w,Q (.panic c) (a.put oi.dst v) w → Q (.panic c) a w) :
  ∀ (fuel:Nat) (listed:Array Bool) (a:Act) (w:World),HeadInv md ops n listed →
   (∀ j oj,ops[j]? = some oj → j ≠ i → listed.getD j true = false → (∀ e ∈ oj.after,Region.binds md e = true → e.on ≠ i) → oi.apart ops oj = true) →
   i ∈ Region.ready md ops listed → YieldsIf P ops S oi v a → S w →
   wpAnyN P md ops Q S n fuel (listed.setIfInBounds i true) (a.put oi.dst v) w → wpAnyN P md ops Q S n (fuel + 1) listed a w:=by
 intro fuel
 induction fuel with
 | zero =>
  intro listed a w _ _ hr hy hS H
  refine ⟨fun h=>(by rw [h] at hr;cases hr),fun j hj=>?_⟩
  by_cases hji:j = i
  ·subst hji;exact hy.wpOp hi hS ⟨fun _=>hS,H⟩
  ·have:=ready_mono hj hji
   rw [H.1] at this
   cases this
 | succ fuel ih =>
  intro listed a w inv hfree hr hy hS H
  have hun:=(mem_ready.1 hr).1
  refine ⟨fun h=>(by rw [h] at hr;cases hr),fun j hj=>?_⟩
  by_cases hji:j = i
  ·subst hji;exact hy.wpOp hi hS ⟨fun _=>hS,H⟩
  ·have hjn:j < n:=by
    rcases Nat.lt_or_ge j n with h | h
    ·exact h
    ·exact absurd hj (tail_waits hs hc hn inv _ i rfl hin hun j h)
   have h1:=H.2 j (ready_mono hj hji)
   obtain ⟨hjun,oj,hoj,hall⟩:=mem_ready.1 hj
   have hnot:∀ e ∈ oj.after,Region.binds md e = true → e.on ≠ i:=fun e he hb heq=>by
    have h1:=hall e he hb
    rw [heq,getD_both hun] at h1
    cases h1
   have h2:=wpOp_putIf hoj (hfree j oj hoj hji hjun hnot) (fun cs b=>hsel i oi cs b hi) (fun cs b=>hsel j oj cs b hoj) hQ hy h1
   have hfree':∀ k ok,ops[k]? = some ok → k ≠ i → (listed.setIfInBounds j true).getD k true = false →
     (∀ e ∈ ok.after,Region.binds md e = true → e.on ≠ i) → oi.apart ops ok = true:=fun k ok hk hki hun hno=>by
    refine hfree k ok hk hki ?_ hno
    by_cases hjk:j = k
    ·subst hjk;exact hjun
    ·rw [getD_set_ne true hjk] at hun;exact hun
   refine wpOp_mono (fun a' w' h3=>⟨fun _=>h3.2.1 hjn,ih (listed.setIfInBounds j true) a' w' (inv.set hj hjn) hfree' (ready_mono hr (Ne.symm hji)) h3.1 (h3.2.1 hjn) ?_⟩) h2
   rw [Array.setIfInBounds_comm _ _ hji]
   exact h3.2.2
def invB (md:Region.Mode) (ops:Array Oper) (n:Nat) (listed:Array Bool):Bool:=
 decide (listed.size = ops.size) && ((List.range ops.size).all fun j=>!listed.getD j false || ((ops[j]?).map fun o=>o.after.all fun e=>!Region.binds md e || listed.getD e.on false).getD true) &&
  (List.range ops.size).all fun t=>decide (t < n) || !listed.getD t true
theorem invB_spec {listed:Array Bool} (h:invB md ops n listed = true):HeadInv md ops n listed:=by
 simp only [invB,Bool.and_eq_true,decide_eq_true_eq] at h
 obtain ⟨⟨h1,h2⟩,h3⟩:=h
 refine ⟨h1,fun j oj hj hl e he hb=>?_,fun t ht htl=>?_⟩
 ·have hjs:j < ops.size:=(Array.getElem?_eq_some_iff.1 hj).1
  have:=List.all_eq_true.1 h2 j (List.mem_range.2 hjs)
  rw [hl,hj] at this
  simp only [Bool.not_true,Bool.false_or,Option.map_some,Option.getD_some] at this
  rcases Nat.lt_or_ge 0 oj.after.size with h0 | h0
  ·have h4:=Array.all_eq_true_iff_forall_mem.1 this e he
   simp only [hb,Bool.not_true,Bool.false_or] at h4
   exact h4
  ·have h4:=Array.all_eq_true_iff_forall_mem.1 this e he
   simp only [hb,Bool.not_true,Bool.false_or] at h4
   exact h4
 ·have:=List.all_eq_true.1 h3 t (List.mem_range.2 htl)
  simp only [Bool.or_eq_true,decide_eq_true_eq,Bool.not_eq_true'] at this
  rcases this with h | h
  ·omega
  ·exact h
def takeB (md:Region.Mode) (ops:Array Oper) (n:Nat) (listed:Array Bool) (i:Nat):Bool:=
 Region.noSelect ops && Region.free md ops listed i && (Region.ready md ops listed).contains i && decide (i < n) && Region.sinkB md ops n && Region.chainB md ops n && decide (n < ops.size) && invB md ops n listed
theorem N_take {i:Nat} {oi:Oper} {d:Option Tmp} {v:Value} {fuel:Nat} {listed:Array Bool} {a:Act} {w:World} (hi:ops[i]? = some oi) (hd:oi.dst = d) (hB:takeB md ops n listed i = true)
  (hQ:∀ c a w,Q (.panic c) (a.put d v) w → Q (.panic c) a w) (hy:YieldsIf P ops S oi v a) (hS:S w)
  (h:wpAnyN P md ops Q S n fuel (listed.setIfInBounds i true) (a.put d v) w):wpAnyN P md ops Q S n (fuel + 1) listed a w:=by
 subst hd
 simp only [takeB,Bool.and_eq_true,decide_eq_true_eq] at hB
 obtain ⟨⟨⟨⟨⟨⟨⟨b1,b2⟩,b3⟩,b4⟩,b5⟩,b6⟩,b7⟩,b8⟩:=hB
 exact wpAnyN_first hi (Region.noSelect_spec b1) b5 b6 b7 b4 hQ fuel listed a w (invB_spec b8) (Region.free_spec hi b2) (by simpa using b3) hy hS h
def QK (Q:Exit → Act → World → Prop) (K:Act → World → Prop):Exit → Act → World → Prop
 | .normal,a,w=>K a w
 | e,a,w=>Q e a w
theorem QK_normal {K:Act → World → Prop} {a:Act} {w:World} (h:K a w):QK Q K .normal a w:=h
theorem wpOp_of_one {i:Nat} {o:Oper} {K:Act → World → Prop} {a:Act} {w:World} (ho:ops[i]? = some o) (h:wpList P ops (QK Q K) [o] a w):wpOp P ops Q i K a w:=by
 unfold wpOp
 simp only [ho]
 simp only [wpList] at h
 split
 ·rename_i hw
  simp only [hw,if_true] at h
  rcases h with h | ⟨h1,h2⟩
  ·refine .inl ?_
   unfold Oper.wp at *
   generalize (execOp a.eval o).run P w = r at *
   cases r with
   | ok m w' =>
    cases m <;> simp only [Oper.upon] at h ⊢ <;>
     first
      | exact h
      | exact Calls.mono h (fun e w'' he=>by cases e <;> exact he)
      | exact Rows.mono h (fun _ _ he=>he)
   | halt x w'=>cases x <;> simp only [Oper.upon] at h ⊢ <;> exact h
  ·exact .inr ⟨h1,h2⟩
 ·rename_i hw
  simp only [hw] at h
  exact h
theorem N_one {i:Nat} {o:Oper} {fuel:Nat} {listed:Array Bool} {a:Act} {w:World} (hr:Region.ready md ops listed = [i]) (ho:ops[i]? = some o)
  (h:wpList P ops (QK Q fun a' w'=>(i < n → S w') ∧ wpAnyN P md ops Q S n fuel (listed.setIfInBounds i true) a' w') [o] a w):wpAnyN P md ops Q S n (fuel + 1) listed a w:=
 ⟨fun h0=>(by rw [hr] at h0;cases h0),fun j hj=>by
  rw [hr] at hj
  obtain rfl:j = i:=by simpa using hj
  exact wpOp_of_one ho h⟩
theorem N_two {i j:Nat} {o u:Oper} {fuel:Nat} {listed:Array Bool} {a:Act} {w:World} (hr:Region.ready md ops listed = [i,j]) (ho:ops[i]? = some o) (hu:ops[j]? = some u)
  (h:wpList P ops (QK Q fun a' w'=>(i < n → S w') ∧ wpAnyN P md ops Q S n fuel (listed.setIfInBounds i true) a' w') [o] a w)
  (h2:wpList P ops (QK Q fun a' w'=>(j < n → S w') ∧ wpAnyN P md ops Q S n fuel (listed.setIfInBounds j true) a' w') [u] a w):wpAnyN P md ops Q S n (fuel + 1) listed a w:=
 ⟨fun h0=>(by rw [hr] at h0;cases h0),fun k hk=>by
  rw [hr] at hk
  rcases List.mem_cons.1 hk with rfl | hk
  ·exact wpOp_of_one ho h
  ·obtain rfl:k = j:=by simpa using hk
   exact wpOp_of_one hu h2⟩
theorem N_tail:∀ (l:List Oper) (k:Nat) (listed:Array Bool) (a:Act) (w:World),n ≤ k → (∀ j,l[j]? = ops[k + j]?) →
  Region.seqB md ops l.length k listed = true → wpList P ops Q l a w → wpAnyN P md ops Q S n l.length listed a w
 | [],_,_,_,_,_,_,hB,h=>⟨by simpa [Region.seqB] using hB,h⟩
 | o :: l,k,listed,a,w,hnk,hl,hB,h=>by
  have h0:ops[k]? = some o:=by simpa using (hl 0).symm
  simp only [List.length_cons,Region.seqB,Bool.and_eq_true,decide_eq_true_eq] at hB
  refine ⟨fun h1=>(by rw [hB.1] at h1;cases h1),fun i hi=>?_⟩
  rw [hB.1] at hi
  have hik:i = k:=by simpa using hi
  subst hik
  have hw:wpOp P ops Q i (wpList P ops Q l) a w:=by unfold wpOp;simp only [h0];exact h
  exact wpOp_mono (fun a' w' h'=>⟨fun hlt=>absurd hlt (by omega),N_tail l (i + 1) _ a' w' (by omega) (fun j=>by have:=hl (j + 1);simpa [Nat.add_assoc,Nat.add_comm 1 j] using this) hB.2 h'⟩) hw
theorem N_take' {l:List Oper} {i:Nat} {oi:Oper} {d:Option Tmp} {v:Value} {fuel:Nat} {listed:Array Bool} {a:Act} {w:World} (hi:l[i]? = some oi) (hd:oi.dst = d) (hB:takeB md l.toArray n listed i = true)
  (hQ:∀ c a w,Q (.panic c) (a.put d v) w → Q (.panic c) a w) (hy:YieldsIf P l.toArray S oi v a) (hS:S w)
  (h:wpAnyN P md l.toArray Q S n fuel (listed.setIfInBounds i true) (a.put d v) w):wpAnyN P md l.toArray Q S n (fuel + 1) listed a w:=
 N_take (by simpa using hi) hd hB hQ hy hS h
theorem tk {l:List Oper} (i:Nat) {oi:Oper} {d:Option Tmp} (v:Value) {fuel:Nat} {listed:Array Bool} {a:Act} {w:World} (hi:l[i]? = some oi) (hd:oi.dst = d) (hB:takeB md l.toArray n listed i = true)
  (hy:YieldsIf P l.toArray S oi v a) (hS:S w) (h:wpAnyN P md l.toArray Q S n fuel (listed.setIfInBounds i true) (a.put d v) w)
  (hQ:∀ c a w,Q (.panic c) (a.put d v) w → Q (.panic c) a w:=by exact fun _ _ _ h=>h):wpAnyN P md l.toArray Q S n (fuel + 1) listed a w:=N_take' hi hd hB hQ hy hS h
theorem N_one' {l:List Oper} {i:Nat} {o:Oper} {fuel:Nat} {listed:Array Bool} {a:Act} {w:World} (hr:Region.ready md l.toArray listed = [i]) (ho:l[i]? = some o)
  (h:wpList P l.toArray (QK Q fun a' w'=>(i < n → S w') ∧ wpAnyN P md l.toArray Q S n fuel (listed.setIfInBounds i true) a' w') [o] a w):wpAnyN P md l.toArray Q S n (fuel + 1) listed a w:=
 N_one hr (by simpa using ho) h
theorem N_two' {l:List Oper} {i j:Nat} {o u:Oper} {fuel:Nat} {listed:Array Bool} {a:Act} {w:World} (hr:Region.ready md l.toArray listed = [i,j]) (ho:l[i]? = some o) (hu:l[j]? = some u)
  (h:wpList P l.toArray (QK Q fun a' w'=>(i < n → S w') ∧ wpAnyN P md l.toArray Q S n fuel (listed.setIfInBounds i true) a' w') [o] a w)
  (h2:wpList P l.toArray (QK Q fun a' w'=>(j < n → S w') ∧ wpAnyN P md l.toArray Q S n fuel (listed.setIfInBounds j true) a' w') [u] a w):wpAnyN P md l.toArray Q S n (fuel + 1) listed a w:=
 N_two hr (by simpa using ho) (by simpa using hu) h h2
theorem N_rest {l:List Oper} (k f:Nat) {listed:Array Bool} {a:Act} {w:World} (hnk:n ≤ k) (hf:l.length - k = f) (hB:Region.seqB md l.toArray f k listed = true)
  (h:wpList P l.toArray Q (l.drop k) a w):wpAnyN P md l.toArray Q S n f listed a w:=by
 have hl:(l.drop k).length = f:=by simp [hf]
 have:=N_tail (ops:=l.toArray) (P:=P) (Q:=Q) (md:=md) (S:=S) (n:=n) (l.drop k) k listed a w hnk (fun j=>by simp [List.getElem?_drop]) (by rw [hl];exact hB) h
 rwa [hl] at this
end
theorem tkp {l:List Value} {ds:List Deferred} {k:Nat} {v:Value}:Act.put { tmps:=l.toArray,defers:=ds } (some k) v = { tmps:=(l.set k v).toArray,defers:=ds }:=by simp [Act.put]
theorem tkz {a v:Value} {l:List Value}:(a :: l).set 0 v = v :: l:=rfl
theorem tks {a v:Value} {l:List Value} {k:Nat}:(a :: l).set (k + 1) v = a :: l.set k v:=rfl
theorem wp_region_N {P:Program} {ops:Array Oper} {Q:Exit → Act → World → Prop} {id:Nat} {a:Act} {w:World} (S:World → Prop) (n f:Nat) (hf:ops.size = f) (hm:P.follows .mixedOrders = true) (hS:S w.drew)
  (h:S w.drew → wpAnyN P .any ops Q S n f (Array.replicate f false) a w.drew):(Code.region id ops true).wp P Q a w:=by
 subst hf
 exact wp_region_any hm (wpAny_of_N _ _ _ _ (h hS))
end Go.Proofs.YtnalakhelicjcaaGreatDoor
set_option maxRecDepth 100000
namespace Go.Proofs.YtnalakhelicjcaaGreatDoor
open Go.RowKit Go.Shelf Go.BigFrame
theorem OInts.of_owns {w:World} {base:Nat} {v:Value} {xs:List Int} (h:w.ownsRow base 3 1 v xs.length (xs.map (Value.int .i64))) (hx:∀ x ∈ xs,I64 x) (hl:xs.length * 8 ≤ 140737488351232):OInts w (fun b=>v.ownBlock = some b) v xs:=by
 refine OSl.of_owns h (by omega) (fun i hi=>?_)
 have:(xs.map (Value.int .i64)).drop (i * 1) = .int .i64 xs[i] :: (xs.map (Value.int .i64)).drop (i + 1):=by
  rw [Nat.mul_one,List.drop_eq_getElem_cons (by simpa using hi)];simp
 rw [this]
 exact ⟨rfl,hx _ (List.getElem_mem _)⟩
theorem owns_lies {w w':World} {b:Nat} {e:TypeId} {s n:Nat} {v:Value} {xs:List Value} (h:w.ownsRow b e s v n xs) (hk:∀ k,v.ownBlock = some k → w'.heap[k]? = w.heap[k]?):w'.ownsRow b e s v n xs:=by
 refine ⟨h.1, ?_⟩
 rcases h.2 with h | ⟨g,cap,cur,rfl,h2,h3,h4⟩
 ·exact .inl h
 ·exact .inr ⟨g,cap,cur,rfl,h2,(hk g rfl).trans h3,h4⟩
theorem below_drew {B:Nat} {a b:World} (h:Below B a b):Below B a b.drew:=⟨h.os,h.tape,h.output,h.size,h.block⟩
theorem owns_drew {w:World} {b:Nat} {e:TypeId} {s n:Nat} {v:Value} {xs:List Value} (h:w.ownsRow b e s v n xs):w.drew.ownsRow b e s v n xs:=h
def TwoOwn (w0 w:World) (v u:Value) (ms ns:List M):Prop:=
 Below w0.heap.size w0 w ∧ ∃ T U:Nat → Prop,OMsgs true w T v ms ∧ OMsgs true w U u ns ∧ (∀ b,T b → w0.heap.size ≤ b ∧ b < w.heap.size) ∧ (∀ b,U b → w0.heap.size ≤ b ∧ b < w.heap.size) ∧ Dis T U
section
variable {wr w5 w8:World} {E E':Obj} {v u:Value} {ms ns:List M}
theorem two_own1 (hf:(∀ m ∈ ms,m.fits) ∧ ∀ m ∈ ns,m.fits) (hl:ms.length ≤ 1000 ∧ ns.length ≤ 1000) (hg5:(wr.alloc E).drew.grownBy w5 (some wr.heap.size)) (h5:w5.ownsRow wr.heap.size 96 5 v ms.length (ms.flatMap M.cells))
  (hg8:(w5.alloc E').grownBy w8 (some w5.heap.size)) (h8:w8.ownsRow wr.heap.size 96 5 u ns.length (ns.flatMap M.cells)) (hat:u.ownBlock = some w5.heap.size ∨ u.ownBlock = some (w5.alloc E').heap.size):TwoOwn wr w8 v u ms ns:=by
 have s5:wr.heap.size + 1 ≤ w5.heap.size:=by have:=hg5.size;rwa [show ((wr.alloc E).drew).heap.size = wr.heap.size + 1 from World.size_alloc _ _] at this
 have s8:w5.heap.size + 1 ≤ w8.heap.size:=by have:=hg8.size;rwa [World.size_alloc] at this
 have b5:Below wr.heap.size wr w5:=(below_drew (below_a1 wr E)).trans (below_row hg5 (fun k hk=>by cases hk;exact Nat.le_refl _) (by rw [show ((wr.alloc E).drew).heap.size = wr.heap.size + 1 from World.size_alloc _ _];omega))
 have b8:Below wr.heap.size wr w8:=(b5.alloc b5.size _).trans (below_row hg8 (fun k hk=>by cases hk;omega) (by rw [World.size_alloc];omega))
 refine ⟨b8,fun b=>v.ownBlock = some b,fun b=>u.ownBlock = some b,MsgsOwn.own ⟨hf.1,owns_lies h5 (fun k hk=>?_)⟩ (by omega),MsgsOwn.own ⟨hf.2,h8⟩ (by omega),fun b hb=>?_,fun b hb=>h8.lt b hb,fun b hb hc=>?_⟩
 ·have hk2:=(h5.lt k hk).2
  exact (hg8.block k (by rw [World.size_alloc];omega) (fun e=>by injection e with e;omega)).trans (Go.Deep.blk_alloc_lt _ _ _ hk2)
 ·have:=h5.lt b hb;omega
 ·have:=(h5.lt b hb).2
  rw [World.size_alloc] at hat
  rcases hat with h | h <;> (rw [h] at hc;injection hc with hc;omega)
theorem two_own2 {p q:Nat} (hp:p ≠ q ∧ wr.heap.size ≤ p ∧ wr.heap.size ≤ q ∧ p ≤ wr.heap.size + 1 ∧ q ≤ wr.heap.size + 1) (hf:(∀ m ∈ ms,m.fits) ∧ ∀ m ∈ ns,m.fits) (hl:ms.length ≤ 1000 ∧ ns.length ≤ 1000) (hg5:((wr.alloc E).alloc E').drew.grownBy w5 (some p)) (h5:w5.ownsRow wr.heap.size 96 5 v ms.length (ms.flatMap M.cells))
  (hat5:v.ownBlock = some p ∨ v.ownBlock = some ((wr.alloc E).alloc E').drew.heap.size)
  (hg8:w5.grownBy w8 (some q)) (h8:w8.ownsRow wr.heap.size 96 5 u ns.length (ns.flatMap M.cells)) (hat:u.ownBlock = some q ∨ u.ownBlock = some w5.heap.size):TwoOwn wr w8 v u ms ns:=by
 have s0:(((wr.alloc E).alloc E').drew).heap.size = wr.heap.size + 2:=by show ((wr.alloc E).alloc E').heap.size = _;rw [World.size_alloc,World.size_alloc]
 have s5:wr.heap.size + 2 ≤ w5.heap.size:=by have:=hg5.size;rwa [s0] at this
 have s8:=hg8.size
 have b5:Below wr.heap.size wr w5:=(below_drew (below_a2 wr E E')).trans (below_row hg5 (fun k hk=>by cases hk;omega) (by rw [s0];omega))
 have b8:Below wr.heap.size wr w8:=b5.trans (below_row hg8 (fun k hk=>by cases hk;omega) (by omega))
 rw [s0] at hat5
 have hv:∀ b,v.ownBlock = some b → b ≠ q ∧ b < w5.heap.size:=fun b hb=>by
  refine ⟨fun e=>?_,(h5.lt b hb).2⟩
  rcases hat5 with h | h <;> (rw [h] at hb;injection hb with hb;omega)
 refine ⟨b8,fun b=>v.ownBlock = some b,fun b=>u.ownBlock = some b,MsgsOwn.own ⟨hf.1,owns_lies h5 (fun k hk=>hg8.block k (hv k hk).2 (fun e=>(hv k hk).1 (by injection e)))⟩ (by omega),MsgsOwn.own ⟨hf.2,h8⟩ (by omega),
  fun b hb=>?_,fun b hb=>h8.lt b hb,fun b hb hc=>?_⟩
 ·have:=h5.lt b hb;omega
 ·rcases hat with h | h <;> (rw [h] at hc;injection hc with hc)
  ·exact (hv b hb).1 hc.symm
  ·have:=(hv b hb).2;omega
theorem emp2 {p q:Nat} {e:TypeId} {s:Nat} (hp:p ≠ q) (hq:q = wr.heap.size ∨ q = wr.heap.size + 1) (hg5:((wr.alloc (.cells #[] e)).alloc (.cells #[] e)).drew.grownBy w5 (some p)):w5.ownsRow wr.heap.size e s (.slice (some ⟨q,0,none⟩) 0 0) 0 []:=by
 have s0:(((wr.alloc (.cells #[] e)).alloc (.cells #[] e)).drew).heap.size = wr.heap.size + 2:=by show ((wr.alloc _).alloc _).heap.size = _;rw [World.size_alloc,World.size_alloc]
 have h0:((wr.alloc (.cells #[] e)).alloc (.cells #[] e)).ownsRow wr.heap.size e s (.slice (some ⟨q,0,none⟩) 0 0) 0 []:=by
  rcases hq with rfl | rfl
  ·exact (World.ownsRow_made wr #[] 0 (Nat.le_refl _) (by simp [maxLen]) (by simp)).alloc _
  ·have:=World.ownsRow_made (base:=wr.heap.size) (size:=s) (e:=e) (wr.alloc (.cells #[] e)) #[] 0 (by rw [World.size_alloc];omega) (by simp [maxLen]) (by simp)
   rwa [World.size_alloc] at this
 exact owns_lies h0 (fun k hk=>hg5.block k (by rw [s0];cases hk;show q < _;omega) (fun e=>by cases hk;injection e with e;exact hp e.symm))
end
theorem push_facts {wr w8:World} {E:Obj} {lo B:Nat} {v u nv l:Value} {x:N} {S S2:Nat → Prop} {xs:List N} (hTO:TwoOwn wr w8 v u x.held x.told) (hN:ONodes wr S nv xs) (hSb:∀ b,S b → lo < b ∧ b < B) (hB:B ≤ wr.heap.size)
  (hL:OIntRows wr S2 l x.last) (hS2:∀ b,S2 b → B < b ∧ b < wr.heap.size) (hc:I64 x.clock) :
  ∃ T U:Nat → Prop,ONodes (w8.alloc E) S nv xs ∧ (∀ b,S b → b < (w8.alloc E).heap.size) ∧ ONodeEl (w8.alloc E) (fun b=>S2 b ∨ T b ∨ U b) [.int .i64 x.clock,l,v,u] x ∧ (∀ b,(S2 b ∨ T b ∨ U b) → ¬ S b ∧ b < (w8.alloc E).heap.size) ∧ ∀ b,(S2 b ∨ T b ∨ U b) → B ≤ b:=by
 obtain ⟨hb,T,U,hT,hU,hTb,hUb,hd⟩:=hTO
 have hs:=hb.size
 have kp:∀ (Z:Nat → Prop),(∀ b,Z b → b < wr.heap.size) → Lies Z wr (w8.alloc E):=fun Z hZ b hz=>(Go.Deep.blk_alloc_lt _ _ _ (by have:=hZ b hz;omega)).trans (hb.block b (hZ b hz))
 have kq:∀ (Z:Nat → Prop),(∀ b,Z b → b < w8.heap.size) → Lies Z w8 (w8.alloc E):=fun Z hZ b hz=>Go.Deep.blk_alloc_lt _ _ _ (hZ b hz)
 rw [World.size_alloc]
 refine ⟨T,U,hN.keep (kp S fun b hb=>by have:=hSb b hb;omega),fun b hb=>by have:=hSb b hb;omega,⟨l,v,u,S2,T,U,rfl,hc,hL.keep (kp S2 fun b hb=>(hS2 b hb).2),hT.keep (kq T fun b hb=>(hTb b hb).2),hU.keep (kq U fun b hb=>(hUb b hb).2),fun _ h=>Or.inl h,fun _ h=>Or.inr (Or.inl h),fun _ h=>Or.inr (Or.inr h),fun b h1 h2=>?_,fun b h1 h2=>?_,hd⟩,fun b hb=>⟨fun h=>?_, ?_⟩,fun b hb=>?_⟩
 ·have:=hS2 b h1;have:=hTb b h2;omega
 ·have:=hS2 b h1;have:=hUb b h2;omega
 ·have:=hSb b h
  rcases hb with h | h | h
  ·have:=hS2 b h;omega
  ·have:=hTb b h;omega
  ·have:=hUb b h;omega
 ·rcases hb with h | h | h
  ·have:=hS2 b h;omega
  ·have:=hTb b h;omega
  ·have:=hUb b h;omega
 ·rcases hb with h | h | h
  ·have:=hS2 b h;omega
  ·have:=hTb b h;omega
  ·have:=hUb b h;omega
def Small (X:Wd):Prop:=
 X.groups.length ≤ 1000 ∧ X.nodes.length ≤ 1000 ∧ X.wires.length ≤ 1000 ∧ (∀ x ∈ X.nodes,x.last.length ≤ 1000 ∧ (∀ r ∈ x.last,r.length ≤ 1000) ∧ x.held.length ≤ 1000 ∧ x.told.length ≤ 1000) ∧ ∀ r ∈ X.wires,r.length ≤ 1000 ∧ ∀ l ∈ r,l.length ≤ 1000
def OwnPost (w:World) (X:Wd) (e:Ending) (w':World):Prop:=
 ∃ (gv nv wv:Value) (S:Nat → Prop),e = .returned (.agg #[gv,nv,wv]) ∧ OWd true w' S gv nv wv X ∧ (∀ b,S b → w.heap.size ≤ b ∧ b < w'.heap.size) ∧ Below w.heap.size w w'
end Go.Proofs.YtnalakhelicjcaaGreatDoor
