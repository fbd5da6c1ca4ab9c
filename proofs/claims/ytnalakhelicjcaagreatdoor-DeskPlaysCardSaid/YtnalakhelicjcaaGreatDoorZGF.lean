/-
  All that was there, but for some blocks, is as it was.
-/
import Derived.Test.YtnalakhelicjcaaGreatDoorZKA
import Derived.Test.YtnalakhelicjcaaGreatDoorZKW
import Derived.Test.YtnalakhelicjcaaGreatDoorZDn
import Derived.Test.YtnalakhelicjcaaGreatDoorZKC
import Derived.Test.YtnalakhelicjcaaGreatDoorZKO
import Derived.Lib.AppendStr
namespace Go.Proofs.YtnalakhelicjcaaGreatDoor
open Go.RowKit Go.Deep
structure Save (S:Nat → Prop) (w w':World):Prop where
 os:w'.os = w.os
 tape:w'.tape = w.tape
 output:w'.output = w.output
 size:w.heap.size ≤ w'.heap.size
 block:∀ k,k < w.heap.size → ¬ S k → w'.heap[k]? = w.heap[k]?
namespace Save
variable {S T:Nat → Prop} {w w1 w2:World}
theorem refl (S:Nat → Prop) (w:World):Save S w w:=⟨rfl,rfl,rfl,Nat.le_refl _,fun _ _ _=>rfl⟩
theorem trans (h:Save S w w1) (k:Save T w1 w2) (hT:∀ b,T b → b < w.heap.size → S b):Save S w w2:=
 ⟨k.os.trans h.os,k.tape.trans h.tape,k.output.trans h.output,Nat.le_trans h.size k.size,fun i hi hn=>(k.block i (Nat.lt_of_lt_of_le hi h.size) (fun ht=>hn (hT i ht hi))).trans (h.block i hi hn)⟩
theorem grown {b:Nat} (h:w.grownBy w1 (some b)) (hb:S b):Save S w w1:=⟨h.os,h.tape,h.output,h.size,fun k hk hn=>h.block k hk (fun e=>hn (by rw [Option.some.inj e];exact hb))⟩
theorem below {B:Nat} (h:Save S w w1) (hS:∀ b,S b → B ≤ b) (hB:B ≤ w.heap.size):Below B w w1:=⟨h.os,h.tape,h.output,h.size,fun k hk=>h.block k (by omega) (fun hs=>by have:=hS k hs;omega)⟩
theorem of_below {B:Nat} (h:Below B w w1) (hB:∀ b,B ≤ b → b < w.heap.size → S b):Save S w w1:=⟨h.os,h.tape,h.output,h.size,fun k hk hn=>h.block k (Nat.lt_of_not_le fun hle=>hn (hB k hle hk))⟩
theorem mono (h:Save S w w1) (k:∀ b,S b → T b):Save T w w1:=⟨h.os,h.tape,h.output,h.size,fun i hi hn=>h.block i hi (fun hs=>hn (k i hs))⟩
theorem cell (h:Save S w w1) {a:Addr} {v:Value} (hc:w.cell? a = some v) (hn:¬ S a.block):w1.cell? a = some v:=(World.cell?_of_block (h.block a.block (cell_lt hc) hn)).trans hc
theorem lies (h:Save S w w1) (hT:∀ b,T b → b < w.heap.size ∧ ¬ S b):Lies T w w1:=fun b hb=>h.block b (hT b hb).1 (hT b hb).2
end Save
theorem Save.then {S:Nat → Prop} {w w1 w2:World} (h:Save S w w1) (k:Below w.heap.size w1 w2):Save S w w2:=
 ⟨k.os.trans h.os,k.tape.trans h.tape,k.output.trans h.output,Nat.le_trans h.size k.size,fun b hb hn=>(k.block b hb).trans (h.block b hb hn)⟩
end Go.Proofs.YtnalakhelicjcaaGreatDoor
namespace Go.Proofs.YtnalakhelicjcaaGreatDoor
open Go.RowKit Go.Deep
abbrev Good (e:TypeId):Prop:=e ≠ 9 ∧ e ≠ 5 ∧ e ≠ 42
def IsC (w:World) (b:Nat):Prop:=∃ e n,Good e ∧ BlkIs w b e n
def OCe {α:Type} (El:ElO α):Prop:=∀ w T cs x,El w T cs x → El w (fun b=>T b ∧ IsC w b) cs x
theorem OSl.ce {α:Type} {El:ElO α} {o:Bool} {e:TypeId} {s:Nat} {w:World} {S:Nat → Prop} {v:Value} {xs:List α} (hE:OCe El) (hg:Good e) (h:OSl El o e s w S v xs):OSl El o e s w (fun b=>S b ∧ IsC w b) v xs:=by
 rcases h with h | ⟨g,off,cap,T,h1,h2,h3,h4,h5,h6,h7,h8,h9,h10⟩
 ·exact .inl h
 ·refine .inr ⟨g,off,cap,fun i b=>T i b ∧ IsC w b,h1,⟨h2,_,_,hg,h3⟩,h3,h4,h5,h6,h7,fun i hi=>?_,fun i b hb=>⟨⟨(h9 i b hb.1).1,hb.2⟩,(h9 i b hb.1).2⟩,fun i j b hi hj=>h10 i j b hi.1 hj.1⟩
  obtain ⟨cs,a,c,d⟩:=h8 i hi
  exact ⟨cs,a,c,hE _ _ _ _ d⟩
theorem IntEl.ce:OCe IntEl:=fun _ _ _ _ h=>h
theorem MEl.ce:OCe MEl:=fun _ _ _ _ h=>h
theorem OIntsEl.ce:OCe OIntsEl:=fun _ _ _ _ ⟨u,h,h2⟩=>⟨u,h,OSl.ce IntEl.ce (by decide) h2⟩
theorem OMsgsEl.ce (o:Bool):OCe (OMsgsEl o):=fun _ _ _ _ ⟨u,h,h2⟩=>⟨u,h,OSl.ce MEl.ce (by decide) h2⟩
theorem OMsgRowsEl.ce (o:Bool):OCe (OMsgRowsEl o):=fun _ _ _ _ ⟨u,h,h2⟩=>⟨u,h,OSl.ce (OMsgsEl.ce o) (by decide) h2⟩
theorem ONodeEl.ce:OCe ONodeEl:=fun w _ _ _ ⟨lv,hv,tv,Tl,Th,Tt,h0,h1,h2,h3,h4,a,b,c,d1,d2,d3⟩ =>
 ⟨lv,hv,tv,fun x=>Tl x ∧ IsC w x,fun x=>Th x ∧ IsC w x,fun x=>Tt x ∧ IsC w x,h0,h1,OSl.ce OIntsEl.ce (by decide) h2,OSl.ce MEl.ce (by decide) h3,OSl.ce MEl.ce (by decide) h4,
  fun x h=>⟨a x h.1,h.2⟩,fun x h=>⟨b x h.1,h.2⟩,fun x h=>⟨c x h.1,h.2⟩,fun x h k=>d1 x h.1 k.1,fun x h k=>d2 x h.1 k.1,fun x h k=>d3 x h.1 k.1⟩
theorem OWd.ce {o:Bool} {w:World} {S:Nat → Prop} {gv nv wv:Value} {X:Wd} (h:OWd o w S gv nv wv X):OWd o w (fun b=>S b ∧ IsC w b) gv nv wv X:=by
 obtain ⟨Sg,Sn,Sw,h1,h2,h3,a,b,c,d1,d2,d3⟩:=h
 exact ⟨fun x=>Sg x ∧ IsC w x,fun x=>Sn x ∧ IsC w x,fun x=>Sw x ∧ IsC w x,OSl.ce IntEl.ce (by decide) h1,OSl.ce ONodeEl.ce (by decide) h2,OSl.ce (OMsgRowsEl.ce o) (by decide) h3,
  fun x h=>⟨a x h.1,h.2⟩,fun x h=>⟨b x h.1,h.2⟩,fun x h=>⟨c x h.1,h.2⟩,fun x h k=>d1 x h.1 k.1,fun x h k=>d2 x h.1 k.1,fun x h k=>d3 x h.1 k.1⟩
end Go.Proofs.YtnalakhelicjcaaGreatDoor
set_option maxRecDepth 100000
namespace Go.Proofs.YtnalakhelicjcaaGreatDoor
open Go.RowKit Go.Shelf Go.BigFrame Go.Deep
def TabAt (w:World) (T:Nat) (X:Wd):Prop:=
 ∃ (gv nv wv:Value) (S:Nat → Prop),OBox w T 38 gv nv wv ∧ OWd false w S gv nv wv X ∧ ∀ b,S b → b < w.heap.size ∧ b ≠ T ∧ IsC w b
theorem IsC.lt {w:World} {b:Nat} (h:IsC w b):b < w.heap.size:=by
 obtain ⟨e,n,_,h⟩:=h
 exact h.lt
theorem IsC.same {w w':World} {b:Nat} (h:IsC w b) (k:w'.heap[b]? = w.heap[b]?):IsC w' b:=by
 obtain ⟨e,n,hg,h⟩:=h
 exact ⟨e,n,hg,h.same k⟩
theorem IsC.ne {w:World} {b:Nat} (h:IsC w b) {cs:Array Value} {e:TypeId} {fz:Nat × Nat} (hb:w.heap[b]? = some (.cells cs e fz)) (hg:¬ Good e):False:=by
 obtain ⟨e',n,hg',cs',h,_⟩:=h
 rw [hb] at h
 injection h with h
 injection h with _ h _
 exact hg (h ▸ hg')
theorem TabAt.lt {w:World} {T:Nat} {X:Wd} (h:TabAt w T X):T < w.heap.size:=by
 obtain ⟨_,_,_,_,h,_⟩:=h
 exact h.lt
theorem TabAt.keep {w w':World} {T:Nat} {X:Wd} (h:TabAt w T X) (hs:w.heap.size ≤ w'.heap.size) (k:∀ b,b < w.heap.size → IsC w b → w'.heap[b]? = w.heap[b]?):TabAt w' T X:=by
 obtain ⟨gv,nv,wv,S,h1,h2,h3⟩:=h
 exact ⟨gv,nv,wv,S,h1.keep (k T h1.lt ⟨_,_,by decide,h1.1⟩),h2.keep (fun b hb=>k b (h3 b hb).1 (h3 b hb).2.2),fun b hb=>⟨Nat.lt_of_lt_of_le (h3 b hb).1 hs,(h3 b hb).2.1,(h3 b hb).2.2.same (k b (h3 b hb).1 (h3 b hb).2.2)⟩⟩
theorem TabAt.below {w w':World} {T:Nat} {X:Wd} (h:TabAt w T X) (b:Below w.heap.size w w'):TabAt w' T X:=h.keep b.size fun k hk _=>b.block k hk
theorem TabAt.put {w:World} {T:Nat} {Y:Wd} {S:Nat → Prop} {u v x gv nv wv:Value} (hT:OBox w T 38 u v x) (hO:OWd false w S gv nv wv Y) (hS:∀ b,S b → b ≠ T) :
  TabAt (((w.setCell ⟨T,0,none⟩ gv).setCell ⟨T,1,none⟩ nv).setCell ⟨T,2,none⟩ wv) T Y:=by
 have hc:=OWd.ce hO
 have hk:∀ b,b ≠ T → (((w.setCell ⟨T,0,none⟩ gv).setCell ⟨T,1,none⟩ nv).setCell ⟨T,2,none⟩ wv).heap[b]? = w.heap[b]?:=fun b hb=>set3_blk hb
 exact ⟨gv,nv,wv,_,hT.put gv nv wv,hc.keep (fun b hb=>hk b (hS b hb.1)),fun b hb=>⟨by rw [set3_size];exact hb.2.lt,hS b hb.1,hb.2.same (hk b (hS b hb.1))⟩⟩
theorem Vars.save {w w':World} {S:Nat → Prop} (h:Vars w) (s:Save S w w') (hS:∀ b,S b → 8 ≤ b):Vars w':=h.same fun g hg=>s.block g (by have:=h.lt;omega) (fun hs=>by have:=hS g hs;omega)
def MPost (w:World) (T:Nat) (r:Int × List UInt8 × Wd) (e:Ending) (w':World):Prop:=
 Save (fun b=>b = T) w w' ∧ TabAt w' T r.2.2 ∧ ((r.1 = 0 ∧ e = .returned (.string (strB r.2.1))) ∨ (r.1 ≠ 0 ∧ e = .panicked [refE r.1]))
theorem save3 {w:World} {T:Nat} {u v x:Value}:Save (fun b=>b = T) w (((w.setCell ⟨T,0,none⟩ u).setCell ⟨T,1,none⟩ v).setCell ⟨T,2,none⟩ x):=
 ⟨rfl,rfl,rfl,by rw [set3_size];exact Nat.le_refl _,fun _ _ hn=>set3_blk hn⟩
theorem Save.of {T:Nat} {w w':World} (b:Below w.heap.size w w'):Save (fun b=>b = T) w w':=⟨b.os,b.tape,b.output,b.size,fun k hk _=>b.block k hk⟩
def DTurnPost (w:World) (T:Nat) (X Y:Wd) (e:Int) (x:Ending) (w':World):Prop:=Save (fun b=>b = T) w w' ∧ ((e = 0 ∧ x = .returned (.tuple #[]) ∧ TabAt w' T Y) ∨ (e ≠ 0 ∧ x = .panicked [refE e] ∧ TabAt w' T X))
theorem dturn_c {w:World} {T:Nat} {X Y:Wd} {S:Nat → Prop} {gv nv wv:Value} {e:Int} (hT:TabAt w T X) (hO:OWd false w S gv nv wv Y) (hS:∀ b,S b → b ≠ T ∧ b < w.heap.size) :
  Calls Tryz.prog 75 #[.pointer (some ⟨T,0,none⟩), .agg #[gv,nv,wv], .int .i64 e] w (DTurnPost w T X Y e):=by
 obtain ⟨ug,un,uw,S0,hB,hO0,hS0⟩:=hT
 obtain ⟨pg,pn,pw⟩:=hO.parts
 obtain ⟨_,ga,gcap,rfl,_⟩:=pg.open
 obtain ⟨_,na,ncap,rfl,_⟩:=pn.form
 obtain ⟨_,wa,wcap,rfl,_⟩:=pw.form
 clear pg pn pw
 have hR:=OBox.new w 35 (.slice ga Y.groups.length gcap) (.slice na Y.nodes.length ncap) (.slice wa Y.wires.length wcap)
 have bA:=below_a1 w (.cells #[.slice ga Y.groups.length gcap, .slice na Y.nodes.length ncap, .slice wa Y.wires.length wcap] 35)
 have hT1:TabAt (w.alloc (.cells #[.slice ga Y.groups.length gcap, .slice na Y.nodes.length ncap, .slice wa Y.wires.length wcap] 35)) T X:=TabAt.below ⟨ug,un,uw,S0,hB,hO0,hS0⟩ bA
 have hB1:=hB.keep (bA.block T hB.lt)
 have hO1:=hO.keep (fun b hb=>bA.block b (hS b hb).2)
 have hTl:=hB.lt
 replace hT1:=Lib.hid hT1
 clear hO0 hS0 hB hO
 go_enter Tryz.func75,Tryz.ntmps75
 go_upto_region 1 with fail
 generalize w.alloc (.cells #[.slice ga Y.groups.length gcap, .slice na Y.nodes.length ncap, .slice wa Y.wires.length wcap] 35) = w1 at *
 obtain ⟨D,hD⟩:∃ D,w.heap.size = D:=⟨_,rfl⟩
 simp only [hD] at hR hTl ⊢
 replace hD:=Lib.hid hD
 by_cases he:e = 0
 ·subst he
  have hP:=TabAt.put hB1 hO1 (fun b hb=>(hS b hb).1)
  have sF:=(Save.of (T:=T) bA).trans (save3 (w:=w1) (T:=T) (u:=.slice ga Y.groups.length gcap) (v:=.slice na Y.nodes.length ncap) (x:=.slice wa Y.wires.length wcap)) (fun _ h _=>h)
  obtain ⟨_,x0,x1,x2⟩:=id hR
  obtain ⟨f0,f1,f2,y0,y1,y2⟩:=hB1.all
  replace hP:=Lib.hid hP
  replace sF:=Lib.hid sF
  go_wp2_with fail
  refine (dmust_t _ 0).mono ?_
  rintro x w2 ⟨rfl,rfl⟩
  go_wp2_with fail
  go_end0
  exact ⟨sF.out,Or.inl ⟨rfl,rfl,hP.out⟩⟩
 ·have q0:(e == 0) = false:=by simpa using he
  go_wp2_with fail
  refine (dmust_f _ e).mono ?_
  rintro x w2 ⟨rfl,rfl⟩
  exact ⟨rfl,Save.of bA,Or.inr ⟨he,rfl,hT1.out⟩⟩
def DNodePost (w:World) (r:Option Nat) (K:Nat) (e:Ending) (w':World):Prop:=
 Below w.heap.size w w' ∧ ((∃ n,r = some n ∧ n < K ∧ e = .returned (.int .i64 (n:Nat))) ∨ (∃ n,r = some n ∧ ¬ n < K ∧ e = .panicked [refE 4]) ∨ (r = none ∧ e = .panicked [refE 1]))
theorem dnode_c {w:World} {T:Nat} {X:Wd} (hv:Vars w) (hT:TabAt w T X) (s:List UInt8) (hs:s.length ≤ 1000000):Calls Tryz.prog 79 #[.pointer (some ⟨T,0,none⟩), .string (strB s)] w (DNodePost w (numB s) X.nodes.length):=by
 have hN:=dnum_c hv s hs
 obtain ⟨r,hr⟩:∃ r,numB s = r:=⟨_,rfl⟩
 rw [hr] at hN ⊢
 clear hr
 obtain ⟨P,hP⟩:∃ P,DNodePost w r X.nodes.length = P:=⟨_,rfl⟩
 rw [hP]
 replace hP:=Lib.hid hP
 replace hT:=Lib.hid hT
 go_enter Tryz.func79,Tryz.ntmps79
 go_wp2_with fail
 refine hN.mono ?_
 clear hN
 rintro e w1 ⟨b1,⟨n,rfl,rfl⟩ | ⟨rfl,rfl⟩⟩
 rotate_left
 ·go_wp2_with fail
  rw [← hP.out]
  exact ⟨rfl,b1,Or.inr (Or.inr ⟨rfl,rfl⟩)⟩
 obtain ⟨gv,nv,wv,S,hB,hO,hS⟩:=hT.out.below b1
 obtain ⟨_,na,ncap,rfl,_⟩:=hO.parts.2.1.form
 obtain ⟨_,x0,x1,x2⟩:=id hB
 clear hO hS
 by_cases h:n < X.nodes.length
 ·have q0:decide (n < X.nodes.length) = true:=decide_eq_true h
  have h':=Lib.hid h
  go_wp2_with fail
  refine (dmust_t _ 4).mono ?_
  rintro x w2 ⟨rfl,rfl⟩
  go_wp2_with fail
  rw [← hP.out]
  exact ⟨b1,Or.inl ⟨n,rfl,h'.out,rfl⟩⟩
 ·have q0:decide (n < X.nodes.length) = false:=decide_eq_false h
  have h':=Lib.hid h
  go_wp2_with fail
  refine (dmust_f _ 4).mono ?_
  rintro x w2 ⟨rfl,rfl⟩
  rw [← hP.out]
  exact ⟨rfl,b1,Or.inr (Or.inl ⟨n,rfl,h'.out,rfl⟩)⟩
def Strs (w:World) (q o:Nat) (l:List (List UInt8)):Prop:=q < w.heap.size ∧ ∀ i s,l[i]? = some s → w.cell? ⟨q,o + i,none⟩ = some (.string (strB s))
theorem Strs.same {w w':World} {q o:Nat} {l:List (List UInt8)} (h:Strs w q o l) (hs:w.heap.size ≤ w'.heap.size) (k:w'.heap[q]? = w.heap[q]?):Strs w' q o l:=
 ⟨Nat.lt_of_lt_of_le h.1 hs,fun i s hi=>(World.cell?_of_block (w:=w) (a:=⟨q,o + i,none⟩) k).trans (h.2 i s hi)⟩
theorem Strs.below {w w':World} {q o:Nat} {l:List (List UInt8)} (h:Strs w q o l) (b:Below w.heap.size w w'):Strs w' q o l:=h.same b.size (b.block q h.1)
end Go.Proofs.YtnalakhelicjcaaGreatDoor
set_option maxRecDepth 100000
namespace Go.Proofs.YtnalakhelicjcaaGreatDoor
open Go.RowKit Go.Shelf Go.BigFrame Go.Deep
theorem infoCByteP:(Tryz.prog.info? 5).map (fun i=>(i.zero,i.size,i.bytes)) = some (some (.int .u8 0),1,1):=by kernel_rfl
section
variable {P:Program} (w:World)
theorem run_append_str (base:Nat) (t u ty e:TypeId) (i:TypeInfo) (ht:P.underlying t = some (.slice e)) (hu:P.underlying u = some .string) (hi:P.info? e = some i) (hz:i.zero = some (.int .u8 0)) (hsize:i.size = 1) (hby:i.bytes = 1)
  (v:Value) (n:Nat) (xs:List Value) (hown:w.ownsRow base e 1 v n xs) (s:ByteArray) (h63:n + s.size ≤ 1000000000) (hbase:base ≤ w.heap.size) :
  ∃ v' w',(Builtin.append_ #[t,u] ty #[v, .string s]).run P w = .ok v' w' ∧ w'.ownsRow base e 1 v' (n + s.size) (xs ++ Lib.strCells s) ∧ w.grownBy w' v.ownBlock ∧ (v'.ownBlock = v.ownBlock ∨ v'.ownBlock = some w.heap.size):=by
 have hm:n + s.size ≤ maxLen:=by unfold maxLen;omega
 obtain ⟨v',w',hr,h1,h2,h3⟩:=Lib.run_append_own_string (P:=P) w base t u ty e i ht hu hi hz hsize hby v n xs hown s hm (by omega) hbase
 refine ⟨v',w',hr,h1,h2, ?_⟩
 rcases hown.2 with ⟨rfl,rfl⟩ | ⟨g,cap,cur,rfl,hbg,hg,hnc,hcm,hcs,htake⟩
 ·by_cases h0:s.size = 0
  ·exact Or.inl (by rw [h3.2 ⟨rfl,h0⟩])
  ·have k:=run_append_nil_string (P:=P) w t u ty e i (.int .u8 0) ht hu hi hz s (by omega) (by omega) (by rw [hby];omega)
   rw [hr] at k
   injection k with k1 k2
   exact Or.inr (by rw [k1];rfl)
 ·by_cases hroom:n + s.size ≤ cap
  ·have k:=Lib.run_append_room_string (P:=P) w t u ty e i ht hu hi hsize g n cap cur hg s hroom (by omega)
   rw [hr] at k
   injection k with k1 k2
   exact Or.inl (by rw [k1];rfl)
  ·have k:=Lib.run_append_grow_string (P:=P) w t u ty e i (.int .u8 0) ht hu hi hz ⟨g,0,none⟩ n cap xs (by rw [hsize];simpa using hown.1) (hown.cells (g:=g) rfl) s (by omega) (by omega) (by rw [hby];exact growslice_fits (by omega) (by omega))
   rw [hr] at k
   injection k with k1 k2
   exact Or.inr (by rw [k1];rfl)
theorem wpList_append_str {ops:Array Oper} {rest:List Oper} {o:Oper} {a:Act} {Q:Exit → Act → World → Prop} (hgd:o.guard = none) (s0 x0:Operand) (t u:TypeId)
  (ho:o.op = .call { callee:=.builtin .append,args:=#[s0,x0],argTypes:=#[t,u] })
  (base:Nat) (e:TypeId) (i:TypeInfo) (ht:P.underlying t = some (.slice e)) (hu:P.underlying u = some .string) (hi:P.info? e = some i) (hz:i.zero = some (.int .u8 0)) (hsize:i.size = 1) (hby:i.bytes = 1)
  (v:Value) (n:Nat) (xs:List Value) (hs:a.eval s0 = v) (hown:w.ownsRow base e 1 v n xs) (s:ByteArray) (hx:a.eval x0 = .string s) (h63:n + s.size ≤ 1000000000) (hbase:base ≤ w.heap.size)
  (h:∀ v' w',w'.ownsRow base e 1 v' (n + s.size) (xs ++ Lib.strCells s) → w.grownBy w' v.ownBlock → (v'.ownBlock = v.ownBlock ∨ v'.ownBlock = some w.heap.size) → wpList P ops Q rest (a.put o.dst v') w'):wpList P ops Q (o :: rest) a w:=by
 refine wpList_plain hgd fun _ hK=>?_
 obtain ⟨v',w',hr,h2,h3,h4⟩:=run_append_str (P:=P) w base t u o.type e i ht hu hi hz hsize hby v n xs hown s h63 hbase
 unfold Oper.wp execOp
 simp only [ho,resolve,invoke,builtin,Sem.run_bind,Sem.run_pure,Result.andThen_ok,List.map_toArray,List.map_cons,List.map_nil,hs,hx,hr]
 exact hK _ _ (h v' w' h2 h3 h4)
end
end Go.Proofs.YtnalakhelicjcaaGreatDoor
