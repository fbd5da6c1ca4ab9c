/-
  The program's sea: what it holds; it is turned, or the error is thrown.
  The program: all wires are drained.
  The program: a round of Nulls.
  The program: what is done to a right world; an error that is thrown is caught.
  The program: drained, a round, calm.
-/
import Derived.Test.YtnalakhelicjcaaGreatDoorZKCa
import Derived.Test.YtnalakhelicjcaaGreatDoorZKV
import Derived.Test.YtnalakhelicjcaaGreatDoorZKR
import Derived.Test.YtnalakhelicjcaaGreatDoorZKL
set_option maxRecDepth 100000
namespace Go.Proofs.YtnalakhelicjcaaGreatDoor
open Go.RowKit Go.Shelf Go.BigFrame
def SBox (w:World) (b:Nat) (u v x:Value) (c:Int):Prop:=
 BlkIs w b 156 4 ∧ w.cell? ⟨b,0,none⟩ = some u ∧ w.cell? ⟨b,1,none⟩ = some v ∧ w.cell? ⟨b,2,none⟩ = some x ∧ w.cell? ⟨b,3,none⟩ = some (.int .i64 c)
theorem SBox.new (w:World) (u v x:Value) (c:Int):SBox (w.alloc (.cells #[u,v,x, .int .i64 c] 156)) w.heap.size u v x c:=by
 refine ⟨⟨_,heap_alloc_new w _,rfl⟩, ?_, ?_, ?_, ?_⟩ <;> simp
theorem SBox.keep {w w':World} {b:Nat} {u v x:Value} {c:Int} (h:SBox w b u v x c) (k:w'.heap[b]? = w.heap[b]?):SBox w' b u v x c:=by
 obtain ⟨h0,h1,h2,h3,h4⟩:=h
 exact ⟨h0.same k,(World.cell?_of_block (w:=w) (a:=⟨b,0,none⟩) k).trans h1,(World.cell?_of_block (w:=w) (a:=⟨b,1,none⟩) k).trans h2,(World.cell?_of_block (w:=w) (a:=⟨b,2,none⟩) k).trans h3,(World.cell?_of_block (w:=w) (a:=⟨b,3,none⟩) k).trans h4⟩
theorem SBox.lt {w:World} {b:Nat} {u v x:Value} {c:Int} (h:SBox w b u v x c):b < w.heap.size:=h.1.lt
theorem SBox.set0 {w:World} {b:Nat} {u v x:Value} {c:Int} (h:SBox w b u v x c) (u':Value):SBox (w.setCell ⟨b,0,none⟩ u') b u' v x c:=by
 obtain ⟨h0,h1,h2,h3,h4⟩:=h
 exact ⟨h0.setCell,h0.cell_set (by omega),(cell_setCell 1 (by omega)).trans h2,(cell_setCell 2 (by omega)).trans h3,(cell_setCell 3 (by omega)).trans h4⟩
theorem SBox.set1 {w:World} {b:Nat} {u v x:Value} {c:Int} (h:SBox w b u v x c) (v':Value):SBox (w.setCell ⟨b,1,none⟩ v') b u v' x c:=by
 obtain ⟨h0,h1,h2,h3,h4⟩:=h
 exact ⟨h0.setCell,(cell_setCell 0 (by omega)).trans h1,h0.cell_set (by omega),(cell_setCell 2 (by omega)).trans h3,(cell_setCell 3 (by omega)).trans h4⟩
theorem SBox.set2 {w:World} {b:Nat} {u v x:Value} {c:Int} (h:SBox w b u v x c) (x':Value):SBox (w.setCell ⟨b,2,none⟩ x') b u v x' c:=by
 obtain ⟨h0,h1,h2,h3,h4⟩:=h
 exact ⟨h0.setCell,(cell_setCell 0 (by omega)).trans h1,(cell_setCell 1 (by omega)).trans h2,h0.cell_set (by omega),(cell_setCell 3 (by omega)).trans h4⟩
theorem SBox.set3 {w:World} {b:Nat} {u v x:Value} {c:Int} (h:SBox w b u v x c) (c':Int):SBox (w.setCell ⟨b,3,none⟩ (.int .i64 c')) b u v x c':=by
 obtain ⟨h0,h1,h2,h3,h4⟩:=h
 exact ⟨h0.setCell,(cell_setCell 0 (by omega)).trans h1,(cell_setCell 1 (by omega)).trans h2,(cell_setCell 2 (by omega)).trans h3,h0.cell_set (by omega)⟩
def SeaAt (w wr:World) (b:Nat) (own:Bool) (Y:Wd) (c:Int):Prop:=
 ∃ gv nv wv,SBox wr b gv nv wv c ∧ Below w.heap.size w wr ∧ w.heap.size ≤ b ∧ ((own = false ∧ Ints w gv Y.groups ∧ Nodes w nv Y.nodes ∧ Wires w wv Y.wires) ∨ ∃ S,OWd false wr S gv nv wv Y ∧ ∀ k,S k → w.heap.size ≤ k ∧ k < wr.heap.size ∧ k ≠ b)
theorem SeaAt.box {w wr:World} {b:Nat} {own:Bool} {Y:Wd} {c:Int} (h:SeaAt w wr b own Y c) :
  ∃ gv nv wv,SBox wr b gv nv wv c ∧ Below w.heap.size w wr ∧ w.heap.size ≤ b ∧ Ints wr gv Y.groups ∧ Nodes wr nv Y.nodes ∧ Wires wr wv Y.wires:=by
 obtain ⟨gv,nv,wv,h1,h2,h3,h4⟩:=h
 refine ⟨gv,nv,wv,h1,h2,h3, ?_⟩
 rcases h4 with ⟨_,k1,k2,k3⟩ | ⟨S,k1,_⟩
 ·exact ⟨k1.below h2,k2.below h2,k3.below h2⟩
 ·exact k1.parts
theorem SeaAt.any {w wr:World} {b:Nat} {own:Bool} {Y:Wd} {c:Int} (h:SeaAt w wr b own Y c):SeaAt w wr b false Y c:=by
 obtain ⟨gv,nv,wv,h1,h2,h3,h4⟩:=h
 exact ⟨gv,nv,wv,h1,h2,h3,h4.imp (fun k=>⟨rfl,k.2⟩) id⟩
theorem SeaAt.trans {w wr w2:World} {b:Nat} {own:Bool} {Y:Wd} {c:Int} (h:SeaAt w wr b own Y c) (hb:Below wr.heap.size wr w2):SeaAt w w2 b own Y c:=by
 obtain ⟨gv,nv,wv,h1,h2,h3,h4⟩:=h
 refine ⟨gv,nv,wv,h1.keep (hb.block _ h1.lt),below_trans h2 hb,h3,h4.imp id ?_⟩
 rintro ⟨S,k1,k2⟩
 exact ⟨S,k1.keep (fun k hk=>hb.block k (k2 k hk).2.1),fun k hk=>⟨(k2 k hk).1,by have:=k2 k hk;have:=hb.size;omega,(k2 k hk).2.2⟩⟩
theorem SeaAt.came {w wr:World} {b:Nat} {own:Bool} {Y:Wd} {c:Int} (h:SeaAt w wr b own Y c) (c':Int):SeaAt w (wr.setCell ⟨b,3,none⟩ (.int .i64 c')) b own Y c':=by
 obtain ⟨gv,nv,wv,h1,h2,h3,h4⟩:=h
 refine ⟨gv,nv,wv,h1.set3 c',below_setCell h2 h3 _,h3,h4.imp id ?_⟩
 rintro ⟨S,k1,k2⟩
 refine ⟨S,k1.keep (fun k hk=>Go.Deep.blk_setCell_other _ _ _ _ (k2 k hk).2.2),fun k hk=>?_⟩
 rw [Go.Deep.nblk_setCell]
 exact k2 k hk
theorem SeaAt.turn {w wr w2:World} {b:Nat} {own:Bool} {Y Z:Wd} {c:Int} {gv nv wv:Value} {S:Nat → Prop} (h:SeaAt w wr b own Y c) (hb:Below wr.heap.size wr w2) (hO:OWd false w2 S gv nv wv Z) (hS:∀ k,S k → wr.heap.size ≤ k ∧ k < w2.heap.size) :
  SeaAt w (((w2.setCell ⟨b,0,none⟩ gv).setCell ⟨b,1,none⟩ nv).setCell ⟨b,2,none⟩ wv) b true Z c:=by
 obtain ⟨_,_,_,h1,h2,h3,_⟩:=h
 have hl:=h1.lt
 have hsz:=h2.size
 refine ⟨gv,nv,wv,(((h1.keep (hb.block _ hl)).set0 gv).set1 nv).set2 wv,below_setCell (below_setCell (below_setCell (below_trans h2 hb) h3 _) h3 _) h3 _,h3, .inr ⟨S,hO.keep (fun k hk=>?_),fun k hk=>?_⟩⟩
 ·have:k ≠ b:=by have:=hS k hk;omega
  rw [set3_blk this]
 ·rw [set3_size]
  have:=hS k hk
  omega
def TurnPost (w:World) (b:Nat) (gv nv wv:Value) (e:Ending) (w':World):Prop:=
 e = .returned (.tuple #[]) ∧ ∃ w1,Below w.heap.size w w1 ∧ w' = ((w1.setCell ⟨b,0,none⟩ gv).setCell ⟨b,1,none⟩ nv).setCell ⟨b,2,none⟩ wv
def Thrown (r:Int) (w:World) (e:Ending) (w':World):Prop:=
 e = .panicked [{ v:=.iface 153 (.agg #[.int .i64 r]),recovered:=false }] ∧ Below w.heap.size w w'
theorem turn_t {w:World} {b:Nat} {ga na wa:Option Addr} {gl gc nl nc wl wc:Nat} {u v x:Value} {c:Int} (h:SBox w b u v x c) :
  Calls Tryz.prog 129 #[.pointer (some ⟨b,0,none⟩), .agg #[.slice ga gl gc, .slice na nl nc, .slice wa wl wc], .int .i64 0] w (TurnPost w b (.slice ga gl gc) (.slice na nl nc) (.slice wa wl wc)):=by
 have hA:=below_a1 w (.cells #[.slice ga gl gc, .slice na nl nc, .slice wa wl wc] 35)
 have h2:=h.keep (hA.block _ h.lt)
 have hB:=WBox.new w (.slice ga gl gc) (.slice na nl nc) (.slice wa wl wc) 35
 obtain ⟨P,hP⟩:∃ P,TurnPost w b (.slice ga gl gc) (.slice na nl nc) (.slice wa wl wc) = P:=⟨_,rfl⟩
 rw [hP]
 replace hP:=Lib.hid hP
 have hf0:=h2.1.frozen 0
 have hf1:=h2.1.frozen 1
 have hf2:=h2.1.frozen 2
 obtain ⟨_,z0,z1,z2,z3⟩:=h2
 obtain ⟨b0,b1,b2⟩:=hB
 go_enter Tryz.func129,Tryz.ntmps129
 go_upto_region 1 with fail
 generalize w.alloc (.cells #[.slice ga gl gc, .slice na nl nc, .slice wa wl wc] 35) = wA at *
 go_wp2_with fail
 go_end0
 rw [← hP.out]
 exact ⟨rfl,wA,hA,rfl⟩
theorem turn_f {w:World} {b:Nat} {ga na wa:Option Addr} {gl gc nl nc wl wc:Nat} {e0:Int} (he:(e0 != 0) = true) :
  Calls Tryz.prog 129 #[.pointer (some ⟨b,0,none⟩), .agg #[.slice ga gl gc, .slice na nl nc, .slice wa wl wc], .int .i64 e0] w (Thrown e0 w):=by
 have hA:=below_a1 w (.cells #[.slice ga gl gc, .slice na nl nc, .slice wa wl wc] 35)
 obtain ⟨P,hP⟩:∃ P,Thrown e0 w = P:=⟨_,rfl⟩
 rw [hP]
 replace hP:=Lib.hid hP
 go_enter Tryz.func129,Tryz.ntmps129
 go_upto_region 1 with fail
 generalize w.alloc (.cells #[.slice ga gl gc, .slice na nl nc, .slice wa wl wc] 35) = wA at *
 go_wp2_with fail
 refine ⟨rfl, ?_⟩
 rw [← hP.out]
 exact ⟨rfl,hA⟩
end Go.Proofs.YtnalakhelicjcaaGreatDoor
set_option maxRecDepth 100000
namespace Go.Proofs.YtnalakhelicjcaaGreatDoor
open Go.RowKit Go.Shelf Go.BigFrame
def SeaPost (w:World) (b:Nat) (r:Int × Int × Wd) (e:Ending) (w':World):Prop:=
 (r.1 = 0 ∧ e = .returned (.tuple #[]) ∧ SeaAt w w' b true r.2.2 r.2.1) ∨ (r.1 ≠ 0 ∧ e = .panicked [{ v:=.iface 153 (.agg #[.int .i64 r.1]),recovered:=false }] ∧ Below w.heap.size w w')
theorem SeaPost.ok {w w':World} {b:Nat} {Y:Wd} {n:Int} (h:SeaAt w w' b true Y n):SeaPost w b (0,n,Y) (.returned (.tuple #[])) w':=.inl ⟨rfl,rfl,h⟩
theorem SeaPost.bad {w w':World} {b:Nat} {e n:Int} {Y:Wd} (he:e ≠ 0) (h:Below w.heap.size w w'):SeaPost w b (e,n,Y) (.panicked [{ v:=.iface 153 (.agg #[.int .i64 e]),recovered:=false }]) w':=.inr ⟨he,rfl,h⟩
set_option maxHeartbeats 4000000 in
theorem seaDrain_c {w wr:World} {b:Nat} {own:Bool} {X:Wd} {c:Int} (h:SeaAt w wr b own X c) (hR:Right X) :
  Calls Tryz.prog 104 #[.pointer (some ⟨b,0,none⟩)] wr (SeaPost w b (drainR X)):=by
 obtain ⟨P,hP⟩:∃ P,SeaPost w b (drainR X) = P:=⟨_,rfl⟩
 rw [hP]
 replace hP:=Lib.hid hP
 have hK4:=(errX_fit hR.err).nodes
 have hK1:1 ≤ X.nodes.length:=by have:=inB_t (gErr_zero hR.grp).1;omega
 have hSt:=fun a k ha hk=>drB_stop (X:=X) (a:=a) (b:=k) ha hk
 have hLk:=fun a ha k hk=>drB_like hR (a:=a) ha (drA_like hR a (by omega)) k hk
 have hZ:=drain_eq X
 have hsA:=fun a=>drA_succ X a
 have hsB:=fun a k=>drB_succ X a k
 have h0:=drA_zero X
 have h00:=fun a=>drB_zero X a
 obtain ⟨K,hK⟩:∃ K,X.nodes.length = K:=⟨_,rfl⟩
 rw [hK] at hK4 hK1 hSt hZ hsA
 replace hLk:=Lib.hid hLk
 have h1:=h.came 0
 obtain ⟨gv,nv,wv,hS,hB,hbw,hg,hn,hw⟩:=h.box
 obtain ⟨_,na,ncap,rfl,_⟩:=hn.form
 rw [hK] at hS
 clear hn hg hw
 have hf3:=hS.1.frozen 3
 have hS1:=hS.set3 0
 obtain ⟨_,z0,z1,z2,z3⟩:=id hS
 obtain ⟨_,y0,y1,y2,y3⟩:=id hS1
 replace hSt:=Lib.hid hSt
 replace hZ:=Lib.hid hZ
 replace hsA:=Lib.hid hsA
 replace hsB:=Lib.hid hsB
 replace h0:=Lib.hid h0
 replace h00:=Lib.hid h00
 replace hK:=Lib.hid hK
 go_enter Tryz.func104,Tryz.ntmps104
 go_upto_region 1 with fail
 generalize wr.setCell ⟨b,3,none⟩ (.int .i64 0) = wB at *
 go_wp2_with fail
 clear z0 z1 z2 z3 y0 y1 y2 y3 hf3 hS hS1
 go_loopw [16] (fun i wr=>∃ a:Nat,a ≤ K ∧ i = .int .i64 a ∧ ∃ Y n o,Hid (drA X a = (0,n,Y) ∧ (a ≠ 0 → o = true)) ∧ SeaAt w wr b o Y n) (fun i _=>K - (intOf i).toNat)
 case atStart=>exact ⟨0,by omega,rfl,X,0,own,Lib.hid ⟨h0.out,fun h=>absurd rfl h⟩,h1⟩
 case round =>
  clear h h1 hB
  obtain ⟨a,ha,rfl,Y,n,o,hY,hSea⟩:=hrel
  obtain ⟨gv,nv,wv,hS,hB,_,hg,hn,hw⟩:=hSea.box
  obtain ⟨_,na,ncap,rfl,_⟩:=hn.form
  obtain ⟨_,y0,y1,y2,y3⟩:=id hS
  by_cases hlt:a < K
  ·have hLY:=hLk.out a (by rw [hK.out];exact hlt) 0 (by omega)
   rw [h00.out,hY.out.1] at hLY
   have hLl:=(hLY rfl).1.len
   rw [hK.out] at hLl
   dsimp only at hLl
   rw [hLl] at y1
   clear hLY hg hn hw
   replace hLl:=Lib.hid hLl
   obtain ⟨wo,rfl⟩:∃ wo:World,wo = wr:=⟨_,rfl⟩
   go_wp2_with fail
   go_loopw [25] (fun i wr=>∃ k:Nat,k ≤ K ∧ i = .int .i64 k ∧ ∃ Y n o,Hid (drB X a k = (0,n,Y) ∧ (a ≠ 0 ∨ k ≠ 0 → o = true)) ∧ SeaAt w wr b o Y n) (fun i _=>K - (intOf i).toNat)
   case atStart=>exact ⟨0,by omega,rfl,Y,n,o,Lib.hid ⟨(h00.out a).trans hY.out.1,fun h=>hY.out.2 (h.resolve_right (fun h=>h rfl))⟩,hSea⟩
   case round =>
    clear hSea y0 y1 y2 y3 hS hB hY hLl
    obtain ⟨k,hk,rfl,Y,n,o,hY,hSea⟩:=hrel
    by_cases hltk:k < K
    ·obtain ⟨gv,nv,wv,hS,hB,_,hg,hn,hw⟩:=hSea.box
     have hLY:=hLk.out a (by rw [hK.out];exact hlt) k (by rw [hK.out];omega)
     rw [hY.out.1] at hLY
     obtain ⟨hL,hn0,hn1⟩:=hLY rfl
     have hLl:=hL.len
     rw [hK.out] at hLl
     dsimp only at hL hLl hn0 hn1
     have hRY:=hL.right
     have hA:=All_c hg hn hw hRY (a:=a) (b:=k) (by rw [hLl];exact hlt) (by rw [hLl];exact hltk)
     have hnx:=hsB.out a k
     rw [hY.out.1] at hnx
     have hdr:=fun h=>drainS_like (n:=n) hL (a:=a) (b:=k) (by rw [hK.out];exact hlt) (by rw [hK.out];exact hltk) h
     have hdb:=fun h=>drainS_bad (Y:=Y) (a:=a) (b:=k) (n:=n) h
     have hn2:n ≤ 1000:=by
      have:a * X.nodes.length ≤ 4 * 4:=by rw [hK.out];exact Nat.mul_le_mul (by omega) (by omega)
      omega
     obtain ⟨_,ga,gcap,rfl,_⟩:=hg.open
     obtain ⟨_,na,ncap,rfl,_⟩:=hn.form
     obtain ⟨_,wa,wcap,rfl,_⟩:=hw.form
     obtain ⟨r,hr⟩:∃ r,wireR Y a k = r:=⟨_,rfl⟩
     rw [hr] at hA hdr hdb
     clear hr hL hRY hn1 hg hn hw
     replace hnx:=Lib.hid hnx
     replace hLl:=Lib.hid hLl
     obtain ⟨_,y0,y1,y2,y3⟩:=id hS
     go_wp2_with fail
     refine hA.mono ?_
     rintro e w3 ⟨gv3,nv3,wv3,S3,rfl,hO3,hS3,b3⟩
     obtain ⟨pg,pn,pw⟩:=hO3.parts
     obtain ⟨_,ga3,gcap3,rfl,_⟩:=pg.open
     obtain ⟨_,na3,ncap3,rfl,_⟩:=pn.form
     obtain ⟨_,wa3,wcap3,rfl,_⟩:=pw.form
     clear pg pn pw
     have b4:=below_trans b3 (below_a1 w3 (.cells #[.slice ga3 r.2.2.groups.length gcap3, .slice na3 r.2.2.nodes.length ncap3, .slice wa3 r.2.2.wires.length wcap3] 35))
     have hO4:=hO3.keep (w':=w3.alloc (.cells #[.slice ga3 r.2.2.groups.length gcap3, .slice na3 r.2.2.nodes.length ncap3, .slice wa3 r.2.2.wires.length wcap3] 35)) (fun k hk=>Go.Deep.blk_alloc_lt _ _ _ (hS3 k hk).2)
     have hS4:∀ k,S3 k → wr.heap.size ≤ k ∧ k < (w3.alloc (.cells #[.slice ga3 r.2.2.groups.length gcap3, .slice na3 r.2.2.nodes.length ncap3, .slice wa3 r.2.2.wires.length wcap3] 35)).heap.size:=fun k hk=>by have h:=hS3 k hk;rw [World.size_alloc];exact ⟨h.1,by omega⟩
     have hQb:=OBox.new w3 35 (.slice ga3 r.2.2.groups.length gcap3) (.slice na3 r.2.2.nodes.length ncap3) (.slice wa3 r.2.2.wires.length wcap3)
     clear y0 y1 y2 y3 hA
     go_upto_region 8 with fail
     generalize w3.alloc (.cells #[.slice ga3 r.2.2.groups.length gcap3, .slice na3 r.2.2.nodes.length ncap3, .slice wa3 r.2.2.wires.length wcap3] 35) = w4 at *
     clear hO3 hS3 b3
     have hS5:=hS.keep (b4.block _ hS.lt)
     obtain ⟨_,q0,q1,q2⟩:=id hQb
     by_cases he:r.1 = 0
     ·have hT:=turn_t (ga:=ga3) (na:=na3) (wa:=wa3) (gl:=r.2.2.groups.length) (gc:=gcap3) (nl:=r.2.2.nodes.length) (nc:=ncap3) (wl:=r.2.2.wires.length) (wc:=wcap3) hS5
      obtain ⟨e1,hL2,hp1,hp2⟩:=hdr he
      have hnx2:=hnx.out.trans e1
      clear e1 hdr hdb
      obtain ⟨e0,he0⟩:∃ e0,r.1 = e0:=⟨_,rfl⟩
      rw [he0] at he ⊢
      subst he
      obtain ⟨p,hp⟩:∃ p,r.2.1 = p:=⟨_,rfl⟩
      rw [hp] at hp1 hp2 hnx2 ⊢
      replace hnx2:=Lib.hid hnx2
      replace he0:=Lib.hid he0
      replace hp:=Lib.hid hp
      go_wp2_with fail
      refine hT.mono ?_
      rintro e w5 ⟨rfl,w6,hb6,h5⟩
      have hb56:=below_trans b4 hb6
      have hSea5:=hSea.turn hb56 (hO4.keep (fun k hk=>hb6.block k (hS4 k hk).2)) (fun k hk=>by have:=hS4 k hk;have:=hb6.size;omega)
      rw [← h5] at hSea5
      clear h5
      have hSea6:=hSea5.came (n + p)
      obtain ⟨_,_,_,hS6,_⟩:=id hSea5
      have hf3:=hS6.1.frozen 3
      obtain ⟨_,x0,x1,x2,x3⟩:=id hS6
      have hsum:IntKind.i64.wrap (n + p) = n + p:=IntWalk.i64_in _ (by omega)
      go_wp2_with fail
      go_roundw
      case rel=>exact ⟨k + 1,by omega,by go_num,_,_,true,Lib.hid ⟨hnx2.out,fun _=>rfl⟩,hSea6⟩
      case measure=>simp [intOf];omega
     ·have hbd:=hnx.out.trans (hdb he)
      have hst:=hSt.out a (k + 1) hlt (by omega)
      rw [hbd] at hst
      have hne:(r.1 != 0) = true:=by simpa using he
      have hP2:=hP.out
      rw [hst he] at hP2
      replace hP2:=Lib.hid hP2
      clear hst hbd hdr hdb
      obtain ⟨e0,he0⟩:∃ e0,r.1 = e0:=⟨_,rfl⟩
      rw [he0] at hP2 hne he ⊢
      have hT:=turn_f (w:=w4) (b:=b) (ga:=ga3) (na:=na3) (wa:=wa3) (gl:=r.2.2.groups.length) (gc:=gcap3) (nl:=r.2.2.nodes.length) (nc:=ncap3) (wl:=r.2.2.wires.length) (wc:=wcap3) hne
      replace he:=Lib.hid he
      replace he0:=Lib.hid he0
      go_wp2_with fail
      refine hT.mono ?_
      rintro e w5 ⟨rfl,hb5⟩
      go_wp2_with fail
      refine ⟨rfl, ?_⟩
      rw [← hP2.out]
      exact SeaPost.bad he.out (below_trans (below_trans hB b4) hb5)
    ·obtain rfl:k = K:=by omega
     have hn:=hsA.out a
     rw [hY.out.1] at hn
     have ho:=hY.out.2 (Or.inr (by omega))
     replace hn:=Lib.hid hn
     replace ho:=Lib.hid ho
     go_wp2_with fail
     go_roundw
     case rel=>exact ⟨a + 1,by omega,by go_num,Y,n,o,Lib.hid ⟨hn.out,fun _=>ho.out⟩,hSea⟩
     case measure=>simp [intOf];omega
  ·obtain rfl:a = K:=by omega
   have ho:=hY.out.2 (by omega)
   have hP2:=hP.out
   rw [hZ.out,hY.out.1] at hP2
   replace hP2:=Lib.hid hP2
   subst ho
   go_wp2_with fail
   go_end0
   rw [← hP2.out]
   exact SeaPost.ok hSea
end Go.Proofs.YtnalakhelicjcaaGreatDoor
set_option maxRecDepth 100000
namespace Go.Proofs.YtnalakhelicjcaaGreatDoor
open Go.RowKit Go.Shelf Go.BigFrame
theorem Of_own {w:World} {v:Value} {xs:List Int} (h:Ints w v xs) (x:Int) (hx:I64 x) :
  Calls Tryz.prog 130 #[v, .int .i64 x] w fun e w'=>∃ v',e = .returned v' ∧ Ints w' v' (both xs [x] xs.length) ∧ Below w.heap.size w w' ∧ ∀ k,v'.ownBlock = some k → w.heap.size ≤ k:=by
 obtain ⟨hl,a,cap,rfl,_⟩:=h.open
 refine (callsIn_wide.1 (Of_in a cap xs x w hx h)).mono ?_
 rintro e w' ⟨v',rfl,ho,hb⟩
 refine ⟨v',rfl,⟨both_i64 hl,Row.of_owns ho ?_⟩,hb,fun k hk=>(ho.lt k hk).1⟩
 have:=both_len xs [x] xs.length
 rw [List.length_map]
 omega
theorem Ints.set3 {w:World} {v:Value} {xs:List Int} {b:Nat} {x y z:Value} (h:Ints w v xs) (hb:∀ k,v.ownBlock = some k → k ≠ b):Ints (((w.setCell ⟨b,0,none⟩ x).setCell ⟨b,1,none⟩ y).setCell ⟨b,2,none⟩ z) v xs:=by
 refine h.keep (S:=fun k=>k ≠ b) ⟨rfl,rfl,rfl,by rw [set3_size];exact Nat.le_refl _,fun k hk=>?_⟩ (fun _ k hk=>hb k hk)
 rw [set3_blk hk]
set_option maxHeartbeats 4000000 in
theorem seaRound_c {w wr:World} {b:Nat} {own:Bool} {X:Wd} {c:Int} (h:SeaAt w wr b own X c) (hR:Right X) :
  Calls Tryz.prog 105 #[.pointer (some ⟨b,0,none⟩)] wr (SeaPost w b (roundR X)):=by
 obtain ⟨P,hP⟩:∃ P,SeaPost w b (roundR X) = P:=⟨_,rfl⟩
 rw [hP]
 replace hP:=Lib.hid hP
 have hF:=errX_fit hR.err
 have hK4:=hF.nodes
 have hG3:=hF.groups
 have hSt:=fun n t hn h=>rdL_stop hR (n:=n) (t:=t) hn h
 have hLk:=fun n t h=>rdL_like hR (n:=n) t h
 have hA1:=fun n=>rdL_all hR n
 have hRb:=fun h=>roundR_bad (X:=X) h
 have hRo:=fun Y h=>roundR_ok (X:=X) (Y:=Y) h
 have hZ:=round_eq X
 obtain ⟨K,hK⟩:∃ K,X.nodes.length = K:=⟨_,rfl⟩
 rw [hK] at hK4 hSt hZ
 obtain ⟨gv,nv,wv,hS,hB,hbw,hg,hn,hw⟩:=h.box
 obtain ⟨_,na,ncap,rfl,_⟩:=hn.form
 rw [hK] at hS
 clear hn hg hw
 obtain ⟨_,z0,z1,z2,z3⟩:=id hS
 replace hSt:=Lib.hid hSt
 replace hLk:=Lib.hid hLk
 replace hZ:=Lib.hid hZ
 replace hA1:=Lib.hid hA1
 replace hK:=Lib.hid hK
 replace hRb:=Lib.hid hRb
 replace hRo:=Lib.hid hRo
 have h0:=Lib.hid (rdA_zero X)
 go_enter Tryz.func105,Tryz.ntmps105
 go_wp2_with fail
 clear z0 z1 z2 z3 hS
 go_loopw [11] (fun i wr=>∃ n:Nat,n ≤ K ∧ i = .int .i64 n ∧ ∃ Y o q,Hid (rdA X n = (0,Y)) ∧ SeaAt w wr b o Y q) (fun i _=>K - (intOf i).toNat)
 case atStart=>exact ⟨0,by omega,rfl,X,own,c,h0,h⟩
 case round =>
  clear h hB
  obtain ⟨n,hn0,rfl,Y,o,q,hY,hSea⟩:=hrel
  by_cases hlt:n < K
  ·obtain ⟨gv,nv,wv,hS,hB,_,hg,hn,hw⟩:=hSea.box
   have hLY:=hLk.out n 0
   rw [rdL_zero,hY.out] at hLY
   have hL:=hLY rfl
   have hLg:Y.groups = X.groups:=hL.groups
   rw [hLg] at hg
   have hO:=Of_own hg (n:Int) (by unfold I64;omega)
   change Calls _ _ _ _ (fun e w'=>∃ v',e = .returned v' ∧ Ints w' v' (ofL X n) ∧ _) at hO
   have hol:(ofL X n).length ≤ X.groups.length:=both_len _ _ _
   have hmem:=fun t (ht:t < (ofL X n).length)=>both_mem (getD_mem (ofL X n) 0 ht)
   have hstp:=fun t Z (hL:Like X Z) ht h=>rdL_step (t:=t) (n:=n) hL ht h
   have hA2:=hA1.out n
   have h00:=rdL_zero X n
   have hSt:=hSt.out n
   have hLk2:=hLk.out n
   obtain ⟨_,ga,gcap,rfl,_⟩:=hg.open
   generalize ofL X n = L at *
   obtain ⟨G,hG⟩:∃ G,X.groups.length = G:=⟨_,rfl⟩
   rw [hG] at hS hO hG3 hol
   clear hLY hg hn hw hL hLg
   obtain ⟨_,y0,y1,y2,y3⟩:=id hS
   replace hA2:=Lib.hid hA2
   replace h00:=Lib.hid h00
   replace hmem:=Lib.hid hmem
   replace hstp:=Lib.hid hstp
   replace hG:=Lib.hid hG
   replace hSt:=Lib.hid hSt
   replace hLk2:=Lib.hid hLk2
   go_wp2_with fail
   refine hO.mono ?_
   rintro e w2 ⟨v2,rfl,hI2,hb2,hnb⟩
   have hSea2:=hSea.trans hb2
   have hnb2:∀ k,v2.ownBlock = some k → k ≠ b:=fun k hk=>by have:=hnb k hk;have:=hS.lt;omega
   clear hnb
   obtain ⟨_,la,lcap,rfl,_,hlc⟩:=hI2.open
   clear hSea hS y0 y1 y2 y3 hO hb2
   replace hlc:=Lib.hid hlc
   replace hnb2:=Lib.hid hnb2
   go_wp2_with fail
   go_loopw [22] (fun i wr=>∃ t:Nat,t ≤ L.length ∧ i = .int .i64 t ∧ ∃ Y o q,Hid (rdL X n t = (0,Y)) ∧ SeaAt w wr b o Y q ∧ Ints wr (.slice la L.length lcap) L) (fun i _=>L.length - (intOf i).toNat)
   case atStart=>exact ⟨0,by omega,rfl,Y,o,q,Lib.hid (h00.out.trans hY.out),hSea2,hI2⟩
   case round =>
    clear hSea2 hI2 hB hY hlc
    obtain ⟨t,ht0,rfl,Y,o,q,hY,hSea,hI⟩:=hrel
    by_cases htl:t < L.length
    ·obtain ⟨gv,nv,wv,hS,hB,_,hg,hn,hw⟩:=hSea.box
     have hL:Like X Y:=by have:=hLk2.out t;rw [hY.out] at this;exact this rfl
     have hRY:=hL.right
     obtain ⟨_,_,_,e1,_,hlc⟩:=hI.open
     cases e1
     obtain ⟨lb,lo,rfl,hcc⟩:=hlc (by intro e;subst e;simp at htl)
     have q0:=hcc t htl
     have hm:=hmem.out t htl
     have hst:=hstp.out t Y hL htl hY.out
     obtain ⟨g,hgg⟩:∃ g,L.getD t 0 = g:=⟨_,rfl⟩
     rw [hgg] at q0 hm hst
     clear hgg hlc hcc
     have hA:=Out_c hg hn hw (errX_fit hRY.err) (errX_riseAll hRY.err) (m:=⟨(n:Int),g,0,true,ByteArray.empty⟩) (by refine ⟨?_, ?_, ?_, ?_⟩ <;> first | (show I64 _;unfold I64;dsimp only;omega) | (show (0:Nat) ≤ _;omega))
     unfold M.val at hA
     dsimp only at hA
     obtain ⟨r,hr⟩:∃ r,castR Y (n:Int) g true ByteArray.empty = r:=⟨_,rfl⟩
     rw [hr] at hA hst
     clear hr hRY hL
     have hbd:=hSt.out (t + 1) hlt
     rw [hst] at hbd
     obtain ⟨_,ga,gcap,rfl,_⟩:=hg.open
     obtain ⟨_,na,ncap,rfl,_⟩:=hn.form
     obtain ⟨_,wa,wcap,rfl,_⟩:=hw.form
     clear hg hn hw
     obtain ⟨_,y0,y1,y2,y3⟩:=id hS
     replace hst:=Lib.hid hst
     replace hbd:=Lib.hid hbd
     go_wp2_with fail
     refine hA.mono ?_
     rintro e w3 ⟨gv3,nv3,wv3,S3,rfl,hO3,hS3,b3⟩
     obtain ⟨pg,pn,pw⟩:=hO3.parts
     obtain ⟨_,ga3,gcap3,rfl,_⟩:=pg.open
     obtain ⟨_,na3,ncap3,rfl,_⟩:=pn.form
     obtain ⟨_,wa3,wcap3,rfl,_⟩:=pw.form
     clear pg pn pw
     have hS5:=hS.keep (b3.block _ hS.lt)
     have hI3:=hI.below b3
     clear y0 y1 y2 y3 hA q0
     by_cases he:r.1 = 0
     ·have hT:=turn_t (ga:=ga3) (na:=na3) (wa:=wa3) (gl:=r.2.groups.length) (gc:=gcap3) (nl:=r.2.nodes.length) (nc:=ncap3) (wl:=r.2.wires.length) (wc:=wcap3) hS5
      have hnx:rdL X n (t + 1) = (0,r.2):=by rw [hst.out];exact Prod.ext he rfl
      replace hnx:=Lib.hid hnx
      obtain ⟨e0,he0⟩:∃ e0,r.1 = e0:=⟨_,rfl⟩
      rw [he0] at he ⊢
      subst he
      replace he0:=Lib.hid he0
      go_wp2_with fail
      refine hT.mono ?_
      rintro e w5 ⟨rfl,w6,hb6,h5⟩
      have hb56:=below_trans b3 hb6
      have hSea5:=hSea.turn hb56 (hO3.keep (fun k hk=>hb6.block k (hS3 k hk).2)) (fun k hk=>by have:=hS3 k hk;have:=hb6.size;omega)
      rw [← h5] at hSea5
      have hI5:=(hI3.below hb6).set3 (b:=b) (x:=.slice ga3 r.2.groups.length gcap3) (y:=.slice na3 r.2.nodes.length ncap3) (z:=.slice wa3 r.2.wires.length wcap3) hnb2.out
      rw [← h5] at hI5
      clear h5
      go_wp2_with fail
      go_roundw
      case rel=>exact ⟨t + 1,by omega,by go_num,_,true,_,hnx,hSea5,hI5⟩
      case measure=>simp [intOf];omega
     ·have hne:(r.1 != 0) = true:=by simpa using he
      have hP2:=hP.out
      rw [hRb.out (by rw [hbd.out he];exact he),hbd.out he] at hP2
      replace hP2:=Lib.hid hP2
      obtain ⟨e0,he0⟩:∃ e0,r.1 = e0:=⟨_,rfl⟩
      rw [he0] at hP2 hne he ⊢
      have hT:=turn_f (w:=w3) (b:=b) (ga:=ga3) (na:=na3) (wa:=wa3) (gl:=r.2.groups.length) (gc:=gcap3) (nl:=r.2.nodes.length) (nc:=ncap3) (wl:=r.2.wires.length) (wc:=wcap3) hne
      replace he:=Lib.hid he
      replace he0:=Lib.hid he0
      go_wp2_with fail
      refine hT.mono ?_
      rintro e w5 ⟨rfl,hb5⟩
      go_wp2_with fail
      refine ⟨rfl, ?_⟩
      rw [← hP2.out]
      exact SeaPost.bad he.out (below_trans (below_trans hB b3) hb5)
    ·obtain rfl:t = L.length:=by omega
     have hn:=hA2.out
     rw [hY.out] at hn
     replace hn:=Lib.hid hn.symm
     go_wp2_with fail
     go_roundw
     case rel=>exact ⟨n + 1,by omega,by go_num,Y,o,q,hn,hSea⟩
     case measure=>simp [intOf];omega
  ·obtain rfl:n = K:=by omega
   have hrc:roundC X = (0,Y):=hZ.out.trans hY.out
   have hP2:=hP.out
   rw [hRo.out Y hrc] at hP2
   have hL:Like X Y:=by have:=hLk.out n 0;rw [rdL_zero,hY.out] at this;exact this rfl
   have hD:=seaDrain_c hSea hL.right
   obtain ⟨r,hr⟩:∃ r,drainR Y = r:=⟨_,rfl⟩
   rw [hr] at hD hP2
   clear hrc hL hr
   replace hP2:=Lib.hid hP2
   go_wp2_with fail
   refine hD.mono ?_
   rintro e w5 (⟨h1,rfl,h2⟩ | ⟨h1,rfl,h2⟩)
   ·replace h1:=Lib.hid h1
    go_wp2_with fail
    go_end0
    rw [← hP2.out]
    exact .inl ⟨h1.out,rfl,h2⟩
   ·replace h1:=Lib.hid h1
    go_wp2_with fail
    refine ⟨rfl, ?_⟩
    rw [← hP2.out]
    exact .inr ⟨h1.out,rfl,h2⟩
end Go.Proofs.YtnalakhelicjcaaGreatDoor
set_option maxRecDepth 100000
namespace Go.Proofs.YtnalakhelicjcaaGreatDoor
open Go.RowKit Go.Shelf Go.BigFrame
theorem Boxed.keep3 {w w':World} {b:Nat} {t:TypeId} {v:Value} (h:Boxed w b t v) (hb:w'.heap[b]? = w.heap[b]?):Boxed w' b t v:=hb.trans h
structure ResV (w:World) (B:Nat) (u v x:Value) (n e:Int):Prop where
 out:OBox w (B + 1) 35 u v x
 n:Boxed w (B + 2) 3 (.int .i64 n)
 e:Boxed w (B + 3) 23 (.int .i64 e)
section
variable {w w':World} {B k:Nat} {u v x:Value} {n e:Int}
theorem ResV.trans (h:ResV w B u v x n e) (hb:Below k w w') (hk:B + 4 ≤ k):ResV w' B u v x n e:=
 ⟨h.out.keep (hb.block _ (by omega)),Boxed.keep3 h.n (hb.block _ (by omega)),Boxed.keep3 h.e (hb.block _ (by omega))⟩
theorem ResV.keep (h:ResV w B u v x n e) (hb:∀ k:Nat,w'.heap[k]? = w.heap[k]?):ResV w' B u v x n e:=
 ⟨h.out.keep (hb _),Boxed.keep3 h.n (hb _),Boxed.keep3 h.e (hb _)⟩
theorem ResV.drew (h:ResV w B u v x n e):ResV w.drew B u v x n e:=h.keep (fun _=>rfl)
theorem ResV.size (h:ResV w B u v x n e):B + 4 ≤ w.heap.size:=h.e.lt
theorem ResV.put (h:ResV w B u v x n e) (u' v' x':Value) (n' e':Int) :
  ResV (((((w.setCell ⟨B + 1,0,none⟩ u').setCell ⟨B + 1,1,none⟩ v').setCell ⟨B + 1,2,none⟩ x').setCell ⟨B + 2,0,none⟩ (.int .i64 n')).setCell ⟨B + 3,0,none⟩ (.int .i64 e')) B u' v' x' n' e':=by
 obtain ⟨h1,h2,h3⟩:=h
 refine ⟨(((h1.set0 u').set1 v').set2 x').keep ?_, ?_, ?_⟩
 ·rw [Go.Deep.blk_setCell_other _ _ _ _ (by show B + 1 ≠ B + 3;omega),Go.Deep.blk_setCell_other _ _ _ _ (by show B + 1 ≠ B + 2;omega)]
 ·refine Boxed.keep3 (Boxed.set (.int .i64 n') (Boxed.keep3 h2 (w':=((w.setCell ⟨B + 1,0,none⟩ u').setCell ⟨B + 1,1,none⟩ v').setCell ⟨B + 1,2,none⟩ x') ?_)) (Go.Deep.blk_setCell_other _ _ _ _ (by show B + 2 ≠ B + 3;omega))
  rw [set3_blk (by show B + 2 ≠ B + 1;omega)]
 ·refine Boxed.set (.int .i64 e') (Boxed.keep3 h3 ?_)
  rw [Go.Deep.blk_setCell_other _ _ _ _ (by show B + 3 ≠ B + 2;omega),Go.Deep.blk_setCell_other _ _ _ _ (by show B + 3 ≠ B + 1;omega),Go.Deep.blk_setCell_other _ _ _ _ (by show B + 3 ≠ B + 1;omega),Go.Deep.blk_setCell_other _ _ _ _ (by show B + 3 ≠ B + 1;omega)]
theorem ResV.put_drew (h:ResV w B u v x n e) (u' v' x':Value) (n' e':Int) :
  ResV (((((w.setCell ⟨B + 1,0,none⟩ u').setCell ⟨B + 1,1,none⟩ v').setCell ⟨B + 1,2,none⟩ x').setCell ⟨B + 2,0,none⟩ (.int .i64 n')).setCell ⟨B + 3,0,none⟩ (.int .i64 e')).drew B u' v' x' n' e':=
 ResV.drew (h.put u' v' x' n' e')
theorem put_blk {n' e':Int} {u' v' x':Value} (hk:k < B + 1 ∨ B + 3 < k):(((((w.setCell ⟨B + 1,0,none⟩ u').setCell ⟨B + 1,1,none⟩ v').setCell ⟨B + 1,2,none⟩ x').setCell ⟨B + 2,0,none⟩ (.int .i64 n')).setCell ⟨B + 3,0,none⟩ (.int .i64 e')).heap[k]? = w.heap[k]?:=by
 rw [Go.Deep.blk_setCell_other _ _ _ _ (by show k ≠ B + 3;omega),Go.Deep.blk_setCell_other _ _ _ _ (by show k ≠ B + 2;omega),Go.Deep.blk_setCell_other _ _ _ _ (by show k ≠ B + 1;omega),Go.Deep.blk_setCell_other _ _ _ _ (by show k ≠ B + 1;omega),Go.Deep.blk_setCell_other _ _ _ _ (by show k ≠ B + 1;omega)]
theorem put_size {n' e':Int} {u' v' x':Value}:(((((w.setCell ⟨B + 1,0,none⟩ u').setCell ⟨B + 1,1,none⟩ v').setCell ⟨B + 1,2,none⟩ x').setCell ⟨B + 2,0,none⟩ (.int .i64 n')).setCell ⟨B + 3,0,none⟩ (.int .i64 e')).heap.size = w.heap.size:=by
 rw [Go.Deep.nblk_setCell,Go.Deep.nblk_setCell,Go.Deep.nblk_setCell,Go.Deep.nblk_setCell,Go.Deep.nblk_setCell]
theorem drew_blk (w:World) (k:Nat):w.drew.heap[k]? = w.heap[k]?:=rfl
theorem drew_size (w:World):w.drew.heap.size = w.heap.size:=rfl
theorem put_blk_d {n' e':Int} {u' v' x':Value} (hk:k < B + 1 ∨ B + 3 < k):(((((w.setCell ⟨B + 1,0,none⟩ u').setCell ⟨B + 1,1,none⟩ v').setCell ⟨B + 1,2,none⟩ x').setCell ⟨B + 2,0,none⟩ (.int .i64 n')).setCell ⟨B + 3,0,none⟩ (.int .i64 e')).drew.heap[k]? = w.heap[k]?:=(drew_blk _ _).trans (put_blk hk)
theorem put_size_d {n' e':Int} {u' v' x':Value}:(((((w.setCell ⟨B + 1,0,none⟩ u').setCell ⟨B + 1,1,none⟩ v').setCell ⟨B + 1,2,none⟩ x').setCell ⟨B + 2,0,none⟩ (.int .i64 n')).setCell ⟨B + 3,0,none⟩ (.int .i64 e')).drew.heap.size = w.heap.size:=(drew_size _).trans put_size
theorem put_below {n' e':Int} {u' v' x':Value} (h:Below B w' w):Below B w' (((((w.setCell ⟨B + 1,0,none⟩ u').setCell ⟨B + 1,1,none⟩ v').setCell ⟨B + 1,2,none⟩ x').setCell ⟨B + 2,0,none⟩ (.int .i64 n')).setCell ⟨B + 3,0,none⟩ (.int .i64 e')):=
 below_setCell (below_setCell (set3_below h (by omega)) (by show B ≤ B + 2;omega) _) (by show B ≤ B + 3;omega) _
end
theorem Leaves.congr {P:Program} {fn:Func} {t t':Array Value} {R:Ending → World → Prop} (h:results fn t = results fn t'):∀ {ds:List Deferred} {u:FrameMode} {w:World},Leaves P fn t R ds u w → Leaves P fn t' R ds u w
 | [], .returning,w,⟨v,h1,h2⟩=>⟨v,by rw [← h];exact h1,h2⟩
 | [], .panicking _,_,h1=>h1
 | [], .run,_,h1=>h1
 | d :: ds,u,w,⟨h1,fv,cap,f,args,h2,h3,h4⟩=>⟨h1,fv,cap,f,args,h2,h3,h4.mono fun e u' w' k=>by
   cases e with
   | returned v=>exact Leaves.congr h k
   | panicked c=>exact Leaves.congr h k
   | outgrown=>exact k⟩
theorem still_q {P:Program} {R:Ending → World → Prop} {u:FrameMode} {w:World} {a:Act} {d:Nat} {v:Value} (hd:7 ≤ d) (h:Leaves P Tryz.f102 (a.put (some d) v).tmps R (a.put (some d) v).defers u w):Leaves P Tryz.f102 a.tmps R a.defers u w:=by
 refine Leaves.congr ?_ h
 have e:∀ k,k < 7 → (a.tmps.setIfInBounds d v)[k]?.getD undef = a.tmps[k]?.getD undef:=fun k hk=>by
  rw [Array.getElem?_setIfInBounds_ne (by omega)]
 simp only [results,Tryz.f102,Act.put]
 simp [e 4 (by omega),e 5 (by omega),e 6 (by omega)]
theorem assert_wave (W:World) (v:Value):(Instr.typeAssert (.iface 153 v) 20 153 true).run Tryz.prog W = .ok (.tuple #[v, .bool true]) W:=by kernel_rfl
theorem assert_wnil (W:World):(Instr.typeAssert .nilIface 20 153 true).run Tryz.prog W = .ok (.tuple #[.agg #[.int .i64 0], .bool false]) W:=by kernel_rfl
theorem scatch_i (w:World) (p0 p1 p2:Addr) :
  CallsD Tryz.prog 127 #[.pointer (some p0), .pointer (some p1), .pointer (some p2)] .returning w fun e u' w'=>e = .returned (.tuple #[]) ∧ u' = .returning ∧ Below w.heap.size w w':=by
 refine callsD_of_wpS Tryz.func127 rfl fun c₀ cs hu=>?_
 apply wpS_seq
 apply wpS_region
 simp [wpOpsS,go_sem,recoverD,hu,Tryz.ntmps127,Exit.thenS]
 refine wpS_of_wp ?_
 have ht:(#[Value.pointer (some p0), .pointer (some p1), .pointer (some p2)] ++ ((Array.replicate 16 undef).setIfInBounds 3 .nilIface).setIfInBounds 0 .nilIface:Array Value) =
   #[.pointer (some p0), .pointer (some p1), .pointer (some p2), .nilIface,undef,undef, .nilIface,undef,undef,undef,undef,undef,undef,undef,undef,undef,undef,undef,undef]:=by simp [Array.replicate]
 rw [ht]
 clear ht
 have hta:=assert_wnil
 have hb:=below_a1 w (.cells #[.int .i64 0] 153)
 go_wp2_with fail
 cases c₀
 simp_all [bodyPostS,results,Tryz.results127]
theorem scatch_p {w:World} {B:Nat} {u v x:Value} {n e:Int} (h:ResV w B u v x n e) (r:Int) (older:List PanicEntry) :
  CallsD Tryz.prog 127 #[.pointer (some ⟨B + 1,0,none⟩), .pointer (some ⟨B + 2,0,none⟩), .pointer (some ⟨B + 3,0,none⟩)] (.panicking ({ v:=.iface 153 (.agg #[.int .i64 r]),recovered:=false } :: older)) w fun e u' w' =>
   e = .returned (.tuple #[]) ∧ u' = .panicking ({ v:=.iface 153 (.agg #[.int .i64 r]),recovered:=true } :: older) ∧ ResV w' B (.slice none 0 0) (.slice none 0 0) (.slice none 0 0) 0 r ∧ Below B w w':=by
 have hta:=assert_wave
 have hsz:=h.size
 have hb:=below_a1 w (.cells #[.int .i64 r] 153)
 have h2:=h.trans hb hsz
 have hcw:(w.alloc (.cells #[.int .i64 r] 153)).cell? ⟨w.heap.size,0,none⟩ = some (.int .i64 r):=(Boxed.new w 153 (.int .i64 r)).cell
 have hR7:=h2.put_drew (.slice none 0 0) (.slice none 0 0) (.slice none 0 0) 0 r
 have hb7:=below_drew (put_below (n':=0) (e':=r) (u':=.slice none 0 0) (v':=.slice none 0 0) (x':=.slice none 0 0) (hb.mono (show B ≤ w.heap.size by omega)))
 obtain ⟨⟨hk0,z0,z1,z2⟩,hz1,hz2⟩:=id h2
 have hf0:=hk0.frozen 0
 have hf1:=hk0.frozen 1
 have hf2:=hk0.frozen 2
 have hf3:=hz1.frozen
 have hf4:=hz2.frozen
 replace hz1:=hz1.cell
 replace hz2:=hz2.cell
 replace hR7:=Lib.hid hR7
 replace hb7:=Lib.hid hb7
 replace hsz:B + 3 < w.heap.size:=hsz
 clear h h2 hb
 refine callsD_of_wpS Tryz.func127 rfl fun c₀ cs hu=>?_
 apply wpS_seq
 apply wpS_region
 simp [wpOpsS,go_sem,recoverD,hu,Tryz.ntmps127,Exit.thenS]
 refine wpS_of_wp ?_
 have ht:(#[Value.pointer (some ⟨B + 1,0,none⟩), .pointer (some ⟨B + 2,0,none⟩), .pointer (some ⟨B + 3,0,none⟩)] ++ ((Array.replicate 16 undef).setIfInBounds 3 (.iface 153 (.agg #[.int .i64 r]))).setIfInBounds 0 (.iface 153 (.agg #[.int .i64 r])):Array Value) =
   #[.pointer (some ⟨B + 1,0,none⟩), .pointer (some ⟨B + 2,0,none⟩), .pointer (some ⟨B + 3,0,none⟩), .iface 153 (.agg #[.int .i64 r]),undef,undef, .iface 153 (.agg #[.int .i64 r]),undef,undef,undef,undef,undef,undef,undef,undef,undef,undef,undef,undef]:=by simp [Array.replicate]
 rw [ht]
 clear ht
 go_wp2_with fail
 refine wp_region_N (fun W=>W.cell? ⟨w.heap.size,0,none⟩ = some (.int .i64 r) ∧ True) 5 6 rfl (by kernel_rfl) ⟨hcw,trivial⟩ (fun hSw=>?_)
 refine tk 0 ?_ rfl rfl (by kernel_rfl) (.inl ⟨by rfl, ?_⟩) hSw ?_
 rotate_left
 ·rintro w ⟨s0,_⟩;go_simp;try with_reducible rfl
 simp only [tkp,tkz,tks]
 refine tk 1 ?_ rfl rfl (by kernel_rfl) (.inl ⟨by rfl, ?_⟩) hSw ?_
 rotate_left
 ·rintro w ⟨s0,_⟩;go_simp;try with_reducible rfl
 simp only [tkp,tkz,tks]
 refine tk 2 ?_ rfl rfl (by kernel_rfl) (.inl ⟨by rfl, ?_⟩) hSw ?_
 rotate_left
 ·rintro w ⟨s0,_⟩;go_simp;try with_reducible rfl
 simp only [tkp,tkz,tks]
 refine N_one' (i:=3) (by kernel_rfl) rfl ?_
 go_wp2_with fail
 refine QK_normal ⟨?_, ?_⟩
 ·first | exact fun _=>⟨by go_simp,trivial⟩ | exact ⟨by go_simp,trivial⟩
 refine N_one' (i:=4) (by kernel_rfl) rfl ?_
 go_wp2_with fail
 refine QK_normal ⟨?_, ?_⟩
 ·first | exact fun _=>⟨by go_simp,trivial⟩ | exact ⟨by go_simp,trivial⟩
 refine N_rest 5 1 (Nat.le_refl _) rfl (by kernel_rfl) ?_
 simp only [List.drop_succ_cons,List.drop_zero]
 go_wp2_with fail
 have hR8:=hR7.out
 have hb8:=hb7.out
 clear hR7 hb7 hSw hcw
 generalize ((((((w.alloc (.cells #[.int .i64 r] 153)).setCell ⟨B + 1,0,none⟩ (.slice none 0 0)).setCell ⟨B + 1,1,none⟩ (.slice none 0 0)).setCell ⟨B + 1,2,none⟩ (.slice none 0 0)).setCell ⟨B + 2,0,none⟩ (.int .i64 0)).setCell ⟨B + 3,0,none⟩ (.int .i64 r)).drew = wF at *
 simp [bodyPostS,results,Tryz.results127]
 exact ⟨hR8,hb8⟩
set_option maxHeartbeats 4000000 in
theorem still_calm {w:World} {v:Value} {X:Wd} (h:WorldAt w v X) (r:Int × Int × Wd) (hbad:r.1 ≠ 0 → r = (r.1,0,Wd.none)) (hdo:Right X → ∀ w2 wr b,SeaAt w2 wr b false X 0 → Calls Tryz.prog 103 #[.pointer (some ⟨b,0,none⟩)] wr (SeaPost w2 b r)) :
  Calls Tryz.prog 102 #[v, .func (.func 103) #[] #[]] w (WPost3 w (if errX X = 0 then r else (errX X,0,Wd.none))):=by
 have hW0:=h
 obtain ⟨gv,nv,wv,rfl,hg,hn,hw⟩:=h
 obtain ⟨hnl,na,ncap,rfl,_⟩:=hn.form
 obtain ⟨hgl,ga,gcap,rfl,_⟩:=hg.open
 obtain ⟨hwl,wa,wcap,rfl,_⟩:=hw.form
 have hmf:∀ (fn:Fn) (first cap:Array Value) (w:World),(Instr.makeFunc fn first cap).run Tryz.prog w = .ok (.func fn first cap) w:=fun _ _ _ _=>rfl
 obtain ⟨w1,hw1⟩:∃ w1,w1 = w.alloc (.cells #[.slice ga X.groups.length gcap, .slice na X.nodes.length ncap, .slice wa X.wires.length wcap] 35):=⟨_,rfl⟩
 obtain ⟨w2,hw2⟩:∃ w2,w2 = w1.alloc (.cells #[.slice none 0 0, .slice none 0 0, .slice none 0 0] 35):=⟨_,rfl⟩
 obtain ⟨w3,hw3⟩:∃ w3,w3 = w2.alloc (.cells #[.int .i64 0] 3):=⟨_,rfl⟩
 obtain ⟨w4,hw4⟩:∃ w4,w4 = w3.alloc (.cells #[.int .i64 0] 23):=⟨_,rfl⟩
 have hs1:w1.heap.size = w.heap.size + 1:=by rw [hw1,World.size_alloc]
 have hs2:w2.heap.size = w.heap.size + 2:=by rw [hw2,World.size_alloc,hs1]
 have hs3:w3.heap.size = w.heap.size + 3:=by rw [hw3,World.size_alloc,hs2]
 have hs4:w4.heap.size = w.heap.size + 4:=by rw [hw4,World.size_alloc,hs3]
 have hb1:Below w.heap.size w w1:=hw1 ▸ below_a1 w _
 have hb2:Below w1.heap.size w1 w2:=hw2 ▸ below_a1 w1 _
 have hb3:Below w2.heap.size w2 w3:=hw3 ▸ below_a1 w2 _
 have hb4:Below w3.heap.size w3 w4:=hw4 ▸ below_a1 w3 _
 have hB1:OBox w1 w.heap.size 35 (.slice ga X.groups.length gcap) (.slice na X.nodes.length ncap) (.slice wa X.wires.length wcap):=hw1 ▸ OBox.new w 35 (.slice ga X.groups.length gcap) (.slice na X.nodes.length ncap) (.slice wa X.wires.length wcap)
 have hB2:OBox w2 (w.heap.size + 1) 35 (.slice none 0 0) (.slice none 0 0) (.slice none 0 0):=by rw [← hs1];exact hw2 ▸ OBox.new w1 35 (.slice none 0 0) (.slice none 0 0) (.slice none 0 0)
 have hB3:Boxed w3 (w.heap.size + 2) 3 (.int .i64 0):=by rw [← hs2];exact hw3 ▸ Boxed.new w2 3 (.int .i64 0)
 have hB4:Boxed w4 (w.heap.size + 3) 23 (.int .i64 0):=by rw [← hs3];exact hw4 ▸ Boxed.new w3 23 (.int .i64 0)
 have hA:=below_trans (below_trans (below_trans hb1 hb2) hb3) hb4
 have hBx:=hB1.keep ((below_trans (below_trans hb2 hb3) hb4).block _ hB1.lt)
 have hRs:ResV w4 w.heap.size (.slice none 0 0) (.slice none 0 0) (.slice none 0 0) 0 0:=⟨hB2.keep ((below_trans hb3 hb4).block _ hB2.lt),Boxed.keep3 hB3 (hb4.block _ (by omega)),hB4⟩
 have hE:=Lib.hid (show w4 = (((w.alloc (.cells #[.slice ga X.groups.length gcap, .slice na X.nodes.length ncap, .slice wa X.wires.length wcap] 35)).alloc (.cells #[.slice none 0 0, .slice none 0 0, .slice none 0 0] 35)).alloc (.cells #[.int .i64 0] 3)).alloc (.cells #[.int .i64 0] 23) by rw [hw4,hw3,hw2,hw1])
 clear hw1 hw2 hw3 hw4 hB1 hB2 hB3 hB4 hb1 hb2 hb3 hb4 hs1 hs2 hs3
 replace hs4:=Lib.hid hs4
 have hC:=WCheck_c (hW0.below hA)
 obtain ⟨P,hP⟩:∃ P,WPost3 w (if errX X = 0 then r else (errX X,0,Wd.none)) = P:=⟨_,rfl⟩
 rw [hP]
 obtain ⟨_,x0,x1,x2⟩:=id hBx
 have hrx:=fun h=>right_of (X:=X) h
 obtain ⟨e0,he0⟩:∃ e0,errX X = e0:=⟨_,rfl⟩
 rw [he0] at hC hP hrx
 clear he0
 replace hbad:=Lib.hid hbad
 go_enter_defers Tryz.func102,Tryz.ntmps102
 go_upto_region 1 with fail
 rw [← hE.out]
 clear hE
 go_wp2_with fail
 refine hC.mono ?_
 rintro e w5 ⟨rfl,hb5⟩
 have hA5:=below_trans hA hb5
 have hRs5:=hRs.trans hb5 (by have:=hs4.out;omega)
 have hBx5:=hBx.keep (hb5.block _ hBx.lt)
 have hsz5:w.heap.size + 4 ≤ w5.heap.size:=by have:=hb5.size;have:=hs4.out;omega
 clear hb5 hRs hBx x0 x1 x2 hC hs4 hA
 obtain ⟨_,x0,x1,x2⟩:=id hBx5
 by_cases hz:e0 = 0
 ·rw [if_pos hz] at hP
  have hRX:=hrx hz
  subst hz
  clear hrx
  replace hP:=Lib.hid hP
  have hSea:SeaAt w5 (w5.alloc (.cells #[.slice ga X.groups.length gcap, .slice na X.nodes.length ncap, .slice wa X.wires.length wcap, .int .i64 0] 156)) w5.heap.size false X 0:=
   ⟨_,_,_,SBox.new _ _ _ _ _,below_a1 _ _,Nat.le_refl _, .inl ⟨rfl,hg.below hA5,hn.below hA5,hw.below hA5⟩⟩
  have hD:=hdo hRX _ _ _ hSea
  clear hdo hSea hRX
  obtain ⟨e1,he1⟩:∃ e1,r.1 = e1:=⟨_,rfl⟩
  replace he1:=Lib.hid he1
  go_wp2_with fail
  refine hD.mono ?_
  rintro e w6 (⟨h1,rfl,gvF,nvF,wvF,hSB,hbF,_,hor⟩ | ⟨h1,rfl,hbF⟩)
  ·rcases hor with ⟨h,_⟩ | ⟨S,hO,hS⟩
   ·cases h
   have hRs6:=hRs5.trans hbF hsz5
   obtain ⟨pg,pn,pw⟩:=hO.parts
   obtain ⟨_,ga2,gcap2,rfl,_⟩:=pg.open
   obtain ⟨_,na2,ncap2,rfl,_⟩:=pn.form
   obtain ⟨_,wa2,wcap2,rfl,_⟩:=pw.form
   clear pg pn pw hD x0 x1 x2
   replace h1:=Lib.hid h1
   replace hS:=Lib.hid hS
   obtain ⟨⟨hk0,z0,z1,z2⟩,hz1,hz2⟩:=id hRs6
   have hf0:=hk0.frozen 0
   have hf1:=hk0.frozen 1
   have hf2:=hk0.frozen 2
   have hf3:=hz1.frozen
   have hf4:=hz2.frozen
   replace hz1:=hz1.cell
   replace hz2:=hz2.cell
   have hR7:=hRs6.put_drew (.slice ga2 r.2.2.groups.length gcap2) (.slice na2 r.2.2.nodes.length ncap2) (.slice wa2 r.2.2.wires.length wcap2) r.2.1 0
   go_upto_region 7 with fail
   refine wp_region_N (fun W=>SBox W w5.heap.size (.slice ga2 r.2.2.groups.length gcap2) (.slice na2 r.2.2.nodes.length ncap2) (.slice wa2 r.2.2.wires.length wcap2) r.2.1) 9 11 rfl (by kernel_rfl) (hSB.keep rfl) (fun hSw=>?_)
   refine tk 0 ?_ rfl rfl (by kernel_rfl) (.inl ⟨by rfl, ?_⟩) hSw ?_ (hQ:=fun _ _ _ h=>still_q (by omega) h)
   rotate_left
   ·rintro w ⟨hsb,s0,s1,s2,s3⟩;go_simp;try with_reducible rfl
   simp only [tkp,tkz,tks]
   refine tk 1 ?_ rfl rfl (by kernel_rfl) (.inl ⟨by rfl, ?_⟩) hSw ?_ (hQ:=fun _ _ _ h=>still_q (by omega) h)
   rotate_left
   ·rintro w ⟨hsb,s0,s1,s2,s3⟩;go_simp;try with_reducible rfl
   simp only [tkp,tkz,tks]
   refine tk 2 ?_ rfl rfl (by kernel_rfl) (.inl ⟨by rfl, ?_⟩) hSw ?_ (hQ:=fun _ _ _ h=>still_q (by omega) h)
   rotate_left
   ·rintro w ⟨hsb,s0,s1,s2,s3⟩;go_simp;try with_reducible rfl
   simp only [tkp,tkz,tks]
   refine tk 3 ?_ rfl rfl (by kernel_rfl) (.inl ⟨by rfl, ?_⟩) hSw ?_ (hQ:=fun _ _ _ h=>still_q (by omega) h)
   rotate_left
   ·rintro w ⟨hsb,s0,s1,s2,s3⟩;go_simp;try with_reducible rfl
   simp only [tkp,tkz,tks]
   refine tk 4 ?_ rfl rfl (by kernel_rfl) (.inl ⟨by rfl, ?_⟩) hSw ?_ (hQ:=fun _ _ _ h=>still_q (by omega) h)
   rotate_left
   ·rintro w ⟨hsb,s0,s1,s2,s3⟩;go_simp;try with_reducible rfl
   simp only [tkp,tkz,tks]
   refine tk 5 ?_ rfl rfl (by kernel_rfl) (.inl ⟨by rfl, ?_⟩) hSw ?_ (hQ:=fun _ _ _ h=>still_q (by omega) h)
   rotate_left
   ·rintro w ⟨hsb,s0,s1,s2,s3⟩;go_simp;try with_reducible rfl
   simp only [tkp,tkz,tks]
   refine tk 6 ?_ rfl rfl (by kernel_rfl) (.inl ⟨by rfl, ?_⟩) hSw ?_ (hQ:=fun _ _ _ h=>still_q (by omega) h)
   rotate_left
   ·rintro w ⟨hsb,s0,s1,s2,s3⟩;go_simp;try with_reducible rfl
   simp only [tkp,tkz,tks]
   refine tk 7 ?_ rfl rfl (by kernel_rfl) (.inl ⟨by rfl, ?_⟩) hSw ?_ (hQ:=fun _ _ _ h=>still_q (by omega) h)
   rotate_left
   ·rintro w ⟨hsb,s0,s1,s2,s3⟩;go_simp;try with_reducible rfl
   simp only [tkp,tkz,tks]
   refine N_one' (i:=8) (by kernel_rfl) rfl ?_
   go_wp2_with fail
   refine QK_normal ⟨?_, ?_⟩
   ·have hSw2:SBox (((w6.drew.setCell ⟨w.heap.size + 1,0,none⟩ (.slice ga2 r.2.2.groups.length gcap2)).setCell ⟨w.heap.size + 1,1,none⟩ (.slice na2 r.2.2.nodes.length ncap2)).setCell ⟨w.heap.size + 1,2,none⟩ (.slice wa2 r.2.2.wires.length wcap2)) w5.heap.size (.slice ga2 r.2.2.groups.length gcap2) (.slice na2 r.2.2.nodes.length ncap2) (.slice wa2 r.2.2.wires.length wcap2) r.2.1:=by
     refine hSw.keep ?_
     rw [set3_blk (by show w5.heap.size ≠ w.heap.size + 1;omega)]
    first | exact fun _=>hSw2 | exact hSw2
   refine N_rest 9 2 (Nat.le_refl _) rfl (by kernel_rfl) ?_
   simp only [List.drop_succ_cons,List.drop_zero]
   clear hSw hSB
   go_wp2_with fail
   have hO7:=hO.keep (w':=(((((w6.setCell ⟨w.heap.size + 1,0,none⟩ (.slice ga2 r.2.2.groups.length gcap2)).setCell ⟨w.heap.size + 1,1,none⟩ (.slice na2 r.2.2.nodes.length ncap2)).setCell ⟨w.heap.size + 1,2,none⟩ (.slice wa2 r.2.2.wires.length wcap2)).setCell ⟨w.heap.size + 2,0,none⟩ (.int .i64 r.2.1)).setCell ⟨w.heap.size + 3,0,none⟩ (.int .i64 0)).drew) (fun k hk=>put_blk_d (w:=w6) (by have:=hS.out k hk;omega))
   have hb7:Below w.heap.size w ((((((w6.setCell ⟨w.heap.size + 1,0,none⟩ (.slice ga2 r.2.2.groups.length gcap2)).setCell ⟨w.heap.size + 1,1,none⟩ (.slice na2 r.2.2.nodes.length ncap2)).setCell ⟨w.heap.size + 1,2,none⟩ (.slice wa2 r.2.2.wires.length wcap2)).setCell ⟨w.heap.size + 2,0,none⟩ (.int .i64 r.2.1)).setCell ⟨w.heap.size + 3,0,none⟩ (.int .i64 0)).drew):=below_drew (put_below (below_trans hA5 hbF))
   have hS7:∀ k,S k → w.heap.size + 4 ≤ k ∧ k < ((((((w6.setCell ⟨w.heap.size + 1,0,none⟩ (.slice ga2 r.2.2.groups.length gcap2)).setCell ⟨w.heap.size + 1,1,none⟩ (.slice na2 r.2.2.nodes.length ncap2)).setCell ⟨w.heap.size + 1,2,none⟩ (.slice wa2 r.2.2.wires.length wcap2)).setCell ⟨w.heap.size + 2,0,none⟩ (.int .i64 r.2.1)).setCell ⟨w.heap.size + 3,0,none⟩ (.int .i64 0)).drew).heap.size:=fun k hk=>by
    have:=hS.out k hk
    rw [put_size_d]
    exact ⟨by omega,this.2.1⟩
   generalize (((((w6.setCell ⟨w.heap.size + 1,0,none⟩ (.slice ga2 r.2.2.groups.length gcap2)).setCell ⟨w.heap.size + 1,1,none⟩ (.slice na2 r.2.2.nodes.length ncap2)).setCell ⟨w.heap.size + 1,2,none⟩ (.slice wa2 r.2.2.wires.length wcap2)).setCell ⟨w.heap.size + 2,0,none⟩ (.int .i64 r.2.1)).setCell ⟨w.heap.size + 3,0,none⟩ (.int .i64 0)).drew = w7 at *
   refine leaves_cons (f:=127) (args:=#[.pointer (some ⟨w.heap.size + 1,0,none⟩), .pointer (some ⟨w.heap.size + 2,0,none⟩), .pointer (some ⟨w.heap.size + 3,0,none⟩)]) (by simp) (by simp [go_sem]) ?_
   refine (scatch_i _ _ _ _).mono ?_
   rintro e u' w8 ⟨rfl,rfl,hb8⟩
   have hsz7:w.heap.size + 4 ≤ w7.heap.size:=hR7.size
   have hR8:=hR7.trans hb8 hsz7
   obtain ⟨⟨_,f0,f1,f2⟩,f3,f4⟩:=hR8
   replace f3:=f3.cell
   replace f4:=f4.cell
   simp only [Leaves,settle]
   refine ⟨.tuple #[.agg #[.slice ga2 r.2.2.groups.length gcap2, .slice na2 r.2.2.nodes.length ncap2, .slice wa2 r.2.2.wires.length wcap2], .int .i64 r.2.1, .int .i64 0], ?_, ?_⟩
   ·simp [results,Tryz.f102]
    go_simp
   ·rw [← hP.out]
    exact ⟨_,_,_,S,by rw [h1.out],hO7.keep (fun k hk=>hb8.block k (hS7 k hk).2),fun k hk=>⟨by have:=hS7 k hk;omega,Nat.lt_of_lt_of_le (hS7 k hk).2 hb8.size⟩,below_trans hb7 hb8⟩
  ·have hbad:=hbad.out h1
   rw [he1.out] at hbad
   rw [hbad] at hP
   rw [he1.out]
   have hRs6:=hRs5.trans hbF hsz5
   have hsz6:=hbF.size
   clear hD x0 x1 x2
   replace h1:=Lib.hid h1
   replace hbad:=Lib.hid hbad
   go_wp2_with fail
   refine leaves_cons (f:=127) (args:=#[.pointer (some ⟨w.heap.size + 1,0,none⟩), .pointer (some ⟨w.heap.size + 2,0,none⟩), .pointer (some ⟨w.heap.size + 3,0,none⟩)]) (by simp) (by simp [go_sem]) ?_
   refine (scatch_p hRs6 e1 []).mono ?_
   rintro e u' w8 ⟨rfl,rfl,hR8,hb8⟩
   obtain ⟨⟨_,f0,f1,f2⟩,f3,f4⟩:=hR8
   replace f3:=f3.cell
   replace f4:=f4.cell
   simp only [Leaves,settle,List.dropWhile]
   refine ⟨.tuple #[.agg #[.slice none 0 0, .slice none 0 0, .slice none 0 0], .int .i64 0, .int .i64 e1], ?_, ?_⟩
   ·simp [results,Tryz.f102]
    go_simp
   ·rw [← hP.out]
    exact WPost3.none ((below_trans hA5 hbF).trans (hb8.mono (by omega)))
 ·rw [if_neg hz] at hP
  have hne:(e0 != 0) = true:=by simpa using hz
  replace hz:=Lib.hid hz
  replace hP:=Lib.hid hP
  have hR7:=hRs5.put (.slice none 0 0) (.slice none 0 0) (.slice none 0 0) 0 e0
  obtain ⟨⟨hk0,z0,z1,z2⟩,hz1,hz2⟩:=id hRs5
  have hf0:=hk0.frozen 0
  have hf1:=hk0.frozen 1
  have hf2:=hk0.frozen 2
  have hf3:=hz1.frozen
  have hf4:=hz2.frozen
  replace hz1:=hz1.cell
  replace hz2:=hz2.cell
  obtain ⟨⟨_,f0,f1,f2⟩,f3,f4⟩:=hR7
  replace f3:=f3.cell
  replace f4:=f4.cell
  go_wp2_with fail
  simp only [bodyPostD,Leaves]
  refine ⟨.tuple #[.agg #[.slice none 0 0, .slice none 0 0, .slice none 0 0], .int .i64 0, .int .i64 e0], ?_, ?_⟩
  ·simp [results,Tryz.f102]
   go_simp
  ·rw [← hP.out]
   exact WPost3.none (put_below hA5)
end Go.Proofs.YtnalakhelicjcaaGreatDoor
set_option maxRecDepth 100000
namespace Go.Proofs.YtnalakhelicjcaaGreatDoor
open Go.RowKit Go.Shelf Go.BigFrame
theorem calmDo_c {w wr:World} {b:Nat} {own:Bool} {X:Wd} {c:Int} (h:SeaAt w wr b own X c) (hR:Right X) :
  Calls Tryz.prog 103 #[.pointer (some ⟨b,0,none⟩)] wr (SeaPost w b (calmN 4 (drainR X))):=by
 obtain ⟨P,hP⟩:∃ P,SeaPost w b (calmN 4 (drainR X)) = P:=⟨_,rfl⟩
 rw [hP]
 have hD:=seaDrain_c h hR
 have hLk:=fun h=>drainR_like (X:=X) hR h
 have hbd:=fun h k=>calmN_bad (r:=drainR X) h k
 obtain ⟨r,hr⟩:∃ r,drainR X = r:=⟨_,rfl⟩
 rw [hr] at hD hLk hP hbd
 clear hr
 replace hP:=Lib.hid hP
 replace hLk:=Lib.hid hLk
 replace hbd:=Lib.hid hbd
 go_enter Tryz.func103,Tryz.ntmps103
 go_wp2_with fail
 refine hD.mono ?_
 rintro e w1 (⟨h1,rfl,h2⟩ | ⟨h1,rfl,h2⟩)
 rotate_left
 ·have hP2:=hP.out
  rw [hbd.out h1] at hP2
  replace hP2:=Lib.hid hP2
  replace h1:=Lib.hid h1
  go_wp2_with fail
  refine ⟨rfl, ?_⟩
  rw [← hP2.out]
  exact .inr ⟨h1.out,rfl,h2⟩
 have hR1:=(hLk.out h1).1.right
 have hr1:r = (0,r.2.1,r.2.2):=by rw [← h1]
 replace h1:=Lib.hid h1
 replace hr1:=Lib.hid hr1
 replace hR1:=Lib.hid hR1
 clear h hD
 go_wp2_with fail
 go_loopw [4] (fun i wr=>∃ k:Nat,k ≤ 4 ∧ i = .int .i64 k ∧ ∃ Y n,Hid (calmN 4 r = calmN (4 - k) (0,n,Y)) ∧ Hid (Right Y) ∧ SeaAt w wr b true Y n) (fun i _=>4 - (intOf i).toNat)
 case atStart=>exact ⟨0,by omega,rfl,r.2.2,r.2.1,Lib.hid (congrArg (calmN 4) hr1.out),hR1,h2⟩
 case round =>
  clear h2
  obtain ⟨k,hk,rfl,Y,n,hY,hRY,hSea⟩:=hrel
  by_cases hlt:k < 4
  ·have hD:=seaRound_c hSea hRY.out
   have hL:=fun h=>roundR_like (X:=Y) hRY.out h
   have hY2:=hY.out
   rw [show 4 - k = (3 - k) + 1 by omega,calmN_next] at hY2
   have hbd2:=fun h=>calmN_bad (r:=roundR Y) h (3 - k)
   obtain ⟨q,hq⟩:∃ q,roundR Y = q:=⟨_,rfl⟩
   rw [hq] at hD hL hY2 hbd2
   clear hq hY
   replace hL:=Lib.hid hL
   replace hY2:=Lib.hid hY2
   replace hbd2:=Lib.hid hbd2
   go_wp2_with fail
   refine hD.mono ?_
   rintro e w2 (⟨h1,rfl,h2⟩ | ⟨h1,rfl,h2⟩)
   ·have hRq:=Lib.hid (hL.out h1).1.right
    have hq1:q = (0,q.2.1,q.2.2):=by rw [← h1]
    have hN:calmN 4 r = calmN (4 - (k + 1)) (0,q.2.1,q.2.2):=by rw [← hq1,show 4 - (k + 1) = 3 - k by omega];exact hY2.out
    replace h1:=Lib.hid h1
    replace hq1:=Lib.hid hq1
    replace hN:=Lib.hid hN
    go_wp2_with fail
    go_roundw
    case rel=>exact ⟨k + 1,by omega,by go_num,q.2.2,q.2.1,hN,hRq,h2⟩
    case measure=>simp [intOf];omega
   ·have hP2:=hP.out
    rw [hY2.out,hbd2.out h1] at hP2
    replace hP2:=Lib.hid hP2
    replace h1:=Lib.hid h1
    go_wp2_with fail
    refine ⟨rfl, ?_⟩
    rw [← hP2.out]
    exact .inr ⟨h1.out,rfl,h2⟩
  ·obtain rfl:k = 4:=by omega
   have hP2:=hP.out
   rw [hY.out] at hP2
   change SeaPost w b (0,n,Y) = P at hP2
   replace hP2:=Lib.hid hP2
   go_wp2_with fail
   go_end0
   rw [← hP2.out]
   exact SeaPost.ok hSea
set_option maxHeartbeats 2000000 in
theorem Calm_c {w:World} {v:Value} {X:Wd} (h:WorldAt w v X):Calls Tryz.prog 82 #[v] w (WPost w (calmF X)):=by
 have hW0:=h
 obtain ⟨gv,nv,wv,rfl,hg,hn,hw⟩:=h
 obtain ⟨hnl,na,ncap,rfl,hnc⟩:=hn.form
 obtain ⟨hwl,wa,wcap,rfl,hwc⟩:=hw.form
 obtain ⟨hgl,ga,gcap,rfl,_⟩:=hg.open
 obtain ⟨wA,hE,hA,hB,hRb⟩:=boxes2 w (.slice ga X.groups.length gcap) (.slice na X.nodes.length ncap) (.slice wa X.wires.length wcap) 35
 have hC:=fun o (h:Below w.heap.size w o)=>still_calm (hW0.below h) (calmN 4 (drainR X)) (calmN_fails 4 _ (drainR_fails X)) (fun hR w2 wr b h=>calmDo_c h hR)
 change ∀ o,_ → Calls _ _ _ _ (WPost3 o (calm3 X)) at hC
 obtain ⟨P,hP⟩:∃ P,WPost w (calmF X) = P:=⟨_,rfl⟩
 rw [hP]
 rw [calmF_eq] at hP
 generalize calm3 X = r at *
 replace hP:=Lib.hid hP
 go_enter Tryz.func82,Tryz.ntmps82
 go_upto_region 1 with fail
 rw [hE.out]
 clear hE
 obtain ⟨_,b0,b1,b2⟩:=id hB
 replace hC:=hC wA hA
 go_wp2_with fail
 refine hC.mono ?_
 rintro e w3 ⟨gv3,nv3,wv3,S3,rfl,hO3,hS3,b3⟩
 obtain ⟨pg,pn,pw⟩:=hO3.parts
 obtain ⟨_,ga3,gcap3,rfl,_⟩:=pg.open
 obtain ⟨_,na3,ncap3,rfl,_⟩:=pn.form
 obtain ⟨_,wa3,wcap3,rfl,_⟩:=pw.form
 clear pg pn pw
 have b4:=below_trans b3 (below_a1 w3 (.cells #[.slice ga3 r.2.2.groups.length gcap3, .slice na3 r.2.2.nodes.length ncap3, .slice wa3 r.2.2.wires.length wcap3] 35))
 have hO4:=hO3.keep (w':=w3.alloc (.cells #[.slice ga3 r.2.2.groups.length gcap3, .slice na3 r.2.2.nodes.length ncap3, .slice wa3 r.2.2.wires.length wcap3] 35)) (fun k hk=>Go.Deep.blk_alloc_lt _ _ _ (hS3 k hk).2)
 have hsA:=hRb.lt
 have hS4:∀ k,S3 k → wA.heap.size ≤ k ∧ k < (w3.alloc (.cells #[.slice ga3 r.2.2.groups.length gcap3, .slice na3 r.2.2.nodes.length ncap3, .slice wa3 r.2.2.wires.length wcap3] 35)).heap.size:=fun k hk=>by have h:=hS3 k hk;rw [World.size_alloc];exact ⟨h.1,by omega⟩
 have hQb:=OBox.new w3 35 (.slice ga3 r.2.2.groups.length gcap3) (.slice na3 r.2.2.nodes.length ncap3) (.slice wa3 r.2.2.wires.length wcap3)
 clear b0 b1 b2 hC
 go_upto_region 2 with fail
 generalize w3.alloc (.cells #[.slice ga3 r.2.2.groups.length gcap3, .slice na3 r.2.2.nodes.length ncap3, .slice wa3 r.2.2.wires.length wcap3] 35) = w4 at *
 clear hO3 hS3 b3
 have hR4:=hRb.keep (b4.block _ hRb.lt)
 have hb4:=below_trans hA b4
 have hf0:=hR4.1.frozen 0
 have hf1:=hR4.1.frozen 1
 have hf2:=hR4.1.frozen 2
 replace hS4:=Lib.hid hS4
 obtain ⟨_,z0,z1,z2⟩:=id hR4
 obtain ⟨_,q0,q1,q2⟩:=id hQb
 obtain ⟨f0,f1,f2⟩:=hR4.put3 (.slice ga3 r.2.2.groups.length gcap3) (.slice na3 r.2.2.nodes.length ncap3) (.slice wa3 r.2.2.wires.length wcap3)
 go_wp2_with ((with_reducible refine bodyPost_ret (v:=.tuple #[.agg #[.slice ga3 r.2.2.groups.length gcap3, .slice na3 r.2.2.nodes.length ncap3, .slice wa3 r.2.2.wires.length wcap3], .int .i64 r.1]) ?_ rfl ?_);(focus (simp [results,Tryz.f82];go_simp)))
 rw [← hP.out]
 refine ⟨_,_,_,S3,rfl,hO4.keep (fun c hc=>?_),fun c hc=>?_,set3_below hb4 (by omega)⟩
 ·have h:=(hS4.out c hc).1
  rw [set3_blk (by show c ≠ w.heap.size + 1;omega)]
 ·have h:=hS4.out c hc
  rw [set3_size]
  exact ⟨by omega,h.2⟩
end Go.Proofs.YtnalakhelicjcaaGreatDoor
