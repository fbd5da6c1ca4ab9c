/-
  The document's answer: all wires are drained.
  The document's answer: drained, a round, calm.
  The document's answer: calm.
-/
import Derived.Test.YtnalakhelicjcaaGreatDoorZKCa
import Derived.Test.YtnalakhelicjcaaGreatDoorZKV
import Derived.Test.YtnalakhelicjcaaGreatDoorZCast
set_option maxRecDepth 100000
namespace Go.Proofs.YtnalakhelicjcaaGreatDoor
open Go.RowKit Go.Shelf Go.BigFrame
set_option maxHeartbeats 4000000 in
theorem drain_c {w:World} {gv nv wv:Value} {X:Wd} (hg:Ints w gv X.groups) (hn:Nodes w nv X.nodes) (hw:Wires w wv X.wires) (hR:Right X) :
  Calls Tryz.prog 84 #[.agg #[gv,nv,wv]] w (WPost3 w (drainR X)):=by
 obtain ⟨hnl,na,ncap,rfl,hnc⟩:=hn.form
 obtain ⟨hwl,wa,wcap,rfl,hwc⟩:=hw.form
 obtain ⟨hgl,ga,gcap,rfl,_⟩:=hg.open
 obtain ⟨wA,hE,hA,hB,hRb⟩:=boxes2 w (.slice ga X.groups.length gcap) (.slice na X.nodes.length ncap) (.slice wa X.wires.length wcap) 35
 have hOw:=fun o (h:Below w.heap.size w o)=>OwnWorld_c (hg.below h) (hn.below h) (hw.below h) (errX_fit hR.err).small
 obtain ⟨P,hP⟩:∃ P,WPost3 w (drainR X) = P:=⟨_,rfl⟩
 rw [hP]
 replace hP:=Lib.hid hP
 have hK4:=(errX_fit hR.err).nodes
 have hSt:=fun a k ha hk=>drB_stop (X:=X) (a:=a) (b:=k) ha hk
 have hLk:=fun a ha k hk=>drB_like hR (a:=a) ha (drA_like hR a (by omega)) k hk
 have hLa:=fun a ha=>drA_like hR a ha
 have hZ:=drain_eq X
 have hsA:=fun a=>drA_succ X a
 have hsB:=fun a k=>drB_succ X a k
 have h0:=drA_zero X
 have h00:=fun a=>drB_zero X a
 obtain ⟨K,hK⟩:∃ K,X.nodes.length = K:=⟨_,rfl⟩
 rw [hK] at hK4 hSt hZ hsA
 replace hLk:=Lib.hid hLk
 replace hLa:=Lib.hid hLa
 replace hSt:=Lib.hid hSt
 replace hZ:=Lib.hid hZ
 replace hsA:=Lib.hid hsA
 replace hsB:=Lib.hid hsB
 replace h0:=Lib.hid h0
 replace h00:=Lib.hid h00
 replace hK:=Lib.hid hK
 go_enter Tryz.func84,Tryz.ntmps84
 go_upto_region 1 with fail
 rw [hE.out]
 clear hE
 obtain ⟨_,b0,b1,b2⟩:=id hB
 have hOw:=hOw wA hA
 go_wp2_with fail
 refine hOw.mono ?_
 rintro e w1 ⟨gv1,nv1,wv1,S1,rfl,hO1,hS1,hb1⟩
 obtain ⟨pg,pn,pw⟩:=hO1.parts
 obtain ⟨_,ga1,gcap1,rfl,_⟩:=pg.open
 obtain ⟨_,na1,ncap1,rfl,_⟩:=pn.form
 obtain ⟨_,wa1,wcap1,rfl,_⟩:=pw.form
 clear pg pn pw hOw b0 b1 b2
 have hT:TwoBox w wA:=⟨⟨_,_,_,hB⟩,hRb,hA⟩
 have hT1:=hT.next hb1 hO1.any hS1
 have hB1:=hB.keep (hb1.block _ hB.lt)
 obtain ⟨hf0,hf1,hf2,x0,x1,x2⟩:=hB1.all
 go_upto_region 3 with fail
 generalize ((w1.setCell ⟨w.heap.size,0,none⟩ (.slice ga1 X.groups.length gcap1)).setCell ⟨w.heap.size,1,none⟩ (.slice na1 X.nodes.length ncap1)).setCell ⟨w.heap.size,2,none⟩ (.slice wa1 X.wires.length wcap1) = wB at *
 clear hf0 hf1 hf2 x0 x1 x2 hB1 hT hB hRb hA hO1 hS1 hb1
 go_wp2_with fail
 go_loopw [5,6] (fun s i wr=>∃ a:Nat,a ≤ K ∧ i = .int .i64 a ∧ ∃ Y,∃ n:Int,s = .int .i64 n ∧ Hid (drA X a = (0,n,Y)) ∧ WireSt w wr Y) (fun _ i _=>K - (intOf i).toNat)
 case atStart=>exact ⟨0,by omega,rfl,X,0,rfl,h0,hT1⟩
 case round =>
  clear hT1
  obtain ⟨a,ha,rfl,Y,n,rfl,hY,hSt0⟩:=hrel
  obtain ⟨gvY,nvY,wvY,S,hO,hBx,hRx,hbw,hS⟩:=id hSt0
  obtain ⟨pg,pn,pw⟩:=hO.parts
  obtain ⟨_,na2,ncap2,rfl,_⟩:=pn.form
  obtain ⟨_,ga2,gcap2,rfl,_⟩:=pg.open
  obtain ⟨_,wa2,wcap2,rfl,_⟩:=pw.form
  clear pg pn pw
  replace hS:=Lib.hid hS
  by_cases hlt:a < K
  ·have hLY:=hLk.out a (by rw [hK.out];exact hlt) 0 (by omega)
   rw [h00.out,hY.out] at hLY
   have hLl:=(hLY rfl).1.len
   rw [hK.out] at hLl
   dsimp only at hLl
   rw [hLl] at hBx
   clear hLY
   obtain ⟨_,x0,x1,x2⟩:=id hBx
   replace hLl:=Lib.hid hLl
   clear hO hBx hRx hS
   obtain ⟨wo,rfl⟩:∃ wo:World,wo = wr:=⟨_,rfl⟩
   go_wp2_with fail
   go_loopw [5,7] (fun s i wr=>∃ k:Nat,k ≤ K ∧ i = .int .i64 k ∧ ∃ Y,∃ n:Int,s = .int .i64 n ∧ Hid (drB X a k = (0,n,Y)) ∧ WireSt w wr Y) (fun _ i _=>K - (intOf i).toNat)
   case atStart=>exact ⟨0,by omega,rfl,Y,n,rfl,Lib.hid ((h00.out a).trans hY.out),hSt0⟩
   case round =>
    clear hSt0 x0 x1 x2 hY hLl hbw
    obtain ⟨k,hk,rfl,Y,n,rfl,hY,hSt0⟩:=hrel
    obtain ⟨gvY,nvY,wvY,S,hO,hBx,hRx,hbw,hS⟩:=id hSt0
    obtain ⟨pg,pn,pw⟩:=hO.parts
    have hLY:=hLk.out a (by rw [hK.out];exact hlt) k (by rw [hK.out];omega)
    rw [hY.out] at hLY
    obtain ⟨hL,hn0,hn1⟩:=hLY rfl
    have hLl:=hL.len
    rw [hK.out] at hLl
    dsimp only at hL hLl hn0 hn1
    by_cases hltk:k < K
    ·have hRY:=hL.right
     have hA:=wire_c pg pn pw hRY (a:=a) (b:=k) (by rw [hLl];exact hlt) (by rw [hLl];exact hltk)
     have hnx:=hsB.out a k
     rw [hY.out] at hnx
     have hdr:=fun h=>drainS_like (n:=n) hL (a:=a) (b:=k) (by rw [hK.out];exact hlt) (by rw [hK.out];exact hltk) h
     have hdb:=fun h=>drainS_bad (Y:=Y) (a:=a) (b:=k) (n:=n) h
     have hn2:n ≤ 1000:=by
      have:a * X.nodes.length ≤ 4 * 4:=by rw [hK.out];exact Nat.mul_le_mul (by omega) (by omega)
      omega
     obtain ⟨_,na2,ncap2,rfl,_⟩:=pn.form
     obtain ⟨_,ga2,gcap2,rfl,_⟩:=pg.open
     obtain ⟨_,wa2,wcap2,rfl,_⟩:=pw.form
     rw [hLl] at hA hBx
     obtain ⟨r,hr⟩:∃ r,wireR Y a k = r:=⟨_,rfl⟩
     rw [hr] at hA hdr hdb
     clear hr hL hRY hn1 pg pn pw
     replace hnx:=Lib.hid hnx
     replace hLl:=Lib.hid hLl
     replace hS:=Lib.hid hS
     obtain ⟨_,x0,x1,x2⟩:=id hBx
     go_wp2_with fail
     refine hA.mono ?_
     rintro e w3 ⟨gv3,nv3,wv3,S3,rfl,hO3,hS3,b3⟩
     obtain ⟨pg,pn,pw⟩:=hO3.parts
     obtain ⟨_,ga3,gcap3,rfl,_⟩:=pg.open
     obtain ⟨_,na3,ncap3,rfl,_⟩:=pn.form
     obtain ⟨_,wa3,wcap3,rfl,_⟩:=pw.form
     clear pg pn pw
     have b4:=below_trans b3 (below_a1 w3 (.cells #[.slice ga3 r.2.2.groups.length gcap3, .slice na3 r.2.2.nodes.length ncap3, .slice wa3 r.2.2.wires.length wcap3] 35))
     have hO4:=hO3.keep (w':=w3.alloc (.cells #[.slice ga3 r.2.2.groups.length gcap3, .slice na3 r.2.2.nodes.length ncap3, .slice wa3 r.2.2.wires.length wcap3] 35)) (fun k hk=>Go.Deep.blk_alloc_lt _ _ _ (hS3 k hk).2)
     have hS4:∀ k,S3 k → wr.heap.size ≤ k ∧ k < (w3.alloc (.cells #[.slice ga3 r.2.2.groups.length gcap3, .slice na3 r.2.2.nodes.length ncap3, .slice wa3 r.2.2.wires.length wcap3] 35)).heap.size:=fun k hk=>by have h:=hS3 k hk;rw [World.size_alloc];exact ⟨h.1,by omega⟩
     have hQb:=OBox.new w3 35 (.slice ga3 r.2.2.groups.length gcap3) (.slice na3 r.2.2.nodes.length ncap3) (.slice wa3 r.2.2.wires.length wcap3)
     clear x0 x1 x2 hA
     go_upto_region 10 with fail
     generalize w3.alloc (.cells #[.slice ga3 r.2.2.groups.length gcap3, .slice na3 r.2.2.nodes.length ncap3, .slice wa3 r.2.2.wires.length wcap3] 35) = w4 at *
     clear hO3 hS3 b3
     have hT:TwoBox w wr:=⟨⟨_,_,_,hBx⟩,hRx,hbw⟩
     have hBx4:=hBx.keep (b4.block _ hBx.lt)
     have hRx4:=hRx.keep (b4.block _ hRx.lt)
     have hb4:=below_trans hbw b4
     by_cases he:r.1 = 0
     ·have hne:(r.1 != 0) = false:=by simpa using he
      have hN:=hT.next b4 hO4 hS4
      obtain ⟨e1,hL2,hp1,hp2⟩:=hdr he
      have hnx2:=hnx.out.trans e1
      clear e1 hdr hdb
      obtain ⟨p,hp⟩:∃ p,r.2.1 = p:=⟨_,rfl⟩
      rw [hp] at hp1 hp2 hnx2 ⊢
      replace hnx2:=Lib.hid hnx2
      replace hp:=Lib.hid hp
      replace he:=Lib.hid he
      replace hN:=Lib.hid hN
      have hsum:IntKind.i64.wrap (n + p) = n + p:=IntWalk.i64_in _ (by omega)
      obtain ⟨hf0,hf1,hf2,x0,x1,x2⟩:=hBx4.all
      obtain ⟨_,y0,y1,y2⟩:=id hQb
      go_wp2_with fail
      go_roundw
      case rel=>exact ⟨k + 1,by omega,by go_num,r.2.2,n + p,rfl,Lib.hid hnx2.out,hN.out⟩
      case measure=>simp [intOf];omega
     ·have hne:(r.1 != 0) = true:=by simpa using he
      have hbd:=hnx.out.trans (hdb he)
      have hst:=hSt.out a (k + 1) hlt (by omega)
      rw [hbd] at hst
      have hP2:=hP.out
      rw [hst he] at hP2
      replace hP2:=Lib.hid hP2
      clear hst hbd hdr hdb
      replace he:=Lib.hid he
      obtain ⟨e0,he0⟩:∃ e0,r.1 = e0:=⟨_,rfl⟩
      rw [he0] at hP2 hne ⊢
      clear he0
      obtain ⟨hf0,hf1,hf2,z0,z1,z2⟩:=hRx4.all
      obtain ⟨f0,f1,f2⟩:=hRx4.put3 (.slice none 0 0) (.slice none 0 0) (.slice none 0 0)
      go_wp2_with ((with_reducible refine bodyPost_ret (v:=.tuple #[.agg #[.slice none 0 0, .slice none 0 0, .slice none 0 0], .int .i64 0, .int .i64 e0]) ?_ rfl ?_);(focus (simp [results,Tryz.f84];go_simp)))
      rw [← hP2.out]
      exact WPost3.none (set3_below hb4 (by omega))
    ·obtain rfl:k = K:=by omega
     have hn:=hsA.out a
     rw [hY.out] at hn
     obtain ⟨_,na2,ncap2,rfl,_⟩:=pn.form
     rw [hLl] at hBx
     clear hL hn1 pg pn pw hO hS
     replace hLl:=Lib.hid hLl
     replace hn:=Lib.hid hn
     obtain ⟨_,x0,x1,x2⟩:=id hBx
     go_wp2_with fail
     go_roundw
     case rel=>exact ⟨a + 1,by omega,by go_num,Y,n,rfl,Lib.hid hn.out,hSt0⟩
     case measure=>simp [intOf];omega
  ·obtain rfl:a = K:=by omega
   have hLY:=hLa.out a (by rw [hK.out];exact Nat.le_refl _)
   rw [hY.out] at hLY
   have hLl:=(hLY rfl).1.len
   rw [hK.out] at hLl
   dsimp only at hLl
   rw [hLl] at hBx hO
   clear hLY
   replace hLl:=Lib.hid hLl
   have hP2:=hP.out
   rw [hZ.out,hY.out] at hP2
   replace hP2:=Lib.hid hP2
   have hf0:=hRx.1.frozen 0
   have hf1:=hRx.1.frozen 1
   have hf2:=hRx.1.frozen 2
   obtain ⟨_,x0,x1,x2⟩:=id hBx
   obtain ⟨_,z0,z1,z2⟩:=id hRx
   obtain ⟨f0,f1,f2⟩:=hRx.put3 (.slice ga2 Y.groups.length gcap2) (.slice na2 a ncap2) (.slice wa2 Y.wires.length wcap2)
   go_wp2_with ((with_reducible refine bodyPost_ret (v:=.tuple #[.agg #[.slice ga2 Y.groups.length gcap2, .slice na2 a ncap2, .slice wa2 Y.wires.length wcap2], .int .i64 n, .int .i64 0]) ?_ rfl ?_);(focus (simp [results,Tryz.f84];go_simp)))
   rw [← hP2.out]
   refine ⟨_,_,_,S,rfl,hO.keep (fun k hk=>?_),fun k hk=>?_,set3_below hbw (by omega)⟩
   ·have h:=hS.out k hk
    rw [set3_blk (by show k ≠ w.heap.size + 1;omega)]
   ·have h:=hS.out k hk
    rw [set3_size]
    omega
end Go.Proofs.YtnalakhelicjcaaGreatDoor
set_option maxRecDepth 100000
namespace Go.Proofs.YtnalakhelicjcaaGreatDoor
open Go.RowKit Go.Shelf Go.BigFrame
def RdSt (w wr:World) (Y:Wd):Prop:=
 ∃ (gv nv wv:Value),OBox wr w.heap.size 35 gv nv wv ∧ OBox wr (w.heap.size + 1) 35 (.slice none 0 0) (.slice none 0 0) (.slice none 0 0) ∧ Below w.heap.size w wr ∧
  ((Ints w gv Y.groups ∧ Nodes w nv Y.nodes ∧ Wires w wv Y.wires) ∨ ∃ S,OWd false wr S gv nv wv Y)
theorem RdSt.reads {w wr:World} {Y:Wd} (h:RdSt w wr Y):∃ (gv nv wv:Value),OBox wr w.heap.size 35 gv nv wv ∧ OBox wr (w.heap.size + 1) 35 (.slice none 0 0) (.slice none 0 0) (.slice none 0 0) ∧ Below w.heap.size w wr ∧ Ints wr gv Y.groups ∧ Nodes wr nv Y.nodes ∧ Wires wr wv Y.wires:=by
 obtain ⟨gv,nv,wv,h1,h2,h3,h4⟩:=h
 refine ⟨gv,nv,wv,h1,h2,h3, ?_⟩
 rcases h4 with ⟨k1,k2,k3⟩ | ⟨S,k1⟩
 ·exact ⟨k1.below h3,k2.below h3,k3.below h3⟩
 ·exact k1.parts
theorem WireSt.rd {w wr:World} {Y:Wd} (h:WireSt w wr Y):RdSt w wr Y:=by
 obtain ⟨gv,nv,wv,S,h1,h2,h3,h4,_⟩:=h
 exact ⟨gv,nv,wv,h2,h3,h4, .inr ⟨S,h1⟩⟩
set_option maxHeartbeats 4000000 in
theorem round_c {w:World} {gv nv wv:Value} {X:Wd} (hg:Ints w gv X.groups) (hn:Nodes w nv X.nodes) (hw:Wires w wv X.wires) (hR:Right X) :
  Calls Tryz.prog 63 #[.agg #[gv,nv,wv]] w (WPost3 w (roundR X)):=by
 obtain ⟨hnl,na,ncap,rfl,hnc⟩:=hn.form
 obtain ⟨hwl,wa,wcap,rfl,hwc⟩:=hw.form
 obtain ⟨hgl,ga,gcap,rfl,_⟩:=hg.open
 obtain ⟨wA,hE,hA,hB,hRb⟩:=boxes2 w (.slice ga X.groups.length gcap) (.slice na X.nodes.length ncap) (.slice wa X.wires.length wcap) 35
 obtain ⟨P,hP⟩:∃ P,WPost3 w (roundR X) = P:=⟨_,rfl⟩
 rw [hP]
 replace hP:=Lib.hid hP
 have hF:=errX_fit hR.err
 have hK4:=hF.nodes
 have hG3:=hF.groups
 have hSt:=fun n g hn hg h=>rdB_stop (X:=X) (n:=n) (g:=g) hn hg h
 have hLk:=fun n g h=>rdB_like (X:=X) (n:=n) (rdA_like hR n) g h
 have hLa:=fun n h=>rdA_like (X:=X) hR n h
 have hRbd:=fun h=>roundR_bad (X:=X) h
 have hRo:=fun Y h=>roundR_ok (X:=X) (Y:=Y) h
 have hZ:=round_eq X
 have hsA:=fun n=>rdA_succ X n
 have hsB:=fun n g=>rdB_succ X n g
 have h0:=rdA_zero X
 have h00:=fun n=>rdB_zero X n
 obtain ⟨K,hK⟩:∃ K,X.nodes.length = K:=⟨_,rfl⟩
 obtain ⟨G,hG⟩:∃ G,X.groups.length = G:=⟨_,rfl⟩
 have hSt0:RdSt w wA X:=⟨_,_,_,hB,hRb,hA, .inl ⟨hg,hn,hw⟩⟩
 rw [hK] at hK4 hSt hZ
 rw [hG] at hG3 hSt hsA
 clear hB hRb hA hF
 replace hLk:=Lib.hid hLk
 replace hLa:=Lib.hid hLa
 replace hSt:=Lib.hid hSt
 replace hZ:=Lib.hid hZ
 replace hsA:=Lib.hid hsA
 replace hsB:=Lib.hid hsB
 replace h0:=Lib.hid h0
 replace h00:=Lib.hid h00
 replace hRbd:=Lib.hid hRbd
 replace hRo:=Lib.hid hRo
 replace hK:=Lib.hid hK
 replace hG:=Lib.hid hG
 go_enter Tryz.func63,Tryz.ntmps63
 go_upto_region 1 with fail
 rw [hE.out]
 clear hE
 go_wp2_with fail
 go_loopw [5] (fun i wr=>∃ n:Nat,n ≤ K ∧ i = .int .i64 n ∧ ∃ Y,Hid (rdA X n = (0,Y)) ∧ RdSt w wr Y) (fun i _=>K - (intOf i).toNat)
 case atStart=>exact ⟨0,by omega,rfl,X,h0,hSt0⟩
 case round =>
  clear hSt0
  obtain ⟨n,hn0,rfl,Y,hY,hSt0⟩:=hrel
  obtain ⟨gvY,nvY,wvY,hBx,hRx,hbw,pg,pn,pw⟩:=hSt0.reads
  have hLY:=hLa.out n
  rw [hY.out] at hLY
  have hL:=hLY rfl
  have hLl:=hL.len
  have hLg:=hL.groups
  rw [hK.out] at hLl
  dsimp only at hLl hLg
  by_cases hlt:n < K
  ·obtain ⟨_,na2,ncap2,rfl,_⟩:=pn.form
   rw [hLl] at hBx
   obtain ⟨_,x0,x1,x2⟩:=id hBx
   clear hLY hL hBx hRx pg pn pw hbw
   replace hLl:=Lib.hid hLl
   replace hLg:=Lib.hid hLg
   obtain ⟨wo,rfl⟩:∃ wo:World,wo = wr:=⟨_,rfl⟩
   go_wp2_with fail
   go_loopw [6] (fun i wr=>∃ g:Nat,g ≤ G ∧ i = .int .i64 g ∧ ∃ Y,Hid (rdB X n g = (0,Y)) ∧ RdSt w wr Y) (fun i _=>G - (intOf i).toNat)
   case atStart=>exact ⟨0,by omega,rfl,Y,Lib.hid ((h00.out n).trans hY.out),hSt0⟩
   case round =>
    clear hSt0 x0 x1 x2 hY hLl hLg
    obtain ⟨g,hg0,rfl,Y,hY,hSt0⟩:=hrel
    obtain ⟨gvY,nvY,wvY,hBx,hRx,hbw,pg,pn,pw⟩:=hSt0.reads
    have hLY:=hLk.out n g
    rw [hY.out] at hLY
    have hL:=hLY rfl
    have hLg:=hL.groups
    dsimp only at hLg hL
    rw [hLg] at pg
    have hH:=HasOf_c pg (g:Int) (n:Int)
    obtain ⟨_,ga2,gcap2,rfl,_⟩:=pg.open
    obtain ⟨_,na2,ncap2,rfl,_⟩:=pn.form
    obtain ⟨_,wa2,wcap2,rfl,_⟩:=pw.form
    rw [hG.out] at hBx hH
    obtain ⟨_,x0,x1,x2⟩:=id hBx
    by_cases hltg:g < G
    ·have hRY:=hL.right
     rw [← hLg] at pg
     have hA:=cast_c pg pn pw (errX_fit hRY.err) (n:Int) (g:Int) true ByteArray.empty (by simp)
     have hnx:=hsB.out n g
     rw [hY.out,roundS_do,hLg] at hnx
     rw [hLg,hG.out] at hA
     obtain ⟨r,hr⟩:∃ r,castR Y (n:Int) (g:Int) true ByteArray.empty = r:=⟨_,rfl⟩
     rw [hr] at hA hnx
     clear hr hL hRY pg pn pw hLY
     replace hLg:=Lib.hid hLg
     by_cases hh:hasB X.groups g n = true
     ·rw [if_pos hh] at hnx
      rw [hh] at hH
      have hbd:=hSt.out n (g + 1) hlt (by omega)
      rw [hnx] at hbd
      replace hh:=Lib.hid hh
      replace hnx:=Lib.hid hnx
      replace hbd:=Lib.hid hbd
      replace hA:=Lib.hid hA
      go_wp2_with fail
      refine hH.mono ?_
      rintro e w2 ⟨rfl,rfl⟩
      have hA:=hA.out
      clear hH
      go_wp2_with fail
      refine hA.mono ?_
      rintro e w3 ⟨gv3,nv3,wv3,S3,rfl,hO3,hS3,b3⟩
      obtain ⟨pg,pn,pw⟩:=hO3.parts
      obtain ⟨_,ga3,gcap3,rfl,_⟩:=pg.open
      obtain ⟨_,na3,ncap3,rfl,_⟩:=pn.form
      obtain ⟨_,wa3,wcap3,rfl,_⟩:=pw.form
      clear pg pn pw
      have b4:=below_trans b3 (below_a1 w3 (.cells #[.slice ga3 r.2.groups.length gcap3, .slice na3 r.2.nodes.length ncap3, .slice wa3 r.2.wires.length wcap3] 35))
      have hO4:=hO3.keep (w':=w3.alloc (.cells #[.slice ga3 r.2.groups.length gcap3, .slice na3 r.2.nodes.length ncap3, .slice wa3 r.2.wires.length wcap3] 35)) (fun k hk=>Go.Deep.blk_alloc_lt _ _ _ (hS3 k hk).2)
      have hS4:∀ k,S3 k → wr.heap.size ≤ k ∧ k < (w3.alloc (.cells #[.slice ga3 r.2.groups.length gcap3, .slice na3 r.2.nodes.length ncap3, .slice wa3 r.2.wires.length wcap3] 35)).heap.size:=fun k hk=>by have h:=hS3 k hk;rw [World.size_alloc];exact ⟨h.1,by omega⟩
      have hQb:=OBox.new w3 35 (.slice ga3 r.2.groups.length gcap3) (.slice na3 r.2.nodes.length ncap3) (.slice wa3 r.2.wires.length wcap3)
      clear x0 x1 x2 hA
      go_upto_region 9 with fail
      generalize w3.alloc (.cells #[.slice ga3 r.2.groups.length gcap3, .slice na3 r.2.nodes.length ncap3, .slice wa3 r.2.wires.length wcap3] 35) = w4 at *
      clear hO3 hS3 b3
      have hT:TwoBox w wr:=⟨⟨_,_,_,hBx⟩,hRx,hbw⟩
      have hBx4:=hBx.keep (b4.block _ hBx.lt)
      have hRx4:=hRx.keep (b4.block _ hRx.lt)
      have hb4:=below_trans hbw b4
      by_cases he:r.1 = 0
      ·have hne:(r.1 != 0) = false:=by simpa using he
       have hN:=(hT.next b4 hO4 hS4).rd
       have hnx2:rdB X n (g + 1) = (0,r.2):=by rw [hnx.out];exact Prod.ext he rfl
       replace hnx2:=Lib.hid hnx2
       replace he:=Lib.hid he
       replace hN:=Lib.hid hN
       obtain ⟨hf0,hf1,hf2,x0,x1,x2⟩:=hBx4.all
       obtain ⟨_,y0,y1,y2⟩:=id hQb
       go_wp2_with fail
       go_roundw
       case rel=>exact ⟨g + 1,by omega,by go_num,r.2,hnx2,hN.out⟩
       case measure=>simp [intOf];omega
      ·have hne:(r.1 != 0) = true:=by simpa using he
       have hP2:=hP.out
       rw [hRbd.out (by rw [hbd.out he];exact he),hbd.out he] at hP2
       replace hP2:=Lib.hid hP2
       replace he:=Lib.hid he
       obtain ⟨e0,he0⟩:∃ e0,r.1 = e0:=⟨_,rfl⟩
       rw [he0] at hP2 hne ⊢
       clear he0
       obtain ⟨hf0,hf1,hf2,z0,z1,z2⟩:=hRx4.all
       obtain ⟨f0,f1,f2⟩:=hRx4.put3 (.slice none 0 0) (.slice none 0 0) (.slice none 0 0)
       go_wp2_with ((with_reducible refine bodyPost_ret (v:=.tuple #[.agg #[.slice none 0 0, .slice none 0 0, .slice none 0 0], .int .i64 0, .int .i64 e0]) ?_ rfl ?_);(focus (simp [results,Tryz.f63];go_simp)))
       rw [← hP2.out]
       exact WPost3.none (set3_below hb4 (by omega))
     ·have hh:hasB X.groups g n = false:=by simpa using hh
      rw [if_neg (by rw [hh];simp)] at hnx
      rw [hh] at hH
      replace hh:=Lib.hid hh
      replace hnx:=Lib.hid hnx
      clear hA
      go_wp2_with fail
      refine hH.mono ?_
      rintro e w2 ⟨rfl,rfl⟩
      clear hH
      go_wp2_with fail
      go_roundw
      case rel=>exact ⟨g + 1,by omega,by go_num,Y,hnx,hSt0⟩
      case measure=>simp [intOf];omega
    ·obtain rfl:g = G:=by omega
     have hn:=hsA.out n
     rw [hY.out] at hn
     clear hH hL hLY pg pn pw
     replace hLg:=Lib.hid hLg
     replace hn:=Lib.hid hn
     go_wp2_with fail
     go_roundw
     case rel=>exact ⟨n + 1,by omega,by go_num,Y,hn,hSt0⟩
     case measure=>simp [intOf];omega
  ·obtain rfl:n = K:=by omega
   have hrc:roundC X = (0,Y):=hZ.out.trans hY.out
   have hP2:=hP.out
   rw [hRo.out Y hrc] at hP2
   have hD:=drain_c pg pn pw hL.right
   obtain ⟨r,hr⟩:∃ r,drainR Y = r:=⟨_,rfl⟩
   rw [hr] at hD hP2
   obtain ⟨_,na2,ncap2,rfl,_⟩:=pn.form
   obtain ⟨_,ga2,gcap2,rfl,_⟩:=pg.open
   obtain ⟨_,wa2,wcap2,rfl,_⟩:=pw.form
   rw [hLl] at hBx hD
   clear hrc hL hr hLY pg pn pw hP
   have hP:=Lib.hid hP2
   replace hLl:=Lib.hid hLl
   replace hLg:=Lib.hid hLg
   obtain ⟨_,x0,x1,x2⟩:=id hBx
   go_wp2_with fail
   refine (hD).mono ?_
   rintro e w2 ⟨gv2,nv2,wv2,S2,rfl,hO2,hS2,hb2⟩
   obtain ⟨pg,pn,pw⟩:=hO2.parts
   obtain ⟨_,ga2,gcap2,rfl,_⟩:=pg.open
   obtain ⟨_,na2,ncap2,rfl,_⟩:=pn.form
   obtain ⟨_,wa2,wcap2,rfl,_⟩:=pw.form
   clear pg pn pw
   have hR2:=hRx.keep (hb2.block _ hRx.lt)
   have hlt2:=hRx.lt
   have hbF:=below_trans hbw hb2
   replace hS2:=Lib.hid hS2
   obtain ⟨hf0,hf1,hf2,z0,z1,z2⟩:=hR2.all
   obtain ⟨f0,f1,f2⟩:=hR2.put3 (.slice ga2 r.2.2.groups.length gcap2) (.slice na2 r.2.2.nodes.length ncap2) (.slice wa2 r.2.2.wires.length wcap2)
   go_wp2_with ((with_reducible refine bodyPost_ret (v:=.tuple #[.agg #[.slice ga2 r.2.2.groups.length gcap2, .slice na2 r.2.2.nodes.length ncap2, .slice wa2 r.2.2.wires.length wcap2], .int .i64 r.2.1, .int .i64 r.1]) ?_ rfl ?_);(focus (simp [results,Tryz.f63];go_simp)))
   rw [← hP.out]
   exact WPost3.fin hO2 hS2.out hlt2 (by omega) hbF rfl rfl
set_option maxHeartbeats 2000000 in
theorem DrainOf_c {w:World} {v:Value} {X:Wd} (h:WorldAt w v X):Calls Tryz.prog 62 #[v] w (WPost3 w (drainF X)):=by
 have hW0:=h
 obtain ⟨gv,nv,wv,rfl,hg,hn,hw⟩:=h
 obtain ⟨hnl,na,ncap,rfl,hnc⟩:=hn.form
 obtain ⟨hwl,wa,wcap,rfl,hwc⟩:=hw.form
 obtain ⟨hgl,ga,gcap,rfl,_⟩:=hg.open
 obtain ⟨wA,hE,hA,hB,hRb⟩:=boxes2 w (.slice ga X.groups.length gcap) (.slice na X.nodes.length ncap) (.slice wa X.wires.length wcap) 35
 have hR:drainF X = drainF X:=rfl
 conv at hR=>rhs;unfold drainF
 generalize drainF X = r at *
 obtain ⟨P,hP⟩:∃ P,WPost3 w r = P:=⟨_,rfl⟩
 rw [hP]
 replace hP:=Lib.hid hP
 go_enter Tryz.func62,Tryz.ntmps62
 go_upto_region 1 with fail
 rw [hE.out]
 clear hE
 obtain ⟨_,b0,b1,b2⟩:=id hB
 have hRl:=hRb.lt
 have hE1:=WorldError_c (hW0.below hA)
 by_cases he:errX X = 0
 ·have hC:=fun o (h:Below w.heap.size w o)=>drain_c (hg.below h) (hn.below h) (hw.below h) (right_of he)
  rw [if_pos he] at hR
  rw [← hR] at hC
  rw [he] at hE1
  clear he hR
  replace hC:=Lib.hid hC
  go_wp2_with fail
  refine hE1.mono ?_
  rintro e w1 ⟨rfl,hb1⟩
  clear b0 b1 b2 hE1
  have hR1:=hRb.keep (hb1.block _ hRb.lt)
  have hB1:=hB.keep (hb1.block _ hB.lt)
  have hA1:=below_trans hA hb1
  have hC1:=hC.out w1 hA1
  clear hC
  obtain ⟨_,x0,x1,x2⟩:=id hB1
  go_wp2_with fail
  refine (hC1).mono ?_
  rintro e w2 ⟨gv2,nv2,wv2,S2,rfl,hO2,hS2,hb2⟩
  obtain ⟨pg,pn,pw⟩:=hO2.parts
  obtain ⟨_,ga2,gcap2,rfl,_⟩:=pg.open
  obtain ⟨_,na2,ncap2,rfl,_⟩:=pn.form
  obtain ⟨_,wa2,wcap2,rfl,_⟩:=pw.form
  clear pg pn pw
  have hR2:=hR1.keep (hb2.block _ hR1.lt)
  have hlt2:=hR1.lt
  have hbF:=below_trans hA1 hb2
  replace hS2:=Lib.hid hS2
  obtain ⟨hf0,hf1,hf2,z0,z1,z2⟩:=hR2.all
  obtain ⟨f0,f1,f2⟩:=hR2.put3 (.slice ga2 r.2.2.groups.length gcap2) (.slice na2 r.2.2.nodes.length ncap2) (.slice wa2 r.2.2.wires.length wcap2)
  go_wp2_with ((with_reducible refine bodyPost_ret (v:=.tuple #[.agg #[.slice ga2 r.2.2.groups.length gcap2, .slice na2 r.2.2.nodes.length ncap2, .slice wa2 r.2.2.wires.length wcap2], .int .i64 r.2.1, .int .i64 r.1]) ?_ rfl ?_);(focus (simp [results,Tryz.f62];go_simp)))
  rw [← hP.out]
  exact WPost3.fin hO2 hS2.out hlt2 (by omega) hbF rfl rfl
 ·rw [if_neg he] at hR
  subst hR
  generalize errX X = e0 at *
  have hne:(e0 != 0) = true:=by simpa using he
  replace he:=Lib.hid he
  go_wp2_with fail
  refine hE1.mono ?_
  rintro e w1 ⟨rfl,hb1⟩
  have hR1:=hRb.keep (hb1.block _ hRb.lt)
  have hf0:=hR1.1.frozen 0
  have hf1:=hR1.1.frozen 1
  have hf2:=hR1.1.frozen 2
  have hA1:=below_trans hA hb1
  obtain ⟨_,z0,z1,z2⟩:=id hR1
  obtain ⟨f0,f1,f2⟩:=hR1.put3 (.slice none 0 0) (.slice none 0 0) (.slice none 0 0)
  go_wp2_with ((with_reducible refine bodyPost_ret (v:=.tuple #[.agg #[.slice none 0 0, .slice none 0 0, .slice none 0 0], .int .i64 0, .int .i64 e0]) ?_ rfl ?_);(focus (simp [results,Tryz.f62];go_simp)))
  rw [← hP.out]
  exact WPost3.none (set3_below hA1 (by omega))
end Go.Proofs.YtnalakhelicjcaaGreatDoor
set_option maxRecDepth 100000
namespace Go.Proofs.YtnalakhelicjcaaGreatDoor
open Go.RowKit Go.Shelf Go.BigFrame
def CalmSt (w wr:World) (B:Nat) (Y:Wd):Prop:=
 ∃ (gv nv wv:Value) (S:Nat → Prop),OWd false wr S gv nv wv Y ∧ OBox wr B 35 gv nv wv ∧ OBox wr (w.heap.size + 1) 35 (.slice none 0 0) (.slice none 0 0) (.slice none 0 0) ∧ Below w.heap.size w wr ∧ ∀ c,S c → w.heap.size + 2 ≤ c ∧ c < wr.heap.size ∧ c ≠ B
theorem CalmSt.next {w wr w2:World} {B:Nat} {Y Z:Wd} {gv nv wv:Value} {S:Nat → Prop} (h:CalmSt w wr B Y) (hB:w.heap.size + 2 ≤ B) (hb:Below wr.heap.size wr w2) (hO:OWd false w2 S gv nv wv Z) (hS:∀ c,S c → wr.heap.size ≤ c ∧ c < w2.heap.size) :
  CalmSt w (((w2.setCell ⟨B,0,none⟩ gv).setCell ⟨B,1,none⟩ nv).setCell ⟨B,2,none⟩ wv) B Z:=by
 obtain ⟨_,_,_,_,_,h2,h3,h4,_⟩:=h
 have hl:=h2.lt
 have hl3:=h3.lt
 have hsz:=hb.size
 have key:∀ c:Nat,c ≠ B → (((w2.setCell ⟨B,0,none⟩ gv).setCell ⟨B,1,none⟩ nv).setCell ⟨B,2,none⟩ wv).heap[c]? = w2.heap[c]?:=fun c hc=>by
  rw [set3_blk hc]
 refine ⟨gv,nv,wv,S,hO.keep (fun c hc=>key c (by have:=hS c hc;omega)),(((h2.keep (hb.block _ hl)).set0 gv).set1 nv).set2 wv,(h3.keep (hb.block _ hl3)).keep (key _ (by omega)), ?_,fun c hc=>?_⟩
 ·exact set3_below (h4.trans (hb.mono (by omega))) (by omega)
 ·rw [set3_size]
  have:=hS c hc
  omega
set_option maxHeartbeats 4000000 in
theorem CalmOf_c {w:World} {v:Value} {X:Wd} (h:WorldAt w v X):Calls Tryz.prog 41 #[v] w (WPost w (calmF X)):=by
 have hW0:=h
 obtain ⟨gv,nv,wv,rfl,hg,hn,hw⟩:=h
 obtain ⟨hnl,na,ncap,rfl,hnc⟩:=hn.form
 obtain ⟨hwl,wa,wcap,rfl,hwc⟩:=hw.form
 obtain ⟨hgl,ga,gcap,rfl,_⟩:=hg.open
 obtain ⟨wA,hE,hA,hB,hRb⟩:=boxes2 w (.slice ga X.groups.length gcap) (.slice na X.nodes.length ncap) (.slice wa X.wires.length wcap) 35
 obtain ⟨P,hP⟩:∃ P,WPost w (calmF X) = P:=⟨_,rfl⟩
 rw [hP]
 rw [calmF_of] at hP
 replace hP:=Lib.hid hP
 have hC:=fun o (h:Below w.heap.size w o)=>DrainOf_c (hW0.below h)
 have hRr:=fun h=>(drainF_right (X:=X) h).right
 generalize drainF X = r at *
 replace hRr:=Lib.hid hRr
 go_enter Tryz.func41,Tryz.ntmps41
 go_upto_region 1 with fail
 rw [hE.out]
 clear hE
 obtain ⟨_,b0,b1,b2⟩:=id hB
 replace hC:=hC wA hA
 have hsA:=hRb.lt
 go_wp2_with fail
 refine hC.mono ?_
 rintro e w3 ⟨gv3,nv3,wv3,S3,rfl,hO3,hS3,b3⟩
 obtain ⟨pg,pn,pw⟩:=hO3.parts
 obtain ⟨_,ga3,gcap3,rfl,_⟩:=pg.open
 obtain ⟨_,na3,ncap3,rfl,_⟩:=pn.form
 obtain ⟨_,wa3,wcap3,rfl,_⟩:=pw.form
 clear pg pn pw
 have b4:=below_trans b3 (below_a1 w3 (.cells #[.slice ga3 r.2.2.groups.length gcap3, .slice na3 r.2.2.nodes.length ncap3, .slice wa3 r.2.2.wires.length wcap3] 35))
 have hs3:=b3.size
 have hSt:CalmSt w (w3.alloc (.cells #[.slice ga3 r.2.2.groups.length gcap3, .slice na3 r.2.2.nodes.length ncap3, .slice wa3 r.2.2.wires.length wcap3] 35)) w3.heap.size r.2.2:=
  ⟨_,_,_,S3,hO3.keep (fun k hk=>Go.Deep.blk_alloc_lt _ _ _ (hS3 k hk).2),OBox.new _ _ _ _ _,hRb.keep (b4.block _ hRb.lt),below_trans hA b4,fun c hc=>by have:=hS3 c hc;rw [World.size_alloc];omega⟩
 have hB2:w.heap.size + 2 ≤ w3.heap.size:=by omega
 clear b0 b1 b2 hC hB hRb hA hO3 hS3 b3 b4 hs3 hsA
 obtain ⟨B,hBe⟩:∃ B,w3.heap.size = B:=⟨_,rfl⟩
 go_upto_region 2 with fail
 rw [hBe] at hSt hB2
 replace hBe:=Lib.hid hBe
 generalize w3.alloc (.cells #[.slice ga3 r.2.2.groups.length gcap3, .slice na3 r.2.2.nodes.length ncap3, .slice wa3 r.2.2.wires.length wcap3] 35) = w4 at *
 go_wp2_with fail
 go_loopw [6,7] (fun s i wr=>∃ k:Nat,k ≤ 4 ∧ i = .int .i64 k ∧ ∃ q:Int × Int × Wd,s = .int .i64 q.1 ∧ Hid (calmN 4 r = calmN (4 - k) q) ∧ Hid (q.1 = 0 → Right q.2.2) ∧ CalmSt w wr B q.2.2) (fun _ i _=>4 - (intOf i).toNat)
 case atStart=>exact ⟨0,by omega,rfl,r,rfl,Lib.hid rfl,hRr,hSt⟩
 case round =>
  clear hSt
  obtain ⟨k,hk,rfl,q,rfl,hY,hRY,hSt⟩:=hrel
  obtain ⟨gvY,nvY,wvY,S,hO,hBx,hRx,hbw,hS⟩:=id hSt
  obtain ⟨pg,pn,pw⟩:=hO.parts
  obtain ⟨_,na2,ncap2,rfl,_⟩:=pn.form
  obtain ⟨_,ga2,gcap2,rfl,_⟩:=pg.open
  obtain ⟨_,wa2,wcap2,rfl,_⟩:=pw.form
  replace hS:=Lib.hid hS
  by_cases he:q.1 = 0
  ·have hq:q = (0,q.2.1,q.2.2):=by rw [← he]
   have hne:(q.1 == 0) = true:=by simpa using he
   have hne2:(q.1 != 0) = false:=by simpa using he
   have hR:=hRY.out he
   by_cases hlt:k < 4
   ·have hY2:=hY.out
    rw [hq,show 4 - k = (4 - (k + 1)) + 1 by omega,calmN_next] at hY2
    have hD:=round_c pg pn pw hR
    have hL:=fun h=>(roundR_like (X:=q.2.2) hR h).1.right
    obtain ⟨p,hp⟩:∃ p,roundR q.2.2 = p:=⟨_,rfl⟩
    rw [hp] at hD hL hY2
    clear hp pg pn pw hY hR
    replace hY2:=Lib.hid hY2
    replace hL:=Lib.hid hL
    replace he:=Lib.hid he
    replace hq:=Lib.hid hq
    obtain ⟨_,x0,x1,x2⟩:=id hBx
    go_wp2_with fail
    refine hD.mono ?_
    rintro e w5 ⟨gv5,nv5,wv5,S5,rfl,hO5,hS5,b5⟩
    obtain ⟨pg,pn,pw⟩:=hO5.parts
    obtain ⟨_,ga5,gcap5,rfl,_⟩:=pg.open
    obtain ⟨_,na5,ncap5,rfl,_⟩:=pn.form
    obtain ⟨_,wa5,wcap5,rfl,_⟩:=pw.form
    clear pg pn pw
    have hN:=hSt.next hB2 b5 hO5 hS5
    have hBx5:=hBx.keep (b5.block _ hBx.lt)
    clear hD x0 x1 x2
    replace hN:=Lib.hid hN
    obtain ⟨hf0,hf1,hf2,x0,x1,x2⟩:=hBx5.all
    go_wp2_with fail
    go_roundw
    case rel=>exact ⟨k + 1,by omega,by go_num,p,rfl,hY2,hL,hN.out⟩
    case measure=>simp [intOf];omega
   ·obtain rfl:k = 4:=by omega
    have hP2:=hP.out
    have hY2:=hY.out
    change calmN 4 r = q at hY2
    rw [hY2,if_pos he] at hP2
    clear hY2 pg pn pw hR
    replace hP2:=Lib.hid hP2
    replace he:=Lib.hid he
    replace hq:=Lib.hid hq
    have hf0:=hRx.1.frozen 0
    have hf1:=hRx.1.frozen 1
    have hf2:=hRx.1.frozen 2
    obtain ⟨_,x0,x1,x2⟩:=id hBx
    obtain ⟨_,z0,z1,z2⟩:=id hRx
    obtain ⟨f0,f1,f2⟩:=hRx.put3 (.slice ga2 q.2.2.groups.length gcap2) (.slice na2 q.2.2.nodes.length ncap2) (.slice wa2 q.2.2.wires.length wcap2)
    go_wp2_with ((with_reducible refine bodyPost_ret (v:=.tuple #[.agg #[.slice ga2 q.2.2.groups.length gcap2, .slice na2 q.2.2.nodes.length ncap2, .slice wa2 q.2.2.wires.length wcap2], .int .i64 0]) ?_ rfl ?_);(focus (simp [results,Tryz.f41];go_simp)))
    rw [← hP2.out]
    refine ⟨_,_,_,S,rfl,hO.keep (fun c hc=>?_),fun c hc=>?_,set3_below hbw (by omega)⟩
    ·have h:=(hS.out c hc).1
     rw [set3_blk (by show c ≠ w.heap.size + 1;omega)]
    ·have h:=hS.out c hc
     rw [set3_size]
     exact ⟨by omega,h.2.1⟩
  ·have hne:(q.1 == 0) = false:=by simpa using he
   have hne2:(q.1 != 0) = true:=by simpa using he
   have hP2:=hP.out
   rw [hY.out,calmN_bad he,if_neg he] at hP2
   clear pg pn pw hO
   replace hP2:=Lib.hid hP2
   replace he:=Lib.hid he
   obtain ⟨e0,he0⟩:∃ e0,q.1 = e0:=⟨_,rfl⟩
   rw [he0] at hP2 hne hne2 ⊢
   replace he0:=Lib.hid he0
   have hf0:=hRx.1.frozen 0
   have hf1:=hRx.1.frozen 1
   have hf2:=hRx.1.frozen 2
   obtain ⟨_,x0,x1,x2⟩:=id hBx
   obtain ⟨_,z0,z1,z2⟩:=id hRx
   obtain ⟨f0,f1,f2⟩:=hRx.put3 (.slice none 0 0) (.slice none 0 0) (.slice none 0 0)
   by_cases hlt:k < 4
   all_goals
    go_wp2_with ((with_reducible refine bodyPost_ret (v:=.tuple #[.agg #[.slice none 0 0, .slice none 0 0, .slice none 0 0], .int .i64 e0]) ?_ rfl ?_);(focus (simp [results,Tryz.f41];go_simp)))
    rw [← hP2.out]
    exact WPost.none (set3_below hbw (by omega))
end Go.Proofs.YtnalakhelicjcaaGreatDoor
