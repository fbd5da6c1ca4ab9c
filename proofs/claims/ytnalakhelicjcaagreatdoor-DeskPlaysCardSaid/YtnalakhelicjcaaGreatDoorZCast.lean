/-
  Worlds, the document's answer: a message is cast.
-/
import Derived.Test.YtnalakhelicjcaaGreatDoorZKC
set_option maxRecDepth 100000
namespace Go.Proofs.YtnalakhelicjcaaGreatDoor
open Go.RowKit Go.Shelf Go.BigFrame
set_option maxHeartbeats 8000000 in
theorem cast_c {w:World} {gv nv wv:Value} {X:Wd} (hg:Ints w gv X.groups) (hn:Nodes w nv X.nodes) (hw:Wires w wv X.wires) (hX:Fit X) (n g:Int) (null:Bool) (body:ByteArray) (hbody:body.size ≤ 140737488351232) :
  Calls Tryz.prog 65 #[.agg #[gv,nv,wv], .int .i64 n, .int .i64 g, .bool null, .string body] w (WPost w (castR X n g null body)):=by
 obtain ⟨hnl,na,ncap,rfl,hnc⟩:=hn.form
 obtain ⟨hwl,wa,wcap,rfl,hwc⟩:=hw.form
 obtain ⟨hgl,ga,gcap,rfl,_⟩:=hg.open
 have hn4:=hX.nodes
 obtain ⟨i0,hi0,hz0,hz1,hz2⟩:=info_parts infoCMsg
 have hg3:=hX.groups
 have hA:=below_a2 w (.cells #[.slice ga X.groups.length gcap, .slice na X.nodes.length ncap, .slice wa X.wires.length wcap] 35) (.cells #[.slice none 0 0, .slice none 0 0, .slice none 0 0] 35)
 have hB:=(OBox.new w 35 (.slice ga X.groups.length gcap) (.slice na X.nodes.length ncap) (.slice wa X.wires.length wcap)).keep (Go.Deep.blk_alloc_lt _ (.cells #[.slice none 0 0, .slice none 0 0, .slice none 0 0] 35) _ (by rw [World.size_alloc];omega))
 have hRb:=OBox.new (w.alloc (.cells #[.slice ga X.groups.length gcap, .slice na X.nodes.length ncap, .slice wa X.wires.length wcap] 35)) 35 (.slice none 0 0) (.slice none 0 0) (.slice none 0 0)
 have hsA:((w.alloc (.cells #[.slice ga X.groups.length gcap, .slice na X.nodes.length ncap, .slice wa X.wires.length wcap] 35)).alloc (.cells #[.slice none 0 0, .slice none 0 0, .slice none 0 0] 35)).heap.size = w.heap.size + 2:=by rw [World.size_alloc,World.size_alloc]
 rw [World.size_alloc] at hRb
 have hW1:=fun o=>within_c o n 0 ((X.nodes.length:Int) - 1)
 have hW2:=fun o=>within_c o g 0 ((X.groups.length:Int) - 1)
 have hR:castR X n g null body = castR X n g null body:=rfl
 conv at hR=>rhs;unfold castR
 generalize castR X n g null body = r at *
 obtain ⟨P,hP⟩:∃ P,WPost w r = P:=⟨_,rfl⟩
 rw [hP]
 replace hP:=Lib.hid hP
 replace hX:=Lib.hid hX
 go_enter Tryz.func65,Tryz.ntmps65
 go_upto_region 1 with fail
 generalize (w.alloc (.cells #[.slice ga X.groups.length gcap, .slice na X.nodes.length ncap, .slice wa X.wires.length wcap] 35)).alloc (.cells #[.slice none 0 0, .slice none 0 0, .slice none 0 0] 35) = wA at *
 obtain ⟨hBi,b0,b1,b2⟩:=hB
 have hRK:=hRb
 have hf0:=hRK.1.frozen 0
 have hf1:=hRK.1.frozen 1
 have hf2:=hRK.1.frozen 2
 obtain ⟨_,z0,z1,z2⟩:=hRb
 cases hin1:inB n 0 ((X.nodes.length:Int) - 1)
 ·rw [hin1,Bool.false_and,if_neg (by simp)] at hR
  subst hR
  rw [hin1] at hW1
  clear hin1
  obtain ⟨f0,f1,f2⟩:=hRK.put3 (.slice none 0 0) (.slice none 0 0) (.slice none 0 0)
  go_wp2_with (first
   |(go_at_call 39;refine (hW1 _).mono ?_;clear hW1;rintro e w' ⟨rfl,rfl⟩)
   |((with_reducible refine bodyPost_ret (v:=.tuple #[.agg #[.slice none 0 0, .slice none 0 0, .slice none 0 0], .int .i64 4]) ?_ rfl ?_);(focus (simp [results,Tryz.f65];go_simp))))
  rw [← hP.out]
  exact WPost.none (set3_below hA (by omega))
 cases hin2:inB g 0 ((X.groups.length:Int) - 1)
 ·rw [hin1,hin2,Bool.and_false,if_neg (by simp)] at hR
  subst hR
  rw [hin1] at hW1
  rw [hin2] at hW2
  clear hin1 hin2
  obtain ⟨f0,f1,f2⟩:=hRK.put3 (.slice none 0 0) (.slice none 0 0) (.slice none 0 0)
  go_wp2_with (first
   |(go_at_call 39;refine (hW1 _).mono ?_;clear hW1;rintro e w' ⟨rfl,rfl⟩)
   |(go_at_call 39;refine (hW2 _).mono ?_;clear hW2;rintro e w' ⟨rfl,rfl⟩)
   |((with_reducible refine bodyPost_ret (v:=.tuple #[.agg #[.slice none 0 0, .slice none 0 0, .slice none 0 0], .int .i64 4]) ?_ rfl ?_);(focus (simp [results,Tryz.f65];go_simp))))
  rw [← hP.out]
  exact WPost.none (set3_below hA (by omega))
 rw [hin1,hin2,Bool.and_self,if_pos rfl] at hR
 have hnr:0 ≤ n ∧ n < X.nodes.length:=by simp only [inB,Bool.and_eq_true,decide_eq_true_eq] at hin1;omega
 obtain ⟨n,rfl⟩:=Int.eq_ofNat_of_zero_le hnr.1
 have hnl2:n < X.nodes.length:=by omega
 simp only [Int.toNat_natCast] at hR
 have hgr:0 ≤ g ∧ g < X.groups.length:=by simp only [inB,Bool.and_eq_true,decide_eq_true_eq] at hin2;omega
 rw [hin1] at hW1
 rw [hin2] at hW2
 clear hin1 hin2
 have hH:=fun o (h:Ints o (.slice ga X.groups.length gcap) X.groups)=>HasOf_c h g n
 cases hh:hasB X.groups g n
 ·rw [hh,if_neg (by simp)] at hR
  subst hR
  have hH2:=hH wA (hg.below hA)
  rw [hh] at hH2
  clear hh hH
  obtain ⟨f0,f1,f2⟩:=hRK.put3 (.slice none 0 0) (.slice none 0 0) (.slice none 0 0)
  go_wp2_with (first
   |(go_at_call 39;refine (hW1 _).mono ?_;clear hW1;rintro e w' ⟨rfl,rfl⟩)
   |(go_at_call 39;refine (hW2 _).mono ?_;clear hW2;rintro e w' ⟨rfl,rfl⟩)
   |(go_at_call 68;refine hH2.mono ?_;clear hH2;rintro e w' ⟨rfl,rfl⟩)
   |((with_reducible refine bodyPost_ret (v:=.tuple #[.agg #[.slice none 0 0, .slice none 0 0, .slice none 0 0], .int .i64 5]) ?_ rfl ?_);(focus (simp [results,Tryz.f65];go_simp))))
  rw [← hP.out]
  exact WPost.none (set3_below hA (by omega))
 rw [hh,if_pos rfl] at hR
 have hH2:=hH wA (hg.below hA)
 rw [hh] at hH2
 clear hh hH
 by_cases hb8:8 < (body.size:Int)
 ·rw [if_pos hb8] at hR
  subst hR
  have hb81:decide ((8:Int) < (body.size:Int)) = true:=decide_eq_true hb8
  clear hb8
  obtain ⟨f0,f1,f2⟩:=hRK.put3 (.slice none 0 0) (.slice none 0 0) (.slice none 0 0)
  go_wp2_with (first
   |(go_at_call 39;refine (hW1 _).mono ?_;clear hW1;rintro e w' ⟨rfl,rfl⟩)
   |(go_at_call 39;refine (hW2 _).mono ?_;clear hW2;rintro e w' ⟨rfl,rfl⟩)
   |(go_at_call 68;refine hH2.mono ?_;clear hH2;rintro e w' ⟨rfl,rfl⟩)
   |((with_reducible refine bodyPost_ret (v:=.tuple #[.agg #[.slice none 0 0, .slice none 0 0, .slice none 0 0], .int .i64 1]) ?_ rfl ?_);(focus (simp [results,Tryz.f65];go_simp))))
  rw [← hP.out]
  exact WPost.none (set3_below hA (by omega))
 rw [if_neg hb8] at hR
 have hb81:decide ((8:Int) < (body.size:Int)) = false:=decide_eq_false hb8
 clear hb8
 obtain ⟨bn,on,cn,lv,hv,tv,e1,_,k0,_,_,_,hc64,_,_,_⟩:=hn.at hnl2
 cases e1
 have k0:=(hA.cell (p:=⟨bn,on + n * 4,none⟩) (cell_lt k0)).trans k0
 obtain ⟨ck,hck⟩:∃ ck,(X.nodes.getD n N.zero).clock = ck:=⟨_,rfl⟩
 rw [hck] at k0 hc64 hR
 have hclk:=hX.out.clocks _ (getD_mem X.nodes N.zero hnl2)
 rw [hck] at hclk
 replace hck:=Lib.hid hck
 by_cases hc1:ck = 1048576
 ·rw [if_pos hc1] at hR
  subst hR
  subst hc1
  obtain ⟨f0,f1,f2⟩:=hRK.put3 (.slice none 0 0) (.slice none 0 0) (.slice none 0 0)
  go_wp2_with (first
   |(go_at_call 39;refine (hW1 _).mono ?_;clear hW1;rintro e w' ⟨rfl,rfl⟩)
   |(go_at_call 39;refine (hW2 _).mono ?_;clear hW2;rintro e w' ⟨rfl,rfl⟩)
   |(go_at_call 68;refine hH2.mono ?_;clear hH2;rintro e w' ⟨rfl,rfl⟩)
   |((with_reducible refine bodyPost_ret (v:=.tuple #[.agg #[.slice none 0 0, .slice none 0 0, .slice none 0 0], .int .i64 3]) ?_ rfl ?_);(focus (simp [results,Tryz.f65];go_simp))))
  rw [← hP.out]
  exact WPost.none (set3_below hA (by omega))
 rw [if_neg hc1] at hR
 have hc2:(ck == 1048576) = false:=by simpa using hc1
 have hOwn:=OwnWorld_c (hg.below hA) (hn.below hA) (hw.below hA) hX.out.small
 replace hR:=Lib.hid hR
 go_wp2_with (first | (go_at_call 39;refine (hW1 _).mono ?_;clear hW1;rintro e w' ⟨rfl,rfl⟩) | (go_at_call 39;refine (hW2 _).mono ?_;clear hW2;rintro e w' ⟨rfl,rfl⟩) | (go_at_call 68;refine hH2.mono ?_;clear hH2;rintro e w' ⟨rfl,rfl⟩))
 refine hOwn.mono ?_
 rintro e w1 ⟨gv1,nv1,wv1,S1,rfl,hO1,hS1,hb1⟩
 obtain ⟨pg,pn,pw⟩:=hO1.parts
 obtain ⟨_,ga1,gcap1,rfl,_⟩:=pg.open
 obtain ⟨_,na1,ncap1,rfl,_⟩:=pn.form
 obtain ⟨_,wa1,wcap1,rfl,_⟩:=pw.form
 clear pg pn pw hOwn
 have hsA2:wA.heap.size ≤ w1.heap.size:=hb1.size
 have hRK1:=hRK.keep (hb1.block _ hRK.lt)
 have hA1:=below_trans hA hb1
 have hB1:=(show OBox wA w.heap.size 35 _ _ _ from ⟨hBi,b0,b1,b2⟩).keep (hb1.block _ (by omega))
 have hOB:=OBox.new w1 35 (.slice ga1 X.groups.length gcap1) (.slice na1 X.nodes.length ncap1) (.slice wa1 X.wires.length wcap1)
 have hbB:=below_a1 w1 (.cells #[.slice ga1 X.groups.length gcap1, .slice na1 X.nodes.length ncap1, .slice wa1 X.wires.length wcap1] 35)
 have hsB:(w1.alloc (.cells #[.slice ga1 X.groups.length gcap1, .slice na1 X.nodes.length ncap1, .slice wa1 X.wires.length wcap1] 35)).heap.size = w1.heap.size + 1:=World.size_alloc _ _
 clear b0 b1 b2 z0 z1 z2 hf0 hf1 hf2 k0
 go_upto_region 10 with fail
 generalize w1.alloc (.cells #[.slice ga1 X.groups.length gcap1, .slice na1 X.nodes.length ncap1, .slice wa1 X.wires.length wcap1] 35) = wB at *
 have hO2:=hO1.keep (w':=wB) (fun c hc=>hbB.block c (hS1 c hc).2)
 have hRK2:=hRK1.keep (hbB.block _ hRK1.lt)
 have hB2:=hB1.keep (hbB.block _ hB1.lt)
 have hA2:=below_trans hA1 hbB
 obtain ⟨gn,ncap2,lv2,hv2,tv2,Tl,Th,Tt,en,hnc2,hgS,hgl2,hgb,c0,c1,c2,c3,hI,hLo,hHo,hTo,sl,sh,st,d1,d2,d3,back⟩:=hO2.node_at hnl2
 cases en
 rw [hck.out] at c0
 have hgf:=hgb.frozen (n * 4)
 have hOBK:=hOB
 obtain ⟨_,o0,o1,o2⟩:=hOB
 go_upto_region 11 with fail
 have hBS:BlkSet wB (wB.setCell ⟨gn,n * 4,none⟩ (.int .i64 (ck + 1))) gn (n * 4) [.int .i64 (ck + 1),lv2,hv2,tv2]:=
  (BlkSet.same (w:=wB) (w':=wB) (cs:=[.int .i64 ck,lv2,hv2,tv2]) rfl (fun j hj=>by
   match j,hj with
   | 0,_=>exact c0
   | 1,_=>exact c1
   | 2,_=>exact c2
   | 3,_=>exact c3)).set hgb 0 (by simp) (by simp;omega) _
 have lC:∀ c,c ≠ gn → (wB.setCell ⟨gn,n * 4,none⟩ (.int .i64 (ck + 1))).heap[c]? = wB.heap[c]?:=fun c hc=>Go.Deep.blk_setCell_other _ _ _ _ hc
 have hsC:(wB.setCell ⟨gn,n * 4,none⟩ (.int .i64 (ck + 1))).heap.size = wB.heap.size:=Go.Deep.nblk_setCell _ _ _
 have hO3:OWd true (wB.setCell ⟨gn,n * 4,none⟩ (.int .i64 (ck + 1))) S1 (.slice ga1 X.groups.length gcap1) (.slice (some ⟨gn,0,none⟩) X.nodes.length ncap1) (.slice wa1 X.wires.length wcap1) (clockUp X n):=by
  have:=back _ (fun c=>Tl c ∨ Th c ∨ Tt c) _ { X.nodes.getD n N.zero with clock:=(X.nodes.getD n N.zero).clock + 1 } (fun c hc=>lC c hc.2.1) hBS rfl
   ⟨lv2,hv2,tv2,Tl,Th,Tt,by rw [hck.out],by show I64 ((X.nodes.getD n N.zero).clock + 1);rw [hck.out];unfold I64;omega,hLo.keep (fun c hc=>lC c (sl c hc).2),hHo.keep (fun c hc=>lC c (sh c hc).2),hTo.keep (fun c hc=>lC c (st c hc).2),fun _ h=>Or.inl h,fun _ h=>Or.inr (Or.inl h),fun _ h=>Or.inr (Or.inr h),d1,d2,d3⟩
   (fun c hc=>hc.imp id (fun h=>h.imp id Or.inl))
  exact this.mono (fun c hc=>hc.elim id (fun h=>h.elim (fun h=>(sl c h).1) (fun h=>h.elim (fun h=>(sh c h).1) (fun h=>(st c h).1))))
 have hF1:=clockUp_fit hX.out hnl2 (by rw [hck.out];exact hc1)
 have hX1g:(clockUp X n).groups = X.groups:=rfl
 have hX1n:(clockUp X n).nodes.length = X.nodes.length:=by simp [clockUp]
 have hX1w:(clockUp X n).wires.length = X.wires.length:=rfl
 have hc0C:(wB.setCell ⟨gn,n * 4,none⟩ (.int .i64 (ck + 1))).cell? ⟨gn,n * 4,none⟩ = some (.int .i64 (ck + 1)):=hgb.cell_set (by omega)
 have hgnS:gn < w1.heap.size:=(hS1 gn hgS).2
 have hOB3:=hOBK.keep (lC _ (by omega))
 have hRK3:=hRK2.keep (lC _ (by have:=(hS1 gn hgS).1;omega))
 have hB3:=hB2.keep (lC _ (by have:=(hS1 gn hgS).1;omega))
 have hA3:Below w.heap.size w (wB.setCell ⟨gn,n * 4,none⟩ (.int .i64 (ck + 1))):=below_setCell hA2 (by have:=(hS1 gn hgS).1;show w.heap.size ≤ gn;omega) _
 generalize wB.setCell ⟨gn,n * 4,none⟩ (.int .i64 (ck + 1)) = wC at *
 clear c0 c1 c2 c3 o0 o1 o2 hgf back hBS lC hLo hHo hTo hO2 hO1 hRK hRK1 hRK2 hB1 hB2 hA1 hA2 hOBK hbB hb1
 have hgl3:gn < wC.heap.size:=by omega
 have hOB3K:=hOB3
 obtain ⟨_,o0,o1,o2⟩:=hOB3
 have hob:=cell_lt o0
 dsimp only at hob
 go_upto_region 12 with fail
 have hMB:MsgBox (wC.alloc (.cells #[.int .i64 n, .int .i64 g, .int .i64 (ck + 1), .bool null, .string body] 96)) wC.heap.size ⟨n,g,ck + 1,null,body⟩:=MsgBox.new wC ⟨n,g,ck + 1,null,body⟩ 96
 have hbD:=below_a1 wC (.cells #[.int .i64 n, .int .i64 g, .int .i64 (ck + 1), .bool null, .string body] 96)
 have hsC2:wC.heap.size = w1.heap.size + 1:=by omega
 have hsD:(wC.alloc (.cells #[.int .i64 n, .int .i64 g, .int .i64 (ck + 1), .bool null, .string body] 96)).heap.size = w1.heap.size + 2:=by rw [World.size_alloc];omega
 rw [hsC2] at hMB
 generalize wC.alloc (.cells #[.int .i64 n, .int .i64 g, .int .i64 (ck + 1), .bool null, .string body] 96) = wD at *
 obtain ⟨m,hm⟩:∃ m:M,m = ⟨n,g,ck + 1,null,body⟩:=⟨_,rfl⟩
 have hmb:MsgBox wD (w1.heap.size + 1) m:=hm ▸ hMB
 have hO4:=hO3.keep (w':=wD) (fun c hc=>hbD.block c (by have:=hS1 c hc;omega))
 have hOB4:=hOB3K.keep (hbD.block _ hOB3K.lt)
 have hRK4:=hRK3.keep (hbD.block _ hRK3.lt)
 have hB4:=hB3.keep (hbD.block _ hB3.lt)
 have hA4:=below_trans hA3 hbD
 have hS4:∀ c,S1 c → wA.heap.size ≤ c ∧ c < w1.heap.size:=hS1
 have hRr:=Lib.hid (And.intro hR.out hck.out)
 clear hbD hO3 hOB3K hRK3 hB3 hA3 o0 o1 o2 hc0C hMB hgb hob
 have hwA2:wA.heap.size = w.heap.size + 2:=hsA
 clear hsA hsC hsB hsC2
 generalize hX1:clockUp X n = X1 at *
 replace hX1:=Lib.hid hX1
 replace hX1g:=Lib.hid hX1g
 replace hX1w:=Lib.hid hX1w
 replace hX1n:=Lib.hid hX1n
 have hmf:m.fits:=by rw [hm];exact ⟨by unfold I64;simp;omega,by unfold I64;simp;omega,by unfold I64;simp;omega,hbody⟩
 replace hm:=Lib.hid hm
 replace hF1:=Lib.hid hF1
 replace hsD:=Lib.hid hsD
 replace hwA2:=Lib.hid hwA2
 go_wp2_with fail
 go_loopw [14] (fun i wr=>∃ k:Nat,k ≤ X.nodes.length ∧ i = .int .i64 k ∧ ∃ Y S,Hid (castW X1 n g m k = (0,Y)) ∧ OWd true wr S (.slice ga1 X.groups.length gcap1) (.slice (some ⟨gn,0,none⟩) X.nodes.length ncap1) (.slice wa1 X.wires.length wcap1) Y ∧ (∀ c,S c → w.heap.size + 2 ≤ c ∧ c < wr.heap.size ∧ c ≠ w1.heap.size ∧ c ≠ w1.heap.size + 1) ∧
   OBox wr w.heap.size 35 (.slice ga X.groups.length gcap) (.slice (some ⟨bn,on,none⟩) X.nodes.length ncap) (.slice wa X.wires.length wcap) ∧ OBox wr (w.heap.size + 1) 35 (.slice none 0 0) (.slice none 0 0) (.slice none 0 0) ∧ OBox wr w1.heap.size 35 (.slice ga1 X.groups.length gcap1) (.slice (some ⟨gn,0,none⟩) X.nodes.length ncap1) (.slice wa1 X.wires.length wcap1) ∧
   MsgBox wr (w1.heap.size + 1) m ∧ Below w.heap.size w wr ∧ w1.heap.size + 2 ≤ wr.heap.size) (fun i _=>X.nodes.length - (intOf i).toNat)
 case atStart=>exact ⟨0,by omega,rfl,X1,S1,rfl,hO4,fun c hc=>by have:=hS4 c hc;have:=hsD.out;have:=hwA2.out;omega,hB4,hRK4,hOB4,hmb,hA4,by have:=hsD.out;omega⟩
 case round =>
  obtain ⟨k,hk,rfl,Y,S,hcw,hO,hS,hPB,hRB,hQB,hMb,hb,hsz⟩:=hrel
  obtain ⟨hFY,hYn,hYg⟩:=castW_fit hF1.out (g:=g) (m:=m) (n:=n) (k:=k) (by have:=hX1n.out;omega) (by have:=hX1n.out;omega)
  rw [hcw.out] at hFY hYn hYg
  dsimp only at hFY hYn hYg
  replace hYg:=Lib.hid (hYg.trans hX1g.out)
  have hYl:=Lib.hid ((congrArg List.length hYn).trans hX1n.out)
  replace hYn:=Lib.hid hYn
  replace hFY:=Lib.hid hFY
  have hgI:=hg.below hb
  obtain ⟨hQi,o0,o1,o2⟩:=hQB
  obtain ⟨hPi,p0,p1,p2⟩:=hPB
  obtain ⟨m0,m1,m2,m3,m4⟩:=hMb
  by_cases hlt:k < X.nodes.length
  ·have hRe:∀ e Z,e ≠ 0 → castW X1 n g m (k + 1) = (e,Z) → r = (e,Wd.none):=fun e Z he h=>by
    have h1:=hRr.out.1
    rw [← hm.out] at h1
    have h2:castW X1 n g m X.nodes.length = (e,Z):=by
     have:=castW_stop (X:=X1) (n:=n) (g:=g) (m:=m) (k:=k + 1) (by rw [h];exact he) (X.nodes.length - (k + 1))
     rw [show k + 1 + (X.nodes.length - (k + 1)) = X.nodes.length by omega] at this
     rw [this,h]
    rw [h1,h2,if_neg he]
   replace hRe:=Lib.hid hRe
   have hnx:=Lib.hid (castW_next hcw.out)
   have hf0:=hRB.1.frozen 0
   have hf1:=hRB.1.frozen 1
   have hf2:=hRB.1.frozen 2
   have hRBK:=hRB
   obtain ⟨hRi,z0,z1,z2⟩:=hRB
   have hRB:=hRBK
   have hrel0:castStep Y n g k m = (0,Y) → ∃ Y' S',Hid (castW X1 n g m (k + 1) = (0,Y')) ∧ OWd true wr S' (.slice ga1 X.groups.length gcap1) (.slice (some ⟨gn,0,none⟩) X.nodes.length ncap1) (.slice wa1 X.wires.length wcap1) Y' ∧ (∀ c,S' c → w.heap.size + 2 ≤ c ∧ c < wr.heap.size ∧ c ≠ w1.heap.size ∧ c ≠ w1.heap.size + 1) ∧
     OBox wr w.heap.size 35 (.slice ga X.groups.length gcap) (.slice (some ⟨bn,on,none⟩) X.nodes.length ncap) (.slice wa X.wires.length wcap) ∧ OBox wr (w.heap.size + 1) 35 (.slice none 0 0) (.slice none 0 0) (.slice none 0 0) ∧ OBox wr w1.heap.size 35 (.slice ga1 X.groups.length gcap1) (.slice (some ⟨gn,0,none⟩) X.nodes.length ncap1) (.slice wa1 X.wires.length wcap1) ∧
     MsgBox wr (w1.heap.size + 1) m ∧ Below w.heap.size w wr ∧ w1.heap.size + 2 ≤ wr.heap.size:=
    fun h=>⟨Y,S,hnx.out.trans h,hO,hS,⟨hPi,p0,p1,p2⟩,hRBK,⟨hQi,o0,o1,o2⟩,⟨m0,m1,m2,m3,m4⟩,hb,hsz⟩
   replace hrel0:=Lib.hid hrel0
   by_cases hkn:k = n
   ·have hk1:((k:Int) == (n:Int)) = true:=by simp [hkn]
    have hst:=Lib.hid (castStep_skip (Y:=Y) (g:=g) (m:=m) (show (k == n || !hasB Y.groups g k) = true by rw [hkn];simp))
    clear hkn
    go_wp2_with fail
    go_roundw
    case rel=>exact ⟨k + 1,by omega,by go_num,hrel0.out hst.out⟩
    case measure=>simp [intOf];omega
   have hk1:((k:Int) == (n:Int)) = false:=by simp;omega
   have hkb:(k == n) = false:=by simp;exact hkn
   have hHk:=HasOf_c hgI g k
   cases hhk:hasB X.groups g k
   ·rw [hhk] at hHk
    have hst:=Lib.hid (castStep_skip (Y:=Y) (n:=n) (g:=g) (m:=m) (show (k == n || !hasB Y.groups g k) = true by rw [hYg.out,hhk];simp))
    clear hhk hkb hkn
    go_wp2_with (first | (go_at_call 68;refine hHk.mono ?_;clear hHk;rintro e w' ⟨rfl,rfl⟩))
    go_roundw
    case rel=>exact ⟨k + 1,by omega,by go_num,hrel0.out hst.out⟩
    case measure=>simp [intOf];omega
   rw [hhk] at hHk
   have hcond:=Lib.hid (show (k == n || !hasB Y.groups g k) = false by rw [hYg.out,hhk,hkb];rfl)
   clear hhk hkb
   have hnY:n < Y.nodes.length:=by have:=hYl.out;omega
   have hkY:k < Y.nodes.length:=by have:=hYl.out;omega
   have hl40:(wireL Y n k).length ≤ 40:=hFY.out.wire hnY hkY
   have hrowl:=hFY.out.row hnY
   obtain ⟨g1,cap1,g2,cap2,u,T2,e1,_,hg1S,hg1l,k1,hc2,hg2S,hg2l,hg2b,k2,hU,hT2,hg12,back⟩:=hO.wire_at (a:=n) (k:=k) (by rw [hFY.out.wires];exact hnY) (by rw [hrowl];exact hkY)
   injection e1 with ea eb ec
   subst ea
   subst ec
   replace eb:=Lib.hid eb
   have hUf:OMsgs true wr T2 u (wireL Y n k):=hU
   clear hU
   have hwp:∀ l,wirePut Y n k l = { Y with wires:=Y.wires.set n ((Y.wires.getD n []).set k l) }:=fun l=>rfl
   replace hwp:=Lib.hid hwp
   have hnw:n < X.wires.length:=by have:=hX.out.wires;omega
   have hkr:k < (Y.wires.getD n []).length:=by rw [hrowl];exact hkY
   replace hrowl:=Lib.hid hrowl
   generalize hrow:Y.wires.getD n [] = row at *
   replace hrow:=Lib.hid hrow
   obtain ⟨ua,uc,rfl,huc,_⟩:=OSl.form hUf
   have hUm:=hUf.msgs
   replace back:=Lib.hid back
   replace hT2:=Lib.hid hT2
   obtain ⟨l,hl⟩:∃ l,wireL Y n k = l:=⟨_,rfl⟩
   have hs40:=fun h=>castStep_40 (m:=m) hcond.out h
   have hs1:=fun h h2=>castStep_1 (m:=m) hcond.out h h2
   have hsp:=fun h h2=>castStep_put (m:=m) hcond.out h h2
   rw [hl] at hl40 huc hUf hUm k2 hs40 hs1 hsp
   replace hl:=Lib.hid hl
   replace hs40:=Lib.hid hs40
   replace hs1:=Lib.hid hs1
   replace hsp:=Lib.hid hsp
   have hcells:=hUm.open.2
   replace hcells:=Lib.hid hcells
   obtain ⟨L,hL⟩:∃ L,l.length = L:=⟨_,rfl⟩
   rw [hL] at hl40 huc k2 hUf
   replace hL:=Lib.hid hL
   by_cases h40:L = 40
   ·have hr2:=hRe.out 2 Y (by omega) (hnx.out.trans (hs40.out (hL.out.trans h40)))
    subst hr2
    have h41:((L:Int) == 40) = true:=by simp;omega
    replace h40:=Lib.hid h40
    obtain ⟨f0,f1,f2⟩:=hRB.put3 (.slice none 0 0) (.slice none 0 0) (.slice none 0 0)
    go_wp2_with (first
     |(go_at_call 68;refine hHk.mono ?_;clear hHk;rintro e w' ⟨rfl,rfl⟩)
     |((with_reducible refine bodyPost_ret (v:=.tuple #[.agg #[.slice none 0 0, .slice none 0 0, .slice none 0 0], .int .i64 2]) ?_ rfl ?_);(focus (simp [results,Tryz.f65];go_simp))))
    rw [← hP.out]
    exact WPost.none (set3_below hb (by omega))
   have h41:((L:Int) == 40) = false:=by simp;omega
   have hlt40:L < 40:=by omega
   have hput:¬ (0 < l.length ∧ m.stamp ≤ (l.getD (l.length - 1) M.zero).stamp) → castStep Y n g k m = (0,wirePut Y n k (l ++ [m])):=hsp.out (by rw [hL.out];exact h40)
   have hbad:(0 < l.length ∧ m.stamp ≤ (l.getD (l.length - 1) M.zero).stamp) → castStep Y n g k m = (1,Y):=hs1.out (by rw [hL.out];exact h40)
   replace hput:=Lib.hid hput
   replace hbad:=Lib.hid hbad
   replace h40:=Lib.hid h40
   clear hs40 hs1 hsp
   rcases Nat.eq_zero_or_pos L with h0 | h0
   ·have hgo:=Lib.hid (hput.out (fun h=>by have:=hL.out;omega))
    subst h0
    go_wp2_with (first | (go_at_call 68;refine hHk.mono ?_;clear hHk;rintro e w' ⟨rfl,rfl⟩))
    go_quiet (fail)
    generalize hwq:World.drewN wr _ = wq
    have hqh:∀ c:Nat,wq.heap[c]? = wr.heap[c]?:=fun c=>by rw [← hwq];rfl
    have hqs:wq.heap.size = wr.heap.size:=by rw [← hwq];rfl
    have hbq:Below wr.heap.size wr wq:=by rw [← hwq];exact below_drewN wr _
    clear hwq
    have hcq:∀ a:Addr,wq.cell? a = wr.cell? a:=fun a=>World.cell?_of_block (w:=wr) (hqh a.block)
    have hqSz:w1.heap.size + 2 ≤ wq.heap.size ∧ g1 < wq.heap.size ∧ g2 < wq.heap.size:=⟨by omega,by omega,by omega⟩
    have hS0:wq.cell? ⟨w1.heap.size,2,none⟩ = some (.slice (some ⟨g1,0,none⟩) X.wires.length wcap1) ∧ wq.cell? ⟨g1,n,none⟩ = some (.slice (some ⟨g2,0,none⟩) row.length cap2) ∧ wq.cell? ⟨g2,k,none⟩ = some (.slice ua 0 uc) ∧ wq.cell? ⟨w1.heap.size + 1,0,none⟩ = some (.int .i64 m.src) ∧ wq.cell? ⟨w1.heap.size + 1,1,none⟩ = some (.int .i64 m.grp) ∧ wq.cell? ⟨w1.heap.size + 1,2,none⟩ = some (.int .i64 m.stamp) ∧ wq.cell? ⟨w1.heap.size + 1,3,none⟩ = some (.bool m.null) ∧ wq.cell? ⟨w1.heap.size + 1,4,none⟩ = some (.string m.body):=⟨(hcq _).trans o2,(hcq _).trans k1,(hcq _).trans k2,(hcq _).trans m0,(hcq _).trans m1,(hcq _).trans m2,(hcq _).trans m3,(hcq _).trans m4⟩
    replace hqh:=Lib.hid hqh
    replace hqs:=Lib.hid hqs
    replace hcq:=Lib.hid hcq
    go_wp2_with fail
    refine wp_region_N (fun w'=>w'.cell? ⟨w1.heap.size,2,none⟩ = some (.slice (some ⟨g1,0,none⟩) X.wires.length wcap1) ∧ w'.cell? ⟨g1,n,none⟩ = some (.slice (some ⟨g2,0,none⟩) row.length cap2) ∧ w'.cell? ⟨g2,k,none⟩ = some (.slice ua 0 uc) ∧ w'.cell? ⟨w1.heap.size + 1,0,none⟩ = some (.int .i64 m.src) ∧ w'.cell? ⟨w1.heap.size + 1,1,none⟩ = some (.int .i64 m.grp) ∧ w'.cell? ⟨w1.heap.size + 1,2,none⟩ = some (.int .i64 m.stamp) ∧ w'.cell? ⟨w1.heap.size + 1,3,none⟩ = some (.bool m.null) ∧ w'.cell? ⟨w1.heap.size + 1,4,none⟩ = some (.string m.body)) 18 19 rfl (by kernel_rfl) hS0 (fun hSw=>?_)
    refine tk 0 ?_ rfl rfl (by kernel_rfl) (.inl ⟨by rfl, ?_⟩) hSw ?_
    rotate_left
    ·rintro w ⟨hsw1,hsw2,hsw3,hsw4,hsw5,hsw6,hsw7,hsw8⟩;go_simp;try with_reducible rfl
    simp only [tkp,tkz,tks]
    refine tk 1 ?_ rfl rfl (by kernel_rfl) (.inl ⟨by rfl, ?_⟩) hSw ?_
    rotate_left
    ·rintro w ⟨hsw1,hsw2,hsw3,hsw4,hsw5,hsw6,hsw7,hsw8⟩;go_simp;try with_reducible rfl
    simp only [tkp,tkz,tks]
    refine tk 2 ?_ rfl rfl (by kernel_rfl) (.inl ⟨by rfl, ?_⟩) hSw ?_
    rotate_left
    ·rintro w ⟨hsw1,hsw2,hsw3,hsw4,hsw5,hsw6,hsw7,hsw8⟩;go_simp;try with_reducible rfl
    simp only [tkp,tkz,tks]
    refine tk 3 ?_ rfl rfl (by kernel_rfl) (.inl ⟨by rfl, ?_⟩) hSw ?_
    rotate_left
    ·rintro w ⟨hsw1,hsw2,hsw3,hsw4,hsw5,hsw6,hsw7,hsw8⟩;go_simp;try with_reducible rfl
    simp only [tkp,tkz,tks]
    refine tk 4 ?_ rfl rfl (by kernel_rfl) (.inl ⟨by rfl, ?_⟩) hSw ?_
    rotate_left
    ·rintro w ⟨hsw1,hsw2,hsw3,hsw4,hsw5,hsw6,hsw7,hsw8⟩;go_simp;try with_reducible rfl
    simp only [tkp,tkz,tks]
    refine tk 5 ?_ rfl rfl (by kernel_rfl) (.inl ⟨by rfl, ?_⟩) hSw ?_
    rotate_left
    ·rintro w ⟨hsw1,hsw2,hsw3,hsw4,hsw5,hsw6,hsw7,hsw8⟩;go_simp;try with_reducible rfl
    simp only [tkp,tkz,tks]
    refine tk 6 ?_ rfl rfl (by kernel_rfl) (.inl ⟨by rfl, ?_⟩) hSw ?_
    rotate_left
    ·rintro w ⟨hsw1,hsw2,hsw3,hsw4,hsw5,hsw6,hsw7,hsw8⟩;go_simp;try with_reducible rfl
    simp only [tkp,tkz,tks]
    refine tk 7 ?_ rfl rfl (by kernel_rfl) (.inl ⟨by rfl, ?_⟩) hSw ?_
    rotate_left
    ·rintro w ⟨hsw1,hsw2,hsw3,hsw4,hsw5,hsw6,hsw7,hsw8⟩;go_simp;try with_reducible rfl
    simp only [tkp,tkz,tks]
    refine tk 8 ?_ rfl rfl (by kernel_rfl) (.inl ⟨by rfl, ?_⟩) hSw ?_
    rotate_left
    ·rintro w ⟨hsw1,hsw2,hsw3,hsw4,hsw5,hsw6,hsw7,hsw8⟩;go_simp;try with_reducible rfl
    simp only [tkp,tkz,tks]
    refine tk 9 ?_ rfl rfl (by kernel_rfl) (.inl ⟨by rfl, ?_⟩) hSw ?_
    rotate_left
    ·rintro w ⟨hsw1,hsw2,hsw3,hsw4,hsw5,hsw6,hsw7,hsw8⟩;go_simp;try with_reducible rfl
    simp only [tkp,tkz,tks]
    refine tk 10 ?_ rfl rfl (by kernel_rfl) (.inl ⟨by rfl, ?_⟩) hSw ?_
    rotate_left
    ·rintro w ⟨hsw1,hsw2,hsw3,hsw4,hsw5,hsw6,hsw7,hsw8⟩;go_simp;try with_reducible rfl
    simp only [tkp,tkz,tks]
    refine tk 11 ?_ rfl rfl (by kernel_rfl) (.inl ⟨by rfl, ?_⟩) hSw ?_
    rotate_left
    ·rintro w ⟨hsw1,hsw2,hsw3,hsw4,hsw5,hsw6,hsw7,hsw8⟩;go_simp;try with_reducible rfl
    simp only [tkp,tkz,tks]
    refine tk 12 ?_ rfl rfl (by kernel_rfl) (.inl ⟨by rfl, ?_⟩) hSw ?_
    rotate_left
    ·rintro w ⟨hsw1,hsw2,hsw3,hsw4,hsw5,hsw6,hsw7,hsw8⟩;go_simp;try with_reducible rfl
    simp only [tkp,tkz,tks]
    refine tk 13 ?_ rfl rfl (by kernel_rfl) (.inl ⟨by rfl, ?_⟩) hSw ?_
    rotate_left
    ·rintro w ⟨hsw1,hsw2,hsw3,hsw4,hsw5,hsw6,hsw7,hsw8⟩;go_simp;try with_reducible rfl
    simp only [tkp,tkz,tks]
    refine tk 14 ?_ rfl rfl (by kernel_rfl) (.inl ⟨by rfl, ?_⟩) hSw ?_
    rotate_left
    ·rintro w ⟨hsw1,hsw2,hsw3,hsw4,hsw5,hsw6,hsw7,hsw8⟩;go_simp;try with_reducible rfl
    simp only [tkp,tkz,tks]
    have hT3:=hT2.out
    have hWl:∀ c:Nat,c < wq.heap.size → (wq.alloc (.cells #[.int .i64 m.src, .int .i64 m.grp, .int .i64 m.stamp, .bool m.null, .string m.body] 96)).drew.heap[c]? = wq.heap[c]?:=fun c hc=>Go.Deep.blk_alloc_lt _ _ _ hc
    have hsW:(wq.alloc (.cells #[.int .i64 m.src, .int .i64 m.grp, .int .i64 m.stamp, .bool m.null, .string m.body] 96)).drew.heap.size = wq.heap.size + 1:=World.size_alloc _ _
    have hTl:∀ c,T2 c → c < wq.heap.size:=fun c hc=>by rw [hqs.out];exact (hS c (hT3 c hc).1).2.1
    have hUW:OMsgs true (wq.alloc (.cells #[.int .i64 m.src, .int .i64 m.grp, .int .i64 m.stamp, .bool m.null, .string m.body] 96)).drew T2 (.slice ua 0 uc) l:=hUf.keep (fun c hc=>(hWl c (hTl c hc)).trans (hqh.out c))
    have hnT:∀ c,c = w1.heap.size ∨ c = w1.heap.size + 1 ∨ c = g1 ∨ c = g2 → ¬ T2 c:=fun c hc h=>by
     have h1:=hT3 c h
     have h2:=hS c h1.1
     rcases hc with e | e | e | e
     ·exact h2.2.2.1 e
     ·exact h2.2.2.2 e
     ·exact h1.2.1 e
     ·exact h1.2.2 e
    have hSa:=hS0
    obtain ⟨y1,y2,y3,y4,y5,y6,y7,y8⟩:=hSa
    have hSk:∀ W:World,(∀ c:Nat,c < wq.heap.size → ¬ T2 c → W.heap[c]? = wq.heap[c]?) → W.cell? ⟨w1.heap.size,2,none⟩ = some (.slice (some ⟨g1,0,none⟩) X.wires.length wcap1) ∧ W.cell? ⟨g1,n,none⟩ = some (.slice (some ⟨g2,0,none⟩) row.length cap2) ∧ W.cell? ⟨g2,k,none⟩ = some (.slice ua 0 uc) ∧ W.cell? ⟨w1.heap.size + 1,0,none⟩ = some (.int .i64 m.src) ∧ W.cell? ⟨w1.heap.size + 1,1,none⟩ = some (.int .i64 m.grp) ∧ W.cell? ⟨w1.heap.size + 1,2,none⟩ = some (.int .i64 m.stamp) ∧ W.cell? ⟨w1.heap.size + 1,3,none⟩ = some (.bool m.null) ∧ W.cell? ⟨w1.heap.size + 1,4,none⟩ = some (.string m.body):=fun W h =>
     ⟨(World.cell?_of_block (w:=wq) (a:=⟨w1.heap.size,2,none⟩) (h w1.heap.size (by omega) (hnT _ (Or.inl rfl)))).trans y1,(World.cell?_of_block (w:=wq) (a:=⟨g1,n,none⟩) (h g1 (by omega) (hnT _ (Or.inr (Or.inr (Or.inl rfl)))))).trans y2,(World.cell?_of_block (w:=wq) (a:=⟨g2,k,none⟩) (h g2 (by omega) (hnT _ (Or.inr (Or.inr (Or.inr rfl)))))).trans y3,
      (World.cell?_of_block (w:=wq) (a:=⟨w1.heap.size + 1,0,none⟩) (h (w1.heap.size + 1) (by omega) (hnT _ (Or.inr (Or.inl rfl))))).trans y4,(World.cell?_of_block (w:=wq) (a:=⟨w1.heap.size + 1,1,none⟩) (h (w1.heap.size + 1) (by omega) (hnT _ (Or.inr (Or.inl rfl))))).trans y5,(World.cell?_of_block (w:=wq) (a:=⟨w1.heap.size + 1,2,none⟩) (h (w1.heap.size + 1) (by omega) (hnT _ (Or.inr (Or.inl rfl))))).trans y6,
      (World.cell?_of_block (w:=wq) (a:=⟨w1.heap.size + 1,3,none⟩) (h (w1.heap.size + 1) (by omega) (hnT _ (Or.inr (Or.inl rfl))))).trans y7,(World.cell?_of_block (w:=wq) (a:=⟨w1.heap.size + 1,4,none⟩) (h (w1.heap.size + 1) (by omega) (hnT _ (Or.inr (Or.inl rfl))))).trans y8⟩
    replace hSk:=Lib.hid hSk
    replace hnT:=Lib.hid hnT
    replace hTl:=Lib.hid hTl
    replace hWl:=Lib.hid hWl
    replace hsW:=Lib.hid hsW
    have hlm:l.length + 1 ≤ 1000000:=by have:=hL.out;omega
    clear hT3
    refine N_one' (i:=15) (by kernel_rfl) rfl ?_
    go_wp2_with fail
    refine QK_normal ⟨?_, ?_⟩
    ·first | exact fun _=>hSk.out _ (fun c hc _=>hWl.out c hc) | exact hSk.out _ (fun c hc _=>hWl.out c hc)
    refine N_one' (i:=16) (by kernel_rfl) rfl ?_
    go_wp2_with (first
     |(at_builtin;refine wpList_push _ rfl _ _ 63 rfl 96 i0 _ 5 48 Tryz.underlying63 hi0 hz0 hz1 hz2 rfl (by decide) MEl.stays _ rfl T2 l hUW (fun c hc=>by rw [hsW.out];have:=hTl.out c hc;omega) ⟨wq.heap.size,0,none⟩ _ rfl m.cells rfl (cells_new _ _ _) (by simp [M.cells,Value.oneCell']) (fun _=>False) m ⟨rfl,hmf⟩ (fun _ h=>h.elim) hlm (by omega) (by omega) ?_;intro v9 w9 hp9;obtain ⟨a9,c9,rfl⟩:=hp9.2.2.2.2))
    have hk9:∀ c:Nat,c < wq.heap.size → ¬ T2 c → w9.heap[c]? = wq.heap[c]?:=fun c hc hn=>(hp9.2.2.1 c ⟨by rw [hsW.out];omega,hn⟩).trans (hWl.out c hc)
    have hS9:=hSk.out w9 hk9
    refine QK_normal ⟨?_, ?_⟩
    ·first | exact fun _=>hS9 | exact hS9
    obtain ⟨y1,y2,y3,y4,y5,y6,y7,y8⟩:=hS9
    refine N_one' (i:=17) (by kernel_rfl) rfl ?_
    go_wp2_with fail
    refine QK_normal ⟨?_, ?_⟩
    ·first | exact fun _=>⟨y1,y2,y3,y4,y5,y6,y7,y8⟩ | exact ⟨y1,y2,y3,y4,y5,y6,y7,y8⟩
    refine N_rest 18 1 (Nat.le_refl _) rfl (by kernel_rfl) ?_
    simp only [List.drop_succ_cons,List.drop_zero]
    have hgb9:=(hg2b.same (hqh.out g2)).same (hk9 g2 (by omega) (hnT.out _ (Or.inr (Or.inr (Or.inr rfl)))))
    have hf9:=hgb9.frozen k
    replace hk9:=Lib.hid hk9
    go_wp2_with fail
    have hwF:(w9.setCell ⟨g2,k,none⟩ (.slice a9 (l.length + 1) c9)).heap.size = w9.heap.size:=Go.Deep.nblk_setCell _ _ _
    have hkF:∀ c:Nat,c < wq.heap.size → ¬ T2 c → c ≠ g2 → (w9.setCell ⟨g2,k,none⟩ (.slice a9 (l.length + 1) c9)).heap[c]? = wr.heap[c]?:=fun c hc hn hg=>(Go.Deep.blk_setCell_other _ _ _ _ hg).trans ((hk9.out c hc hn).trans (hqh.out c))
    have hfin:=cast_put (fun c hc=>(hS c hc).2.1) hT2.out back.out hp9 hsW.out hqs.out hkF hg2b ((hk9.out g2 (by omega) (hnT.out _ (Or.inr (Or.inr (Or.inr rfl))))).trans (hqh.out g2)) k2 (by omega) hg2S
    obtain ⟨S9,hO9,hS9⟩:=hfin
    have hlow:∀ c,c < w.heap.size + 2 ∨ c = w1.heap.size ∨ c = w1.heap.size + 1 → ¬ S c:=fun c hc h=>by
     have:=hS c h
     omega
    have hkL:∀ c,c < w.heap.size + 2 ∨ c = w1.heap.size ∨ c = w1.heap.size + 1 → (w9.setCell ⟨g2,k,none⟩ (.slice a9 (l.length + 1) c9)).heap[c]? = wr.heap[c]?:=fun c hc =>
     hkF c (by have:=hRBK.lt;have:=hqs.out;omega) (fun h=>hlow c hc (hT2.out c h).1) (fun e=>hlow c hc (e ▸ hg2S))
    have hbF:Below w.heap.size w (w9.setCell ⟨g2,k,none⟩ (.slice a9 (l.length + 1) c9)):=
     below_setCell (((hb.trans (hbq.mono (by have:=hRBK.lt;omega))).trans ((below_drew (below_a1 wq _)).mono (by have:=hRBK.lt;have:=hqs.out;omega))).trans (hp9.2.2.2.1 w.heap.size (fun c hc=>by have:=hS c (hT2.out c hc).1;omega) (by have:=hRBK.lt;have:=hqs.out;rw [hsW.out];omega))) (by have:=hS g2 hg2S;show w.heap.size ≤ g2;omega) _
    go_roundw
    case rel =>
     refine ⟨k + 1,by omega,by go_num,wirePut Y n k (l ++ [m]),S9,hnx.out.trans hgo.out, ?_, ?_,OBox.keep ⟨hPi,p0,p1,p2⟩ (hkL _ (Or.inl (by omega))),hRBK.keep (hkL _ (Or.inl (by omega))),OBox.keep ⟨hQi,o0,o1,o2⟩ (hkL _ (Or.inr (Or.inl rfl))), ?_,hbF,by rw [hwF];have:=hp9.2.1;rw [hsW.out] at this;omega⟩
     ·rw [hwp.out];exact hO9
     ·intro c hc
      rw [hwF]
      have:=hS9 c hc
      refine ⟨?_,this.2, ?_, ?_⟩
      ·rcases this.1 with h | h
       ·exact (hS c h).1
       ·have:=hqs.out;have:=hRBK.lt;omega
      ·rcases this.1 with h | h
       ·exact (hS c h).2.2.1
       ·have:=hqs.out;have:=hRBK.lt;omega
      ·rcases this.1 with h | h
       ·exact (hS c h).2.2.2
       ·have:=hqs.out;have:=hRBK.lt;omega
     ·have hkm:=hkL (w1.heap.size + 1) (Or.inr (Or.inr rfl))
      exact ⟨(World.cell?_of_block (w:=wr) (a:=⟨w1.heap.size + 1,0,none⟩) hkm).trans m0,(World.cell?_of_block (w:=wr) (a:=⟨w1.heap.size + 1,1,none⟩) hkm).trans m1,(World.cell?_of_block (w:=wr) (a:=⟨w1.heap.size + 1,2,none⟩) hkm).trans m2,(World.cell?_of_block (w:=wr) (a:=⟨w1.heap.size + 1,3,none⟩) hkm).trans m3,(World.cell?_of_block (w:=wr) (a:=⟨w1.heap.size + 1,4,none⟩) hkm).trans m4⟩
    case measure=>simp [intOf];omega
   ·obtain ⟨q,rfl⟩:∃ q,L = q + 1:=⟨L - 1,by omega⟩
    obtain ⟨a',cap',e,_,hcs⟩:=hcells.out
    injection e with ea eb ec
    subst ea
    replace eb:=Lib.hid eb
    replace ec:=Lib.hid ec
    have hLq:=hL.out
    obtain ⟨lb,lo,rfl,hat⟩:=hcs (by intro e;rw [e] at hLq;simp at hLq)
    obtain ⟨_,_,d2,_,_⟩:=hat q (by omega)
    have hq1:l.length - 1 = q:=by omega
    have hln:0 < l.length:=by omega
    obtain ⟨d,hd⟩:∃ d,l.getD q M.zero = d:=⟨_,rfl⟩
    rw [hd] at d2
    clear hat hcs hLq
    by_cases hst:m.stamp ≤ d.stamp
    ·have hr1:=hRe.out 1 Y (by omega) (hnx.out.trans (hbad.out ⟨hln,by rw [hq1,hd];exact hst⟩))
     subst hr1
     replace hq1:=Lib.hid hq1
     replace hd:=Lib.hid hd
     clear hln
     have hdec:decide (m.stamp ≤ d.stamp) = true:=decide_eq_true hst
     replace hst:=Lib.hid hst
     go_wp2_with (first | (go_at_call 68;refine hHk.mono ?_;clear hHk;rintro e w' ⟨rfl,rfl⟩))
     go_quiet (fail)
     generalize hwq:World.drewN wr _ = wq
     have hRBq:=hRBK.keep (w':=wq) (by rw [← hwq];rfl)
     have hbq:=hb.trans (show Below w.heap.size wr wq by rw [← hwq];exact (below_drewN wr _).mono (by have:=hRBK.lt;omega))
     have hf0:=hRBq.1.frozen 0
     have hf1:=hRBq.1.frozen 1
     have hf2:=hRBq.1.frozen 2
     have hRBqK:=hRBq
     obtain ⟨_,y0,y1,y2⟩:=hRBq
     clear hwq
     obtain ⟨f0,f1,f2⟩:=hRBqK.put3 (.slice none 0 0) (.slice none 0 0) (.slice none 0 0)
     go_wp2_with ((with_reducible refine bodyPost_ret (v:=.tuple #[.agg #[.slice none 0 0, .slice none 0 0, .slice none 0 0], .int .i64 1]) ?_ rfl ?_);(focus (simp [results,Tryz.f65];go_simp)))
     rw [← hP.out]
     exact WPost.none (set3_below hbq (by omega))
    ·have hgo:=Lib.hid (hput.out (fun h=>by rw [hq1,hd] at h;exact hst h.2))
     replace hq1:=Lib.hid hq1
     replace hd:=Lib.hid hd
     clear hln
     have hdec:decide (m.stamp ≤ d.stamp) = false:=decide_eq_false hst
     replace hst:=Lib.hid hst
     go_wp2_with (first | (go_at_call 68;refine hHk.mono ?_;clear hHk;rintro e w' ⟨rfl,rfl⟩))
     go_quiet (fail)
     generalize hwq:World.drewN wr _ = wq
     have hqh:∀ c:Nat,wq.heap[c]? = wr.heap[c]?:=fun c=>by rw [← hwq];rfl
     have hqs:wq.heap.size = wr.heap.size:=by rw [← hwq];rfl
     have hbq:Below wr.heap.size wr wq:=by rw [← hwq];exact below_drewN wr _
     clear hwq
     have hcq:∀ a:Addr,wq.cell? a = wr.cell? a:=fun a=>World.cell?_of_block (w:=wr) (hqh a.block)
     have hqSz:w1.heap.size + 2 ≤ wq.heap.size ∧ g1 < wq.heap.size ∧ g2 < wq.heap.size:=⟨by omega,by omega,by omega⟩
     have hS0:wq.cell? ⟨w1.heap.size,2,none⟩ = some (.slice (some ⟨g1,0,none⟩) X.wires.length wcap1) ∧ wq.cell? ⟨g1,n,none⟩ = some (.slice (some ⟨g2,0,none⟩) row.length cap2) ∧ wq.cell? ⟨g2,k,none⟩ = some (.slice (some ⟨lb,lo,none⟩) (q + 1) uc) ∧ wq.cell? ⟨w1.heap.size + 1,0,none⟩ = some (.int .i64 m.src) ∧ wq.cell? ⟨w1.heap.size + 1,1,none⟩ = some (.int .i64 m.grp) ∧ wq.cell? ⟨w1.heap.size + 1,2,none⟩ = some (.int .i64 m.stamp) ∧ wq.cell? ⟨w1.heap.size + 1,3,none⟩ = some (.bool m.null) ∧ wq.cell? ⟨w1.heap.size + 1,4,none⟩ = some (.string m.body):=⟨(hcq _).trans o2,(hcq _).trans k1,(hcq _).trans k2,(hcq _).trans m0,(hcq _).trans m1,(hcq _).trans m2,(hcq _).trans m3,(hcq _).trans m4⟩
     replace hqh:=Lib.hid hqh
     replace hqs:=Lib.hid hqs
     replace hcq:=Lib.hid hcq
     go_wp2_with fail
     refine wp_region_N (fun w'=>w'.cell? ⟨w1.heap.size,2,none⟩ = some (.slice (some ⟨g1,0,none⟩) X.wires.length wcap1) ∧ w'.cell? ⟨g1,n,none⟩ = some (.slice (some ⟨g2,0,none⟩) row.length cap2) ∧ w'.cell? ⟨g2,k,none⟩ = some (.slice (some ⟨lb,lo,none⟩) (q + 1) uc) ∧ w'.cell? ⟨w1.heap.size + 1,0,none⟩ = some (.int .i64 m.src) ∧ w'.cell? ⟨w1.heap.size + 1,1,none⟩ = some (.int .i64 m.grp) ∧ w'.cell? ⟨w1.heap.size + 1,2,none⟩ = some (.int .i64 m.stamp) ∧ w'.cell? ⟨w1.heap.size + 1,3,none⟩ = some (.bool m.null) ∧ w'.cell? ⟨w1.heap.size + 1,4,none⟩ = some (.string m.body)) 18 19 rfl (by kernel_rfl) hS0 (fun hSw=>?_)
     refine tk 0 ?_ rfl rfl (by kernel_rfl) (.inl ⟨by rfl, ?_⟩) hSw ?_
     rotate_left
     ·rintro w ⟨hsw1,hsw2,hsw3,hsw4,hsw5,hsw6,hsw7,hsw8⟩;go_simp;try with_reducible rfl
     simp only [tkp,tkz,tks]
     refine tk 1 ?_ rfl rfl (by kernel_rfl) (.inl ⟨by rfl, ?_⟩) hSw ?_
     rotate_left
     ·rintro w ⟨hsw1,hsw2,hsw3,hsw4,hsw5,hsw6,hsw7,hsw8⟩;go_simp;try with_reducible rfl
     simp only [tkp,tkz,tks]
     refine tk 2 ?_ rfl rfl (by kernel_rfl) (.inl ⟨by rfl, ?_⟩) hSw ?_
     rotate_left
     ·rintro w ⟨hsw1,hsw2,hsw3,hsw4,hsw5,hsw6,hsw7,hsw8⟩;go_simp;try with_reducible rfl
     simp only [tkp,tkz,tks]
     refine tk 3 ?_ rfl rfl (by kernel_rfl) (.inl ⟨by rfl, ?_⟩) hSw ?_
     rotate_left
     ·rintro w ⟨hsw1,hsw2,hsw3,hsw4,hsw5,hsw6,hsw7,hsw8⟩;go_simp;try with_reducible rfl
     simp only [tkp,tkz,tks]
     refine tk 4 ?_ rfl rfl (by kernel_rfl) (.inl ⟨by rfl, ?_⟩) hSw ?_
     rotate_left
     ·rintro w ⟨hsw1,hsw2,hsw3,hsw4,hsw5,hsw6,hsw7,hsw8⟩;go_simp;try with_reducible rfl
     simp only [tkp,tkz,tks]
     refine tk 5 ?_ rfl rfl (by kernel_rfl) (.inl ⟨by rfl, ?_⟩) hSw ?_
     rotate_left
     ·rintro w ⟨hsw1,hsw2,hsw3,hsw4,hsw5,hsw6,hsw7,hsw8⟩;go_simp;try with_reducible rfl
     simp only [tkp,tkz,tks]
     refine tk 6 ?_ rfl rfl (by kernel_rfl) (.inl ⟨by rfl, ?_⟩) hSw ?_
     rotate_left
     ·rintro w ⟨hsw1,hsw2,hsw3,hsw4,hsw5,hsw6,hsw7,hsw8⟩;go_simp;try with_reducible rfl
     simp only [tkp,tkz,tks]
     refine tk 7 ?_ rfl rfl (by kernel_rfl) (.inl ⟨by rfl, ?_⟩) hSw ?_
     rotate_left
     ·rintro w ⟨hsw1,hsw2,hsw3,hsw4,hsw5,hsw6,hsw7,hsw8⟩;go_simp;try with_reducible rfl
     simp only [tkp,tkz,tks]
     refine tk 8 ?_ rfl rfl (by kernel_rfl) (.inl ⟨by rfl, ?_⟩) hSw ?_
     rotate_left
     ·rintro w ⟨hsw1,hsw2,hsw3,hsw4,hsw5,hsw6,hsw7,hsw8⟩;go_simp;try with_reducible rfl
     simp only [tkp,tkz,tks]
     refine tk 9 ?_ rfl rfl (by kernel_rfl) (.inl ⟨by rfl, ?_⟩) hSw ?_
     rotate_left
     ·rintro w ⟨hsw1,hsw2,hsw3,hsw4,hsw5,hsw6,hsw7,hsw8⟩;go_simp;try with_reducible rfl
     simp only [tkp,tkz,tks]
     refine tk 10 ?_ rfl rfl (by kernel_rfl) (.inl ⟨by rfl, ?_⟩) hSw ?_
     rotate_left
     ·rintro w ⟨hsw1,hsw2,hsw3,hsw4,hsw5,hsw6,hsw7,hsw8⟩;go_simp;try with_reducible rfl
     simp only [tkp,tkz,tks]
     refine tk 11 ?_ rfl rfl (by kernel_rfl) (.inl ⟨by rfl, ?_⟩) hSw ?_
     rotate_left
     ·rintro w ⟨hsw1,hsw2,hsw3,hsw4,hsw5,hsw6,hsw7,hsw8⟩;go_simp;try with_reducible rfl
     simp only [tkp,tkz,tks]
     refine tk 12 ?_ rfl rfl (by kernel_rfl) (.inl ⟨by rfl, ?_⟩) hSw ?_
     rotate_left
     ·rintro w ⟨hsw1,hsw2,hsw3,hsw4,hsw5,hsw6,hsw7,hsw8⟩;go_simp;try with_reducible rfl
     simp only [tkp,tkz,tks]
     refine tk 13 ?_ rfl rfl (by kernel_rfl) (.inl ⟨by rfl, ?_⟩) hSw ?_
     rotate_left
     ·rintro w ⟨hsw1,hsw2,hsw3,hsw4,hsw5,hsw6,hsw7,hsw8⟩;go_simp;try with_reducible rfl
     simp only [tkp,tkz,tks]
     refine tk 14 ?_ rfl rfl (by kernel_rfl) (.inl ⟨by rfl, ?_⟩) hSw ?_
     rotate_left
     ·rintro w ⟨hsw1,hsw2,hsw3,hsw4,hsw5,hsw6,hsw7,hsw8⟩;go_simp;try with_reducible rfl
     simp only [tkp,tkz,tks]
     have hT3:=hT2.out
     have hWl:∀ c:Nat,c < wq.heap.size → (wq.alloc (.cells #[.int .i64 m.src, .int .i64 m.grp, .int .i64 m.stamp, .bool m.null, .string m.body] 96)).drew.heap[c]? = wq.heap[c]?:=fun c hc=>Go.Deep.blk_alloc_lt _ _ _ hc
     have hsW:(wq.alloc (.cells #[.int .i64 m.src, .int .i64 m.grp, .int .i64 m.stamp, .bool m.null, .string m.body] 96)).drew.heap.size = wq.heap.size + 1:=World.size_alloc _ _
     have hTl:∀ c,T2 c → c < wq.heap.size:=fun c hc=>by rw [hqs.out];exact (hS c (hT3 c hc).1).2.1
     have hUW:OMsgs true (wq.alloc (.cells #[.int .i64 m.src, .int .i64 m.grp, .int .i64 m.stamp, .bool m.null, .string m.body] 96)).drew T2 (.slice (some ⟨lb,lo,none⟩) (q + 1) uc) l:=hUf.keep (fun c hc=>(hWl c (hTl c hc)).trans (hqh.out c))
     have hnT:∀ c,c = w1.heap.size ∨ c = w1.heap.size + 1 ∨ c = g1 ∨ c = g2 → ¬ T2 c:=fun c hc h=>by
      have h1:=hT3 c h
      have h2:=hS c h1.1
      rcases hc with e | e | e | e
      ·exact h2.2.2.1 e
      ·exact h2.2.2.2 e
      ·exact h1.2.1 e
      ·exact h1.2.2 e
     have hSa:=hS0
     obtain ⟨y1,y2,y3,y4,y5,y6,y7,y8⟩:=hSa
     have hSk:∀ W:World,(∀ c:Nat,c < wq.heap.size → ¬ T2 c → W.heap[c]? = wq.heap[c]?) → W.cell? ⟨w1.heap.size,2,none⟩ = some (.slice (some ⟨g1,0,none⟩) X.wires.length wcap1) ∧ W.cell? ⟨g1,n,none⟩ = some (.slice (some ⟨g2,0,none⟩) row.length cap2) ∧ W.cell? ⟨g2,k,none⟩ = some (.slice (some ⟨lb,lo,none⟩) (q + 1) uc) ∧ W.cell? ⟨w1.heap.size + 1,0,none⟩ = some (.int .i64 m.src) ∧ W.cell? ⟨w1.heap.size + 1,1,none⟩ = some (.int .i64 m.grp) ∧ W.cell? ⟨w1.heap.size + 1,2,none⟩ = some (.int .i64 m.stamp) ∧ W.cell? ⟨w1.heap.size + 1,3,none⟩ = some (.bool m.null) ∧ W.cell? ⟨w1.heap.size + 1,4,none⟩ = some (.string m.body):=fun W h =>
      ⟨(World.cell?_of_block (w:=wq) (a:=⟨w1.heap.size,2,none⟩) (h w1.heap.size (by omega) (hnT _ (Or.inl rfl)))).trans y1,(World.cell?_of_block (w:=wq) (a:=⟨g1,n,none⟩) (h g1 (by omega) (hnT _ (Or.inr (Or.inr (Or.inl rfl)))))).trans y2,(World.cell?_of_block (w:=wq) (a:=⟨g2,k,none⟩) (h g2 (by omega) (hnT _ (Or.inr (Or.inr (Or.inr rfl)))))).trans y3,
       (World.cell?_of_block (w:=wq) (a:=⟨w1.heap.size + 1,0,none⟩) (h (w1.heap.size + 1) (by omega) (hnT _ (Or.inr (Or.inl rfl))))).trans y4,(World.cell?_of_block (w:=wq) (a:=⟨w1.heap.size + 1,1,none⟩) (h (w1.heap.size + 1) (by omega) (hnT _ (Or.inr (Or.inl rfl))))).trans y5,(World.cell?_of_block (w:=wq) (a:=⟨w1.heap.size + 1,2,none⟩) (h (w1.heap.size + 1) (by omega) (hnT _ (Or.inr (Or.inl rfl))))).trans y6,
       (World.cell?_of_block (w:=wq) (a:=⟨w1.heap.size + 1,3,none⟩) (h (w1.heap.size + 1) (by omega) (hnT _ (Or.inr (Or.inl rfl))))).trans y7,(World.cell?_of_block (w:=wq) (a:=⟨w1.heap.size + 1,4,none⟩) (h (w1.heap.size + 1) (by omega) (hnT _ (Or.inr (Or.inl rfl))))).trans y8⟩
     replace hSk:=Lib.hid hSk
     replace hnT:=Lib.hid hnT
     replace hTl:=Lib.hid hTl
     replace hWl:=Lib.hid hWl
     replace hsW:=Lib.hid hsW
     have hlm:l.length + 1 ≤ 1000000:=by have:=hL.out;omega
     clear hT3
     refine N_one' (i:=15) (by kernel_rfl) rfl ?_
     go_wp2_with fail
     refine QK_normal ⟨?_, ?_⟩
     ·first | exact fun _=>hSk.out _ (fun c hc _=>hWl.out c hc) | exact hSk.out _ (fun c hc _=>hWl.out c hc)
     refine N_one' (i:=16) (by kernel_rfl) rfl ?_
     go_wp2_with (first
      |(at_builtin;refine wpList_push _ rfl _ _ 63 rfl 96 i0 _ 5 48 Tryz.underlying63 hi0 hz0 hz1 hz2 rfl (by decide) MEl.stays _ rfl T2 l hUW (fun c hc=>by rw [hsW.out];have:=hTl.out c hc;omega) ⟨wq.heap.size,0,none⟩ _ rfl m.cells rfl (cells_new _ _ _) (by simp [M.cells,Value.oneCell']) (fun _=>False) m ⟨rfl,hmf⟩ (fun _ h=>h.elim) hlm (by omega) (by omega) ?_;intro v9 w9 hp9;obtain ⟨a9,c9,rfl⟩:=hp9.2.2.2.2))
     have hk9:∀ c:Nat,c < wq.heap.size → ¬ T2 c → w9.heap[c]? = wq.heap[c]?:=fun c hc hn=>(hp9.2.2.1 c ⟨by rw [hsW.out];omega,hn⟩).trans (hWl.out c hc)
     have hS9:=hSk.out w9 hk9
     refine QK_normal ⟨?_, ?_⟩
     ·first | exact fun _=>hS9 | exact hS9
     obtain ⟨y1,y2,y3,y4,y5,y6,y7,y8⟩:=hS9
     refine N_one' (i:=17) (by kernel_rfl) rfl ?_
     go_wp2_with fail
     refine QK_normal ⟨?_, ?_⟩
     ·first | exact fun _=>⟨y1,y2,y3,y4,y5,y6,y7,y8⟩ | exact ⟨y1,y2,y3,y4,y5,y6,y7,y8⟩
     refine N_rest 18 1 (Nat.le_refl _) rfl (by kernel_rfl) ?_
     simp only [List.drop_succ_cons,List.drop_zero]
     have hgb9:=(hg2b.same (hqh.out g2)).same (hk9 g2 (by omega) (hnT.out _ (Or.inr (Or.inr (Or.inr rfl)))))
     have hf9:=hgb9.frozen k
     replace hk9:=Lib.hid hk9
     go_wp2_with fail
     have hwF:(w9.setCell ⟨g2,k,none⟩ (.slice a9 (l.length + 1) c9)).heap.size = w9.heap.size:=Go.Deep.nblk_setCell _ _ _
     have hkF:∀ c:Nat,c < wq.heap.size → ¬ T2 c → c ≠ g2 → (w9.setCell ⟨g2,k,none⟩ (.slice a9 (l.length + 1) c9)).heap[c]? = wr.heap[c]?:=fun c hc hn hg=>(Go.Deep.blk_setCell_other _ _ _ _ hg).trans ((hk9.out c hc hn).trans (hqh.out c))
     have hfin:=cast_put (fun c hc=>(hS c hc).2.1) hT2.out back.out hp9 hsW.out hqs.out hkF hg2b ((hk9.out g2 (by omega) (hnT.out _ (Or.inr (Or.inr (Or.inr rfl))))).trans (hqh.out g2)) k2 (by omega) hg2S
     obtain ⟨S9,hO9,hS9⟩:=hfin
     have hlow:∀ c,c < w.heap.size + 2 ∨ c = w1.heap.size ∨ c = w1.heap.size + 1 → ¬ S c:=fun c hc h=>by
      have:=hS c h
      omega
     have hkL:∀ c,c < w.heap.size + 2 ∨ c = w1.heap.size ∨ c = w1.heap.size + 1 → (w9.setCell ⟨g2,k,none⟩ (.slice a9 (l.length + 1) c9)).heap[c]? = wr.heap[c]?:=fun c hc =>
      hkF c (by have:=hRBK.lt;have:=hqs.out;omega) (fun h=>hlow c hc (hT2.out c h).1) (fun e=>hlow c hc (e ▸ hg2S))
     have hbF:Below w.heap.size w (w9.setCell ⟨g2,k,none⟩ (.slice a9 (l.length + 1) c9)):=
      below_setCell (((hb.trans (hbq.mono (by have:=hRBK.lt;omega))).trans ((below_drew (below_a1 wq _)).mono (by have:=hRBK.lt;have:=hqs.out;omega))).trans (hp9.2.2.2.1 w.heap.size (fun c hc=>by have:=hS c (hT2.out c hc).1;omega) (by have:=hRBK.lt;have:=hqs.out;rw [hsW.out];omega))) (by have:=hS g2 hg2S;show w.heap.size ≤ g2;omega) _
     go_roundw
     case rel =>
      refine ⟨k + 1,by omega,by go_num,wirePut Y n k (l ++ [m]),S9,hnx.out.trans hgo.out, ?_, ?_,OBox.keep ⟨hPi,p0,p1,p2⟩ (hkL _ (Or.inl (by omega))),hRBK.keep (hkL _ (Or.inl (by omega))),OBox.keep ⟨hQi,o0,o1,o2⟩ (hkL _ (Or.inr (Or.inl rfl))), ?_,hbF,by rw [hwF];have:=hp9.2.1;rw [hsW.out] at this;omega⟩
      ·rw [hwp.out];exact hO9
      ·intro c hc
       rw [hwF]
       have:=hS9 c hc
       refine ⟨?_,this.2, ?_, ?_⟩
       ·rcases this.1 with h | h
        ·exact (hS c h).1
        ·have:=hqs.out;have:=hRBK.lt;omega
       ·rcases this.1 with h | h
        ·exact (hS c h).2.2.1
        ·have:=hqs.out;have:=hRBK.lt;omega
       ·rcases this.1 with h | h
        ·exact (hS c h).2.2.2
        ·have:=hqs.out;have:=hRBK.lt;omega
      ·have hkm:=hkL (w1.heap.size + 1) (Or.inr (Or.inr rfl))
       exact ⟨(World.cell?_of_block (w:=wr) (a:=⟨w1.heap.size + 1,0,none⟩) hkm).trans m0,(World.cell?_of_block (w:=wr) (a:=⟨w1.heap.size + 1,1,none⟩) hkm).trans m1,(World.cell?_of_block (w:=wr) (a:=⟨w1.heap.size + 1,2,none⟩) hkm).trans m2,(World.cell?_of_block (w:=wr) (a:=⟨w1.heap.size + 1,3,none⟩) hkm).trans m3,(World.cell?_of_block (w:=wr) (a:=⟨w1.heap.size + 1,4,none⟩) hkm).trans m4⟩
     case measure=>simp [intOf];omega
  ·obtain rfl:k = X.nodes.length:=by omega
   have hre:r = castEnd Y n m:=by
    have h1:=hRr.out.1
    rw [← hm.out,hcw.out,if_pos rfl] at h1
    exact h1
   replace hre:=Lib.hid hre
   have hnY:n < Y.nodes.length:=by have:=hYl.out;omega
   have hlY:=hFY.out.lists _ (getD_mem Y.nodes N.zero hnY)
   have htY:=hFY.out.tab hnY
   have hnull:m.null = null:=by rw [hm.out]
   have hRBK:=hRB
   have hQBK:OBox wr w1.heap.size 35 (.slice ga1 X.groups.length gcap1) (.slice (some ⟨gn,0,none⟩) X.nodes.length ncap1) (.slice wa1 X.wires.length wcap1):=⟨hQi,o0,o1,o2⟩
   clear hk hlt
   cases null
   ·have hr1:=hre.out.trans (castEnd_hold hnull)
    replace hnull:=Lib.hid hnull
    have hQ:=hQBK
    have hRb:=hRBK
    replace htY:=Lib.hid htY
    have hH:=hold_c (b:=w1.heap.size) hQ hO (fun c hc=>(hS c hc).2.1) hnY (by have:=hlY.1;omega) hmf
    unfold M.val at hH
    skip
    obtain ⟨e0,he0⟩:∃ e0,putE (Y.nodes.getD n N.zero).held m = e0:=⟨_,rfl⟩
    rw [he0] at hH hr1
    replace he0:=Lib.hid he0
    replace hr1:=Lib.hid hr1
    go_wp2_with fail
    refine hH.mono ?_
    rintro e w2 ⟨rfl,hwi,hok,hno⟩
    clear hH
    have hlw:∀ c,c < w.heap.size + 2 ∨ c = w1.heap.size → w2.heap[c]? = wr.heap[c]?:=fun c hc=>hwi.lies c (by have:=hQ.lt;have:=hRb.lt;omega) (fun h=>by have:=hS c h;omega)
    have hQ2:=hQ.keep (hlw _ (Or.inr rfl))
    have hR2:=hRb.keep (hlw _ (Or.inl (by omega)))
    have hb2:Below w.heap.size w w2:=hb.trans (hwi.below (by have:=hRb.lt;omega) (fun c hc=>by have:=hS c hc;omega))
    replace hlw:=Lib.hid hlw
    by_cases hz0:e0 = 0
    ·subst hz0
     obtain ⟨S2,hO2,hSo2⟩:=hok rfl
     have hS2:∀ c,S2 c → w.heap.size + 2 ≤ c ∧ c < w2.heap.size ∧ c ≠ w1.heap.size:=fun c hc=>by
      have h:=hSo2 c hc
      refine ⟨?_,h.2, ?_⟩
      ·rcases h.1 with h' | h'
       ·exact (hS c h').1
       ·have:=hRb.lt;omega
      ·rcases h.1 with h' | h'
       ·exact (hS c h').2.2.1
       ·have:=hQ.lt;omega
     have hr2:=hr1.out
     rw [if_neg (by simp)] at hr2
     obtain ⟨hh1,hh2⟩:=holdW_at (m:=m) hnY
     have hpl:=putL_le (Y.nodes.getD n N.zero).held m
     have hnY2:n < (holdW Y n m).nodes.length:=by rw [hh1];exact hnY
     have htY2:=holdW_tab (m:=m) hnY htY.out
     have hlY2:((holdW Y n m).nodes.getD n N.zero).held.length ≤ 1000 ∧ ((holdW Y n m).nodes.getD n N.zero).told.length ≤ 1000:=by rw [hh2];exact ⟨by show (putL _ m).length ≤ 1000;omega,by show (Y.nodes.getD n N.zero).told.length ≤ 1000;omega⟩
     clear hok hno hh1 hh2 hpl hwi hSo2
     replace hS:=Lib.hid hS
     generalize holdW Y n m = Y2 at *
     have hT:=tell_c (b:=w1.heap.size) hQ2 hO2 (fun c hc=>(hS2 c hc).2.1) hnY2 htY2 hlY2
     obtain ⟨k1',hk1'⟩:∃ k1':Int,(if tellE Y2 n = 0 then ((readyX Y2 n).length:Int) else 0) = k1':=⟨_,rfl⟩
     rw [hk1'] at hT
     clear hk1'
     obtain ⟨e1,he1⟩:∃ e1,tellE Y2 n = e1:=⟨_,rfl⟩
     rw [he1] at hT hr2
     clear he1
     replace hr2:=Lib.hid hr2
     go_wp2_with fail
     refine hT.mono ?_
     rintro e w3 ⟨rfl,hwi3,hok3,hno3⟩
     clear hT
     have hlow:∀ c,c < w.heap.size + 2 ∨ c = w1.heap.size → w3.heap[c]? = w2.heap[c]?:=fun c hc=>hwi3.lies c (by have:=hQ2.lt;have:=hR2.lt;omega) (fun h=>by have:=hS2 c h;omega)
     have hQ3:=hQ2.keep (hlow _ (Or.inr rfl))
     have hR3:=hR2.keep (hlow _ (Or.inl (by omega)))
     have hb3:Below w.heap.size w w3:=hb2.trans (hwi3.below (by have:=hR2.lt;omega) (fun c hc=>by have:=hS2 c hc;omega))
     replace hlow:=Lib.hid hlow
     by_cases hz:e1 = 0
     ·subst hz
      have hr0:=hr2.out
      rw [if_neg (by simp)] at hr0
      obtain ⟨S3,hO3,hS3⟩:=hok3 rfl
      subst hr0
      clear hok3 hno3 hwi3
      have hlo3:∀ c,S3 c → w.heap.size + 2 ≤ c:=fun c hc=>by
       rcases (hS3 c hc).1 with h | h
       ·exact (hS2 c h).1
       ·have:=hR2.lt;omega
      replace hlo3:=Lib.hid hlo3
      replace hS3:=Lib.hid hS3
      replace hS2:=Lib.hid hS2
      have hQ3K:=hQ3
      have hf0:=hR3.1.frozen 0
      have hf1:=hR3.1.frozen 1
      have hf2:=hR3.1.frozen 2
      have hR3K:=hR3
      obtain ⟨_,z0,z1,z2⟩:=hR3
      obtain ⟨_,y0,y1,y2⟩:=hQ3
      obtain ⟨f0,f1,f2⟩:=hR3K.put3 (.slice ga1 X.groups.length gcap1) (.slice (some ⟨gn,0,none⟩) X.nodes.length ncap1) (.slice wa1 X.wires.length wcap1)
      go_wp2_with ((with_reducible refine bodyPost_ret (v:=.tuple #[.agg #[.slice ga1 X.groups.length gcap1, .slice (some ⟨gn,0,none⟩) X.nodes.length ncap1, .slice wa1 X.wires.length wcap1], .int .i64 0]) ?_ rfl ?_);(focus (simp [results,Tryz.f65];go_simp)))
      ·rw [← hP.out]
       refine ⟨_,_,_,S3,rfl,(hO3.keep (fun c hc=>?_)).any,fun c hc=>?_,set3_below hb3 (by omega)⟩
       ·have h:=hlo3.out c hc
        rw [set3_blk (by show c ≠ w.heap.size + 1;omega)]
       ·have h:=hlo3.out c hc
        rw [set3_size]
        exact ⟨by omega,(hS3.out c hc).2⟩
     ·have hr0:=hr2.out
      rw [if_pos hz] at hr0
      subst hr0
      have hne:(e1 != 0) = true:=by simpa using hz
      replace hz:=Lib.hid hz
      clear hok3 hno3 hwi3
      replace hS2:=Lib.hid hS2
      have hf0:=hR3.1.frozen 0
      have hf1:=hR3.1.frozen 1
      have hf2:=hR3.1.frozen 2
      have hRX:=hR3
      obtain ⟨_,z0,z1,z2⟩:=hRX
      obtain ⟨f0,f1,f2⟩:=hR3.put3 (.slice none 0 0) (.slice none 0 0) (.slice none 0 0)
      go_wp2_with ((with_reducible refine bodyPost_ret (v:=.tuple #[.agg #[.slice none 0 0, .slice none 0 0, .slice none 0 0], .int .i64 e1]) ?_ rfl ?_);(focus (simp [results,Tryz.f65];go_simp)))
      rw [← hP.out]
      exact WPost.none (set3_below hb3 (by omega))
    ·have hr2:=hr1.out
     rw [if_pos hz0] at hr2
     subst hr2
     have hne:(e0 != 0) = true:=by simpa using hz0
     replace hz0:=Lib.hid hz0
     clear hok hno hwi
     replace hS:=Lib.hid hS
     have hf0:=hR2.1.frozen 0
     have hf1:=hR2.1.frozen 1
     have hf2:=hR2.1.frozen 2
     have hRX:=hR2
     obtain ⟨_,z0,z1,z2⟩:=hRX
     obtain ⟨f0,f1,f2⟩:=hR2.put3 (.slice none 0 0) (.slice none 0 0) (.slice none 0 0)
     go_wp2_with ((with_reducible refine bodyPost_ret (v:=.tuple #[.agg #[.slice none 0 0, .slice none 0 0, .slice none 0 0], .int .i64 e0]) ?_ rfl ?_);(focus (simp [results,Tryz.f65];go_simp)))
     rw [← hP.out]
     exact WPost.none (set3_below hb2 (by omega))
   ·have hr2:=hre.out.trans (castEnd_null hnull)
    replace hnull:=Lib.hid hnull
    have hQ2:=hQBK
    have hR2:=hRBK
    have hb2:=hb
    have hO2:=hO
    have hS2:=hS
    clear hS
    have hnY2:=hnY
    have htY2:=htY
    have hlY2:(Y.nodes.getD n N.zero).held.length ≤ 1000 ∧ (Y.nodes.getD n N.zero).told.length ≤ 1000:=by omega
    have hT:=tell_c (b:=w1.heap.size) hQ2 hO2 (fun c hc=>(hS2 c hc).2.1) hnY2 htY2 hlY2
    obtain ⟨k1',hk1'⟩:∃ k1':Int,(if tellE Y n = 0 then ((readyX Y n).length:Int) else 0) = k1':=⟨_,rfl⟩
    rw [hk1'] at hT
    clear hk1'
    obtain ⟨e1,he1⟩:∃ e1,tellE Y n = e1:=⟨_,rfl⟩
    rw [he1] at hT hr2
    clear he1
    replace hr2:=Lib.hid hr2
    go_wp2_with fail
    refine hT.mono ?_
    rintro e w3 ⟨rfl,hwi3,hok3,hno3⟩
    clear hT
    have hlow:∀ c,c < w.heap.size + 2 ∨ c = w1.heap.size → w3.heap[c]? = wr.heap[c]?:=fun c hc=>hwi3.lies c (by have:=hQ2.lt;have:=hR2.lt;omega) (fun h=>by have:=hS2 c h;omega)
    have hQ3:=hQ2.keep (hlow _ (Or.inr rfl))
    have hR3:=hR2.keep (hlow _ (Or.inl (by omega)))
    have hb3:Below w.heap.size w w3:=hb2.trans (hwi3.below (by have:=hR2.lt;omega) (fun c hc=>by have:=hS2 c hc;omega))
    replace hlow:=Lib.hid hlow
    by_cases hz:e1 = 0
    ·subst hz
     have hr0:=hr2.out
     rw [if_neg (by simp)] at hr0
     obtain ⟨S3,hO3,hS3⟩:=hok3 rfl
     subst hr0
     clear hok3 hno3 hwi3
     have hlo3:∀ c,S3 c → w.heap.size + 2 ≤ c:=fun c hc=>by
      rcases (hS3 c hc).1 with h | h
      ·exact (hS2 c h).1
      ·have:=hR2.lt;omega
     replace hlo3:=Lib.hid hlo3
     replace hS3:=Lib.hid hS3
     replace hS2:=Lib.hid hS2
     have hQ3K:=hQ3
     have hf0:=hR3.1.frozen 0
     have hf1:=hR3.1.frozen 1
     have hf2:=hR3.1.frozen 2
     have hR3K:=hR3
     obtain ⟨_,z0,z1,z2⟩:=hR3
     obtain ⟨_,y0,y1,y2⟩:=hQ3
     obtain ⟨f0,f1,f2⟩:=hR3K.put3 (.slice ga1 X.groups.length gcap1) (.slice (some ⟨gn,0,none⟩) X.nodes.length ncap1) (.slice wa1 X.wires.length wcap1)
     go_wp2_with ((with_reducible refine bodyPost_ret (v:=.tuple #[.agg #[.slice ga1 X.groups.length gcap1, .slice (some ⟨gn,0,none⟩) X.nodes.length ncap1, .slice wa1 X.wires.length wcap1], .int .i64 0]) ?_ rfl ?_);(focus (simp [results,Tryz.f65];go_simp)))
     ·rw [← hP.out]
      refine ⟨_,_,_,S3,rfl,(hO3.keep (fun c hc=>?_)).any,fun c hc=>?_,set3_below hb3 (by omega)⟩
      ·have h:=hlo3.out c hc
       rw [set3_blk (by show c ≠ w.heap.size + 1;omega)]
      ·have h:=hlo3.out c hc
       rw [set3_size]
       exact ⟨by omega,(hS3.out c hc).2⟩
    ·have hr0:=hr2.out
     rw [if_pos hz] at hr0
     subst hr0
     have hne:(e1 != 0) = true:=by simpa using hz
     replace hz:=Lib.hid hz
     clear hok3 hno3 hwi3
     replace hS2:=Lib.hid hS2
     have hf0:=hR3.1.frozen 0
     have hf1:=hR3.1.frozen 1
     have hf2:=hR3.1.frozen 2
     have hRX:=hR3
     obtain ⟨_,z0,z1,z2⟩:=hRX
     obtain ⟨f0,f1,f2⟩:=hR3.put3 (.slice none 0 0) (.slice none 0 0) (.slice none 0 0)
     go_wp2_with ((with_reducible refine bodyPost_ret (v:=.tuple #[.agg #[.slice none 0 0, .slice none 0 0, .slice none 0 0], .int .i64 e1]) ?_ rfl ?_);(focus (simp [results,Tryz.f65];go_simp)))
     rw [← hP.out]
     exact WPost.none (set3_below hb3 (by omega))
end Go.Proofs.YtnalakhelicjcaaGreatDoor
