/-
  A node's clock and a number of its table may be set, one after the other.
  The program: a message comes, of a right world.
  Moving, the plain law: what comes of a right world is right; the first of the wire is there no more, and nobody else has changed.
  A wire is emptied: the program's, the document's.
  A message comes, a wire is emptied: errors too.
-/
import Derived.Test.YtnalakhelicjcaaGreatDoorZKD
import Derived.Test.YtnalakhelicjcaaGreatDoorZKR
import Derived.Test.YtnalakhelicjcaaGreatDoorZGM
import Derived.Test.YtnalakhelicjcaaGreatDoorZKT
set_option maxRecDepth 100000
namespace Go.Proofs.YtnalakhelicjcaaGreatDoor
open Go.RowKit Go.Shelf Go.BigFrame
theorem OWd.seen_at {o:Bool} {w:World} {S:Nat → Prop} {gv nv wv:Value} {X:Wd} (h:OWd o w S gv nv wv X) {n r k:Nat} (hi:n < X.nodes.length) (hr:r < (X.nodes.getD n N.zero).last.length) (hk:k < ((X.nodes.getD n N.zero).last.getD r []).length) :
  ∃ (g cap g1 cap1 g2 cap2:Nat),nv = .slice (some ⟨g,0,none⟩) X.nodes.length cap ∧ X.nodes.length ≤ cap ∧ S g ∧ S g2 ∧ g2 ≠ g ∧ BlkIs w g 65 (cap * 4) ∧ BlkIs w g2 3 cap2 ∧
   w.cell? ⟨g,n * 4,none⟩ = some (.int .i64 (X.nodes.getD n N.zero).clock) ∧ I64 (X.nodes.getD n N.zero).clock ∧
   w.cell? ⟨g,n * 4 + 1,none⟩ = some (.slice (some ⟨g1,0,none⟩) (X.nodes.getD n N.zero).last.length cap1) ∧ (X.nodes.getD n N.zero).last.length ≤ cap1 ∧
   w.cell? ⟨g1,r,none⟩ = some (.slice (some ⟨g2,0,none⟩) ((X.nodes.getD n N.zero).last.getD r []).length cap2) ∧ ((X.nodes.getD n N.zero).last.getD r []).length ≤ cap2 ∧
   w.cell? ⟨g2,k,none⟩ = some (.int .i64 (((X.nodes.getD n N.zero).last.getD r []).getD k 0)) ∧ I64 (((X.nodes.getD n N.zero).last.getD r []).getD k 0) ∧
   ∀ w' v v',Lies S w w' → I64 v → I64 v' → OWd o ((w'.setCell ⟨g,n * 4,none⟩ (.int .i64 v)).setCell ⟨g2,k,none⟩ (.int .i64 v')) S gv nv wv (lastSet (clockSet X n v) n r k v'):=by
 obtain ⟨g,cap,lv,hv,tv,Tl,Th,Tt,e,hc,hgS,hgl,hgb,c0,c1,c2,c3,hI,hL,hH,hT,sl,sh,st,d1,d2,d3,back⟩:=h.node_at hi
 obtain ⟨g1,cap1,g2,cap2,e1,hc1,hT1,hg1,k1,hc2,hT2,hg2,hb2,k2,hI2,hne,back2⟩:=hL.cell_at hr hk
 subst e1
 refine ⟨g,cap,g1,cap1,g2,cap2,e,hc,hgS,(sl g2 hT2).1,(sl g2 hT2).2,hgb,hb2,c0,hI,c1,hc1,k1,hc2,k2,hI2,fun w' v v' hw' h64 h64'=>?_⟩
 have hB2:BlkSet w ((w'.setCell ⟨g,n * 4,none⟩ (.int .i64 v)).setCell ⟨g2,k,none⟩ (.int .i64 v')) g2 k [.int .i64 v']:=
  (BlkSet.same (w:=w) (w':=w'.setCell ⟨g,n * 4,none⟩ (.int .i64 v)) (p:=k) (cs:=[.int .i64 (((X.nodes.getD n N.zero).last.getD r []).getD k 0)]) ((Go.Deep.blk_setCell_other _ _ _ _ (sl g2 hT2).2).trans (hw' g2 (sl g2 hT2).1)) (fun j hj=>by
   obtain rfl:j = 0:=by simpa using hj
   exact k2)).set hb2 0 (by simp) (by simp;omega) _
 have hB:BlkSet w ((w'.setCell ⟨g,n * 4,none⟩ (.int .i64 v)).setCell ⟨g2,k,none⟩ (.int .i64 v')) g (n * 4) [.int .i64 v, .slice (some ⟨g1,0,none⟩) (X.nodes.getD n N.zero).last.length cap1,hv,tv]:=
  ((BlkSet.same (w:=w) (w':=w') (cs:=[.int .i64 (X.nodes.getD n N.zero).clock, .slice (some ⟨g1,0,none⟩) (X.nodes.getD n N.zero).last.length cap1,hv,tv]) (hw' g hgS) (fun j hj=>by
   match j,hj with
   | 0,_=>exact c0
   | 1,_=>exact c1
   | 2,_=>exact c2
   | 3,_=>exact c3)).set hgb 0 (by simp) (by simp;omega) _).far (Go.Deep.blk_setCell_other _ _ _ _ (fun e=>(sl g2 hT2).2 e.symm))
 have hL2:=back2 _ v' (lies_setCell (lies_setCell hw' sl) fun c hc=>hc) hB2 h64'
 have:=back _ (fun c=>Tl c ∨ Th c ∨ Tt c) _ { X.nodes.getD n N.zero with clock:=v,last:=(X.nodes.getD n N.zero).last.set r (((X.nodes.getD n N.zero).last.getD r []).set k v') }
  (lies_setCell (lies_setCell hw' fun c (hc:S c ∧ c ≠ g)=>hc) fun c hc=>⟨⟨hc.1,hc.2.1⟩,fun e=>hc.2.2.1 (e ▸ hT2)⟩) hB rfl
  ⟨_,hv,tv,Tl,Th,Tt,rfl,h64,hL2,hH.keep (lies_setCell (lies_setCell hw' sh) fun c hc=>⟨hc,fun e=>d1 g2 hT2 (e ▸ hc)⟩),hT.keep (lies_setCell (lies_setCell hw' st) fun c hc=>⟨hc,fun e=>d2 g2 hT2 (e ▸ hc)⟩),fun _ h=>Or.inl h,fun _ h=>Or.inr (Or.inl h),fun _ h=>Or.inr (Or.inr h),d1,d2,d3⟩
  (fun c hc=>hc.imp id (fun h=>h.imp id Or.inl))
 have he:lastSet (clockSet X n v) n r k v' = { X with nodes:=X.nodes.set n { X.nodes.getD n N.zero with clock:=v,last:=(X.nodes.getD n N.zero).last.set r (((X.nodes.getD n N.zero).last.getD r []).set k v') } }:=by
  unfold lastSet
  rw [clockSet_getD hi]
  simp [clockSet]
 rw [he]
 exact this.mono (fun c hc=>hc.elim id (fun h=>h.elim (fun h=>(sl c h).1) (fun h=>h.elim (fun h=>(sh c h).1) (fun h=>(st c h).1))))
theorem MvSt.drewN {w wr:World} {B C:Nat} {S:Nat → Prop} {gv nv wv:Value} {m:M} (h:MvSt w wr B C S gv nv wv m) (n:Nat):MvSt w (wr.drewN n) B C S gv nv wv m:=
 ⟨h.1.keep rfl,h.2.1.keep rfl,h.2.2.1.keep rfl,below_trans h.2.2.2.1 (below_drewN wr n),h.2.2.2.2⟩
end Go.Proofs.YtnalakhelicjcaaGreatDoor
set_option maxRecDepth 100000
namespace Go.Proofs.YtnalakhelicjcaaGreatDoor
open Go.RowKit Go.Shelf Go.BigFrame
set_option maxHeartbeats 8000000 in
theorem Step_c {w:World} {gv nv wv:Value} {X:Wd} (hg:Ints w gv X.groups) (hn:Nodes w nv X.nodes) (hw:Wires w wv X.wires) (hX:Fit X) (hFa:Fares X) (hri:∀ x ∈ X.nodes,risesB x.held = true) {a b:Nat} (ha:a < X.nodes.length) (hb:b < X.nodes.length) :
  Calls Tryz.prog 98 #[.agg #[gv,nv,wv], .int .i64 a, .int .i64 b] w (WPost w (moveR X a b)):=by
 replace hri:=Lib.hid hri
 obtain ⟨hnl,na,ncap,rfl,hnc⟩:=hn.form
 obtain ⟨hwl,_⟩:=hw.form
 obtain ⟨hgl,ga,gcap,rfl,_⟩:=hg.open
 have hrowl:=hX.row ha
 have hwX:=hX.wires
 obtain ⟨bw,ow,wcap,u1,rfl,hwc,r1,hu1⟩:=hw.row (show a < X.wires.length by omega)
 obtain ⟨bx,ox,xcap,u2,rfl,hxc,r2,hu2⟩:=hu1.at (show b < (X.wires.getD a []).length by rw [hrowl];exact hb)
 obtain ⟨hul,ua,ucap,rfl,huc,_⟩:=hu2.open
 have hA:=below_a2 w (.cells #[.slice ga X.groups.length gcap, .slice na X.nodes.length ncap, .slice (some ⟨bw,ow,none⟩) X.wires.length wcap] 35) (.cells #[.slice none 0 0, .slice none 0 0, .slice none 0 0] 35)
 have hB:=(OBox.new w 35 (.slice ga X.groups.length gcap) (.slice na X.nodes.length ncap) (.slice (some ⟨bw,ow,none⟩) X.wires.length wcap)).keep (Go.Deep.blk_alloc_lt _ (.cells #[.slice none 0 0, .slice none 0 0, .slice none 0 0] 35) _ (by rw [World.size_alloc];omega))
 have hRb:=OBox.new (w.alloc (.cells #[.slice ga X.groups.length gcap, .slice na X.nodes.length ncap, .slice (some ⟨bw,ow,none⟩) X.wires.length wcap] 35)) 35 (.slice none 0 0) (.slice none 0 0) (.slice none 0 0)
 have hsA:((w.alloc (.cells #[.slice ga X.groups.length gcap, .slice na X.nodes.length ncap, .slice (some ⟨bw,ow,none⟩) X.wires.length wcap] 35)).alloc (.cells #[.slice none 0 0, .slice none 0 0, .slice none 0 0] 35)).heap.size = w.heap.size + 2:=by rw [World.size_alloc,World.size_alloc]
 rw [World.size_alloc] at hRb
 have hR:moveR X a b = if (wireL X a b).length = 0 then (7,Wd.none) else castEnd (comeW X a b ((wireL X a b).getD 0 M.zero) ((wireL X a b).drop 1)) b ((wireL X a b).getD 0 M.zero):=rfl
 generalize moveR X a b = r at *
 obtain ⟨P,hP⟩:∃ P,WPost w r = P:=⟨_,rfl⟩
 rw [hP]
 replace hP:=Lib.hid hP
 have hwlen:b < (X.wires.getD a []).length:=by rw [hrowl];exact hb
 have hwi:a < X.wires.length:=by omega
 obtain ⟨l,hl⟩:∃ l,wireL X a b = l:=⟨_,rfl⟩
 have hl':(X.wires.getD a []).getD b [] = l:=hl
 rw [hl'] at r2 hul huc
 rw [hl] at hR
 clear hl hu2 hu1
 obtain ⟨rl,hrl⟩:∃ rl,(X.wires.getD a []).length = rl:=⟨_,rfl⟩
 rw [hrl] at r1 hxc hwlen
 replace hrl:=Lib.hid hrl
 replace hl':=Lib.hid hl'
 replace hrowl:=Lib.hid hrowl
 replace hwX:=Lib.hid hwX
 replace hX:=Lib.hid hX
 replace hFa:=Lib.hid hFa
 cases l with
 | nil =>
  rw [if_pos (show ([]:List M).length = 0 from rfl)] at hR
  subst hR
  replace hsA:=Lib.hid hsA
  simp only [List.length_nil] at r2
  go_enter Tryz.func98,Tryz.ntmps98
  go_upto_region 1 with fail
  generalize (w.alloc (.cells #[.slice ga X.groups.length gcap, .slice na X.nodes.length ncap, .slice (some ⟨bw,ow,none⟩) X.wires.length wcap] 35)).alloc (.cells #[.slice none 0 0, .slice none 0 0, .slice none 0 0] 35) = wA at *
  have r1:=(hA.cell (p:=⟨bw,ow + a,none⟩) (cell_lt r1)).trans r1
  have r2:=(hA.cell (p:=⟨bx,ox + b,none⟩) (cell_lt r2)).trans r2
  obtain ⟨hBi,b0,b1,b2⟩:=hB
  have hf0:=hRb.1.frozen 0
  have hf1:=hRb.1.frozen 1
  have hf2:=hRb.1.frozen 2
  have hRK:=hRb
  obtain ⟨_,z0,z1,z2⟩:=hRb
  obtain ⟨f0,f1,f2⟩:=hRK.put3 (.slice none 0 0) (.slice none 0 0) (.slice none 0 0)
  go_wp2_with ((with_reducible refine bodyPost_ret (v:=.tuple #[.agg #[.slice none 0 0, .slice none 0 0, .slice none 0 0], .int .i64 7]) ?_ rfl ?_);(focus (simp [results,Tryz.f98];go_simp)))
  rw [← hP.out]
  exact WPost.none (set3_below hA (by omega))
 | cons m l =>
  rw [if_neg (by simp)] at hR
  simp only [List.getD_cons_zero,List.drop_succ_cons,List.drop_zero] at hR
  simp only [List.length_cons] at r2 hul huc
  replace hR:=Lib.hid hR
  go_enter Tryz.func98,Tryz.ntmps98
  go_upto_region 1 with fail
  generalize (w.alloc (.cells #[.slice ga X.groups.length gcap, .slice na X.nodes.length ncap, .slice (some ⟨bw,ow,none⟩) X.wires.length wcap] 35)).alloc (.cells #[.slice none 0 0, .slice none 0 0, .slice none 0 0] 35) = wA at *
  have r1:=(hA.cell (p:=⟨bw,ow + a,none⟩) (cell_lt r1)).trans r1
  have r2:=(hA.cell (p:=⟨bx,ox + b,none⟩) (cell_lt r2)).trans r2
  have hOwn:=Own_c (hg.below hA) (hn.below hA) (hw.below hA) hX.out.small
  obtain ⟨hBi,b0,b1,b2⟩:=hB
  go_wp2_with fail
  refine hOwn.mono ?_
  rintro e w1 ⟨gv1,nv1,wv1,S1,rfl,hO1,hS1,hb1⟩
  obtain ⟨pg,pn,pw⟩:=hO1.parts
  obtain ⟨_,ga1,gcap1,rfl,_⟩:=pg.open
  obtain ⟨_,na1,ncap1,rfl,_⟩:=pn.form
  obtain ⟨_,wa1,wcap1,rfl,_⟩:=pw.form
  clear pg pn pw hOwn r1 r2
  have hsA2:wA.heap.size ≤ w1.heap.size:=hb1.size
  have hRK1:=hRb.keep (hb1.block _ hRb.lt)
  have hA1:=below_trans hA hb1
  have hOB:=OBox.new w1 35 (.slice ga1 X.groups.length gcap1) (.slice na1 X.nodes.length ncap1) (.slice wa1 X.wires.length wcap1)
  have hbB:=below_a1 w1 (.cells #[.slice ga1 X.groups.length gcap1, .slice na1 X.nodes.length ncap1, .slice wa1 X.wires.length wcap1] 35)
  have hsB:(w1.alloc (.cells #[.slice ga1 X.groups.length gcap1, .slice na1 X.nodes.length ncap1, .slice wa1 X.wires.length wcap1] 35)).heap.size = w1.heap.size + 1:=World.size_alloc _ _
  clear b0 b1 b2 hBi hRb
  go_upto_region 4 with fail
  generalize w1.alloc (.cells #[.slice ga1 X.groups.length gcap1, .slice na1 X.nodes.length ncap1, .slice wa1 X.wires.length wcap1] 35) = wB at *
  have hO2:=(hO1.keep (w':=wB) (fun c hc=>hbB.block c (hS1 c hc).2)).any
  have hRK2:=hRK1.keep (hbB.block _ hRK1.lt)
  have hA2:=below_trans hA1 hbB
  clear hO1 hA1 hbB hb1 hRK1 hA
  obtain ⟨g1,cap1,g2,cap2,bm,off,mcap,e1,hc1,hg1S,hg1l,k1,hc2,hg2S,hg2l,hg12,hg2b,k2,hm1,hm2,hmc,hmf,hset⟩:=hO2.wire_tail hwi (by rw [hrl.out];exact hwlen) hl'.out
  cases e1
  rw [hrl.out] at k1 hc2
  have m0:wB.cell? ⟨bm,off,none⟩ = some (.int .i64 m.src):=hmc 0 (by omega)
  have m1:wB.cell? ⟨bm,off + 1,none⟩ = some (.int .i64 m.grp):=hmc 1 (by omega)
  have m2:wB.cell? ⟨bm,off + 2,none⟩ = some (.int .i64 m.stamp):=hmc 2 (by omega)
  have m3:wB.cell? ⟨bm,off + 3,none⟩ = some (.bool m.null):=hmc 3 (by omega)
  have m4:wB.cell? ⟨bm,off + 4,none⟩ = some (.string m.body):=hmc 4 (by omega)
  replace hmc:=Lib.hid hmc
  replace hset:=Lib.hid hset
  have hOBK:=hOB
  obtain ⟨_,o0,o1,o2⟩:=hOB
  replace hsB:=Lib.hid hsB
  go_upto_region 5 with fail
  go_upto_region 6 with fail
  have hMB:=MsgBox.new wB m 96
  have hbC:=below_a1 wB (.cells #[.int .i64 m.src, .int .i64 m.grp, .int .i64 m.stamp, .bool m.null, .string m.body] 96)
  have hsC:(wB.alloc (.cells #[.int .i64 m.src, .int .i64 m.grp, .int .i64 m.stamp, .bool m.null, .string m.body] 96)).heap.size = wB.heap.size + 1:=World.size_alloc _ _
  generalize wB.alloc (.cells #[.int .i64 m.src, .int .i64 m.grp, .int .i64 m.stamp, .bool m.null, .string m.body] 96) = wC at *
  have o0:=(hbC.cell (p:=⟨w1.heap.size,0,none⟩) (cell_lt o0)).trans o0
  have o1:=(hbC.cell (p:=⟨w1.heap.size,1,none⟩) (cell_lt o1)).trans o1
  have o2:=(hbC.cell (p:=⟨w1.heap.size,2,none⟩) (cell_lt o2)).trans o2
  have k1:=(hbC.cell (p:=⟨g1,a,none⟩) hg1l).trans k1
  have k2:=(hbC.cell (p:=⟨g2,b,none⟩) hg2l).trans k2
  clear m0 m1 m2 m3 m4
  obtain ⟨m0,m1,m2,m3,m4⟩:=hMB
  have hOBK:=hOBK.keep (hbC.block _ hOBK.lt)
  have hRK3:=hRK2.keep (hbC.block _ hRK2.lt)
  have hA3:=below_trans hA2 hbC
  have hlC:Lies S1 wB wC:=fun c hc=>hbC.block c (by have:=hS1 c hc;have:=hsB.out;omega)
  have hg2b':=hg2b.same (hbC.block g2 hg2l)
  have hf2:=hg2b'.frozen b
  have hg2C:g2 < wC.heap.size:=by omega
  replace hsC:=Lib.hid hsC
  clear hO2 hA2 hRK2 hbC
  have hml:(1:Int) ≤ (l.length:Int) + 1:=by omega
  obtain ⟨ta,hta⟩:∃ ta,tailA bm off mcap = ta:=⟨_,rfl⟩
  have hta2:(if mcap = 1 then some ⟨bm,off,none⟩ else some ⟨bm,off + 5,none⟩) = ta:=hta
  replace hta:=Lib.hid hta
  go_upto_region 7 with fail
  have hO3:OWd false (wC.setCell ⟨g2,b,none⟩ (.slice ta l.length (mcap - 1))) S1 (.slice ga1 X.groups.length gcap1) (.slice na1 X.nodes.length ncap1) (.slice (some ⟨g1,0,none⟩) X.wires.length wcap1) (wireSet X a b l):=by
   have:=hset.out wC hlC
   unfold tailV at this
   rw [hta.out] at this
   exact this
  have hMS:MvSt w (wC.setCell ⟨g2,b,none⟩ (.slice ta l.length (mcap - 1))) w1.heap.size wB.heap.size S1 (.slice ga1 X.groups.length gcap1) (.slice na1 X.nodes.length ncap1) (.slice (some ⟨g1,0,none⟩) X.wires.length wcap1) m:=
   MvSt.set ⟨hOBK,hRK3,⟨m0,m1,m2,m3,m4⟩,hA3,fun c hc=>by have:=hS1 c hc;have:=hsB.out;have:=hsC.out;omega⟩ hg2S b _
  generalize wC.setCell ⟨g2,b,none⟩ (.slice ta l.length (mcap - 1)) = wD at *
  clear hset hlC hOBK hRK3 m0 m1 m2 m3 m4 hA3 o0 o1 o2 k1 k2 hg2b hg2b' hf2 hta hta2 hml hg1S hg1l hg2S hg2l hg2C hmc hc2 hc1 hg12 hm1 hm2 r1 r2 hxc
  obtain ⟨C,hC⟩:∃ C,wB.heap.size = C:=⟨_,rfl⟩
  simp only [hC] at hMS ⊢
  clear hC hsB hsC
  obtain ⟨B,hBe⟩:∃ B,w1.heap.size = B:=⟨_,rfl⟩
  simp only [hBe] at hMS ⊢
  have hwB:w.heap.size + 2 ≤ B:=by omega
  clear hBe hS1
  have hst:I64 m.stamp:=hmf.2.2.1
  have hgr:=hFa.out _ (getD_mem X.wires [] hwi) _ (getD_mem _ [] (by rw [hrl.out];exact hwlen)) m (by rw [hl'.out];exact List.mem_cons_self ..)
  obtain ⟨q,hq⟩:=Int.eq_ofNat_of_zero_le hgr.1
  have htab:=hX.out.tab hb
  have hqg:q < (X.nodes.getD b N.zero).last.length:=by rw [htab.1];have:=hgr.2.1;omega
  have hrow2:((X.nodes.getD b N.zero).last.getD q []).length = X.nodes.length:=htab.2 _ (getD_mem _ [] hqg)
  obtain ⟨gn,nc,g3,cap3,g4,cap4,e1,hnc2,hgnS,hg4S,hg4n,hgnb,hg4b,c0,hI,c1,hc3,k3,hc4,k4,hI4,hset⟩:=hO3.seen_at (n:=b) (r:=q) (k:=a) hb hqg (by show a < ((X.nodes.getD b N.zero).last.getD q []).length;rw [hrow2];exact ha)
  cases e1
  have hcome:=comeW_eq (X:=X) (a:=a) (b:=b) (m:=m) (l:=l) hb
  have hqt:m.grp.toNat = q:=by rw [hq];rfl
  rw [hqt] at hcome
  change wD.cell? ⟨gn,b * 4,none⟩ = some (.int .i64 (X.nodes.getD b N.zero).clock) at c0
  change I64 (X.nodes.getD b N.zero).clock at hI
  change wD.cell? ⟨gn,b * 4 + 1,none⟩ = some (.slice (some ⟨g3,0,none⟩) (X.nodes.getD b N.zero).last.length cap3) at c1
  change (X.nodes.getD b N.zero).last.length ≤ cap3 at hc3
  change wD.cell? ⟨g3,q,none⟩ = some (.slice (some ⟨g4,0,none⟩) ((X.nodes.getD b N.zero).last.getD q []).length cap4) at k3
  change ((X.nodes.getD b N.zero).last.getD q []).length ≤ cap4 at hc4
  change wD.cell? ⟨g4,a,none⟩ = some (.int .i64 (((X.nodes.getD b N.zero).last.getD q []).getD a 0)) at k4
  change I64 (((X.nodes.getD b N.zero).last.getD q []).getD a 0) at hI4
  rw [hrow2] at k3 hc4
  obtain ⟨ck,hck⟩:∃ ck,(X.nodes.getD b N.zero).clock = ck:=⟨_,rfl⟩
  rw [hck] at c0 hI hcome
  obtain ⟨lw,hlw⟩:∃ lw,((X.nodes.getD b N.zero).last.getD q []).getD a 0 = lw:=⟨_,rfl⟩
  rw [hlw] at k4 hI4 hcome
  obtain ⟨ll,hll⟩:∃ ll,(X.nodes.getD b N.zero).last.length = ll:=⟨_,rfl⟩
  rw [hll] at c1 hc3 hqg
  clear hck hlw hll hgr htab hrow2 hqt
  replace hset:=Lib.hid hset
  replace hcome:=Lib.hid hcome
  obtain ⟨⟨_,o0,o1,o2⟩,_,⟨m0,m1,m2,m3,m4⟩,_,hlt⟩:=id hMS
  replace hlt:=Lib.hid hlt
  rw [hq] at m1
  replace hq:=Lib.hid hq
  go_upto_region 8 with fail
  go_quiet (fail)
  go_upto_region 9 with fail
  have hMSq:=hMS.drewN nq
  have hcC:∀ (W:World) (u:Value),W.cell? ⟨C,2,none⟩ = some (.int .i64 m.stamp) ∧ W.cell? ⟨g4,a,none⟩ = some (.int .i64 lw) → (W.setCell ⟨gn,b * 4,none⟩ u).cell? ⟨C,2,none⟩ = some (.int .i64 m.stamp) ∧ (W.setCell ⟨gn,b * 4,none⟩ u).cell? ⟨g4,a,none⟩ = some (.int .i64 lw):=fun W u hW =>
   ⟨(World.cell?_of_block (w:=W) (a:=⟨C,2,none⟩) (Go.Deep.blk_setCell_other _ _ _ _ (by have:=hlt.out gn hgnS;show C ≠ gn;omega))).trans hW.1,(World.cell?_of_block (w:=W) (a:=⟨g4,a,none⟩) (Go.Deep.blk_setCell_other _ _ _ _ hg4n)).trans hW.2⟩
  replace hcC:=Lib.hid hcC
  have hf1:=hgnb.frozen (b * 4)
  have hf4:=hg4b.frozen a
  refine wp_region_N (fun w'=>w'.cell? ⟨C,2,none⟩ = some (.int .i64 m.stamp) ∧ w'.cell? ⟨g4,a,none⟩ = some (.int .i64 lw)) 18 20 rfl (by kernel_rfl) ⟨m2,k4⟩ (fun hSw=>?_)
  refine tk 0 ?_ rfl rfl (by kernel_rfl) (.inl ⟨by rfl, ?_⟩) hSw ?_
  rotate_left
  ·rintro w ⟨s0,s1⟩;go_simp;try with_reducible rfl
  simp only [tkp,tkz,tks]
  refine tk 1 ?_ rfl rfl (by kernel_rfl) (.inl ⟨by rfl, ?_⟩) hSw ?_
  rotate_left
  ·rintro w ⟨s0,s1⟩;go_simp;try with_reducible rfl
  simp only [tkp,tkz,tks]
  refine tk 2 ?_ rfl rfl (by kernel_rfl) (.inl ⟨by rfl, ?_⟩) hSw ?_
  rotate_left
  ·rintro w ⟨s0,s1⟩;go_simp;try with_reducible rfl
  simp only [tkp,tkz,tks]
  refine tk 3 ?_ rfl rfl (by kernel_rfl) (.inl ⟨by rfl, ?_⟩) hSw ?_
  rotate_left
  ·rintro w ⟨s0,s1⟩;go_simp;try with_reducible rfl
  simp only [tkp,tkz,tks]
  refine tk 4 ?_ rfl rfl (by kernel_rfl) (.inl ⟨by rfl, ?_⟩) hSw ?_
  rotate_left
  ·rintro w ⟨s0,s1⟩;go_simp;try with_reducible rfl
  simp only [tkp,tkz,tks]
  refine tk 6 ?_ rfl rfl (by kernel_rfl) (.inl ⟨by rfl, ?_⟩) hSw ?_
  rotate_left
  ·rintro w ⟨s0,s1⟩;go_simp;try with_reducible rfl
  simp only [tkp,tkz,tks]
  refine tk 7 ?_ rfl rfl (by kernel_rfl) (.inl ⟨by rfl, ?_⟩) hSw ?_
  rotate_left
  ·rintro w ⟨s0,s1⟩;go_simp;try with_reducible rfl
  simp only [tkp,tkz,tks]
  refine tk 9 ?_ rfl rfl (by kernel_rfl) (.inl ⟨by rfl, ?_⟩) hSw ?_
  rotate_left
  ·rintro w ⟨s0,s1⟩;go_simp;try with_reducible rfl
  simp only [tkp,tkz,tks]
  refine tk 10 ?_ rfl rfl (by kernel_rfl) (.inl ⟨by rfl, ?_⟩) hSw ?_
  rotate_left
  ·rintro w ⟨s0,s1⟩;go_simp;try with_reducible rfl
  simp only [tkp,tkz,tks]
  refine tk 11 ?_ rfl rfl (by kernel_rfl) (.inl ⟨by rfl, ?_⟩) hSw ?_
  rotate_left
  ·rintro w ⟨s0,s1⟩;go_simp;try with_reducible rfl
  simp only [tkp,tkz,tks]
  refine tk 12 ?_ rfl rfl (by kernel_rfl) (.inl ⟨by rfl, ?_⟩) hSw ?_
  rotate_left
  ·rintro w ⟨s0,s1⟩;go_simp;try with_reducible rfl
  simp only [tkp,tkz,tks]
  refine tk 13 ?_ rfl rfl (by kernel_rfl) (.inl ⟨by rfl, ?_⟩) hSw ?_
  rotate_left
  ·rintro w ⟨s0,s1⟩;go_simp;try with_reducible rfl
  simp only [tkp,tkz,tks]
  refine tk 14 ?_ rfl rfl (by kernel_rfl) (.inl ⟨by rfl, ?_⟩) hSw ?_
  rotate_left
  ·rintro w ⟨s0,s1⟩;go_simp;try with_reducible rfl
  simp only [tkp,tkz,tks]
  obtain ⟨v2,hv2⟩:∃ v2,(if lw < m.stamp then m.stamp else lw) = v2:=⟨_,rfl⟩
  rw [hv2]
  replace hv2:=Lib.hid hv2
  refine N_one' (i:=5) (by kernel_rfl) rfl ?_
  go_wp2_with fail
  refine QK_normal ⟨?_, ?_⟩
  ·first | exact fun _=>hSw | exact hSw
  refine tk 8 ?_ rfl rfl (by kernel_rfl) (.inl ⟨by rfl, ?_⟩) hSw ?_
  rotate_left
  ·rintro w ⟨s0,s1⟩;go_simp;try with_reducible rfl
  simp only [tkp,tkz,tks]
  obtain ⟨v1,hv1⟩:∃ v1,(if ck < m.stamp then m.stamp else ck) = v1:=⟨_,rfl⟩
  rw [hv1]
  replace hv1:=Lib.hid hv1
  refine N_one' (i:=15) (by kernel_rfl) rfl ?_
  go_wp2_with fail
  refine QK_normal ⟨?_, ?_⟩
  ·first | exact fun _=>hSw | exact hSw
  refine N_one' (i:=16) (by kernel_rfl) rfl ?_
  go_wp2_with fail
  refine QK_normal ⟨?_, ?_⟩
  ·first | exact fun _=>hSw | exact hSw
  refine N_one' (i:=17) (by kernel_rfl) rfl ?_
  go_wp2_with fail
  refine QK_normal ⟨?_, ?_⟩
  ·first | exact fun _=>hcC.out _ _ hSw | exact hcC.out _ _ hSw
  refine N_rest 18 2 (Nat.le_refl _) rfl (by kernel_rfl) ?_
  simp only [List.drop_succ_cons,List.drop_zero]
  go_upto_region 10 with fail
  have hv1':I64 v1:=by have:=hv1.out;unfold I64 at *;omega
  have hv2':I64 v2:=by have:=hv2.out;unfold I64 at *;omega
  have hO5:=hset.out (wD.drewN (nq + 1)) v1 v2 (fun _ _=>rfl) hv1' hv2'
  have hMS5:=((hMS.drewN (nq + 1)).set hgnS (b * 4) (.int .i64 v1)).set hg4S a (.int .i64 v2)
  rw [show v1 = max ck m.stamp by have:=hv1.out;omega,show v2 = max lw m.stamp by have:=hv2.out;omega] at hO5
  rw [← hcome.out] at hO5
  rw [show max ck m.stamp = v1 by have:=hv1.out;omega,show max lw m.stamp = v2 by have:=hv2.out;omega] at hO5
  generalize ((wD.drewN (nq + 1)).setCell ⟨gn,b * 4,none⟩ (.int .i64 v1)).setCell ⟨g4,a,none⟩ (.int .i64 v2) = wF at *
  obtain ⟨hFZ,hFaZ⟩:=comeW_fit hX.out hFa.out ha hb hl'.out
  have hZl:(comeW X a b m l).nodes.length = X.nodes.length:=by simp [comeW]
  have hZh:risesB ((comeW X a b m l).nodes.getD b N.zero).held = true:=by
   rw [show (comeW X a b m l).nodes.getD b N.zero = { X.nodes.getD b N.zero with clock:=max (X.nodes.getD b N.zero).clock m.stamp,last:=(X.nodes.getD b N.zero).last.set m.grp.toNat (((X.nodes.getD b N.zero).last.getD m.grp.toNat []).set a (max (((X.nodes.getD b N.zero).last.getD m.grp.toNat []).getD a 0) m.stamp)) } from getD_set_eq _ _ _ hb]
   exact (hri.out (X.nodes.getD b N.zero) (getD_mem X.nodes N.zero hb) :)
  generalize comeW X a b m l = Z at *
  have hnZ:b < Z.nodes.length:=by rw [hZl];exact hb
  have hlZ:=hFZ.lists _ (getD_mem Z.nodes N.zero hnZ)
  clear hset hcome hv1 hv2 hv1' hv2' hMS hO3 hcC hSw m0 m1 m2 m3 m4 o0 o1 o2 c0 k4 hI hI4 c1 k3 hc3 hc4 hf1 hf4 hgnb hg4b hMSq
  obtain ⟨hQ,hRb,hMB,hbl,hS⟩:=hMS5
  have hH:=Hold_c hQ hO5 (fun c hc=>(hS c hc).2.1) (fun h=>(hS B h).2.2.1 rfl) hnZ (hFZ.tab hnZ) hZh (by omega) hmf
  unfold M.val at hH
  rw [← hR.out] at hH
  have hfl:=castEnd_fail (X:=Z) (n:=b) (m:=m)
  rw [← hR.out] at hfl
  obtain ⟨_,o0,o1,o2⟩:=id hQ
  obtain ⟨m0,m1,m2,m3,m4⟩:=hMB
  clear hR
  go_wp2_with fail
  refine hH.mono ?_
  rintro e w2 ⟨rfl,hwi,hok⟩
  clear hH o0 o1 o2 m0 m1 m2 m3 m4
  have hlw:∀ c,c < w.heap.size + 2 ∨ c = B → w2.heap[c]? = wF.heap[c]?:=fun c hc=>hwi.lies c (by have:=hQ.lt;have:=hRb.lt;omega) (fun h=>by have:=hS c h;omega)
  have hQ2:=hQ.keep (hlw _ (Or.inr rfl))
  have hR2:=hRb.keep (hlw _ (Or.inl (by omega)))
  have hbl2:Below w.heap.size w w2:=hbl.trans (hwi.below (by have:=hRb.lt;omega) (fun c hc=>by have:=hS c hc;omega))
  obtain ⟨hf0,hf1,hf2,z0,z1,z2⟩:=hR2.all
  have hsF:=hRb.lt
  clear hlw
  replace hlt:=Lib.hid hlt
  by_cases hz:r.1 = 0
  ·have hne:(r.1 != 0) = false:=by simpa using hz
   obtain ⟨S3,hO6,hS3⟩:=hok hz
   have hlo3:∀ c,S3 c → w.heap.size + 2 ≤ c ∧ c < w2.heap.size:=fun c hc=>⟨by
    rcases (hS3 c hc).1 with h | h
    ·exact (hS c h).1
    ·omega,(hS3 c hc).2⟩
   replace hz:=Lib.hid hz
   replace hS:=Lib.hid hS
   replace hlo3:=Lib.hid hlo3
   clear hok hfl hS3
   obtain ⟨_,o0,o1,o2⟩:=id hQ2
   obtain ⟨f0,f1,f2⟩:=hR2.put3 (.slice ga1 X.groups.length gcap1) (.slice (some ⟨gn,0,none⟩) X.nodes.length ncap1) (.slice (some ⟨g1,0,none⟩) X.wires.length wcap1)
   go_wp2_with ((with_reducible refine bodyPost_ret (v:=.tuple #[.agg #[.slice ga1 X.groups.length gcap1, .slice (some ⟨gn,0,none⟩) X.nodes.length ncap1, .slice (some ⟨g1,0,none⟩) X.wires.length wcap1], .int .i64 0]) ?_ rfl ?_);(focus (simp [results,Tryz.f98];go_simp)))
   rw [← hP.out]
   refine ⟨_,_,_,S3,by rw [hz.out],(hO6.keep (fun c hc=>?_)).any,fun c hc=>?_,set3_below hbl2 (by omega)⟩
   ·have h:=hlo3.out c hc
    rw [set3_blk (by show c ≠ w.heap.size + 1;omega)]
   ·have h:=hlo3.out c hc
    rw [set3_size]
    omega
  ·have hne:(r.1 != 0) = true:=by simpa using hz
   have hr2:=hfl hz
   replace hz:=Lib.hid hz
   replace hS:=Lib.hid hS
   clear hok hfl
   obtain ⟨e0,he0⟩:∃ e0,r.1 = e0:=⟨_,rfl⟩
   rw [he0] at hr2 hne ⊢
   clear he0
   subst hr2
   obtain ⟨f0,f1,f2⟩:=hR2.put3 (.slice none 0 0) (.slice none 0 0) (.slice none 0 0)
   go_wp2_with ((with_reducible refine bodyPost_ret (v:=.tuple #[.agg #[.slice none 0 0, .slice none 0 0, .slice none 0 0], .int .i64 e0]) ?_ rfl ?_);(focus (simp [results,Tryz.f98];go_simp)))
   rw [← hP.out]
   exact WPost.none (set3_below hbl2 (by omega))
end Go.Proofs.YtnalakhelicjcaaGreatDoor
set_option maxRecDepth 100000
namespace Go.Proofs.YtnalakhelicjcaaGreatDoor
open Go.RowKit
structure Ended (Z:Wd) (n:Nat) (m:M) (Y:Wd):Prop where
 right:Right Y
 len:Y.nodes.length = Z.nodes.length
 groups:Y.groups = Z.groups
 wires:Y.wires = Z.wires
 others:∀ k,k ≠ n → Y.nodes.getD k N.zero = Z.nodes.getD k N.zero
 clock:(Y.nodes.getD n N.zero).clock = (Z.nodes.getD n N.zero).clock
 count:(Y.nodes.getD n N.zero).held.length + (Y.nodes.getD n N.zero).told.length = (Z.nodes.getD n N.zero).held.length + (Z.nodes.getD n N.zero).told.length + (if m.null = true then 0 else 1)
theorem tellW_ended {Z:Wd} {n:Nat} (h:Right Z) (hn:n < Z.nodes.length) (he:tellE Z n = 0) :
  Right (tellW Z n) ∧ (tellW Z n).nodes.length = Z.nodes.length ∧ (tellW Z n).groups = Z.groups ∧ (tellW Z n).wires = Z.wires ∧ (∀ k,k ≠ n → (tellW Z n).nodes.getD k N.zero = Z.nodes.getD k N.zero) ∧
   ((tellW Z n).nodes.getD n N.zero).clock = (Z.nodes.getD n N.zero).clock ∧
   ((tellW Z n).nodes.getD n N.zero).held.length + ((tellW Z n).nodes.getD n N.zero).told.length = (Z.nodes.getD n N.zero).held.length + (Z.nodes.getD n N.zero).told.length:=by
 refine ⟨tellW_right h hn he,by rw [tellW_set,nodeSet_len],rfl,rfl,fun k hk=>by rw [tellW_set,nodeSet_ne (Ne.symm hk)],by rw [tellW_at hn], ?_⟩
 have:=congrArg List.length (tell_all h hn)
 rw [List.length_append,List.length_append] at this
 omega
theorem castEnd_ok {Z:Wd} {n:Nat} {m:M} (h:Right Z) (hn:n < Z.nodes.length) (hm:msgE Z.nodes.length Z.groups m = 0 ∧ hasB Z.groups m.grp n = true) (he:(castEnd Z n m).1 = 0):Ended Z n m (castEnd Z n m).2:=by
 cases hnull:m.null
 ·rw [castEnd_hold hnull] at he ⊢
  split at he
  ·rename_i h6
   exact absurd he h6
  rename_i h6
  rw [if_neg h6]
  split at he
  ·rename_i h7
   exact absurd he h7
  rename_i h7
  rw [if_neg h7]
  have h6:putE (Z.nodes.getD n N.zero).held m = 0:=by simpa using h6
  have h7:tellE (holdW Z n m) n = 0:=by simpa using h7
  have hN:=h.node n hn
  have hHl:(holdW Z n m).nodes.length = Z.nodes.length:=by rw [holdW_set,nodeSet_len]
  have hH:Right (holdW Z n m):=by
   rw [holdW_set]
   exact h.setNode hn ⟨hN.clock,hN.len,hN.rows,hN.cells,putL_right hN.held h6 ⟨hnull,hm.1,hm.2⟩,hN.told⟩
  obtain ⟨t1,t2,t3,t4,t5,t6,t7⟩:=tellW_ended hH (by rw [hHl];exact hn) h7
  refine ⟨t1,by rw [t2,hHl],t3,t4,fun k hk=>(t5 k hk).trans (by rw [holdW_set,nodeSet_ne (Ne.symm hk)]),t6.trans (by rw [(holdW_at hn).2]), ?_⟩
  show ((tellW (holdW Z n m) n).nodes.getD n N.zero).held.length + ((tellW (holdW Z n m) n).nodes.getD n N.zero).told.length = _
  rw [t7,(holdW_at hn).2,hnull]
  show (putL (Z.nodes.getD n N.zero).held m).length + (Z.nodes.getD n N.zero).told.length = _
  rw [(putE_zero h6).2.2.2,putM_len]
  simp
  omega
 ·rw [castEnd_null hnull] at he ⊢
  split at he
  ·rename_i h7
   exact absurd he h7
  rename_i h7
  rw [if_neg h7]
  obtain ⟨t1,t2,t3,t4,t5,t6,t7⟩:=tellW_ended h hn (by simpa using h7)
  exact ⟨t1,t2,t3,t4,t5,t6,by rw [t7,hnull];simp⟩
structure Moved (X:Wd) (a b:Nat) (m:M) (Y:Wd):Prop where
 right:Right Y
 len:Y.nodes.length = X.nodes.length
 groups:Y.groups = X.groups
 wires:Y.wires = X.wires.set a ((X.wires.getD a []).set b ((wireL X a b).drop 1))
 others:∀ k,k ≠ b → Y.nodes.getD k N.zero = X.nodes.getD k N.zero
 clock:(X.nodes.getD b N.zero).clock ≤ (Y.nodes.getD b N.zero).clock ∧ m.stamp ≤ (Y.nodes.getD b N.zero).clock
 count:(Y.nodes.getD b N.zero).held.length + (Y.nodes.getD b N.zero).told.length = (X.nodes.getD b N.zero).held.length + (X.nodes.getD b N.zero).told.length + (if m.null = true then 0 else 1)
theorem rightE_in {K:Int} {gs:List Int} {m:M} (h:msgE K gs m = 0):inRange K gs m ∧ hasB gs m.grp m.src = true:=by
 unfold msgE at h
 split at h
 ·unfold rightE at h
  split at h
  ·rename_i hi
   split at h
   ·rename_i hh
    exact ⟨hi,hh⟩
   ·cases h
  ·cases h
 ·rename_i hg
  exact absurd h hg
theorem comeW_right {X:Wd} (h:Right X) {a b:Nat} (ha:a < X.nodes.length) (hb:b < X.nodes.length) {m:M} {l:List M} (hl:wireL X a b = m :: l):Right (comeW X a b m l):=by
 have hW:=h.wire a b ha hb
 rw [hl] at hW
 have hsrc:=hW.src m (List.mem_cons_self ..)
 obtain ⟨hm1,hm2⟩:=hW.fine m (List.mem_cons_self ..)
 obtain ⟨⟨i1,i2,i3,i4,i5,i6⟩,hh⟩:=rightE_in hm1
 have hN:=h.node b hb
 obtain ⟨q,hq⟩:=Int.eq_ofNat_of_zero_le i3
 have hqg:q < X.groups.length:=by omega
 rw [hsrc] at hh
 have hW2:Right (wirePut X a b l):=h.setWire ha hb ⟨fun x hx=>hW.src x (List.mem_cons_of_mem _ hx),(List.pairwise_cons.1 hW.rise).2,fun x hx=>hW.fine x (List.mem_cons_of_mem _ hx),Or.inl (hW.self.resolve_right (by simp)),by have:=hW.many;simp at this;omega⟩
 have he:comeW X a b m l = nodeSet (wirePut X a b l) b { X.nodes.getD b N.zero with clock:=max (X.nodes.getD b N.zero).clock m.stamp,last:=(X.nodes.getD b N.zero).last.set m.grp.toNat (((X.nodes.getD b N.zero).last.getD m.grp.toNat []).set a (max (((X.nodes.getD b N.zero).last.getD m.grp.toNat []).getD a 0) m.stamp)) }:=rfl
 rw [he,hq]
 have hqt:(q:Int).toNat = q:=Int.toNat_natCast q
 rw [hqt]
 have hrow:=hN.rows q hqg
 have hql:q < (X.nodes.getD b N.zero).last.length:=by rw [hN.len];exact hqg
 refine hW2.setNode hb ⟨?_, ?_,fun g hg=>?_,fun g k hg hk=>?_,hN.held,hN.told⟩
 ·have:=hN.clock
  show 0 ≤ max (X.nodes.getD b N.zero).clock m.stamp ∧ max (X.nodes.getD b N.zero).clock m.stamp ≤ 1048576
  omega
 ·show ((X.nodes.getD b N.zero).last.set q _).length = _
  rw [List.length_set]
  exact hN.len
 ·show (((X.nodes.getD b N.zero).last.set q _).getD g []).length = _
  by_cases e:q = g
  ·subst e
   rw [getD_set_eq _ _ _ hql,List.length_set]
   exact hrow
  ·rw [getD_set_ne' _ _ _ e]
   exact hN.rows g hg
 ·have hc:=hN.cells g k hg hk
  show (0 ≤ (((X.nodes.getD b N.zero).last.set q _).getD g []).getD k 0 ∧ (((X.nodes.getD b N.zero).last.set q _).getD g []).getD k 0 ≤ 1048576) ∧ ((hasB X.groups g b = true ∧ hasB X.groups g k = true) ∨ (((X.nodes.getD b N.zero).last.set q _).getD g []).getD k 0 = 0)
  by_cases e:q = g
  ·subst e
   rw [getD_set_eq _ _ _ hql]
   by_cases e2:a = k
   ·subst e2
    rw [getD_set_eq _ _ _ (by rw [hrow];exact ha)]
    refine ⟨by omega,Or.inl ⟨?_, ?_⟩⟩
    ·rw [← hq];exact hm2
    ·rw [← hq];exact hh
   ·rw [getD_set_ne' _ _ _ e2]
    exact hc
  ·rw [getD_set_ne' _ _ _ e]
   exact hc
theorem moveR_ok {X:Wd} (h:Right X) {a b:Nat} (ha:a < X.nodes.length) (hb:b < X.nodes.length) (he:(moveR X a b).1 = 0):∃ m l,wireL X a b = m :: l ∧ Moved X a b m (moveR X a b).2:=by
 cases hl:wireL X a b with
 | nil =>
  unfold moveR at he
  rw [hl,if_pos (show ([]:List M).length = 0 from rfl)] at he
  cases he
 | cons m l =>
  refine ⟨m,l,rfl, ?_⟩
  have hr:moveR X a b = castEnd (comeW X a b m l) b m:=by
   unfold moveR
   rw [hl,if_neg (by simp)]
   rfl
  rw [hr] at he ⊢
  have hZ:=comeW_right h ha hb hl
  have hf:=(h.wire a b ha hb).fine m (by rw [hl];exact List.mem_cons_self ..)
  have hZl:(comeW X a b m l).nodes.length = X.nodes.length:=by simp [comeW]
  have hZg:(comeW X a b m l).groups = X.groups:=rfl
  have hZn:(comeW X a b m l).nodes.getD b N.zero = { X.nodes.getD b N.zero with clock:=max (X.nodes.getD b N.zero).clock m.stamp,last:=(X.nodes.getD b N.zero).last.set m.grp.toNat (((X.nodes.getD b N.zero).last.getD m.grp.toNat []).set a (max (((X.nodes.getD b N.zero).last.getD m.grp.toNat []).getD a 0) m.stamp)) }:=getD_set_eq _ _ _ hb
  have hE:=castEnd_ok hZ (by rw [hZl];exact hb) (by rw [hZl,hZg];exact hf) he
  refine ⟨hE.right,by rw [hE.len,hZl],by rw [hE.groups,hZg],by rw [hE.wires,hl];rfl,fun k hk=>(hE.others k hk).trans (getD_set_ne' _ _ _ (Ne.symm hk)), ?_, ?_⟩
  ·rw [hE.clock,hZn]
   show (X.nodes.getD b N.zero).clock ≤ max (X.nodes.getD b N.zero).clock m.stamp ∧ m.stamp ≤ max (X.nodes.getD b N.zero).clock m.stamp
   omega
  ·rw [hE.count,hZn]
theorem moveR_wire {X:Wd} (h:Right X) {a b:Nat} (ha:a < X.nodes.length) (hb:b < X.nodes.length) (he:(moveR X a b).1 = 0):wireL (moveR X a b).2 a b = (wireL X a b).drop 1:=by
 obtain ⟨m,l,_,hM⟩:=moveR_ok h ha hb he
 show ((moveR X a b).2.wires.getD a []).getD b [] = _
 rw [hM.wires,getD_set_eq _ _ _ (by rw [h.nw];exact ha),getD_set_eq _ _ _ (by rw [h.row a ha];exact hb)]
end Go.Proofs.YtnalakhelicjcaaGreatDoor
set_option maxRecDepth 100000
namespace Go.Proofs.YtnalakhelicjcaaGreatDoor
open Go.RowKit Go.Shelf Go.BigFrame
def TwoBox (w wr:World):Prop:=(∃ pg pn pw,OBox wr w.heap.size 35 pg pn pw) ∧ OBox wr (w.heap.size + 1) 35 (.slice none 0 0) (.slice none 0 0) (.slice none 0 0) ∧ Below w.heap.size w wr
def WireSt (w wr:World) (Y:Wd):Prop:=
 ∃ (gv nv wv:Value) (S:Nat → Prop),OWd false wr S gv nv wv Y ∧ OBox wr w.heap.size 35 gv nv wv ∧ OBox wr (w.heap.size + 1) 35 (.slice none 0 0) (.slice none 0 0) (.slice none 0 0) ∧ Below w.heap.size w wr ∧ ∀ c,S c → w.heap.size + 2 ≤ c ∧ c < wr.heap.size
theorem TwoBox.next {w wr w2:World} {Z:Wd} {gv nv wv:Value} {S:Nat → Prop} (h:TwoBox w wr) (hb:Below wr.heap.size wr w2) (hO:OWd false w2 S gv nv wv Z) (hS:∀ c,S c → wr.heap.size ≤ c ∧ c < w2.heap.size) :
  WireSt w (((w2.setCell ⟨w.heap.size,0,none⟩ gv).setCell ⟨w.heap.size,1,none⟩ nv).setCell ⟨w.heap.size,2,none⟩ wv) Z:=by
 obtain ⟨⟨_,_,_,h2⟩,h3,h4⟩:=h
 have hl:=h2.lt
 have hl3:=h3.lt
 have hsz:=hb.size
 have key:∀ c:Nat,c ≠ w.heap.size → (((w2.setCell ⟨w.heap.size,0,none⟩ gv).setCell ⟨w.heap.size,1,none⟩ nv).setCell ⟨w.heap.size,2,none⟩ wv).heap[c]? = w2.heap[c]?:=fun c hc=>by
  rw [set3_blk hc]
 refine ⟨gv,nv,wv,S,hO.keep (fun c hc=>key c (by have:=hS c hc;omega)),(((h2.keep (hb.block _ hl)).set0 gv).set1 nv).set2 wv,(h3.keep (hb.block _ hl3)).keep (key _ (by omega)), ?_,fun c hc=>?_⟩
 ·exact set3_below (h4.trans (hb.mono (by omega))) (by omega)
 ·rw [set3_size]
  have:=hS c hc
  omega
set_option maxHeartbeats 4000000 in
theorem All_c {w:World} {gv nv wv:Value} {X:Wd} (hg:Ints w gv X.groups) (hn:Nodes w nv X.nodes) (hw:Wires w wv X.wires) (hR:Right X) {a b:Nat} (ha:a < X.nodes.length) (hb:b < X.nodes.length) :
  Calls Tryz.prog 128 #[.agg #[gv,nv,wv], .int .i64 a, .int .i64 b] w (WPost3 w (wireR X a b)):=by
 obtain ⟨hnl,na,ncap,rfl,hnc⟩:=hn.form
 obtain ⟨hwl,wa,wcap,rfl,hwc⟩:=hw.form
 obtain ⟨hgl,ga,gcap,rfl,_⟩:=hg.open
 obtain ⟨wA,hE,hA,hB,hRb⟩:=boxes2 w (.slice ga X.groups.length gcap) (.slice na X.nodes.length ncap) (.slice wa X.wires.length wcap) 35
 have hOw:=fun o (h:Below w.heap.size w o)=>Own_c (hg.below h) (hn.below h) (hw.below h) (errX_fit hR.err).small
 obtain ⟨P,hP⟩:∃ P,WPost3 w (wireR X a b) = P:=⟨_,rfl⟩
 rw [hP]
 replace hP:=Lib.hid hP
 have hL40:=(hR.wire a b ha hb).many
 obtain ⟨L,hL⟩:∃ L,(wireL X a b).length = L:=⟨_,rfl⟩
 rw [hL] at hL40
 go_enter Tryz.func128,Tryz.ntmps128
 go_upto_region 1 with fail
 rw [hE.out]
 clear hE
 obtain ⟨_,b0,b1,b2⟩:=id hB
 have hOw:=hOw wA hA
 go_wp2_with fail
 refine hOw.mono ?_
 rintro e w1 ⟨gv1,nv1,wv1,S1,rfl,hO1,hS1,hb1⟩
 obtain ⟨pg,pn,pw⟩:=hO1.parts
 obtain ⟨_,ga1,gcap1,rfl,_⟩:=pg.open
 obtain ⟨_,na1,ncap1,rfl,_⟩:=pn.form
 obtain ⟨_,wa1,wcap1,rfl,_⟩:=pw.form
 clear pg pn pw hOw b0 b1 b2
 have hT:TwoBox w wA:=⟨⟨_,_,_,hB⟩,hRb,hA⟩
 have hT1:=hT.next hb1 hO1.any hS1
 have hB1:=hB.keep (hb1.block _ hB.lt)
 obtain ⟨hf0,hf1,hf2,x0,x1,x2⟩:=hB1.all
 go_upto_region 2 with fail
 generalize ((w1.setCell ⟨w.heap.size,0,none⟩ (.slice ga1 X.groups.length gcap1)).setCell ⟨w.heap.size,1,none⟩ (.slice na1 X.nodes.length ncap1)).setCell ⟨w.heap.size,2,none⟩ (.slice wa1 X.wires.length wcap1) = wB at *
 clear hf0 hf1 hf2 x0 x1 x2 hB1 hT hB hRb hA hO1 hS1 hb1
 go_wp2_with fail
 go_loopw [9] (fun i wr=>∃ c:Nat,c ≤ L ∧ i = .int .i64 c ∧ ∃ Y,Hid (Right Y ∧ Y.nodes.length = X.nodes.length ∧ c + (wireL Y a b).length = L ∧ wireR X a b = wireN a b (wireL Y a b).length Y c) ∧ WireSt w wr Y) (fun i _=>L - (intOf i).toNat)
 case atStart=>exact ⟨0,by omega,rfl,X,Lib.hid ⟨hR,rfl,by omega,rfl⟩,hT1⟩
 case round =>
  clear hT1
  obtain ⟨c,hc,rfl,Y,hY,hSt⟩:=hrel
  obtain ⟨gvY,nvY,wvY,S,hO,hBx,hRx,hbw,hS⟩:=hSt
  obtain ⟨hRY,hYl,hcl,hEq⟩:=hY.out
  obtain ⟨pg,pn,pw⟩:=hO.parts
  have haY:a < Y.nodes.length:=by rw [hYl];exact ha
  have hbY:b < Y.nodes.length:=by rw [hYl];exact hb
  obtain ⟨_,na2,ncap2,rfl,_⟩:=pn.form
  obtain ⟨_,ga2,gcap2,rfl,_⟩:=pg.open
  obtain ⟨bw,ow,wcap2,u1,rfl,_,r1,hu1⟩:=pw.row (a:=a) (by rw [hRY.nw];exact haY)
  obtain ⟨bx,ox,xcap,u2,rfl,_,r2,hu2⟩:=hu1.at (a:=b) (by rw [hRY.row a haY];exact hbY)
  obtain ⟨_,ua,ucap,rfl,_⟩:=hu2.open
  rw [hRY.row a haY,hYl] at r1
  have hQ:=Step_c pg pn pw (errX_fit hRY.err) (errX_fares hRY.err) (errX_riseAll hRY.err) haY hbY
  have hE2:=moveR_wire hRY haY hbY
  have hE3:=moveR_ok hRY haY hbY
  change wr.cell? ⟨bx,ox + b,none⟩ = some (.slice ua (wireL Y a b).length ucap) at r2
  have hwN:Y.wires.length = X.nodes.length:=by rw [hRY.nw,hYl]
  replace hRY:=Lib.hid hRY
  clear pg pn pw hu1 hu2 hY
  replace hS:=Lib.hid hS
  rw [hYl,hwN] at hBx hO
  rw [hYl,hwN] at hQ
  obtain ⟨l,hl⟩:∃ l,wireL Y a b = l:=⟨_,rfl⟩
  rw [hl] at r2 hcl hEq hE2
  obtain ⟨_,x0,x1,x2⟩:=id hBx
  cases l with
  | nil =>
   simp only [List.length_nil] at r2 hcl hEq
   rw [show wireN a b 0 Y (c:Int) = (0,(c:Int),Y) from rfl] at hEq
   rw [hEq] at hP
   clear hQ hE2 hE3 hl hEq
   obtain ⟨hf0,hf1,hf2,z0,z1,z2⟩:=hRx.all
   obtain ⟨f0,f1,f2⟩:=hRx.put3 (.slice ga2 Y.groups.length gcap2) (.slice na2 X.nodes.length ncap2) (.slice (some ⟨bw,ow,none⟩) X.nodes.length wcap2)
   go_wp2_with ((with_reducible refine bodyPost_ret (v:=.tuple #[.agg #[.slice ga2 Y.groups.length gcap2, .slice na2 X.nodes.length ncap2, .slice (some ⟨bw,ow,none⟩) X.nodes.length wcap2], .int .i64 c, .int .i64 0]) ?_ rfl ?_);(focus (simp [results,Tryz.f128];go_simp)))
   rw [← hP.out]
   refine ⟨_,_,_,S,rfl,hO.keep (fun k hk=>?_),fun k hk=>?_,set3_below hbw (by omega)⟩
   ·have h:=hS.out k hk
    rw [set3_blk (by show k ≠ w.heap.size + 1;omega)]
   ·have h:=hS.out k hk
    rw [set3_size]
    omega
  | cons m l =>
   simp only [List.length_cons] at r2 hcl hEq
   have hEq2:wireR X a b = if (moveR Y a b).1 = 0 then wireN a b l.length (moveR Y a b).2 ((c:Int) + 1) else ((moveR Y a b).1,0,Wd.none):=by
    rw [hEq,wireN,hl,if_neg (by simp)]
   clear hEq hl
   obtain ⟨r,hr⟩:∃ r,moveR Y a b = r:=⟨_,rfl⟩
   rw [hr] at hQ hE2 hE3 hEq2
   clear hr
   have hpos:(0:Int) < (l.length:Int) + 1:=by omega
   go_wp2_with fail
   refine hQ.mono ?_
   rintro e w3 ⟨gv3,nv3,wv3,S3,rfl,hO3,hS3,b3⟩
   obtain ⟨pg,pn,pw⟩:=hO3.parts
   obtain ⟨_,ga3,gcap3,rfl,_⟩:=pg.open
   obtain ⟨_,na3,ncap3,rfl,_⟩:=pn.form
   obtain ⟨_,wa3,wcap3,rfl,_⟩:=pw.form
   clear pg pn pw
   have b4:=below_trans b3 (below_a1 w3 (.cells #[.slice ga3 r.2.groups.length gcap3, .slice na3 r.2.nodes.length ncap3, .slice wa3 r.2.wires.length wcap3] 35))
   have hO4:=hO3.keep (w':=w3.alloc (.cells #[.slice ga3 r.2.groups.length gcap3, .slice na3 r.2.nodes.length ncap3, .slice wa3 r.2.wires.length wcap3] 35)) (fun k hk=>Go.Deep.blk_alloc_lt _ _ _ (hS3 k hk).2)
   have hS4:∀ k,S3 k → wr.heap.size ≤ k ∧ k < (w3.alloc (.cells #[.slice ga3 r.2.groups.length gcap3, .slice na3 r.2.nodes.length ncap3, .slice wa3 r.2.wires.length wcap3] 35)).heap.size:=fun k hk=>by have h:=hS3 k hk;rw [World.size_alloc];exact ⟨h.1,by omega⟩
   have hQb:=OBox.new w3 35 (.slice ga3 r.2.groups.length gcap3) (.slice na3 r.2.nodes.length ncap3) (.slice wa3 r.2.wires.length wcap3)
   clear x0 x1 x2 hQ
   go_upto_region 6 with fail
   generalize w3.alloc (.cells #[.slice ga3 r.2.groups.length gcap3, .slice na3 r.2.nodes.length ncap3, .slice wa3 r.2.wires.length wcap3] 35) = w4 at *
   clear hO3 hS3 b3
   have hT:TwoBox w wr:=⟨⟨_,_,_,hBx⟩,hRx,hbw⟩
   have hBx4:=hBx.keep (b4.block _ hBx.lt)
   have hRx4:=hRx.keep (b4.block _ hRx.lt)
   have hb4:=below_trans hbw b4
   by_cases he:r.1 = 0
   ·have hne:(r.1 != 0) = false:=by simpa using he
    have hN:=hT.next b4 hO4 hS4
    obtain ⟨_,_,_,hM⟩:=hE3 he
    have hE2:=hE2 he
    rw [if_pos he] at hEq2
    have hRel:Right r.2 ∧ r.2.nodes.length = X.nodes.length ∧ c + 1 + (wireL r.2 a b).length = L ∧ wireR X a b = wireN a b (wireL r.2 a b).length r.2 (c + 1:Nat):=by
     refine ⟨hM.right,by rw [hM.len,hYl],by rw [hE2];simp only [List.drop_succ_cons,List.drop_zero];omega, ?_⟩
     rw [hE2,hEq2]
     simp
    replace hRel:=Lib.hid hRel
    replace he:=Lib.hid he
    replace hN:=Lib.hid hN
    clear hE2 hE3 hEq2 hM
    obtain ⟨hf0,hf1,hf2,x0,x1,x2⟩:=hBx4.all
    obtain ⟨_,y0,y1,y2⟩:=id hQb
    go_wp2_with fail
    go_roundw
    case rel=>exact ⟨c + 1,by omega,by go_num,r.2,hRel,hN.out⟩
    case measure=>simp [intOf];omega
   ·have hne:(r.1 != 0) = true:=by simpa using he
    rw [if_neg he] at hEq2
    rw [hEq2] at hP
    replace he:=Lib.hid he
    clear hE2 hE3 hEq2
    obtain ⟨e0,he0⟩:∃ e0,r.1 = e0:=⟨_,rfl⟩
    rw [he0] at hP hne ⊢
    clear he0
    obtain ⟨hf0,hf1,hf2,z0,z1,z2⟩:=hRx4.all
    obtain ⟨f0,f1,f2⟩:=hRx4.put3 (.slice none 0 0) (.slice none 0 0) (.slice none 0 0)
    go_wp2_with ((with_reducible refine bodyPost_ret (v:=.tuple #[.agg #[.slice none 0 0, .slice none 0 0, .slice none 0 0], .int .i64 0, .int .i64 e0]) ?_ rfl ?_);(focus (simp [results,Tryz.f128];go_simp)))
    rw [← hP.out]
    exact WPost3.none (set3_below hb4 (by omega))
set_option maxHeartbeats 4000000 in
theorem wire_c {w:World} {gv nv wv:Value} {X:Wd} (hg:Ints w gv X.groups) (hn:Nodes w nv X.nodes) (hw:Wires w wv X.wires) (hR:Right X) {a b:Nat} (ha:a < X.nodes.length) (hb:b < X.nodes.length) :
  Calls Tryz.prog 107 #[.agg #[gv,nv,wv], .int .i64 a, .int .i64 b] w (WPost3 w (wireR X a b)):=by
 obtain ⟨hnl,na,ncap,rfl,hnc⟩:=hn.form
 obtain ⟨hwl,wa,wcap,rfl,hwc⟩:=hw.form
 obtain ⟨hgl,ga,gcap,rfl,_⟩:=hg.open
 obtain ⟨wA,hE,hA,hB,hRb⟩:=boxes2 w (.slice ga X.groups.length gcap) (.slice na X.nodes.length ncap) (.slice wa X.wires.length wcap) 35
 have hOw:=fun o (h:Below w.heap.size w o)=>OwnWorld_c (hg.below h) (hn.below h) (hw.below h) (errX_fit hR.err).small
 obtain ⟨P,hP⟩:∃ P,WPost3 w (wireR X a b) = P:=⟨_,rfl⟩
 rw [hP]
 replace hP:=Lib.hid hP
 have hL40:=(hR.wire a b ha hb).many
 obtain ⟨L,hL⟩:∃ L,(wireL X a b).length = L:=⟨_,rfl⟩
 rw [hL] at hL40
 go_enter Tryz.func107,Tryz.ntmps107
 go_upto_region 1 with fail
 rw [hE.out]
 clear hE
 obtain ⟨_,b0,b1,b2⟩:=id hB
 have hOw:=hOw wA hA
 go_wp2_with fail
 refine hOw.mono ?_
 rintro e w1 ⟨gv1,nv1,wv1,S1,rfl,hO1,hS1,hb1⟩
 obtain ⟨pg,pn,pw⟩:=hO1.parts
 obtain ⟨_,ga1,gcap1,rfl,_⟩:=pg.open
 obtain ⟨_,na1,ncap1,rfl,_⟩:=pn.form
 obtain ⟨_,wa1,wcap1,rfl,_⟩:=pw.form
 clear pg pn pw hOw b0 b1 b2
 have hT:TwoBox w wA:=⟨⟨_,_,_,hB⟩,hRb,hA⟩
 have hT1:=hT.next hb1 hO1.any hS1
 have hB1:=hB.keep (hb1.block _ hB.lt)
 obtain ⟨hf0,hf1,hf2,x0,x1,x2⟩:=hB1.all
 go_upto_region 2 with fail
 generalize ((w1.setCell ⟨w.heap.size,0,none⟩ (.slice ga1 X.groups.length gcap1)).setCell ⟨w.heap.size,1,none⟩ (.slice na1 X.nodes.length ncap1)).setCell ⟨w.heap.size,2,none⟩ (.slice wa1 X.wires.length wcap1) = wB at *
 clear hf0 hf1 hf2 x0 x1 x2 hB1 hT hB hRb hA hO1 hS1 hb1
 go_wp2_with fail
 go_loopw [9] (fun i wr=>∃ c:Nat,c ≤ L ∧ i = .int .i64 c ∧ ∃ Y,Hid (Right Y ∧ Y.nodes.length = X.nodes.length ∧ c + (wireL Y a b).length = L ∧ wireR X a b = wireN a b (wireL Y a b).length Y c) ∧ WireSt w wr Y) (fun i _=>L - (intOf i).toNat)
 case atStart=>exact ⟨0,by omega,rfl,X,Lib.hid ⟨hR,rfl,by omega,rfl⟩,hT1⟩
 case round =>
  clear hT1
  obtain ⟨c,hc,rfl,Y,hY,hSt⟩:=hrel
  obtain ⟨gvY,nvY,wvY,S,hO,hBx,hRx,hbw,hS⟩:=hSt
  obtain ⟨hRY,hYl,hcl,hEq⟩:=hY.out
  obtain ⟨pg,pn,pw⟩:=hO.parts
  have haY:a < Y.nodes.length:=by rw [hYl];exact ha
  have hbY:b < Y.nodes.length:=by rw [hYl];exact hb
  obtain ⟨_,na2,ncap2,rfl,_⟩:=pn.form
  obtain ⟨_,ga2,gcap2,rfl,_⟩:=pg.open
  obtain ⟨bw,ow,wcap2,u1,rfl,_,r1,hu1⟩:=pw.row (a:=a) (by rw [hRY.nw];exact haY)
  obtain ⟨bx,ox,xcap,u2,rfl,_,r2,hu2⟩:=hu1.at (a:=b) (by rw [hRY.row a haY];exact hbY)
  obtain ⟨_,ua,ucap,rfl,_⟩:=hu2.open
  rw [hRY.row a haY,hYl] at r1
  have hQ:=move_c pg pn pw (errX_fit hRY.err) (errX_fares hRY.err) haY hbY
  have hE2:=moveR_wire hRY haY hbY
  have hE3:=moveR_ok hRY haY hbY
  change wr.cell? ⟨bx,ox + b,none⟩ = some (.slice ua (wireL Y a b).length ucap) at r2
  have hwN:Y.wires.length = X.nodes.length:=by rw [hRY.nw,hYl]
  replace hRY:=Lib.hid hRY
  clear pg pn pw hu1 hu2 hY
  replace hS:=Lib.hid hS
  rw [hYl,hwN] at hBx hO
  rw [hYl,hwN] at hQ
  obtain ⟨l,hl⟩:∃ l,wireL Y a b = l:=⟨_,rfl⟩
  rw [hl] at r2 hcl hEq hE2
  obtain ⟨_,x0,x1,x2⟩:=id hBx
  cases l with
  | nil =>
   simp only [List.length_nil] at r2 hcl hEq
   rw [show wireN a b 0 Y (c:Int) = (0,(c:Int),Y) from rfl] at hEq
   rw [hEq] at hP
   clear hQ hE2 hE3 hl hEq
   obtain ⟨hf0,hf1,hf2,z0,z1,z2⟩:=hRx.all
   obtain ⟨f0,f1,f2⟩:=hRx.put3 (.slice ga2 Y.groups.length gcap2) (.slice na2 X.nodes.length ncap2) (.slice (some ⟨bw,ow,none⟩) X.nodes.length wcap2)
   go_wp2_with ((with_reducible refine bodyPost_ret (v:=.tuple #[.agg #[.slice ga2 Y.groups.length gcap2, .slice na2 X.nodes.length ncap2, .slice (some ⟨bw,ow,none⟩) X.nodes.length wcap2], .int .i64 c, .int .i64 0]) ?_ rfl ?_);(focus (simp [results,Tryz.f107];go_simp)))
   rw [← hP.out]
   refine ⟨_,_,_,S,rfl,hO.keep (fun k hk=>?_),fun k hk=>?_,set3_below hbw (by omega)⟩
   ·have h:=hS.out k hk
    rw [set3_blk (by show k ≠ w.heap.size + 1;omega)]
   ·have h:=hS.out k hk
    rw [set3_size]
    omega
  | cons m l =>
   simp only [List.length_cons] at r2 hcl hEq
   have hEq2:wireR X a b = if (moveR Y a b).1 = 0 then wireN a b l.length (moveR Y a b).2 ((c:Int) + 1) else ((moveR Y a b).1,0,Wd.none):=by
    rw [hEq,wireN,hl,if_neg (by simp)]
   clear hEq hl
   obtain ⟨r,hr⟩:∃ r,moveR Y a b = r:=⟨_,rfl⟩
   rw [hr] at hQ hE2 hE3 hEq2
   clear hr
   have hpos:(0:Int) < (l.length:Int) + 1:=by omega
   go_wp2_with fail
   refine hQ.mono ?_
   rintro e w3 ⟨gv3,nv3,wv3,S3,rfl,hO3,hS3,b3⟩
   obtain ⟨pg,pn,pw⟩:=hO3.parts
   obtain ⟨_,ga3,gcap3,rfl,_⟩:=pg.open
   obtain ⟨_,na3,ncap3,rfl,_⟩:=pn.form
   obtain ⟨_,wa3,wcap3,rfl,_⟩:=pw.form
   clear pg pn pw
   have b4:=below_trans b3 (below_a1 w3 (.cells #[.slice ga3 r.2.groups.length gcap3, .slice na3 r.2.nodes.length ncap3, .slice wa3 r.2.wires.length wcap3] 35))
   have hO4:=hO3.keep (w':=w3.alloc (.cells #[.slice ga3 r.2.groups.length gcap3, .slice na3 r.2.nodes.length ncap3, .slice wa3 r.2.wires.length wcap3] 35)) (fun k hk=>Go.Deep.blk_alloc_lt _ _ _ (hS3 k hk).2)
   have hS4:∀ k,S3 k → wr.heap.size ≤ k ∧ k < (w3.alloc (.cells #[.slice ga3 r.2.groups.length gcap3, .slice na3 r.2.nodes.length ncap3, .slice wa3 r.2.wires.length wcap3] 35)).heap.size:=fun k hk=>by have h:=hS3 k hk;rw [World.size_alloc];exact ⟨h.1,by omega⟩
   have hQb:=OBox.new w3 35 (.slice ga3 r.2.groups.length gcap3) (.slice na3 r.2.nodes.length ncap3) (.slice wa3 r.2.wires.length wcap3)
   clear x0 x1 x2 hQ
   go_upto_region 5 with fail
   generalize w3.alloc (.cells #[.slice ga3 r.2.groups.length gcap3, .slice na3 r.2.nodes.length ncap3, .slice wa3 r.2.wires.length wcap3] 35) = w4 at *
   clear hO3 hS3 b3
   have hT:TwoBox w wr:=⟨⟨_,_,_,hBx⟩,hRx,hbw⟩
   have hBx4:=hBx.keep (b4.block _ hBx.lt)
   have hRx4:=hRx.keep (b4.block _ hRx.lt)
   have hb4:=below_trans hbw b4
   by_cases he:r.1 = 0
   ·have hne:(r.1 != 0) = false:=by simpa using he
    have hN:=hT.next b4 hO4 hS4
    obtain ⟨_,_,_,hM⟩:=hE3 he
    have hE2:=hE2 he
    rw [if_pos he] at hEq2
    have hRel:Right r.2 ∧ r.2.nodes.length = X.nodes.length ∧ c + 1 + (wireL r.2 a b).length = L ∧ wireR X a b = wireN a b (wireL r.2 a b).length r.2 (c + 1:Nat):=by
     refine ⟨hM.right,by rw [hM.len,hYl],by rw [hE2];simp only [List.drop_succ_cons,List.drop_zero];omega, ?_⟩
     rw [hE2,hEq2]
     simp
    replace hRel:=Lib.hid hRel
    replace he:=Lib.hid he
    replace hN:=Lib.hid hN
    clear hE2 hE3 hEq2 hM
    obtain ⟨hf0,hf1,hf2,x0,x1,x2⟩:=hBx4.all
    obtain ⟨_,y0,y1,y2⟩:=id hQb
    go_wp2_with fail
    go_roundw
    case rel=>exact ⟨c + 1,by omega,by go_num,r.2,hRel,hN.out⟩
    case measure=>simp [intOf];omega
   ·have hne:(r.1 != 0) = true:=by simpa using he
    rw [if_neg he] at hEq2
    rw [hEq2] at hP
    replace he:=Lib.hid he
    clear hE2 hE3 hEq2
    obtain ⟨e0,he0⟩:∃ e0,r.1 = e0:=⟨_,rfl⟩
    rw [he0] at hP hne ⊢
    clear he0
    obtain ⟨hf0,hf1,hf2,z0,z1,z2⟩:=hRx4.all
    obtain ⟨f0,f1,f2⟩:=hRx4.put3 (.slice none 0 0) (.slice none 0 0) (.slice none 0 0)
    go_wp2_with ((with_reducible refine bodyPost_ret (v:=.tuple #[.agg #[.slice none 0 0, .slice none 0 0, .slice none 0 0], .int .i64 0, .int .i64 e0]) ?_ rfl ?_);(focus (simp [results,Tryz.f107];go_simp)))
    rw [← hP.out]
    exact WPost3.none (set3_below hb4 (by omega))
end Go.Proofs.YtnalakhelicjcaaGreatDoor
set_option maxRecDepth 100000
namespace Go.Proofs.YtnalakhelicjcaaGreatDoor
open Go.RowKit Go.Shelf Go.BigFrame
theorem thereE_two (X:Wd) (a b:Int):thereE X [a,b] = moveE X a b:=by
 unfold thereE moveE nodeE hereB
 by_cases h:errX X = 0
 ·simp only [h,if_true,List.all_cons,List.all_nil,Bool.and_true,Bool.and_eq_true]
  by_cases h1:inB a 0 ((X.nodes.length:Int) - 1) = true
  ·by_cases h2:inB b 0 ((X.nodes.length:Int) - 1) = true <;> simp [h1,h2]
  ·simp [h1]
 ·simp [h]
set_option maxHeartbeats 2000000 in
theorem One_c {w:World} {v:Value} {X:Wd} (h:WorldAt w v X) (a b:Int) (ha64:I64 a) (hb64:I64 b):Calls Tryz.prog 78 #[v, .int .i64 a, .int .i64 b] w (WPost w (moveF X a b)):=by
 have hW0:=h
 obtain ⟨gv,nv,wv,rfl,hg,hn,hw⟩:=h
 obtain ⟨hnl,na,ncap,rfl,hnc⟩:=hn.form
 obtain ⟨hwl,wa,wcap,rfl,hwc⟩:=hw.form
 obtain ⟨hgl,ga,gcap,rfl,_⟩:=hg.open
 obtain ⟨wA,hE,hA,hB,hRb⟩:=boxes2 w (.slice ga X.groups.length gcap) (.slice na X.nodes.length ncap) (.slice wa X.wires.length wcap) 35
 have hR:moveF X a b = moveF X a b:=rfl
 conv at hR=>rhs;unfold moveF
 generalize moveF X a b = r at *
 obtain ⟨P,hP⟩:∃ P,WPost w r = P:=⟨_,rfl⟩
 rw [hP]
 replace hP:=Lib.hid hP
 go_enter Tryz.func78,Tryz.ntmps78
 go_upto_region 1 with fail
 rw [hE.out]
 clear hE
 obtain ⟨_,b0,b1,b2⟩:=id hB
 have hRl:=hRb.lt
 have hLt:=Ints.lit wA [a,b] 3 (by simp [ha64,hb64]) (by simp)
 have hb0:=below_a1 wA (.cells #[.int .i64 a, .int .i64 b] 3)
 have hE1:=There_c (hW0.below (below_trans hA hb0)) hLt
 rw [thereE_two] at hE1
 simp only [List.length_cons,List.length_nil,Nat.zero_add,Nat.reduceAdd] at hE1
 by_cases he:moveE X a b = 0
 ·obtain ⟨hx,ha0,ha1,hbb0,hbb1⟩:=moveE_ok he
  obtain ⟨a,rfl⟩:=Int.eq_ofNat_of_zero_le ha0
  obtain ⟨b,rfl⟩:=Int.eq_ofNat_of_zero_le hbb0
  have hC:=fun o (h:Below w.heap.size w o)=>Step_c (hg.below h) (hn.below h) (hw.below h) (errX_fit hx) (errX_fares hx) (errX_riseAll hx) (a:=a) (b:=b) (by omega) (by omega)
  rw [if_pos he,Int.toNat_natCast,Int.toNat_natCast] at hR
  rw [← hR] at hC
  rw [he] at hE1
  clear he hR
  replace hC:=Lib.hid hC
  go_wp2_with fail
  refine hE1.mono ?_
  rintro e w1 ⟨rfl,hb1⟩
  have hb1:=below_trans hb0 hb1
  clear b0 b1 b2 hE1
  have hR1:=hRb.keep (hb1.block _ hRb.lt)
  have hB1:=hB.keep (hb1.block _ hB.lt)
  have hA1:=below_trans hA hb1
  have hC1:=hC.out w1 hA1
  clear hC
  obtain ⟨_,x0,x1,x2⟩:=id hB1
  go_wp2_with fail
  refine (hC1).mono ?_
  rintro e w2 ⟨gv2,nv2,wv2,S2,rfl,hO2,hS2,hb2⟩
  obtain ⟨pg,pn,pw⟩:=hO2.parts
  obtain ⟨_,ga2,gcap2,rfl,_⟩:=pg.open
  obtain ⟨_,na2,ncap2,rfl,_⟩:=pn.form
  obtain ⟨_,wa2,wcap2,rfl,_⟩:=pw.form
  clear pg pn pw
  have hR2:=hR1.keep (hb2.block _ hR1.lt)
  have hlt2:=hR1.lt
  have hbF:=below_trans hA1 hb2
  replace hS2:=Lib.hid hS2
  obtain ⟨hf0,hf1,hf2,z0,z1,z2⟩:=hR2.all
  obtain ⟨f0,f1,f2⟩:=hR2.put3 (.slice ga2 r.2.groups.length gcap2) (.slice na2 r.2.nodes.length ncap2) (.slice wa2 r.2.wires.length wcap2)
  go_wp2_with ((with_reducible refine bodyPost_ret (v:=.tuple #[.agg #[.slice ga2 r.2.groups.length gcap2, .slice na2 r.2.nodes.length ncap2, .slice wa2 r.2.wires.length wcap2], .int .i64 r.1]) ?_ rfl ?_);(focus (simp [results,Tryz.f78];go_simp)))
  rw [← hP.out]
  exact WPost.fin hO2 hS2.out hlt2 (by omega) hbF rfl
 ·rw [if_neg he] at hR
  subst hR
  generalize moveE X a b = e0 at *
  have hne:(e0 != 0) = true:=by simpa using he
  replace he:=Lib.hid he
  go_wp2_with fail
  refine hE1.mono ?_
  rintro e w1 ⟨rfl,hb1⟩
  have hb1:=below_trans hb0 hb1
  have hR1:=hRb.keep (hb1.block _ hRb.lt)
  have hf0:=hR1.1.frozen 0
  have hf1:=hR1.1.frozen 1
  have hf2:=hR1.1.frozen 2
  have hA1:=below_trans hA hb1
  obtain ⟨_,z0,z1,z2⟩:=id hR1
  obtain ⟨f0,f1,f2⟩:=hR1.put3 (.slice none 0 0) (.slice none 0 0) (.slice none 0 0)
  go_wp2_with ((with_reducible refine bodyPost_ret (v:=.tuple #[.agg #[.slice none 0 0, .slice none 0 0, .slice none 0 0], .int .i64 e0]) ?_ rfl ?_);(focus (simp [results,Tryz.f78];go_simp)))
  rw [← hP.out]
  exact WPost.none (set3_below hA1 (by omega))
end Go.Proofs.YtnalakhelicjcaaGreatDoor
