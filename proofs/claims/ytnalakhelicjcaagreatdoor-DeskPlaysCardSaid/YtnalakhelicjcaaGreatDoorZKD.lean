/-
  Worlds, the document's answer: a message is cast, errors too.
  Worlds, the document's answer: a message comes.
  Worlds, the document's answer: a message comes, errors too.
  Acts, and what is done, in plain words.
  Worlds, the document's answer: an act is done.
  Worlds, the document's answer: acts, one behind the other.
-/
import Derived.Test.YtnalakhelicjcaaGreatDoorZCast
import Derived.Test.YtnalakhelicjcaaGreatDoorZKC
import Derived.StillTailTactics
import Derived.Test.YtnalakhelicjcaaGreatDoorZGN
set_option maxRecDepth 100000
namespace Go.Proofs.YtnalakhelicjcaaGreatDoor
open Go.RowKit Go.Shelf Go.BigFrame
def castF (X:Wd) (n g:Int) (null:Bool) (body:ByteArray):Int × Wd:=if errX X = 0 then castR X n g null body else (errX X,Wd.none)
theorem CastOf_c {w:World} {v:Value} {X:Wd} (h:WorldAt w v X) (n g:Int) (null:Bool) (body:ByteArray) (hbody:body.size ≤ 140737488351232) :
  Calls Tryz.prog 44 #[v, .int .i64 n, .int .i64 g, .bool null, .string body] w (WPost w (castF X n g null body)):=by
 obtain ⟨gv,nv,wv,rfl,hg,hn,hw⟩:=h
 obtain ⟨hnl,na,ncap,rfl,hnc⟩:=hn.form
 obtain ⟨hwl,wa,wcap,rfl,hwc⟩:=hw.form
 obtain ⟨hgl,ga,gcap,rfl,_⟩:=hg.open
 have hA:=below_a2 w (.cells #[.slice ga X.groups.length gcap, .slice na X.nodes.length ncap, .slice wa X.wires.length wcap] 35) (.cells #[.slice none 0 0, .slice none 0 0, .slice none 0 0] 35)
 have hB:=(OBox.new w 35 (.slice ga X.groups.length gcap) (.slice na X.nodes.length ncap) (.slice wa X.wires.length wcap)).keep (Go.Deep.blk_alloc_lt _ (.cells #[.slice none 0 0, .slice none 0 0, .slice none 0 0] 35) _ (by rw [World.size_alloc];omega))
 have hRb:=OBox.new (w.alloc (.cells #[.slice ga X.groups.length gcap, .slice na X.nodes.length ncap, .slice wa X.wires.length wcap] 35)) 35 (.slice none 0 0) (.slice none 0 0) (.slice none 0 0)
 have hsA:((w.alloc (.cells #[.slice ga X.groups.length gcap, .slice na X.nodes.length ncap, .slice wa X.wires.length wcap] 35)).alloc (.cells #[.slice none 0 0, .slice none 0 0, .slice none 0 0] 35)).heap.size = w.heap.size + 2:=by rw [World.size_alloc,World.size_alloc]
 rw [World.size_alloc] at hRb
 have hR:castF X n g null body = castF X n g null body:=rfl
 conv at hR=>rhs;unfold castF
 generalize castF X n g null body = r at *
 have hE1:=fun o (h:Below w.heap.size w o)=>WorldError_c (w:=o) ⟨_,_,_,rfl,hg.below h,hn.below h,hw.below h⟩
 go_enter Tryz.func44,Tryz.ntmps44
 go_upto_region 1 with fail
 generalize (w.alloc (.cells #[.slice ga X.groups.length gcap, .slice na X.nodes.length ncap, .slice wa X.wires.length wcap] 35)).alloc (.cells #[.slice none 0 0, .slice none 0 0, .slice none 0 0] 35) = wA at *
 obtain ⟨hBi,b0,b1,b2⟩:=hB
 replace hE1:=hE1 wA hA
 by_cases he:errX X = 0
 ·have hC:=fun o (h:Below w.heap.size w o)=>cast_c (hg.below h) (hn.below h) (hw.below h) (errX_fit he) n g null body hbody
  have hr:=hR
  rw [if_pos he] at hr
  rw [he] at hE1
  clear he hR
  subst hr
  generalize castR X n g null body = r at *
  go_wp2_with fail
  refine hE1.mono ?_
  rintro e w1 ⟨rfl,hb⟩
  have hR1:=hRb.keep (hb.block _ (by omega))
  obtain ⟨x0,x1,x2⟩:w1.cell? ⟨w.heap.size,0,none⟩ = _ ∧ w1.cell? ⟨w.heap.size,1,none⟩ = _ ∧ w1.cell? ⟨w.heap.size,2,none⟩ = _:=⟨(hb.cell (by show w.heap.size < _;omega)).trans b0,(hb.cell (by show w.heap.size < _;omega)).trans b1,(hb.cell (by show w.heap.size < _;omega)).trans b2⟩
  go_wp2_with fail
  refine (hC _ (below_trans hA hb)).mono ?_
  rintro e w2 ⟨gv2,nv2,wv2,S2,rfl,hO2,hS2,hb2⟩
  obtain ⟨pg,pn,pw⟩:=hO2.parts
  obtain ⟨_,ga2,gcap2,rfl,_⟩:=pg.open
  obtain ⟨_,na2,ncap2,rfl,_⟩:=pn.form
  obtain ⟨_,wa2,wcap2,rfl,_⟩:=pw.form
  clear pg pn pw
  have hR2:=hR1.keep (hb2.block _ hR1.lt)
  obtain ⟨hf0,hf1,hf2,z0,z1,z2⟩:=hR2.all
  go_wp2_with fail
  obtain ⟨f0,f1,f2⟩:=hR2.put3 (.slice ga2 r.2.groups.length gcap2) (.slice na2 r.2.nodes.length ncap2) (.slice wa2 r.2.wires.length wcap2)
  refine bodyPost_ret (v:=.tuple #[.agg #[.slice ga2 r.2.groups.length gcap2, .slice na2 r.2.nodes.length ncap2, .slice wa2 r.2.wires.length wcap2], .int .i64 r.1]) ?_ rfl ?_
  ·simp [results,Tryz.f44]
   go_simp
  ·have hs1:=hb.size
   have hbF:=below_trans (below_trans hA hb) hb2
   refine ⟨_,_,_,S2,rfl,hO2.keep (fun c hc=>?_),fun c hc=>?_,set3_below hbF (by omega)⟩
   ·have h:=(hS2 c hc).1
    rw [set3_blk (by show c ≠ w.heap.size + 1;omega)]
   ·have h:=hS2 c hc
    rw [set3_size]
    exact ⟨by omega,h.2⟩
 ·have hr:=hR
  rw [if_neg he] at hr
  subst hr
  generalize errX X = e0 at *
  have hne:(e0 != 0) = true:=by simpa using he
  replace he:=Lib.hid he
  clear hR
  go_wp2_with fail
  refine hE1.mono ?_
  rintro e w1 ⟨rfl,hb⟩
  have hR1:=hRb.keep (hb.block _ (by omega))
  obtain ⟨hf0,hf1,hf2,z0,z1,z2⟩:=hR1.all
  go_wp2_with fail
  obtain ⟨f0,f1,f2⟩:=hR1.put3 (.slice none 0 0) (.slice none 0 0) (.slice none 0 0)
  refine bodyPost_ret (v:=.tuple #[.agg #[.slice none 0 0, .slice none 0 0, .slice none 0 0], .int .i64 e0]) ?_ rfl (WPost.none (set3_below (below_trans hA hb) (by omega)))
  simp [results,Tryz.f44]
  go_simp
end Go.Proofs.YtnalakhelicjcaaGreatDoor
set_option maxRecDepth 100000
namespace Go.Proofs.YtnalakhelicjcaaGreatDoor
open Go.RowKit Go.Shelf Go.BigFrame
def MvSt (w wr:World) (B C:Nat) (S:Nat → Prop) (gv nv wv:Value) (m:M):Prop:=
 OBox wr B 35 gv nv wv ∧ OBox wr (w.heap.size + 1) 35 (.slice none 0 0) (.slice none 0 0) (.slice none 0 0) ∧ MsgBox wr C m ∧ Below w.heap.size w wr ∧ ∀ c,S c → w.heap.size + 2 ≤ c ∧ c < wr.heap.size ∧ c ≠ B ∧ c ≠ C
theorem MvSt.set {w wr:World} {B C:Nat} {S:Nat → Prop} {gv nv wv:Value} {m:M} (h:MvSt w wr B C S gv nv wv m) {g:Nat} (hg:S g) (a:Nat) (v:Value):MvSt w (wr.setCell ⟨g,a,none⟩ v) B C S gv nv wv m:=by
 obtain ⟨h1,h2,h3,h4,h5⟩:=h
 have hs:=h5 g hg
 refine ⟨h1.keep (Go.Deep.blk_setCell_other _ _ _ _ (fun e=>hs.2.2.1 e.symm)),h2.keep (Go.Deep.blk_setCell_other _ _ _ _ (by show w.heap.size + 1 ≠ g;omega)),h3.keep (Go.Deep.blk_setCell_other _ _ _ _ (fun e=>hs.2.2.2 e.symm)),below_setCell h4 (by show w.heap.size ≤ g;omega) _,fun c hc=>?_⟩
 rw [Go.Deep.nblk_setCell]
 exact h5 c hc
theorem MvSt.drew {w wr:World} {B C:Nat} {S:Nat → Prop} {gv nv wv:Value} {m:M} (h:MvSt w wr B C S gv nv wv m):MvSt w wr.drew B C S gv nv wv m:=
 ⟨h.1.keep rfl,h.2.1.keep rfl,h.2.2.1.keep rfl,below_drew h.2.2.2.1,h.2.2.2.2⟩
theorem clockSet_getD {X:Wd} {n:Nat} (hn:n < X.nodes.length) (v:Int):(clockSet X n v).nodes.getD n N.zero = { X.nodes.getD n N.zero with clock:=v }:=by
 rw [getD_lt _ N.zero (by simpa [clockSet] using hn)]
 simp [clockSet]
theorem comeW_eq {X:Wd} {a b:Nat} {m:M} {l:List M} (hb:b < X.nodes.length):comeW X a b m l =
  lastSet (clockSet (wireSet X a b l) b (max (X.nodes.getD b N.zero).clock m.stamp)) b m.grp.toNat a (max (((X.nodes.getD b N.zero).last.getD m.grp.toNat []).getD a 0) m.stamp):=by
 unfold lastSet
 rw [clockSet_getD (X:=wireSet X a b l) hb]
 simp [comeW,clockSet,wireSet]
set_option maxHeartbeats 8000000 in
theorem move_c {w:World} {gv nv wv:Value} {X:Wd} (hg:Ints w gv X.groups) (hn:Nodes w nv X.nodes) (hw:Wires w wv X.wires) (hX:Fit X) (hFa:Fares X) {a b:Nat} (ha:a < X.nodes.length) (hb:b < X.nodes.length) :
  Calls Tryz.prog 67 #[.agg #[gv,nv,wv], .int .i64 a, .int .i64 b] w (WPost w (moveR X a b)):=by
 obtain ⟨hnl,na,ncap,rfl,hnc⟩:=hn.form
 obtain ⟨hwl,_⟩:=hw.form
 obtain ⟨hgl,ga,gcap,rfl,_⟩:=hg.open
 have hrowl:=hX.row ha
 have hwX:=hX.wires
 obtain ⟨bw,ow,wcap,u1,rfl,hwc,r1,hu1⟩:=hw.row (show a < X.wires.length by omega)
 obtain ⟨bx,ox,xcap,u2,rfl,hxc,r2,hu2⟩:=hu1.at (show b < (X.wires.getD a []).length by rw [hrowl];exact hb)
 obtain ⟨hul,ua,ucap,rfl,huc,_⟩:=hu2.open
 have hA:=below_a2 w (.cells #[.slice ga X.groups.length gcap, .slice na X.nodes.length ncap, .slice (some ⟨bw,ow,none⟩) X.wires.length wcap] 35) (.cells #[.slice none 0 0, .slice none 0 0, .slice none 0 0] 35)
 have hB:=(OBox.new w 35 (.slice ga X.groups.length gcap) (.slice na X.nodes.length ncap) (.slice (some ⟨bw,ow,none⟩) X.wires.length wcap)).keep (Go.Deep.blk_alloc_lt _ (.cells #[.slice none 0 0, .slice none 0 0, .slice none 0 0] 35) _ (by rw [World.size_alloc];omega))
 have hRb:=OBox.new (w.alloc (.cells #[.slice ga X.groups.length gcap, .slice na X.nodes.length ncap, .slice (some ⟨bw,ow,none⟩) X.wires.length wcap] 35)) 35 (.slice none 0 0) (.slice none 0 0) (.slice none 0 0)
 have hsA:((w.alloc (.cells #[.slice ga X.groups.length gcap, .slice na X.nodes.length ncap, .slice (some ⟨bw,ow,none⟩) X.wires.length wcap] 35)).alloc (.cells #[.slice none 0 0, .slice none 0 0, .slice none 0 0] 35)).heap.size = w.heap.size + 2:=by rw [World.size_alloc,World.size_alloc]
 rw [World.size_alloc] at hRb
 have hR:moveR X a b = if (wireL X a b).length = 0 then (7,Wd.none) else castEnd (comeW X a b ((wireL X a b).getD 0 M.zero) ((wireL X a b).drop 1)) b ((wireL X a b).getD 0 M.zero):=rfl
 generalize moveR X a b = r at *
 obtain ⟨P,hP⟩:∃ P,WPost w r = P:=⟨_,rfl⟩
 rw [hP]
 replace hP:=Lib.hid hP
 have hwlen:b < (X.wires.getD a []).length:=by rw [hrowl];exact hb
 have hwi:a < X.wires.length:=by omega
 obtain ⟨l,hl⟩:∃ l,wireL X a b = l:=⟨_,rfl⟩
 have hl':(X.wires.getD a []).getD b [] = l:=hl
 rw [hl'] at r2 hul huc
 rw [hl] at hR
 clear hl hu2 hu1
 obtain ⟨rl,hrl⟩:∃ rl,(X.wires.getD a []).length = rl:=⟨_,rfl⟩
 rw [hrl] at r1 hxc hwlen
 replace hrl:=Lib.hid hrl
 replace hl':=Lib.hid hl'
 replace hrowl:=Lib.hid hrowl
 replace hwX:=Lib.hid hwX
 replace hX:=Lib.hid hX
 replace hFa:=Lib.hid hFa
 cases l with
 | nil =>
  rw [if_pos (show ([]:List M).length = 0 from rfl)] at hR
  subst hR
  replace hsA:=Lib.hid hsA
  simp only [List.length_nil] at r2
  go_enter Tryz.func67,Tryz.ntmps67
  go_upto_region 1 with fail
  generalize (w.alloc (.cells #[.slice ga X.groups.length gcap, .slice na X.nodes.length ncap, .slice (some ⟨bw,ow,none⟩) X.wires.length wcap] 35)).alloc (.cells #[.slice none 0 0, .slice none 0 0, .slice none 0 0] 35) = wA at *
  have r1:=(hA.cell (p:=⟨bw,ow + a,none⟩) (cell_lt r1)).trans r1
  have r2:=(hA.cell (p:=⟨bx,ox + b,none⟩) (cell_lt r2)).trans r2
  obtain ⟨hBi,b0,b1,b2⟩:=hB
  have hf0:=hRb.1.frozen 0
  have hf1:=hRb.1.frozen 1
  have hf2:=hRb.1.frozen 2
  have hRK:=hRb
  obtain ⟨_,z0,z1,z2⟩:=hRb
  obtain ⟨f0,f1,f2⟩:=hRK.put3 (.slice none 0 0) (.slice none 0 0) (.slice none 0 0)
  go_wp2_with ((with_reducible refine bodyPost_ret (v:=.tuple #[.agg #[.slice none 0 0, .slice none 0 0, .slice none 0 0], .int .i64 7]) ?_ rfl ?_);(focus (simp [results,Tryz.f67];go_simp)))
  rw [← hP.out]
  exact WPost.none (set3_below hA (by omega))
 | cons m l =>
  rw [if_neg (by simp)] at hR
  simp only [List.getD_cons_zero,List.drop_succ_cons,List.drop_zero] at hR
  simp only [List.length_cons] at r2 hul huc
  replace hR:=Lib.hid hR
  go_enter Tryz.func67,Tryz.ntmps67
  go_upto_region 1 with fail
  generalize (w.alloc (.cells #[.slice ga X.groups.length gcap, .slice na X.nodes.length ncap, .slice (some ⟨bw,ow,none⟩) X.wires.length wcap] 35)).alloc (.cells #[.slice none 0 0, .slice none 0 0, .slice none 0 0] 35) = wA at *
  have r1:=(hA.cell (p:=⟨bw,ow + a,none⟩) (cell_lt r1)).trans r1
  have r2:=(hA.cell (p:=⟨bx,ox + b,none⟩) (cell_lt r2)).trans r2
  have hOwn:=OwnWorld_c (hg.below hA) (hn.below hA) (hw.below hA) hX.out.small
  obtain ⟨hBi,b0,b1,b2⟩:=hB
  go_wp2_with fail
  refine hOwn.mono ?_
  rintro e w1 ⟨gv1,nv1,wv1,S1,rfl,hO1,hS1,hb1⟩
  obtain ⟨pg,pn,pw⟩:=hO1.parts
  obtain ⟨_,ga1,gcap1,rfl,_⟩:=pg.open
  obtain ⟨_,na1,ncap1,rfl,_⟩:=pn.form
  obtain ⟨_,wa1,wcap1,rfl,_⟩:=pw.form
  clear pg pn pw hOwn r1 r2
  have hsA2:wA.heap.size ≤ w1.heap.size:=hb1.size
  have hRK1:=hRb.keep (hb1.block _ hRb.lt)
  have hA1:=below_trans hA hb1
  have hOB:=OBox.new w1 35 (.slice ga1 X.groups.length gcap1) (.slice na1 X.nodes.length ncap1) (.slice wa1 X.wires.length wcap1)
  have hbB:=below_a1 w1 (.cells #[.slice ga1 X.groups.length gcap1, .slice na1 X.nodes.length ncap1, .slice wa1 X.wires.length wcap1] 35)
  have hsB:(w1.alloc (.cells #[.slice ga1 X.groups.length gcap1, .slice na1 X.nodes.length ncap1, .slice wa1 X.wires.length wcap1] 35)).heap.size = w1.heap.size + 1:=World.size_alloc _ _
  clear b0 b1 b2 hBi hRb
  go_upto_region 4 with fail
  generalize w1.alloc (.cells #[.slice ga1 X.groups.length gcap1, .slice na1 X.nodes.length ncap1, .slice wa1 X.wires.length wcap1] 35) = wB at *
  have hO2:=(hO1.keep (w':=wB) (fun c hc=>hbB.block c (hS1 c hc).2)).any
  have hRK2:=hRK1.keep (hbB.block _ hRK1.lt)
  have hA2:=below_trans hA1 hbB
  clear hO1 hA1 hbB hb1 hRK1 hA
  obtain ⟨g1,cap1,g2,cap2,bm,off,mcap,e1,hc1,hg1S,hg1l,k1,hc2,hg2S,hg2l,hg12,hg2b,k2,hm1,hm2,hmc,hmf,hset⟩:=hO2.wire_tail hwi (by rw [hrl.out];exact hwlen) hl'.out
  cases e1
  rw [hrl.out] at k1 hc2
  have m0:wB.cell? ⟨bm,off,none⟩ = some (.int .i64 m.src):=hmc 0 (by omega)
  have m1:wB.cell? ⟨bm,off + 1,none⟩ = some (.int .i64 m.grp):=hmc 1 (by omega)
  have m2:wB.cell? ⟨bm,off + 2,none⟩ = some (.int .i64 m.stamp):=hmc 2 (by omega)
  have m3:wB.cell? ⟨bm,off + 3,none⟩ = some (.bool m.null):=hmc 3 (by omega)
  have m4:wB.cell? ⟨bm,off + 4,none⟩ = some (.string m.body):=hmc 4 (by omega)
  replace hmc:=Lib.hid hmc
  replace hset:=Lib.hid hset
  have hOBK:=hOB
  obtain ⟨_,o0,o1,o2⟩:=hOB
  replace hsB:=Lib.hid hsB
  go_upto_region 5 with fail
  have hMB:=MsgBox.new wB m 96
  have hbC:=below_a1 wB (.cells #[.int .i64 m.src, .int .i64 m.grp, .int .i64 m.stamp, .bool m.null, .string m.body] 96)
  have hsC:(wB.alloc (.cells #[.int .i64 m.src, .int .i64 m.grp, .int .i64 m.stamp, .bool m.null, .string m.body] 96)).heap.size = wB.heap.size + 1:=World.size_alloc _ _
  generalize wB.alloc (.cells #[.int .i64 m.src, .int .i64 m.grp, .int .i64 m.stamp, .bool m.null, .string m.body] 96) = wC at *
  have o0:=(hbC.cell (p:=⟨w1.heap.size,0,none⟩) (cell_lt o0)).trans o0
  have o1:=(hbC.cell (p:=⟨w1.heap.size,1,none⟩) (cell_lt o1)).trans o1
  have o2:=(hbC.cell (p:=⟨w1.heap.size,2,none⟩) (cell_lt o2)).trans o2
  have k1:=(hbC.cell (p:=⟨g1,a,none⟩) hg1l).trans k1
  have k2:=(hbC.cell (p:=⟨g2,b,none⟩) hg2l).trans k2
  clear m0 m1 m2 m3 m4
  obtain ⟨m0,m1,m2,m3,m4⟩:=hMB
  have hOBK:=hOBK.keep (hbC.block _ hOBK.lt)
  have hRK3:=hRK2.keep (hbC.block _ hRK2.lt)
  have hA3:=below_trans hA2 hbC
  have hlC:Lies S1 wB wC:=fun c hc=>hbC.block c (by have:=hS1 c hc;have:=hsB.out;omega)
  have hg2b':=hg2b.same (hbC.block g2 hg2l)
  have hf2:=hg2b'.frozen b
  have hg2C:g2 < wC.heap.size:=by omega
  replace hsC:=Lib.hid hsC
  clear hO2 hA2 hRK2 hbC
  have hml:(1:Int) ≤ (l.length:Int) + 1:=by omega
  obtain ⟨ta,hta⟩:∃ ta,tailA bm off mcap = ta:=⟨_,rfl⟩
  have hta2:(if mcap = 1 then some ⟨bm,off,none⟩ else some ⟨bm,off + 5,none⟩) = ta:=hta
  replace hta:=Lib.hid hta
  go_still_tail 16,(by kernel_rfl)
  go_upto_region 6 with fail
  have hO3:OWd false ((wC.setCell ⟨g2,b,none⟩ (.slice ta l.length (mcap - 1))).drew) S1 (.slice ga1 X.groups.length gcap1) (.slice na1 X.nodes.length ncap1) (.slice (some ⟨g1,0,none⟩) X.wires.length wcap1) (wireSet X a b l):=by
   have:=hset.out wC hlC
   unfold tailV at this
   rw [hta.out] at this
   exact this.keep (fun _ _=>rfl)
  have hMS:MvSt w ((wC.setCell ⟨g2,b,none⟩ (.slice ta l.length (mcap - 1))).drew) w1.heap.size wB.heap.size S1 (.slice ga1 X.groups.length gcap1) (.slice na1 X.nodes.length ncap1) (.slice (some ⟨g1,0,none⟩) X.wires.length wcap1) m:=
   (MvSt.set ⟨hOBK,hRK3,⟨m0,m1,m2,m3,m4⟩,hA3,fun c hc=>by have:=hS1 c hc;have:=hsB.out;have:=hsC.out;omega⟩ hg2S b _).drew
  generalize (wC.setCell ⟨g2,b,none⟩ (.slice ta l.length (mcap - 1))).drew = wD at *
  have hwlen2:=hwlen
  replace hwlen2:=Lib.hid hwlen2
  clear hset hlC hOBK hRK3 m0 m1 m2 m3 m4 hA3 o0 o1 o2 k1 k2 hg2b hg2b' hf2 hta hta2 hml hg1S hg1l hg2S hg2l hg2C hmc hc2 hc1 hg12 hm1 hm2 r1 r2 hwlen hxc
  obtain ⟨C,hC⟩:∃ C,wB.heap.size = C:=⟨_,rfl⟩
  simp only [hC] at hMS ⊢
  clear hC hsB hsC
  obtain ⟨gn,nc,e1,hnc2,hgnS,hgnl,hgnb,c0,hI,hset⟩:=hO3.clock_at (n:=b) hb
  cases e1
  obtain ⟨ck,hck⟩:∃ ck,((wireSet X a b l).nodes.getD b N.zero).clock = ck:=⟨_,rfl⟩
  rw [hck] at c0 hI
  replace hset:=Lib.hid hset
  replace hck:=Lib.hid hck
  have hst:I64 m.stamp:=hmf.2.2.1
  obtain ⟨⟨_,o0,o1,o2⟩,_,⟨m0,m1,m2,m3,m4⟩,_,hlt⟩:=id hMS
  replace hlt:=Lib.hid hlt
  have hfz:=hgnb.frozen (b * 4)
  go_upto_region 7 with fail
  go_still_tail 10,(by kernel_rfl)
  go_upto_region 8 with fail
  have hmx:(if ck < m.stamp then m.stamp else ck) = max ck m.stamp:=by omega
  rw [hmx]
  clear hmx
  have hmxI:I64 (max ck m.stamp):=by unfold I64 at *;omega
  have hO4:=(hset.out wD _ (fun _ _=>rfl) hmxI).keep (w':=(wD.setCell ⟨gn,b * 4,none⟩ (.int .i64 (max ck m.stamp))).drew) (fun _ _=>rfl)
  rw [← hck.out] at hO4
  have hMS4:=(hMS.set hgnS (b * 4) (.int .i64 (max ck m.stamp))).drew
  have hgnS2:=hgnS
  rw [hck.out] at hO4
  generalize (wD.setCell ⟨gn,b * 4,none⟩ (.int .i64 (max ck m.stamp))).drew = wE at *
  have hck2:max ck m.stamp = max (X.nodes.getD b N.zero).clock m.stamp:=by rw [← hck.out];rfl
  rw [hck2] at hO4
  clear hck2 hset hck c0 hI hmxI hfz hgnb o0 o1 o2 m0 m1 m2 m3 m4 hMS hO3 hgnl hgnS
  have hY:=clockSet_getD (X:=wireSet X a b l) (n:=b) hb (max (X.nodes.getD b N.zero).clock m.stamp)
  have hYl:((clockSet (wireSet X a b l) b (max (X.nodes.getD b N.zero).clock m.stamp)).nodes.getD b N.zero).last = (X.nodes.getD b N.zero).last:=by rw [hY];rfl
  clear hY
  have hgr:=hFa.out _ (getD_mem X.wires [] hwi) _ (getD_mem _ [] (by rw [hrl.out];exact hwlen2.out)) m (by rw [hl'.out];exact List.mem_cons_self ..)
  obtain ⟨q,hq⟩:=Int.eq_ofNat_of_zero_le hgr.1
  have htab:=hX.out.tab hb
  have hqg:q < (X.nodes.getD b N.zero).last.length:=by rw [htab.1];have:=hgr.2.1;omega
  have hrow2:((X.nodes.getD b N.zero).last.getD q []).length = X.nodes.length:=htab.2 _ (getD_mem _ [] hqg)
  obtain ⟨gn',nc',g3,cap3,g4,cap4,e1,_,_,_,c1,hc3,hg3S,hg3l,k3,hc4,hg4S,hg4l,_,_,hg4b,k4,hI4,hset⟩:=hO4.last_at (n:=b) (r:=q) (k:=a) (by simpa [clockSet,wireSet] using hb) (by rw [hYl];exact hqg) (by rw [hYl,hrow2];exact ha)
  have e2:=(Value.slice.inj e1).1
  injection e2 with e2
  injection e2 with e2
  subst e2
  clear e1
  rw [hYl] at c1 hc3 k3 hc4 k4 hI4
  rw [hrow2] at k3 hc4
  obtain ⟨lw,hlw⟩:∃ lw,((X.nodes.getD b N.zero).last.getD q []).getD a 0 = lw:=⟨_,rfl⟩
  rw [hlw] at k4 hI4
  obtain ⟨ll,hll⟩:∃ ll,(X.nodes.getD b N.zero).last.length = ll:=⟨_,rfl⟩
  rw [hll] at c1 hc3 hqg
  replace hset:=Lib.hid hset
  replace hlw:=Lib.hid hlw
  replace hll:=Lib.hid hll
  replace hYl:=Lib.hid hYl
  replace hgr:=Lib.hid hgr
  replace htab:=Lib.hid htab
  replace hrow2:=Lib.hid hrow2
  obtain ⟨⟨_,o0,o1,o2⟩,_,⟨m0,m1,m2,m3,m4⟩,_,hlt⟩:=id hMS4
  replace hlt:=Lib.hid hlt
  rw [hq] at m1
  replace hq:=Lib.hid hq
  have hfz:=hg4b.frozen a
  go_still_tail 24,(by kernel_rfl)
  go_upto_region 9 with fail
  have hmx:(if lw < m.stamp then m.stamp else lw) = max lw m.stamp:=by omega
  rw [hmx]
  clear hmx
  have hmxI:I64 (max lw m.stamp):=by unfold I64 at *;omega
  have hO5:=(hset.out wE _ (fun _ _=>rfl) hmxI).keep (w':=(wE.setCell ⟨g4,a,none⟩ (.int .i64 (max lw m.stamp))).drew) (fun _ _=>rfl)
  have hMS5:=(hMS4.set hg4S a (.int .i64 (max lw m.stamp))).drew
  generalize (wE.setCell ⟨g4,a,none⟩ (.int .i64 (max lw m.stamp))).drew = wF at *
  have hcome:=comeW_eq (X:=X) (a:=a) (b:=b) (m:=m) (l:=l) hb
  have hqt:m.grp.toNat = q:=by rw [hq.out];rfl
  rw [hqt,hlw.out] at hcome
  rw [← hcome] at hO5
  obtain ⟨hFZ,hFaZ⟩:=comeW_fit hX.out hFa.out ha hb hl'.out
  have hZl:(comeW X a b m l).nodes.length = X.nodes.length:=by simp [comeW]
  generalize comeW X a b m l = Z at *
  clear hset hlw hll hYl hgr htab hrow2 hq hqt c1 k3 k4 hI4 hfz hg4b o0 o1 o2 m0 m1 m2 m3 m4 hMS4 hO4 hmxI hcome hg3S hg3l hg4S hg4l hc3 hc4 hqg hgnS2
  have hbZ:b < Z.nodes.length:=by rw [hZl];exact hb
  replace hZl:=Lib.hid hZl
  have htZ:=hFZ.tab hbZ
  have hlZ:=hFZ.lists _ (getD_mem Z.nodes N.zero hbZ)
  replace hFZ:=Lib.hid hFZ
  replace hFaZ:=Lib.hid hFaZ
  replace htZ:=Lib.hid htZ
  clear hlt
  have hnb:=hb
  obtain ⟨hQ,hRb,hMB,hb,hS⟩:=hMS5
  obtain ⟨_,o0,o1,o2⟩:=id hQ
  obtain ⟨m0,m1,m2,m3,m4⟩:=hMB
  have hnY:=hbZ
  have hlY:=hlZ
  have htY:=htZ
  have hO:=hO5
  clear hbZ hlZ htZ hO5
  cases hnull:m.null
  ·have hr1:=hR.out.trans (castEnd_hold hnull)
   rw [hnull] at m3
   replace hnull:=Lib.hid hnull
   have hH:=hold_c (b:=w1.heap.size) hQ hO (fun c hc=>(hS c hc).2.1) hnY (by have:=hlY.1;omega) hmf
   unfold M.val at hH
   rw [hnull.out] at hH
   obtain ⟨e0,he0⟩:∃ e0,putE (Z.nodes.getD b N.zero).held m = e0:=⟨_,rfl⟩
   rw [he0] at hH hr1
   replace he0:=Lib.hid he0
   replace hr1:=Lib.hid hr1
   go_wp2_with fail
   refine hH.mono ?_
   rintro e w2 ⟨rfl,hwi,hok,hno⟩
   clear hH
   have hlw:∀ c,c < w.heap.size + 2 ∨ c = w1.heap.size → w2.heap[c]? = wF.heap[c]?:=fun c hc=>hwi.lies c (by have:=hQ.lt;have:=hRb.lt;omega) (fun h=>by have:=hS c h;omega)
   have hQ2:=hQ.keep (hlw _ (Or.inr rfl))
   have hR2:=hRb.keep (hlw _ (Or.inl (by omega)))
   have hb2:Below w.heap.size w w2:=hb.trans (hwi.below (by have:=hRb.lt;omega) (fun c hc=>by have:=hS c hc;omega))
   replace hlw:=Lib.hid hlw
   by_cases hz0:e0 = 0
   ·subst hz0
    obtain ⟨S2,hO2,hSo2⟩:=hok rfl
    have hS2:∀ c,S2 c → w.heap.size + 2 ≤ c ∧ c < w2.heap.size ∧ c ≠ w1.heap.size:=fun c hc=>by
     have h:=hSo2 c hc
     refine ⟨?_,h.2, ?_⟩
     ·rcases h.1 with h' | h'
      ·exact (hS c h').1
      ·have:=hRb.lt;omega
     ·rcases h.1 with h' | h'
      ·exact (hS c h').2.2.1
      ·have:=hQ.lt;omega
    have hr2:=hr1.out
    rw [if_neg (by simp)] at hr2
    obtain ⟨hh1,hh2⟩:=holdW_at (m:=m) hnY
    have hpl:=putL_le (Z.nodes.getD b N.zero).held m
    have hnY2:b < (holdW Z b m).nodes.length:=by rw [hh1];exact hnY
    have htY2:=holdW_tab (m:=m) hnY htY.out
    have hlY2:((holdW Z b m).nodes.getD b N.zero).held.length ≤ 1000 ∧ ((holdW Z b m).nodes.getD b N.zero).told.length ≤ 1000:=by rw [hh2];exact ⟨by show (putL _ m).length ≤ 1000;omega,by show (Z.nodes.getD b N.zero).told.length ≤ 1000;omega⟩
    clear hok hno hh1 hh2 hpl hwi hSo2
    replace hS:=Lib.hid hS
    generalize holdW Z b m = Y2 at *
    have hT:=tell_c (b:=w1.heap.size) hQ2 hO2 (fun c hc=>(hS2 c hc).2.1) hnY2 htY2 hlY2
    obtain ⟨k1',hk1'⟩:∃ k1':Int,(if tellE Y2 b = 0 then ((readyX Y2 b).length:Int) else 0) = k1':=⟨_,rfl⟩
    rw [hk1'] at hT
    clear hk1'
    obtain ⟨e1,he1⟩:∃ e1,tellE Y2 b = e1:=⟨_,rfl⟩
    rw [he1] at hT hr2
    clear he1
    replace hr2:=Lib.hid hr2
    go_wp2_with fail
    refine hT.mono ?_
    rintro e w3 ⟨rfl,hwi3,hok3,hno3⟩
    clear hT
    have hlow:∀ c,c < w.heap.size + 2 ∨ c = w1.heap.size → w3.heap[c]? = w2.heap[c]?:=fun c hc=>hwi3.lies c (by have:=hQ2.lt;have:=hR2.lt;omega) (fun h=>by have:=hS2 c h;omega)
    have hQ3:=hQ2.keep (hlow _ (Or.inr rfl))
    have hR3:=hR2.keep (hlow _ (Or.inl (by omega)))
    have hb3:Below w.heap.size w w3:=hb2.trans (hwi3.below (by have:=hR2.lt;omega) (fun c hc=>by have:=hS2 c hc;omega))
    replace hlow:=Lib.hid hlow
    by_cases hz:e1 = 0
    ·subst hz
     have hr0:=hr2.out
     rw [if_neg (by simp)] at hr0
     obtain ⟨S3,hO3,hS3⟩:=hok3 rfl
     subst hr0
     clear hok3 hno3 hwi3
     have hlo3:∀ c,S3 c → w.heap.size + 2 ≤ c:=fun c hc=>by
      rcases (hS3 c hc).1 with h | h
      ·exact (hS2 c h).1
      ·have:=hR2.lt;omega
     replace hlo3:=Lib.hid hlo3
     replace hS3:=Lib.hid hS3
     replace hS2:=Lib.hid hS2
     have hQ3K:=hQ3
     have hf0:=hR3.1.frozen 0
     have hf1:=hR3.1.frozen 1
     have hf2:=hR3.1.frozen 2
     have hR3K:=hR3
     obtain ⟨_,z0,z1,z2⟩:=hR3
     obtain ⟨_,y0,y1,y2⟩:=hQ3
     obtain ⟨f0,f1,f2⟩:=hR3K.put3 (.slice ga1 X.groups.length gcap1) (.slice (some ⟨gn,0,none⟩) X.nodes.length ncap1) (.slice (some ⟨g1,0,none⟩) X.wires.length wcap1)
     go_wp2_with ((with_reducible refine bodyPost_ret (v:=.tuple #[.agg #[.slice ga1 X.groups.length gcap1, .slice (some ⟨gn,0,none⟩) X.nodes.length ncap1, .slice (some ⟨g1,0,none⟩) X.wires.length wcap1], .int .i64 0]) ?_ rfl ?_);(focus (simp [results,Tryz.f67];go_simp)))
     ·rw [← hP.out]
      refine ⟨_,_,_,S3,rfl,(hO3.keep (fun c hc=>?_)).any,fun c hc=>?_,set3_below hb3 (by omega)⟩
      ·have h:=hlo3.out c hc
       rw [set3_blk (by show c ≠ w.heap.size + 1;omega)]
      ·have h:=hlo3.out c hc
       rw [set3_size]
       exact ⟨by omega,(hS3.out c hc).2⟩
    ·have hr0:=hr2.out
     rw [if_pos hz] at hr0
     subst hr0
     have hne:(e1 != 0) = true:=by simpa using hz
     replace hz:=Lib.hid hz
     clear hok3 hno3 hwi3
     replace hS2:=Lib.hid hS2
     have hf0:=hR3.1.frozen 0
     have hf1:=hR3.1.frozen 1
     have hf2:=hR3.1.frozen 2
     have hRX:=hR3
     obtain ⟨_,z0,z1,z2⟩:=hRX
     obtain ⟨f0,f1,f2⟩:=hR3.put3 (.slice none 0 0) (.slice none 0 0) (.slice none 0 0)
     go_wp2_with ((with_reducible refine bodyPost_ret (v:=.tuple #[.agg #[.slice none 0 0, .slice none 0 0, .slice none 0 0], .int .i64 e1]) ?_ rfl ?_);(focus (simp [results,Tryz.f67];go_simp)))
     rw [← hP.out]
     exact WPost.none (set3_below hb3 (by omega))
   ·have hr2:=hr1.out
    rw [if_pos hz0] at hr2
    subst hr2
    have hne:(e0 != 0) = true:=by simpa using hz0
    replace hz0:=Lib.hid hz0
    clear hok hno hwi
    replace hS:=Lib.hid hS
    have hf0:=hR2.1.frozen 0
    have hf1:=hR2.1.frozen 1
    have hf2:=hR2.1.frozen 2
    have hRX:=hR2
    obtain ⟨_,z0,z1,z2⟩:=hRX
    obtain ⟨f0,f1,f2⟩:=hR2.put3 (.slice none 0 0) (.slice none 0 0) (.slice none 0 0)
    go_wp2_with ((with_reducible refine bodyPost_ret (v:=.tuple #[.agg #[.slice none 0 0, .slice none 0 0, .slice none 0 0], .int .i64 e0]) ?_ rfl ?_);(focus (simp [results,Tryz.f67];go_simp)))
    rw [← hP.out]
    exact WPost.none (set3_below hb2 (by omega))
  ·have hr2:=hR.out.trans (castEnd_null hnull)
   rw [hnull] at m3
   replace hnull:=Lib.hid hnull
   have hQ2:=hQ
   have hR2:=hRb
   have hb2:=hb
   have hO2:=hO
   have hS2:=hS
   clear hS
   have hnY2:=hnY
   have htY2:=htY.out
   have hlY2:(Z.nodes.getD b N.zero).held.length ≤ 1000 ∧ (Z.nodes.getD b N.zero).told.length ≤ 1000:=by omega
   have hT:=tell_c (b:=w1.heap.size) hQ2 hO2 (fun c hc=>(hS2 c hc).2.1) hnY2 htY2 hlY2
   obtain ⟨k1',hk1'⟩:∃ k1':Int,(if tellE Z b = 0 then ((readyX Z b).length:Int) else 0) = k1':=⟨_,rfl⟩
   rw [hk1'] at hT
   clear hk1'
   obtain ⟨e1,he1⟩:∃ e1,tellE Z b = e1:=⟨_,rfl⟩
   rw [he1] at hT hr2
   clear he1
   replace hr2:=Lib.hid hr2
   go_wp2_with fail
   refine hT.mono ?_
   rintro e w3 ⟨rfl,hwi3,hok3,hno3⟩
   clear hT
   have hlow:∀ c,c < w.heap.size + 2 ∨ c = w1.heap.size → w3.heap[c]? = wF.heap[c]?:=fun c hc=>hwi3.lies c (by have:=hQ2.lt;have:=hR2.lt;omega) (fun h=>by have:=hS2 c h;omega)
   have hQ3:=hQ2.keep (hlow _ (Or.inr rfl))
   have hR3:=hR2.keep (hlow _ (Or.inl (by omega)))
   have hb3:Below w.heap.size w w3:=hb2.trans (hwi3.below (by have:=hR2.lt;omega) (fun c hc=>by have:=hS2 c hc;omega))
   replace hlow:=Lib.hid hlow
   by_cases hz:e1 = 0
   ·subst hz
    have hr0:=hr2.out
    rw [if_neg (by simp)] at hr0
    obtain ⟨S3,hO3,hS3⟩:=hok3 rfl
    subst hr0
    clear hok3 hno3 hwi3
    have hlo3:∀ c,S3 c → w.heap.size + 2 ≤ c:=fun c hc=>by
     rcases (hS3 c hc).1 with h | h
     ·exact (hS2 c h).1
     ·have:=hR2.lt;omega
    replace hlo3:=Lib.hid hlo3
    replace hS3:=Lib.hid hS3
    replace hS2:=Lib.hid hS2
    have hQ3K:=hQ3
    have hf0:=hR3.1.frozen 0
    have hf1:=hR3.1.frozen 1
    have hf2:=hR3.1.frozen 2
    have hR3K:=hR3
    obtain ⟨_,z0,z1,z2⟩:=hR3
    obtain ⟨_,y0,y1,y2⟩:=hQ3
    obtain ⟨f0,f1,f2⟩:=hR3K.put3 (.slice ga1 X.groups.length gcap1) (.slice (some ⟨gn,0,none⟩) X.nodes.length ncap1) (.slice (some ⟨g1,0,none⟩) X.wires.length wcap1)
    go_wp2_with ((with_reducible refine bodyPost_ret (v:=.tuple #[.agg #[.slice ga1 X.groups.length gcap1, .slice (some ⟨gn,0,none⟩) X.nodes.length ncap1, .slice (some ⟨g1,0,none⟩) X.wires.length wcap1], .int .i64 0]) ?_ rfl ?_);(focus (simp [results,Tryz.f67];go_simp)))
    ·rw [← hP.out]
     refine ⟨_,_,_,S3,rfl,(hO3.keep (fun c hc=>?_)).any,fun c hc=>?_,set3_below hb3 (by omega)⟩
     ·have h:=hlo3.out c hc
      rw [set3_blk (by show c ≠ w.heap.size + 1;omega)]
     ·have h:=hlo3.out c hc
      rw [set3_size]
      exact ⟨by omega,(hS3.out c hc).2⟩
   ·have hr0:=hr2.out
    rw [if_pos hz] at hr0
    subst hr0
    have hne:(e1 != 0) = true:=by simpa using hz
    replace hz:=Lib.hid hz
    clear hok3 hno3 hwi3
    replace hS2:=Lib.hid hS2
    have hf0:=hR3.1.frozen 0
    have hf1:=hR3.1.frozen 1
    have hf2:=hR3.1.frozen 2
    have hRX:=hR3
    obtain ⟨_,z0,z1,z2⟩:=hRX
    obtain ⟨f0,f1,f2⟩:=hR3.put3 (.slice none 0 0) (.slice none 0 0) (.slice none 0 0)
    go_wp2_with ((with_reducible refine bodyPost_ret (v:=.tuple #[.agg #[.slice none 0 0, .slice none 0 0, .slice none 0 0], .int .i64 e1]) ?_ rfl ?_);(focus (simp [results,Tryz.f67];go_simp)))
    rw [← hP.out]
    exact WPost.none (set3_below hb3 (by omega))
end Go.Proofs.YtnalakhelicjcaaGreatDoor
set_option maxRecDepth 100000
namespace Go.Proofs.YtnalakhelicjcaaGreatDoor
open Go.RowKit Go.Shelf Go.BigFrame
def moveF (X:Wd) (a b:Int):Int × Wd:=if moveE X a b = 0 then moveR X a.toNat b.toNat else (moveE X a b,Wd.none)
theorem moveE_ok {X:Wd} {a b:Int} (h:moveE X a b = 0):errX X = 0 ∧ 0 ≤ a ∧ a < X.nodes.length ∧ 0 ≤ b ∧ b < X.nodes.length:=by
 unfold moveE at h
 split at h
 ·rename_i ha
  have h1:=nodeE_ok ha
  have h2:=nodeE_ok h
  omega
 ·rename_i ha
  exact absurd h ha
theorem MoveOf_c {w:World} {v:Value} {X:Wd} (h:WorldAt w v X) (a b:Int) :
  Calls Tryz.prog 46 #[v, .int .i64 a, .int .i64 b] w (WPost w (moveF X a b)):=by
 obtain ⟨gv,nv,wv,rfl,hg,hn,hw⟩:=h
 obtain ⟨hnl,na,ncap,rfl,hnc⟩:=hn.form
 obtain ⟨hwl,wa,wcap,rfl,hwc⟩:=hw.form
 obtain ⟨hgl,ga,gcap,rfl,_⟩:=hg.open
 have hA:=below_a2 w (.cells #[.slice ga X.groups.length gcap, .slice na X.nodes.length ncap, .slice wa X.wires.length wcap] 35) (.cells #[.slice none 0 0, .slice none 0 0, .slice none 0 0] 35)
 have hB:=(OBox.new w 35 (.slice ga X.groups.length gcap) (.slice na X.nodes.length ncap) (.slice wa X.wires.length wcap)).keep (Go.Deep.blk_alloc_lt _ (.cells #[.slice none 0 0, .slice none 0 0, .slice none 0 0] 35) _ (by rw [World.size_alloc];omega))
 have hRb:=OBox.new (w.alloc (.cells #[.slice ga X.groups.length gcap, .slice na X.nodes.length ncap, .slice wa X.wires.length wcap] 35)) 35 (.slice none 0 0) (.slice none 0 0) (.slice none 0 0)
 have hsA:((w.alloc (.cells #[.slice ga X.groups.length gcap, .slice na X.nodes.length ncap, .slice wa X.wires.length wcap] 35)).alloc (.cells #[.slice none 0 0, .slice none 0 0, .slice none 0 0] 35)).heap.size = w.heap.size + 2:=by rw [World.size_alloc,World.size_alloc]
 rw [World.size_alloc] at hRb
 have hR:moveF X a b = moveF X a b:=rfl
 conv at hR=>rhs;unfold moveF
 generalize moveF X a b = r at *
 obtain ⟨P,hP⟩:∃ P,WPost w r = P:=⟨_,rfl⟩
 rw [hP]
 replace hP:=Lib.hid hP
 have hE1:=fun o (h:Below w.heap.size w o)=>MoveError_c (w:=o) ⟨_,_,_,rfl,hg.below h,hn.below h,hw.below h⟩ a b
 go_enter Tryz.func46,Tryz.ntmps46
 go_upto_region 1 with fail
 generalize (w.alloc (.cells #[.slice ga X.groups.length gcap, .slice na X.nodes.length ncap, .slice wa X.wires.length wcap] 35)).alloc (.cells #[.slice none 0 0, .slice none 0 0, .slice none 0 0] 35) = wA at *
 obtain ⟨hBi,b0,b1,b2⟩:=hB
 replace hE1:=hE1 wA hA
 by_cases he:moveE X a b = 0
 ·obtain ⟨hx,ha0,ha1,hb0,hb1⟩:=moveE_ok he
  obtain ⟨a,rfl⟩:=Int.eq_ofNat_of_zero_le ha0
  obtain ⟨b,rfl⟩:=Int.eq_ofNat_of_zero_le hb0
  have hC:=fun o (h:Below w.heap.size w o)=>move_c (hg.below h) (hn.below h) (hw.below h) (errX_fit hx) (errX_fares hx) (a:=a) (b:=b) (by omega) (by omega)
  have hr:=hR
  simp only [Int.toNat_natCast] at hr
  rw [if_pos he] at hr
  rw [he] at hE1
  clear he hR
  subst hr
  generalize moveR X a b = r at *
  go_wp2_with fail
  refine hE1.mono ?_
  rintro e w1 ⟨rfl,hb⟩
  have hR1:=hRb.keep (hb.block _ (by omega))
  obtain ⟨x0,x1,x2⟩:w1.cell? ⟨w.heap.size,0,none⟩ = _ ∧ w1.cell? ⟨w.heap.size,1,none⟩ = _ ∧ w1.cell? ⟨w.heap.size,2,none⟩ = _:=⟨(hb.cell (by show w.heap.size < _;omega)).trans b0,(hb.cell (by show w.heap.size < _;omega)).trans b1,(hb.cell (by show w.heap.size < _;omega)).trans b2⟩
  go_wp2_with fail
  refine (hC _ (below_trans hA hb)).mono ?_
  rintro e w2 ⟨gv2,nv2,wv2,S2,rfl,hO2,hS2,hb2⟩
  obtain ⟨pg,pn,pw⟩:=hO2.parts
  obtain ⟨_,ga2,gcap2,rfl,_⟩:=pg.open
  obtain ⟨_,na2,ncap2,rfl,_⟩:=pn.form
  obtain ⟨_,wa2,wcap2,rfl,_⟩:=pw.form
  clear pg pn pw
  have hR2:=hR1.keep (hb2.block _ hR1.lt)
  obtain ⟨hf0,hf1,hf2,z0,z1,z2⟩:=hR2.all
  obtain ⟨f0,f1,f2⟩:=hR2.put3 (.slice ga2 r.2.groups.length gcap2) (.slice na2 r.2.nodes.length ncap2) (.slice wa2 r.2.wires.length wcap2)
  go_wp2_with ((with_reducible refine bodyPost_ret (v:=.tuple #[.agg #[.slice ga2 r.2.groups.length gcap2, .slice na2 r.2.nodes.length ncap2, .slice wa2 r.2.wires.length wcap2], .int .i64 r.1]) ?_ rfl ?_);(focus (simp [results,Tryz.f46];go_simp)))
  ·rw [← hP.out]
   have hs1:=hb.size
   have hbF:=below_trans (below_trans hA hb) hb2
   refine ⟨_,_,_,S2,rfl,hO2.keep (fun c hc=>?_),fun c hc=>?_,set3_below hbF (by omega)⟩
   ·have h:=(hS2 c hc).1
    rw [set3_blk (by show c ≠ w.heap.size + 1;omega)]
   ·have h:=hS2 c hc
    rw [set3_size]
    exact ⟨by omega,h.2⟩
 ·have hr:=hR
  rw [if_neg he] at hr
  subst hr
  generalize moveE X a b = e0 at *
  have hne:(e0 != 0) = true:=by simpa using he
  replace he:=Lib.hid he
  clear hR
  go_wp2_with fail
  refine hE1.mono ?_
  rintro e w1 ⟨rfl,hb⟩
  have hR1:=hRb.keep (hb.block _ (by omega))
  obtain ⟨hf0,hf1,hf2,z0,z1,z2⟩:=hR1.all
  obtain ⟨f0,f1,f2⟩:=hR1.put3 (.slice none 0 0) (.slice none 0 0) (.slice none 0 0)
  go_wp2_with ((with_reducible refine bodyPost_ret (v:=.tuple #[.agg #[.slice none 0 0, .slice none 0 0, .slice none 0 0], .int .i64 e0]) ?_ rfl ?_);(focus (simp [results,Tryz.f46];go_simp)))
  rw [← hP.out]
  exact WPost.none (set3_below (below_trans hA hb) (by omega))
end Go.Proofs.YtnalakhelicjcaaGreatDoor
set_option maxRecDepth 100000
namespace Go.Proofs.YtnalakhelicjcaaGreatDoor
open Go.RowKit Go.Shelf Go.BigFrame
structure Ac where
 kind:Int
 one:Int
 two:Int
 body:ByteArray
def Ac.val (x:Ac):Value:=.agg #[.int .i64 x.kind, .int .i64 x.one, .int .i64 x.two, .string x.body]
def Ac.cells (x:Ac):List Value:=[.int .i64 x.kind, .int .i64 x.one, .int .i64 x.two, .string x.body]
def Ac.fits (x:Ac):Prop:=I64 x.kind ∧ I64 x.one ∧ I64 x.two ∧ x.body.size ≤ 140737488351232
def Ac.zero:Ac:=⟨0,0,0,ByteArray.empty⟩
def AcEl (_:World) (cs:List Value) (x:Ac):Prop:=cs = x.cells ∧ x.fits
def Acts (w:World) (v:Value) (l:List Ac):Prop:=Sl AcEl 4 w v l
theorem AcEl.stays:Stays AcEl:=fun _ _ _ _ h _=>h
theorem Acts.below {w w':World} {v:Value} {l:List Ac} (h:Acts w v l) (hb:Below w.heap.size w w'):Acts w' v l:=Sl.below AcEl.stays h hb
theorem Acts.form {w:World} {v:Value} {l:List Ac} (h:Acts w v l):l.length * 32 ≤ 140737488351232 ∧ ∃ a cap,v = .slice a l.length cap ∧ l.length ≤ cap:=by
 obtain ⟨h1,a,cap,h2,h3,_⟩:=Sl.open h
 exact ⟨by omega,a,cap,h2,h3⟩
def AcBox (w:World) (b o:Nat) (x:Ac):Prop:=w.cell? ⟨b,o,none⟩ = some (.int .i64 x.kind) ∧ w.cell? ⟨b,o + 1,none⟩ = some (.int .i64 x.one) ∧ w.cell? ⟨b,o + 2,none⟩ = some (.int .i64 x.two) ∧ w.cell? ⟨b,o + 3,none⟩ = some (.string x.body)
theorem AcBox.below {w w':World} {b o B:Nat} {x:Ac} (h:AcBox w b o x) (hb:Below B w w') (hB:b < B):AcBox w' b o x:=by
 obtain ⟨h0,h1,h2,h3⟩:=h
 exact ⟨(hb.cell (p:=⟨b,o,none⟩) hB).trans h0,(hb.cell (p:=⟨b,o + 1,none⟩) hB).trans h1,(hb.cell (p:=⟨b,o + 2,none⟩) hB).trans h2,(hb.cell (p:=⟨b,o + 3,none⟩) hB).trans h3⟩
theorem AcBox.new (w:World) (x:Ac) (t:TypeId):AcBox (w.alloc (.cells #[.int .i64 x.kind, .int .i64 x.one, .int .i64 x.two, .string x.body] t)) w.heap.size 0 x:=by
 unfold AcBox
 simp
theorem Acts.at {w:World} {v:Value} {l:List Ac} (h:Acts w v l) {k:Nat} (hk:k < l.length) :
  ∃ b off cap,v = .slice (some ⟨b,off,none⟩) l.length cap ∧ l.length ≤ cap ∧ AcBox w b (off + k * 4) (l.getD k Ac.zero) ∧ (l.getD k Ac.zero).fits:=by
 obtain ⟨h1,ad,cap,h2,h3,h4⟩:=Sl.open h
 obtain ⟨b,off,rfl,hc⟩:=h4 (by intro e;subst e;simp at hk)
 obtain ⟨cs,_,⟨rfl,hf⟩,hj⟩:=hc k hk
 rw [getD_lt l Ac.zero hk]
 exact ⟨b,off,cap,h2,h3,⟨hj 0 (by omega),hj 1 (by omega),hj 2 (by omega),hj 3 (by omega)⟩,hf⟩
def wireN (a b:Nat):Nat → Wd → Int → Int × Int × Wd
 | 0,X,c=>(0,c,X)
 | f + 1,X,c=>if (wireL X a b).length = 0 then (0,c,X) else if (moveR X a b).1 = 0 then wireN a b f (moveR X a b).2 (c + 1) else ((moveR X a b).1,0,Wd.none)
def wireR (X:Wd) (a b:Nat):Int × Int × Wd:=wireN a b (wireL X a b).length X 0
def drainS (a b:Nat) (r:Int × Int × Wd):Int × Int × Wd:=
 if r.1 = 0 then if (wireR r.2.2 a b).1 = 0 then (0,r.2.1 + (wireR r.2.2 a b).2.1,(wireR r.2.2 a b).2.2) else ((wireR r.2.2 a b).1,0,Wd.none) else r
def drainR (X:Wd):Int × Int × Wd:=(List.range X.nodes.length).foldl (fun r a=>(List.range X.nodes.length).foldl (fun r b=>drainS a b r) r) (0,0,X)
def roundS (n g:Nat) (r:Int × Wd):Int × Wd:=if r.1 = 0 then if hasB r.2.groups g n = true then castR r.2 n g true ByteArray.empty else r else r
def roundC (X:Wd):Int × Wd:=(List.range X.nodes.length).foldl (fun r n=>(List.range X.groups.length).foldl (fun r g=>roundS n g r) r) (0,X)
def roundR (X:Wd):Int × Int × Wd:=if (roundC X).1 = 0 then drainR (roundC X).2 else ((roundC X).1,0,Wd.none)
def calmN:Nat → Int × Int × Wd → Int × Int × Wd
 | 0,r=>r
 | k + 1,r=>if r.1 = 0 then calmN k (roundR r.2.2) else r
def calmR (X:Wd):Int × Wd:=if (calmN 4 (drainR X)).1 = 0 then (0,(calmN 4 (drainR X)).2.2) else ((calmN 4 (drainR X)).1,Wd.none)
def calmF (X:Wd):Int × Wd:=if errX X = 0 then calmR X else (errX X,Wd.none)
def doF (X:Wd) (x:Ac):Int × Wd:=
 if x.kind = 1 then castF X x.one x.two false x.body else if x.kind = 2 then castF X x.one x.two true ByteArray.empty else if x.kind = 3 then moveF X x.one x.two else if x.kind = 4 then calmF X else (6,Wd.none)
end Go.Proofs.YtnalakhelicjcaaGreatDoor
set_option maxRecDepth 100000
namespace Go.Proofs.YtnalakhelicjcaaGreatDoor
open Go.RowKit Go.Shelf Go.BigFrame
end Go.Proofs.YtnalakhelicjcaaGreatDoor
set_option maxRecDepth 100000
namespace Go.Proofs.YtnalakhelicjcaaGreatDoor
open Go.RowKit Go.Shelf Go.BigFrame
def DoneR (w wr:World) (B:Nat) (Y:Wd):Prop:=
 ∃ (gv nv wv:Value) (S:Nat → Prop),OWd false wr S gv nv wv Y ∧ OBox wr B 35 gv nv wv ∧ OBox wr w.heap.size 35 (.slice none 0 0) (.slice none 0 0) (.slice none 0 0) ∧ Below w.heap.size w wr ∧ ∀ c,S c → w.heap.size + 1 ≤ c ∧ c < wr.heap.size ∧ c ≠ B
theorem DoneR.trans {w wr w2:World} {B:Nat} {Y:Wd} (h:DoneR w wr B Y) (hb:Below wr.heap.size wr w2):DoneR w w2 B Y:=by
 obtain ⟨gv,nv,wv,S,h1,h2,h3,h4,h5⟩:=h
 have:=h3.lt
 have:=hb.size
 exact ⟨gv,nv,wv,S,h1.keep (fun c hc=>hb.block c (h5 c hc).2.1),h2.keep (hb.block _ h2.lt),h3.keep (hb.block _ h3.lt),h4.trans (hb.mono (by omega)),fun c hc=>by have:=h5 c hc;omega⟩
theorem DoneR.next {w wr w2:World} {B:Nat} {Y Z:Wd} {gv nv wv:Value} {S:Nat → Prop} (h:DoneR w wr B Y) (hB:w.heap.size < B) (hb:Below wr.heap.size wr w2) (hO:OWd false w2 S gv nv wv Z) (hS:∀ c,S c → wr.heap.size ≤ c ∧ c < w2.heap.size) :
  DoneR w (((w2.setCell ⟨B,0,none⟩ gv).setCell ⟨B,1,none⟩ nv).setCell ⟨B,2,none⟩ wv) B Z:=by
 obtain ⟨_,_,_,_,h1,h2,h3,h4,h5⟩:=h
 have hl:=h2.lt
 have hl3:=h3.lt
 have hsz:=hb.size
 have key:∀ c:Nat,c ≠ B → (((w2.setCell ⟨B,0,none⟩ gv).setCell ⟨B,1,none⟩ nv).setCell ⟨B,2,none⟩ wv).heap[c]? = w2.heap[c]?:=fun c hc=>by
  rw [set3_blk (by show c ≠ B;exact hc)]
 refine ⟨gv,nv,wv,S,hO.keep (fun c hc=>key c (by have:=hS c hc;omega)),(((h2.keep (hb.block _ hl)).set0 gv).set1 nv).set2 wv,(h3.keep (hb.block _ hl3)).keep (key _ (by omega)), ?_,fun c hc=>?_⟩
 ·exact set3_below (h4.trans (hb.mono (by omega))) (by omega)
 ·rw [set3_size]
  have:=hS c hc
  omega
end Go.Proofs.YtnalakhelicjcaaGreatDoor
