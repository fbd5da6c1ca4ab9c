/-
  The program: a message is cast out of a right world.
  The program: a message is sent, a Null is sent: errors too.
-/
import Derived.Test.YtnalakhelicjcaaGreatDoorZKQ
import Derived.Test.YtnalakhelicjcaaGreatDoorZKN
import Derived.Test.YtnalakhelicjcaaGreatDoorZKL
import Derived.Test.YtnalakhelicjcaaGreatDoorZKD
set_option maxRecDepth 100000
namespace Go.Proofs.YtnalakhelicjcaaGreatDoor
open Go.RowKit Go.Shelf Go.BigFrame
def MBox (w:World) (b:Nat) (m:M):Prop:=BlkIs w b 96 5 ∧ MsgBox w b m
theorem MBox.new (w:World) (m:M):MBox (w.alloc (.cells #[.int .i64 m.src, .int .i64 m.grp, .int .i64 m.stamp, .bool m.null, .string m.body] 96)) w.heap.size m:=⟨⟨_,heap_alloc_new w _,rfl⟩,MsgBox.new _ _ _⟩
theorem MBox.keep {w w':World} {b:Nat} {m:M} (h:MBox w b m) (k:w'.heap[b]? = w.heap[b]?):MBox w' b m:=⟨h.1.same k,h.2.keep k⟩
theorem MBox.stamp {w:World} {b:Nat} {m:M} (h:MBox w b m) (s:Int):MBox (w.setCell ⟨b,2,none⟩ (.int .i64 s)) b { m with stamp:=s }:=by
 obtain ⟨h0,m0,m1,m2,m3,m4⟩:=h
 exact ⟨h0.setCell,(cell_setCell 0 (by omega)).trans m0,(cell_setCell 1 (by omega)).trans m1,h0.cell_set (by omega),(cell_setCell 3 (by omega)).trans m3,(cell_setCell 4 (by omega)).trans m4⟩
theorem MBox.lt {w:World} {b:Nat} {m:M} (h:MBox w b m):b < w.heap.size:=h.1.lt
structure OutSt (w wr:World) (B:Nat) (pg pn pw gv nv wv:Value) (m:M):Prop where
 par:OBox wr w.heap.size 35 pg pn pw
 msg:MBox wr (w.heap.size + 1) m
 res:OBox wr (w.heap.size + 2) 35 (.slice none 0 0) (.slice none 0 0) (.slice none 0 0)
 out:OBox wr B 35 gv nv wv
 bel:Below w.heap.size w wr
 B:w.heap.size + 3 ≤ B ∧ B < wr.heap.size
theorem OutSt.within {w wr w':World} {B:Nat} {pg pn pw gv nv wv:Value} {m:M} {S:Nat → Prop} (h:OutSt w wr B pg pn pw gv nv wv m) (hw:Within S wr w') (hS:∀ c,S c → w.heap.size + 3 ≤ c ∧ c ≠ B):OutSt w w' B pg pn pw gv nv wv m:=by
 have hB:=h.B
 have hk:∀ c,c < w.heap.size + 3 ∨ c = B → w'.heap[c]? = wr.heap[c]?:=fun c hc=>hw.lies c (by omega) (fun hs=>by have:=hS c hs;omega)
 exact ⟨h.par.keep (hk _ (by omega)),h.msg.keep (hk _ (by omega)),h.res.keep (hk _ (by omega)),h.out.keep (hk _ (by omega)),h.bel.trans (hw.below (by omega) (fun c hc=>by have:=hS c hc;omega)),hB.1,Nat.lt_of_lt_of_le hB.2 hw.size⟩
theorem castEnd_fail {X:Wd} {n:Nat} {m:M} (h:(castEnd X n m).1 ≠ 0):castEnd X n m = ((castEnd X n m).1,Wd.none):=by
 cases hn:m.null
 ·rw [castEnd_hold hn] at h ⊢
  split
  ·rfl
  ·split
   ·rfl
   ·rename_i h1 h2
    rw [if_neg h1,if_neg h2] at h
    exact absurd rfl h
 ·rw [castEnd_null hn] at h ⊢
  split
  ·rfl
  ·rename_i h2
   rw [if_neg h2] at h
   exact absurd rfl h
set_option maxHeartbeats 8000000 in
theorem Out_c {w:World} {gv nv wv:Value} {X:Wd} (hg:Ints w gv X.groups) (hn:Nodes w nv X.nodes) (hw:Wires w wv X.wires) (hX:Fit X) (hri:∀ x ∈ X.nodes,risesB x.held = true) {m:M} (hm:m.fits) :
  Calls Tryz.prog 121 #[.agg #[gv,nv,wv],m.val] w (WPost w (castR X m.src m.grp m.null m.body)):=by
 obtain ⟨hnl,na,ncap,rfl,hnc⟩:=hn.form
 obtain ⟨hwl,wa,wcap,rfl,hwc⟩:=hw.form
 obtain ⟨hgl,ga,gcap,rfl,_⟩:=hg.open
 have hn4:=hX.nodes
 have hg3:=hX.groups
 have hA:=below_a3 w (.cells #[.slice ga X.groups.length gcap, .slice na X.nodes.length ncap, .slice wa X.wires.length wcap] 35) (.cells #[.int .i64 m.src, .int .i64 m.grp, .int .i64 m.stamp, .bool m.null, .string m.body] 96) (.cells #[.slice none 0 0, .slice none 0 0, .slice none 0 0] 35)
 have hB0:=OBox.new w 35 (.slice ga X.groups.length gcap) (.slice na X.nodes.length ncap) (.slice wa X.wires.length wcap)
 have hB1:=hB0.keep (Go.Deep.blk_alloc_lt _ (.cells #[.int .i64 m.src, .int .i64 m.grp, .int .i64 m.stamp, .bool m.null, .string m.body] 96) _ hB0.lt)
 have hB:=hB1.keep (Go.Deep.blk_alloc_lt _ (.cells #[.slice none 0 0, .slice none 0 0, .slice none 0 0] 35) _ hB1.lt)
 have hMB0:=MBox.new (w.alloc (.cells #[.slice ga X.groups.length gcap, .slice na X.nodes.length ncap, .slice wa X.wires.length wcap] 35)) m
 have hMB:=hMB0.keep (Go.Deep.blk_alloc_lt _ (.cells #[.slice none 0 0, .slice none 0 0, .slice none 0 0] 35) _ hMB0.lt)
 clear hB0 hB1 hMB0
 have hRb:=OBox.new ((w.alloc (.cells #[.slice ga X.groups.length gcap, .slice na X.nodes.length ncap, .slice wa X.wires.length wcap] 35)).alloc (.cells #[.int .i64 m.src, .int .i64 m.grp, .int .i64 m.stamp, .bool m.null, .string m.body] 96)) 35 (.slice none 0 0) (.slice none 0 0) (.slice none 0 0)
 rw [World.size_alloc,World.size_alloc] at hRb
 rw [World.size_alloc] at hMB
 have hsA:(((w.alloc (.cells #[.slice ga X.groups.length gcap, .slice na X.nodes.length ncap, .slice wa X.wires.length wcap] 35)).alloc (.cells #[.int .i64 m.src, .int .i64 m.grp, .int .i64 m.stamp, .bool m.null, .string m.body] 96)).alloc (.cells #[.slice none 0 0, .slice none 0 0, .slice none 0 0] 35)).heap.size = w.heap.size + 3:=by rw [World.size_alloc,World.size_alloc,World.size_alloc]
 have hR:castR X m.src m.grp m.null m.body = castR X m.src m.grp m.null m.body:=rfl
 conv at hR=>rhs;unfold castR
 generalize castR X m.src m.grp m.null m.body = r at *
 obtain ⟨P,hP⟩:∃ P,WPost w r = P:=⟨_,rfl⟩
 rw [hP]
 replace hP:=Lib.hid hP
 replace hX:=Lib.hid hX
 replace hri:=Lib.hid hri
 unfold M.val
 obtain ⟨n,hsn⟩:∃ n,m.src = n:=⟨_,rfl⟩
 obtain ⟨g,hsg⟩:∃ g,m.grp = g:=⟨_,rfl⟩
 obtain ⟨nl,hsnl⟩:∃ nl,m.null = nl:=⟨_,rfl⟩
 obtain ⟨bd,hsb⟩:∃ bd,m.body = bd:=⟨_,rfl⟩
 obtain ⟨st,hst⟩:∃ st,m.stamp = st:=⟨_,rfl⟩
 rw [hsn,hsg,hsnl,hsb,hst] at hA hB hRb hsA hMB ⊢
 rw [hsn,hsg,hsnl,hsb] at hR
 go_enter Tryz.func121,Tryz.ntmps121
 go_upto_region 1 with fail
 generalize ((w.alloc (.cells #[.slice ga X.groups.length gcap, .slice na X.nodes.length ncap, .slice wa X.wires.length wcap] 35)).alloc (.cells #[.int .i64 n, .int .i64 g, .int .i64 st, .bool nl, .string bd] 96)).alloc (.cells #[.slice none 0 0, .slice none 0 0, .slice none 0 0] 35) = wA at *
 obtain ⟨_,b0,b1,b2⟩:=id hB
 obtain ⟨_,m0,m1,m2,m3,m4⟩:=id hMB
 rw [hsn] at m0
 rw [hsg] at m1
 rw [hst] at m2
 rw [hsnl] at m3
 rw [hsb] at m4
 obtain ⟨hf0,hf1,hf2,z0,z1,z2⟩:=hRb.all
 cases hin1:inB n 0 ((X.nodes.length:Int) - 1)
 ·rw [hin1,Bool.false_and,if_neg (by simp)] at hR
  subst hR
  have hcs:=inB_f (by rw [hin1];simp)
  clear hin1
  rcases hcs with hlt | hge
  ·skip
   obtain ⟨f0,f1,f2⟩:=hRb.put3 (.slice none 0 0) (.slice none 0 0) (.slice none 0 0)
   go_wp2_with ((with_reducible refine bodyPost_ret (v:=.tuple #[.agg #[.slice none 0 0, .slice none 0 0, .slice none 0 0], .int .i64 4]) ?_ rfl ?_);(focus (simp [results,Tryz.f121];go_simp)))
   rw [← hP.out]
   exact WPost.none (set3_below hA (by omega))
  ·have hge2:(X.nodes.length:Int) ≤ n:=by omega
   have hge3:¬ n < 0:=by omega
   clear hge
   obtain ⟨f0,f1,f2⟩:=hRb.put3 (.slice none 0 0) (.slice none 0 0) (.slice none 0 0)
   go_wp2_with ((with_reducible refine bodyPost_ret (v:=.tuple #[.agg #[.slice none 0 0, .slice none 0 0, .slice none 0 0], .int .i64 4]) ?_ rfl ?_);(focus (simp [results,Tryz.f121];go_simp)))
   rw [← hP.out]
   exact WPost.none (set3_below hA (by omega))
 cases hin2:inB g 0 ((X.groups.length:Int) - 1)
 ·rw [hin1,hin2,Bool.and_false,if_neg (by simp)] at hR
  subst hR
  obtain ⟨hn0,hn1⟩:=inB_t hin1
  have hcs:=inB_f (by rw [hin2];simp)
  have hnn0:¬ n < 0:=by omega
  have hnn1:¬ (X.nodes.length:Int) ≤ n:=by omega
  clear hin1 hin2
  rcases hcs with hlt | hge
  ·skip
   obtain ⟨f0,f1,f2⟩:=hRb.put3 (.slice none 0 0) (.slice none 0 0) (.slice none 0 0)
   go_wp2_with ((with_reducible refine bodyPost_ret (v:=.tuple #[.agg #[.slice none 0 0, .slice none 0 0, .slice none 0 0], .int .i64 4]) ?_ rfl ?_);(focus (simp [results,Tryz.f121];go_simp)))
   rw [← hP.out]
   exact WPost.none (set3_below hA (by omega))
  ·have hge2:(X.groups.length:Int) ≤ g:=by omega
   have hge3:¬ g < 0:=by omega
   clear hge
   obtain ⟨f0,f1,f2⟩:=hRb.put3 (.slice none 0 0) (.slice none 0 0) (.slice none 0 0)
   go_wp2_with ((with_reducible refine bodyPost_ret (v:=.tuple #[.agg #[.slice none 0 0, .slice none 0 0, .slice none 0 0], .int .i64 4]) ?_ rfl ?_);(focus (simp [results,Tryz.f121];go_simp)))
   rw [← hP.out]
   exact WPost.none (set3_below hA (by omega))
 rw [hin1,hin2,Bool.and_self,if_pos rfl] at hR
 obtain ⟨hn0,hn1⟩:=inB_t hin1
 obtain ⟨hg0,hg1⟩:=inB_t hin2
 clear hin1 hin2
 obtain ⟨n,rfl⟩:=Int.eq_ofNat_of_zero_le hn0
 have hnl2:n < X.nodes.length:=by omega
 simp only [Int.toNat_natCast] at hR
 have hgn0:¬ g < 0:=by omega
 have hgn1:¬ (X.groups.length:Int) ≤ g:=by omega
 have hH:=Has_c (hg.below hA) g n
 cases hh:hasB X.groups g n
 ·rw [hh,if_neg (by simp)] at hR
  subst hR
  rw [hh] at hH
  clear hh
  obtain ⟨f0,f1,f2⟩:=hRb.put3 (.slice none 0 0) (.slice none 0 0) (.slice none 0 0)
  go_wp2_with (first
   |(go_at_call 101;refine hH.mono ?_;clear hH;rintro e w' ⟨rfl,rfl⟩)
   |((with_reducible refine bodyPost_ret (v:=.tuple #[.agg #[.slice none 0 0, .slice none 0 0, .slice none 0 0], .int .i64 5]) ?_ rfl ?_);(focus (simp [results,Tryz.f121];go_simp))))
  rw [← hP.out]
  exact WPost.none (set3_below hA (by omega))
 rw [hh,if_pos rfl] at hR
 rw [hh] at hH
 clear hh
 by_cases hb8:8 < (bd.size:Int)
 ·rw [if_pos hb8] at hR
  subst hR
  have hb81:decide ((8:Int) < (bd.size:Int)) = true:=decide_eq_true hb8
  clear hb8
  obtain ⟨f0,f1,f2⟩:=hRb.put3 (.slice none 0 0) (.slice none 0 0) (.slice none 0 0)
  go_wp2_with (first
   |(go_at_call 101;refine hH.mono ?_;clear hH;rintro e w' ⟨rfl,rfl⟩)
   |((with_reducible refine bodyPost_ret (v:=.tuple #[.agg #[.slice none 0 0, .slice none 0 0, .slice none 0 0], .int .i64 1]) ?_ rfl ?_);(focus (simp [results,Tryz.f121];go_simp))))
  rw [← hP.out]
  exact WPost.none (set3_below hA (by omega))
 rw [if_neg hb8] at hR
 have hb81:decide ((8:Int) < (bd.size:Int)) = false:=decide_eq_false hb8
 clear hb8
 obtain ⟨bn,on,cn,lv,hv,tv,e1,_,k0,_,_,_,hc64,_,_,_⟩:=hn.at hnl2
 cases e1
 have k0:=(hA.cell (p:=⟨bn,on + n * 4,none⟩) (cell_lt k0)).trans k0
 obtain ⟨ck,hck⟩:∃ ck,(X.nodes.getD n N.zero).clock = ck:=⟨_,rfl⟩
 rw [hck] at k0 hc64 hR
 have hclk:=hX.out.clocks _ (getD_mem X.nodes N.zero hnl2)
 rw [hck] at hclk
 replace hck:=Lib.hid hck
 by_cases hc1:ck = 1048576
 ·rw [if_pos hc1] at hR
  subst hR
  subst hc1
  obtain ⟨f0,f1,f2⟩:=hRb.put3 (.slice none 0 0) (.slice none 0 0) (.slice none 0 0)
  go_wp2_with (first
   |(go_at_call 101;refine hH.mono ?_;clear hH;rintro e w' ⟨rfl,rfl⟩)
   |((with_reducible refine bodyPost_ret (v:=.tuple #[.agg #[.slice none 0 0, .slice none 0 0, .slice none 0 0], .int .i64 3]) ?_ rfl ?_);(focus (simp [results,Tryz.f121];go_simp))))
  rw [← hP.out]
  exact WPost.none (set3_below hA (by omega))
 rw [if_neg hc1] at hR
 have hc2:(ck == 1048576) = false:=by simpa using hc1
 have hOwn:=Own_c (hg.below hA) (hn.below hA) (hw.below hA) hX.out.small
 replace hR:=Lib.hid hR
 go_wp2_with (first | (go_at_call 101;refine hH.mono ?_;clear hH;rintro e w' ⟨rfl,rfl⟩))
 refine hOwn.mono ?_
 rintro e w1 ⟨gv1,nv1,wv1,S1,rfl,hO1,hS1,hb1⟩
 obtain ⟨pg,pn,pw⟩:=hO1.parts
 obtain ⟨_,ga1,gcap1,rfl,_⟩:=pg.open
 obtain ⟨_,na1,ncap1,rfl,_⟩:=pn.form
 obtain ⟨_,wa1,wcap1,rfl,_⟩:=pw.form
 clear pg pn pw hOwn z0 z1 z2 hf0 hf1 hf2 k0 b0 b1 b2 m0 m1 m2 m3 m4
 have hbB:=below_a1 w1 (.cells #[.slice ga1 X.groups.length gcap1, .slice na1 X.nodes.length ncap1, .slice wa1 X.wires.length wcap1] 35)
 have hsB:(w1.alloc (.cells #[.slice ga1 X.groups.length gcap1, .slice na1 X.nodes.length ncap1, .slice wa1 X.wires.length wcap1] 35)).heap.size = w1.heap.size + 1:=World.size_alloc _ _
 have hs1:=hb1.size
 have hSt:OutSt w (w1.alloc (.cells #[.slice ga1 X.groups.length gcap1, .slice na1 X.nodes.length ncap1, .slice wa1 X.wires.length wcap1] 35)) w1.heap.size (.slice ga X.groups.length gcap) (.slice (some ⟨bn,on,none⟩) X.nodes.length ncap) (.slice wa X.wires.length wcap) (.slice ga1 X.groups.length gcap1) (.slice na1 X.nodes.length ncap1) (.slice wa1 X.wires.length wcap1) m:=by
  have b01:=below_trans hb1 hbB
  exact ⟨hB.keep (b01.block _ (by omega)),hMB.keep (b01.block _ (by omega)),hRb.keep (b01.block _ (by omega)),OBox.new _ _ _ _ _,below_trans hA b01,by omega,by omega⟩
 have hO2:=hO1.keep (w':=w1.alloc (.cells #[.slice ga1 X.groups.length gcap1, .slice na1 X.nodes.length ncap1, .slice wa1 X.wires.length wcap1] 35)) (fun c hc=>hbB.block c (hS1 c hc).2)
 have hS2:∀ c,S1 c → w.heap.size + 3 ≤ c ∧ c < w1.heap.size + 1 ∧ c ≠ w1.heap.size:=fun c hc=>by have:=hS1 c hc;omega
 go_upto_region 14 with fail
 generalize w1.alloc (.cells #[.slice ga1 X.groups.length gcap1, .slice na1 X.nodes.length ncap1, .slice wa1 X.wires.length wcap1] 35) = wB at *
 obtain ⟨B,hBe⟩:∃ B,w1.heap.size = B:=⟨_,rfl⟩
 simp only [hBe] at hSt hS2 hsB ⊢
 clear hBe hO1 hS1 hb1 hbB hs1 hA hB hMB hRb hsA
 -- the clock
 obtain ⟨gn,cap0,e1,_,hgS,hgl,hgB,c0,_,hset⟩:=hO2.clock_at hnl2
 cases e1
 rw [hck.out] at c0
 have hf:=hgB.frozen (n * 4)
 have hO3:=hset wB (ck + 1) (fun _ _=>rfl) (by unfold I64;omega)
 have hup:clockSet X n (ck + 1) = clockUp X n:=by rw [← hck.out];rfl
 rw [hup] at hO3
 have hW3:Within S1 wB (wB.setCell ⟨gn,n * 4,none⟩ (.int .i64 (ck + 1))):=(Within.of_below (S:=S1) (Below.refl _ wB)).setCell (a:=⟨gn,n * 4,none⟩) hgS _
 have hSt3:=hSt.within hW3 (fun c hc=>by have:=hS2 c hc;omega)
 have hc3:(wB.setCell ⟨gn,n * 4,none⟩ (.int .i64 (ck + 1))).cell? ⟨gn,n * 4,none⟩ = some (.int .i64 (ck + 1)):=hgB.cell_set (by omega)
 have hs3:(wB.setCell ⟨gn,n * 4,none⟩ (.int .i64 (ck + 1))).heap.size = wB.heap.size:=Go.Deep.nblk_setCell _ _ _
 obtain ⟨_,o0,o1,o2⟩:=id hSt.out
 replace hset:=Lib.hid hset
 go_upto_region 15 with fail
 generalize wB.setCell ⟨gn,n * 4,none⟩ (.int .i64 (ck + 1)) = wC at *
 clear hset hf c0 o0 o1 o2 hW3 hSt hO2 hgB hup
 -- the stamp
 have hMC:=hSt3.msg
 have hf2:=hMC.1.frozen 2
 obtain ⟨_,mm0,mm1,mm2,mm3,mm4⟩:=id hMC
 rw [hst] at mm2
 obtain ⟨_,o0,o1,o2⟩:=id hSt3.out
 have hMD:=hMC.stamp (ck + 1)
 have hkD:∀ c,c ≠ w.heap.size + 1 → (wC.setCell ⟨w.heap.size + 1,2,none⟩ (.int .i64 (ck + 1))).heap[c]? = wC.heap[c]?:=fun c hc=>Go.Deep.blk_setCell_other _ _ _ _ hc
 have hsD:(wC.setCell ⟨w.heap.size + 1,2,none⟩ (.int .i64 (ck + 1))).heap.size = wC.heap.size:=Go.Deep.nblk_setCell _ _ _
 have hBb:=hSt3.B
 have hSt4:OutSt w (wC.setCell ⟨w.heap.size + 1,2,none⟩ (.int .i64 (ck + 1))) B (.slice ga X.groups.length gcap) (.slice (some ⟨bn,on,none⟩) X.nodes.length ncap) (.slice wa X.wires.length wcap) (.slice ga1 X.groups.length gcap1) (.slice (some ⟨gn,0,none⟩) X.nodes.length ncap1) (.slice wa1 X.wires.length wcap1) { m with stamp:=ck + 1 }:=
  ⟨hSt3.par.keep (hkD _ (by omega)),hMD,hSt3.res.keep (hkD _ (by omega)),hSt3.out.keep (hkD _ (by omega)),below_setCell hSt3.bel (by dsimp only;omega) _,hBb.1,by rw [hsD];exact hBb.2⟩
 have hO4:=hO3.keep (w':=wC.setCell ⟨w.heap.size + 1,2,none⟩ (.int .i64 (ck + 1))) (fun c hc=>hkD c (by have:=hS2 c hc;omega))
 have hS4:∀ c,S1 c → w.heap.size + 3 ≤ c ∧ c < (wC.setCell ⟨w.heap.size + 1,2,none⟩ (.int .i64 (ck + 1))).heap.size ∧ c ≠ B:=fun c hc=>by rw [hsD,hs3,hsB];have:=hS2 c hc;omega
 go_upto_region 16 with fail
 generalize wC.setCell ⟨w.heap.size + 1,2,none⟩ (.int .i64 (ck + 1)) = wD at *
 clear mm0 mm1 mm2 mm3 mm4 hf2 o0 o1 o2 hMC hMD hkD hsD hSt3 hO3 hc3 hs3 hsB hS2 hBb hgl hgS
 obtain ⟨m',hm'⟩:∃ m':M,m' = { m with stamp:=ck + 1 }:=⟨_,rfl⟩
 rw [← hm'] at hSt4
 have hmf:m'.fits:=by rw [hm'];exact ⟨hm.1,hm.2.1,by unfold I64;show -9223372036854775808 ≤ ck + 1 ∧ ck + 1 ≤ 9223372036854775807;omega,hm.2.2.2⟩
 have hRr:r = if (castW (clockUp X n) n g m' X.nodes.length).1 = 0 then castEnd (castW (clockUp X n) n g m' X.nodes.length).2 n m' else ((castW (clockUp X n) n g m' X.nodes.length).1,Wd.none):=by
  have:=hR.out
  rw [this,hm']
  congr 2 <;> (cases m;simp only at hsn hsg hsnl hsb;subst hsn hsg hsnl hsb;rfl)
 have hF1:=clockUp_fit hX.out hnl2 (by rw [hck.out];exact hc1)
 have hX1g:(clockUp X n).groups = X.groups:=rfl
 have hX1n:(clockUp X n).nodes.length = X.nodes.length:=by simp [clockUp]
 have hX1w:(clockUp X n).wires.length = X.wires.length:=rfl
 have hri1:risesB ((clockUp X n).nodes.getD n N.zero).held = true:=by
  rw [show (clockUp X n).nodes.getD n N.zero = { X.nodes.getD n N.zero with clock:=(X.nodes.getD n N.zero).clock + 1 } from getD_set_eq _ _ _ hnl2]
  exact (hri.out (X.nodes.getD n N.zero) (getD_mem X.nodes N.zero hnl2) :)
 generalize clockUp X n = X1 at *
 have hms0:m'.src = n:=by rw [hm'];exact hsn
 have hms1:m'.grp = g:=by rw [hm'];exact hsg
 have hms2:m'.null = nl:=by rw [hm'];exact hsnl
 have hms3:m'.body = bd:=by rw [hm'];exact hsb
 clear hsn hsg hsnl hsb hm' hst hR hck
 replace hRr:=Lib.hid hRr
 replace hF1:=Lib.hid hF1
 replace hX1g:=Lib.hid hX1g
 replace hX1n:=Lib.hid hX1n
 replace hX1w:=Lib.hid hX1w
 replace hri1:=Lib.hid hri1
 have hnw:n < X.wires.length:=by have:=hX.out.wires;omega
 obtain ⟨_,o0,o1,o2⟩:=id hSt4.out
 go_upto_region 17 with fail
 clear o0 o1 o2
 go_loopw [77] (fun i wr=>∃ k:Nat,k ≤ X.nodes.length ∧ i = .int .i64 k ∧ ∃ Y S,Hid (castW X1 n g m' k = (0,Y)) ∧ OWd true wr S (.slice ga1 X.groups.length gcap1) (.slice (some ⟨gn,0,none⟩) X.nodes.length ncap1) (.slice wa1 X.wires.length wcap1) Y ∧ (∀ c,S c → w.heap.size + 3 ≤ c ∧ c < wr.heap.size ∧ c ≠ B) ∧
   OutSt w wr B (.slice ga X.groups.length gcap) (.slice (some ⟨bn,on,none⟩) X.nodes.length ncap) (.slice wa X.wires.length wcap) (.slice ga1 X.groups.length gcap1) (.slice (some ⟨gn,0,none⟩) X.nodes.length ncap1) (.slice wa1 X.wires.length wcap1) m') (fun i _=>X.nodes.length - (intOf i).toNat)
 case atStart=>exact ⟨0,by omega,rfl,X1,S1,rfl,hO4,hS4,hSt4⟩
 case round =>
  clear hSt4 hO4 hS4
  obtain ⟨k,hk,rfl,Y,S,hcw,hO,hS,hSt⟩:=hrel
  obtain ⟨hFY,hYn,hYg⟩:=castW_fit hF1.out (g:=g) (m:=m') (n:=n) (k:=k) (by have:=hX1n.out;omega) (by have:=hX1n.out;omega)
  rw [hcw.out] at hFY hYn hYg
  dsimp only at hFY hYn hYg
  replace hYg:=Lib.hid (hYg.trans hX1g.out)
  have hYl:=Lib.hid ((congrArg List.length hYn).trans hX1n.out)
  replace hYn:=Lib.hid hYn
  replace hFY:=Lib.hid hFY
  have hgI:=hg.below hSt.bel
  have hsz:=hSt.B
  by_cases hlt:k < X.nodes.length
  ·have hRe:∀ e Z,e ≠ 0 → castW X1 n g m' (k + 1) = (e,Z) → r = (e,Wd.none):=fun e Z he h=>by
    have h1:=hRr.out
    have h2:castW X1 n g m' X.nodes.length = (e,Z):=by
     have:=castW_stop (X:=X1) (n:=n) (g:=g) (m:=m') (k:=k + 1) (by rw [h];exact he) (X.nodes.length - (k + 1))
     rw [show k + 1 + (X.nodes.length - (k + 1)) = X.nodes.length by omega] at this
     rw [this,h]
    rw [h1,h2,if_neg he]
   replace hRe:=Lib.hid hRe
   have hnx:=Lib.hid (castW_next hcw.out)
   obtain ⟨_,p0,p1,p2⟩:=id hSt.par
   obtain ⟨_,o0,o1,o2⟩:=id hSt.out
   obtain ⟨_,mm0,mm1,mm2,mm3,mm4⟩:=id hSt.msg
   rw [hms0] at mm0
   rw [hms1] at mm1
   by_cases hkn:k = n
   ·have hk1:((k:Int) == (n:Int)) = true:=by simp [hkn]
    have hst:=Lib.hid (castStep_skip (Y:=Y) (g:=g) (m:=m') (show (k == n || !hasB Y.groups g k) = true by rw [hkn];simp))
    clear hkn
    go_wp2_with fail
    go_roundw
    case rel=>exact ⟨k + 1,by omega,by go_num,Y,S,hnx.out.trans hst.out,hO,hS,hSt⟩
    case measure=>simp [intOf];omega
   have hk1:((k:Int) == (n:Int)) = false:=by simp;omega
   have hkb:(k == n) = false:=by simp;exact hkn
   have hHk:=Has_c hgI g k
   cases hhk:hasB X.groups g k
   ·rw [hhk] at hHk
    have hst:=Lib.hid (castStep_skip (Y:=Y) (n:=n) (g:=g) (m:=m') (show (k == n || !hasB Y.groups g k) = true by rw [hYg.out,hhk];simp))
    clear hhk hkb hkn
    go_wp2_with (first | (go_at_call 101;refine hHk.mono ?_;clear hHk;rintro e w' ⟨rfl,rfl⟩))
    go_roundw
    case rel=>exact ⟨k + 1,by omega,by go_num,Y,S,hnx.out.trans hst.out,hO,hS,hSt⟩
    case measure=>simp [intOf];omega
   rw [hhk] at hHk
   have hcond:=Lib.hid (show (k == n || !hasB Y.groups g k) = false by rw [hYg.out,hhk,hkb];rfl)
   clear hhk hkb
   have hnY:n < Y.nodes.length:=by have:=hYl.out;omega
   have hkY:k < Y.nodes.length:=by have:=hYl.out;omega
   have hl40:(wireL Y n k).length ≤ 40:=hFY.out.wire hnY hkY
   have hrowl:=hFY.out.row hnY
   obtain ⟨g1,cap1,g2,cap2,ua,uc,e1,hc1',hg1S,k1,hc2',hg2S,hg2b,k2,hUm,hpush⟩:=hO.wire_push (fun c hc=>(hS c hc).2.1) (a:=n) (k:=k) (by rw [hFY.out.wires];exact hnY) (by rw [hrowl];exact hkY) (by omega)
   injection e1 with ea eb ec
   subst ea
   subst ec
   rw [← eb] at hc1'
   rw [hrowl,hYl.out] at k1 hc2'
   replace eb:=Lib.hid eb
   replace hrowl:=Lib.hid hrowl
   replace hpush:=Lib.hid hpush
   obtain ⟨l,hl⟩:∃ l,wireL Y n k = l:=⟨_,rfl⟩
   have hs40:=fun h=>castStep_40 (m:=m') hcond.out h
   have hs1:=fun h h2=>castStep_1 (m:=m') hcond.out h h2
   have hsp:=fun h h2=>castStep_put (m:=m') hcond.out h h2
   rw [hl] at hl40 k2 hUm hs40 hs1 hsp hpush
   clear hl
   obtain ⟨L,hL⟩:∃ L,l.length = L:=⟨_,rfl⟩
   rw [hL] at hl40 k2 hs40 hs1 hsp
   replace hs40:=Lib.hid hs40
   replace hs1:=Lib.hid hs1
   replace hsp:=Lib.hid hsp
   by_cases h40:L = 40
   ·have hr2:=hRe.out 2 Y (by omega) (hnx.out.trans (hs40.out h40))
    subst hr2
    have h41:((L:Int) == 40) = true:=by simp;omega
    replace h40:=Lib.hid h40
    replace hL:=Lib.hid hL
    have hbl:=hSt.bel
    have hf0:=hSt.res.1.frozen 0
    have hf1:=hSt.res.1.frozen 1
    have hf2:=hSt.res.1.frozen 2
    have hRb:=hSt.res
    obtain ⟨_,z0,z1,z2⟩:=id hRb
    obtain ⟨f0,f1,f2⟩:=hRb.put3 (.slice none 0 0) (.slice none 0 0) (.slice none 0 0)
    go_wp2_with (first
     |(go_at_call 101;refine hHk.mono ?_;clear hHk;rintro e w' ⟨rfl,rfl⟩)
     |((with_reducible refine bodyPost_ret (v:=.tuple #[.agg #[.slice none 0 0, .slice none 0 0, .slice none 0 0], .int .i64 2]) ?_ rfl ?_);(focus (simp [results,Tryz.f121];go_simp))))
    rw [← hP.out]
    exact WPost.none (set3_below hbl (by omega))
   have h41:((L:Int) == 40) = false:=by simp;omega
   have hcells:=Lib.hid hUm.open.2
   have hput:=hsp.out h40
   have hbad:=hs1.out h40
   rw [← hL] at hput hbad
   replace h40:=Lib.hid h40
   rcases Nat.eq_zero_or_pos L with h0 | h0
   ·have hgo:=Lib.hid (hput (fun h=>by omega))
    clear hput hbad hs40 hs1 hsp
    subst h0
    go_wp2_with (first | (go_at_call 101;refine hHk.mono ?_;clear hHk;rintro e w' ⟨rfl,rfl⟩))
    go_quiet (fail)
    generalize hwq:World.drewN wr _ = wq
    have hbq:Below wr.heap.size wr wq:=by rw [← hwq];exact below_drewN wr _
    clear hwq
    have hqs:=hbq.size
    have hStq:=hSt.within (Within.of_below (S:=S) hbq) (fun c hc=>by have:=hS c hc;omega)
    obtain ⟨_,r0,r1,r2,r3,r4⟩:=id hStq.msg
    rw [hms0] at r0
    rw [hms1] at r1
    rw [hms2] at r3
    rw [hms3] at r4
    go_upto_region 26 with fail
    have kq2:=(hbq.cell (p:=⟨g2,k,none⟩) (cell_lt k2)).trans k2
    have hml:=cell_lt r0
    have hgl2:=cell_lt kq2
    dsimp only at hml hgl2
    have hSB:∀ W,Below wq.heap.size wq W → W.cell? ⟨g2,k,none⟩ = some (.slice ua 0 uc) ∧ W.cell? ⟨w.heap.size + 1,0,none⟩ = some (.int .i64 n) ∧ W.cell? ⟨w.heap.size + 1,1,none⟩ = some (.int .i64 g) ∧ W.cell? ⟨w.heap.size + 1,2,none⟩ = some (.int .i64 m'.stamp) ∧ W.cell? ⟨w.heap.size + 1,3,none⟩ = some (.bool nl) ∧ W.cell? ⟨w.heap.size + 1,4,none⟩ = some (.string bd):=
     fun W h=>⟨(h.cell (p:=⟨g2,k,none⟩) hgl2).trans kq2,(h.cell (p:=⟨w.heap.size + 1,0,none⟩) hml).trans r0,(h.cell (p:=⟨w.heap.size + 1,1,none⟩) hml).trans r1,(h.cell (p:=⟨w.heap.size + 1,2,none⟩) hml).trans r2,(h.cell (p:=⟨w.heap.size + 1,3,none⟩) hml).trans r3,(h.cell (p:=⟨w.heap.size + 1,4,none⟩) hml).trans r4⟩
    clear r0 r1 r2 r3 r4 kq2
    refine wp_region_N (fun W=>W.cell? ⟨g2,k,none⟩ = some (.slice ua 0 uc) ∧ W.cell? ⟨w.heap.size + 1,0,none⟩ = some (.int .i64 n) ∧ W.cell? ⟨w.heap.size + 1,1,none⟩ = some (.int .i64 g) ∧ W.cell? ⟨w.heap.size + 1,2,none⟩ = some (.int .i64 m'.stamp) ∧ W.cell? ⟨w.heap.size + 1,3,none⟩ = some (.bool nl) ∧ W.cell? ⟨w.heap.size + 1,4,none⟩ = some (.string bd)) 7 9 rfl (by kernel_rfl) (hSB _ (below_drewN wq 1)) (fun hSw=>?_)
    refine tk 0 ?_ rfl rfl (by kernel_rfl) (.inl ⟨by rfl, ?_⟩) hSw ?_
    rotate_left
    ·rintro w ⟨s0,s1,s2,s3,s4,s5⟩;go_simp;try with_reducible rfl
    simp only [tkp,tkz,tks]
    refine tk 1 ?_ rfl rfl (by kernel_rfl) (.inl ⟨by rfl, ?_⟩) hSw ?_
    rotate_left
    ·rintro w ⟨s0,s1,s2,s3,s4,s5⟩;go_simp;try with_reducible rfl
    simp only [tkp,tkz,tks]
    refine tk 2 ?_ rfl rfl (by kernel_rfl) (.inl ⟨by rfl, ?_⟩) hSw ?_
    rotate_left
    ·rintro w ⟨s0,s1,s2,s3,s4,s5⟩;go_simp;try with_reducible rfl
    simp only [tkp,tkz,tks]
    refine tk 3 ?_ rfl rfl (by kernel_rfl) (.inl ⟨by rfl, ?_⟩) hSw ?_
    rotate_left
    ·rintro w ⟨s0,s1,s2,s3,s4,s5⟩;go_simp;try with_reducible rfl
    simp only [tkp,tkz,tks]
    refine tk 4 ?_ rfl rfl (by kernel_rfl) (.inl ⟨by rfl, ?_⟩) hSw ?_
    rotate_left
    ·rintro w ⟨s0,s1,s2,s3,s4,s5⟩;go_simp;try with_reducible rfl
    simp only [tkp,tkz,tks]
    refine N_one' (i:=5) (by kernel_rfl) rfl ?_
    go_wp2_with fail
    have hbz:Below wq.heap.size wq (wq.alloc (.cells #[.int .i64 n, .int .i64 g, .int .i64 m'.stamp, .bool nl, .string bd] 96)).drew:=below_drew (below_a1 wq _)
    refine QK_normal ⟨?_, ?_⟩
    ·first | exact fun _=>hSB _ hbz | exact hSB _ hbz
    have hbr:=below_trans hbq hbz
    obtain ⟨v9,w9,a9,c9,hr9,rfl,hf9,hk9,hW9,hWF,S9,hO9,hS9⟩:=hpush.out (wq.alloc (.cells #[.int .i64 n, .int .i64 g, .int .i64 m'.stamp, .bool nl, .string bd] 96)).drew m' wq.heap.size hmf hbr (by omega) (fun j u hj=>by
     have:=cells_new wq #[.int .i64 n, .int .i64 g, .int .i64 m'.stamp, .bool nl, .string bd] 96 j u (by rw [← hj,M.cells,hms0,hms1,hms2,hms3])
     exact this)
    simp only [hL] at hr9 hk9 hWF hO9 hS9 ⊢
    refine N_one' (i:=6) (by kernel_rfl) rfl ?_
    go_wp2_with (at_builtin;refine Lib.wpList_append_run _ rfl _ _ _ _ rfl (.slice ua 0 uc) (.slice (some ⟨wq.heap.size,0,none⟩) 1 1) rfl rfl _ _ (hr9 _) ?_)
    have hSt9:=hSt.within hW9 (fun c hc=>by have:=hS c hc;omega)
    obtain ⟨_,r0,r1,r2,r3,r4⟩:=id hSt9.msg
    rw [hms0] at r0
    rw [hms1] at r1
    rw [hms2] at r3
    rw [hms3] at r4
    refine QK_normal ⟨?_, ?_⟩
    ·first | exact fun _=>⟨hk9,r0,r1,r2,r3,r4⟩ | exact ⟨hk9,r0,r1,r2,r3,r4⟩
    refine N_rest 7 2 (Nat.le_refl _) rfl (by kernel_rfl) ?_
    simp only [List.drop_succ_cons,List.drop_zero]
    go_wp2_with fail
    go_roundw
    case rel =>
     refine ⟨k + 1,by omega,by go_num,_,S9,hnx.out.trans hgo.out,hO9,fun c hc=>?_,hSt.within hWF (fun c hc=>by have:=hS c hc;omega)⟩
     have:=hS9 c hc
     refine ⟨?_,this.2, ?_⟩
     ·rcases this.1 with h | h
      ·exact (hS c h).1
      ·have:=hSt.B;omega
     ·rcases this.1 with h | h
      ·exact (hS c h).2.2
      ·have:=hSt.B;omega
    case measure=>simp [intOf];omega
   ·obtain ⟨q,rfl⟩:∃ q,L = q + 1:=⟨L - 1,by omega⟩
    obtain ⟨a',cap',e,_,hcs⟩:=hcells.out
    injection e with ea eb' ec
    subst ea
    clear eb' ec
    obtain ⟨lb,lo,rfl,hat⟩:=hcs (by intro e;rw [e] at hL;simp at hL)
    obtain ⟨_,_,d2,_,_⟩:=hat q (by omega)
    obtain ⟨d,hd⟩:∃ d,l.getD q M.zero = d:=⟨_,rfl⟩
    rw [hd] at d2
    rw [show l.length - 1 = q by omega,hd] at hput hbad
    clear hat hcs hd
    by_cases hst:m'.stamp ≤ d.stamp
    ·have hr1:=hRe.out 1 Y (by omega) (hnx.out.trans (hbad ⟨by omega,hst⟩))
     subst hr1
     clear hput hbad hs40 hs1 hsp
     go_wp2_with (first | (go_at_call 101;refine hHk.mono ?_;clear hHk;rintro e w' ⟨rfl,rfl⟩))
     go_quiet (fail)
     generalize hwq:World.drewN wr _ = wq
     have hbq:Below wr.heap.size wr wq:=by rw [← hwq];exact below_drewN wr _
     clear hwq
     have hStq:=hSt.within (Within.of_below (S:=S) hbq) (fun c hc=>by have:=hS c hc;omega)
     have hbl:=hStq.bel
     have hf0:=hStq.res.1.frozen 0
     have hf1:=hStq.res.1.frozen 1
     have hf2:=hStq.res.1.frozen 2
     have hRb:=hStq.res
     obtain ⟨_,z0,z1,z2⟩:=id hRb
     obtain ⟨f0,f1,f2⟩:=hRb.put3 (.slice none 0 0) (.slice none 0 0) (.slice none 0 0)
     go_wp2_with ((with_reducible refine bodyPost_ret (v:=.tuple #[.agg #[.slice none 0 0, .slice none 0 0, .slice none 0 0], .int .i64 1]) ?_ rfl ?_);(focus (simp [results,Tryz.f121];go_simp)))
     rw [← hP.out]
     exact WPost.none (set3_below hbl (by omega))
    ·have hgo:=Lib.hid (hput (fun h=>hst h.2))
     clear hput hbad hs40 hs1 hsp
     have hst2:d.stamp < m'.stamp:=by omega
     go_wp2_with (first | (go_at_call 101;refine hHk.mono ?_;clear hHk;rintro e w' ⟨rfl,rfl⟩))
     go_quiet (fail)
     generalize hwq:World.drewN wr _ = wq
     have hbq:Below wr.heap.size wr wq:=by rw [← hwq];exact below_drewN wr _
     clear hwq
     have hqs:=hbq.size
     have hStq:=hSt.within (Within.of_below (S:=S) hbq) (fun c hc=>by have:=hS c hc;omega)
     obtain ⟨_,r0,r1,r2,r3,r4⟩:=id hStq.msg
     rw [hms0] at r0
     rw [hms1] at r1
     rw [hms2] at r3
     rw [hms3] at r4
     go_upto_region 26 with fail
     have kq2:=(hbq.cell (p:=⟨g2,k,none⟩) (cell_lt k2)).trans k2
     have hml:=cell_lt r0
     have hgl2:=cell_lt kq2
     dsimp only at hml hgl2
     have hSB:∀ W,Below wq.heap.size wq W → W.cell? ⟨g2,k,none⟩ = some (.slice (some ⟨lb,lo,none⟩) (q + 1) uc) ∧ W.cell? ⟨w.heap.size + 1,0,none⟩ = some (.int .i64 n) ∧ W.cell? ⟨w.heap.size + 1,1,none⟩ = some (.int .i64 g) ∧ W.cell? ⟨w.heap.size + 1,2,none⟩ = some (.int .i64 m'.stamp) ∧ W.cell? ⟨w.heap.size + 1,3,none⟩ = some (.bool nl) ∧ W.cell? ⟨w.heap.size + 1,4,none⟩ = some (.string bd):=
      fun W h=>⟨(h.cell (p:=⟨g2,k,none⟩) hgl2).trans kq2,(h.cell (p:=⟨w.heap.size + 1,0,none⟩) hml).trans r0,(h.cell (p:=⟨w.heap.size + 1,1,none⟩) hml).trans r1,(h.cell (p:=⟨w.heap.size + 1,2,none⟩) hml).trans r2,(h.cell (p:=⟨w.heap.size + 1,3,none⟩) hml).trans r3,(h.cell (p:=⟨w.heap.size + 1,4,none⟩) hml).trans r4⟩
     clear r0 r1 r2 r3 r4 kq2
     refine wp_region_N (fun W=>W.cell? ⟨g2,k,none⟩ = some (.slice (some ⟨lb,lo,none⟩) (q + 1) uc) ∧ W.cell? ⟨w.heap.size + 1,0,none⟩ = some (.int .i64 n) ∧ W.cell? ⟨w.heap.size + 1,1,none⟩ = some (.int .i64 g) ∧ W.cell? ⟨w.heap.size + 1,2,none⟩ = some (.int .i64 m'.stamp) ∧ W.cell? ⟨w.heap.size + 1,3,none⟩ = some (.bool nl) ∧ W.cell? ⟨w.heap.size + 1,4,none⟩ = some (.string bd)) 7 9 rfl (by kernel_rfl) (hSB _ (below_drewN wq 1)) (fun hSw=>?_)
     refine tk 0 ?_ rfl rfl (by kernel_rfl) (.inl ⟨by rfl, ?_⟩) hSw ?_
     rotate_left
     ·rintro w ⟨s0,s1,s2,s3,s4,s5⟩;go_simp;try with_reducible rfl
     simp only [tkp,tkz,tks]
     refine tk 1 ?_ rfl rfl (by kernel_rfl) (.inl ⟨by rfl, ?_⟩) hSw ?_
     rotate_left
     ·rintro w ⟨s0,s1,s2,s3,s4,s5⟩;go_simp;try with_reducible rfl
     simp only [tkp,tkz,tks]
     refine tk 2 ?_ rfl rfl (by kernel_rfl) (.inl ⟨by rfl, ?_⟩) hSw ?_
     rotate_left
     ·rintro w ⟨s0,s1,s2,s3,s4,s5⟩;go_simp;try with_reducible rfl
     simp only [tkp,tkz,tks]
     refine tk 3 ?_ rfl rfl (by kernel_rfl) (.inl ⟨by rfl, ?_⟩) hSw ?_
     rotate_left
     ·rintro w ⟨s0,s1,s2,s3,s4,s5⟩;go_simp;try with_reducible rfl
     simp only [tkp,tkz,tks]
     refine tk 4 ?_ rfl rfl (by kernel_rfl) (.inl ⟨by rfl, ?_⟩) hSw ?_
     rotate_left
     ·rintro w ⟨s0,s1,s2,s3,s4,s5⟩;go_simp;try with_reducible rfl
     simp only [tkp,tkz,tks]
     refine N_one' (i:=5) (by kernel_rfl) rfl ?_
     go_wp2_with fail
     have hbz:Below wq.heap.size wq (wq.alloc (.cells #[.int .i64 n, .int .i64 g, .int .i64 m'.stamp, .bool nl, .string bd] 96)).drew:=below_drew (below_a1 wq _)
     refine QK_normal ⟨?_, ?_⟩
     ·first | exact fun _=>hSB _ hbz | exact hSB _ hbz
     have hbr:=below_trans hbq hbz
     obtain ⟨v9,w9,a9,c9,hr9,rfl,hf9,hk9,hW9,hWF,S9,hO9,hS9⟩:=hpush.out (wq.alloc (.cells #[.int .i64 n, .int .i64 g, .int .i64 m'.stamp, .bool nl, .string bd] 96)).drew m' wq.heap.size hmf hbr (by omega) (fun j u hj=>by
      have:=cells_new wq #[.int .i64 n, .int .i64 g, .int .i64 m'.stamp, .bool nl, .string bd] 96 j u (by rw [← hj,M.cells,hms0,hms1,hms2,hms3])
      exact this)
     simp only [hL] at hr9 hk9 hWF hO9 hS9 ⊢
     refine N_one' (i:=6) (by kernel_rfl) rfl ?_
     go_wp2_with (at_builtin;refine Lib.wpList_append_run _ rfl _ _ _ _ rfl (.slice (some ⟨lb,lo,none⟩) (q + 1) uc) (.slice (some ⟨wq.heap.size,0,none⟩) 1 1) rfl rfl _ _ (hr9 _) ?_)
     have hSt9:=hSt.within hW9 (fun c hc=>by have:=hS c hc;omega)
     obtain ⟨_,r0,r1,r2,r3,r4⟩:=id hSt9.msg
     rw [hms0] at r0
     rw [hms1] at r1
     rw [hms2] at r3
     rw [hms3] at r4
     refine QK_normal ⟨?_, ?_⟩
     ·first | exact fun _=>⟨hk9,r0,r1,r2,r3,r4⟩ | exact ⟨hk9,r0,r1,r2,r3,r4⟩
     refine N_rest 7 2 (Nat.le_refl _) rfl (by kernel_rfl) ?_
     simp only [List.drop_succ_cons,List.drop_zero]
     go_wp2_with fail
     go_roundw
     case rel =>
      refine ⟨k + 1,by omega,by go_num,_,S9,hnx.out.trans hgo.out,hO9,fun c hc=>?_,hSt.within hWF (fun c hc=>by have:=hS c hc;omega)⟩
      have:=hS9 c hc
      refine ⟨?_,this.2, ?_⟩
      ·rcases this.1 with h | h
       ·exact (hS c h).1
       ·have:=hSt.B;omega
      ·rcases this.1 with h | h
       ·exact (hS c h).2.2
       ·have:=hSt.B;omega
     case measure=>simp [intOf];omega
  ·obtain rfl:k = X.nodes.length:=by omega
   have hre:=hRr.out
   rw [hcw.out,if_pos rfl] at hre
   dsimp only at hre
   have hnY:n < Y.nodes.length:=by have:=hYl.out;omega
   have hriY:risesB (Y.nodes.getD n N.zero).held = true:=by rw [hYn.out];exact hri1.out
   have hlY:=hFY.out.lists _ (getD_mem Y.nodes N.zero hnY)
   have hH:=Hold_c hSt.out hO (fun c hc=>(hS c hc).2.1) (fun h=>(hS B h).2.2 rfl) hnY (hFY.out.tab hnY) hriY (by omega) hmf
   unfold M.val at hH
   rw [hms0,hms1,hms2,hms3] at hH
   rw [← hre] at hH
   have hfl:=castEnd_fail (X:=Y) (n:=n) (m:=m')
   rw [← hre] at hfl
   clear hre hRr
   obtain ⟨_,o0,o1,o2⟩:=id hSt.out
   obtain ⟨_,mm0,mm1,mm2,mm3,mm4⟩:=id hSt.msg
   rw [hms0] at mm0
   rw [hms1] at mm1
   rw [hms2] at mm3
   rw [hms3] at mm4
   go_wp2_with fail
   refine hH.mono ?_
   rintro e w2 ⟨rfl,hwi,hok⟩
   clear hH o0 o1 o2 mm0 mm1 mm2 mm3 mm4
   have hSt2:=hSt.within hwi (fun c hc=>by have:=hS c hc;omega)
   have hf0:=hSt2.res.1.frozen 0
   have hf1:=hSt2.res.1.frozen 1
   have hf2:=hSt2.res.1.frozen 2
   have hRb:=hSt2.res
   obtain ⟨_,z0,z1,z2⟩:=id hRb
   have hbl:=hSt2.bel
   by_cases hz:r.1 = 0
   ·have hne:(r.1 != 0) = false:=by simpa using hz
    obtain ⟨S3,hO3,hS3⟩:=hok hz
    have hsz2:=hSt.B
    have hlo3:∀ c,S3 c → w.heap.size + 3 ≤ c ∧ c < w2.heap.size:=fun c hc=>⟨by
     rcases (hS3 c hc).1 with h | h
     ·exact (hS c h).1
     ·omega,(hS3 c hc).2⟩
    replace hz:=Lib.hid hz
    obtain ⟨_,o0,o1,o2⟩:=id hSt2.out
    obtain ⟨f0,f1,f2⟩:=hRb.put3 (.slice ga1 X.groups.length gcap1) (.slice (some ⟨gn,0,none⟩) X.nodes.length ncap1) (.slice wa1 X.wires.length wcap1)
    go_wp2_with ((with_reducible refine bodyPost_ret (v:=.tuple #[.agg #[.slice ga1 X.groups.length gcap1, .slice (some ⟨gn,0,none⟩) X.nodes.length ncap1, .slice wa1 X.wires.length wcap1], .int .i64 0]) ?_ rfl ?_);(focus (simp [results,Tryz.f121];go_simp)))
    rw [← hP.out]
    refine ⟨_,_,_,S3,by rw [hz.out],(hO3.keep (fun c hc=>?_)).any,fun c hc=>?_,set3_below hbl (by omega)⟩
    ·have h:=hlo3 c hc
     rw [set3_blk (by show c ≠ w.heap.size + 1 + 1;omega)]
    ·have h:=hlo3 c hc
     rw [set3_size]
     omega
   ·have hne:(r.1 != 0) = true:=by simpa using hz
    have hr2:=hfl hz
    replace hz:=Lib.hid hz
    clear hok hfl
    obtain ⟨e0,he0⟩:∃ e0,r.1 = e0:=⟨_,rfl⟩
    rw [he0] at hr2 hne ⊢
    clear he0
    subst hr2
    obtain ⟨f0,f1,f2⟩:=hRb.put3 (.slice none 0 0) (.slice none 0 0) (.slice none 0 0)
    go_wp2_with ((with_reducible refine bodyPost_ret (v:=.tuple #[.agg #[.slice none 0 0, .slice none 0 0, .slice none 0 0], .int .i64 e0]) ?_ rfl ?_);(focus (simp [results,Tryz.f121];go_simp)))
    rw [← hP.out]
    exact WPost.none (set3_below hbl (by omega))
end Go.Proofs.YtnalakhelicjcaaGreatDoor
set_option maxRecDepth 100000
namespace Go.Proofs.YtnalakhelicjcaaGreatDoor
open Go.RowKit Go.Shelf Go.BigFrame
theorem errX_riseAll {X:Wd} (h:errX X = 0):∀ x ∈ X.nodes,risesB x.held = true:=by
 intro x hx
 obtain ⟨i,hi,rfl⟩:=List.mem_iff_getElem.1 hx
 have:=errX_rises h hi
 rwa [getD_lt X.nodes N.zero hi] at this
set_option maxHeartbeats 4000000 in
theorem asked_c {w:World} {v:Value} {X:Wd} (h:WorldAt w v X) {m:M} (hm:m.fits) :
  Calls Tryz.prog 96 #[v,m.val] w (WPost w (castF X m.src m.grp m.null m.body)):=by
 have hW0:=h
 obtain ⟨gv,nv,wv,rfl,hg,hn,hw⟩:=h
 obtain ⟨hnl,na,ncap,rfl,hnc⟩:=hn.form
 obtain ⟨hwl,wa,wcap,rfl,hwc⟩:=hw.form
 obtain ⟨hgl,ga,gcap,rfl,_⟩:=hg.open
 have hA:=below_a3 w (.cells #[.slice ga X.groups.length gcap, .slice na X.nodes.length ncap, .slice wa X.wires.length wcap] 35) (.cells #[.int .i64 m.src, .int .i64 m.grp, .int .i64 m.stamp, .bool m.null, .string m.body] 96) (.cells #[.slice none 0 0, .slice none 0 0, .slice none 0 0] 35)
 have hB0:=OBox.new w 35 (.slice ga X.groups.length gcap) (.slice na X.nodes.length ncap) (.slice wa X.wires.length wcap)
 have hB1:=hB0.keep (Go.Deep.blk_alloc_lt _ (.cells #[.int .i64 m.src, .int .i64 m.grp, .int .i64 m.stamp, .bool m.null, .string m.body] 96) _ hB0.lt)
 have hB:=hB1.keep (Go.Deep.blk_alloc_lt _ (.cells #[.slice none 0 0, .slice none 0 0, .slice none 0 0] 35) _ hB1.lt)
 have hMB0:=MBox.new (w.alloc (.cells #[.slice ga X.groups.length gcap, .slice na X.nodes.length ncap, .slice wa X.wires.length wcap] 35)) m
 have hMB:=hMB0.keep (Go.Deep.blk_alloc_lt _ (.cells #[.slice none 0 0, .slice none 0 0, .slice none 0 0] 35) _ hMB0.lt)
 clear hB0 hB1 hMB0
 have hRb:=OBox.new ((w.alloc (.cells #[.slice ga X.groups.length gcap, .slice na X.nodes.length ncap, .slice wa X.wires.length wcap] 35)).alloc (.cells #[.int .i64 m.src, .int .i64 m.grp, .int .i64 m.stamp, .bool m.null, .string m.body] 96)) 35 (.slice none 0 0) (.slice none 0 0) (.slice none 0 0)
 rw [World.size_alloc,World.size_alloc] at hRb
 rw [World.size_alloc] at hMB
 have hR:castF X m.src m.grp m.null m.body = castF X m.src m.grp m.null m.body:=rfl
 conv at hR=>rhs;unfold castF
 generalize castF X m.src m.grp m.null m.body = r at *
 obtain ⟨P,hP⟩:∃ P,WPost w r = P:=⟨_,rfl⟩
 rw [hP]
 replace hP:=Lib.hid hP
 have hE1:=fun o (h:Below w.heap.size w o)=>WCheck_c (hW0.below h)
 have hC:=fun (he:errX X = 0) o (h:Below w.heap.size w o)=>Out_c (hg.below h) (hn.below h) (hw.below h) (errX_fit he) (errX_riseAll he) hm
 unfold M.val at hC ⊢
 go_enter Tryz.func96,Tryz.ntmps96
 go_upto_region 1 with fail
 generalize ((w.alloc (.cells #[.slice ga X.groups.length gcap, .slice na X.nodes.length ncap, .slice wa X.wires.length wcap] 35)).alloc (.cells #[.int .i64 m.src, .int .i64 m.grp, .int .i64 m.stamp, .bool m.null, .string m.body] 96)).alloc (.cells #[.slice none 0 0, .slice none 0 0, .slice none 0 0] 35) = wA at *
 replace hE1:=hE1 wA hA
 obtain ⟨_,b0,b1,b2⟩:=id hB
 by_cases he:errX X = 0
 ·rw [if_pos he] at hR
  rw [he] at hE1
  have hC:=hC he
  clear he
  rw [← hR] at hC
  clear hR
  replace hC:=Lib.hid hC
  go_wp2_with fail
  refine hE1.mono ?_
  rintro e w1 ⟨rfl,hb⟩
  clear b0 b1 b2 hE1
  have hR1:=hRb.keep (hb.block _ hRb.lt)
  have hB1:=hB.keep (hb.block _ hB.lt)
  have hM1:=hMB.keep (hb.block _ hMB.lt)
  have hA1:=below_trans hA hb
  have hC1:=hC.out w1 hA1
  clear hC
  obtain ⟨_,x0,x1,x2⟩:=id hB1
  obtain ⟨_,m0,m1,m2,m3,m4⟩:=id hM1
  go_wp2_with fail
  refine (hC1).mono ?_
  rintro e w2 ⟨gv2,nv2,wv2,S2,rfl,hO2,hS2,hb2⟩
  obtain ⟨pg,pn,pw⟩:=hO2.parts
  obtain ⟨_,ga2,gcap2,rfl,_⟩:=pg.open
  obtain ⟨_,na2,ncap2,rfl,_⟩:=pn.form
  obtain ⟨_,wa2,wcap2,rfl,_⟩:=pw.form
  clear pg pn pw
  have hR2:=hR1.keep (hb2.block _ hR1.lt)
  have hlt2:=hR1.lt
  have hbF:=below_trans hA1 hb2
  replace hS2:=Lib.hid hS2
  obtain ⟨hf0,hf1,hf2,z0,z1,z2⟩:=hR2.all
  obtain ⟨f0,f1,f2⟩:=hR2.put3 (.slice ga2 r.2.groups.length gcap2) (.slice na2 r.2.nodes.length ncap2) (.slice wa2 r.2.wires.length wcap2)
  go_wp2_with ((with_reducible refine bodyPost_ret (v:=.tuple #[.agg #[.slice ga2 r.2.groups.length gcap2, .slice na2 r.2.nodes.length ncap2, .slice wa2 r.2.wires.length wcap2], .int .i64 r.1]) ?_ rfl ?_);(focus (simp [results,Tryz.f96];go_simp)))
  rw [← hP.out]
  exact WPost.fin hO2 hS2.out hlt2 (by omega) hbF rfl
 ·rw [if_neg he] at hR
  subst hR
  clear hC
  generalize errX X = e0 at *
  have hne:(e0 != 0) = true:=by simpa using he
  replace he:=Lib.hid he
  go_wp2_with fail
  refine hE1.mono ?_
  rintro e w1 ⟨rfl,hb⟩
  have hR1:=hRb.keep (hb.block _ hRb.lt)
  have hf0:=hR1.1.frozen 0
  have hf1:=hR1.1.frozen 1
  have hf2:=hR1.1.frozen 2
  have hA1:=below_trans hA hb
  obtain ⟨_,z0,z1,z2⟩:=id hR1
  obtain ⟨f0,f1,f2⟩:=hR1.put3 (.slice none 0 0) (.slice none 0 0) (.slice none 0 0)
  go_wp2_with ((with_reducible refine bodyPost_ret (v:=.tuple #[.agg #[.slice none 0 0, .slice none 0 0, .slice none 0 0], .int .i64 e0]) ?_ rfl ?_);(focus (simp [results,Tryz.f96];go_simp)))
  rw [← hP.out]
  exact WPost.none (set3_below hA1 (by omega))
set_option maxHeartbeats 1000000 in
theorem Send_c {w:World} {v:Value} {X:Wd} (h:WorldAt w v X) (n g:Int) (body:ByteArray) (hn64:I64 n) (hg64:I64 g) (hbody:body.size ≤ 140737488351232) :
  Calls Tryz.prog 76 #[v, .int .i64 n, .int .i64 g, .string body] w (WPost w (castF X n g false body)):=by
 have hW0:=h
 obtain ⟨gv,nv,wv,rfl,hg,hn,hw⟩:=h
 obtain ⟨hnl,na,ncap,rfl,hnc⟩:=hn.form
 obtain ⟨hwl,wa,wcap,rfl,hwc⟩:=hw.form
 obtain ⟨hgl,ga,gcap,rfl,_⟩:=hg.open
 clear hg hn hw
 obtain ⟨wA,hE,hA,hB,hRb⟩:=boxes2 w (.slice ga X.groups.length gcap) (.slice na X.nodes.length ncap) (.slice wa X.wires.length wcap) 35
 have hC:=asked_c (hW0.below hA) (m:=⟨n,g,0,false,body⟩) ⟨hn64,hg64,by simp [I64],hbody⟩
 unfold M.val at hC
 dsimp only at hC
 generalize castF X n g false body = r at *
 obtain ⟨P,hP⟩:∃ P,WPost w r = P:=⟨_,rfl⟩
 rw [hP]
 replace hP:=Lib.hid hP
 go_enter Tryz.func76,Tryz.ntmps76
 go_upto_region 1 with fail
 rw [hE.out]
 clear hE
 obtain ⟨_,b0,b1,b2⟩:=id hB
 go_wp2_with fail
 refine (hC).mono ?_
 rintro e w2 ⟨gv2,nv2,wv2,S2,rfl,hO2,hS2,hb2⟩
 obtain ⟨pg,pn,pw⟩:=hO2.parts
 obtain ⟨_,ga2,gcap2,rfl,_⟩:=pg.open
 obtain ⟨_,na2,ncap2,rfl,_⟩:=pn.form
 obtain ⟨_,wa2,wcap2,rfl,_⟩:=pw.form
 clear pg pn pw
 have hR2:=hRb.keep (hb2.block _ hRb.lt)
 have hlt2:=hRb.lt
 have hbF:=below_trans hA hb2
 replace hS2:=Lib.hid hS2
 obtain ⟨hf0,hf1,hf2,z0,z1,z2⟩:=hR2.all
 obtain ⟨f0,f1,f2⟩:=hR2.put3 (.slice ga2 r.2.groups.length gcap2) (.slice na2 r.2.nodes.length ncap2) (.slice wa2 r.2.wires.length wcap2)
 go_wp2_with ((with_reducible refine bodyPost_ret (v:=.tuple #[.agg #[.slice ga2 r.2.groups.length gcap2, .slice na2 r.2.nodes.length ncap2, .slice wa2 r.2.wires.length wcap2], .int .i64 r.1]) ?_ rfl ?_);(focus (simp [results,Tryz.f76];go_simp)))
 rw [← hP.out]
 exact WPost.fin hO2 hS2.out hlt2 (by omega) hbF rfl
set_option maxHeartbeats 1000000 in
theorem Null_c {w:World} {v:Value} {X:Wd} (h:WorldAt w v X) (n g:Int) (hn64:I64 n) (hg64:I64 g) :
  Calls Tryz.prog 77 #[v, .int .i64 n, .int .i64 g] w (WPost w (castF X n g true ByteArray.empty)):=by
 have hW0:=h
 obtain ⟨gv,nv,wv,rfl,hg,hn,hw⟩:=h
 obtain ⟨hnl,na,ncap,rfl,hnc⟩:=hn.form
 obtain ⟨hwl,wa,wcap,rfl,hwc⟩:=hw.form
 obtain ⟨hgl,ga,gcap,rfl,_⟩:=hg.open
 clear hg hn hw
 obtain ⟨wA,hE,hA,hB,hRb⟩:=boxes2 w (.slice ga X.groups.length gcap) (.slice na X.nodes.length ncap) (.slice wa X.wires.length wcap) 35
 have hC:=asked_c (hW0.below hA) (m:=⟨n,g,0,true,ByteArray.empty⟩) ⟨hn64,hg64,by simp [I64],by simp⟩
 unfold M.val at hC
 dsimp only at hC
 generalize castF X n g true ByteArray.empty = r at *
 obtain ⟨P,hP⟩:∃ P,WPost w r = P:=⟨_,rfl⟩
 rw [hP]
 replace hP:=Lib.hid hP
 go_enter Tryz.func77,Tryz.ntmps77
 go_upto_region 1 with fail
 rw [hE.out]
 clear hE
 obtain ⟨_,b0,b1,b2⟩:=id hB
 go_wp2_with fail
 refine (hC).mono ?_
 rintro e w2 ⟨gv2,nv2,wv2,S2,rfl,hO2,hS2,hb2⟩
 obtain ⟨pg,pn,pw⟩:=hO2.parts
 obtain ⟨_,ga2,gcap2,rfl,_⟩:=pg.open
 obtain ⟨_,na2,ncap2,rfl,_⟩:=pn.form
 obtain ⟨_,wa2,wcap2,rfl,_⟩:=pw.form
 clear pg pn pw
 have hR2:=hRb.keep (hb2.block _ hRb.lt)
 have hlt2:=hRb.lt
 have hbF:=below_trans hA hb2
 replace hS2:=Lib.hid hS2
 obtain ⟨hf0,hf1,hf2,z0,z1,z2⟩:=hR2.all
 obtain ⟨f0,f1,f2⟩:=hR2.put3 (.slice ga2 r.2.groups.length gcap2) (.slice na2 r.2.nodes.length ncap2) (.slice wa2 r.2.wires.length wcap2)
 go_wp2_with ((with_reducible refine bodyPost_ret (v:=.tuple #[.agg #[.slice ga2 r.2.groups.length gcap2, .slice na2 r.2.nodes.length ncap2, .slice wa2 r.2.wires.length wcap2], .int .i64 r.1]) ?_ rfl ?_);(focus (simp [results,Tryz.f77];go_simp)))
 rw [← hP.out]
 exact WPost.fin hO2 hS2.out hlt2 (by omega) hbF rfl
end Go.Proofs.YtnalakhelicjcaaGreatDoor
