/-
  The program: an act is done.
-/
import Derived.Test.YtnalakhelicjcaaGreatYKCb
import Derived.Test.YtnalakhelicjcaaGreatYKR
import Derived.Test.YtnalakhelicjcaaGreatYKV
set_option maxRecDepth 100000
namespace Go.Proofs.YtnalakhelicjcaaGreat
open Go.RowKit Go.Shelf Go.BigFrame
set_option maxHeartbeats 2000000 in
theorem Do_c {w:World} {v:Value} {X:Wd} (h:WorldAt w v X) {x:Ac} (hx:x.fits):Calls Tryz.prog 21 #[v,x.val] w (WPost w (doF X x)):=by
 have hW0:=h
 obtain ⟨gv,nv,wv,rfl,hg,hn,hw⟩:=h
 obtain ⟨hnl,na,ncap,rfl,hnc⟩:=hn.form
 obtain ⟨hwl,wa,wcap,rfl,hwc⟩:=hw.form
 obtain ⟨hgl,ga,gcap,rfl,_⟩:=hg.open
 clear hg hn hw
 obtain ⟨w1,hw1⟩:∃ w1,w1 = w.alloc (.cells #[.slice ga X.groups.length gcap, .slice na X.nodes.length ncap, .slice wa X.wires.length wcap] 37):=⟨_,rfl⟩
 obtain ⟨w2,hw2⟩:∃ w2,w2 = w1.alloc (.cells #[.int .i64 x.kind, .int .i64 x.one, .int .i64 x.two, .string x.body] 23):=⟨_,rfl⟩
 obtain ⟨w3,hw3⟩:∃ w3,w3 = w2.alloc (.cells #[.slice none 0 0, .slice none 0 0, .slice none 0 0] 37):=⟨_,rfl⟩
 have hB1:WBox w1 w.heap.size _ _ _:=hw1 ▸ WBox.new w (.slice ga X.groups.length gcap) (.slice na X.nodes.length ncap) (.slice wa X.wires.length wcap) 37
 have hA1:Below w.heap.size w w1:=hw1 ▸ below_a1 w _
 have hs1:w1.heap.size = w.heap.size + 1:=by rw [hw1,World.size_alloc]
 have hM2:AcBox w2 (w.heap.size + 1) 0 x:=by rw [← hs1];exact hw2 ▸ AcBox.new w1 x 23
 have hb2:Below w1.heap.size w1 w2:=hw2 ▸ below_a1 w1 _
 have hs2:w2.heap.size = w.heap.size + 2:=by rw [hw2,World.size_alloc,hs1]
 have hRb:OBox w3 (w.heap.size + 2) 37 (.slice none 0 0) (.slice none 0 0) (.slice none 0 0):=by rw [← hs2];exact hw3 ▸ OBox.new w2 37 _ _ _
 have hb3:Below w2.heap.size w2 w3:=hw3 ▸ below_a1 w2 _
 have hB3:=(hB1.below hb2 (by omega)).below hb3 (by omega)
 have hM3:=hM2.below hb3 (by omega)
 have hA3:=below_trans (below_trans hA1 hb2) hb3
 have hW3:=hW0.below hA3
 have hE:=Lib.hid (show w3 = ((w.alloc (.cells #[.slice ga X.groups.length gcap, .slice na X.nodes.length ncap, .slice wa X.wires.length wcap] 37)).alloc (.cells #[.int .i64 x.kind, .int .i64 x.one, .int .i64 x.two, .string x.body] 23)).alloc (.cells #[.slice none 0 0, .slice none 0 0, .slice none 0 0] 37) by rw [hw3,hw2,hw1])
 clear hw1 hw2 hw3 hB1 hb2 hM2 hb3 hs1 hs2 hA1 hW0
 obtain ⟨P,hP⟩:∃ P,WPost w (doF X x) = P:=⟨_,rfl⟩
 rw [hP]
 unfold doF at hP
 replace hP:=Lib.hid hP
 obtain ⟨m0,m1,m2,m3⟩:=hM3
 simp only [Nat.zero_add] at m0 m1 m2 m3
 obtain ⟨b0,b1,b2⟩:=hB3
 unfold Ac.val
 go_enter Tryz.func21,Tryz.ntmps21
 go_upto_region 1 with fail
 rw [← hE.out]
 clear hE
 by_cases h1:x.kind = 1
 ·have hP:=hP.out
  rw [if_pos h1] at hP
  have hK:=Send_c hW3 x.one x.two x.body hx.2.1 hx.2.2.1 hx.2.2.2
  rw [h1] at m0
  clear h1
  generalize castF X x.one x.two false x.body = r at *
  replace hP:=Lib.hid hP
  go_wp2_with fail
  refine (hK).mono ?_
  rintro e w2 ⟨gv2,nv2,wv2,S2,rfl,hO2,hS2,hb2⟩
  obtain ⟨pg,pn,pw⟩:=hO2.parts
  obtain ⟨_,ga2,gcap2,rfl,_⟩:=pg.open
  obtain ⟨_,na2,ncap2,rfl,_⟩:=pn.form
  obtain ⟨_,wa2,wcap2,rfl,_⟩:=pw.form
  clear pg pn pw
  have hR2:=hRb.keep (hb2.block _ hRb.lt)
  have hlt2:=hRb.lt
  have hbF:=below_trans hA3 hb2
  replace hS2:=Lib.hid hS2
  obtain ⟨hf0,hf1,hf2,z0,z1,z2⟩:=hR2.all
  obtain ⟨f0,f1,f2⟩:=hR2.put3 (.slice ga2 r.2.groups.length gcap2) (.slice na2 r.2.nodes.length ncap2) (.slice wa2 r.2.wires.length wcap2)
  go_wp2_with ((with_reducible refine bodyPost_ret (v:=.tuple #[.agg #[.slice ga2 r.2.groups.length gcap2, .slice na2 r.2.nodes.length ncap2, .slice wa2 r.2.wires.length wcap2], .int .i64 r.1]) ?_ rfl ?_);(focus (simp [results,Tryz.f21];go_simp)))
  rw [← hP.out]
  exact WPost.fin hO2 hS2.out hlt2 (by omega) hbF rfl
 by_cases h2:x.kind = 2
 ·have hP:=hP.out
  rw [if_neg h1,if_pos h2] at hP
  have hK:=Null_c hW3 x.one x.two hx.2.1 hx.2.2.1
  rw [h2] at m0
  clear h1 h2
  generalize castF X x.one x.two true ByteArray.empty = r at *
  replace hP:=Lib.hid hP
  go_wp2_with fail
  refine (hK).mono ?_
  rintro e w2 ⟨gv2,nv2,wv2,S2,rfl,hO2,hS2,hb2⟩
  obtain ⟨pg,pn,pw⟩:=hO2.parts
  obtain ⟨_,ga2,gcap2,rfl,_⟩:=pg.open
  obtain ⟨_,na2,ncap2,rfl,_⟩:=pn.form
  obtain ⟨_,wa2,wcap2,rfl,_⟩:=pw.form
  clear pg pn pw
  have hR2:=hRb.keep (hb2.block _ hRb.lt)
  have hlt2:=hRb.lt
  have hbF:=below_trans hA3 hb2
  replace hS2:=Lib.hid hS2
  obtain ⟨hf0,hf1,hf2,z0,z1,z2⟩:=hR2.all
  obtain ⟨f0,f1,f2⟩:=hR2.put3 (.slice ga2 r.2.groups.length gcap2) (.slice na2 r.2.nodes.length ncap2) (.slice wa2 r.2.wires.length wcap2)
  go_wp2_with ((with_reducible refine bodyPost_ret (v:=.tuple #[.agg #[.slice ga2 r.2.groups.length gcap2, .slice na2 r.2.nodes.length ncap2, .slice wa2 r.2.wires.length wcap2], .int .i64 r.1]) ?_ rfl ?_);(focus (simp [results,Tryz.f21];go_simp)))
  rw [← hP.out]
  exact WPost.fin hO2 hS2.out hlt2 (by omega) hbF rfl
 by_cases h3:x.kind = 3
 ·have hP:=hP.out
  rw [if_neg h1,if_neg h2,if_pos h3] at hP
  have hK:=One_c hW3 x.one x.two hx.2.1 hx.2.2.1
  rw [h3] at m0
  clear h1 h2 h3
  generalize moveF X x.one x.two = r at *
  replace hP:=Lib.hid hP
  go_wp2_with fail
  refine (hK).mono ?_
  rintro e w2 ⟨gv2,nv2,wv2,S2,rfl,hO2,hS2,hb2⟩
  obtain ⟨pg,pn,pw⟩:=hO2.parts
  obtain ⟨_,ga2,gcap2,rfl,_⟩:=pg.open
  obtain ⟨_,na2,ncap2,rfl,_⟩:=pn.form
  obtain ⟨_,wa2,wcap2,rfl,_⟩:=pw.form
  clear pg pn pw
  have hR2:=hRb.keep (hb2.block _ hRb.lt)
  have hlt2:=hRb.lt
  have hbF:=below_trans hA3 hb2
  replace hS2:=Lib.hid hS2
  obtain ⟨hf0,hf1,hf2,z0,z1,z2⟩:=hR2.all
  obtain ⟨f0,f1,f2⟩:=hR2.put3 (.slice ga2 r.2.groups.length gcap2) (.slice na2 r.2.nodes.length ncap2) (.slice wa2 r.2.wires.length wcap2)
  go_wp2_with ((with_reducible refine bodyPost_ret (v:=.tuple #[.agg #[.slice ga2 r.2.groups.length gcap2, .slice na2 r.2.nodes.length ncap2, .slice wa2 r.2.wires.length wcap2], .int .i64 r.1]) ?_ rfl ?_);(focus (simp [results,Tryz.f21];go_simp)))
  rw [← hP.out]
  exact WPost.fin hO2 hS2.out hlt2 (by omega) hbF rfl
 by_cases h4:x.kind = 4
 ·have hP:=hP.out
  rw [if_neg h1,if_neg h2,if_neg h3,if_pos h4] at hP
  have hK:=Calm_c hW3
  rw [h4] at m0
  clear h1 h2 h3 h4
  generalize calmF X = r at *
  replace hP:=Lib.hid hP
  go_wp2_with fail
  refine (hK).mono ?_
  rintro e w2 ⟨gv2,nv2,wv2,S2,rfl,hO2,hS2,hb2⟩
  obtain ⟨pg,pn,pw⟩:=hO2.parts
  obtain ⟨_,ga2,gcap2,rfl,_⟩:=pg.open
  obtain ⟨_,na2,ncap2,rfl,_⟩:=pn.form
  obtain ⟨_,wa2,wcap2,rfl,_⟩:=pw.form
  clear pg pn pw
  have hR2:=hRb.keep (hb2.block _ hRb.lt)
  have hlt2:=hRb.lt
  have hbF:=below_trans hA3 hb2
  replace hS2:=Lib.hid hS2
  obtain ⟨hf0,hf1,hf2,z0,z1,z2⟩:=hR2.all
  obtain ⟨f0,f1,f2⟩:=hR2.put3 (.slice ga2 r.2.groups.length gcap2) (.slice na2 r.2.nodes.length ncap2) (.slice wa2 r.2.wires.length wcap2)
  go_wp2_with ((with_reducible refine bodyPost_ret (v:=.tuple #[.agg #[.slice ga2 r.2.groups.length gcap2, .slice na2 r.2.nodes.length ncap2, .slice wa2 r.2.wires.length wcap2], .int .i64 r.1]) ?_ rfl ?_);(focus (simp [results,Tryz.f21];go_simp)))
  rw [← hP.out]
  exact WPost.fin hO2 hS2.out hlt2 (by omega) hbF rfl
 ·have hP:=hP.out
  rw [if_neg h1,if_neg h2,if_neg h3,if_neg h4] at hP
  have q1:(x.kind == 1) = false:=by simpa using h1
  have q2:(x.kind == 2) = false:=by simpa using h2
  have q3:(x.kind == 3) = false:=by simpa using h3
  have q4:(x.kind == 4) = false:=by simpa using h4
  clear h1 h2 h3 h4
  replace hP:=Lib.hid hP
  obtain ⟨hf0,hf1,hf2,z0,z1,z2⟩:=hRb.all
  obtain ⟨f0,f1,f2⟩:=hRb.put3 (.slice none 0 0) (.slice none 0 0) (.slice none 0 0)
  go_wp2_with ((with_reducible refine bodyPost_ret (v:=.tuple #[.agg #[.slice none 0 0, .slice none 0 0, .slice none 0 0], .int .i64 6]) ?_ rfl ?_);(focus (simp [results,Tryz.f21];go_simp)))
  rw [← hP.out]
  exact WPost.none (set3_below hA3 (by omega))
end Go.Proofs.YtnalakhelicjcaaGreat
