/-
  The document's line: calm, and what has no form.
-/
import Derived.Test.YtnalakhelicjcaaGreatDoorZDk2
import Derived.Test.YtnalakhelicjcaaGreatDoorZGB
import Derived.Test.YtnalakhelicjcaaGreatDoorZKB
import Derived.Test.YtnalakhelicjcaaGreatDoorZKCc
import Derived.Test.YtnalakhelicjcaaGreatDoorZKD
import Derived.Test.YtnalakhelicjcaaGreatDoorZGN
import Derived.Test.YtnalakhelicjcaaGreatDoorZKO
set_option maxRecDepth 100000
namespace Go.Proofs.YtnalakhelicjcaaGreatDoor
open Go.RowKit Go.Shelf Go.BigFrame Go.Deep
def PdPost (w:World) (v0:Value) (X:Wd) (x:Int × List UInt8 × Wd) (e:Ending) (w':World):Prop:=∃ (v:Value) (s:ByteArray) (Y:Wd),e = .returned (.tuple #[v, .string s, .int .i64 x.1]) ∧ (x.1 = 0 → Y = x.2.2 ∧ s = strB x.2.1) ∧ Below w.heap.size w w' ∧
 ((v = v0 ∧ Y = X) ∨ ∃ (gv nv wv:Value) (S:Nat → Prop),v = .agg #[gv,nv,wv] ∧ OWd false w' S gv nv wv Y ∧ ∀ b,S b → w.heap.size ≤ b)
set_option maxHeartbeats 2000000 in
theorem played_calm {w:World} {v:Value} {X:Wd} (h:WorldAt w v X):Calls Tryz.prog 18 #[v, .string (strB kCalm)] w (PdPost w v X (execB X .calm)):=by
 have hx0:(calmF X).1 = 0 → execB X .calm = (0,[111,107],(calmF X).2):=fun h=>if_pos h
 have hx1:(calmF X).1 ≠ 0 → execB X .calm = ((calmF X).1,[],X):=fun h=>if_neg h
 obtain ⟨x,hx⟩:∃ x,execB X .calm = x:=⟨_,rfl⟩
 rw [hx] at hx0 hx1 ⊢
 clear hx
 have hq:((strB kCalm).toList == [99,97,108,109]) = true:=by rw [strB_toL];rfl
 have hW0:=h
 obtain ⟨gv,nv,wv,rfl,hg,hn,hw⟩:=h
 obtain ⟨hnl,na,ncap,rfl,hnc⟩:=hn.form
 obtain ⟨hwl,wa,wcap,rfl,hwc⟩:=hw.form
 obtain ⟨hgl,ga,gcap,rfl,_⟩:=hg.open
 obtain ⟨wA,hE,hA,hB,hRb⟩:=boxes2 w (.slice ga X.groups.length gcap) (.slice na X.nodes.length ncap) (.slice wa X.wires.length wcap) 35
 obtain ⟨B,hBe⟩:∃ B,w.heap.size = B:=⟨_,rfl⟩
 simp only [hBe] at hB hRb
 obtain ⟨P,hP⟩:∃ P,PdPost w (.agg #[.slice ga X.groups.length gcap, .slice na X.nodes.length ncap, .slice wa X.wires.length wcap]) X x = P:=⟨_,rfl⟩
 rw [hP]
 replace hP:=Lib.hid hP
 have hWA:=hW0.below hA
 replace hBe:=Lib.hid hBe
 go_enter Tryz.func18,Tryz.ntmps18
 go_upto_region 1 with fail
 simp only [hE.out,hBe.out]
 clear hE
 have hC:=CalmOf_c hWA
 obtain ⟨r,hr⟩:∃ r,calmF X = r:=⟨_,rfl⟩
 rw [hr] at hC hx0 hx1
 clear hr
 obtain ⟨_,b0,b1,b2⟩:=hB
 replace hx0:=Lib.hid hx0
 replace hx1:=Lib.hid hx1
 go_wp2_with fail
 refine hC.mono ?_
 clear hC
 rintro e w1 ⟨gv2,nv2,wv2,S2,rfl,hO2,hS2,hb1⟩
 obtain ⟨pg,pn,pw⟩:=hO2.parts
 obtain ⟨_,ga2,gcap2,rfl,_⟩:=pg.open
 obtain ⟨_,na2,ncap2,rfl,_⟩:=pn.form
 obtain ⟨_,wa2,wcap2,rfl,_⟩:=pw.form
 clear pg pn pw
 have bA:=below_a1 w1 (.cells #[.slice ga2 r.2.groups.length gcap2, .slice na2 r.2.nodes.length ncap2, .slice wa2 r.2.wires.length wcap2] 35)
 have hR2:=(hRb.keep (hb1.block _ hRb.lt)).keep (bA.block _ (Nat.lt_of_lt_of_le hRb.lt hb1.size))
 have hN:=OBox.new w1 35 (.slice ga2 r.2.groups.length gcap2) (.slice na2 r.2.nodes.length ncap2) (.slice wa2 r.2.wires.length wcap2)
 have hW2:=hO2.world.below bA
 have hbF:=below_trans (below_trans hA hb1) bA
 go_upto_region 3 with fail
 generalize w1.alloc (.cells #[.slice ga2 r.2.groups.length gcap2, .slice na2 r.2.nodes.length ncap2, .slice wa2 r.2.wires.length wcap2] 35) = w2 at *
 obtain ⟨hf0,hf1,hf2,z0,z1,z2⟩:=hR2.all
 obtain ⟨f0,f1,f2⟩:=hR2.put3 (.slice ga2 r.2.groups.length gcap2) (.slice na2 r.2.nodes.length ncap2) (.slice wa2 r.2.wires.length wcap2)
 obtain ⟨_,y0,y1,y2⟩:=id hN
 go_wp2_with ((with_reducible refine bodyPost_ret (v:=.tuple #[.agg #[.slice ga2 r.2.groups.length gcap2, .slice na2 r.2.nodes.length ncap2, .slice wa2 r.2.wires.length wcap2], .string ⟨#[111,107]⟩, .int .i64 r.1]) ?_ rfl ?_);(focus (simp [results,Tryz.f18];go_simp)))
 have hwA:B + 2 ≤ wA.heap.size:=by have:=hRb.lt;omega
 have hWF:OWd false (((w2.setCell ⟨B + 1,0,none⟩ (.slice ga2 r.2.groups.length gcap2)).setCell ⟨B + 1,1,none⟩ (.slice na2 r.2.nodes.length ncap2)).setCell ⟨B + 1,2,none⟩ (.slice wa2 r.2.wires.length wcap2)) S2 (.slice ga2 r.2.groups.length gcap2) (.slice na2 r.2.nodes.length ncap2) (.slice wa2 r.2.wires.length wcap2) r.2:=by
  refine hO2.keep (fun c hc=>?_)
  have h9:=hS2 c hc
  have h8:=hA.size
  rw [set3_blk (by show c ≠ B + 1;have:=hwA;omega)]
  exact bA.block c h9.2
 have hFin:=set3_below (b:=B + 1) (u:=.slice ga2 r.2.groups.length gcap2) (v:=.slice na2 r.2.nodes.length ncap2) (x:=.slice wa2 r.2.wires.length wcap2) hbF (by have:=hBe.out;omega)
 rw [← hP.out]
 by_cases h0:r.1 = 0
 ·rw [hx0.out h0]
  exact ⟨_,_,r.2,by rw [h0];rfl,fun _=>⟨rfl,rfl⟩,hFin,Or.inr ⟨_,_,_,S2,rfl,hWF,fun c hc=>Nat.le_trans hA.size (hS2 c hc).1⟩⟩
 ·rw [hx1.out h0]
  exact ⟨_,_,r.2,rfl,fun h=>absurd h h0,hFin,Or.inr ⟨_,_,_,S2,rfl,hWF,fun c hc=>Nat.le_trans hA.size (hS2 c hc).1⟩⟩
theorem calm_ne {s:List UInt8} (h:s ≠ kCalm):((strB s).toList == [99,97,108,109]) = false:=by
 rw [strB_toL]
 exact beq_eq_false_iff_ne.2 h
set_option maxHeartbeats 2000000 in
theorem played_none {w:World} {v:Value} {X:Wd} {s:List UInt8} (h:WorldAt w v X) (hs:s.length ≤ 1000000) (hc:s ≠ kCalm) (h2:(wordB s).2.2 = false):Calls Tryz.prog 18 #[v, .string (strB s)] w (PdPost w v X (1,[],X)):=by
 have hq:=calm_ne hc
 have hWd:=fun o=>word_c o s hs
 obtain ⟨p,hp⟩:∃ p,wordB s = p:=⟨_,rfl⟩
 simp only [hp] at hWd
 rw [hp] at h2
 clear hp
 obtain ⟨a,rest,more⟩:=p
 dsimp only at h2 hWd
 subst h2
 have hW0:=h
 obtain ⟨gv,nv,wv,rfl,hg,hn,hw⟩:=h
 obtain ⟨hnl,na,ncap,rfl,hnc⟩:=hn.form
 obtain ⟨hwl,wa,wcap,rfl,hwc⟩:=hw.form
 obtain ⟨hgl,ga,gcap,rfl,_⟩:=hg.open
 obtain ⟨wA,hE,hA,hB,hRb⟩:=boxes2 w (.slice ga X.groups.length gcap) (.slice na X.nodes.length ncap) (.slice wa X.wires.length wcap) 35
 obtain ⟨B,hBe⟩:∃ B,w.heap.size = B:=⟨_,rfl⟩
 simp only [hBe] at hB hRb
 obtain ⟨P,hP⟩:∃ P,PdPost w (.agg #[.slice ga X.groups.length gcap, .slice na X.nodes.length ncap, .slice wa X.wires.length wcap]) X (1,[],X) = P:=⟨_,rfl⟩
 rw [hP]
 replace hP:=Lib.hid hP
 have hWA:=hW0.below hA
 replace hBe:=Lib.hid hBe
 go_enter Tryz.func18,Tryz.ntmps18
 go_upto_region 1 with fail
 simp only [hE.out,hBe.out]
 clear hE
 go_wp2_with fail
 refine (hWd _).mono ?_
 clear hWd
 rintro e w2 ⟨rfl,hb1⟩
 have bA:=hb1
 have hbF:=below_trans hA hb1
 have hR2:=hRb.keep (bA.block _ hRb.lt)
 have hN:=hB.keep (bA.block _ hB.lt)
 obtain ⟨hf0,hf1,hf2,z0,z1,z2⟩:=hR2.all
 obtain ⟨f0,f1,f2⟩:=hR2.put3 (.slice ga X.groups.length gcap) (.slice na X.nodes.length ncap) (.slice wa X.wires.length wcap)
 obtain ⟨_,y0,y1,y2⟩:=id hN
 go_wp2_with ((with_reducible refine bodyPost_ret (v:=.tuple #[.agg #[.slice ga X.groups.length gcap, .slice na X.nodes.length ncap, .slice wa X.wires.length wcap], .string ⟨#[]⟩, .int .i64 1]) ?_ rfl ?_);(focus (simp [results,Tryz.f18];go_simp)))
 have hFin:=set3_below (b:=B + 1) (u:=.slice ga X.groups.length gcap) (v:=.slice na X.nodes.length ncap) (x:=.slice wa X.wires.length wcap) hbF (by have:=hBe.out;omega)
 rw [← hP.out]
 exact ⟨_,_,X,rfl,fun h=>absurd h (by show ¬ (1:Int) = 0;decide),hFin,Or.inl ⟨rfl,rfl⟩⟩
end Go.Proofs.YtnalakhelicjcaaGreatDoor
set_option maxRecDepth 100000
namespace Go.Proofs.YtnalakhelicjcaaGreatDoor
open Go.RowKit Go.Shelf Go.BigFrame Go.Deep
theorem word_send (a:List UInt8):(a = kSend → ((strB a).toList == [115,101,110,100]) = true) ∧ (a ≠ kSend → ((strB a).toList == [115,101,110,100]) = false):=by
 rw [strB_toL]
 exact ⟨fun h=>by rw [h];rfl,fun h=>beq_eq_false_iff_ne.2 h⟩
set_option maxHeartbeats 2000000 in
theorem played_send_bad {w:World} {v:Value} {X:Wd} {s rest a more b body:List UInt8} {x y:Bool} (h:WorldAt w v X) (hs:s.length ≤ 1000000) (h1:wordB s = (kSend,rest,true)) (h2:wordB rest = (a,more,x)) (h3:wordB more = (b,body,y))
  (hbad:¬ (x = true ∧ y = true ∧ (numB a).isSome = true ∧ (numB b).isSome = true)):Calls Tryz.prog 18 #[v, .string (strB s)] w (PdPost w v X (1,[],X)):=by
 have hq:=calm_ne (s:=s) (not_calm (by rw [h1]))
 have hl1:=wordB_len s
 rw [h1] at hl1
 have hl2:=wordB_len rest
 rw [h2] at hl2
 have hl3:=wordB_len more
 rw [h3] at hl3
 dsimp only at hl1 hl2 hl3
 have hWd1:=fun o=>word_c o s hs
 have hWd2:=fun o=>word_c o rest (by omega)
 have hWd3:=fun o=>word_c o more (by omega)
 have hNa:=fun o=>num_c o a (by omega)
 have hNb:=fun o=>num_c o b (by omega)
 simp only [h1] at hWd1
 simp only [h2] at hWd2
 simp only [h3] at hWd3
 have hks:((strB kSend).toList == [115,101,110,100]) = true:=(word_send kSend).1 rfl
 clear h1 h2 h3 hl1 hl2 hl3
 have hW0:=h
 obtain ⟨gv,nv,wv,rfl,hg,hn,hw⟩:=h
 obtain ⟨hnl,na,ncap,rfl,hnc⟩:=hn.form
 obtain ⟨hwl,wa,wcap,rfl,hwc⟩:=hw.form
 obtain ⟨hgl,ga,gcap,rfl,_⟩:=hg.open
 obtain ⟨wA,hE,hA,hB,hRb⟩:=boxes2 w (.slice ga X.groups.length gcap) (.slice na X.nodes.length ncap) (.slice wa X.wires.length wcap) 35
 obtain ⟨B,hBe⟩:∃ B,w.heap.size = B:=⟨_,rfl⟩
 simp only [hBe] at hB hRb
 obtain ⟨P,hP⟩:∃ P,PdPost w (.agg #[.slice ga X.groups.length gcap, .slice na X.nodes.length ncap, .slice wa X.wires.length wcap]) X (1,[],X) = P:=⟨_,rfl⟩
 rw [hP]
 replace hP:=Lib.hid hP
 have hWA:=hW0.below hA
 replace hBe:=Lib.hid hBe
 go_enter Tryz.func18,Tryz.ntmps18
 go_upto_region 1 with fail
 simp only [hE.out,hBe.out]
 clear hE
 go_wp2_with fail
 refine (hWd1 _).mono ?_
 clear hWd1
 rintro e w1 ⟨rfl,b1⟩
 go_wp2_with fail
 refine (hWd2 _).mono ?_
 clear hWd2
 rintro e w2 ⟨rfl,b2⟩
 go_wp2_with fail
 refine (hWd3 _).mono ?_
 clear hWd3
 rintro e w3 ⟨rfl,b3⟩
 have bA:=below_trans b1 (below_trans b2 b3)
 clear b1 b2 b3
 cases x with
 | false =>
  clear hbad
  have hbF:=below_trans hA bA
  have hR2:=hRb.keep (bA.block _ hRb.lt)
  have hN:=hB.keep (bA.block _ hB.lt)
  obtain ⟨hf0,hf1,hf2,z0,z1,z2⟩:=hR2.all
  obtain ⟨f0,f1,f2⟩:=hR2.put3 (.slice ga X.groups.length gcap) (.slice na X.nodes.length ncap) (.slice wa X.wires.length wcap)
  obtain ⟨_,y0,y1,y2⟩:=id hN
  go_wp2_with ((with_reducible refine bodyPost_ret (v:=.tuple #[.agg #[.slice ga X.groups.length gcap, .slice na X.nodes.length ncap, .slice wa X.wires.length wcap], .string ⟨#[]⟩, .int .i64 1]) ?_ rfl ?_);(focus (simp [results,Tryz.f18];go_simp)))
  have hFin:=set3_below (b:=B + 1) (u:=.slice ga X.groups.length gcap) (v:=.slice na X.nodes.length ncap) (x:=.slice wa X.wires.length wcap) hbF (by have:=hBe.out;omega)
  rw [← hP.out]
  exact ⟨_,_,X,rfl,fun h=>absurd h (by show ¬ (1:Int) = 0;decide),hFin,Or.inl ⟨rfl,rfl⟩⟩
 | true =>
  cases y with
  | false =>
   clear hbad
   have hbF:=below_trans hA bA
   have hR2:=hRb.keep (bA.block _ hRb.lt)
   have hN:=hB.keep (bA.block _ hB.lt)
   obtain ⟨hf0,hf1,hf2,z0,z1,z2⟩:=hR2.all
   obtain ⟨f0,f1,f2⟩:=hR2.put3 (.slice ga X.groups.length gcap) (.slice na X.nodes.length ncap) (.slice wa X.wires.length wcap)
   obtain ⟨_,y0,y1,y2⟩:=id hN
   go_wp2_with ((with_reducible refine bodyPost_ret (v:=.tuple #[.agg #[.slice ga X.groups.length gcap, .slice na X.nodes.length ncap, .slice wa X.wires.length wcap], .string ⟨#[]⟩, .int .i64 1]) ?_ rfl ?_);(focus (simp [results,Tryz.f18];go_simp)))
   have hFin:=set3_below (b:=B + 1) (u:=.slice ga X.groups.length gcap) (v:=.slice na X.nodes.length ncap) (x:=.slice wa X.wires.length wcap) hbF (by have:=hBe.out;omega)
   rw [← hP.out]
   exact ⟨_,_,X,rfl,fun h=>absurd h (by show ¬ (1:Int) = 0;decide),hFin,Or.inl ⟨rfl,rfl⟩⟩
  | true =>
   obtain ⟨na,hna⟩:∃ r,numB a = r:=⟨_,rfl⟩
   obtain ⟨nb,hnb⟩:∃ r,numB b = r:=⟨_,rfl⟩
   rw [hna,hnb] at hbad
   cases na with
   | none =>
    rw [numV_none hna] at hNa
    clear hbad hna hnb
    go_wp2_with fail
    refine (hNa _).mono ?_
    clear hNa
    rintro e w4 ⟨rfl,b4⟩
    have bA:=below_trans bA b4
    have hbF:=below_trans hA bA
    have hR2:=hRb.keep (bA.block _ hRb.lt)
    have hN:=hB.keep (bA.block _ hB.lt)
    obtain ⟨hf0,hf1,hf2,z0,z1,z2⟩:=hR2.all
    obtain ⟨f0,f1,f2⟩:=hR2.put3 (.slice ga X.groups.length gcap) (.slice na X.nodes.length ncap) (.slice wa X.wires.length wcap)
    obtain ⟨_,y0,y1,y2⟩:=id hN
    go_wp2_with ((with_reducible refine bodyPost_ret (v:=.tuple #[.agg #[.slice ga X.groups.length gcap, .slice na X.nodes.length ncap, .slice wa X.wires.length wcap], .string ⟨#[]⟩, .int .i64 1]) ?_ rfl ?_);(focus (simp [results,Tryz.f18];go_simp)))
    have hFin:=set3_below (b:=B + 1) (u:=.slice ga X.groups.length gcap) (v:=.slice na X.nodes.length ncap) (x:=.slice wa X.wires.length wcap) hbF (by have:=hBe.out;omega)
    rw [← hP.out]
    exact ⟨_,_,X,rfl,fun h=>absurd h (by show ¬ (1:Int) = 0;decide),hFin,Or.inl ⟨rfl,rfl⟩⟩
   | some ka =>
    cases nb with
    | some kb=>exact absurd ⟨rfl,rfl,rfl,rfl⟩ hbad
    | none =>
     rw [numV_none hnb] at hNb
     rw [numV_some hna] at hNa
     clear hbad hna hnb
     have hlt:decide ((ka:Int) < 0) = false:=by simp
     go_wp2_with fail
     refine (hNa _).mono ?_
     clear hNa
     rintro e w4 ⟨rfl,b4⟩
     go_wp2_with fail
     refine (hNb _).mono ?_
     clear hNb
     rintro e w5 ⟨rfl,b5⟩
     have bA:=below_trans bA (below_trans b4 b5)
     have hbF:=below_trans hA bA
     have hR2:=hRb.keep (bA.block _ hRb.lt)
     have hN:=hB.keep (bA.block _ hB.lt)
     obtain ⟨hf0,hf1,hf2,z0,z1,z2⟩:=hR2.all
     obtain ⟨f0,f1,f2⟩:=hR2.put3 (.slice ga X.groups.length gcap) (.slice na X.nodes.length ncap) (.slice wa X.wires.length wcap)
     obtain ⟨_,y0,y1,y2⟩:=id hN
     go_wp2_with ((with_reducible refine bodyPost_ret (v:=.tuple #[.agg #[.slice ga X.groups.length gcap, .slice na X.nodes.length ncap, .slice wa X.wires.length wcap], .string ⟨#[]⟩, .int .i64 1]) ?_ rfl ?_);(focus (simp [results,Tryz.f18];go_simp)))
     have hFin:=set3_below (b:=B + 1) (u:=.slice ga X.groups.length gcap) (v:=.slice na X.nodes.length ncap) (x:=.slice wa X.wires.length wcap) hbF (by have:=hBe.out;omega)
     rw [← hP.out]
     exact ⟨_,_,X,rfl,fun h=>absurd h (by show ¬ (1:Int) = 0;decide),hFin,Or.inl ⟨rfl,rfl⟩⟩
end Go.Proofs.YtnalakhelicjcaaGreatDoor
