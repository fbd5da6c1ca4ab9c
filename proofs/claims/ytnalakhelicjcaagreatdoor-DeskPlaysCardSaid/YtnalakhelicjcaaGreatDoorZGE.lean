/-
  The document's line: what has no form behind other words.
-/
import Derived.Test.YtnalakhelicjcaaGreatDoorZDr6
import Derived.Test.YtnalakhelicjcaaGreatDoorZDr7
set_option maxRecDepth 100000
namespace Go.Proofs.YtnalakhelicjcaaGreatDoor
open Go.RowKit Go.Shelf Go.BigFrame Go.Deep
set_option maxHeartbeats 4000000 in
theorem played_bad {w:World} {v:Value} {X:Wd} {s op rest:List UInt8} (h:WorldAt w v X) (hs:s.length ≤ 1000000) (h1:wordB s = (op,rest,true)) (hns:op ≠ kSend) (hbA:numsG 2 rest = none ∨ (op ≠ kNull ∧ op ≠ kMove)) (hbB:numsG 1 rest = none ∨ (op ≠ kTold ∧ op ≠ kHeld)) :
  Calls Tryz.prog 18 #[v, .string (strB s)] w (PdPost w v X (1,[],X)):=by
 have hq:=calm_ne (s:=s) (not_calm (by rw [h1]))
 have hl1:=wordB_len s
 rw [h1] at hl1
 dsimp only at hl1
 have hWd1:=fun o=>word_c o s hs
 have hNs:=fun o=>nums_c o rest (by omega) 2 (by omega)
 have hN1:=fun o=>nums_c o rest (by omega) 1 (by omega)
 simp only [h1] at hWd1
 have hks:((strB op).toList == [115,101,110,100]) = false:=(word_send op).2 hns
 clear h1 hl1 hns
 have hW0:=h
 obtain ⟨gv,nv,wv,rfl,hg,hn,hw⟩:=h
 obtain ⟨hnl,na,ncap,rfl,hnc⟩:=hn.form
 obtain ⟨hwl,wa,wcap,rfl,hwc⟩:=hw.form
 obtain ⟨hgl,ga,gcap,rfl,_⟩:=hg.open
 obtain ⟨wA,hE,hA,hB,hRb⟩:=boxes2 w (.slice ga X.groups.length gcap) (.slice na X.nodes.length ncap) (.slice wa X.wires.length wcap) 35
 obtain ⟨B,hBe⟩:∃ B,w.heap.size = B:=⟨_,rfl⟩
 simp only [hBe] at hB hRb
 obtain ⟨P,hP⟩:∃ P,PdPost w (.agg #[.slice ga X.groups.length gcap, .slice na X.nodes.length ncap, .slice wa X.wires.length wcap]) X (1,[],X) = P:=⟨_,rfl⟩
 rw [hP]
 replace hP:=Lib.hid hP
 have hWA:=hW0.below hA
 replace hBe:=Lib.hid hBe
 go_enter Tryz.func18,Tryz.ntmps18
 go_upto_region 1 with fail
 simp only [hE.out,hBe.out]
 clear hE
 go_wp2_with fail
 refine (hWd1 _).mono ?_
 clear hWd1
 rintro e w1 ⟨rfl,b1⟩
 by_cases h2:numsG 2 rest = none
 ·simp only [h2] at hNs
  clear hbA h2
  go_wp2_with fail
  refine (hNs _).mono ?_
  rintro e w2 ⟨b2,⟨_,rfl⟩ | ⟨xs,la,lc,hxs,_⟩⟩
  rotate_left
  ·cases hxs
  go_wp2_with fail
  refine (hNs _).mono ?_
  rintro e w3 ⟨b3,⟨_,rfl⟩ | ⟨xs,la,lc,hxs,_⟩⟩
  rotate_left
  ·cases hxs
  clear hNs
  by_cases h3:numsG 1 rest = none
  ·simp only [h3] at hN1
   clear hbB h3
   go_wp2_with fail
   refine (hN1 _).mono ?_
   rintro e w4 ⟨b4,⟨_,rfl⟩ | ⟨xs,la,lc,hxs,_⟩⟩
   rotate_left
   ·cases hxs
   clear hN1
   have bA:=below_trans b1 (below_trans b2 (below_trans b3 b4))
   clear b1 b2 b3 b4
   have hbF:=below_trans hA bA
   have hR2:=hRb.keep (bA.block _ hRb.lt)
   have hN:=hB.keep (bA.block _ hB.lt)
   obtain ⟨hf0,hf1,hf2,z0,z1,z2⟩:=hR2.all
   obtain ⟨f0,f1,f2⟩:=hR2.put3 (.slice ga X.groups.length gcap) (.slice na X.nodes.length ncap) (.slice wa X.wires.length wcap)
   obtain ⟨_,y0,y1,y2⟩:=id hN
   go_wp2_with ((with_reducible refine bodyPost_ret (v:=.tuple #[.agg #[.slice ga X.groups.length gcap, .slice na X.nodes.length ncap, .slice wa X.wires.length wcap], .string ⟨#[]⟩, .int .i64 1]) ?_ rfl ?_);(focus (simp [results,Tryz.f18];go_simp)))
   have hFin:=set3_below (b:=B + 1) (u:=.slice ga X.groups.length gcap) (v:=.slice na X.nodes.length ncap) (x:=.slice wa X.wires.length wcap) hbF (by have:=hBe.out;omega)
   rw [← hP.out]
   exact ⟨_,_,X,rfl,fun h=>absurd h (by show ¬ (1:Int) = 0;decide),hFin,Or.inl ⟨rfl,rfl⟩⟩
  ·obtain ⟨hot,hoh⟩:=hbB.resolve_left h3
   have hkt:((strB op).toList == [116,111,108,100]) = false:=(word_told op).2 hot
   have hkh:((strB op).toList == [104,101,108,100]) = false:=(word_held op).2 hoh
   clear hbB hot hoh
   go_wp2_with fail
   refine (hN1 _).mono ?_
   rintro e w4 ⟨b4,⟨hh,_⟩ | ⟨xs,la,lc,_,rfl,_⟩⟩
   ·exact absurd hh h3
   clear hN1 h3
   have bA:=below_trans b1 (below_trans b2 (below_trans b3 b4))
   clear b1 b2 b3 b4
   have hbF:=below_trans hA bA
   have hR2:=hRb.keep (bA.block _ hRb.lt)
   have hN:=hB.keep (bA.block _ hB.lt)
   obtain ⟨hf0,hf1,hf2,z0,z1,z2⟩:=hR2.all
   obtain ⟨f0,f1,f2⟩:=hR2.put3 (.slice ga X.groups.length gcap) (.slice na X.nodes.length ncap) (.slice wa X.wires.length wcap)
   obtain ⟨_,y0,y1,y2⟩:=id hN
   go_wp2_with ((with_reducible refine bodyPost_ret (v:=.tuple #[.agg #[.slice ga X.groups.length gcap, .slice na X.nodes.length ncap, .slice wa X.wires.length wcap], .string ⟨#[]⟩, .int .i64 1]) ?_ rfl ?_);(focus (simp [results,Tryz.f18];go_simp)))
   have hFin:=set3_below (b:=B + 1) (u:=.slice ga X.groups.length gcap) (v:=.slice na X.nodes.length ncap) (x:=.slice wa X.wires.length wcap) hbF (by have:=hBe.out;omega)
   rw [← hP.out]
   exact ⟨_,_,X,rfl,fun h=>absurd h (by show ¬ (1:Int) = 0;decide),hFin,Or.inl ⟨rfl,rfl⟩⟩
 ·obtain ⟨hon,hom⟩:=hbA.resolve_left h2
  have hkn:((strB op).toList == [110,117,108,108]) = false:=(word_null op).2 hon
  have hkm:((strB op).toList == [109,111,118,101]) = false:=(word_move op).2 hom
  have h3:numsG 1 rest = none:=by
   cases h4:numsG 1 rest with
   | none=>rfl
   | some l=>exact absurd (nums_one h4).1 h2
  simp only [h3] at hN1
  clear hbA hon hom hbB h3
  go_wp2_with fail
  refine (hNs _).mono ?_
  rintro e w2 ⟨b2,⟨hh,_⟩ | ⟨xs1,la1,lc1,_,rfl,_⟩⟩
  ·exact absurd hh h2
  go_wp2_with fail
  refine (hNs _).mono ?_
  rintro e w3 ⟨b3,⟨hh,_⟩ | ⟨xs2,la2,lc2,_,rfl,_⟩⟩
  ·exact absurd hh h2
  clear hNs h2
  go_wp2_with fail
  refine (hN1 _).mono ?_
  rintro e w4 ⟨b4,⟨_,rfl⟩ | ⟨xs,la,lc,hxs,_⟩⟩
  rotate_left
  ·cases hxs
  clear hN1
  have bA:=below_trans b1 (below_trans b2 (below_trans b3 b4))
  clear b1 b2 b3 b4
  have hbF:=below_trans hA bA
  have hR2:=hRb.keep (bA.block _ hRb.lt)
  have hN:=hB.keep (bA.block _ hB.lt)
  obtain ⟨hf0,hf1,hf2,z0,z1,z2⟩:=hR2.all
  obtain ⟨f0,f1,f2⟩:=hR2.put3 (.slice ga X.groups.length gcap) (.slice na X.nodes.length ncap) (.slice wa X.wires.length wcap)
  obtain ⟨_,y0,y1,y2⟩:=id hN
  go_wp2_with ((with_reducible refine bodyPost_ret (v:=.tuple #[.agg #[.slice ga X.groups.length gcap, .slice na X.nodes.length ncap, .slice wa X.wires.length wcap], .string ⟨#[]⟩, .int .i64 1]) ?_ rfl ?_);(focus (simp [results,Tryz.f18];go_simp)))
  have hFin:=set3_below (b:=B + 1) (u:=.slice ga X.groups.length gcap) (v:=.slice na X.nodes.length ncap) (x:=.slice wa X.wires.length wcap) hbF (by have:=hBe.out;omega)
  rw [← hP.out]
  exact ⟨_,_,X,rfl,fun h=>absurd h (by show ¬ (1:Int) = 0;decide),hFin,Or.inl ⟨rfl,rfl⟩⟩
end Go.Proofs.YtnalakhelicjcaaGreatDoor
set_option maxRecDepth 100000
namespace Go.Proofs.YtnalakhelicjcaaGreatDoor
open Go.RowKit Go.Shelf Go.BigFrame Go.Deep
theorem played_c {w:World} {v:Value} {X:Wd} {s:List UInt8} (h:WorldAt w v X) (hRX:Right X) (hs:s.length ≤ 1000000):Calls Tryz.prog 18 #[v, .string (strB s)] w (PdPost w v X (execB X (parseB s))):=by
 by_cases hc:s = kCalm
 ·rw [hc,show parseB kCalm = .calm from if_pos rfl]
  exact played_calm h
 obtain ⟨op,rest,m,hw⟩:∃ op rest m,wordB s = (op,rest,m):=⟨_,_,_,rfl⟩
 unfold parseB
 rw [if_neg hc,hw]
 dsimp only
 cases m with
 | false=>exact played_none h hs hc (by rw [hw])
 | true =>
  rw [if_pos rfl]
  have h1:=nums1_G rest
  have h2:=nums2_G rest
  by_cases h0:op = kSend
  ·subst h0
   rw [if_pos rfl]
   obtain ⟨a,more,x,ha⟩:∃ a more x,wordB rest = (a,more,x):=⟨_,_,_,rfl⟩
   obtain ⟨b,body,y,hb⟩:∃ b body y,wordB more = (b,body,y):=⟨_,_,_,rfl⟩
   unfold nums3
   rw [ha]
   dsimp only
   rw [hb]
   dsimp only
   by_cases hxy:x = true ∧ y = true
   ·obtain ⟨rfl,rfl⟩:=hxy
    rw [if_pos ⟨rfl,rfl⟩]
    cases hna:numB a with
    | none=>exact played_send_bad h hs hw ha hb (by rw [hna];simp)
    | some ka =>
     cases hnb:numB b with
     | none=>exact played_send_bad h hs hw ha hb (by rw [hnb];simp)
     | some kb=>exact played_send h hs hw ha hb hna hnb
   ·rw [if_neg hxy]
    exact played_send_bad h hs hw ha hb (fun k=>hxy ⟨k.1,k.2.1⟩)
  rw [if_neg h0]
  by_cases hn:op = kNull
  ·subst hn
   rw [if_pos rfl]
   cases hp:nums2 rest with
   | none=>exact played_bad h hs hw h0 (Or.inl (by rw [h2,hp];rfl)) (Or.inr ⟨by decide,by decide⟩)
   | some p=>exact played_null h hs hw (by rw [h2,hp];rfl)
  rw [if_neg hn]
  by_cases hm:op = kMove
  ·subst hm
   rw [if_pos rfl]
   cases hp:nums2 rest with
   | none=>exact played_bad h hs hw h0 (Or.inl (by rw [h2,hp];rfl)) (Or.inr ⟨by decide,by decide⟩)
   | some p=>exact played_move h hs hw (by rw [h2,hp];rfl)
  rw [if_neg hm]
  by_cases ht:op = kTold
  ·subst ht
   rw [if_pos rfl]
   cases hp:nums1 rest with
   | none=>exact played_bad h hs hw h0 (Or.inr ⟨by decide,by decide⟩) (Or.inl (by rw [h1,hp];rfl))
   | some p=>exact played_told h hRX hs hw (by rw [h1,hp];rfl)
  rw [if_neg ht]
  by_cases hh:op = kHeld
  ·subst hh
   rw [if_pos rfl]
   cases hp:nums1 rest with
   | none=>exact played_bad h hs hw h0 (Or.inr ⟨by decide,by decide⟩) (Or.inl (by rw [h1,hp];rfl))
   | some p=>exact played_held h hRX hs hw (by rw [h1,hp];rfl)
  rw [if_neg hh]
  exact played_bad h hs hw h0 (Or.inr ⟨hn,hm⟩) (Or.inr ⟨ht,hh⟩)
end Go.Proofs.YtnalakhelicjcaaGreatDoor
