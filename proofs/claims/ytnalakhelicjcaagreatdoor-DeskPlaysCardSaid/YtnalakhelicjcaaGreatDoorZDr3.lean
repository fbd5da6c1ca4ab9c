/-
  The document's line: to send, what has its form.
-/
import Derived.Test.YtnalakhelicjcaaGreatDoorZGD
set_option maxRecDepth 100000
namespace Go.Proofs.YtnalakhelicjcaaGreatDoor
open Go.RowKit Go.Shelf Go.BigFrame Go.Deep
set_option maxHeartbeats 4000000 in
theorem played_send {w:World} {v:Value} {X:Wd} {s rest a more b body:List UInt8} {ka kb:Nat} (h:WorldAt w v X) (hs:s.length ≤ 1000000) (h1:wordB s = (kSend,rest,true)) (h2:wordB rest = (a,more,true)) (h3:wordB more = (b,body,true))
  (hna:numB a = some ka) (hnb:numB b = some kb):Calls Tryz.prog 18 #[v, .string (strB s)] w (PdPost w v X (execB X (.send ka kb body))):=by
 have hx0:(castF X ka kb false (strB body)).1 = 0 → execB X (.send ka kb body) = (0,clockB (castF X ka kb false (strB body)) ka,(castF X ka kb false (strB body)).2):=fun h=>if_pos h
 have hx1:(castF X ka kb false (strB body)).1 ≠ 0 → execB X (.send ka kb body) = ((castF X ka kb false (strB body)).1,[],X):=fun h=>if_neg h
 have hfin:=fun h=>@castF_fine X ka kb false (strB body) (fun k=>by cases k) h
 obtain ⟨x,hx⟩:∃ x,execB X (.send ka kb body) = x:=⟨_,rfl⟩
 rw [hx] at hx0 hx1 ⊢
 clear hx
 have hq:=calm_ne (s:=s) (not_calm (by rw [h1]))
 have hl1:=wordB_len s
 rw [h1] at hl1
 have hl2:=wordB_len rest
 rw [h2] at hl2
 have hl3:=wordB_len more
 rw [h3] at hl3
 dsimp only at hl1 hl2 hl3
 have hWd1:=fun o=>word_c o s hs
 have hWd2:=fun o=>word_c o rest (by omega)
 have hWd3:=fun o=>word_c o more (by omega)
 have hNa:=fun o=>num_c o a (by omega)
 have hNb:=fun o=>num_c o b (by omega)
 have hC0:=fun o (k:WorldAt o v X)=>CastOf_c k ka kb false (strB body) (by rw [strB_size];omega)
 simp only [h1] at hWd1
 simp only [h2] at hWd2
 simp only [h3] at hWd3
 simp only [numV_some hna] at hNa
 simp only [numV_some hnb] at hNb
 have hks:((strB kSend).toList == [115,101,110,100]) = true:=(word_send kSend).1 rfl
 clear h1 h2 h3 hl1 hl2 hl3 hna hnb
 obtain ⟨r,hr⟩:∃ r,castF X ka kb false (strB body) = r:=⟨_,rfl⟩
 rw [hr] at hx0 hx1
 simp only [hr] at hfin hC0
 clear hr
 have hW0:=h
 obtain ⟨gv,nv,wv,rfl,hg,hn,hw⟩:=h
 obtain ⟨hnl,na,ncap,rfl,hnc⟩:=hn.form
 obtain ⟨hwl,wa,wcap,rfl,hwc⟩:=hw.form
 obtain ⟨hgl,ga,gcap,rfl,_⟩:=hg.open
 obtain ⟨wA,hE,hA,hB,hRb⟩:=boxes2 w (.slice ga X.groups.length gcap) (.slice na X.nodes.length ncap) (.slice wa X.wires.length wcap) 35
 obtain ⟨B,hBe⟩:∃ B,w.heap.size = B:=⟨_,rfl⟩
 simp only [hBe] at hB hRb
 obtain ⟨P,hP⟩:∃ P,PdPost w (.agg #[.slice ga X.groups.length gcap, .slice na X.nodes.length ncap, .slice wa X.wires.length wcap]) X x = P:=⟨_,rfl⟩
 rw [hP]
 replace hP:=Lib.hid hP
 have hWA:=hW0.below hA
 replace hBe:=Lib.hid hBe
 go_enter Tryz.func18,Tryz.ntmps18
 go_upto_region 1 with fail
 simp only [hE.out,hBe.out]
 clear hE
 have hla:decide ((ka:Int) < 0) = false:=by simp
 have hlb:decide ((kb:Int) < 0) = false:=by simp
 have hC:=fun o (k:Below wA.heap.size wA o)=>hC0 o (hWA.below k)
 have hNa0:=hNa
 replace hx0:=Lib.hid hx0
 replace hx1:=Lib.hid hx1
 replace hfin:=Lib.hid hfin
 clear hC0
 go_wp2_with fail
 refine (hWd1 _).mono ?_
 clear hWd1
 rintro e w1 ⟨rfl,b1⟩
 go_wp2_with fail
 refine (hWd2 _).mono ?_
 clear hWd2
 rintro e w2 ⟨rfl,b2⟩
 go_wp2_with fail
 refine (hWd3 _).mono ?_
 clear hWd3
 rintro e w3 ⟨rfl,b3⟩
 go_wp2_with fail
 refine (hNa _).mono ?_
 rintro e w4 ⟨rfl,b4⟩
 go_wp2_with fail
 refine (hNb _).mono ?_
 rintro e w5 ⟨rfl,b5⟩
 have bc:=below_trans b1 (below_trans b2 (below_trans b3 (below_trans b4 b5)))
 clear b1 b2 b3 b4 b5
 have hRl:=hRb.lt
 have hBl:=hB.lt
 obtain ⟨_,x0,x1,x2⟩:=id hB
 have hSB:∀ o:World,Below wA.heap.size wA o → o.cell? ⟨B,0,none⟩ = some (.slice ga X.groups.length gcap) ∧ o.cell? ⟨B,1,none⟩ = some (.slice na X.nodes.length ncap) ∧ o.cell? ⟨B,2,none⟩ = some (.slice wa X.wires.length wcap):=fun o k=>⟨(k.cell hBl).trans x0,(k.cell hBl).trans x1,(k.cell hBl).trans x2⟩
 clear x0 x1 x2
 go_upto_region 12 with fail
 go_cut [18,19] from 82 to 91 (fun p q wx=>∃ (gv2 nv2 wv2:Value) (S2:Nat → Prop) (BB:Nat),p = .pointer (some ⟨BB,0,none⟩) ∧ q = .int .i64 r.1 ∧ OBox wx BB 35 gv2 nv2 wv2 ∧ OWd false wx S2 gv2 nv2 wv2 r.2 ∧ (∀ b,S2 b → wA.heap.size ≤ b ∧ b < wx.heap.size ∧ b ≠ BB) ∧ wA.heap.size ≤ BB ∧ Below wA.heap.size wA wx)
 case first =>
  have bd:Below w5.heap.size w5 w5.drew:=below_drewN w5 1
  have bc:=below_trans bc bd
  refine wp_region_N (fun o=>o.cell? ⟨B,0,none⟩ = some (.slice ga X.groups.length gcap) ∧ o.cell? ⟨B,1,none⟩ = some (.slice na X.nodes.length ncap) ∧ o.cell? ⟨B,2,none⟩ = some (.slice wa X.wires.length wcap)) 12 13 rfl (by kernel_rfl) (hSB _ bc) (fun hSw=>?_)
  generalize w5.drew = w6 at *
  clear bd
  refine tk 0 ?_ rfl rfl (by kernel_rfl) (.inl ⟨by rfl, ?_⟩) hSw ?_
  rotate_left
  ·rintro w ⟨s0,s1,s2⟩;go_simp;try with_reducible rfl
  simp only [tkp,tkz,tks]
  refine tk 1 ?_ rfl rfl (by kernel_rfl) (.inl ⟨by rfl, ?_⟩) hSw ?_
  rotate_left
  ·rintro w ⟨s0,s1,s2⟩;go_simp;try with_reducible rfl
  simp only [tkp,tkz,tks]
  refine tk 3 ?_ rfl rfl (by kernel_rfl) (.inl ⟨by rfl, ?_⟩) hSw ?_
  rotate_left
  ·rintro w ⟨s0,s1,s2⟩;go_simp;try with_reducible rfl
  simp only [tkp,tkz,tks]
  refine tk 5 ?_ rfl rfl (by kernel_rfl) (.inl ⟨by rfl, ?_⟩) hSw ?_
  rotate_left
  ·rintro w ⟨s0,s1,s2⟩;go_simp;try with_reducible rfl
  simp only [tkp,tkz,tks]
  refine N_two' (i:=2) (j:=10) (by kernel_rfl) rfl rfl ?_ ?_
  rotate_left
  ·skip
   go_wp2_with fail
   have bq:=below_a1 w6 (.cells #[.slice none 0 0, .slice none 0 0, .slice none 0 0] 35)
   have hNB:=OBox.new w6 35 (.slice none 0 0) (.slice none 0 0) (.slice none 0 0)
   have hBw:=bc.size
   have bc:=below_trans bc bq
   refine QK_normal ⟨fun _=>hSB _ bc, ?_⟩
   have hSw:=hSB _ bc
   obtain ⟨BB,hBB⟩:∃ BB,w6.heap.size = BB:=⟨_,rfl⟩
   rw [hBB] at hNB hBw
   simp only [hBB]
   replace hBB:=Lib.hid hBB
   generalize w6.alloc (.cells #[.slice none 0 0, .slice none 0 0, .slice none 0 0] 35) = w7 at *
   clear bq
   refine N_one' (i:=2) (by kernel_rfl) rfl ?_
   go_wp2_with fail
   refine (hNa _).mono ?_
   rintro e w8 ⟨rfl,bq⟩
   have bc:=below_trans bc bq
   go_wp2_with fail
   refine QK_normal ⟨fun _=>hSB _ bc, ?_⟩
   have hSw:=hSB _ bc
   have hNB:=hNB.keep (bq.block _ hNB.lt)
   refine N_one' (i:=4) (by kernel_rfl) rfl ?_
   go_wp2_with fail
   refine (hNb _).mono ?_
   rintro e w9 ⟨rfl,bq⟩
   have bc:=below_trans bc bq
   go_wp2_with fail
   refine QK_normal ⟨fun _=>hSB _ bc, ?_⟩
   have hSw:=hSB _ bc
   have hNB:=hNB.keep (bq.block _ hNB.lt)
   have hNl:=hNB.lt
   refine N_one' (i:=6) (by kernel_rfl) rfl ?_
   have hCc:=hC _ bc
   go_wp2_with fail
   refine hCc.mono ?_
   clear hCc
   rintro e w10 ⟨gv2,nv2,wv2,S2,rfl,hO2,hS2,bq⟩
   have hSl:=bc.size
   have bc:=below_trans bc bq
   go_wp2_with fail
   refine QK_normal ⟨fun _=>hSB _ bc, ?_⟩
   have hSw:=hSB _ bc
   obtain ⟨_,ga2,gcap2,rfl,_⟩:=hO2.parts.1.open
   obtain ⟨_,na2,ncap2,rfl,_⟩:=hO2.parts.2.1.form
   obtain ⟨_,wa2,wcap2,rfl,_⟩:=hO2.parts.2.2.form
   have hNB:=hNB.keep (bq.block _ hNB.lt)
   refine tk 7 ?_ rfl rfl (by kernel_rfl) (.inl ⟨by rfl, ?_⟩) hSw ?_
   rotate_left
   ·rintro w ⟨s0,s1,s2⟩;go_simp;try with_reducible rfl
   simp only [tkp,tkz,tks]
   refine tk 8 ?_ rfl rfl (by kernel_rfl) (.inl ⟨by rfl, ?_⟩) hSw ?_
   rotate_left
   ·rintro w ⟨s0,s1,s2⟩;go_simp;try with_reducible rfl
   simp only [tkp,tkz,tks]
   refine tk 9 ?_ rfl rfl (by kernel_rfl) (.inl ⟨by rfl, ?_⟩) hSw ?_
   rotate_left
   ·rintro w ⟨s0,s1,s2⟩;go_simp;try with_reducible rfl
   simp only [tkp,tkz,tks]
   have hS3:∀ c,S2 c → wA.heap.size ≤ c ∧ c < w10.heap.size ∧ c ≠ BB:=fun c hc=>by
    have:=hS2 c hc
    omega
   obtain ⟨hf0,hf1,hf2,z0,z1,z2⟩:=hNB.all
   have hOF:=hNB.put (.slice ga2 r.2.groups.length gcap2) (.slice na2 r.2.nodes.length ncap2) (.slice wa2 r.2.wires.length wcap2)
   refine N_one' (i:=11) (by kernel_rfl) rfl ?_
   go_wp2_with fail
   have bF:=set3_below (b:=BB) (u:=.slice ga2 r.2.groups.length gcap2) (v:=.slice na2 r.2.nodes.length ncap2) (x:=.slice wa2 r.2.wires.length wcap2) bc hBw
   refine QK_normal ⟨fun _=>hSB _ bF, ?_⟩
   refine N_rest (11 + 1) 1 (by decide) rfl (by kernel_rfl) ?_
   simp only [List.drop_succ_cons,List.drop_zero]
   go_wp2_with fail
   go_meet
   case rel =>
    exact ⟨_,_,_,S2,BB,rfl,rfl,hOF,hO2.keep (fun c hc=>set3_blk (hS3 c hc).2.2),fun c hc=>⟨(hS3 c hc).1,by rw [set3_size];exact (hS3 c hc).2.1,(hS3 c hc).2.2⟩,hBw,bF⟩
  ·skip
   go_wp2_with fail
   refine (hNa _).mono ?_
   rintro e w7 ⟨rfl,bq⟩
   have bc:=below_trans bc bq
   go_wp2_with fail
   refine QK_normal ⟨fun _=>hSB _ bc, ?_⟩
   have hSw:=hSB _ bc
   refine N_two' (i:=4) (j:=10) (by kernel_rfl) rfl rfl ?_ ?_
   rotate_left
   ·skip
    go_wp2_with fail
    have bq:=below_a1 w7 (.cells #[.slice none 0 0, .slice none 0 0, .slice none 0 0] 35)
    have hNB:=OBox.new w7 35 (.slice none 0 0) (.slice none 0 0) (.slice none 0 0)
    have hBw:=bc.size
    have bc:=below_trans bc bq
    refine QK_normal ⟨fun _=>hSB _ bc, ?_⟩
    have hSw:=hSB _ bc
    obtain ⟨BB,hBB⟩:∃ BB,w7.heap.size = BB:=⟨_,rfl⟩
    rw [hBB] at hNB hBw
    simp only [hBB]
    replace hBB:=Lib.hid hBB
    generalize w7.alloc (.cells #[.slice none 0 0, .slice none 0 0, .slice none 0 0] 35) = w8 at *
    clear bq
    refine N_one' (i:=4) (by kernel_rfl) rfl ?_
    go_wp2_with fail
    refine (hNb _).mono ?_
    rintro e w9 ⟨rfl,bq⟩
    have bc:=below_trans bc bq
    go_wp2_with fail
    refine QK_normal ⟨fun _=>hSB _ bc, ?_⟩
    have hSw:=hSB _ bc
    have hNB:=hNB.keep (bq.block _ hNB.lt)
    have hNl:=hNB.lt
    refine N_one' (i:=6) (by kernel_rfl) rfl ?_
    have hCc:=hC _ bc
    go_wp2_with fail
    refine hCc.mono ?_
    clear hCc
    rintro e w10 ⟨gv2,nv2,wv2,S2,rfl,hO2,hS2,bq⟩
    have hSl:=bc.size
    have bc:=below_trans bc bq
    go_wp2_with fail
    refine QK_normal ⟨fun _=>hSB _ bc, ?_⟩
    have hSw:=hSB _ bc
    obtain ⟨_,ga2,gcap2,rfl,_⟩:=hO2.parts.1.open
    obtain ⟨_,na2,ncap2,rfl,_⟩:=hO2.parts.2.1.form
    obtain ⟨_,wa2,wcap2,rfl,_⟩:=hO2.parts.2.2.form
    have hNB:=hNB.keep (bq.block _ hNB.lt)
    refine tk 7 ?_ rfl rfl (by kernel_rfl) (.inl ⟨by rfl, ?_⟩) hSw ?_
    rotate_left
    ·rintro w ⟨s0,s1,s2⟩;go_simp;try with_reducible rfl
    simp only [tkp,tkz,tks]
    refine tk 8 ?_ rfl rfl (by kernel_rfl) (.inl ⟨by rfl, ?_⟩) hSw ?_
    rotate_left
    ·rintro w ⟨s0,s1,s2⟩;go_simp;try with_reducible rfl
    simp only [tkp,tkz,tks]
    refine tk 9 ?_ rfl rfl (by kernel_rfl) (.inl ⟨by rfl, ?_⟩) hSw ?_
    rotate_left
    ·rintro w ⟨s0,s1,s2⟩;go_simp;try with_reducible rfl
    simp only [tkp,tkz,tks]
    have hS3:∀ c,S2 c → wA.heap.size ≤ c ∧ c < w10.heap.size ∧ c ≠ BB:=fun c hc=>by
     have:=hS2 c hc
     omega
    obtain ⟨hf0,hf1,hf2,z0,z1,z2⟩:=hNB.all
    have hOF:=hNB.put (.slice ga2 r.2.groups.length gcap2) (.slice na2 r.2.nodes.length ncap2) (.slice wa2 r.2.wires.length wcap2)
    refine N_one' (i:=11) (by kernel_rfl) rfl ?_
    go_wp2_with fail
    have bF:=set3_below (b:=BB) (u:=.slice ga2 r.2.groups.length gcap2) (v:=.slice na2 r.2.nodes.length ncap2) (x:=.slice wa2 r.2.wires.length wcap2) bc hBw
    refine QK_normal ⟨fun _=>hSB _ bF, ?_⟩
    refine N_rest (11 + 1) 1 (by decide) rfl (by kernel_rfl) ?_
    simp only [List.drop_succ_cons,List.drop_zero]
    go_wp2_with fail
    go_meet
    case rel =>
     exact ⟨_,_,_,S2,BB,rfl,rfl,hOF,hO2.keep (fun c hc=>set3_blk (hS3 c hc).2.2),fun c hc=>⟨(hS3 c hc).1,by rw [set3_size];exact (hS3 c hc).2.1,(hS3 c hc).2.2⟩,hBw,bF⟩
   ·skip
    go_wp2_with fail
    refine (hNb _).mono ?_
    rintro e w8 ⟨rfl,bq⟩
    have bc:=below_trans bc bq
    go_wp2_with fail
    refine QK_normal ⟨fun _=>hSB _ bc, ?_⟩
    have hSw:=hSB _ bc
    refine N_two' (i:=6) (j:=10) (by kernel_rfl) rfl rfl ?_ ?_
    rotate_left
    ·skip
     go_wp2_with fail
     have bq:=below_a1 w8 (.cells #[.slice none 0 0, .slice none 0 0, .slice none 0 0] 35)
     have hNB:=OBox.new w8 35 (.slice none 0 0) (.slice none 0 0) (.slice none 0 0)
     have hBw:=bc.size
     have bc:=below_trans bc bq
     refine QK_normal ⟨fun _=>hSB _ bc, ?_⟩
     have hSw:=hSB _ bc
     obtain ⟨BB,hBB⟩:∃ BB,w8.heap.size = BB:=⟨_,rfl⟩
     rw [hBB] at hNB hBw
     simp only [hBB]
     replace hBB:=Lib.hid hBB
     generalize w8.alloc (.cells #[.slice none 0 0, .slice none 0 0, .slice none 0 0] 35) = w9 at *
     clear bq
     have hNl:=hNB.lt
     refine N_one' (i:=6) (by kernel_rfl) rfl ?_
     have hCc:=hC _ bc
     go_wp2_with fail
     refine hCc.mono ?_
     clear hCc
     rintro e w10 ⟨gv2,nv2,wv2,S2,rfl,hO2,hS2,bq⟩
     have hSl:=bc.size
     have bc:=below_trans bc bq
     go_wp2_with fail
     refine QK_normal ⟨fun _=>hSB _ bc, ?_⟩
     have hSw:=hSB _ bc
     obtain ⟨_,ga2,gcap2,rfl,_⟩:=hO2.parts.1.open
     obtain ⟨_,na2,ncap2,rfl,_⟩:=hO2.parts.2.1.form
     obtain ⟨_,wa2,wcap2,rfl,_⟩:=hO2.parts.2.2.form
     have hNB:=hNB.keep (bq.block _ hNB.lt)
     refine tk 7 ?_ rfl rfl (by kernel_rfl) (.inl ⟨by rfl, ?_⟩) hSw ?_
     rotate_left
     ·rintro w ⟨s0,s1,s2⟩;go_simp;try with_reducible rfl
     simp only [tkp,tkz,tks]
     refine tk 8 ?_ rfl rfl (by kernel_rfl) (.inl ⟨by rfl, ?_⟩) hSw ?_
     rotate_left
     ·rintro w ⟨s0,s1,s2⟩;go_simp;try with_reducible rfl
     simp only [tkp,tkz,tks]
     refine tk 9 ?_ rfl rfl (by kernel_rfl) (.inl ⟨by rfl, ?_⟩) hSw ?_
     rotate_left
     ·rintro w ⟨s0,s1,s2⟩;go_simp;try with_reducible rfl
     simp only [tkp,tkz,tks]
     have hS3:∀ c,S2 c → wA.heap.size ≤ c ∧ c < w10.heap.size ∧ c ≠ BB:=fun c hc=>by
      have:=hS2 c hc
      omega
     obtain ⟨hf0,hf1,hf2,z0,z1,z2⟩:=hNB.all
     have hOF:=hNB.put (.slice ga2 r.2.groups.length gcap2) (.slice na2 r.2.nodes.length ncap2) (.slice wa2 r.2.wires.length wcap2)
     refine N_one' (i:=11) (by kernel_rfl) rfl ?_
     go_wp2_with fail
     have bF:=set3_below (b:=BB) (u:=.slice ga2 r.2.groups.length gcap2) (v:=.slice na2 r.2.nodes.length ncap2) (x:=.slice wa2 r.2.wires.length wcap2) bc hBw
     refine QK_normal ⟨fun _=>hSB _ bF, ?_⟩
     refine N_rest (11 + 1) 1 (by decide) rfl (by kernel_rfl) ?_
     simp only [List.drop_succ_cons,List.drop_zero]
     go_wp2_with fail
     go_meet
     case rel =>
      exact ⟨_,_,_,S2,BB,rfl,rfl,hOF,hO2.keep (fun c hc=>set3_blk (hS3 c hc).2.2),fun c hc=>⟨(hS3 c hc).1,by rw [set3_size];exact (hS3 c hc).2.1,(hS3 c hc).2.2⟩,hBw,bF⟩
    ·skip
     have hCc:=hC _ bc
     go_wp2_with fail
     refine hCc.mono ?_
     clear hCc
     rintro e w10 ⟨gv2,nv2,wv2,S2,rfl,hO2,hS2,bq⟩
     have hSl:=bc.size
     have bc:=below_trans bc bq
     go_wp2_with fail
     refine QK_normal ⟨fun _=>hSB _ bc, ?_⟩
     have hSw:=hSB _ bc
     obtain ⟨_,ga2,gcap2,rfl,_⟩:=hO2.parts.1.open
     obtain ⟨_,na2,ncap2,rfl,_⟩:=hO2.parts.2.1.form
     obtain ⟨_,wa2,wcap2,rfl,_⟩:=hO2.parts.2.2.form
     refine tk 7 ?_ rfl rfl (by kernel_rfl) (.inl ⟨by rfl, ?_⟩) hSw ?_
     rotate_left
     ·rintro w ⟨s0,s1,s2⟩;go_simp;try with_reducible rfl
     simp only [tkp,tkz,tks]
     refine tk 8 ?_ rfl rfl (by kernel_rfl) (.inl ⟨by rfl, ?_⟩) hSw ?_
     rotate_left
     ·rintro w ⟨s0,s1,s2⟩;go_simp;try with_reducible rfl
     simp only [tkp,tkz,tks]
     refine tk 9 ?_ rfl rfl (by kernel_rfl) (.inl ⟨by rfl, ?_⟩) hSw ?_
     rotate_left
     ·rintro w ⟨s0,s1,s2⟩;go_simp;try with_reducible rfl
     simp only [tkp,tkz,tks]
     refine N_one' (i:=10) (by kernel_rfl) rfl ?_
     have bp:=below_a1 w10 (.cells #[.slice none 0 0, .slice none 0 0, .slice none 0 0] 35)
     have hO2:=hO2.keep (w':=w10.alloc (.cells #[.slice none 0 0, .slice none 0 0, .slice none 0 0] 35)) (fun c hc=>bp.block c (hS2 c hc).2)
     have hS4:∀ c,S2 c → wA.heap.size ≤ c ∧ c < w10.heap.size:=fun c hc=>by
      have:=hS2 c hc
      omega
     have hsz:=World.size_alloc w10 (.cells #[.slice none 0 0, .slice none 0 0, .slice none 0 0] 35)
     clear bp
     obtain ⟨Z,hZ⟩:∃ Z,w10.heap.size = Z:=⟨_,rfl⟩
     rw [hZ] at hS4 hsz
     replace hZ:=Lib.hid hZ
     go_wp2_with fail
     have bq:=below_a1 w10 (.cells #[.slice none 0 0, .slice none 0 0, .slice none 0 0] 35)
     have hNB:=OBox.new w10 35 (.slice none 0 0) (.slice none 0 0) (.slice none 0 0)
     have hBw:=bc.size
     have bc:=below_trans bc bq
     refine QK_normal ⟨fun _=>hSB _ bc, ?_⟩
     have hSw:=hSB _ bc
     obtain ⟨BB,hBB⟩:∃ BB,w10.heap.size = BB:=⟨_,rfl⟩
     rw [hBB] at hNB hBw
     simp only [hBB]
     replace hBB:=Lib.hid hBB
     generalize w10.alloc (.cells #[.slice none 0 0, .slice none 0 0, .slice none 0 0] 35) = w11 at *
     clear bq
     have hS3:∀ c,S2 c → wA.heap.size ≤ c ∧ c < w11.heap.size ∧ c ≠ BB:=fun c hc=>by
      have:=hS4 c hc
      have:=hBB.out
      have:=hZ.out
      omega
     obtain ⟨hf0,hf1,hf2,z0,z1,z2⟩:=hNB.all
     have hOF:=hNB.put (.slice ga2 r.2.groups.length gcap2) (.slice na2 r.2.nodes.length ncap2) (.slice wa2 r.2.wires.length wcap2)
     refine N_one' (i:=11) (by kernel_rfl) rfl ?_
     go_wp2_with fail
     have bF:=set3_below (b:=BB) (u:=.slice ga2 r.2.groups.length gcap2) (v:=.slice na2 r.2.nodes.length ncap2) (x:=.slice wa2 r.2.wires.length wcap2) bc hBw
     refine QK_normal ⟨fun _=>hSB _ bF, ?_⟩
     refine N_rest (11 + 1) 1 (by decide) rfl (by kernel_rfl) ?_
     simp only [List.drop_succ_cons,List.drop_zero]
     go_wp2_with fail
     go_meet
     case rel =>
      exact ⟨_,_,_,S2,BB,rfl,rfl,hOF,hO2.keep (fun c hc=>set3_blk (hS3 c hc).2.2),fun c hc=>⟨(hS3 c hc).1,by rw [set3_size];exact (hS3 c hc).2.1,(hS3 c hc).2.2⟩,hBw,bF⟩
 case rest =>
  obtain ⟨gv2,nv2,wv2,S2,BB,rfl,rfl,hN,hO2,hS2,hBw,bA⟩:=hcut
  clear hSB bc hNa hNb hC
  by_cases h0:r.1 = 0
  rotate_left
  ·have hne:(r.1 != 0) = true:=by simpa using h0
   have hxx:=hx1.out h0
   replace h0:=Lib.hid h0
   clear hN
   have hbF:=below_trans hA bA
   have hR2:=hRb.keep (bA.block _ hRb.lt)
   have hN:=hB.keep (bA.block _ hB.lt)
   obtain ⟨hf0,hf1,hf2,z0,z1,z2⟩:=hR2.all
   obtain ⟨f0,f1,f2⟩:=hR2.put3 (.slice ga X.groups.length gcap) (.slice na X.nodes.length ncap) (.slice wa X.wires.length wcap)
   obtain ⟨_,y0,y1,y2⟩:=id hN
   go_wp2_with ((with_reducible refine bodyPost_ret (v:=.tuple #[.agg #[.slice ga X.groups.length gcap, .slice na X.nodes.length ncap, .slice wa X.wires.length wcap], .string ⟨#[]⟩, .int .i64 r.1]) ?_ rfl ?_);(focus (simp [results,Tryz.f18];go_simp)))
   have hFin:=set3_below (b:=B + 1) (u:=.slice ga X.groups.length gcap) (v:=.slice na X.nodes.length ncap) (x:=.slice wa X.wires.length wcap) hbF (by have:=hBe.out;omega)
   rw [← hP.out,hxx]
   exact ⟨_,_,X,rfl,fun h=>absurd h h0.out,hFin,Or.inl ⟨rfl,rfl⟩⟩
  ·have hxx:=hx0.out h0
   obtain ⟨hkn,hRr,hlen⟩:=hfin.out h0
   have hkn:ka < r.2.nodes.length:=by omega
   have hck:=node_clock hRr hkn
   have hq0:(r.1 != 0) = false:=by simp [h0]
   obtain ⟨_,ga2,gcap2,rfl,_⟩:=hO2.parts.1.open
   have hN2:=hO2.parts.2.1
   obtain ⟨_,wa2,wcap2,rfl,_⟩:=hO2.parts.2.2.form
   obtain ⟨_,na2,ncap2,rfl,_⟩:=hN2.form
   obtain ⟨B4,o4,c4,lv,hv5,tv,hnv,hc1,k0,k1,k2,k3,hcl,hr4,hh4,ht4⟩:=hN2.at hkn
   cases hnv
   obtain ⟨ck,hcke⟩:∃ ck:Nat,(r.2.nodes.getD ka N.zero).clock = ck:=Int.eq_ofNat_of_zero_le hck.1
   have hcB:clockB r ka = Lib.decDigits ck:=by
    unfold clockB
    rw [hcke]
    rfl
   rw [hcke] at hck k0
   rw [hcB] at hxx
   have hDg:=fun o=>Digits_c ck o (by omega)
   have hNa:∀ o,Calls Tryz.prog 43 #[.string (strB a)] o (GivesB (.int .i64 (ka:Nat)) o):=hNa0
   have hB4l:=cell_lt k0
   dsimp only at hB4l
   clear hcB hcke k1 k2 k3 hcl hr4 hh4 ht4 hc1 hRr hfin hlen
   obtain ⟨_,y0,y1,y2⟩:=id hN
   have hNl:=hN.lt
   replace h0:=Lib.hid h0
   have hSB:∀ o:World,Below wc.heap.size wc o → o.cell? ⟨BB,0,none⟩ = some (.slice ga2 r.2.groups.length gcap2) ∧ o.cell? ⟨BB,1,none⟩ = some (.slice (some ⟨B4,o4,none⟩) r.2.nodes.length ncap2) ∧ o.cell? ⟨BB,2,none⟩ = some (.slice wa2 r.2.wires.length wcap2) ∧ o.cell? ⟨B4,o4 + ka * 4,none⟩ = some (.int .i64 ck):=fun o k=>⟨(k.cell hNl).trans y0,(k.cell hNl).trans y1,(k.cell hNl).trans y2,(k.cell hB4l).trans k0⟩
   clear y0 y1 y2 k0
   have e4:ka * 4 + o4 = o4 + ka * 4:=by omega
   go_upto_region 15 with fail
   refine wp_region_N (fun o=>o.cell? ⟨BB,0,none⟩ = some (.slice ga2 r.2.groups.length gcap2) ∧ o.cell? ⟨BB,1,none⟩ = some (.slice (some ⟨B4,o4,none⟩) r.2.nodes.length ncap2) ∧ o.cell? ⟨BB,2,none⟩ = some (.slice wa2 r.2.wires.length wcap2) ∧ o.cell? ⟨B4,o4 + ka * 4,none⟩ = some (.int .i64 ck)) 9 12 rfl (by kernel_rfl) (hSB _ (below_drewN wc 1)) (fun hSw=>?_)
   refine tk 0 ?_ rfl rfl (by kernel_rfl) (.inl ⟨by rfl, ?_⟩) hSw ?_
   rotate_left
   ·rintro w ⟨s0,s1,s2,s3⟩;go_simp;try with_reducible rfl
   simp only [tkp,tkz,tks]
   refine tk 1 ?_ rfl rfl (by kernel_rfl) (.inl ⟨by rfl, ?_⟩) hSw ?_
   rotate_left
   ·rintro w ⟨s0,s1,s2,s3⟩;go_simp;try with_reducible rfl
   simp only [tkp,tkz,tks]
   refine tk 2 ?_ rfl rfl (by kernel_rfl) (.inl ⟨by rfl, ?_⟩) hSw ?_
   rotate_left
   ·rintro w ⟨s0,s1,s2,s3⟩;go_simp;try with_reducible rfl
   simp only [tkp,tkz,tks]
   refine tk 3 ?_ rfl rfl (by kernel_rfl) (.inl ⟨by rfl, ?_⟩) hSw ?_
   rotate_left
   ·rintro w ⟨s0,s1,s2,s3⟩;go_simp;try with_reducible rfl
   simp only [tkp,tkz,tks]
   refine N_one' (i:=4) (by kernel_rfl) rfl ?_
   go_wp2_with fail
   refine (hNa _).mono ?_
   rintro e w7 ⟨rfl,b7⟩
   have b7:=below_trans (below_drewN wc 1) b7
   go_wp2_with fail
   refine QK_normal ⟨fun _=>hSB _ b7, ?_⟩
   have hSw:=hSB _ b7
   refine tk 5 ?_ rfl rfl (by kernel_rfl) (.inl ⟨by rfl, ?_⟩) hSw ?_
   rotate_left
   ·rintro w ⟨s0,s1,s2,s3⟩;go_simp;try with_reducible rfl
   simp only [tkp,tkz,tks]
   refine tk 6 ?_ rfl rfl (by kernel_rfl) (.inl ⟨by rfl, ?_⟩) hSw ?_
   rotate_left
   ·rintro w ⟨s0,s1,s2,s3⟩;go_simp;try with_reducible rfl
   simp only [tkp,tkz,tks]
   refine tk 7 ?_ rfl rfl (by kernel_rfl) (.inl ⟨by rfl, ?_⟩) hSw ?_
   rotate_left
   ·rintro w ⟨s0,s1,s2,s3⟩;go_simp;try with_reducible rfl
   simp only [tkp,tkz,tks]
   refine N_one' (i:=8) (by kernel_rfl) rfl ?_
   go_wp2_with fail
   refine (hDg _).mono ?_
   rintro e w8 ⟨rfl,b8⟩
   have b8:=below_trans b7 b8
   go_wp2_with fail
   refine QK_normal ⟨fun _=>hSB _ b8, ?_⟩
   refine N_rest 9 3 (by decide) rfl (by kernel_rfl) ?_
   simp only [List.drop_succ_cons,List.drop_zero]
   have hbF:=below_trans hA (below_trans bA b8)
   have hR2:=hRb.keep ((below_trans bA b8).block _ hRb.lt)
   have hN:=hN.keep (b8.block _ hNl)
   have hwA:B + 2 ≤ wA.heap.size:=by have:=hRb.lt;omega
   have hO2:=hO2.keep (fun c hc=>b8.block c (hS2 c hc).2.1)
   have hS9:∀ c,S2 c → c ≠ B + 1:=fun c hc=>by have:=(hS2 c hc).1;omega
   obtain ⟨hf0,hf1,hf2,z0,z1,z2⟩:=hR2.all
   obtain ⟨f0,f1,f2⟩:=hR2.put3 (.slice ga2 r.2.groups.length gcap2) (.slice (some ⟨B4,o4,none⟩) r.2.nodes.length ncap2) (.slice wa2 r.2.wires.length wcap2)
   obtain ⟨_,y0,y1,y2⟩:=id hN
   go_wp2_with ((with_reducible refine bodyPost_ret (v:=.tuple #[.agg #[.slice ga2 r.2.groups.length gcap2, .slice (some ⟨B4,o4,none⟩) r.2.nodes.length ncap2, .slice wa2 r.2.wires.length wcap2], .string (strB (Lib.decDigits ck)), .int .i64 0]) ?_ rfl ?_);(focus (simp [results,Tryz.f18];go_simp)))
   have hFin:=set3_below (b:=B + 1) (u:=.slice ga2 r.2.groups.length gcap2) (v:=.slice (some ⟨B4,o4,none⟩) r.2.nodes.length ncap2) (x:=.slice wa2 r.2.wires.length wcap2) hbF (by have:=hBe.out;omega)
   rw [← hP.out,hxx]
   exact ⟨_,_,r.2,rfl,fun _=>⟨rfl,rfl⟩,hFin,Or.inr ⟨_,_,_,S2,rfl,hO2.keep (fun c hc=>set3_blk (hS9 c hc)),fun c hc=>Nat.le_trans hA.size (hS2 c hc).1⟩⟩
end Go.Proofs.YtnalakhelicjcaaGreatDoor
