/-
  The document's line: told.
-/
import Derived.Test.YtnalakhelicjcaaGreatDoorZDr6
set_option maxRecDepth 100000
namespace Go.Proofs.YtnalakhelicjcaaGreatDoor
open Go.RowKit Go.Shelf Go.BigFrame Go.Deep
set_option maxHeartbeats 4000000 in
theorem played_told {w:World} {v:Value} {X:Wd} {s rest:List UInt8} {ka:Nat} (h:WorldAt w v X) (hRX:Right X) (hs:s.length ≤ 1000000) (h1:wordB s = (kTold,rest,true)) (h2:numsG 1 rest = some [ka]) :
  Calls Tryz.prog 18 #[v, .string (strB s)] w (PdPost w v X (execB X (.told ka))):=by
 have hx0:ka < X.nodes.length → execB X (.told ka) = (0,toldB (X.nodes.getD ka N.zero).told,X):=fun h=>if_pos h
 have hx1:¬ ka < X.nodes.length → execB X (.told ka) = (4,[],X):=fun h=>if_neg h
 obtain ⟨x,hx⟩:∃ x,execB X (.told ka) = x:=⟨_,rfl⟩
 rw [hx] at hx0 hx1 ⊢
 clear hx
 have hkt:((strB kTold).toList == [116,111,108,100]) = true:=(word_told kTold).1 rfl
 have hkh:((strB kTold).toList == [104,101,108,100]) = false:=(word_held kTold).2 (by decide)
 have hq:=calm_ne (s:=s) (not_calm (by rw [h1]))
 have hl1:=wordB_len s
 rw [h1] at hl1
 dsimp only at hl1
 have hWd1:=fun o=>word_c o s hs
 have hNs:=fun o=>nums_c o rest (by omega) 2 (by omega)
 have hN1:=fun o=>nums_c o rest (by omega) 1 (by omega)
 simp only [h1] at hWd1
 simp only [(nums_one h2).1] at hNs
 simp only [h2] at hN1
 have hks:((strB kTold).toList == [115,101,110,100]) = false:=(word_send kTold).2 (by decide)
 clear h1 h2 hl1
 have hW0:=h
 obtain ⟨gv,nv,wv,rfl,hg,hn,hw⟩:=h
 obtain ⟨hnl,na,ncap,rfl,hnc⟩:=hn.form
 obtain ⟨hwl,wa,wcap,rfl,hwc⟩:=hw.form
 obtain ⟨hgl,ga,gcap,rfl,_⟩:=hg.open
 obtain ⟨wA,hE,hA,hB,hRb⟩:=boxes2 w (.slice ga X.groups.length gcap) (.slice na X.nodes.length ncap) (.slice wa X.wires.length wcap) 35
 obtain ⟨B,hBe⟩:∃ B,w.heap.size = B:=⟨_,rfl⟩
 simp only [hBe] at hB hRb
 obtain ⟨P,hP⟩:∃ P,PdPost w (.agg #[.slice ga X.groups.length gcap, .slice na X.nodes.length ncap, .slice wa X.wires.length wcap]) X x = P:=⟨_,rfl⟩
 rw [hP]
 replace hP:=Lib.hid hP
 have hWA:=hW0.below hA
 replace hBe:=Lib.hid hBe
 go_enter Tryz.func18,Tryz.ntmps18
 go_upto_region 1 with fail
 simp only [hE.out,hBe.out]
 clear hE
 replace hx0:=Lib.hid hx0
 replace hx1:=Lib.hid hx1
 go_wp2_with fail
 refine (hWd1 _).mono ?_
 clear hWd1
 rintro e w1 ⟨rfl,b1⟩
 go_wp2_with fail
 refine (hNs _).mono ?_
 rintro e w2 ⟨b2,⟨_,rfl⟩ | ⟨xs,la,lc,hxs,_⟩⟩
 rotate_left
 ·cases hxs
 go_wp2_with fail
 refine (hNs _).mono ?_
 clear hNs
 rintro e w3 ⟨b3,⟨_,rfl⟩ | ⟨xs,la,lc,hxs,_⟩⟩
 rotate_left
 ·cases hxs
 go_wp2_with fail
 refine (hN1 _).mono ?_
 clear hN1
 rintro e w5 ⟨b4,⟨hh,_⟩ | ⟨xs,la,lc,hxs,rfl,hI⟩⟩
 ·cases hh
 obtain rfl:=Option.some.inj hxs
 obtain ⟨q,o,rfl,c0⟩:=ints_a hI
 have bc:=below_trans b1 (below_trans b2 (below_trans b3 b4))
 clear b1 b2 b3 b4 hI hxs
 go_upto_region 31 with fail
 have hC:True:=trivial
 have hC:=fun (o:World) (k:Below wA.heap.size wA o)=>hC
 have hA:=below_trans hA bc
 have hRb:=hRb.keep (bc.block _ hRb.lt)
 have hB:=hB.keep (bc.block _ hB.lt)
 have hWA:=hW0.below hA
 have hC:=fun o (k:Below w5.heap.size w5 o)=>hC o (below_trans bc k)
 clear bc
 have bc:Below w5.heap.size w5 w5:=Below.refl _ _
 obtain ⟨wA,hwA⟩:∃ u:World,u = w5:=⟨_,rfl⟩
 subst hwA
 have hRl:=hRb.lt
 have hBl:=hB.lt
 obtain ⟨_,x0,x1,x2⟩:=id hB
 have hql:=cell_lt c0
 dsimp only at hql
 have hSB:∀ u:World,Below wA.heap.size wA u → u.cell? ⟨B,0,none⟩ = some (.slice ga X.groups.length gcap) ∧ u.cell? ⟨B,1,none⟩ = some (.slice na X.nodes.length ncap) ∧ u.cell? ⟨B,2,none⟩ = some (.slice wa X.wires.length wcap) ∧ u.cell? ⟨q,o,none⟩ = some (.int .i64 ka):=fun u k=>⟨(k.cell hBl).trans x0,(k.cell hBl).trans x1,(k.cell hBl).trans x2,(k.cell hql).trans c0⟩
 clear x0 x1 x2 hC
 have hNE:=fun (u:World) (k:Below wA.heap.size wA u)=>NodeError_c (hWA.below k) ka
 have hen2:=nodeE_at hRX ka
 obtain ⟨en,hen⟩:∃ e,nodeE X ka = e:=⟨_,rfl⟩
 simp only [hen] at hNE
 rw [hen] at hen2
 replace hen2:=Lib.hid hen2
 clear hen
 refine wp_region_N (fun u=>u.cell? ⟨B,0,none⟩ = some (.slice ga X.groups.length gcap) ∧ u.cell? ⟨B,1,none⟩ = some (.slice na X.nodes.length ncap) ∧ u.cell? ⟨B,2,none⟩ = some (.slice wa X.wires.length wcap) ∧ u.cell? ⟨q,o,none⟩ = some (.int .i64 ka)) 4 6 rfl (by kernel_rfl) (hSB _ (below_drewN wA 1)) (fun hSw=>?_)
 refine tk 0 ?_ rfl rfl (by kernel_rfl) (.inl ⟨by rfl, ?_⟩) hSw ?_
 rotate_left
 ·rintro w ⟨s0,s1,s2,s3⟩;go_simp;try with_reducible rfl
 simp only [tkp,tkz,tks]
 refine tk 1 ?_ rfl rfl (by kernel_rfl) (.inl ⟨by rfl, ?_⟩) hSw ?_
 rotate_left
 ·rintro w ⟨s0,s1,s2,s3⟩;go_simp;try with_reducible rfl
 simp only [tkp,tkz,tks]
 refine tk 2 ?_ rfl rfl (by kernel_rfl) (.inl ⟨by rfl, ?_⟩) hSw ?_
 rotate_left
 ·rintro w ⟨s0,s1,s2,s3⟩;go_simp;try with_reducible rfl
 simp only [tkp,tkz,tks]
 refine tk 3 ?_ rfl rfl (by kernel_rfl) (.inl ⟨by rfl, ?_⟩) hSw ?_
 rotate_left
 ·rintro w ⟨s0,s1,s2,s3⟩;go_simp;try with_reducible rfl
 simp only [tkp,tkz,tks]
 refine N_one' (i:=4) (by kernel_rfl) rfl ?_
 go_wp2_with fail
 refine (hNE _ (below_drewN wA 1)).mono ?_
 clear hNE
 rintro e w6 ⟨rfl,b6⟩
 have bc:=below_trans (below_drewN wA 1) b6
 go_wp2_with fail
 refine QK_normal ⟨fun h=>absurd h (by decide), ?_⟩
 refine N_rest 5 1 (by decide) rfl (by kernel_rfl) ?_
 simp only [List.drop_succ_cons,List.drop_zero]
 by_cases hk:ka < X.nodes.length
 rotate_left
 ·obtain rfl:en = 4:=hen2.out.trans (if_neg hk)
  have hxx:=hx1.out hk
  replace hk:=Lib.hid hk
  have bA:=bc
  have hbF:=below_trans hA bA
  have hR2:=hRb.keep (bA.block _ hRb.lt)
  have hN:=hB.keep (bA.block _ hB.lt)
  obtain ⟨hf0,hf1,hf2,z0,z1,z2⟩:=hR2.all
  obtain ⟨f0,f1,f2⟩:=hR2.put3 (.slice ga X.groups.length gcap) (.slice na X.nodes.length ncap) (.slice wa X.wires.length wcap)
  obtain ⟨_,y0,y1,y2⟩:=id hN
  go_wp2_with ((with_reducible refine bodyPost_ret (v:=.tuple #[.agg #[.slice ga X.groups.length gcap, .slice na X.nodes.length ncap, .slice wa X.wires.length wcap], .string ⟨#[]⟩, .int .i64 4]) ?_ rfl ?_);(focus (simp [results,Tryz.f18];go_simp)))
  have hFin:=set3_below (b:=B + 1) (u:=.slice ga X.groups.length gcap) (v:=.slice na X.nodes.length ncap) (x:=.slice wa X.wires.length wcap) hbF (by have:=hBe.out;omega)
  rw [← hP.out,hxx]
  exact ⟨_,_,X,rfl,fun h=>absurd h (by show ¬ (4:Int) = 0;decide),hFin,Or.inl ⟨rfl,rfl⟩⟩
 obtain rfl:en = 0:=hen2.out.trans (if_pos hk)
 have hxx:=hx0.out hk
 have hWb:=hWA.below bc
 obtain ⟨_,_,_,e9,hgb,hnb,_⟩:=id hWb
 cases e9
 obtain ⟨B4,o4,c4,lv,hv5,tv,hnv,hc1,k0,k1,k2,k3,hcl,hr4,hh4,ht4⟩:=hnb.at hk
 cases hnv
 have hlx:=node_lists hRX hk
 have hsm:=told_small hRX hk
 obtain ⟨nd,hnd⟩:∃ y,X.nodes.getD ka N.zero = y:=⟨_,rfl⟩
 rw [hnd] at k0 hr4 hh4 ht4 hcl hlx hsm
 replace hnd:=Lib.hid hnd
 obtain ⟨_,la4,lcap4,rfl,_⟩:=hr4.form
 obtain ⟨_,ha4,hcap4,rfl,_⟩:=hh4.open
 obtain ⟨_,ta4,tcap4,rfl,htc4⟩:=ht4.open
 go_upto_region 34 with fail
 have hB4l:=cell_lt k0
 dsimp only at hB4l
 have hSC:∀ u:World,Below w6.heap.size w6 u → u.cell? ⟨B,1,none⟩ = some (.slice (some ⟨B4,o4,none⟩) X.nodes.length ncap) ∧ u.cell? ⟨q,o,none⟩ = some (.int .i64 ka) ∧ u.cell? ⟨B4,o4 + ka * 4,none⟩ = some (.int .i64 nd.clock) ∧ u.cell? ⟨B4,o4 + ka * 4 + 1,none⟩ = some (.slice la4 nd.last.length lcap4) ∧ u.cell? ⟨B4,o4 + ka * 4 + 2,none⟩ = some (.slice ha4 nd.held.length hcap4) ∧ u.cell? ⟨B4,o4 + ka * 4 + 3,none⟩ = some (.slice ta4 nd.told.length tcap4):=fun u k=>⟨(hSB _ (below_trans bc k)).2.1,(hSB _ (below_trans bc k)).2.2.2,(k.cell hB4l).trans k0,(k.cell hB4l).trans k1,(k.cell hB4l).trans k2,(k.cell hB4l).trans k3⟩
 have e4:ka * 4 + o4 = o4 + ka * 4:=by omega
 refine wp_region_N (fun u=>u.cell? ⟨B,1,none⟩ = some (.slice (some ⟨B4,o4,none⟩) X.nodes.length ncap) ∧ u.cell? ⟨q,o,none⟩ = some (.int .i64 ka) ∧ u.cell? ⟨B4,o4 + ka * 4,none⟩ = some (.int .i64 nd.clock) ∧ u.cell? ⟨B4,o4 + ka * 4 + 1,none⟩ = some (.slice la4 nd.last.length lcap4) ∧ u.cell? ⟨B4,o4 + ka * 4 + 2,none⟩ = some (.slice ha4 nd.held.length hcap4) ∧ u.cell? ⟨B4,o4 + ka * 4 + 3,none⟩ = some (.slice ta4 nd.told.length tcap4)) 8 9 rfl (by kernel_rfl) (hSC _ (below_drewN w6 1)) (fun hSw=>?_)
 refine tk 0 ?_ rfl rfl (by kernel_rfl) (.inl ⟨by rfl, ?_⟩) hSw ?_
 rotate_left
 ·rintro w ⟨s0,s1,s2,s3,s4,s5⟩;go_simp;try with_reducible rfl
 simp only [tkp,tkz,tks]
 refine tk 1 ?_ rfl rfl (by kernel_rfl) (.inl ⟨by rfl, ?_⟩) hSw ?_
 rotate_left
 ·rintro w ⟨s0,s1,s2,s3,s4,s5⟩;go_simp;try with_reducible rfl
 simp only [tkp,tkz,tks]
 refine tk 2 ?_ rfl rfl (by kernel_rfl) (.inl ⟨by rfl, ?_⟩) hSw ?_
 rotate_left
 ·rintro w ⟨s0,s1,s2,s3,s4,s5⟩;go_simp;try with_reducible rfl
 simp only [tkp,tkz,tks]
 refine tk 3 ?_ rfl rfl (by kernel_rfl) (.inl ⟨by rfl, ?_⟩) hSw ?_
 rotate_left
 ·rintro w ⟨s0,s1,s2,s3,s4,s5⟩;go_simp;try with_reducible rfl
 simp only [tkp,tkz,tks]
 refine tk 4 ?_ rfl rfl (by kernel_rfl) (.inl ⟨by rfl, ?_⟩) hSw ?_
 rotate_left
 ·rintro w ⟨s0,s1,s2,s3,s4,s5⟩;go_simp;try with_reducible rfl
 simp only [tkp,tkz,tks]
 refine tk 5 ?_ rfl rfl (by kernel_rfl) (.inl ⟨by rfl, ?_⟩) hSw ?_
 rotate_left
 ·rintro w ⟨s0,s1,s2,s3,s4,s5⟩;go_simp;try with_reducible rfl
 simp only [tkp,tkz,tks]
 refine tk 6 ?_ rfl rfl (by kernel_rfl) (.inl ⟨by rfl, ?_⟩) hSw ?_
 rotate_left
 ·rintro w ⟨s0,s1,s2,s3,s4,s5⟩;go_simp;try with_reducible rfl
 simp only [tkp,tkz,tks]
 have b7:Below w6.heap.size w6 w6.drew:=below_drewN w6 1
 generalize w6.drew = w7 at *
 refine N_one' (i:=7) (by kernel_rfl) rfl ?_
 go_wp2_with fail
 refine QK_normal ⟨fun _=>hSC _ (below_trans b7 (below_a1 w7 (.cells #[.int .i64 0, .slice none 0 0, .slice none 0 0, .slice none 0 0] 65))), ?_⟩
 refine N_rest 8 1 (by decide) rfl (by kernel_rfl) ?_
 simp only [List.drop_succ_cons,List.drop_zero]
 go_upto_region 35 with fail
 have bN:=below_trans b7 (below_a1 w7 (.cells #[.int .i64 nd.clock, .slice la4 nd.last.length lcap4, .slice ha4 nd.held.length hcap4, .slice ta4 nd.told.length tcap4] 65))
 have hNb:=NBox.new w7 nd (.slice la4 nd.last.length lcap4) (.slice ha4 nd.held.length hcap4) (.slice ta4 nd.told.length tcap4) 65
 obtain ⟨BN,hBN⟩:∃ b,w7.heap.size = b:=⟨_,rfl⟩
 have hBNl:BN < (w7.alloc (.cells #[.int .i64 nd.clock, .slice la4 nd.last.length lcap4, .slice ha4 nd.held.length hcap4, .slice ta4 nd.told.length tcap4] 65)).heap.size:=by rw [World.size_alloc,hBN];omega
 have hBNg:wA.heap.size ≤ BN:=by have:=bc.size;have:=b7.size;omega
 simp only [hBN] at hNb ⊢
 generalize w7.alloc (.cells #[.int .i64 nd.clock, .slice la4 nd.last.length lcap4, .slice ha4 nd.held.length hcap4, .slice ta4 nd.told.length tcap4] 65) = w8 at *
 have bA:=below_trans bc bN
 clear hSC hSw b7 bc b6 hWb hgb hnb hBN k0 k1 k2 k3 hB4l hc1 hcl
 rw [hnd.out] at hxx
 obtain ⟨_,_,_,hN3⟩:=hNb
 obtain ⟨lt,hlt⟩:∃ lt,nd.told = lt:=⟨_,rfl⟩
 rw [hlt] at hxx hlx hsm ht4 htc4 hN3
 have hl40:=hlx.2
 replace hxx:=Lib.hid hxx
 replace hsm:=Lib.hid hsm
 replace htc:=Lib.hid htc4
 clear hlt htc4 hr4 hh4 ht4 hnd hen2 hx0 hx1 hlx
 have hq0:((0:Nat):Int) = 0:=rfl
 go_wp2_with fail
 go_loopw [31,32] (fun sv i wr=>∃ k:Nat,k ≤ lt.length ∧ i = .int .i64 k ∧ sv = .string (strB (tJ (lt.take k))) ∧ Below w8.heap.size w8 wr) (fun _ i _=>lt.length - (intOf i).toNat)
 case atStart=>exact ⟨0,by omega,rfl,rfl,Below.refl _ _⟩
 case round =>
  obtain ⟨k,hk,rfl,rfl,hb⟩:=hrel
  have hN3':=(hb.cell hBNl).trans hN3
  by_cases hlt:k < lt.length
  ·obtain ⟨_,hcc⟩:=htc.out
   obtain ⟨bm,om,rfl,hun⟩:=hcc (by intro e;rw [e] at hlt;simp at hlt)
   obtain ⟨m0,m1,m2,m3,m4⟩:=(hun k hlt).below (below_trans bN hb)
   have htk:=tJ_snoc lt hlt
   have hmm:=hsm.out _ (getD_mem lt M.zero hlt)
   have htl:=tJ_len (l:=lt.take k) (fun m hm=>hsm.out m (List.mem_of_mem_take hm))
   rw [List.length_take] at htl
   obtain ⟨m,HM⟩:∃ m,lt.getD k M.zero = m:=⟨_,rfl⟩
   rw [HM] at m4 htk hmm
   obtain ⟨tk1,htk1⟩:∃ t,tJ (lt.take k) = t:=⟨_,rfl⟩
   rw [htk1] at htk htl ⊢
   have hz0:=strB_size tk1
   have hz1:¬ 9223372036854775807 < (strB tk1).size + 1:=by omega
   have hz2:¬ 9223372036854775807 < (strB tk1).size + 1 + m.body.size:=by omega
   have hcat:strB tk1 ++ (⟨#[32]⟩:ByteArray) ++ m.body = strB (tk1 ++ [32] ++ m.body.data.toList):=by
    rw [← strB_app, ← strB_app,strB_data]
    rfl
   rw [← htk] at hcat
   replace hcat:=Lib.hid hcat
   clear hcc hun HM m0 m1 m2 m3 htk hz0 htk1
   have hk1:decide ((k:Int) < 0) = false:=by simp
   have hk2:decide (lt.length ≤ k) = false:=by simp;omega
   have e5:k * 5 + 4 + om = om + k * 5 + 4:=by omega
   go_wp2_with fail
   go_roundw
   case rel=>exact ⟨k + 1,by omega,by go_num,by rw [← hcat.out],hb⟩
   case measure=>simp [intOf];omega
  ·obtain rfl:k = lt.length:=by omega
   rw [List.take_length]
   have bA:=below_trans bA hb
   by_cases h0:lt = []
   ·have hto:strB [45] = strB (toldB lt):=by rw [h0];rfl
    have hem:((strB (tJ lt)).toList == []) = true:=by rw [strB_toL,h0];rfl
    obtain ⟨t9,ht9⟩:∃ t,tJ lt = t:=⟨_,rfl⟩
    rw [ht9] at hem ⊢
    replace hto:=Lib.hid hto
    have hx2:(⟨#[32,45]⟩:ByteArray).extract 1 2 = strB [45]:=strB_cut [32,45] 1 2
    clear h0 ht9
    go_upto_region 44 with fail
    have hSD:∀ u:World,Below wr.heap.size wr u → u.cell? ⟨B,0,none⟩ = some (.slice ga X.groups.length gcap) ∧ u.cell? ⟨B,1,none⟩ = some (.slice (some ⟨B4,o4,none⟩) X.nodes.length ncap) ∧ u.cell? ⟨B,2,none⟩ = some (.slice wa X.wires.length wcap):=fun u k=>⟨(hSB _ (below_trans bA k)).1,(hSB _ (below_trans bA k)).2.1,(hSB _ (below_trans bA k)).2.2.1⟩
    refine wp_region_N (fun u=>u.cell? ⟨B,0,none⟩ = some (.slice ga X.groups.length gcap) ∧ u.cell? ⟨B,1,none⟩ = some (.slice (some ⟨B4,o4,none⟩) X.nodes.length ncap) ∧ u.cell? ⟨B,2,none⟩ = some (.slice wa X.wires.length wcap)) 4 6 rfl (by kernel_rfl) (hSD _ (below_drewN wr 1)) (fun hSw=>?_)
    refine tk 0 ?_ rfl rfl (by kernel_rfl) (.inl ⟨by rfl, ?_⟩) hSw ?_
    rotate_left
    ·rintro w ⟨s0,s1,s2⟩;go_simp;try with_reducible rfl
    simp only [tkp,tkz,tks]
    refine tk 1 ?_ rfl rfl (by kernel_rfl) (.inl ⟨by rfl, ?_⟩) hSw ?_
    rotate_left
    ·rintro w ⟨s0,s1,s2⟩;go_simp;try with_reducible rfl
    simp only [tkp,tkz,tks]
    refine tk 2 ?_ rfl rfl (by kernel_rfl) (.inl ⟨by rfl, ?_⟩) hSw ?_
    rotate_left
    ·rintro w ⟨s0,s1,s2⟩;go_simp;try with_reducible rfl
    simp only [tkp,tkz,tks]
    have bd:Below wr.heap.size wr wr.drew:=below_drewN wr 1
    have bA:=below_trans bA bd
    have hbF:=below_trans hA bA
    have hR2:=hRb.keep (bA.block _ hRb.lt)
    have hFin:=set3_below (b:=B + 1) (u:=.slice ga X.groups.length gcap) (v:=.slice (some ⟨B4,o4,none⟩) X.nodes.length ncap) (x:=.slice wa X.wires.length wcap) hbF (by have:=hBe.out;omega)
    obtain ⟨hf0,hf1,hf2,z0,z1,z2⟩:=hR2.all
    obtain ⟨f0,f1,f2⟩:=hR2.put3 (.slice ga X.groups.length gcap) (.slice (some ⟨B4,o4,none⟩) X.nodes.length ncap) (.slice wa X.wires.length wcap)
    generalize wr.drew = w9 at *
    have hK:∀ (a:Addr) (ne:a.block ≠ B + 1),(((w9.setCell ⟨B + 1,0,none⟩ (.slice ga X.groups.length gcap)).setCell ⟨B + 1,1,none⟩ (.slice (some ⟨B4,o4,none⟩) X.nodes.length ncap)).setCell ⟨B + 1,2,none⟩ (.slice wa X.wires.length wcap)).cell? a = w9.cell? a:=fun a ne=>World.cell?_of_block (set3_blk ne)
    refine N_one' (i:=3) (by kernel_rfl) rfl ?_
    go_wp2_with fail
    obtain ⟨s0,s1,s2⟩:=hSw
    refine QK_normal ⟨fun _=>⟨(hK ⟨B,0,none⟩ (by show B ≠ B + 1;omega)).trans s0,(hK ⟨B,1,none⟩ (by show B ≠ B + 1;omega)).trans s1,(hK ⟨B,2,none⟩ (by show B ≠ B + 1;omega)).trans s2⟩, ?_⟩
    refine N_rest 4 2 (by decide) rfl (by kernel_rfl) ?_
    simp only [List.drop_succ_cons,List.drop_zero]
    go_wp2_with ((with_reducible refine bodyPost_ret (v:=.tuple #[.agg #[.slice ga X.groups.length gcap, .slice (some ⟨B4,o4,none⟩) X.nodes.length ncap, .slice wa X.wires.length wcap], .string (strB [45]), .int .i64 0]) ?_ rfl ?_);(focus (simp [results,Tryz.f18];go_simp)))
    rw [← hP.out,hxx]
    exact ⟨_,_,X,rfl,fun _=>⟨rfl,hto.out⟩,hFin,Or.inl ⟨rfl,rfl⟩⟩
   ·have hto:=tJ_told h0
    obtain ⟨t9,ht9⟩:∃ t,tJ lt = t:=⟨_,rfl⟩
    rw [ht9] at hto ⊢
    have hem:((strB t9).toList == []) = false:=by rw [strB_toL,hto];rfl
    have hz:=strB_size t9
    have hz1:1 ≤ (t9.length:Int):=by rw [hto];simp only [List.length_cons];omega
    have hx2:=strB_from t9 1
    rw [show t9.drop 1 = toldB lt by rw [hto];rfl] at hx2
    clear h0 ht9 hto
    go_upto_region 44 with fail
    have hSD:∀ u:World,Below wr.heap.size wr u → u.cell? ⟨B,0,none⟩ = some (.slice ga X.groups.length gcap) ∧ u.cell? ⟨B,1,none⟩ = some (.slice (some ⟨B4,o4,none⟩) X.nodes.length ncap) ∧ u.cell? ⟨B,2,none⟩ = some (.slice wa X.wires.length wcap):=fun u k=>⟨(hSB _ (below_trans bA k)).1,(hSB _ (below_trans bA k)).2.1,(hSB _ (below_trans bA k)).2.2.1⟩
    refine wp_region_N (fun u=>u.cell? ⟨B,0,none⟩ = some (.slice ga X.groups.length gcap) ∧ u.cell? ⟨B,1,none⟩ = some (.slice (some ⟨B4,o4,none⟩) X.nodes.length ncap) ∧ u.cell? ⟨B,2,none⟩ = some (.slice wa X.wires.length wcap)) 4 6 rfl (by kernel_rfl) (hSD _ (below_drewN wr 1)) (fun hSw=>?_)
    refine tk 0 ?_ rfl rfl (by kernel_rfl) (.inl ⟨by rfl, ?_⟩) hSw ?_
    rotate_left
    ·rintro w ⟨s0,s1,s2⟩;go_simp;try with_reducible rfl
    simp only [tkp,tkz,tks]
    refine tk 1 ?_ rfl rfl (by kernel_rfl) (.inl ⟨by rfl, ?_⟩) hSw ?_
    rotate_left
    ·rintro w ⟨s0,s1,s2⟩;go_simp;try with_reducible rfl
    simp only [tkp,tkz,tks]
    refine tk 2 ?_ rfl rfl (by kernel_rfl) (.inl ⟨by rfl, ?_⟩) hSw ?_
    rotate_left
    ·rintro w ⟨s0,s1,s2⟩;go_simp;try with_reducible rfl
    simp only [tkp,tkz,tks]
    have bd:Below wr.heap.size wr wr.drew:=below_drewN wr 1
    have bA:=below_trans bA bd
    have hbF:=below_trans hA bA
    have hR2:=hRb.keep (bA.block _ hRb.lt)
    have hFin:=set3_below (b:=B + 1) (u:=.slice ga X.groups.length gcap) (v:=.slice (some ⟨B4,o4,none⟩) X.nodes.length ncap) (x:=.slice wa X.wires.length wcap) hbF (by have:=hBe.out;omega)
    obtain ⟨hf0,hf1,hf2,z0,z1,z2⟩:=hR2.all
    obtain ⟨f0,f1,f2⟩:=hR2.put3 (.slice ga X.groups.length gcap) (.slice (some ⟨B4,o4,none⟩) X.nodes.length ncap) (.slice wa X.wires.length wcap)
    generalize wr.drew = w9 at *
    have hK:∀ (a:Addr) (ne:a.block ≠ B + 1),(((w9.setCell ⟨B + 1,0,none⟩ (.slice ga X.groups.length gcap)).setCell ⟨B + 1,1,none⟩ (.slice (some ⟨B4,o4,none⟩) X.nodes.length ncap)).setCell ⟨B + 1,2,none⟩ (.slice wa X.wires.length wcap)).cell? a = w9.cell? a:=fun a ne=>World.cell?_of_block (set3_blk ne)
    refine N_one' (i:=3) (by kernel_rfl) rfl ?_
    go_wp2_with fail
    obtain ⟨s0,s1,s2⟩:=hSw
    refine QK_normal ⟨fun _=>⟨(hK ⟨B,0,none⟩ (by show B ≠ B + 1;omega)).trans s0,(hK ⟨B,1,none⟩ (by show B ≠ B + 1;omega)).trans s1,(hK ⟨B,2,none⟩ (by show B ≠ B + 1;omega)).trans s2⟩, ?_⟩
    refine N_rest 4 2 (by decide) rfl (by kernel_rfl) ?_
    simp only [List.drop_succ_cons,List.drop_zero]
    go_wp2_with ((with_reducible refine bodyPost_ret (v:=.tuple #[.agg #[.slice ga X.groups.length gcap, .slice (some ⟨B4,o4,none⟩) X.nodes.length ncap, .slice wa X.wires.length wcap], .string (strB (toldB lt)), .int .i64 0]) ?_ rfl ?_);(focus (simp [results,Tryz.f18];go_simp)))
    rw [← hP.out,hxx]
    exact ⟨_,_,X,rfl,fun _=>⟨rfl,rfl⟩,hFin,Or.inl ⟨rfl,rfl⟩⟩
end Go.Proofs.YtnalakhelicjcaaGreatDoor
