/-
  The document's line: held.
-/
import Derived.Test.YtnalakhelicjcaaGreatDoorZDr5
import Derived.Test.YtnalakhelicjcaaGreatDoorZGJ
set_option maxRecDepth 100000
namespace Go.Proofs.YtnalakhelicjcaaGreatDoor
open Go.RowKit Go.Shelf Go.BigFrame Go.Deep
theorem nums_one {s:List UInt8} {xs:List Nat} (h:numsG 1 s = some xs):numsG 2 s = none ∧ ∃ k,xs = [k]:=by
 by_cases h2:(wordB s).2.2 = decide (0 < 0)
 ·cases hn:numB (wordB s).1 with
  | none=>rw [numsG_none (Or.inl hn)] at h;cases h
  | some a =>
   rw [numsG_some hn h2] at h
   refine ⟨numsG_none (Or.inr (by rw [h2];decide)),a, ?_⟩
   exact (Option.some.inj h).symm
 ·rw [numsG_none (Or.inr h2)] at h
  cases h
theorem ints_a {w:World} {a:Option Addr} {c x:Nat} (h:Ints w (.slice a 1 c) [(x:Int)]):∃ q o,a = some ⟨q,o,none⟩ ∧ w.cell? ⟨q,o,none⟩ = some (.int .i64 x):=by
 obtain ⟨_,_,_,a',cap,e,_,h4⟩:=h
 cases e
 obtain ⟨q,o,rfl,hc⟩:=h4 (by simp)
 exact ⟨q,o,rfl,hc 0 (by simp)⟩
theorem word_held (a:List UInt8):(a = kHeld → ((strB a).toList == [104,101,108,100]) = true) ∧ (a ≠ kHeld → ((strB a).toList == [104,101,108,100]) = false):=by
 rw [strB_toL]
 exact ⟨fun h=>by rw [h];rfl,fun h=>beq_eq_false_iff_ne.2 h⟩
theorem word_told (a:List UInt8):(a = kTold → ((strB a).toList == [116,111,108,100]) = true) ∧ (a ≠ kTold → ((strB a).toList == [116,111,108,100]) = false):=by
 rw [strB_toL]
 exact ⟨fun h=>by rw [h];rfl,fun h=>beq_eq_false_iff_ne.2 h⟩
theorem box_ne {w:World} {b q o:Nat} {e:TypeId} {k:Int} (h:OBox w b e (.slice none 0 0) (.slice none 0 0) (.slice none 0 0)) (hc:w.cell? ⟨q,o,none⟩ = some (.int .i64 k)):q ≠ b:=fun e=>by
 subst e
 obtain ⟨⟨cur,h1,h2⟩,c0,c1,c2⟩:=h
 rcases o with _ | _ | _ | o
 ·rw [c0] at hc;cases hc
 ·rw [c1] at hc;cases hc
 ·rw [c2] at hc;cases hc
 ·simp [World.cell?,h1] at hc
  have:=(Array.getElem?_eq_some_iff.1 hc).1
  omega
theorem nodeE_at {X:Wd} (h:Right X) (k:Nat):nodeE X k = if k < X.nodes.length then 0 else 4:=by
 unfold nodeE
 rw [if_pos h.err]
 by_cases hk:k < X.nodes.length
 ·rw [if_pos hk,if_pos]
  simp only [inB,Bool.and_eq_true,decide_eq_true_eq]
  omega
 ·rw [if_neg hk,if_neg]
  simp only [inB,Bool.and_eq_true,decide_eq_true_eq]
  omega
set_option maxHeartbeats 4000000 in
theorem played_held {w:World} {v:Value} {X:Wd} {s rest:List UInt8} {ka:Nat} (h:WorldAt w v X) (hRX:Right X) (hs:s.length ≤ 1000000) (h1:wordB s = (kHeld,rest,true)) (h2:numsG 1 rest = some [ka]) :
  Calls Tryz.prog 18 #[v, .string (strB s)] w (PdPost w v X (execB X (.held ka))):=by
 have hx0:ka < X.nodes.length → execB X (.held ka) = (0,heldB X ka,X):=fun h=>if_pos h
 have hx1:¬ ka < X.nodes.length → execB X (.held ka) = (4,[],X):=fun h=>if_neg h
 obtain ⟨x,hx⟩:∃ x,execB X (.held ka) = x:=⟨_,rfl⟩
 rw [hx] at hx0 hx1 ⊢
 clear hx
 have hkt:((strB kHeld).toList == [116,111,108,100]) = false:=(word_told kHeld).2 (by decide)
 have hkh:((strB kHeld).toList == [104,101,108,100]) = true:=(word_held kHeld).1 rfl
 have hq:=calm_ne (s:=s) (not_calm (by rw [h1]))
 have hl1:=wordB_len s
 rw [h1] at hl1
 dsimp only at hl1
 have hWd1:=fun o=>word_c o s hs
 have hNs:=fun o=>nums_c o rest (by omega) 2 (by omega)
 have hN1:=fun o=>nums_c o rest (by omega) 1 (by omega)
 simp only [h1] at hWd1
 simp only [(nums_one h2).1] at hNs
 simp only [h2] at hN1
 have hks:((strB kHeld).toList == [115,101,110,100]) = false:=(word_send kHeld).2 (by decide)
 clear h1 h2 hl1
 have hW0:=h
 obtain ⟨gv,nv,wv,rfl,hg,hn,hw⟩:=h
 obtain ⟨hnl,na,ncap,rfl,hnc⟩:=hn.form
 obtain ⟨hwl,wa,wcap,rfl,hwc⟩:=hw.form
 obtain ⟨hgl,ga,gcap,rfl,_⟩:=hg.open
 obtain ⟨wA,hE,hA,hB,hRb⟩:=boxes2 w (.slice ga X.groups.length gcap) (.slice na X.nodes.length ncap) (.slice wa X.wires.length wcap) 35
 obtain ⟨B,hBe⟩:∃ B,w.heap.size = B:=⟨_,rfl⟩
 simp only [hBe] at hB hRb
 obtain ⟨P,hP⟩:∃ P,PdPost w (.agg #[.slice ga X.groups.length gcap, .slice na X.nodes.length ncap, .slice wa X.wires.length wcap]) X x = P:=⟨_,rfl⟩
 rw [hP]
 replace hP:=Lib.hid hP
 have hWA:=hW0.below hA
 replace hBe:=Lib.hid hBe
 go_enter Tryz.func18,Tryz.ntmps18
 go_upto_region 1 with fail
 simp only [hE.out,hBe.out]
 clear hE
 replace hx0:=Lib.hid hx0
 replace hx1:=Lib.hid hx1
 go_wp2_with fail
 refine (hWd1 _).mono ?_
 clear hWd1
 rintro e w1 ⟨rfl,b1⟩
 go_wp2_with fail
 refine (hNs _).mono ?_
 rintro e w2 ⟨b2,⟨_,rfl⟩ | ⟨xs,la,lc,hxs,_⟩⟩
 rotate_left
 ·cases hxs
 go_wp2_with fail
 refine (hNs _).mono ?_
 clear hNs
 rintro e w3 ⟨b3,⟨_,rfl⟩ | ⟨xs,la,lc,hxs,_⟩⟩
 rotate_left
 ·cases hxs
 go_wp2_with fail
 refine (hN1 _).mono ?_
 clear hN1
 rintro e w5 ⟨b4,⟨hh,_⟩ | ⟨xs,la,lc,hxs,rfl,hI⟩⟩
 ·cases hh
 obtain rfl:=Option.some.inj hxs
 obtain ⟨q,o,rfl,c0⟩:=ints_a hI
 have bc:=below_trans b1 (below_trans b2 (below_trans b3 b4))
 clear b1 b2 b3 b4 hI hxs
 go_upto_region 31 with fail
 have hC:True:=trivial
 have hC:=fun (o:World) (k:Below wA.heap.size wA o)=>hC
 have hA:=below_trans hA bc
 have hRb:=hRb.keep (bc.block _ hRb.lt)
 have hB:=hB.keep (bc.block _ hB.lt)
 have hWA:=hW0.below hA
 have hC:=fun o (k:Below w5.heap.size w5 o)=>hC o (below_trans bc k)
 clear bc
 have bc:Below w5.heap.size w5 w5:=Below.refl _ _
 obtain ⟨wA,hwA⟩:∃ u:World,u = w5:=⟨_,rfl⟩
 subst hwA
 have hRl:=hRb.lt
 have hBl:=hB.lt
 obtain ⟨_,x0,x1,x2⟩:=id hB
 have hql:=cell_lt c0
 dsimp only at hql
 have hSB:∀ u:World,Below wA.heap.size wA u → u.cell? ⟨B,0,none⟩ = some (.slice ga X.groups.length gcap) ∧ u.cell? ⟨B,1,none⟩ = some (.slice na X.nodes.length ncap) ∧ u.cell? ⟨B,2,none⟩ = some (.slice wa X.wires.length wcap) ∧ u.cell? ⟨q,o,none⟩ = some (.int .i64 ka):=fun u k=>⟨(k.cell hBl).trans x0,(k.cell hBl).trans x1,(k.cell hBl).trans x2,(k.cell hql).trans c0⟩
 clear x0 x1 x2 hC
 have hNE:=fun (u:World) (k:Below wA.heap.size wA u)=>NodeError_c (hWA.below k) ka
 have hen2:=nodeE_at hRX ka
 obtain ⟨en,hen⟩:∃ e,nodeE X ka = e:=⟨_,rfl⟩
 simp only [hen] at hNE
 rw [hen] at hen2
 replace hen2:=Lib.hid hen2
 clear hen
 refine wp_region_N (fun u=>u.cell? ⟨B,0,none⟩ = some (.slice ga X.groups.length gcap) ∧ u.cell? ⟨B,1,none⟩ = some (.slice na X.nodes.length ncap) ∧ u.cell? ⟨B,2,none⟩ = some (.slice wa X.wires.length wcap) ∧ u.cell? ⟨q,o,none⟩ = some (.int .i64 ka)) 4 6 rfl (by kernel_rfl) (hSB _ (below_drewN wA 1)) (fun hSw=>?_)
 refine tk 0 ?_ rfl rfl (by kernel_rfl) (.inl ⟨by rfl, ?_⟩) hSw ?_
 rotate_left
 ·rintro w ⟨s0,s1,s2,s3⟩;go_simp;try with_reducible rfl
 simp only [tkp,tkz,tks]
 refine tk 1 ?_ rfl rfl (by kernel_rfl) (.inl ⟨by rfl, ?_⟩) hSw ?_
 rotate_left
 ·rintro w ⟨s0,s1,s2,s3⟩;go_simp;try with_reducible rfl
 simp only [tkp,tkz,tks]
 refine tk 2 ?_ rfl rfl (by kernel_rfl) (.inl ⟨by rfl, ?_⟩) hSw ?_
 rotate_left
 ·rintro w ⟨s0,s1,s2,s3⟩;go_simp;try with_reducible rfl
 simp only [tkp,tkz,tks]
 refine tk 3 ?_ rfl rfl (by kernel_rfl) (.inl ⟨by rfl, ?_⟩) hSw ?_
 rotate_left
 ·rintro w ⟨s0,s1,s2,s3⟩;go_simp;try with_reducible rfl
 simp only [tkp,tkz,tks]
 refine N_one' (i:=4) (by kernel_rfl) rfl ?_
 go_wp2_with fail
 refine (hNE _ (below_drewN wA 1)).mono ?_
 clear hNE
 rintro e w6 ⟨rfl,b6⟩
 have bc:=below_trans (below_drewN wA 1) b6
 go_wp2_with fail
 refine QK_normal ⟨fun h=>absurd h (by decide), ?_⟩
 refine N_rest 5 1 (by decide) rfl (by kernel_rfl) ?_
 simp only [List.drop_succ_cons,List.drop_zero]
 by_cases hk:ka < X.nodes.length
 rotate_left
 ·obtain rfl:en = 4:=hen2.out.trans (if_neg hk)
  have hxx:=hx1.out hk
  replace hk:=Lib.hid hk
  have bA:=bc
  have hbF:=below_trans hA bA
  have hR2:=hRb.keep (bA.block _ hRb.lt)
  have hN:=hB.keep (bA.block _ hB.lt)
  obtain ⟨hf0,hf1,hf2,z0,z1,z2⟩:=hR2.all
  obtain ⟨f0,f1,f2⟩:=hR2.put3 (.slice ga X.groups.length gcap) (.slice na X.nodes.length ncap) (.slice wa X.wires.length wcap)
  obtain ⟨_,y0,y1,y2⟩:=id hN
  go_wp2_with ((with_reducible refine bodyPost_ret (v:=.tuple #[.agg #[.slice ga X.groups.length gcap, .slice na X.nodes.length ncap, .slice wa X.wires.length wcap], .string ⟨#[]⟩, .int .i64 4]) ?_ rfl ?_);(focus (simp [results,Tryz.f18];go_simp)))
  have hFin:=set3_below (b:=B + 1) (u:=.slice ga X.groups.length gcap) (v:=.slice na X.nodes.length ncap) (x:=.slice wa X.wires.length wcap) hbF (by have:=hBe.out;omega)
  rw [← hP.out,hxx]
  exact ⟨_,_,X,rfl,fun h=>absurd h (by show ¬ (4:Int) = 0;decide),hFin,Or.inl ⟨rfl,rfl⟩⟩
 obtain rfl:en = 0:=hen2.out.trans (if_pos hk)
 have hxx:=hx0.out hk
 have hWb:=hWA.below bc
 obtain ⟨_,_,_,e9,hgb,hnb,_⟩:=id hWb
 cases e9
 obtain ⟨B4,o4,c4,lv,hv5,tv,hnv,hc1,k0,k1,k2,k3,hcl,hr4,hh4,ht4⟩:=hnb.at hk
 cases hnv
 have hlx:=node_lists hRX hk
 have hsm:=told_small hRX hk
 obtain ⟨nd,hnd⟩:∃ y,X.nodes.getD ka N.zero = y:=⟨_,rfl⟩
 rw [hnd] at k0 hr4 hh4 ht4 hcl hlx hsm
 replace hnd:=Lib.hid hnd
 obtain ⟨_,la4,lcap4,rfl,_⟩:=hr4.form
 obtain ⟨_,ha4,hcap4,rfl,_⟩:=hh4.open
 obtain ⟨_,ta4,tcap4,rfl,htc4⟩:=ht4.open
 go_upto_region 34 with fail
 have hB4l:=cell_lt k0
 dsimp only at hB4l
 have hSC:∀ u:World,Below w6.heap.size w6 u → u.cell? ⟨B,1,none⟩ = some (.slice (some ⟨B4,o4,none⟩) X.nodes.length ncap) ∧ u.cell? ⟨q,o,none⟩ = some (.int .i64 ka) ∧ u.cell? ⟨B4,o4 + ka * 4,none⟩ = some (.int .i64 nd.clock) ∧ u.cell? ⟨B4,o4 + ka * 4 + 1,none⟩ = some (.slice la4 nd.last.length lcap4) ∧ u.cell? ⟨B4,o4 + ka * 4 + 2,none⟩ = some (.slice ha4 nd.held.length hcap4) ∧ u.cell? ⟨B4,o4 + ka * 4 + 3,none⟩ = some (.slice ta4 nd.told.length tcap4):=fun u k=>⟨(hSB _ (below_trans bc k)).2.1,(hSB _ (below_trans bc k)).2.2.2,(k.cell hB4l).trans k0,(k.cell hB4l).trans k1,(k.cell hB4l).trans k2,(k.cell hB4l).trans k3⟩
 have e4:ka * 4 + o4 = o4 + ka * 4:=by omega
 refine wp_region_N (fun u=>u.cell? ⟨B,1,none⟩ = some (.slice (some ⟨B4,o4,none⟩) X.nodes.length ncap) ∧ u.cell? ⟨q,o,none⟩ = some (.int .i64 ka) ∧ u.cell? ⟨B4,o4 + ka * 4,none⟩ = some (.int .i64 nd.clock) ∧ u.cell? ⟨B4,o4 + ka * 4 + 1,none⟩ = some (.slice la4 nd.last.length lcap4) ∧ u.cell? ⟨B4,o4 + ka * 4 + 2,none⟩ = some (.slice ha4 nd.held.length hcap4) ∧ u.cell? ⟨B4,o4 + ka * 4 + 3,none⟩ = some (.slice ta4 nd.told.length tcap4)) 8 9 rfl (by kernel_rfl) (hSC _ (below_drewN w6 1)) (fun hSw=>?_)
 refine tk 0 ?_ rfl rfl (by kernel_rfl) (.inl ⟨by rfl, ?_⟩) hSw ?_
 rotate_left
 ·rintro w ⟨s0,s1,s2,s3,s4,s5⟩;go_simp;try with_reducible rfl
 simp only [tkp,tkz,tks]
 refine tk 1 ?_ rfl rfl (by kernel_rfl) (.inl ⟨by rfl, ?_⟩) hSw ?_
 rotate_left
 ·rintro w ⟨s0,s1,s2,s3,s4,s5⟩;go_simp;try with_reducible rfl
 simp only [tkp,tkz,tks]
 refine tk 2 ?_ rfl rfl (by kernel_rfl) (.inl ⟨by rfl, ?_⟩) hSw ?_
 rotate_left
 ·rintro w ⟨s0,s1,s2,s3,s4,s5⟩;go_simp;try with_reducible rfl
 simp only [tkp,tkz,tks]
 refine tk 3 ?_ rfl rfl (by kernel_rfl) (.inl ⟨by rfl, ?_⟩) hSw ?_
 rotate_left
 ·rintro w ⟨s0,s1,s2,s3,s4,s5⟩;go_simp;try with_reducible rfl
 simp only [tkp,tkz,tks]
 refine tk 4 ?_ rfl rfl (by kernel_rfl) (.inl ⟨by rfl, ?_⟩) hSw ?_
 rotate_left
 ·rintro w ⟨s0,s1,s2,s3,s4,s5⟩;go_simp;try with_reducible rfl
 simp only [tkp,tkz,tks]
 refine tk 5 ?_ rfl rfl (by kernel_rfl) (.inl ⟨by rfl, ?_⟩) hSw ?_
 rotate_left
 ·rintro w ⟨s0,s1,s2,s3,s4,s5⟩;go_simp;try with_reducible rfl
 simp only [tkp,tkz,tks]
 refine tk 6 ?_ rfl rfl (by kernel_rfl) (.inl ⟨by rfl, ?_⟩) hSw ?_
 rotate_left
 ·rintro w ⟨s0,s1,s2,s3,s4,s5⟩;go_simp;try with_reducible rfl
 simp only [tkp,tkz,tks]
 have b7:Below w6.heap.size w6 w6.drew:=below_drewN w6 1
 generalize w6.drew = w7 at *
 refine N_one' (i:=7) (by kernel_rfl) rfl ?_
 go_wp2_with fail
 refine QK_normal ⟨fun _=>hSC _ (below_trans b7 (below_a1 w7 (.cells #[.int .i64 0, .slice none 0 0, .slice none 0 0, .slice none 0 0] 65))), ?_⟩
 refine N_rest 8 1 (by decide) rfl (by kernel_rfl) ?_
 simp only [List.drop_succ_cons,List.drop_zero]
 go_upto_region 35 with fail
 have bN:=below_trans b7 (below_a1 w7 (.cells #[.int .i64 nd.clock, .slice la4 nd.last.length lcap4, .slice ha4 nd.held.length hcap4, .slice ta4 nd.told.length tcap4] 65))
 have hNb:=NBox.new w7 nd (.slice la4 nd.last.length lcap4) (.slice ha4 nd.held.length hcap4) (.slice ta4 nd.told.length tcap4) 65
 obtain ⟨BN,hBN⟩:∃ b,w7.heap.size = b:=⟨_,rfl⟩
 have hBNl:BN < (w7.alloc (.cells #[.int .i64 nd.clock, .slice la4 nd.last.length lcap4, .slice ha4 nd.held.length hcap4, .slice ta4 nd.told.length tcap4] 65)).heap.size:=by rw [World.size_alloc,hBN];omega
 have hBNg:wA.heap.size ≤ BN:=by have:=bc.size;have:=b7.size;omega
 simp only [hBN] at hNb ⊢
 generalize w7.alloc (.cells #[.int .i64 nd.clock, .slice la4 nd.last.length lcap4, .slice ha4 nd.held.length hcap4, .slice ta4 nd.told.length tcap4] 65) = w8 at *
 have bA:=below_trans bc bN
 clear hSC hSw b7 bc b6 hWb hgb hnb hBN k0 k1 k2 k3 hB4l hc1 hcl
 have hb6:=bound_rng hRX hk
 obtain ⟨_,_,wv8,e8,hg8,hn8,_⟩:=id (hWA.below bA)
 have hAt:=fun (u:World) (k:Below w8.heap.size w8 u)=>bound_c (wv:=wv8) (hg8.below k) (hn8.below k) hk ((errX_fit hRX.err).tab hk)
 cases e8
 obtain ⟨hl,hhl⟩:∃ hl,nd.held.length = hl:=⟨_,rfl⟩
 obtain ⟨bd,hbd⟩:∃ bd,boundX X ka = bd:=⟨_,rfl⟩
 have hhB:heldB X ka = Lib.decDigits hl ++ 32 :: Lib.decDigits bd.toNat:=by
  unfold heldB
  rw [hnd.out,hhl,hbd]
 rw [hhB] at hxx
 rw [hhl] at hlx hNb
 rw [hbd] at hb6
 simp only [hbd] at hAt
 obtain ⟨bn,rfl⟩:=Int.eq_ofNat_of_zero_le hb6.1
 have hD1:=fun u=>Digits_c hl u (by omega)
 have hD2:=fun u=>Digits_c bn u (by omega)
 have hz1:¬ 9223372036854775807 < (strB (Lib.decDigits hl)).size + 1:=by rw [strB_size];have:=dec_len hl;omega
 have hz2:¬ 9223372036854775807 < (strB (Lib.decDigits hl)).size + 1 + (strB (Lib.decDigits bn)).size:=by
  rw [strB_size,strB_size];have:=dec_len hl;have:=dec_len bn;omega
 obtain ⟨_,_,hNb2,_⟩:=hNb
 have hSD:∀ u:World,Below w8.heap.size w8 u → u.cell? ⟨B,0,none⟩ = some (.slice ga X.groups.length gcap) ∧ u.cell? ⟨B,1,none⟩ = some (.slice (some ⟨B4,o4,none⟩) X.nodes.length ncap) ∧ u.cell? ⟨B,2,none⟩ = some (.slice wa X.wires.length wcap) ∧ u.cell? ⟨q,o,none⟩ = some (.int .i64 ka) ∧ u.cell? ⟨BN,2,none⟩ = some (.slice ha4 hl hcap4):=fun u k=>⟨(hSB _ (below_trans bA k)).1,(hSB _ (below_trans bA k)).2.1,(hSB _ (below_trans bA k)).2.2.1,(hSB _ (below_trans bA k)).2.2.2,(k.cell hBNl).trans hNb2⟩
 have hqB:=box_ne hRb (hSB _ (Below.refl _ _)).2.2.2
 clear hhB hhl hbd hNb2 hr4 hh4 ht4 hsm hnd htc4 hen2 hx0 hx1 hSB
 replace hAt:=Lib.hid hAt
 go_upto_region 36 with fail
 refine wp_region_N (fun u=>u.cell? ⟨B,0,none⟩ = some (.slice ga X.groups.length gcap) ∧ u.cell? ⟨B,1,none⟩ = some (.slice (some ⟨B4,o4,none⟩) X.nodes.length ncap) ∧ u.cell? ⟨B,2,none⟩ = some (.slice wa X.wires.length wcap) ∧ u.cell? ⟨q,o,none⟩ = some (.int .i64 ka) ∧ u.cell? ⟨BN,2,none⟩ = some (.slice ha4 hl hcap4)) 14 16 rfl (by kernel_rfl) (hSD _ (below_drewN w8 1)) (fun hSw=>?_)
 refine tk 0 ?_ rfl rfl (by kernel_rfl) (.inl ⟨by rfl, ?_⟩) hSw ?_
 rotate_left
 ·rintro w ⟨s0,s1,s2,s3,s4⟩;go_simp;try with_reducible rfl
 simp only [tkp,tkz,tks]
 refine tk 1 ?_ rfl rfl (by kernel_rfl) (.inl ⟨by rfl, ?_⟩) hSw ?_
 rotate_left
 ·rintro w ⟨s0,s1,s2,s3,s4⟩;go_simp;try with_reducible rfl
 simp only [tkp,tkz,tks]
 refine tk 2 ?_ rfl rfl (by kernel_rfl) (.inl ⟨by rfl, ?_⟩) hSw ?_
 rotate_left
 ·rintro w ⟨s0,s1,s2,s3,s4⟩;go_simp;try with_reducible rfl
 simp only [tkp,tkz,tks]
 refine tk 3 ?_ rfl rfl (by kernel_rfl) (.inl ⟨by rfl, ?_⟩) hSw ?_
 rotate_left
 ·rintro w ⟨s0,s1,s2,s3,s4⟩;go_simp;try with_reducible rfl
 simp only [tkp,tkz,tks]
 refine tk 6 ?_ rfl rfl (by kernel_rfl) (.inl ⟨by rfl, ?_⟩) hSw ?_
 rotate_left
 ·rintro w ⟨s0,s1,s2,s3,s4⟩;go_simp;try with_reducible rfl
 simp only [tkp,tkz,tks]
 refine tk 7 ?_ rfl rfl (by kernel_rfl) (.inl ⟨by rfl, ?_⟩) hSw ?_
 rotate_left
 ·rintro w ⟨s0,s1,s2,s3,s4⟩;go_simp;try with_reducible rfl
 simp only [tkp,tkz,tks]
 refine tk 8 ?_ rfl rfl (by kernel_rfl) (.inl ⟨by rfl, ?_⟩) hSw ?_
 rotate_left
 ·rintro w ⟨s0,s1,s2,s3,s4⟩;go_simp;try with_reducible rfl
 simp only [tkp,tkz,tks]
 refine tk 9 ?_ rfl rfl (by kernel_rfl) (.inl ⟨by rfl, ?_⟩) hSw ?_
 rotate_left
 ·rintro w ⟨s0,s1,s2,s3,s4⟩;go_simp;try with_reducible rfl
 simp only [tkp,tkz,tks]
 refine N_one' (i:=4) (by kernel_rfl) rfl ?_
 go_wp2_with fail
 refine (hD1 _).mono ?_
 rintro e w9 ⟨rfl,b9⟩
 have b9:=below_trans (below_drewN w8 1) b9
 go_wp2_with fail
 refine QK_normal ⟨fun _=>hSD _ b9, ?_⟩
 have hSw:=hSD _ b9
 refine tk 5 ?_ rfl rfl (by kernel_rfl) (.inl ⟨by rfl, ?_⟩) hSw ?_
 rotate_left
 ·rintro w ⟨s0,s1,s2,s3,s4⟩;go_simp;try with_reducible rfl
 simp only [tkp,tkz,tks]
 refine N_one' (i:=10) (by kernel_rfl) rfl ?_
 go_wp2_with fail
 refine (hAt.out _ b9).mono ?_
 rintro e w10 ⟨rfl,b10⟩
 have b10:=below_trans b9 b10
 go_wp2_with fail
 refine QK_normal ⟨fun _=>hSD _ b10, ?_⟩
 refine N_one' (i:=11) (by kernel_rfl) rfl ?_
 go_wp2_with fail
 refine (hD2 _).mono ?_
 rintro e w11 ⟨rfl,b11⟩
 have b11:=below_trans b10 b11
 go_wp2_with fail
 refine QK_normal ⟨fun _=>hSD _ b11, ?_⟩
 have hSw:=hSD _ b11
 have hcat:strB (Lib.decDigits hl) ++ (⟨#[32]⟩:ByteArray) ++ strB (Lib.decDigits bn) = strB (Lib.decDigits hl ++ 32 :: Lib.decDigits bn):=by
  rw [show (⟨#[32]⟩:ByteArray) = strB [32] from rfl,strB_app,strB_app,List.append_assoc]
  rfl
 replace hcat:=Lib.hid hcat
 refine tk 12 ?_ rfl rfl (by kernel_rfl) (.inl ⟨by rfl, ?_⟩) hSw ?_
 rotate_left
 ·rintro w ⟨s0,s1,s2,s3,s4⟩;go_simp;try with_reducible rfl
 simp only [tkp,tkz,tks]
 have bA:=below_trans bA b11
 have hbF:=below_trans hA bA
 have hR2:=hRb.keep (bA.block _ hRb.lt)
 have hBNe:BN ≠ B + 1:=by omega
 have hFin:=set3_below (b:=B + 1) (u:=.slice ga X.groups.length gcap) (v:=.slice (some ⟨B4,o4,none⟩) X.nodes.length ncap) (x:=.slice wa X.wires.length wcap) hbF (by have:=hBe.out;omega)
 obtain ⟨hf0,hf1,hf2,z0,z1,z2⟩:=hR2.all
 obtain ⟨f0,f1,f2⟩:=hR2.put3 (.slice ga X.groups.length gcap) (.slice (some ⟨B4,o4,none⟩) X.nodes.length ncap) (.slice wa X.wires.length wcap)
 have hK:∀ (a:Addr) (ne:a.block ≠ B + 1),(((w11.setCell ⟨B + 1,0,none⟩ (.slice ga X.groups.length gcap)).setCell ⟨B + 1,1,none⟩ (.slice (some ⟨B4,o4,none⟩) X.nodes.length ncap)).setCell ⟨B + 1,2,none⟩ (.slice wa X.wires.length wcap)).cell? a = w11.cell? a:=fun a ne=>World.cell?_of_block (set3_blk ne)
 refine N_one' (i:=13) (by kernel_rfl) rfl ?_
 go_wp2_with fail
 obtain ⟨s0,s1,s2,s3,s4⟩:=hSw
 refine QK_normal ⟨fun _=>⟨(hK ⟨B,0,none⟩ (by show B ≠ B + 1;omega)).trans s0,(hK ⟨B,1,none⟩ (by show B ≠ B + 1;omega)).trans s1,(hK ⟨B,2,none⟩ (by show B ≠ B + 1;omega)).trans s2,(hK ⟨q,o,none⟩ hqB).trans s3,(hK ⟨BN,2,none⟩ hBNe).trans s4⟩, ?_⟩
 refine N_rest 14 2 (by decide) rfl (by kernel_rfl) ?_
 simp only [List.drop_succ_cons,List.drop_zero]
 go_wp2_with ((with_reducible refine bodyPost_ret (v:=.tuple #[.agg #[.slice ga X.groups.length gcap, .slice (some ⟨B4,o4,none⟩) X.nodes.length ncap, .slice wa X.wires.length wcap], .string (strB (Lib.decDigits hl) ++ ⟨#[32]⟩ ++ strB (Lib.decDigits bn)), .int .i64 0]) ?_ rfl ?_);(focus (simp [results,Tryz.f18];go_simp)))
 rw [← hP.out,hxx]
 exact ⟨_,_,X,rfl,fun _=>⟨rfl,hcat.out⟩,hFin,Or.inl ⟨rfl,rfl⟩⟩
end Go.Proofs.YtnalakhelicjcaaGreatDoor
