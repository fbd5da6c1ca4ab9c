/-
  What the table's methods do: a move.
-/
import Derived.Test.YtnalakhelicjcaaGreatDoorZGG
set_option maxRecDepth 100000
namespace Go.Proofs.YtnalakhelicjcaaGreatDoor
open Go.RowKit Go.Shelf Go.BigFrame Go.Deep
set_option maxHeartbeats 2000000 in
theorem dmove_c {w:World} {T q o c:Nat} {X:Wd} {a b:List UInt8} (hv:Vars w) (hT8:8 ≤ T) (hT:TabAt w T X) (hRX:Right X) (hl:Strs w q o [a,b]) (ha:a.length ≤ 1000000) (hb:b.length ≤ 1000000) :
  Calls Tryz.prog 57 #[.pointer (some ⟨T,0,none⟩), .slice (some ⟨q,o,none⟩) 2 c] w (MPost w T (execB X (cmdM a b))):=by
 have hNa:=dnum_c (hv.below (below_drewN w 1) hv.lt) a ha
 have hNb:=fun (o:World) (k:Below w.heap.size w o)=>dnum_c (hv.next k) b hb
 have hcm:cmdM a b = match numB a,numB b with | some x,some y=>Cmd.move x y | _,_=>.bad:=rfl
 obtain ⟨ra,hra⟩:∃ r,numB a = r:=⟨_,rfl⟩
 obtain ⟨rb,hrb⟩:∃ r,numB b = r:=⟨_,rfl⟩
 rw [hra] at hNa hcm
 rw [hrb] at hcm
 simp only [hrb] at hNb
 rw [hcm]
 have hn6a:∀ n,ra = some n → n < 1000000:=fun n h=>numB_lt (hra.trans h)
 have hn6b:∀ n,rb = some n → n < 1000000:=fun n h=>numB_lt (hrb.trans h)
 clear hra hrb hcm
 replace hn6a:=Lib.hid hn6a
 replace hn6b:=Lib.hid hn6b
 obtain ⟨r,hr⟩:∃ r,execB X (match ra,rb with | some x,some y=>Cmd.move x y | _,_=>Cmd.bad) = r:=⟨_,rfl⟩
 rw [hr]
 obtain ⟨P,hP⟩:∃ P,MPost w T r = P:=⟨_,rfl⟩
 rw [hP]
 replace hP:=Lib.hid hP
 replace hr:=Lib.hid hr
 have c0:w.cell? ⟨q,o,none⟩ = some (.string (strB a)):=hl.2 0 a rfl
 have c1:=hl.2 1 b rfl
 have hql:=hl.1
 replace hT:=Lib.hid hT
 replace hNb:=Lib.hid hNb
 go_enter Tryz.func57,Tryz.ntmps57
 have hSB:∀ o':World,Below w.heap.size w o' → o'.cell? ⟨q,o,none⟩ = some (.string (strB a)) ∧ o'.cell? ⟨q,o + 1,none⟩ = some (.string (strB b)):=fun o' k=>⟨(k.cell hql).trans c0,(k.cell hql).trans c1⟩
 go_upto_region 1 with fail
 refine wp_region_N (fun w'=>w'.cell? ⟨q,o,none⟩ = some (.string (strB a)) ∧ w'.cell? ⟨q,o + 1,none⟩ = some (.string (strB b))) 7 10 rfl (by kernel_rfl) (hSB _ (below_drewN w 1)) (fun hSw=>?_)
 refine tk 0 ?_ rfl rfl (by kernel_rfl) (.inl ⟨by rfl, ?_⟩) hSw ?_
 rotate_left
 ·rintro w ⟨s0,s1⟩;go_simp;try with_reducible rfl
 simp only [tkp,tkz,tks]
 refine tk 1 ?_ rfl rfl (by kernel_rfl) (.inl ⟨by rfl, ?_⟩) hSw ?_
 rotate_left
 ·rintro w ⟨s0,s1⟩;go_simp;try with_reducible rfl
 simp only [tkp,tkz,tks]
 refine tk 2 ?_ rfl rfl (by kernel_rfl) (.inl ⟨by rfl, ?_⟩) hSw ?_
 rotate_left
 ·rintro w ⟨s0,s1⟩;go_simp;try with_reducible rfl
 simp only [tkp,tkz,tks]
 refine tk 4 ?_ rfl rfl (by kernel_rfl) (.inl ⟨by rfl, ?_⟩) hSw ?_
 rotate_left
 ·rintro w ⟨s0,s1⟩;go_simp;try with_reducible rfl
 simp only [tkp,tkz,tks]
 refine tk 5 ?_ rfl rfl (by kernel_rfl) (.inl ⟨by rfl, ?_⟩) hSw ?_
 rotate_left
 ·rintro w ⟨s0,s1⟩;go_simp;try with_reducible rfl
 simp only [tkp,tkz,tks]
 refine tk 6 ?_ rfl rfl (by kernel_rfl) (.inl ⟨by rfl, ?_⟩) hSw ?_
 rotate_left
 ·rintro w ⟨s0,s1⟩;go_simp;try with_reducible rfl
 simp only [tkp,tkz,tks]
 refine N_one' (i:=3) (by kernel_rfl) rfl ?_
 go_wp2_with fail
 refine hNa.mono ?_
 clear hNa
 rintro e w1 ⟨b1,⟨na,rfl,rfl⟩ | ⟨rfl,rfl⟩⟩
 rotate_left
 ·have hr':=hr.out
  go_wp2_with fail
  rw [← hP.out, ← hr']
  refine ⟨rfl,Save.of (below_trans (below_drewN w 1) b1),hT.out.below (below_trans (below_drewN w 1) b1),Or.inr ⟨by show (1:Int) ≠ 0;decide,rfl⟩⟩
 have b1:=below_trans (below_drewN w 1) b1
 have hC:=hNb.out w1 b1
 go_wp2_with fail
 refine QK_normal ⟨?_, ?_⟩
 ·first | exact fun _=>hSB _ b1 | exact hSB _ b1
 refine N_rest 7 3 (Nat.le_refl _) rfl (by kernel_rfl) ?_
 simp only [List.drop_succ_cons,List.drop_zero]
 clear hSw hSB
 go_wp2_with fail
 refine hC.mono ?_
 clear hC
 rintro e w2 ⟨b12,⟨nb,rfl,rfl⟩ | ⟨rfl,rfl⟩⟩
 rotate_left
 ·have hr':=hr.out
  go_wp2_with fail
  rw [← hP.out, ← hr']
  refine ⟨rfl,Save.of (below_trans b1 b12),hT.out.below (below_trans b1 b12),Or.inr ⟨by show (1:Int) ≠ 0;decide,rfl⟩⟩
 have b2:=below_trans b1 b12
 clear b1 b12 hNb
 dsimp only at hr
 have hna6:=hn6a.out na rfl
 have hnb6:=hn6b.out nb rfl
 obtain ⟨gv,nv,wv,S0,hB,hO,hS⟩:=hT.out.below b2
 have hW:=hO.world
 obtain ⟨pg,pn,pw⟩:=hO.parts
 obtain ⟨_,ga,gcap,rfl,_⟩:=pg.open
 obtain ⟨_,na9,ncap,rfl,_⟩:=pn.form
 obtain ⟨_,wa,wcap,rfl,_⟩:=pw.form
 clear pg pn pw
 obtain ⟨_,x0,x1,x2⟩:=id hB
 have hTl:=hB.lt
 have hSd:=One_c hW na nb (by unfold I64;omega) (by unfold I64;omega)
 have hfin:=fun h=>@moveF_fine X na nb h
 have hex:(moveF X na nb).1 = 0 → execB X (.move na nb) = (0,moreB X (moveF X na nb).2 nb,(moveF X na nb).2):=fun h=>if_pos h
 have hex2:(moveF X na nb).1 ≠ 0 → execB X (.move na nb) = ((moveF X na nb).1,[],X):=fun h=>if_neg h
 rw [hr.out] at hex hex2
 obtain ⟨r2,hr2⟩:∃ r,moveF X na nb = r:=⟨_,rfl⟩
 rw [hr2] at hSd hex hex2
 simp only [hr2] at hfin
 clear hr2 hr
 replace hfin:=Lib.hid hfin
 replace hex:=Lib.hid hex
 replace hex2:=Lib.hid hex2
 go_wp2_with fail
 refine hSd.mono ?_
 clear hSd x0 x1 x2 hB hO hS hW
 rintro e w3 ⟨gv3,nv3,wv3,S3,rfl,hO3,hS3,b3⟩
 obtain ⟨pg,pn,pw⟩:=hO3.parts
 obtain ⟨_,ga3,gcap3,rfl,_⟩:=pg.open
 obtain ⟨_,na3,ncap3,rfl,_⟩:=pn.form
 obtain ⟨_,wa3,wcap3,rfl,_⟩:=pw.form
 clear pg pn pw
 have hR3:=OBox.new w3 35 (.slice ga3 r2.2.groups.length gcap3) (.slice na3 r2.2.nodes.length ncap3) (.slice wa3 r2.2.wires.length wcap3)
 have bx3:=below_a1 w3 (.cells #[.slice ga3 r2.2.groups.length gcap3, .slice na3 r2.2.nodes.length ncap3, .slice wa3 r2.2.wires.length wcap3] 35)
 have hW3:=hO3.world.below bx3
 have bw4:=below_trans (below_trans b2 b3) bx3
 have hO4:=hO3.keep (fun b hb=>bx3.block b (hS3 b hb).2)
 have hS4:∀ b,S3 b → b ≠ T ∧ b < (w3.alloc (.cells #[.slice ga3 r2.2.groups.length gcap3, .slice na3 r2.2.nodes.length ncap3, .slice wa3 r2.2.wires.length wcap3] 35)).heap.size:=fun b hb=>⟨by have:=(hS3 b hb).1;omega,by have:=(hS3 b hb).2;rw [World.size_alloc];omega⟩
 go_upto_region 3 with fail
 generalize w3.alloc (.cells #[.slice ga3 r2.2.groups.length gcap3, .slice na3 r2.2.nodes.length ncap3, .slice wa3 r2.2.wires.length wcap3] 35) = w4 at *
 obtain ⟨E,hE⟩:∃ E,w3.heap.size = E:=⟨_,rfl⟩
 simp only [hE] at hR3 ⊢
 have hET:E ≠ T:=by have:=b3.size;omega
 replace hE:=Lib.hid hE
 clear hO3 hS3 b3 bx3
 replace hS4:=Lib.hid hS4
 by_cases h0:r2.1 = 0
 rotate_left
 ·have q0:(r2.1 == 0) = false:=by simpa using h0
  have h0':=Lib.hid h0
  clear h0
  go_wp2_with fail
  refine (dmust_f _ r2.1).mono ?_
  rintro x w5 ⟨rfl,rfl⟩
  rw [← hP.out,hex2.out h0'.out]
  exact ⟨rfl,Save.of bw4,hT.out.below bw4,Or.inr ⟨h0'.out,rfl⟩⟩
 have q0:(r2.1 == 0) = true:=by simpa using h0
 obtain ⟨hnl,hRt,hlen,htold⟩:=hfin.out h0
 have hexx:=hex.out h0
 clear hfin hex hex2
 have hM:=dmust_t w4 r2.1
 replace h0:=Lib.hid h0
 obtain ⟨g4,n4,v4,S5,hB4,hO5,hS5⟩:=hT.out.below bw4
 have hN4:=hO5.parts.2.1
 obtain ⟨_,na4,nc4,rfl,_⟩:=hN4.form
 obtain ⟨B4,o4,c4,lv,hv5,tv,hnv,hc1,k0,k1,k2,k3,hcl,hr4,hh4,ht4⟩:=hN4.at (n:=nb) hnl
 cases hnv
 obtain ⟨_,ta,tcap,rfl,_⟩:=ht4.open
 have hN6:=hO4.parts.2.1
 obtain ⟨B6,o6,c6,lv6,hv6,tv6,hnv6,hc6,j0,j1,j2,j3,hcl6,hr6,hh6,ht6⟩:=hN6.at (n:=nb) (by omega)
 cases hnv6
 obtain ⟨_,ta6,tcap6,rfl,_⟩:=ht6.open
 have hl1:=node_lists hRX hnl
 have hl2:=node_lists hRt (n:=nb) (by omega)
 have hmb:moreB X r2.2 nb = Lib.itoa (((r2.2.nodes.getD nb N.zero).told.length:Int) - ((X.nodes.getD nb N.zero).told.length:Int)):=by
  unfold moreB Lib.itoa
  rw [if_neg (by omega)]
  congr 1
  omega
 rw [hmb] at hexx
 clear hmb
 replace hexx:=Lib.hid hexx
 obtain ⟨_,y0,y1,y2⟩:=id hB4
 obtain ⟨_,z0,z1,z2⟩:=id hR3
 have hnn:nb < r2.2.nodes.length:=by omega
 obtain ⟨L1,hL1⟩:∃ L,(X.nodes.getD nb N.zero).told.length = L:=⟨_,rfl⟩
 obtain ⟨L2,hL2⟩:∃ L,(r2.2.nodes.getD nb N.zero).told.length = L:=⟨_,rfl⟩
 rw [hL1] at k3 hl1 htold hexx
 rw [hL2] at j3 hl2 htold hexx
 have hwr:IntKind.i64.wrap ((L2:Int) - (L1:Int)) = (L2:Int) - L1:=IntWalk.i64_in _ (by omega)
 clear hRt hlen htold hr4 hh4 ht4 hr6 hh6 ht6 hN4 hN6 hcl hcl6 k0 k1 k2 j0 j1 j2 hO5 hS5 hL1 hL2
 go_wp2_with fail
 refine hM.mono ?_
 clear hM
 rintro x w5 ⟨rfl,rfl⟩
 go_wp2_with fail
 go_quiet (fail)
 have bq:=below_drewN w5 nq
 have hB6:=hB4.keep (bq.block T hB4.lt)
 have hR6:=hR3.keep (bq.block E hR3.lt)
 have hO6:=hO4.keep (fun b hb=>bq.block b (hS4.out b hb).2)
 have hS6:∀ b,S3 b → b ≠ T:=fun b hb=>(hS4.out b hb).1
 have bw6:=below_trans bw4 bq
 generalize w5.drewN nq = w6 at *
 clear y0 y1 y2 z0 z1 z2 k3 j3 hB4 hR3 hO4 bw4 bq
 obtain ⟨_,z0,z1,z2⟩:=id hR6
 obtain ⟨f0,f1,f2,y0,y1,y2⟩:=hB6.all
 have hTF:=TabAt.put hB6 hO6 hS6
 have sF:=(Save.of (T:=T) bw6).trans (save3 (w:=w6) (T:=T) (u:=.slice ga3 r2.2.groups.length gcap3) (v:=.slice (some ⟨B6,o6,none⟩) r2.2.nodes.length ncap3) (x:=.slice wa3 r2.2.wires.length wcap3)) (fun _ h _=>h)
 have hvF:=hv.save sF (fun b hb=>by omega)
 have hI:=Itoa_c hvF ((L2:Int) - L1) (by omega) (by omega)
 replace hTF:=Lib.hid hTF
 replace sF:=Lib.hid sF
 clear hO6 hS6 hB6 hR6 hvF hv bw6
 go_upto_region 6 with fail
 generalize ((w6.setCell ⟨T,0,none⟩ (.slice ga3 r2.2.groups.length gcap3)).setCell ⟨T,1,none⟩ (.slice (some ⟨B6,o6,none⟩) r2.2.nodes.length ncap3)).setCell ⟨T,2,none⟩ (.slice wa3 r2.2.wires.length wcap3) = w7 at *
 go_wp2_with fail
 refine hI.mono ?_
 clear hI
 rintro e w8 ⟨rfl,b8⟩
 go_wp2_with fail
 rw [← hP.out,hexx.out]
 exact ⟨sF.out.then (b8.mono sF.out.size),hTF.out.below b8,Or.inl ⟨rfl,rfl⟩⟩
set_option maxHeartbeats 2000000 in
theorem dheld_c {w:World} {T q o c:Nat} {X:Wd} {a:List UInt8} (hv:Vars w) (hT:TabAt w T X) (hRX:Right X) (hl:Strs w q o [a]) (ha:a.length ≤ 1000000) :
  Calls Tryz.prog 59 #[.pointer (some ⟨T,0,none⟩), .slice (some ⟨q,o,none⟩) 1 c] w (MPost w T (execB X (cmdH a))):=by
 have hN:=dnode_c hv hT a ha
 have hcm:cmdH a = match numB a with | some x=>Cmd.held x | _=>.bad:=rfl
 obtain ⟨ra,hra⟩:∃ r,numB a = r:=⟨_,rfl⟩
 rw [hra] at hN hcm
 rw [hcm]
 clear hra hcm
 obtain ⟨r,hr⟩:∃ r,execB X (match ra with | some x=>Cmd.held x | _=>Cmd.bad) = r:=⟨_,rfl⟩
 rw [hr]
 obtain ⟨P,hP⟩:∃ P,MPost w T r = P:=⟨_,rfl⟩
 rw [hP]
 replace hP:=Lib.hid hP
 replace hr:=Lib.hid hr
 have c0:w.cell? ⟨q,o,none⟩ = some (.string (strB a)):=hl.2 0 a rfl
 replace hT:=Lib.hid hT
 go_enter Tryz.func59,Tryz.ntmps59
 go_wp2_with fail
 refine hN.mono ?_
 clear hN c0
 rintro e w1 ⟨b1,⟨n,rfl,hn,rfl⟩ | ⟨n,rfl,hn,rfl⟩ | ⟨rfl,rfl⟩⟩
 rotate_left
 ·have e1:execB X (.held n) = (4,[],X):=if_neg hn
  have hr':=hr.out
  dsimp only at hr'
  rw [e1] at hr'
  replace hn:=Lib.hid hn
  clear e1
  go_wp2_with fail
  rw [← hP.out, ← hr']
  exact ⟨rfl,Save.of b1,hT.out.below b1,Or.inr ⟨by show (4:Int) ≠ 0;decide,rfl⟩⟩
 ·have hr':=hr.out
  go_wp2_with fail
  rw [← hP.out, ← hr']
  exact ⟨rfl,Save.of b1,hT.out.below b1,Or.inr ⟨by show (1:Int) ≠ 0;decide,rfl⟩⟩
 have e1:execB X (.held n) = (0,heldB X n,X):=if_pos hn
 have hr':=hr.out
 dsimp only at hr'
 rw [e1] at hr'
 clear e1 hr
 replace hr':=Lib.hid hr'
 have hv1:=hv.next b1
 obtain ⟨gv,nv,wv,S0,hB,hO,hS⟩:=hT.out.below b1
 have hW:=hO.world
 obtain ⟨pg,pn,pw⟩:=hO.parts
 obtain ⟨_,ga,gcap,rfl,_⟩:=pg.open
 obtain ⟨_,wa,wcap,rfl,_⟩:=pw.form
 obtain ⟨_,na9,ncap,rfl,_⟩:=pn.form
 obtain ⟨B4,o4,c4,lv,hv5,tv,hnv,hc1,k0,k1,k2,k3,hcl,hr4,hh4,ht4⟩:=pn.at hn
 cases hnv
 obtain ⟨_,hla,hlc,rfl,_⟩:=hh4.open
 obtain ⟨_,x0,x1,x2⟩:=id hB
 have hTl:=hB.lt
 have hb6:=bound_rng hRX hn
 have hl6:=node_lists hRX hn
 have hBl:=cell_lt k2
 dsimp only at hBl
 have hAt:=fun (o':World) (k:Below w1.heap.size w1 o')=>At_c (hW.below k) hn ((errX_fit hRX.err).tab hn)
 obtain ⟨hl,hhl⟩:∃ hl,(X.nodes.getD n N.zero).held.length = hl:=⟨_,rfl⟩
 obtain ⟨bd,hbd⟩:∃ bd,boundX X n = bd:=⟨_,rfl⟩
 have hhB:heldB X n = Lib.decDigits hl ++ 32 :: Lib.decDigits bd.toNat:=by
  unfold heldB
  rw [hhl,hbd]
 rw [hhB] at hr'
 rw [hhl] at k2 hl6
 rw [hbd] at hb6
 simp only [hbd] at hAt
 have hI1:=fun (o':World) (k:Below w1.heap.size w1 o')=>ItoaN_c (hv1.next k) hl (by omega)
 have hI2:=fun (o':World) (k:Below w1.heap.size w1 o')=>Itoa_c (hv1.next k) bd (by omega) (by omega)
 clear hhB hhl hbd k0 k1 k3 hcl hr4 hh4 ht4 hc1 pn hO hS hW
 have hSB:∀ o':World,Below w1.heap.size w1 o' → o'.cell? ⟨T,0,none⟩ = some (.slice ga X.groups.length gcap) ∧ o'.cell? ⟨T,1,none⟩ = some (.slice (some ⟨B4,o4,none⟩) X.nodes.length ncap) ∧ o'.cell? ⟨T,2,none⟩ = some (.slice wa X.wires.length wcap) ∧ o'.cell? ⟨B4,o4 + n * 4 + 2,none⟩ = some (.slice hla hl hlc):=fun o' k=>⟨(k.cell hTl).trans x0,(k.cell hTl).trans x1,(k.cell hTl).trans x2,(k.cell hBl).trans k2⟩
 clear x0 x1 x2 k2 hB
 replace hI1:=Lib.hid hI1
 replace hI2:=Lib.hid hI2
 replace hAt:=Lib.hid hAt
 have e4:n * 4 + 2 + o4 = o4 + n * 4 + 2:=by omega
 go_wp2_with fail
 go_upto_region 2 with fail
 refine wp_region_N (fun o'=>o'.cell? ⟨T,0,none⟩ = some (.slice ga X.groups.length gcap) ∧ o'.cell? ⟨T,1,none⟩ = some (.slice (some ⟨B4,o4,none⟩) X.nodes.length ncap) ∧ o'.cell? ⟨T,2,none⟩ = some (.slice wa X.wires.length wcap) ∧ o'.cell? ⟨B4,o4 + n * 4 + 2,none⟩ = some (.slice hla hl hlc)) 19 21 rfl (by kernel_rfl) (hSB _ (below_drewN w1 1)) (fun hSw=>?_)
 refine tk 0 ?_ rfl rfl (by kernel_rfl) (.inl ⟨by rfl, ?_⟩) hSw ?_
 rotate_left
 ·rintro w ⟨s0,s1,s2,s3⟩;go_simp;try with_reducible rfl
 simp only [tkp,tkz,tks]
 refine tk 1 ?_ rfl rfl (by kernel_rfl) (.inl ⟨by rfl, ?_⟩) hSw ?_
 rotate_left
 ·rintro w ⟨s0,s1,s2,s3⟩;go_simp;try with_reducible rfl
 simp only [tkp,tkz,tks]
 refine tk 2 ?_ rfl rfl (by kernel_rfl) (.inl ⟨by rfl, ?_⟩) hSw ?_
 rotate_left
 ·rintro w ⟨s0,s1,s2,s3⟩;go_simp;try with_reducible rfl
 simp only [tkp,tkz,tks]
 refine tk 3 ?_ rfl rfl (by kernel_rfl) (.inl ⟨by rfl, ?_⟩) hSw ?_
 rotate_left
 ·rintro w ⟨s0,s1,s2,s3⟩;go_simp;try with_reducible rfl
 simp only [tkp,tkz,tks]
 refine tk 4 ?_ rfl rfl (by kernel_rfl) (.inl ⟨by rfl, ?_⟩) hSw ?_
 rotate_left
 ·rintro w ⟨s0,s1,s2,s3⟩;go_simp;try with_reducible rfl
 simp only [tkp,tkz,tks]
 refine tk 5 ?_ rfl rfl (by kernel_rfl) (.inl ⟨by rfl, ?_⟩) hSw ?_
 rotate_left
 ·rintro w ⟨s0,s1,s2,s3⟩;go_simp;try with_reducible rfl
 simp only [tkp,tkz,tks]
 refine tk 6 ?_ rfl rfl (by kernel_rfl) (.inl ⟨by rfl, ?_⟩) hSw ?_
 rotate_left
 ·rintro w ⟨s0,s1,s2,s3⟩;go_simp;try with_reducible rfl
 simp only [tkp,tkz,tks]
 refine tk 7 ?_ rfl rfl (by kernel_rfl) (.inl ⟨by rfl, ?_⟩) hSw ?_
 rotate_left
 ·rintro w ⟨s0,s1,s2,s3⟩;go_simp;try with_reducible rfl
 simp only [tkp,tkz,tks]
 refine tk 8 ?_ rfl rfl (by kernel_rfl) (.inl ⟨by rfl, ?_⟩) hSw ?_
 rotate_left
 ·rintro w ⟨s0,s1,s2,s3⟩;go_simp;try with_reducible rfl
 simp only [tkp,tkz,tks]
 refine tk 9 ?_ rfl rfl (by kernel_rfl) (.inl ⟨by rfl, ?_⟩) hSw ?_
 rotate_left
 ·rintro w ⟨s0,s1,s2,s3⟩;go_simp;try with_reducible rfl
 simp only [tkp,tkz,tks]
 refine tk 12 ?_ rfl rfl (by kernel_rfl) (.inl ⟨by rfl, ?_⟩) hSw ?_
 rotate_left
 ·rintro w ⟨s0,s1,s2,s3⟩;go_simp;try with_reducible rfl
 simp only [tkp,tkz,tks]
 refine tk 13 ?_ rfl rfl (by kernel_rfl) (.inl ⟨by rfl, ?_⟩) hSw ?_
 rotate_left
 ·rintro w ⟨s0,s1,s2,s3⟩;go_simp;try with_reducible rfl
 simp only [tkp,tkz,tks]
 refine tk 14 ?_ rfl rfl (by kernel_rfl) (.inl ⟨by rfl, ?_⟩) hSw ?_
 rotate_left
 ·rintro w ⟨s0,s1,s2,s3⟩;go_simp;try with_reducible rfl
 simp only [tkp,tkz,tks]
 refine tk 15 ?_ rfl rfl (by kernel_rfl) (.inl ⟨by rfl, ?_⟩) hSw ?_
 rotate_left
 ·rintro w ⟨s0,s1,s2,s3⟩;go_simp;try with_reducible rfl
 simp only [tkp,tkz,tks]
 refine tk 16 ?_ rfl rfl (by kernel_rfl) (.inl ⟨by rfl, ?_⟩) hSw ?_
 rotate_left
 ·rintro w ⟨s0,s1,s2,s3⟩;go_simp;try with_reducible rfl
 simp only [tkp,tkz,tks]
 refine N_one' (i:=10) (by kernel_rfl) rfl ?_
 go_wp2_with fail
 refine (hI1.out _ (below_drewN w1 1)).mono ?_
 rintro e w2 ⟨rfl,b2⟩
 have bw2:=below_trans (below_drewN w1 1) b2
 go_wp2_with fail
 refine QK_normal ⟨fun _=>hSB _ bw2, ?_⟩
 replace hSw:=hSB _ bw2
 have hz1:¬ 9223372036854775807 < (strB (Lib.decDigits hl)).size + 1:=by rw [strB_size];have:=dec_len hl;omega
 have hi:Lib.itoa bd = Lib.decDigits bd.toNat:=by rw [Lib.itoa,if_neg (by omega)]
 simp only [hi] at hI2
 clear hi
 have hz2:¬ 9223372036854775807 < (strB (Lib.decDigits hl)).size + 1 + (strB (Lib.decDigits bd.toNat)).size:=by
  rw [strB_size,strB_size];have:=dec_len hl;have:=dec_len bd.toNat;omega
 refine tk 11 ?_ rfl rfl (by kernel_rfl) (.inl ⟨by rfl, ?_⟩) hSw ?_
 rotate_left
 ·rintro w ⟨s0,s1,s2,s3⟩;go_simp;try with_reducible rfl
 simp only [tkp,tkz,tks]
 refine N_one' (i:=17) (by kernel_rfl) rfl ?_
 go_wp2_with fail
 refine (hAt.out _ bw2).mono ?_
 rintro e w3 ⟨rfl,b3⟩
 have bw3:=below_trans bw2 b3
 go_wp2_with fail
 refine QK_normal ⟨fun _=>hSB _ bw3, ?_⟩
 refine N_one' (i:=18) (by kernel_rfl) rfl ?_
 go_wp2_with fail
 refine (hI2.out _ bw3).mono ?_
 rintro e w4 ⟨rfl,b4⟩
 have bw4:=below_trans bw3 b4
 go_wp2_with fail
 refine QK_normal ⟨fun _=>hSB _ bw4, ?_⟩
 refine N_rest 19 2 (Nat.le_refl _) rfl (by kernel_rfl) ?_
 simp only [List.drop_succ_cons,List.drop_zero]
 go_wp2_with fail
 rw [← hP.out, ← hr'.out]
 refine ⟨Save.of (below_trans b1 bw4),hT.out.below (below_trans b1 bw4),Or.inl ⟨rfl, ?_⟩⟩
 show Ending.returned (.string (strB (Lib.decDigits hl) ++ strB [32] ++ strB (Lib.decDigits bd.toNat))) = _
 rw [strB_app,strB_app,List.append_assoc]
 rfl
end Go.Proofs.YtnalakhelicjcaaGreatDoor
