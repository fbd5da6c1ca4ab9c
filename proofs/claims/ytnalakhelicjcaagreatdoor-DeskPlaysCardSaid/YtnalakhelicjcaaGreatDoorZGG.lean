/-
  What the table's methods do: to send.
-/
import Derived.Test.YtnalakhelicjcaaGreatDoorZGF
import Derived.Test.YtnalakhelicjcaaGreatDoorZGB
import Derived.Test.YtnalakhelicjcaaGreatDoorZKR
import Derived.Test.YtnalakhelicjcaaGreatDoorZKV
import Derived.Test.YtnalakhelicjcaaGreatDoorZKCb
set_option maxRecDepth 100000
namespace Go.Proofs.YtnalakhelicjcaaGreatDoor
open Go.RowKit Go.Shelf Go.BigFrame Go.Deep
set_option maxHeartbeats 2000000 in
theorem dsend_c {w:World} {T q o c:Nat} {X:Wd} {a b body:List UInt8} (hv:Vars w) (hT8:8 ≤ T) (hT:TabAt w T X) (hl:Strs w q o [a,b,body]) (ha:a.length ≤ 1000000) (hb:b.length ≤ 1000000) (hc:body.length ≤ 1000000) :
  Calls Tryz.prog 55 #[.pointer (some ⟨T,0,none⟩), .slice (some ⟨q,o,none⟩) 3 c] w (MPost w T (execB X (cmdS a b body))):=by
 have hNa:=dnum_c (hv.below (below_drewN w 1) hv.lt) a ha
 have hNb:=fun (o:World) (k:Below w.heap.size w o)=>dnum_c (hv.next k) b hb
 have hcm:cmdS a b body = match numB a,numB b with | some x,some y=>.send x y body | _,_=>.bad:=rfl
 obtain ⟨ra,hra⟩:∃ r,numB a = r:=⟨_,rfl⟩
 obtain ⟨rb,hrb⟩:∃ r,numB b = r:=⟨_,rfl⟩
 rw [hra] at hNa hcm
 rw [hrb] at hcm
 simp only [hrb] at hNb
 rw [hcm]
 have hn6a:∀ n,ra = some n → n < 1000000:=fun n h=>numB_lt (hra.trans h)
 have hn6b:∀ n,rb = some n → n < 1000000:=fun n h=>numB_lt (hrb.trans h)
 clear hra hrb hcm
 replace hn6a:=Lib.hid hn6a
 replace hn6b:=Lib.hid hn6b
 obtain ⟨r,hr⟩:∃ r,execB X (match ra,rb with | some x,some y=>Cmd.send x y body | _,_=>Cmd.bad) = r:=⟨_,rfl⟩
 rw [hr]
 obtain ⟨P,hP⟩:∃ P,MPost w T r = P:=⟨_,rfl⟩
 rw [hP]
 replace hP:=Lib.hid hP
 replace hr:=Lib.hid hr
 have c0:w.cell? ⟨q,o,none⟩ = some (.string (strB a)):=hl.2 0 a rfl
 have c1:=hl.2 1 b rfl
 have c2:=hl.2 2 body rfl
 have hql:=hl.1
 replace hT:=Lib.hid hT
 replace hNb:=Lib.hid hNb
 go_enter Tryz.func55,Tryz.ntmps55
 have hSB:∀ o':World,Below w.heap.size w o' → o'.cell? ⟨q,o,none⟩ = some (.string (strB a)) ∧ o'.cell? ⟨q,o + 1,none⟩ = some (.string (strB b)):=fun o' k=>⟨(k.cell hql).trans c0,(k.cell hql).trans c1⟩
 go_upto_region 1 with fail
 refine wp_region_N (fun w'=>w'.cell? ⟨q,o,none⟩ = some (.string (strB a)) ∧ w'.cell? ⟨q,o + 1,none⟩ = some (.string (strB b))) 7 10 rfl (by kernel_rfl) (hSB _ (below_drewN w 1)) (fun hSw=>?_)
 refine tk 0 ?_ rfl rfl (by kernel_rfl) (.inl ⟨by rfl, ?_⟩) hSw ?_
 rotate_left
 ·rintro w ⟨s0,s1⟩;go_simp;try with_reducible rfl
 simp only [tkp,tkz,tks]
 refine tk 1 ?_ rfl rfl (by kernel_rfl) (.inl ⟨by rfl, ?_⟩) hSw ?_
 rotate_left
 ·rintro w ⟨s0,s1⟩;go_simp;try with_reducible rfl
 simp only [tkp,tkz,tks]
 refine tk 2 ?_ rfl rfl (by kernel_rfl) (.inl ⟨by rfl, ?_⟩) hSw ?_
 rotate_left
 ·rintro w ⟨s0,s1⟩;go_simp;try with_reducible rfl
 simp only [tkp,tkz,tks]
 refine tk 4 ?_ rfl rfl (by kernel_rfl) (.inl ⟨by rfl, ?_⟩) hSw ?_
 rotate_left
 ·rintro w ⟨s0,s1⟩;go_simp;try with_reducible rfl
 simp only [tkp,tkz,tks]
 refine tk 5 ?_ rfl rfl (by kernel_rfl) (.inl ⟨by rfl, ?_⟩) hSw ?_
 rotate_left
 ·rintro w ⟨s0,s1⟩;go_simp;try with_reducible rfl
 simp only [tkp,tkz,tks]
 refine tk 6 ?_ rfl rfl (by kernel_rfl) (.inl ⟨by rfl, ?_⟩) hSw ?_
 rotate_left
 ·rintro w ⟨s0,s1⟩;go_simp;try with_reducible rfl
 simp only [tkp,tkz,tks]
 refine N_one' (i:=3) (by kernel_rfl) rfl ?_
 go_wp2_with fail
 refine hNa.mono ?_
 clear hNa
 rintro e w1 ⟨b1,⟨na,rfl,rfl⟩ | ⟨rfl,rfl⟩⟩
 rotate_left
 ·have hr':=hr.out
  go_wp2_with fail
  rw [← hP.out, ← hr']
  refine ⟨rfl,Save.of (below_trans (below_drewN w 1) b1),hT.out.below (below_trans (below_drewN w 1) b1),Or.inr ⟨by show (1:Int) ≠ 0;decide,rfl⟩⟩
 have b1:=below_trans (below_drewN w 1) b1
 have hC:=hNb.out w1 b1
 go_wp2_with fail
 refine QK_normal ⟨?_, ?_⟩
 ·first | exact fun _=>hSB _ b1 | exact hSB _ b1
 refine N_rest 7 3 (Nat.le_refl _) rfl (by kernel_rfl) ?_
 simp only [List.drop_succ_cons,List.drop_zero]
 clear hSw hSB
 go_wp2_with fail
 refine hC.mono ?_
 clear hC
 rintro e w2 ⟨b12,⟨nb,rfl,rfl⟩ | ⟨rfl,rfl⟩⟩
 rotate_left
 ·have hr':=hr.out
  go_wp2_with fail
  rw [← hP.out, ← hr']
  refine ⟨rfl,Save.of (below_trans b1 b12),hT.out.below (below_trans b1 b12),Or.inr ⟨by show (1:Int) ≠ 0;decide,rfl⟩⟩
 have b2:=below_trans b1 b12
 clear b1 b12 hNb
 dsimp only at hr
 have hna6:=hn6a.out na rfl
 have hnb6:=hn6b.out nb rfl
 obtain ⟨gv,nv,wv,S0,hB,hO,hS⟩:=hT.out.below b2
 have hW:=hO.world
 obtain ⟨pg,pn,pw⟩:=hO.parts
 obtain ⟨_,ga,gcap,rfl,_⟩:=pg.open
 obtain ⟨_,na9,ncap,rfl,_⟩:=pn.form
 obtain ⟨_,wa,wcap,rfl,_⟩:=pw.form
 clear pg pn pw
 obtain ⟨_,x0,x1,x2⟩:=id hB
 have hTl:=hB.lt
 have c22:=(b2.cell hql).trans c2
 have hql2:q < w2.heap.size:=Nat.lt_of_lt_of_le hql b2.size
 have hSd:=Send_c (hW.below (below_drewN w2 1)) na nb (strB body) (by unfold I64;omega) (by unfold I64;omega) (by rw [strB_size];omega)
 have hfin:=fun h=>@castF_fine X na nb false (strB body) (by simp) h
 have hex:(castF X na nb false (strB body)).1 = 0 → execB X (.send na nb body) = (0,clockB (castF X na nb false (strB body)) na,(castF X na nb false (strB body)).2):=fun h=>if_pos h
 have hex2:(castF X na nb false (strB body)).1 ≠ 0 → execB X (.send na nb body) = ((castF X na nb false (strB body)).1,[],X):=fun h=>if_neg h
 rw [hr.out] at hex hex2
 obtain ⟨r2,hr2⟩:∃ r,castF X na nb false (strB body) = r:=⟨_,rfl⟩
 rw [hr2] at hSd hex hex2
 simp only [hr2] at hfin
 clear hr2 hr
 replace hfin:=Lib.hid hfin
 replace hex:=Lib.hid hex
 replace hex2:=Lib.hid hex2
 have hSB:∀ o':World,Below w2.heap.size w2 o' → o'.cell? ⟨T,0,none⟩ = some (.slice ga X.groups.length gcap) ∧ o'.cell? ⟨T,1,none⟩ = some (.slice na9 X.nodes.length ncap) ∧ o'.cell? ⟨T,2,none⟩ = some (.slice wa X.wires.length wcap) ∧ o'.cell? ⟨q,o + 2,none⟩ = some (.string (strB body)):=fun o' k=>⟨(k.cell hTl).trans x0,(k.cell hTl).trans x1,(k.cell hTl).trans x2,(k.cell hql2).trans c22⟩
 go_upto_region 2 with fail
 refine wp_region_N (fun o'=>o'.cell? ⟨T,0,none⟩ = some (.slice ga X.groups.length gcap) ∧ o'.cell? ⟨T,1,none⟩ = some (.slice na9 X.nodes.length ncap) ∧ o'.cell? ⟨T,2,none⟩ = some (.slice wa X.wires.length wcap) ∧ o'.cell? ⟨q,o + 2,none⟩ = some (.string (strB body))) 13 14 rfl (by kernel_rfl) (hSB _ (below_drewN w2 1)) (fun hSw=>?_)
 refine tk 0 ?_ rfl rfl (by kernel_rfl) (.inl ⟨by rfl, ?_⟩) hSw ?_
 rotate_left
 ·rintro w ⟨s0,s1,s2,s3⟩;go_simp;try with_reducible rfl
 simp only [tkp,tkz,tks]
 refine tk 1 ?_ rfl rfl (by kernel_rfl) (.inl ⟨by rfl, ?_⟩) hSw ?_
 rotate_left
 ·rintro w ⟨s0,s1,s2,s3⟩;go_simp;try with_reducible rfl
 simp only [tkp,tkz,tks]
 refine tk 2 ?_ rfl rfl (by kernel_rfl) (.inl ⟨by rfl, ?_⟩) hSw ?_
 rotate_left
 ·rintro w ⟨s0,s1,s2,s3⟩;go_simp;try with_reducible rfl
 simp only [tkp,tkz,tks]
 refine tk 3 ?_ rfl rfl (by kernel_rfl) (.inl ⟨by rfl, ?_⟩) hSw ?_
 rotate_left
 ·rintro w ⟨s0,s1,s2,s3⟩;go_simp;try with_reducible rfl
 simp only [tkp,tkz,tks]
 refine tk 4 ?_ rfl rfl (by kernel_rfl) (.inl ⟨by rfl, ?_⟩) hSw ?_
 rotate_left
 ·rintro w ⟨s0,s1,s2,s3⟩;go_simp;try with_reducible rfl
 simp only [tkp,tkz,tks]
 refine tk 5 ?_ rfl rfl (by kernel_rfl) (.inl ⟨by rfl, ?_⟩) hSw ?_
 rotate_left
 ·rintro w ⟨s0,s1,s2,s3⟩;go_simp;try with_reducible rfl
 simp only [tkp,tkz,tks]
 refine tk 6 ?_ rfl rfl (by kernel_rfl) (.inl ⟨by rfl, ?_⟩) hSw ?_
 rotate_left
 ·rintro w ⟨s0,s1,s2,s3⟩;go_simp;try with_reducible rfl
 simp only [tkp,tkz,tks]
 refine tk 7 ?_ rfl rfl (by kernel_rfl) (.inl ⟨by rfl, ?_⟩) hSw ?_
 rotate_left
 ·rintro w ⟨s0,s1,s2,s3⟩;go_simp;try with_reducible rfl
 simp only [tkp,tkz,tks]
 refine tk 8 ?_ rfl rfl (by kernel_rfl) (.inl ⟨by rfl, ?_⟩) hSw ?_
 rotate_left
 ·rintro w ⟨s0,s1,s2,s3⟩;go_simp;try with_reducible rfl
 simp only [tkp,tkz,tks]
 refine tk 9 ?_ rfl rfl (by kernel_rfl) (.inl ⟨by rfl, ?_⟩) hSw ?_
 rotate_left
 ·rintro w ⟨s0,s1,s2,s3⟩;go_simp;try with_reducible rfl
 simp only [tkp,tkz,tks]
 refine N_one' (i:=10) (by kernel_rfl) rfl ?_
 go_wp2_with fail
 refine hSd.mono ?_
 clear hSd
 rintro e w3 ⟨gv3,nv3,wv3,S3,rfl,hO3,hS3,b3⟩
 have b3:=below_trans (below_drewN w2 1) b3
 go_wp2_with fail
 refine QK_normal ⟨?_, ?_⟩
 ·first | exact fun _=>hSB _ b3 | exact hSB _ b3
 have hSw:=hSB _ b3
 refine tk 11 ?_ rfl rfl (by kernel_rfl) (.inl ⟨by rfl, ?_⟩) hSw ?_
 rotate_left
 ·rintro w ⟨s0,s1,s2,s3⟩;go_simp;try with_reducible rfl
 simp only [tkp,tkz,tks]
 refine tk 12 ?_ rfl rfl (by kernel_rfl) (.inl ⟨by rfl, ?_⟩) hSw ?_
 rotate_left
 ·rintro w ⟨s0,s1,s2,s3⟩;go_simp;try with_reducible rfl
 simp only [tkp,tkz,tks]
 refine N_rest 13 1 (Nat.le_refl _) rfl (by kernel_rfl) ?_
 simp only [List.drop_succ_cons,List.drop_zero]
 clear hSB hSw x0 x1 x2 hB hO hS hW
 have bw3:=below_trans b2 b3
 have hTn:=dturn_c (e:=r2.1) (hT.out.below bw3) hO3 (fun b hb=>⟨by have:=(hS3 b hb).1;have:=hTl;show b ≠ T;have h9:=(below_drewN w2 1).size;omega,(hS3 b hb).2⟩)
 clear hO3 hS3
 go_wp2_with fail
 refine hTn.mono ?_
 clear hTn
 rintro e w4 ⟨s4,⟨h0,rfl,hT4⟩ | ⟨h0,rfl,hT4⟩⟩
 rotate_left
 ·have h0':=Lib.hid h0
  clear h0
  go_wp2_with fail
  rw [← hP.out,hex2.out h0'.out]
  exact ⟨rfl,(Save.of bw3).trans s4 (fun _ h _=>h),hT4,Or.inr ⟨h0'.out,rfl⟩⟩
 have sF:=(Save.of (T:=T) bw3).trans s4 (fun _ h _=>h)
 have hv4:=(hv.below bw3 hv.lt).save s4 (fun b hb=>by omega)
 obtain ⟨hnl,hRt,hlen⟩:=hfin.out h0
 obtain ⟨g4,n4,v4,S4,hB4,hO4,hS4⟩:=id hT4
 have hN4:=hO4.parts.2.1
 obtain ⟨_,na4,nc4,hnv4,_⟩:=hN4.form
 obtain ⟨B4,o4,c4,lv,hv5,tv,hnv,hc1,k0,k1,k2,k3,hcl,hr4,hh4,ht4⟩:=hN4.at (n:=na) (by omega)
 obtain ⟨_,y0,y1,y2⟩:=id hB4
 subst hnv
 have hck:=node_clock hRt (n:=na) (by omega)
 have hI:=Itoa_c hv4 (r2.2.nodes.getD na N.zero).clock (by omega) (by omega)
 have hcB:clockB r2 na = Lib.itoa (r2.2.nodes.getD na N.zero).clock:=by
  unfold clockB Lib.itoa
  rw [if_neg (by omega)]
 obtain ⟨ck,hcke⟩:∃ ck,(r2.2.nodes.getD na N.zero).clock = ck:=⟨_,rfl⟩
 rw [hcke] at k0 hI hcB
 have hnn:na < r2.2.nodes.length:=by omega
 have hexx:=hex.out h0
 rw [hcB] at hexx
 replace hexx:=Lib.hid hexx
 clear hcke hck hO4 hS4 hN4 hr4 hh4 ht4 hRt hlen hnl hcB k1 k2 k3
 replace h0:=Lib.hid h0
 replace hB4:=Lib.hid hB4
 go_wp2_with fail
 refine hI.mono ?_
 clear hI
 rintro e w5 ⟨rfl,b5⟩
 go_wp2_with fail
 rw [← hP.out,hexx.out]
 exact ⟨sF.then (b5.mono sF.size),hT4.below b5,Or.inl ⟨rfl,rfl⟩⟩
end Go.Proofs.YtnalakhelicjcaaGreatDoor
set_option maxRecDepth 100000
namespace Go.Proofs.YtnalakhelicjcaaGreatDoor
open Go.RowKit Go.Shelf Go.BigFrame Go.Deep
set_option maxHeartbeats 2000000 in
theorem dnull_c {w:World} {T q o c:Nat} {X:Wd} {a b:List UInt8} (hv:Vars w) (hT8:8 ≤ T) (hT:TabAt w T X) (hl:Strs w q o [a,b]) (ha:a.length ≤ 1000000) (hb:b.length ≤ 1000000) :
  Calls Tryz.prog 56 #[.pointer (some ⟨T,0,none⟩), .slice (some ⟨q,o,none⟩) 2 c] w (MPost w T (execB X (cmdN a b))):=by
 have hNa:=dnum_c (hv.below (below_drewN w 1) hv.lt) a ha
 have hNb:=fun (o:World) (k:Below w.heap.size w o)=>dnum_c (hv.next k) b hb
 have hcm:cmdN a b = match numB a,numB b with | some x,some y=>Cmd.null x y | _,_=>.bad:=rfl
 obtain ⟨ra,hra⟩:∃ r,numB a = r:=⟨_,rfl⟩
 obtain ⟨rb,hrb⟩:∃ r,numB b = r:=⟨_,rfl⟩
 rw [hra] at hNa hcm
 rw [hrb] at hcm
 simp only [hrb] at hNb
 rw [hcm]
 have hn6a:∀ n,ra = some n → n < 1000000:=fun n h=>numB_lt (hra.trans h)
 have hn6b:∀ n,rb = some n → n < 1000000:=fun n h=>numB_lt (hrb.trans h)
 clear hra hrb hcm
 replace hn6a:=Lib.hid hn6a
 replace hn6b:=Lib.hid hn6b
 obtain ⟨r,hr⟩:∃ r,execB X (match ra,rb with | some x,some y=>Cmd.null x y | _,_=>Cmd.bad) = r:=⟨_,rfl⟩
 rw [hr]
 obtain ⟨P,hP⟩:∃ P,MPost w T r = P:=⟨_,rfl⟩
 rw [hP]
 replace hP:=Lib.hid hP
 replace hr:=Lib.hid hr
 have c0:w.cell? ⟨q,o,none⟩ = some (.string (strB a)):=hl.2 0 a rfl
 have c1:=hl.2 1 b rfl
 have hql:=hl.1
 replace hT:=Lib.hid hT
 replace hNb:=Lib.hid hNb
 go_enter Tryz.func56,Tryz.ntmps56
 have hSB:∀ o':World,Below w.heap.size w o' → o'.cell? ⟨q,o,none⟩ = some (.string (strB a)) ∧ o'.cell? ⟨q,o + 1,none⟩ = some (.string (strB b)):=fun o' k=>⟨(k.cell hql).trans c0,(k.cell hql).trans c1⟩
 go_upto_region 1 with fail
 refine wp_region_N (fun w'=>w'.cell? ⟨q,o,none⟩ = some (.string (strB a)) ∧ w'.cell? ⟨q,o + 1,none⟩ = some (.string (strB b))) 7 10 rfl (by kernel_rfl) (hSB _ (below_drewN w 1)) (fun hSw=>?_)
 refine tk 0 ?_ rfl rfl (by kernel_rfl) (.inl ⟨by rfl, ?_⟩) hSw ?_
 rotate_left
 ·rintro w ⟨s0,s1⟩;go_simp;try with_reducible rfl
 simp only [tkp,tkz,tks]
 refine tk 1 ?_ rfl rfl (by kernel_rfl) (.inl ⟨by rfl, ?_⟩) hSw ?_
 rotate_left
 ·rintro w ⟨s0,s1⟩;go_simp;try with_reducible rfl
 simp only [tkp,tkz,tks]
 refine tk 2 ?_ rfl rfl (by kernel_rfl) (.inl ⟨by rfl, ?_⟩) hSw ?_
 rotate_left
 ·rintro w ⟨s0,s1⟩;go_simp;try with_reducible rfl
 simp only [tkp,tkz,tks]
 refine tk 4 ?_ rfl rfl (by kernel_rfl) (.inl ⟨by rfl, ?_⟩) hSw ?_
 rotate_left
 ·rintro w ⟨s0,s1⟩;go_simp;try with_reducible rfl
 simp only [tkp,tkz,tks]
 refine tk 5 ?_ rfl rfl (by kernel_rfl) (.inl ⟨by rfl, ?_⟩) hSw ?_
 rotate_left
 ·rintro w ⟨s0,s1⟩;go_simp;try with_reducible rfl
 simp only [tkp,tkz,tks]
 refine tk 6 ?_ rfl rfl (by kernel_rfl) (.inl ⟨by rfl, ?_⟩) hSw ?_
 rotate_left
 ·rintro w ⟨s0,s1⟩;go_simp;try with_reducible rfl
 simp only [tkp,tkz,tks]
 refine N_one' (i:=3) (by kernel_rfl) rfl ?_
 go_wp2_with fail
 refine hNa.mono ?_
 clear hNa
 rintro e w1 ⟨b1,⟨na,rfl,rfl⟩ | ⟨rfl,rfl⟩⟩
 rotate_left
 ·have hr':=hr.out
  go_wp2_with fail
  rw [← hP.out, ← hr']
  refine ⟨rfl,Save.of (below_trans (below_drewN w 1) b1),hT.out.below (below_trans (below_drewN w 1) b1),Or.inr ⟨by show (1:Int) ≠ 0;decide,rfl⟩⟩
 have b1:=below_trans (below_drewN w 1) b1
 have hC:=hNb.out w1 b1
 go_wp2_with fail
 refine QK_normal ⟨?_, ?_⟩
 ·first | exact fun _=>hSB _ b1 | exact hSB _ b1
 refine N_rest 7 3 (Nat.le_refl _) rfl (by kernel_rfl) ?_
 simp only [List.drop_succ_cons,List.drop_zero]
 clear hSw hSB
 go_wp2_with fail
 refine hC.mono ?_
 clear hC
 rintro e w2 ⟨b12,⟨nb,rfl,rfl⟩ | ⟨rfl,rfl⟩⟩
 rotate_left
 ·have hr':=hr.out
  go_wp2_with fail
  rw [← hP.out, ← hr']
  refine ⟨rfl,Save.of (below_trans b1 b12),hT.out.below (below_trans b1 b12),Or.inr ⟨by show (1:Int) ≠ 0;decide,rfl⟩⟩
 have b2:=below_trans b1 b12
 clear b1 b12 hNb
 dsimp only at hr
 have hna6:=hn6a.out na rfl
 have hnb6:=hn6b.out nb rfl
 obtain ⟨gv,nv,wv,S0,hB,hO,hS⟩:=hT.out.below b2
 have hW:=hO.world
 obtain ⟨pg,pn,pw⟩:=hO.parts
 obtain ⟨_,ga,gcap,rfl,_⟩:=pg.open
 obtain ⟨_,na9,ncap,rfl,_⟩:=pn.form
 obtain ⟨_,wa,wcap,rfl,_⟩:=pw.form
 clear pg pn pw
 obtain ⟨_,x0,x1,x2⟩:=id hB
 have hTl:=hB.lt
 have hSd:=Null_c hW na nb (by unfold I64;omega) (by unfold I64;omega)
 have hfin:=fun h=>@castF_fine X na nb true ByteArray.empty (fun _=>rfl) h
 have hex:(castF X na nb true ByteArray.empty).1 = 0 → execB X (.null na nb) = (0,clockB (castF X na nb true ByteArray.empty) na,(castF X na nb true ByteArray.empty).2):=fun h=>if_pos h
 have hex2:(castF X na nb true ByteArray.empty).1 ≠ 0 → execB X (.null na nb) = ((castF X na nb true ByteArray.empty).1,[],X):=fun h=>if_neg h
 rw [hr.out] at hex hex2
 obtain ⟨r2,hr2⟩:∃ r,castF X na nb true ByteArray.empty = r:=⟨_,rfl⟩
 rw [hr2] at hSd hex hex2
 simp only [hr2] at hfin
 clear hr2 hr
 replace hfin:=Lib.hid hfin
 replace hex:=Lib.hid hex
 replace hex2:=Lib.hid hex2
 go_wp2_with fail
 refine hSd.mono ?_
 clear hSd
 rintro e w3 ⟨gv3,nv3,wv3,S3,rfl,hO3,hS3,b3⟩
 clear x0 x1 x2 hB hO hS hW
 have bw3:=below_trans b2 b3
 have hTn:=dturn_c (e:=r2.1) (hT.out.below bw3) hO3 (fun b hb=>⟨by have:=(hS3 b hb).1;have:=hTl;show b ≠ T;have h9:=(below_drewN w2 1).size;omega,(hS3 b hb).2⟩)
 clear hO3 hS3
 go_wp2_with fail
 refine hTn.mono ?_
 clear hTn
 rintro e w4 ⟨s4,⟨h0,rfl,hT4⟩ | ⟨h0,rfl,hT4⟩⟩
 rotate_left
 ·have h0':=Lib.hid h0
  clear h0
  go_wp2_with fail
  rw [← hP.out,hex2.out h0'.out]
  exact ⟨rfl,(Save.of bw3).trans s4 (fun _ h _=>h),hT4,Or.inr ⟨h0'.out,rfl⟩⟩
 have sF:=(Save.of (T:=T) bw3).trans s4 (fun _ h _=>h)
 have hv4:=(hv.below bw3 hv.lt).save s4 (fun b hb=>by omega)
 obtain ⟨hnl,hRt,hlen⟩:=hfin.out h0
 obtain ⟨g4,n4,v4,S4,hB4,hO4,hS4⟩:=id hT4
 have hN4:=hO4.parts.2.1
 obtain ⟨_,na4,nc4,hnv4,_⟩:=hN4.form
 obtain ⟨B4,o4,c4,lv,hv5,tv,hnv,hc1,k0,k1,k2,k3,hcl,hr4,hh4,ht4⟩:=hN4.at (n:=na) (by omega)
 obtain ⟨_,y0,y1,y2⟩:=id hB4
 subst hnv
 have hck:=node_clock hRt (n:=na) (by omega)
 have hI:=Itoa_c hv4 (r2.2.nodes.getD na N.zero).clock (by omega) (by omega)
 have hcB:clockB r2 na = Lib.itoa (r2.2.nodes.getD na N.zero).clock:=by
  unfold clockB Lib.itoa
  rw [if_neg (by omega)]
 obtain ⟨ck,hcke⟩:∃ ck,(r2.2.nodes.getD na N.zero).clock = ck:=⟨_,rfl⟩
 rw [hcke] at k0 hI hcB
 have hnn:na < r2.2.nodes.length:=by omega
 have hexx:=hex.out h0
 rw [hcB] at hexx
 replace hexx:=Lib.hid hexx
 clear hcke hck hO4 hS4 hN4 hr4 hh4 ht4 hRt hlen hnl hcB k1 k2 k3
 replace h0:=Lib.hid h0
 replace hB4:=Lib.hid hB4
 go_wp2_with fail
 refine hI.mono ?_
 clear hI
 rintro e w5 ⟨rfl,b5⟩
 go_wp2_with fail
 rw [← hP.out,hexx.out]
 exact ⟨sF.then (b5.mono sF.size),hT4.below b5,Or.inl ⟨rfl,rfl⟩⟩
set_option maxHeartbeats 2000000 in
theorem dcalm_c {w:World} {T:Nat} {X:Wd} {v:Value} (hv:Vars w) (hT8:8 ≤ T) (hT:TabAt w T X) :
  Calls Tryz.prog 60 #[.pointer (some ⟨T,0,none⟩),v] w (MPost w T (execB X .calm)):=by
 obtain ⟨r,hr⟩:∃ r,execB X .calm = r:=⟨_,rfl⟩
 rw [hr]
 obtain ⟨P,hP⟩:∃ P,MPost w T r = P:=⟨_,rfl⟩
 rw [hP]
 replace hP:=Lib.hid hP
 replace hT:=Lib.hid hT
 obtain ⟨gv,nv,wv,S0,hB,hO,hS⟩:=hT.out.below (Below.refl w.heap.size w)
 have hW:=hO.world
 obtain ⟨pg,pn,pw⟩:=hO.parts
 obtain ⟨_,ga,gcap,rfl,_⟩:=pg.open
 obtain ⟨_,na9,ncap,rfl,_⟩:=pn.form
 obtain ⟨_,wa,wcap,rfl,_⟩:=pw.form
 clear pg pn pw
 obtain ⟨_,x0,x1,x2⟩:=id hB
 have hTl:=hB.lt
 have hSd:=Calm_c hW
 have hex:(calmF X).1 = 0 → execB X .calm = (0,[111,107],(calmF X).2):=fun h=>if_pos h
 have hex2:(calmF X).1 ≠ 0 → execB X .calm = ((calmF X).1,[],X):=fun h=>if_neg h
 rw [hr] at hex hex2
 obtain ⟨r2,hr2⟩:∃ r,calmF X = r:=⟨_,rfl⟩
 rw [hr2] at hSd hex hex2
 clear hr2 hr
 replace hex:=Lib.hid hex
 replace hex2:=Lib.hid hex2
 obtain ⟨w2,rfl⟩:∃ w2:World,w2 = w:=⟨_,rfl⟩
 have b2:=Below.refl w2.heap.size w2
 go_enter Tryz.func60,Tryz.ntmps60
 go_wp2_with fail
 refine hSd.mono ?_
 clear hSd
 rintro e w3 ⟨gv3,nv3,wv3,S3,rfl,hO3,hS3,b3⟩
 clear x0 x1 x2 hB hO hS hW
 have bw3:=below_trans b2 b3
 have hTn:=dturn_c (e:=r2.1) (hT.out.below bw3) hO3 (fun b hb=>⟨by have:=(hS3 b hb).1;have:=hTl;show b ≠ T;have h9:=(below_drewN w2 1).size;omega,(hS3 b hb).2⟩)
 clear hO3 hS3
 go_wp2_with fail
 refine hTn.mono ?_
 clear hTn
 rintro e w4 ⟨s4,⟨h0,rfl,hT4⟩ | ⟨h0,rfl,hT4⟩⟩
 rotate_left
 ·have h0':=Lib.hid h0
  clear h0
  go_wp2_with fail
  rw [← hP.out,hex2.out h0'.out]
  exact ⟨rfl,(Save.of bw3).trans s4 (fun _ h _=>h),hT4,Or.inr ⟨h0'.out,rfl⟩⟩
 have sF:=(Save.of (T:=T) bw3).trans s4 (fun _ h _=>h)
 have hv4:=(hv.below bw3 hv.lt).save s4 (fun b hb=>by omega)
 replace h0:=Lib.hid h0
 go_wp2_with fail
 rw [← hP.out,hex.out h0.out]
 exact ⟨sF,hT4,Or.inl ⟨rfl,rfl⟩⟩
end Go.Proofs.YtnalakhelicjcaaGreatDoor
