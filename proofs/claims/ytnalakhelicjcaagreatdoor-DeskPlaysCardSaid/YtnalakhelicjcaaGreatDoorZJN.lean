/-
  The program's judge of worlds: a node.
-/
import Derived.Test.YtnalakhelicjcaaGreatDoorZKJ
import Derived.Test.YtnalakhelicjcaaGreatDoorZKW
set_option maxRecDepth 100000
namespace Go.Proofs.YtnalakhelicjcaaGreatDoor
open Go.RowKit Go.Shelf Go.BigFrame
def listOkJ (X:Wd) (n:Nat) (ms:List M):Bool:=risesB ms && noNullB ms && ms.all (fineRm X.nodes.length X.groups n)
def nodeJB (X:Wd) (n:Nat) (x:N):Bool:=inB x.clock 0 1048576 && lastFineB X n x.last && listOkJ X n x.held && listOkJ X n x.told
def nodeJ (X:Wd) (n:Nat):Int:=if nodeJB X n (X.nodes.getD n N.zero) = true then 0 else 1
theorem lastFineB_bad {X:Wd} {n:Nat} {l:List (List Int)} {g:Nat} (hg:g < l.length) (h:rowFineB X n g (l.getD g []) = false):lastFineB X n l = false:=by
 unfold lastFineB
 rw [range_all_f (p:=fun g=>rowFineB X n g (l.getD g [])) hg h,Bool.and_false]
theorem rowFineB_bad {X:Wd} {n g:Nat} {r:List Int} {k:Nat} (hk:k < r.length) (h:cellFineB X n g k (r.getD k 0) = false):rowFineB X n g r = false:=by
 unfold rowFineB
 rw [range_all_f (p:=fun k=>cellFineB X n g k (r.getD k 0)) hk h,Bool.and_false]
set_option maxHeartbeats 4000000 in
theorem jnode_c {w:World} {gv nv wv:Value} {X:Wd} (hg:Ints w gv X.groups) (hn:Nodes w nv X.nodes) (hw:Wires w wv X.wires) {n:Nat} (hn1:n < X.nodes.length) :
  Calls Tryz.prog 155 #[.agg #[gv,nv,wv], .int .i64 n] w (JPost (nodeJ X n) w):=by
 obtain ⟨hgl,ga,gcap,rfl,_⟩:=hg.open
 obtain ⟨hwl,wa,wcap,rfl,_⟩:=hw.form
 obtain ⟨b1,o1,ncap,lv,hv,tv,rfl,_,k0,k1,k2,k3,hI,hL,hH,hT⟩:=hn.at hn1
 obtain ⟨P,hP⟩:∃ P,JPost (nodeJ X n) w = P:=⟨_,rfl⟩
 rw [hP]
 unfold nodeJ at hP
 obtain ⟨x,HX⟩:∃ x,X.nodes.getD n N.zero = x:=⟨_,rfl⟩
 rw [HX] at hP k0 hI hL hH hT
 clear HX
 obtain ⟨hll,la,lcap,rfl,_⟩:=hL.form
 obtain ⟨_,ha,hcap,rfl,_⟩:=hH.open
 obtain ⟨_,ta,tcap,rfl,_⟩:=hT.open
 have hbad:nodeJB X n x = false → JPost 1 w = P:=fun h=>by rw [← hP,if_neg (by rw [h];simp)]
 have hok:nodeJB X n x = true → JPost 0 w = P:=fun h=>by rw [← hP,if_pos h]
 clear hP
 replace hbad:=Lib.hid hbad
 replace hok:=Lib.hid hok
 obtain ⟨w1,hw1⟩:∃ w1,w1 = w.alloc (.cells #[.slice ga X.groups.length gcap, .slice (some ⟨b1,o1,none⟩) X.nodes.length ncap, .slice wa X.wires.length wcap] 171):=⟨_,rfl⟩
 obtain ⟨w2,hw2⟩:∃ w2,w2 = w1.alloc (.cells #[.int .i64 x.clock, .slice la x.last.length lcap, .slice ha x.held.length hcap, .slice ta x.told.length tcap] 65):=⟨_,rfl⟩
 have hB1:WBox w1 w.heap.size (.slice ga X.groups.length gcap) (.slice (some ⟨b1,o1,none⟩) X.nodes.length ncap) (.slice wa X.wires.length wcap):=hw1 ▸ WBox.new w _ _ _ 171
 have hA1:Below w.heap.size w w1:=hw1 ▸ below_a1 w _
 have hs1:w1.heap.size = w.heap.size + 1:=by rw [hw1,World.size_alloc]
 have hN2:NBox w2 (w.heap.size + 1) x (.slice la x.last.length lcap) (.slice ha x.held.length hcap) (.slice ta x.told.length tcap):=by rw [← hs1];exact hw2 ▸ NBox.new w1 x _ _ _ 65
 have hb2:Below w1.heap.size w1 w2:=hw2 ▸ below_a1 w1 _
 have hs2:w2.heap.size = w.heap.size + 2:=by rw [hw2,World.size_alloc,hs1]
 have hB:=hB1.below hb2 (by omega)
 have hA:=below_trans hA1 hb2
 have hE1:=Lib.hid hw1
 have hE:=Lib.hid (show w2 = (w.alloc (.cells #[.slice ga X.groups.length gcap, .slice (some ⟨b1,o1,none⟩) X.nodes.length ncap, .slice wa X.wires.length wcap] 171)).alloc (.cells #[.int .i64 x.clock, .slice la x.last.length lcap, .slice ha x.held.length hcap, .slice ta x.told.length tcap] 65) by rw [hw2,hw1])
 clear hw1 hw2 hb2 hs1 hA1 hB1
 replace hs2:=Lib.hid hs2
 have eg:∀ args w,(callFunc 165 args).run Tryz.prog w = .ok (.enter 165 args) w:=enters_of Tryz.func165 (by kernel_rfl) rfl
 have hk0:=cell_lt k0
 dsimp only at hk0
 go_enter Tryz.func155,Tryz.ntmps155
 go_upto_region 1 with fail
 have q0:=((below_a1 w (.cells #[.slice ga X.groups.length gcap, .slice (some ⟨b1,o1,none⟩) X.nodes.length ncap, .slice wa X.wires.length wcap] 171)).cell (p:=⟨b1,o1 + n * 4,none⟩) hk0).trans k0
 have q1:=((below_a1 w (.cells #[.slice ga X.groups.length gcap, .slice (some ⟨b1,o1,none⟩) X.nodes.length ncap, .slice wa X.wires.length wcap] 171)).cell (p:=⟨b1,o1 + n * 4 + 1,none⟩) hk0).trans k1
 have q2:=((below_a1 w (.cells #[.slice ga X.groups.length gcap, .slice (some ⟨b1,o1,none⟩) X.nodes.length ncap, .slice wa X.wires.length wcap] 171)).cell (p:=⟨b1,o1 + n * 4 + 2,none⟩) hk0).trans k2
 have q3:=((below_a1 w (.cells #[.slice ga X.groups.length gcap, .slice (some ⟨b1,o1,none⟩) X.nodes.length ncap, .slice wa X.wires.length wcap] 171)).cell (p:=⟨b1,o1 + n * 4 + 3,none⟩) hk0).trans k3
 go_upto_region 2 with fail
 rw [← hE.out]
 clear hE hE1 q0 q1 q2 q3 k0 k1 k2 k3
 have hBK:=hB
 have hNK:=hN2
 obtain ⟨x0,x1,x2⟩:=hB
 obtain ⟨y0,y1,y2,y3⟩:=hN2
 have hlx:=cell_lt x0
 have hly:=cell_lt y0
 dsimp only at hlx hly
 obtain ⟨c,hc⟩:∃ c,inB x.clock 0 1048576 = c:=⟨_,rfl⟩
 have hSt:=fun o=>stamp_c o x.clock
 rw [hc] at hSt
 replace hc:=Lib.hid hc
 go_upto_region 3 with fail
 refine wp_region_over_tail 12 (by kernel_rfl) (by kernel_rfl) ?_
 simp only [List.take_succ_cons,List.take_zero,List.drop_succ_cons,List.drop_zero]
 repeat (go_big_quiet_step (first | exact over_w (hSt _)))
 refine wpQuiet_nil ?_
 rintro w3 ⟨⟨_,hb3⟩,rfl⟩
 clear hSt
 have hw3:=below_trans hA hb3
 have hde:decide (x.last.length = X.groups.length) = ((x.last.length:Int) == (X.groups.length:Int)):=by rw [Bool.eq_iff_iff];simp;omega
 cases hv:(c && ((x.last.length:Int) == (X.groups.length:Int)))
 ·have hnb:nodeJB X n x = false:=by
   unfold nodeJB lastFineB
   rw [hc.out,hde]
   revert hv
   generalize ((x.last.length:Int) == (X.groups.length:Int)) = d
   cases c <;> cases d <;> simp
  replace hnb:=Lib.hid hnb
  replace hv:=Lib.hid hv
  clear hde
  go_wp2_with fail
  refine (must_f 1 (Bools.new2 _ _ _ _) (by omega) ?_).mono ?_
  ·simpa using hv.out
  rintro e w9 ⟨rfl,rfl⟩
  go_wp2_with fail
  refine ⟨rfl, ?_⟩
  rw [← hbad.out hnb.out]
  exact JPost.bad (by decide) (below_trans hw3 (below_a1 _ _))
 have hv2:c = true ∧ x.last.length = X.groups.length:=by
  rw [← hde] at hv
  simpa using hv
 clear hv hde
 obtain ⟨rfl,hll2⟩:=hv2
 have hbo3:=Lib.hid ((hb3.trans ((below_a1 w3 (.cells #[.bool true, .bool true] 4)).mono hb3.size)).mono (show w.heap.size + 2 ≤ w2.heap.size by have:=hs2.out;omega))
 have hlE:((x.last.length:Int) == (X.groups.length:Int)) = true:=by simp [hll2]
 replace hll2:=Lib.hid hll2
 go_wp2_with fail
 refine (must_t 1 (Bools.new2 _ _ _ _) (by omega) rfl).mono ?_
 rintro e w9 ⟨rfl,rfl⟩
 clear x0 x1 x2 y0 y1 y2 y3
 obtain ⟨y0,y1,y2,y3⟩:=hNK.below hbo3.out (by have:=hs2.out;omega)
 go_wp2_with fail
 go_loopw [35] (fun i wr=>∃ g:Nat,g ≤ x.last.length ∧ i = .int .i64 g ∧ Hid (∀ t,t < g → rowFineB X n t (x.last.getD t []) = true) ∧ Below (w.heap.size + 2) w2 wr) (fun i _=>x.last.length - (intOf i).toNat)
 case atStart=>exact ⟨0,by omega,rfl,fun t ht=>absurd ht (Nat.not_lt_zero _),hbo3.out⟩
 case round =>
  clear y0 y1 y2 y3
  obtain ⟨g,hg0,rfl,hgo,hb⟩:=hrel
  have hww:Below w.heap.size w wr:=hA.trans (hb.mono (by omega))
  obtain ⟨x0,x1,x2⟩:=hBK.below hb (by omega)
  obtain ⟨y0,y1,y2,y3⟩:=hNK.below hb (by omega)
  by_cases hlt:g < x.last.length
  ·obtain ⟨b3,o3,c3,u3,e3,_,s1,hI3⟩:=(hL.below hww).at hlt
   cases e3
   obtain ⟨row,HR⟩:∃ row,x.last.getD g [] = row:=⟨_,rfl⟩
   have hrb:rowFineB X n g row = false → nodeJB X n x = false:=fun h=>by
    rw [← HR] at h
    unfold nodeJB
    rw [lastFineB_bad hlt h]
    simp
   rw [HR] at hI3
   replace HR:=Lib.hid HR
   replace hrb:=Lib.hid hrb
   obtain ⟨_,ra,rcap,rfl,_⟩:=hI3.open
   have hde:decide (row.length = X.nodes.length) = ((row.length:Int) == (X.nodes.length:Int)):=by rw [Bool.eq_iff_iff];simp;omega
   cases hv:((row.length:Int) == (X.nodes.length:Int))
   ·have hnb:nodeJB X n x = false:=hrb.out (by unfold rowFineB;rw [hde,hv];rfl)
    replace hnb:=Lib.hid hnb
    replace hv:=Lib.hid hv
    clear hde
    go_wp2_with fail
    refine (must_f 1 (Bools.new1 _ _ _) (by omega) ?_).mono ?_
    ·simpa using hv.out
    rintro e w9 ⟨rfl,rfl⟩
    go_wp2_with fail
    refine ⟨rfl, ?_⟩
    rw [← hbad.out hnb.out]
    exact JPost.bad (by decide) (below_trans hww (below_a1 _ _))
   have hrl:row.length = X.nodes.length:=by
    rw [hv] at hde
    simpa using hde
   clear hde
   replace hrl:=Lib.hid hrl
   have hbo3:=Lib.hid (hb.trans ((below_a1 wr (.cells #[.bool true] 4)).mono (by have:=hb.size;have:=hs2.out;omega)))
   go_wp2_with fail
   refine (must_t 1 (Bools.new1 _ _ _) (by omega) rfl).mono ?_
   rintro e w9 ⟨rfl,rfl⟩
   obtain ⟨wo,rfl⟩:∃ wo:World,wo = wr:=⟨_,rfl⟩
   have hI3K:=Lib.hid (hI3.below (below_a1 wo (.cells #[.bool true] 4)))
   clear hI3 x0 x1 x2 y0 y1 y2 y3 s1
   have hsz:=hbo3.out.size
   generalize wo.alloc (.cells #[.bool true] 4) = wp at *
   go_wp2_with fail
   go_loopw [51] (fun i wr=>∃ k:Nat,k ≤ row.length ∧ i = .int .i64 k ∧ Hid (∀ t,t < k → cellFineB X n g t (row.getD t 0) = true) ∧ Below wp.heap.size wp wr) (fun i _=>row.length - (intOf i).toNat)
   case atStart=>exact ⟨0,by omega,rfl,fun t ht=>absurd ht (Nat.not_lt_zero _),Below.refl _ _⟩
   case round =>
    clear hb hww
    obtain ⟨k,hk0,rfl,hgk,hb9⟩:=hrel
    have hb:Below (w.heap.size + 2) w2 wr:=hbo3.out.trans (hb9.mono (by have:=hs2.out;omega))
    have hww:Below w.heap.size w wr:=hA.trans (hb.mono (by omega))
    obtain ⟨x0,x1,x2⟩:=hBK.below hb (by omega)
    by_cases hltk:k < row.length
    ·obtain ⟨b4,o4,c4,e4,_,s1,hI4⟩:=(hI3K.out.below hb9).at hltk
     cases e4
     obtain ⟨s,HS⟩:∃ s,row.getD k 0 = s:=⟨_,rfl⟩
     have hcb:cellFineB X n g k s = false → nodeJB X n x = false:=fun h=>hrb.out (rowFineB_bad hltk (by rw [HS];exact h))
     rw [HS] at s1
     replace HS:=Lib.hid HS
     replace hcb:=Lib.hid hcb
     have hSt:=fun o=>stamp_c o s
     have hH1:=fun o (h:Below w.heap.size w o)=>Has_c (hg.below h) g n
     have hH2:=fun o (h:Below w.heap.size w o)=>Has_c (hg.below h) g k
     have hcell:cellFineB X n g k s = (inB s 0 1048576 && ((hasB X.groups g n && hasB X.groups g k) || s == 0)):=rfl
     have hH1:=hH1 wr hww
     have hH2:=hH2 wr hww
     by_cases hs0:s = 0
     ·subst hs0
      rw [show inB 0 0 1048576 = true from by decide] at hSt hcell
      rw [Bool.true_and,show ((0:Int) == 0) = true from rfl,Bool.or_true] at hcell
      replace hcell:=Lib.hid hcell
      clear hH1 hH2
      go_wp2_with (first | (go_at_fn 165;refine (hSt _).mono ?_;clear hSt;rintro e w' ⟨rfl,rfl⟩))
      refine (must_t 1 (Bools.new2 _ _ _ _) (by omega) rfl).mono ?_
      rintro e w' ⟨rfl,rfl⟩
      go_wp2_with fail
      go_roundw
      case rel=>exact ⟨k + 1,by omega,by go_num,fun t ht=>by
                rcases Nat.lt_succ_iff_lt_or_eq.1 ht with h | h
                ·exact hgk.out t h
                ·rw [h,HS.out];exact hcell.out,below_trans hb9 (below_a1 _ _)⟩
      case measure=>simp [intOf];omega
     ·have hsb:(s == 0) = false:=by simpa using hs0
      rw [hsb,Bool.or_false] at hcell
      replace hs0:=Lib.hid hs0
      cases h1:hasB X.groups g n
      ·rw [h1] at hH1 hcell
       have hnb:=Lib.hid (hcb.out (by rw [hcell];simp))
       clear hcell h1 hH2
       generalize inB s 0 1048576 = cc at *
       go_wp2_with (first | (go_at_fn 165;refine (hSt _).mono ?_;clear hSt;rintro e w' ⟨rfl,rfl⟩) | (go_at_call 101;refine hH1.mono ?_;clear hH1;rintro e w' ⟨rfl,rfl⟩))
       refine (must_f 1 (Bools.new2 _ _ _ _) (by omega) ?_).mono ?_
       ·simp
       rintro e w9 ⟨rfl,rfl⟩
       go_wp2_with fail
       refine ⟨rfl, ?_⟩
       rw [← hbad.out hnb.out]
       exact JPost.bad (by decide) (below_trans hww (below_a1 _ _))
      cases h2:hasB X.groups g k
      ·rw [h1] at hH1
       rw [h2] at hH2
       rw [h1,h2] at hcell
       have hnb:=Lib.hid (hcb.out (by rw [hcell];simp))
       clear hcell h1 h2
       generalize inB s 0 1048576 = cc at *
       go_wp2_with (first | (go_at_fn 165;refine (hSt _).mono ?_;clear hSt;rintro e w' ⟨rfl,rfl⟩) | (go_at_call 101;refine hH1.mono ?_;clear hH1;rintro e w' ⟨rfl,rfl⟩) | (go_at_call 101;refine hH2.mono ?_;clear hH2;rintro e w' ⟨rfl,rfl⟩))
       refine (must_f 1 (Bools.new2 _ _ _ _) (by omega) ?_).mono ?_
       ·simp
       rintro e w9 ⟨rfl,rfl⟩
       go_wp2_with fail
       refine ⟨rfl, ?_⟩
       rw [← hbad.out hnb.out]
       exact JPost.bad (by decide) (below_trans hww (below_a1 _ _))
      rw [h1] at hH1
      rw [h2] at hH2
      rw [h1,h2] at hcell
      clear h1 h2
      cases hcc:inB s 0 1048576
      ·rw [hcc] at hSt hcell
       have hnb:=Lib.hid (hcb.out (by rw [hcell];rfl))
       clear hcell hcc
       go_wp2_with (first | (go_at_fn 165;refine (hSt _).mono ?_;clear hSt;rintro e w' ⟨rfl,rfl⟩) | (go_at_call 101;refine hH1.mono ?_;clear hH1;rintro e w' ⟨rfl,rfl⟩) | (go_at_call 101;refine hH2.mono ?_;clear hH2;rintro e w' ⟨rfl,rfl⟩))
       refine (must_f 1 (Bools.new2 _ _ _ _) (by omega) ?_).mono ?_
       ·rfl
       rintro e w9 ⟨rfl,rfl⟩
       go_wp2_with fail
       refine ⟨rfl, ?_⟩
       rw [← hbad.out hnb.out]
       exact JPost.bad (by decide) (below_trans hww (below_a1 _ _))
      ·rw [hcc] at hSt hcell
       replace hcell:=Lib.hid hcell
       clear hcc
       go_wp2_with (first | (go_at_fn 165;refine (hSt _).mono ?_;clear hSt;rintro e w' ⟨rfl,rfl⟩) | (go_at_call 101;refine hH1.mono ?_;clear hH1;rintro e w' ⟨rfl,rfl⟩) | (go_at_call 101;refine hH2.mono ?_;clear hH2;rintro e w' ⟨rfl,rfl⟩))
       refine (must_t 1 (Bools.new2 _ _ _ _) (by omega) rfl).mono ?_
       rintro e w' ⟨rfl,rfl⟩
       go_wp2_with fail
       go_roundw
       case rel=>exact ⟨k + 1,by omega,by go_num,fun t ht=>by
                 rcases Nat.lt_succ_iff_lt_or_eq.1 ht with h | h
                 ·exact hgk.out t h
                 ·rw [h,HS.out];exact hcell.out,below_trans hb9 (below_a1 _ _)⟩
       case measure=>simp [intOf];omega
    ·obtain rfl:k = row.length:=by omega
     have hrok:rowFineB X n g row = true:=by
      unfold rowFineB
      rw [range_all_t hgk.out,decide_eq_true hrl.out]
      rfl
     replace hrok:=Lib.hid hrok
     go_wp2_with fail
     go_roundw
     case rel=>exact ⟨g + 1,by omega,by go_num,fun t ht=>by
               rcases Nat.lt_succ_iff_lt_or_eq.1 ht with h | h
               ·exact hgo.out t h
               ·rw [h,HR.out];exact hrok.out,hb⟩
     case measure=>simp [intOf];omega
  ·obtain rfl:g = x.last.length:=by omega
   have hlf:lastFineB X n x.last = true:=by
    unfold lastFineB
    rw [range_all_t hgo.out,decide_eq_true hll2.out]
    rfl
   have hbh:listOkJ X n x.held = false → nodeJB X n x = false:=fun h=>by unfold nodeJB;rw [h];simp
   have hbt:listOkJ X n x.told = false → nodeJB X n x = false:=fun h=>by unfold nodeJB;rw [h];simp
   replace hbh:=Lib.hid hbh
   replace hbt:=Lib.hid hbt
   replace hlf:=Lib.hid hlf
   clear hlt hg0 hgo x0 x1 x2
   obtain ⟨wo,rfl⟩:∃ wo:World,wo = wr:=⟨_,rfl⟩
   have hz0:(wo.alloc (.cells #[.slice ha x.held.length hcap, .slice ta x.told.length tcap] 63)).cell? ⟨wo.heap.size,0,none⟩ = some (.slice ha x.held.length hcap):=by simp
   have hz1:(wo.alloc (.cells #[.slice ha x.held.length hcap, .slice ta x.told.length tcap] 63)).cell? ⟨wo.heap.size,1,none⟩ = some (.slice ta x.told.length tcap):=by simp
   have hbo3:=Lib.hid (hb.trans ((below_a1 wo (.cells #[.slice ha x.held.length hcap, .slice ta x.told.length tcap] 63)).mono (by have:=hb.size;have:=hs2.out;omega)))
   go_wp2_with fail
   generalize wo.alloc (.cells #[.slice ha x.held.length hcap, .slice ta x.told.length tcap] 63) = wp at *
   have hzl:=cell_lt hz0
   dsimp only at hzl
   have hsz:=hbo3.out.size
   clear hb hww y0 y1 y2 y3
   go_loopw [87] (fun i wr=>∃ k:Nat,k ≤ 2 ∧ i = .int .i64 k ∧ Hid ((1 ≤ k → listOkJ X n x.held = true) ∧ (2 ≤ k → listOkJ X n x.told = true)) ∧ Below wp.heap.size wp wr) (fun i _=>2 - (intOf i).toNat)
   case atStart=>exact ⟨0,by omega,rfl,⟨fun h=>absurd h (by decide),fun h=>absurd h (by decide)⟩,Below.refl _ _⟩
   case round =>
    obtain ⟨k,hk0,rfl,hgk,hb9⟩:=hrel
    have hb:Below (w.heap.size + 2) w2 wr:=hbo3.out.trans (hb9.mono (by have:=hs2.out;omega))
    have hww:Below w.heap.size w wr:=hA.trans (hb.mono (by omega))
    obtain ⟨x0,x1,x2⟩:=hBK.below hb (by omega)
    have z0:=(hb9.cell (p:=⟨wo.heap.size,0,none⟩) hzl).trans hz0
    have z1:=(hb9.cell (p:=⟨wo.heap.size,1,none⟩) hzl).trans hz1
    have hk3:k = 0 ∨ k = 1 ∨ k = 2:=by omega
    rcases hk3 with rfl | rfl | rfl
    ·
     have hRi:=fun o (h:Below w.heap.size w o)=>Rises_c (hH.below h)
     have hCf:=fun o (h:Below w.heap.size w o)=>ContainsFuncM_c (hH.below h) 167 #[] (fun m=>m.null) (null_p o)
     have hLs:=fun o (h:Below w.heap.size w o)=>list_c (hg.below h) (hn.below h) (wv:=.slice wa X.wires.length wcap) (hH.below h) (n:Int)
     have hlo:listOkJ X n x.held = ((risesB x.held && !(x.held.any fun m=>m.null)) && x.held.all (fineRm X.nodes.length X.groups n)):=by
      unfold listOkJ noNullB
      rw [List.not_any_eq_all_not]
     have hlr:listR X x.held n = if x.held.all (fineRm X.nodes.length X.groups n) = true then 0 else 1:=rfl
     obtain ⟨a1,ha1⟩:∃ a1,risesB x.held = a1:=⟨_,rfl⟩
     obtain ⟨a2,ha2⟩:∃ a2,(x.held.any fun m=>m.null) = a2:=⟨_,rfl⟩
     obtain ⟨a3,ha3⟩:∃ a3,x.held.all (fineRm X.nodes.length X.groups n) = a3:=⟨_,rfl⟩
     rw [ha1] at hRi hlo
     rw [ha2] at hCf hlo
     rw [ha3] at hlo hlr
     clear ha1 ha2 ha3
     rw [hlr] at hLs
     clear hlr
     replace hLs:=Lib.hid hLs
     replace hCf:=Lib.hid hCf
     have hRi:=hRi wr hww
     cases hv:(a1 && !a2)
     ·rw [hv,Bool.false_and] at hlo
      have hnb:=Lib.hid (hbh.out hlo)
      clear hlo
      replace hv:=Lib.hid hv
      go_wp2_with (first
       |(go_at_call 157;refine hRi.mono ?_;clear hRi;rintro e w5 ⟨rfl,hb5⟩)
       |(go_at_call 166;refine (hCf.out _ (below_trans hww hb5)).mono ?_;clear hCf;rintro e w6 ⟨rfl,hb6⟩))
      refine (must_f 1 (Bools.new2 _ _ _ _) (by omega) ?_).mono ?_
      ·simpa using hv.out
      rintro e w9 ⟨rfl,rfl⟩
      go_wp2_with fail
      refine ⟨rfl, ?_⟩
      rw [← hbad.out hnb.out]
      exact JPost.bad (by decide) (below_trans (below_trans (below_trans hww hb5) hb6) (below_a1 _ _))
     rw [hv,Bool.true_and] at hlo
     have hv2:a1 = true ∧ a2 = false:=by simpa using hv
     clear hv
     obtain ⟨rfl,rfl⟩:=hv2
     go_wp2_with (first
      |(go_at_call 157;refine hRi.mono ?_;clear hRi;rintro e w5 ⟨rfl,hb5⟩)
      |(go_at_call 166;refine (hCf.out _ (below_trans hww hb5)).mono ?_;clear hCf;rintro e w6 ⟨rfl,hb6⟩))
     refine (must_t 1 (Bools.new2 _ _ _ _) (by omega) rfl).mono ?_
     rintro e w9 ⟨rfl,rfl⟩
     have hb7:=below_trans (below_trans hb5 hb6) (below_a1 w6 (.cells #[.bool true, .bool true] 4))
     generalize w6.alloc (.cells #[.bool true, .bool true] 4) = w7 at *
     have hw7:=below_trans hww hb7
     have hb2:Below (w.heap.size + 2) w2 w7:=hb.trans (hb7.mono (by have:=hb.size;have:=hs2.out;omega))
     have hb97:=below_trans hb9 hb7
     clear x0 x1 x2
     obtain ⟨x0,x1,x2⟩:=hBK.below hb2 (by omega)
     have hLs:=hLs.out w7 hw7
     replace hlo:=Lib.hid hlo
     go_wp2_with fail
     refine hLs.mono ?_
     rintro e w8 ⟨h,hb8⟩
     cases a3
     ·rcases h with ⟨h,_⟩ | ⟨_,rfl⟩
      ·exact absurd h (by decide)
      go_wp2_with fail
      refine ⟨rfl, ?_⟩
      rw [← hbad.out (hbh.out hlo.out)]
      exact JPost.bad (by decide) (below_trans hw7 hb8)
     ·rcases h with ⟨_,rfl⟩ | ⟨h,_⟩
      rotate_left
      ·exact absurd rfl h
      go_wp2_with fail
      go_roundw
      case rel=>exact ⟨1,by omega,by go_num,⟨fun _=>hlo.out,fun h=>absurd h (by decide)⟩,below_trans hb97 hb8⟩
      case measure=>simp [intOf]
    ·
     have hRi:=fun o (h:Below w.heap.size w o)=>Rises_c (hT.below h)
     have hCf:=fun o (h:Below w.heap.size w o)=>ContainsFuncM_c (hT.below h) 167 #[] (fun m=>m.null) (null_p o)
     have hLs:=fun o (h:Below w.heap.size w o)=>list_c (hg.below h) (hn.below h) (wv:=.slice wa X.wires.length wcap) (hT.below h) (n:Int)
     have hlo:listOkJ X n x.told = ((risesB x.told && !(x.told.any fun m=>m.null)) && x.told.all (fineRm X.nodes.length X.groups n)):=by
      unfold listOkJ noNullB
      rw [List.not_any_eq_all_not]
     have hlr:listR X x.told n = if x.told.all (fineRm X.nodes.length X.groups n) = true then 0 else 1:=rfl
     obtain ⟨a1,ha1⟩:∃ a1,risesB x.told = a1:=⟨_,rfl⟩
     obtain ⟨a2,ha2⟩:∃ a2,(x.told.any fun m=>m.null) = a2:=⟨_,rfl⟩
     obtain ⟨a3,ha3⟩:∃ a3,x.told.all (fineRm X.nodes.length X.groups n) = a3:=⟨_,rfl⟩
     rw [ha1] at hRi hlo
     rw [ha2] at hCf hlo
     rw [ha3] at hlo hlr
     clear ha1 ha2 ha3
     rw [hlr] at hLs
     clear hlr
     replace hLs:=Lib.hid hLs
     replace hCf:=Lib.hid hCf
     have hRi:=hRi wr hww
     cases hv:(a1 && !a2)
     ·rw [hv,Bool.false_and] at hlo
      have hnb:=Lib.hid (hbt.out hlo)
      clear hlo
      replace hv:=Lib.hid hv
      go_wp2_with (first
       |(go_at_call 157;refine hRi.mono ?_;clear hRi;rintro e w5 ⟨rfl,hb5⟩)
       |(go_at_call 166;refine (hCf.out _ (below_trans hww hb5)).mono ?_;clear hCf;rintro e w6 ⟨rfl,hb6⟩))
      refine (must_f 1 (Bools.new2 _ _ _ _) (by omega) ?_).mono ?_
      ·simpa using hv.out
      rintro e w9 ⟨rfl,rfl⟩
      go_wp2_with fail
      refine ⟨rfl, ?_⟩
      rw [← hbad.out hnb.out]
      exact JPost.bad (by decide) (below_trans (below_trans (below_trans hww hb5) hb6) (below_a1 _ _))
     rw [hv,Bool.true_and] at hlo
     have hv2:a1 = true ∧ a2 = false:=by simpa using hv
     clear hv
     obtain ⟨rfl,rfl⟩:=hv2
     go_wp2_with (first
      |(go_at_call 157;refine hRi.mono ?_;clear hRi;rintro e w5 ⟨rfl,hb5⟩)
      |(go_at_call 166;refine (hCf.out _ (below_trans hww hb5)).mono ?_;clear hCf;rintro e w6 ⟨rfl,hb6⟩))
     refine (must_t 1 (Bools.new2 _ _ _ _) (by omega) rfl).mono ?_
     rintro e w9 ⟨rfl,rfl⟩
     have hb7:=below_trans (below_trans hb5 hb6) (below_a1 w6 (.cells #[.bool true, .bool true] 4))
     generalize w6.alloc (.cells #[.bool true, .bool true] 4) = w7 at *
     have hw7:=below_trans hww hb7
     have hb2:Below (w.heap.size + 2) w2 w7:=hb.trans (hb7.mono (by have:=hb.size;have:=hs2.out;omega))
     have hb97:=below_trans hb9 hb7
     clear x0 x1 x2
     obtain ⟨x0,x1,x2⟩:=hBK.below hb2 (by omega)
     have hLs:=hLs.out w7 hw7
     replace hlo:=Lib.hid hlo
     go_wp2_with fail
     refine hLs.mono ?_
     rintro e w8 ⟨h,hb8⟩
     cases a3
     ·rcases h with ⟨h,_⟩ | ⟨_,rfl⟩
      ·exact absurd h (by decide)
      go_wp2_with fail
      refine ⟨rfl, ?_⟩
      rw [← hbad.out (hbt.out hlo.out)]
      exact JPost.bad (by decide) (below_trans hw7 hb8)
     ·rcases h with ⟨_,rfl⟩ | ⟨h,_⟩
      rotate_left
      ·exact absurd rfl h
      go_wp2_with fail
      go_roundw
      case rel=>exact ⟨2,by omega,by go_num,⟨fun _=>hgk.out.1 (by decide),fun _=>hlo.out⟩,below_trans hb97 hb8⟩
      case measure=>simp [intOf]
    ·go_wp2_with fail
     go_end0
     rw [← hok.out (by unfold nodeJB;rw [hc.out,hlf.out,hgk.out.1 (by decide),hgk.out.2 (by decide)];rfl)]
     exact JPost.ok hww
end Go.Proofs.YtnalakhelicjcaaGreatDoor
