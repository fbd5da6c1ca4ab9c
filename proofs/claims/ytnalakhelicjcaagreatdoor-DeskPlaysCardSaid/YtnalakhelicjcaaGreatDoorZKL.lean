/-
  The program's judge of worlds: it looks at a world of right groups.
  The judge of the program and the document's answer tell the same error.
  The program's Check of a world: what is told by a panic is caught.
-/
import Derived.Test.YtnalakhelicjcaaGreatDoorZJN
import Derived.Test.YtnalakhelicjcaaGreatDoorZKC
import Derived.Recover
import Derived.Defers
set_option maxRecDepth 100000
namespace Go.Proofs.YtnalakhelicjcaaGreatDoor
open Go.RowKit Go.Shelf Go.BigFrame
def lookRow (X:Wd) (n:Nat):Bool:=decide ((X.wires.getD n []).length = X.nodes.length) && (nodeJ X n == 0) && (List.range (X.wires.getD n []).length).all fun k=>wireJ X n k == 0
def lookOk (X:Wd):Bool:=decide (X.wires.length = X.nodes.length) && (List.range X.wires.length).all (lookRow X)
def lookR (X:Wd):Int:=if manyX X = true then 2 else if lookOk X = true then 0 else 1
theorem manyX_n {X:Wd} {n:Nat} (hn:n < X.nodes.length) (h:manyN (X.nodes.getD n N.zero) = true):manyX X = true:=by
 unfold manyX
 rw [range_any_t (p:=fun n=>manyN (X.nodes.getD n N.zero)) hn h,Bool.true_or]
theorem manyX_r {X:Wd} {n k:Nat} (hn:n < X.wires.length) (hk:k < (X.wires.getD n []).length) (h:40 < ((X.wires.getD n []).getD k []).length):manyX X = true:=by
 unfold manyX
 rw [range_any_t (p:=fun a=>manyR (X.wires.getD a [])) hn (range_any_t (p:=fun b=>decide (40 < ((X.wires.getD n []).getD b []).length)) hk (decide_eq_true h)),Bool.or_true]
theorem manyX_f {X:Wd} (h1:∀ n,n < X.nodes.length → manyN (X.nodes.getD n N.zero) = false) (h2:∀ n,n < X.wires.length → ∀ k,k < (X.wires.getD n []).length → ((X.wires.getD n []).getD k []).length ≤ 40):manyX X = false:=by
 unfold manyX
 rw [range_any_f h1,range_any_f (p:=fun a=>manyR (X.wires.getD a [])) (fun n hn=>by unfold manyR;exact range_any_f (fun k hk=>decide_eq_false (by have:=h2 n hn k hk;omega)))]
 rfl
theorem lookOk_f {X:Wd} {n:Nat} (hn:n < X.wires.length) (h:lookRow X n = false):lookOk X = false:=by
 unfold lookOk
 rw [range_all_f hn h,Bool.and_false]
theorem nodeJ_01 (X:Wd) (n:Nat):nodeJ X n = 0 ∨ nodeJ X n = 1:=by unfold nodeJ;split <;> simp
theorem listR_01 (X:Wd) (ms:List M) (n:Int):listR X ms n = 0 ∨ listR X ms n = 1:=by unfold listR;split <;> simp
theorem wireJ_01 (X:Wd) (a b:Nat):wireJ X a b = 0 ∨ wireJ X a b = 1:=by
 unfold wireJ
 split
 ·exact listR_01 _ _ _
 ·exact Or.inr rfl
set_option maxHeartbeats 4000000 in
theorem look_c {w:World} {gv nv wv:Value} {X:Wd} (hg:Ints w gv X.groups) (hn:Nodes w nv X.nodes) (hw:Wires w wv X.wires) :
  Calls Tryz.prog 142 #[.agg #[gv,nv,wv]] w (JPost (lookR X) w):=by
 obtain ⟨hnl,na,ncap,rfl,_⟩:=hn.form
 obtain ⟨hgl,ga,gcap,rfl,_⟩:=hg.open
 obtain ⟨hwl,wa,wcap,rfl,_⟩:=hw.form
 have hA:=below_a1 w (.cells #[.slice ga X.groups.length gcap, .slice na X.nodes.length ncap, .slice wa X.wires.length wcap] 171)
 have hB:=WBox.new w (.slice ga X.groups.length gcap) (.slice na X.nodes.length ncap) (.slice wa X.wires.length wcap) 171
 have hsA:(w.alloc (.cells #[.slice ga X.groups.length gcap, .slice na X.nodes.length ncap, .slice wa X.wires.length wcap] 171)).heap.size = w.heap.size + 1:=World.size_alloc _ _
 obtain ⟨P,hP⟩:∃ P,JPost (lookR X) w = P:=⟨_,rfl⟩
 rw [hP]
 unfold lookR at hP
 have h2:=Lib.hid (show manyX X = true → JPost 2 w = P from fun h=>by rw [← hP,if_pos h])
 have h1:=Lib.hid (show manyX X = false → lookOk X = false → JPost 1 w = P from fun h h'=>by rw [← hP,if_neg (by rw [h];simp),if_neg (by rw [h'];simp)])
 have h0:=Lib.hid (show manyX X = false → lookOk X = true → JPost 0 w = P from fun h h'=>by rw [← hP,if_neg (by rw [h];simp),if_pos h'])
 clear hP
 go_enter Tryz.func142,Tryz.ntmps142
 go_upto_region 1 with fail
 generalize w.alloc (.cells #[.slice ga X.groups.length gcap, .slice na X.nodes.length ncap, .slice wa X.wires.length wcap] 171) = wA at *
 have hBK:=hB
 obtain ⟨x0,x1,x2⟩:=hB
 replace hsA:=Lib.hid hsA
 go_wp2_with fail
 go_loopw [15] (fun i wr=>∃ n:Nat,n ≤ X.nodes.length ∧ i = .int .i64 n ∧ Hid (∀ t,t < n → manyN (X.nodes.getD t N.zero) = false) ∧ Below (w.heap.size + 1) wA wr) (fun i _=>X.nodes.length - (intOf i).toNat)
 case atStart=>exact ⟨0,by omega,rfl,fun t ht=>absurd ht (Nat.not_lt_zero _),Below.refl _ _⟩
 case round =>
  clear x0 x1 x2
  obtain ⟨n,hn0,rfl,hgo,hb⟩:=hrel
  have hww:Below w.heap.size w wr:=hA.trans (hb.mono (by omega))
  obtain ⟨x0,x1,x2⟩:=hBK.below hb (by omega)
  by_cases hlt:n < X.nodes.length
  ·obtain ⟨b1,o1,c1,lv,hv,tv,e1,_,k0,k1,k2,k3,hI,hL,hH,hT⟩:=(hn.below hww).at hlt
   cases e1
   have hmx:=fun h=>manyX_n (X:=X) hlt h
   obtain ⟨x,HX⟩:∃ x,X.nodes.getD n N.zero = x:=⟨_,rfl⟩
   rw [HX] at k0 hL hH hT hmx
   replace HX:=Lib.hid HX
   obtain ⟨_,ha,hcap,rfl,_⟩:=hH.open
   obtain ⟨_,ta,tcap,rfl,_⟩:=hT.open
   obtain ⟨_,la,lcap,rfl,_⟩:=hL.form
   have hbN:=below_a1 wr (.cells #[.int .i64 x.clock, .slice la x.last.length lcap, .slice ha x.held.length hcap, .slice ta x.told.length tcap] 65)
   have hNB:=NBox.new wr x (.slice la x.last.length lcap) (.slice ha x.held.length hcap) (.slice ta x.told.length tcap) 65
   have hmn:manyN x = (decide (40 < x.held.length) || decide (40 < x.told.length)):=rfl
   by_cases hv:40 < x.held.length ∨ 40 < x.told.length
   ·have hm2:=Lib.hid (h2.out (hmx (by rw [hmn];simpa using hv)))
    clear hmn hmx
    go_upto_region 4 with fail
    generalize wr.alloc (.cells #[.int .i64 x.clock, .slice la x.last.length lcap, .slice ha x.held.length hcap, .slice ta x.told.length tcap] 65) = wN at *
    obtain ⟨y0,y1,y2,y3⟩:=hNB
    replace hv:=Lib.hid hv
    go_wp2_with fail
    refine (must_f 2 (Bools.new2 _ _ _ _) (by omega) ?_).mono ?_
    ·(have:=hv.out;simp;omega)
    rintro e w9 ⟨rfl,rfl⟩
    go_wp2_with fail
    refine ⟨rfl, ?_⟩
    rw [← hm2.out]
    exact JPost.bad (by decide) (below_trans (below_trans hww hbN) (below_a1 _ _))
   ·have hmf:manyN x = false:=by rw [hmn];simp;omega
    have f1:decide ((x.held.length:Int) ≤ 40) = true:=decide_eq_true (by omega)
    have f2:decide ((x.told.length:Int) ≤ 40) = true:=decide_eq_true (by omega)
    replace hmf:=Lib.hid hmf
    clear hmn hmx hv
    go_upto_region 4 with fail
    have hbN:=hb.trans (hbN.mono (by have:=hb.size;have:=hsA.out;omega))
    generalize wr.alloc (.cells #[.int .i64 x.clock, .slice la x.last.length lcap, .slice ha x.held.length hcap, .slice ta x.told.length tcap] 65) = wN at *
    obtain ⟨y0,y1,y2,y3⟩:=hNB
    go_wp2_with fail
    refine (must_t 2 (Bools.new2 _ _ _ _) (by omega) rfl).mono ?_
    rintro e w9 ⟨rfl,rfl⟩
    go_wp2_with fail
    go_roundw
    case rel=>exact ⟨n + 1,by omega,by go_num,fun t ht=>by
              rcases Nat.lt_succ_iff_lt_or_eq.1 ht with h | h
              ·exact hgo.out t h
              ·rw [h,HX.out];exact hmf.out,hbN.trans ((below_a1 _ _).mono (by have:=hbN.size;have:=hsA.out;omega))⟩
    case measure=>simp [intOf];omega
  ·obtain rfl:n = X.nodes.length:=by omega
   have hmN:=hgo
   have hbo:=Lib.hid hb
   clear hlt hn0 hgo
   obtain ⟨wo,rfl⟩:∃ wo:World,wo = wr:=⟨_,rfl⟩
   go_wp2_with fail
   go_loopw [34] (fun i wr=>∃ n:Nat,n ≤ X.wires.length ∧ i = .int .i64 n ∧ Hid (∀ t,t < n → ∀ k,k < (X.wires.getD t []).length → ((X.wires.getD t []).getD k []).length ≤ 40) ∧ Below (w.heap.size + 1) wA wr) (fun i _=>X.wires.length - (intOf i).toNat)
   case atStart=>exact ⟨0,by omega,rfl,fun t ht=>absurd ht (Nat.not_lt_zero _),hbo.out⟩
   case round =>
    clear x0 x1 x2 hb hww hbo
    obtain ⟨n,hn0,rfl,hgo,hb⟩:=hrel
    have hww:Below w.heap.size w wr:=hA.trans (hb.mono (by omega))
    obtain ⟨x0,x1,x2⟩:=hBK.below hb (by omega)
    by_cases hlt:n < X.wires.length
    ·obtain ⟨b1,o1,c1,v1,e1,_,r1,hu1⟩:=(hw.below hww).row hlt
     cases e1
     have hmx:=fun k hk h=>manyX_r (X:=X) (n:=n) (k:=k) hlt hk h
     obtain ⟨row,HR⟩:∃ row,X.wires.getD n [] = row:=⟨_,rfl⟩
     rw [HR] at hu1 hmx
     replace HR:=Lib.hid HR
     replace hmx:=Lib.hid hmx
     obtain ⟨hrl,a1,cap1,rfl,_⟩:=hu1.form
     have hbo:=Lib.hid hb
     have hl1:=cell_lt r1
     dsimp only at hl1
     have hu1K:=Lib.hid hu1
     clear hu1
     obtain ⟨wo,rfl⟩:∃ wo:World,wo = wr:=⟨_,rfl⟩
     go_wp2_with fail
     go_loopw [40] (fun i wr=>∃ k:Nat,k ≤ row.length ∧ i = .int .i64 k ∧ Hid (∀ t,t < k → (row.getD t []).length ≤ 40) ∧ Below wo.heap.size wo wr) (fun i _=>row.length - (intOf i).toNat)
     case atStart=>exact ⟨0,by omega,rfl,fun t ht=>absurd ht (Nat.not_lt_zero _),Below.refl _ _⟩
     case round =>
      clear x0 x1 x2 hb r1
      obtain ⟨k,hk0,rfl,hgk,hb9⟩:=hrel
      have hs9:=hb9.size
      have hww9:=below_trans hww hb9
      by_cases hltk:k < row.length
      ·obtain ⟨b3,o3,c3,v3,e3,_,s1,hI3⟩:=(hu1K.out.below hb9).at hltk
       cases e3
       obtain ⟨l,HL⟩:∃ l,row.getD k [] = l:=⟨_,rfl⟩
       rw [HL] at hI3
       obtain ⟨_,a3,cap3,rfl,_⟩:=hI3.open
       by_cases hv:40 < l.length
       ·have hm2:=Lib.hid (h2.out (hmx.out k hltk (by rw [HL];exact hv)))
        have f1:decide ((l.length:Int) ≤ 40) = false:=decide_eq_false (by omega)
        clear HL hv
        go_wp2_with fail
        refine (must_f 2 (Bools.new1 _ _ _) (by omega) ?_).mono ?_
        ·rfl
        rintro e w9 ⟨rfl,rfl⟩
        go_wp2_with fail
        refine ⟨rfl, ?_⟩
        rw [← hm2.out]
        exact JPost.bad (by decide) (below_trans hww9 (below_a1 _ _))
       ·have hle:l.length ≤ 40:=by omega
        have f1:decide ((l.length:Int) ≤ 40) = true:=decide_eq_true (by omega)
        replace HL:=Lib.hid HL
        clear hv
        go_wp2_with fail
        refine (must_t 2 (Bools.new1 _ _ _) (by omega) rfl).mono ?_
        rintro e w9 ⟨rfl,rfl⟩
        go_wp2_with fail
        go_roundw
        case rel=>exact ⟨k + 1,by omega,by go_num,fun t ht=>by
                  rcases Nat.lt_succ_iff_lt_or_eq.1 ht with h | h
                  ·exact hgk.out t h
                  ·rw [h,HL.out];exact hle,below_trans hb9 (below_a1 _ _)⟩
        case measure=>simp [intOf];omega
      ·obtain rfl:k = row.length:=by omega
       go_wp2_with fail
       go_roundw
       case rel=>exact ⟨n + 1,by omega,by go_num,fun t ht=>by
                 rcases Nat.lt_succ_iff_lt_or_eq.1 ht with h | h
                 ·exact hgo.out t h
                 ·rw [h,HR.out];exact hgk.out,hbo.out.trans (hb9.mono (by have:=hbo.out.size;have:=hsA.out;omega))⟩
       case measure=>simp [intOf];omega
    ·obtain rfl:n = X.wires.length:=by omega
     have hmany:manyX X = false:=manyX_f hmN.out hgo.out
     have h1:=Lib.hid (h1.out hmany)
     have h0:=Lib.hid (h0.out hmany)
     clear hmany hmN hgo hlt hn0 h2
     have hbo:=Lib.hid hb
     obtain ⟨wo,rfl⟩:∃ wo:World,wo = wr:=⟨_,rfl⟩
     have hde:decide (X.wires.length = X.nodes.length) = ((X.wires.length:Int) == (X.nodes.length:Int)):=by rw [Bool.eq_iff_iff];simp;omega
     cases hv:((X.wires.length:Int) == (X.nodes.length:Int))
     ·have hm2:=Lib.hid (h1.out (by unfold lookOk;rw [hde,hv];rfl))
      replace hv:=Lib.hid hv
      clear hde
      go_wp2_with fail
      refine (must_f 1 (Bools.new1 _ _ _) (by omega) ?_).mono ?_
      ·simpa using hv.out
      rintro e w9 ⟨rfl,rfl⟩
      go_wp2_with fail
      refine ⟨rfl, ?_⟩
      rw [← hm2.out]
      exact JPost.bad (by decide) (below_trans hww (below_a1 _ _))
     have hwn:X.wires.length = X.nodes.length:=by
      rw [hv] at hde
      simpa using hde
     clear hde
     replace hwn:=Lib.hid hwn
     have hbo3:=Lib.hid (hb.trans ((below_a1 wo (.cells #[.bool true] 4)).mono (by have:=hb.size;have:=hsA.out;omega)))
     go_wp2_with fail
     refine (must_t 1 (Bools.new1 _ _ _) (by omega) rfl).mono ?_
     rintro e w9 ⟨rfl,rfl⟩
     clear x0 x1 x2
     obtain ⟨x0,x1,x2⟩:=hBK.below hbo3.out (by omega)
     go_wp2_with fail
     go_loopw [66] (fun i wr=>∃ n:Nat,n ≤ X.wires.length ∧ i = .int .i64 n ∧ Hid (∀ t,t < n → lookRow X t = true) ∧ Below (w.heap.size + 1) wA wr) (fun i _=>X.wires.length - (intOf i).toNat)
     case atStart=>exact ⟨0,by omega,rfl,fun t ht=>absurd ht (Nat.not_lt_zero _),hbo3.out⟩
     case round =>
      clear x0 x1 x2 hb hww hbo
      obtain ⟨n,hn0,rfl,hgo,hb⟩:=hrel
      have hww:Below w.heap.size w wr:=hA.trans (hb.mono (by omega))
      obtain ⟨x0,x1,x2⟩:=hBK.below hb (by omega)
      by_cases hlt:n < X.wires.length
      ·obtain ⟨b1,o1,c1,v1,e1,_,r1,hu1⟩:=(hw.below hww).row hlt
       cases e1
       have hlr:lookRow X n = (decide ((X.wires.getD n []).length = X.nodes.length) && (nodeJ X n == 0) && (List.range (X.wires.getD n []).length).all fun k=>wireJ X n k == 0):=rfl
       have hbad:=Lib.hid (fun h=>h1.out (lookOk_f hlt h))
       obtain ⟨rl,hrl⟩:∃ rl,(X.wires.getD n []).length = rl:=⟨_,rfl⟩
       obtain ⟨_,a1,cap1,rfl,_⟩:=hu1.form
       rw [hrl] at r1 hlr
       clear hu1
       have hde:decide (rl = X.nodes.length) = ((rl:Int) == (X.nodes.length:Int)):=by rw [Bool.eq_iff_iff];simp;omega
       cases hv:((rl:Int) == (X.nodes.length:Int))
       ·have hnb:=Lib.hid (hbad.out (by rw [hlr,hde,hv];rfl))
        replace hv:=Lib.hid hv
        clear hde hlr
        replace hrl:=Lib.hid hrl
        go_wp2_with fail
        refine (must_f 1 (Bools.new1 _ _ _) (by omega) ?_).mono ?_
        ·simpa using hv.out
        rintro e w9 ⟨rfl,rfl⟩
        go_wp2_with fail
        refine ⟨rfl, ?_⟩
        rw [← hnb.out]
        exact JPost.bad (by decide) (below_trans hww (below_a1 _ _))
       rw [hde,hv,Bool.true_and] at hlr
       have hrn:rl ≤ X.nodes.length ∧ X.nodes.length ≤ rl:=by
        rw [hv] at hde
        have:rl = X.nodes.length:=by simpa using hde
        omega
       clear hde
       replace hrl:=Lib.hid hrl
       replace hlr:=Lib.hid hlr
       go_wp2_with fail
       refine (must_t 1 (Bools.new1 _ _ _) (by omega) rfl).mono ?_
       rintro e w9 ⟨rfl,rfl⟩
       have hb3:=hb.trans ((below_a1 wr (.cells #[.bool true] 4)).mono (show w.heap.size + 1 ≤ wr.heap.size by have:=hb.size;have:=hsA.out;omega))
       have hw3:=below_trans hww (below_a1 wr (.cells #[.bool true] 4))
       generalize wr.alloc (.cells #[.bool true] 4) = w3 at *
       clear x0 x1 x2 r1
       obtain ⟨x0,x1,x2⟩:=hBK.below hb3 (by omega)
       have hN:=jnode_c (hg.below hw3) (hn.below hw3) (hw.below hw3) (n:=n) (by have:=hwn.out;omega)
       rcases nodeJ_01 X n with hj | hj
       rotate_left
       ·rw [hj] at hN
        have hnb:=Lib.hid (hbad.out (by rw [hlr.out,hj];rfl))
        clear hj
        go_wp2_with fail
        refine hN.mono ?_
        rintro e w4 ⟨h,hb4⟩
        rcases h with ⟨h,_⟩ | ⟨_,rfl⟩
        ·exact absurd h (by decide)
        go_wp2_with fail
        refine ⟨rfl, ?_⟩
        rw [← hnb.out]
        exact JPost.bad (by decide) (below_trans hw3 hb4)
       rw [hj] at hN
       have hlr2:lookRow X n = (List.range rl).all fun k=>wireJ X n k == 0:=by rw [hlr.out,hj];rfl
       clear hj hlr
       replace hlr2:=Lib.hid hlr2
       go_wp2_with fail
       refine hN.mono ?_
       rintro e w4 ⟨h,hb4⟩
       rcases h with ⟨_,rfl⟩ | ⟨h,_⟩
       rotate_left
       ·exact absurd rfl h
       have hb5:=hb3.trans (hb4.mono (by have:=hb3.size;have:=hsA.out;omega))
       clear x0 x1 x2 hb hww hN hb3 hb4 hw3
       obtain ⟨wo,rfl⟩:∃ wo:World,wo = wr:=⟨_,rfl⟩
       replace hb5:=Lib.hid hb5
       go_wp2_with fail
       go_loopw [85] (fun i wr=>∃ k:Nat,k ≤ rl ∧ i = .int .i64 k ∧ Hid (∀ t,t < k → (wireJ X n t == 0) = true) ∧ Below (w.heap.size + 1) wA wr) (fun i _=>rl - (intOf i).toNat)
       case atStart=>exact ⟨0,by omega,rfl,fun t ht=>absurd ht (Nat.not_lt_zero _),hb5.out⟩
       case round =>
        obtain ⟨k,hk0,rfl,hgk,hb⟩:=hrel
        have hww:Below w.heap.size w wr:=hA.trans (hb.mono (by omega))
        obtain ⟨x0,x1,x2⟩:=hBK.below hb (by omega)
        by_cases hltk:k < rl
        ·have hW:=jwire_c (hg.below hww) (hn.below hww) (hw.below hww) (a:=n) (b:=k) hlt (by rw [hrl.out];exact hltk)
         rcases wireJ_01 X n k with hj | hj
         ·rw [hj] at hW
          replace hj:=Lib.hid hj
          go_wp2_with fail
          refine hW.mono ?_
          rintro e w4 ⟨h,hb4⟩
          rcases h with ⟨_,rfl⟩ | ⟨h,_⟩
          rotate_left
          ·exact absurd rfl h
          go_wp2_with fail
          go_roundw
          case rel=>exact ⟨k + 1,by omega,by go_num,fun t ht=>by
                    rcases Nat.lt_succ_iff_lt_or_eq.1 ht with h | h
                    ·exact hgk.out t h
                    ·rw [h,hj.out];rfl,hb.trans (hb4.mono (by have:=hb.size;have:=hsA.out;omega))⟩
          case measure=>simp [intOf];omega
         ·rw [hj] at hW
          have hnb:=Lib.hid (hbad.out (by rw [hlr2.out];exact range_all_f hltk (by rw [hj];rfl)))
          clear hj
          go_wp2_with fail
          refine hW.mono ?_
          rintro e w4 ⟨h,hb4⟩
          rcases h with ⟨h,_⟩ | ⟨_,rfl⟩
          ·exact absurd h (by decide)
          go_wp2_with fail
          refine ⟨rfl, ?_⟩
          rw [← hnb.out]
          exact JPost.bad (by decide) (below_trans hww hb4)
        ·obtain rfl:k = rl:=by omega
         have hlk:=Lib.hid (hlr2.out.trans (range_all_t hgk.out))
         go_wp2_with fail
         go_roundw
         case rel=>exact ⟨n + 1,by omega,by go_num,fun t ht=>by
                   rcases Nat.lt_succ_iff_lt_or_eq.1 ht with h | h
                   ·exact hgo.out t h
                   ·rw [h];exact hlk.out,hb⟩
         case measure=>simp [intOf];omega
      ·obtain rfl:n = X.wires.length:=by omega
       have hlk:=Lib.hid (h0.out (by unfold lookOk;rw [decide_eq_true hwn.out,range_all_t hgo.out];rfl))
       go_wp2_with fail
       go_end0
       rw [← hlk.out]
       exact JPost.ok hww
end Go.Proofs.YtnalakhelicjcaaGreatDoor
set_option maxRecDepth 100000
namespace Go.Proofs.YtnalakhelicjcaaGreatDoor
open Go.RowKit Go.Shelf Go.BigFrame
theorem fineRm_eq {nodes:Int} {gs:List Int} (hg:gErr nodes gs = 0) (n:Int):fineRm nodes gs n = fineM nodes gs n:=by
 funext m
 unfold fineRm fineM msgE
 rw [if_pos hg]
theorem nodeJB_eq {X:Wd} (hg:gErr X.nodes.length X.groups = 0) (n:Nat) (x:N):nodeJB X n x = nodeOkB X n x:=by
 unfold nodeJB nodeOkB listOkJ listFineB
 rw [fineRm_eq hg]
 generalize inB x.clock 0 1048576 = a
 generalize lastFineB X n x.last = b
 generalize risesB x.held = c
 generalize risesB x.told = d
 generalize noNullB x.held = e
 generalize noNullB x.told = f
 generalize (x.held.all _) = g
 generalize (x.told.all _) = h
 revert a b c d e f g h
 decide
theorem msgE_stamp {nodes:Int} {gs:List Int} {m:M} (h:msgE nodes gs m = 0):1 ≤ m.stamp:=by
 unfold msgE at h
 split at h
 ·unfold rightE at h
  split at h
  ·rename_i hi
   obtain ⟨_,_,_,_,h3,_⟩:=hi
   exact h3
  ·cases h
 ·rename_i hg
  exact absurd h hg
theorem wireJ_eq {X:Wd} (hg:gErr X.nodes.length X.groups = 0) (a b:Nat):(wireJ X a b == 0) = wireFineB X a b:=by
 have h1:(wireJ X a b == 0) = ((List.range ((X.wires.getD a []).getD b []).length).all (stepJ a b ((X.wires.getD a []).getD b [])) && listFineB X.nodes.length X.groups ((X.wires.getD a []).getD b []) b):=by
  unfold wireJ listR listFineB
  rw [fineRm_eq hg]
  generalize (List.range ((X.wires.getD a []).getD b []).length).all (stepJ a b ((X.wires.getD a []).getD b [])) = p
  generalize ((X.wires.getD a []).getD b []).all (fineM X.nodes.length X.groups b) = q
  cases p <;> cases q <;> rfl
 rw [h1]
 unfold wireFineB
 generalize (X.wires.getD a []).getD b [] = l
 cases hf:listFineB X.nodes.length X.groups l b
 ·simp
 have hst:∀ t,t < l.length → 1 ≤ (l.getD t M.zero).stamp:=fun t ht=>by
  unfold listFineB at hf
  rw [List.all_eq_true] at hf
  have:=hf _ (getD_mem l M.zero ht)
  unfold fineM at this
  simp only [Bool.and_eq_true,beq_iff_eq] at this
  exact msgE_stamp this.1
 rw [Bool.and_true,Bool.and_true,Bool.eq_iff_iff]
 unfold wireOrdB
 simp only [Bool.and_eq_true,range_all_iff,Bool.or_eq_true,bne_iff_ne,List.isEmpty_iff,beq_iff_eq,decide_eq_true_eq]
 constructor
 ·intro h
  refine ⟨fun t ht=>?_, ?_⟩
  ·have:=h t ht
   simp only [stepJ,Bool.and_eq_true,beq_iff_eq,bne_iff_ne,decide_eq_true_eq] at this
   refine ⟨this.1, ?_⟩
   cases t with
   | zero=>exact Or.inl rfl
   | succ k=>exact Or.inr this.2.2
  ·cases l with
   | nil=>exact Or.inr rfl
   | cons m l =>
    have:=h 0 (by simp)
    simp only [stepJ,Bool.and_eq_true,beq_iff_eq,bne_iff_ne,decide_eq_true_eq] at this
    exact Or.inl (by have:=this.2.1;omega)
 ·rintro ⟨h,h2⟩ t ht
  have h3:=h t ht
  simp only [stepJ,Bool.and_eq_true,beq_iff_eq,bne_iff_ne,decide_eq_true_eq]
  refine ⟨h3.1, ?_, ?_⟩
  ·rcases h2 with h2 | h2
   ·omega
   ·subst h2;exact absurd ht (Nat.not_lt_zero _)
  ·cases t with
   | zero=>have:=hst 0 ht;show 0 < (l.getD 0 M.zero).stamp;omega
   | succ k=>rcases h3.2 with h4 | h4
             ·cases h4
             ·exact h4
theorem lookOk_eq {X:Wd} (hg:gErr X.nodes.length X.groups = 0):lookOk X = fineX X:=by
 rw [Bool.eq_iff_iff]
 unfold lookOk fineX
 have hn:∀ n,(nodeJ X n == 0) = nodeFineB X n:=fun n=>by
  unfold nodeJ nodeFineB
  rw [nodeJB_eq hg]
  split <;> simp_all
 simp only [Bool.and_eq_true,range_all_iff,decide_eq_true_eq,lookRow,fineR,fineW,hn,wireJ_eq hg]
 constructor
 ·rintro ⟨h1,h2⟩
  refine ⟨⟨h1,fun n hn=>⟨(h2 n (by omega)).1.1,(h2 n (by omega)).1.2⟩⟩,fun n hn k hk=>?_⟩
  obtain ⟨⟨h3,_⟩,h4⟩:=h2 n (by omega)
  exact h4 k (by omega)
 ·rintro ⟨⟨h1,h2⟩,h3⟩
  exact ⟨h1,fun n hn=>⟨h2 n (by omega),fun k hk=>h3 n (by omega) k (by have:=(h2 n (by omega)).1;omega)⟩⟩
theorem errX_look (X:Wd):errX X = if gErr X.nodes.length X.groups = 0 then lookR X else gErr X.nodes.length X.groups:=by
 unfold errX
 split
 ·rename_i hg
  unfold lookR
  rw [lookOk_eq hg]
 ·rfl
end Go.Proofs.YtnalakhelicjcaaGreatDoor
set_option maxRecDepth 100000
namespace Go.Proofs.YtnalakhelicjcaaGreatDoor
open Go.RowKit Go.Shelf Go.BigFrame
theorem assert_wrong (W:World) (v:Value):(Instr.typeAssert (.iface 168 v) 20 168 true).run Tryz.prog W = .ok (.tuple #[v, .bool true]) W:=by kernel_rfl
theorem assert_nil (W:World):(Instr.typeAssert .nilIface 20 168 true).run Tryz.prog W = .ok (.tuple #[.agg #[.int .i64 0], .bool false]) W:=by kernel_rfl
theorem catch_p (p:Addr) (x r:Int) (older:List PanicEntry) (w:World) (hc:w.cell? p = some (.int .i64 x)) (hz:w.frozen? p = false) (hb:p.block < w.heap.size) :
  CallsD Tryz.prog 141 #[.pointer (some p)] (.panicking ({ v:=.iface 168 (.agg #[.int .i64 r]),recovered:=false } :: older)) w fun e u' w' =>
   e = .returned (.tuple #[]) ∧ u' = .panicking ({ v:=.iface 168 (.agg #[.int .i64 r]),recovered:=true } :: older) ∧ w' = (w.alloc (.cells #[.int .i64 r] 168)).setCell p (.int .i64 r):=by
 refine callsD_of_wpS Tryz.func141 rfl fun c₀ cs hu=>?_
 apply wpS_seq
 apply wpS_region
 simp [wpOpsS,go_sem,recoverD,hu,Tryz.ntmps141,Exit.thenS]
 refine wpS_of_wp ?_
 have ht:(#[Value.pointer (some p)] ++ ((Array.replicate 15 undef).setIfInBounds 3 (.iface 168 (.agg #[.int .i64 r]))).setIfInBounds 0 (.iface 168 (.agg #[.int .i64 r])):Array Value) =
   #[.pointer (some p), .iface 168 (.agg #[.int .i64 r]),undef,undef, .iface 168 (.agg #[.int .i64 r]),undef,undef,undef,undef,undef,undef,undef,undef,undef,undef,undef]:=by simp [Array.replicate]
 rw [ht]
 clear ht
 have hlt:(w.alloc (.cells #[.int .i64 r] 168)).cell? p = some (.int .i64 x):=(World.cell?_of_block (w:=w) (Go.Deep.blk_alloc_lt _ _ _ hb)).trans hc
 have hta:=assert_wrong
 have hzt:(w.alloc (.cells #[.int .i64 r] 168)).frozen? p = false:=((below_a1 w (.cells #[.int .i64 r] 168)).frozen hb).trans hz
 go_wp2_with fail
 simp [bodyPostS,results,Tryz.results141]
theorem catch_i (p:Addr) (w:World) :
  CallsD Tryz.prog 141 #[.pointer (some p)] .returning w fun e u' w'=>e = .returned (.tuple #[]) ∧ u' = .returning ∧ w' = w.alloc (.cells #[.int .i64 0] 168):=by
 refine callsD_of_wpS Tryz.func141 rfl fun c₀ cs hu=>?_
 apply wpS_seq
 apply wpS_region
 simp [wpOpsS,go_sem,recoverD,hu,Tryz.ntmps141,Exit.thenS]
 refine wpS_of_wp ?_
 have ht:(#[Value.pointer (some p)] ++ ((Array.replicate 15 undef).setIfInBounds 3 .nilIface).setIfInBounds 0 .nilIface:Array Value) =
   #[.pointer (some p), .nilIface,undef,undef, .nilIface,undef,undef,undef,undef,undef,undef,undef,undef,undef,undef,undef]:=by simp [Array.replicate]
 rw [ht]
 clear ht
 have hta:=assert_nil
 go_wp2_with fail
 cases c₀
 simp_all [bodyPostS,results,Tryz.results141]
theorem WCheck_c {w:World} {v:Value} {X:Wd} (h:WorldAt w v X):Calls Tryz.prog 120 #[v] w (GivesB (.int .i64 (errX X)) w):=by
 obtain ⟨gv,nv,wv,rfl,hg,hn,hw⟩:=h
 obtain ⟨hnl,na,ncap,rfl,_⟩:=hn.form
 obtain ⟨hgl,ga,gcap,rfl,_⟩:=hg.open
 obtain ⟨hwl,wa,wcap,rfl,_⟩:=hw.form
 have hmf:∀ (fn:Fn) (first cap:Array Value) (w:World),(Instr.makeFunc fn first cap).run Tryz.prog w = .ok (.func fn first cap) w:=fun _ _ _ _=>rfl
 obtain ⟨w1,hw1⟩:∃ w1,w1 = w.alloc (.cells #[.slice ga X.groups.length gcap, .slice na X.nodes.length ncap, .slice wa X.wires.length wcap] 35):=⟨_,rfl⟩
 obtain ⟨w2,hw2⟩:∃ w2,w2 = w1.alloc (.cells #[.int .i64 0] 23):=⟨_,rfl⟩
 have hB1:WBox w1 w.heap.size (.slice ga X.groups.length gcap) (.slice na X.nodes.length ncap) (.slice wa X.wires.length wcap):=hw1 ▸ WBox.new w _ _ _ 35
 have hA1:Below w.heap.size w w1:=hw1 ▸ below_a1 w _
 have hs1:w1.heap.size = w.heap.size + 1:=by rw [hw1,World.size_alloc]
 have hb2:Below w1.heap.size w1 w2:=hw2 ▸ below_a1 w1 _
 have hs2:w2.heap.size = w.heap.size + 2:=by rw [hw2,World.size_alloc,hs1]
 have hB:=hB1.below hb2 (by omega)
 have hA:=below_trans hA1 hb2
 have hR:BlkIs w2 (w.heap.size + 1) 23 1:=by
  refine ⟨#[.int .i64 0], ?_,rfl⟩
  rw [hw2, ← hs1]
  exact heap_alloc_new w1 _
 have hR0:w2.cell? ⟨w.heap.size + 1,0,none⟩ = some (.int .i64 0):=by rw [hw2, ← hs1];simp
 have hE:=Lib.hid (show w2 = (w.alloc (.cells #[.slice ga X.groups.length gcap, .slice na X.nodes.length ncap, .slice wa X.wires.length wcap] 35)).alloc (.cells #[.int .i64 0] 23) by rw [hw2,hw1])
 clear hw1 hw2 hB1 hA1 hs1 hb2
 replace hs2:=Lib.hid hs2
 have hC:=Check_c (hg.below hA) (X.nodes.length:Int)
 have hX:=errX_look X
 obtain ⟨P,hP⟩:∃ P,GivesB (.int .i64 (errX X)) w = P:=⟨_,rfl⟩
 rw [hP]
 rw [hX] at hP
 clear hX
 obtain ⟨x0,x1,x2⟩:=hB
 obtain ⟨e0,he0⟩:∃ e0,gErr X.nodes.length X.groups = e0:=⟨_,rfl⟩
 rw [he0] at hC hP
 replace he0:=Lib.hid he0
 have hf0:=hR.frozen 0
 go_enter_defers Tryz.func120,Tryz.ntmps120
 go_upto_region 1 with fail
 rw [← hE.out]
 clear hE
 go_wp2_with fail
 refine hC.mono ?_
 rintro e w3 ⟨rfl,hb3⟩
 have hw3:=below_trans hA hb3
 have hR3:=hR.same (hb3.block _ hR.lt)
 have r0:=(hb3.cell (p:=⟨w.heap.size + 1,0,none⟩) hR.lt).trans hR0
 have hf3:=hR3.frozen 0
 have hbx:w.heap.size < w2.heap.size:=by have:=hs2.out;omega
 obtain ⟨q0,q1,q2⟩:w3.cell? ⟨w.heap.size,0,none⟩ = _ ∧ w3.cell? ⟨w.heap.size,1,none⟩ = _ ∧ w3.cell? ⟨w.heap.size,2,none⟩ = _:=⟨(hb3.cell (p:=⟨w.heap.size,0,none⟩) hbx).trans x0,(hb3.cell (p:=⟨w.heap.size,1,none⟩) hbx).trans x1,(hb3.cell (p:=⟨w.heap.size,2,none⟩) hbx).trans x2⟩
 by_cases hz:e0 = 0
 ·rw [if_pos hz] at hP
  subst hz
  have hL:=look_c (hg.below hw3) (hn.below hw3) (hw.below hw3)
  generalize lookR X = r at *
  replace hP:=Lib.hid hP
  go_wp2_with fail
  refine hL.mono ?_
  rintro e w4 ⟨h,hb4⟩
  have hw4:=below_trans hw3 hb4
  have hR4:=hR3.same (hb4.block _ hR3.lt)
  have s0:=(hb4.cell (p:=⟨w.heap.size + 1,0,none⟩) hR3.lt).trans r0
  have hf4:=hR4.frozen 0
  rcases h with ⟨h,rfl⟩ | ⟨h,rfl⟩
  ·subst h
   have hc9:=hR4.cell_set (a:=0) (u:=.int .i64 0) (by omega)
   have hlt9:w.heap.size + 1 < (w4.setCell ⟨w.heap.size + 1,0,none⟩ (.int .i64 0)).heap.size:=by rw [Go.Deep.nblk_setCell];exact hR4.lt
   go_wp2_with fail
   refine leaves_cons (f:=141) (args:=#[.pointer (some ⟨w.heap.size + 1,0,none⟩)]) (by simp) (by simp [go_sem]) ?_
   refine (catch_i _ _).mono ?_
   rintro e u' w'' ⟨rfl,rfl,rfl⟩
   have hc10:=(World.cell?_of_block (w:=w4.setCell ⟨w.heap.size + 1,0,none⟩ (.int .i64 0)) (a:=⟨w.heap.size + 1,0,none⟩) (Go.Deep.blk_alloc_lt _ (.cells #[.int .i64 0] 168) _ hlt9)).trans hc9
   simp only [Leaves,settle]
   refine ⟨.int .i64 0, ?_, ?_⟩
   ·simp [results,Tryz.f120]
    go_simp
   ·rw [← hP.out]
    exact ⟨rfl,below_trans (below_setCell hw4 (Nat.le_succ _) _) (below_a1 _ _)⟩
  ·replace h:=Lib.hid h
   go_wp2_with fail
   refine leaves_cons (f:=141) (args:=#[.pointer (some ⟨w.heap.size + 1,0,none⟩)]) (by simp) (by simp [go_sem]) ?_
   refine (catch_p ⟨w.heap.size + 1,0,none⟩ 0 r [] w4 s0 hf4 hR4.lt).mono ?_
   rintro e u' w'' ⟨rfl,rfl,rfl⟩
   have hR5:=hR4.same (Go.Deep.blk_alloc_lt w4 (.cells #[.int .i64 r] 168) _ hR4.lt)
   have hc9:=hR5.cell_set (a:=0) (u:=.int .i64 r) (by omega)
   simp only [Leaves,settle,List.dropWhile]
   refine ⟨.int .i64 r, ?_, ?_⟩
   ·simp [results,Tryz.f120]
    go_simp
   ·rw [← hP.out]
    exact ⟨rfl,below_setCell (below_trans hw4 (below_a1 _ _)) (Nat.le_succ _) _⟩
 ·rw [if_neg hz] at hP
  have hne:(e0 != 0) = true:=by simpa using hz
  replace hz:=Lib.hid hz
  replace hP:=Lib.hid hP
  have hc9:=hR3.cell_set (a:=0) (u:=.int .i64 e0) (by omega)
  go_wp2_with fail
  simp only [bodyPostD,Leaves]
  refine ⟨.int .i64 e0, ?_, ?_⟩
  ·simp [results,Tryz.f120]
   go_simp
  ·rw [← hP.out]
   exact ⟨rfl,below_setCell hw3 (Nat.le_succ _) _⟩
end Go.Proofs.YtnalakhelicjcaaGreatDoor
