/-
  A region that draws its order and only reads, but for calls that make memory: a fact on memory holds behind every operation. Nothing of a program.
-/
import Derived.Test.YtnalakhelicjcaaGreatDoorZDm3
import Derived.RangeFuncCalls
import Derived.OwnWalkIn
set_option maxRecDepth 100000
namespace Go.Proofs.YtnalakhelicjcaaGreatDoor
open Go.RowKit Go.Shelf Go.BigFrame Go.Deep
section
variable {P:Program} {ops:Array Oper} {Q:Exit → Act → World → Prop} {md:Region.Mode} {S:World → Prop} {n:Nat}
theorem wpAnyN_firstA {i:Nat} {oi:Oper} {v:Value} (hi:ops[i]? = some oi) (hsel:∀ (j:Nat) (o:Oper) cs b,ops[j]? = some o → o.op ≠ .select cs b) (hn:ops.size ≤ n)
  (hQ:∀ c a w,Q (.panic c) (a.put oi.dst v) w → Q (.panic c) a w) :
  ∀ (fuel:Nat) (listed:Array Bool) (a:Act) (w:World),
   (∀ j oj,ops[j]? = some oj → j ≠ i → listed.getD j true = false → (∀ e ∈ oj.after,Region.binds md e = true → e.on ≠ i) → oi.apart ops oj = true) →
   i ∈ Region.ready md ops listed → YieldsIf P ops S oi v a → S w →
   wpAnyN P md ops Q S n fuel (listed.setIfInBounds i true) (a.put oi.dst v) w → wpAnyN P md ops Q S n (fuel + 1) listed a w:=by
 intro fuel
 induction fuel with
 | zero =>
  intro listed a w _ hr hy hS H
  refine ⟨fun h=>(by rw [h] at hr;cases hr),fun j hj=>?_⟩
  by_cases hji:j = i
  ·subst hji;exact hy.wpOp hi hS ⟨fun _=>hS,H⟩
  ·have:=ready_mono hj hji
   rw [H.1] at this
   cases this
 | succ fuel ih =>
  intro listed a w hfree hr hy hS H
  have hun:=(mem_ready.1 hr).1
  refine ⟨fun h=>(by rw [h] at hr;cases hr),fun j hj=>?_⟩
  by_cases hji:j = i
  ·subst hji;exact hy.wpOp hi hS ⟨fun _=>hS,H⟩
  ·have h1:=H.2 j (ready_mono hj hji)
   obtain ⟨hjun,oj,hoj,hall⟩:=mem_ready.1 hj
   have hjn:j < n:=Nat.lt_of_lt_of_le (Array.getElem?_eq_some_iff.1 hoj).1 hn
   have hnot:∀ e ∈ oj.after,Region.binds md e = true → e.on ≠ i:=fun e he hb heq=>by
    have h1:=hall e he hb
    rw [heq,getD_both hun] at h1
    cases h1
   have h2:=wpOp_putIf hoj (hfree j oj hoj hji hjun hnot) (fun cs b=>hsel i oi cs b hi) (fun cs b=>hsel j oj cs b hoj) hQ hy h1
   have hfree':∀ k ok,ops[k]? = some ok → k ≠ i → (listed.setIfInBounds j true).getD k true = false →
     (∀ e ∈ ok.after,Region.binds md e = true → e.on ≠ i) → oi.apart ops ok = true:=fun k ok hk hki hun hno=>by
    refine hfree k ok hk hki ?_ hno
    by_cases hjk:j = k
    ·subst hjk;exact hjun
    ·rw [getD_set_ne true hjk] at hun;exact hun
   refine wpOp_mono (fun a' w' h3=>⟨fun _=>h3.2.1 hjn,ih (listed.setIfInBounds j true) a' w' hfree' (ready_mono hr (Ne.symm hji)) h3.1 (h3.2.1 hjn) ?_⟩) h2
   rw [Array.setIfInBounds_comm _ _ hji]
   exact h3.2.2
def takeAB (md:Region.Mode) (ops:Array Oper) (n:Nat) (listed:Array Bool) (i:Nat):Bool:=
 Region.noSelect ops && Region.free md ops listed i && (Region.ready md ops listed).contains i && decide (ops.size ≤ n)
theorem tka {l:List Oper} (i:Nat) {oi:Oper} {d:Option Tmp} (v:Value) {fuel:Nat} {listed:Array Bool} {a:Act} {w:World} (hi:l[i]? = some oi) (hd:oi.dst = d) (hB:takeAB md l.toArray n listed i = true)
  (hy:YieldsIf P l.toArray S oi v a) (hS:S w) (h:wpAnyN P md l.toArray Q S n fuel (listed.setIfInBounds i true) (a.put d v) w)
  (hQ:∀ c a w,Q (.panic c) (a.put d v) w → Q (.panic c) a w:=by exact fun _ _ _ h=>h):wpAnyN P md l.toArray Q S n (fuel + 1) listed a w:=by
 subst hd
 have hi':l.toArray[i]? = some oi:=by simpa using hi
 simp only [takeAB,Bool.and_eq_true,decide_eq_true_eq] at hB
 obtain ⟨⟨⟨b1,b2⟩,b3⟩,b4⟩:=hB
 exact wpAnyN_firstA hi' (Region.noSelect_spec b1) b4 hQ fuel listed a w (Region.free_spec hi' b2) (by simpa using b3) hy hS h
end
end Go.Proofs.YtnalakhelicjcaaGreatDoor
set_option maxRecDepth 100000
namespace Go.Proofs.YtnalakhelicjcaaGreatDoor
open Go.RowKit Go.Shelf Go.BigFrame Go.Deep
theorem infoStr:(Tryz.prog.info? 9).map (fun i=>(i.zero,i.size,i.bytes)) = some (some (.string ByteArray.empty),1,16):=by kernel_rfl
theorem join_len (sep:List UInt8) {k:Nat}:∀ (l:List (List UInt8)),(∀ s ∈ l,s.length ≤ k) → (Lib.join l sep).length ≤ l.length * (k + sep.length)
 | [],_=>by simp [Lib.join]
 | [a],h=>by
  have:=h a (by simp)
  simp [Lib.join]
  omega
 | a :: b :: l,h=>by
  have ih:=join_len sep (b :: l) (fun s hs=>h s (by simp [hs]))
  have h0:=h a (by simp)
  have e:Lib.join (a :: b :: l) sep = a ++ (sep ++ Lib.join (b :: l) sep):=by simp [Lib.join,List.intercalate,List.intersperse]
  rw [e,List.length_append,List.length_append]
  simp only [List.length_cons] at ih ⊢
  rw [Nat.add_mul]
  omega
theorem told_small {X:Wd} (h:Right X) {n:Nat} (hn:n < X.nodes.length):∀ m ∈ (X.nodes.getD n N.zero).told,m.body.size ≤ 8:=fun m hm=>by
 have h1:=((h.node n hn).told.fine m hm).2.1
 unfold msgE at h1
 rw [if_pos h.grp] at h1
 unfold rightE at h1
 split at h1
 ·split at h1
  ·split at h1
   ·cases h1
   ·omega
  ·cases h1
 ·cases h1
set_option maxHeartbeats 2000000 in
theorem dtold_c {w:World} {T q o c:Nat} {X:Wd} {a:List UInt8} (hv:Vars w) (hT:TabAt w T X) (hRX:Right X) (hl:Strs w q o [a]) (ha:a.length ≤ 1000000) :
  Calls Tryz.prog 58 #[.pointer (some ⟨T,0,none⟩), .slice (some ⟨q,o,none⟩) 1 c] w (MPost w T (execB X (cmdT a))):=by
 have hN:=fun (o':World) (k:Below w.heap.size w o')=>dnode_c (hv.next k) (hT.below k) a ha
 have hcm:cmdT a = match numB a with | some x=>Cmd.told x | _=>.bad:=rfl
 obtain ⟨ra,hra⟩:∃ r,numB a = r:=⟨_,rfl⟩
 simp only [hra] at hN
 rw [hra] at hcm
 rw [hcm]
 clear hra hcm
 obtain ⟨r,hr⟩:∃ r,execB X (match ra with | some x=>Cmd.told x | _=>Cmd.bad) = r:=⟨_,rfl⟩
 rw [hr]
 obtain ⟨P,hP⟩:∃ P,MPost w T r = P:=⟨_,rfl⟩
 rw [hP]
 replace hP:=Lib.hid hP
 replace hr:=Lib.hid hr
 have c0:w.cell? ⟨q,o,none⟩ = some (.string (strB a)):=hl.2 0 a rfl
 have hql:=hl.1
 obtain ⟨gv,nv,wv,S0,hB,hO,hS⟩:=id hT
 obtain ⟨pg,pn,pw⟩:=hO.parts
 obtain ⟨_,na,ncap,rfl,_⟩:=pn.form
 obtain ⟨_,x0,x1,x2⟩:=id hB
 have hTl:=hB.lt
 have hSB:∀ o':World,Below w.heap.size w o' → o'.cell? ⟨q,o,none⟩ = some (.string (strB a)) ∧ o'.cell? ⟨T,1,none⟩ = some (.slice na X.nodes.length ncap):=fun o' k=>⟨(k.cell hql).trans c0,(k.cell hTl).trans x1⟩
 replace hT:=Lib.hid hT
 replace hN:=Lib.hid hN
 clear x0 x1 x2 hB hO hS pg c0
 obtain ⟨i0,hi0,hz0,hz1,hz2⟩:=info_parts infoStr
 go_enter Tryz.func58,Tryz.ntmps58
 go_upto_region 2 with fail
 refine wp_region_N (fun o'=>o'.cell? ⟨q,o,none⟩ = some (.string (strB a)) ∧ o'.cell? ⟨T,1,none⟩ = some (.slice na X.nodes.length ncap)) 15 15 rfl (by kernel_rfl) (hSB _ (below_drewN w 1)) (fun hSw=>?_)
 refine tka 0 ?_ rfl rfl (by kernel_rfl) (.inl ⟨by rfl, ?_⟩) hSw ?_
 rotate_left
 ·rintro w ⟨s0,s1⟩;go_simp;try with_reducible rfl
 simp only [tkp,tkz,tks]
 refine tka 1 ?_ rfl rfl (by kernel_rfl) (.inl ⟨by rfl, ?_⟩) hSw ?_
 rotate_left
 ·rintro w ⟨s0,s1⟩;go_simp;try with_reducible rfl
 simp only [tkp,tkz,tks]
 refine tka 2 ?_ rfl rfl (by kernel_rfl) (.inl ⟨by rfl, ?_⟩) hSw ?_
 rotate_left
 ·rintro w ⟨s0,s1⟩;go_simp;try with_reducible rfl
 simp only [tkp,tkz,tks]
 refine tka 3 ?_ rfl rfl (by kernel_rfl) (.inl ⟨by rfl, ?_⟩) hSw ?_
 rotate_left
 ·rintro w ⟨s0,s1⟩;go_simp;try with_reducible rfl
 simp only [tkp,tkz,tks]
 refine tka 4 ?_ rfl rfl (by kernel_rfl) (.inl ⟨by rfl, ?_⟩) hSw ?_
 rotate_left
 ·rintro w ⟨s0,s1⟩;go_simp;try with_reducible rfl
 simp only [tkp,tkz,tks]
 refine tka 5 ?_ rfl rfl (by kernel_rfl) (.inl ⟨by rfl, ?_⟩) hSw ?_
 rotate_left
 ·rintro w ⟨s0,s1⟩;go_simp;try with_reducible rfl
 simp only [tkp,tkz,tks]
 refine tka 6 ?_ rfl rfl (by kernel_rfl) (.inl ⟨by rfl, ?_⟩) hSw ?_
 rotate_left
 ·rintro w ⟨s0,s1⟩;go_simp;try with_reducible rfl
 simp only [tkp,tkz,tks]
 refine tka 7 ?_ rfl rfl (by kernel_rfl) (.inl ⟨by rfl, ?_⟩) hSw ?_
 rotate_left
 ·rintro w ⟨s0,s1⟩;go_simp;try with_reducible rfl
 simp only [tkp,tkz,tks]
 refine tka 8 ?_ rfl rfl (by kernel_rfl) (.inl ⟨by rfl, ?_⟩) hSw ?_
 rotate_left
 ·rintro w ⟨s0,s1⟩;go_simp;try with_reducible rfl
 simp only [tkp,tkz,tks]
 refine tka 14 ?_ rfl rfl (by kernel_rfl) (.inl ⟨by rfl, ?_⟩) hSw ?_
 rotate_left
 ·rintro w ⟨s0,s1⟩;go_simp;try with_reducible rfl
 simp only [tkp,tkz,tks]
 refine N_one' (i:=9) (by kernel_rfl) rfl ?_
 go_wp2_with fail
 refine (hN.out _ (below_drewN w 1)).mono ?_
 rintro e w1 ⟨b1,⟨n,rfl,hn,rfl⟩ | ⟨n,rfl,hn,rfl⟩ | ⟨rfl,rfl⟩⟩
 rotate_left
 ·have b1:=below_trans (below_drewN w 1) b1
  have e1:execB X (.told n) = (4,[],X):=if_neg hn
  have hr':=hr.out
  dsimp only at hr'
  rw [e1] at hr'
  replace hn:=Lib.hid hn
  clear e1
  go_wp2_with fail
  rw [← hP.out, ← hr']
  exact ⟨rfl,Save.of b1,hT.out.below b1,Or.inr ⟨by show (4:Int) ≠ 0;decide,rfl⟩⟩
 ·have b1:=below_trans (below_drewN w 1) b1
  have hr':=hr.out
  go_wp2_with fail
  rw [← hP.out, ← hr']
  exact ⟨rfl,Save.of b1,hT.out.below b1,Or.inr ⟨by show (1:Int) ≠ 0;decide,rfl⟩⟩
 have b1:=below_trans (below_drewN w 1) b1
 have e1:execB X (.told n) = (0,toldB (X.nodes.getD n N.zero).told,X):=if_pos hn
 have hr':=hr.out
 dsimp only at hr'
 rw [e1] at hr'
 clear e1 hr
 obtain ⟨B4,o4,c4,lv,hv5,tv,hnv,hc1,k0,k1,k2,k3,hcl,hr4,hh4,ht4⟩:=(pn.below b1).at hn
 cases hnv
 have hl6:=(node_lists hRX hn).2
 have hsm:=told_small hRX hn
 obtain ⟨lt,hlt⟩:∃ lt,(X.nodes.getD n N.zero).told = lt:=⟨_,rfl⟩
 rw [hlt] at hr' ht4 hl6 hsm
 obtain ⟨_,ta,tcap,rfl,htc⟩:=ht4.open
 replace hr':=Lib.hid hr'
 replace hsm:=Lib.hid hsm
 replace htc:=Lib.hid htc
 clear hlt k0 k1 k2 hcl hr4 hh4 ht4 hc1 hRX pn
 have k3':=k3
 have e4:n * 4 + 3 + o4 = o4 + n * 4 + 3:=by omega
 go_wp2_with fail
 refine QK_normal ⟨fun _=>hSB _ b1, ?_⟩
 refine N_one' (i:=10) (by kernel_rfl) rfl ?_
 go_wp2_with fail
 refine QK_normal ⟨fun _=>hSB _ b1, ?_⟩
 refine N_one' (i:=11) (by kernel_rfl) rfl ?_
 go_wp2_with fail
 refine QK_normal ⟨fun _=>hSB _ b1, ?_⟩
 refine N_one' (i:=12) (by kernel_rfl) rfl ?_
 go_wp2_with fail
 refine QK_normal ⟨fun _=>hSB _ b1, ?_⟩
 refine N_one' (i:=13) (by kernel_rfl) rfl ?_
 go_wp2_with fail
 refine QK_normal ⟨fun _=>hSB _ b1, ?_⟩
 refine ⟨by kernel_rfl, ?_⟩
 have hTl1:T < w1.heap.size:=Nat.lt_of_lt_of_le hTl b1.size
 have hB4l:=cell_lt k3
 dsimp only at hB4l
 clear hSw hSB e4 k3'
 go_wp2_with fail
 go_loopw [5,22] (fun o i wr=>∃ k:Nat,k ≤ lt.length ∧ i = .int .i64 k ∧ wr.ownsRow w1.heap.size 9 1 o k ((lt.take k).map fun m=>.string m.body) ∧ Below w1.heap.size w1 wr) (fun _ i _=>lt.length - (intOf i).toNat)
 case atStart=>exact ⟨0,by omega,rfl,World.ownsRow_nil _ _ _ _,Below.refl _ _⟩
 case round =>
  obtain ⟨k,hk,rfl,ho,hb⟩:=hrel
  obtain ⟨a9,c9,rfl⟩:=own_form ho
  by_cases hlt:k < lt.length
  ·obtain ⟨_,hcc⟩:=htc.out
   obtain ⟨bm,om,rfl,hun⟩:=hcc (by intro e;rw [e] at hlt;simp at hlt)
   obtain ⟨m0,m1,m2,m3,m4⟩:=(hun k hlt).below hb
   obtain ⟨m,HM⟩:∃ m,lt.getD k M.zero = m:=⟨_,rfl⟩
   have htk:(lt.take (k + 1)).map (fun m=>Value.string m.body) = (lt.take k).map (fun m=>Value.string m.body) ++ [.string m.body]:=by
    rw [List.take_succ_eq_append_getElem hlt,List.map_append, ← HM,getD_lt lt M.zero hlt]
    rfl
   rw [HM] at m0 m1 m2 m3 m4
   clear hcc hun HM
   have hk1:decide ((k:Int) < 0) = false:=by simp
   have hk2:decide (lt.length ≤ k) = false:=by simp;omega
   have hs5:=hb.size
   have hbx:(wr.alloc (.cells #[.int .i64 m.src, .int .i64 m.grp, .int .i64 m.stamp, .bool m.null, .string m.body] 96)).cell? ⟨wr.heap.size,4,none⟩ = some (.string m.body):=cells_new wr #[.int .i64 m.src, .int .i64 m.grp, .int .i64 m.stamp, .bool m.null, .string m.body] 96 4 _ rfl
   have ho5:=ho.alloc (.cells #[.int .i64 m.src, .int .i64 m.grp, .int .i64 m.stamp, .bool m.null, .string m.body] 96)
   have hb5:=hb.alloc hs5 (.cells #[.int .i64 m.src, .int .i64 m.grp, .int .i64 m.stamp, .bool m.null, .string m.body] 96)
   replace htk:=Lib.hid htk
   go_upto_region 5 with fail
   generalize wr.alloc (.cells #[.int .i64 m.src, .int .i64 m.grp, .int .i64 m.stamp, .bool m.null, .string m.body] 96) = w5 at *
   have hs5:=hb5.size
   clear m0 m1 m2 m3 m4 hb ho
   go_wp2_with (at_builtin;refine wpList_append_own _ rfl _ _ 80 rfl w1.heap.size 9 i0 _ 1 16 Tryz.underlying80 hi0 hz0 hz1 hz2 rfl (by decide) _ _ _ rfl (ho5.alloc _) ⟨w5.heap.size,0,none⟩ 1 1 [.string m.body] rfl rfl (cells_new w5 #[.string m.body] _) (by simp [Value.oneCell']) (by unfold maxLen;omega) (by omega) (by simp;omega) ?_;intro v' w6 hown' hgrow _)
   go_roundw
   case rel=>exact ⟨k + 1,by omega,by go_num,by rw [htk.out];exact hown',below_app hb5 ho5 (by omega) hgrow⟩
   case measure=>simp [intOf];omega
  ·obtain rfl:k = lt.length:=by omega
   rw [List.take_length] at ho
   have bw:=below_trans b1 hb
   by_cases h0:lt = []
   ·have ht0:toldB lt = [45]:=if_pos h0
    have hz0:lt.length = 0:=by rw [h0];rfl
    rw [ht0] at hr'
    clear h0
    simp only [hz0]
    go_wp2_with fail
    rw [← hP.out, ← hr'.out]
    exact ⟨Save.of bw,hT.out.below bw,Or.inl ⟨rfl,rfl⟩⟩
   ·have hlen0:lt.length ≠ 0:=fun h=>h0 (List.length_eq_zero_iff.1 h)
    have hq:((lt.length:Int) == 0) = false:=by simp;exact h0
    obtain ⟨g,rfl⟩:∃ g,a9 = some ⟨g,0,none⟩:=by
     rcases ho.2 with ⟨h1,h2⟩ | ⟨g,cap,cur,h1,_⟩
     ·exact absurd h2 hlen0
     ·cases h1;exact ⟨g,rfl⟩
    have hJ:Calls Tryz.prog 80 #[.slice (some ⟨g,0,none⟩) lt.length c9, .string ⟨#[32]⟩] wr fun e w'=>e = .returned (.string (strB (toldB lt))) ∧ Below wr.heap.size wr w':=by
     have hcell:∀ (j:Nat) x,(lt.map (·.body))[j]? = some x → wr.cell? ⟨g,0 + j,none⟩ = some (.string x):=fun j x hx=>by
      have h9:=ho.cells rfl j (.string x) (by rw [List.getElem?_map] at hx ⊢;obtain ⟨m,h1,h2⟩:=Option.map_eq_some_iff.1 hx;rw [h1, ← h2];rfl)
      have h8:(⟨g,0,none⟩:Addr).add j = ⟨g,0 + j,none⟩:=by
       cases j <;> simp [Addr.add]
      rw [h8] at h9
      exact h9
     have hg:g < wr.heap.size:=by
      obtain ⟨m,l2,e⟩:=List.exists_cons_of_ne_nil h0
      have:=cell_lt (hcell 0 m.body (by rw [e];rfl))
      exact this
     have hjl:(Lib.join ((lt.map (·.body)).map (·.data.toList)) [32]).length ≤ 140737488355328:=by
      have:=join_len (k:=8) [32] ((lt.map (·.body)).map (·.data.toList)) (fun s hs=>by
       obtain ⟨b,hb,rfl⟩:=List.mem_map.1 hs
       obtain ⟨m,hm,rfl⟩:=List.mem_map.1 hb
       exact hsm.out m hm)
      rw [List.length_map,List.length_map] at this
      simp only [List.length_cons,List.length_nil] at this
      omega
     have hcap:lt.length ≤ c9:=by
      rcases ho.2 with ⟨h1,h2⟩ | ⟨g,cap,cur,h1,h2,h3,h4,_⟩
      ·exact absurd h2 hlen0
      ·cases h1;exact h4
     have h:=Tryz.strings_Join g 0 c9 (lt.map (·.body)) ⟨#[32]⟩ wr hcell hg (by rw [List.length_map];omega) (by rw [List.length_map];exact hcap) hjl
     rw [List.length_map] at h
     refine h.mono ?_
     rintro e w' ⟨rfl,b⟩
     refine ⟨?_,b⟩
     unfold toldB
     rw [if_neg h0,List.map_map]
     rfl
    clear ho h0
    go_wp2_with fail
    refine hJ.mono ?_
    clear hJ
    rintro e w7 ⟨rfl,b7⟩
    have bw7:=below_trans bw b7
    go_wp2_with fail
    rw [← hP.out, ← hr'.out]
    exact ⟨Save.of bw7,hT.out.below bw7,Or.inl ⟨rfl,rfl⟩⟩
end Go.Proofs.YtnalakhelicjcaaGreatDoor
set_option maxRecDepth 100000
namespace Go.Proofs.YtnalakhelicjcaaGreatDoor
open Go.RowKit
section
variable {P:Program} {ops:Array Oper} {Q:Exit → Act → World → Prop} {md:Region.Mode} {S:World → Prop} {n l:Nat}
def plainB (ops:Array Oper):Bool:=ops.toList.all fun o=>match o.op with
 | .defer _=>false
 | _=>true
theorem plainB_spec (h:plainB ops = true) {i:Nat} {o:Oper} (ho:ops[i]? = some o):∀ c,o.op ≠ .defer c:=fun c e=>by
 have hm:o ∈ ops.toList:=by
  rw [Array.mem_toList_iff]
  exact Array.mem_of_getElem? ho
 have:=List.all_eq_true.1 h o hm
 rw [e] at this
 cases this
theorem wpOpIn_of (hQ:¬ LetsOut Q) (hp:plainB ops = true) {i:Nat} {K K':Act → World → Prop} (hK:∀ a w,K a w → K' a w) {a:Act} {w:World} (h:wpOp P ops Q i K a w):wpOpIn (Fence.wide.inRound l) n P ops Q i K' a w:=by
 unfold wpOp at h
 unfold wpOpIn
 cases ho:ops[i]? with
 | none =>
  simp only [ho] at h ⊢
  exact hK _ _ h
 | some o =>
  simp only [ho] at h ⊢
  by_cases hw:Region.wanted o (yielded ops a.tmps) = true
  ·rw [if_pos hw] at h ⊢
   have h:=h.resolve_right (fun k=>hQ k.2)
   refine ⟨fun f _=>trivial, ?_⟩
   rw [Oper.semAt_eq _ _ _ (plainB_spec hp ho)]
   unfold Oper.wp at h
   generalize (execOp a.eval o).run P w = r at *
   cases r with
   | ok x w' =>
    cases x
    case value v=>exact hK _ _ h
    case skip=>exact hK _ _ h
    case defer d=>exact hK _ _ h
    case enter f args =>
     refine ⟨fun hs=>(by cases hs),(callsIn_wide.2 (Calls.mono h (fun e w'' he=>?_))).inRound l⟩
     cases e with
     | returned v=>exact hK _ _ he
     | panicked c=>exact he
     | outgrown=>exact he
    case row r args =>
     refine ⟨fun hs=>(by cases hs),fun c cs _=>?_⟩
     obtain ⟨v,w2,r2,st⟩:=h c cs
     exact ⟨v,w2,hK _ _ r2,stepsIn_wide.2 st⟩
    all_goals exact h.elim
   | halt x w'=>cases x <;> exact h
  ·rw [if_neg hw] at h ⊢
   exact ⟨fun f _=>trivial,hK _ _ h⟩
theorem wpAnyIn_of (hQ:¬ LetsOut Q) (hp:plainB ops = true):∀ (fuel:Nat) (listed:Array Bool) (a:Act) (w:World),wpAny P md ops Q fuel listed a w → wpAnyIn (Fence.wide.inRound l) n P md ops Q fuel listed a w
 | 0,_,_,_,h=>h
 | fuel + 1,_,_,_,h=>⟨h.1,fun i hi=>wpOpIn_of hQ hp (fun a w k=>wpAnyIn_of hQ hp fuel _ a w k) (h.2 i hi)⟩
theorem wp_region_R {id:Nat} {a:Act} {w:World} {k:Nat} (S:World → Prop) (n f:Nat) (hf:ops.size = f) (hm:P.follows .mixedOrders = true) (hp:plainB ops = true) (hQ:¬ LetsOut Q) (hS:S w.drew)
  (h:S w.drew → wpAnyN P .any ops Q S n f (Array.replicate f false) a w.drew):(Code.region id ops true).wpIn (Fence.wide.inRound l) k P Q a w:=by
 subst hf
 exact wpIn_region_any hm (wpAnyIn_of hQ hp _ _ _ _ (wpAny_of_N _ _ _ _ (h hS)))
end
end Go.Proofs.YtnalakhelicjcaaGreatDoor
