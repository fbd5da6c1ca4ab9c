/-
  Worlds, the document's answer: is the world right, are there such nodes?
  Worlds, the document's answer: may it move; how far is a node, errors too.
  Worlds, the document's answer: what is ready, errors too.
-/
import Derived.Test.YtnalakhelicjcaaGreatDoorZKW
import Derived.Test.YtnalakhelicjcaaGreatDoorZKB
import Derived.Test.YtnalakhelicjcaaGreatDoorZKO
import Derived.Deep.RegionHeld3
import Derived.Deep.OwnRows
set_option maxRecDepth 100000
namespace Go.Proofs.YtnalakhelicjcaaGreatDoor
open Go.RowKit Go.Shelf Go.BigFrame
def nodeE (X:Wd) (n:Int):Int:=if errX X = 0 then if inB n 0 ((X.nodes.length:Int) - 1) = true then 0 else 4 else errX X
theorem NodeError_c {w:World} {v:Value} {X:Wd} (h:WorldAt w v X) (n:Int) :
  Calls Tryz.prog 47 #[v, .int .i64 n] w (GivesB (.int .i64 (nodeE X n)) w):=by
 obtain ⟨gv,nv,wv,rfl,hg,hn,hw⟩:=h
 obtain ⟨hnl,na,ncap,rfl,hnc⟩:=hn.form
 obtain ⟨hwl,wa,wcap,rfl,hwc⟩:=hw.form
 obtain ⟨hgl,ga,gcap,rfl,_⟩:=hg.open
 have hA:=below_a1 w (.cells #[.slice ga X.groups.length gcap, .slice na X.nodes.length ncap, .slice wa X.wires.length wcap] 35)
 have hB:=WBox.new w (.slice ga X.groups.length gcap) (.slice na X.nodes.length ncap) (.slice wa X.wires.length wcap) 35
 have hE:=WorldError_c (w:=w.alloc (.cells #[.slice ga X.groups.length gcap, .slice na X.nodes.length ncap, .slice wa X.wires.length wcap] 35)) ⟨_,_,_,rfl,hg.below hA,hn.below hA,hw.below hA⟩
 have hW:=fun o=>within_c o n 0 ((X.nodes.length:Int) - 1)
 have hR:nodeE X n = if errX X = 0 then if inB n 0 ((X.nodes.length:Int) - 1) = true then 0 else 4 else errX X:=rfl
 generalize nodeE X n = r at *
 generalize errX X = e0 at *
 replace hR:=Lib.hid hR
 by_cases he:e0 = 0
 ·subst he
  cases hi:inB n 0 ((X.nodes.length:Int) - 1)
  all_goals
   have hr:=hR.out
   rw [if_pos rfl,hi] at hr
   simp only [if_true,Bool.false_eq_true,if_false] at hr
   replace hr:=Lib.hid hr
   rw [hi] at hW
   clear hi
   go_enter Tryz.func47,Tryz.ntmps47
   go_wp2_with fail
   refine hE.mono ?_
   rintro e w1 ⟨rfl,hb⟩
   obtain ⟨x0,x1,x2⟩:=hB.below hb (by rw [World.size_alloc];omega)
   go_wp2_with (first | (go_at_call 39;refine (hW _).mono ?_;clear hW;rintro e w' ⟨rfl,rfl⟩))
   go_ret
   exact givesB_int (below_trans hA hb) hr.out.symm
 ·have hr:=hR.out
  rw [if_neg he] at hr
  have hne:(e0 != 0) = true:=by simpa using he
  replace hr:=Lib.hid hr
  replace he:=Lib.hid he
  go_enter Tryz.func47,Tryz.ntmps47
  go_wp2_with fail
  refine hE.mono ?_
  rintro e w1 ⟨rfl,hb⟩
  go_wp2_with fail
  go_ret
  exact givesB_int (below_trans hA hb) hr.out.symm
end Go.Proofs.YtnalakhelicjcaaGreatDoor
set_option maxRecDepth 100000
namespace Go.Proofs.YtnalakhelicjcaaGreatDoor
open Go.RowKit Go.Shelf Go.BigFrame
def moveE (X:Wd) (a b:Int):Int:=if nodeE X a = 0 then nodeE X b else nodeE X a
theorem nodeE_ok {X:Wd} {n:Int} (h:nodeE X n = 0):errX X = 0 ∧ 0 ≤ n ∧ n < X.nodes.length:=by
 unfold nodeE at h
 split at h
 ·rename_i he
  split at h
  ·rename_i hi
   simp only [inB,Bool.and_eq_true,decide_eq_true_eq] at hi
   exact ⟨he,hi.1,by omega⟩
  ·cases h
 ·rename_i he
  exact absurd h he
theorem MoveError_c {w:World} {v:Value} {X:Wd} (h:WorldAt w v X) (a b:Int) :
  Calls Tryz.prog 66 #[v, .int .i64 a, .int .i64 b] w (GivesB (.int .i64 (moveE X a b)) w):=by
 obtain ⟨gv,nv,wv,rfl,hg,hn,hw⟩:=h
 obtain ⟨hnl,na,ncap,rfl,hnc⟩:=hn.form
 obtain ⟨hwl,wa,wcap,rfl,hwc⟩:=hw.form
 obtain ⟨hgl,ga,gcap,rfl,_⟩:=hg.open
 have hA:=below_a1 w (.cells #[.slice ga X.groups.length gcap, .slice na X.nodes.length ncap, .slice wa X.wires.length wcap] 35)
 have hB:=WBox.new w (.slice ga X.groups.length gcap) (.slice na X.nodes.length ncap) (.slice wa X.wires.length wcap) 35
 have hE1:=NodeError_c (w:=w.alloc (.cells #[.slice ga X.groups.length gcap, .slice na X.nodes.length ncap, .slice wa X.wires.length wcap] 35)) ⟨_,_,_,rfl,hg.below hA,hn.below hA,hw.below hA⟩ a
 have hE2:=fun o (h:Below w.heap.size w o)=>NodeError_c (w:=o) ⟨_,_,_,rfl,hg.below h,hn.below h,hw.below h⟩ b
 have hR:moveE X a b = if nodeE X a = 0 then nodeE X b else nodeE X a:=rfl
 generalize moveE X a b = r at *
 generalize nodeE X a = e0 at *
 generalize nodeE X b = e1 at *
 replace hR:=Lib.hid hR
 by_cases he:e0 = 0
 ·subst he
  have hr:=hR.out
  rw [if_pos rfl] at hr
  rw [hr]
  clear hr hR
  go_enter Tryz.func66,Tryz.ntmps66
  go_wp2_with fail
  refine hE1.mono ?_
  rintro e w1 ⟨rfl,hb⟩
  obtain ⟨x0,x1,x2⟩:=hB.below hb (by rw [World.size_alloc];omega)
  go_wp2_with fail
  refine (hE2 _ (below_trans hA hb)).mono ?_
  rintro e w2 ⟨rfl,hb2⟩
  go_wp2_with fail
  go_ret
  exact givesB_int (below_trans (below_trans hA hb) hb2) rfl
 ·have hr:=hR.out
  rw [if_neg he] at hr
  rw [hr]
  clear hr hR
  have hne:(e0 != 0) = true:=by simpa using he
  replace he:=Lib.hid he
  go_enter Tryz.func66,Tryz.ntmps66
  go_wp2_with fail
  refine hE1.mono ?_
  rintro e w1 ⟨rfl,hb⟩
  go_wp2_with fail
  go_ret
  exact givesB_int (below_trans hA hb) rfl
end Go.Proofs.YtnalakhelicjcaaGreatDoor
set_option maxRecDepth 100000
namespace Go.Proofs.YtnalakhelicjcaaGreatDoor
open Go.RowKit Go.Shelf Go.BigFrame
end Go.Proofs.YtnalakhelicjcaaGreatDoor
set_option maxRecDepth 100000
namespace Go.Proofs.YtnalakhelicjcaaGreatDoor
open Go.RowKit Go.Shelf Go.BigFrame
def beginX (n:Nat) (gs:List Int):Wd:=⟨gs,List.replicate n ⟨0,List.replicate gs.length (List.replicate n 0),[],[]⟩,List.replicate n (List.replicate n [])⟩
theorem OSl.made {α:Type} {El:ElO α} {e:TypeId} {z:Value} {x:α} (w:World) (n:Nat) (h:∀ w,El w (fun _=>False) [z] x) (hn:n * 1 * 8 ≤ 140737488351232) :
  OSl El true e 1 (w.alloc (.cells (madeCells #[z] n) e)) (fun b=>b = w.heap.size) (.slice (some ⟨w.heap.size,0,none⟩) n n) (List.replicate n x):=by
 have hr:=World.rowIs_made w z n e
 obtain ⟨c,hc,hcn,_⟩:=hr
 refine .inr ⟨w.heap.size,0,n,fun _ _=>False,by simp,rfl,⟨c,hc,by omega⟩,by simp,by unfold maxLen;omega,fun _=>rfl,by simpa using hn,fun i hi=>⟨[z],rfl,fun j hj=>?_, ?_⟩,fun _ _ h=>h.elim,fun _ _ _ h=>h.elim⟩
 ·obtain rfl:j = 0:=by omega
  rw [List.length_replicate] at hi
  rw [Nat.zero_add,Nat.mul_one,Nat.add_zero,(World.rowIs_made w z n e).cell hi];rfl
 ·rw [List.getElem_replicate];exact h _
theorem rep_succ {α:Type} (k:Nat) (x:α):List.replicate (k + 1) x = List.replicate k x ++ [x]:=List.replicate_succ'
set_option maxHeartbeats 8000000 in
theorem BeginOf_c {w:World} {gv:Value} {gs:List Int} (hg:Ints w gv gs) {n:Nat} (hn:n ≤ 1000) (hgs:gs.length ≤ 1000) :
  Calls Tryz.prog 17 #[.int .i64 n,gv] w (OwnPost w (beginX n gs)):=by
 obtain ⟨hgl,ga,gcap,rfl,_⟩:=hg.open
 obtain ⟨j0,hj0,jz0,jz1,jz2⟩:=info_parts infoCInt
 obtain ⟨n0,hn0,nz0,nz1,nz2⟩:=info_parts infoCNode
 obtain ⟨r0,hr0,rz0,rz1,rz2⟩:=info_parts infoCIntRow
 obtain ⟨q0,hq0,qz0,qz1,qz2⟩:=info_parts infoCMsgRow
 obtain ⟨s0,hs0,sz0,sz1,sz2⟩:=info_parts infoCMsgRows
 have hA:=below_a2 w (.cells #[.slice none 0 0, .slice none 0 0, .slice none 0 0] 35) (.cells #[] 3)
 have hR:=OBox.new w 35 (.slice none 0 0) (.slice none 0 0) (.slice none 0 0)
 have hemp:((w.alloc (.cells #[.slice none 0 0, .slice none 0 0, .slice none 0 0] 35)).alloc (.cells #[] 3)).ownsRow (w.heap.size + 1) 3 1 (.slice (some ⟨w.heap.size + 1,0,none⟩) 0 0) 0 []:=by
  have h:=World.ownsRow_made (base:=w.heap.size + 1) (size:=1) (e:=3) (w.alloc (.cells #[.slice none 0 0, .slice none 0 0, .slice none 0 0] 35)) #[] 0 (by rw [World.size_alloc];exact Nat.le_refl _) (by simp [maxLen]) (by simp)
  rwa [World.size_alloc] at h
 have hsz2:((w.alloc (.cells #[.slice none 0 0, .slice none 0 0, .slice none 0 0] 35)).alloc (.cells #[] 3)).heap.size = w.heap.size + 2:=by rw [World.size_alloc,World.size_alloc]
 go_enter Tryz.func17,Tryz.ntmps17
 go_wp2_with (first
  |(at_builtin;refine wpList_append_row _ rfl _ _ 22 rfl (w.heap.size + 1) 3 j0 _ 1 8 Tryz.underlying22 hj0 jz0 jz1 jz2 rfl (by decide) _ 0 [] rfl hemp _ _ _ rfl (hg.below hA).2 (by simp [Value.oneCell']) (by unfold maxLen;omega) (by omega) (by rw [World.size_alloc,World.size_alloc];omega) ?_;intro gv1 w1 hown1 hgrow1 hat1;obtain ⟨ga1,gcap1,rfl⟩:=own_form hown1))
 have hb1:Below (w.heap.size + 1) _ w1:=below_row hgrow1 (fun k hk=>by cases hk;exact Nat.le_refl _) (by rw [hsz2];omega)
 have hs1:=hgrow1.size
 rw [hsz2] at hs1
 have hW1:Below w.heap.size w w1:=hA.trans (hb1.mono (by omega))
 have hR1:OBox w1 w.heap.size 35 (.slice none 0 0) (.slice none 0 0) (.slice none 0 0):=
  (hR.keep (Go.Deep.blk_alloc_lt _ _ _ (by rw [World.size_alloc];omega))).keep (hb1.block _ (by omega))
 simp only [Nat.zero_add,List.nil_append] at hown1
 have hG1:=OInts.of_owns hown1 hg.1 hgl
 have hgb:∀ b,(Value.slice ga1 gs.length gcap1).ownBlock = some b → w.heap.size + 1 ≤ b ∧ b < w1.heap.size:=hown1.lt
 replace hG1:=Lib.hid hG1
 replace hgb:=Lib.hid hgb
 clear hA hR hemp hsz2 hown1 hgrow1 hat1 hb1
 have hob:=OBox.new w1 35 (.slice ga1 gs.length gcap1) (.slice none 0 0) (.slice none 0 0)
 have hbo:=below_a1 w1 (.cells #[.slice ga1 gs.length gcap1, .slice none 0 0, .slice none 0 0] 35)
 have hsb:(w1.alloc (.cells #[.slice ga1 gs.length gcap1, .slice none 0 0, .slice none 0 0] 35)).heap.size = w1.heap.size + 1:=World.size_alloc _ _
 generalize w1.alloc (.cells #[.slice ga1 gs.length gcap1, .slice none 0 0, .slice none 0 0] 35) = wB at *
 have hkp:∀ o,Below w1.heap.size w1 o → Below w.heap.size w o ∧ OBox o w.heap.size 35 (.slice none 0 0) (.slice none 0 0) (.slice none 0 0):=
  fun o h=>⟨below_trans hW1 h,hR1.keep (h.block _ (by omega))⟩
 replace hkp:=Lib.hid hkp
 clear hW1 hR1
 have hmI:=run_make_row' (P:=Tryz.prog) 22 3 (.int .i64 0) 8 Tryz.underlying22 (by rw [hj0];simp [jz0,jz1,jz2]) rfl .i64 .i64 n (by omega) (by omega)
 have hmR:=run_make_row' (P:=Tryz.prog) 66 63 (.slice none 0 0) 24 Tryz.underlying66 (by rw [hq0];simp [qz0,qz1,qz2]) rfl .i64 .i64 n (by omega) (by omega)
 go_loopw [6] (fun i wr=>∃ k:Nat,k ≤ n ∧ i = .int .i64 k ∧ Below w1.heap.size w1 wr ∧ ∃ nv' wv' S S3,OBox wr w1.heap.size 35 (.slice ga1 gs.length gcap1) nv' wv' ∧ ONodes wr S nv' (List.replicate k ⟨0,List.replicate gs.length (List.replicate n 0),[],[]⟩) ∧ OWires true wr S3 wv' (List.replicate k (List.replicate n [])) ∧
  (∀ b,S b → w1.heap.size < b ∧ b < wr.heap.size) ∧ (∀ b,S3 b → w1.heap.size < b ∧ b < wr.heap.size) ∧ Dis S S3) (fun i _=>n - (intOf i).toNat)
 case atStart=>exact ⟨0,by omega,rfl,hbo, .slice none 0 0, .slice none 0 0,fun _=>False,fun _=>False,hob,OSl.nil _ _ _ _ _ _,OSl.nil _ _ _ _ _ _,fun _ h=>h.elim,fun _ h=>h.elim,fun _ h=>h.elim⟩
 case round =>
  obtain ⟨k,hk,rfl,hb,nv',wv',S,S3,hob2,hN,hW,hSb,hS3,hdis⟩:=hrel
  obtain ⟨hwb,hR2⟩:=hkp.out _ hb
  have hRlt:=hR2.lt
  obtain ⟨wo,rfl⟩:∃ wo:World,wo = wr:=⟨_,rfl⟩
  by_cases hlt:k < n
  ·go_wp2_with fail
   go_loopw [7,8] (fun l i ws=>∃ g:Nat,g ≤ gs.length ∧ i = .int .i64 g ∧ Below wo.heap.size wo ws ∧ ∃ S,OIntRows ws S l (List.replicate g (List.replicate n 0)) ∧ ∀ b,S b → wo.heap.size ≤ b ∧ b < ws.heap.size) (fun _ i _=>gs.length - (intOf i).toNat)
   case atStart=>exact ⟨0,by omega,rfl,Below.refl _ _,fun _=>False,OSl.nil _ _ _ _ _ _,fun _ h=>h.elim⟩
   case round =>
    obtain ⟨g,hgl2,rfl,hbs,S2,hL,hS2⟩:=hrel
    obtain ⟨l2a,l2c,hl2,hl2c,_⟩:=OSl.form hL
    rw [List.length_replicate] at hl2 hl2c
    subst hl2
    by_cases hlg:g < gs.length
    ·have hO3:OInts (wr.alloc (.cells (madeCells #[.int .i64 0] n) 3)) (fun b=>b = wr.heap.size) (.slice (some ⟨wr.heap.size,0,none⟩) n n) (List.replicate n 0):=OSl.made wr n (fun _=>⟨rfl,by simp [I64]⟩) (by omega)
     have hO4:=hO3.keep (w':=(wr.alloc (.cells (madeCells #[.int .i64 0] n) 3)).alloc (.cells #[.slice (some ⟨wr.heap.size,0,none⟩) n n] 22)) (fun b hb=>Go.Deep.blk_alloc_lt _ _ _ (by rw [World.size_alloc];omega))
     have hL3:=hL.keep (w':=(wr.alloc (.cells (madeCells #[.int .i64 0] n) 3)).alloc (.cells #[.slice (some ⟨wr.heap.size,0,none⟩) n n] 22)) (fun b hb=>(Go.Deep.blk_alloc_lt _ _ _ (by have:=hS2 b hb;rw [World.size_alloc];omega)).trans (Go.Deep.blk_alloc_lt _ _ _ (hS2 b hb).2))
     have hnew:∀ j u,[Value.slice (some ⟨wr.heap.size,0,none⟩) n n][j]? = some u → ((wr.alloc (.cells (madeCells #[.int .i64 0] n) 3)).alloc (.cells #[.slice (some ⟨wr.heap.size,0,none⟩) n n] 22)).cell? ((⟨wr.heap.size + 1,0,none⟩:Addr).add j) = some u:=by
      have:=cell_one_new (wr.alloc (.cells (madeCells #[.int .i64 0] n) 3)) (.slice (some ⟨wr.heap.size,0,none⟩) n n) 22
      rwa [World.size_alloc] at this
     go_wp2_with (at_builtin;refine wpList_push _ rfl _ _ 62 rfl 22 r0 _ 1 24 Tryz.underlying62 hr0 rz0 rz1 rz2 rfl (by decide) OIntsEl.stays _ rfl S2 (List.replicate g (List.replicate n 0)) hL3 (fun b hb=>by have:=hS2 b hb;rw [World.size_alloc,World.size_alloc];omega) ⟨wr.heap.size + 1,0,none⟩ _ rfl [_] rfl hnew (by simp [Value.oneCell']) (fun b=>b = wr.heap.size) (List.replicate n 0) ⟨_,rfl,hO4⟩ (fun b hb=>⟨fun h=>by have:=hS2 b h;omega,by rw [World.size_alloc,World.size_alloc];omega⟩) (by rw [List.length_replicate];omega) (by omega) (by omega) ?_;intro v4 w4 hp4)
     obtain ⟨⟨S4,h4,h4b⟩,hs4,hl4,hbb4,_⟩:=hp4
     rw [World.size_alloc,World.size_alloc] at hs4
     have hbsl:=hbs.size
     go_roundw
     case rel =>
      refine ⟨g + 1,by omega,by go_num, ?_,S4, ?_,fun b hb=>?_⟩
      ·exact (hbs.trans ((below_a2 wr _ _).mono hbsl)).trans (hbb4 wo.heap.size (fun b hb=>(hS2 b hb).1) (by rw [World.size_alloc,World.size_alloc];omega))
      ·rw [rep_succ]
       exact h4
      ·obtain ⟨h5,h6⟩:=h4b b hb
       refine ⟨?_,h6⟩
       rcases h5 with h5 | h5 | h5
       ·exact (hS2 b h5).1
       ·omega
       ·rw [World.size_alloc,World.size_alloc] at h5;omega
     case measure=>simp [intOf];omega
    ·obtain rfl:g = gs.length:=by omega
     have hbsl:=hbs.size
     have hob3:=hob2.keep (hbs.block _ hob2.lt)
     obtain ⟨na3,nc3,hnv3,_,_⟩:=OSl.form hN
     obtain ⟨wa3,wc3,hwv3,_,_⟩:=OSl.form hW
     rw [List.length_replicate] at hnv3 hwv3
     subst hnv3 hwv3
     have hob3K:=hob3
     have hfz:=hob3.1.frozen 1
     obtain ⟨_,z0,z1,z2⟩:=hob3
     have hzb:=cell_lt z0
     dsimp only at hzb
     have hN4:=hN.keep (w':=wr.alloc (.cells #[.int .i64 0, .slice l2a gs.length l2c, .slice none 0 0, .slice none 0 0] 65)) (fun b hb=>(Go.Deep.blk_alloc_lt _ _ _ (by have:=hSb b hb;omega)).trans (hbs.block b (hSb b hb).2))
     have hx4:ONodeEl (wr.alloc (.cells #[.int .i64 0, .slice l2a gs.length l2c, .slice none 0 0, .slice none 0 0] 65)) S2 [.int .i64 0, .slice l2a gs.length l2c, .slice none 0 0, .slice none 0 0] ⟨0,List.replicate gs.length (List.replicate n 0),[],[]⟩:=
      ⟨_,_,_,S2,fun _=>False,fun _=>False,rfl,by simp [I64],hL.keep (fun b hb=>Go.Deep.blk_alloc_lt _ _ _ (hS2 b hb).2),OSl.nil _ _ _ _ _ _,OSl.nil _ _ _ _ _ _,fun _ h=>h,fun _ h=>h.elim,fun _ h=>h.elim,fun _ _ h=>h,fun _ _ h=>h,fun _ h=>h.elim⟩
     go_wp2_with (first
      |(at_builtin;refine wpList_push _ rfl _ _ 32 rfl 65 n0 _ 4 80 Tryz.underlying32 hn0 nz0 nz1 nz2 rfl (by decide) ONodeEl.stays _ rfl S (List.replicate k _) hN4 (fun b hb=>by have:=hSb b hb;rw [World.size_alloc];omega) ⟨wr.heap.size,0,none⟩ _ rfl [_,_,_,_] rfl (cells_new _ _ _) (by simp [Value.oneCell']) S2 _ hx4 (fun b hb=>⟨fun h=>by have:=hS2 b hb;have:=hSb b h;omega,by have:=hS2 b hb;rw [World.size_alloc];omega⟩) (by rw [List.length_replicate];omega) (by omega) (by omega) ?_;intro v5 w5 hp5;obtain ⟨a5,c5,rfl⟩:=hp5.2.2.2.2
        have hk5:w5.heap[w1.heap.size]? = wr.heap[w1.heap.size]?:=(hp5.2.2.1 _ ⟨by rw [World.size_alloc];omega,fun h=>by have:=hSb _ h;omega⟩).trans (Go.Deep.blk_alloc_lt _ _ _ hzb)
        have hob5:=hob3K.keep hk5
        have hfz5:=hob5.1.frozen 1
        have hc5:=hob5.2.2.1))
     obtain ⟨⟨S5,h5,h5b⟩,hs5,hl5,hbb5,_⟩:=hp5
     rw [World.size_alloc] at hs5
     rw [List.length_replicate] at h5
     have hS5:∀ b,S5 b → (S b ∨ wo.heap.size ≤ b) ∧ b < w5.heap.size:=fun b hb=>by
      obtain ⟨h,h2⟩:=h5b b hb
      rw [World.size_alloc] at h
      refine ⟨?_,h2⟩
      rcases h with h | h | h
      ·exact Or.inl h
      ·exact Or.inr (hS2 b h).1
      ·exact Or.inr (by omega)
     have hlo:∀ b,S5 b → w1.heap.size < b:=fun b hb=>by
      rcases (hS5 b hb).1 with h | h
      ·exact (hSb b h).1
      ·have:=hob2.lt;omega
     have hob6:=hob5.set1 (.slice a5 (k + 1) c5)
     have hs6:(w5.setCell ⟨w1.heap.size,1,none⟩ (.slice a5 (k + 1) c5)).heap.size = w5.heap.size:=Go.Deep.nblk_setCell _ _ _
     have h6:ONodes (w5.setCell ⟨w1.heap.size,1,none⟩ (.slice a5 (k + 1) c5)) S5 (.slice a5 (k + 1) c5) (List.replicate k ⟨0,List.replicate gs.length (List.replicate n 0),[],[]⟩ ++ [⟨0,List.replicate gs.length (List.replicate n 0),[],[]⟩]):=
      ONodes.keep h5 (fun b hb=>Go.Deep.blk_setCell_other _ _ _ _ (by have:=hlo b hb;show b ≠ w1.heap.size;omega))
     have hW6:OWires true (w5.setCell ⟨w1.heap.size,1,none⟩ (.slice a5 (k + 1) c5)) S3 (.slice wa3 k wc3) (List.replicate k (List.replicate n [])):=
      hW.keep (fun b hb=>by
       have:=hS3 b hb
       rw [Go.Deep.blk_setCell_other _ _ _ _ (by show b ≠ w1.heap.size;omega),hl5 b ⟨by rw [World.size_alloc];omega,fun h=>hdis b h hb⟩,Go.Deep.blk_alloc_lt _ _ _ (by omega),hbs.block b this.2])
     have hb6:Below w1.heap.size w1 (w5.setCell ⟨w1.heap.size,1,none⟩ (.slice a5 (k + 1) c5)):=
      below_setCell (((hb.trans (hbs.mono hb.size)).alloc (by omega) _).trans (hbb5 _ (fun b hb=>Nat.le_of_lt (hSb b hb).1) (by rw [World.size_alloc];omega))) (Nat.le_refl _) _
     generalize w5.setCell ⟨w1.heap.size,1,none⟩ (.slice a5 (k + 1) c5) = w6 at *
     rw [← hs6] at hs5 hS5
     clear hob5 hfz5 hc5 hk5 hl5 hbb5 h5 h5b hx4 hN4 z0 z1 z2 hfz hob3K hs6
     have hob6K:=hob6
     have hfz6:=hob6.1.frozen 2
     obtain ⟨_,z0,z1,z2⟩:=hob6
     have hzb6:=cell_lt z2
     dsimp only at hzb6
     have hM7:OMsgRows true ((w6.alloc (.cells (madeCells #[.slice none 0 0] n) 63)).alloc (.cells #[.slice (some ⟨w6.heap.size,0,none⟩) n n] 66)).drew (fun b=>b = w6.heap.size) (.slice (some ⟨w6.heap.size,0,none⟩) n n) (List.replicate n []):=
      OMsgRows.keep (OSl.made w6 n (fun _=>⟨_,rfl,OSl.nil _ _ _ _ _ _⟩) (by omega)) (fun b hb=>Go.Deep.blk_alloc_lt _ _ _ (by rw [World.size_alloc];omega))
     have hW7:OWires true ((w6.alloc (.cells (madeCells #[.slice none 0 0] n) 63)).alloc (.cells #[.slice (some ⟨w6.heap.size,0,none⟩) n n] 66)).drew S3 (.slice wa3 k wc3) (List.replicate k (List.replicate n [])):=
      hW6.keep (fun b hb=>(Go.Deep.blk_alloc_lt _ _ _ (by have:=hS3 b hb;rw [World.size_alloc];omega)).trans (Go.Deep.blk_alloc_lt _ _ _ (by have:=hS3 b hb;omega)))
     have hs7:((w6.alloc (.cells (madeCells #[.slice none 0 0] n) 63)).alloc (.cells #[.slice (some ⟨w6.heap.size,0,none⟩) n n] 66)).drew.heap.size = w6.heap.size + 2:=by
      show ((w6.alloc (.cells (madeCells #[.slice none 0 0] n) 63)).alloc (.cells #[.slice (some ⟨w6.heap.size,0,none⟩) n n] 66)).heap.size = _
      rw [World.size_alloc,World.size_alloc]
     have hl7:∀ b,b < w6.heap.size → ((w6.alloc (.cells (madeCells #[.slice none 0 0] n) 63)).alloc (.cells #[.slice (some ⟨w6.heap.size,0,none⟩) n n] 66)).drew.heap[b]? = w6.heap[b]?:=fun b hb=>(Go.Deep.blk_alloc_lt _ _ _ (by rw [World.size_alloc];omega)).trans (Go.Deep.blk_alloc_lt _ _ _ hb)
     have hnew7:∀ j u,[Value.slice (some ⟨w6.heap.size,0,none⟩) n n][j]? = some u → ((w6.alloc (.cells (madeCells #[.slice none 0 0] n) 63)).alloc (.cells #[.slice (some ⟨w6.heap.size,0,none⟩) n n] 66)).drew.cell? ((⟨w6.heap.size + 1,0,none⟩:Addr).add j) = some u:=by
      have:=cell_one_new (w6.alloc (.cells (madeCells #[.slice none 0 0] n) 63)) (.slice (some ⟨w6.heap.size,0,none⟩) n n) 66
      rw [World.size_alloc] at this
      exact this
     refine wp_region_N (fun w'=>w'.cell? ⟨w1.heap.size,2,none⟩ = some (.slice wa3 k wc3)) 5 8 rfl (by kernel_rfl) z2 (fun hSw=>?_)
     refine N_take (i:=0) (v:=?_) rfl rfl (by kernel_rfl) (fun _ _ _ h=>h) (Or.inl ⟨by rfl, ?_⟩) hSw ?_
     rotate_left
     ·intro w hSw
      go_simp
      try with_reducible rfl
     simp only [Act.put]
     refine N_take (i:=1) (v:=?_) rfl rfl (by kernel_rfl) (fun _ _ _ h=>h) (Or.inl ⟨by rfl, ?_⟩) hSw ?_
     rotate_left
     ·intro w hSw
      go_simp
      try with_reducible rfl
     simp only [Act.put]
     refine N_take (i:=2) (v:=?_) rfl rfl (by kernel_rfl) (fun _ _ _ h=>h) (Or.inl ⟨by rfl, ?_⟩) hSw ?_
     rotate_left
     ·intro w hSw
      go_simp
      try with_reducible rfl
     simp only [Act.put]
     refine N_one (i:=3) (by kernel_rfl) rfl ?_
     go_wp2_with fail
     refine QK_normal ⟨fun _=>(World.cell?_of_block (w:=w6) (Go.Deep.blk_alloc_lt _ _ _ hzb6)).trans z2, ?_⟩
     refine N_one (i:=4) (by kernel_rfl) rfl ?_
     go_wp2_with fail
     refine QK_normal ⟨fun _=>(World.cell?_of_block (w:=w6) (hl7 _ hzb6)).trans z2, ?_⟩
     refine N_rest 5 3 (Nat.le_refl _) rfl (by kernel_rfl) ?_
     simp only [List.drop_succ_cons,List.drop_zero]
     go_wp2_with (first
       |(at_builtin;refine wpList_push _ rfl _ _ 33 rfl 66 s0 _ 1 24 Tryz.underlying33 hs0 sz0 sz1 sz2 rfl (by decide) (OMsgRowsEl.stays true) _ rfl S3 (List.replicate k (List.replicate n [])) hW7 (fun b hb=>by have:=hS3 b hb;rw [hs7];omega) ⟨w6.heap.size + 1,0,none⟩ _ rfl [.slice (some ⟨w6.heap.size,0,none⟩) n n] rfl hnew7 (by simp [Value.oneCell']) (fun b=>b = w6.heap.size) (List.replicate n []) ⟨_,rfl,hM7⟩ (fun b hb=>⟨fun h=>by have:=hS3 b h;omega,by rw [hs7];omega⟩) (by rw [List.length_replicate];omega) (by omega) (by omega) ?_
         intro v8 w8 hp8
         obtain ⟨a8,c8,rfl⟩:=hp8.2.2.2.2
         have hk8:w8.heap[w1.heap.size]? = w6.heap[w1.heap.size]?:=(hp8.2.2.1 _ ⟨by rw [hs7];omega,fun h=>by have:=hS3 _ h;omega⟩).trans (hl7 _ hzb6)
         have hob8:=hob6K.keep hk8
         have hfz8:=hob8.1.frozen 2
         have hc8:=hob8.2.2.2))
     all_goals
      go_roundw
      case rel =>
       obtain ⟨⟨S8,h8,h8b⟩,hs8,hl8,hbb8,_⟩:=hp8
       rw [hs7] at hs8
       rw [List.length_replicate] at h8
       have hS8:∀ b,S8 b → (S3 b ∨ w6.heap.size ≤ b) ∧ b < w8.heap.size:=fun b hb=>by
        obtain ⟨h,h2⟩:=h8b b hb
        rw [hs7] at h
        refine ⟨?_,h2⟩
        rcases h with h | h | h
        ·exact Or.inl h
        ·exact Or.inr (by omega)
        ·exact Or.inr (by omega)
       have hlo8:∀ b,S8 b → w1.heap.size < b:=fun b hb=>by
        rcases (hS8 b hb).1 with h | h
        ·exact (hS3 b h).1
        ·omega
       refine ⟨k + 1,by omega,by go_num,below_setCell ((hb6.trans (below_drew ((below_a2 w6 _ _).mono (by omega)))).trans (hbb8 _ (fun b hb=>Nat.le_of_lt (hS3 b hb).1) (by rw [hs7];omega))) (Nat.le_refl _) _,_,_,S5,S8,hob8.set2 _, ?_, ?_,fun b hb=>?_,fun b hb=>?_,fun b h1 h2=>?_⟩
       ·rw [rep_succ]
        refine ONodes.keep h6 (fun b hb=>?_)
        have:=hlo b hb
        rw [Go.Deep.blk_setCell_other _ _ _ _ (by show b ≠ w1.heap.size;omega),hl8 b ⟨by rw [hs7];have:=(hS5 b hb).2;omega,fun h=>?_⟩]
        ·exact hl7 b (hS5 b hb).2
        ·rcases (hS5 b hb).1 with h' | h'
         ·exact hdis b h' h
         ·have:=(hS3 b h).2;omega
       ·rw [rep_succ]
        exact OWires.keep h8 (fun b hb=>Go.Deep.blk_setCell_other _ _ _ _ (by have:=hlo8 b hb;show b ≠ w1.heap.size;omega))
       ·rw [Go.Deep.nblk_setCell]
        exact ⟨hlo b hb,by have:=(hS5 b hb).2;omega⟩
       ·rw [Go.Deep.nblk_setCell]
        exact ⟨hlo8 b hb,(hS8 b hb).2⟩
       ·rcases (hS8 b h2).1 with h | h
        ·rcases (hS5 b h1).1 with h' | h'
         ·exact hdis b h' h
         ·have:=(hS3 b h).2;omega
        ·have:=(hS5 b h1).2;omega
      case measure=>simp [intOf];omega
  ·obtain rfl:k = n:=by omega
   have hf0:=hR2.1.frozen 0
   have hf1:=hR2.1.frozen 1
   have hf2:=hR2.1.frozen 2
   have hR2K:=hR2
   obtain ⟨_,t0,t1,t2⟩:=hR2
   obtain ⟨na3,nc3,hnv3,_,_⟩:=OSl.form hN
   obtain ⟨wa3,wc3,hwv3,_,_⟩:=OSl.form hW
   rw [List.length_replicate] at hnv3 hwv3
   subst hnv3 hwv3
   obtain ⟨_,x0,x1,x2⟩:=hob2
   go_wp2_with fail
   obtain ⟨f0,f1,f2⟩:=hR2K.put3 (.slice ga1 gs.length gcap1) (.slice na3 k nc3) (.slice wa3 k wc3)
   refine bodyPost_ret (v:=.agg #[.slice ga1 gs.length gcap1, .slice na3 k nc3, .slice wa3 k wc3]) ?_ rfl ?_
   ·simp [results,Tryz.f17]
    go_simp
   ·have hset:∀ b,b ≠ w.heap.size → (((wo.setCell ⟨w.heap.size,0,none⟩ (.slice ga1 gs.length gcap1)).setCell ⟨w.heap.size,1,none⟩ (.slice na3 k nc3)).setCell ⟨w.heap.size,2,none⟩ (.slice wa3 k wc3)).heap[b]? = wo.heap[b]?:=fun b hb=>by
     rw [set3_blk hb]
    have hg1:=hgb.out
    refine ⟨_,_,_,fun b=>(Value.slice ga1 gs.length gcap1).ownBlock = some b ∨ S b ∨ S3 b,rfl,
     ⟨_,S,S3,hG1.out.keep (fun b h0=>(hset b (by have:=hg1 b h0;omega)).trans (hb.block b (hg1 b h0).2)),hN.keep (fun b hb=>hset b (by have:=hSb b hb;omega)),hW.keep (fun b hb=>hset b (by have:=hS3 b hb;omega)),
      fun _ h=>Or.inl h,fun _ h=>Or.inr (Or.inl h),fun _ h=>Or.inr (Or.inr h),fun b h1 h2=>?_,fun b h1 h2=>?_,hdis⟩,fun b h0=>?_,set3_below hwb (by omega)⟩
    ·have:=hg1 b h1;have:=hSb b h2;omega
    ·have:=hg1 b h1;have:=hS3 b h2;omega
    ·have:=hb.size
     rw [set3_size]
     rcases h0 with h | h | h
     ·have:=hg1 b h;omega
     ·have:=hSb b h;omega
     ·have:=hS3 b h;omega
end Go.Proofs.YtnalakhelicjcaaGreatDoor
