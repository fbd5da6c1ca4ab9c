/-
  The program: a node of a world of one's own holds a message, and is told what is ready.
  A world of the call's own: one message more on a wire.
-/
import Derived.Test.YtnalakhelicjcaaGreatYKP
import Derived.Test.YtnalakhelicjcaaGreatYKN
import Derived.Test.YtnalakhelicjcaaGreatYKB
import Derived.Test.YtnalakhelicjcaaGreatYKC
set_option maxRecDepth 100000
namespace Go.Proofs.YtnalakhelicjcaaGreat
open Go.RowKit Go.Shelf Go.BigFrame
def HoldPost (o:Bool) (w:World) (S:Nat → Prop) (gv nv wv:Value) (r:Int × Wd) (e:Ending) (w':World):Prop:=
 e = .returned (.int .i64 r.1) ∧ Within S w w' ∧ (r.1 = 0 → ∃ S',OWd o w' S' gv nv wv r.2 ∧ ∀ c,S' c → (S c ∨ w.heap.size ≤ c) ∧ c < w'.heap.size)
theorem OWd.held_at {o:Bool} {w:World} {S:Nat → Prop} {gv nv wv:Value} {X:Wd} (hW:OWd o w S gv nv wv X) (hSl:∀ c,S c → c < w.heap.size) {n:Nat} (hn1:n < X.nodes.length) :
  ∃ (g cap:Nat) (hv:Value),nv = .slice (some ⟨g,0,none⟩) X.nodes.length cap ∧ X.nodes.length ≤ cap ∧ S g ∧ g < w.heap.size ∧ BlkIs w g 60 (cap * 4) ∧ w.cell? ⟨g,n * 4 + 2,none⟩ = some hv ∧
   Msgs w hv (X.nodes.getD n N.zero).held ∧
   ∀ w7 v7 hl,Below w.heap.size w w7 → MsgsOwn w7 w.heap.size v7 hl → hl.length ≤ 100000 →
    Within S w (w7.setCell ⟨g,n * 4 + 2,none⟩ v7) ∧
    ∃ S',OWd o (w7.setCell ⟨g,n * 4 + 2,none⟩ v7) S' gv nv wv { X with nodes:=X.nodes.set n { X.nodes.getD n N.zero with held:=hl } } ∧
     ∀ c,S' c → (S c ∨ w.heap.size ≤ c) ∧ c < (w7.setCell ⟨g,n * 4 + 2,none⟩ v7).heap.size:=by
 obtain ⟨g,ncap,lv,hv,tv,Tl,Th,Tt,rfl,hnc,hgS,hgl2,hgb,c0,c1,c2,c3,hI,hLo,hHo,hTo,sl,sh,st,d1,d2,d3,back⟩:=hW.node_at hn1
 refine ⟨g,ncap,hv,rfl,hnc,hgS,hgl2,hgb,c2,hHo.msgs,fun w7 v7 hl hb h7 hl7=>?_⟩
 have hs7:=hb.size
 generalize hwF:w7.setCell ⟨g,n * 4 + 2,none⟩ v7 = wF
 have lF:∀ c,c ≠ g → wF.heap[c]? = w7.heap[c]?:=fun c hc=>by rw [← hwF];exact Go.Deep.blk_setCell_other _ _ _ _ hc
 have oF:∀ c,c < w.heap.size → c ≠ g → wF.heap[c]? = w.heap[c]?:=fun c hc hg=>(lF c hg).trans (hb.block c hc)
 have hsF:wF.heap.size = w7.heap.size:=by rw [← hwF,Go.Deep.nblk_setCell]
 have hwFi:Within S w wF:=by
  rw [← hwF]
  exact (Within.of_below hb).setCell (a:=⟨g,n * 4 + 2,none⟩) hgS _
 have hB:BlkSet w wF g (n * 4) [.int .i64 (X.nodes.getD n N.zero).clock,lv,v7,tv]:=by
  rw [← hwF]
  exact (BlkSet.same (w':=w7) (cs:=[.int .i64 (X.nodes.getD n N.zero).clock,lv,hv,tv]) (hb.block g hgl2) (fun j hj=>by
    match j,hj with
    | 0,_=>exact c0
    | 1,_=>exact c1
    | 2,_=>exact c2
    | 3,_=>exact c3)).set hgb 2 (by simp) (by simp;omega) v7
 have k7:=fun k (hk:v7.ownBlock = some k)=>h7.lt k hk
 have o7:OMsgs true wF (fun c=>v7.ownBlock = some c) v7 hl:=(MsgsOwn.own h7 (by omega)).keep (fun c hc=>lF c (by have:=k7 c hc;omega))
 have hX:ONodeEl wF (fun c=>Tl c ∨ v7.ownBlock = some c ∨ Tt c) [.int .i64 (X.nodes.getD n N.zero).clock,lv,v7,tv] { X.nodes.getD n N.zero with held:=hl }:=by
  refine ⟨lv,_,_,Tl,_,Tt,rfl,hI,hLo.keep (fun c hc=>oF c (hSl c (sl c hc).1) (sl c hc).2),o7,hTo.keep (fun c hc=>oF c (hSl c (st c hc).1) (st c hc).2),fun _ h=>Or.inl h,fun _ h=>Or.inr (Or.inl h),fun _ h=>Or.inr (Or.inr h),fun c h1 h2=>?_,d2,fun c h1 h2=>?_⟩
  ·have:=k7 c h2;have:=hSl c (sl c h1).1;omega
  ·have:=k7 c h1;have:=hSl c (st c h2).1;omega
 have:=back _ _ _ _ (fun c hc=>oF c (hSl c hc.1) hc.2.1) hB rfl hX (fun c hc=>by
  rcases hc with h | h | h
  ·exact Or.inl h
  ·exact Or.inr (Or.inr (Or.inr (fun hs=>by have:=k7 c h;have:=hSl c hs;omega)))
  ·exact Or.inr (Or.inr (Or.inl h)))
 refine ⟨hwFi,_,this,fun c hc=>?_⟩
 rw [hsF]
 rcases hc with h | h | h | h
 ·exact ⟨Or.inl h,by have:=hSl c h;omega⟩
 ·exact ⟨Or.inl (sl c h).1,by have:=hSl c (sl c h).1;omega⟩
 ·exact ⟨Or.inr (k7 c h).1,(k7 c h).2⟩
 ·exact ⟨Or.inl (st c h).1,by have:=hSl c (st c h).1;omega⟩
set_option maxHeartbeats 4000000 in
theorem Hold_c {o:Bool} {w:World} {S:Nat → Prop} {b:Nat} {gv nv wv:Value} {X:Wd} (hbox:OBox w b 37 gv nv wv) (hW:OWd o w S gv nv wv X) (hSl:∀ c,S c → c < w.heap.size) (hbS:¬ S b) {n:Nat} (hn1:n < X.nodes.length) (ht:TabN X n)
  (hri:risesB (X.nodes.getD n N.zero).held = true) (hs:(X.nodes.getD n N.zero).held.length ≤ 900 ∧ (X.nodes.getD n N.zero).told.length ≤ 900) {m:M} (hm:m.fits) :
  Calls Tryz.prog 98 #[.pointer (some ⟨b,0,none⟩), .int .i64 n,m.val] w (HoldPost o w S gv nv wv (castEnd X n m)):=by
 obtain ⟨P,hP⟩:∃ P,HoldPost o w S gv nv wv (castEnd X n m) = P:=⟨_,rfl⟩
 rw [hP]
 have hbl:=hbox.lt
 have hA:=below_a1 w (.cells #[.int .i64 m.src, .int .i64 m.grp, .int .i64 m.stamp, .bool m.null, .string m.body] 62)
 have hM:=MsgBox.new w m 62
 have hmv:m.val = .agg #[.int .i64 m.src, .int .i64 m.grp, .int .i64 m.stamp, .bool m.null, .string m.body]:=rfl
 cases hnull:m.null
 · -- held
  rw [castEnd_hold hnull] at hP
  obtain ⟨g,cap,hv,rfl,hcap,hgS,hgl,hgb,c2,hhM,back⟩:=hW.held_at hSl hn1
  obtain ⟨hhl,ha,hcp,rfl,_⟩:=hhM.open
  have hPt:=fun (W:World) (h:Below w.heap.size w W)=>Put_c (hhM.below h) hm
  unfold PutPost at hPt
  have hrs:=Lib.hid (fun h=>putL_rises (ms:=(X.nodes.getD n N.zero).held) (m:=m) h)
  have hln:=putL_le (X.nodes.getD n N.zero).held m
  have hW0:holdW X n m = { X with nodes:=X.nodes.set n { X.nodes.getD n N.zero with held:=putL (X.nodes.getD n N.zero).held m } }:=rfl
  obtain ⟨hh1,hh2⟩:=holdW_at (m:=m) hn1
  have hht:=holdW_tab (m:=m) hn1 ht
  have hhr:=Lib.hid (fun h:putE (X.nodes.getD n N.zero).held m = 0=>(show risesB ((holdW X n m).nodes.getD n N.zero).held = true by rw [hh2];exact putL_rises h))
  have hhs:((holdW X n m).nodes.getD n N.zero).held.length ≤ 1000 ∧ ((holdW X n m).nodes.getD n N.zero).told.length ≤ 1000:=by
   rw [hh2]
   exact ⟨by show (putL _ m).length ≤ 1000;omega,by show (X.nodes.getD n N.zero).told.length ≤ 1000;omega⟩
  have hnY:n < (holdW X n m).nodes.length:=by rw [hh1];exact hn1
  clear hh1 hh2 hrs
  obtain ⟨e0,hE⟩:∃ e0,putE (X.nodes.getD n N.zero).held m = e0:=⟨_,rfl⟩
  rw [hE] at hPt hP hhr
  replace hE:=Lib.hid hE
  obtain ⟨r1,hr1⟩:∃ r1,(if e0 ≠ 0 then (e0,Wd.none) else if tellE (holdW X n m) n ≠ 0 then (tellE (holdW X n m) n,Wd.none) else (0,tellW (holdW X n m) n)) = r1:=⟨_,rfl⟩
  rw [hr1] at hP
  have hpl:=Lib.hid (show (putL (X.nodes.getD n N.zero).held m).length ≤ 1000 by omega)
  replace back:=Lib.hid back
  generalize holdW X n m = Y at *
  obtain ⟨x,HX⟩:∃ x,X.nodes.getD n N.zero = x:=⟨_,rfl⟩
  simp only [HX] at *
  clear HX
  replace hP:=Lib.hid hP
  replace hr1:=Lib.hid hr1
  replace hW0:=Lib.hid hW0
  replace hPt:=Lib.hid hPt
  obtain ⟨_,q0,q1,q2⟩:=id hbox
  unfold M.val at hPt ⊢
  unfold MsgBox at hM
  rw [hnull] at hPt hM hA ⊢
  clear hmv
  go_enter Tryz.func98,Tryz.ntmps98
  go_upto_region 2 with fail
  generalize w.alloc (.cells #[.int .i64 m.src, .int .i64 m.grp, .int .i64 m.stamp, .bool false, .string m.body] 62) = wA at *
  have p1:=(hA.cell (p:=⟨b,1,none⟩) hbl).trans q1
  have n2:=(hA.cell (p:=⟨g,n * 4 + 2,none⟩) hgl).trans c2
  obtain ⟨m0,m1,m2,m3,m4⟩:=hM
  have hpl1:=cell_lt p1
  have hnl2:=cell_lt n2
  have hml:=cell_lt m0
  dsimp only at hpl1 hnl2 hml
  have hSB:∀ W,Below wA.heap.size wA W → W.cell? ⟨b,1,none⟩ = some (.slice (some ⟨g,0,none⟩) X.nodes.length cap) ∧ W.cell? ⟨g,n * 4 + 2,none⟩ = some (.slice ha x.held.length hcp) ∧ W.cell? ⟨w.heap.size,0,none⟩ = some (.int .i64 m.src) ∧ W.cell? ⟨w.heap.size,1,none⟩ = some (.int .i64 m.grp) ∧ W.cell? ⟨w.heap.size,2,none⟩ = some (.int .i64 m.stamp) ∧ W.cell? ⟨w.heap.size,3,none⟩ = some (.bool false) ∧ W.cell? ⟨w.heap.size,4,none⟩ = some (.string m.body):=
   fun W h=>⟨(h.cell (p:=⟨b,1,none⟩) hpl1).trans p1,(h.cell (p:=⟨g,n * 4 + 2,none⟩) hnl2).trans n2,(h.cell (p:=⟨w.heap.size,0,none⟩) hml).trans m0,(h.cell (p:=⟨w.heap.size,1,none⟩) hml).trans m1,(h.cell (p:=⟨w.heap.size,2,none⟩) hml).trans m2,(h.cell (p:=⟨w.heap.size,3,none⟩) hml).trans m3,(h.cell (p:=⟨w.heap.size,4,none⟩) hml).trans m4⟩
  clear p1 n2 m0 m1 m2 m3 m4
  refine wp_region_N (fun w'=>w'.cell? ⟨b,1,none⟩ = some (.slice (some ⟨g,0,none⟩) X.nodes.length cap) ∧ w'.cell? ⟨g,n * 4 + 2,none⟩ = some (.slice ha x.held.length hcp) ∧ w'.cell? ⟨w.heap.size,0,none⟩ = some (.int .i64 m.src) ∧ w'.cell? ⟨w.heap.size,1,none⟩ = some (.int .i64 m.grp) ∧ w'.cell? ⟨w.heap.size,2,none⟩ = some (.int .i64 m.stamp) ∧ w'.cell? ⟨w.heap.size,3,none⟩ = some (.bool false) ∧ w'.cell? ⟨w.heap.size,4,none⟩ = some (.string m.body)) 14 15 rfl (by kernel_rfl) (hSB _ (below_drewN wA 1)) (fun hSw=>?_)
  refine tk 0 ?_ rfl rfl (by kernel_rfl) (.inl ⟨by rfl, ?_⟩) hSw ?_
  rotate_left
  ·rintro w ⟨s0,s1,s2,s3,s4,s5,s6⟩;go_simp;try with_reducible rfl
  simp only [tkp,tkz,tks]
  refine tk 1 ?_ rfl rfl (by kernel_rfl) (.inl ⟨by rfl, ?_⟩) hSw ?_
  rotate_left
  ·rintro w ⟨s0,s1,s2,s3,s4,s5,s6⟩;go_simp;try with_reducible rfl
  simp only [tkp,tkz,tks]
  refine tk 2 ?_ rfl rfl (by kernel_rfl) (.inl ⟨by rfl, ?_⟩) hSw ?_
  rotate_left
  ·rintro w ⟨s0,s1,s2,s3,s4,s5,s6⟩;go_simp;try with_reducible rfl
  simp only [tkp,tkz,tks]
  refine tk 3 ?_ rfl rfl (by kernel_rfl) (.inl ⟨by rfl, ?_⟩) hSw ?_
  rotate_left
  ·rintro w ⟨s0,s1,s2,s3,s4,s5,s6⟩;go_simp;try with_reducible rfl
  simp only [tkp,tkz,tks]
  refine tk 4 ?_ rfl rfl (by kernel_rfl) (.inl ⟨by rfl, ?_⟩) hSw ?_
  rotate_left
  ·rintro w ⟨s0,s1,s2,s3,s4,s5,s6⟩;go_simp;try with_reducible rfl
  simp only [tkp,tkz,tks]
  refine tk 5 ?_ rfl rfl (by kernel_rfl) (.inl ⟨by rfl, ?_⟩) hSw ?_
  rotate_left
  ·rintro w ⟨s0,s1,s2,s3,s4,s5,s6⟩;go_simp;try with_reducible rfl
  simp only [tkp,tkz,tks]
  refine tk 6 ?_ rfl rfl (by kernel_rfl) (.inl ⟨by rfl, ?_⟩) hSw ?_
  rotate_left
  ·rintro w ⟨s0,s1,s2,s3,s4,s5,s6⟩;go_simp;try with_reducible rfl
  simp only [tkp,tkz,tks]
  refine tk 7 ?_ rfl rfl (by kernel_rfl) (.inl ⟨by rfl, ?_⟩) hSw ?_
  rotate_left
  ·rintro w ⟨s0,s1,s2,s3,s4,s5,s6⟩;go_simp;try with_reducible rfl
  simp only [tkp,tkz,tks]
  refine tk 8 ?_ rfl rfl (by kernel_rfl) (.inl ⟨by rfl, ?_⟩) hSw ?_
  rotate_left
  ·rintro w ⟨s0,s1,s2,s3,s4,s5,s6⟩;go_simp;try with_reducible rfl
  simp only [tkp,tkz,tks]
  refine N_one' (i:=9) (by kernel_rfl) rfl ?_
  go_wp2_with fail
  refine (hPt.out _ (below_trans hA (below_drewN wA 1))).mono ?_
  rintro e w2 ⟨v2,rfl,ho2,b2⟩
  obtain ⟨a2,c2',rfl⟩:=own_form ho2.2
  have b2:Below wA.heap.size wA w2:=below_trans (below_drewN wA 1) b2
  have hSw:=hSB w2 b2
  go_wp2_with fail
  refine QK_normal ⟨fun _=>hSB w2 b2, ?_⟩
  refine tk 10 ?_ rfl rfl (by kernel_rfl) (.inl ⟨by rfl, ?_⟩) hSw ?_
  rotate_left
  ·rintro w ⟨s0,s1,s2,s3,s4,s5,s6⟩;go_simp;try with_reducible rfl
  simp only [tkp,tkz,tks]
  refine tk 11 ?_ rfl rfl (by kernel_rfl) (.inl ⟨by rfl, ?_⟩) hSw ?_
  rotate_left
  ·rintro w ⟨s0,s1,s2,s3,s4,s5,s6⟩;go_simp;try with_reducible rfl
  simp only [tkp,tkz,tks]
  refine tk 12 ?_ rfl rfl (by kernel_rfl) (.inl ⟨by rfl, ?_⟩) hSw ?_
  rotate_left
  ·rintro w ⟨s0,s1,s2,s3,s4,s5,s6⟩;go_simp;try with_reducible rfl
  simp only [tkp,tkz,tks]
  refine tk 13 ?_ rfl rfl (by kernel_rfl) (.inl ⟨by rfl, ?_⟩) hSw ?_
  rotate_left
  ·rintro w ⟨s0,s1,s2,s3,s4,s5,s6⟩;go_simp;try with_reducible rfl
  simp only [tkp,tkz,tks]
  refine N_rest 14 1 (Nat.le_refl _) rfl (by kernel_rfl) ?_
  simp only [List.drop_succ_cons,List.drop_zero]
  have bw:=below_trans hA b2
  by_cases he:e0 = 0
  ·subst he
   have hr2:=hr1.out
   rw [if_neg (by simp)] at hr2
   have hf:=(hgb.same (bw.block g hgl)).frozen (n * 4 + 2)
   have hbx2:=hbox.keep (bw.block b hbl)
   have kn2:=(bw.cell (p:=⟨g,n * 4 + 2,none⟩) hgl).trans c2
   obtain ⟨hwi,S',hO',hS'⟩:=back.out w2 _ _ bw ⟨ho2.1,owns_mono ho2.2 hA.size⟩ (by have:=hpl.out;omega)
   have hY:=hW0.out
   rw [← hY] at hO'
   have hbx3:=hbx2.keep (w':=w2.setCell ⟨g,n * 4 + 2,none⟩ (.slice a2 (putL x.held m).length c2')) (Go.Deep.blk_setCell_other _ _ _ _ (fun e=>hbS (by rw [show b = g from e];exact hgS)))
   obtain ⟨_,z0,z1,z2⟩:=id hbx2
   clear hSB hSw hr1 hY
   replace hr2:=Lib.hid hr2
   go_upto_region 6 with fail
   generalize w2.setCell ⟨g,n * 4 + 2,none⟩ (.slice a2 (putL x.held m).length c2') = w3 at *
   have hT:=To_c hbx3 hO' (fun c hc=>(hS' c hc).2) hnY hht (hhr.out rfl) hhs
   clear z0 z1 z2 kn2 hf
   obtain ⟨k1',hk1'⟩:∃ k1':Int,(if tellE Y n = 0 then ((readyX Y n).length:Int) else 0) = k1':=⟨_,rfl⟩
   rw [hk1'] at hT
   clear hk1'
   go_wp2_with fail
   refine hT.mono ?_
   rintro e w4 ⟨rfl,hwi4,hok,hno⟩
   clear hT
   have hr3:=hr2.out
   have hwF:=hwi.trans hwi4 (fun c hc=>(hS' c hc).1)
   have hsz:=hwi.size
   go_wp2_with fail
   rw [← hP.out, ← hr3]
   by_cases ht0:tellE Y n = 0
   ·rw [if_neg (by simp [ht0])]
    obtain ⟨S2,h2,h3⟩:=hok ht0
    refine ⟨by simp [ht0],hwF,fun _=>⟨S2,h2,fun c hc=>⟨?_,(h3 c hc).2⟩⟩⟩
    rcases (h3 c hc).1 with h | h
    ·exact (hS' c h).1
    ·exact Or.inr (by omega)
   ·rw [if_pos ht0]
    exact ⟨rfl,hwF,fun h=>absurd h ht0⟩
  ·have hne:(e0 != 0) = true:=by simpa using he
   have hr2:=hr1.out
   rw [if_pos he] at hr2
   replace he:=Lib.hid he
   clear hSB hSw
   go_wp2_with fail
   rw [← hP.out, ← hr2]
   exact ⟨rfl,Within.of_below bw,fun h=>absurd h he.out⟩
 · -- a Null
  rw [castEnd_null hnull] at hP
  have hT:=fun (W:World) (h:Below w.heap.size w W)=>To_c (hbox.keep (h.block b hbl)) (hW.keep (fun c hc=>h.block c (hSl c hc))) (fun c hc=>Nat.lt_of_lt_of_le (hSl c hc) h.size) hn1 ht hri (by omega)
  unfold MsgBox at hM
  rw [hmv]
  rw [hnull] at hM hA ⊢
  clear hmv
  obtain ⟨k1',hk1'⟩:∃ k1':Int,(if tellE X n = 0 then ((readyX X n).length:Int) else 0) = k1':=⟨_,rfl⟩
  rw [hk1'] at hT
  clear hk1'
  replace hP:=Lib.hid hP
  replace hT:=Lib.hid hT
  obtain ⟨m0,m1,m2,m3,m4⟩:=hM
  go_enter Tryz.func98,Tryz.ntmps98
  go_wp2_with fail
  refine (hT.out _ hA).mono ?_
  rintro e w4 ⟨rfl,hwi4,hok,hno⟩
  have hwF:Within S w w4:=(Within.of_below hA).trans hwi4 (fun _ h=>Or.inl h)
  have hsz:=hA.size
  go_wp2_with fail
  rw [← hP.out]
  by_cases ht0:tellE X n = 0
  ·rw [if_neg (by simp [ht0])]
   obtain ⟨S2,h2,h3⟩:=hok ht0
   refine ⟨by simp [ht0],hwF,fun _=>⟨S2,h2,fun c hc=>⟨?_,(h3 c hc).2⟩⟩⟩
   rcases (h3 c hc).1 with h | h
   ·exact Or.inl h
   ·exact Or.inr (by omega)
  ·rw [if_pos ht0]
   exact ⟨rfl,hwF,fun h=>absurd h ht0⟩
end Go.Proofs.YtnalakhelicjcaaGreat
set_option maxRecDepth 100000
namespace Go.Proofs.YtnalakhelicjcaaGreat
open Go.RowKit Go.Shelf Go.BigFrame
theorem OWd.wire_push {w:World} {S:Nat → Prop} {gv nv wv:Value} {Y:Wd} (hW:OWd true w S gv nv wv Y) (hSl:∀ c,S c → c < w.heap.size) {a k:Nat} (ha:a < Y.wires.length) (hk:k < (Y.wires.getD a []).length) (hl40:(wireL Y a k).length ≤ 1000) :
  ∃ (g1 cap1 g2 cap2:Nat) (ua:Option Addr) (uc:Nat),wv = .slice (some ⟨g1,0,none⟩) Y.wires.length cap1 ∧ Y.wires.length ≤ cap1 ∧ S g1 ∧ w.cell? ⟨g1,a,none⟩ = some (.slice (some ⟨g2,0,none⟩) (Y.wires.getD a []).length cap2) ∧ (Y.wires.getD a []).length ≤ cap2 ∧ S g2 ∧ BlkIs w g2 50 cap2 ∧
   w.cell? ⟨g2,k,none⟩ = some (.slice ua (wireL Y a k).length uc) ∧ Msgs w (.slice ua (wireL Y a k).length uc) (wireL Y a k) ∧
   ∀ (wq:World) (m:M) (B:Nat),m.fits → Below w.heap.size w wq → w.heap.size ≤ B → (∀ j u,m.cells[j]? = some u → wq.cell? ((⟨B,0,none⟩:Addr).add j) = some u) →
    ∃ (v9:Value) (w9:World) (a9:Option Addr) (c9:Nat),(∀ ty,(Builtin.append_ #[50,50] ty #[.slice ua (wireL Y a k).length uc, .slice (some ⟨B,0,none⟩) 1 1]).run Tryz.prog wq = .ok v9 w9) ∧ v9 = .slice a9 ((wireL Y a k).length + 1) c9 ∧ w9.frozen? ⟨g2,k,none⟩ = false ∧ w9.cell? ⟨g2,k,none⟩ = some (.slice ua (wireL Y a k).length uc) ∧ Within S w w9 ∧
     Within S w (w9.setCell ⟨g2,k,none⟩ v9) ∧ ∃ S9,OWd true (w9.setCell ⟨g2,k,none⟩ v9) S9 gv nv wv (wirePut Y a k (wireL Y a k ++ [m])) ∧ ∀ c,S9 c → (S c ∨ w.heap.size ≤ c) ∧ c < (w9.setCell ⟨g2,k,none⟩ v9).heap.size:=by
 obtain ⟨g1,cap1,g2,cap2,u,T2,e1,h1,hg1S,hg1l,k1,hc2,hg2S,hg2l,hg2b,k2,hU,hT2,hg12,back⟩:=hW.wire_at (a:=a) (k:=k) ha hk
 have hUf:OMsgs true w T2 u (wireL Y a k):=hU
 obtain ⟨ua,uc,rfl,huc,_⟩:=OSl.form hUf
 refine ⟨g1,cap1,g2,cap2,ua,uc,e1,h1,hg1S,k1,hc2,hg2S,hg2b,k2,hUf.msgs,fun wq m B hm hb hB hcell=>?_⟩
 obtain ⟨i0,hi0,hz0,hz1,hz2⟩:=info_parts infoCMsg
 have hqs:=hb.size
 have hTl:∀ c,T2 c → c < w.heap.size:=fun c hc=>hSl c (hT2 c hc).1
 have hUq:OMsgs true wq T2 (.slice ua (wireL Y a k).length uc) (wireL Y a k):=hUf.keep (fun c hc=>hb.block c (hTl c hc))
 obtain ⟨v9,w9,hr,hp⟩:=run_push (P:=Tryz.prog) wq 50 0 62 i0 _ 5 48 Tryz.underlying50 hi0 hz0 hz1 hz2 rfl (by decide) MEl.stays _ T2 (wireL Y a k) hUq (fun c hc=>by have:=hTl c hc;omega) ⟨B,0,none⟩ 1 m.cells rfl hcell (by simp [M.cells,Value.oneCell'])
  (fun _=>False) m ⟨rfl,hm⟩ (fun _ h=>h.elim) (by omega) (by omega) (by omega)
 have hp9:=hp
 obtain ⟨⟨S8,h8,h8b⟩,hs9,hl9,hb9,a9,c9,rfl⟩:=hp
 have hk9:∀ c,c < w.heap.size → ¬ T2 c → w9.heap[c]? = w.heap[c]?:=fun c hc hn=>(hl9 c ⟨by omega,hn⟩).trans (hb.block c hc)
 have hg2n:¬ T2 g2:=fun h=>(hT2 g2 h).2.2 rfl
 have h29:=hk9 g2 hg2l hg2n
 have hW9:Within S w w9:=by
  have hB0:=hb9 0 (fun _ _=>Nat.zero_le _) (Nat.zero_le _)
  refine ⟨hB0.os.trans hb.os,hB0.tape.trans hb.tape,hB0.output.trans hb.output,by omega,fun c hc hs=>hk9 c hc (fun h=>hs (hT2 c h).1)⟩
 have hWF:=hW9.setCell (a:=⟨g2,k,none⟩) hg2S (.slice a9 ((wireL Y a k).length + 1) c9)
 refine ⟨_,w9,a9,c9,fun ty=>hr,rfl,(hg2b.same h29).frozen k,(World.cell?_of_block (w:=w) (a:=⟨g2,k,none⟩) h29).trans k2,hW9,hWF, ?_⟩
 have hwF:(w9.setCell ⟨g2,k,none⟩ (.slice a9 ((wireL Y a k).length + 1) c9)).heap.size = w9.heap.size:=Go.Deep.nblk_setCell _ _ _
 have hS8:∀ c,S8 c → (T2 c ∨ w.heap.size ≤ c) ∧ c < w9.heap.size:=fun c hc=>by
  obtain ⟨h,h2⟩:=h8b c hc
  refine ⟨?_,h2⟩
  rcases h with h | h | h
  ·exact Or.inl h
  ·exact h.elim
  ·exact Or.inr (by omega)
 have hkF:∀ c,c < w.heap.size → ¬ T2 c → c ≠ g2 → (w9.setCell ⟨g2,k,none⟩ (.slice a9 ((wireL Y a k).length + 1) c9)).heap[c]? = w.heap[c]?:=fun c hc hn hg=>(Go.Deep.blk_setCell_other _ _ _ _ hg).trans (hk9 c hc hn)
 refine ⟨_,back _ S8 _ (wireL Y a k ++ [m]) (fun c hc=>hkF c (hSl c hc.1) hc.2.2 hc.2.1) ((BlkSet.same (cs:=[.slice ua (wireL Y a k).length uc]) h29 (fun j hj=>?_)).set hg2b 0 (by simp) (by simp;omega) _) (OMsgs.keep h8 (fun c hc=>Go.Deep.blk_setCell_other _ _ _ _ ?_)) (fun c hc=>?_),fun c hc=>?_⟩
 ·obtain rfl:j = 0:=by simpa using hj
  exact k2
 ·show c ≠ g2
  rcases (hS8 c hc).1 with h | h
  ·exact (hT2 c h).2.2
  ·omega
 ·rcases (hS8 c hc).1 with h | h
  ·exact Or.inl h
  ·exact Or.inr (fun hs=>by have:=hSl c hs;omega)
 ·rw [hwF]
  rcases hc with h | h
  ·exact ⟨Or.inl h,by have:=hSl c h;omega⟩
  ·refine ⟨?_,(hS8 c h).2⟩
   rcases (hS8 c h).1 with h' | h'
   ·exact Or.inl (hT2 c h').1
   ·exact Or.inr h'
end Go.Proofs.YtnalakhelicjcaaGreat
