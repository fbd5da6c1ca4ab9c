/-
  The document's answer: a world of its own.
-/
import Derived.Test.YtnalakhelicjcaaGreatDoorZKO
set_option maxRecDepth 100000
namespace Go.Proofs.YtnalakhelicjcaaGreatDoor
open Go.RowKit Go.Shelf Go.BigFrame
set_option maxHeartbeats 16000000 in
theorem OwnWorld_c {w:World} {gv nv wv:Value} {X:Wd} (hg:Ints w gv X.groups) (hn:Nodes w nv X.nodes) (hw:Wires w wv X.wires) (hS:Small X) :
  Calls Tryz.prog 87 #[.agg #[gv,nv,wv]] w (OwnPost w X):=by
 have hgs:=hS.1
 have hnn:=hS.2.1
 have hww:=hS.2.2.1
 replace hS:=Lib.hid hS
 obtain ⟨hnl,na,ncap,rfl,hnc⟩:=hn.form
 obtain ⟨hwl,wa,wcap,rfl,hwc⟩:=hw.form
 obtain ⟨hgl,ga,gcap,rfl,_⟩:=hg.open
 obtain ⟨j0,hj0,jz0,jz1,jz2⟩:=info_parts infoCInt
 obtain ⟨m0,hm0,mz0,mz1,mz2⟩:=info_parts infoCMsg
 obtain ⟨n0,hn0,nz0,nz1,nz2⟩:=info_parts infoCNode
 obtain ⟨r0,hr0,rz0,rz1,rz2⟩:=info_parts infoCIntRow
 obtain ⟨q0,hq0,qz0,qz1,qz2⟩:=info_parts infoCMsgRow
 obtain ⟨s0,hs0,sz0,sz1,sz2⟩:=info_parts infoCMsgRows
 have hA:=below_a3 w (.cells #[.slice ga X.groups.length gcap, .slice na X.nodes.length ncap, .slice wa X.wires.length wcap] 35) (.cells #[.slice none 0 0, .slice none 0 0, .slice none 0 0] 35) (.cells #[] 3)
 have hR:=OBox.new (w.alloc (.cells #[.slice ga X.groups.length gcap, .slice na X.nodes.length ncap, .slice wa X.wires.length wcap] 35)) 35 (.slice none 0 0) (.slice none 0 0) (.slice none 0 0)
 have hB:=WBox.new w (.slice ga X.groups.length gcap) (.slice na X.nodes.length ncap) (.slice wa X.wires.length wcap) 35
 have hemp:(((w.alloc (.cells #[.slice ga X.groups.length gcap, .slice na X.nodes.length ncap, .slice wa X.wires.length wcap] 35)).alloc (.cells #[.slice none 0 0, .slice none 0 0, .slice none 0 0] 35)).alloc (.cells #[] 3)).ownsRow (w.heap.size + 2) 3 1 (.slice (some ⟨w.heap.size + 1 + 1,0,none⟩) 0 0) 0 []:=by
  have h:=World.ownsRow_made (base:=w.heap.size + 2) (size:=1) (e:=3) ((w.alloc (.cells #[.slice ga X.groups.length gcap, .slice na X.nodes.length ncap, .slice wa X.wires.length wcap] 35)).alloc (.cells #[.slice none 0 0, .slice none 0 0, .slice none 0 0] 35)) #[] 0 (by rw [World.size_alloc,World.size_alloc];exact Nat.le_refl _) (by simp [maxLen]) (by simp)
  rwa [World.size_alloc,World.size_alloc] at h
 have hsz3:(((w.alloc (.cells #[.slice ga X.groups.length gcap, .slice na X.nodes.length ncap, .slice wa X.wires.length wcap] 35)).alloc (.cells #[.slice none 0 0, .slice none 0 0, .slice none 0 0] 35)).alloc (.cells #[] 3)).heap.size = w.heap.size + 3:=by rw [World.size_alloc,World.size_alloc,World.size_alloc]
 go_enter Tryz.func87,Tryz.ntmps87
 go_wp2_with (at_builtin;refine wpList_append_row _ rfl _ _ 22 rfl (w.heap.size + 2) 3 j0 _ 1 8 Tryz.underlying22 hj0 jz0 jz1 jz2 rfl (by decide) _ 0 [] rfl hemp _ _ _ rfl (hg.below hA).2 (by simp [Value.oneCell']) (by unfold maxLen;omega) (by omega) (by rw [World.size_alloc,World.size_alloc,World.size_alloc];omega) ?_;intro gv1 w1 hown1 hgrow1 hat1;obtain ⟨ga1,gcap1,rfl⟩:=own_form hown1)
 have hb1:Below (w.heap.size + 2) _ w1:=below_row hgrow1 (fun k hk=>by cases hk;exact Nat.le_refl _) (by rw [hsz3];omega)
 have hs1:=hgrow1.size
 rw [hsz3] at hs1
 have hW1:Below w.heap.size w w1:=hA.trans (hb1.mono (by omega))
 have hB1:=(hB.below (below_a2 _ _ _) (by rw [World.size_alloc];omega)).below hb1 (by omega)
 have hR1:OBox w1 (w.heap.size + 1) 35 (.slice none 0 0) (.slice none 0 0) (.slice none 0 0):=by
  rw [World.size_alloc] at hR
  exact (hR.keep (Go.Deep.blk_alloc_lt _ _ _ (by rw [World.size_alloc,World.size_alloc];omega))).keep (hb1.block _ (by omega))
 have hG1:OInts w1 (fun b=>(Value.slice ga1 (0 + X.groups.length) gcap1).ownBlock = some b) (.slice ga1 (0 + X.groups.length) gcap1) X.groups:=by
  have h0:=hown1
  simp only [List.nil_append,Nat.zero_add] at h0 ⊢
  exact OInts.of_owns h0 hg.1 hgl
 simp only [Nat.zero_add] at hG1 hown1
 have hgb:∀ b,(Value.slice ga1 X.groups.length gcap1).ownBlock = some b → w.heap.size + 2 ≤ b ∧ b < w1.heap.size:=hown1.lt
 replace hG1:=Lib.hid hG1
 replace hgb:=Lib.hid hgb
 clear hA hR hB hemp hsz3 hown1 hgrow1 hat1 hb1
 have hob:=OBox.new w1 35 (.slice ga1 X.groups.length gcap1) (.slice none 0 0) (.slice none 0 0)
 have hbo:=below_a1 w1 (.cells #[.slice ga1 X.groups.length gcap1, .slice none 0 0, .slice none 0 0] 35)
 have hsb:(w1.alloc (.cells #[.slice ga1 X.groups.length gcap1, .slice none 0 0, .slice none 0 0] 35)).heap.size = w1.heap.size + 1:=World.size_alloc _ _
 generalize w1.alloc (.cells #[.slice ga1 X.groups.length gcap1, .slice none 0 0, .slice none 0 0] 35) = wB at *
 have hkp:∀ o,Below w1.heap.size w1 o → Below w.heap.size w o ∧ WBox o w.heap.size (.slice ga X.groups.length gcap) (.slice na X.nodes.length ncap) (.slice wa X.wires.length wcap) ∧ OBox o (w.heap.size + 1) 35 (.slice none 0 0) (.slice none 0 0) (.slice none 0 0):=
  fun o h=>⟨below_trans hW1 h,hB1.below h (by omega),hR1.keep (h.block _ (by omega))⟩
 replace hkp:=Lib.hid hkp
 clear hW1 hB1 hR1
 go_loopw [4] (fun i wr=>∃ k:Nat,k ≤ X.nodes.length ∧ i = .int .i64 k ∧ Below w1.heap.size w1 wr ∧ ∃ nv' S,OBox wr w1.heap.size 35 (.slice ga1 X.groups.length gcap1) nv' (.slice none 0 0) ∧ ONodes wr S nv' (X.nodes.take k) ∧ ∀ b,S b → w1.heap.size < b ∧ b < wr.heap.size) (fun i _=>X.nodes.length - (intOf i).toNat)
 case atStart=>exact ⟨0,by omega,rfl,hbo, .slice none 0 0,fun _=>False,hob,OSl.nil _ _ _ _ _ _,fun _ h=>h.elim⟩
 case round =>
  obtain ⟨k,hk,rfl,hb,nv',S,hob2,hN,hSb⟩:=hrel
  obtain ⟨hwb,⟨x0,x1,x2⟩,hR2⟩:=hkp.out _ hb
  have hRlt:=hR2.lt
  by_cases hlt:k < X.nodes.length
  ·obtain ⟨b1,o1,c1,lv,hv,tv,e1,_,k0,k1,k2,k3,hI,hr,hh,ht⟩:=hn.at hlt
   cases e1
   obtain ⟨hrl,la,lcap,rfl,hlc⟩:=hr.form
   obtain ⟨hhl,ha,hcap,rfl,_⟩:=hh.open
   obtain ⟨htl,ta,tcap,rfl,_⟩:=ht.open
   obtain ⟨x,HX⟩:∃ x,X.nodes.getD k N.zero = x:=⟨_,rfl⟩
   rw [HX] at k0 k1 k2 k3 hI hr hh ht hrl hlc hhl htl
   have hxm:x ∈ X.nodes:=by rw [← HX,getD_lt X.nodes N.zero hlt];exact List.getElem_mem _
   have hsm:=Lib.hid (hS.out.2.2.2.1 x hxm)
   have hsl:=hsm.out.1
   have hsh:=hsm.out.2.2.1
   have hst:=hsm.out.2.2.2
   replace HX:=Lib.hid HX
   clear hxm
   have k0:=(hwb.cell (p:=⟨b1,o1 + k * 4,none⟩) (cell_lt k0)).trans k0
   have k1:=(hwb.cell (p:=⟨b1,o1 + k * 4 + 1,none⟩) (cell_lt k1)).trans k1
   have k2:=(hwb.cell (p:=⟨b1,o1 + k * 4 + 2,none⟩) (cell_lt k2)).trans k2
   have k3:=(hwb.cell (p:=⟨b1,o1 + k * 4 + 3,none⟩) (cell_lt k3)).trans k3
   have hNew:=NBox.new wr x (.slice la x.last.length lcap) (.slice ha x.held.length hcap) (.slice ta x.told.length tcap) 65
   have hbN:=below_a1 wr (.cells #[.int .i64 x.clock, .slice la x.last.length lcap, .slice ha x.held.length hcap, .slice ta x.told.length tcap] 65)
   have hsN:(wr.alloc (.cells #[.int .i64 x.clock, .slice la x.last.length lcap, .slice ha x.held.length hcap, .slice ta x.told.length tcap] 65)).heap.size = wr.heap.size + 1:=World.size_alloc _ _
   go_wp2_with fail
   generalize wr.alloc (.cells #[.int .i64 x.clock, .slice la x.last.length lcap, .slice ha x.held.length hcap, .slice ta x.told.length tcap] 65) = wN at *
   have hkN:∀ o,Below wN.heap.size wN o → Below wr.heap.size wr o ∧ NBox o wr.heap.size x (.slice la x.last.length lcap) (.slice ha x.held.length hcap) (.slice ta x.told.length tcap):=
    fun o h=>⟨below_trans hbN h,hNew.below h (by omega)⟩
   replace hkN:=Lib.hid hkN
   clear k0 k1 k2 k3 hNew hbN
   obtain ⟨wo,rfl⟩:∃ wo:World,wo = wr:=⟨_,rfl⟩
   go_loopw [6,7] (fun l i ws=>∃ g:Nat,g ≤ x.last.length ∧ i = .int .i64 g ∧ Below wN.heap.size wN ws ∧ ∃ S,OIntRows ws S l (x.last.take g) ∧ ∀ b,S b → wo.heap.size < b ∧ b < ws.heap.size) (fun _ i _=>x.last.length - (intOf i).toNat)
   case atStart=>exact ⟨0,by omega,rfl,Below.refl _ _,fun _=>False,OSl.nil _ _ _ _ _ _,fun _ h=>h.elim⟩
   case round =>
    obtain ⟨g,hgl2,rfl,hbs,S2,hL,hS2⟩:=hrel
    obtain ⟨hbr,y0,y1,y2,y3⟩:=hkN.out _ hbs
    obtain ⟨l2a,l2c,hl2,hl2c,_⟩:=OSl.form hL
    rw [List.length_take,Nat.min_eq_left hgl2] at hl2 hl2c
    subst hl2
    by_cases hlg:g < x.last.length
    ·obtain ⟨b2,o2,c2,u,e2,_,r1,hu⟩:=hr.at hlg
     cases e2
     obtain ⟨hul,ua,ucap,rfl,_⟩:=hu.open
     obtain ⟨row,HR⟩:∃ row,x.last.getD g [] = row:=⟨_,rfl⟩
     rw [HR] at r1 hu hul
     have hrm:row.length ≤ 1000:=hsm.out.2.1 row (by rw [← HR,getD_lt x.last [] hlg];exact List.getElem_mem _)
     replace HR:=Lib.hid HR
     have hWS:=below_trans hwb hbr
     have r1:=(hWS.cell (p:=⟨b2,o2 + g,none⟩) (cell_lt r1)).trans r1
     have huI:=(hu.below hWS).below (below_a1 wr (.cells #[] 3))
     have hyb:=cell_lt y1
     have hrb:=cell_lt r1
     dsimp only at hyb hrb
     have hrow1:=huI.2
     go_wp2_with (first
      |(at_builtin;refine wpList_append_row _ rfl _ _ 22 rfl wr.heap.size 3 j0 _ 1 8 Tryz.underlying22 hj0 jz0 jz1 jz2 rfl (by decide) (.slice (some ⟨wr.heap.size,0,none⟩) 0 0) 0 [] rfl (World.ownsRow_made wr #[] 0 (Nat.le_refl _) (by simp [maxLen]) (by simp)) _ _ _ rfl hrow1 (by simp [Value.oneCell']) (by unfold maxLen;omega) (by omega) (by rw [World.size_alloc];omega) ?_;intro v3 w3 hown3 hgrow3 _;obtain ⟨a3,c3,rfl⟩:=own_form hown3
        have hb3:Below wr.heap.size wr w3:=(below_a1 _ _).trans (below_row hgrow3 (fun k hk=>by cases hk;exact Nat.le_refl _) (by rw [World.size_alloc];omega))
        simp only [Nat.zero_add,List.nil_append] at hown3
        have hO3:=OInts.of_owns hown3 hu.1 hul
        have hL3:=hL.keep (w':=w3.alloc (.cells #[.slice a3 row.length c3] 22)) (fun b hb=>(Go.Deep.blk_alloc_lt _ _ _ (by have:=hb3.size;have:=hS2 b hb;omega)).trans (hb3.block b (hS2 b hb).2))
        have hO4:=hO3.keep (w':=w3.alloc (.cells #[.slice a3 row.length c3] 22)) (fun b hb=>Go.Deep.blk_alloc_lt _ _ _ (hown3.lt b hb).2))
      |(at_builtin;refine wpList_push _ rfl _ _ 62 rfl 22 r0 _ 1 24 Tryz.underlying62 hr0 rz0 rz1 rz2 rfl (by decide) OIntsEl.stays _ rfl S2 (x.last.take g) hL3 (fun b hb=>by have:=hb3.size;have:=hS2 b hb;rw [World.size_alloc];omega) ⟨w3.heap.size,0,none⟩ _ rfl [_] rfl (cell_one_new _ _ _) (by simp [Value.oneCell']) (fun b=>(Value.slice a3 row.length c3).ownBlock = some b) row ⟨_,rfl,hO4⟩ (fun b hb=>⟨fun h=>by have:=hown3.lt b hb;have:=hS2 b h;omega,by have:=hown3.lt b hb;rw [World.size_alloc];omega⟩) (by rw [List.length_take];omega) (by omega) (by omega) ?_;intro v4 w4 hp4))
     obtain ⟨⟨S4,h4,h4b⟩,hs4,hl4,hbb4,_⟩:=hp4
     go_roundw
     case rel =>
      refine ⟨g + 1,by omega,by go_num, ?_,S4, ?_,fun b hb=>?_⟩
      ·exact ((hbs.trans (hb3.mono hbs.size)).alloc (by have:=hb3.size;have:=hbs.size;omega) _).trans (hbb4 wN.heap.size (fun b hb=>by have:=hS2 b hb;omega) (by rw [World.size_alloc];have:=hb3.size;have:=hbs.size;omega))
      ·rw [List.take_succ_eq_append_getElem hlg, ← getD_lt x.last [] hlg,HR.out]
       exact h4
      ·obtain ⟨h5,h6⟩:=h4b b hb
       refine ⟨?_,h6⟩
       rcases h5 with h5 | h5 | h5
       ·exact (hS2 b h5).1
       ·have:=(hown3.lt b h5).1;omega
       ·rw [World.size_alloc] at h5;have:=hb3.size;omega
     case measure=>simp [intOf];omega
    ·obtain rfl:g = x.last.length:=by omega
     rw [List.take_length] at hL
     have hob3:=hob2.keep (hbr.block _ hob2.lt)
     have hN3:=hN.keep (w':=wr) (fun b hb=>hbr.block b (hSb b hb).2)
     obtain ⟨na3,nc3,hnv3,_,_⟩:=OSl.form hN3
     rw [List.length_take,Nat.min_eq_left hk] at hnv3
     subst hnv3
     have hyb:=cell_lt y0
     have hfz:=hob3.1.frozen 1
     have hob3K:=hob3
     obtain ⟨_,hz0,hz1,hz2⟩:=hob3
     have hWS:=below_trans hwb hbr
     have hHR:∀ W,Below wr.heap.size wr W → Row W (.slice ha x.held.length hcap) x.held.length 5 (x.held.flatMap M.cells):=fun W hW=>((hh.below hWS).below hW).2
     have hTR:∀ W,Below wr.heap.size wr W → Row W (.slice ta x.told.length tcap) x.told.length 5 (x.told.flatMap M.cells):=fun W hW=>((ht.below hWS).below hW).2
     go_wp2_with fail
     have hln:x.held.length ≤ 1000 ∧ x.told.length ≤ 1000:=⟨hsh,hst⟩
     have hft:=Lib.hid (And.intro hh.1 ht.1)
     have hE2:((wr.alloc (.cells #[] 96)).alloc (.cells #[] 96)).heap.size = wr.heap.size + 2:=by rw [World.size_alloc,World.size_alloc]
     have hwo:w1.heap.size < wo.heap.size:=hob2.lt
     have hwne:w1.heap.size ≠ wo.heap.size:=Nat.ne_of_lt hwo
     have hwz:=cell_lt hz1
     dsimp only at hwz
     have hE3:((wr.alloc (.cells #[] 96)).alloc (.cells #[] 96)).drew.ownsRow wr.heap.size 96 5 (.slice (some ⟨wr.heap.size + 1,0,none⟩) 0 0) 0 []:=by
      have:=World.ownsRow_made (base:=wr.heap.size) (size:=5) (e:=96) (wr.alloc (.cells #[] 96)) #[] 0 (by rw [World.size_alloc];omega) (by simp [maxLen]) (by simp)
      rw [World.size_alloc] at this
      exact owns_drew this
     have hSB:∀ W,Below wr.heap.size wr W → W.cell? ⟨w1.heap.size,1,none⟩ = some (.slice na3 k nc3) ∧ W.cell? ⟨wo.heap.size,0,none⟩ = some (.int .i64 x.clock) ∧ W.cell? ⟨wo.heap.size,2,none⟩ = some (.slice ha x.held.length hcap) ∧ W.cell? ⟨wo.heap.size,3,none⟩ = some (.slice ta x.told.length tcap):=
      fun W h=>⟨(h.cell (p:=⟨w1.heap.size,1,none⟩) hwz).trans hz1,(h.cell (p:=⟨wo.heap.size,0,none⟩) hyb).trans y0,(h.cell (p:=⟨wo.heap.size,2,none⟩) hyb).trans y2,(h.cell (p:=⟨wo.heap.size,3,none⟩) hyb).trans y3⟩
     refine wp_region_N (fun w'=>w'.cell? ⟨w1.heap.size,1,none⟩ = some (.slice na3 k nc3) ∧ w'.cell? ⟨wo.heap.size,0,none⟩ = some (.int .i64 x.clock) ∧ w'.cell? ⟨wo.heap.size,2,none⟩ = some (.slice ha x.held.length hcap) ∧ w'.cell? ⟨wo.heap.size,3,none⟩ = some (.slice ta x.told.length tcap)) 15 18 rfl (by kernel_rfl) ⟨hz1,y0,y2,y3⟩ (fun hSw=>?_)
     refine N_take (i:=0) (v:=?_) rfl rfl (by kernel_rfl) (fun _ _ _ h=>h) (Or.inl ⟨by rfl, ?_⟩) hSw ?_
     rotate_left
     ·intro w hSw
      obtain ⟨hsw1,hsw2,hsw3,hsw4⟩:=hSw
      go_simp
      try with_reducible rfl
     simp only [Act.put]
     refine N_take (i:=1) (v:=?_) rfl rfl (by kernel_rfl) (fun _ _ _ h=>h) (Or.inl ⟨by rfl, ?_⟩) hSw ?_
     rotate_left
     ·intro w hSw
      obtain ⟨hsw1,hsw2,hsw3,hsw4⟩:=hSw
      go_simp
      try with_reducible rfl
     simp only [Act.put]
     refine N_take (i:=2) (v:=?_) rfl rfl (by kernel_rfl) (fun _ _ _ h=>h) (Or.inl ⟨by rfl, ?_⟩) hSw ?_
     rotate_left
     ·intro w hSw
      obtain ⟨hsw1,hsw2,hsw3,hsw4⟩:=hSw
      go_simp
      try with_reducible rfl
     simp only [Act.put]
     refine N_take (i:=3) (v:=?_) rfl rfl (by kernel_rfl) (fun _ _ _ h=>h) (Or.inl ⟨by rfl, ?_⟩) hSw ?_
     rotate_left
     ·intro w hSw
      obtain ⟨hsw1,hsw2,hsw3,hsw4⟩:=hSw
      go_simp
      try with_reducible rfl
     simp only [Act.put]
     refine N_take (i:=4) (v:=?_) rfl rfl (by kernel_rfl) (fun _ _ _ h=>h) (Or.inl ⟨by rfl, ?_⟩) hSw ?_
     rotate_left
     ·intro w hSw
      obtain ⟨hsw1,hsw2,hsw3,hsw4⟩:=hSw
      go_simp
      try with_reducible rfl
     simp only [Act.put]
     refine N_take (i:=6) (v:=?_) rfl rfl (by kernel_rfl) (fun _ _ _ h=>h) (Or.inl ⟨by rfl, ?_⟩) hSw ?_
     rotate_left
     ·intro w hSw
      obtain ⟨hsw1,hsw2,hsw3,hsw4⟩:=hSw
      go_simp
      try with_reducible rfl
     simp only [Act.put]
     refine N_take (i:=7) (v:=?_) rfl rfl (by kernel_rfl) (fun _ _ _ h=>h) (Or.inl ⟨by rfl, ?_⟩) hSw ?_
     rotate_left
     ·intro w hSw
      obtain ⟨hsw1,hsw2,hsw3,hsw4⟩:=hSw
      go_simp
      try with_reducible rfl
     simp only [Act.put]
     refine N_take (i:=10) (v:=?_) rfl rfl (by kernel_rfl) (fun _ _ _ h=>h) (Or.inl ⟨by rfl, ?_⟩) hSw ?_
     rotate_left
     ·intro w hSw
      obtain ⟨hsw1,hsw2,hsw3,hsw4⟩:=hSw
      go_simp
      try with_reducible rfl
     simp only [Act.put]
     refine N_take (i:=11) (v:=?_) rfl rfl (by kernel_rfl) (fun _ _ _ h=>h) (Or.inl ⟨by rfl, ?_⟩) hSw ?_
     rotate_left
     ·intro w hSw
      obtain ⟨hsw1,hsw2,hsw3,hsw4⟩:=hSw
      go_simp
      try with_reducible rfl
     simp only [Act.put]
     refine N_two' (i:=5) (j:=9) (by kernel_rfl) rfl rfl ?_ ?_
     ·go_wp2_with fail
      refine QK_normal ⟨?_, ?_⟩
      ·first | exact fun _=>hSB _ (below_drew (below_a1 _ _)) | exact hSB _ (below_drew (below_a1 _ _))
      refine N_two' (i:=8) (j:=9) (by kernel_rfl) rfl rfl ?_ ?_
      ·go_wp2_with (first
        |(at_builtin;refine wpList_append_row _ rfl _ _ 63 rfl wr.heap.size 96 m0 _ 5 48 Tryz.underlying63 hm0 mz0 mz1 mz2 rfl (by decide) (.slice (some ⟨wr.heap.size,0,none⟩) 0 0) 0 [] rfl (owns_drew (World.ownsRow_made _ #[] 0 (Nat.le_refl _) (by simp [maxLen]) (by simp))) _ _ _ rfl (hHR _ (below_drew (below_a1 _ _))) (one_flat _) (by unfold maxLen;omega) (by omega) (by rw [show ((wr.alloc (.cells #[] 96)).drew).heap.size = wr.heap.size + 1 from World.size_alloc _ _];omega) ?_;intro v5 w5 hown5 hgrow5 hat5;simp only [Nat.zero_add,List.nil_append] at hown5;obtain ⟨a5,c5,rfl⟩:=own_form hown5))
       have hb5:Below wr.heap.size wr w5:=(below_drew (below_a1 wr _)).trans (below_row hgrow5 (fun k hk=>by cases hk;exact Nat.le_refl _) (by rw [show ((wr.alloc (.cells #[] 96)).drew).heap.size = wr.heap.size + 1 from World.size_alloc _ _];omega))
       have hway:=hb5.size
       refine QK_normal ⟨?_, ?_⟩
       ·first | exact fun _=>hSB _ hb5 | exact hSB _ hb5
       refine N_one' (i:=9) (by kernel_rfl) rfl ?_
       go_wp2_with fail
       refine QK_normal ⟨?_, ?_⟩
       ·first | exact fun _=>hSB _ (hb5.alloc hway _) | exact hSB _ (hb5.alloc hway _)
       refine N_one' (i:=12) (by kernel_rfl) rfl ?_
       go_wp2_with (first
        |(at_builtin;refine wpList_append_row _ rfl _ _ 63 rfl wr.heap.size 96 m0 _ 5 48 Tryz.underlying63 hm0 mz0 mz1 mz2 rfl (by decide) (.slice (some ⟨w5.heap.size,0,none⟩) 0 0) 0 [] rfl (World.ownsRow_made _ #[] 0 hway (by simp [maxLen]) (by simp)) _ _ _ rfl (hTR _ (hb5.alloc hway _)) (one_flat _) (by unfold maxLen;omega) (by omega) (by rw [World.size_alloc];omega) ?_;intro v8 w8 hown8 hgrow8 hat8;simp only [Nat.zero_add,List.nil_append] at hown8;obtain ⟨a8,c8,rfl⟩:=own_form hown8))
       have hTO:=two_own1 hft.out hln hgrow5 hown5 hgrow8 hown8 hat8
       refine QK_normal ⟨?_, ?_⟩
       ·first | exact fun _=>hSB _ hTO.1 | exact hSB _ hTO.1
       obtain ⟨T8,U8,hN8,hS8,hx8,hT8,hT9⟩:=push_facts (E:=.cells #[.int .i64 x.clock, .slice l2a x.last.length l2c, .slice a5 x.held.length c5, .slice a8 x.told.length c8] 65) hTO hN3 hSb (Nat.le_of_lt hyb) hL hS2 hI
       have hs8:=hTO.1.size
       refine N_one' (i:=13) (by kernel_rfl) rfl ?_
       go_wp2_with fail
       refine QK_normal ⟨?_, ?_⟩
       ·first | exact fun _=>hSB _ hTO.1 | exact hSB _ hTO.1
       refine N_one' (i:=14) (by kernel_rfl) rfl ?_
       go_wp2_with fail
       refine QK_normal ⟨?_, ?_⟩
       ·first | exact fun _=>hSB _ (hTO.1.alloc hs8 _) | exact hSB _ (hTO.1.alloc hs8 _)
       refine N_rest 15 3 (Nat.le_refl _) rfl (by kernel_rfl) ?_
       simp only [List.drop_succ_cons,List.drop_zero]
       go_wp2_with (first
        |(at_builtin;refine wpList_push _ rfl _ _ 32 rfl 65 n0 _ 4 80 Tryz.underlying32 hn0 nz0 nz1 nz2 rfl (by decide) ONodeEl.stays _ rfl S (X.nodes.take k) hN8 hS8 ⟨w8.heap.size,0,none⟩ _ rfl [.int .i64 x.clock, .slice l2a x.last.length l2c, .slice a5 x.held.length c5, .slice a8 x.told.length c8] rfl (cells_new _ _ _) (by simp [Value.oneCell']) (fun b=>S2 b ∨ T8 b ∨ U8 b) x hx8 hT8 (by rw [List.length_take];omega) (by omega) (by omega) ?_;intro v9 w9 hp9;obtain ⟨a9,c9,rfl⟩:=hp9.2.2.2.2
          have hk9a:w9.heap[w1.heap.size]? = wr.heap[w1.heap.size]?:=(hp9.2.2.1 _ ⟨by rw [World.size_alloc];omega,fun h=>by have:=hSb _ h;omega⟩).trans ((Go.Deep.blk_alloc_lt _ _ _ (by omega)).trans (hTO.1.block _ (by omega)))
          have hob9:=hob3K.keep hk9a
          have hfz9:=hob9.1.frozen 1
          have hc9:=hob9.2.2.1))
       have hhX:X.nodes.take (k + 1) = X.nodes.take k ++ [x]:=by rw [List.take_succ_eq_append_getElem hlt, ← getD_lt X.nodes N.zero hlt,HX.out]
       replace hhX:=Lib.hid hhX
       go_roundw
       case rel =>
        obtain ⟨⟨S9,h9,h9b⟩,hs9,hl9,hbb9,_⟩:=hp9
        skip
        have hs8:=hTO.1.size
        rw [World.size_alloc] at hs9
        have hS9:∀ b,S9 b → w1.heap.size < b ∧ b < w9.heap.size:=fun b hb=>by
         obtain ⟨h,h2⟩:=h9b b hb
         rw [World.size_alloc] at h
         refine ⟨?_,h2⟩
         rcases h with h | h | h
         ·exact (hSb b h).1
         ·have:=hT9 b h;omega
         ·omega
        refine ⟨k + 1,by omega,by go_num,below_setCell (((hb.trans (hbr.mono hb.size)).trans (hTO.1.mono (by omega))).trans ((below_a1 w8 _).mono (by omega) |>.trans (hbb9 _ (fun b hb=>Nat.le_of_lt (hSb b hb).1) (by rw [World.size_alloc];omega)))) (Nat.le_refl _) _,_,S9,hob9.set1 _, ?_,fun b hb=>?_⟩
        ·rw [hhX.out]
         rw [List.length_take,Nat.min_eq_left hk] at h9
         exact ONodes.keep h9 (fun b hb=>Go.Deep.blk_setCell_other _ _ _ _ (by have:=hS9 b hb;show b ≠ w1.heap.size;omega))
        ·have:=hS9 b hb
         rw [Go.Deep.nblk_setCell];exact this
       case measure=>simp [intOf];omega
      ·go_wp2_with fail
       refine QK_normal ⟨?_, ?_⟩
       ·first | exact fun _=>hSB _ (below_drew (below_a2 _ _ _)) | exact hSB _ (below_drew (below_a2 _ _ _))
       refine N_one' (i:=8) (by kernel_rfl) rfl ?_
       go_wp2_with (first
        |(at_builtin;refine wpList_append_row _ rfl _ _ 63 rfl wr.heap.size 96 m0 _ 5 48 Tryz.underlying63 hm0 mz0 mz1 mz2 rfl (by decide) (.slice (some ⟨wr.heap.size,0,none⟩) 0 0) 0 [] rfl (owns_drew ((World.ownsRow_made wr #[] 0 (Nat.le_refl _) (by simp [maxLen]) (by simp)).alloc _)) _ _ _ rfl (hHR _ (below_drew (below_a2 _ _ _))) (one_flat _) (by unfold maxLen;omega) (by omega) (by rw [show (((wr.alloc (.cells #[] 96)).alloc (.cells #[] 96)).drew).heap.size = wr.heap.size + 2 from hE2];omega) ?_;intro v5 w5 hown5 hgrow5 hat5;simp only [Nat.zero_add,List.nil_append] at hown5;obtain ⟨a5,c5,rfl⟩:=own_form hown5))
       have hb5:Below wr.heap.size wr w5:=(below_drew (below_a2 wr _ _)).trans (below_row hgrow5 (fun k hk=>by cases hk;first | exact Nat.le_refl _ | exact Nat.le_succ _) (by rw [show (((wr.alloc (.cells #[] 96)).alloc (.cells #[] 96)).drew).heap.size = wr.heap.size + 2 from hE2];omega))
       have hway:=hb5.size
       refine QK_normal ⟨?_, ?_⟩
       ·first | exact fun _=>hSB _ hb5 | exact hSB _ hb5
       refine N_one' (i:=12) (by kernel_rfl) rfl ?_
       go_wp2_with (first
        |(at_builtin;refine wpList_append_row _ rfl _ _ 63 rfl wr.heap.size 96 m0 _ 5 48 Tryz.underlying63 hm0 mz0 mz1 mz2 rfl (by decide) (.slice (some ⟨wr.heap.size + 1,0,none⟩) 0 0) 0 [] rfl (emp2 (p:=wr.heap.size) (q:=wr.heap.size + 1) (by omega) (by omega) hgrow5) _ _ _ rfl (hTR _ hb5) (one_flat _) (by unfold maxLen;omega) (by omega) (by exact hway) ?_;intro v8 w8 hown8 hgrow8 hat8;simp only [Nat.zero_add,List.nil_append] at hown8;obtain ⟨a8,c8,rfl⟩:=own_form hown8))
       have hTO:=two_own2 (p:=wr.heap.size) (q:=wr.heap.size + 1) ⟨by omega,by omega,by omega,by omega,by omega⟩ hft.out hln hgrow5 hown5 hat5 hgrow8 hown8 hat8
       refine QK_normal ⟨?_, ?_⟩
       ·first | exact fun _=>hSB _ hTO.1 | exact hSB _ hTO.1
       obtain ⟨T8,U8,hN8,hS8,hx8,hT8,hT9⟩:=push_facts (E:=.cells #[.int .i64 x.clock, .slice l2a x.last.length l2c, .slice a5 x.held.length c5, .slice a8 x.told.length c8] 65) hTO hN3 hSb (Nat.le_of_lt hyb) hL hS2 hI
       have hs8:=hTO.1.size
       refine N_one' (i:=13) (by kernel_rfl) rfl ?_
       go_wp2_with fail
       refine QK_normal ⟨?_, ?_⟩
       ·first | exact fun _=>hSB _ hTO.1 | exact hSB _ hTO.1
       refine N_one' (i:=14) (by kernel_rfl) rfl ?_
       go_wp2_with fail
       refine QK_normal ⟨?_, ?_⟩
       ·first | exact fun _=>hSB _ (hTO.1.alloc hs8 _) | exact hSB _ (hTO.1.alloc hs8 _)
       refine N_rest 15 3 (Nat.le_refl _) rfl (by kernel_rfl) ?_
       simp only [List.drop_succ_cons,List.drop_zero]
       go_wp2_with (first
        |(at_builtin;refine wpList_push _ rfl _ _ 32 rfl 65 n0 _ 4 80 Tryz.underlying32 hn0 nz0 nz1 nz2 rfl (by decide) ONodeEl.stays _ rfl S (X.nodes.take k) hN8 hS8 ⟨w8.heap.size,0,none⟩ _ rfl [.int .i64 x.clock, .slice l2a x.last.length l2c, .slice a5 x.held.length c5, .slice a8 x.told.length c8] rfl (cells_new _ _ _) (by simp [Value.oneCell']) (fun b=>S2 b ∨ T8 b ∨ U8 b) x hx8 hT8 (by rw [List.length_take];omega) (by omega) (by omega) ?_;intro v9 w9 hp9;obtain ⟨a9,c9,rfl⟩:=hp9.2.2.2.2
          have hk9a:w9.heap[w1.heap.size]? = wr.heap[w1.heap.size]?:=(hp9.2.2.1 _ ⟨by rw [World.size_alloc];omega,fun h=>by have:=hSb _ h;omega⟩).trans ((Go.Deep.blk_alloc_lt _ _ _ (by omega)).trans (hTO.1.block _ (by omega)))
          have hob9:=hob3K.keep hk9a
          have hfz9:=hob9.1.frozen 1
          have hc9:=hob9.2.2.1))
       have hhX:X.nodes.take (k + 1) = X.nodes.take k ++ [x]:=by rw [List.take_succ_eq_append_getElem hlt, ← getD_lt X.nodes N.zero hlt,HX.out]
       replace hhX:=Lib.hid hhX
       go_roundw
       case rel =>
        obtain ⟨⟨S9,h9,h9b⟩,hs9,hl9,hbb9,_⟩:=hp9
        skip
        have hs8:=hTO.1.size
        rw [World.size_alloc] at hs9
        have hS9:∀ b,S9 b → w1.heap.size < b ∧ b < w9.heap.size:=fun b hb=>by
         obtain ⟨h,h2⟩:=h9b b hb
         rw [World.size_alloc] at h
         refine ⟨?_,h2⟩
         rcases h with h | h | h
         ·exact (hSb b h).1
         ·have:=hT9 b h;omega
         ·omega
        refine ⟨k + 1,by omega,by go_num,below_setCell (((hb.trans (hbr.mono hb.size)).trans (hTO.1.mono (by omega))).trans ((below_a1 w8 _).mono (by omega) |>.trans (hbb9 _ (fun b hb=>Nat.le_of_lt (hSb b hb).1) (by rw [World.size_alloc];omega)))) (Nat.le_refl _) _,_,S9,hob9.set1 _, ?_,fun b hb=>?_⟩
        ·rw [hhX.out]
         rw [List.length_take,Nat.min_eq_left hk] at h9
         exact ONodes.keep h9 (fun b hb=>Go.Deep.blk_setCell_other _ _ _ _ (by have:=hS9 b hb;show b ≠ w1.heap.size;omega))
        ·have:=hS9 b hb
         rw [Go.Deep.nblk_setCell];exact this
       case measure=>simp [intOf];omega
     ·go_wp2_with fail
      refine QK_normal ⟨?_, ?_⟩
      ·first | exact fun _=>hSB _ (below_drew (below_a1 _ _)) | exact hSB _ (below_drew (below_a1 _ _))
      refine N_one' (i:=5) (by kernel_rfl) rfl ?_
      go_wp2_with fail
      refine QK_normal ⟨?_, ?_⟩
      ·first | exact fun _=>hSB _ (below_drew (below_a2 _ _ _)) | exact hSB _ (below_drew (below_a2 _ _ _))
      refine N_one' (i:=8) (by kernel_rfl) rfl ?_
      go_wp2_with (first
       |(at_builtin;refine wpList_append_row _ rfl _ _ 63 rfl wr.heap.size 96 m0 _ 5 48 Tryz.underlying63 hm0 mz0 mz1 mz2 rfl (by decide) (.slice (some ⟨wr.heap.size + 1,0,none⟩) 0 0) 0 [] rfl (hE3) _ _ _ rfl (hHR _ (below_drew (below_a2 _ _ _))) (one_flat _) (by unfold maxLen;omega) (by omega) (by rw [show (((wr.alloc (.cells #[] 96)).alloc (.cells #[] 96)).drew).heap.size = wr.heap.size + 2 from hE2];omega) ?_;intro v5 w5 hown5 hgrow5 hat5;simp only [Nat.zero_add,List.nil_append] at hown5;obtain ⟨a5,c5,rfl⟩:=own_form hown5))
      have hb5:Below wr.heap.size wr w5:=(below_drew (below_a2 wr _ _)).trans (below_row hgrow5 (fun k hk=>by cases hk;first | exact Nat.le_refl _ | exact Nat.le_succ _) (by rw [show (((wr.alloc (.cells #[] 96)).alloc (.cells #[] 96)).drew).heap.size = wr.heap.size + 2 from hE2];omega))
      have hway:=hb5.size
      refine QK_normal ⟨?_, ?_⟩
      ·first | exact fun _=>hSB _ hb5 | exact hSB _ hb5
      refine N_one' (i:=12) (by kernel_rfl) rfl ?_
      go_wp2_with (first
       |(at_builtin;refine wpList_append_row _ rfl _ _ 63 rfl wr.heap.size 96 m0 _ 5 48 Tryz.underlying63 hm0 mz0 mz1 mz2 rfl (by decide) (.slice (some ⟨wr.heap.size,0,none⟩) 0 0) 0 [] rfl (emp2 (p:=wr.heap.size + 1) (q:=wr.heap.size) (by omega) (by omega) hgrow5) _ _ _ rfl (hTR _ hb5) (one_flat _) (by unfold maxLen;omega) (by omega) (by exact hway) ?_;intro v8 w8 hown8 hgrow8 hat8;simp only [Nat.zero_add,List.nil_append] at hown8;obtain ⟨a8,c8,rfl⟩:=own_form hown8))
      have hTO:=two_own2 (p:=wr.heap.size + 1) (q:=wr.heap.size) ⟨by omega,by omega,by omega,by omega,by omega⟩ hft.out hln hgrow5 hown5 hat5 hgrow8 hown8 hat8
      refine QK_normal ⟨?_, ?_⟩
      ·first | exact fun _=>hSB _ hTO.1 | exact hSB _ hTO.1
      obtain ⟨T8,U8,hN8,hS8,hx8,hT8,hT9⟩:=push_facts (E:=.cells #[.int .i64 x.clock, .slice l2a x.last.length l2c, .slice a5 x.held.length c5, .slice a8 x.told.length c8] 65) hTO hN3 hSb (Nat.le_of_lt hyb) hL hS2 hI
      have hs8:=hTO.1.size
      refine N_one' (i:=13) (by kernel_rfl) rfl ?_
      go_wp2_with fail
      refine QK_normal ⟨?_, ?_⟩
      ·first | exact fun _=>hSB _ hTO.1 | exact hSB _ hTO.1
      refine N_one' (i:=14) (by kernel_rfl) rfl ?_
      go_wp2_with fail
      refine QK_normal ⟨?_, ?_⟩
      ·first | exact fun _=>hSB _ (hTO.1.alloc hs8 _) | exact hSB _ (hTO.1.alloc hs8 _)
      refine N_rest 15 3 (Nat.le_refl _) rfl (by kernel_rfl) ?_
      simp only [List.drop_succ_cons,List.drop_zero]
      go_wp2_with (first
       |(at_builtin;refine wpList_push _ rfl _ _ 32 rfl 65 n0 _ 4 80 Tryz.underlying32 hn0 nz0 nz1 nz2 rfl (by decide) ONodeEl.stays _ rfl S (X.nodes.take k) hN8 hS8 ⟨w8.heap.size,0,none⟩ _ rfl [.int .i64 x.clock, .slice l2a x.last.length l2c, .slice a5 x.held.length c5, .slice a8 x.told.length c8] rfl (cells_new _ _ _) (by simp [Value.oneCell']) (fun b=>S2 b ∨ T8 b ∨ U8 b) x hx8 hT8 (by rw [List.length_take];omega) (by omega) (by omega) ?_;intro v9 w9 hp9;obtain ⟨a9,c9,rfl⟩:=hp9.2.2.2.2
         have hk9a:w9.heap[w1.heap.size]? = wr.heap[w1.heap.size]?:=(hp9.2.2.1 _ ⟨by rw [World.size_alloc];omega,fun h=>by have:=hSb _ h;omega⟩).trans ((Go.Deep.blk_alloc_lt _ _ _ (by omega)).trans (hTO.1.block _ (by omega)))
         have hob9:=hob3K.keep hk9a
         have hfz9:=hob9.1.frozen 1
         have hc9:=hob9.2.2.1))
      have hhX:X.nodes.take (k + 1) = X.nodes.take k ++ [x]:=by rw [List.take_succ_eq_append_getElem hlt, ← getD_lt X.nodes N.zero hlt,HX.out]
      replace hhX:=Lib.hid hhX
      go_roundw
      case rel =>
       obtain ⟨⟨S9,h9,h9b⟩,hs9,hl9,hbb9,_⟩:=hp9
       skip
       rw [World.size_alloc] at hs9
       have hS9:∀ b,S9 b → w1.heap.size < b ∧ b < w9.heap.size:=fun b hb=>by
        obtain ⟨h,h2⟩:=h9b b hb
        rw [World.size_alloc] at h
        refine ⟨?_,h2⟩
        rcases h with h | h | h
        ·exact (hSb b h).1
        ·have:=hT9 b h;omega
        ·omega
       refine ⟨k + 1,by omega,by go_num,below_setCell (((hb.trans (hbr.mono hb.size)).trans (hTO.1.mono (by omega))).trans ((below_a1 w8 _).mono (by omega) |>.trans (hbb9 _ (fun b hb=>Nat.le_of_lt (hSb b hb).1) (by rw [World.size_alloc];omega)))) (Nat.le_refl _) _,_,S9,hob9.set1 _, ?_,fun b hb=>?_⟩
       ·rw [hhX.out]
        rw [List.length_take,Nat.min_eq_left hk] at h9
        exact ONodes.keep h9 (fun b hb=>Go.Deep.blk_setCell_other _ _ _ _ (by have:=hS9 b hb;show b ≠ w1.heap.size;omega))
       ·have:=hS9 b hb
        rw [Go.Deep.nblk_setCell];exact this
      case measure=>simp [intOf];omega
  ·obtain rfl:k = X.nodes.length:=by omega
   rw [List.take_length] at hN
   clear hk hlt
   obtain ⟨wo,rfl⟩:∃ wo:World,wo = wr:=⟨_,rfl⟩
   have hso:=hob2.lt
   go_wp2_with fail
   go_loopw [8] (fun i ws=>∃ k:Nat,k ≤ X.wires.length ∧ i = .int .i64 k ∧ Below w1.heap.size w1 ws ∧ wo.heap.size ≤ ws.heap.size ∧ Lies (fun b=>b < wo.heap.size ∧ b ≠ w1.heap.size) wo ws ∧ ∃ wv' S3,OBox ws w1.heap.size 35 (.slice ga1 X.groups.length gcap1) nv' wv' ∧ OWires true ws S3 wv' (X.wires.take k) ∧ ∀ b,S3 b → wo.heap.size ≤ b ∧ b < ws.heap.size) (fun i _=>X.wires.length - (intOf i).toNat)
   case atStart=>exact ⟨0,by omega,rfl,hb,Nat.le_refl _,fun _ _=>rfl,_,fun _=>False,hob2,OSl.nil _ _ _ _ _ _,fun _ h=>h.elim⟩
   case round =>
    obtain ⟨k,hk,rfl,hb3,hs3,hl3,wv3,S3,hob3,hW3,hS3⟩:=hrel
    obtain ⟨hwb3,⟨y0,y1,y2⟩,hR3⟩:=hkp.out _ hb3
    have hR3lt:=hR3.lt
    obtain ⟨oa3,oc3,hwv3,_,_⟩:=OSl.form hW3
    rw [List.length_take,Nat.min_eq_left hk] at hwv3
    subst hwv3
    have hob3K:=hob3
    have hfz:=hob3.1.frozen 2
    obtain ⟨_,z0,z1,z2⟩:=hob3
    by_cases hlt:k < X.wires.length
    ·obtain ⟨b1,o1,c1,u,e1,_,r1,hu⟩:=hw.row hlt
     cases e1
     obtain ⟨hul,ua,ucap,rfl,_⟩:=hu.form
     obtain ⟨row,HR⟩:∃ row,X.wires.getD k [] = row:=⟨_,rfl⟩
     rw [HR] at r1 hu hul
     have hrm:row ∈ X.wires:=by rw [← HR,getD_lt X.wires [] hlt];exact List.getElem_mem _
     have hsm:=Lib.hid (hS.out.2.2.2.2 row hrm)
     have hsr:=hsm.out.1
     replace HR:=Lib.hid HR
     clear hrm
     have r1:=(hwb3.cell (p:=⟨b1,o1 + k,none⟩) (cell_lt r1)).trans r1
     obtain ⟨wq,rfl⟩:∃ wq:World,wq = wr:=⟨_,rfl⟩
     go_wp2_with fail
     go_loopw [9,10] (fun l i ws=>∃ g:Nat,g ≤ row.length ∧ i = .int .i64 g ∧ Below wq.heap.size wq ws ∧ ∃ S,OMsgRows true ws S l (row.take g) ∧ ∀ b,S b → wq.heap.size ≤ b ∧ b < ws.heap.size) (fun _ i _=>row.length - (intOf i).toNat)
     case atStart=>exact ⟨0,by omega,rfl,Below.refl _ _,fun _=>False,OSl.nil _ _ _ _ _ _,fun _ h=>h.elim⟩
     case round =>
      obtain ⟨g,hgl2,rfl,hbs,S2,hL,hS2⟩:=hrel
      have hbsl:=hbs.size
      have hWS:=below_trans hwb3 hbs
      have q0':=(hbs.cell (p:=⟨w.heap.size,0,none⟩) (cell_lt y0)).trans y0
      have q1':=(hbs.cell (p:=⟨w.heap.size,1,none⟩) (cell_lt y1)).trans y1
      have q2':=(hbs.cell (p:=⟨w.heap.size,2,none⟩) (cell_lt y2)).trans y2
      have r1':=(hbs.cell (p:=⟨b1,o1 + k,none⟩) (cell_lt r1)).trans r1
      have hqb:=cell_lt q0'
      have hrb1:=cell_lt r1'
      dsimp only at hqb hrb1
      obtain ⟨l2a,l2c,hl2,hl2c,_⟩:=OSl.form hL
      rw [List.length_take,Nat.min_eq_left hgl2] at hl2 hl2c
      subst hl2
      by_cases hlg:g < row.length
      ·obtain ⟨b2,o2,c2,v,e2,_,r2,hv⟩:=hu.at hlg
       cases e2
       obtain ⟨hvl,va,vcap,rfl,_⟩:=hv.open
       obtain ⟨ms,HM⟩:∃ ms,row.getD g [] = ms:=⟨_,rfl⟩
       rw [HM] at r2 hv hvl
       have hmm:ms.length ≤ 1000:=hsm.out.2 ms (by rw [← HM,getD_lt row [] hlg];exact List.getElem_mem _)
       replace HM:=Lib.hid HM
       have r2:=(hWS.cell (p:=⟨b2,o2 + g,none⟩) (cell_lt r2)).trans r2
       have hrb:=cell_lt r2
       dsimp only at hrb
       have hrow1:=((hv.below hWS).below (below_a1 wr (.cells #[] 96))).2
       go_wp2_with (first
        |(at_builtin;refine wpList_append_row _ rfl _ _ 63 rfl wr.heap.size 96 m0 _ 5 48 Tryz.underlying63 hm0 mz0 mz1 mz2 rfl (by decide) (.slice (some ⟨wr.heap.size,0,none⟩) 0 0) 0 [] rfl (World.ownsRow_made wr #[] 0 (Nat.le_refl _) (by simp [maxLen]) (by simp)) _ _ _ rfl hrow1 (one_flat _) (by unfold maxLen;omega) (by omega) (by rw [World.size_alloc];omega) ?_;intro v3 w3 hown3 hgrow3 _;obtain ⟨a3,c3,rfl⟩:=own_form hown3
          have hb3':Below wr.heap.size wr w3:=(below_a1 _ _).trans (below_row hgrow3 (fun k hk=>by cases hk;exact Nat.le_refl _) (by rw [World.size_alloc];omega))
          simp only [Nat.zero_add,List.nil_append] at hown3
          have hO3:=MsgsOwn.own ⟨hv.1,hown3⟩ hvl
          have hL3:=hL.keep (w':=w3.alloc (.cells #[.slice a3 ms.length c3] 63)) (fun b hb=>(Go.Deep.blk_alloc_lt _ _ _ (by have:=hb3'.size;have:=hS2 b hb;omega)).trans (hb3'.block b (hS2 b hb).2))
          have hO4:=hO3.keep (w':=w3.alloc (.cells #[.slice a3 ms.length c3] 63)) (fun b hb=>Go.Deep.blk_alloc_lt _ _ _ (hown3.lt b hb).2))
        |(at_builtin;refine wpList_push _ rfl _ _ 66 rfl 63 q0 _ 1 24 Tryz.underlying66 hq0 qz0 qz1 qz2 rfl (by decide) (OMsgsEl.stays true) _ rfl S2 (row.take g) hL3 (fun b hb=>by have:=hb3'.size;have:=hS2 b hb;rw [World.size_alloc];omega) ⟨w3.heap.size,0,none⟩ _ rfl [_] rfl (cell_one_new _ _ _) (by simp [Value.oneCell']) (fun b=>(Value.slice a3 ms.length c3).ownBlock = some b) ms ⟨_,rfl,hO4⟩ (fun b hb=>⟨fun h=>by have:=hown3.lt b hb;have:=hS2 b h;omega,by have:=hown3.lt b hb;rw [World.size_alloc];omega⟩) (by rw [List.length_take];omega) (by omega) (by omega) ?_;intro v4 w4 hp4))
       obtain ⟨⟨S4,h4,h4b⟩,hs4,hl4,hbb4,_⟩:=hp4
       go_roundw
       case rel =>
        have hb3s:=hb3'.size
        refine ⟨g + 1,by omega,by go_num, ?_,S4, ?_,fun b hb=>?_⟩
        ·exact ((hbs.trans (hb3'.mono hbs.size)).alloc (by omega) _).trans (hbb4 wq.heap.size (fun b hb=>(hS2 b hb).1) (by rw [World.size_alloc];omega))
        ·rw [List.take_succ_eq_append_getElem hlg, ← getD_lt row [] hlg,HM.out]
         exact h4
        ·obtain ⟨h5,h6⟩:=h4b b hb
         refine ⟨?_,h6⟩
         rcases h5 with h5 | h5 | h5
         ·exact (hS2 b h5).1
         ·have:=(hown3.lt b h5).1;omega
         ·rw [World.size_alloc] at h5;omega
       case measure=>simp [intOf];omega
      ·obtain rfl:g = row.length:=by omega
       rw [List.take_length] at hL
       have hob4:=hob3K.keep (hbs.block _ hob3K.lt)
       have hfz4:=hob4.1.frozen 2
       have hob4K:=hob4
       obtain ⟨_,x0',x1',x2'⟩:=hob4
       have hxb:=cell_lt x2'
       dsimp only at hxb
       have hL3:=hL.keep (w':=wr.alloc (.cells #[.slice l2a row.length l2c] 66)) (fun b hb=>Go.Deep.blk_alloc_lt _ _ _ (hS2 b hb).2)
       have hW4:=hW3.keep (w':=wr.alloc (.cells #[.slice l2a row.length l2c] 66)) (fun b hb=>(Go.Deep.blk_alloc_lt _ _ _ (by have:=hS3 b hb;omega)).trans (hbs.block b (hS3 b hb).2))
       go_wp2_with (first
        |(at_builtin;refine wpList_push _ rfl _ _ 33 rfl 66 s0 _ 1 24 Tryz.underlying33 hs0 sz0 sz1 sz2 rfl (by decide) (OMsgRowsEl.stays true) _ rfl S3 (X.wires.take k) hW4 (fun b hb=>by have:=hS3 b hb;rw [World.size_alloc];omega) ⟨wr.heap.size,0,none⟩ _ rfl [_] rfl (cell_one_new _ _ _) (by simp [Value.oneCell']) S2 row ⟨_,rfl,hL3⟩ (fun b hb=>⟨fun h=>by have:=hS2 b hb;have:=hS3 b h;omega,by have:=hS2 b hb;rw [World.size_alloc];omega⟩) (by rw [List.length_take];omega) (by omega) (by omega) ?_;intro v5 w5 hp5;obtain ⟨a5,c5,rfl⟩:=hp5.2.2.2.2
          have hk5:w5.heap[w1.heap.size]? = wr.heap[w1.heap.size]?:=(hp5.2.2.1 _ ⟨by rw [World.size_alloc];omega,fun h=>by have:=hS3 _ h;omega⟩).trans (Go.Deep.blk_alloc_lt _ _ _ hxb)
          have hob5:=hob4K.keep hk5
          have hfz5:=hob5.1.frozen 2
          have hc5:=hob5.2.2.2))
       go_roundw
       case rel =>
        obtain ⟨⟨S5,h5,h5b⟩,hs5,hl5,hbb5,_⟩:=hp5
        rw [World.size_alloc] at hs5
        have hS5:∀ b,S5 b → wo.heap.size ≤ b ∧ b < w5.heap.size:=fun b hb=>by
         obtain ⟨h,h2⟩:=h5b b hb
         rw [World.size_alloc] at h
         refine ⟨?_,h2⟩
         rcases h with h | h | h
         ·exact (hS3 b h).1
         ·have:=hS2 b h;omega
         ·omega
        refine ⟨k + 1,by omega,by go_num,below_setCell (((hb3.trans (hbs.mono hb3.size)).alloc (by omega) _).trans (hbb5 _ (fun b hb=>by have:=hS3 b hb;omega) (by rw [World.size_alloc];omega))) (Nat.le_refl _) _,by rw [Go.Deep.nblk_setCell];omega,fun b hb=>?_,_,S5,hob5.set2 _, ?_,fun b hb=>?_⟩
        ·rw [Go.Deep.blk_setCell_other _ _ _ _ hb.2,hl5 b ⟨by rw [World.size_alloc];omega,fun h=>by have:=hS3 b h;omega⟩,Go.Deep.blk_alloc_lt _ _ _ (by omega),hbs.block b (by omega)]
         exact hl3 b hb
        ·rw [List.take_succ_eq_append_getElem hlt, ← getD_lt X.wires [] hlt,HR.out]
         rw [List.length_take,Nat.min_eq_left hk] at h5
         exact OWires.keep h5 (fun b hb=>Go.Deep.blk_setCell_other _ _ _ _ (by have:=hS5 b hb;show b ≠ w1.heap.size;omega))
        ·have:=hS5 b hb
         rw [Go.Deep.nblk_setCell];exact this
       case measure=>simp [intOf];omega
    ·obtain rfl:k = X.wires.length:=by omega
     rw [List.take_length] at hW3
     have hf0:=hR3.1.frozen 0
     have hf1:=hR3.1.frozen 1
     have hf2:=hR3.1.frozen 2
     have hR3K:=hR3
     obtain ⟨_,t0,t1,t2⟩:=hR3
     obtain ⟨na3,nc3,hnv3,_,_⟩:=OSl.form hN
     subst hnv3
     go_wp2_with fail
     obtain ⟨f0,f1,f2⟩:=hR3K.put3 (.slice ga1 X.groups.length gcap1) (.slice na3 X.nodes.length nc3) (.slice oa3 X.wires.length oc3)
     refine bodyPost_ret (v:=.agg #[.slice ga1 X.groups.length gcap1, .slice na3 X.nodes.length nc3, .slice oa3 X.wires.length oc3]) ?_ rfl ?_
     ·simp [results,Tryz.f87]
      go_simp
     ·have hset:∀ b,b ≠ w.heap.size + 1 → (((wr.setCell ⟨w.heap.size + 1,0,none⟩ (.slice ga1 X.groups.length gcap1)).setCell ⟨w.heap.size + 1,1,none⟩ (.slice na3 X.nodes.length nc3)).setCell ⟨w.heap.size + 1,2,none⟩ (.slice oa3 X.wires.length oc3)).heap[b]? = wr.heap[b]?:=fun b hb=>by
       rw [set3_blk hb]
      have hg1:=hgb.out
      refine ⟨_,_,_,fun b=>(Value.slice ga1 X.groups.length gcap1).ownBlock = some b ∨ S b ∨ S3 b,rfl,
       ⟨_,S,S3,hG1.out.keep (fun b hb=>(hset b (by have:=hg1 b hb;omega)).trans (hb3.block b (hg1 b hb).2)),hN.keep (fun b hb=>(hset b (by have:=hSb b hb;omega)).trans (hl3 b ⟨(hSb b hb).2,by have:=hSb b hb;omega⟩)),hW3.keep (fun b hb=>hset b (by have:=hS3 b hb;omega)),
        fun _ h=>Or.inl h,fun _ h=>Or.inr (Or.inl h),fun _ h=>Or.inr (Or.inr h),fun b h1 h2=>?_,fun b h1 h2=>?_,fun b h1 h2=>?_⟩,fun b hb=>?_,set3_below hwb3 (by omega)⟩
      ·have:=hg1 b h1;have:=hSb b h2;omega
      ·have:=hg1 b h1;have:=hS3 b h2;omega
      ·have:=hSb b h1;have:=hS3 b h2;omega
      ·rw [set3_size]
       rcases hb with h | h | h
       ·have:=hg1 b h;omega
       ·have:=hSb b h;omega
       ·have:=hS3 b h;omega
end Go.Proofs.YtnalakhelicjcaaGreatDoor
