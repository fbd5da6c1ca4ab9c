/-
  The program's first world.
  The program begins a world, errors too.
-/
import Derived.Test.YtnalakhelicjcaaGreatDoorZGN
import Derived.Deep.CutRange
import Derived.Test.YtnalakhelicjcaaGreatDoorZKD
set_option maxRecDepth 100000
namespace Go.Proofs.YtnalakhelicjcaaGreatDoor
open Go.RowKit Go.Shelf Go.BigFrame
theorem OIntRows.row_set {w:World} {S:Nat → Prop} {v:Value} {l:List (List Int)} (h:OIntRows w S v l) {i:Nat} (hi:i < l.length) :
  ∃ (g cap:Nat) (u0:Value),v = .slice (some ⟨g,0,none⟩) l.length cap ∧ l.length ≤ cap ∧ S g ∧ BlkIs w g 22 cap ∧ w.cell? ⟨g,i,none⟩ = some u0 ∧
   ∀ (w':World) T' u r,Lies S w w' → OInts w' T' u r → (∀ b,T' b → ¬ S b) → OIntRows (w'.setCell ⟨g,i,none⟩ u) (fun b=>S b ∨ T' b) v (l.set i r):=by
 obtain ⟨g,off,cap,T,cs,e1,e2,e3,e4,e5,e6,e7,⟨u0,rfl,e8⟩,e9,back⟩:=OSl.at OIntsEl.stays h hi
 obtain rfl:=e5 rfl
 have k1:=e7 0 (by omega)
 simp only [Nat.zero_add,Nat.mul_one,Nat.add_zero] at e3 e7 back k1
 refine ⟨g,cap,u0,e1,e4,e2,e3,k1,fun w' T' u r hL hI hT=>?_⟩
 have hB:BlkSet w (w'.setCell ⟨g,i,none⟩ u) g i [u]:=
  (BlkSet.same (w:=w) (w':=w') (p:=i) (cs:=[u0]) (hL g e2) (fun j hj=>by
   obtain rfl:j = 0:=by simpa using hj
   exact k1)).set e3 0 (by simp) (by simp;omega) _
 exact back _ T' [u] r (fun b hb=>(Go.Deep.blk_setCell_other _ _ _ _ hb.2.1).trans (hL b hb.1)) hB rfl ⟨u,rfl,hI.keep (fun b hb=>Go.Deep.blk_setCell_other _ _ _ _ (fun e=>hT b hb (e ▸ e2)))⟩ (fun b hb=>Or.inr (hT b hb))
def rowsL (n m g:Nat):List (List Int):=List.replicate g (List.replicate n 0) ++ List.replicate (m - g) []
theorem rowsL_len {n m g:Nat} (h:g ≤ m):(rowsL n m g).length = m:=by simp [rowsL];omega
theorem rowsL_set {n m g:Nat} (h:g < m):(rowsL n m g).set g (List.replicate n 0) = rowsL n m (g + 1):=by
 unfold rowsL
 rw [List.set_append_right _ _ (by simp),rep_succ,List.append_assoc]
 congr 1
 rw [List.length_replicate,Nat.sub_self,show m - g = (m - (g + 1)) + 1 by omega,List.replicate_succ]
 rfl
set_option maxHeartbeats 8000000 in
theorem First_c {w:World} {gv:Value} {gs:List Int} (hg:Ints w gv gs) {n:Nat} (hn:n ≤ 1000) (hgs:gs.length ≤ 1000) :
  Calls Tryz.prog 10 #[.int .i64 n,gv] w (OwnPost w (beginX n gs)):=by
 obtain ⟨hgl,ga,gcap,rfl,_⟩:=hg.open
 obtain ⟨j0,hj0,jz0,jz1,jz2⟩:=info_parts infoCInt
 obtain ⟨n0,hn0,nz0,nz1,nz2⟩:=info_parts infoCNode
 obtain ⟨r0,hr0,rz0,rz1,rz2⟩:=info_parts infoCIntRow
 obtain ⟨q0,hq0,qz0,qz1,qz2⟩:=info_parts infoCMsgRow
 obtain ⟨s0,hs0,sz0,sz1,sz2⟩:=info_parts infoCMsgRows
 have hA:=below_a1 w (.cells #[.slice none 0 0, .slice none 0 0, .slice none 0 0] 35)
 have hR:=OBox.new w 35 (.slice none 0 0) (.slice none 0 0) (.slice none 0 0)
 have hsz2:(w.alloc (.cells #[.slice none 0 0, .slice none 0 0, .slice none 0 0] 35)).heap.size = w.heap.size + 1:=World.size_alloc _ _
 have hCl:=CloneInt_c (hg.below hA).2 (by simp [Value.oneCell']) (by omega)
 go_enter Tryz.func10,Tryz.ntmps10
 go_upto_region 1 with fail
 generalize w.alloc (.cells #[.slice none 0 0, .slice none 0 0, .slice none 0 0] 35) = wA at *
 replace hsz2:=Lib.hid hsz2
 go_wp2_with (go_at_call 27;refine hCl.mono ?_;clear hCl;rintro e w1 ⟨gv1,rfl,hown1,hbc⟩;obtain ⟨ga1,gcap1,rfl⟩:=own_form hown1)
 have hs1:=hbc.size
 have hszA:=hsz2.out
 have hown1:=owns_mono (b:=wA.heap.size) hown1 (show w.heap.size + 1 ≤ wA.heap.size by omega)
 have hW1:Below w.heap.size w w1:=below_trans hA hbc
 have hR1:OBox w1 w.heap.size 35 (.slice none 0 0) (.slice none 0 0) (.slice none 0 0):=hR.keep (hbc.block _ hR.lt)
 have hG1:=OInts.of_owns hown1 hg.1 hgl
 have hgb:∀ b,(Value.slice ga1 gs.length gcap1).ownBlock = some b → w.heap.size + 1 ≤ b ∧ b < w1.heap.size:=hown1.lt
 replace hG1:=Lib.hid hG1
 replace hgb:=Lib.hid hgb
 clear hA hR hsz2 hown1 hbc
 have hob:=OBox.new w1 35 (.slice ga1 gs.length gcap1) (.slice none 0 0) (.slice none 0 0)
 have hbo:=below_a1 w1 (.cells #[.slice ga1 gs.length gcap1, .slice none 0 0, .slice none 0 0] 35)
 have hsb:(w1.alloc (.cells #[.slice ga1 gs.length gcap1, .slice none 0 0, .slice none 0 0] 35)).heap.size = w1.heap.size + 1:=World.size_alloc _ _
 generalize w1.alloc (.cells #[.slice ga1 gs.length gcap1, .slice none 0 0, .slice none 0 0] 35) = wB at *
 have hkp:∀ o,Below w1.heap.size w1 o → Below w.heap.size w o ∧ OBox o w.heap.size 35 (.slice none 0 0) (.slice none 0 0) (.slice none 0 0):=
  fun o h=>⟨below_trans hW1 h,hR1.keep (h.block _ (by omega))⟩
 replace hkp:=Lib.hid hkp
 clear hW1 hR1
 have hmI:=run_make_row' (P:=Tryz.prog) 22 3 (.int .i64 0) 8 Tryz.underlying22 (by rw [hj0];simp [jz0,jz1,jz2]) rfl .i64 .i64 n (by omega) (by omega)
 have hmR:=run_make_row' (P:=Tryz.prog) 66 63 (.slice none 0 0) 24 Tryz.underlying66 (by rw [hq0];simp [qz0,qz1,qz2]) rfl .i64 .i64 n (by omega) (by omega)
 have hmL:=run_make_row' (P:=Tryz.prog) 62 22 (.slice none 0 0) 24 Tryz.underlying62 (by rw [hr0];simp [rz0,rz1,rz2]) rfl .i64 .i64 gs.length (by omega) (by omega)
 go_loopw [12] (fun i wr=>∃ k:Nat,k ≤ n ∧ i = .int .i64 k ∧ Below w1.heap.size w1 wr ∧ ∃ nv' wv' S S3,OBox wr w1.heap.size 35 (.slice ga1 gs.length gcap1) nv' wv' ∧ ONodes wr S nv' (List.replicate k ⟨0,List.replicate gs.length (List.replicate n 0),[],[]⟩) ∧ OWires true wr S3 wv' (List.replicate k (List.replicate n [])) ∧
  (∀ b,S b → w1.heap.size < b ∧ b < wr.heap.size) ∧ (∀ b,S3 b → w1.heap.size < b ∧ b < wr.heap.size) ∧ Dis S S3) (fun i _=>n - (intOf i).toNat)
 case atStart=>exact ⟨0,by omega,rfl,hbo, .slice none 0 0, .slice none 0 0,fun _=>False,fun _=>False,hob,OSl.nil _ _ _ _ _ _,OSl.nil _ _ _ _ _ _,fun _ h=>h.elim,fun _ h=>h.elim,fun _ h=>h.elim⟩
 case round =>
  obtain ⟨k,hk,rfl,hb,nv',wv',S,S3,hob2,hN,hW,hSb,hS3,hdis⟩:=hrel
  obtain ⟨hwb,hR2⟩:=hkp.out _ hb
  have hRlt:=hR2.lt
  obtain ⟨wo,rfl⟩:∃ wo:World,wo = wr:=⟨_,rfl⟩
  by_cases hlt:k < n
  ·go_wp2_with fail
   have hM0:OIntRows (wo.alloc (.cells (madeCells #[.slice none 0 0] gs.length) 22)) (fun b=>b = wo.heap.size) (.slice (some ⟨wo.heap.size,0,none⟩) gs.length gs.length) (List.replicate gs.length []):=OSl.made wo gs.length (fun _=>⟨_,rfl,OSl.nil _ _ _ _ _ _⟩) (by omega)
   have hM1:rowsL n gs.length 0 = List.replicate gs.length []:=by simp [rowsL]
   rw [← hM1] at hM0
   clear hM1
   have hbm:=below_a1 wo (.cells (madeCells #[.slice none 0 0] gs.length) 22)
   have hsm:(wo.alloc (.cells (madeCells #[.slice none 0 0] gs.length) 22)).heap.size = wo.heap.size + 1:=World.size_alloc _ _
   generalize wo.alloc (.cells (madeCells #[.slice none 0 0] gs.length) 22) = wm at *
   replace hsm:=Lib.hid hsm
   go_loopw [19] (fun i ws=>∃ g:Nat,g ≤ gs.length ∧ i = .int .i64 g ∧ Below wo.heap.size wo ws ∧ ∃ S,OIntRows ws S (.slice (some ⟨wo.heap.size,0,none⟩) gs.length gs.length) (rowsL n gs.length g) ∧ ∀ b,S b → wo.heap.size ≤ b ∧ b < ws.heap.size) (fun i _=>gs.length - (intOf i).toNat)
   case atStart=>exact ⟨0,by omega,rfl,hbm,_,hM0,fun b hb=>by have:=hsm.out;omega⟩
   case round =>
    obtain ⟨g,hgl2,rfl,hbs,S2,hL,hS2⟩:=hrel
    by_cases hlg:g < gs.length
    ·obtain ⟨L,Lc,u0,eL,_,hLS,hLb,hLc,hset⟩:=hL.row_set (i:=g) (by rw [rowsL_len hgl2];exact hlg)
     rw [rowsL_len hgl2] at eL
     have eL2:=(Value.slice.inj eL).1
     have eL3:=(Value.slice.inj eL).2.2
     injection eL2 with eL2
     injection eL2 with eL2
     subst eL3
     subst eL2
     clear eL
     have hO3:OInts (wr.alloc (.cells (madeCells #[.int .i64 0] n) 3)) (fun b=>b = wr.heap.size) (.slice (some ⟨wr.heap.size,0,none⟩) n n) (List.replicate n 0):=OSl.made wr n (fun _=>⟨rfl,by simp [I64]⟩) (by omega)
     have hb3:=below_a1 wr (.cells (madeCells #[.int .i64 0] n) 3)
     have hs3:(wr.alloc (.cells (madeCells #[.int .i64 0] n) 3)).heap.size = wr.heap.size + 1:=World.size_alloc _ _
     have hLl:=(hS2 _ hLS).2
     have hfin:=hset _ _ _ _ (fun b hb=>hb3.block b (hS2 b hb).2) hO3 (fun b hb h=>by have:=hS2 b h;omega)
     have hLb3:=hLb.same (hb3.block _ hLl)
     have hLc3:=(hb3.cell (p:=⟨wo.heap.size,g,none⟩) hLl).trans hLc
     have hLf3:=hLb3.frozen g
     have hcm:=World.setCell_alloc_past (w:=wr) (.cells (madeCells #[.int .i64 0] n) 3) wo.heap.size g (.slice (some ⟨wr.heap.size,0,none⟩) n n) hLl
     have hbF:=below_setCell (a:=⟨wo.heap.size,g,none⟩) (hbs.trans (hb3.mono hbs.size)) (Nat.le_refl _) (.slice (some ⟨wr.heap.size,0,none⟩) n n)
     have hsF:((wr.alloc (.cells (madeCells #[.int .i64 0] n) 3)).setCell ⟨wo.heap.size,g,none⟩ (.slice (some ⟨wr.heap.size,0,none⟩) n n)).heap.size = wr.heap.size + 1:=by rw [Go.Deep.nblk_setCell,hs3]
     rw [rowsL_set hlg,hcm] at hfin
     rw [hcm] at hbF hsF
     clear hcm
     replace hsF:=Lib.hid hsF
     replace hbF:=Lib.hid hbF
     replace hfin:=Lib.hid hfin
     replace hset:=Lib.hid hset
     replace hS2:=Lib.hid hS2
     go_wp2_with fail
     go_roundw
     case rel =>
      refine ⟨g + 1,by omega,by go_num,hbF.out,_,hfin.out,fun b hb=>?_⟩
      rw [hsF.out]
      have hbsl:=hbs.size
      rcases hb with h | h
      ·have:=hS2.out b h;omega
      ·subst h;omega
     case measure=>simp [intOf];omega
    ·obtain rfl:g = gs.length:=by omega
     have hLe:rowsL n gs.length gs.length = List.replicate gs.length (List.replicate n 0):=by simp [rowsL]
     rw [hLe] at hL
     clear hLe hmL hM0 hbm
     have hbsl:=hbs.size
     have hob3:=hob2.keep (hbs.block _ hob2.lt)
     obtain ⟨na3,nc3,hnv3,_,_⟩:=OSl.form hN
     obtain ⟨wa3,wc3,hwv3,_,_⟩:=OSl.form hW
     rw [List.length_replicate] at hnv3 hwv3
     subst hnv3 hwv3
     have hob3K:=hob3
     have hfz:=hob3.1.frozen 1
     obtain ⟨_,z0,z1,z2⟩:=hob3
     have hzb:=cell_lt z0
     dsimp only at hzb
     have hN4:=hN.keep (w':=wr.alloc (.cells #[.int .i64 0, .slice (some ⟨wo.heap.size,0,none⟩) gs.length gs.length, .slice none 0 0, .slice none 0 0] 65)) (fun b hb=>(Go.Deep.blk_alloc_lt _ _ _ (by have:=hSb b hb;omega)).trans (hbs.block b (hSb b hb).2))
     have hx4:ONodeEl (wr.alloc (.cells #[.int .i64 0, .slice (some ⟨wo.heap.size,0,none⟩) gs.length gs.length, .slice none 0 0, .slice none 0 0] 65)) S2 [.int .i64 0, .slice (some ⟨wo.heap.size,0,none⟩) gs.length gs.length, .slice none 0 0, .slice none 0 0] ⟨0,List.replicate gs.length (List.replicate n 0),[],[]⟩:=
      ⟨_,_,_,S2,fun _=>False,fun _=>False,rfl,by simp [I64],hL.keep (fun b hb=>Go.Deep.blk_alloc_lt _ _ _ (hS2 b hb).2),OSl.nil _ _ _ _ _ _,OSl.nil _ _ _ _ _ _,fun _ h=>h,fun _ h=>h.elim,fun _ h=>h.elim,fun _ _ h=>h,fun _ _ h=>h,fun _ h=>h.elim⟩
     go_wp2_with (first
      |(at_builtin;refine wpList_push _ rfl _ _ 32 rfl 65 n0 _ 4 80 Tryz.underlying32 hn0 nz0 nz1 nz2 rfl (by decide) ONodeEl.stays _ rfl S (List.replicate k _) hN4 (fun b hb=>by have:=hSb b hb;rw [World.size_alloc];omega) ⟨wr.heap.size,0,none⟩ _ rfl [_,_,_,_] rfl (cells_new _ _ _) (by simp [Value.oneCell']) S2 _ hx4 (fun b hb=>⟨fun h=>by have:=hS2 b hb;have:=hSb b h;omega,by have:=hS2 b hb;rw [World.size_alloc];omega⟩) (by rw [List.length_replicate];omega) (by omega) (by omega) ?_;intro v5 w5 hp5;obtain ⟨a5,c5,rfl⟩:=hp5.2.2.2.2
        have hk5:w5.heap[w1.heap.size]? = wr.heap[w1.heap.size]?:=(hp5.2.2.1 _ ⟨by rw [World.size_alloc];omega,fun h=>by have:=hSb _ h;omega⟩).trans (Go.Deep.blk_alloc_lt _ _ _ hzb)
        have hob5:=hob3K.keep hk5
        have hfz5:=hob5.1.frozen 1
        have hc5:=hob5.2.2.1))
     obtain ⟨⟨S5,h5,h5b⟩,hs5,hl5,hbb5,_⟩:=hp5
     rw [World.size_alloc] at hs5
     rw [List.length_replicate] at h5
     have hS5:∀ b,S5 b → (S b ∨ wo.heap.size ≤ b) ∧ b < w5.heap.size:=fun b hb=>by
      obtain ⟨h,h2⟩:=h5b b hb
      rw [World.size_alloc] at h
      refine ⟨?_,h2⟩
      rcases h with h | h | h
      ·exact Or.inl h
      ·exact Or.inr (hS2 b h).1
      ·exact Or.inr (by omega)
     have hlo:∀ b,S5 b → w1.heap.size < b:=fun b hb=>by
      rcases (hS5 b hb).1 with h | h
      ·exact (hSb b h).1
      ·have:=hob2.lt;omega
     have hob6:=hob5.set1 (.slice a5 (k + 1) c5)
     have hs6:(w5.setCell ⟨w1.heap.size,1,none⟩ (.slice a5 (k + 1) c5)).heap.size = w5.heap.size:=Go.Deep.nblk_setCell _ _ _
     have h6:ONodes (w5.setCell ⟨w1.heap.size,1,none⟩ (.slice a5 (k + 1) c5)) S5 (.slice a5 (k + 1) c5) (List.replicate k ⟨0,List.replicate gs.length (List.replicate n 0),[],[]⟩ ++ [⟨0,List.replicate gs.length (List.replicate n 0),[],[]⟩]):=
      ONodes.keep h5 (fun b hb=>Go.Deep.blk_setCell_other _ _ _ _ (by have:=hlo b hb;show b ≠ w1.heap.size;omega))
     have hW6:OWires true (w5.setCell ⟨w1.heap.size,1,none⟩ (.slice a5 (k + 1) c5)) S3 (.slice wa3 k wc3) (List.replicate k (List.replicate n [])):=
      hW.keep (fun b hb=>by
       have:=hS3 b hb
       rw [Go.Deep.blk_setCell_other _ _ _ _ (by show b ≠ w1.heap.size;omega),hl5 b ⟨by rw [World.size_alloc];omega,fun h=>hdis b h hb⟩,Go.Deep.blk_alloc_lt _ _ _ (by omega),hbs.block b this.2])
     have hb6:Below w1.heap.size w1 (w5.setCell ⟨w1.heap.size,1,none⟩ (.slice a5 (k + 1) c5)):=
      below_setCell (((hb.trans (hbs.mono hb.size)).alloc (by omega) _).trans (hbb5 _ (fun b hb=>Nat.le_of_lt (hSb b hb).1) (by rw [World.size_alloc];omega))) (Nat.le_refl _) _
     generalize w5.setCell ⟨w1.heap.size,1,none⟩ (.slice a5 (k + 1) c5) = w6 at *
     rw [← hs6] at hs5 hS5
     clear hob5 hfz5 hc5 hk5 hl5 hbb5 h5 h5b hx4 hN4 z0 z1 z2 hfz hob3K hs6
     have hob6K:=hob6
     have hfz6:=hob6.1.frozen 2
     obtain ⟨_,z0,z1,z2⟩:=hob6
     have hzb6:=cell_lt z2
     dsimp only at hzb6
     have hM7:OMsgRows true ((w6.alloc (.cells (madeCells #[.slice none 0 0] n) 63)).alloc (.cells #[.slice (some ⟨w6.heap.size,0,none⟩) n n] 66)).drew (fun b=>b = w6.heap.size) (.slice (some ⟨w6.heap.size,0,none⟩) n n) (List.replicate n []):=
      OMsgRows.keep (OSl.made w6 n (fun _=>⟨_,rfl,OSl.nil _ _ _ _ _ _⟩) (by omega)) (fun b hb=>Go.Deep.blk_alloc_lt _ _ _ (by rw [World.size_alloc];omega))
     have hW7:OWires true ((w6.alloc (.cells (madeCells #[.slice none 0 0] n) 63)).alloc (.cells #[.slice (some ⟨w6.heap.size,0,none⟩) n n] 66)).drew S3 (.slice wa3 k wc3) (List.replicate k (List.replicate n [])):=
      hW6.keep (fun b hb=>(Go.Deep.blk_alloc_lt _ _ _ (by have:=hS3 b hb;rw [World.size_alloc];omega)).trans (Go.Deep.blk_alloc_lt _ _ _ (by have:=hS3 b hb;omega)))
     have hs7:((w6.alloc (.cells (madeCells #[.slice none 0 0] n) 63)).alloc (.cells #[.slice (some ⟨w6.heap.size,0,none⟩) n n] 66)).drew.heap.size = w6.heap.size + 2:=by
      show ((w6.alloc (.cells (madeCells #[.slice none 0 0] n) 63)).alloc (.cells #[.slice (some ⟨w6.heap.size,0,none⟩) n n] 66)).heap.size = _
      rw [World.size_alloc,World.size_alloc]
     have hl7:∀ b,b < w6.heap.size → ((w6.alloc (.cells (madeCells #[.slice none 0 0] n) 63)).alloc (.cells #[.slice (some ⟨w6.heap.size,0,none⟩) n n] 66)).drew.heap[b]? = w6.heap[b]?:=fun b hb=>(Go.Deep.blk_alloc_lt _ _ _ (by rw [World.size_alloc];omega)).trans (Go.Deep.blk_alloc_lt _ _ _ hb)
     have hnew7:∀ j u,[Value.slice (some ⟨w6.heap.size,0,none⟩) n n][j]? = some u → ((w6.alloc (.cells (madeCells #[.slice none 0 0] n) 63)).alloc (.cells #[.slice (some ⟨w6.heap.size,0,none⟩) n n] 66)).drew.cell? ((⟨w6.heap.size + 1,0,none⟩:Addr).add j) = some u:=by
      have:=cell_one_new (w6.alloc (.cells (madeCells #[.slice none 0 0] n) 63)) (.slice (some ⟨w6.heap.size,0,none⟩) n n) 66
      rw [World.size_alloc] at this
      exact this
     refine wp_region_N (fun w'=>w'.cell? ⟨w1.heap.size,2,none⟩ = some (.slice wa3 k wc3)) 5 8 rfl (by kernel_rfl) z2 (fun hSw=>?_)
     refine N_take (i:=0) (v:=?_) rfl rfl (by kernel_rfl) (fun _ _ _ h=>h) (Or.inl ⟨by rfl, ?_⟩) hSw ?_
     rotate_left
     ·intro w hSw
      go_simp
      try with_reducible rfl
     simp only [Act.put]
     refine N_take (i:=1) (v:=?_) rfl rfl (by kernel_rfl) (fun _ _ _ h=>h) (Or.inl ⟨by rfl, ?_⟩) hSw ?_
     rotate_left
     ·intro w hSw
      go_simp
      try with_reducible rfl
     simp only [Act.put]
     refine N_take (i:=2) (v:=?_) rfl rfl (by kernel_rfl) (fun _ _ _ h=>h) (Or.inl ⟨by rfl, ?_⟩) hSw ?_
     rotate_left
     ·intro w hSw
      go_simp
      try with_reducible rfl
     simp only [Act.put]
     refine N_one (i:=3) (by kernel_rfl) rfl ?_
     go_wp2_with fail
     refine QK_normal ⟨fun _=>(World.cell?_of_block (w:=w6) (Go.Deep.blk_alloc_lt _ _ _ hzb6)).trans z2, ?_⟩
     refine N_one (i:=4) (by kernel_rfl) rfl ?_
     go_wp2_with fail
     refine QK_normal ⟨fun _=>(World.cell?_of_block (w:=w6) (hl7 _ hzb6)).trans z2, ?_⟩
     refine N_rest 5 3 (Nat.le_refl _) rfl (by kernel_rfl) ?_
     simp only [List.drop_succ_cons,List.drop_zero]
     go_wp2_with (first
       |(at_builtin;refine wpList_push _ rfl _ _ 33 rfl 66 s0 _ 1 24 Tryz.underlying33 hs0 sz0 sz1 sz2 rfl (by decide) (OMsgRowsEl.stays true) _ rfl S3 (List.replicate k (List.replicate n [])) hW7 (fun b hb=>by have:=hS3 b hb;rw [hs7];omega) ⟨w6.heap.size + 1,0,none⟩ _ rfl [.slice (some ⟨w6.heap.size,0,none⟩) n n] rfl hnew7 (by simp [Value.oneCell']) (fun b=>b = w6.heap.size) (List.replicate n []) ⟨_,rfl,hM7⟩ (fun b hb=>⟨fun h=>by have:=hS3 b h;omega,by rw [hs7];omega⟩) (by rw [List.length_replicate];omega) (by omega) (by omega) ?_
         intro v8 w8 hp8
         obtain ⟨a8,c8,rfl⟩:=hp8.2.2.2.2
         have hk8:w8.heap[w1.heap.size]? = w6.heap[w1.heap.size]?:=(hp8.2.2.1 _ ⟨by rw [hs7];omega,fun h=>by have:=hS3 _ h;omega⟩).trans (hl7 _ hzb6)
         have hob8:=hob6K.keep hk8
         have hfz8:=hob8.1.frozen 2
         have hc8:=hob8.2.2.2))
     all_goals
      go_roundw
      case rel =>
       obtain ⟨⟨S8,h8,h8b⟩,hs8,hl8,hbb8,_⟩:=hp8
       rw [hs7] at hs8
       rw [List.length_replicate] at h8
       have hS8:∀ b,S8 b → (S3 b ∨ w6.heap.size ≤ b) ∧ b < w8.heap.size:=fun b hb=>by
        obtain ⟨h,h2⟩:=h8b b hb
        rw [hs7] at h
        refine ⟨?_,h2⟩
        rcases h with h | h | h
        ·exact Or.inl h
        ·exact Or.inr (by omega)
        ·exact Or.inr (by omega)
       have hlo8:∀ b,S8 b → w1.heap.size < b:=fun b hb=>by
        rcases (hS8 b hb).1 with h | h
        ·exact (hS3 b h).1
        ·omega
       refine ⟨k + 1,by omega,by go_num,below_setCell ((hb6.trans (below_drew ((below_a2 w6 _ _).mono (by omega)))).trans (hbb8 _ (fun b hb=>Nat.le_of_lt (hS3 b hb).1) (by rw [hs7];omega))) (Nat.le_refl _) _,_,_,S5,S8,hob8.set2 _, ?_, ?_,fun b hb=>?_,fun b hb=>?_,fun b h1 h2=>?_⟩
       ·rw [rep_succ]
        refine ONodes.keep h6 (fun b hb=>?_)
        have:=hlo b hb
        rw [Go.Deep.blk_setCell_other _ _ _ _ (by show b ≠ w1.heap.size;omega),hl8 b ⟨by rw [hs7];have:=(hS5 b hb).2;omega,fun h=>?_⟩]
        ·exact hl7 b (hS5 b hb).2
        ·rcases (hS5 b hb).1 with h' | h'
         ·exact hdis b h' h
         ·have:=(hS3 b h).2;omega
       ·rw [rep_succ]
        exact OWires.keep h8 (fun b hb=>Go.Deep.blk_setCell_other _ _ _ _ (by have:=hlo8 b hb;show b ≠ w1.heap.size;omega))
       ·rw [Go.Deep.nblk_setCell]
        exact ⟨hlo b hb,by have:=(hS5 b hb).2;omega⟩
       ·rw [Go.Deep.nblk_setCell]
        exact ⟨hlo8 b hb,(hS8 b hb).2⟩
       ·rcases (hS8 b h2).1 with h | h
        ·rcases (hS5 b h1).1 with h' | h'
         ·exact hdis b h' h
         ·have:=(hS3 b h).2;omega
        ·have:=(hS5 b h1).2;omega
      case measure=>simp [intOf];omega
  ·obtain rfl:k = n:=by omega
   have hf0:=hR2.1.frozen 0
   have hf1:=hR2.1.frozen 1
   have hf2:=hR2.1.frozen 2
   have hR2K:=hR2
   obtain ⟨_,t0,t1,t2⟩:=hR2
   obtain ⟨na3,nc3,hnv3,_,_⟩:=OSl.form hN
   obtain ⟨wa3,wc3,hwv3,_,_⟩:=OSl.form hW
   rw [List.length_replicate] at hnv3 hwv3
   subst hnv3 hwv3
   obtain ⟨_,x0,x1,x2⟩:=hob2
   go_wp2_with fail
   obtain ⟨f0,f1,f2⟩:=hR2K.put3 (.slice ga1 gs.length gcap1) (.slice na3 k nc3) (.slice wa3 k wc3)
   refine bodyPost_ret (v:=.agg #[.slice ga1 gs.length gcap1, .slice na3 k nc3, .slice wa3 k wc3]) ?_ rfl ?_
   ·simp [results,Tryz.f10]
    go_simp
   ·have hset:∀ b,b ≠ w.heap.size → (((wo.setCell ⟨w.heap.size,0,none⟩ (.slice ga1 gs.length gcap1)).setCell ⟨w.heap.size,1,none⟩ (.slice na3 k nc3)).setCell ⟨w.heap.size,2,none⟩ (.slice wa3 k wc3)).heap[b]? = wo.heap[b]?:=fun b hb=>by
     rw [set3_blk hb]
    have hg1:=hgb.out
    refine ⟨_,_,_,fun b=>(Value.slice ga1 gs.length gcap1).ownBlock = some b ∨ S b ∨ S3 b,rfl,
     ⟨_,S,S3,hG1.out.keep (fun b h0=>(hset b (by have:=hg1 b h0;omega)).trans (hb.block b (hg1 b h0).2)),hN.keep (fun b hb=>hset b (by have:=hSb b hb;omega)),hW.keep (fun b hb=>hset b (by have:=hS3 b hb;omega)),
      fun _ h=>Or.inl h,fun _ h=>Or.inr (Or.inl h),fun _ h=>Or.inr (Or.inr h),fun b h1 h2=>?_,fun b h1 h2=>?_,hdis⟩,fun b h0=>?_,set3_below hwb (by omega)⟩
    ·have:=hg1 b h1;have:=hSb b h2;omega
    ·have:=hg1 b h1;have:=hS3 b h2;omega
    ·have:=hb.size
     rw [set3_size]
     rcases h0 with h | h | h
     ·have:=hg1 b h;omega
     ·have:=hSb b h;omega
     ·have:=hS3 b h;omega
end Go.Proofs.YtnalakhelicjcaaGreatDoor
set_option maxRecDepth 100000
namespace Go.Proofs.YtnalakhelicjcaaGreatDoor
open Go.RowKit Go.Shelf Go.BigFrame
theorem gErr_small {nodes:Int} {gs:List Int} (hg:gErr nodes gs = 0):1 ≤ nodes ∧ nodes ≤ 4 ∧ gs.length ≤ 3:=by
 unfold gErr at hg
 unfold inB at hg
 refine ⟨?_, ?_, ?_⟩ <;> (split at hg <;> first | (split at hg <;> first | (simp at *;omega) | cases hg) | cases hg)
end Go.Proofs.YtnalakhelicjcaaGreatDoor
