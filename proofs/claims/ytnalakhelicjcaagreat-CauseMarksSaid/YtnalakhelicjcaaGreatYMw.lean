/-
  Mark: what the scribe notes of acts; its sets as rows of bools.
-/
import Derived.Test.YtnalakhelicjcaaGreatYDs
import Derived.Test.YtnalakhelicjcaaGreatYBo
import Derived.Test.YtnalakhelicjcaaGreatYKS2
set_option maxRecDepth 100000
namespace Go.Proofs.YtnalakhelicjcaaGreat
open Go.RowKit Go.Deep Go.Shelf Go.BigFrame
theorem infoCBRow:(Tryz.prog.info? 92).map (fun i=>(i.zero,i.size,i.bytes)) = some (some (.slice none 0 0),1,24):=by kernel_rfl
theorem infoCBool:(Tryz.prog.info? 4).map (fun i=>(i.zero,i.size,i.bytes)) = some (some (.bool false),1,1):=by kernel_rfl
theorem ScAt.setK {base B:Nat} {w w':World} {c:Nat → Nat} {gv nv wv sv av kv:Value} {s:Sc} (h:ScAt base w B c gv nv wv sv av kv s) {S:Nat → Prop} {v:Value} {fs:List St} (hL:Lies (fun b=>b < w.heap.size ∧ ¬ c b = 4) w w') (hs:w.heap.size ≤ w'.heap.size) (hO:OSets w' S v fs) (hS:∀ b,S b → (c b = 4 ∨ c b = 0) ∧ b ≠ B ∧ base ≤ b ∧ b < w'.heap.size) :
  ∃ c',ScAt base (w'.setCell ⟨B,5,none⟩ v) B c' gv nv wv sv av v ⟨s.X,s.sent,s.ahead,fs⟩:=by
 obtain ⟨c',r1,r2,r3⟩:=recol c (k:=4) (by omega) S (fun b hb=>(hS b hb).1)
 have hB:=hL B ⟨h.lt,by rw [h.cB];omega⟩
 have hf:∀ b,b ≠ B → (w'.setCell ⟨B,5,none⟩ v).heap[b]? = w'.heap[b]?:=fun b hb=>Go.Deep.blk_setCell_other _ _ _ _ hb
 have hl:∀ j,j ≠ 0 → j ≠ 4 → Lies (fun b=>c b = j) w (w'.setCell ⟨B,5,none⟩ v):=fun j h0 h2 b hb=>by
  have h1:c b = j:=hb
  exact (hf b (fun e=>by rw [e,h.cB] at h1;omega)).trans (hL b ⟨(h.b b (by omega)).2,by omega⟩)
 have hb0:=h.box.same hB
 have hc:∀ {j:Nat} {u:Value},j ≠ 5 → w.cell? ⟨B,j,none⟩ = some u → (w'.setCell ⟨B,5,none⟩ v).cell? ⟨B,j,none⟩ = some u:=fun hj hv=>(cell_setCell _ hj).trans ((World.cell?_of_block (w:=w) hB).trans hv)
 refine ⟨c',hb0.setCell,hc (by omega) h.c0,hc (by omega) h.c1,hc (by omega) h.c2,hc (by omega) h.c3,hc (by omega) h.c4,hb0.cell_set (by omega),(h.X.keep (hl 1 (by omega) (by omega))).mono fun b hb=>(r2 1 b (by omega) (by omega)).2 hb,OSl.mono (h.S.keep (hl 2 (by omega) (by omega))) fun b hb=>(r2 2 b (by omega) (by omega)).2 hb,OSl.mono (h.A.keep (hl 3 (by omega) (by omega))) fun b hb=>(r2 3 b (by omega) (by omega)).2 hb,OSl.mono (hO.keep fun b hb=>hf b (hS b hb).2.1) fun b hb=>(r1 b).2 hb,fun b hb=>?_,h.B0, ?_⟩
 ·rw [Go.Deep.nblk_setCell]
  rcases r3 b hb with h1 | h1
  ·exact ⟨(h.b b h1).1,Nat.lt_of_lt_of_le (h.b b h1).2 hs⟩
  ·exact ⟨(hS b h1).2.2.1,(hS b h1).2.2.2⟩
 ·refine Classical.byContradiction fun hn=>?_
  rcases r3 B hn with h1 | h1
  ·exact h1 h.cB
  ·exact (hS B h1).2.1 rfl
theorem Sc.act_len (s:Sc) (x:Ac):(s.act x).sent.length ≤ s.sent.length + 1:=by
 unfold Sc.act Sc.step
 split
 ·omega
 split
 ·split
  ·show s.sent.length ≤ _;omega
  ·show (s.sent ++ [_]).length ≤ _;simp
 ·omega
theorem Sc.run_len:∀ (l:List Ac) (s:Sc),(s.run l).sent.length ≤ s.sent.length + l.length
 | [],s=>Nat.le_refl _
 | x :: l,s=>by
  have h1:=Sc.run_len l (s.act x)
  have h2:=s.act_len x
  show ((s.act x).run l).sent.length ≤ _
  rw [List.length_cons]
  omega
def MPost (w:World) (r:Int × List M × List (List Bool)) (e:Ending) (w':World):Prop:=
 ∃ sv ov,e = .returned (.tuple #[sv,ov, .int .i64 r.1]) ∧ Msgs w' sv r.2.1 ∧ BRows w' ov r.2.2 ∧ Below w.heap.size w w'
theorem MPost.none {w w':World} {e:Int} (h:Below w.heap.size w w'):MPost w (e,[],[]) (.returned (.tuple #[.slice none 0 0, .slice none 0 0, .int .i64 e])) w':=
 ⟨_,_,rfl,OMsgs.msgs (OSl.nil MEl true 62 5 w' (fun _=>False)),OBRows.rows (OSl.nil OBoolsEl true 92 1 w' (fun _=>False)),h⟩
set_option maxHeartbeats 4000000 in
theorem Mark_c {w:World} {gv av:Value} {gs:List Int} {acts:List Ac} (hg:Ints w gv gs) (nodes:Int) (ha:Acts w av acts):Calls Tryz.prog 22 #[.int .i64 nodes,gv,av] w (MPost w (markF nodes gs acts)):=by
 have hC:=Check_c hg nodes
 have hgs:=fun h=>gErr_small (nodes:=nodes) (gs:=gs) h
 obtain ⟨hgl,ga,gcap,rfl,_⟩:=hg.open
 obtain ⟨hal,aa,acap,rfl,hac⟩:=ha.form
 have hR:markF nodes gs acts = if gErr nodes gs = 0 then if 80 < acts.length then (2,[],[]) else (0,(markS nodes.toNat gs acts).sent,(markS nodes.toNat gs acts).rows) else (gErr nodes gs,[],[]):=rfl
 have hBoth:=fun (h:gErr nodes gs = 0) l=>mark_both (n:=nodes.toNat) (gs:=gs) (by rw [Int.toNat_of_nonneg (by have:=gErr_small h;omega)];exact h) l
 generalize markF nodes gs acts = r at *
 obtain ⟨P,hP⟩:∃ P,MPost w r = P:=⟨_,rfl⟩
 rw [hP]
 replace hP:=Lib.hid hP
 generalize gErr nodes gs = e0 at *
 replace hgs:=Lib.hid hgs
 replace hBoth:=Lib.hid hBoth
 go_enter Tryz.func22,Tryz.ntmps22
 by_cases h0:e0 = 0
 rotate_left
 ·rw [if_neg h0] at hR
  have q0:(e0 != 0) = true:=by simpa using h0
  replace h0:=Lib.hid h0
  replace hR:=Lib.hid hR
  go_wp2_with fail
  refine hC.mono ?_
  rintro e w1 ⟨rfl,d1⟩
  have d1:Below w.heap.size w w1:=d1
  go_wp2_with fail
  rw [← hP.out,hR.out]
  exact MPost.none d1
 rw [if_pos h0] at hR
 have hgs:=hgs.out h0
 obtain ⟨n,rfl⟩:=Int.eq_ofNat_of_zero_le (show 0 ≤ nodes by omega)
 rw [Int.toNat_natCast] at hR
 have hBoth:=hBoth.out h0
 rw [Int.toNat_natCast] at hBoth
 have q0:(e0 != 0) = false:=by simpa using h0
 replace h0:=Lib.hid h0
 by_cases h80:acts.length ≤ 80
 rotate_left
 ·rw [if_pos (by omega)] at hR
  have q1:decide ((80:Int) < (acts.length:Int)) = true:=decide_eq_true (by omega)
  replace h80:=Lib.hid h80
  replace hR:=Lib.hid hR
  go_wp2_with fail
  refine hC.mono ?_
  rintro e w1 ⟨rfl,d1⟩
  have d1:Below w.heap.size w w1:=d1
  go_wp2_with fail
  rw [← hP.out,hR.out]
  exact MPost.none d1
 rw [if_neg (by omega)] at hR
 have q1:decide ((80:Int) < (acts.length:Int)) = false:=decide_eq_false (by omega)
 have hX:(beginX n gs).nodes.length = n:=begin_len.1
 replace hR:=Lib.hid hR
 replace hBoth:=Lib.hid hBoth
 go_wp2_with fail
 refine hC.mono ?_
 rintro e w1 ⟨rfl,d1⟩
 have d1:Below w.heap.size w w1:=d1
 have hF:=First_c (hg.below d1) (n:=n) (by omega) (by omega)
 obtain ⟨X,hXe⟩:∃ X,beginX n gs = X:=⟨_,rfl⟩
 rw [hXe] at hF hX
 replace hXe:=Lib.hid hXe
 clear hC hg
 go_wp2_with fail
 refine hF.mono ?_
 clear hF
 rintro e w2 ⟨gv2,nv2,wv2,S2,rfl,hO2,hS2,b2⟩
 have bB:=below_a1 w2 (.cells #[gv2,nv2,wv2, .slice none 0 0, .slice none 0 0, .slice none 0 0] 88)
 have hd1:=d1.size
 have hSc:∃ c,ScAt w.heap.size (w2.alloc (.cells #[gv2,nv2,wv2, .slice none 0 0, .slice none 0 0, .slice none 0 0] 88)) w2.heap.size c gv2 nv2 wv2 (.slice none 0 0) (.slice none 0 0) (.slice none 0 0) ⟨X,[],[],List.replicate 0 emptyS⟩:=by
  obtain ⟨c,r1,r2,r3⟩:=recol (fun _=>0) (k:=1) (by omega) S2 (fun b hb=>Or.inr rfl)
  refine ⟨c,⟨_,heap_alloc_new w2 _,rfl⟩,by simp,by simp,by simp,by simp,by simp,by simp,(hO2.any.keep fun b hb=>bB.block b (hS2 b hb).2).mono fun b hb=>(r1 b).2 hb,OSl.nil _ _ _ _ _ _,OSl.nil _ _ _ _ _ _,OSl.nil _ _ _ _ _ _,fun b hb=>?_,by have:=b2.size;omega, ?_⟩
  ·have h1:=(r3 b hb).resolve_left (fun h=>h rfl)
   have h2:=hS2 b h1
   have h3:=bB.size
   omega
  ·refine Classical.byContradiction fun hn=>?_
   have h1:=(r3 _ hn).resolve_left (fun h=>h rfl)
   have h2:=hS2 _ h1
   omega
 have b3:=d1.trans ((b2.mono hd1).trans (bB.mono (by have:=b2.size;omega)))
 go_upto_region 7 with fail
 generalize w2.alloc (.cells #[gv2,nv2,wv2, .slice none 0 0, .slice none 0 0, .slice none 0 0] 88) = w3 at *
 obtain ⟨B,hBe⟩:∃ B,w2.heap.size = B:=⟨_,rfl⟩
 simp only [hBe] at hSc ⊢
 clear hBe hO2 hS2 b2 bB
 obtain ⟨j0,hj0,jz0,jz1,jz2⟩:=info_parts infoCSet
 obtain ⟨c3,hSc⟩:=hSc
 have hmm:=@run_makeMap Tryz.prog
 go_wp2_with fail
 go_loopw [33] (fun i wr=>∃ (k:Nat) (c:Nat → Nat) (kv:Value),k ≤ n ∧ i = .int .i64 k ∧ ScAt w.heap.size wr B c gv2 nv2 wv2 (.slice none 0 0) (.slice none 0 0) kv ⟨X,[],[],List.replicate k emptyS⟩ ∧ Below w.heap.size w wr) (fun i _=>n - (intOf i).toNat)
 case atStart=>exact ⟨0,c3,_,by omega,rfl,hSc,b3⟩
 case round =>
  clear hSc b3
  obtain ⟨k,c,kv,hk,rfl,h,hb⟩:=hrel
  by_cases hlt:k < n
  ·have hG:=SetAt.made wr
   have ba:=below_a1 wr (.map #[] 0)
   have ba2:=below_a1 (wr.alloc (.map #[] 0)) (.cells #[.map (some wr.heap.size)] 90)
   have hs1:(wr.alloc (.map #[] 0)).heap.size = wr.heap.size + 1:=World.size_alloc _ _
   have hs2:((wr.alloc (.map #[] 0)).alloc (.cells #[.map (some wr.heap.size)] 90)).heap.size = wr.heap.size + 2:=by rw [World.size_alloc,hs1]
   have h4:=(h.below ba).below ba2
   have hG4:=hG.keep (ba2.block wr.heap.size (by omega))
   have hcz:∀ b,wr.heap.size ≤ b → c b = 0:=fun b hb=>Classical.byContradiction fun hn=>by have:=(h.b b hn).2;omega
   have hnew:∀ j u,[Value.map (some wr.heap.size)][j]? = some u → ((wr.alloc (.map #[] 0)).alloc (.cells #[.map (some wr.heap.size)] 90)).cell? ((⟨wr.heap.size + 1,0,none⟩:Addr).add j) = some u:=by
    have:=cells_new (wr.alloc (.map #[] 0)) #[.map (some wr.heap.size)] 90
    rw [hs1] at this
    exact this
   obtain ⟨ak,ck,rfl,_,_⟩:=OSl.form h4.K
   have d5:=h.c5
   have hbs:=h.B0
   have hBl:=h.lt
   have hLen:(List.replicate k emptyS).length = k:=List.length_replicate
   have hK4:=h4.K
   simp only [hLen] at d5 hK4
   have hc4:=h4.c5
   simp only [hLen] at hc4
   go_wp2_with (at_builtin;refine wpList_push _ rfl _ _ 86 rfl 90 j0 _ 1 8 Tryz.underlying86 hj0 jz0 jz1 jz2 rfl (by decide) SetEl.stays _ rfl (fun b=>c b = 4) (List.replicate k emptyS) hK4 (fun b hb=>(h4.b b (by have hb:c b = 4:=hb;omega)).2) ⟨wr.heap.size + 1,0,none⟩ _ rfl [.map (some wr.heap.size)] rfl hnew (by simp [Value.oneCell']) (fun b=>b = wr.heap.size) emptyS ⟨_,rfl,rfl,hG4⟩ (fun b hb=>⟨fun h=>by have h:c b = 4:=h;rw [hb,hcz _ (Nat.le_refl _)] at h;omega,by rw [hb];omega⟩) (by rw [hLen];omega) (by omega) (by omega) ?_;intro v14 w14 hp;obtain ⟨⟨S14,hO14,hS14⟩,hz14,hL14,hB14,a14,cap14,rfl⟩:=hp;rw [hLen] at hO14;simp only [hLen] at ⊢;have fz:=(h4.box.same (hL14 B ⟨h4.lt,fun h=>by have h:c B = 4:=h;rw [h4.cB] at h;omega⟩)).frozen 5;have cz:=(World.cell?_of_block (w:=(wr.alloc (.map #[] 0)).alloc (.cells #[.map (some wr.heap.size)] 90)) (hL14 B ⟨h4.lt,fun h=>by have h:c B = 4:=h;rw [h4.cB] at h;omega⟩)).trans hc4)
   have hb5:Below w.heap.size w (w14.setCell ⟨B,5,none⟩ (.slice a14 (k + 1) cap14)):=hb.trans (((ba.mono (by omega)).trans (ba2.mono (by omega))).trans (below_setCell (hB14 w.heap.size (fun b hb=>(h4.b b (by have hb:c b = 4:=hb;omega)).1) (by omega)) hbs _))
   obtain ⟨c5,h5⟩:=h4.setK (S:=S14) (v:=.slice a14 (k + 1) cap14) hL14 hz14 hO14 (fun b hb=>by
    have h1:=(hS14 b hb).1
    have h2:=(hS14 b hb).2
    rcases h1 with h1 | h1 | h1
    ·have h1:c b = 4:=h1
     exact ⟨Or.inl h1,fun e=>by rw [e,h4.cB] at h1;omega,(h4.b b (by omega)).1,h2⟩
    ·have h1:b = wr.heap.size:=h1
     exact ⟨Or.inr (hcz b (by omega)),by omega,by omega,h2⟩
    ·exact ⟨Or.inr (hcz b (by omega)),by omega,by omega,h2⟩)
   have e1:List.replicate k emptyS ++ [emptyS] = List.replicate (k + 1) emptyS:=by rw [List.replicate_succ']
   rw [e1] at h5
   go_roundw
   case rel=>exact ⟨k + 1,c5,_,by omega,by go_num,h5,hb5⟩
   case measure=>simp [intOf];omega
  ·obtain rfl:k = n:=by omega
   have e1:(⟨X,[],[],List.replicate k emptyS⟩:Sc) = Sc.begin X:=by unfold Sc.begin;rw [hX]
   rw [e1] at h
   have hBoth:=hBoth.out
   unfold markS at hBoth
   rw [hXe.out] at hBoth
   have hR:=hR.out
   unfold markS at hR
   rw [hXe.out] at hR
   replace hR:=Lib.hid hR
   replace hBoth:=Lib.hid hBoth
   clear hmm e1
   obtain ⟨w5,rfl⟩:∃ wo:World,wo = wr:=⟨_,rfl⟩
   go_wp2_with fail
   go_loopw [48] (fun i wr=>∃ (j:Nat) (c:Nat → Nat) (gv nv wv sv av kv:Value),j ≤ acts.length ∧ i = .int .i64 j ∧ ScAt w.heap.size wr B c gv nv wv sv av kv ((Sc.begin X).run (acts.take j)) ∧ Below w.heap.size w wr) (fun i _=>acts.length - (intOf i).toNat)
   case atStart=>exact ⟨0,c,_,_,_,_,_,_,by omega,rfl,h,hb⟩
   case round =>
    clear h hb
    obtain ⟨j,c,gv,nv,wv,sv,av,kv,hj,rfl,h,hb⟩:=hrel
    by_cases hlt2:j < acts.length
    ·obtain ⟨ab,ao,acap',e,_,hbox,hfit⟩:=(ha.below hb).at hlt2
     cases e
     have hsu:=Sc.run_succ (s:=Sc.begin X) hlt2
     obtain ⟨x,hx⟩:∃ x,acts.getD j Ac.zero = x:=⟨_,rfl⟩
     rw [hx] at hbox hfit hsu
     clear hx
     have hBj:=hBoth.out (acts.take j)
     have hlen:=Sc.run_len (acts.take j) (Sc.begin X)
     have hlen2:(acts.take j).length = j:=by rw [List.length_take];omega
     have hlen0:(Sc.begin X).sent.length = 0:=rfl
     generalize (Sc.begin X).run (acts.take j) = sj at *
     obtain ⟨a0,a1,a2,a3⟩:=hbox
     have bx:=below_a1 wr (.cells #[.int .i64 x.kind, .int .i64 x.one, .int .i64 x.two, .string x.body] 23)
     have hM:=AcBox.new wr x 23
     have hx1:=h.below bx
     have hb1:=hb.trans (bx.mono hb.size)
     replace hsu:=Lib.hid hsu
     go_upto_region 14 with fail
     clear h hb a0 a1 a2 a3
     generalize wr.alloc (.cells #[.int .i64 x.kind, .int .i64 x.one, .int .i64 x.two, .string x.body] 23) = w6 at *
     obtain ⟨C,hC⟩:∃ C,wr.heap.size = C:=⟨_,rfl⟩
     rw [hC] at hM
     simp only [hC] at ⊢
     clear hC
     obtain ⟨m0,m1,m2,m3⟩:=hM
     simp only [Nat.zero_add] at m0 m1 m2 m3
     by_cases h4:x.kind = 4
     ·have q4:(x.kind != 4) = false:=by rw [h4];rfl
      have hsu2:=hsu.out
      unfold Sc.act at hsu2
      rw [if_pos h4] at hsu2
      rw [← hsu2] at hx1
      replace h4:=Lib.hid h4
      clear hsu2
      go_wp2_with fail
      go_roundw
      case rel=>exact ⟨j + 1,c,_,_,_,_,_,_,by omega,by go_num,hx1,hb1⟩
      case measure=>simp [intOf];omega
     ·have q4:(x.kind != 4) = true:=by simpa using h4
      have hsu2:=hsu.out
      unfold Sc.act at hsu2
      rw [if_neg h4] at hsu2
      have hDo:=Scribe_c hx1 hBj hfit h4 (by omega)
      unfold Ac.val at hDo
      rw [← hsu2] at hDo
      replace h4:=Lib.hid h4
      clear hsu2
      go_wp2_with fail
      refine hDo.mono ?_
      rintro e w7 ⟨rfl,⟨c7,gv7,nv7,wv7,sv7,av7,kv7,h7⟩,b7⟩
      have hb7:=hb1.trans b7
      go_wp2_with fail
      go_roundw
      case rel=>exact ⟨j + 1,c7,_,_,_,_,_,_,by omega,by go_num,h7,hb7⟩
      case measure=>simp [intOf];omega
    ·obtain rfl:j = acts.length:=by omega
     rw [List.take_length] at h
     have hBs:=hBoth.out acts
     have hlen:=Sc.run_len acts (Sc.begin X)
     have hlen0:(Sc.begin X).sent.length = 0:=rfl
     have hR:=hR.out
     obtain ⟨s,hse⟩:∃ s,(Sc.begin X).run acts = s:=⟨_,rfl⟩
     rw [hse] at h hBs hlen hR
     clear hse hBoth
     have hla:=hBs.la
     have hlow:=hBs.low
     clear hBs
     replace hlow:=Lib.hid hlow
     replace hR:=Lib.hid hR
     obtain ⟨r0,hr0,rz0,rz1,rz2⟩:=info_parts infoCBRow
     obtain ⟨t0,ht0,tz0,tz1,tz2⟩:=info_parts infoCBool
     have hmB:=run_make_row' (P:=Tryz.prog) 92 4 (.bool false) 1 Tryz.underlying92 (by rw [ht0];simp [tz0,tz1,tz2]) rfl .i64 .i64 s.sent.length (by omega) (by omega)
     obtain ⟨a8,ac8,rfl,_,_⟩:=OSl.form h.A
     obtain ⟨_,sa,scap,rfl,_,_⟩:=h.S.msgs.open
     have d4:=h.c4
     obtain ⟨w8,rfl⟩:∃ wo:World,wo = wr:=⟨_,rfl⟩
     go_wp2_with fail
     go_loopw [13,64] (fun o i wr=>∃ (k:Nat) (So:Nat → Prop),k ≤ s.ahead.length ∧ i = .int .i64 k ∧ OBRows wr So o (s.rows.take k) ∧ (∀ b,So b → w8.heap.size ≤ b ∧ b < wr.heap.size) ∧ Below w8.heap.size w8 wr) (fun _ i _=>s.ahead.length - (intOf i).toNat)
     case atStart=>exact ⟨0,fun _=>False,by omega,rfl,OSl.nil _ _ _ _ _ _,fun _ h=>h.elim,Below.refl _ _⟩
     case round =>
      clear d4
      obtain ⟨k2,So,hk2,rfl,hO,hSo,hb8⟩:=hrel
      have h9:=h.below hb8
      have hs8:=hb8.size
      obtain ⟨ao,co,rfl,_,_⟩:=OSl.form hO
      have hrl:(s.rows.take k2).length = k2:=by rw [List.length_take];unfold Sc.rows;rw [List.length_map];omega
      by_cases hlt3:k2 < s.ahead.length
      ·obtain ⟨gA,capA,bA,eA,_,_,_,k0,hbc,_,hSk,_⟩:=h9.A.set_at hlt3
       cases eA
       have hrs:=Sc.rows_at hlt3
       have hlw:=fun t (ht:s.ahead.getD k2 emptyS t = true)=>hlow.out k2 t (by omega) ht
       obtain ⟨f,hf⟩:∃ f,s.ahead.getD k2 emptyS = f:=⟨_,rfl⟩
       rw [hf] at hSk hrs hlw
       clear hf
       have d3:=h9.c3
       have bm:=below_a1 wr (.cells (madeCells #[.bool false] s.sent.length) 4)
       have hsm:(wr.alloc (.cells (madeCells #[.bool false] s.sent.length) 4)).heap.size = wr.heap.size + 1:=World.size_alloc _ _
       have hOb:OBools (wr.alloc (.cells (madeCells #[.bool false] s.sent.length) 4)) (fun b=>b = wr.heap.size) (.slice (some ⟨wr.heap.size,0,none⟩) s.sent.length s.sent.length) (List.replicate s.sent.length false):=OSl.made wr s.sent.length (fun _=>rfl) (by omega)
       have hSk1:=hSk.keep (bm.block bA hSk.lt)
       have hbl:=hSk.lt
       have hOm:=hO.keep (fun b hb=>bm.block b (hSo b hb).2)
       rw [hrl] at hOm
       replace hrs:=Lib.hid hrs
       replace hlw:=Lib.hid hlw
       simp only [hrl] at ⊢
       go_wp2_with (at_range;refine wpList_set_range _ rfl _ rfl bA f rfl hSk1 ?_;intro w10 cnt0 hrg0 hg10 hsz10)
       try go_frame
       clear k0 d3
       generalize wr.alloc (.cells (madeCells #[.bool false] s.sent.length) 4) = wm at *
       obtain ⟨Rb,hRb⟩:∃ b,wr.heap.size = b:=⟨_,rfl⟩
       simp only [hRb] at hsm hOb hbl hSo hs8 ⊢
       obtain ⟨rI,hrI⟩:∃ b,wm.heap.size = b:=⟨_,rfl⟩
       simp only [hrI] at hrg0 hsz10 hsm ⊢
       have hO10:=hOb.keep (w':=w10) (fun b hb=>hg10.block b (by have hb:b = Rb:=hb;omega) (by simp))
       have b10:Below w8.heap.size w8 w10:=hb8.trans ((bm.mono (by omega)).trans ((Save.grown0 (S:=fun _=>False) hg10).below (fun _ h=>h.elim) (by omega)))
       have hOR:=hOm.keep (w':=w10) (fun b hb=>hg10.block b (by have:=hSo b hb;omega) (by simp))
       have hRI:Rb < rI:=by omega
       have hI10:rI < w10.heap.size:=by omega
       replace hsm:=Lib.hid hsm
       replace hsz10:=Lib.hid hsz10
       clear hSk1 hOb hOm bm hg10
       go_loopw [17] (fun _ wr=>∃ (l:St) (cnt:Nat),SetRg wr bA rI f l cnt ∧ OBools wr (fun b=>b = Rb) (.slice (some ⟨Rb,0,none⟩) s.sent.length s.sent.length) (rowS s.sent.length (fun j=>f j && !l j)) ∧ Save (fun c=>c = Rb ∨ c = rI) w10 wr) (fun _ wr=>wr.rangeLeft bA rI)
       case atStart =>
        refine ⟨f,cnt0,hrg0, ?_,Save.refl _ _⟩
        have e:(fun j=>f j && !f j) = fun _=>false:=by funext j;simp
        rw [e,rowS_none]
        exact hO10
       case round =>
        obtain ⟨l,cnt,hrg,hOb,hv⟩:=hrel
        go_wp2_with (at_next;refine wpList_set_next _ rfl _ rfl bA rI f l cnt rfl hrg ?_ ?_)
        ·intro hl0
         have e:(fun j=>f j && !l j) = f:=by funext j;rw [hl0 j];simp
         rw [e] at hOb
         have ba:=below_a1 wr (.cells #[.slice (some ⟨Rb,0,none⟩) s.sent.length s.sent.length] 92)
         have hv8:=hv.size
         have hOb2:=hOb.keep (w':=wr.alloc (.cells #[.slice (some ⟨Rb,0,none⟩) s.sent.length s.sent.length] 92)) (fun b hb=>ba.block b (by have hb:b = Rb:=hb;omega))
         have hOR2:=(hOR.keep (w':=wr) (fun b hb=>hv.block b (by have:=hSo b hb;omega) (by have:=hSo b hb;simp;omega))).keep (w':=wr.alloc (.cells #[.slice (some ⟨Rb,0,none⟩) s.sent.length s.sent.length] 92)) (fun b hb=>ba.block b (by have:=hSo b hb;omega))
         have hsa:(wr.alloc (.cells #[.slice (some ⟨Rb,0,none⟩) s.sent.length s.sent.length] 92)).heap.size = wr.heap.size + 1:=World.size_alloc _ _
         go_wp2_with (at_builtin;refine wpList_push _ rfl _ _ 51 rfl 92 r0 _ 1 24 Tryz.underlying51 hr0 rz0 rz1 rz2 rfl (by decide) OBoolsEl.stays _ rfl So (s.rows.take k2) hOR2 (fun b hb=>by have:=hSo b hb;omega) ⟨wr.heap.size,0,none⟩ _ rfl [.slice (some ⟨Rb,0,none⟩) s.sent.length s.sent.length] rfl (cells_new _ _ _) (by simp [Value.oneCell']) (fun b=>b = Rb) (rowS s.sent.length f) ⟨_,rfl,hOb2⟩ (fun b hb=>⟨fun h=>by have:=hSo b h;omega,by omega⟩) (by rw [hrl];omega) (by omega) (by omega) ?_;intro v14 w14 hp)
         obtain ⟨⟨S14,hO14,hS14⟩,hz14,hL14,hB14,a14,cap14,rfl⟩:=hp
         have hb14:Below w8.heap.size w8 w14:=((b10.trans (hv.below (fun b h=>by omega) b10.size)).trans (ba.mono (by omega))).trans (hB14 w8.heap.size (fun b hb=>(hSo b hb).1) (by omega))
         have hk14:s.rows.take (k2 + 1) = s.rows.take k2 ++ [rowS s.sent.length f]:=by
          rw [List.take_succ_eq_append_getElem (by unfold Sc.rows;rw [List.length_map];exact hlt3), ← hrs.out,getD_lt _ [] (by unfold Sc.rows;rw [List.length_map];exact hlt3)]
         rw [← hk14] at hO14
         go_roundw
         case rel=>exact ⟨k2 + 1,S14,by omega,by go_num,hO14,fun b hb=>by
          have h1:=(hS14 b hb).1
          have h2:=(hS14 b hb).2
          rcases h1 with h1 | h1 | h1
          ·exact ⟨(hSo b h1).1,h2⟩
          ·have h1:b = Rb:=h1
           exact ⟨by omega,h2⟩
          ·exact ⟨by omega,h2⟩,hb14⟩
         case measure=>simp [intOf];omega
        ·intro i cc w11 cnt1 hli hrg1 hlt1 hg1 hs1 hen
         obtain ⟨hai,hi⟩:=hrg.bound hli
         have hin:i < s.sent.length:=by have:=hlw.out i hai;omega
         have hO11:=hOb.keep (w':=w11) (fun b hb=>hg1.block b (by have hb:b = Rb:=hb;have:=hv.size;omega) (by have hb:b = Rb:=hb;simp;omega))
         obtain ⟨gR,cR,eR,_,hgR,hbR,hcR,back⟩:=hO11.bool_at (k:=i) (by rw [rowS_len];exact hin)
         have hgR:gR = Rb:=hgR
         subst hgR
         have hfR:=hbR.frozen i
         have n1:decide ((i:Int) < 0) = false:=by simp
         have n2:decide (s.sent.length ≤ i) = false:=by simp;omega
         replace back:=back w11 true (fun _ _=>rfl)
         rw [rowS_set] at back
         replace back:=Lib.hid back
         clear eR
         go_wp2_with fail
         try go_frame
         have hrg4:=hrg1.keep (w':=w11.setCell ⟨gR,i,none⟩ (.bool true)) (Go.Deep.blk_setCell_other _ _ _ _ (show bA ≠ gR by omega)) (Go.Deep.blk_setCell_other _ _ _ _ (show rI ≠ gR by omega))
         have hv4:=(hv.trans (Save.grown (S:=fun c=>c = gR ∨ c = rI) hg1 (Or.inr rfl)) (fun _ h _=>h)).trans (T:=fun c=>c = gR) (w2:=w11.setCell ⟨gR,i,none⟩ (.bool true)) ⟨rfl,rfl,rfl,by rw [Go.Deep.nblk_setCell];exact Nat.le_refl _,fun b hb hn=>Go.Deep.blk_setCell_other _ _ _ _ hn⟩ (fun b h _=>Or.inl h)
         go_roundw
         case rel =>
          have e:(fun j=>(f j && !l j) || j == i) = fun j=>f j && !(l j && !(j == i)):=by
           funext j
           by_cases hj:j = i
           ·subst hj;simp [hai]
           ·have:(j == i) = false:=by simpa using hj
            simp [this]
          have hH:=back.out
          rw [e] at hH
          first | exact ⟨_,cnt1,hrg4,hH,hv4⟩ | exact ⟨_,⟨cnt1,hrg4⟩,hH,hv4⟩
         case measure=>rw [hrg4.left_eq,hrg.left_eq];exact hlt1
      ·obtain rfl:k2 = s.ahead.length:=by omega
       have d3:=h9.c3
       have hrows:s.rows.take s.ahead.length = s.rows:=List.take_of_length_le (by unfold Sc.rows;rw [List.length_map];exact Nat.le_refl _)
       have hF1:=h9.S.msgs
       have hF2:=OBRows.rows hO
       rw [hrl,hrows] at hF2
       simp only [hrl] at ⊢
       go_wp2_with fail
       rw [← hP.out,hR.out]
       exact ⟨_,_,rfl,hF1,hF2,hb.trans (hb8.mono hb.size)⟩
end Go.Proofs.YtnalakhelicjcaaGreat
