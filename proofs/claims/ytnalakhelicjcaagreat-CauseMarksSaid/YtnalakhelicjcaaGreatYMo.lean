/-
  MarkOf: what the document's answer notes of acts.
-/
import Derived.Test.YtnalakhelicjcaaGreatYRm
import Derived.Test.YtnalakhelicjcaaGreatYMw
import Derived.Test.YtnalakhelicjcaaGreatYKCc
import Derived.Test.YtnalakhelicjcaaGreatYKD
import Derived.Test.YtnalakhelicjcaaGreatYKN
set_option maxRecDepth 100000
namespace Go.Proofs.YtnalakhelicjcaaGreat
open Go.RowKit Go.Deep Go.Shelf Go.BigFrame
theorem set_getD_self {α:Type} {l:List α} {d:α} {b:Nat} (h:b < l.length):l.set b (l.getD b d) = l:=by
 rw [getD_lt l d h,List.set_getElem_self]
theorem BoolsAt.row {w:World} {v:Value} {xs:List Bool} (h:BoolsAt w v xs):Row w v xs.length 1 (xs.map Value.bool):=by
 obtain ⟨css,h1,_,h3,h4⟩:=h
 have e:css.flatten = xs.map Value.bool:=by
  have e1:css = xs.map (fun b=>[Value.bool b]):=List.ext_getElem (by rw [List.length_map];exact h1) (fun i a b=>by
   rw [List.getElem_map]
   exact h4 i a (by rwa [List.length_map] at b))
  have e2:∀ l:List Bool,(l.map (fun b=>[Value.bool b])).flatten = l.map Value.bool:=fun l=>by
   induction l with
   | nil=>rfl
   | cons x l ih=>rw [List.map_cons,List.flatten_cons,ih];rfl
  rw [e1,e2]
 rwa [e] at h3
theorem OBools.of_owns {w:World} {base:Nat} {v:Value} {xs:List Bool} (h:w.ownsRow base 4 1 v xs.length (xs.map Value.bool)) (hl:xs.length ≤ 1000):OBools w (fun b=>v.ownBlock = some b) v xs:=
 OSl.of_owns h (by omega) (fun i hi=>by
  show List.take 1 (List.drop (i * 1) (xs.map Value.bool)) = [.bool xs[i]]
  rw [Nat.mul_one,List.drop_eq_getElem_cons (by rw [List.length_map];exact hi)]
  simp)
theorem RfAt.learned {base B:Nat} {w w':World} {c:Nat → Nat} {gv nv wv sv av kv:Value} {r:Rf} (h:RfAt base w B c gv nv wv sv av kv r) {l:List (List Bool)} (hK:OBRows w' (fun b=>c b = 4) kv l) (hv:Save (fun b=>c b = 4) w w') :
  RfAt base w' B c gv nv wv sv av kv ⟨r.X,r.all,r.ahead,l⟩:=by
 have hl:∀ j,j ≠ 4 → j ≠ 0 → Lies (fun b=>c b = j) w w':=fun j hj h0 b hb=>hv.block b (h.b b (by omega)).2 (by omega)
 exact ⟨h.box.keep (hv.block B h.lt (by rw [h.cB];omega)),h.X.keep (hl 1 (by omega) (by omega)),h.S.keep (hl 2 (by omega) (by omega)),h.A.keep (hl 3 (by omega) (by omega)),hK,fun b hb=>⟨(h.b b hb).1,Nat.lt_of_lt_of_le (h.b b hb).2 hv.size⟩,h.B0,h.cB⟩
def midL (l:List (List Bool)) (L i:Nat):List (List Bool):=closeI l L i ++ l.drop i
theorem midL_zero {l:List (List Bool)} {L:Nat}:midL l L 0 = l:=rfl
theorem midL_len {l:List (List Bool)} {L i:Nat} (h:i ≤ l.length):(midL l L i).length = l.length:=by
 unfold midL
 rw [List.length_append,closeI_len,List.length_drop]
 omega
theorem midL_at {l:List (List Bool)} {L i:Nat}:(midL l L i).getD i [] = l.getD i []:=by
 unfold midL
 rw [List.getD_eq_getElem?_getD,List.getElem?_append_right (by rw [closeI_len];exact Nat.le_refl _),closeI_len,List.getElem?_drop,List.getD_eq_getElem?_getD]
 simp
theorem midL_low {l:List (List Bool)} {L i j:Nat} (h:j < i):(midL l L i).getD j [] = (closeI l L i).getD j []:=by
 unfold midL
 rw [List.getD_eq_getElem?_getD,List.getElem?_append_left (by rw [closeI_len];exact h), ← List.getD_eq_getElem?_getD]
theorem midL_succ {l:List (List Bool)} {L i:Nat} (h:i < l.length):(midL l L i).set i (closeJ (closeI l L i) (padB L (l.getD i [])) i) = midL l L (i + 1):=by
 unfold midL
 rw [List.set_append_right _ _ (by rw [closeI_len];exact Nat.le_refl _),closeI_len,Nat.sub_self,closeI,List.drop_eq_getElem_cons h,List.set_cons_zero,List.append_assoc]
 rfl
theorem midL_end {l:List (List Bool)} {L:Nat} (h:l.length = L):midL l L L = closeI l L L:=by
 unfold midL
 rw [List.drop_eq_nil_of_le (by omega),List.append_nil]
def lenAt (w:World) (a:Addr):Nat:=match w.cell? a with
 | some (.slice _ n _)=>n
 | _=>0
theorem lenAt_eq {w:World} {a:Addr} {u:Option Addr} {n c:Nat} (h:w.cell? a = some (.slice u n c)):lenAt w a = n:=by
 unfold lenAt
 rw [h]
theorem RfAt.putA {base B:Nat} {w w':World} {c:Nat → Nat} {gv nv wv sv av kv:Value} {r:Rf} (h:RfAt base w B c gv nv wv sv av kv r) {g i:Nat} {T S':Nat → Prop} {u':Value} {row:List Bool}
  (hgc:c g = 3) (hT:∀ b,T b → c b = 3 ∧ b ≠ g) (hk:Lies (fun b=>b < w.heap.size ∧ ¬ T b) w w') (hs:w.heap.size ≤ w'.heap.size) (hO:OBools w' S' u' row) (hS:∀ b,S' b → (T b ∨ w.heap.size ≤ b) ∧ b < w'.heap.size)
  (back:∀ w' T' u' r',Lies (fun b=>c b = 3 ∧ ¬ T b) w w' → OBools w' T' u' r' → (∀ b,T' b → T b ∨ ¬ c b = 3) → OBRows (w'.setCell ⟨g,i,none⟩ u') (fun b=>c b = 3 ∨ T' b) av (r.ahead.set i r')) :
  ∃ c',RfAt base (w'.setCell ⟨g,i,none⟩ u') B c' gv nv wv sv av kv ⟨r.X,r.all,r.ahead.set i row,r.known⟩:=by
 have h1:=h.lt
 have h2:=h.B0
 have hA:=back w' S' u' row (fun b hb=>hk b ⟨(h.b b (by omega)).2,hb.2⟩) hO (fun b hb=>(hS b hb).1.elim Or.inl (fun h3=>Or.inr (fun h4=>by have:=(h.b b (by omega)).2;omega)))
 have h5:∀ b,c b = 3 → (c b = 3 ∨ c b = 0) ∧ b ≠ B ∧ base ≤ b ∧ b < w'.heap.size:=fun b e=>⟨Or.inl e,fun e'=>by rw [e',h.cB] at e;omega,(h.b b (by omega)).1,by have:=(h.b b (by omega)).2;omega⟩
 obtain ⟨c',h6,_⟩:=h.setA (w':=w'.setCell ⟨g,i,none⟩ u') (fun b hb=>(Go.Deep.blk_setCell_other _ _ _ _ (fun e=>hb.2 (by show c b = 3;rw [e];exact hgc))).trans (hk b ⟨hb.1,fun hT'=>hb.2 (hT b hT').1⟩)) (by rw [Go.Deep.nblk_setCell];exact hs) hA (fun b hb=>by
  rw [Go.Deep.nblk_setCell]
  rcases hb with hb | hb
  ·exact h5 b hb
  ·rcases (hS b hb).1 with h3 | h3
   ·exact h5 b (hT b h3).1
   ·exact ⟨Or.inr (Classical.byContradiction fun hn=>by have:=(h.b b hn).2;omega),by omega,by omega,(hS b hb).2⟩)
 exact ⟨c',h6⟩
theorem RfAt.inA {base B:Nat} {w w':World} {c:Nat → Nat} {gv nv wv sv av kv:Value} {r:Rf} (h:RfAt base w B c gv nv wv sv av kv r) {l:List (List Bool)} (hA:OBRows w' (fun b=>c b = 3) av l) (hv:Save (fun b=>c b = 3) w w') :
  RfAt base w' B c gv nv wv sv av kv ⟨r.X,r.all,l,r.known⟩:=by
 have hl:∀ j,j ≠ 3 → j ≠ 0 → Lies (fun b=>c b = j) w w':=fun j hj h0 b hb=>hv.block b (h.b b (by omega)).2 (by omega)
 exact ⟨h.box.keep (hv.block B h.lt (by rw [h.cB];omega)),h.X.keep (hl 1 (by omega) (by omega)),h.S.keep (hl 2 (by omega) (by omega)),hA,h.K.keep (hl 4 (by omega) (by omega)),fun b hb=>⟨(h.b b hb).1,Nat.lt_of_lt_of_le (h.b b hb).2 hv.size⟩,h.B0,h.cB⟩
set_option maxHeartbeats 4000000 in
theorem MarkOf_c {w:World} {gv av:Value} {gs:List Int} {acts:List Ac} (hg:Ints w gv gs) (nodes:Int) (ha:Acts w av acts):Calls Tryz.prog 23 #[.int .i64 nodes,gv,av] w (MPost w (markD nodes gs acts)):=by
 have hC:=GroupsError_c hg nodes
 have hgs:=fun h=>gErr_small (nodes:=nodes) (gs:=gs) h
 obtain ⟨hgl,ga,gcap,rfl,_⟩:=hg.open
 obtain ⟨hal,aa,acap,rfl,hac⟩:=ha.form
 have hR:markD nodes gs acts = if gErr nodes gs = 0 then if 80 < acts.length then (2,[],[]) else
  (0,((Rf.begin (beginX nodes.toNat gs) nodes.toNat).run acts).all,closeI ((Rf.begin (beginX nodes.toNat gs) nodes.toNat).run acts).ahead ((Rf.begin (beginX nodes.toNat gs) nodes.toNat).run acts).all.length ((Rf.begin (beginX nodes.toNat gs) nodes.toNat).run acts).all.length) else (gErr nodes gs,[],[]):=rfl
 have hBoth:=fun (h:gErr nodes gs = 0) l=>mark_both (n:=nodes.toNat) (gs:=gs) (by rw [Int.toNat_of_nonneg (by have:=gErr_small h;omega)];exact h) l
 generalize markD nodes gs acts = r at *
 obtain ⟨P,hP⟩:∃ P,MPost w r = P:=⟨_,rfl⟩
 rw [hP]
 replace hP:=Lib.hid hP
 generalize gErr nodes gs = e0 at *
 replace hgs:=Lib.hid hgs
 replace hBoth:=Lib.hid hBoth
 go_enter Tryz.func23,Tryz.ntmps23
 by_cases h0:e0 = 0
 rotate_left
 ·rw [if_neg h0] at hR
  have q0:(e0 != 0) = true:=by simpa using h0
  replace h0:=Lib.hid h0
  replace hR:=Lib.hid hR
  go_wp2_with fail
  refine hC.mono ?_
  rintro e w1 ⟨rfl,d1⟩
  have d1:=d1.below
  go_wp2_with fail
  rw [← hP.out,hR.out]
  exact MPost.none d1
 rw [if_pos h0] at hR
 have hgs:=hgs.out h0
 obtain ⟨n,rfl⟩:=Int.eq_ofNat_of_zero_le (show 0 ≤ nodes by omega)
 rw [Int.toNat_natCast] at hR
 have hBoth:=hBoth.out h0
 rw [Int.toNat_natCast] at hBoth
 have q0:(e0 != 0) = false:=by simpa using h0
 replace h0:=Lib.hid h0
 by_cases h80:acts.length ≤ 80
 rotate_left
 ·rw [if_pos (by omega)] at hR
  have q1:decide ((80:Int) < (acts.length:Int)) = true:=decide_eq_true (by omega)
  replace h80:=Lib.hid h80
  replace hR:=Lib.hid hR
  go_wp2_with fail
  refine hC.mono ?_
  rintro e w1 ⟨rfl,d1⟩
  have d1:=d1.below
  go_wp2_with fail
  rw [← hP.out,hR.out]
  exact MPost.none d1
 rw [if_neg (by omega)] at hR
 have q1:decide ((80:Int) < (acts.length:Int)) = false:=decide_eq_false (by omega)
 have hX:(beginX n gs).nodes.length = n:=begin_len.1
 replace hR:=Lib.hid hR
 replace hBoth:=Lib.hid hBoth
 obtain ⟨r0,hr0,rz0,rz1,rz2⟩:=info_parts infoCBRow
 have hmK:=run_make_row' (P:=Tryz.prog) 51 92 (.slice none 0 0) 24 Tryz.underlying51 (by rw [hr0];simp [rz0,rz1,rz2]) rfl .i64 .i64 n (by omega) (by omega)
 go_wp2_with fail
 refine hC.mono ?_
 rintro e w1 ⟨rfl,d1⟩
 have d1:=d1.below
 have hF:=BeginOf_c (hg.below d1) (n:=n) (by omega) (by omega)
 obtain ⟨X,hXe⟩:∃ X,beginX n gs = X:=⟨_,rfl⟩
 rw [hXe] at hF hX
 replace hXe:=Lib.hid hXe
 replace hX:=Lib.hid hX
 clear hC hg
 go_wp2_with fail
 refine hF.mono ?_
 clear hF
 rintro e w2 ⟨gv2,nv2,wv2,S2,rfl,hO2,hS2,b2⟩
 obtain ⟨pg,pn,pw⟩:=hO2.parts
 obtain ⟨_,ga2,gcap2,rfl,_⟩:=pg.open
 obtain ⟨_,na2,ncap2,rfl,_⟩:=pn.form
 obtain ⟨_,wa2,wcap2,rfl,_⟩:=pw.form
 clear pg pn pw
 have hR2:=OBox.new w2 37 (.slice ga2 X.groups.length gcap2) (.slice na2 X.nodes.length ncap2) (.slice wa2 X.wires.length wcap2)
 have bx2:=below_a1 w2 (.cells #[.slice ga2 X.groups.length gcap2, .slice na2 X.nodes.length ncap2, .slice wa2 X.wires.length wcap2] 37)
 have hW2:=hO2.world.below bx2
 have hd1:=d1.size
 have hB2z:w2.heap.size < (w2.alloc (.cells #[.slice ga2 X.groups.length gcap2, .slice na2 X.nodes.length ncap2, .slice wa2 X.wires.length wcap2] 37)).heap.size:=by rw [World.size_alloc];omega
 have hRf:∃ c,RfAt w.heap.size (w2.alloc (.cells #[.slice ga2 X.groups.length gcap2, .slice na2 X.nodes.length ncap2, .slice wa2 X.wires.length wcap2] 37)) w2.heap.size c (.slice ga2 X.groups.length gcap2) (.slice na2 X.nodes.length ncap2) (.slice wa2 X.wires.length wcap2) (.slice none 0 0) (.slice none 0 0) (.slice none 0 0) ⟨X,[],[],[]⟩:=by
  obtain ⟨c,r1,r2,r3⟩:=recol (fun _=>0) (k:=1) (by omega) S2 (fun b hb=>Or.inr rfl)
  refine ⟨c,hR2,(hO2.any.keep fun b hb=>bx2.block b (hS2 b hb).2).mono fun b hb=>(r1 b).2 hb,OSl.nil _ _ _ _ _ _,OSl.nil _ _ _ _ _ _,OSl.nil _ _ _ _ _ _,fun b hb=>?_,by have:=b2.size;omega, ?_⟩
  ·have h1:=(r3 b hb).resolve_left (fun h=>h rfl)
   have h2:=hS2 b h1
   have h3:=bx2.size
   omega
  ·refine Classical.byContradiction fun hn=>?_
   have h1:=(r3 _ hn).resolve_left (fun h=>h rfl)
   have h2:=hS2 _ h1
   omega
 have b3:Below w.heap.size w (w2.alloc (.cells #[.slice ga2 X.groups.length gcap2, .slice na2 X.nodes.length ncap2, .slice wa2 X.wires.length wcap2] 37)):=d1.trans ((b2.mono hd1).trans (bx2.mono (by have:=b2.size;omega)))
 go_upto_region 9 with fail
 clear hO2 hS2 b2 bx2 hW2 hR2
 generalize w2.alloc (.cells #[.slice ga2 X.groups.length gcap2, .slice na2 X.nodes.length ncap2, .slice wa2 X.wires.length wcap2] 37) = w3 at *
 obtain ⟨B,hBe⟩:∃ B,w2.heap.size = B:=⟨_,rfl⟩
 simp only [hBe] at hRf hB2z ⊢
 clear hBe
 obtain ⟨c3,hRf⟩:=hRf
 have bm:=below_a1 w3 (.cells (madeCells #[.slice none 0 0] n) 92)
 have hsm:(w3.alloc (.cells (madeCells #[.slice none 0 0] n) 92)).heap.size = w3.heap.size + 1:=World.size_alloc _ _
 have hKn:OBRows (w3.alloc (.cells (madeCells #[.slice none 0 0] n) 92)) (fun b=>b = w3.heap.size) (.slice (some ⟨w3.heap.size,0,none⟩) n n) (List.replicate n []):=OSl.made w3 n (fun _=>⟨_,rfl,OSl.nil _ _ _ _ _ _⟩) (by omega)
 have hd3:=b3.size
 obtain ⟨c4,hR4,_⟩:=hRf.setK (S:=fun b=>b = w3.heap.size) (w':=w3.alloc (.cells (madeCells #[.slice none 0 0] n) 92)) (fun b hb=>bm.block b hb.1) (by omega) hKn (fun b hb=>by
  have hb:b = w3.heap.size:=hb
  exact ⟨Or.inr (Classical.byContradiction fun hn=>by have:=(hRf.b b hn).2;omega),by omega,by omega,by omega⟩)
 have hb4:=b3.trans (bm.mono hd3)
 have hR4:RfAt w.heap.size (w3.alloc (.cells (madeCells #[.slice none 0 0] n) 92)) B c4 _ _ _ _ _ _ (Rf.begin X n):=hR4
 go_upto_region 10 with fail
 clear hKn bm hRf
 generalize w3.alloc (.cells (madeCells #[.slice none 0 0] n) 92) = w4 at *
 obtain ⟨Kb,hKb⟩:∃ B,w3.heap.size = B:=⟨_,rfl⟩
 simp only [hKb] at hR4 hsm ⊢
 replace hsm:=Lib.hid hsm
 have hBoth:=hBoth.out
 unfold markS at hBoth
 rw [hXe.out] at hBoth
 have hR:=hR.out
 rw [hXe.out] at hR
 replace hR:=Lib.hid hR
 replace hBoth:=Lib.hid hBoth
 go_wp2_with fail
 go_loopw [11,12,14] (fun sv av i wr=>∃ (k:Nat) (c:Nat → Nat) (gv nv wv:Value),k ≤ acts.length ∧ i = .int .i64 k ∧ RfAt w.heap.size wr B c gv nv wv sv av (.slice (some ⟨Kb,0,none⟩) n n) ((Rf.begin X n).run (acts.take k)) ∧ Below w.heap.size w wr) (fun _ _ i _=>acts.length - (intOf i).toNat)
 case atStart=>exact ⟨0,c4,_,_,_,by omega,rfl,hR4,hb4⟩
 case round =>
  clear hR4 hb4
  obtain ⟨k,c,gv,nv,wv,hk,rfl,h,hb⟩:=hrel
  by_cases hlt:k < acts.length
  ·obtain ⟨ab,ao,acap',e,_,hbox,hfit⟩:=(ha.below hb).at hlt
   cases e
   have hsu:=Rf.run_succ (r:=Rf.begin X n) hlt
   obtain ⟨x,hx⟩:∃ x,acts.getD k Ac.zero = x:=⟨_,rfl⟩
   rw [hx] at hbox hfit hsu
   clear hx
   have hBj:=hBoth.out (acts.take k)
   have hlen:=Sc.run_len (acts.take k) (Sc.begin X)
   have hlen2:(acts.take k).length = k:=by rw [List.length_take];omega
   have hlen0:(Sc.begin X).sent.length = 0:=rfl
   generalize (Rf.begin X n).run (acts.take k) = q at *
   generalize (Sc.begin X).run (acts.take k) = s at *
   obtain ⟨a0,a1,a2,a3⟩:=hbox
   have bx:=below_a1 wr (.cells #[.int .i64 x.kind, .int .i64 x.one, .int .i64 x.two, .string x.body] 23)
   have hM:=AcBox.new wr x 23
   have hcC:c wr.heap.size = 0:=Classical.byContradiction fun hn=>by have:=(h.b _ hn).2;omega
   have hMl:wr.heap.size < (wr.alloc (.cells #[.int .i64 x.kind, .int .i64 x.one, .int .i64 x.two, .string x.body] 23)).heap.size:=by rw [World.size_alloc];omega
   have h1:=h.below bx
   have hb1:=hb.trans (bx.mono hb.size)
   replace hsu:=Lib.hid hsu
   go_upto_region 14 with fail
   clear h hb a0 a1 a2 a3 bx
   generalize wr.alloc (.cells #[.int .i64 x.kind, .int .i64 x.one, .int .i64 x.two, .string x.body] 23) = w5 at *
   obtain ⟨C,hC⟩:∃ C,wr.heap.size = C:=⟨_,rfl⟩
   rw [hC] at hM hMl hcC
   simp only [hC] at ⊢
   clear hC
   obtain ⟨m0,m1,m2,m3⟩:=id hM
   simp only [Nat.zero_add] at m0 m1 m2 m3
   by_cases h4:x.kind = 4
   ·have q4:(x.kind == 4) = true:=by simpa using h4
    have hsu2:=hsu.out
    unfold Rf.act at hsu2
    rw [if_pos h4] at hsu2
    rw [← hsu2] at h1
    replace h4:=Lib.hid h4
    clear hsu2
    go_wp2_with fail
    go_roundw
    case rel=>exact ⟨k + 1,c,_,_,_,by omega,by go_num,h1,hb1⟩
    case measure=>simp [intOf];omega
   have q4:(x.kind == 4) = false:=by simpa using h4
   have hsu2:=hsu.out
   unfold Rf.act Rf.step at hsu2
   rw [if_neg h4,hBj.X] at hsu2
   obtain ⟨pg,pn,pw⟩:=h1.X.parts
   obtain ⟨_,gA,gC,rfl,_⟩:=pg.open
   obtain ⟨_,nA,nC,rfl,_⟩:=pn.form
   obtain ⟨_,wA,wC,rfl,_⟩:=pw.form
   clear pg pn pw
   have hDo:=DoOf_c h1.X.world hfit (fun e=>absurd e h4)
   have hXs:=hBj.X
   have hW:=fun h0:(doF q.X x).1 = 0=>ways h4 h0
   rw [hXs] at hW
   obtain ⟨r,hrd⟩:∃ r,doF s.X x = r:=⟨_,rfl⟩
   have hDd:doF q.X x = r:=by rw [hXs];exact hrd
   rw [hDd] at hDo
   clear hDd
   rw [hrd] at hsu2 hW
   clear hrd
   unfold Ac.val at hDo
   replace hW:=Lib.hid hW
   replace h4:=Lib.hid h4
   replace hsu2:=Lib.hid hsu2
   replace hXs:=Lib.hid hXs
   obtain ⟨_,x0,x1,x2⟩:=id h1.box
   go_wp2_with fail
   refine hDo.mono ?_
   clear hDo
   rintro e w6 ⟨gv6,nv6,wv6,S6,rfl,hO6,hS6,b6⟩
   obtain ⟨pg,pn,pw⟩:=hO6.parts
   obtain ⟨_,ga6,gcap6,rfl,_⟩:=pg.open
   obtain ⟨_,na6,ncap6,rfl,_⟩:=pn.form
   obtain ⟨_,wa6,wcap6,rfl,_⟩:=pw.form
   clear pg pn pw
   have hR6:=OBox.new w6 37 (.slice ga6 r.2.groups.length gcap6) (.slice na6 r.2.nodes.length ncap6) (.slice wa6 r.2.wires.length wcap6)
   have bx6:=below_a1 w6 (.cells #[.slice ga6 r.2.groups.length gcap6, .slice na6 r.2.nodes.length ncap6, .slice wa6 r.2.wires.length wcap6] 37)
   have hW6:=hO6.world.below bx6
   have hO7:=hO6.keep (fun b hb=>bx6.block b (hS6 b hb).2)
   have hs65:=b6.size
   have hs76:=bx6.size
   have b57:=below_trans b6 bx6
   have h7:=h1.below b57
   have hM7:=hM.below b57 hMl
   have hM7l:=Nat.lt_of_lt_of_le hMl b57.size
   have hb7:=hb1.trans (b57.mono hb1.size)
   have hcD:∀ b,c b ≠ 0 → b < w5.heap.size:=fun b hb=>(h1.b b hb).2
   clear x0 x1 x2 m0 m1 m2 m3 hO6 bx6 b6
   by_cases h0:r.1 = 0
   rotate_left
   ·have q5:(r.1 != 0) = true:=by simpa using h0
    have hsu3:=hsu2.out
    rw [if_neg h0] at hsu3
    rw [← hsu3] at h7
    replace h0:=Lib.hid h0
    clear hsu3
    go_upto_region 16 with fail
    generalize w6.alloc (.cells #[.slice ga6 r.2.groups.length gcap6, .slice na6 r.2.nodes.length ncap6, .slice wa6 r.2.wires.length wcap6] 37) = w7 at *
    go_wp2_with fail
    go_roundw
    case rel=>exact ⟨k + 1,c,_,_,_,by omega,by go_num,h7,hb7⟩
    case measure=>simp [intOf];omega
   have q5:(r.1 != 0) = false:=by simpa using h0
   have hsu3:=hsu2.out
   rw [if_pos h0] at hsu3
   have hw:=hW.out h0
   replace h0:=Lib.hid h0
   clear hW hsu2
   obtain ⟨m0,m1,m2,m3⟩:=id hM7
   simp only [Nat.zero_add] at m0 m1 m2 m3
   go_upto_region 17 with fail
   generalize w6.alloc (.cells #[.slice ga6 r.2.groups.length gcap6, .slice na6 r.2.nodes.length ncap6, .slice wa6 r.2.wires.length wcap6] 37) = w7 at *
   obtain ⟨E,hE⟩:∃ B,w6.heap.size = B:=⟨_,rfl⟩
   simp only [hE] at hR6 ⊢
   have hS7:∀ b,S6 b → w5.heap.size ≤ b ∧ b < w7.heap.size ∧ b ≠ E:=fun b hb=>by have:=hS6 b hb;omega
   have hEs:w5.heap.size ≤ E:=by omega
   clear hE hS6
   by_cases hk3:x.kind = 3
   ·have q6:(x.kind == 3) = true:=by simpa using hk3
    rw [if_pos hk3] at hsu3
    cases hw with
    | send n2 k3 e1 hS=>exact absurd hk3 (by omega)
    | move a b m k3 e1 e2 hM2 =>
     obtain ⟨l,hl,_⟩:=hM2.first
     obtain ⟨ha',hb',_⟩:=hM2.at_
     rw [firstW_mv e1 e2 hM2,e2,Int.toNat_natCast] at hsu3
     have haw:a < q.X.wires.length:=by rw [hXs.out,hBj.inv.right.nw];exact ha'
     have hbr:b < (q.X.wires.getD a []).length:=by rw [hXs.out,hBj.inv.right.row a ha'];exact hb'
     have hbk:b < q.known.length:=by rw [hBj.lq];exact hb'
     have hrl:(q.known.getD b []).length = q.all.length:=by rw [hBj.rk b hb',hBj.all]
     have hl':(q.X.wires.getD a []).getD b [] = m :: l:=by rw [hXs.out];exact hl
     obtain ⟨_,_,hWr⟩:=h7.X.parts
     obtain ⟨bw,ow,cw,u1,e5,_,r1,hu1⟩:=hWr.row haw
     cases e5
     obtain ⟨row,HR⟩:∃ row,q.X.wires.getD a [] = row:=⟨_,rfl⟩
     rw [HR] at hbr hu1 hl'
     clear HR hl hWr
     obtain ⟨b2,o2,c2,v2,e6,_,t1,hI2⟩:=hu1.at hbr
     cases e6
     rw [hl'] at hI2
     obtain ⟨_,am,cm,rfl,_,hcm⟩:=hI2.open
     obtain ⟨bm,om,rfl,hcc⟩:=hcm (by simp)
     obtain ⟨n0,n1,n2,n3,n4⟩:=hcc 0 (by simp)
     have hm0:(m :: l).getD 0 M.zero = m:=rfl
     rw [hm0] at n0 n1 n2 n3 n4
     simp only [Nat.zero_mul,Nat.add_zero] at n0 n1 n2 n3 n4
     clear hcm hcc hI2 hu1 hm0
     rw [e1] at m1
     rw [e2] at m2
     obtain ⟨_,x0,x1,x2⟩:=id h7.box
     have hsu3':=hsu3
     replace hk3:=Lib.hid hk3
     clear k3 hsu3
     go_upto_region 18 with fail
     have hSB:∀ o,Below w7.heap.size w7 o → o.cell? ⟨B,2,none⟩ = some (.slice (some ⟨bw,ow,none⟩) q.X.wires.length wC) ∧ o.cell? ⟨bw,ow + a,none⟩ = some (.slice (some ⟨b2,o2,none⟩) row.length c2) ∧
       o.cell? ⟨b2,o2 + b,none⟩ = some (.slice (some ⟨bm,om,none⟩) (m :: l).length cm) ∧ o.cell? ⟨bm,om,none⟩ = some (.int .i64 m.src) ∧ o.cell? ⟨bm,om + 1,none⟩ = some (.int .i64 m.grp) ∧ o.cell? ⟨bm,om + 2,none⟩ = some (.int .i64 m.stamp) ∧ o.cell? ⟨bm,om + 3,none⟩ = some (.bool m.null) ∧ o.cell? ⟨bm,om + 4,none⟩ = some (.string m.body) ∧
       o.cell? ⟨C,1,none⟩ = some (.int .i64 (a:Int)) ∧ o.cell? ⟨C,2,none⟩ = some (.int .i64 (b:Int)):=fun o k =>
      ⟨(k.cell (cell_lt x2)).trans x2,(k.cell (cell_lt r1)).trans r1,(k.cell (cell_lt t1)).trans t1,(k.cell (cell_lt n0)).trans n0,(k.cell (cell_lt n1)).trans n1,(k.cell (cell_lt n2)).trans n2,(k.cell (cell_lt n3)).trans n3,(k.cell (cell_lt n4)).trans n4,(k.cell (cell_lt m1)).trans m1,(k.cell (cell_lt m2)).trans m2⟩
     refine wp_region_N (fun o=>o.cell? ⟨B,2,none⟩ = some (.slice (some ⟨bw,ow,none⟩) q.X.wires.length wC) ∧ o.cell? ⟨bw,ow + a,none⟩ = some (.slice (some ⟨b2,o2,none⟩) row.length c2) ∧
       o.cell? ⟨b2,o2 + b,none⟩ = some (.slice (some ⟨bm,om,none⟩) (m :: l).length cm) ∧ o.cell? ⟨bm,om,none⟩ = some (.int .i64 m.src) ∧ o.cell? ⟨bm,om + 1,none⟩ = some (.int .i64 m.grp) ∧ o.cell? ⟨bm,om + 2,none⟩ = some (.int .i64 m.stamp) ∧ o.cell? ⟨bm,om + 3,none⟩ = some (.bool m.null) ∧ o.cell? ⟨bm,om + 4,none⟩ = some (.string m.body) ∧
       o.cell? ⟨C,1,none⟩ = some (.int .i64 (a:Int)) ∧ o.cell? ⟨C,2,none⟩ = some (.int .i64 (b:Int))) 13 14 rfl (by kernel_rfl) (hSB _ (below_drewN w7 1)) (fun hSw=>?_)
     refine tk 0 ?_ rfl rfl (by kernel_rfl) (.inl ⟨by rfl, ?_⟩) hSw ?_
     rotate_left
     ·rintro w ⟨s0,s1,s2,s3,s4,s5,s6,s7,s8,s9⟩;go_simp;try with_reducible rfl
     simp only [tkp,tkz,tks]
     refine tk 1 ?_ rfl rfl (by kernel_rfl) (.inl ⟨by rfl, ?_⟩) hSw ?_
     rotate_left
     ·rintro w ⟨s0,s1,s2,s3,s4,s5,s6,s7,s8,s9⟩;go_simp;try with_reducible rfl
     simp only [tkp,tkz,tks]
     refine tk 2 ?_ rfl rfl (by kernel_rfl) (.inl ⟨by rfl, ?_⟩) hSw ?_
     rotate_left
     ·rintro w ⟨s0,s1,s2,s3,s4,s5,s6,s7,s8,s9⟩;go_simp;try with_reducible rfl
     simp only [tkp,tkz,tks]
     refine tk 3 ?_ rfl rfl (by kernel_rfl) (.inl ⟨by rfl, ?_⟩) hSw ?_
     rotate_left
     ·rintro w ⟨s0,s1,s2,s3,s4,s5,s6,s7,s8,s9⟩;go_simp;try with_reducible rfl
     simp only [tkp,tkz,tks]
     refine tk 4 ?_ rfl rfl (by kernel_rfl) (.inl ⟨by rfl, ?_⟩) hSw ?_
     rotate_left
     ·rintro w ⟨s0,s1,s2,s3,s4,s5,s6,s7,s8,s9⟩;go_simp;try with_reducible rfl
     simp only [tkp,tkz,tks]
     refine tk 5 ?_ rfl rfl (by kernel_rfl) (.inl ⟨by rfl, ?_⟩) hSw ?_
     rotate_left
     ·rintro w ⟨s0,s1,s2,s3,s4,s5,s6,s7,s8,s9⟩;go_simp;try with_reducible rfl
     simp only [tkp,tkz,tks]
     refine tk 6 ?_ rfl rfl (by kernel_rfl) (.inl ⟨by rfl, ?_⟩) hSw ?_
     rotate_left
     ·rintro w ⟨s0,s1,s2,s3,s4,s5,s6,s7,s8,s9⟩;go_simp;try with_reducible rfl
     simp only [tkp,tkz,tks]
     refine tk 7 ?_ rfl rfl (by kernel_rfl) (.inl ⟨by rfl, ?_⟩) hSw ?_
     rotate_left
     ·rintro w ⟨s0,s1,s2,s3,s4,s5,s6,s7,s8,s9⟩;go_simp;try with_reducible rfl
     simp only [tkp,tkz,tks]
     refine tk 8 ?_ rfl rfl (by kernel_rfl) (.inl ⟨by rfl, ?_⟩) hSw ?_
     rotate_left
     ·rintro w ⟨s0,s1,s2,s3,s4,s5,s6,s7,s8,s9⟩;go_simp;try with_reducible rfl
     simp only [tkp,tkz,tks]
     refine tk 9 ?_ rfl rfl (by kernel_rfl) (.inl ⟨by rfl, ?_⟩) hSw ?_
     rotate_left
     ·rintro w ⟨s0,s1,s2,s3,s4,s5,s6,s7,s8,s9⟩;go_simp;try with_reducible rfl
     simp only [tkp,tkz,tks]
     refine tk 10 ?_ rfl rfl (by kernel_rfl) (.inl ⟨by rfl, ?_⟩) hSw ?_
     rotate_left
     ·rintro w ⟨s0,s1,s2,s3,s4,s5,s6,s7,s8,s9⟩;go_simp;try with_reducible rfl
     simp only [tkp,tkz,tks]
     refine tk 11 ?_ rfl rfl (by kernel_rfl) (.inl ⟨by rfl, ?_⟩) hSw ?_
     rotate_left
     ·rintro w ⟨s0,s1,s2,s3,s4,s5,s6,s7,s8,s9⟩;go_simp;try with_reducible rfl
     simp only [tkp,tkz,tks]
     refine N_one' (i:=12) (by kernel_rfl) rfl ?_
     go_wp2_with fail
     have b8:Below w7.heap.size w7 (w7.alloc (.cells #[.int .i64 0, .int .i64 0, .int .i64 0, .bool false, .string ⟨#[]⟩] 62)).drew:=below_trans (below_a1 w7 _) (below_drewN _ 1)
     have hF8:BlkIs (w7.alloc (.cells #[.int .i64 0, .int .i64 0, .int .i64 0, .bool false, .string ⟨#[]⟩] 62)).drew w7.heap.size 62 5:=⟨_,heap_alloc_new w7 _,rfl⟩
     have hFz:=MsgBox.new w7 M.zero 62
     have hFz:MsgBox (w7.alloc (.cells #[.int .i64 0, .int .i64 0, .int .i64 0, .bool false, .string ⟨#[]⟩] 62)).drew w7.heap.size M.zero:=hFz
     refine QK_normal ⟨?_, ?_⟩
     ·first | exact fun _=>hSB _ b8 | exact hSB _ b8
     generalize (w7.alloc (.cells #[.int .i64 0, .int .i64 0, .int .i64 0, .bool false, .string ⟨#[]⟩] 62)).drew = w8 at *
     obtain ⟨F,hF⟩:∃ F,w7.heap.size = F:=⟨_,rfl⟩
     simp only [hF] at hF8 hFz ⊢
     replace hF:=Lib.hid hF
     refine N_rest 13 1 (Nat.le_refl _) rfl (by kernel_rfl) ?_
     simp only [List.drop_succ_cons,List.drop_zero]
     clear hSw hSB x0 x1 x2 r1 t1 n0 n1 n2 n3 n4
     obtain ⟨z0,z1,z2,z3,z4⟩:=hFz
     have f0:=hF8.frozen 0
     have f1:=hF8.frozen 1
     have f2:=hF8.frozen 2
     have f3:=hF8.frozen 3
     have f4:=hF8.frozen 4
     have b9:Below w7.heap.size w7 (((((w8.setCell ⟨F,0,none⟩ (.int .i64 m.src)).setCell ⟨F,1,none⟩ (.int .i64 m.grp)).setCell ⟨F,2,none⟩ (.int .i64 m.stamp)).setCell ⟨F,3,none⟩ (.bool m.null)).setCell ⟨F,4,none⟩ (.string m.body)):=below_setCell (below_setCell (below_setCell (below_setCell (below_setCell b8 (Nat.le_of_eq hF.out) _) (Nat.le_of_eq hF.out) _) (Nat.le_of_eq hF.out) _) (Nat.le_of_eq hF.out) _) (Nat.le_of_eq hF.out) _
     obtain ⟨hF9,g0,g1,g2,g3,g4⟩:=five_put hF8 (.int .i64 m.src) (.int .i64 m.grp) (.int .i64 m.stamp) (.bool m.null) (.string m.body)
     go_upto_region 19 with fail
     clear z0 z1 z2 z3 z4 f0 f1 f2 f3 f4 hF8 b8
     generalize ((((w8.setCell ⟨F,0,none⟩ (.int .i64 m.src)).setCell ⟨F,1,none⟩ (.int .i64 m.grp)).setCell ⟨F,2,none⟩ (.int .i64 m.stamp)).setCell ⟨F,3,none⟩ (.bool m.null)).setCell ⟨F,4,none⟩ (.string m.body) = w9 at *
     have hFl:=cell_lt g0
     have hcz:∀ d,w5.heap.size ≤ d → c d = 0:=fun d hd=>Classical.byContradiction fun hn=>by have:=hcD d hn;omega
     have hFc:¬ c F = 4:=fun e=>by have:=hcz F (by have:=hF.out;omega);omega
     have h9:=h7.below b9
     obtain ⟨row,hrow⟩:∃ row,q.known.getD b [] = row:=⟨_,rfl⟩
     unfold Rf.move at hsu3'
     rw [hrow] at hsu3' hrl
     have hset:q.known.set b row = q.known:=by rw [← hrow];exact set_getD_self hbk
     have hK9:=h9.K
     rw [← hset] at hK9
     replace hset:=Lib.hid hset
     replace hrow:=Lib.hid hrow
     obtain ⟨ua,uc,rfl,_,_⟩:=OSl.form h9.S
     replace hsu3':=Lib.hid hsu3'
     have hM9:=hM7.below b9 hM7l
     have hCc:¬ c C = 4:=by omega
     go_upto_region 20 with fail
     go_loopw [19] (fun i wr=>∃ j:Nat,j ≤ q.all.length ∧ i = .int .i64 j ∧ OBRows wr (fun d=>c d = 4) (.slice (some ⟨Kb,0,none⟩) n n) (q.known.set b (markR q.all m j row)) ∧ Save (fun d=>c d = 4) w9 wr) (fun i _=>q.all.length - (intOf i).toNat)
     case atStart=>exact ⟨0,by omega,rfl,by rw [markR_zero];exact hK9,Save.refl _ _⟩
     case round =>
      obtain ⟨j,hj,rfl,hK,hv⟩:=hrel
      obtain ⟨gK,cK,T,u,eK,_,hgc,_,k0,hOb,hT,back,_⟩:=hK.row_at (i:=b) (by rw [List.length_set];exact hbk)
      simp only [List.length_set] at eK
      obtain ⟨eg,en,ec⟩:Kb = gK ∧ n = q.known.length ∧ n = cK:=by simpa using eK
      subst eg ec
      rw [getD_setM hbk,if_pos rfl] at hOb
      have hn1:decide ((b:Int) < 0) = false:=by simp
      have hn2:decide (n ≤ b) = false:=by simp;omega
      clear en
      have hTl:∀ d,T d → d < wr.heap.size:=fun d hd=>Nat.lt_of_lt_of_le (h9.b d (by have:=(hT d hd).1;omega)).2 hv.size
      have hSl:∀ d,c d = 4 → d < wr.heap.size:=fun d hd=>Nat.lt_of_lt_of_le (h9.b d (by omega)).2 hv.size
      obtain ⟨_,x0,x1,x2⟩:=id (h9.box.keep (hv.block B h9.lt (by rw [h9.cB];omega)))
      have g0:=hv.cell g0 hFc
      have g1:=hv.cell g1 hFc
      have g2:=hv.cell g2 hFc
      have g3:=hv.cell g3 hFc
      have g4:=hv.cell g4 hFc
      obtain ⟨_,_,v2,_⟩:=id hM9
      simp only [Nat.zero_add] at v2
      rw [e2] at v2
      have v2:=hv.cell v2 hCc
      by_cases hjl:j < q.all.length
      ·have hMs:=OMsgs.msgs (h9.S.keep (hv.lies (T:=fun d=>c d = 2) (fun d hd=>⟨(h9.b d (by have hd:c d = 2:=hd;omega)).2,by have hd:c d = 2:=hd;omega⟩)))
       obtain ⟨_,_,_,e9,_,hcc⟩:=hMs.open
       cases e9
       obtain ⟨bl,ol,rfl,hun⟩:=hcc (by intro e;rw [e] at hjl;simp at hjl)
       obtain ⟨d0,d1,d2,d3,d4⟩:=hun j hjl
       have hms:=@markR_succ q.all m row j (by omega)
       obtain ⟨d,HD⟩:∃ d,q.all.getD j M.zero = d:=⟨_,rfl⟩
       rw [HD] at d0 d1 d2 d3 d4 hms
       clear HD hcc hun hMs
       have hj1:decide ((j:Int) < 0) = false:=by simp
       have hj2:decide (q.all.length ≤ j) = false:=by simp;omega
       have hj3:decide (row.length ≤ j) = false:=by simp;omega
       have hj4:decide ((j:Int) < (q.all.length:Int)) = true:=decide_eq_true (by omega)
       have heq:=eql_msg d m
       have hjr:j < (markR q.all m j row).length:=by rw [markR_len];omega
       obtain ⟨gR,cR,eR,_,hgR,hbR,kR,backR⟩:=hOb.bool_at hjr
       have fR:=hbR.frozen j
       rw [markR_len] at eR
       have hgRc:c gR = 4:=(hT gR hgR).1
       replace back:=Lib.hid back
       replace backR:=Lib.hid backR
       replace hms:=Lib.hid hms
       cases hq:eqM d m
       ·rw [hq] at heq
        replace hq:=Lib.hid hq
        go_wp2_with fail
        go_quiet (fail)
        go_wp2_with fail
        go_roundw
        case rel =>
         have e:=hms.out
         rw [hq.out,if_neg (by simp)] at e
         exact ⟨j + 1,by omega,by go_num,by rw [e];exact hK.keep (fun d hd=>(below_drewN wr _).block d (hSl d hd)),hv.trans (Save.of_below (S:=fun d=>c d = 4) (below_drewN wr _) (fun d h1 h2=>by omega)) (fun _ h _=>h)⟩
        case measure=>simp [intOf];omega
       ·rw [hq] at heq
        replace hq:=Lib.hid hq
        go_wp2_with fail
        go_quiet (fail)
        go_wp2_with fail
        go_roundw
        case rel =>
         have e:=hms.out
         rw [hq.out,if_pos rfl] at e
         have hO2:=backR.out (wr.drewN nq) true (fun d hd=>(below_drewN wr nq).block d (hTl d hd))
         have hK2:=back.out ((wr.drewN nq).setCell ⟨gR,j,none⟩ (.bool true)) _ (fun d hd=>(Go.Deep.blk_setCell_other _ _ _ _ (fun h=>hd.2 (by rw [h];exact hgR))).trans ((below_drewN wr nq).block d (hSl d hd.1))) hO2
         rw [List.set_set, ← e] at hK2
         exact ⟨j + 1,by omega,by go_num,hK2,(hv.trans (Save.of_below (S:=fun d=>c d = 4) (below_drewN wr nq) (fun d h1 h2=>by omega)) (fun _ h _=>h)).trans (T:=fun d=>c d = 4) ⟨rfl,rfl,rfl,by rw [Go.Deep.nblk_setCell];exact Nat.le_refl _,fun d _ hn=>Go.Deep.blk_setCell_other _ _ _ _ (fun h=>hn (show c d = 4 from (congrArg c h).trans hgRc))⟩ (fun _ h _=>h)⟩
        case measure=>simp [intOf];omega
      ·obtain rfl:j = q.all.length:=by omega
       have hj4:decide ((q.all.length:Int) < (q.all.length:Int)) = false:=decide_eq_false (by omega)
       clear hOb back k0 hT x0 x1 x2 g0 g1 g2 g3 g4 v2
       have h8:=h9.learned hK hv
       have hs9:=b9.size
       have hs10:=hv.size
       have hQ9:=(hR6.keep (b9.block E hR6.lt)).keep (hv.block E (Nat.lt_of_lt_of_le hR6.lt hs9) (by rw [hcz E (by omega)];omega))
       have hO9:=(hO7.keep (fun d hd=>b9.block d (hS7 d hd).2.1)).keep (w':=wr) (fun d hd=>hv.block d (by have:=(hS7 d hd).2.1;omega) (by rw [hcz d (hS7 d hd).1];omega))
       have hS9:∀ d,S6 d → c d = 0 ∧ w.heap.size ≤ d ∧ d < wr.heap.size ∧ d ≠ B:=fun d hd=>by
        have k1:=hS7 d hd
        have k2:=hb1.size
        have k3:=h1.lt
        exact ⟨hcz d k1.1,by omega,by omega,by omega⟩
       have hb8:Below w.heap.size w wr:=hb7.trans ((b9.mono (by have:=hb7.size;omega)).trans (hv.below (fun d hd=>(h9.b d (by have hd:c d = 4:=hd;omega)).1) (by have:=hb7.size;omega)))
       obtain ⟨_,y0,y1,y2⟩:=id hQ9
       have f0:=h8.box.1.frozen 0
       have f1:=h8.box.1.frozen 1
       have f2:=h8.box.1.frozen 2
       obtain ⟨_,z0,z1,z2⟩:=id h8.box
       obtain ⟨c10,h10⟩:=h8.setX hO9 hS9
       have hb10:=set3_below (u:=(.slice ga6 r.2.groups.length gcap6)) (v:=(.slice na6 r.2.nodes.length ncap6)) (x:=(.slice wa6 r.2.wires.length wcap6)) hb8 h8.B0
       replace h10:=Lib.hid h10
       replace hb10:=Lib.hid hb10
       clear h8 hO9 hQ9 hb8
       go_wp2_with fail
       go_roundw
       case rel=>exact ⟨k + 1,c10,_,_,_,by omega,by go_num,by rw [hsu3'.out];exact h10.out,hb10.out⟩
       case measure=>simp [intOf];omega
   ·have q6:(x.kind == 3) = false:=by simpa using hk3
    rw [if_neg hk3] at hsu3
    cases hw with
    | move a b m k3 e1 e2 hM2=>exact absurd k3 hk3
    | send n2 k3 e1 hS =>
     have hn:=hS.at_
     have hnY:n2 < r.2.nodes.length:=by rw [hS.like.len];exact hn
     have hnk:n2 < q.known.length:=by rw [hBj.lq];exact hn
     have hmf:msgOf x r.2 = ⟨x.one,x.two,(r.2.nodes.getD n2 N.zero).clock,x.kind == 2,if x.kind = 2 then ByteArray.empty else x.body⟩:=by
      unfold msgOf nd
      rw [e1,Int.toNat_natCast]
     have hfits:(msgOf x r.2).fits:=by
      have hI:=(hO7.node_at hnY)
      obtain ⟨_,_,_,_,_,_,_,_,_,_,_,_,_,_,_,_,_,hI,_⟩:=hI
      rw [hmf]
      refine ⟨hfit.2.1,hfit.2.2.1,hI, ?_⟩
      show (if x.kind = 2 then ByteArray.empty else x.body).size ≤ _
      split
      ·exact Nat.zero_le _
      ·exact hfit.2.2.2
     rw [show x.one.toNat = n2 by omega] at hsu3
     obtain ⟨gN,capN,_,_,_,_,_,_,e5,_,_,_,_,k0,_⟩:=hO7.node_at hnY
     cases e5
     obtain ⟨ck,hck⟩:∃ ck,(r.2.nodes.getD n2 N.zero).clock = ck:=⟨_,rfl⟩
     rw [hck] at k0 hmf
     clear hck
     obtain ⟨m,hm⟩:∃ m,msgOf x r.2 = m:=⟨_,rfl⟩
     rw [hm] at hmf hfits hsu3
     rw [e1] at hmf
     replace hm:=Lib.hid hm
     obtain ⟨m0,m1,m2,m3⟩:=id hM7
     simp only [Nat.zero_add] at m0 m1 m2 m3
     rw [e1] at m1
     replace e1:=Lib.hid e1
     obtain ⟨_,y0,y1,y2⟩:=id hR6
     replace hmf:=Lib.hid hmf
     replace hfits:=Lib.hid hfits
     have u1:decide ((n2:Int) < 0) = false:=by simp
     have u2:decide (r.2.nodes.length ≤ n2) = false:=by simp;omega
     go_upto_region 24 with fail
     have hSB:∀ o,Below w7.heap.size w7 o → o.cell? ⟨C,0,none⟩ = some (.int .i64 x.kind) ∧ o.cell? ⟨C,1,none⟩ = some (.int .i64 (n2:Int)) ∧ o.cell? ⟨C,2,none⟩ = some (.int .i64 x.two) ∧ o.cell? ⟨E,1,none⟩ = some (.slice (some ⟨gN,0,none⟩) r.2.nodes.length ncap6) ∧ o.cell? ⟨gN,n2 * 4,none⟩ = some (.int .i64 ck):=fun o k =>
      ⟨(k.cell (cell_lt m0)).trans m0,(k.cell (cell_lt m1)).trans m1,(k.cell (cell_lt m2)).trans m2,(k.cell (cell_lt y1)).trans y1,(k.cell (cell_lt k0)).trans k0⟩
     refine wp_region_N (fun o=>o.cell? ⟨C,0,none⟩ = some (.int .i64 x.kind) ∧ o.cell? ⟨C,1,none⟩ = some (.int .i64 (n2:Int)) ∧ o.cell? ⟨C,2,none⟩ = some (.int .i64 x.two) ∧ o.cell? ⟨E,1,none⟩ = some (.slice (some ⟨gN,0,none⟩) r.2.nodes.length ncap6) ∧ o.cell? ⟨gN,n2 * 4,none⟩ = some (.int .i64 ck)) 16 17 rfl (by kernel_rfl) (hSB _ (below_drewN w7 1)) (fun hSw=>?_)
     refine tk 0 ?_ rfl rfl (by kernel_rfl) (.inl ⟨by rfl, ?_⟩) hSw ?_
     rotate_left
     ·rintro w ⟨s0,s1,s2,s3,s4⟩;go_simp;try with_reducible rfl
     simp only [tkp,tkz,tks]
     refine tk 1 ?_ rfl rfl (by kernel_rfl) (.inl ⟨by rfl, ?_⟩) hSw ?_
     rotate_left
     ·rintro w ⟨s0,s1,s2,s3,s4⟩;go_simp;try with_reducible rfl
     simp only [tkp,tkz,tks]
     refine tk 2 ?_ rfl rfl (by kernel_rfl) (.inl ⟨by rfl, ?_⟩) hSw ?_
     rotate_left
     ·rintro w ⟨s0,s1,s2,s3,s4⟩;go_simp;try with_reducible rfl
     simp only [tkp,tkz,tks]
     refine tk 3 ?_ rfl rfl (by kernel_rfl) (.inl ⟨by rfl, ?_⟩) hSw ?_
     rotate_left
     ·rintro w ⟨s0,s1,s2,s3,s4⟩;go_simp;try with_reducible rfl
     simp only [tkp,tkz,tks]
     refine tk 4 ?_ rfl rfl (by kernel_rfl) (.inl ⟨by rfl, ?_⟩) hSw ?_
     rotate_left
     ·rintro w ⟨s0,s1,s2,s3,s4⟩;go_simp;try with_reducible rfl
     simp only [tkp,tkz,tks]
     refine tk 5 ?_ rfl rfl (by kernel_rfl) (.inl ⟨by rfl, ?_⟩) hSw ?_
     rotate_left
     ·rintro w ⟨s0,s1,s2,s3,s4⟩;go_simp;try with_reducible rfl
     simp only [tkp,tkz,tks]
     refine tk 6 ?_ rfl rfl (by kernel_rfl) (.inl ⟨by rfl, ?_⟩) hSw ?_
     rotate_left
     ·rintro w ⟨s0,s1,s2,s3,s4⟩;go_simp;try with_reducible rfl
     simp only [tkp,tkz,tks]
     refine tk 7 ?_ rfl rfl (by kernel_rfl) (.inl ⟨by rfl, ?_⟩) hSw ?_
     rotate_left
     ·rintro w ⟨s0,s1,s2,s3,s4⟩;go_simp;try with_reducible rfl
     simp only [tkp,tkz,tks]
     refine tk 8 ?_ rfl rfl (by kernel_rfl) (.inl ⟨by rfl, ?_⟩) hSw ?_
     rotate_left
     ·rintro w ⟨s0,s1,s2,s3,s4⟩;go_simp;try with_reducible rfl
     simp only [tkp,tkz,tks]
     refine tk 9 ?_ rfl rfl (by kernel_rfl) (.inl ⟨by rfl, ?_⟩) hSw ?_
     rotate_left
     ·rintro w ⟨s0,s1,s2,s3,s4⟩;go_simp;try with_reducible rfl
     simp only [tkp,tkz,tks]
     refine tk 10 ?_ rfl rfl (by kernel_rfl) (.inl ⟨by rfl, ?_⟩) hSw ?_
     rotate_left
     ·rintro w ⟨s0,s1,s2,s3,s4⟩;go_simp;try with_reducible rfl
     simp only [tkp,tkz,tks]
     refine tk 11 ?_ rfl rfl (by kernel_rfl) (.inl ⟨by rfl, ?_⟩) hSw ?_
     rotate_left
     ·rintro w ⟨s0,s1,s2,s3,s4⟩;go_simp;try with_reducible rfl
     simp only [tkp,tkz,tks]
     refine tk 12 ?_ rfl rfl (by kernel_rfl) (.inl ⟨by rfl, ?_⟩) hSw ?_
     rotate_left
     ·rintro w ⟨s0,s1,s2,s3,s4⟩;go_simp;try with_reducible rfl
     simp only [tkp,tkz,tks]
     refine tk 13 ?_ rfl rfl (by kernel_rfl) (.inl ⟨by rfl, ?_⟩) hSw ?_
     rotate_left
     ·rintro w ⟨s0,s1,s2,s3,s4⟩;go_simp;try with_reducible rfl
     simp only [tkp,tkz,tks]
     refine tk 14 ?_ rfl rfl (by kernel_rfl) (.inl ⟨by rfl, ?_⟩) hSw ?_
     rotate_left
     ·rintro w ⟨s0,s1,s2,s3,s4⟩;go_simp;try with_reducible rfl
     simp only [tkp,tkz,tks]
     refine N_one' (i:=15) (by kernel_rfl) rfl ?_
     go_wp2_with fail
     have b4:Below w7.heap.size w7 (w7.alloc (.cells #[.int .i64 0, .int .i64 0, .int .i64 0, .bool false, .string ⟨#[]⟩] 62)).drew:=below_trans (below_a1 w7 _) (below_drewN _ 1)
     have hF4:BlkIs (w7.alloc (.cells #[.int .i64 0, .int .i64 0, .int .i64 0, .bool false, .string ⟨#[]⟩] 62)).drew w7.heap.size 62 5:=⟨_,heap_alloc_new w7 _,rfl⟩
     have hFz:=MsgBox.new w7 M.zero 62
     have hFz:MsgBox (w7.alloc (.cells #[.int .i64 0, .int .i64 0, .int .i64 0, .bool false, .string ⟨#[]⟩] 62)).drew w7.heap.size M.zero:=hFz
     refine QK_normal ⟨?_, ?_⟩
     ·first | exact fun _=>hSB _ b4 | exact hSB _ b4
     generalize (w7.alloc (.cells #[.int .i64 0, .int .i64 0, .int .i64 0, .bool false, .string ⟨#[]⟩] 62)).drew = w8 at *
     obtain ⟨F,hF⟩:∃ F,w7.heap.size = F:=⟨_,rfl⟩
     simp only [hF] at hF4 hFz ⊢
     replace hF:=Lib.hid hF
     refine N_rest 16 1 (Nat.le_refl _) rfl (by kernel_rfl) ?_
     simp only [List.drop_succ_cons,List.drop_zero]
     clear hSw hSB y0 y1 y2 k0 m2
     obtain ⟨z0,z1,z2,z3,z4⟩:=hFz
     have f0:=hF4.frozen 0
     have f1:=hF4.frozen 1
     have f2:=hF4.frozen 2
     have f3:=hF4.frozen 3
     have f4:=hF4.frozen 4
     have b5:Below w7.heap.size w7 (((((w8.setCell ⟨F,0,none⟩ (.int .i64 (n2:Int))).setCell ⟨F,1,none⟩ (.int .i64 x.two)).setCell ⟨F,2,none⟩ (.int .i64 ck)).setCell ⟨F,3,none⟩ (.bool (x.kind == 2))).setCell ⟨F,4,none⟩ (.string ⟨#[]⟩)):=below_setCell (below_setCell (below_setCell (below_setCell (below_setCell b4 (Nat.le_of_eq hF.out) _) (Nat.le_of_eq hF.out) _) (Nat.le_of_eq hF.out) _) (Nat.le_of_eq hF.out) _) (Nat.le_of_eq hF.out) _
     obtain ⟨hF5,g0,g1,g2,g3,g4⟩:=five_put hF4 (.int .i64 (n2:Int)) (.int .i64 x.two) (.int .i64 ck) (.bool (x.kind == 2)) (.string ⟨#[]⟩)
     by_cases k2:x.kind = 2
     ·have q2:(x.kind == 2) = true:=by simpa using k2
      have hmf:=hmf.out
      rw [if_pos k2] at hmf
      replace k2:=Lib.hid k2
      simp only [q2] at hmf b5 hF5 g0 g1 g2 g3 g4 ⊢
      replace hmf:=Lib.hid hmf
      go_upto_region 27 with fail
      generalize ((((w8.setCell ⟨F,0,none⟩ (.int .i64 (n2:Int))).setCell ⟨F,1,none⟩ (.int .i64 x.two)).setCell ⟨F,2,none⟩ (.int .i64 ck)).setCell ⟨F,3,none⟩ (.bool true)).setCell ⟨F,4,none⟩ (.string ⟨#[]⟩) = w9 at *
      have hmf:=hmf.out
      replace g0:w9.cell? ⟨F,0,none⟩ = some (.int .i64 m.src):=by rw [hmf];exact g0
      replace g1:w9.cell? ⟨F,1,none⟩ = some (.int .i64 m.grp):=by rw [hmf];exact g1
      replace g2:w9.cell? ⟨F,2,none⟩ = some (.int .i64 m.stamp):=by rw [hmf];exact g2
      replace g3:w9.cell? ⟨F,3,none⟩ = some (.bool m.null):=by rw [hmf];exact g3
      replace g4:w9.cell? ⟨F,4,none⟩ = some (.string m.body):=by rw [hmf];exact g4
      replace hmf:=Lib.hid hmf
      have b6:=b5
      have hql:q.all.length ≤ 80:=by rw [hBj.all];omega
      have hqa:q.ahead.length ≤ 80:=by rw [hBj.lr];omega
      have hrl:(q.known.getD n2 []).length = q.all.length:=by rw [hBj.rk n2 hn,hBj.all]
      have hrk:∀ j,j < q.known.length → (q.known.getD j []).length ≤ 80:=fun j hj=>by rw [hBj.rk j (by rw [← hBj.lq];exact hj)];rw [hBj.all] at hql;exact hql
      have hmft:=hfits.out
      have hFl:=cell_lt g0
      have hs96:=b6.size
      have h9:=h7.below b6
      have hb9:=hb7.trans (b6.mono hb7.size)
      have hcz:∀ d,w5.heap.size ≤ d → c d = 0:=fun d hd=>Classical.byContradiction fun hn=>by have:=hcD d hn;omega
      obtain ⟨row,hrow⟩:∃ row,q.known.getD n2 [] = row:=⟨_,rfl⟩
      have hsu3':=hsu3
      unfold Rf.send at hsu3'
      rw [hrow] at hsu3' hrl
      have hrl8:row.length ≤ 80:=by omega
      clear hrl
      replace hsu3':=Lib.hid hsu3'
      replace hrow:=Lib.hid hrow
      clear hsu3
      obtain ⟨i0,hi0,hz0,hz1,hz2⟩:=info_parts infoCMsg
      obtain ⟨j0,hj0,jz0,jz1,jz2⟩:=info_parts infoCBool
      obtain ⟨l0,hl0,lz0,lz1,lz2⟩:=info_parts infoCBRow
      have bA:=below_a1 w9 (.cells #[.int .i64 m.src, .int .i64 m.grp, .int .i64 m.stamp, .bool m.null, .string m.body] 62)
      have hA:=h9.below bA
      have hnew:∀ j u,m.cells[j]? = some u → (w9.alloc (.cells #[.int .i64 m.src, .int .i64 m.grp, .int .i64 m.stamp, .bool m.null, .string m.body] 62)).cell? ((⟨w9.heap.size,0,none⟩:Addr).add j) = some u:=cells_new w9 m.cells.toArray 62
      have hcB:=h9.cB
      go_upto_region 28 with (at_builtin;refine wpList_push _ rfl _ _ 50 rfl 62 i0 _ 5 48 Tryz.underlying50 hi0 hz0 hz1 hz2 rfl (by decide) MEl.stays _ rfl (fun b=>c b = 2) q.all hA.S (fun b hb=>(hA.b b (by have hb:c b = 2:=hb;omega)).2) ⟨w9.heap.size,0,none⟩ _ rfl m.cells rfl hnew (by simp [M.cells,Value.oneCell']) (fun _=>False) m ⟨rfl,hmft⟩ (fun _ h=>h.elim) (by omega) (by omega) (by omega) ?_;intro v11 w11 hp;obtain ⟨⟨S11,hO11,hS11⟩,hz11,hL11,hB11,a11,cap11,rfl⟩:=hp)
      have hAs:(w9.alloc (.cells #[.int .i64 m.src, .int .i64 m.grp, .int .i64 m.stamp, .bool m.null, .string m.body] 62)).heap.size = w9.heap.size + 1:=World.size_alloc _ _
      have hk11:∀ b,b < w9.heap.size → c b = 0 → w11.heap[b]? = w9.heap[b]?:=fun b hb h0=>(hL11 b ⟨by omega,by omega⟩).trans (bA.block b hb)
      obtain ⟨c12,h12,hc12⟩:=hA.setS hL11 hz11 hO11 (fun b hb=>by
       have h2:=(hS11 b hb).2
       have h3:=h9.lt
       have h4:=h9.B0
       rcases (hS11 b hb).1 with h1 | h1 | h1
       ·have h1:c b = 2:=h1
        exact ⟨Or.inl h1,fun e=>by rw [e,hcB] at h1;omega,(h9.b b (by omega)).1,h2⟩
       ·exact h1.elim
       ·exact ⟨Or.inr (hcz b (by omega)),by omega,by omega,h2⟩)
      have hz12:∀ b,b < w9.heap.size → c b = 0 → c12 b = 0:=fun b hb h0=>Classical.byContradiction fun hn=>(hc12 b hn).elim (fun h=>h h0) (fun h=>by
       rcases (hS11 b h).1 with h1 | h1 | h1
       ·have h1:c b = 2:=h1
        omega
       ·exact h1
       ·omega)
      have b11:Below w.heap.size w w11:=hb9.trans ((bA.mono hb9.size).trans (hB11 w.heap.size (fun b hb=>(h9.b b (by have hb:c b = 2:=hb;omega)).1) (by have:=hb9.size;omega)))
      have hs11:w9.heap.size ≤ w11.heap.size:=by omega
      have q1:=(World.cell?_of_block (w:=w7) (a:=⟨C,1,none⟩) ((hk11 C (by omega) hcC).trans (b6.block C hM7l))).trans m1
      clear hAs hL11 hO11 hS11 hB11 hz11 hc12 hA bA hnew hi0 hz0 hz1 hz2
      obtain ⟨gK,cK,T,u,eK,_,hgc,_,k0,hOb,hT,back,back2⟩:=h12.K.row_at (i:=n2) hnk
      obtain ⟨eg,en,ec⟩:Kb = gK ∧ n = q.known.length ∧ n = cK:=by simpa using eK
      subst eg ec
      have hnn:n2 < n:=by omega
      have u4:decide (n ≤ n2) = false:=by simp;omega
      replace en:=Lib.hid en
      have hOb:OBools w11 T u row:=by rw [← hrow.out];exact hOb
      clear back back2 hT hgc eK
      obtain ⟨au,cu,rfl,_,_⟩:=OSl.form hOb
      have bB:=below_a1 w11 (.cells #[] 4)
      have q1':=(bB.cell (cell_lt q1)).trans q1
      have k0:=(bB.cell (cell_lt k0)).trans k0
      have hRw:=(BoolsAt.below hOb.bools bB).row
      go_upto_region 29 with (first
       |(at_builtin;refine wpList_append_row _ rfl _ _ 92 rfl w11.heap.size 4 j0 _ 1 1 Tryz.underlying92 hj0 jz0 jz1 jz2 rfl (by decide) (.slice (some ⟨w11.heap.size,0,none⟩) 0 0) 0 [] rfl (World.ownsRow_made w11 #[] 0 (Nat.le_refl _) (by simp [maxLen]) (by simp)) _ _ _ rfl hRw (fun u hu=>by obtain ⟨b,_,rfl⟩:=List.mem_map.1 hu;rfl) (by unfold maxLen;omega) (by omega) (by rw [World.size_alloc];omega) ?_;intro vc wc hownc hgrowc hatc;simp only [Nat.zero_add,List.nil_append] at hownc;obtain ⟨ac,cc,rfl⟩:=own_form hownc;have bC:Below w11.heap.size w11 wc:=bB.trans (below_row hgrowc (fun k hk=>by cases hk;exact Nat.le_refl _) (by have:=bB.size;omega));have hOc:OBools wc (fun b=>(Value.slice ac row.length cc).ownBlock = some b) (.slice ac row.length cc) row:=OBools.of_owns hownc (by omega);have hTc:∀ b,(Value.slice ac row.length cc).ownBlock = some b → w11.heap.size ≤ b ∧ b < wc.heap.size:=fun b hb=>hownc.lt b hb;have bD:=below_a1 wc (.cells #[.slice ac row.length cc] 92);have h13:=h12.below (below_trans bC bD);have hOd:=hOc.keep (w':=wc.alloc (.cells #[.slice ac row.length cc] 92)) (fun b hb=>bD.block b (hTc b hb).2))
       |(at_builtin;refine wpList_push _ rfl _ _ 51 rfl 92 l0 _ 1 24 Tryz.underlying51 hl0 lz0 lz1 lz2 rfl (by decide) OBoolsEl.stays _ rfl (fun b=>c12 b = 3) q.ahead h13.A (fun b hb=>(h13.b b (by have hb:c12 b = 3:=hb;omega)).2) ⟨wc.heap.size,0,none⟩ _ rfl [.slice ac row.length cc] rfl (cells_new _ _ _) (by simp [Value.oneCell']) (fun b=>(Value.slice ac row.length cc).ownBlock = some b) row ⟨_,rfl,hOd⟩ (fun b hb=>⟨fun h=>by have h:c12 b = 3:=h;have:=(h12.b b (by omega)).2;have:=(hTc b hb).1;omega,Nat.lt_of_lt_of_le (hTc b hb).2 bD.size⟩) (by omega) (by omega) (by omega) ?_;intro v14 w14 hp;obtain ⟨⟨S14,hO14,hS14⟩,hz14,hL14,hB14,a14,cap14,rfl⟩:=hp))
      have bCD:=below_trans bC bD
      have hsD:=bCD.size
      obtain ⟨c14,h14,hc14⟩:=h13.setA hL14 hz14 hO14 (fun b hb=>by
       have h2:=(hS14 b hb).2
       have h3:=h12.lt
       have h4:=h12.B0
       rcases (hS14 b hb).1 with h1 | h1 | h1
       ·have h1:c12 b = 3:=h1
        exact ⟨Or.inl h1,fun e=>by rw [e,h12.cB] at h1;omega,(h12.b b (by omega)).1,h2⟩
       ·have h5:=(hTc b h1).1
        exact ⟨Or.inr (Classical.byContradiction fun hn=>by have:=(h12.b b hn).2;omega),by omega,by omega,h2⟩
       ·have h5:w11.heap.size ≤ b:=by omega
        exact ⟨Or.inr (Classical.byContradiction fun hn=>by have:=(h12.b b hn).2;omega),by omega,by omega,h2⟩)
      have hk14:∀ b,b < w9.heap.size → c b = 0 → c14 b = 0 ∧ w14.heap[b]? = w9.heap[b]?:=fun b hb h0=>by
       have h5:=hz12 b hb h0
       refine ⟨Classical.byContradiction fun hn=>(hc14 b hn).elim (fun h=>h h5) (fun h=>?_),((hL14 b ⟨by omega,by omega⟩).trans (bCD.block b (by omega))).trans (hk11 b hb h0)⟩
       rcases (hS14 b h).1 with h1 | h1 | h1
       ·have h1:c12 b = 3:=h1
        omega
       ·have:=(hTc b h1).1
        omega
       ·omega
      have b14:Below w.heap.size w w14:=b11.trans ((bCD.mono b11.size).trans (hB14 w.heap.size (fun b hb=>(h12.b b (by have hb:c12 b = 3:=hb;omega)).1) (by have:=b11.size;omega)))
      have hs14:w9.heap.size ≤ w14.heap.size:=by omega
      clear hL14 hO14 hS14 hB14 hz14 hc14 h13 hOd hOc bC bD bCD hsD hTc hownc hgrowc hatc k0 q1' hRw hOb hk11 hz12 q1 bB hs11 h12
      have q1:=(World.cell?_of_block (w:=w7) (a:=⟨C,1,none⟩) (((hk14 C (by omega) hcC).2).trans (b6.block C hM7l))).trans m1
      have hCl14:C < w14.heap.size:=by omega
      go_upto_region 30 with fail
      go_loopw [21] (fun i wr=>∃ (j:Nat) (c':Nat → Nat),j ≤ n ∧ i = .int .i64 j ∧ RfAt w.heap.size wr B c' (.slice gA q.X.groups.length gC) (.slice nA q.X.nodes.length nC) (.slice wA q.X.wires.length wC) (.slice a11 (q.all.length + 1) cap11) (.slice a14 (q.ahead.length + 1) cap14) (.slice (some ⟨Kb,0,none⟩) n n) ⟨q.X,q.all ++ [m],q.ahead ++ [row],growR q.known n2 j⟩ ∧ (∀ b,b < w14.heap.size → c14 b = 0 → c' b = 0 ∧ wr.heap[b]? = w14.heap[b]?) ∧ w14.heap.size ≤ wr.heap.size ∧ Below w.heap.size w wr) (fun i _=>n - (intOf i).toNat)
      case atStart=>exact ⟨0,c14,by omega,rfl,by rw [growR_zero];exact h14,fun b _ h0=>⟨h0,rfl⟩,Nat.le_refl _,b14⟩
      case round =>
       obtain ⟨j,c',hj,rfl,h,hkp,hsw,hb⟩:=hrel
       by_cases hjn:j < n
       ·obtain ⟨gK,cK,T,u,eK,_,hgc,hgB,k0,hOb,hT,back,back2⟩:=h.K.row_at (i:=j) (by rw [growR_len, ← en.out];exact hjn)
        simp only [growR_len] at eK
        obtain ⟨eg,en',ec⟩:Kb = gK ∧ n = q.known.length ∧ n = cK:=by simpa using eK
        subst eg ec
        clear en' back
        have hgw:=growR_succ (l:=q.known) (n:=n2) (k:=j) (by rw [← en.out];exact hjn)
        obtain ⟨rj,hrj⟩:∃ r,(growR q.known n2 j).getD j [] = r:=⟨_,rfl⟩
        have hrjl:rj.length ≤ 80:=by
         rw [← hrj,growR_at (by rw [← en.out];exact hjn),if_neg (by omega)]
         exact hrk j (by rw [← en.out];exact hjn)
        rw [hrj] at hOb hgw
        replace hrj:=Lib.hid hrj
        replace hgw:=Lib.hid hgw
        replace back2:=Lib.hid back2
        obtain ⟨au,cu,rfl,_,_⟩:=OSl.form hOb
        have q2:=(World.cell?_of_block (w:=w14) (a:=⟨C,1,none⟩) (hkp C hCl14 (hk14 C (by omega) hcC).1).2).trans q1
        obtain ⟨bj,hbj⟩:∃ b,(j == n2) = b:=⟨_,rfl⟩
        have hbj':((j:Int) == (n2:Int)) = bj:=by
         rw [← hbj]
         by_cases e:j = n2
         ·subst e;simp
         ·have e2:¬ (j:Int) = (n2:Int):=by omega
          rw [beq_eq_false_iff_ne.mpr e,beq_eq_false_iff_ne.mpr e2]
        replace hbj:=Lib.hid hbj
        have v1:decide ((j:Int) < 0) = false:=by simp
        have v2:decide (n ≤ j) = false:=by simp;omega
        have v3:decide ((j:Int) < (n:Int)) = true:=decide_eq_true (by omega)
        have hTl:∀ d,T d → d < wr.heap.size ∧ c' d = 4:=fun d hd=>⟨(h.b d (by have:=(hT d hd).1;omega)).2,(hT d hd).1⟩
        replace hT:=Lib.hid hT
        go_upto_region 32 with fail
        have hSB:∀ o,Below wr.heap.size wr o → o.cell? ⟨Kb,j,none⟩ = some (.slice au rj.length cu) ∧ o.cell? ⟨C,1,none⟩ = some (.int .i64 (n2:Int)):=fun o k=>⟨(k.cell (cell_lt k0)).trans k0,(k.cell (cell_lt q2)).trans q2⟩
        refine wp_region_N (fun o=>o.cell? ⟨Kb,j,none⟩ = some (.slice au rj.length cu) ∧ o.cell? ⟨C,1,none⟩ = some (.int .i64 (n2:Int))) 12 14 rfl (by kernel_rfl) (hSB _ (below_drewN wr 1)) (fun hSw=>?_)
        refine tk 0 ?_ rfl rfl (by kernel_rfl) (.inl ⟨by rfl, ?_⟩) hSw ?_
        rotate_left
        ·rintro w ⟨s0,s1⟩;go_simp;try with_reducible rfl
        simp only [tkp,tkz,tks]
        refine tk 1 ?_ rfl rfl (by kernel_rfl) (.inl ⟨by rfl, ?_⟩) hSw ?_
        rotate_left
        ·rintro w ⟨s0,s1⟩;go_simp;try with_reducible rfl
        simp only [tkp,tkz,tks]
        refine tk 2 ?_ rfl rfl (by kernel_rfl) (.inl ⟨by rfl, ?_⟩) hSw ?_
        rotate_left
        ·rintro w ⟨s0,s1⟩;go_simp;try with_reducible rfl
        simp only [tkp,tkz,tks]
        refine tk 3 ?_ rfl rfl (by kernel_rfl) (.inl ⟨by rfl, ?_⟩) hSw ?_
        rotate_left
        ·rintro w ⟨s0,s1⟩;go_simp;try with_reducible rfl
        simp only [tkp,tkz,tks]
        refine tk 4 ?_ rfl rfl (by kernel_rfl) (.inl ⟨by rfl, ?_⟩) hSw ?_
        rotate_left
        ·rintro w ⟨s0,s1⟩;go_simp;try with_reducible rfl
        simp only [tkp,tkz,tks]
        refine tk 5 ?_ rfl rfl (by kernel_rfl) (.inl ⟨by rfl, ?_⟩) hSw ?_
        rotate_left
        ·rintro w ⟨s0,s1⟩;go_simp;try with_reducible rfl
        simp only [tkp,tkz,tks]
        refine tk 6 ?_ rfl rfl (by kernel_rfl) (.inl ⟨by rfl, ?_⟩) hSw ?_
        rotate_left
        ·rintro w ⟨s0,s1⟩;go_simp;try with_reducible rfl
        simp only [tkp,tkz,tks]
        refine tk 7 ?_ rfl rfl (by kernel_rfl) (.inl ⟨by rfl, ?_⟩) hSw ?_
        rotate_left
        ·rintro w ⟨s0,s1⟩;go_simp;try with_reducible rfl
        simp only [tkp,tkz,tks]
        refine tk 8 ?_ rfl rfl (by kernel_rfl) (.inl ⟨by rfl, ?_⟩) hSw ?_
        rotate_left
        ·rintro w ⟨s0,s1⟩;go_simp;try with_reducible rfl
        simp only [tkp,tkz,tks]
        refine tk 9 ?_ rfl rfl (by kernel_rfl) (.inl ⟨by rfl, ?_⟩) hSw ?_
        rotate_left
        ·rintro w ⟨s0,s1⟩;go_simp;try with_reducible rfl
        simp only [tkp,tkz,tks]
        refine N_one' (i:=10) (by kernel_rfl) rfl ?_
        go_wp2_with fail
        have bR:Below wr.heap.size wr (wr.alloc (.cells #[.bool bj] 4)).drew:=below_trans (below_a1 wr _) (below_drewN _ 1)
        refine QK_normal ⟨?_, ?_⟩
        ·first | exact fun _=>hSB _ bR | exact hSB _ bR
        have hnew:∀ j u,[Value.bool bj][j]? = some u → (wr.alloc (.cells #[.bool bj] 4)).drew.cell? ((⟨wr.heap.size,0,none⟩:Addr).add j) = some u:=cells_new wr #[.bool bj] 4
        have hSw:=hSB _ bR
        have hO10:=hOb.keep (fun d hd=>bR.block d (hTl d hd).1)
        clear hSB
        have hsR:=bR.size
        generalize (wr.alloc (.cells #[.bool bj] 4)).drew = w10 at *
        obtain ⟨R,hR⟩:∃ R,wr.heap.size = R:=⟨_,rfl⟩
        simp only [hR] at hnew ⊢
        clear hR
        refine N_one' (i:=11) (by kernel_rfl) rfl ?_
        go_wp2_with (at_builtin;refine wpList_push _ rfl _ _ 92 rfl 4 j0 _ 1 1 Tryz.underlying92 hj0 jz0 jz1 jz2 rfl (by decide) BEl.stays _ rfl T rj hO10 (fun b hb=>Nat.lt_of_lt_of_le (hTl b hb).1 hsR) ⟨R,0,none⟩ _ rfl [.bool bj] rfl hnew (by simp [Value.oneCell']) (fun _=>False) bj rfl (fun _ h=>h.elim) (by omega) (by omega) (by omega) ?_;intro v15 w15 hp;obtain ⟨⟨S15,hO15,hS15⟩,hz15,hL15,hB15,a15,cap15,rfl⟩:=hp)
        have hKl:=cell_lt k0
        have hnT:¬ T Kb:=fun e=>(hT.out Kb e).2 rfl
        have hcC':c' C = 0:=(hkp C hCl14 (hk14 C (by omega) hcC).1).1
        have hnC:¬ T C:=fun e=>by have:=(hTl C e).2;omega
        have hkb:∀ b,b < wr.heap.size → ¬ T b → w15.heap[b]? = wr.heap[b]?:=fun b hb hT=>(hL15 b ⟨by omega,hT⟩).trans (bR.block b hb)
        refine QK_normal ⟨?_, ?_⟩
        ·have hh:w15.cell? ⟨Kb,j,none⟩ = some (.slice au rj.length cu) ∧ w15.cell? ⟨C,1,none⟩ = some (.int .i64 (n2:Int)):=⟨(World.cell?_of_block (w:=wr) (a:=⟨Kb,j,none⟩) (hkb Kb hKl hnT)).trans k0,(World.cell?_of_block (w:=wr) (a:=⟨C,1,none⟩) (hkb C (cell_lt q2) hnC)).trans q2⟩
         first | exact fun _=>hh | exact hh
        refine N_rest 12 2 (Nat.le_refl _) rfl (by kernel_rfl) ?_
        simp only [List.drop_succ_cons,List.drop_zero]
        have fz:=(hgB.same (hkb Kb hKl hnT)).frozen j
        have k0':=(World.cell?_of_block (w:=wr) (a:=⟨Kb,j,none⟩) (hkb Kb hKl hnT)).trans k0
        have hK17:=back2.out w15 S15 (.slice a15 (rj.length + 1) cap15) (rj ++ [bj]) (fun b hb=>hkb b (h.b b (by have h4:c' b = 4:=hb.1;omega)).2 hb.2) hO15 (fun b hb=>by
         rcases (hS15 b hb).1 with h1 | h1 | h1
         ·exact Or.inl h1
         ·exact h1.elim
         ·exact Or.inr (fun h4=>by have h4:c' b = 4:=h4;have:=(h.b b (by omega)).2;omega))
        obtain ⟨c17,h17,hc17⟩:=h.setK (w':=w15.setCell ⟨Kb,j,none⟩ (.slice a15 (rj.length + 1) cap15)) (fun b hb=>(Go.Deep.blk_setCell_other _ _ _ _ (fun e=>hb.2 (by show c' b = 4;rw [e];exact hgc))).trans (hkb b hb.1 (fun hT'=>hb.2 (hTl b hT').2))) (by rw [Go.Deep.nblk_setCell];omega) hK17 (fun b hb=>by
         have h3:=h.lt
         have h4:=h.B0
         rw [Go.Deep.nblk_setCell]
         have h5:c' b = 4 → (c' b = 4 ∨ c' b = 0) ∧ b ≠ B ∧ w.heap.size ≤ b ∧ b < w15.heap.size:=fun e=>⟨Or.inl e,fun e'=>by rw [e',h.cB] at e;omega,(h.b b (by omega)).1,by have:=(h.b b (by omega)).2;omega⟩
         rcases hb with hb | hb
         ·exact h5 hb
         ·rcases (hS15 b hb).1 with h1 | h1 | h1
          ·exact h5 (hTl b h1).2
          ·exact h1.elim
          ·exact ⟨Or.inr (Classical.byContradiction fun hn=>by have:=(h.b b hn).2;omega),by omega,by omega,(hS15 b hb).2⟩)
        have hk17:∀ b,b < wr.heap.size → c' b = 0 → (w15.setCell ⟨Kb,j,none⟩ (.slice a15 (rj.length + 1) cap15)).heap[b]? = wr.heap[b]?:=fun b hb h0=>(Go.Deep.blk_setCell_other _ _ _ _ (fun (e:b = Kb)=>by rw [e] at h0;have h4:c' Kb = 4:=hgc;omega)).trans (hkb b hb (fun e=>by have:=(hTl b e).2;omega))
        have hz17:∀ b,b < wr.heap.size → c' b = 0 → c17 b = 0:=fun b hb h0=>Classical.byContradiction fun hn=>by
         rcases hc17 b hn with h1 | h1 | h1
         ·exact h1 h0
         ·have h1:c' b = 4:=h1
          omega
         ·rcases (hS15 b h1).1 with h2 | h2 | h2
          ·have:=(hTl b h2).2;omega
          ·exact h2
          ·omega
        have b17:Below w.heap.size wr (w15.setCell ⟨Kb,j,none⟩ (.slice a15 (rj.length + 1) cap15)):=(bR.mono hb.size).trans (below_setCell (hB15 w.heap.size (fun b hb=>(h.b b (by have:=(hTl b hb).2;omega)).1) (by have:=hb.size;omega)) (h.b Kb (by have h4:c' Kb = 4:=hgc;omega)).1 _)
        replace h17:=Lib.hid h17
        replace b17:=Lib.hid b17
        clear hKl hO15 hS15 hL15 hB15 hkb hK17 hc17 h
        go_wp2_with fail
        go_roundw
        case rel =>
         have e:=hgw.out
         rw [hbj.out] at e
         have h17:=h17.out
         rw [e] at h17
         exact ⟨j + 1,c17,by omega,by go_num,h17,fun b hb h0=>⟨hz17 b (by omega) (hkp b hb h0).1,(hk17 b (by omega) (hkp b hb h0).1).trans (hkp b hb h0).2⟩,by have:=b17.out.size;omega,hb.trans b17.out⟩
        case measure=>simp [intOf];omega
       ·obtain rfl:j = n:=by omega
        have v3:decide ((j:Int) < (j:Int)) = false:=decide_eq_false (by omega)
        have h8:=h
        have hge:growR q.known n2 j = growR q.known n2 q.known.length:=congrArg (growR q.known n2) en.out
        rw [hge] at h8
        clear hge
        have hQ9:=hR6.keep ((hkp E (by have:=hR6.lt;omega) (hk14 E (by have:=hR6.lt;omega) (hcz E (by omega))).1).2.trans ((hk14 E (by have:=hR6.lt;omega) (hcz E (by omega))).2.trans (b6.block E hR6.lt)))
        have hO9:=hO7.keep (w':=wr) (fun d hd=>by
         have k1:=hS7 d hd
         have k2:=hk14 d (by omega) (hcz d k1.1)
         exact (hkp d (by omega) k2.1).2.trans (k2.2.trans (b6.block d k1.2.1)))
        have hS9:∀ d,S6 d → c' d = 0 ∧ w.heap.size ≤ d ∧ d < wr.heap.size ∧ d ≠ B:=fun d hd=>by
         have k1:=hS7 d hd
         have k2:=hb1.size
         have k3:=h1.lt
         exact ⟨(hkp d (by omega) (hk14 d (by omega) (hcz d k1.1)).1).1,by omega,by omega,by omega⟩
        have hb8:=hb
        obtain ⟨_,y0,y1,y2⟩:=id hQ9
        have f0:=h8.box.1.frozen 0
        have f1:=h8.box.1.frozen 1
        have f2:=h8.box.1.frozen 2
        obtain ⟨_,z0,z1,z2⟩:=id h8.box
        obtain ⟨c10,h10⟩:=h8.setX hO9 hS9
        have hb10:=set3_below (u:=(.slice ga6 r.2.groups.length gcap6)) (v:=(.slice (some ⟨gN,0,none⟩) r.2.nodes.length ncap6)) (x:=(.slice wa6 r.2.wires.length wcap6)) hb8 h8.B0
        replace h10:=Lib.hid h10
        replace hb10:=Lib.hid hb10
        clear h8 hO9 hQ9 hb8
        go_wp2_with fail
        go_roundw
        case rel=>exact ⟨k + 1,c10,_,_,_,by omega,by go_num,by rw [hsu3'.out];exact h10.out,hb10.out⟩
        case measure=>simp [intOf];omega
     ·have q2:(x.kind == 2) = false:=by simpa using k2
      have hmf:=hmf.out
      rw [if_neg k2] at hmf
      replace k2:=Lib.hid k2
      simp only [q2] at hmf b5 hF5 g0 g1 g2 g3 g4 ⊢
      replace hmf:=Lib.hid hmf
      have m3':=(b5.cell (cell_lt m3)).trans m3
      have f5:=hF5.frozen 4
      have b6:=below_setCell (a:=⟨F,4,none⟩) b5 (Nat.le_of_eq hF.out) (.string x.body)
      obtain ⟨hF6,g0',g1',g2',g3',g4'⟩:=five_body hF5 g0 g1 g2 g3 (.string x.body)
      replace g0':=Lib.hid g0'
      replace g1':=Lib.hid g1'
      replace g2':=Lib.hid g2'
      replace g3':=Lib.hid g3'
      replace g4':=Lib.hid g4'
      go_upto_region 27 with fail
      generalize (((((w8.setCell ⟨F,0,none⟩ (.int .i64 (n2:Int))).setCell ⟨F,1,none⟩ (.int .i64 x.two)).setCell ⟨F,2,none⟩ (.int .i64 ck)).setCell ⟨F,3,none⟩ (.bool false)).setCell ⟨F,4,none⟩ (.string ⟨#[]⟩)).setCell ⟨F,4,none⟩ (.string x.body) = w9 at *
      have hmf:=hmf.out
      replace g0:=g0'.out
      replace g1:=g1'.out
      replace g2:=g2'.out
      replace g3:=g3'.out
      replace g4:=g4'.out
      replace g0:w9.cell? ⟨F,0,none⟩ = some (.int .i64 m.src):=by rw [hmf];exact g0
      replace g1:w9.cell? ⟨F,1,none⟩ = some (.int .i64 m.grp):=by rw [hmf];exact g1
      replace g2:w9.cell? ⟨F,2,none⟩ = some (.int .i64 m.stamp):=by rw [hmf];exact g2
      replace g3:w9.cell? ⟨F,3,none⟩ = some (.bool m.null):=by rw [hmf];exact g3
      replace g4:w9.cell? ⟨F,4,none⟩ = some (.string m.body):=by rw [hmf];exact g4
      replace hmf:=Lib.hid hmf
      clear m3' f5 g0' g1' g2' g3' g4'
      have hql:q.all.length ≤ 80:=by rw [hBj.all];omega
      have hqa:q.ahead.length ≤ 80:=by rw [hBj.lr];omega
      have hrl:(q.known.getD n2 []).length = q.all.length:=by rw [hBj.rk n2 hn,hBj.all]
      have hrk:∀ j,j < q.known.length → (q.known.getD j []).length ≤ 80:=fun j hj=>by rw [hBj.rk j (by rw [← hBj.lq];exact hj)];rw [hBj.all] at hql;exact hql
      have hmft:=hfits.out
      have hFl:=cell_lt g0
      have hs96:=b6.size
      have h9:=h7.below b6
      have hb9:=hb7.trans (b6.mono hb7.size)
      have hcz:∀ d,w5.heap.size ≤ d → c d = 0:=fun d hd=>Classical.byContradiction fun hn=>by have:=hcD d hn;omega
      obtain ⟨row,hrow⟩:∃ row,q.known.getD n2 [] = row:=⟨_,rfl⟩
      have hsu3':=hsu3
      unfold Rf.send at hsu3'
      rw [hrow] at hsu3' hrl
      have hrl8:row.length ≤ 80:=by omega
      clear hrl
      replace hsu3':=Lib.hid hsu3'
      replace hrow:=Lib.hid hrow
      clear hsu3
      obtain ⟨i0,hi0,hz0,hz1,hz2⟩:=info_parts infoCMsg
      obtain ⟨j0,hj0,jz0,jz1,jz2⟩:=info_parts infoCBool
      obtain ⟨l0,hl0,lz0,lz1,lz2⟩:=info_parts infoCBRow
      have bA:=below_a1 w9 (.cells #[.int .i64 m.src, .int .i64 m.grp, .int .i64 m.stamp, .bool m.null, .string m.body] 62)
      have hA:=h9.below bA
      have hnew:∀ j u,m.cells[j]? = some u → (w9.alloc (.cells #[.int .i64 m.src, .int .i64 m.grp, .int .i64 m.stamp, .bool m.null, .string m.body] 62)).cell? ((⟨w9.heap.size,0,none⟩:Addr).add j) = some u:=cells_new w9 m.cells.toArray 62
      have hcB:=h9.cB
      go_upto_region 28 with (at_builtin;refine wpList_push _ rfl _ _ 50 rfl 62 i0 _ 5 48 Tryz.underlying50 hi0 hz0 hz1 hz2 rfl (by decide) MEl.stays _ rfl (fun b=>c b = 2) q.all hA.S (fun b hb=>(hA.b b (by have hb:c b = 2:=hb;omega)).2) ⟨w9.heap.size,0,none⟩ _ rfl m.cells rfl hnew (by simp [M.cells,Value.oneCell']) (fun _=>False) m ⟨rfl,hmft⟩ (fun _ h=>h.elim) (by omega) (by omega) (by omega) ?_;intro v11 w11 hp;obtain ⟨⟨S11,hO11,hS11⟩,hz11,hL11,hB11,a11,cap11,rfl⟩:=hp)
      have hAs:(w9.alloc (.cells #[.int .i64 m.src, .int .i64 m.grp, .int .i64 m.stamp, .bool m.null, .string m.body] 62)).heap.size = w9.heap.size + 1:=World.size_alloc _ _
      have hk11:∀ b,b < w9.heap.size → c b = 0 → w11.heap[b]? = w9.heap[b]?:=fun b hb h0=>(hL11 b ⟨by omega,by omega⟩).trans (bA.block b hb)
      obtain ⟨c12,h12,hc12⟩:=hA.setS hL11 hz11 hO11 (fun b hb=>by
       have h2:=(hS11 b hb).2
       have h3:=h9.lt
       have h4:=h9.B0
       rcases (hS11 b hb).1 with h1 | h1 | h1
       ·have h1:c b = 2:=h1
        exact ⟨Or.inl h1,fun e=>by rw [e,hcB] at h1;omega,(h9.b b (by omega)).1,h2⟩
       ·exact h1.elim
       ·exact ⟨Or.inr (hcz b (by omega)),by omega,by omega,h2⟩)
      have hz12:∀ b,b < w9.heap.size → c b = 0 → c12 b = 0:=fun b hb h0=>Classical.byContradiction fun hn=>(hc12 b hn).elim (fun h=>h h0) (fun h=>by
       rcases (hS11 b h).1 with h1 | h1 | h1
       ·have h1:c b = 2:=h1
        omega
       ·exact h1
       ·omega)
      have b11:Below w.heap.size w w11:=hb9.trans ((bA.mono hb9.size).trans (hB11 w.heap.size (fun b hb=>(h9.b b (by have hb:c b = 2:=hb;omega)).1) (by have:=hb9.size;omega)))
      have hs11:w9.heap.size ≤ w11.heap.size:=by omega
      have q1:=(World.cell?_of_block (w:=w7) (a:=⟨C,1,none⟩) ((hk11 C (by omega) hcC).trans (b6.block C hM7l))).trans m1
      clear hAs hL11 hO11 hS11 hB11 hz11 hc12 hA bA hnew hi0 hz0 hz1 hz2
      obtain ⟨gK,cK,T,u,eK,_,hgc,_,k0,hOb,hT,back,back2⟩:=h12.K.row_at (i:=n2) hnk
      obtain ⟨eg,en,ec⟩:Kb = gK ∧ n = q.known.length ∧ n = cK:=by simpa using eK
      subst eg ec
      have hnn:n2 < n:=by omega
      have u4:decide (n ≤ n2) = false:=by simp;omega
      replace en:=Lib.hid en
      have hOb:OBools w11 T u row:=by rw [← hrow.out];exact hOb
      clear back back2 hT hgc eK
      obtain ⟨au,cu,rfl,_,_⟩:=OSl.form hOb
      have bB:=below_a1 w11 (.cells #[] 4)
      have q1':=(bB.cell (cell_lt q1)).trans q1
      have k0:=(bB.cell (cell_lt k0)).trans k0
      have hRw:=(BoolsAt.below hOb.bools bB).row
      go_upto_region 29 with (first
       |(at_builtin;refine wpList_append_row _ rfl _ _ 92 rfl w11.heap.size 4 j0 _ 1 1 Tryz.underlying92 hj0 jz0 jz1 jz2 rfl (by decide) (.slice (some ⟨w11.heap.size,0,none⟩) 0 0) 0 [] rfl (World.ownsRow_made w11 #[] 0 (Nat.le_refl _) (by simp [maxLen]) (by simp)) _ _ _ rfl hRw (fun u hu=>by obtain ⟨b,_,rfl⟩:=List.mem_map.1 hu;rfl) (by unfold maxLen;omega) (by omega) (by rw [World.size_alloc];omega) ?_;intro vc wc hownc hgrowc hatc;simp only [Nat.zero_add,List.nil_append] at hownc;obtain ⟨ac,cc,rfl⟩:=own_form hownc;have bC:Below w11.heap.size w11 wc:=bB.trans (below_row hgrowc (fun k hk=>by cases hk;exact Nat.le_refl _) (by have:=bB.size;omega));have hOc:OBools wc (fun b=>(Value.slice ac row.length cc).ownBlock = some b) (.slice ac row.length cc) row:=OBools.of_owns hownc (by omega);have hTc:∀ b,(Value.slice ac row.length cc).ownBlock = some b → w11.heap.size ≤ b ∧ b < wc.heap.size:=fun b hb=>hownc.lt b hb;have bD:=below_a1 wc (.cells #[.slice ac row.length cc] 92);have h13:=h12.below (below_trans bC bD);have hOd:=hOc.keep (w':=wc.alloc (.cells #[.slice ac row.length cc] 92)) (fun b hb=>bD.block b (hTc b hb).2))
       |(at_builtin;refine wpList_push _ rfl _ _ 51 rfl 92 l0 _ 1 24 Tryz.underlying51 hl0 lz0 lz1 lz2 rfl (by decide) OBoolsEl.stays _ rfl (fun b=>c12 b = 3) q.ahead h13.A (fun b hb=>(h13.b b (by have hb:c12 b = 3:=hb;omega)).2) ⟨wc.heap.size,0,none⟩ _ rfl [.slice ac row.length cc] rfl (cells_new _ _ _) (by simp [Value.oneCell']) (fun b=>(Value.slice ac row.length cc).ownBlock = some b) row ⟨_,rfl,hOd⟩ (fun b hb=>⟨fun h=>by have h:c12 b = 3:=h;have:=(h12.b b (by omega)).2;have:=(hTc b hb).1;omega,Nat.lt_of_lt_of_le (hTc b hb).2 bD.size⟩) (by omega) (by omega) (by omega) ?_;intro v14 w14 hp;obtain ⟨⟨S14,hO14,hS14⟩,hz14,hL14,hB14,a14,cap14,rfl⟩:=hp))
      have bCD:=below_trans bC bD
      have hsD:=bCD.size
      obtain ⟨c14,h14,hc14⟩:=h13.setA hL14 hz14 hO14 (fun b hb=>by
       have h2:=(hS14 b hb).2
       have h3:=h12.lt
       have h4:=h12.B0
       rcases (hS14 b hb).1 with h1 | h1 | h1
       ·have h1:c12 b = 3:=h1
        exact ⟨Or.inl h1,fun e=>by rw [e,h12.cB] at h1;omega,(h12.b b (by omega)).1,h2⟩
       ·have h5:=(hTc b h1).1
        exact ⟨Or.inr (Classical.byContradiction fun hn=>by have:=(h12.b b hn).2;omega),by omega,by omega,h2⟩
       ·have h5:w11.heap.size ≤ b:=by omega
        exact ⟨Or.inr (Classical.byContradiction fun hn=>by have:=(h12.b b hn).2;omega),by omega,by omega,h2⟩)
      have hk14:∀ b,b < w9.heap.size → c b = 0 → c14 b = 0 ∧ w14.heap[b]? = w9.heap[b]?:=fun b hb h0=>by
       have h5:=hz12 b hb h0
       refine ⟨Classical.byContradiction fun hn=>(hc14 b hn).elim (fun h=>h h5) (fun h=>?_),((hL14 b ⟨by omega,by omega⟩).trans (bCD.block b (by omega))).trans (hk11 b hb h0)⟩
       rcases (hS14 b h).1 with h1 | h1 | h1
       ·have h1:c12 b = 3:=h1
        omega
       ·have:=(hTc b h1).1
        omega
       ·omega
      have b14:Below w.heap.size w w14:=b11.trans ((bCD.mono b11.size).trans (hB14 w.heap.size (fun b hb=>(h12.b b (by have hb:c12 b = 3:=hb;omega)).1) (by have:=b11.size;omega)))
      have hs14:w9.heap.size ≤ w14.heap.size:=by omega
      clear hL14 hO14 hS14 hB14 hz14 hc14 h13 hOd hOc bC bD bCD hsD hTc hownc hgrowc hatc k0 q1' hRw hOb hk11 hz12 q1 bB hs11 h12
      have q1:=(World.cell?_of_block (w:=w7) (a:=⟨C,1,none⟩) (((hk14 C (by omega) hcC).2).trans (b6.block C hM7l))).trans m1
      have hCl14:C < w14.heap.size:=by omega
      go_upto_region 30 with fail
      go_loopw [21] (fun i wr=>∃ (j:Nat) (c':Nat → Nat),j ≤ n ∧ i = .int .i64 j ∧ RfAt w.heap.size wr B c' (.slice gA q.X.groups.length gC) (.slice nA q.X.nodes.length nC) (.slice wA q.X.wires.length wC) (.slice a11 (q.all.length + 1) cap11) (.slice a14 (q.ahead.length + 1) cap14) (.slice (some ⟨Kb,0,none⟩) n n) ⟨q.X,q.all ++ [m],q.ahead ++ [row],growR q.known n2 j⟩ ∧ (∀ b,b < w14.heap.size → c14 b = 0 → c' b = 0 ∧ wr.heap[b]? = w14.heap[b]?) ∧ w14.heap.size ≤ wr.heap.size ∧ Below w.heap.size w wr) (fun i _=>n - (intOf i).toNat)
      case atStart=>exact ⟨0,c14,by omega,rfl,by rw [growR_zero];exact h14,fun b _ h0=>⟨h0,rfl⟩,Nat.le_refl _,b14⟩
      case round =>
       obtain ⟨j,c',hj,rfl,h,hkp,hsw,hb⟩:=hrel
       by_cases hjn:j < n
       ·obtain ⟨gK,cK,T,u,eK,_,hgc,hgB,k0,hOb,hT,back,back2⟩:=h.K.row_at (i:=j) (by rw [growR_len, ← en.out];exact hjn)
        simp only [growR_len] at eK
        obtain ⟨eg,en',ec⟩:Kb = gK ∧ n = q.known.length ∧ n = cK:=by simpa using eK
        subst eg ec
        clear en' back
        have hgw:=growR_succ (l:=q.known) (n:=n2) (k:=j) (by rw [← en.out];exact hjn)
        obtain ⟨rj,hrj⟩:∃ r,(growR q.known n2 j).getD j [] = r:=⟨_,rfl⟩
        have hrjl:rj.length ≤ 80:=by
         rw [← hrj,growR_at (by rw [← en.out];exact hjn),if_neg (by omega)]
         exact hrk j (by rw [← en.out];exact hjn)
        rw [hrj] at hOb hgw
        replace hrj:=Lib.hid hrj
        replace hgw:=Lib.hid hgw
        replace back2:=Lib.hid back2
        obtain ⟨au,cu,rfl,_,_⟩:=OSl.form hOb
        have q2:=(World.cell?_of_block (w:=w14) (a:=⟨C,1,none⟩) (hkp C hCl14 (hk14 C (by omega) hcC).1).2).trans q1
        obtain ⟨bj,hbj⟩:∃ b,(j == n2) = b:=⟨_,rfl⟩
        have hbj':((j:Int) == (n2:Int)) = bj:=by
         rw [← hbj]
         by_cases e:j = n2
         ·subst e;simp
         ·have e2:¬ (j:Int) = (n2:Int):=by omega
          rw [beq_eq_false_iff_ne.mpr e,beq_eq_false_iff_ne.mpr e2]
        replace hbj:=Lib.hid hbj
        have v1:decide ((j:Int) < 0) = false:=by simp
        have v2:decide (n ≤ j) = false:=by simp;omega
        have v3:decide ((j:Int) < (n:Int)) = true:=decide_eq_true (by omega)
        have hTl:∀ d,T d → d < wr.heap.size ∧ c' d = 4:=fun d hd=>⟨(h.b d (by have:=(hT d hd).1;omega)).2,(hT d hd).1⟩
        replace hT:=Lib.hid hT
        go_upto_region 32 with fail
        have hSB:∀ o,Below wr.heap.size wr o → o.cell? ⟨Kb,j,none⟩ = some (.slice au rj.length cu) ∧ o.cell? ⟨C,1,none⟩ = some (.int .i64 (n2:Int)):=fun o k=>⟨(k.cell (cell_lt k0)).trans k0,(k.cell (cell_lt q2)).trans q2⟩
        refine wp_region_N (fun o=>o.cell? ⟨Kb,j,none⟩ = some (.slice au rj.length cu) ∧ o.cell? ⟨C,1,none⟩ = some (.int .i64 (n2:Int))) 12 14 rfl (by kernel_rfl) (hSB _ (below_drewN wr 1)) (fun hSw=>?_)
        refine tk 0 ?_ rfl rfl (by kernel_rfl) (.inl ⟨by rfl, ?_⟩) hSw ?_
        rotate_left
        ·rintro w ⟨s0,s1⟩;go_simp;try with_reducible rfl
        simp only [tkp,tkz,tks]
        refine tk 1 ?_ rfl rfl (by kernel_rfl) (.inl ⟨by rfl, ?_⟩) hSw ?_
        rotate_left
        ·rintro w ⟨s0,s1⟩;go_simp;try with_reducible rfl
        simp only [tkp,tkz,tks]
        refine tk 2 ?_ rfl rfl (by kernel_rfl) (.inl ⟨by rfl, ?_⟩) hSw ?_
        rotate_left
        ·rintro w ⟨s0,s1⟩;go_simp;try with_reducible rfl
        simp only [tkp,tkz,tks]
        refine tk 3 ?_ rfl rfl (by kernel_rfl) (.inl ⟨by rfl, ?_⟩) hSw ?_
        rotate_left
        ·rintro w ⟨s0,s1⟩;go_simp;try with_reducible rfl
        simp only [tkp,tkz,tks]
        refine tk 4 ?_ rfl rfl (by kernel_rfl) (.inl ⟨by rfl, ?_⟩) hSw ?_
        rotate_left
        ·rintro w ⟨s0,s1⟩;go_simp;try with_reducible rfl
        simp only [tkp,tkz,tks]
        refine tk 5 ?_ rfl rfl (by kernel_rfl) (.inl ⟨by rfl, ?_⟩) hSw ?_
        rotate_left
        ·rintro w ⟨s0,s1⟩;go_simp;try with_reducible rfl
        simp only [tkp,tkz,tks]
        refine tk 6 ?_ rfl rfl (by kernel_rfl) (.inl ⟨by rfl, ?_⟩) hSw ?_
        rotate_left
        ·rintro w ⟨s0,s1⟩;go_simp;try with_reducible rfl
        simp only [tkp,tkz,tks]
        refine tk 7 ?_ rfl rfl (by kernel_rfl) (.inl ⟨by rfl, ?_⟩) hSw ?_
        rotate_left
        ·rintro w ⟨s0,s1⟩;go_simp;try with_reducible rfl
        simp only [tkp,tkz,tks]
        refine tk 8 ?_ rfl rfl (by kernel_rfl) (.inl ⟨by rfl, ?_⟩) hSw ?_
        rotate_left
        ·rintro w ⟨s0,s1⟩;go_simp;try with_reducible rfl
        simp only [tkp,tkz,tks]
        refine tk 9 ?_ rfl rfl (by kernel_rfl) (.inl ⟨by rfl, ?_⟩) hSw ?_
        rotate_left
        ·rintro w ⟨s0,s1⟩;go_simp;try with_reducible rfl
        simp only [tkp,tkz,tks]
        refine N_one' (i:=10) (by kernel_rfl) rfl ?_
        go_wp2_with fail
        have bR:Below wr.heap.size wr (wr.alloc (.cells #[.bool bj] 4)).drew:=below_trans (below_a1 wr _) (below_drewN _ 1)
        refine QK_normal ⟨?_, ?_⟩
        ·first | exact fun _=>hSB _ bR | exact hSB _ bR
        have hnew:∀ j u,[Value.bool bj][j]? = some u → (wr.alloc (.cells #[.bool bj] 4)).drew.cell? ((⟨wr.heap.size,0,none⟩:Addr).add j) = some u:=cells_new wr #[.bool bj] 4
        have hSw:=hSB _ bR
        have hO10:=hOb.keep (fun d hd=>bR.block d (hTl d hd).1)
        clear hSB
        have hsR:=bR.size
        generalize (wr.alloc (.cells #[.bool bj] 4)).drew = w10 at *
        obtain ⟨R,hR⟩:∃ R,wr.heap.size = R:=⟨_,rfl⟩
        simp only [hR] at hnew ⊢
        clear hR
        refine N_one' (i:=11) (by kernel_rfl) rfl ?_
        go_wp2_with (at_builtin;refine wpList_push _ rfl _ _ 92 rfl 4 j0 _ 1 1 Tryz.underlying92 hj0 jz0 jz1 jz2 rfl (by decide) BEl.stays _ rfl T rj hO10 (fun b hb=>Nat.lt_of_lt_of_le (hTl b hb).1 hsR) ⟨R,0,none⟩ _ rfl [.bool bj] rfl hnew (by simp [Value.oneCell']) (fun _=>False) bj rfl (fun _ h=>h.elim) (by omega) (by omega) (by omega) ?_;intro v15 w15 hp;obtain ⟨⟨S15,hO15,hS15⟩,hz15,hL15,hB15,a15,cap15,rfl⟩:=hp)
        have hKl:=cell_lt k0
        have hnT:¬ T Kb:=fun e=>(hT.out Kb e).2 rfl
        have hcC':c' C = 0:=(hkp C hCl14 (hk14 C (by omega) hcC).1).1
        have hnC:¬ T C:=fun e=>by have:=(hTl C e).2;omega
        have hkb:∀ b,b < wr.heap.size → ¬ T b → w15.heap[b]? = wr.heap[b]?:=fun b hb hT=>(hL15 b ⟨by omega,hT⟩).trans (bR.block b hb)
        refine QK_normal ⟨?_, ?_⟩
        ·have hh:w15.cell? ⟨Kb,j,none⟩ = some (.slice au rj.length cu) ∧ w15.cell? ⟨C,1,none⟩ = some (.int .i64 (n2:Int)):=⟨(World.cell?_of_block (w:=wr) (a:=⟨Kb,j,none⟩) (hkb Kb hKl hnT)).trans k0,(World.cell?_of_block (w:=wr) (a:=⟨C,1,none⟩) (hkb C (cell_lt q2) hnC)).trans q2⟩
         first | exact fun _=>hh | exact hh
        refine N_rest 12 2 (Nat.le_refl _) rfl (by kernel_rfl) ?_
        simp only [List.drop_succ_cons,List.drop_zero]
        have fz:=(hgB.same (hkb Kb hKl hnT)).frozen j
        have k0':=(World.cell?_of_block (w:=wr) (a:=⟨Kb,j,none⟩) (hkb Kb hKl hnT)).trans k0
        have hK17:=back2.out w15 S15 (.slice a15 (rj.length + 1) cap15) (rj ++ [bj]) (fun b hb=>hkb b (h.b b (by have h4:c' b = 4:=hb.1;omega)).2 hb.2) hO15 (fun b hb=>by
         rcases (hS15 b hb).1 with h1 | h1 | h1
         ·exact Or.inl h1
         ·exact h1.elim
         ·exact Or.inr (fun h4=>by have h4:c' b = 4:=h4;have:=(h.b b (by omega)).2;omega))
        obtain ⟨c17,h17,hc17⟩:=h.setK (w':=w15.setCell ⟨Kb,j,none⟩ (.slice a15 (rj.length + 1) cap15)) (fun b hb=>(Go.Deep.blk_setCell_other _ _ _ _ (fun e=>hb.2 (by show c' b = 4;rw [e];exact hgc))).trans (hkb b hb.1 (fun hT'=>hb.2 (hTl b hT').2))) (by rw [Go.Deep.nblk_setCell];omega) hK17 (fun b hb=>by
         have h3:=h.lt
         have h4:=h.B0
         rw [Go.Deep.nblk_setCell]
         have h5:c' b = 4 → (c' b = 4 ∨ c' b = 0) ∧ b ≠ B ∧ w.heap.size ≤ b ∧ b < w15.heap.size:=fun e=>⟨Or.inl e,fun e'=>by rw [e',h.cB] at e;omega,(h.b b (by omega)).1,by have:=(h.b b (by omega)).2;omega⟩
         rcases hb with hb | hb
         ·exact h5 hb
         ·rcases (hS15 b hb).1 with h1 | h1 | h1
          ·exact h5 (hTl b h1).2
          ·exact h1.elim
          ·exact ⟨Or.inr (Classical.byContradiction fun hn=>by have:=(h.b b hn).2;omega),by omega,by omega,(hS15 b hb).2⟩)
        have hk17:∀ b,b < wr.heap.size → c' b = 0 → (w15.setCell ⟨Kb,j,none⟩ (.slice a15 (rj.length + 1) cap15)).heap[b]? = wr.heap[b]?:=fun b hb h0=>(Go.Deep.blk_setCell_other _ _ _ _ (fun (e:b = Kb)=>by rw [e] at h0;have h4:c' Kb = 4:=hgc;omega)).trans (hkb b hb (fun e=>by have:=(hTl b e).2;omega))
        have hz17:∀ b,b < wr.heap.size → c' b = 0 → c17 b = 0:=fun b hb h0=>Classical.byContradiction fun hn=>by
         rcases hc17 b hn with h1 | h1 | h1
         ·exact h1 h0
         ·have h1:c' b = 4:=h1
          omega
         ·rcases (hS15 b h1).1 with h2 | h2 | h2
          ·have:=(hTl b h2).2;omega
          ·exact h2
          ·omega
        have b17:Below w.heap.size wr (w15.setCell ⟨Kb,j,none⟩ (.slice a15 (rj.length + 1) cap15)):=(bR.mono hb.size).trans (below_setCell (hB15 w.heap.size (fun b hb=>(h.b b (by have:=(hTl b hb).2;omega)).1) (by have:=hb.size;omega)) (h.b Kb (by have h4:c' Kb = 4:=hgc;omega)).1 _)
        replace h17:=Lib.hid h17
        replace b17:=Lib.hid b17
        clear hKl hO15 hS15 hL15 hB15 hkb hK17 hc17 h
        go_wp2_with fail
        go_roundw
        case rel =>
         have e:=hgw.out
         rw [hbj.out] at e
         have h17:=h17.out
         rw [e] at h17
         exact ⟨j + 1,c17,by omega,by go_num,h17,fun b hb h0=>⟨hz17 b (by omega) (hkp b hb h0).1,(hk17 b (by omega) (hkp b hb h0).1).trans (hkp b hb h0).2⟩,by have:=b17.out.size;omega,hb.trans b17.out⟩
        case measure=>simp [intOf];omega
       ·obtain rfl:j = n:=by omega
        have v3:decide ((j:Int) < (j:Int)) = false:=decide_eq_false (by omega)
        have h8:=h
        have hge:growR q.known n2 j = growR q.known n2 q.known.length:=congrArg (growR q.known n2) en.out
        rw [hge] at h8
        clear hge
        have hQ9:=hR6.keep ((hkp E (by have:=hR6.lt;omega) (hk14 E (by have:=hR6.lt;omega) (hcz E (by omega))).1).2.trans ((hk14 E (by have:=hR6.lt;omega) (hcz E (by omega))).2.trans (b6.block E hR6.lt)))
        have hO9:=hO7.keep (w':=wr) (fun d hd=>by
         have k1:=hS7 d hd
         have k2:=hk14 d (by omega) (hcz d k1.1)
         exact (hkp d (by omega) k2.1).2.trans (k2.2.trans (b6.block d k1.2.1)))
        have hS9:∀ d,S6 d → c' d = 0 ∧ w.heap.size ≤ d ∧ d < wr.heap.size ∧ d ≠ B:=fun d hd=>by
         have k1:=hS7 d hd
         have k2:=hb1.size
         have k3:=h1.lt
         exact ⟨(hkp d (by omega) (hk14 d (by omega) (hcz d k1.1)).1).1,by omega,by omega,by omega⟩
        have hb8:=hb
        obtain ⟨_,y0,y1,y2⟩:=id hQ9
        have f0:=h8.box.1.frozen 0
        have f1:=h8.box.1.frozen 1
        have f2:=h8.box.1.frozen 2
        obtain ⟨_,z0,z1,z2⟩:=id h8.box
        obtain ⟨c10,h10⟩:=h8.setX hO9 hS9
        have hb10:=set3_below (u:=(.slice ga6 r.2.groups.length gcap6)) (v:=(.slice (some ⟨gN,0,none⟩) r.2.nodes.length ncap6)) (x:=(.slice wa6 r.2.wires.length wcap6)) hb8 h8.B0
        replace h10:=Lib.hid h10
        replace hb10:=Lib.hid hb10
        clear h8 hO9 hQ9 hb8
        go_wp2_with fail
        go_roundw
        case rel=>exact ⟨k + 1,c10,_,_,_,by omega,by go_num,by rw [hsu3'.out];exact h10.out,hb10.out⟩
        case measure=>simp [intOf];omega
  ·obtain rfl:k = acts.length:=by omega
   rw [List.take_length] at h
   have hBj:=hBoth.out acts
   have hlen:=Sc.run_len acts (Sc.begin X)
   have hlen0:(Sc.begin X).sent.length = 0:=rfl
   generalize (Rf.begin X n).run acts = q at *
   generalize (Sc.begin X).run acts = s at *
   have hql:q.all.length ≤ 80:=by rw [hBj.all];omega
   have hra:q.ahead.length = q.all.length:=by rw [hBj.lr,hBj.all]
   have hri:∀ i,i < q.all.length → (q.ahead.getD i []).length = i:=fun i hi=>hBj.ra i (by rw [← hBj.all];exact hi)
   obtain ⟨us,cs,rfl,_,_⟩:=OSl.form h.S
   obtain ⟨ua,ca,rfl,_,_⟩:=OSl.form h.A
   have hR:=hR.out
   clear hBj hlen hlen0 hBoth h80
   obtain ⟨qX,all,a0,qK⟩:=q
   dsimp only at h hR hra hri hql ⊢
   obtain ⟨L,hL⟩:∃ L,all.length = L:=⟨_,rfl⟩
   rw [hL] at hra hri hql h hR
   rw [hra] at h
   simp only [hra,hL] at ⊢
   replace hR:=Lib.hid hR
   replace hL:=Lib.hid hL
   replace hra:=Lib.hid hra
   replace hri:=Lib.hid hri
   obtain ⟨j0,hj0,jz0,jz1,jz2⟩:=info_parts infoCBool
   obtain ⟨wo,rfl⟩:∃ wo:World,wo = wr:=⟨_,rfl⟩
   go_upto_region 35 with fail
   go_loopw [22] (fun i wr=>∃ (k:Nat) (c:Nat → Nat),k ≤ L ∧ i = .int .i64 k ∧ RfAt w.heap.size wr B c gv nv wv (.slice us L cs) (.slice ua L ca) (.slice (some ⟨Kb,0,none⟩) n n) ⟨qX,all,midL a0 L k,qK⟩ ∧ Below w.heap.size w wr) (fun i _=>L - (intOf i).toNat)
   case atStart=>exact ⟨0,c,by omega,rfl,by rw [midL_zero];exact h,hb⟩
   case round =>
    clear h hb
    obtain ⟨i,c,hi,rfl,h,hb⟩:=hrel
    by_cases hiL:i < L
    ·have e1:decide ((i:Int) < (L:Int)) = true:=decide_eq_true (by omega)
     have e2:decide ((i:Int) < 0) = false:=by simp
     have e3:decide (L ≤ i) = false:=by simp;omega
     have hml:(midL a0 L i).length = L:=by rw [midL_len (by rw [hra.out];omega),hra.out]
     have hms:(midL a0 L i).set i (a0.getD i []) = midL a0 L i:=by
      have e:=midL_at (l:=a0) (L:=L) (i:=i)
      rw [← e]
      exact set_getD_self (by rw [hml];exact hiL)
     have hil:=hri.out i hiL
     obtain ⟨gA,cA,_,_,eA,_⟩:=h.A.row_at (i:=i) (by rw [hml];exact hiL)
     dsimp only at eA
     rw [hml] at eA
     cases eA
     replace hml:=Lib.hid hml
     replace hil:=Lib.hid hil
     replace hms:=Lib.hid hms
     obtain ⟨wo,rfl⟩:∃ wo:World,wo = wr:=⟨_,rfl⟩
     go_upto_region 37 with fail
     go_loopw [] (fun wr=>∃ (p:Nat) (c:Nat → Nat),i ≤ p ∧ p ≤ L ∧ RfAt w.heap.size wr B c gv nv wv (.slice us L cs) (.slice (some ⟨gA,0,none⟩) L ca) (.slice (some ⟨Kb,0,none⟩) n n) ⟨qX,all,(midL a0 L i).set i (a0.getD i [] ++ List.replicate (p - i) false),qK⟩ ∧ Below w.heap.size w wr) (fun wr=>L - lenAt wr ⟨gA,i,none⟩)
     case atStart=>exact ⟨i,c,Nat.le_refl _,by omega,by rw [Nat.sub_self,List.replicate_zero,List.append_nil,hms.out];exact h,hb⟩
     case round =>
      clear h hb
      obtain ⟨p,c,hip,hpL,h,hb⟩:=hrel
      obtain ⟨gA',cA',T,u,eA,hcl,hgc,hgB,k0,hOb,hT,_,back⟩:=h.A.row_at (i:=i) (by rw [List.length_set,hml.out];exact hiL)
      dsimp only at eA hOb hcl
      rw [List.length_set,hml.out] at eA hcl
      obtain ⟨eg,ec⟩:gA = gA' ∧ ca = cA':=by simpa using eA
      subst eg ec
      rw [getD_setM (by rw [hml.out];exact hiL),if_pos rfl] at hOb
      obtain ⟨rj,hrj⟩:∃ r,a0.getD i [] ++ List.replicate (p - i) false = r:=⟨_,rfl⟩
      have hrjl:rj.length = p:=by rw [← hrj,List.length_append,List.length_replicate,hil.out];omega
      rw [hrj] at hOb
      obtain ⟨au,cu,rfl,_,_⟩:=OSl.form hOb
      rw [hrjl] at hOb k0
      have hTl:∀ d,T d → d < wr.heap.size ∧ c d = 3:=fun d hd=>⟨(h.b d (by have h3:c d = 3:=(hT d hd).1;omega)).2,(hT d hd).1⟩
      by_cases hp:p < L
      ·have e4:decide ((p:Int) < (L:Int)) = true:=decide_eq_true (by omega)
       have bA:=below_a1 wr (.cells #[.bool false] 4)
       have hO10:=hOb.keep (fun d hd=>bA.block d (hTl d hd).1)
       have hla:=lenAt_eq k0
       replace hrj:=Lib.hid hrj
       replace hrjl:=Lib.hid hrjl
       replace back:=Lib.hid back
       replace hT:=Lib.hid hT
       replace hla:=Lib.hid hla
       go_wp2_with (at_builtin;refine wpList_push _ rfl _ _ 92 rfl 4 j0 _ 1 1 Tryz.underlying92 hj0 jz0 jz1 jz2 rfl (by decide) BEl.stays _ rfl T rj hO10 (fun b hb=>Nat.lt_of_lt_of_le (hTl b hb).1 bA.size) ⟨wr.heap.size,0,none⟩ _ rfl [.bool false] rfl (cells_new _ _ _) (by simp [Value.oneCell']) (fun _=>False) false rfl (fun _ h=>h.elim) (by rw [hrjl.out];omega) (by omega) (by omega) ?_;intro v15 w15 hp;obtain ⟨⟨S15,hO15,hS15⟩,hz15,hL15,hB15,a15,cap15,rfl⟩:=hp;have hkb:∀ b,b < wr.heap.size → ¬ T b → w15.heap[b]? = wr.heap[b]?:=(fun b hb hT=>(hL15 b ⟨Nat.lt_of_lt_of_le hb bA.size,hT⟩).trans (bA.block b hb));have fz:=(hgB.same (hkb gA (cell_lt k0) (fun e=>(hT.out gA e).2 rfl))).frozen i;have k1:=(World.cell?_of_block (w:=wr) (a:=⟨gA,i,none⟩) (hkb gA (cell_lt k0) (fun e=>(hT.out gA e).2 rfl))).trans k0)
       have hsz:=bA.size
       have hs15:wr.heap.size ≤ w15.heap.size:=Nat.le_trans hsz hz15
       obtain ⟨c17,h17⟩:=h.putA hgc hT.out (fun b hb=>hkb b hb.1 hb.2) hs15 hO15 (fun b hb=>⟨by
        rcases (hS15 b hb).1 with h1 | h1 | h1
        ·exact Or.inl h1
        ·exact h1.elim
        ·exact Or.inr (by omega),(hS15 b hb).2⟩) back.out
       have b17:Below w.heap.size wr (w15.setCell ⟨gA,i,none⟩ (.slice a15 (rj.length + 1) cap15)):=(bA.mono hb.size).trans (below_setCell (hB15 w.heap.size (fun b hb=>(h.b b (by have:=(hTl b hb).2;omega)).1) (by have:=hb.size;omega)) (h.b gA (by have h4:c gA = 3:=hgc;omega)).1 _)
       have hla2:lenAt (w15.setCell ⟨gA,i,none⟩ (.slice a15 (rj.length + 1) cap15)) ⟨gA,i,none⟩ = rj.length + 1:=lenAt_eq ((hgB.same (hkb gA (cell_lt k0) (fun e=>(hT.out gA e).2 rfl))).cell_set (by omega))
       go_roundw
       case rel =>
        refine ⟨p + 1,c17,by omega,by omega, ?_,hb.trans b17⟩
        have e:rj ++ [false] = a0.getD i [] ++ List.replicate (p + 1 - i) false:=by
         rw [← hrj.out,show p + 1 - i = (p - i) + 1 by omega,List.replicate_succ',List.append_assoc]
        rw [← e]
        have h17':=h17
        dsimp only at h17'
        rw [List.set_set] at h17'
        exact h17'
       case measure=>rw [hla2,hla.out,hrjl.out];omega
      ·have hpe:p = L:=by omega
       rw [hpe] at h k0
       have hpd:a0.getD i [] ++ List.replicate (L - i) false = padB L (a0.getD i []):=by unfold padB;rw [hil.out]
       rw [hpd] at h
       have e4:decide ((L:Int) < (L:Int)) = false:=decide_eq_false (by omega)
       have hrl:(padB L (a0.getD i [])).length = L:=padB_len (by rw [hil.out];omega)
       clear hpe hpd hOb back hT hTl hrj hrjl hgB
       replace hrl:=Lib.hid hrl
       obtain ⟨wo,rfl⟩:∃ wo:World,wo = wr:=⟨_,rfl⟩
       go_upto_region 40 with fail
       go_loopw [23] (fun j wr=>∃ (k:Nat) (c:Nat → Nat),k ≤ i ∧ j = .int .i64 k ∧ RfAt w.heap.size wr B c gv nv wv (.slice us L cs) (.slice (some ⟨gA,0,none⟩) L ca) (.slice (some ⟨Kb,0,none⟩) n n) ⟨qX,all,(midL a0 L i).set i (closeJ (closeI a0 L i) (padB L (a0.getD i [])) k),qK⟩ ∧ Below w.heap.size w wr) (fun j _=>i - (intOf j).toNat)
       case atStart=>exact ⟨0,c,by omega,rfl,h,hb⟩
       case round =>
        clear h hb k0 hgc
        obtain ⟨j,c,hj,rfl,h,hb⟩:=hrel
        by_cases hji:j < i
        ·have e5:decide ((j:Int) < (i:Int)) = true:=decide_eq_true (by omega)
         have e6:decide ((j:Int) < 0) = false:=by simp
         have e7:decide (L ≤ j) = false:=by simp;omega
         have hjL:j < L:=by omega
         obtain ⟨rr,hrr⟩:∃ r,closeJ (closeI a0 L i) (padB L (a0.getD i [])) j = r:=⟨_,rfl⟩
         have hrrl:rr.length = L:=by rw [← hrr,closeJ_len];exact hrl.out
         have hlow:=midL_low (l:=a0) (L:=L) hji
         have hajl:((closeI a0 L i).getD j []).length = L:=by rw [closeI_at _ _ hji,closeJ_len];exact padB_len (by rw [hri.out j (by omega)];omega)
         obtain ⟨aj,haj⟩:∃ r,(closeI a0 L i).getD j [] = r:=⟨_,rfl⟩
         have hjs:closeJ (closeI a0 L i) (padB L (a0.getD i [])) (j + 1) = if rr.getD j false = true then closeK rr aj L else rr:=by rw [closeJ,hrr,haj,hrrl]
         rw [hrr] at h
         rw [haj] at hlow hajl
         clear hrr haj
         replace hlow:=Lib.hid hlow
         replace hajl:=Lib.hid hajl
         replace hjs:=Lib.hid hjs
         replace hrrl:=Lib.hid hrrl
         obtain ⟨wo,rfl⟩:∃ wo:World,wo = wr:=⟨_,rfl⟩
         go_upto_region 43 with fail
         go_loopw [24] (fun t wr=>∃ (k:Nat) (c:Nat → Nat),k ≤ L ∧ t = .int .i64 k ∧ Hid (k = 0 ∨ rr.getD j false = true) ∧ RfAt w.heap.size wr B c gv nv wv (.slice us L cs) (.slice (some ⟨gA,0,none⟩) L ca) (.slice (some ⟨Kb,0,none⟩) n n) ⟨qX,all,(midL a0 L i).set i (closeK rr aj k),qK⟩ ∧ Below w.heap.size w wr) (fun t _=>L - (intOf t).toNat)
         case atStart=>exact ⟨0,c,by omega,rfl,Lib.hid (Or.inl rfl),by rw [closeK_zero];exact h,hb⟩
         case round =>
          clear h hb
          obtain ⟨k,c,hk,rfl,hor,h,hb⟩:=hrel
          obtain ⟨gA',cA',T,u,eA,_,hgc,_,k0,hOb,hT,back,_⟩:=h.A.row_at (i:=i) (by rw [List.length_set,hml.out];exact hiL)
          dsimp only at eA hOb
          rw [List.length_set,hml.out] at eA
          obtain ⟨eg,ec⟩:gA = gA' ∧ ca = cA':=by simpa using eA
          subst eg ec
          rw [getD_setM (by rw [hml.out];exact hiL),if_pos rfl] at hOb
          obtain ⟨rk,hrk⟩:∃ r,closeK rr aj k = r:=⟨_,rfl⟩
          have hrkl:rk.length = L:=by rw [← hrk,closeK_len];exact hrrl.out
          have hrkj:rk.getD j false = (rr.getD j false || (decide (j < k) && aj.getD j false)):=by rw [← hrk];exact closeK_at _ _ _ _ (by rw [hrrl.out];omega)
          have hrz:k = 0 → rk = rr:=fun e=>by rw [← hrk,e,closeK_zero]
          have hrs:=fun hkL:k < L=>closeK_succ (r:=rr) (aj:=aj) (k:=k) (by rw [hrrl.out];exact hkL)
          rw [hrk] at hOb hrs
          obtain ⟨gR,cR,eR,_,hgR,_,kj,_⟩:=hOb.bool_at (k:=j) (by rw [hrkl];omega)
          subst eR
          have k0':=k0
          rw [hrkl] at k0
          replace hrkl:=Lib.hid hrkl
          replace hrk:=Lib.hid hrk
          replace hrs:=Lib.hid hrs
          replace back:=Lib.hid back
          replace hrz:=Lib.hid hrz
          have hTl:∀ d,T d → d < wr.heap.size ∧ c d = 3:=fun d hd=>⟨(h.b d (by have h3:c d = 3:=(hT d hd).1;omega)).2,(hT d hd).1⟩
          replace hT:=Lib.hid hT
          by_cases hkL:k < L
          ·have e8:decide ((k:Int) < (L:Int)) = true:=decide_eq_true (by omega)
           have e9:decide ((k:Int) < 0) = false:=by simp
           have e10:decide (L ≤ k) = false:=by simp;omega
           obtain ⟨bv,hbv⟩:∃ b,rk.getD j false = b:=⟨_,rfl⟩
           rw [hbv] at kj hrkj
           replace hrkj:=Lib.hid hrkj
           cases bv with
           | false =>
            go_wp2_with fail
            go_roundw
            case rel =>
             have e:=hrkj.out
             have er:rr.getD j false = false:=by
              cases hh:rr.getD j false with
              | false=>rfl
              | true=>rw [hh] at e;simp at e
             have ek:k = 0:=hor.out.resolve_right (by rw [er];simp)
             refine ⟨j + 1,c,by omega,by go_num, ?_,hb⟩
             rw [hjs.out,er,if_neg (by simp)]
             have h':=h
             rw [hrk.out,hrz.out ek] at h'
             exact h'
            case measure=>simp [intOf];omega
           | true =>
            have hrt:rr.getD j false = true:=by
             rcases hor.out with e | e
             ·rw [← hrz.out e];exact hbv
             ·exact e
            replace hrt:=Lib.hid hrt
            obtain ⟨gR2,cR2,eR,_,hgR2,hbR,kk,backR⟩:=hOb.bool_at (k:=k) (by rw [hrkl.out];exact hkL)
            obtain ⟨eg,ec⟩:gR = gR2 ∧ cR = cR2:=by simpa using eR
            subst eg ec
            obtain ⟨gA',cA',T2,u2,eA,_,_,_,k02,hOb2,hT2,_,_⟩:=h.A.row_at (i:=j) (by rw [List.length_set,hml.out];omega)
            dsimp only at eA hOb2
            rw [List.length_set,hml.out] at eA
            obtain ⟨eg,ec⟩:gA = gA' ∧ ca = cA':=by simpa using eA
            subst eg ec
            rw [getD_setM (by rw [hml.out];exact hiL),if_neg (by omega),hlow.out] at hOb2
            obtain ⟨gS,cS,eS,_,_,_,ks,_⟩:=hOb2.bool_at (k:=k) (by rw [hajl.out];exact hkL)
            subst eS
            rw [hajl.out] at k02
            have fk:=hbR.frozen k
            have hrs:=hrs.out hkL
            clear hOb2 hT2 eR eA
            obtain ⟨b2,hb2⟩:∃ b,aj.getD k false = b:=⟨_,rfl⟩
            obtain ⟨b1,hb1'⟩:∃ b,rk.getD k false = b:=⟨_,rfl⟩
            rw [hb2] at ks hrs
            rw [hb1'] at kk hrs
            clear hb2 hb1' hbv
            replace hrs:=Lib.hid hrs
            replace backR:=Lib.hid backR
            cases b1 with
            | false =>
             go_upto_region 45 with fail
             have hSB:∀ o,Below wr.heap.size wr o → o.cell? ⟨gA,i,none⟩ = some (.slice (some ⟨gR,0,none⟩) L cR) ∧ o.cell? ⟨gR,k,none⟩ = some (.bool false) ∧ o.cell? ⟨gA,j,none⟩ = some (.slice (some ⟨gS,0,none⟩) L cS) ∧ o.cell? ⟨gS,k,none⟩ = some (.bool b2):=fun o q =>
              ⟨(q.cell (cell_lt k0)).trans k0,(q.cell (cell_lt kk)).trans kk,(q.cell (cell_lt k02)).trans k02,(q.cell (cell_lt ks)).trans ks⟩
             refine wp_region_N (fun o=>o.cell? ⟨gA,i,none⟩ = some (.slice (some ⟨gR,0,none⟩) L cR) ∧ o.cell? ⟨gR,k,none⟩ = some (.bool false) ∧ o.cell? ⟨gA,j,none⟩ = some (.slice (some ⟨gS,0,none⟩) L cS) ∧ o.cell? ⟨gS,k,none⟩ = some (.bool b2)) 21 23 rfl (by kernel_rfl) (hSB _ (below_drewN wr 1)) (fun hSw=>?_)
             refine tk 0 ?_ rfl rfl (by kernel_rfl) (.inl ⟨by rfl, ?_⟩) hSw ?_
             rotate_left
             ·rintro w ⟨s0,s1,s2,s3⟩;go_simp;try with_reducible rfl
             simp only [tkp,tkz,tks]
             refine tk 1 ?_ rfl rfl (by kernel_rfl) (.inl ⟨by rfl, ?_⟩) hSw ?_
             rotate_left
             ·rintro w ⟨s0,s1,s2,s3⟩;go_simp;try with_reducible rfl
             simp only [tkp,tkz,tks]
             refine tk 2 ?_ rfl rfl (by kernel_rfl) (.inl ⟨by rfl, ?_⟩) hSw ?_
             rotate_left
             ·rintro w ⟨s0,s1,s2,s3⟩;go_simp;try with_reducible rfl
             simp only [tkp,tkz,tks]
             refine tk 3 ?_ rfl rfl (by kernel_rfl) (.inl ⟨by rfl, ?_⟩) hSw ?_
             rotate_left
             ·rintro w ⟨s0,s1,s2,s3⟩;go_simp;try with_reducible rfl
             simp only [tkp,tkz,tks]
             refine tk 4 ?_ rfl rfl (by kernel_rfl) (.inl ⟨by rfl, ?_⟩) hSw ?_
             rotate_left
             ·rintro w ⟨s0,s1,s2,s3⟩;go_simp;try with_reducible rfl
             simp only [tkp,tkz,tks]
             refine tk 5 ?_ rfl rfl (by kernel_rfl) (.inl ⟨by rfl, ?_⟩) hSw ?_
             rotate_left
             ·rintro w ⟨s0,s1,s2,s3⟩;go_simp;try with_reducible rfl
             simp only [tkp,tkz,tks]
             refine tk 6 ?_ rfl rfl (by kernel_rfl) (.inl ⟨by rfl, ?_⟩) hSw ?_
             rotate_left
             ·rintro w ⟨s0,s1,s2,s3⟩;go_simp;try with_reducible rfl
             simp only [tkp,tkz,tks]
             refine tk 7 ?_ rfl rfl (by kernel_rfl) (.inl ⟨by rfl, ?_⟩) hSw ?_
             rotate_left
             ·rintro w ⟨s0,s1,s2,s3⟩;go_simp;try with_reducible rfl
             simp only [tkp,tkz,tks]
             refine tk 8 ?_ rfl rfl (by kernel_rfl) (.inl ⟨by rfl, ?_⟩) hSw ?_
             rotate_left
             ·rintro w ⟨s0,s1,s2,s3⟩;go_simp;try with_reducible rfl
             simp only [tkp,tkz,tks]
             refine tk 9 ?_ rfl rfl (by kernel_rfl) (.inl ⟨by rfl, ?_⟩) hSw ?_
             rotate_left
             ·rintro w ⟨s0,s1,s2,s3⟩;go_simp;try with_reducible rfl
             simp only [tkp,tkz,tks]
             refine tk 10 ?_ rfl rfl (by kernel_rfl) (.inl ⟨by rfl, ?_⟩) hSw ?_
             rotate_left
             ·rintro w ⟨s0,s1,s2,s3⟩;go_simp;try with_reducible rfl
             simp only [tkp,tkz,tks]
             refine tk 11 ?_ rfl rfl (by kernel_rfl) (.inl ⟨by rfl, ?_⟩) hSw ?_
             rotate_left
             ·rintro w ⟨s0,s1,s2,s3⟩;go_simp;try with_reducible rfl
             simp only [tkp,tkz,tks]
             refine tk 12 ?_ rfl rfl (by kernel_rfl) (.inl ⟨by rfl, ?_⟩) hSw ?_
             rotate_left
             ·rintro w ⟨s0,s1,s2,s3⟩;go_simp;try with_reducible rfl
             simp only [tkp,tkz,tks]
             refine tk 13 ?_ rfl rfl (by kernel_rfl) (.inl ⟨by rfl, ?_⟩) hSw ?_
             rotate_left
             ·rintro w ⟨s0,s1,s2,s3⟩;go_simp;try with_reducible rfl
             simp only [tkp,tkz,tks]
             refine tk 14 ?_ rfl rfl (by kernel_rfl) (.inl ⟨by rfl, ?_⟩) hSw ?_
             rotate_left
             ·rintro w ⟨s0,s1,s2,s3⟩;go_simp;try with_reducible rfl
             simp only [tkp,tkz,tks]
             refine tk 15 ?_ rfl rfl (by kernel_rfl) (.inl ⟨by rfl, ?_⟩) hSw ?_
             rotate_left
             ·rintro w ⟨s0,s1,s2,s3⟩;go_simp;try with_reducible rfl
             simp only [tkp,tkz,tks]
             refine tk 16 ?_ rfl rfl (by kernel_rfl) (.inl ⟨by rfl, ?_⟩) hSw ?_
             rotate_left
             ·rintro w ⟨s0,s1,s2,s3⟩;go_simp;try with_reducible rfl
             simp only [tkp,tkz,tks]
             refine tk 17 ?_ rfl rfl (by kernel_rfl) (.inl ⟨by rfl, ?_⟩) hSw ?_
             rotate_left
             ·rintro w ⟨s0,s1,s2,s3⟩;go_simp;try with_reducible rfl
             simp only [tkp,tkz,tks]
             refine tk 18 ?_ rfl rfl (by kernel_rfl) (.inl ⟨by rfl, ?_⟩) hSw ?_
             rotate_left
             ·rintro w ⟨s0,s1,s2,s3⟩;go_simp;try with_reducible rfl
             simp only [tkp,tkz,tks]
             refine tk 19 ?_ rfl rfl (by kernel_rfl) (.inl ⟨by rfl, ?_⟩) hSw ?_
             rotate_left
             ·rintro w ⟨s0,s1,s2,s3⟩;go_simp;try with_reducible rfl
             simp only [tkp,tkz,tks]
             refine tk 20 ?_ rfl rfl (by kernel_rfl) (.inl ⟨by rfl, ?_⟩) hSw ?_
             rotate_left
             ·rintro w ⟨s0,s1,s2,s3⟩;go_simp;try with_reducible rfl
             simp only [tkp,tkz,tks]
             refine N_rest 21 2 (Nat.le_refl _) rfl (by kernel_rfl) ?_
             simp only [List.drop_succ_cons,List.drop_zero]
             clear hSw hSB
             go_wp2_with fail
             go_roundw
             case rel =>
              have e:=hrs.out
              simp only [Bool.false_or] at e
              have hgRc:c gR = 3:=(hT.out gR hgR).1
              have hO2:=backR.out (wr.drewN 1) b2 (fun d hd=>(below_drewN wr 1).block d (hTl d hd).1)
              have hK2:=back.out ((wr.drewN 1).setCell ⟨gR,k,none⟩ (.bool b2)) _ (fun d hd=>(Go.Deep.blk_setCell_other _ _ _ _ (fun h=>hd.2 (by rw [h];exact hgR))).trans ((below_drewN wr 1).block d (h.b d (by have h3:c d = 3:=hd.1;omega)).2)) hO2
              dsimp only at hK2
              rw [List.set_set, ← e] at hK2
              exact ⟨k + 1,c,by omega,by go_num,Lib.hid (Or.inr hrt.out),h.inA hK2 ⟨rfl,rfl,rfl,by show wr.heap.size ≤ (wr.setCell ⟨gR,k,none⟩ (.bool b2)).heap.size;rw [Go.Deep.nblk_setCell];exact Nat.le_refl _,fun d _ hn=>Go.Deep.blk_setCell_other _ _ _ _ (fun h=>hn (show c d = 3 from (congrArg c h).trans hgRc))⟩,below_setCell (hb.trans ((below_drewN wr 1).mono hb.size)) (h.b gR (by omega)).1 _⟩
             case measure=>simp [intOf];omega
            | true =>
             go_upto_region 45 with fail
             have hSB:∀ o,Below wr.heap.size wr o → o.cell? ⟨gA,i,none⟩ = some (.slice (some ⟨gR,0,none⟩) L cR) ∧ o.cell? ⟨gR,k,none⟩ = some (.bool true) ∧ o.cell? ⟨gA,j,none⟩ = some (.slice (some ⟨gS,0,none⟩) L cS) ∧ o.cell? ⟨gS,k,none⟩ = some (.bool b2):=fun o q =>
              ⟨(q.cell (cell_lt k0)).trans k0,(q.cell (cell_lt kk)).trans kk,(q.cell (cell_lt k02)).trans k02,(q.cell (cell_lt ks)).trans ks⟩
             refine wp_region_N (fun o=>o.cell? ⟨gA,i,none⟩ = some (.slice (some ⟨gR,0,none⟩) L cR) ∧ o.cell? ⟨gR,k,none⟩ = some (.bool true) ∧ o.cell? ⟨gA,j,none⟩ = some (.slice (some ⟨gS,0,none⟩) L cS) ∧ o.cell? ⟨gS,k,none⟩ = some (.bool b2)) 21 23 rfl (by kernel_rfl) (hSB _ (below_drewN wr 1)) (fun hSw=>?_)
             refine tk 0 ?_ rfl rfl (by kernel_rfl) (.inl ⟨by rfl, ?_⟩) hSw ?_
             rotate_left
             ·rintro w ⟨s0,s1,s2,s3⟩;go_simp;try with_reducible rfl
             simp only [tkp,tkz,tks]
             refine tk 1 ?_ rfl rfl (by kernel_rfl) (.inl ⟨by rfl, ?_⟩) hSw ?_
             rotate_left
             ·rintro w ⟨s0,s1,s2,s3⟩;go_simp;try with_reducible rfl
             simp only [tkp,tkz,tks]
             refine tk 2 ?_ rfl rfl (by kernel_rfl) (.inl ⟨by rfl, ?_⟩) hSw ?_
             rotate_left
             ·rintro w ⟨s0,s1,s2,s3⟩;go_simp;try with_reducible rfl
             simp only [tkp,tkz,tks]
             refine tk 3 ?_ rfl rfl (by kernel_rfl) (.inl ⟨by rfl, ?_⟩) hSw ?_
             rotate_left
             ·rintro w ⟨s0,s1,s2,s3⟩;go_simp;try with_reducible rfl
             simp only [tkp,tkz,tks]
             refine tk 4 ?_ rfl rfl (by kernel_rfl) (.inl ⟨by rfl, ?_⟩) hSw ?_
             rotate_left
             ·rintro w ⟨s0,s1,s2,s3⟩;go_simp;try with_reducible rfl
             simp only [tkp,tkz,tks]
             refine tk 5 ?_ rfl rfl (by kernel_rfl) (.inl ⟨by rfl, ?_⟩) hSw ?_
             rotate_left
             ·rintro w ⟨s0,s1,s2,s3⟩;go_simp;try with_reducible rfl
             simp only [tkp,tkz,tks]
             refine tk 6 ?_ rfl rfl (by kernel_rfl) (.inl ⟨by rfl, ?_⟩) hSw ?_
             rotate_left
             ·rintro w ⟨s0,s1,s2,s3⟩;go_simp;try with_reducible rfl
             simp only [tkp,tkz,tks]
             refine tk 7 ?_ rfl rfl (by kernel_rfl) (.inl ⟨by rfl, ?_⟩) hSw ?_
             rotate_left
             ·rintro w ⟨s0,s1,s2,s3⟩;go_simp;try with_reducible rfl
             simp only [tkp,tkz,tks]
             refine tk 8 ?_ rfl rfl (by kernel_rfl) (.inl ⟨by rfl, ?_⟩) hSw ?_
             rotate_left
             ·rintro w ⟨s0,s1,s2,s3⟩;go_simp;try with_reducible rfl
             simp only [tkp,tkz,tks]
             refine tk 9 ?_ rfl rfl (by kernel_rfl) (.inl ⟨by rfl, ?_⟩) hSw ?_
             rotate_left
             ·rintro w ⟨s0,s1,s2,s3⟩;go_simp;try with_reducible rfl
             simp only [tkp,tkz,tks]
             refine tk 10 ?_ rfl rfl (by kernel_rfl) (.inl ⟨by rfl, ?_⟩) hSw ?_
             rotate_left
             ·rintro w ⟨s0,s1,s2,s3⟩;go_simp;try with_reducible rfl
             simp only [tkp,tkz,tks]
             refine tk 11 ?_ rfl rfl (by kernel_rfl) (.inl ⟨by rfl, ?_⟩) hSw ?_
             rotate_left
             ·rintro w ⟨s0,s1,s2,s3⟩;go_simp;try with_reducible rfl
             simp only [tkp,tkz,tks]
             refine tk 12 ?_ rfl rfl (by kernel_rfl) (.inl ⟨by rfl, ?_⟩) hSw ?_
             rotate_left
             ·rintro w ⟨s0,s1,s2,s3⟩;go_simp;try with_reducible rfl
             simp only [tkp,tkz,tks]
             refine tk 13 undef rfl rfl (by kernel_rfl) (.inr ⟨by rfl,rfl⟩) hSw ?_
             simp only [tkp,tkz,tks]
             refine tk 14 undef rfl rfl (by kernel_rfl) (.inr ⟨by rfl,rfl⟩) hSw ?_
             simp only [tkp,tkz,tks]
             refine tk 15 undef rfl rfl (by kernel_rfl) (.inr ⟨by rfl,rfl⟩) hSw ?_
             simp only [tkp,tkz,tks]
             refine tk 16 undef rfl rfl (by kernel_rfl) (.inr ⟨by rfl,rfl⟩) hSw ?_
             simp only [tkp,tkz,tks]
             refine tk 17 undef rfl rfl (by kernel_rfl) (.inr ⟨by rfl,rfl⟩) hSw ?_
             simp only [tkp,tkz,tks]
             refine tk 18 undef rfl rfl (by kernel_rfl) (.inr ⟨by rfl,rfl⟩) hSw ?_
             simp only [tkp,tkz,tks]
             refine tk 19 undef rfl rfl (by kernel_rfl) (.inr ⟨by rfl,rfl⟩) hSw ?_
             simp only [tkp,tkz,tks]
             refine tk 20 ?_ rfl rfl (by kernel_rfl) (.inl ⟨by rfl, ?_⟩) hSw ?_
             rotate_left
             ·rintro w ⟨s0,s1,s2,s3⟩;go_simp;try with_reducible rfl
             simp only [tkp,tkz,tks]
             refine N_rest 21 2 (Nat.le_refl _) rfl (by kernel_rfl) ?_
             simp only [List.drop_succ_cons,List.drop_zero]
             clear hSw hSB
             go_wp2_with fail
             go_roundw
             case rel =>
              have e:=hrs.out
              simp only [Bool.true_or] at e
              have hgRc:c gR = 3:=(hT.out gR hgR).1
              have hO2:=backR.out (wr.drewN 1) true (fun d hd=>(below_drewN wr 1).block d (hTl d hd).1)
              have hK2:=back.out ((wr.drewN 1).setCell ⟨gR,k,none⟩ (.bool true)) _ (fun d hd=>(Go.Deep.blk_setCell_other _ _ _ _ (fun h=>hd.2 (by rw [h];exact hgR))).trans ((below_drewN wr 1).block d (h.b d (by have h3:c d = 3:=hd.1;omega)).2)) hO2
              dsimp only at hK2
              rw [List.set_set, ← e] at hK2
              exact ⟨k + 1,c,by omega,by go_num,Lib.hid (Or.inr hrt.out),h.inA hK2 ⟨rfl,rfl,rfl,by show wr.heap.size ≤ (wr.setCell ⟨gR,k,none⟩ (.bool true)).heap.size;rw [Go.Deep.nblk_setCell];exact Nat.le_refl _,fun d _ hn=>Go.Deep.blk_setCell_other _ _ _ _ (fun h=>hn (show c d = 3 from (congrArg c h).trans hgRc))⟩,below_setCell (hb.trans ((below_drewN wr 1).mono hb.size)) (h.b gR (by omega)).1 _⟩
             case measure=>simp [intOf];omega
          ·have hke:k = L:=by omega
           have e8:decide ((k:Int) < (L:Int)) = false:=decide_eq_false (by omega)
           replace hke:=Lib.hid hke
           go_wp2_with fail
           go_roundw
           case rel =>
            have hrt:rr.getD j false = true:=hor.out.resolve_left (by have:=hke.out;omega)
            refine ⟨j + 1,c,by omega,by go_num, ?_,hb⟩
            rw [hjs.out,if_pos hrt]
            have h':=h
            rw [hke.out] at h'
            exact h'
           case measure=>simp [intOf];omega
        ·have hje:j = i:=by omega
         have e5:decide ((j:Int) < (i:Int)) = false:=decide_eq_false (by omega)
         rw [hje] at h
         have hsc:=midL_succ (l:=a0) (L:=L) (i:=i) (by rw [hra.out];exact hiL)
         rw [hsc] at h
         clear hje hsc
         go_wp2_with fail
         go_roundw
         case rel=>exact ⟨i + 1,c,by omega,by go_num,h,hb⟩
         case measure=>simp [intOf];omega
    ·have hie:i = L:=by omega
     have e5:decide ((i:Int) < (L:Int)) = false:=decide_eq_false (by omega)
     rw [hie,midL_end hra.out] at h
     clear hie
     go_wp2_with fail
     rw [← hP.out,hR.out]
     exact ⟨_,_,rfl,OMsgs.msgs h.S,OBRows.rows h.A,hb⟩
end Go.Proofs.YtnalakhelicjcaaGreat
