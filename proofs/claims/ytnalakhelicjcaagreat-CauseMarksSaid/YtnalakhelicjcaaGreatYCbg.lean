/-
  Cause: what must be in any case.
-/
import Derived.Test.YtnalakhelicjcaaGreatYMw
import Derived.Test.YtnalakhelicjcaaGreatYKS
import Derived.Test.YtnalakhelicjcaaGreatYKN
set_option maxRecDepth 100000
namespace Go.Proofs.YtnalakhelicjcaaGreat
open Go.RowKit Go.Deep Go.Shelf Go.BigFrame
def aCs:List Ac:=[⟨1,0,0,⟨#[97]⟩⟩,⟨1,2,1,⟨#[98]⟩⟩,⟨3,0,1,⟨#[]⟩⟩,⟨2,1,1,⟨#[]⟩⟩,⟨3,1,2,⟨#[]⟩⟩,⟨1,2,1,⟨#[99]⟩⟩]
theorem infoCActC:(Tryz.prog.info? 23).map (fun i=>(i.zero,i.size,i.bytes)) = some (some (.agg #[.int .i64 0, .int .i64 0, .int .i64 0, .string ByteArray.empty]),4,40):=by kernel_rfl
def mC3:M:=⟨2,1,3,false,⟨#[99]⟩⟩
def rowsC:List (List Bool):=[[false,false,false,false],[false,false,false,false],[true,false,false,false],[true,true,true,false]]
theorem MC_1:(markF 3 [3,6] aCs).1 = 0 ∧ (markF 3 [3,6] aCs).2.1.length = 4:=by decide +kernel
theorem MC_3:eqM ((markF 3 [3,6] aCs).2.1.getD 3 M.zero) mC3 = true:=by decide +kernel
theorem MC_r:(markF 3 [3,6] aCs).2.2 = rowsC:=by decide +kernel
theorem MC_0:(markF 3 [] []).1 = 2:=by decide +kernel
theorem MC_81:(markF 3 [3,6] (List.replicate 81 Ac.zero)).1 = 2:=by decide +kernel
theorem aCs_fits:∀ x ∈ aCs,x.fits:=by
 intro x hx
 simp only [aCs,List.mem_cons,List.not_mem_nil,or_false] at hx
 rcases hx with rfl | rfl | rfl | rfl | rfl | rfl <;> (refine ⟨?_, ?_, ?_, ?_⟩ <;> simp [I64] <;> decide)
theorem acts_zero {w:World} {base:Nat} {e:TypeId} {v:Value} (h:w.ownsRow base e 4 v 81 (madeCells #[.int .i64 0, .int .i64 0, .int .i64 0, .string ByteArray.empty] (81 * 4)).toList):Acts w v (List.replicate 81 Ac.zero):=by
 have e1:(madeCells #[.int .i64 0, .int .i64 0, .int .i64 0, .string ByteArray.empty] (81 * 4)).toList = (List.replicate 81 Ac.zero.cells).flatten:=by kernel_rfl
 have hr:=Row.of_owns h (by rw [Array.length_toList,size_madeCells];decide)
 rw [e1] at hr
 refine ⟨List.replicate 81 Ac.zero.cells,by simp,fun c hc=>by rw [List.eq_of_mem_replicate hc];rfl,hr,fun i h1 h2=>?_⟩
 rw [List.getElem_replicate,List.getElem_replicate]
 exact ⟨rfl,by refine ⟨?_, ?_, ?_, ?_⟩ <;> simp [I64,Ac.zero]⟩
theorem bools_lit (w:World) (bs:List Bool) (hl:bs.length ≤ 1000) (cs:Array Value) (hc:cs.toList = bs.map Value.bool):BoolsAt (w.alloc (.cells cs 4)) (.slice (some ⟨w.heap.size,0,none⟩) bs.length bs.length) bs:=by
 have hf:(bs.map fun b=>[Value.bool b]).flatten = bs.map Value.bool:=by
  clear hc hl
  induction bs with
  | nil=>rfl
  | cons b bs ih=>rw [List.map_cons,List.flatten_cons,ih];rfl
 refine ⟨bs.map fun b=>[.bool b],by simp,fun c hc=>?_,⟨by rw [hf];simp,by rw [hf];simp;omega,_,_,rfl,Nat.le_refl _,fun _=>⟨w.heap.size,0,rfl,fun k hk=>?_⟩⟩,fun i h1 h2=>by simp [BRd]⟩
 ·obtain ⟨x,_,rfl⟩:=List.mem_map.1 hc
  rfl
 ·rw [hf] at hk ⊢
  rw [Nat.zero_add,cell_of_row _ w.heap.size k cs 4 (0,0) (heap_alloc_new w _)]
  rw [← hc] at hk ⊢
  simp at hk
  simp [hk]
theorem brows_lit {w:World} {l:List (List Bool)} {vs:List Value} (hv:vs.length = l.length) (h:∀ i (h1:i < vs.length) (h2:i < l.length),BoolsAt w vs[i] l[i]) (hl:l.length ≤ 1000) (cs:Array Value) (hc:cs.toList = vs):BRows (w.alloc (.cells cs 92)) (.slice (some ⟨w.heap.size,0,none⟩) l.length l.length) l:=by
 have hf:(vs.map fun b=>[b]).flatten = vs:=by
  clear hc hv h
  induction vs with
  | nil=>rfl
  | cons b bs ih=>rw [List.map_cons,List.flatten_cons,ih];rfl
 refine ⟨vs.map fun b=>[b],by simpa using hv,fun c hc=>?_,⟨by rw [hf];simpa using hv,by rw [hf,hv];omega,_,_,rfl,Nat.le_refl _,fun _=>⟨w.heap.size,0,rfl,fun k hk=>?_⟩⟩,fun i h1 h2=>?_⟩
 ·obtain ⟨x,_,rfl⟩:=List.mem_map.1 hc
  rfl
 ·rw [hf] at hk ⊢
  rw [Nat.zero_add,cell_of_row _ w.heap.size k cs 92 (0,0) (heap_alloc_new w _)]
  rw [← hc] at hk ⊢
  simp at hk
  simp [hk]
 ·rw [List.getElem_map]
  exact ⟨_,rfl,(h i (by simpa using h1) h2).below (below_a1 w _)⟩
theorem rows_lit {w:World} {a b c d:Nat} (h1:BoolsAt w (.slice (some ⟨a,0,none⟩) 4 4) [false,false,false,false]) (h2:BoolsAt w (.slice (some ⟨b,0,none⟩) 4 4) [false,false,false,false]) (h3:BoolsAt w (.slice (some ⟨c,0,none⟩) 4 4) [true,false,false,false]) (h4:BoolsAt w (.slice (some ⟨d,0,none⟩) 4 4) [true,true,true,false]) :
  BRows (w.alloc (.cells #[.slice (some ⟨a,0,none⟩) 4 4, .slice (some ⟨b,0,none⟩) 4 4, .slice (some ⟨c,0,none⟩) 4 4, .slice (some ⟨d,0,none⟩) 4 4] 92)) (.slice (some ⟨w.heap.size,0,none⟩) 4 4) rowsC ∧ Below w.heap.size w (w.alloc (.cells #[.slice (some ⟨a,0,none⟩) 4 4, .slice (some ⟨b,0,none⟩) 4 4, .slice (some ⟨c,0,none⟩) 4 4, .slice (some ⟨d,0,none⟩) 4 4] 92)):=
 ⟨brows_lit (w:=w) (l:=rowsC) (vs:=[.slice (some ⟨a,0,none⟩) 4 4, .slice (some ⟨b,0,none⟩) 4 4, .slice (some ⟨c,0,none⟩) 4 4, .slice (some ⟨d,0,none⟩) 4 4]) rfl (fun i _ _=>by
  match i with
  | 0=>exact h1
  | 1=>exact h2
  | 2=>exact h3
  | 3=>exact h4) (by decide) #[.slice (some ⟨a,0,none⟩) 4 4, .slice (some ⟨b,0,none⟩) 4 4, .slice (some ⟨c,0,none⟩) 4 4, .slice (some ⟨d,0,none⟩) 4 4] rfl,below_a1 _ _⟩
theorem lit_at (w:World) (a b c:Bool):∃ v R,w.alloc (.cells #[.bool a, .bool b, .bool c, .bool false] 4) = v ∧ w.heap.size = R ∧ BoolsAt v (.slice (some ⟨R,0,none⟩) 4 4) [a,b,c,false] ∧ Below w.heap.size w v:=
 ⟨_,_,rfl,rfl,bools_lit w [a,b,c,false] (by simp) #[.bool a, .bool b, .bool c, .bool false] rfl,below_a1 w _⟩
section
variable {P:Program} {md:Region.Mode} {Q:Exit → Act → World → Prop} {S:World → Prop} {n:Nat}
theorem N_three' {l:List Oper} {i j k:Nat} {oi oj ok:Oper} {fuel:Nat} {listed:Array Bool} {a:Act} {w:World} (hr:Region.ready md l.toArray listed = [i,j,k]) (hi:l[i]? = some oi) (hj:l[j]? = some oj) (hk:l[k]? = some ok)
  (h1:wpList P l.toArray (QK Q fun a' w'=>(i < n → S w') ∧ wpAnyN P md l.toArray Q S n fuel (listed.setIfInBounds i true) a' w') [oi] a w)
  (h2:wpList P l.toArray (QK Q fun a' w'=>(j < n → S w') ∧ wpAnyN P md l.toArray Q S n fuel (listed.setIfInBounds j true) a' w') [oj] a w)
  (h3:wpList P l.toArray (QK Q fun a' w'=>(k < n → S w') ∧ wpAnyN P md l.toArray Q S n fuel (listed.setIfInBounds k true) a' w') [ok] a w):wpAnyN P md l.toArray Q S n (fuel + 1) listed a w:=
 ⟨fun h0=>(by rw [hr] at h0;cases h0),fun x hx=>by
  rw [hr] at hx
  rcases List.mem_cons.1 hx with rfl | hx
  ·exact wpOp_of_one (by simpa using hi) h1
  rcases List.mem_cons.1 hx with rfl | hx
  ·exact wpOp_of_one (by simpa using hj) h2
  obtain rfl:x = k:=by simpa using hx
  exact wpOp_of_one (by simpa using hk) h3⟩
theorem N_four' {l:List Oper} {i j k m:Nat} {oi oj ok om:Oper} {fuel:Nat} {listed:Array Bool} {a:Act} {w:World} (hr:Region.ready md l.toArray listed = [i,j,k,m]) (hi:l[i]? = some oi) (hj:l[j]? = some oj) (hk:l[k]? = some ok) (hm:l[m]? = some om)
  (h1:wpList P l.toArray (QK Q fun a' w'=>(i < n → S w') ∧ wpAnyN P md l.toArray Q S n fuel (listed.setIfInBounds i true) a' w') [oi] a w)
  (h2:wpList P l.toArray (QK Q fun a' w'=>(j < n → S w') ∧ wpAnyN P md l.toArray Q S n fuel (listed.setIfInBounds j true) a' w') [oj] a w)
  (h3:wpList P l.toArray (QK Q fun a' w'=>(k < n → S w') ∧ wpAnyN P md l.toArray Q S n fuel (listed.setIfInBounds k true) a' w') [ok] a w)
  (h4:wpList P l.toArray (QK Q fun a' w'=>(m < n → S w') ∧ wpAnyN P md l.toArray Q S n fuel (listed.setIfInBounds m true) a' w') [om] a w):wpAnyN P md l.toArray Q S n (fuel + 1) listed a w:=
 ⟨fun h0=>(by rw [hr] at h0;cases h0),fun x hx=>by
  rw [hr] at hx
  rcases List.mem_cons.1 hx with rfl | hx
  ·exact wpOp_of_one (by simpa using hi) h1
  rcases List.mem_cons.1 hx with rfl | hx
  ·exact wpOp_of_one (by simpa using hj) h2
  rcases List.mem_cons.1 hx with rfl | hx
  ·exact wpOp_of_one (by simpa using hk) h3
  obtain rfl:x = m:=by simpa using hx
  exact wpOp_of_one (by simpa using hm) h4⟩
end
set_option maxHeartbeats 4000000 in
theorem causeBegun_c (w:World):Calls Tryz.prog 24 #[] w (GivesB (.bool true) w):=by
 obtain ⟨P,hP⟩:∃ P,GivesB (.bool true) w = P:=⟨_,rfl⟩
 rw [hP]
 replace hP:=Lib.hid hP
 have hM1:=fun (o:World) gv av (h:Ints o gv [3,6]) (h2:Acts o av aCs)=>Mark_c h 3 h2
 have hM2:=fun (o:World) gv av (h:Ints o gv []) (h2:Acts o av [])=>Mark_c h 3 h2
 have hM3:=fun (o:World) gv av (h:Ints o gv [3,6]) (h2:Acts o av (List.replicate 81 Ac.zero))=>Mark_c h 3 h2
 have hm3:=eqM_iff.1 MC_3
 have hml:=MC_1.2
 have hmr:=MC_r
 unfold MPost at hM1 hM2 hM3
 rw [MC_1.1] at hM1
 rw [MC_0] at hM2
 rw [MC_81] at hM3
 generalize markF 3 [3,6] aCs = r1 at *
 generalize markF 3 [] [] = r2 at *
 generalize markF 3 [3,6] (List.replicate 81 Ac.zero) = r3 at *
 replace hM1:=Lib.hid hM1
 replace hM2:=Lib.hid hM2
 replace hM3:=Lib.hid hM3
 replace hm3:=Lib.hid hm3
 replace hml:=Lib.hid hml
 replace hmr:=Lib.hid hmr
 obtain ⟨q0,hq0,qz0,qz1,qz2⟩:=info_parts infoCActC
 go_enter Tryz.func24,Tryz.ntmps24
 go_wp2_with fail
 refine (two_c _).mono ?_
 rintro e w1 ⟨tv,rfl,hT1,b1⟩
 obtain ⟨_,ta,tcap,rfl,_⟩:=id hT1.open
 go_wp2_with fail
 refine (act_c _ 1 0 0 ⟨#[97]⟩).mono ?_
 rintro e w2 ⟨rfl,c⟩
 have b2:=below_trans b1 c
 have hT2:=hT1.below c
 clear c
 unfold Ac.val
 go_wp2_with fail
 refine (act_c _ 1 2 1 ⟨#[98]⟩).mono ?_
 rintro e w3 ⟨rfl,c⟩
 have b3:=below_trans b2 c
 have hT3:=hT2.below c
 clear c
 unfold Ac.val
 go_wp2_with fail
 refine (act_c _ 3 0 1 ⟨#[]⟩).mono ?_
 rintro e w4 ⟨rfl,c⟩
 have b4:=below_trans b3 c
 have hT4:=hT3.below c
 clear c
 unfold Ac.val
 go_wp2_with fail
 refine (act_c _ 2 1 1 ⟨#[]⟩).mono ?_
 rintro e w5 ⟨rfl,c⟩
 have b5:=below_trans b4 c
 have hT5:=hT4.below c
 clear c
 unfold Ac.val
 go_wp2_with fail
 refine (act_c _ 3 1 2 ⟨#[]⟩).mono ?_
 rintro e w6 ⟨rfl,c⟩
 have b6:=below_trans b5 c
 have hT6:=hT5.below c
 clear c
 unfold Ac.val
 go_wp2_with fail
 refine (act_c _ 1 2 1 ⟨#[99]⟩).mono ?_
 rintro e w7 ⟨rfl,c⟩
 have b7:=below_trans b6 c
 have hT7:=hT6.below c
 clear c
 unfold Ac.val
 have hL:=Acts.lit w7 aCs aCs_fits (by simp [aCs]) #[.int .i64 1, .int .i64 0, .int .i64 0, .string ⟨#[97]⟩, .int .i64 1, .int .i64 2, .int .i64 1, .string ⟨#[98]⟩, .int .i64 3, .int .i64 0, .int .i64 1, .string ⟨#[]⟩, .int .i64 2, .int .i64 1, .int .i64 1, .string ⟨#[]⟩, .int .i64 3, .int .i64 1, .int .i64 2, .string ⟨#[]⟩, .int .i64 1, .int .i64 2, .int .i64 1, .string ⟨#[99]⟩] rfl
 have bl:=below_a1 w7 (.cells #[.int .i64 1, .int .i64 0, .int .i64 0, .string ⟨#[97]⟩, .int .i64 1, .int .i64 2, .int .i64 1, .string ⟨#[98]⟩, .int .i64 3, .int .i64 0, .int .i64 1, .string ⟨#[]⟩, .int .i64 2, .int .i64 1, .int .i64 1, .string ⟨#[]⟩, .int .i64 3, .int .i64 1, .int .i64 2, .string ⟨#[]⟩, .int .i64 1, .int .i64 2, .int .i64 1, .string ⟨#[99]⟩] 23)
 have hM:=hM1.out _ _ _ (hT7.below bl) hL
 have b8:=below_trans b7 bl
 clear hL hT1 hT2 hT3 hT4 hT5 hT6 hT7 hM1 bl b1 b2 b3 b4 b5 b6 b7
 change Calls _ _ #[_,_, .slice _ 6 6] _ _ at hM
 go_wp2_with fail
 refine hM.mono ?_
 clear hM
 rintro e w9 ⟨sv,ov,rfl,hS9,hO9,b9⟩
 have b9:=below_trans b8 b9
 clear b8
 obtain ⟨_,sa,scap,rfl,_,_⟩:=id hS9.open
 have eo:=Sl.open hO9
 rw [hmr.out] at hO9 eo
 obtain ⟨_,oa,ocap,rfl,_,_⟩:=eo
 rw [hml.out] at hS9 ⊢
 go_upto_region 2 with fail
 have hM:=hM2.out w9 (.slice none 0 0) (.slice none 0 0) (OInts.ints (OSl.nil _ _ _ _ _ _:OInts w9 (fun _=>False) (.slice none 0 0) [])) (Acts.nil w9)
 clear hM2
 go_wp2_with fail
 refine hM.mono ?_
 clear hM
 rintro e w10 ⟨sv2,ov2,rfl,_,_,b10⟩
 have hS10:=hS9.below b10
 have hO10:=hO9.below b10
 have b10:=below_trans b9 b10
 clear hS9 hO9 b9
 go_upto_region 3 with fail
 go_cut [7,8,9] from 28 to 34 (fun _ _ g wx=>g = .int .i64 2 ∧ Msgs wx (.slice sa 4 scap) r1.2.1 ∧ BRows wx (.slice oa rowsC.length ocap) rowsC ∧ Below w.heap.size w wx)
 case rest =>
  obtain ⟨rfl,hS13,hO13,b13⟩:=hcut
  clear hM3 hS10 hO10 b10
  obtain ⟨_,a3,cap3,eq3,_,hc13⟩:=hS13.open
  obtain ⟨e1,e2,e3⟩:=Value.slice.inj eq3
  subst e1 e3
  clear eq3 e2
  obtain ⟨bs,os,rfl,hcc⟩:=hc13 (by intro e;have:=hml.out;rw [e] at this;cases this)
  obtain ⟨x0,x1,x2,x3,x4⟩:=hcc 3 (by rw [hml.out];omega)
  rw [hm3.out] at x0 x1 x2 x3 x4
  simp only [mC3,Nat.reduceMul,Nat.add_assoc,Nat.reduceAdd] at x0 x1 x2 x3 x4
  have hSB:∀ o,Below wc.heap.size wc o → o.cell? ⟨bs,os + 15,none⟩ = some (.int .i64 2) ∧ o.cell? ⟨bs,os + 16,none⟩ = some (.int .i64 1) ∧ o.cell? ⟨bs,os + 17,none⟩ = some (.int .i64 3) ∧ o.cell? ⟨bs,os + 18,none⟩ = some (.bool false) ∧ o.cell? ⟨bs,os + 19,none⟩ = some (.string ⟨#[99]⟩):=fun o k=>⟨(k.cell (cell_lt x0)).trans x0,(k.cell (cell_lt x1)).trans x1,(k.cell (cell_lt x2)).trans x2,(k.cell (cell_lt x3)).trans x3,(k.cell (cell_lt x4)).trans x4⟩
  clear hcc hc13 hS13 x0 x1 x2 x3 x4
  go_upto_region 4 with fail
  refine wp_region_N (fun o=>o.cell? ⟨bs,os + 15,none⟩ = some (.int .i64 2) ∧ o.cell? ⟨bs,os + 16,none⟩ = some (.int .i64 1) ∧ o.cell? ⟨bs,os + 17,none⟩ = some (.int .i64 3) ∧ o.cell? ⟨bs,os + 18,none⟩ = some (.bool false) ∧ o.cell? ⟨bs,os + 19,none⟩ = some (.string ⟨#[99]⟩)) 29 32 rfl (by kernel_rfl) (hSB _ (below_drewN wc 1)) (fun hSw=>?_)
  refine tk 0 ?_ rfl rfl (by kernel_rfl) (.inl ⟨by rfl, ?_⟩) hSw ?_
  rotate_left
  ·rintro w ⟨s0,s1,s2,s3,s4⟩;go_simp;try with_reducible rfl
  simp only [tkp,tkz,tks]
  refine tk 1 ?_ rfl rfl (by kernel_rfl) (.inl ⟨by rfl, ?_⟩) hSw ?_
  rotate_left
  ·rintro w ⟨s0,s1,s2,s3,s4⟩;go_simp;try with_reducible rfl
  simp only [tkp,tkz,tks]
  refine tk 2 ?_ rfl rfl (by kernel_rfl) (.inl ⟨by rfl, ?_⟩) hSw ?_
  rotate_left
  ·rintro w ⟨s0,s1,s2,s3,s4⟩;go_simp;try with_reducible rfl
  simp only [tkp,tkz,tks]
  refine tk 3 ?_ rfl rfl (by kernel_rfl) (.inl ⟨by rfl, ?_⟩) hSw ?_
  rotate_left
  ·rintro w ⟨s0,s1,s2,s3,s4⟩;go_simp;try with_reducible rfl
  simp only [tkp,tkz,tks]
  refine tk 4 ?_ rfl rfl (by kernel_rfl) (.inl ⟨by rfl, ?_⟩) hSw ?_
  rotate_left
  ·rintro w ⟨s0,s1,s2,s3,s4⟩;go_simp;try with_reducible rfl
  simp only [tkp,tkz,tks]
  refine tk 5 ?_ rfl rfl (by kernel_rfl) (.inl ⟨by rfl, ?_⟩) hSw ?_
  rotate_left
  ·rintro w ⟨s0,s1,s2,s3,s4⟩;go_simp;try with_reducible rfl
  simp only [tkp,tkz,tks]
  refine tk 6 ?_ rfl rfl (by kernel_rfl) (.inl ⟨by rfl, ?_⟩) hSw ?_
  rotate_left
  ·rintro w ⟨s0,s1,s2,s3,s4⟩;go_simp;try with_reducible rfl
  simp only [tkp,tkz,tks]
  refine tk 7 ?_ rfl rfl (by kernel_rfl) (.inl ⟨by rfl, ?_⟩) hSw ?_
  rotate_left
  ·rintro w ⟨s0,s1,s2,s3,s4⟩;go_simp;try with_reducible rfl
  simp only [tkp,tkz,tks]
  refine tk 8 ?_ rfl rfl (by kernel_rfl) (.inl ⟨by rfl, ?_⟩) hSw ?_
  rotate_left
  ·rintro w ⟨s0,s1,s2,s3,s4⟩;go_simp;try with_reducible rfl
  simp only [tkp,tkz,tks]
  refine tk 9 ?_ rfl rfl (by kernel_rfl) (.inl ⟨by rfl, ?_⟩) hSw ?_
  rotate_left
  ·rintro w ⟨s0,s1,s2,s3,s4⟩;go_simp;try with_reducible rfl
  simp only [tkp,tkz,tks]
  refine tk 10 ?_ rfl rfl (by kernel_rfl) (.inl ⟨by rfl, ?_⟩) hSw ?_
  rotate_left
  ·rintro w ⟨s0,s1,s2,s3,s4⟩;go_simp;try with_reducible rfl
  simp only [tkp,tkz,tks]
  refine tk 11 ?_ rfl rfl (by kernel_rfl) (.inl ⟨by rfl, ?_⟩) hSw ?_
  rotate_left
  ·rintro w ⟨s0,s1,s2,s3,s4⟩;go_simp;try with_reducible rfl
  simp only [tkp,tkz,tks]
  refine tk 12 ?_ rfl rfl (by kernel_rfl) (.inl ⟨by rfl, ?_⟩) hSw ?_
  rotate_left
  ·rintro w ⟨s0,s1,s2,s3,s4⟩;go_simp;try with_reducible rfl
  simp only [tkp,tkz,tks]
  refine tk 13 ?_ rfl rfl (by kernel_rfl) (.inl ⟨by rfl, ?_⟩) hSw ?_
  rotate_left
  ·rintro w ⟨s0,s1,s2,s3,s4⟩;go_simp;try with_reducible rfl
  simp only [tkp,tkz,tks]
  refine tk 14 ?_ rfl rfl (by kernel_rfl) (.inl ⟨by rfl, ?_⟩) hSw ?_
  rotate_left
  ·rintro w ⟨s0,s1,s2,s3,s4⟩;go_simp;try with_reducible rfl
  simp only [tkp,tkz,tks]
  refine tk 15 ?_ rfl rfl (by kernel_rfl) (.inl ⟨by rfl, ?_⟩) hSw ?_
  rotate_left
  ·rintro w ⟨s0,s1,s2,s3,s4⟩;go_simp;try with_reducible rfl
  simp only [tkp,tkz,tks]
  refine tk 16 ?_ rfl rfl (by kernel_rfl) (.inl ⟨by rfl, ?_⟩) hSw ?_
  rotate_left
  ·rintro w ⟨s0,s1,s2,s3,s4⟩;go_simp;try with_reducible rfl
  simp only [tkp,tkz,tks]
  refine tk 17 ?_ rfl rfl (by kernel_rfl) (.inl ⟨by rfl, ?_⟩) hSw ?_
  rotate_left
  ·rintro w ⟨s0,s1,s2,s3,s4⟩;go_simp;try with_reducible rfl
  simp only [tkp,tkz,tks]
  refine tk 18 ?_ rfl rfl (by kernel_rfl) (.inl ⟨by rfl, ?_⟩) hSw ?_
  rotate_left
  ·rintro w ⟨s0,s1,s2,s3,s4⟩;go_simp;try with_reducible rfl
  simp only [tkp,tkz,tks]
  refine N_one' (i:=19) (by kernel_rfl) rfl ?_
  go_wp2_with fail
  refine (say_c _ 2 1 3 ⟨#[99]⟩).mono ?_
  rintro e v0 ⟨rfl,c0⟩
  have c0:=below_trans (below_drewN wc 1) c0
  unfold M.val
  go_wp2_with fail
  refine QK_normal ⟨?_, ?_⟩
  ·first | exact fun _=>hSB _ c0 | exact hSB _ c0
  have hSw:=hSB _ c0
  refine tk 20 ?_ rfl rfl (by kernel_rfl) (.inl ⟨by rfl, ?_⟩) hSw ?_
  rotate_left
  ·rintro w ⟨s0,s1,s2,s3,s4⟩;go_simp;try with_reducible rfl
  simp only [tkp,tkz,tks]
  refine tk 21 ?_ rfl rfl (by kernel_rfl) (.inl ⟨by rfl, ?_⟩) hSw ?_
  rotate_left
  ·rintro w ⟨s0,s1,s2,s3,s4⟩;go_simp;try with_reducible rfl
  simp only [tkp,tkz,tks]
  refine tk 22 ?_ rfl rfl (by kernel_rfl) (.inl ⟨by rfl, ?_⟩) hSw ?_
  rotate_left
  ·rintro w ⟨s0,s1,s2,s3,s4⟩;go_simp;try with_reducible rfl
  simp only [tkp,tkz,tks]
  refine tk 23 ?_ rfl rfl (by kernel_rfl) (.inl ⟨by rfl, ?_⟩) hSw ?_
  rotate_left
  ·rintro w ⟨s0,s1,s2,s3,s4⟩;go_simp;try with_reducible rfl
  simp only [tkp,tkz,tks]
  clear hSw
  refine N_four' (i:=24) (j:=25) (k:=26) (m:=27) (by kernel_rfl) rfl rfl rfl rfl ?_ ?_ ?_ ?_
  ·go_wp2_with fail
   obtain ⟨v1,R24,hV,hR,h24,bl⟩:=lit_at v0 false false false
   simp only [hV,hR] at ⊢
   clear hV hR
   have c1:=below_trans c0 bl
   clear bl
   refine QK_normal ⟨?_, ?_⟩
   ·first | exact fun _=>hSB _ c1 | exact hSB _ c1
   refine N_three' (i:=25) (j:=26) (k:=27) (by kernel_rfl) rfl rfl rfl ?_ ?_ ?_
   ·go_wp2_with fail
    obtain ⟨v2,R25,hV,hR,h25,bl⟩:=lit_at v1 false false false
    simp only [hV,hR] at ⊢
    clear hV hR
    have h24:=h24.below bl
    have c2:=below_trans c1 bl
    clear bl
    refine QK_normal ⟨?_, ?_⟩
    ·first | exact fun _=>hSB _ c2 | exact hSB _ c2
    refine N_two' (i:=26) (j:=27) (by kernel_rfl) rfl rfl ?_ ?_
    ·go_wp2_with fail
     obtain ⟨v3,R26,hV,hR,h26,bl⟩:=lit_at v2 true false false
     simp only [hV,hR] at ⊢
     clear hV hR
     have h24:=h24.below bl
     have h25:=h25.below bl
     have c3:=below_trans c2 bl
     clear bl
     refine QK_normal ⟨?_, ?_⟩
     ·first | exact fun _=>hSB _ c3 | exact hSB _ c3
     refine N_one' (i:=27) (by kernel_rfl) rfl ?_
     go_wp2_with fail
     obtain ⟨v4,R27,hV,hR,h27,bl⟩:=lit_at v3 true true true
     simp only [hV,hR] at ⊢
     clear hV hR
     have h24:=h24.below bl
     have h25:=h25.below bl
     have h26:=h26.below bl
     have c4:=below_trans c3 bl
     clear bl
     refine QK_normal ⟨?_, ?_⟩
     ·first | exact fun _=>hSB _ c4 | exact hSB _ c4
     refine N_one' (i:=28) (by kernel_rfl) rfl ?_
     go_wp2_with fail
     obtain ⟨hB,bl⟩:=rows_lit h24 h25 h26 h27
     have c5:=below_trans c4 bl
     have hSm:=SameMarks_c (hO13.below c5) hB
     refine QK_normal ⟨?_, ?_⟩
     ·first | exact fun _=>hSB _ c5 | exact hSB _ c5
     clear hSB hB h24 h25 h26 h27 bl hO13
     refine N_rest 29 3 (Nat.le_refl _) rfl (by kernel_rfl) ?_
     simp only [List.drop_succ_cons,List.drop_zero]
     go_wp2_with fail
     refine hSm.mono ?_
     rintro e v6 ⟨rfl,c6⟩
     go_wp2_with fail
     rw [← hP.out]
     exact ⟨ret_bool (by simp),below_trans b13 (below_trans c5 c6)⟩
    ·go_wp2_with fail
     obtain ⟨v3,R27,hV,hR,h27,bl⟩:=lit_at v2 true true true
     simp only [hV,hR] at ⊢
     clear hV hR
     have h24:=h24.below bl
     have h25:=h25.below bl
     have c3:=below_trans c2 bl
     clear bl
     refine QK_normal ⟨?_, ?_⟩
     ·first | exact fun _=>hSB _ c3 | exact hSB _ c3
     refine N_one' (i:=26) (by kernel_rfl) rfl ?_
     go_wp2_with fail
     obtain ⟨v4,R26,hV,hR,h26,bl⟩:=lit_at v3 true false false
     simp only [hV,hR] at ⊢
     clear hV hR
     have h24:=h24.below bl
     have h25:=h25.below bl
     have h27:=h27.below bl
     have c4:=below_trans c3 bl
     clear bl
     refine QK_normal ⟨?_, ?_⟩
     ·first | exact fun _=>hSB _ c4 | exact hSB _ c4
     refine N_one' (i:=28) (by kernel_rfl) rfl ?_
     go_wp2_with fail
     obtain ⟨hB,bl⟩:=rows_lit h24 h25 h26 h27
     have c5:=below_trans c4 bl
     have hSm:=SameMarks_c (hO13.below c5) hB
     refine QK_normal ⟨?_, ?_⟩
     ·first | exact fun _=>hSB _ c5 | exact hSB _ c5
     clear hSB hB h24 h25 h26 h27 bl hO13
     refine N_rest 29 3 (Nat.le_refl _) rfl (by kernel_rfl) ?_
     simp only [List.drop_succ_cons,List.drop_zero]
     go_wp2_with fail
     refine hSm.mono ?_
     rintro e v6 ⟨rfl,c6⟩
     go_wp2_with fail
     rw [← hP.out]
     exact ⟨ret_bool (by simp),below_trans b13 (below_trans c5 c6)⟩
   ·go_wp2_with fail
    obtain ⟨v2,R26,hV,hR,h26,bl⟩:=lit_at v1 true false false
    simp only [hV,hR] at ⊢
    clear hV hR
    have h24:=h24.below bl
    have c2:=below_trans c1 bl
    clear bl
    refine QK_normal ⟨?_, ?_⟩
    ·first | exact fun _=>hSB _ c2 | exact hSB _ c2
    refine N_two' (i:=25) (j:=27) (by kernel_rfl) rfl rfl ?_ ?_
    ·go_wp2_with fail
     obtain ⟨v3,R25,hV,hR,h25,bl⟩:=lit_at v2 false false false
     simp only [hV,hR] at ⊢
     clear hV hR
     have h24:=h24.below bl
     have h26:=h26.below bl
     have c3:=below_trans c2 bl
     clear bl
     refine QK_normal ⟨?_, ?_⟩
     ·first | exact fun _=>hSB _ c3 | exact hSB _ c3
     refine N_one' (i:=27) (by kernel_rfl) rfl ?_
     go_wp2_with fail
     obtain ⟨v4,R27,hV,hR,h27,bl⟩:=lit_at v3 true true true
     simp only [hV,hR] at ⊢
     clear hV hR
     have h24:=h24.below bl
     have h26:=h26.below bl
     have h25:=h25.below bl
     have c4:=below_trans c3 bl
     clear bl
     refine QK_normal ⟨?_, ?_⟩
     ·first | exact fun _=>hSB _ c4 | exact hSB _ c4
     refine N_one' (i:=28) (by kernel_rfl) rfl ?_
     go_wp2_with fail
     obtain ⟨hB,bl⟩:=rows_lit h24 h25 h26 h27
     have c5:=below_trans c4 bl
     have hSm:=SameMarks_c (hO13.below c5) hB
     refine QK_normal ⟨?_, ?_⟩
     ·first | exact fun _=>hSB _ c5 | exact hSB _ c5
     clear hSB hB h24 h25 h26 h27 bl hO13
     refine N_rest 29 3 (Nat.le_refl _) rfl (by kernel_rfl) ?_
     simp only [List.drop_succ_cons,List.drop_zero]
     go_wp2_with fail
     refine hSm.mono ?_
     rintro e v6 ⟨rfl,c6⟩
     go_wp2_with fail
     rw [← hP.out]
     exact ⟨ret_bool (by simp),below_trans b13 (below_trans c5 c6)⟩
    ·go_wp2_with fail
     obtain ⟨v3,R27,hV,hR,h27,bl⟩:=lit_at v2 true true true
     simp only [hV,hR] at ⊢
     clear hV hR
     have h24:=h24.below bl
     have h26:=h26.below bl
     have c3:=below_trans c2 bl
     clear bl
     refine QK_normal ⟨?_, ?_⟩
     ·first | exact fun _=>hSB _ c3 | exact hSB _ c3
     refine N_one' (i:=25) (by kernel_rfl) rfl ?_
     go_wp2_with fail
     obtain ⟨v4,R25,hV,hR,h25,bl⟩:=lit_at v3 false false false
     simp only [hV,hR] at ⊢
     clear hV hR
     have h24:=h24.below bl
     have h26:=h26.below bl
     have h27:=h27.below bl
     have c4:=below_trans c3 bl
     clear bl
     refine QK_normal ⟨?_, ?_⟩
     ·first | exact fun _=>hSB _ c4 | exact hSB _ c4
     refine N_one' (i:=28) (by kernel_rfl) rfl ?_
     go_wp2_with fail
     obtain ⟨hB,bl⟩:=rows_lit h24 h25 h26 h27
     have c5:=below_trans c4 bl
     have hSm:=SameMarks_c (hO13.below c5) hB
     refine QK_normal ⟨?_, ?_⟩
     ·first | exact fun _=>hSB _ c5 | exact hSB _ c5
     clear hSB hB h24 h25 h26 h27 bl hO13
     refine N_rest 29 3 (Nat.le_refl _) rfl (by kernel_rfl) ?_
     simp only [List.drop_succ_cons,List.drop_zero]
     go_wp2_with fail
     refine hSm.mono ?_
     rintro e v6 ⟨rfl,c6⟩
     go_wp2_with fail
     rw [← hP.out]
     exact ⟨ret_bool (by simp),below_trans b13 (below_trans c5 c6)⟩
   ·go_wp2_with fail
    obtain ⟨v2,R27,hV,hR,h27,bl⟩:=lit_at v1 true true true
    simp only [hV,hR] at ⊢
    clear hV hR
    have h24:=h24.below bl
    have c2:=below_trans c1 bl
    clear bl
    refine QK_normal ⟨?_, ?_⟩
    ·first | exact fun _=>hSB _ c2 | exact hSB _ c2
    refine N_two' (i:=25) (j:=26) (by kernel_rfl) rfl rfl ?_ ?_
    ·go_wp2_with fail
     obtain ⟨v3,R25,hV,hR,h25,bl⟩:=lit_at v2 false false false
     simp only [hV,hR] at ⊢
     clear hV hR
     have h24:=h24.below bl
     have h27:=h27.below bl
     have c3:=below_trans c2 bl
     clear bl
     refine QK_normal ⟨?_, ?_⟩
     ·first | exact fun _=>hSB _ c3 | exact hSB _ c3
     refine N_one' (i:=26) (by kernel_rfl) rfl ?_
     go_wp2_with fail
     obtain ⟨v4,R26,hV,hR,h26,bl⟩:=lit_at v3 true false false
     simp only [hV,hR] at ⊢
     clear hV hR
     have h24:=h24.below bl
     have h27:=h27.below bl
     have h25:=h25.below bl
     have c4:=below_trans c3 bl
     clear bl
     refine QK_normal ⟨?_, ?_⟩
     ·first | exact fun _=>hSB _ c4 | exact hSB _ c4
     refine N_one' (i:=28) (by kernel_rfl) rfl ?_
     go_wp2_with fail
     obtain ⟨hB,bl⟩:=rows_lit h24 h25 h26 h27
     have c5:=below_trans c4 bl
     have hSm:=SameMarks_c (hO13.below c5) hB
     refine QK_normal ⟨?_, ?_⟩
     ·first | exact fun _=>hSB _ c5 | exact hSB _ c5
     clear hSB hB h24 h25 h26 h27 bl hO13
     refine N_rest 29 3 (Nat.le_refl _) rfl (by kernel_rfl) ?_
     simp only [List.drop_succ_cons,List.drop_zero]
     go_wp2_with fail
     refine hSm.mono ?_
     rintro e v6 ⟨rfl,c6⟩
     go_wp2_with fail
     rw [← hP.out]
     exact ⟨ret_bool (by simp),below_trans b13 (below_trans c5 c6)⟩
    ·go_wp2_with fail
     obtain ⟨v3,R26,hV,hR,h26,bl⟩:=lit_at v2 true false false
     simp only [hV,hR] at ⊢
     clear hV hR
     have h24:=h24.below bl
     have h27:=h27.below bl
     have c3:=below_trans c2 bl
     clear bl
     refine QK_normal ⟨?_, ?_⟩
     ·first | exact fun _=>hSB _ c3 | exact hSB _ c3
     refine N_one' (i:=25) (by kernel_rfl) rfl ?_
     go_wp2_with fail
     obtain ⟨v4,R25,hV,hR,h25,bl⟩:=lit_at v3 false false false
     simp only [hV,hR] at ⊢
     clear hV hR
     have h24:=h24.below bl
     have h27:=h27.below bl
     have h26:=h26.below bl
     have c4:=below_trans c3 bl
     clear bl
     refine QK_normal ⟨?_, ?_⟩
     ·first | exact fun _=>hSB _ c4 | exact hSB _ c4
     refine N_one' (i:=28) (by kernel_rfl) rfl ?_
     go_wp2_with fail
     obtain ⟨hB,bl⟩:=rows_lit h24 h25 h26 h27
     have c5:=below_trans c4 bl
     have hSm:=SameMarks_c (hO13.below c5) hB
     refine QK_normal ⟨?_, ?_⟩
     ·first | exact fun _=>hSB _ c5 | exact hSB _ c5
     clear hSB hB h24 h25 h26 h27 bl hO13
     refine N_rest 29 3 (Nat.le_refl _) rfl (by kernel_rfl) ?_
     simp only [List.drop_succ_cons,List.drop_zero]
     go_wp2_with fail
     refine hSm.mono ?_
     rintro e v6 ⟨rfl,c6⟩
     go_wp2_with fail
     rw [← hP.out]
     exact ⟨ret_bool (by simp),below_trans b13 (below_trans c5 c6)⟩
  ·go_wp2_with fail
   obtain ⟨v1,R25,hV,hR,h25,bl⟩:=lit_at v0 false false false
   simp only [hV,hR] at ⊢
   clear hV hR
   have c1:=below_trans c0 bl
   clear bl
   refine QK_normal ⟨?_, ?_⟩
   ·first | exact fun _=>hSB _ c1 | exact hSB _ c1
   refine N_three' (i:=24) (j:=26) (k:=27) (by kernel_rfl) rfl rfl rfl ?_ ?_ ?_
   ·go_wp2_with fail
    obtain ⟨v2,R24,hV,hR,h24,bl⟩:=lit_at v1 false false false
    simp only [hV,hR] at ⊢
    clear hV hR
    have h25:=h25.below bl
    have c2:=below_trans c1 bl
    clear bl
    refine QK_normal ⟨?_, ?_⟩
    ·first | exact fun _=>hSB _ c2 | exact hSB _ c2
    refine N_two' (i:=26) (j:=27) (by kernel_rfl) rfl rfl ?_ ?_
    ·go_wp2_with fail
     obtain ⟨v3,R26,hV,hR,h26,bl⟩:=lit_at v2 true false false
     simp only [hV,hR] at ⊢
     clear hV hR
     have h25:=h25.below bl
     have h24:=h24.below bl
     have c3:=below_trans c2 bl
     clear bl
     refine QK_normal ⟨?_, ?_⟩
     ·first | exact fun _=>hSB _ c3 | exact hSB _ c3
     refine N_one' (i:=27) (by kernel_rfl) rfl ?_
     go_wp2_with fail
     obtain ⟨v4,R27,hV,hR,h27,bl⟩:=lit_at v3 true true true
     simp only [hV,hR] at ⊢
     clear hV hR
     have h25:=h25.below bl
     have h24:=h24.below bl
     have h26:=h26.below bl
     have c4:=below_trans c3 bl
     clear bl
     refine QK_normal ⟨?_, ?_⟩
     ·first | exact fun _=>hSB _ c4 | exact hSB _ c4
     refine N_one' (i:=28) (by kernel_rfl) rfl ?_
     go_wp2_with fail
     obtain ⟨hB,bl⟩:=rows_lit h24 h25 h26 h27
     have c5:=below_trans c4 bl
     have hSm:=SameMarks_c (hO13.below c5) hB
     refine QK_normal ⟨?_, ?_⟩
     ·first | exact fun _=>hSB _ c5 | exact hSB _ c5
     clear hSB hB h24 h25 h26 h27 bl hO13
     refine N_rest 29 3 (Nat.le_refl _) rfl (by kernel_rfl) ?_
     simp only [List.drop_succ_cons,List.drop_zero]
     go_wp2_with fail
     refine hSm.mono ?_
     rintro e v6 ⟨rfl,c6⟩
     go_wp2_with fail
     rw [← hP.out]
     exact ⟨ret_bool (by simp),below_trans b13 (below_trans c5 c6)⟩
    ·go_wp2_with fail
     obtain ⟨v3,R27,hV,hR,h27,bl⟩:=lit_at v2 true true true
     simp only [hV,hR] at ⊢
     clear hV hR
     have h25:=h25.below bl
     have h24:=h24.below bl
     have c3:=below_trans c2 bl
     clear bl
     refine QK_normal ⟨?_, ?_⟩
     ·first | exact fun _=>hSB _ c3 | exact hSB _ c3
     refine N_one' (i:=26) (by kernel_rfl) rfl ?_
     go_wp2_with fail
     obtain ⟨v4,R26,hV,hR,h26,bl⟩:=lit_at v3 true false false
     simp only [hV,hR] at ⊢
     clear hV hR
     have h25:=h25.below bl
     have h24:=h24.below bl
     have h27:=h27.below bl
     have c4:=below_trans c3 bl
     clear bl
     refine QK_normal ⟨?_, ?_⟩
     ·first | exact fun _=>hSB _ c4 | exact hSB _ c4
     refine N_one' (i:=28) (by kernel_rfl) rfl ?_
     go_wp2_with fail
     obtain ⟨hB,bl⟩:=rows_lit h24 h25 h26 h27
     have c5:=below_trans c4 bl
     have hSm:=SameMarks_c (hO13.below c5) hB
     refine QK_normal ⟨?_, ?_⟩
     ·first | exact fun _=>hSB _ c5 | exact hSB _ c5
     clear hSB hB h24 h25 h26 h27 bl hO13
     refine N_rest 29 3 (Nat.le_refl _) rfl (by kernel_rfl) ?_
     simp only [List.drop_succ_cons,List.drop_zero]
     go_wp2_with fail
     refine hSm.mono ?_
     rintro e v6 ⟨rfl,c6⟩
     go_wp2_with fail
     rw [← hP.out]
     exact ⟨ret_bool (by simp),below_trans b13 (below_trans c5 c6)⟩
   ·go_wp2_with fail
    obtain ⟨v2,R26,hV,hR,h26,bl⟩:=lit_at v1 true false false
    simp only [hV,hR] at ⊢
    clear hV hR
    have h25:=h25.below bl
    have c2:=below_trans c1 bl
    clear bl
    refine QK_normal ⟨?_, ?_⟩
    ·first | exact fun _=>hSB _ c2 | exact hSB _ c2
    refine N_two' (i:=24) (j:=27) (by kernel_rfl) rfl rfl ?_ ?_
    ·go_wp2_with fail
     obtain ⟨v3,R24,hV,hR,h24,bl⟩:=lit_at v2 false false false
     simp only [hV,hR] at ⊢
     clear hV hR
     have h25:=h25.below bl
     have h26:=h26.below bl
     have c3:=below_trans c2 bl
     clear bl
     refine QK_normal ⟨?_, ?_⟩
     ·first | exact fun _=>hSB _ c3 | exact hSB _ c3
     refine N_one' (i:=27) (by kernel_rfl) rfl ?_
     go_wp2_with fail
     obtain ⟨v4,R27,hV,hR,h27,bl⟩:=lit_at v3 true true true
     simp only [hV,hR] at ⊢
     clear hV hR
     have h25:=h25.below bl
     have h26:=h26.below bl
     have h24:=h24.below bl
     have c4:=below_trans c3 bl
     clear bl
     refine QK_normal ⟨?_, ?_⟩
     ·first | exact fun _=>hSB _ c4 | exact hSB _ c4
     refine N_one' (i:=28) (by kernel_rfl) rfl ?_
     go_wp2_with fail
     obtain ⟨hB,bl⟩:=rows_lit h24 h25 h26 h27
     have c5:=below_trans c4 bl
     have hSm:=SameMarks_c (hO13.below c5) hB
     refine QK_normal ⟨?_, ?_⟩
     ·first | exact fun _=>hSB _ c5 | exact hSB _ c5
     clear hSB hB h24 h25 h26 h27 bl hO13
     refine N_rest 29 3 (Nat.le_refl _) rfl (by kernel_rfl) ?_
     simp only [List.drop_succ_cons,List.drop_zero]
     go_wp2_with fail
     refine hSm.mono ?_
     rintro e v6 ⟨rfl,c6⟩
     go_wp2_with fail
     rw [← hP.out]
     exact ⟨ret_bool (by simp),below_trans b13 (below_trans c5 c6)⟩
    ·go_wp2_with fail
     obtain ⟨v3,R27,hV,hR,h27,bl⟩:=lit_at v2 true true true
     simp only [hV,hR] at ⊢
     clear hV hR
     have h25:=h25.below bl
     have h26:=h26.below bl
     have c3:=below_trans c2 bl
     clear bl
     refine QK_normal ⟨?_, ?_⟩
     ·first | exact fun _=>hSB _ c3 | exact hSB _ c3
     refine N_one' (i:=24) (by kernel_rfl) rfl ?_
     go_wp2_with fail
     obtain ⟨v4,R24,hV,hR,h24,bl⟩:=lit_at v3 false false false
     simp only [hV,hR] at ⊢
     clear hV hR
     have h25:=h25.below bl
     have h26:=h26.below bl
     have h27:=h27.below bl
     have c4:=below_trans c3 bl
     clear bl
     refine QK_normal ⟨?_, ?_⟩
     ·first | exact fun _=>hSB _ c4 | exact hSB _ c4
     refine N_one' (i:=28) (by kernel_rfl) rfl ?_
     go_wp2_with fail
     obtain ⟨hB,bl⟩:=rows_lit h24 h25 h26 h27
     have c5:=below_trans c4 bl
     have hSm:=SameMarks_c (hO13.below c5) hB
     refine QK_normal ⟨?_, ?_⟩
     ·first | exact fun _=>hSB _ c5 | exact hSB _ c5
     clear hSB hB h24 h25 h26 h27 bl hO13
     refine N_rest 29 3 (Nat.le_refl _) rfl (by kernel_rfl) ?_
     simp only [List.drop_succ_cons,List.drop_zero]
     go_wp2_with fail
     refine hSm.mono ?_
     rintro e v6 ⟨rfl,c6⟩
     go_wp2_with fail
     rw [← hP.out]
     exact ⟨ret_bool (by simp),below_trans b13 (below_trans c5 c6)⟩
   ·go_wp2_with fail
    obtain ⟨v2,R27,hV,hR,h27,bl⟩:=lit_at v1 true true true
    simp only [hV,hR] at ⊢
    clear hV hR
    have h25:=h25.below bl
    have c2:=below_trans c1 bl
    clear bl
    refine QK_normal ⟨?_, ?_⟩
    ·first | exact fun _=>hSB _ c2 | exact hSB _ c2
    refine N_two' (i:=24) (j:=26) (by kernel_rfl) rfl rfl ?_ ?_
    ·go_wp2_with fail
     obtain ⟨v3,R24,hV,hR,h24,bl⟩:=lit_at v2 false false false
     simp only [hV,hR] at ⊢
     clear hV hR
     have h25:=h25.below bl
     have h27:=h27.below bl
     have c3:=below_trans c2 bl
     clear bl
     refine QK_normal ⟨?_, ?_⟩
     ·first | exact fun _=>hSB _ c3 | exact hSB _ c3
     refine N_one' (i:=26) (by kernel_rfl) rfl ?_
     go_wp2_with fail
     obtain ⟨v4,R26,hV,hR,h26,bl⟩:=lit_at v3 true false false
     simp only [hV,hR] at ⊢
     clear hV hR
     have h25:=h25.below bl
     have h27:=h27.below bl
     have h24:=h24.below bl
     have c4:=below_trans c3 bl
     clear bl
     refine QK_normal ⟨?_, ?_⟩
     ·first | exact fun _=>hSB _ c4 | exact hSB _ c4
     refine N_one' (i:=28) (by kernel_rfl) rfl ?_
     go_wp2_with fail
     obtain ⟨hB,bl⟩:=rows_lit h24 h25 h26 h27
     have c5:=below_trans c4 bl
     have hSm:=SameMarks_c (hO13.below c5) hB
     refine QK_normal ⟨?_, ?_⟩
     ·first | exact fun _=>hSB _ c5 | exact hSB _ c5
     clear hSB hB h24 h25 h26 h27 bl hO13
     refine N_rest 29 3 (Nat.le_refl _) rfl (by kernel_rfl) ?_
     simp only [List.drop_succ_cons,List.drop_zero]
     go_wp2_with fail
     refine hSm.mono ?_
     rintro e v6 ⟨rfl,c6⟩
     go_wp2_with fail
     rw [← hP.out]
     exact ⟨ret_bool (by simp),below_trans b13 (below_trans c5 c6)⟩
    ·go_wp2_with fail
     obtain ⟨v3,R26,hV,hR,h26,bl⟩:=lit_at v2 true false false
     simp only [hV,hR] at ⊢
     clear hV hR
     have h25:=h25.below bl
     have h27:=h27.below bl
     have c3:=below_trans c2 bl
     clear bl
     refine QK_normal ⟨?_, ?_⟩
     ·first | exact fun _=>hSB _ c3 | exact hSB _ c3
     refine N_one' (i:=24) (by kernel_rfl) rfl ?_
     go_wp2_with fail
     obtain ⟨v4,R24,hV,hR,h24,bl⟩:=lit_at v3 false false false
     simp only [hV,hR] at ⊢
     clear hV hR
     have h25:=h25.below bl
     have h27:=h27.below bl
     have h26:=h26.below bl
     have c4:=below_trans c3 bl
     clear bl
     refine QK_normal ⟨?_, ?_⟩
     ·first | exact fun _=>hSB _ c4 | exact hSB _ c4
     refine N_one' (i:=28) (by kernel_rfl) rfl ?_
     go_wp2_with fail
     obtain ⟨hB,bl⟩:=rows_lit h24 h25 h26 h27
     have c5:=below_trans c4 bl
     have hSm:=SameMarks_c (hO13.below c5) hB
     refine QK_normal ⟨?_, ?_⟩
     ·first | exact fun _=>hSB _ c5 | exact hSB _ c5
     clear hSB hB h24 h25 h26 h27 bl hO13
     refine N_rest 29 3 (Nat.le_refl _) rfl (by kernel_rfl) ?_
     simp only [List.drop_succ_cons,List.drop_zero]
     go_wp2_with fail
     refine hSm.mono ?_
     rintro e v6 ⟨rfl,c6⟩
     go_wp2_with fail
     rw [← hP.out]
     exact ⟨ret_bool (by simp),below_trans b13 (below_trans c5 c6)⟩
  ·go_wp2_with fail
   obtain ⟨v1,R26,hV,hR,h26,bl⟩:=lit_at v0 true false false
   simp only [hV,hR] at ⊢
   clear hV hR
   have c1:=below_trans c0 bl
   clear bl
   refine QK_normal ⟨?_, ?_⟩
   ·first | exact fun _=>hSB _ c1 | exact hSB _ c1
   refine N_three' (i:=24) (j:=25) (k:=27) (by kernel_rfl) rfl rfl rfl ?_ ?_ ?_
   ·go_wp2_with fail
    obtain ⟨v2,R24,hV,hR,h24,bl⟩:=lit_at v1 false false false
    simp only [hV,hR] at ⊢
    clear hV hR
    have h26:=h26.below bl
    have c2:=below_trans c1 bl
    clear bl
    refine QK_normal ⟨?_, ?_⟩
    ·first | exact fun _=>hSB _ c2 | exact hSB _ c2
    refine N_two' (i:=25) (j:=27) (by kernel_rfl) rfl rfl ?_ ?_
    ·go_wp2_with fail
     obtain ⟨v3,R25,hV,hR,h25,bl⟩:=lit_at v2 false false false
     simp only [hV,hR] at ⊢
     clear hV hR
     have h26:=h26.below bl
     have h24:=h24.below bl
     have c3:=below_trans c2 bl
     clear bl
     refine QK_normal ⟨?_, ?_⟩
     ·first | exact fun _=>hSB _ c3 | exact hSB _ c3
     refine N_one' (i:=27) (by kernel_rfl) rfl ?_
     go_wp2_with fail
     obtain ⟨v4,R27,hV,hR,h27,bl⟩:=lit_at v3 true true true
     simp only [hV,hR] at ⊢
     clear hV hR
     have h26:=h26.below bl
     have h24:=h24.below bl
     have h25:=h25.below bl
     have c4:=below_trans c3 bl
     clear bl
     refine QK_normal ⟨?_, ?_⟩
     ·first | exact fun _=>hSB _ c4 | exact hSB _ c4
     refine N_one' (i:=28) (by kernel_rfl) rfl ?_
     go_wp2_with fail
     obtain ⟨hB,bl⟩:=rows_lit h24 h25 h26 h27
     have c5:=below_trans c4 bl
     have hSm:=SameMarks_c (hO13.below c5) hB
     refine QK_normal ⟨?_, ?_⟩
     ·first | exact fun _=>hSB _ c5 | exact hSB _ c5
     clear hSB hB h24 h25 h26 h27 bl hO13
     refine N_rest 29 3 (Nat.le_refl _) rfl (by kernel_rfl) ?_
     simp only [List.drop_succ_cons,List.drop_zero]
     go_wp2_with fail
     refine hSm.mono ?_
     rintro e v6 ⟨rfl,c6⟩
     go_wp2_with fail
     rw [← hP.out]
     exact ⟨ret_bool (by simp),below_trans b13 (below_trans c5 c6)⟩
    ·go_wp2_with fail
     obtain ⟨v3,R27,hV,hR,h27,bl⟩:=lit_at v2 true true true
     simp only [hV,hR] at ⊢
     clear hV hR
     have h26:=h26.below bl
     have h24:=h24.below bl
     have c3:=below_trans c2 bl
     clear bl
     refine QK_normal ⟨?_, ?_⟩
     ·first | exact fun _=>hSB _ c3 | exact hSB _ c3
     refine N_one' (i:=25) (by kernel_rfl) rfl ?_
     go_wp2_with fail
     obtain ⟨v4,R25,hV,hR,h25,bl⟩:=lit_at v3 false false false
     simp only [hV,hR] at ⊢
     clear hV hR
     have h26:=h26.below bl
     have h24:=h24.below bl
     have h27:=h27.below bl
     have c4:=below_trans c3 bl
     clear bl
     refine QK_normal ⟨?_, ?_⟩
     ·first | exact fun _=>hSB _ c4 | exact hSB _ c4
     refine N_one' (i:=28) (by kernel_rfl) rfl ?_
     go_wp2_with fail
     obtain ⟨hB,bl⟩:=rows_lit h24 h25 h26 h27
     have c5:=below_trans c4 bl
     have hSm:=SameMarks_c (hO13.below c5) hB
     refine QK_normal ⟨?_, ?_⟩
     ·first | exact fun _=>hSB _ c5 | exact hSB _ c5
     clear hSB hB h24 h25 h26 h27 bl hO13
     refine N_rest 29 3 (Nat.le_refl _) rfl (by kernel_rfl) ?_
     simp only [List.drop_succ_cons,List.drop_zero]
     go_wp2_with fail
     refine hSm.mono ?_
     rintro e v6 ⟨rfl,c6⟩
     go_wp2_with fail
     rw [← hP.out]
     exact ⟨ret_bool (by simp),below_trans b13 (below_trans c5 c6)⟩
   ·go_wp2_with fail
    obtain ⟨v2,R25,hV,hR,h25,bl⟩:=lit_at v1 false false false
    simp only [hV,hR] at ⊢
    clear hV hR
    have h26:=h26.below bl
    have c2:=below_trans c1 bl
    clear bl
    refine QK_normal ⟨?_, ?_⟩
    ·first | exact fun _=>hSB _ c2 | exact hSB _ c2
    refine N_two' (i:=24) (j:=27) (by kernel_rfl) rfl rfl ?_ ?_
    ·go_wp2_with fail
     obtain ⟨v3,R24,hV,hR,h24,bl⟩:=lit_at v2 false false false
     simp only [hV,hR] at ⊢
     clear hV hR
     have h26:=h26.below bl
     have h25:=h25.below bl
     have c3:=below_trans c2 bl
     clear bl
     refine QK_normal ⟨?_, ?_⟩
     ·first | exact fun _=>hSB _ c3 | exact hSB _ c3
     refine N_one' (i:=27) (by kernel_rfl) rfl ?_
     go_wp2_with fail
     obtain ⟨v4,R27,hV,hR,h27,bl⟩:=lit_at v3 true true true
     simp only [hV,hR] at ⊢
     clear hV hR
     have h26:=h26.below bl
     have h25:=h25.below bl
     have h24:=h24.below bl
     have c4:=below_trans c3 bl
     clear bl
     refine QK_normal ⟨?_, ?_⟩
     ·first | exact fun _=>hSB _ c4 | exact hSB _ c4
     refine N_one' (i:=28) (by kernel_rfl) rfl ?_
     go_wp2_with fail
     obtain ⟨hB,bl⟩:=rows_lit h24 h25 h26 h27
     have c5:=below_trans c4 bl
     have hSm:=SameMarks_c (hO13.below c5) hB
     refine QK_normal ⟨?_, ?_⟩
     ·first | exact fun _=>hSB _ c5 | exact hSB _ c5
     clear hSB hB h24 h25 h26 h27 bl hO13
     refine N_rest 29 3 (Nat.le_refl _) rfl (by kernel_rfl) ?_
     simp only [List.drop_succ_cons,List.drop_zero]
     go_wp2_with fail
     refine hSm.mono ?_
     rintro e v6 ⟨rfl,c6⟩
     go_wp2_with fail
     rw [← hP.out]
     exact ⟨ret_bool (by simp),below_trans b13 (below_trans c5 c6)⟩
    ·go_wp2_with fail
     obtain ⟨v3,R27,hV,hR,h27,bl⟩:=lit_at v2 true true true
     simp only [hV,hR] at ⊢
     clear hV hR
     have h26:=h26.below bl
     have h25:=h25.below bl
     have c3:=below_trans c2 bl
     clear bl
     refine QK_normal ⟨?_, ?_⟩
     ·first | exact fun _=>hSB _ c3 | exact hSB _ c3
     refine N_one' (i:=24) (by kernel_rfl) rfl ?_
     go_wp2_with fail
     obtain ⟨v4,R24,hV,hR,h24,bl⟩:=lit_at v3 false false false
     simp only [hV,hR] at ⊢
     clear hV hR
     have h26:=h26.below bl
     have h25:=h25.below bl
     have h27:=h27.below bl
     have c4:=below_trans c3 bl
     clear bl
     refine QK_normal ⟨?_, ?_⟩
     ·first | exact fun _=>hSB _ c4 | exact hSB _ c4
     refine N_one' (i:=28) (by kernel_rfl) rfl ?_
     go_wp2_with fail
     obtain ⟨hB,bl⟩:=rows_lit h24 h25 h26 h27
     have c5:=below_trans c4 bl
     have hSm:=SameMarks_c (hO13.below c5) hB
     refine QK_normal ⟨?_, ?_⟩
     ·first | exact fun _=>hSB _ c5 | exact hSB _ c5
     clear hSB hB h24 h25 h26 h27 bl hO13
     refine N_rest 29 3 (Nat.le_refl _) rfl (by kernel_rfl) ?_
     simp only [List.drop_succ_cons,List.drop_zero]
     go_wp2_with fail
     refine hSm.mono ?_
     rintro e v6 ⟨rfl,c6⟩
     go_wp2_with fail
     rw [← hP.out]
     exact ⟨ret_bool (by simp),below_trans b13 (below_trans c5 c6)⟩
   ·go_wp2_with fail
    obtain ⟨v2,R27,hV,hR,h27,bl⟩:=lit_at v1 true true true
    simp only [hV,hR] at ⊢
    clear hV hR
    have h26:=h26.below bl
    have c2:=below_trans c1 bl
    clear bl
    refine QK_normal ⟨?_, ?_⟩
    ·first | exact fun _=>hSB _ c2 | exact hSB _ c2
    refine N_two' (i:=24) (j:=25) (by kernel_rfl) rfl rfl ?_ ?_
    ·go_wp2_with fail
     obtain ⟨v3,R24,hV,hR,h24,bl⟩:=lit_at v2 false false false
     simp only [hV,hR] at ⊢
     clear hV hR
     have h26:=h26.below bl
     have h27:=h27.below bl
     have c3:=below_trans c2 bl
     clear bl
     refine QK_normal ⟨?_, ?_⟩
     ·first | exact fun _=>hSB _ c3 | exact hSB _ c3
     refine N_one' (i:=25) (by kernel_rfl) rfl ?_
     go_wp2_with fail
     obtain ⟨v4,R25,hV,hR,h25,bl⟩:=lit_at v3 false false false
     simp only [hV,hR] at ⊢
     clear hV hR
     have h26:=h26.below bl
     have h27:=h27.below bl
     have h24:=h24.below bl
     have c4:=below_trans c3 bl
     clear bl
     refine QK_normal ⟨?_, ?_⟩
     ·first | exact fun _=>hSB _ c4 | exact hSB _ c4
     refine N_one' (i:=28) (by kernel_rfl) rfl ?_
     go_wp2_with fail
     obtain ⟨hB,bl⟩:=rows_lit h24 h25 h26 h27
     have c5:=below_trans c4 bl
     have hSm:=SameMarks_c (hO13.below c5) hB
     refine QK_normal ⟨?_, ?_⟩
     ·first | exact fun _=>hSB _ c5 | exact hSB _ c5
     clear hSB hB h24 h25 h26 h27 bl hO13
     refine N_rest 29 3 (Nat.le_refl _) rfl (by kernel_rfl) ?_
     simp only [List.drop_succ_cons,List.drop_zero]
     go_wp2_with fail
     refine hSm.mono ?_
     rintro e v6 ⟨rfl,c6⟩
     go_wp2_with fail
     rw [← hP.out]
     exact ⟨ret_bool (by simp),below_trans b13 (below_trans c5 c6)⟩
    ·go_wp2_with fail
     obtain ⟨v3,R25,hV,hR,h25,bl⟩:=lit_at v2 false false false
     simp only [hV,hR] at ⊢
     clear hV hR
     have h26:=h26.below bl
     have h27:=h27.below bl
     have c3:=below_trans c2 bl
     clear bl
     refine QK_normal ⟨?_, ?_⟩
     ·first | exact fun _=>hSB _ c3 | exact hSB _ c3
     refine N_one' (i:=24) (by kernel_rfl) rfl ?_
     go_wp2_with fail
     obtain ⟨v4,R24,hV,hR,h24,bl⟩:=lit_at v3 false false false
     simp only [hV,hR] at ⊢
     clear hV hR
     have h26:=h26.below bl
     have h27:=h27.below bl
     have h25:=h25.below bl
     have c4:=below_trans c3 bl
     clear bl
     refine QK_normal ⟨?_, ?_⟩
     ·first | exact fun _=>hSB _ c4 | exact hSB _ c4
     refine N_one' (i:=28) (by kernel_rfl) rfl ?_
     go_wp2_with fail
     obtain ⟨hB,bl⟩:=rows_lit h24 h25 h26 h27
     have c5:=below_trans c4 bl
     have hSm:=SameMarks_c (hO13.below c5) hB
     refine QK_normal ⟨?_, ?_⟩
     ·first | exact fun _=>hSB _ c5 | exact hSB _ c5
     clear hSB hB h24 h25 h26 h27 bl hO13
     refine N_rest 29 3 (Nat.le_refl _) rfl (by kernel_rfl) ?_
     simp only [List.drop_succ_cons,List.drop_zero]
     go_wp2_with fail
     refine hSm.mono ?_
     rintro e v6 ⟨rfl,c6⟩
     go_wp2_with fail
     rw [← hP.out]
     exact ⟨ret_bool (by simp),below_trans b13 (below_trans c5 c6)⟩
  ·go_wp2_with fail
   obtain ⟨v1,R27,hV,hR,h27,bl⟩:=lit_at v0 true true true
   simp only [hV,hR] at ⊢
   clear hV hR
   have c1:=below_trans c0 bl
   clear bl
   refine QK_normal ⟨?_, ?_⟩
   ·first | exact fun _=>hSB _ c1 | exact hSB _ c1
   refine N_three' (i:=24) (j:=25) (k:=26) (by kernel_rfl) rfl rfl rfl ?_ ?_ ?_
   ·go_wp2_with fail
    obtain ⟨v2,R24,hV,hR,h24,bl⟩:=lit_at v1 false false false
    simp only [hV,hR] at ⊢
    clear hV hR
    have h27:=h27.below bl
    have c2:=below_trans c1 bl
    clear bl
    refine QK_normal ⟨?_, ?_⟩
    ·first | exact fun _=>hSB _ c2 | exact hSB _ c2
    refine N_two' (i:=25) (j:=26) (by kernel_rfl) rfl rfl ?_ ?_
    ·go_wp2_with fail
     obtain ⟨v3,R25,hV,hR,h25,bl⟩:=lit_at v2 false false false
     simp only [hV,hR] at ⊢
     clear hV hR
     have h27:=h27.below bl
     have h24:=h24.below bl
     have c3:=below_trans c2 bl
     clear bl
     refine QK_normal ⟨?_, ?_⟩
     ·first | exact fun _=>hSB _ c3 | exact hSB _ c3
     refine N_one' (i:=26) (by kernel_rfl) rfl ?_
     go_wp2_with fail
     obtain ⟨v4,R26,hV,hR,h26,bl⟩:=lit_at v3 true false false
     simp only [hV,hR] at ⊢
     clear hV hR
     have h27:=h27.below bl
     have h24:=h24.below bl
     have h25:=h25.below bl
     have c4:=below_trans c3 bl
     clear bl
     refine QK_normal ⟨?_, ?_⟩
     ·first | exact fun _=>hSB _ c4 | exact hSB _ c4
     refine N_one' (i:=28) (by kernel_rfl) rfl ?_
     go_wp2_with fail
     obtain ⟨hB,bl⟩:=rows_lit h24 h25 h26 h27
     have c5:=below_trans c4 bl
     have hSm:=SameMarks_c (hO13.below c5) hB
     refine QK_normal ⟨?_, ?_⟩
     ·first | exact fun _=>hSB _ c5 | exact hSB _ c5
     clear hSB hB h24 h25 h26 h27 bl hO13
     refine N_rest 29 3 (Nat.le_refl _) rfl (by kernel_rfl) ?_
     simp only [List.drop_succ_cons,List.drop_zero]
     go_wp2_with fail
     refine hSm.mono ?_
     rintro e v6 ⟨rfl,c6⟩
     go_wp2_with fail
     rw [← hP.out]
     exact ⟨ret_bool (by simp),below_trans b13 (below_trans c5 c6)⟩
    ·go_wp2_with fail
     obtain ⟨v3,R26,hV,hR,h26,bl⟩:=lit_at v2 true false false
     simp only [hV,hR] at ⊢
     clear hV hR
     have h27:=h27.below bl
     have h24:=h24.below bl
     have c3:=below_trans c2 bl
     clear bl
     refine QK_normal ⟨?_, ?_⟩
     ·first | exact fun _=>hSB _ c3 | exact hSB _ c3
     refine N_one' (i:=25) (by kernel_rfl) rfl ?_
     go_wp2_with fail
     obtain ⟨v4,R25,hV,hR,h25,bl⟩:=lit_at v3 false false false
     simp only [hV,hR] at ⊢
     clear hV hR
     have h27:=h27.below bl
     have h24:=h24.below bl
     have h26:=h26.below bl
     have c4:=below_trans c3 bl
     clear bl
     refine QK_normal ⟨?_, ?_⟩
     ·first | exact fun _=>hSB _ c4 | exact hSB _ c4
     refine N_one' (i:=28) (by kernel_rfl) rfl ?_
     go_wp2_with fail
     obtain ⟨hB,bl⟩:=rows_lit h24 h25 h26 h27
     have c5:=below_trans c4 bl
     have hSm:=SameMarks_c (hO13.below c5) hB
     refine QK_normal ⟨?_, ?_⟩
     ·first | exact fun _=>hSB _ c5 | exact hSB _ c5
     clear hSB hB h24 h25 h26 h27 bl hO13
     refine N_rest 29 3 (Nat.le_refl _) rfl (by kernel_rfl) ?_
     simp only [List.drop_succ_cons,List.drop_zero]
     go_wp2_with fail
     refine hSm.mono ?_
     rintro e v6 ⟨rfl,c6⟩
     go_wp2_with fail
     rw [← hP.out]
     exact ⟨ret_bool (by simp),below_trans b13 (below_trans c5 c6)⟩
   ·go_wp2_with fail
    obtain ⟨v2,R25,hV,hR,h25,bl⟩:=lit_at v1 false false false
    simp only [hV,hR] at ⊢
    clear hV hR
    have h27:=h27.below bl
    have c2:=below_trans c1 bl
    clear bl
    refine QK_normal ⟨?_, ?_⟩
    ·first | exact fun _=>hSB _ c2 | exact hSB _ c2
    refine N_two' (i:=24) (j:=26) (by kernel_rfl) rfl rfl ?_ ?_
    ·go_wp2_with fail
     obtain ⟨v3,R24,hV,hR,h24,bl⟩:=lit_at v2 false false false
     simp only [hV,hR] at ⊢
     clear hV hR
     have h27:=h27.below bl
     have h25:=h25.below bl
     have c3:=below_trans c2 bl
     clear bl
     refine QK_normal ⟨?_, ?_⟩
     ·first | exact fun _=>hSB _ c3 | exact hSB _ c3
     refine N_one' (i:=26) (by kernel_rfl) rfl ?_
     go_wp2_with fail
     obtain ⟨v4,R26,hV,hR,h26,bl⟩:=lit_at v3 true false false
     simp only [hV,hR] at ⊢
     clear hV hR
     have h27:=h27.below bl
     have h25:=h25.below bl
     have h24:=h24.below bl
     have c4:=below_trans c3 bl
     clear bl
     refine QK_normal ⟨?_, ?_⟩
     ·first | exact fun _=>hSB _ c4 | exact hSB _ c4
     refine N_one' (i:=28) (by kernel_rfl) rfl ?_
     go_wp2_with fail
     obtain ⟨hB,bl⟩:=rows_lit h24 h25 h26 h27
     have c5:=below_trans c4 bl
     have hSm:=SameMarks_c (hO13.below c5) hB
     refine QK_normal ⟨?_, ?_⟩
     ·first | exact fun _=>hSB _ c5 | exact hSB _ c5
     clear hSB hB h24 h25 h26 h27 bl hO13
     refine N_rest 29 3 (Nat.le_refl _) rfl (by kernel_rfl) ?_
     simp only [List.drop_succ_cons,List.drop_zero]
     go_wp2_with fail
     refine hSm.mono ?_
     rintro e v6 ⟨rfl,c6⟩
     go_wp2_with fail
     rw [← hP.out]
     exact ⟨ret_bool (by simp),below_trans b13 (below_trans c5 c6)⟩
    ·go_wp2_with fail
     obtain ⟨v3,R26,hV,hR,h26,bl⟩:=lit_at v2 true false false
     simp only [hV,hR] at ⊢
     clear hV hR
     have h27:=h27.below bl
     have h25:=h25.below bl
     have c3:=below_trans c2 bl
     clear bl
     refine QK_normal ⟨?_, ?_⟩
     ·first | exact fun _=>hSB _ c3 | exact hSB _ c3
     refine N_one' (i:=24) (by kernel_rfl) rfl ?_
     go_wp2_with fail
     obtain ⟨v4,R24,hV,hR,h24,bl⟩:=lit_at v3 false false false
     simp only [hV,hR] at ⊢
     clear hV hR
     have h27:=h27.below bl
     have h25:=h25.below bl
     have h26:=h26.below bl
     have c4:=below_trans c3 bl
     clear bl
     refine QK_normal ⟨?_, ?_⟩
     ·first | exact fun _=>hSB _ c4 | exact hSB _ c4
     refine N_one' (i:=28) (by kernel_rfl) rfl ?_
     go_wp2_with fail
     obtain ⟨hB,bl⟩:=rows_lit h24 h25 h26 h27
     have c5:=below_trans c4 bl
     have hSm:=SameMarks_c (hO13.below c5) hB
     refine QK_normal ⟨?_, ?_⟩
     ·first | exact fun _=>hSB _ c5 | exact hSB _ c5
     clear hSB hB h24 h25 h26 h27 bl hO13
     refine N_rest 29 3 (Nat.le_refl _) rfl (by kernel_rfl) ?_
     simp only [List.drop_succ_cons,List.drop_zero]
     go_wp2_with fail
     refine hSm.mono ?_
     rintro e v6 ⟨rfl,c6⟩
     go_wp2_with fail
     rw [← hP.out]
     exact ⟨ret_bool (by simp),below_trans b13 (below_trans c5 c6)⟩
   ·go_wp2_with fail
    obtain ⟨v2,R26,hV,hR,h26,bl⟩:=lit_at v1 true false false
    simp only [hV,hR] at ⊢
    clear hV hR
    have h27:=h27.below bl
    have c2:=below_trans c1 bl
    clear bl
    refine QK_normal ⟨?_, ?_⟩
    ·first | exact fun _=>hSB _ c2 | exact hSB _ c2
    refine N_two' (i:=24) (j:=25) (by kernel_rfl) rfl rfl ?_ ?_
    ·go_wp2_with fail
     obtain ⟨v3,R24,hV,hR,h24,bl⟩:=lit_at v2 false false false
     simp only [hV,hR] at ⊢
     clear hV hR
     have h27:=h27.below bl
     have h26:=h26.below bl
     have c3:=below_trans c2 bl
     clear bl
     refine QK_normal ⟨?_, ?_⟩
     ·first | exact fun _=>hSB _ c3 | exact hSB _ c3
     refine N_one' (i:=25) (by kernel_rfl) rfl ?_
     go_wp2_with fail
     obtain ⟨v4,R25,hV,hR,h25,bl⟩:=lit_at v3 false false false
     simp only [hV,hR] at ⊢
     clear hV hR
     have h27:=h27.below bl
     have h26:=h26.below bl
     have h24:=h24.below bl
     have c4:=below_trans c3 bl
     clear bl
     refine QK_normal ⟨?_, ?_⟩
     ·first | exact fun _=>hSB _ c4 | exact hSB _ c4
     refine N_one' (i:=28) (by kernel_rfl) rfl ?_
     go_wp2_with fail
     obtain ⟨hB,bl⟩:=rows_lit h24 h25 h26 h27
     have c5:=below_trans c4 bl
     have hSm:=SameMarks_c (hO13.below c5) hB
     refine QK_normal ⟨?_, ?_⟩
     ·first | exact fun _=>hSB _ c5 | exact hSB _ c5
     clear hSB hB h24 h25 h26 h27 bl hO13
     refine N_rest 29 3 (Nat.le_refl _) rfl (by kernel_rfl) ?_
     simp only [List.drop_succ_cons,List.drop_zero]
     go_wp2_with fail
     refine hSm.mono ?_
     rintro e v6 ⟨rfl,c6⟩
     go_wp2_with fail
     rw [← hP.out]
     exact ⟨ret_bool (by simp),below_trans b13 (below_trans c5 c6)⟩
    ·go_wp2_with fail
     obtain ⟨v3,R25,hV,hR,h25,bl⟩:=lit_at v2 false false false
     simp only [hV,hR] at ⊢
     clear hV hR
     have h27:=h27.below bl
     have h26:=h26.below bl
     have c3:=below_trans c2 bl
     clear bl
     refine QK_normal ⟨?_, ?_⟩
     ·first | exact fun _=>hSB _ c3 | exact hSB _ c3
     refine N_one' (i:=24) (by kernel_rfl) rfl ?_
     go_wp2_with fail
     obtain ⟨v4,R24,hV,hR,h24,bl⟩:=lit_at v3 false false false
     simp only [hV,hR] at ⊢
     clear hV hR
     have h27:=h27.below bl
     have h26:=h26.below bl
     have h25:=h25.below bl
     have c4:=below_trans c3 bl
     clear bl
     refine QK_normal ⟨?_, ?_⟩
     ·first | exact fun _=>hSB _ c4 | exact hSB _ c4
     refine N_one' (i:=28) (by kernel_rfl) rfl ?_
     go_wp2_with fail
     obtain ⟨hB,bl⟩:=rows_lit h24 h25 h26 h27
     have c5:=below_trans c4 bl
     have hSm:=SameMarks_c (hO13.below c5) hB
     refine QK_normal ⟨?_, ?_⟩
     ·first | exact fun _=>hSB _ c5 | exact hSB _ c5
     clear hSB hB h24 h25 h26 h27 bl hO13
     refine N_rest 29 3 (Nat.le_refl _) rfl (by kernel_rfl) ?_
     simp only [List.drop_succ_cons,List.drop_zero]
     go_wp2_with fail
     refine hSm.mono ?_
     rintro e v6 ⟨rfl,c6⟩
     go_wp2_with fail
     rw [← hP.out]
     exact ⟨ret_bool (by simp),below_trans b13 (below_trans c5 c6)⟩
 refine wp_region_N (fun _=>True) 9 10 rfl (by kernel_rfl) trivial (fun _=>?_)
 refine N_two' (i:=0) (j:=1) (by kernel_rfl) rfl rfl ?_ ?_
 ·go_wp2_with fail
  refine (two_c _).mono ?_
  rintro e w11 ⟨tv,rfl,hT11,b11⟩
  have b11:=below_trans (below_drewN w10 1) b11
  obtain ⟨_,ta,tcap,rfl,_⟩:=id hT11.open
  go_wp2_with fail
  refine QK_normal ⟨fun _=>trivial, ?_⟩
  refine N_one' (i:=1) (by kernel_rfl) rfl ?_
  go_wp2_with (at_make;refine wpList_make_full _ rfl _ _ 27 rfl w10.heap.size 23 q0 _ 4 Tryz.underlying27 hq0 qz0 qz1 .i64 .i64 81 81 81 rfl rfl rfl rfl (by rw [qz2];omega) (by unfold maxLen;omega) (by exact b11.size) ?_;intro w12 hmk hgk)
  have hA12:=acts_zero hmk
  have b12:Below w11.heap.size w11 w12:=(Save.grown0 (S:=fun _=>False) hgk).below (fun _ h=>h.elim) (Nat.le_refl _)
  have hT11:=hT11.below b12
  have b12:=below_trans b11 b12
  clear hmk hgk b11
  first | refine N_one' (i:=2) (by kernel_rfl) rfl ?_ | (refine QK_normal ⟨fun _=>trivial, ?_⟩;refine N_one' (i:=2) (by kernel_rfl) rfl ?_)
  go_wp2_with fail
  refine (hM3.out _ _ _ hT11 hA12).mono ?_
  rintro e w13 ⟨sv3,ov3,rfl,_,_,b13⟩
  have hS13:=(hS10.below b12).below b13
  have hO13:=(hO10.below b12).below b13
  have b13:=below_trans (below_trans b10 b12) b13
  clear hM3 hT11 hA12 hS10 hO10 b10 b12
  go_wp2_with fail
  refine QK_normal ⟨fun _=>trivial, ?_⟩
  refine N_takeR (i:=3) (v:=?_) rfl rfl (by kernel_rfl) (fun _ _ _ h=>h) (Or.inl ⟨by rfl, ?_⟩) trivial ?_
  rotate_left
  ·intro w _
   go_simp
   try with_reducible rfl
  simp only [Act.put,List.setIfInBounds_toArray,List.set_cons_zero,List.set_cons_succ]
  refine N_takeR (i:=4) (v:=?_) rfl rfl (by kernel_rfl) (fun _ _ _ h=>h) (Or.inl ⟨by rfl, ?_⟩) trivial ?_
  rotate_left
  ·intro w _
   go_simp
   try with_reducible rfl
  simp only [Act.put,List.setIfInBounds_toArray,List.set_cons_zero,List.set_cons_succ]
  refine N_takeR (i:=5) (v:=?_) rfl rfl (by kernel_rfl) (fun _ _ _ h=>h) (Or.inl ⟨by rfl, ?_⟩) trivial ?_
  rotate_left
  ·intro w _
   go_simp
   try with_reducible rfl
  simp only [Act.put,List.setIfInBounds_toArray,List.set_cons_zero,List.set_cons_succ]
  refine N_takeR (i:=6) (v:=?_) rfl rfl (by kernel_rfl) (fun _ _ _ h=>h) (Or.inl ⟨by rfl, ?_⟩) trivial ?_
  rotate_left
  ·intro w _
   go_simp
   try with_reducible rfl
  simp only [Act.put,List.setIfInBounds_toArray,List.set_cons_zero,List.set_cons_succ]
  refine N_takeR (i:=7) (v:=?_) rfl rfl (by kernel_rfl) (fun _ _ _ h=>h) (Or.inl ⟨by rfl, ?_⟩) trivial ?_
  rotate_left
  ·intro w _
   go_simp
   try with_reducible rfl
  simp only [Act.put,List.setIfInBounds_toArray,List.set_cons_zero,List.set_cons_succ]
  refine N_takeR (i:=8) (v:=?_) rfl rfl (by kernel_rfl) (fun _ _ _ h=>h) (Or.inl ⟨by rfl, ?_⟩) trivial ?_
  rotate_left
  ·intro w _
   go_simp
   try with_reducible rfl
  simp only [Act.put,List.setIfInBounds_toArray,List.set_cons_zero,List.set_cons_succ]
  refine N_rest 9 1 (Nat.le_refl _) rfl (by kernel_rfl) ?_
  simp only [List.drop_succ_cons,List.drop_zero]
  go_wp2_with fail
  go_meet
  exact ⟨rfl,hS13,hO13,b13⟩
 ·go_wp2_with (at_make;refine wpList_make_full _ rfl _ _ 27 rfl w10.heap.size 23 q0 _ 4 Tryz.underlying27 hq0 qz0 qz1 .i64 .i64 81 81 81 rfl rfl rfl rfl (by rw [qz2];omega) (by unfold maxLen;omega) (by exact Nat.le_refl _) ?_;intro w11 hmk hgk)
  have hA11:=acts_zero hmk
  have b11:Below w10.heap.size w10 w11:=below_trans (below_drewN w10 1) ((Save.grown0 (S:=fun _=>False) hgk).below (fun _ h=>h.elim) (Nat.le_refl _))
  clear hmk hgk
  first | refine N_one' (i:=0) (by kernel_rfl) rfl ?_ | (refine QK_normal ⟨fun _=>trivial, ?_⟩;refine N_one' (i:=0) (by kernel_rfl) rfl ?_)
  go_wp2_with fail
  refine (two_c _).mono ?_
  rintro e w12 ⟨tv,rfl,hT11,b12⟩
  have hA12:=hA11.below b12
  have b12:=below_trans b11 b12
  obtain ⟨_,ta,tcap,rfl,_⟩:=id hT11.open
  clear b11 hA11
  go_wp2_with fail
  refine QK_normal ⟨fun _=>trivial, ?_⟩
  first | refine N_one' (i:=2) (by kernel_rfl) rfl ?_ | (refine QK_normal ⟨fun _=>trivial, ?_⟩;refine N_one' (i:=2) (by kernel_rfl) rfl ?_)
  go_wp2_with fail
  refine (hM3.out _ _ _ hT11 hA12).mono ?_
  rintro e w13 ⟨sv3,ov3,rfl,_,_,b13⟩
  have hS13:=(hS10.below b12).below b13
  have hO13:=(hO10.below b12).below b13
  have b13:=below_trans (below_trans b10 b12) b13
  clear hM3 hT11 hA12 hS10 hO10 b10 b12
  go_wp2_with fail
  refine QK_normal ⟨fun _=>trivial, ?_⟩
  refine N_takeR (i:=3) (v:=?_) rfl rfl (by kernel_rfl) (fun _ _ _ h=>h) (Or.inl ⟨by rfl, ?_⟩) trivial ?_
  rotate_left
  ·intro w _
   go_simp
   try with_reducible rfl
  simp only [Act.put,List.setIfInBounds_toArray,List.set_cons_zero,List.set_cons_succ]
  refine N_takeR (i:=4) (v:=?_) rfl rfl (by kernel_rfl) (fun _ _ _ h=>h) (Or.inl ⟨by rfl, ?_⟩) trivial ?_
  rotate_left
  ·intro w _
   go_simp
   try with_reducible rfl
  simp only [Act.put,List.setIfInBounds_toArray,List.set_cons_zero,List.set_cons_succ]
  refine N_takeR (i:=5) (v:=?_) rfl rfl (by kernel_rfl) (fun _ _ _ h=>h) (Or.inl ⟨by rfl, ?_⟩) trivial ?_
  rotate_left
  ·intro w _
   go_simp
   try with_reducible rfl
  simp only [Act.put,List.setIfInBounds_toArray,List.set_cons_zero,List.set_cons_succ]
  refine N_takeR (i:=6) (v:=?_) rfl rfl (by kernel_rfl) (fun _ _ _ h=>h) (Or.inl ⟨by rfl, ?_⟩) trivial ?_
  rotate_left
  ·intro w _
   go_simp
   try with_reducible rfl
  simp only [Act.put,List.setIfInBounds_toArray,List.set_cons_zero,List.set_cons_succ]
  refine N_takeR (i:=7) (v:=?_) rfl rfl (by kernel_rfl) (fun _ _ _ h=>h) (Or.inl ⟨by rfl, ?_⟩) trivial ?_
  rotate_left
  ·intro w _
   go_simp
   try with_reducible rfl
  simp only [Act.put,List.setIfInBounds_toArray,List.set_cons_zero,List.set_cons_succ]
  refine N_takeR (i:=8) (v:=?_) rfl rfl (by kernel_rfl) (fun _ _ _ h=>h) (Or.inl ⟨by rfl, ?_⟩) trivial ?_
  rotate_left
  ·intro w _
   go_simp
   try with_reducible rfl
  simp only [Act.put,List.setIfInBounds_toArray,List.set_cons_zero,List.set_cons_succ]
  refine N_rest 9 1 (Nat.le_refl _) rfl (by kernel_rfl) ?_
  simp only [List.drop_succ_cons,List.drop_zero]
  go_wp2_with fail
  go_meet
  exact ⟨rfl,hS13,hO13,b13⟩
end Go.Proofs.YtnalakhelicjcaaGreat
