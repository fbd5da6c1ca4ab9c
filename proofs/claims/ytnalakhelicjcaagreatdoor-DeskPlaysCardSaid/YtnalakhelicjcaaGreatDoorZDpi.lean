/-
  Play: what holds between two lines; a script is played.
-/
import Derived.Test.YtnalakhelicjcaaGreatDoorZGK
import Derived.Test.YtnalakhelicjcaaGreatDoorZGH
set_option maxRecDepth 100000
namespace Go.Proofs.YtnalakhelicjcaaGreatDoor
open Go.RowKit Go.Shelf Go.BigFrame Go.Deep
attribute [local go_sem] Oper.semAt_some
theorem Bd.keep {w w':World} {B b:Nat} {v:Value} {bs:List UInt8} (h:Bd w B b v bs) (kb:w'.heap[b]? = w.heap[b]?) (ko:∀ g,v.ownBlock = some g → w'.heap[g]? = w.heap[g]?):Bd w' B b v bs:=by
 obtain ⟨h1,⟨p,hp,h2⟩,h3,h4⟩:=h
 exact ⟨h1,⟨p,hp,kb.trans h2⟩,owns_lies h3 ko,h4⟩
theorem owns_cells {w:World} {b:Nat} {e:TypeId} {s n:Nat} {v:Value} {xs:List Value} (h:w.ownsRow b e s v n xs) {g:Nat} (hg:v.ownBlock = some g):∃ cs,w.heap[g]? = some (.cells cs e (0,0)):=by
 rcases h.2 with ⟨rfl,_⟩ | ⟨g',cap,cur,rfl,_,h3,_⟩
 ·cases hg
 ·cases hg
  exact ⟨_,h3⟩
theorem KeepsFrom.of_save {S:Nat → Prop} {B:Nat} {W W':World} (h:Save S W W') (hS:∀ b,S b → ∃ (cs:Array Value) (e:TypeId) (fz:Nat × Nat),W.heap[b]? = some (Obj.cells cs e fz)):KeepsFrom B W W':=
 ⟨h.size,fun k o _ hk ho=>by
  refine (h.block k (Array.getElem?_eq_some_iff.1 hk).1 (fun hs=>?_)).trans hk
  obtain ⟨cs,e,fz,hc⟩:=hS k hs
  rw [hk] at hc
  cases hc
  cases ho⟩
def PlI (w:World) (T:Nat) (X:Wd) (pre:List Ln) (W:World):Prop:=
 TabAt W T (playX X (pre.map (·.1))).1 ∧ Boxed W (T + 1) 31 (.pointer (some ⟨T,0,none⟩)) ∧ (∃ v,Bd W w.heap.size (T + 2) v (playX X (pre.map (·.1))).2 ∧ (∀ g,v.ownBlock = some g → T + 3 < g) ∧ (pre = [] → v = .slice none 0 0)) ∧
  (∃ y,Boxed W (T + 3) 9 y) ∧ Vars W ∧ Below w.heap.size w W ∧ T + 3 < W.heap.size
theorem PlI.own (w:World) (T:Nat) (X:Wd) (B:Nat) (h8:8 ≤ B) (hB:w.heap.size ≤ B):OwnFrom B (PlI w T X):=fun pre W W' row h hg hr=>by
 obtain ⟨h1,h2,⟨v,h3,h4,h5⟩,⟨y,h6⟩,h7,h9,h10⟩:=h
 have hr':∀ r,row = some r → ∃ o:Obj,W.heap[r]? = some o ∧ o.isCells = false:=fun r e=>(hr r e).2
 have hk:∀ (b:Nat) (cs:Array Value) (e:TypeId) (fz:Nat × Nat),W.heap[b]? = some (Obj.cells cs e fz) → W'.heap[b]? = W.heap[b]?:=fun b cs e fz hc=>grownBy_keeps_cells hg hr' hc rfl
 have hb2:=h3.2.1
 obtain ⟨p,hp,hb2⟩:=hb2
 refine ⟨h1.keep hg.size (fun b _ hc=>?_),(hk _ _ _ _ h2).trans h2,⟨v,h3.keep (hk _ _ _ _ hb2) (fun g hgo=>?_),h4,h5⟩,⟨y,(hk _ _ _ _ h6).trans h6⟩,h7.same (fun g hg8=>?_),ownFrom_below (n₀:=w.heap.size) (w₀:=w) (Nat.le_refl _) hB () W W' row h9 hg hr,Nat.lt_of_lt_of_le h10 hg.size⟩
 ·obtain ⟨e,n,_,cs,hc,_⟩:=hc
  exact hk _ _ _ _ hc
 ·obtain ⟨cs,hc⟩:=owns_cells h3.2.2.1 hgo
  exact hk _ _ _ _ hc
 ·exact hg.block g (by have:=h7.lt;omega) (fun e=>by have:=(hr g e.symm).1;omega)
theorem PlI.put {w:World} {T:Nat} {X:Wd} {pre:List Ln} {W:World} (hT:8 ≤ T) (hw:w.heap.size ≤ T) (h:PlI w T X pre W) (v:Value):PlI w T X pre (W.setCell ⟨T + 3,0,none⟩ v):=by
 obtain ⟨h1,h2,⟨u,h3,h4,h5⟩,⟨y,h6⟩,h7,h9,h10⟩:=h
 have hk:∀ b,b ≠ T + 3 → (W.setCell ⟨T + 3,0,none⟩ v).heap[b]? = W.heap[b]?:=fun b hb=>Go.Deep.blk_setCell_other _ _ _ _ hb
 refine ⟨h1.ans ⟨_,h6,rfl⟩,h2.other (by omega) v,⟨u,h3.keep (hk _ (by omega)) (fun g hg=>hk g (by have:=h4 g hg;omega)),h4,h5⟩,⟨v,h6.set v⟩,h7.same (fun g hg=>hk g (by omega)),h9.setCell (p:=⟨T + 3,0,none⟩) (by show w.heap.size ≤ T + 3;omega) v,by rw [Go.Deep.nblk_setCell];exact h10⟩
theorem playX_nil {X:Wd} {l:List (List UInt8)} (h:(playX X l).2 = []):l = []:=by
 rcases List.eq_nil_or_concat l with rfl | ⟨l',a,rfl⟩
 ·rfl
 ·rw [List.concat_eq_append,playX_snoc] at h
  simp [stepX] at h
theorem Pl0 {w w2:World} {T:Nat} {X:Wd} {gv nv wv:Value} {S:Nat → Prop} (hv:Vars w) (b2:Below w.heap.size w w2) (hT:w2.heap.size = T) (hO:OWd true w2 S gv nv wv X) (hS:∀ b,S b → b < w2.heap.size) (s:List UInt8) :
  PlI w T X [] ((((w2.alloc (.cells #[gv,nv,wv] 38)).alloc (.cells #[.pointer (some ⟨T,0,none⟩)] 31)).alloc (.cells #[.pointer none, .slice none 0 0] 42)).alloc (.cells #[.string (strB s)] 9)) ∧ Boxed ((((w2.alloc (.cells #[gv,nv,wv] 38)).alloc (.cells #[.pointer (some ⟨T,0,none⟩)] 31)).alloc (.cells #[.pointer none, .slice none 0 0] 42)).alloc (.cells #[.string (strB s)] 9)) (T + 3) 9 (.string (strB s)):=by
 have bA:=below_a1 w2 (.cells #[gv,nv,wv] 38)
 have hB:=OBox.new w2 38 gv nv wv
 have hc:=OWd.ce hO.any
 have hTA:TabAt (w2.alloc (.cells #[gv,nv,wv] 38)) T X:=by
  rw [hT] at hB
  refine ⟨gv,nv,wv,_,hB,hc.keep (fun b hb=>bA.block b (hS b hb.1)),fun b hb=>⟨Nat.lt_of_lt_of_le (hS b hb.1) bA.size,by have:=hS b hb.1;omega,hb.2.same (bA.block b (hS b hb.1))⟩⟩
 have s1:(w2.alloc (.cells #[gv,nv,wv] 38)).heap.size = T + 1:=by rw [World.size_alloc,hT]
 generalize w2.alloc (.cells #[gv,nv,wv] 38) = wA at *
 have hb1:=Boxed.new wA 31 (.pointer (some ⟨T,0,none⟩))
 have bB:=below_a1 wA (.cells #[.pointer (some ⟨T,0,none⟩)] 31)
 have s2:(wA.alloc (.cells #[.pointer (some ⟨T,0,none⟩)] 31)).heap.size = T + 2:=by rw [World.size_alloc,s1]
 rw [s1] at hb1
 have hTB:=hTA.below bB
 generalize wA.alloc (.cells #[.pointer (some ⟨T,0,none⟩)] 31) = wB at *
 have hb2:(wB.alloc (.cells #[.pointer none, .slice none 0 0] 42)).heap[wB.heap.size]? = some (.cells #[.pointer none, .slice none 0 0] 42 (0,0)):=World.alloc_heap_new _ _
 have bC:=below_a1 wB (.cells #[.pointer none, .slice none 0 0] 42)
 have s3:(wB.alloc (.cells #[.pointer none, .slice none 0 0] 42)).heap.size = T + 3:=by rw [World.size_alloc,s2]
 rw [s2] at hb2
 have hb1:=hb1.alloc (.cells #[.pointer none, .slice none 0 0] 42)
 have hTC:=hTB.below bC
 generalize wB.alloc (.cells #[.pointer none, .slice none 0 0] 42) = wC at *
 have hb3:=Boxed.new wC 9 (.string (strB s))
 have bD:=below_a1 wC (.cells #[.string (strB s)] 9)
 have s4:(wC.alloc (.cells #[.string (strB s)] 9)).heap.size = T + 4:=by rw [World.size_alloc,s3]
 rw [s3] at hb3
 have hb1:=hb1.alloc (.cells #[.string (strB s)] 9)
 have hTD:=hTC.below bD
 have hb2:=(bD.block (T + 2) (by omega)).trans hb2
 generalize wC.alloc (.cells #[.string (strB s)] 9) = wD at *
 have bw:Below w.heap.size w wD:=below_trans b2 (below_trans bA (below_trans bB (below_trans bC bD)))
 have hTw:=b2.size
 exact ⟨⟨hTD,hb1,⟨.slice none 0 0,⟨by omega,⟨_,Or.inl rfl,hb2⟩,World.ownsRow_nil _ _ _ _,by simp [Value.ownBlock]⟩,fun g hg=>(by simp [Value.ownBlock] at hg),fun _=>rfl⟩,⟨_,hb3⟩,hv.next bw,bw,by omega⟩,hb3⟩
set_option maxHeartbeats 2000000 in
theorem Play_in {w:World} {gv:Value} {gs:List Int} {n:Nat} {s:List UInt8} (hv:Vars w) (hg:Ints w gv gs) (he:gErr n gs = 0) (h1:¬ 4096 < s.length) (h2:¬ 80 < s.count 10) (h3:Ends s) :
  CallsIn Fence.wide 9 Tryz.prog 4 #[.int .i64 n,gv, .string (strB s)] w (PlayPost w (0,(playX (beginX n gs) (linesB s)).2)):=by
 have hC:=Check_c hg n
 have hRX:=begin_right he
 have hsm:=gErr_small he
 have hF:=fun (o:World) (k:Below w.heap.size w o)=>First_c (hg.below k) (n:=n) (by omega) (by omega)
 have hcnt:=lines_count s.length s (Nat.le_refl _) h3
 obtain ⟨_,ga,gcap,rfl,_⟩:=hg.open
 rw [he] at hC
 clear he
 have hz:=strB_size s
 have hK:=fun w1=>count_c w1 s
 have hS:s ≠ [] → ∀ w1,_:=fun h0 w1=>suffix_c w1 s (by omega)
 have hne:s ≠ [] → ((strB s).toList == []) = false:=fun h0=>by rw [strB_toL];exact beq_eq_false_iff_ne.2 h0
 obtain ⟨ct,hct⟩:∃ ct,s.count 10 = ct:=⟨_,rfl⟩
 simp only [hct] at hK
 rw [hct] at h2 hcnt
 clear hct
 refine callsIn_of_wp_marks Tryz.func4 rfl trivial ?_ rfl
 simp only [Tryz.ntmps4,List.size_toArray,List.length_cons,List.length_nil,Nat.reduceAdd,Nat.reduceSub,Array.replicate_succ,Array.replicate_zero,List.push_toArray,List.append_toArray,List.nil_append,List.cons_append]
 gi_wp2
 refine ⟨trivial,callsIn_wide.2 (hC.mono ?_)⟩
 clear hC
 rintro e w1 ⟨rfl,b1⟩
 gi_wp2
 refine ⟨trivial,callsIn_wide.2 ((hK _).mono ?_)⟩
 clear hK
 rintro e w2 ⟨rfl,h⟩
 rw [h]
 clear h w2
 have hF1:=hF _ b1
 by_cases hs0:s = []
 ·have hem:(strB s).toList.isEmpty = true:=by rw [strB_toL,hs0];rfl
  have hem2:((strB s).toList == []) = true:=by rw [strB_toL,hs0];rfl
  clear hS hne hF
  replace hs0:=Lib.hid hs0
  gi_wp2
  refine ⟨trivial, ?_⟩
  gi_wp2
  refine ⟨trivial,callsIn_wide.2 (hF1.mono ?_)⟩
  clear hF1
  rintro e w2 ⟨gv2,nv2,wv2,S2,rfl,hO2,hS2,b2⟩
  obtain ⟨_,ga2,gcap2,rfl,_⟩:=hO2.parts.1.open
  obtain ⟨_,na2,ncap2,rfl,_⟩:=hO2.parts.2.1.form
  obtain ⟨_,wa2,wcap2,rfl,_⟩:=hO2.parts.2.2.form
  have hLn:=fun W=>Lines_c W (strB s)
  gi_wp2
  refine ⟨trivial,callsIn_wide.2 ((hLn _).mono ?_)⟩
  clear hLn
  rintro e w3 ⟨rfl,h⟩
  rw [h]
  clear h w3
  obtain ⟨T,hT⟩:∃ T,w2.heap.size = T:=⟨_,rfl⟩
  obtain ⟨h0,hBs⟩:=Pl0 hv (below_trans b1 b2) hT hO2 (fun b hb=>(hS2 b hb).2) s
  have hTw:w.heap.size ≤ T:=by rw [← hT];exact (below_trans b1 b2).size
  have hT8:8 ≤ T:=Nat.le_trans hv.lt hTw
  simp only [World.size_alloc,hT]
  generalize (((w2.alloc (.cells #[.slice ga2 (beginX n gs).groups.length gcap2, .slice na2 (beginX n gs).nodes.length ncap2, .slice wa2 (beginX n gs).wires.length wcap2] 38)).alloc (.cells #[.pointer (some ⟨T,0,none⟩)] 31)).alloc (.cells #[.pointer none, .slice none 0 0] 42)).alloc (.cells #[.string (strB s)] 9) = w3 at *
  have hgs:=PlI.own w T (beginX n gs) w3.heap.size (by have:=h0.2.2.2.2.2.2;omega) (by have:=h0.2.2.2.2.2.2;omega)
  gi_wp2
  simp only [Nat.add_assoc,Nat.reduceAdd]
  clear hT hO2 hS2 b1 b2
  generalize ha0:Act.mk _ _ = a0
  refine rangeFunc_B rfl (by omega) (gf:=28) (lb:=#[.pointer (some ⟨T + 3,0,none⟩)]) (by rw [← ha0];rfl) trivial (enters_of Tryz.func28 (by kernel_rfl) rfl) (lines_seq 8 (by omega) (T + 3) s h3 (by omega) w3 hBs) hBs.lt (fun _=>rfl)
   (PlI w T (beginX n gs)) (fun _ _ _=>False) hgs (fun _ _ _ _ _ h _ _=>h.elim) (fun _ _ v h=>h.put hT8 hTw v) h0
   (fun x a _=>a = { tmps:=(a0.tmps.setIfInBounds 40 (.string (strB (x.1 ++ [10])))).setIfInBounds 11 (.string (strB (x.1 ++ [10]))),defers:=[] }) (fun _ _ _ _ _ _ h _ _=>h) ?assign ?body ?done ?stop
  case stop=>rintro D c pre W hD _ h _;exact h.elim
  case assign =>
   rintro l pre x W K hsW hI hK
   rw [← ha0] at hK ⊢
   gi_wp2
   exact hK _ _ (KeepsFrom.refl _ W) rfl hI rfl
  case body =>
   rintro l pre x a' W hI rfl hlt
   rw [← ha0]
   simp only [List.setIfInBounds_toArray,List.set_cons_zero,List.set_cons_succ]
   obtain ⟨h1,h2,⟨v,hBd,hv4,hv5⟩,⟨y,h6⟩,h7,h9,h10⟩:=hI
   have hfine:=playX_fine hRX (pre.map (·.1))
   have hsn:=playX_snoc (beginX n gs) (pre.map (·.1)) x.1
   obtain ⟨Xp,hXp⟩:∃ p,playX (beginX n gs) (pre.map (·.1)) = p:=⟨_,rfl⟩
   rw [hXp] at h1 hBd hfine hsn
   rw [List.length_map] at hfine
   have hlp:pre.length ≤ 80:=by omega
   have hll:=line_len hfine.1 x.1
   have hTr:=fun W'=>trim_c W' x.1 x.2
   have hLc:=fun (o:World) (k:Below W.heap.size W o)=>line_c (h7.next k) hT8 (h1.below k) hfine.1 (Nat.le_trans x.2 (by decide))
   have hsx:stepX Xp x.1 = ((lineX Xp.1 x.1).1,Xp.2 ++ (lineX Xp.1 x.1).2 ++ [10]):=rfl
   obtain ⟨rl,hrl⟩:∃ r,lineX Xp.1 x.1 = r:=⟨_,rfl⟩
   rw [hrl] at hll hsx
   simp only [hrl] at hLc
   rw [hsx] at hsn
   have c1:=h2.cell
   have hSB:∀ o,Below W.heap.size W o → o.cell? ⟨T + 1,0,none⟩ = some (.pointer (some ⟨T,0,none⟩)) ∧ True:=fun o k=>⟨(k.cell h2.lt).trans c1,trivial⟩
   have hz1:¬ 9223372036854775807 < (strB rl.2).size + 1:=by rw [strB_size];omega
   replace hsn:=Lib.hid hsn
   replace hLc:=Lib.hid hLc
   clear hsx hrl hXp hRX hcnt
   gi_wp2
   refine wp_region_R (fun o=>o.cell? ⟨T + 1,0,none⟩ = some (.pointer (some ⟨T,0,none⟩)) ∧ True) 3 6 rfl (by kernel_rfl) (by kernel_rfl) (fun ⟨_,_,h⟩=>h) (hSB _ (below_drewN W 1)) (fun hSw=>?_)
   refine tk 0 ?_ rfl rfl (by kernel_rfl) (.inl ⟨by rfl, ?_⟩) hSw ?_
   rotate_left
   ·rintro w ⟨s0,_⟩;go_simp;try with_reducible rfl
   simp only [tkp,tkz,tks]
   refine tk 1 ?_ rfl rfl (by kernel_rfl) (.inl ⟨by rfl, ?_⟩) hSw ?_
   rotate_left
   ·rintro w ⟨s0,_⟩;go_simp;try with_reducible rfl
   simp only [tkp,tkz,tks]
   refine N_one' (i:=2) (by kernel_rfl) rfl ?_
   go_wp2_with fail
   refine (hTr _).mono ?_
   clear hTr
   rintro e W1 ⟨rfl,h⟩
   rw [h]
   clear h W1
   go_wp2_with fail
   refine QK_normal ⟨fun _=>hSw, ?_⟩
   refine N_one' (i:=3) (by kernel_rfl) rfl ?_
   go_wp2_with fail
   refine (hLc.out _ (below_drewN W 1)).mono ?_
   clear hLc
   rintro e W2 ⟨rfl,s2,hT2⟩
   go_wp2_with fail
   refine QK_normal ⟨fun h=>absurd h (by decide), ?_⟩
   refine N_rest 4 2 (by decide) rfl (by kernel_rfl) ?_
   simp only [List.drop_succ_cons,List.drop_zero]
   have sA:=(Save.of (T:=T) (below_drewN W 1)).trans s2 (fun _ h _=>h)
   have hgl:∀ g,v.ownBlock = some g → g < W.heap.size:=fun g hg=>by
    obtain ⟨cs,hc⟩:=owns_cells hBd.2.2.1 hg
    exact (Array.getElem?_eq_some_iff.1 hc).1
   have hBd2:=hBd.keep (sA.block (T + 2) (by omega) (by omega)) (fun g hg=>sA.block g (hgl g hg) (by have:=hv4 g hg;omega))
   have hcat:strB rl.2 ++ (⟨#[10]⟩:ByteArray) = strB (rl.2 ++ [10]):=strB_app rl.2 [10]
   have hWr:=WriteS_c hBd2 (rl.2 ++ [10]) (by have:=hfine.2;rw [List.length_append,List.length_singleton];omega) (Nat.le_trans h9.size sA.size)
   obtain ⟨p2,hp2,hb2⟩:=hBd2.2.1
   have ho2:=fun g hg=>owns_cells hBd2.2.2.1 (g:=g) hg
   obtain ⟨_,_,_,_,hTb,_⟩:=id h1
   obtain ⟨tcs,htc,_⟩:=hTb.1
   clear hBd2 hTb
   go_wp2_with fail
   refine hWr.mono ?_
   clear hWr
   rintro e W3 ⟨⟨xx,rfl⟩,v',hBd3,hat,s3⟩
   go_wp2_with fail
   have hn3:∀ b,b ≠ T + 2 → (∀ g,v.ownBlock = some g → b ≠ g) → ¬ (b = T + 2 ∨ v.ownBlock = some b):=fun b hb1 hb2 h=>h.elim hb1 (fun h=>hb2 b h rfl)
   have sz:=sA.size
   refine ⟨(KeepsFrom.of_save sA (fun b hb=>⟨tcs,38,(0,0),(congrArg (fun k=>W.heap[k]?) hb).trans htc⟩)).trans (KeepsFrom.of_save s3 (fun b hb=>?_)),(s3.block (T + 3) (by omega) (hn3 _ (by omega) (fun g hg=>by have:=hv4 g hg;omega))).trans (sA.block (T + 3) (by omega) (by omega)), ?_⟩
   ·rcases hb with rfl | hb
    ·exact ⟨_,_,_,hb2⟩
    ·obtain ⟨cs,hc⟩:=ho2 b hb
     exact ⟨_,_,_,hc⟩
   have hk3:∀ b,b < W.heap.size → b ≠ T → b ≠ T + 2 → (∀ g,v.ownBlock = some g → b ≠ g) → W3.heap[b]? = W.heap[b]?:=fun b hl hb1 hb2 hb3=>(s3.block b (by omega) (hn3 b hb2 hb3)).trans (sA.block b hl hb1)
   have hBlw:Below w.heap.size w W3:=(h9.trans (sA.below (fun b hb=>by rw [hb];exact hTw) h9.size)).trans (s3.below (fun b hb=>by
    rcases hb with rfl | hb
    ·omega
    ·have:=hv4 b hb;omega) (Nat.le_trans h9.size sz))
   unfold PlI
   rw [List.map_append,List.map_singleton,hsn.out]
   rw [← List.append_assoc] at hBd3
   refine ⟨hT2.keep s3.size (fun b hb hc=>s3.block b hb (fun h=>?_)),(hk3 (T + 1) (by omega) (by omega) (by omega) (fun g hg=>by have:=hv4 g hg;omega)).trans h2,⟨v',hBd3,fun g hg=>?_,fun h=>by simp at h⟩,⟨y,(hk3 (T + 3) (by omega) (by omega) (by omega) (fun g hg=>by have:=hv4 g hg;omega)).trans h6⟩,h7.same (fun g hg=>hk3 g (by omega) (by omega) (by omega) (fun g' hg'=>by have:=hv4 g' hg';omega)),hBlw,Nat.lt_of_lt_of_le h10 (Nat.le_trans sz s3.size)⟩
   ·rcases h with rfl | h
    ·exact hc.ne hb2 (fun g=>g.2.2 rfl)
    ·obtain ⟨cs,hcs⟩:=ho2 b h
     exact hc.ne hcs (fun g=>g.2.1 rfl)
   ·rcases hat with h | ⟨g',h,hge⟩
    ·exact hv4 g (by rw [← h];exact hg)
    ·rw [h] at hg
     cases hg
     omega
  case done =>
   rintro D xs W hD hxs hI hK
   have hw3:w.heap.size ≤ w3.heap.size:=h0.2.2.2.2.2.1.size
   obtain ⟨h1,h2,⟨v,hBd,hv4,hv5⟩,⟨y,h6⟩,h7,h9,h10⟩:=hI
   rw [hxs] at hBd h1
   rw [← ha0]
   have hSt:=BStr_c hBd (fun he=>hv5 (List.map_eq_nil_iff.1 (hxs.trans (playX_nil he))))
   have hDo:∀ g,v.ownBlock = some g → D ≠ g:=fun g hg e=>by
    obtain ⟨cs,hc⟩:=owns_cells hBd.2.2.1 hg
    rw [← e,hK] at hc
    cases hc
   have hol:∀ g,v.ownBlock = some g → w.heap.size ≤ g:=fun g hg=>by have:=hv4 g hg;omega
   obtain ⟨out,hout⟩:∃ out,(playX (beginX n gs) (linesB s)).2 = out:=⟨_,rfl⟩
   rw [hout] at hSt ⊢
   clear hBd hv4 hv5 h1 h6
   gi_wp2
   refine ⟨trivial,callsIn_wide.2 (hSt.mono ?_)⟩
   clear hSt
   rintro e W2 ⟨rfl,s2⟩
   have hK2:W2.heap[D]? = some (.deferred (some [])):=(s2.block D (Array.getElem?_eq_some_iff.1 hK).1 (fun h=>hDo D h rfl)).trans hK
   have hB2:Below w.heap.size w W2:=h9.trans (s2.below (fun b h=>hol b h) h9.size)
   gi_wp2
   refine ⟨by simp, .inl ⟨_,_,rfl,run_takeDeferred hK2, ?_⟩⟩
   refine ⟨_,by simp [results,Tryz.f4];rfl, ?_⟩
   exact ⟨by rw [← hout],hB2.trans (belowK_b (w:=w) (Nat.le_refl _) _ D _ _ (by omega) hK2 rfl rfl)⟩
 ·have hS1:=hS hs0
  have hne1:=hne hs0
  rw [decide_eq_true (h3.resolve_left hs0)] at hS1
  clear hS hne hF
  replace hs0:=Lib.hid hs0
  gi_wp2
  refine ⟨trivial,callsIn_wide.2 ((hS1 _).mono ?_)⟩
  clear hS1
  rintro e w2 ⟨rfl,h⟩
  rw [h]
  clear h w2
  gi_wp2
  refine ⟨trivial,callsIn_wide.2 (hF1.mono ?_)⟩
  clear hF1
  rintro e w2 ⟨gv2,nv2,wv2,S2,rfl,hO2,hS2,b2⟩
  obtain ⟨_,ga2,gcap2,rfl,_⟩:=hO2.parts.1.open
  obtain ⟨_,na2,ncap2,rfl,_⟩:=hO2.parts.2.1.form
  obtain ⟨_,wa2,wcap2,rfl,_⟩:=hO2.parts.2.2.form
  have hLn:=fun W=>Lines_c W (strB s)
  gi_wp2
  refine ⟨trivial,callsIn_wide.2 ((hLn _).mono ?_)⟩
  clear hLn
  rintro e w3 ⟨rfl,h⟩
  rw [h]
  clear h w3
  obtain ⟨T,hT⟩:∃ T,w2.heap.size = T:=⟨_,rfl⟩
  obtain ⟨h0,hBs⟩:=Pl0 hv (below_trans b1 b2) hT hO2 (fun b hb=>(hS2 b hb).2) s
  have hTw:w.heap.size ≤ T:=by rw [← hT];exact (below_trans b1 b2).size
  have hT8:8 ≤ T:=Nat.le_trans hv.lt hTw
  simp only [World.size_alloc,hT]
  generalize (((w2.alloc (.cells #[.slice ga2 (beginX n gs).groups.length gcap2, .slice na2 (beginX n gs).nodes.length ncap2, .slice wa2 (beginX n gs).wires.length wcap2] 38)).alloc (.cells #[.pointer (some ⟨T,0,none⟩)] 31)).alloc (.cells #[.pointer none, .slice none 0 0] 42)).alloc (.cells #[.string (strB s)] 9) = w3 at *
  have hgs:=PlI.own w T (beginX n gs) w3.heap.size (by have:=h0.2.2.2.2.2.2;omega) (by have:=h0.2.2.2.2.2.2;omega)
  gi_wp2
  simp only [Nat.add_assoc,Nat.reduceAdd]
  clear hT hO2 hS2 b1 b2
  generalize ha0:Act.mk _ _ = a0
  refine rangeFunc_B rfl (by omega) (gf:=28) (lb:=#[.pointer (some ⟨T + 3,0,none⟩)]) (by rw [← ha0];rfl) trivial (enters_of Tryz.func28 (by kernel_rfl) rfl) (lines_seq 8 (by omega) (T + 3) s h3 (by omega) w3 hBs) hBs.lt (fun _=>rfl)
   (PlI w T (beginX n gs)) (fun _ _ _=>False) hgs (fun _ _ _ _ _ h _ _=>h.elim) (fun _ _ v h=>h.put hT8 hTw v) h0
   (fun x a _=>a = { tmps:=(a0.tmps.setIfInBounds 40 (.string (strB (x.1 ++ [10])))).setIfInBounds 11 (.string (strB (x.1 ++ [10]))),defers:=[] }) (fun _ _ _ _ _ _ h _ _=>h) ?assign ?body ?done ?stop
  case stop=>rintro D c pre W hD _ h _;exact h.elim
  case assign =>
   rintro l pre x W K hsW hI hK
   rw [← ha0] at hK ⊢
   gi_wp2
   exact hK _ _ (KeepsFrom.refl _ W) rfl hI rfl
  case body =>
   rintro l pre x a' W hI rfl hlt
   rw [← ha0]
   simp only [List.setIfInBounds_toArray,List.set_cons_zero,List.set_cons_succ]
   obtain ⟨h1,h2,⟨v,hBd,hv4,hv5⟩,⟨y,h6⟩,h7,h9,h10⟩:=hI
   have hfine:=playX_fine hRX (pre.map (·.1))
   have hsn:=playX_snoc (beginX n gs) (pre.map (·.1)) x.1
   obtain ⟨Xp,hXp⟩:∃ p,playX (beginX n gs) (pre.map (·.1)) = p:=⟨_,rfl⟩
   rw [hXp] at h1 hBd hfine hsn
   rw [List.length_map] at hfine
   have hlp:pre.length ≤ 80:=by omega
   have hll:=line_len hfine.1 x.1
   have hTr:=fun W'=>trim_c W' x.1 x.2
   have hLc:=fun (o:World) (k:Below W.heap.size W o)=>line_c (h7.next k) hT8 (h1.below k) hfine.1 (Nat.le_trans x.2 (by decide))
   have hsx:stepX Xp x.1 = ((lineX Xp.1 x.1).1,Xp.2 ++ (lineX Xp.1 x.1).2 ++ [10]):=rfl
   obtain ⟨rl,hrl⟩:∃ r,lineX Xp.1 x.1 = r:=⟨_,rfl⟩
   rw [hrl] at hll hsx
   simp only [hrl] at hLc
   rw [hsx] at hsn
   have c1:=h2.cell
   have hSB:∀ o,Below W.heap.size W o → o.cell? ⟨T + 1,0,none⟩ = some (.pointer (some ⟨T,0,none⟩)) ∧ True:=fun o k=>⟨(k.cell h2.lt).trans c1,trivial⟩
   have hz1:¬ 9223372036854775807 < (strB rl.2).size + 1:=by rw [strB_size];omega
   replace hsn:=Lib.hid hsn
   replace hLc:=Lib.hid hLc
   clear hsx hrl hXp hRX hcnt
   gi_wp2
   refine wp_region_R (fun o=>o.cell? ⟨T + 1,0,none⟩ = some (.pointer (some ⟨T,0,none⟩)) ∧ True) 3 6 rfl (by kernel_rfl) (by kernel_rfl) (fun ⟨_,_,h⟩=>h) (hSB _ (below_drewN W 1)) (fun hSw=>?_)
   refine tk 0 ?_ rfl rfl (by kernel_rfl) (.inl ⟨by rfl, ?_⟩) hSw ?_
   rotate_left
   ·rintro w ⟨s0,_⟩;go_simp;try with_reducible rfl
   simp only [tkp,tkz,tks]
   refine tk 1 ?_ rfl rfl (by kernel_rfl) (.inl ⟨by rfl, ?_⟩) hSw ?_
   rotate_left
   ·rintro w ⟨s0,_⟩;go_simp;try with_reducible rfl
   simp only [tkp,tkz,tks]
   refine N_one' (i:=2) (by kernel_rfl) rfl ?_
   go_wp2_with fail
   refine (hTr _).mono ?_
   clear hTr
   rintro e W1 ⟨rfl,h⟩
   rw [h]
   clear h W1
   go_wp2_with fail
   refine QK_normal ⟨fun _=>hSw, ?_⟩
   refine N_one' (i:=3) (by kernel_rfl) rfl ?_
   go_wp2_with fail
   refine (hLc.out _ (below_drewN W 1)).mono ?_
   clear hLc
   rintro e W2 ⟨rfl,s2,hT2⟩
   go_wp2_with fail
   refine QK_normal ⟨fun h=>absurd h (by decide), ?_⟩
   refine N_rest 4 2 (by decide) rfl (by kernel_rfl) ?_
   simp only [List.drop_succ_cons,List.drop_zero]
   have sA:=(Save.of (T:=T) (below_drewN W 1)).trans s2 (fun _ h _=>h)
   have hgl:∀ g,v.ownBlock = some g → g < W.heap.size:=fun g hg=>by
    obtain ⟨cs,hc⟩:=owns_cells hBd.2.2.1 hg
    exact (Array.getElem?_eq_some_iff.1 hc).1
   have hBd2:=hBd.keep (sA.block (T + 2) (by omega) (by omega)) (fun g hg=>sA.block g (hgl g hg) (by have:=hv4 g hg;omega))
   have hcat:strB rl.2 ++ (⟨#[10]⟩:ByteArray) = strB (rl.2 ++ [10]):=strB_app rl.2 [10]
   have hWr:=WriteS_c hBd2 (rl.2 ++ [10]) (by have:=hfine.2;rw [List.length_append,List.length_singleton];omega) (Nat.le_trans h9.size sA.size)
   obtain ⟨p2,hp2,hb2⟩:=hBd2.2.1
   have ho2:=fun g hg=>owns_cells hBd2.2.2.1 (g:=g) hg
   obtain ⟨_,_,_,_,hTb,_⟩:=id h1
   obtain ⟨tcs,htc,_⟩:=hTb.1
   clear hBd2 hTb
   go_wp2_with fail
   refine hWr.mono ?_
   clear hWr
   rintro e W3 ⟨⟨xx,rfl⟩,v',hBd3,hat,s3⟩
   go_wp2_with fail
   have hn3:∀ b,b ≠ T + 2 → (∀ g,v.ownBlock = some g → b ≠ g) → ¬ (b = T + 2 ∨ v.ownBlock = some b):=fun b hb1 hb2 h=>h.elim hb1 (fun h=>hb2 b h rfl)
   have sz:=sA.size
   refine ⟨(KeepsFrom.of_save sA (fun b hb=>⟨tcs,38,(0,0),(congrArg (fun k=>W.heap[k]?) hb).trans htc⟩)).trans (KeepsFrom.of_save s3 (fun b hb=>?_)),(s3.block (T + 3) (by omega) (hn3 _ (by omega) (fun g hg=>by have:=hv4 g hg;omega))).trans (sA.block (T + 3) (by omega) (by omega)), ?_⟩
   ·rcases hb with rfl | hb
    ·exact ⟨_,_,_,hb2⟩
    ·obtain ⟨cs,hc⟩:=ho2 b hb
     exact ⟨_,_,_,hc⟩
   have hk3:∀ b,b < W.heap.size → b ≠ T → b ≠ T + 2 → (∀ g,v.ownBlock = some g → b ≠ g) → W3.heap[b]? = W.heap[b]?:=fun b hl hb1 hb2 hb3=>(s3.block b (by omega) (hn3 b hb2 hb3)).trans (sA.block b hl hb1)
   have hBlw:Below w.heap.size w W3:=(h9.trans (sA.below (fun b hb=>by rw [hb];exact hTw) h9.size)).trans (s3.below (fun b hb=>by
    rcases hb with rfl | hb
    ·omega
    ·have:=hv4 b hb;omega) (Nat.le_trans h9.size sz))
   unfold PlI
   rw [List.map_append,List.map_singleton,hsn.out]
   rw [← List.append_assoc] at hBd3
   refine ⟨hT2.keep s3.size (fun b hb hc=>s3.block b hb (fun h=>?_)),(hk3 (T + 1) (by omega) (by omega) (by omega) (fun g hg=>by have:=hv4 g hg;omega)).trans h2,⟨v',hBd3,fun g hg=>?_,fun h=>by simp at h⟩,⟨y,(hk3 (T + 3) (by omega) (by omega) (by omega) (fun g hg=>by have:=hv4 g hg;omega)).trans h6⟩,h7.same (fun g hg=>hk3 g (by omega) (by omega) (by omega) (fun g' hg'=>by have:=hv4 g' hg';omega)),hBlw,Nat.lt_of_lt_of_le h10 (Nat.le_trans sz s3.size)⟩
   ·rcases h with rfl | h
    ·exact hc.ne hb2 (fun g=>g.2.2 rfl)
    ·obtain ⟨cs,hcs⟩:=ho2 b h
     exact hc.ne hcs (fun g=>g.2.1 rfl)
   ·rcases hat with h | ⟨g',h,hge⟩
    ·exact hv4 g (by rw [← h];exact hg)
    ·rw [h] at hg
     cases hg
     omega
  case done =>
   rintro D xs W hD hxs hI hK
   have hw3:w.heap.size ≤ w3.heap.size:=h0.2.2.2.2.2.1.size
   obtain ⟨h1,h2,⟨v,hBd,hv4,hv5⟩,⟨y,h6⟩,h7,h9,h10⟩:=hI
   rw [hxs] at hBd h1
   rw [← ha0]
   have hSt:=BStr_c hBd (fun he=>hv5 (List.map_eq_nil_iff.1 (hxs.trans (playX_nil he))))
   have hDo:∀ g,v.ownBlock = some g → D ≠ g:=fun g hg e=>by
    obtain ⟨cs,hc⟩:=owns_cells hBd.2.2.1 hg
    rw [← e,hK] at hc
    cases hc
   have hol:∀ g,v.ownBlock = some g → w.heap.size ≤ g:=fun g hg=>by have:=hv4 g hg;omega
   obtain ⟨out,hout⟩:∃ out,(playX (beginX n gs) (linesB s)).2 = out:=⟨_,rfl⟩
   rw [hout] at hSt ⊢
   clear hBd hv4 hv5 h1 h6
   gi_wp2
   refine ⟨trivial,callsIn_wide.2 (hSt.mono ?_)⟩
   clear hSt
   rintro e W2 ⟨rfl,s2⟩
   have hK2:W2.heap[D]? = some (.deferred (some [])):=(s2.block D (Array.getElem?_eq_some_iff.1 hK).1 (fun h=>hDo D h rfl)).trans hK
   have hB2:Below w.heap.size w W2:=h9.trans (s2.below (fun b h=>hol b h) h9.size)
   gi_wp2
   refine ⟨by simp, .inl ⟨_,_,rfl,run_takeDeferred hK2, ?_⟩⟩
   refine ⟨_,by simp [results,Tryz.f4];rfl, ?_⟩
   exact ⟨by rw [← hout],hB2.trans (belowK_b (w:=w) (Nat.le_refl _) _ D _ _ (by omega) hK2 rfl rfl)⟩
theorem Play_c {w:World} {gv:Value} {gs:List Int} {n:Int} {s:List UInt8} (hv:Vars w) (hg:Ints w gv gs) (hs:s.length ≤ 140737488351232) :
  Calls Tryz.prog 4 #[.int .i64 n,gv, .string (strB s)] w (PlayPost w (playF n gs s)):=by
 by_cases h:gErr n gs = 0 ∧ ¬ (4096 < s.length ∨ 80 < s.count 10) ∧ Ends s
 ·obtain ⟨he,h2,h3⟩:=h
  have hsm:=gErr_small he
  obtain ⟨k,rfl⟩:=Int.eq_ofNat_of_zero_le (a:=n) (by omega)
  rw [playF_ok he h2 h3]
  exact callsIn_wide.1 (Play_in hv hg he (fun k=>h2 (Or.inl k)) (fun k=>h2 (Or.inr k)) h3)
 ·exact Play_no hg hs h
end Go.Proofs.YtnalakhelicjcaaGreatDoor
