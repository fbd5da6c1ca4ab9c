/-
  A range over a function that writes a variable of its own (one cell, block B): the law, from the kit's two laws on rounds.
-/
import Derived.RangeFuncNested
import Derived.Test.YtnalakhelicjcaaGreatDoorZDl
import Derived.Test.YtnalakhelicjcaaGreatDoorZKT
set_option maxRecDepth 100000
namespace Go.Proofs.YtnalakhelicjcaaGreatDoor
open Go Go.RowKit
variable {F:Fence} {n:Nat} {P:Program}
def SeqB {α:Type} (F:Fence) (n:Nat) (P:Program) (g:Nat) (lb:Array Value) (encs:α → Array Value) (B:Nat) (S Sp:List α → Prop) (N:Nat) (w:World):Prop:=
 ∀ (l:Nat) (J Jx:List α → World → Prop) (W:World),Below w.heap.size w W → AbidesFrom W.heap.size J → AbidesFrom W.heap.size Jx → (∀ s A v,J s A → J s (A.setCell ⟨B,0,none⟩ v)) →
  (∀ pre x W1,J pre W1 → pre.length < N → YieldAt F (n - 1) P l (encs x) W1 fun e W'=>(e = .returned (.bool true) ∧ J (pre ++ [x]) W' ∧ W'.heap[B]? = W1.heap[B]?) ∨ (e = .returned (.bool false) ∧ Jx (pre ++ [x]) W')) →
  J [] W → CallsIn F n P g (#[.func (.yield l) #[] #[]] ++ lb) W fun e W'=>(∃ v,e = .returned v) ∧ ((∃ xs,S xs ∧ J xs W') ∨ ∃ pre,Sp pre ∧ Jx pre W')
theorem putObj_at {W:World} {l k:Nat} {o:Obj} (h:k ≠ l):(W.putObj l o).heap[k]? = W.heap[k]?:=World.putObj_heap_other h
theorem rangeFunc_B {α:Type} {g:Operand} {ps:Array Tmp} {assign body:Code} {Q:Exit → Act → World → Prop} {a:Act} {w:World} (hro:F.round = none) (h1:1 ≤ n) {gf:Nat} {lb:Array Value}
  (hg:a.eval g = .func (.func gf) #[] lb) (hFg:F.fn gf) (eg:∀ args w,(callFunc gf args).run P w = .ok (.enter gf args) w) {encs:α → Array Value} {B:Nat} {S Sp:List α → Prop} {N:Nat}
  (hseq:SeqB F (n - 1) P gf lb encs B S Sp N w) (hB:B < w.heap.size) (hps:∀ x,(encs x).size = ps.size) (I:List α → World → Prop) (Ix:Code → List α → World → Prop)
  (hI:OwnFrom w.heap.size I) (hIx:∀ c,OwnFrom w.heap.size (Ix c)) (hIB:∀ s A v,I s A → I s (A.setCell ⟨B,0,none⟩ v)) (h0:I [] w) (Ax:α → Act → World → Prop) (hAx:∀ x a',OwnFrom w.heap.size (fun (_:Unit) W=>Ax x a' W))
  (hassign:∀ (l:Nat) (pre:List α) (x:α) (W:World) (K:Act → World → Prop),w.heap.size ≤ W.heap.size → I pre W → (∀ a' W',KeepsFrom w.heap.size W W' → W'.heap[B]? = W.heap[B]? → I pre W' → Ax x a' W' → K a' W') →
   assign.wpIn (F.inRound l) (n - 1 - 1) P (Exit.then K (fun _ _ _=>False)) { tmps:=(ps.zip (encs x)).foldl (fun t (p,v)=>t.setIfInBounds p v) a.tmps,defers:=[] } W)
  (hbody:∀ (l:Nat) (pre:List α) (x:α) (a':Act) (W:World),I pre W → Ax x a' W → pre.length < N → body.wpIn (F.inRound l) (n - 1 - 1) P (ownPostG w.heap.size (fun A C=>C.heap[B]? = A.heap[B]?) I Ix (pre ++ [x]) W) a' W)
  (hdone:∀ (D:Nat) (xs:List α) (W:World),w.heap.size ≤ D → S xs → I xs W → W.heap[D]? = some (.deferred (some [])) → Q .normal { a with defers:={ target:=.collected D,args:=#[] } :: a.defers } W)
  (hstop:∀ (D:Nat) (c:Code) (pre:List α) (W:World),w.heap.size ≤ D → Sp pre → Ix c pre W → W.heap[D]? = some (.deferred (some [])) → c.wpIn F n P Q { a with defers:={ target:=.collected D,args:=#[] } :: a.defers } W) :
  (Code.rangeFunc g ps assign body).wpIn F n P Q a w:=by
 refine wpIn_rangeFunc ?_
 intro fn hfn
 rw [hro]
 obtain ⟨L,hL⟩:∃ L,w.heap.size + 1 = L:=⟨_,rfl⟩
 have hLB:B ≠ L:=by omega
 have hDB:w.heap.size ≠ L:=by omega
 obtain ⟨R,hR⟩:∃ R:LoopState → Option Code → Loop,R = fun st pe=>{ state:=st,pending:=pe,fn,tmps:=a.tmps,params:=ps,assign,body,defers:=w.heap.size }:=⟨_,rfl⟩
 obtain ⟨W1,hW1⟩:∃ W1,(w.alloc (.deferred (some []))).alloc (.loop (R .ready none)) = W1:=⟨_,rfl⟩
 have hLn:W1.heap[L]? = some (.loop (R .ready none)):=by
  rw [← hW1, ← hL]
  have h:=World.alloc_heap_new (w.alloc (.deferred (some []))) (.loop (R .ready none))
  rwa [World.size_alloc] at h
 have hDn:W1.heap[w.heap.size]? = some (.deferred (some [])):=by rw [← hW1];exact (Below.heap_alloc _ _ _ (by simp)).trans (World.alloc_heap_new w _)
 have hIn:I [] W1:=by rw [← hW1];exact hI.alloc _ (hI.alloc _ h0)
 have hbn:Below w.heap.size w W1:=by rw [← hW1];exact ((Below.refl _ w).alloc (Nat.le_refl _) _).alloc (by simp) _
 have hsn:W1.heap.size = w.heap.size + 2:=by rw [← hW1,World.size_alloc,World.size_alloc]
 refine ⟨L,[{ target:=.collected w.heap.size,args:=#[] }],W1, { target:=.fn (.func gf) lb,args:=#[.func (.yield L) #[] #[]] },W1,gf,#[.func (.yield L) #[] #[]] ++ lb,W1, ?_, ?_, ?_, ?_,fun _=>h1, ?_⟩
 ·rw [← hW1, ← hL,hR];exact run_enterLoop_outer _ _ _ _ _
 ·simp only [resolve,hg];simp [go_sem]
 ·intro f' hf';simp [Target.leads] at hf';subst hf';exact hFg
 ·simp [invoke,go_sem,eg]
 have hrow:∀ {A C:World} {row:Option Nat},(∀ r,row = some r → W1.heap.size ≤ r ∧ ∃ o:Obj,A.heap[r]? = some o ∧ o.isWalk = true) → ∀ r,row = some r → w.heap.size ≤ r ∧ ∃ o:Obj,A.heap[r]? = some o ∧ o.isCells = false:=fun hr r e=>by
  obtain ⟨h1,o,h2,h3⟩:=hr r e
  exact ⟨by omega,o,h2,Obj.not_cells_of_walk h3⟩
 refine (hseq L (fun pre W=>I pre W ∧ W.heap[L]? = some (.loop (R .ready none)) ∧ W.heap[w.heap.size]? = some (.deferred (some [])))
  (fun pre W=>∃ c,Ix c pre W ∧ W.heap[L]? = some (.loop (R .done (some c))) ∧ W.heap[w.heap.size]? = some (.deferred (some []))) W1 hbn
  (fun s A C row hs hgr hr=>⟨hI s A C row hs.1 hgr (hrow (C:=C) hr),(grownBy_keeps hgr (fun r e=>(hr r e).2) hs.2.1 rfl).trans hs.2.1,(grownBy_keeps hgr (fun r e=>(hr r e).2) hs.2.2 rfl).trans hs.2.2⟩)
  (fun s A C row hs hgr hr=>by
   obtain ⟨c,h2,h3,h4⟩:=hs
   exact ⟨c,hIx c s A C row h2 hgr (hrow (C:=C) hr),(grownBy_keeps hgr (fun r e=>(hr r e).2) h3 rfl).trans h3,(grownBy_keeps hgr (fun r e=>(hr r e).2) h4 rfl).trans h4⟩)
  (fun s A v hs=>⟨hIB s A v hs.1,(Below.heap_setCell A ⟨B,0,none⟩ v L (fun e=>hLB e.symm)).trans hs.2.1,(Below.heap_setCell A ⟨B,0,none⟩ v _ (by show w.heap.size ≠ B;omega)).trans hs.2.2⟩) ?_ ⟨hIn,hLn,hDn⟩).mono ?_
 ·rintro pre x W ⟨hi,hl,hk⟩ hlen
  have hlt:L < W.heap.size:=(Array.getElem?_eq_some_iff.1 hl).1
  have hy:=run_yield (P:=P) (args:=encs x) hl (by rw [hR];exact hps x)
  rw [hR] at hy
  refine ⟨fn,_,assign,body,hy,roundIn_of_wpIn hfn (hassign _ pre x W _ (by omega) hi ?_)⟩
  clear hy
  intro a' Wa hka hBa hia hax
  have hla:=hka.same _ _ (by omega) hl rfl
  have hda:=hka.same _ _ (Nat.le_refl _) hk rfl
  have hlta:L < Wa.heap.size:=(Array.getElem?_eq_some_iff.1 hla).1
  refine ⟨_,run_beginRound hla (by rw [hR]), ?_⟩
  obtain ⟨busy,hbusy⟩:∃ o:Loop, { R .ready none with state:=.busy } = o:=⟨_,rfl⟩
  rw [hbusy]
  have hl2:(Wa.putObj L (.loop busy)).heap[L]? = some (.loop busy):=World.putObj_heap_same hlta
  have hd2:(Wa.putObj L (.loop busy)).heap[w.heap.size]? = some (.deferred (some [])):=(putObj_at hDB).trans hda
  have hB2:(Wa.putObj L (.loop busy)).heap[B]? = Wa.heap[B]?:=putObj_at hLB
  refine wpIn_mono (hbody _ pre x a' _ (hI.putObj _ hia (by omega) hla rfl) ((hAx x a').putObj (s:=()) _ hax (by omega) hla rfl) hlen) ?_
  have fin:∀ (jump:Option Code) (W3:World),KeepsFrom w.heap.size (Wa.putObj L (.loop busy)) W3 →
    (Instr.endRound L jump).run P W3 = .ok (.bool jump.isNone) (W3.putObj L (.loop (R (if jump.isNone then .ready else .done) jump))) ∧ W3.heap[L]? = some (.loop busy) ∧
    (W3.putObj L (.loop (R (if jump.isNone then .ready else .done) jump))).heap[L]? = some (.loop (R (if jump.isNone then .ready else .done) jump)) ∧
    (W3.putObj L (.loop (R (if jump.isNone then .ready else .done) jump))).heap[w.heap.size]? = some (.deferred (some [])):=fun jump W3 hk3=>by
   have hl3:=hk3.same _ _ (by omega) hl2 rfl
   have h:=run_endRound (P:=P) jump hl3
   rw [← hbusy,hR] at h
   refine ⟨by rw [hR];exact h,hl3,World.putObj_heap_same (Array.getElem?_eq_some_iff.1 hl3).1,(putObj_at hDB).trans (hk3.same _ _ (Nat.le_refl _) hd2 rfl)⟩
  rintro e a3 W3 hp
  cases e with
  | normal =>
   obtain ⟨hk3,hB3,hi3⟩:=hp
   obtain ⟨hr,hl3,hl4,hd4⟩:=fin none W3 hk3
   exact ⟨_,_,hr, .inl ⟨rfl,⟨hI.putObj _ hi3 (by omega) hl3 rfl,hl4,hd4⟩,((putObj_at hLB).trans hB3).trans (hB2.trans hBa)⟩⟩
  | ret =>
   obtain ⟨hk3,hi3⟩:=hp
   obtain ⟨hr,hl3,hl4,hd4⟩:=fin (some .ret) W3 hk3
   exact ⟨_,_,hr, .inr ⟨rfl,_,(hIx _).putObj _ hi3 (by omega) hl3 rfl,hl4,hd4⟩⟩
  | exit id =>
   obtain ⟨hk3,hi3⟩:=hp
   obtain ⟨hr,hl3,hl4,hd4⟩:=fin (some (.exit id)) W3 hk3
   exact ⟨_,_,hr, .inr ⟨rfl,_,(hIx _).putObj _ hi3 (by omega) hl3 rfl,hl4,hd4⟩⟩
  | goto t =>
   obtain ⟨hk3,hi3⟩:=hp
   obtain ⟨hr,hl3,hl4,hd4⟩:=fin (some (.goto t)) W3 hk3
   exact ⟨_,_,hr, .inr ⟨rfl,_,(hIx _).putObj _ hi3 (by omega) hl3 rfl,hl4,hd4⟩⟩
  | panic ch=>exact hp.elim
  | outgrown=>exact hp.elim
 ·rintro e W2 ⟨⟨v,rfl⟩,(⟨xs,hS,hi,hl,hk⟩ | ⟨pre,hSp,c,hi,hl,hk⟩)⟩
  ·exact ⟨none,_,by have h:=run_endLoop (P:=P) hl (by rw [hR];simp);rw [hR] at h;exact h,hdone _ xs _ (Nat.le_refl _) hS (hI.putObj _ hi (by omega) hl rfl) ((putObj_at hDB).trans hk)⟩
  ·exact ⟨some c,_,by have h:=run_endLoop (P:=P) hl (by rw [hR];simp);rw [hR] at h;exact h,hstop _ c pre _ (Nat.le_refl _) hSp ((hIx c).putObj _ hi (by omega) hl rfl) ((putObj_at hDB).trans hk)⟩
end Go.Proofs.YtnalakhelicjcaaGreatDoor
set_option maxRecDepth 100000
namespace Go.Proofs.YtnalakhelicjcaaGreatDoor
open Go.RowKit Go.Shelf Go.BigFrame Go.Deep
attribute [local go_sem] Oper.semAt_some
def strAtD (w:World) (B:Nat):Nat:=match w.cell? ⟨B,0,none⟩ with | some (.string s)=>s.size | _=>0
theorem strAtD_eq {w:World} {B:Nat} {s:List UInt8} (h:w.cell? ⟨B,0,none⟩ = some (.string (strB s))):strAtD w B = s.length:=by unfold strAtD;rw [h];exact strB_size s
def Ends (s:List UInt8):Prop:=s = [] ∨ s.getLast? = some 10
theorem index_line {a b:List UInt8} (h:∀ c ∈ a,c ≠ 10):Lib.indexByte (a ++ 10 :: b) 10 = (a.length:Int):=by
 induction a with
 | nil=>simp [Lib.indexByte]
 | cons c a ih =>
  have h1:(c == (10:UInt8)) = false:=beq_eq_false_iff_ne.2 (h c (List.mem_cons_self ..))
  have h2:=ih (fun d hd=>h d (List.mem_cons_of_mem _ hd))
  rw [List.cons_append,Lib.indexByte,h1,h2]
  have h3:((a.length:Int) == -1) = false:=beq_eq_false_iff_ne.2 (by omega)
  rw [h3]
  simp
theorem take_line (a b:List UInt8):(a ++ 10 :: b).take (a.length + 1) = a ++ [10]:=by
 induction a with
 | nil=>rfl
 | cons c a ih=>rw [List.cons_append,List.length_cons,List.take_succ_cons,ih];rfl
theorem drop_line (a b:List UInt8):(a ++ 10 :: b).drop (a.length + 1) = b:=by
 induction a with
 | nil=>rfl
 | cons c a ih=>rw [List.cons_append,List.length_cons,List.drop_succ_cons,ih]
abbrev Ln:={ x:List UInt8 // x.length ≤ 4096 }
set_option maxHeartbeats 2000000 in
theorem lines1_in (n:Nat) (hn:1 ≤ n) (l B:Nat) (t:List UInt8) (hte:Ends t) (ht:t.length ≤ 4096) (J Jx:List Ln → World → Prop)
  (W:World) (hJ:AbidesFrom W.heap.size J) (hJB:∀ s A v,J s A → J s (A.setCell ⟨B,0,none⟩ v)) (hB:W.heap[B]? = some (.cells #[.string (strB t)] 9 (0,0)))
  (hY:∀ pre x W1,J pre W1 → pre.length < (linesB t).length → YieldAt Fence.wide (n - 1) Tryz.prog l #[.string (strB (x.1 ++ [10]))] W1 fun e W'=>(e = .returned (.bool true) ∧ J (pre ++ [x]) W' ∧ W'.heap[B]? = W1.heap[B]?) ∨ (e = .returned (.bool false) ∧ Jx (pre ++ [x]) W'))
  (h0:J [] W) :
  CallsIn Fence.wide n Tryz.prog 28 #[.func (.yield l) #[] #[], .pointer (some ⟨B,0,none⟩)] W fun e W'=>(∃ v,e = .returned v) ∧ ((∃ xs,xs.map (·.1) = linesB t ∧ J xs W') ∨ ∃ pre,(∃ suf,linesB t = pre.map (·.1) ++ suf) ∧ Jx pre W'):=by
 refine callsIn_of_wp Tryz.func28 rfl trivial ?_ rfl
 simp only [Tryz.ntmps28,List.size_toArray,List.length_cons,List.length_nil,Nat.reduceAdd,Nat.reduceSub,Array.replicate_succ,Array.replicate_zero,List.push_toArray,List.append_toArray,List.nil_append,List.cons_append]
 gi_wp2
 gi_loopw [] (fun wr=>∃ (s:List UInt8) (pre:List Ln),wr.heap[B]? = some (.cells #[.string (strB s)] 9 (0,0)) ∧ Hid (linesB t = pre.map (·.1) ++ linesB s) ∧ Ends s ∧ s.length ≤ 4096 ∧ J pre wr) (fun wr=>strAtD wr B)
 case atStart=>exact ⟨t,[],hB,rfl,hte,ht,h0⟩
 case round =>
  obtain ⟨s,pre,hBs,hal,hse,hs,hj⟩:=hrel
  have hcB:wr.cell? ⟨B,0,none⟩ = some (.string (strB s)):=by simp [World.cell?,hBs]
  have hcB0:=Lib.hid hcB
  have hfB:wr.frozen? ⟨B,0,none⟩ = false:=by simp [World.frozen?,hBs]
  have hBlt:B < wr.heap.size:=(Array.getElem?_eq_some_iff.1 hBs).1
  have hsz:=strB_size s
  by_cases hs0:s = []
  ·subst hs0
   have hal0:=hal.out
   rw [linesB_nil,List.append_nil] at hal0
   replace hal0:=Lib.hid hal0
   gi_wp2
   go_end0
   exact ⟨⟨_,rfl⟩, .inl ⟨_,hal0.out.symm,hj⟩⟩
  ·have hls:s.getLast? = some 10:=hse.resolve_left hs0
   obtain ⟨hsp,hno,hbe⟩:=lineB_split hs0 hls
   have hal2:=hal.out
   rw [linesB_step hs0] at hal2
   have hlen:pre.length < (linesB t).length:=by
    rw [hal2,List.length_append,List.length_cons,List.length_map]
    omega
   have hix:=index_line (b:=(lineB s).2) hno
   rw [← hsp] at hix
   have hI:Calls Tryz.prog 29 #[.string (strB s), .int .u8 10] wr fun e w'=>e = .returned (.int .i64 (((lineB s).1.length:Nat):Int)) ∧ w' = wr:=by
    have h:=Tryz.strings_IndexByte (strB s) 10 wr
    rw [show Lib.indexByte (strB s).data.toList ((10:Int).toNat.toUInt8) = _ from hix] at h
    exact h
   have hsl:=congrArg List.length hsp
   rw [List.length_append,List.length_cons] at hsl
   have hc1:(strB s).extract 0 ((lineB s).1.length + 1) = strB ((lineB s).1 ++ [10]):=by
    rw [strB_upto]
    exact congrArg strB (((congrArg (List.take ((lineB s).1.length + 1)) hsp)).trans (take_line _ _))
   have hc2:(strB s).extract ((lineB s).1.length + 1) s.length = strB (lineB s).2:=by
    rw [strB_from]
    exact congrArg strB (((congrArg (List.drop ((lineB s).1.length + 1)) hsp)).trans (drop_line _ _))
   generalize (lineB s).1 = a at *
   generalize (lineB s).2 = b at *
   have hpos:0 < s.length:=by omega
   have hbd:(0:Int) ≤ (a.length:Int) + 1 ∧ (a.length:Int) + 1 ≤ (s.length:Int):=by omega
   have hq1:decide ((0:Int) ≤ (a.length:Int)) = true:=decide_eq_true (by omega)
   have hw1:IntKind.i64.wrap ((a.length:Int) + 1) = (a.length:Int) + 1:=IntWalk.i64_in _ (by omega)
   replace hal2:=Lib.hid hal2
   replace hlen:=Lib.hid hlen
   replace hbe:=Lib.hid hbe
   have hal4:a.length ≤ 4096:=by omega
   replace hal4:=Lib.hid hal4
   replace hsl:=Lib.hid hsl
   clear hix hno hls hse hal hsp hs0
   gi_wp2
   refine ⟨trivial,callsIn_wide.2 (hI.mono ?_)⟩
   clear hI
   rintro e w1 ⟨rfl,h1⟩
   rw [h1]
   clear h1 w1
   gi_wp2
   refine wpIn_wide.2 ?_
   refine wp_region_N (fun w'=>w'.cell? ⟨B,0,none⟩ = some (.string (strB s)) ∧ True) 9 10 rfl (by kernel_rfl) ⟨((below_drewN wr 1).cell (p:=⟨B,0,none⟩) hBlt).trans hcB,trivial⟩ (fun hSw=>?_)
   refine tk 0 ?_ rfl rfl (by kernel_rfl) (.inl ⟨by rfl, ?_⟩) hSw ?_
   rotate_left
   ·rintro w ⟨s0,s1⟩;go_simp;try with_reducible rfl
   simp only [tkp,tkz,tks]
   refine tk 1 ?_ rfl rfl (by kernel_rfl) (.inl ⟨by rfl, ?_⟩) hSw ?_
   rotate_left
   ·rintro w ⟨s0,s1⟩;go_simp;try with_reducible rfl
   simp only [tkp,tkz,tks]
   refine tk 2 ?_ rfl rfl (by kernel_rfl) (.inl ⟨by rfl, ?_⟩) hSw ?_
   rotate_left
   ·rintro w ⟨s0,s1⟩;go_simp;try with_reducible rfl
   simp only [tkp,tkz,tks]
   refine tk 3 ?_ rfl rfl (by kernel_rfl) (.inl ⟨by rfl, ?_⟩) hSw ?_
   rotate_left
   ·rintro w ⟨s0,s1⟩;go_simp;try with_reducible rfl
   simp only [tkp,tkz,tks]
   refine tk 4 ?_ rfl rfl (by kernel_rfl) (.inl ⟨by rfl, ?_⟩) hSw ?_
   rotate_left
   ·rintro w ⟨s0,s1⟩;go_simp;try with_reducible rfl
   simp only [tkp,tkz,tks]
   refine tk 5 ?_ rfl rfl (by kernel_rfl) (.inl ⟨by rfl, ?_⟩) hSw ?_
   rotate_left
   ·rintro w ⟨s0,s1⟩;go_simp;try with_reducible rfl
   simp only [tkp,tkz,tks]
   refine tk 6 ?_ rfl rfl (by kernel_rfl) (.inl ⟨by rfl, ?_⟩) hSw ?_
   rotate_left
   ·rintro w ⟨s0,s1⟩;go_simp;try with_reducible rfl
   simp only [tkp,tkz,tks]
   refine tk 7 ?_ rfl rfl (by kernel_rfl) (.inl ⟨by rfl, ?_⟩) hSw ?_
   rotate_left
   ·rintro w ⟨s0,s1⟩;go_simp;try with_reducible rfl
   simp only [tkp,tkz,tks]
   refine tk 8 ?_ rfl rfl (by kernel_rfl) (.inl ⟨by rfl, ?_⟩) hSw ?_
   rotate_left
   ·rintro w ⟨s0,s1⟩;go_simp;try with_reducible rfl
   simp only [tkp,tkz,tks]
   refine N_rest 9 1 (Nat.le_refl _) rfl (by kernel_rfl) ?_
   simp only [List.drop_succ_cons,List.drop_zero]
   have b1:Below wr.heap.size wr wr.drew:=below_drewN wr 1
   have hj1:J pre wr.drew:=abides_step hJ hj b1
   have hB1:Boxed wr.drew B 9 (.string (strB s)):=(b1.block B hBlt).trans hBs
   clear hSw hcB
   generalize wr.drew = w1 at *
   have hJ2:=hJB _ _ (.string (strB b)) hj1
   have hB2:=hB1.set (.string (strB b))
   have hcB2:=hB1.cell
   have hfB2:=hB1.frozen
   obtain ⟨fn,tmps,assign,body,hy,hR⟩:=hY _ ⟨a,hal4.out⟩ _ hJ2 hlen.out
   go_wp2_with fail
   gi_wp2
   refine hR.mono ?_
   rintro e W3 (⟨rfl,hJ3,hk3⟩ | ⟨rfl,hJx3⟩)
   ·gi_wp2
    go_roundw
    case rel=>exact ⟨b,_,hk3.trans hB2,by rw [List.map_append,List.append_assoc];exact hal2.out,hbe.out,by have:=hsl.out;omega,hJ3⟩
    case measure =>
     have hB3:Boxed W3 B 9 (.string (strB b)):=hk3.trans hB2
     rw [strAtD_eq hB3.cell,strAtD_eq hcB0.out]
     have:=hsl.out
     omega
   ·gi_wp2
    refine bodyPost_ret (results_none rfl _ _ _) rfl ?_
    exact ⟨⟨_,rfl⟩, .inr ⟨_,⟨linesB b,by rw [List.map_append,List.append_assoc];exact hal2.out⟩,hJx3⟩⟩
theorem lines_seq (n:Nat) (hn:1 ≤ n) (B:Nat) (t:List UInt8) (hte:Ends t) (ht:t.length ≤ 4096) (w:World) (hB:Boxed w B 9 (.string (strB t))) :
  SeqB Fence.wide n Tryz.prog 28 #[.pointer (some ⟨B,0,none⟩)] (fun z:Ln=>#[.string (strB (z.1 ++ [10]))]) B (fun xs=>xs.map (·.1) = linesB t) (fun pre=>∃ suf,linesB t = pre.map (·.1) ++ suf) (linesB t).length w:=
 fun l J Jx W hW hJ _ hJB hY h0=>lines1_in n hn l B t hte ht J Jx W hJ hJB ((hW.block B hB.lt).trans hB) hY h0
theorem Lines_c (w:World) (t:ByteArray):Calls Tryz.prog 11 #[.string t] w fun e w'=>e = .returned (.func (.func 28) #[] #[.pointer (some ⟨w.heap.size,0,none⟩)]) ∧ w' = w.alloc (.cells #[.string t] 9):=by
 go_enter Tryz.func11,Tryz.ntmps11
 go_wp2
 go_ret
 exact ⟨rfl,rfl⟩
end Go.Proofs.YtnalakhelicjcaaGreatDoor
set_option maxRecDepth 100000
namespace Go.Proofs.YtnalakhelicjcaaGreatDoor
open Go.RowKit Go.Shelf Go.BigFrame
theorem errB_len {e:Int} (h:Er e):(errB e).length ≤ 100:=by
 unfold errB
 have:=dec_len e.toNat
 unfold Er at h
 simp only [List.length_append,List.length_cons,List.length_nil]
 omega
theorem toldB_len {l:List M} (hl:l.length ≤ 40) (hb:∀ m ∈ l,m.body.size ≤ 8):(toldB l).length ≤ 1000:=by
 unfold toldB
 split
 ·simp
 ·have:=join_len (k:=8) [32] (l.map fun m=>m.body.data.toList) (fun s hs=>by
   obtain ⟨m,hm,rfl⟩:=List.mem_map.1 hs
   exact hb m hm)
  rw [List.length_map] at this
  simp only [List.length_cons,List.length_nil] at this
  omega
theorem exec_len {X:Wd} (h:Right X) (c:Cmd) (h0:(execB X c).1 = 0):(execB X c).2.1.length ≤ 3000000:=by
 have hck:∀ (n g:Nat) (null:Bool) (body:ByteArray),(null = true → body = ByteArray.empty) → (castF X n g null body).1 = 0 → (clockB (castF X n g null body) n).length ≤ 3000000:=fun n g null body hn hz=>by
  obtain ⟨h1,h2,h3⟩:=castF_fine hn hz
  have h4:=node_clock h2 (n:=n) (by omega)
  unfold clockB
  have:=dec_len ((castF X n g null body).2.nodes.getD n N.zero).clock.toNat
  omega
 cases c with
 | send a b body =>
  unfold execB at h0 ⊢
  dsimp only at h0 ⊢
  split
  ·rename_i hz
   exact hck _ _ _ _ (by simp) hz
  ·simp
 | null a b =>
  unfold execB at h0 ⊢
  dsimp only at h0 ⊢
  split
  ·rename_i hz
   exact hck _ _ _ _ (fun _=>rfl) hz
  ·simp
 | move a b =>
  unfold execB at h0 ⊢
  dsimp only at h0 ⊢
  split
  ·rename_i hz
   obtain ⟨h1,h2,h3,h4⟩:=moveF_fine hz
   have h5:=(node_lists h2 (n:=b) (by omega)).2
   unfold moreB
   have:=dec_len (((moveF X a b).2.nodes.getD b N.zero).told.length - (X.nodes.getD b N.zero).told.length)
   dsimp only
   omega
  ·simp
 | told a =>
  unfold execB at h0 ⊢
  dsimp only at h0 ⊢
  split
  ·rename_i hz
   have:=toldB_len (node_lists h hz).2 (told_small h hz)
   dsimp only
   omega
  ·simp
 | held a =>
  unfold execB at h0 ⊢
  dsimp only at h0 ⊢
  split
  ·rename_i hz
   have h1:=(node_lists h hz).1
   have h2:=bound_rng h hz
   have h3:=dec_len (X.nodes.getD a N.zero).held.length
   have h4:=dec_len (boundX X a).toNat
   unfold heldB
   simp only [List.length_append,List.length_cons]
   omega
  ·simp
 | calm =>
  unfold execB at h0 ⊢
  dsimp only at h0 ⊢
  split
  ·simp
  ·simp
 | bad=>simp [execB]
theorem line_len {X:Wd} (h:Right X) (s:List UInt8):(lineX X s).2.length ≤ 3000000:=by
 unfold lineX
 split
 ·rename_i hz
  exact exec_len h _ hz
 ·have:=errB_len (exec_er h (parseB s))
  dsimp only
  omega
theorem playX_snoc (X:Wd) (l:List (List UInt8)) (s:List UInt8):playX X (l ++ [s]) = stepX (playX X l) s:=by
 unfold playX
 rw [List.foldl_append]
 rfl
theorem playX_fine {X:Wd} (h:Right X) (l:List (List UInt8)):Right (playX X l).1 ∧ (playX X l).2.length ≤ l.length * 3000001:=by
 unfold playX
 suffices hh:∀ (l:List (List UInt8)) (p:Wd × List UInt8),Right p.1 → Right (l.foldl stepX p).1 ∧ (l.foldl stepX p).2.length ≤ p.2.length + l.length * 3000001 by
  have:=hh l (X,[]) h
  simpa using this
 intro l
 induction l with
 | nil=>intro p hp;exact ⟨hp,by simp⟩
 | cons s l ih =>
  intro p hp
  have h1:=(lineX_right hp s).1
  have h2:=line_len hp s
  have h3:=ih (stepX p s) h1
  have h4:(stepX p s).2.length = p.2.length + (lineX p.1 s).2.length + 1:=by simp [stepX];omega
  rw [List.foldl_cons]
  refine ⟨h3.1, ?_⟩
  have h5:=h3.2
  rw [List.length_cons,Nat.add_mul]
  omega
theorem lines_count:∀ (k:Nat) (s:List UInt8),s.length ≤ k → Ends s → (linesB s).length = s.count 10
 | _,[],_,_=>by rw [linesB_nil];rfl
 | 0,c :: s,h,_=>by simp at h
 | k + 1,c :: s,h,he=>by
  obtain ⟨h1,h2,h3⟩:=lineB_split (s:=c :: s) (by simp) (he.resolve_left (by simp))
  have hl:=lineB_len (s:=c :: s) (by simp)
  have ih:=lines_count k (lineB (c :: s)).2 (by omega) h3
  rw [linesB_step (by simp),List.length_cons,ih]
  conv=>rhs;rw [h1]
  rw [List.count_append,List.count_cons,List.count_eq_zero.2 (fun h=>h2 _ h rfl)]
  simp
end Go.Proofs.YtnalakhelicjcaaGreatDoor
set_option maxRecDepth 100000
namespace Go.Proofs.YtnalakhelicjcaaGreatDoor
open Go.RowKit Go.Shelf Go.BigFrame
def tJ (l:List M):List UInt8:=l.flatMap fun m=>32 :: m.body.data.toList
theorem tJ_snoc (l:List M) {k:Nat} (h:k < l.length):tJ (l.take (k + 1)) = tJ (l.take k) ++ [32] ++ (l.getD k M.zero).body.data.toList:=by
 unfold tJ
 rw [List.take_succ_eq_append_getElem h,getD_lt l M.zero h,List.flatMap_append]
 simp
theorem tJ_told:∀ {l:List M},l ≠ [] → tJ l = 32 :: toldB l
 | [],h=>absurd rfl h
 | [m],_=>by simp [tJ,toldB,Lib.join]
 | m :: n :: l,_=>by
  have ih:=tJ_told (l:=n :: l) (by simp)
  have e:tJ (m :: n :: l) = 32 :: m.body.data.toList ++ tJ (n :: l):=by simp [tJ]
  rw [e,ih]
  unfold toldB
  rw [if_neg (by simp),if_neg (by simp)]
  simp [Lib.join,List.intercalate]
theorem tJ_len:∀ {l:List M},(∀ m ∈ l,m.body.size ≤ 8) → (tJ l).length ≤ 9 * l.length
 | [],_=>by simp [tJ]
 | m :: l,h=>by
  have ih:=tJ_len (l:=l) (fun x hx=>h x (by simp [hx]))
  have h0:m.body.data.toList.length ≤ 8:=h m (by simp)
  have e:tJ (m :: l) = 32 :: m.body.data.toList ++ tJ l:=by simp [tJ]
  rw [e]
  simp only [List.length_append,List.length_cons]
  omega
theorem lines_snoc:∀ (n:Nat) (a b:List UInt8),a.length ≤ n → Ends a → (∀ c ∈ b,c ≠ 10) → linesB (a ++ (b ++ [10])) = linesB a ++ [b]
 | n,[],b,_,_,hb=>by
  rw [List.nil_append,linesB_step (by simp),lineB_ends b [] hb]
  rfl
 | 0,c :: a,b,h,_,_=>by simp at h
 | n + 1,c :: a,b,h,he,hb=>by
  obtain ⟨h1,h2,h3⟩:=lineB_split (s:=c :: a) (by simp) (he.resolve_left (by simp))
  have hl:=lineB_len (s:=c :: a) (by simp)
  have hst:=linesB_step (s:=c :: a) (by simp)
  obtain ⟨p,hp⟩:∃ p,lineB (c :: a) = p:=⟨_,rfl⟩
  rw [hp] at h1 h2 h3 hl hst
  have ih:=lines_snoc n p.2 b (by omega) h3 hb
  have hE:lineB ((c :: a) ++ (b ++ [10])) = (p.1,p.2 ++ (b ++ [10])):=by
   rw [h1,List.append_assoc,List.cons_append,lineB_ends _ _ h2]
  rw [linesB_step (by simp),hE,hst,ih]
  rfl
theorem take_ln {s:List UInt8} {j k:Nat} (hj:j ≤ k) (hk:s[k]? = some 10):s.take (k + 1) = s.take j ++ ((s.drop j).take (k - j) ++ [10]):=by
 rw [dg_snoc hk]
 obtain ⟨d,rfl⟩:=Nat.exists_eq_add_of_le hj
 rw [List.take_add,Nat.add_sub_cancel_left,List.append_assoc]
theorem line_no {s:List UInt8} {j k:Nat} (hn:∀ t,j ≤ t → t < k → s[t]? ≠ some 10):∀ c ∈ (s.drop j).take (k - j),c ≠ 10:=fun c hc e=>by
 obtain ⟨i,hi⟩:=List.mem_iff_getElem?.1 hc
 rw [List.getElem?_take] at hi
 split at hi
 ·rename_i h
  rw [List.getElem?_drop] at hi
  exact hn (j + i) (by omega) (by omega) (e ▸ hi)
 ·cases hi
theorem play_step (X:Wd) {s:List UInt8} {j k:Nat} (hj:j ≤ k) (hk:s[k]? = some 10) (he:Ends (s.take j)) (hn:∀ t,j ≤ t → t < k → s[t]? ≠ some 10) :
  Ends (s.take (k + 1)) ∧ playX X (linesB (s.take (k + 1))) = stepX (playX X (linesB (s.take j))) ((s.drop j).take (k - j)):=by
 have h1:=take_ln hj hk
 refine ⟨Or.inr ?_, ?_⟩
 ·rw [h1, ← List.append_assoc,List.getLast?_append]
  rfl
 ·rw [h1,lines_snoc _ _ _ (Nat.le_refl _) he (line_no hn),playX_snoc]
theorem play_end {s:List UInt8} {j:Nat} (hj:j ≤ s.length) (he:Ends s) (hn:∀ t,j ≤ t → t < s.length → s[t]? ≠ some 10):s.take j = s:=by
 rcases Nat.lt_or_ge j s.length with h | h
 ·rcases he with rfl | he
  ·simp
  ·rw [List.getLast?_eq_getElem?] at he
   exact absurd he (hn _ (by omega) (by omega))
 ·rw [List.take_of_length_le h]
theorem play_count (s:List UInt8) (k:Nat):(s.take k).count 10 ≤ s.count 10:=(List.take_sublist k s).count_le 10
theorem count_snoc {s:List UInt8} {k:Nat} {c:UInt8} (h:s[k]? = some c):(s.take (k + 1)).count 10 = (s.take k).count 10 + if c = 10 then 1 else 0:=by
 rw [dg_snoc h,List.count_append]
 by_cases hc:c = 10
 ·rw [hc];rfl
 ·rw [if_neg hc,List.count_singleton,if_neg (by simpa using hc)]
theorem lines_many {s:List UInt8} {j:Nat} (he:Ends (s.take j)):(linesB (s.take j)).length ≤ s.count 10:=by
 rw [lines_count _ _ (Nat.le_refl _) he]
 exact play_count s j
end Go.Proofs.YtnalakhelicjcaaGreatDoor
