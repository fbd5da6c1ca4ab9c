/-
  Groups: the loop over all groups that have these nodes, and who goes round it: Of, Share.
  The program: is a world right, and are there such nodes?
  The program: how far a node is.
  The program: how many are ready; how far is a node, errors too.
  The program: what is ready of a node, errors too.
-/
import Derived.RangeFuncNested
import Derived.RangeFuncBound
import Derived.RangeFuncCalls
import Derived.RangeFuncLeaves
import Derived.RangeFuncBox
import Derived.Shelf.Abstract
import Derived.Shelf.RegionOpen
import Derived.OwnWalkIn
import Derived.TacticsInMore
import Derived.LoopNIn
import Derived.LoopIn
import Derived.Maps.AppendAt
import Derived.Test.YtnalakhelicjcaaGreatDoorZKG
import Derived.Test.YtnalakhelicjcaaGreatDoorZKL
import Derived.Test.YtnalakhelicjcaaGreatDoorZKB
import Derived.Test.YtnalakhelicjcaaGreatDoorZKJ
import Derived.Test.YtnalakhelicjcaaGreatDoorZGN
namespace Go.Proofs.YtnalakhelicjcaaGreatDoor
open Go.RowKit Go.Shelf
attribute [local go_sem] Oper.semAt_some
theorem cell_new_l (W:World) (v:Value) (t:TypeId):(W.alloc (.cells #[v] t)).cell? ⟨W.heap.size,0,none⟩ = some v ∧ (W.alloc (.cells #[v] t)).frozen? ⟨W.heap.size,0,none⟩ = false:=
 ⟨(Boxed.new W t v).cell,(Boxed.new W t v).frozen⟩
theorem cell_alloc_l {W:World} {a:Addr} {v:Value} (o:Obj) (h:W.cell? a = some v):(W.alloc o).cell? a = some v:=cell_kept h (World.grownBy_alloc W o none) (fun r e=>by cases e)
theorem frozen_alloc_l {W:World} {a:Addr} {v:Value} (o:Obj) (h:W.cell? a = some v) (hf:W.frozen? a = false):(W.alloc o).frozen? a = false:=
 (frozen_kept h (World.grownBy_alloc W o none) (fun r e=>by cases e)).trans hf
theorem BothIn_c (w:World) (B G:Nat) (v:Value) (xs:List Int) (x:Int) (g:Int) (h:Ints w v xs)
  (hB:w.cell? ⟨B,0,none⟩ = some v) (hG:w.cell? ⟨G,0,none⟩ = some (.int .i64 g)) :
  Calls Tryz.prog 126 #[.int .i64 x, .pointer (some ⟨B,0,none⟩), .pointer (some ⟨G,0,none⟩)] w (Gives (.bool (!hasB xs g x)) w):=by
 have hcon:=Has_c h g x
 obtain ⟨_,a,cap,rfl,_⟩:=h.open
 go_enter Tryz.func126,Tryz.ntmps126
 go_wp2_with (go_at_call 101;refine hcon.mono ?_;rintro e w' ⟨rfl,rfl⟩)
 go_ret
 exact gives_bool (Drew.refl _) rfl
theorem Both_c (w:World) (a a2:Option Addr) (n n2 c c2:Nat) :
  Calls Tryz.prog 100 #[.slice a n c, .slice a2 n2 c2] w fun e w'=>e = .returned (.func (.func 125) #[] #[.pointer (some ⟨w.heap.size,0,none⟩), .pointer (some ⟨w.heap.size + 1,0,none⟩)]) ∧
   w' = (w.alloc (.cells #[.slice a n c] 22)).alloc (.cells #[.slice a2 n2 c2] 22):=by
 go_enter Tryz.func100,Tryz.ntmps100
 go_wp2
 go_ret
 exact ⟨rfl,rfl⟩
def both (xs ns:List Int) (k:Nat):List Int:=((List.range k).filter fun (j:Nat)=>!ns.any fun n=>!hasB xs (j:Int) n).map fun (j:Nat)=>(j:Int)
theorem both_hit {xs ns:List Int} {k:Nat} (h:(ns.any fun n=>!hasB xs (k:Int) n) = false):both xs ns (k + 1) = both xs ns k ++ [(k:Int)]:=by
 simp [both,List.range_succ,List.filter_append,h]
theorem both_miss {xs ns:List Int} {k:Nat} (h:(ns.any fun n=>!hasB xs (k:Int) n) = true):both xs ns (k + 1) = both xs ns k:=by
 simp [both,List.range_succ,List.filter_append,h]
theorem both_len (xs ns:List Int) (k:Nat):(both xs ns k).length ≤ k:=by
 unfold both
 rw [List.length_map]
 exact Nat.le_trans (List.length_filter_le _ _) (by simp)
theorem both_mem {xs ns:List Int} {k:Nat} {x:Int} (h:x ∈ both xs ns k):0 ≤ x ∧ x < k:=by
 simp only [both,List.mem_map,List.mem_filter,List.mem_range] at h
 obtain ⟨j,⟨hj,_⟩,rfl⟩:=h
 omega
theorem abides_step {β:Type} {B:Nat} {J:β → World → Prop} (hJ:AbidesFrom B J) {s:β} {W W':World} (h:J s W) (hb:Below W.heap.size W W'):J s W':=
 hJ s W W' none h ⟨hb.os,hb.tape,hb.output,hb.size,fun k hk _=>hb.block k hk⟩ (fun r e=>by cases e)
set_option maxRecDepth 100000 in
set_option maxHeartbeats 1000000 in
theorem Both1_in (n:Nat) (hn:1 ≤ n) (l B1 B2:Nat) (S:Nat → Prop) (a a2:Option Addr) (cap cap2:Nat) (xs ns:List Int) (J Jx:List Int → World → Prop)
  (W:World) (hJ:AbidesFrom W.heap.size J) (hS:∀ k,S k → k < W.heap.size)
  (hst:∀ W',Keep S W W' → Ints W' (.slice a xs.length cap) xs ∧ Ints W' (.slice a2 ns.length cap2) ns ∧
   W'.cell? ⟨B1,0,none⟩ = some (.slice a xs.length cap) ∧ W'.cell? ⟨B2,0,none⟩ = some (.slice a2 ns.length cap2))
  (hY:∀ (k:Nat) W,k < xs.length → (ns.any fun n=>!hasB xs (k:Int) n) = false → J (both xs ns k) W → YieldAt Fence.wide (n - 1) Tryz.prog l #[.int .i64 (k:Int)] W fun e W' =>
   (e = .returned (.bool true) ∧ J (both xs ns k ++ [(k:Int)]) W' ∧ Keep S W W') ∨ (e = .returned (.bool false) ∧ Jx (both xs ns k ++ [(k:Int)]) W'))
  (h0:J [] W) :
  CallsIn Fence.wide n Tryz.prog 125 #[.func (.yield l) #[] #[], .pointer (some ⟨B1,0,none⟩), .pointer (some ⟨B2,0,none⟩)] W fun e W'=>(∃ v,e = .returned v) ∧
   ((∃ ys,ys = both xs ns xs.length ∧ J ys W') ∨ (∃ pre,(∃ k,k ≤ xs.length ∧ pre = both xs ns k) ∧ Jx pre W')):=by
 obtain ⟨hI1,_,hB1,_⟩:=hst W (Keep.refl _ _)
 have hlen:=hI1.open.1
 have eg:∀ args w,(callFunc 126 args).run Tryz.prog w = .ok (.enter 126 args) w:=enters_of Tryz.func126 (by kernel_rfl) rfl
 have egH:=Lib.hid eg
 clear eg hI1
 refine callsIn_of_wp Tryz.func125 rfl trivial ?_ rfl
 simp only [Tryz.ntmps125,List.size_toArray,List.length_cons,List.length_nil,Nat.reduceAdd,Nat.reduceSub,Array.replicate_succ,Array.replicate_zero,List.push_toArray,List.append_toArray,List.nil_append,List.cons_append]
 gi_wp2
 clear hB1
 gi_loopw [7] (fun i wr=>∃ k:Nat,k ≤ xs.length ∧ i = .int .i64 k ∧ J (both xs ns k) wr ∧ Keep S W wr) (fun i _=>xs.length - (intOf i).toNat)
 case atStart=>exact ⟨0,Nat.zero_le _,rfl,h0,Keep.refl _ _⟩
 case round =>
  obtain ⟨k,hk,rfl,hJs,hkp⟩:=hrel
  by_cases hlt:k < xs.length
  ·obtain ⟨hI1,hI2,hB1,hB2⟩:=hst wr hkp
   have hS':∀ k,S k → k < wr.heap.size:=fun k hk=>Nat.lt_of_lt_of_le (hS k hk) hkp.size
   have hYk:=Lib.hid (fun W=>hY k W hlt)
   have hA:Below wr.heap.size wr (wr.alloc (.cells #[.int .i64 (k:Int)] 3)):=(Below.refl _ wr).alloc (Nat.le_refl _) _
   have hG:(wr.alloc (.cells #[.int .i64 (k:Int)] 3)).cell? ⟨wr.heap.size,0,none⟩ = some (.int .i64 k):=by simp
   have hB1':=(hA.cell (p:=⟨B1,0,none⟩) (cell_lt hB1)).trans hB1
   have hB2':=(hA.cell (p:=⟨B2,0,none⟩) (cell_lt hB2)).trans hB2
   have hcon:=ContainsFuncI_c (hI2.below hA) 126 #[.pointer (some ⟨B1,0,none⟩), .pointer (some ⟨wr.heap.size,0,none⟩)] (fun x=>!hasB xs k x)
    ⟨egH.out,fun W' x hd=>BothIn_c W' B1 _ _ xs x k ((hI1.below hA).below hd.below) ((hd.cell _).trans hB1') ((hd.cell _).trans hG)⟩
   have hit:=Lib.hid (@both_hit xs ns k)
   have miss:=Lib.hid (@both_miss xs ns k)
   generalize (ns.any fun x=>!hasB xs k x) = r at hcon hit miss hYk
   cases r
   ·gi_wp2_with (refine ⟨trivial, ?_⟩;gi_at_call 21;refine (callsIn_wide.2 hcon).mono ?_;rintro e w' ⟨rfl,hd'⟩;have hGw:=(hd'.cell _).trans hG;obtain ⟨fn,tmps,assign,body,hy,hR⟩:=hYk.out w' rfl (abides_step hJ hJs (hd'.belowTo hA)))
    refine hR.mono ?_
    rintro e W3 (⟨rfl,hJ3,hk3⟩ | ⟨rfl,hJx3⟩)
    ·gi_wp2
     go_roundw
     case rel=>exact ⟨k + 1,by omega,by go_num,by rw [hit.out trivial];exact hJ3,(hkp.trans (Keep.of_below (hd'.belowTo hA) hS')).trans hk3⟩
     case measure=>simp [intOf];omega
    ·gi_wp2
     refine bodyPost_ret (results_none rfl _ _ _) rfl ?_
     exact ⟨⟨_,rfl⟩, .inr ⟨_,⟨k + 1,by omega,(hit.out trivial).symm⟩,hJx3⟩⟩
   ·gi_wp2_with (refine ⟨trivial, ?_⟩;gi_at_call 21;refine (callsIn_wide.2 hcon).mono ?_;rintro e w' ⟨rfl,hd'⟩)
    refine ⟨fun _ h=>(by cases h), ?_⟩
    gi_wp2
    go_roundw
    case rel=>exact ⟨k + 1,by omega,by go_num,by rw [miss.out trivial];exact abides_step hJ hJs (hd'.belowTo hA),hkp.trans (Keep.of_below (hd'.belowTo hA) hS')⟩
    case measure=>simp [intOf];omega
  ·obtain rfl:k = xs.length:=by omega
   gi_wp2
   go_end0
   exact ⟨⟨_,rfl⟩, .inl ⟨_,rfl,hJs⟩⟩
theorem both_stops (n:Nat) (hn:1 ≤ n) (B1 B2:Nat) (S:Nat → Prop) (a a2:Option Addr) (cap cap2:Nat) (xs ns:List Int) (w:World) (hS:∀ k,S k → k < w.heap.size)
  (hst:∀ W W',Below w.heap.size w W → Keep S W W' → Ints W' (.slice a xs.length cap) xs ∧ Ints W' (.slice a2 ns.length cap2) ns ∧
   W'.cell? ⟨B1,0,none⟩ = some (.slice a xs.length cap) ∧ W'.cell? ⟨B2,0,none⟩ = some (.slice a2 ns.length cap2)) :
  SeqStopsK Fence.wide n Tryz.prog 125 #[.pointer (some ⟨B1,0,none⟩), .pointer (some ⟨B2,0,none⟩)] (fun x:Int=>#[Value.int .i64 x]) (Keep S) (fun ys=>ys = both xs ns xs.length) (fun pre=>∃ k,k ≤ xs.length ∧ pre = both xs ns k) xs.length w:=
 fun l J Jx W hW hJ _ hY h0=>Both1_in n hn l B1 B2 S a a2 cap cap2 xs ns J Jx W hJ (fun k hk=>Nat.lt_of_lt_of_le (hS k hk) hW.size) (fun W' h=>hst W W' hW h) (fun _ W1 hk _ hj=>hY _ _ W1 hj (Nat.lt_of_le_of_lt (both_len _ _ _) hk)) h0
def BothB (xs ns:List Int):Type:={ k:Nat // k < xs.length ∧ (ns.any fun n=>!hasB xs (k:Int) n) = false }
theorem both_stopsB (n:Nat) (hn:1 ≤ n) (B1 B2:Nat) (S:Nat → Prop) (a a2:Option Addr) (cap cap2:Nat) (xs ns:List Int) (w:World) (hS:∀ k,S k → k < w.heap.size)
  (hst:∀ W W',Below w.heap.size w W → Keep S W W' → Ints W' (.slice a xs.length cap) xs ∧ Ints W' (.slice a2 ns.length cap2) ns ∧
   W'.cell? ⟨B1,0,none⟩ = some (.slice a xs.length cap) ∧ W'.cell? ⟨B2,0,none⟩ = some (.slice a2 ns.length cap2)) :
  SeqStopsK Fence.wide n Tryz.prog 125 #[.pointer (some ⟨B1,0,none⟩), .pointer (some ⟨B2,0,none⟩)] (fun x:BothB xs ns=>#[Value.int .i64 (x.1:Int)]) (Keep S) (fun ys=>ys.map (fun y=>((y.1:Nat):Int)) = both xs ns xs.length) (fun _=>True) xs.length w:=by
 intro l J Jx W hW hJ _ hY h0
 refine (Both1_in n hn l B1 B2 S a a2 cap cap2 xs ns (fun l W=>∃ l':List (BothB xs ns),l'.map (fun y=>((y.1:Nat):Int)) = l ∧ J l' W) (fun l W=>∃ l':List (BothB xs ns),l'.map (fun y=>((y.1:Nat):Int)) = l ∧ Jx l' W) W
  (fun s A B row hs hg hr=>by obtain ⟨l',e,h⟩:=hs;exact ⟨l',e,hJ l' A B row h hg hr⟩) (fun k hk=>Nat.lt_of_lt_of_le (hS k hk) hW.size) (fun W' h=>hst W W' hW h) ?_ ⟨[],rfl,h0⟩).mono ?_
 ·rintro k W1 hk hm ⟨l',e,hj⟩
  have hl:l'.length < xs.length:=by
   have:=both_len xs ns k
   rw [← e,List.length_map] at this
   omega
  obtain ⟨fn,tmps,assign,body,hy,hR⟩:=hY l' ⟨k,hk,hm⟩ W1 hj hl
  refine ⟨fn,tmps,assign,body,hy,hR.mono ?_⟩
  rintro e' W' (⟨h1,h2,h3⟩ | ⟨h1,h2⟩)
  ·exact .inl ⟨h1,⟨_,by rw [List.map_append,e];rfl,h2⟩,h3⟩
  ·exact .inr ⟨h1,⟨_,by rw [List.map_append,e];rfl,h2⟩⟩
 ·rintro e W' ⟨hv,⟨ys,rfl,l',e',hj⟩ | ⟨pre,_,l',_,hj⟩⟩
  ·exact ⟨hv, .inl ⟨l',e',hj⟩⟩
  ·exact ⟨hv, .inr ⟨l',trivial,hj⟩⟩
theorem keepK_t {S:Nat → Prop} {A B C:World} (h:Keep S A B) (k:Keep S B C):Keep S A C:=h.trans k
theorem keepK_b {S:Nat → Prop} {w:World} (hS:∀ k,S k → k < w.heap.size) (W:World) (l:Nat) (o o':Obj) (hl:w.heap.size ≤ l) (_:W.heap[l]? = some o) (_:o.isCells = false) (_:o.isWalk = false):Keep S W (W.putObj l o'):=by
 have hg:=grownBy_putObj' W l o'
 exact ⟨hg.os,hg.tape,hg.output,hg.size,fun k hk=>by
  by_cases h:k < W.heap.size
  ·exact hg.block k h (fun e=>by
    have e':k = l:=Option.some.inj e
    have:=hS k hk
    omega)
  ·have h1:(W.putObj l o').heap.size = W.heap.size:=by simp [World.putObj]
   rw [Array.getElem?_eq_none (by omega),Array.getElem?_eq_none (by omega)]⟩
theorem both_still {w:World} {a2:Option Addr} {a:Option Addr} {cap cap2:Nat} {xs ns:List Int} {o1 o2:Obj} {t:TypeId}
  (h:Ints w (.slice a xs.length cap) xs) (h2:Ints ((w.alloc o1).alloc o2) (.slice a2 ns.length cap2) ns) (hne:∀ b off,a2 = some ⟨b,off,none⟩ → ns ≠ [] → b ≠ w.heap.size) :
  ∀ W W',Below (w.heap.size + 4) ((((w.alloc o1).alloc o2).alloc (.cells #[.slice a xs.length cap] t)).alloc (.cells #[.slice a2 ns.length cap2] t)) W →
   Keep (fun k=>k < w.heap.size + 4 ∧ k ≠ w.heap.size) W W' → Ints W' (.slice a xs.length cap) xs ∧ Ints W' (.slice a2 ns.length cap2) ns ∧
   W'.cell? ⟨w.heap.size + 1 + 1,0,none⟩ = some (.slice a xs.length cap) ∧ W'.cell? ⟨w.heap.size + 1 + 1 + 1,0,none⟩ = some (.slice a2 ns.length cap2):=by
 intro W W' hW hk
 have e1:Below w.heap.size w ((w.alloc o1).alloc o2):=((Below.refl _ w).alloc (Nat.le_refl _) _).alloc (by simp) _
 have e2:Below (w.heap.size + 2) ((w.alloc o1).alloc o2) ((((w.alloc o1).alloc o2).alloc (.cells #[.slice a xs.length cap] t)).alloc (.cells #[.slice a2 ns.length cap2] t)):=
  ((Below.refl _ _).alloc (by simp) _).alloc (by simp) _
 have e3:=e2.trans (hW.mono (by omega))
 refine ⟨((h.below e1).below (e3.mono (by simp))).keep hk (fun hx b hb=>?_),(h2.below (e3.mono (by simp))).keep hk (fun hx b hb=>?_), ?_, ?_⟩
 ·have:=h.blk hx b hb
  exact ⟨by omega,by omega⟩
 ·have:=h2.blk hx b hb
  simp at this
  have hb':∃ off,a2 = some ⟨b,off,none⟩:=by
   obtain ⟨_,_,_,_,e,_,hh⟩:=h2.2
   cases e
   obtain ⟨b',off,e,_⟩:=hh (by simpa using hx)
   subst e
   cases hb
   exact ⟨off,rfl⟩
  obtain ⟨off,ha⟩:=hb'
  exact ⟨by omega,hne b off ha hx⟩
 ·rw [hk.cell (p:=⟨w.heap.size + 1 + 1,0,none⟩) ⟨by simp,by simp;omega⟩,hW.cell (p:=⟨w.heap.size + 1 + 1,0,none⟩) (by simp)]
  have c1:=cell_new_l ((w.alloc o1).alloc o2) (.slice a xs.length cap) t
  simp only [World.size_alloc] at c1
  exact cell_alloc_l _ c1.1
 ·rw [hk.cell (p:=⟨w.heap.size + 1 + 1 + 1,0,none⟩) ⟨by simp,by simp;omega⟩,hW.cell (p:=⟨w.heap.size + 1 + 1 + 1,0,none⟩) (by simp)]
  have c1:=cell_new_l (((w.alloc o1).alloc o2).alloc (.cells #[.slice a xs.length cap] t)) (.slice a2 ns.length cap2) t
  simp only [World.size_alloc] at c1
  exact c1.1
theorem ownsRow_le {w:World} {b b':Nat} {e:TypeId} {s n:Nat} {v:Value} {cs:List Value} (h:w.ownsRow b e s v n cs) (hb:b' ≤ b):w.ownsRow b' e s v n cs:=by
 refine ⟨h.1, ?_⟩
 rcases h.2 with hn | ⟨g,cap,cur,hv,hg,r⟩
 ·exact .inl hn
 ·exact .inr ⟨g,cap,cur,hv,Nat.le_trans hb hg,r⟩
theorem collected {W w1:World} {N B:Nat} {t e:TypeId} {size:Nat} {v v':Value} {k m:Nat} {xs ys:List Value} {tmp:Obj}
  (hv:Boxed W B t v) (hte:t ≠ e) (hrow:W.ownsRow N e size v k xs) (hB:B < N) (hN:N ≤ W.heap.size)
  (hown':w1.ownsRow N e size v' (k + m) ys) (hgrow:(W.alloc tmp).grownBy w1 v.ownBlock) :
  Boxed w1 B t v ∧ Boxed (w1.setCell ⟨B,0,none⟩ v') B t v' ∧ (w1.setCell ⟨B,0,none⟩ v').ownsRow N e size v' (k + m) ys ∧ KeepsOthers W (w1.setCell ⟨B,0,none⟩ v') ∧
   Keep (fun k=>k < N ∧ k ≠ B) W (w1.setCell ⟨B,0,none⟩ v'):=by
 obtain ⟨h1,h2,_,h4,_⟩:=hv.appended (n₀:=0) hte (ownsRow_le hrow (Nat.zero_le _)) (Nat.zero_le _) (Nat.zero_le _) (ownsRow_le hown' (Nat.zero_le _)) hgrow
 have hg:=grownBy_setCell' w1 B v'
 refine ⟨h1,h2,hown'.kept hg ?_,h4,⟨by rw [hg.os,hgrow.os];rfl,by rw [hg.tape,hgrow.tape];rfl,by rw [hg.output,hgrow.output];rfl, ?_,fun j hj=>?_⟩⟩
 ·cases ho:v'.ownBlock with
  | none=>exact .inl rfl
  | some b =>
   refine .inr fun e=>?_
   have:=(hown'.lt b ho).1
   cases e
   omega
 ·have:=hgrow.size
  rw [World.size_alloc] at this
  exact Nat.le_trans (by omega) hg.size
 ·obtain ⟨hj1,hj2⟩:=hj
  rw [hg.block j (by have:=hgrow.size;rw [World.size_alloc] at this;omega) (fun e=>hj2 (Option.some.inj e)),
   hgrow.block j (by rw [World.size_alloc];omega) (fun e=>by have:=(hrow.lt j e.symm).1;omega),heap_alloc_old _ _ _ (by omega)]
theorem Tryz.info3:(Tryz.prog.info? 3).map (fun i=>(i.zero,i.size,i.bytes)) = some (some (.int .i64 0),1,8):=by kernel_rfl
set_option maxHeartbeats 1000000 in
theorem Of_in (a:Option Addr) (cap:Nat) (xs:List Int) (x:Int) (w:World) (hx:I64 x) (h:Ints w (.slice a xs.length cap) xs) :
  CallsIn Fence.wide 9 Tryz.prog 130 #[.slice a xs.length cap, .int .i64 x] w fun e w'=>∃ v,e = .returned v ∧ w'.ownsRow w.heap.size 3 1 v (both xs [x] xs.length).length ((both xs [x] xs.length).map (Value.int .i64)) ∧ Below w.heap.size w w':=by
 have hlen:=h.open.1
 obtain ⟨i0,hi,hz0,hz1,hz2⟩:=info_parts Tryz.info3
 refine callsIn_of_wp_marks Tryz.func130 rfl trivial ?_ rfl
 simp only [Tryz.ntmps130,List.size_toArray,List.length_cons,List.length_nil,Nat.reduceAdd,Nat.reduceSub,Array.replicate_succ,Array.replicate_zero,List.push_toArray,List.append_toArray,List.nil_append,List.cons_append]
 gi_wp2_with (refine ⟨trivial, ?_⟩;gi_at_call 100;refine (callsIn_wide.2 (Both_c _ _ _ _ _ _ _)).mono ?_;rintro e w' ⟨rfl,rfl⟩)
 have hns:Ints ((w.alloc (.cells #[.slice none 0 0] 22)).alloc (.cells #[.int .i64 x] 3)) (.slice (some ⟨w.heap.size + 1,0,none⟩) 1 1) [x]:=by
  have h:=Ints.lit (w.alloc (.cells #[.slice none 0 0] 22)) [x] 3 (by simp [hx]) (by simp)
  rw [World.size_alloc] at h
  exact h
 have hst:=both_still (o1:=.cells #[.slice none 0 0] 22) (o2:=.cells #[.int .i64 x] 3) (ns:=[x]) (t:=22) h hns (fun b off e _=>by cases e;omega)
 have bO:=Boxed.new w 22 (.slice none 0 0)
 have hB0:Below w.heap.size w ((((w.alloc (.cells #[.slice none 0 0] 22)).alloc (.cells #[.int .i64 x] 3)).alloc (.cells #[.slice a xs.length cap] 22)).alloc (.cells #[.slice (some ⟨w.heap.size + 1,0,none⟩) 1 1] 22)):=
  ((((Below.refl _ w).alloc (Nat.le_refl _) _).alloc (by simp) _).alloc (by simp;omega) _).alloc (by simp;omega) _
 refine wpIn_rangeFunc_ownG rfl (by omega) (gf:=125) (lb:=#[.pointer (some ⟨w.heap.size + 1 + 1,0,none⟩), .pointer (some ⟨w.heap.size + 1 + 1 + 1,0,none⟩)]) rfl trivial (enters_of Tryz.func125 (by kernel_rfl) rfl)
  (both_stops 8 (by omega) _ _ (fun k=>k < w.heap.size + 4 ∧ k ≠ w.heap.size) a (some ⟨w.heap.size + 1,0,none⟩) cap 1 xs [x] _ (fun k hk=>by simp;omega) (fun W W' hW=>hst W W' (hW.mono (by simp)))) keepK_t (keepK_b (fun k hk=>by simp;omega)) (Below.refl _ _) (fun _=>rfl)
  (fun pre W=>(∃ v,Boxed W w.heap.size 22 v ∧ W.ownsRow (w.heap.size + 4) 3 1 v pre.length (pre.map (Value.int .i64)) ∧ True) ∧ (Below w.heap.size w W ∧ w.heap.size + 4 ≤ W.heap.size))
  (fun _ _ _=>False)
  (OwnFrom.and (Own.from (holdsRow_own (w.heap.size + 4) w.heap.size 22 3 1 (fun pre:List Int=>pre.length) (fun pre:List Int=>pre.map (Value.int .i64)) (fun _ _=>True)) _) (OwnFrom.and (ownFrom_below (Nat.le_refl _) (by simp;omega)) (fun s A B row hs hg _=>Nat.le_trans hs hg.size)))
  (fun _ _ _ _ _ hs _ _=>hs)
  ⟨⟨_,((bO.alloc _).alloc _).alloc _,World.ownsRow_nil _ _ _ _,trivial⟩,hB0,by simp⟩
  (fun z=>{ tmps:=#[.slice a xs.length cap, .int .i64 x,undef,undef, .slice none 0 0, .pointer (some ⟨w.heap.size,0,none⟩), .int .i64 z, .slice a xs.length cap, .int .i64 x, .slice (some ⟨w.heap.size + 1,0,none⟩) 1 1, .func (.func 125) #[] #[.pointer (some ⟨w.heap.size + 1 + 1,0,none⟩), .pointer (some ⟨w.heap.size + 1 + 1 + 1,0,none⟩)], .int .i64 z,undef,undef,undef,undef,undef],defers:=[] }) ?assign ?body ?done ?stop
 case assign =>
  intro l z W K hK
  gi_wp2
  exact hK
 case body =>
  rintro l pre z W ⟨⟨v,hv,hrow,_⟩,hB,hN⟩ hlt
  have hc:=hv.cell
  gi_wp2_with (gi_at_builtin;refine wpListIn_append_own _ rfl _ _ 22 rfl (w.heap.size + 4) 3 i0 (.int .i64 0) 1 8 Tryz.underlying22 hi hz0 hz1 hz2 rfl (by decide) _ _ _ rfl (hrow.alloc _) ⟨W.heap.size,0,none⟩ 1 1 [.int .i64 z] rfl rfl (cell_one_new _ _ _) (by simp [Value.oneCell']) (by unfold maxLen;omega) (by omega) (by simp;omega) ?_;intro v' w1 hown' hgrow _;obtain ⟨g',cap',rfl⟩:=ownsRow_succ hown';obtain ⟨hv1,hv2,hr2,hk2,hb2⟩:=collected hv (by decide) hrow (by omega) hN hown' hgrow;have hc1:=hv1.cell;have hf1:=hv1.frozen)
  exact ⟨hk2.from _,hb2,⟨_,hv2,by simpa using hr2,trivial⟩,hB.trans (hb2.below (fun k hk=>⟨by omega,by omega⟩)),Nat.le_trans hN hb2.size⟩
 case done =>
  rintro D ys W hD rfl ⟨⟨v,hv,hrow,_⟩,hB,hN⟩ hK
  have hc:=hv.cell
  gi_wp2
  refine ⟨by simp, .inl ⟨_,_,rfl,run_takeDeferred hK, ?_⟩⟩
  exact ⟨_,results_tmp rfl _ _ _,v,rfl,ownsRow_le (ownsRow_putObj hrow _ hK rfl) (by omega),hB.trans (belowK_b (w:=w) (Nat.le_refl _) W D _ _ (by simp at hD;omega) hK rfl rfl)⟩
 case stop =>
  rintro D c pre W _ _ h _
  exact h.elim
theorem both_i64 {xs ns:List Int} {n:Nat} (hn:n * 8 ≤ 140737488351232):∀ x ∈ both xs ns n,I64 x:=by
 intro x hx
 have:=both_mem hx
 unfold I64
 omega
end Go.Proofs.YtnalakhelicjcaaGreatDoor
set_option maxRecDepth 100000
namespace Go.Proofs.YtnalakhelicjcaaGreatDoor
open Go.RowKit Go.Shelf Go.BigFrame
def hereB (X:Wd) (n:Int):Bool:=inB n 0 ((X.nodes.length:Int) - 1)
def thereE (X:Wd) (ns:List Int):Int:=if errX X = 0 then if ns.all (hereB X) = true then 0 else 4 else errX X
theorem hereB_iff {X:Wd} {n:Int}:hereB X n = true ↔ 0 ≤ n ∧ n < X.nodes.length:=by
 unfold hereB inB
 simp
 omega
theorem There_c {w:World} {v nv:Value} {X:Wd} {ns:List Int} (h:WorldAt w v X) (hns:Ints w nv ns):Calls Tryz.prog 97 #[v,nv] w (GivesB (.int .i64 (thereE X ns)) w):=by
 have hW0:=h
 obtain ⟨gv,nv',wv,rfl,hg,hn,hw⟩:=h
 obtain ⟨_,na,ncap,rfl,_⟩:=hn.form
 obtain ⟨_,ga,gcap,rfl,_⟩:=hg.open
 obtain ⟨_,wa,wcap,rfl,_⟩:=hw.form
 have hnl:=hn.form.1
 clear hg hn hw
 obtain ⟨hsl,sa,scap,rfl,hsc,hc⟩:=hns.open
 replace hc:=Lib.hid hc
 have hA:=below_a1 w (.cells #[.slice ga X.groups.length gcap, .slice na X.nodes.length ncap, .slice wa X.wires.length wcap] 35)
 have hB:=WBox.new w (.slice ga X.groups.length gcap) (.slice na X.nodes.length ncap) (.slice wa X.wires.length wcap) 35
 obtain ⟨P,hP⟩:∃ P,GivesB (.int .i64 (thereE X ns)) w = P:=⟨_,rfl⟩
 rw [hP]
 unfold thereE at hP
 have hC:=WCheck_c (hW0.below hA)
 obtain ⟨e0,he0⟩:∃ e0,errX X = e0:=⟨_,rfl⟩
 rw [he0] at hC hP
 clear he0
 go_enter Tryz.func97,Tryz.ntmps97
 go_upto_region 1 with fail
 generalize w.alloc (.cells #[.slice ga X.groups.length gcap, .slice na X.nodes.length ncap, .slice wa X.wires.length wcap] 35) = w1 at *
 have hBl:=cell_lt hB.1
 dsimp only at hBl
 obtain ⟨x0,x1,x2⟩:=id hB
 by_cases hz:e0 = 0
 ·rw [if_pos hz] at hP
  subst hz
  replace hP:=Lib.hid hP
  go_wp2_with fail
  refine hC.mono ?_
  rintro e w2 ⟨rfl,hb2⟩
  have hw2:=below_trans hA hb2
  clear x0 x1 x2
  obtain ⟨x0,x1,x2⟩:=hB.below hb2 hBl
  go_wp2_with fail
  go_loop [15] (fun i=>∃ k:Nat,k ≤ ns.length ∧ i = .int .i64 k ∧ Hid ((ns.take k).all (hereB X) = true)) (fun i=>ns.length - (intOf i).toNat)
  case atStart=>exact ⟨0,by omega,rfl,rfl⟩
  case round =>
   obtain ⟨k,hk,rfl,hg⟩:=hrel
   by_cases hlt:k < ns.length
   ·obtain ⟨b,off,rfl,hcc⟩:=hc.out (by intro e;subst e;simp at hlt)
    have hck:=(hw2.cell (p:=⟨b,off + k,none⟩) (cell_lt (hcc k hlt))).trans (hcc k hlt)
    have ht:=all_take (p:=hereB X) (d:=0) hlt
    obtain ⟨n,hnk⟩:∃ n,ns.getD k 0 = n:=⟨_,rfl⟩
    rw [hnk] at hck ht
    clear hnk
    by_cases hh:0 ≤ n ∧ n < X.nodes.length
    ·obtain ⟨h1,h2⟩:=hh
     have ha:=Lib.hid (ht.2 hg.out (hereB_iff.2 ⟨h1,h2⟩))
     clear ht
     go_wp2_with fail
     go_round
     case rel=>exact ⟨k + 1,by omega,by go_num,ha.out⟩
     case measure=>simp [intOf];omega
    ·have hf:hereB X n = false:=by
      cases hq:hereB X n
      ·rfl
      ·exact absurd (hereB_iff.1 hq) hh
     have ha:=Lib.hid (ht.1 hf)
     clear ht hf
     by_cases h1:n < 0
     ·clear hh
      go_wp2_with fail
      rw [← hP.out,if_neg (by rw [ha.out];simp)]
      exact ⟨rfl,hw2⟩
     ·have h2:(X.nodes.length:Int) ≤ n:=by omega
      have h3:0 ≤ n:=by omega
      clear hh h1
      go_wp2_with fail
      rw [← hP.out,if_neg (by rw [ha.out];simp)]
      exact ⟨rfl,hw2⟩
   ·obtain rfl:k = ns.length:=by omega
    have ha:=hg.out
    rw [List.take_length] at ha
    replace ha:=Lib.hid ha
    go_wp2_with fail
    rw [← hP.out,if_pos ha.out]
    exact ⟨rfl,hw2⟩
 ·rw [if_neg hz] at hP
  have hne:(e0 != 0) = true:=by simpa using hz
  replace hz:=Lib.hid hz
  replace hP:=Lib.hid hP
  go_wp2_with fail
  refine hC.mono ?_
  rintro e w2 ⟨rfl,hb2⟩
  go_wp2_with fail
  rw [← hP.out]
  exact ⟨rfl,below_trans hA hb2⟩
end Go.Proofs.YtnalakhelicjcaaGreatDoor
set_option maxRecDepth 100000
namespace Go.Proofs.YtnalakhelicjcaaGreatDoor
open Go.RowKit Go.Shelf Go.BigFrame
attribute [local go_sem] Oper.semAt_some
theorem boundG_miss {X:Wd} {n g m:Nat} {a:Int} (h:hasB X.groups g n = false):boundG X n g m a = a:=by
 induction m with
 | zero=>rfl
 | succ m ih =>
  rw [boundG_succ,ih]
  unfold boundS
  rw [if_neg (by simp [h])]
def accB (X:Wd) (n:Nat) (l:List (BothB X.groups [(n:Int)])):Int:=l.foldl (fun a g=>boundG X n g.1 X.nodes.length a) (X.nodes.getD n N.zero).clock
theorem accB_nil (X:Wd) (n:Nat):accB X n [] = (X.nodes.getD n N.zero).clock:=rfl
theorem accB_snoc (X:Wd) (n:Nat) (l:List (BothB X.groups [(n:Int)])) (g:BothB X.groups [(n:Int)]):accB X n (l ++ [g]) = boundG X n g.1 X.nodes.length (accB X n l):=by
 unfold accB
 rw [List.foldl_append]
 rfl
theorem both_fold (X:Wd) (n m L:Nat) (c:Int):(both X.groups [(n:Int)] m).foldl (fun a (g:Int)=>boundG X n g.toNat L a) c = (List.range m).foldl (fun a g=>boundG X n g L a) c:=by
 induction m with
 | zero=>rfl
 | succ m ih =>
  rw [List.range_succ,List.foldl_append, ← ih]
  cases h:([(n:Int)].any fun x=>!hasB X.groups (m:Int) x)
  ·rw [both_hit h,List.foldl_append]
   rfl
  ·rw [both_miss h]
   have h':hasB X.groups (m:Int) n = false:=by simpa using h
   simp only [List.foldl_cons,List.foldl_nil]
   rw [boundG_miss h']
theorem accB_end {X:Wd} {n:Nat} {l:List (BothB X.groups [(n:Int)])} (h:l.map (fun y=>((y.1:Nat):Int)) = both X.groups [(n:Int)] X.groups.length):accB X n l = boundX X n:=by
 unfold boundX boundM
 rw [← both_fold, ← h,List.foldl_map]
 rfl
theorem bothB_has {xs:List Int} {n:Nat} (g:BothB xs [(n:Int)]):hasB xs (g.1:Int) (n:Int) = true:=by
 have:=g.2.2
 simpa using this
theorem keep_setCell {S:Nat → Prop} {W:World} {b:Nat} (off:Nat) (v:Value) (hb:¬ S b):Keep S W (W.setCell ⟨b,off,none⟩ v):=by
 have hg:=grownBy_setCell' W b v
 have hs:=KeepsWalks.setCell W ⟨b,off,none⟩ v
 refine ⟨rfl,rfl,rfl,hs.size,fun k hk=>Below.heap_setCell W ⟨b,off,none⟩ v k (fun e=>hb (by rw [← (show k = b from e)];exact hk))⟩
set_option maxHeartbeats 2000000 in
theorem At_in {w:World} {gv nv wv:Value} {X:Wd} (hg:Ints w gv X.groups) (hn:Nodes w nv X.nodes) {n:Nat} (hn1:n < X.nodes.length) (ht:TabN X n) :
  CallsIn Fence.wide 9 Tryz.prog 81 #[.agg #[gv,nv,wv], .int .i64 n] w fun e w'=>e = .returned (.int .i64 (boundX X n)) ∧ Below w.heap.size w w':=by
 obtain ⟨hnl,_⟩:=hn.form
 obtain ⟨hgl,ga,gcap,rfl,_⟩:=hg.open
 obtain ⟨b1,o1,c1,lv,hv,tv,rfl,hc1,k0,k1,k2,k3,hcl,hr,hh,htt⟩:=hn.at hn1
 obtain ⟨hrl,la,lcap,rfl,hlc⟩:=hr.form
 obtain ⟨_,ha,hcap,rfl,_⟩:=hh.open
 obtain ⟨_,ta,tcap,rfl,_⟩:=htt.open
 have hn64:I64 (n:Int):=by unfold I64;omega
 have hSS:=Lib.hid (fun g k a s=>boundS_eq X n g k a s)
 have hGS:=Lib.hid (fun g m a=>boundG_succ X n g m a)
 have htl:=ht.1
 replace ht:=Lib.hid ht.2
 have hAcc0:=Lib.hid (accB_nil X n)
 have hAccS:=Lib.hid (accB_snoc X n)
 have hAccE:=Lib.hid (fun l h=>accB_end (X:=X) (n:=n) (l:=l) h)
 obtain ⟨acc,hac⟩:∃ acc,accB X n = acc:=⟨_,rfl⟩
 rw [hac] at hAcc0 hAccS hAccE
 clear hac
 obtain ⟨x,HX⟩:∃ x,X.nodes.getD n N.zero = x:=⟨_,rfl⟩
 simp only [HX] at *
 clear HX
 have hkb:=cell_lt k0
 dsimp only at hkb
 have htle:x.last.length ≤ X.groups.length ∧ X.groups.length ≤ x.last.length:=⟨by omega,by omega⟩
 clear htl
 refine callsIn_of_wp_marks Tryz.func81 rfl trivial ?_ rfl
 simp only [Tryz.ntmps81,List.size_toArray,List.length_cons,List.length_nil,Nat.reduceAdd,Nat.reduceSub,Array.replicate_succ,Array.replicate_zero,List.push_toArray,List.append_toArray,List.nil_append,List.cons_append]
 gi_wp2_with (refine ⟨trivial, ?_⟩;gi_at_call 100;refine (callsIn_wide.2 (Both_c _ _ _ _ _ _ _)).mono ?_;rintro e w' ⟨rfl,rfl⟩)
 have hA3:=below_a2 w (.cells #[.slice ga X.groups.length gcap, .slice (some ⟨b1,o1,none⟩) X.nodes.length c1,wv] 35) (.cells #[.int .i64 n] 3)
 have hB0:=(WBox.new w (.slice ga X.groups.length gcap) (.slice (some ⟨b1,o1,none⟩) X.nodes.length c1) wv 35).1
 have hB0':=cell_alloc_l (.cells #[.int .i64 x.clock, .slice la x.last.length lcap, .slice ha x.held.length hcap, .slice ta x.told.length tcap] 65) (cell_alloc_l (.cells #[.int .i64 n] 3) hB0)
 have hn0:=cell_alloc_l (.cells #[.int .i64 x.clock, .slice la x.last.length lcap, .slice ha x.held.length hcap, .slice ta x.told.length tcap] 65) (cell_new_l (w.alloc (.cells #[.slice ga X.groups.length gcap, .slice (some ⟨b1,o1,none⟩) X.nodes.length c1,wv] 35)) (.int .i64 n) 3).1
 have hNb:=NBox.new ((w.alloc (.cells #[.slice ga X.groups.length gcap, .slice (some ⟨b1,o1,none⟩) X.nodes.length c1,wv] 35)).alloc (.cells #[.int .i64 n] 3)) x (.slice la x.last.length lcap) (.slice ha x.held.length hcap) (.slice ta x.told.length tcap) 65
 obtain ⟨_,y1,_,_⟩:=hNb
 have hwx:=hA3.trans (((Below.refl _ _).alloc (Nat.le_refl _) (.cells #[.int .i64 x.clock, .slice la x.last.length lcap, .slice ha x.held.length hcap, .slice ta x.told.length tcap] 65)).mono (by rw [World.size_alloc,World.size_alloc];omega))
 have hsz:(((w.alloc (.cells #[.slice ga X.groups.length gcap, .slice (some ⟨b1,o1,none⟩) X.nodes.length c1,wv] 35)).alloc (.cells #[.int .i64 n] 3)).alloc (.cells #[.int .i64 x.clock, .slice la x.last.length lcap, .slice ha x.held.length hcap, .slice ta x.told.length tcap] 65)).heap.size = w.heap.size + 1 + 1 + 1:=by
  rw [World.size_alloc,World.size_alloc,World.size_alloc]
 simp only [World.size_alloc] at y1 hn0
 generalize ((w.alloc (.cells #[.slice ga X.groups.length gcap, .slice (some ⟨b1,o1,none⟩) X.nodes.length c1,wv] 35)).alloc (.cells #[.int .i64 n] 3)).alloc (.cells #[.int .i64 x.clock, .slice la x.last.length lcap, .slice ha x.held.length hcap, .slice ta x.told.length tcap] 65) = wx at *
 clear hA3 hB0
 have hgx:=hg.below hwx
 have hns:Ints ((wx.alloc (.cells #[.int .i64 x.clock] 3)).alloc (.cells #[.int .i64 n] 3)) (.slice (some ⟨wx.heap.size + 1,0,none⟩) 1 1) [(n:Int)]:=by
  have h:=Ints.lit (wx.alloc (.cells #[.int .i64 x.clock] 3)) [(n:Int)] 3 (by simp [hn64]) (by simp)
  rw [World.size_alloc] at h
  exact h
 have hst:=both_still (o1:=.cells #[.int .i64 x.clock] 3) (o2:=.cells #[.int .i64 n] 3) (ns:=[(n:Int)]) (t:=22) hgx hns (fun b off e _=>by cases e;omega)
 have c0:=cell_new_l wx (.int .i64 x.clock) 3
 have hBx:Below wx.heap.size wx ((((wx.alloc (.cells #[.int .i64 x.clock] 3)).alloc (.cells #[.int .i64 n] 3)).alloc (.cells #[.slice ga X.groups.length gcap] 22)).alloc (.cells #[.slice (some ⟨wx.heap.size + 1,0,none⟩) 1 1] 22)):=
  ((((Below.refl _ wx).alloc (Nat.le_refl _) _).alloc (by simp) _).alloc (by simp;omega) _).alloc (by simp;omega) _
 have hB0w:=hwx.trans (hBx.mono (by omega))
 rw [hsz] at hst c0 hBx hB0w
 simp only [List.length_cons,List.length_nil,Nat.zero_add] at hst
 refine wpIn_rangeFunc_ownG rfl (by omega) (gf:=125) (lb:=#[.pointer (some ⟨w.heap.size + 1 + 1 + 1 + 1 + 1,0,none⟩), .pointer (some ⟨w.heap.size + 1 + 1 + 1 + 1 + 1 + 1,0,none⟩)]) rfl trivial (enters_of Tryz.func125 (by kernel_rfl) rfl)
  (both_stopsB 8 (by omega) _ _ (fun k=>k < w.heap.size + 1 + 1 + 1 + 4 ∧ k ≠ w.heap.size + 1 + 1 + 1) ga (some ⟨w.heap.size + 1 + 1 + 1 + 1,0,none⟩) gcap 1 X.groups [(n:Int)] _ (fun k hk=>by simp [hsz];omega) (fun W W' hW=>hst W W' (hW.mono (by simp [hsz])))) keepK_t (keepK_b (fun k hk=>by simp [hsz];omega)) (Below.refl _ _) (fun _=>rfl)
  (fun pre W=>(W.cell? ⟨w.heap.size + 1 + 1 + 1,0,none⟩ = some (.int .i64 (acc pre)) ∧ W.frozen? ⟨w.heap.size + 1 + 1 + 1,0,none⟩ = false ∧ W.cell? ⟨w.heap.size,0,none⟩ = some (.slice ga X.groups.length gcap) ∧ W.cell? ⟨w.heap.size + 1,0,none⟩ = some (.int .i64 n) ∧
   W.cell? ⟨w.heap.size + 1 + 1,1,none⟩ = some (.slice la x.last.length lcap)) ∧ (Below w.heap.size w W ∧ w.heap.size + 1 + 1 + 1 + 4 ≤ W.heap.size))
  (fun _ _ _=>False)
  (OwnFrom.and (Own.from (fun s A B row hs hg hr=>⟨cell_kept hs.1 hg hr,(frozen_kept hs.1 hg hr).trans hs.2.1,cell_kept hs.2.2.1 hg hr,cell_kept hs.2.2.2.1 hg hr,cell_kept hs.2.2.2.2 hg hr⟩) _) (OwnFrom.and (ownFrom_below (Nat.le_refl _) (by simp [hsz];omega)) (fun s A B row hs hg _=>Nat.le_trans hs hg.size)))
  (fun _ _ _ _ _ hs _ _=>hs)
  ⟨⟨by rw [hAcc0.out];exact cell_alloc_l _ (cell_alloc_l _ (cell_alloc_l _ c0.1)),frozen_alloc_l _ (cell_alloc_l _ (cell_alloc_l _ c0.1)) (frozen_alloc_l _ (cell_alloc_l _ c0.1) (frozen_alloc_l _ c0.1 c0.2)),cell_alloc_l _ (cell_alloc_l _ (cell_alloc_l _ (cell_alloc_l _ hB0'))),cell_alloc_l _ (cell_alloc_l _ (cell_alloc_l _ (cell_alloc_l _ hn0))),cell_alloc_l _ (cell_alloc_l _ (cell_alloc_l _ (cell_alloc_l _ y1)))⟩,hB0w,by simp [hsz]⟩
  ?act ?assign ?body ?done ?stop
 case assign =>
  intro l z W K hK
  gi_wp2
  exact hK
 case body =>
  rintro l pre z W ⟨⟨a1,a2,a3,a4,a5⟩,hB,hN⟩ hlt
  have hgn:=bothB_has z
  have hAz:=Lib.hid (hAccS.out pre z)
  obtain ⟨g,hgl1,hgm⟩:=z
  dsimp only at hgn
  obtain ⟨b2,o2,c2,u,e2,_,r1,hu⟩:=hr.at (show g < x.last.length by omega)
  cases e2
  obtain ⟨row,HR⟩:∃ row,x.last.getD g [] = row:=⟨_,rfl⟩
  have hrl2:row.length = X.nodes.length:=ht.out row (by rw [← HR,getD_lt x.last [] (show g < x.last.length by omega)];exact List.getElem_mem _)
  have hrle:row.length ≤ X.nodes.length ∧ X.nodes.length ≤ row.length:=⟨by omega,by omega⟩
  rw [HR] at hu
  obtain ⟨_,ua,ucap,rfl,_⟩:=hu.open
  have r1:=(hB.cell (p:=⟨b2,o2 + g,none⟩) (cell_lt r1)).trans r1
  gi_wp2_with fail
  gi_loopw [29] (fun i wr=>∃ k:Nat,k ≤ X.nodes.length ∧ i = .int .i64 k ∧ KeepsOthers W wr ∧ Keep (fun k=>k < w.heap.size + 1 + 1 + 1 + 4 ∧ k ≠ w.heap.size + 1 + 1 + 1) W wr ∧ wr.cell? ⟨w.heap.size + 1 + 1 + 1,0,none⟩ = some (.int .i64 (boundG X n g k (acc pre))) ∧ wr.frozen? ⟨w.heap.size + 1 + 1 + 1,0,none⟩ = false) (fun i _=>X.nodes.length - (intOf i).toNat)
  case atStart=>exact ⟨0,Nat.zero_le _,rfl,KeepsOthers.refl _,Keep.refl _ _,a1,a2⟩
  case round =>
   obtain ⟨k,hkn,rfl,hko,hkp,d1,d2⟩:=hrel
   have e3:=(hkp.cell (p:=⟨w.heap.size,0,none⟩) ⟨by dsimp only;omega,by dsimp only;omega⟩).trans a3
   have e4:=(hkp.cell (p:=⟨w.heap.size + 1,0,none⟩) ⟨by dsimp only;omega,by dsimp only;omega⟩).trans a4
   have hBr:=hB.trans (hkp.below (B:=w.heap.size) (fun k hk=>⟨by omega,by omega⟩))
   by_cases hlk:k < X.nodes.length
   ·obtain ⟨b3,o3,c3,e3',_,q1,hq64⟩:=hu.at (show k < row.length by omega)
    cases e3'
    obtain ⟨s,HS⟩:∃ s,row.getD k 0 = s:=⟨_,rfl⟩
    rw [HS] at q1
    have hcase:=hSS.out g k (boundG X n g k (acc pre)) s (by rw [HR,HS])
    have q1:=(hBr.cell (p:=⟨b3,o3 + k,none⟩) (cell_lt q1)).trans q1
    have hH2:=Has_c (hg.below hBr) g k
    have hgs:=Lib.hid (hGS.out g k (acc pre))
    rcases hcase with ⟨e,hv⟩ | ⟨e,h1,hv⟩ | ⟨e,h1,h2,hv⟩ | ⟨e,h1,h2,hv⟩
    ·have hb:((k:Int) != (n:Int)) = false:=by simp;omega
     replace hv:=Lib.hid hv
     clear e
     gi_wp2_with fail
     refine ⟨trivial, ?_⟩
     gi_wp2
     go_roundw
     case rel=>exact ⟨k + 1,by omega,by go_num,hko,hkp,by rw [hgs.out,hv.out];exact d1,d2⟩
     case measure=>simp [intOf];omega
    ·rw [hgn] at h1
     cases h1
    ·have hb:((k:Int) != (n:Int)) = true:=by simp;omega
     replace hv:=Lib.hid hv
     rw [h2] at hH2
     clear e h1 h2
     gi_wp2_with (refine ⟨trivial, ?_⟩;gi_at_call 101;refine (callsIn_wide.2 hH2).mono ?_;rintro e w' ⟨rfl,rfl⟩)
     go_roundw
     case rel=>exact ⟨k + 1,by omega,by go_num,hko,hkp,by rw [hgs.out,hv.out];exact d1,d2⟩
     case measure=>simp [intOf];omega
    ·have hb:((k:Int) != (n:Int)) = true:=by simp;omega
     replace hv:=Lib.hid hv
     rw [h2] at hH2
     clear e h1 h2
     gi_wp2_with (refine ⟨trivial, ?_⟩;gi_at_call 101;refine (callsIn_wide.2 hH2).mono ?_;rintro e w' ⟨rfl,rfl⟩)
     go_roundw
     case rel=>exact ⟨k + 1,by omega,by go_num,hko.trans (KeepsOthers.setCell _ _ _),hkp.trans (keep_setCell _ _ (fun h=>h.2 rfl)),by rw [hgs.out,hv.out,World.cell?_setCell_same' _ _ _ (by rw [d1];rfl)];congr 2;split <;> omega,by simpa using d2⟩
     case measure=>simp [intOf];omega
   ·obtain rfl:k = X.nodes.length:=by omega
    gi_wp2_with fail
    exact ⟨hko.from _,hkp,⟨d1.trans (congrArg (fun q=>some (Value.int .i64 q)) hAz.out.symm),d2,e3,e4,(hkp.cell (p:=⟨w.heap.size + 1 + 1,1,none⟩) ⟨by dsimp only;omega,by dsimp only;omega⟩).trans a5⟩,hBr,Nat.le_trans hN hkp.size⟩
 case done =>
  rintro D ys W hD hys ⟨⟨a1,a2,a3,a4,a5⟩,hB,hN⟩ hK
  rw [hAccE.out _ hys] at a1
  clear hys
  simp only [World.size_alloc,hsz] at hD
  gi_wp2
  refine ⟨by simp, .inl ⟨_,_,rfl,run_takeDeferred hK, ?_⟩⟩
  exact ⟨_,results_tmp rfl _ _ _,rfl,hB.trans (belowK_b (w:=w) (Nat.le_refl _) W D _ _ (by omega) hK rfl rfl)⟩
 case stop =>
  rintro D c pre W _ _ h _
  exact h.elim
theorem At_c {w:World} {v:Value} {X:Wd} (h:WorldAt w v X) {n:Nat} (hn1:n < X.nodes.length) (ht:TabN X n):Calls Tryz.prog 81 #[v, .int .i64 n] w (GivesB (.int .i64 (boundX X n)) w):=by
 obtain ⟨gv,nv,wv,rfl,hg,hn,hw⟩:=h
 exact callsIn_wide.1 (At_in hg hn hn1 ht)
end Go.Proofs.YtnalakhelicjcaaGreatDoor
set_option maxRecDepth 100000
namespace Go.Proofs.YtnalakhelicjcaaGreatDoor
open Go.RowKit Go.Shelf Go.BigFrame
def overB (far:Int) (m:M):Bool:=decide (m.stamp > far)
def cntX (X:Wd) (n:Nat):Nat:=(X.nodes.getD n N.zero).held.findIdx (overB (boundX X n))
theorem idx_cases (p:M → Bool) (xs:List M):(idxM p xs < 0 ∧ xs.findIdx p = xs.length) ∨ (0 ≤ idxM p xs ∧ idxM p xs = (xs.findIdx p:Nat)):=by
 unfold idxM
 rw [List.findIdx?_eq_guard_findIdx_lt]
 by_cases h:xs.findIdx p < xs.length
 ·exact .inr (by simp [Option.guard,h])
 ·have:=List.findIdx_le_length (p:=p) (xs:=xs)
  exact .inl ⟨by simp [Option.guard,h],by omega⟩
theorem overM_c {w:World} {B:Nat} {far:Int} (m:M) (hB:w.cell? ⟨B,0,none⟩ = some (.int .i64 far)):Calls Tryz.prog 174 #[m.val, .pointer (some ⟨B,0,none⟩)] w (GivesB (.bool (overB far m)) w):=by
 unfold M.val
 have hM:=MsgBox.new w m 96
 have hA:=below_a1 w (.cells #[.int .i64 m.src, .int .i64 m.grp, .int .i64 m.stamp, .bool m.null, .string m.body] 96)
 have hB':=cell_alloc_l (.cells #[.int .i64 m.src, .int .i64 m.grp, .int .i64 m.stamp, .bool m.null, .string m.body] 96) hB
 go_enter Tryz.func174,Tryz.ntmps174
 go_wp2_with fail
 go_ret
 exact givesB_bool hA rfl
theorem overM_p {w:World} {B:Nat} {far:Int} (hB:w.cell? ⟨B,0,none⟩ = some (.int .i64 far)):PredM Tryz.prog 174 #[.pointer (some ⟨B,0,none⟩)] (overB far) w:=
 ⟨enters_of Tryz.func174 (by kernel_rfl) rfl,fun W m hb=>overM_c m ((hb.cell (p:=⟨B,0,none⟩) (cell_lt hB)).trans hB)⟩
theorem Count_c {w:World} {v:Value} {X:Wd} (h:WorldAt w v X) {n:Nat} (hn1:n < X.nodes.length) (ht:TabN X n):Calls Tryz.prog 160 #[v, .int .i64 n] w (GivesB (.int .i64 (cntX X n:Nat)) w):=by
 obtain ⟨gv,nv,wv,rfl,hg,hn,hw⟩:=h
 obtain ⟨hnl,_⟩:=hn.form
 obtain ⟨hwl,wa,wcap,rfl,hwc⟩:=hw.form
 obtain ⟨hgl,ga,gcap,rfl,_⟩:=hg.open
 obtain ⟨b1,o1,c1,lv,hv,tv,rfl,hc1,k0,k1,k2,k3,hcl,hr,hh,htt⟩:=hn.at hn1
 obtain ⟨hhl,ha,hcap,rfl,_⟩:=hh.open
 have hA:=below_a1 w (.cells #[.slice ga X.groups.length gcap, .slice (some ⟨b1,o1,none⟩) X.nodes.length c1, .slice wa X.wires.length wcap] 35)
 have hB:=WBox.new w (.slice ga X.groups.length gcap) (.slice (some ⟨b1,o1,none⟩) X.nodes.length c1) (.slice wa X.wires.length wcap) 35
 have hC:=At_c (w:=w.alloc (.cells #[.slice ga X.groups.length gcap, .slice (some ⟨b1,o1,none⟩) X.nodes.length c1, .slice wa X.wires.length wcap] 35)) ⟨_,_,_,rfl,hg.below hA,hn.below hA,hw.below hA⟩ hn1 ht
 have hR:cntX X n = (X.nodes.getD n N.zero).held.findIdx (overB (boundX X n)):=rfl
 have hcs:=idx_cases (overB (boundX X n)) (X.nodes.getD n N.zero).held
 rw [← hR] at hcs
 clear hR
 generalize cntX X n = r at *
 generalize boundX X n = far at *
 obtain ⟨x,HX⟩:∃ x,X.nodes.getD n N.zero = x:=⟨_,rfl⟩
 simp only [HX] at *
 clear HX
 go_enter Tryz.func160,Tryz.ntmps160
 go_wp2_with fail
 refine hC.mono ?_
 rintro e w1 ⟨rfl,hb⟩
 have hw1:=below_trans hA hb
 have hw2:=below_trans hw1 (below_a1 w1 (.cells #[.int .i64 far] 3))
 obtain ⟨x0,x1,x2⟩:=hB.below (below_trans hb (below_a1 w1 (.cells #[.int .i64 far] 3))) (by rw [World.size_alloc];omega)
 have k2':=(hw2.cell (p:=⟨b1,o1 + n * 4 + 2,none⟩) (cell_lt k2)).trans k2
 have hD:=IndexFuncM_c (hh.below hw2) 174 #[.pointer (some ⟨w1.heap.size,0,none⟩)] (overB far) (overM_p (cell_new_l w1 (.int .i64 far) 3).1)
 generalize idxM (overB far) x.held = q at *
 rcases hcs with ⟨hq,hv⟩ | ⟨hq,hv⟩
 ·replace hv:=Lib.hid hv
  go_wp2_with fail
  refine hD.mono ?_
  rintro e w3 ⟨rfl,hb3⟩
  have k3':=(hb3.cell (p:=⟨b1,o1 + n * 4 + 2,none⟩) (cell_lt k2')).trans k2'
  have x3:=(hb3.cell (p:=⟨w.heap.size,1,none⟩) (cell_lt x1)).trans x1
  go_wp2_with fail
  go_ret
  exact givesB_int (below_trans hw2 hb3) (by rw [hv.out])
 ·replace hv:=Lib.hid hv
  have hq':¬ q < 0:=by omega
  clear hq
  go_wp2_with fail
  refine hD.mono ?_
  rintro e w3 ⟨rfl,hb3⟩
  go_wp2_with fail
  go_ret
  exact givesB_int (below_trans hw2 hb3) hv.out
end Go.Proofs.YtnalakhelicjcaaGreatDoor
set_option maxRecDepth 100000
namespace Go.Proofs.YtnalakhelicjcaaGreatDoor
open Go.RowKit Go.Shelf Go.BigFrame
theorem rises_le:∀ {m:M} {ms:List M},risesB (m :: ms) = true → ∀ y ∈ ms,m.stamp ≤ y.stamp
 | _,[],_=>by simp
 | m,a :: l,h=>by
  simp only [risesB,Bool.and_eq_true] at h
  have h1:m.stamp ≤ a.stamp:=by
   have:=h.1
   simp only [lessM,Bool.or_eq_true,Bool.and_eq_true,decide_eq_true_eq] at this
   omega
  intro y hy
  rcases List.mem_cons.1 hy with rfl | hy
  ·exact h1
  ·have:=rises_le h.2 y hy
   omega
theorem rises_tail {m:M} {ms:List M} (h:risesB (m :: ms) = true):risesB ms = true:=by
 cases ms with
 | nil=>rfl
 | cons a l =>
  simp only [risesB,Bool.and_eq_true] at h
  exact h.2
theorem readyL_take {far:Int}:∀ {ms:List M},risesB ms = true → readyL ms far = ms.take (ms.findIdx (overB far))
 | [],_=>rfl
 | m :: l,h=>by
  have ih:=readyL_take (far:=far) (rises_tail h)
  unfold readyL at ih ⊢
  by_cases hm:m.stamp ≤ far
  ·have h1:overB far m = false:=by simp [overB];omega
   rw [List.filter_cons_of_pos (by simpa using hm),ih,List.findIdx_cons,h1]
   rfl
  ·have h1:overB far m = true:=by simp [overB];omega
   rw [List.findIdx_cons,h1,List.filter_eq_nil_iff.2]
   ·rfl
   ·intro y hy
    rcases List.mem_cons.1 hy with rfl | hy
    ·simpa using hm
    ·have:=rises_le h y hy
     simp
     omega
theorem errX_rises {X:Wd} (h:errX X = 0) {k:Nat} (hk:k < X.nodes.length):risesB (X.nodes.getD k N.zero).held = true:=by
 have hg:gErr X.nodes.length X.groups = 0:=by
  rcases Classical.em (gErr X.nodes.length X.groups = 0) with e | e
  ·exact e
  ·rw [errX_g e] at h;exact absurd h e
 have hm:manyX X = false:=by
  cases hm:manyX X
  ·rfl
  ·rw [errX_2 hg hm] at h;cases h
 have hf:fineX X = true:=by
  cases hf:fineX X
  ·rw [errX_1 hg hm hf] at h;cases h
  ·rfl
 simp only [fineX,Bool.and_eq_true,decide_eq_true_eq,range_all_iff] at hf
 have:=hf.1.2 k hk
 simp only [fineR,nodeFineB,nodeOkB,Bool.and_eq_true] at this
 exact this.2.2.1.1.1.1.1
theorem Msgs.take {w:World} {a:Option Addr} {n cap:Nat} {ms:List M} (h:Msgs w (.slice a n cap) ms) {k:Nat} (hk:k ≤ ms.length):Row w (.slice a k cap) k 5 ((ms.take k).flatMap M.cells):=by
 obtain ⟨_,h1,h2,a',cap',h3,h4,h5⟩:=h
 cases h3
 rw [flat_len] at h2
 refine ⟨by rw [flat_len,List.length_take];omega,by rw [flat_len,List.length_take];omega,a,cap,rfl,by omega,fun hn=>?_⟩
 obtain ⟨b,off,ha,hc⟩:=h5 (by omega)
 refine ⟨b,off,ha,fun j hj=>?_⟩
 rw [← flat_take] at hj ⊢
 rw [List.length_take] at hj
 rw [hc j (by omega),List.getD_eq_getElem?_getD,List.getD_eq_getElem?_getD,List.getElem?_take,if_pos (by omega)]
theorem Msgs.takes {w:World} {a:Option Addr} {n cap:Nat} {ms:List M} (h:Msgs w (.slice a n cap) ms) {k:Nat} (hk:k ≤ ms.length):Msgs w (.slice a k cap) (ms.take k):=by
 refine ⟨fun m hm=>h.1 m (List.mem_of_mem_take hm), ?_⟩
 have:=h.take hk
 rwa [List.length_take,Nat.min_eq_left hk]
end Go.Proofs.YtnalakhelicjcaaGreatDoor
