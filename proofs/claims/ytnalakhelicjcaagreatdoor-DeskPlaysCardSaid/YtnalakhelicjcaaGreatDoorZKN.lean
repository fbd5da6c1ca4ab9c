/-
  slices.Grow of nothing, slices.Concat of lists of messages: a new row of all of them.
  The program: a node of a world of one's own is told what is ready.
  A slice of the call's own, of which the first k elements are own already, and the others still another's.
  A region that draws its order among calls that make memory of their own: whichever comes first, what comes of each is told once; loads taken where some operations have come up already. Nothing of a program.
  The program: a world of its own.
-/
import Derived.Test.YtnalakhelicjcaaGreatDoorZKW
import Derived.Test.YtnalakhelicjcaaGreatDoorZKO
import Derived.Test.YtnalakhelicjcaaGreatDoorZKA
import Derived.Lib.AppendZerosOnto
import Derived.Test.YtnalakhelicjcaaGreatDoorZKT
import Derived.Test.YtnalakhelicjcaaGreatDoorZKB
import Derived.Test.YtnalakhelicjcaaGreatDoorZGC
set_option maxRecDepth 100000
namespace Go.Proofs.YtnalakhelicjcaaGreatDoor
open Go.RowKit Go.Shelf Go.BigFrame
theorem Grow_c (w:World) (k:Nat) (hk:k ≤ 100000) :
  Calls Tryz.prog 175 #[.slice none 0 0, .int .i64 k] w fun e w'=>∃ v',e = .returned v' ∧ w'.ownsRow w.heap.size 96 5 v' 0 [] ∧ Below w.heap.size w w':=by
 obtain ⟨i0,hi0,hz0,hz1,hz2⟩:=info_parts infoCMsg
 rcases Nat.eq_zero_or_pos k with h0 | h0
 ·subst h0
  go_enter Tryz.func175,Tryz.ntmps175
  go_wp2_with fail
  go_ret
  exact ⟨_,rfl,World.ownsRow_nil _ _ _ _,Below.refl _ _⟩
 ·obtain ⟨G,hG⟩:∃ G,G = grownCap w k 0 96:=⟨_,rfl⟩
  have hGn:k ≤ G:=by rw [hG];exact grownCap_ge w _ _ _
  have hG63:G ≤ maxLen:=by rw [hG];exact grownCap_le_maxLen w k 0 96 (by unfold maxLen;omega)
  obtain ⟨Z,hZ⟩:∃ Z:Value,i0.zero = some Z ∧ Z.cells.size = 5:=⟨_,hz0,rfl⟩
  obtain ⟨ROW,hROW⟩:∃ ROW:Array Value,ROW = ([]:List Value).toArray ++ Builtin.zeroCells Z.cells k ++ Builtin.zeroCells Z.cells (G - k):=⟨_,rfl⟩
  have hrz:∀ ty,(Builtin.append_ #[63,3] ty #[.slice none 0 0, .int .i64 (k:Int)]).run Tryz.prog w =
    .ok (.slice (some ⟨w.heap.size,0,none⟩) k G) (w.drew.alloc (.cells ROW 96)):=fun ty=>by
   have h:=Lib.run_append_grow_zeros w 63 3 ty 96 i0 Z .i64 .i64 Tryz.underlying63 Tryz.underlying3 hi0 hZ.1 none 0 0 [] (by simp [Builtin.firstCells]) k (by omega) (by omega) (by omega) (by omega) (by rw [hz2];omega) (by rw [hz2,Nat.zero_add];exact growslice_fits (by omega) (by omega))
   rw [Nat.zero_add] at h
   rw [hROW,hG]
   exact h
  have hRl:ROW.size = G * 5:=by
   rw [hROW]
   simp [Builtin.zeroCells,hZ.2]
   omega
  clear hROW hG
  have hG64:G ≤ 9223372036854775807:=by unfold maxLen at hG63;omega
  have hk0:(0:Int) < (k:Int):=by omega
  have hown:=World.ownsRow_made (base:=w.heap.size) (e:=96) (size:=5) w.drew ROW G (Nat.le_refl _) hG63 hRl
  have hb:Below w.heap.size w (w.drew.alloc (.cells ROW 96)):=below_trans (below_drewN w 1) (below_a1 w.drew _)
  replace hown:=Lib.hid hown
  clear hG63
  go_enter Tryz.func175,Tryz.ntmps175
  go_wp2_with (at_builtin;refine Lib.wpList_append_run _ rfl _ _ _ _ rfl _ _ rfl rfl _ _ (hrz _) ?_)
  go_ret
  exact ⟨_,rfl,hown.out,hb⟩
def catL (l:List (List M)) (k:Nat):List M:=(l.take k).flatten
def catN (l:List (List M)) (k:Nat):Nat:=(catL l k).length
theorem catL_succ (l:List (List M)) {k:Nat} (hk:k < l.length):catL l (k + 1) = catL l k ++ l.getD k []:=by
 unfold catL
 rw [List.take_succ_eq_append_getElem hk,List.flatten_append,getD_lt l [] hk];simp
theorem catN_succ (l:List (List M)) {k:Nat} (hk:k < l.length):catN l (k + 1) = catN l k + (l.getD k []).length:=by
 unfold catN
 rw [catL_succ l hk,List.length_append]
theorem catN_le (l:List (List M)) (k:Nat):catN l k ≤ l.flatten.length:=by
 unfold catN catL
 conv=>rhs;rw [← List.take_append_drop k l,List.flatten_append,List.length_append]
 omega
theorem catL_all (l:List (List M)):catL l l.length = l.flatten:=by
 unfold catL
 rw [List.take_length]
theorem Msgs.fitsL {w:World} {v:Value} {l:List (List M)} (h:MsgRows w v l):∀ m ∈ l.flatten,m.fits:=by
 intro m hm
 obtain ⟨r,hr,hm⟩:=List.mem_flatten.1 hm
 obtain ⟨i,hi,rfl⟩:=List.mem_iff_getElem.1 hr
 obtain ⟨_,_,_,u,_,_,_,hu⟩:=h.at hi
 rw [getD_lt l [] hi] at hu
 exact hu.1 m hm
set_option maxHeartbeats 1000000 in
theorem Concat_c {w:World} {v:Value} {l:List (List M)} (h:MsgRows w v l) (hl:l.flatten.length ≤ 100000) :
  Calls Tryz.prog 161 #[v] w fun e w'=>∃ v',e = .returned v' ∧ MsgsOwn w' w.heap.size v' l.flatten ∧ Below w.heap.size w w':=by
 obtain ⟨i0,hi0,hz0,hz1,hz2⟩:=info_parts infoCMsg
 have hfit:=Lib.hid (Msgs.fitsL h)
 obtain ⟨hll,a,cap,rfl,hcap⟩:=h.form
 have hS:=Lib.hid (fun k (hk:k < l.length)=>catL_succ l hk)
 have hN:=Lib.hid (fun k (hk:k < l.length)=>catN_succ l hk)
 have hLe:=Lib.hid (fun k=>Nat.le_trans (catN_le l k) hl)
 have hGr:=Grow_c w (catN l l.length) (Nat.le_trans (catN_le l _) hl)
 have hend:=Lib.hid (catL_all l)
 have hd:catN l l.length = l.flatten.length:=by unfold catN;rw [catL_all]
 replace hd:=Lib.hid hd
 generalize l.flatten = all at *
 clear hl
 go_enter Tryz.func161,Tryz.ntmps161
 go_wp2_with fail
 go_loop [3,11] (fun n i=>∃ k:Nat,k ≤ l.length ∧ i = .int .i64 k ∧ n = .int .i64 (catN l k:Nat)) (fun _ i=>l.length - (intOf i).toNat)
 case atStart=>exact ⟨0,by omega,rfl,rfl⟩
 case round =>
  obtain ⟨k,hk,rfl,rfl⟩:=hrel
  have hle:=hLe.out k
  by_cases hlt:k < l.length
  ·obtain ⟨b1,o1,c1,u,e1,_,r1,hu⟩:=h.at hlt
   cases e1
   have hs:=hN.out k hlt
   obtain ⟨row,HR⟩:∃ row,l.getD k [] = row:=⟨_,rfl⟩
   rw [HR] at hu hs
   clear HR
   obtain ⟨hul,ua,ucap,rfl,_⟩:=hu.open
   have hle2:=hLe.out (k + 1)
   rw [hs] at hle2
   replace hs:=Lib.hid hs
   generalize catN l k = n at *
   go_wp2_with fail
   go_round
   case rel=>exact ⟨k + 1,by omega,by go_num,by rw [hs.out];go_num⟩
   case measure=>simp [intOf];omega
  ·obtain rfl:k = l.length:=by omega
   go_wp2_with fail
   refine hGr.mono ?_
   rintro e w1 ⟨v1,rfl,ho1,hb1⟩
   obtain ⟨a1,c1,rfl⟩:=own_form ho1
   clear hGr
   go_wp2_with fail
   go_loopw [6,27] (fun s i wr=>∃ k:Nat,k ≤ l.length ∧ i = .int .i64 k ∧ wr.ownsRow w.heap.size 96 5 s (catN l k) ((catL l k).flatMap M.cells) ∧ Below w.heap.size w wr) (fun _ i _=>l.length - (intOf i).toNat)
   case atStart=>exact ⟨0,by omega,rfl,ho1,hb1⟩
   case round =>
    obtain ⟨k,hk,rfl,ho,hb⟩:=hrel
    obtain ⟨a2,c2,rfl⟩:=own_form ho
    by_cases hlt:k < l.length
    ·obtain ⟨b1,o1,c1,u,e1,_,r1,hu⟩:=h.at hlt
     cases e1
     have hs:=hS.out k hlt
     have hn:=hN.out k hlt
     have hle2:=hLe.out (k + 1)
     obtain ⟨row,HR⟩:∃ row,l.getD k [] = row:=⟨_,rfl⟩
     rw [HR] at hu hs hn
     clear HR
     rw [hn] at hle2
     obtain ⟨hul,ua,ucap,rfl,_⟩:=hu.open
     have r1:=(hb.cell (p:=⟨b1,o1 + k,none⟩) (cell_lt r1)).trans r1
     replace hs:=Lib.hid hs
     replace hn:=Lib.hid hn
     have hu2:=(hu.below hb).2
     generalize catL l k = q at *
     generalize catN l k = n at *
     have hsz:=hb.size
     go_wp2_with (at_builtin;refine wpList_append_row _ rfl _ _ 63 rfl w.heap.size 96 i0 _ 5 48 Tryz.underlying63 hi0 hz0 hz1 hz2 rfl (by decide) _ _ _ rfl ho _ _ _ rfl hu2 (one_flat _) (by unfold maxLen;omega) (by omega) (by omega) ?_;intro v3 w3 hown3 hgrow3 hat3;obtain ⟨a3,c3,rfl⟩:=own_form hown3)
     go_roundw
     case rel=>exact ⟨k + 1,by omega,by go_num,by rw [hs.out,hn.out,List.flatMap_append];exact hown3,hb.trans (below_row hgrow3 (fun j hj=>(ho.lt j hj).1) hsz)⟩
     case measure=>simp [intOf];omega
    ·obtain rfl:k = l.length:=by omega
     go_wp2_with fail
     go_ret
     refine ⟨_,rfl,⟨hfit.out, ?_⟩,hb⟩
     rw [← hd.out, ← hend.out]
     exact ho
end Go.Proofs.YtnalakhelicjcaaGreatDoor
set_option maxRecDepth 100000
namespace Go.Proofs.YtnalakhelicjcaaGreatDoor
open Go.RowKit Go.Shelf Go.BigFrame
theorem OWd.two_at {o:Bool} {w:World} {S:Nat → Prop} {gv nv wv:Value} {X:Wd} (hW:OWd o w S gv nv wv X) (hSl:∀ c,S c → c < w.heap.size) {n:Nat} (hn1:n < X.nodes.length) :
  ∃ (g cap:Nat) (lv hv tv:Value),nv = .slice (some ⟨g,0,none⟩) X.nodes.length cap ∧ X.nodes.length ≤ cap ∧ S g ∧ g < w.heap.size ∧ BlkIs w g 65 (cap * 4) ∧
   w.cell? ⟨g,n * 4,none⟩ = some (.int .i64 (X.nodes.getD n N.zero).clock) ∧ w.cell? ⟨g,n * 4 + 1,none⟩ = some lv ∧ w.cell? ⟨g,n * 4 + 2,none⟩ = some hv ∧ w.cell? ⟨g,n * 4 + 3,none⟩ = some tv ∧
   Msgs w hv (X.nodes.getD n N.zero).held ∧ Msgs w tv (X.nodes.getD n N.zero).told ∧
   ∀ w7 v4 v7 tl hl,Below w.heap.size w w7 → MsgsOwn w7 w.heap.size v4 tl → MsgsOwn w7 w.heap.size v7 hl → (∀ k,v4.ownBlock = some k → v7.ownBlock ≠ some k) → tl.length ≤ 100000 → hl.length ≤ 100000 →
    Within S w ((w7.setCell ⟨g,n * 4 + 3,none⟩ v4).setCell ⟨g,n * 4 + 2,none⟩ v7) ∧
    ∃ S',OWd o ((w7.setCell ⟨g,n * 4 + 3,none⟩ v4).setCell ⟨g,n * 4 + 2,none⟩ v7) S' gv nv wv { X with nodes:=X.nodes.set n { X.nodes.getD n N.zero with told:=tl,held:=hl } } ∧
     ∀ c,S' c → (S c ∨ w.heap.size ≤ c) ∧ c < ((w7.setCell ⟨g,n * 4 + 3,none⟩ v4).setCell ⟨g,n * 4 + 2,none⟩ v7).heap.size:=by
 obtain ⟨g,ncap,lv,hv,tv,Tl,Th,Tt,rfl,hnc,hgS,hgl2,hgb,c0,c1,c2,c3,hI,hLo,hHo,hTo,sl,sh,st,d1,d2,d3,back⟩:=hW.node_at hn1
 refine ⟨g,ncap,lv,hv,tv,rfl,hnc,hgS,hgl2,hgb,c0,c1,c2,c3,hHo.msgs,hTo.msgs,fun w7 v4 v7 tl hl hb h4 h7 hne hl4 hl7=>?_⟩
 have hs7:=hb.size
 generalize hwF:(w7.setCell ⟨g,n * 4 + 3,none⟩ v4).setCell ⟨g,n * 4 + 2,none⟩ v7 = wF
 have lF:∀ c,c ≠ g → wF.heap[c]? = w7.heap[c]?:=fun c hc=>by rw [← hwF];exact (Go.Deep.blk_setCell_other _ _ _ _ hc).trans (Go.Deep.blk_setCell_other _ _ _ _ hc)
 have oF:∀ c,c < w.heap.size → c ≠ g → wF.heap[c]? = w.heap[c]?:=fun c hc hg=>(lF c hg).trans (hb.block c hc)
 have hsF:wF.heap.size = w7.heap.size:=by rw [← hwF,Go.Deep.nblk_setCell,Go.Deep.nblk_setCell]
 have hwFi:Within S w wF:=by
  rw [← hwF]
  exact ((Within.of_below hb).setCell (a:=⟨g,n * 4 + 3,none⟩) hgS _).setCell (a:=⟨g,n * 4 + 2,none⟩) hgS _
 have hB:BlkSet w wF g (n * 4) [.int .i64 (X.nodes.getD n N.zero).clock,lv,v7,v4]:=by
  rw [← hwF]
  exact ((BlkSet.same (w':=w7) (cs:=[.int .i64 (X.nodes.getD n N.zero).clock,lv,hv,tv]) (hb.block g hgl2) (fun j hj=>by
    match j,hj with
    | 0,_=>exact c0
    | 1,_=>exact c1
    | 2,_=>exact c2
    | 3,_=>exact c3)).set hgb 3 (by simp) (by simp;omega) v4).set hgb 2 (by simp) (by simp;omega) v7
 have k4:=fun k (hk:v4.ownBlock = some k)=>h4.lt k hk
 have k7:=fun k (hk:v7.ownBlock = some k)=>h7.lt k hk
 have o4:OMsgs true wF (fun c=>v4.ownBlock = some c) v4 tl:=(MsgsOwn.own h4 (by omega)).keep (fun c hc=>lF c (by have:=k4 c hc;omega))
 have o7:OMsgs true wF (fun c=>v7.ownBlock = some c) v7 hl:=(MsgsOwn.own h7 (by omega)).keep (fun c hc=>lF c (by have:=k7 c hc;omega))
 have hX:ONodeEl wF (fun c=>Tl c ∨ v7.ownBlock = some c ∨ v4.ownBlock = some c) [.int .i64 (X.nodes.getD n N.zero).clock,lv,v7,v4] { X.nodes.getD n N.zero with told:=tl,held:=hl }:=by
  refine ⟨lv,_,_,Tl,_,_,rfl,hI,hLo.keep (fun c hc=>oF c (hSl c (sl c hc).1) (sl c hc).2),o7,o4,fun _ h=>Or.inl h,fun _ h=>Or.inr (Or.inl h),fun _ h=>Or.inr (Or.inr h),fun c h1 h2=>?_,fun c h1 h2=>?_,fun c h1 h2=>hne c h2 h1⟩
  ·have:=k7 c h2;have:=hSl c (sl c h1).1;omega
  ·have:=k4 c h2;have:=hSl c (sl c h1).1;omega
 have:=back _ _ _ _ (fun c hc=>oF c (hSl c hc.1) hc.2.1) hB rfl hX (fun c hc=>by
  rcases hc with h | h | h
  ·exact Or.inl h
  ·exact Or.inr (Or.inr (Or.inr (fun hs=>by have:=k7 c h;have:=hSl c hs;omega)))
  ·exact Or.inr (Or.inr (Or.inr (fun hs=>by have:=k4 c h;have:=hSl c hs;omega))))
 refine ⟨hwFi,_,this,fun c hc=>?_⟩
 rw [hsF]
 rcases hc with h | h | h | h
 ·exact ⟨Or.inl h,by have:=hSl c h;omega⟩
 ·exact ⟨Or.inl (sl c h).1,by have:=hSl c (sl c h).1;omega⟩
 ·exact ⟨Or.inr (k7 c h).1,(k7 c h).2⟩
 ·exact ⟨Or.inr (k4 c h).1,(k4 c h).2⟩
theorem readyX_len {X:Wd} {n:Nat} (h:risesB (X.nodes.getD n N.zero).held = true):readyX X n = (X.nodes.getD n N.zero).held.take (cntX X n) ∧ (readyX X n).length = cntX X n:=by
 have h1:readyX X n = (X.nodes.getD n N.zero).held.take (cntX X n):=readyL_take h
 refine ⟨h1, ?_⟩
 have:cntX X n ≤ (X.nodes.getD n N.zero).held.length:=List.findIdx_le_length
 rw [h1,List.length_take];omega
theorem MsgRows.two {w':World} {a b:Value} {x y:List M} (h1:Msgs w' a x) (h2:Msgs w' b y) {B:Nat} (k0:w'.cell? ⟨B,0,none⟩ = some a) (k1:w'.cell? ⟨B,1,none⟩ = some b):MsgRows w' (.slice (some ⟨B,0,none⟩) 2 2) [x,y]:=by
 refine ⟨[[a],[b]],rfl,by simp,⟨rfl,by simp,_,_,rfl,by simp,fun _=>⟨B,0,rfl,fun k hk=>?_⟩⟩,fun i h1' h2'=>?_⟩
 ·match k,hk with
  | 0,_=>exact k0
  | 1,_=>exact k1
 ·match i,h1' with
  | 0,_=>exact ⟨a,rfl,h1⟩
  | 1,_=>exact ⟨b,rfl,h2⟩
theorem Msgs.drops {w:World} {a:Option Addr} {n cap:Nat} {ms:List M} (h:Msgs w (.slice a n cap) ms) {k:Nat} (hk:k ≤ ms.length) :
  Msgs w (.slice (if cap = k then a else Option.map (fun x=>x.add (k * 5)) a) (n - k) (cap - k)) (ms.drop k):=by
 refine ⟨fun m hm=>h.1 m (List.mem_of_mem_drop hm), ?_⟩
 obtain ⟨h1,h2,a',cap',e,h3,h4⟩:=h.2
 cases e
 rw [List.length_drop]
 rcases Nat.lt_or_ge k ms.length with hlt | hge
 ·have hck:¬ cap = k:=by omega
  obtain ⟨b,off,e2,hc⟩:=h4 (by omega)
  subst e2
  rw [if_neg hck]
  have:=row_slice h rfl hlt
  have e:(⟨b,off,none⟩:Addr).add (k * 5) = ⟨b,off + k * 5,none⟩:=by
   unfold Addr.add
   split
   ·rename_i h0;rw [h0];rfl
   ·rfl
  simp only [Option.map_some,e]
  exact this
 ·obtain rfl:k = ms.length:=by omega
  rw [Nat.sub_self,List.drop_length]
  exact row_none _ _ _
set_option maxHeartbeats 4000000 in
theorem To_c {o:Bool} {w:World} {S:Nat → Prop} {b:Nat} {gv nv wv:Value} {X:Wd} (hbox:OBox w b 35 gv nv wv) (hW:OWd o w S gv nv wv X) (hSl:∀ c,S c → c < w.heap.size) {n:Nat} (hn1:n < X.nodes.length) (ht:TabN X n)
  (hri:risesB (X.nodes.getD n N.zero).held = true) (hs:(X.nodes.getD n N.zero).held.length ≤ 1000 ∧ (X.nodes.getD n N.zero).told.length ≤ 1000) :
  Calls Tryz.prog 149 #[.pointer (some ⟨b,0,none⟩), .int .i64 n] w
   (ActPost o w S gv nv wv X (.tuple #[.int .i64 (if tellE X n = 0 then (readyX X n).length else 0), .int .i64 (tellE X n)]) (tellW X n) (tellE X n = 0)):=by
 obtain ⟨hrd,hrl⟩:=readyX_len hri
 have hlr:cntX X n ≤ (X.nodes.getD n N.zero).held.length:=List.findIdx_le_length
 have hC:=Count_c hW.world hn1 ht
 obtain ⟨pg,pn,pw⟩:=hW.parts
 obtain ⟨hgl,ga,gcap,rfl,_⟩:=pg.open
 obtain ⟨_,wa,wcap,rfl,_⟩:=pw.form
 obtain ⟨g,ncap,lv,hv,tv,rfl,hnc,hgS,hgl2,hgb,c0,c1,c2,c3,hhM,htM,back⟩:=hW.two_at hSl hn1
 obtain ⟨hhl,ha,hcap,rfl,hhc,_⟩:=hhM.open
 obtain ⟨htl,ta,tcap,rfl,htc,_⟩:=htM.open
 obtain ⟨hbk,q0,q1,q2⟩:=hbox
 have hqb:=cell_lt q0
 dsimp only at hqb
 have hL0:tellL X n = (X.nodes.getD n N.zero).told ++ readyX X n:=rfl
 have hW0:tellW X n = { X with nodes:=X.nodes.set n { X.nodes.getD n N.zero with told:=tellL X n,held:=(X.nodes.getD n N.zero).held.drop (readyX X n).length } }:=rfl
 have hE0:tellE X n = if 40 < (tellL X n).length then 2 else if risesB (tellL X n) = true then 0 else 1:=rfl
 rw [hrl] at hW0
 rw [hrl]
 rw [hrd] at hL0
 clear hrd hrl hri
 generalize tellW X n = X' at *
 generalize tellE X n = e0 at *
 generalize tellL X n = tl at *
 generalize cntX X n = r at *
 obtain ⟨x,HX⟩:∃ x,X.nodes.getD n N.zero = x:=⟨_,rfl⟩
 simp only [HX] at *
 clear HX
 have hrc:r ≤ hcap:=by omega
 have htll:tl.length = x.told.length + r:=by rw [hL0,List.length_append,List.length_take,Nat.min_eq_left hlr]
 have hcat:[x.told,x.held.take r].flatten = tl:=by rw [hL0];simp
 replace hL0:=Lib.hid hL0
 replace hW0:=Lib.hid hW0
 replace back:=Lib.hid back
 have hfz0:=hgb.frozen (n * 4 + 2)
 have hfz1:=hgb.frozen (n * 4 + 3)
 obtain ⟨P,hP⟩:∃ P,ActPost o w S (.slice ga X.groups.length gcap) (.slice (some ⟨g,0,none⟩) X.nodes.length ncap) (.slice wa X.wires.length wcap) X (.tuple #[.int .i64 (if e0 = 0 then (r:Int) else 0), .int .i64 e0]) X' (e0 = 0) = P:=⟨_,rfl⟩
 rw [hP]
 replace hP:=Lib.hid hP
 replace hE0:=Lib.hid hE0
 go_enter Tryz.func149,Tryz.ntmps149
 go_wp2_with fail
 refine hC.mono ?_
 rintro e w1 ⟨rfl,hb1⟩
 have hs1:=hb1.size
 have n2:=(hb1.cell (p:=⟨g,n * 4 + 2,none⟩) hgl2).trans c2
 have n3:=(hb1.cell (p:=⟨g,n * 4 + 3,none⟩) hgl2).trans c3
 have hg1:g < w1.heap.size:=by omega
 clear hC
 go_upto_region 3 with fail
 have hSB:∀ W,Below w1.heap.size w1 W → W.cell? ⟨g,n * 4 + 2,none⟩ = some (.slice ha x.held.length hcap) ∧ W.cell? ⟨g,n * 4 + 3,none⟩ = some (.slice ta x.told.length tcap):=
  fun W h=>⟨(h.cell (p:=⟨g,n * 4 + 2,none⟩) hg1).trans n2,(h.cell (p:=⟨g,n * 4 + 3,none⟩) hg1).trans n3⟩
 refine wp_region_N (fun w'=>w'.cell? ⟨g,n * 4 + 2,none⟩ = some (.slice ha x.held.length hcap) ∧ w'.cell? ⟨g,n * 4 + 3,none⟩ = some (.slice ta x.told.length tcap)) 10 13 rfl (by kernel_rfl) (hSB _ (below_drewN w1 1)) (fun hSw=>?_)
 refine tk 0 ?_ rfl rfl (by kernel_rfl) (.inl ⟨by rfl, ?_⟩) hSw ?_
 rotate_left
 ·rintro w ⟨s0,s1⟩;go_simp;try with_reducible rfl
 simp only [tkp,tkz,tks]
 refine tk 1 ?_ rfl rfl (by kernel_rfl) (.inl ⟨by rfl, ?_⟩) hSw ?_
 rotate_left
 ·rintro w ⟨s0,s1⟩;go_simp;try with_reducible rfl
 simp only [tkp,tkz,tks]
 refine tk 2 ?_ rfl rfl (by kernel_rfl) (.inl ⟨by rfl, ?_⟩) hSw ?_
 rotate_left
 ·rintro w ⟨s0,s1⟩;go_simp;try with_reducible rfl
 simp only [tkp,tkz,tks]
 refine tk 3 ?_ rfl rfl (by kernel_rfl) (.inl ⟨by rfl, ?_⟩) hSw ?_
 rotate_left
 ·rintro w ⟨s0,s1⟩;go_simp;try with_reducible rfl
 simp only [tkp,tkz,tks]
 refine tk 4 ?_ rfl rfl (by kernel_rfl) (.inl ⟨by rfl, ?_⟩) hSw ?_
 rotate_left
 ·rintro w ⟨s0,s1⟩;go_simp;try with_reducible rfl
 simp only [tkp,tkz,tks]
 refine tk 5 ?_ rfl rfl (by kernel_rfl) (.inl ⟨by rfl, ?_⟩) hSw ?_
 rotate_left
 ·rintro w ⟨s0,s1⟩;go_simp;try with_reducible rfl
 simp only [tkp,tkz,tks]
 refine tk 6 ?_ rfl rfl (by kernel_rfl) (.inl ⟨by rfl, ?_⟩) hSw ?_
 rotate_left
 ·rintro w ⟨s0,s1⟩;go_simp;try with_reducible rfl
 simp only [tkp,tkz,tks]
 refine tk 7 ?_ rfl rfl (by kernel_rfl) (.inl ⟨by rfl, ?_⟩) hSw ?_
 rotate_left
 ·rintro w ⟨s0,s1⟩;go_simp;try with_reducible rfl
 simp only [tkp,tkz,tks]
 refine tk 8 ?_ rfl rfl (by kernel_rfl) (.inl ⟨by rfl, ?_⟩) hSw ?_
 rotate_left
 ·rintro w ⟨s0,s1⟩;go_simp;try with_reducible rfl
 simp only [tkp,tkz,tks]
 refine tk 9 ?_ rfl rfl (by kernel_rfl) (.inl ⟨by rfl, ?_⟩) hSw ?_
 rotate_left
 ·rintro w ⟨s0,s1⟩;go_simp;try with_reducible rfl
 simp only [tkp,tkz,tks]
 refine N_one' (i:=10) (by kernel_rfl) rfl ?_
 go_wp2_with fail
 refine QK_normal ⟨?_, ?_⟩
 ·intro h;omega
 refine N_one' (i:=11) (by kernel_rfl) rfl ?_
 have bL:=below_trans (below_a1 w1 (.cells #[.slice ta x.told.length tcap, .slice ha r hcap] 63)) (below_drewN _ 1)
 obtain ⟨l0,l1⟩:(w1.alloc (.cells #[.slice ta x.told.length tcap, .slice ha r hcap] 63)).drew.cell? ⟨w1.heap.size,0,none⟩ = some (.slice ta x.told.length tcap) ∧ (w1.alloc (.cells #[.slice ta x.told.length tcap, .slice ha r hcap] 63)).drew.cell? ⟨w1.heap.size,1,none⟩ = some (.slice ha r hcap):=by
  constructor <;> simp
 have hwL:=below_trans hb1 bL
 have hrows:=MsgRows.two (htM.below hwL) ((hhM.below hwL).takes hlr) l0 l1
 have hCC:=Concat_c hrows (by rw [hcat];omega)
 rw [hcat] at hCC
 go_wp2_with fail
 refine hCC.mono ?_
 rintro e w2 ⟨v2,rfl,ho2,hb2⟩
 have b2:=below_trans hwL hb2
 obtain ⟨a2,cap2,rfl⟩:=own_form ho2.2
 rw [htll]
 clear hrows hCC l0 l1 bL hSB hSw n2 n3
 go_wp2_with fail
 refine QK_normal ⟨fun h=>absurd h (by omega), ?_⟩
 refine N_rest 12 1 (by omega) rfl (by kernel_rfl) ?_
 simp only [List.drop_succ_cons,List.drop_zero]
 have hs2:=hb2.size
 have hg2:g < w2.heap.size:=by have:=b2.size;omega
 have hM2:=ho2.msgs (by omega)
 rw [htll] at hM2
 by_cases h40:40 < tl.length
 ·have he:e0 = 2:=by rw [hE0.out,if_pos h40]
  have h41:decide ((40:Int) < (x.told.length:Int) + (r:Int)) = true:=decide_eq_true (by omega)
  subst he
  clear hE0
  go_wp2_with fail
  rw [← hP.out]
  exact ⟨rfl,Within.of_below b2,fun h=>absurd h (by decide),fun _=>hW.keep (fun c hc=>b2.block c (hSl c hc))⟩
 have h41:decide ((40:Int) < (x.told.length:Int) + (r:Int)) = false:=decide_eq_false (by omega)
 have hRi:=Rises_c hM2
 cases hr:risesB tl
 ·have he:e0 = 1:=by rw [hE0.out,if_neg h40,if_neg (by rw [hr];simp)]
  subst he
  rw [hr] at hRi
  clear hE0 h40
  go_wp2_with fail
  refine hRi.mono ?_
  rintro e w3 ⟨rfl,hb3⟩
  have b3:=below_trans b2 hb3
  go_wp2_with fail
  rw [← hP.out]
  exact ⟨rfl,Within.of_below b3,fun h=>absurd h (by decide),fun _=>hW.keep (fun c hc=>b3.block c (hSl c hc))⟩
 have he:e0 = 0:=by rw [hE0.out,if_neg h40,if_pos hr]
 subst he
 rw [hr] at hRi
 clear hE0 h40
 go_wp2_with fail
 refine hRi.mono ?_
 rintro e w3 ⟨rfl,hb3⟩
 have b3:=below_trans b2 hb3
 clear hRi
 go_upto_region 8 with fail
 have n2:=(b3.cell (p:=⟨g,n * 4 + 2,none⟩) hgl2).trans c2
 have hg3:g < w3.heap.size:=by have:=b3.size;omega
 have hDr:=(hhM.below b3).drops hlr
 obtain ⟨dA,hdA⟩:∃ dA,(if hcap = r then ha else Option.map (fun x=>x.add (r * 5)) ha) = dA:=⟨_,rfl⟩
 rw [hdA] at hDr
 have hs3:=b3.size
 have hs23:=hb3.size
 have hDl:(x.held.drop r).length = x.held.length - r:=List.length_drop
 have hRow:=hDr.2
 rw [hDl] at hRow
 replace hDl:=Lib.hid hDl
 go_wp2_with (go_at_call 145;refine (CloneMsg_c hRow (one_flat _) (by omega)).mono ?_;rintro e w4 ⟨v4,rfl,ho4,hb4⟩;obtain ⟨a4,c4,rfl⟩:=own_form ho4
              have b4:=below_trans b3 hb4
              have hgb4:=hgb.same (b4.block g hgl2)
              have hf2:=hgb4.frozen (n * 4 + 2)
              have hf3:=hgb4.frozen (n * 4 + 3)
              have m2:=(b4.cell (p:=⟨g,n * 4 + 2,none⟩) hgl2).trans c2
              have m3:=(b4.cell (p:=⟨g,n * 4 + 3,none⟩) hgl2).trans c3)
 rw [← hP.out]
 have h4:MsgsOwn w4 w.heap.size (.slice a2 (x.told.length + r) cap2) tl:=⟨ho2.1,by rw [← htll];exact owns_mono (owns_below ho2.2 (below_trans hb3 hb4)) hwL.size⟩
 have h7:MsgsOwn w4 w.heap.size (.slice a4 (x.held.length - r) c4) (x.held.drop r):=⟨hDr.1,by rw [hDl.out];exact owns_mono ho4 hs3⟩
 obtain ⟨f1,f2⟩:=back.out w4 _ _ _ _ b4 h4 h7 (fun k h1 h2=>by have e1:=(ho2.2.lt k (by rw [htll];exact h1)).2;have e2:=(ho4.lt k h2).1;omega) (by omega) (by rw [hDl.out];omega)
 refine ⟨by simp,f1,fun _=>?_,fun h=>absurd trivial h⟩
 rw [hW0.out]
 exact f2
end Go.Proofs.YtnalakhelicjcaaGreatDoor
namespace Go.Proofs.YtnalakhelicjcaaGreatDoor
open Go.RowKit
section
variable {α:Type} {El:World → List Value → α → Prop} {OEl:ElO α} {w0 w:World} {xs:List α} {k:Nat}
def Mix (w0:World) (El:World → List Value → α → Prop) (OEl:ElO α):ElO (Bool × α):=fun w T cs x=>(x.1 = true → OEl w T cs x.2) ∧ (x.1 = false → El w0 cs x.2)
theorem Mix.stays (h:OStays OEl):OStays (Mix w0 El OEl):=fun w w' T cs x hx hl=>⟨fun e=>h w w' T cs x.2 (hx.1 e) hl,hx.2⟩
def mixL (k:Nat) (xs:List α):List (Bool × α):=xs.mapIdx fun i x=>(decide (i < k),x)
theorem mixL_len:(mixL k xs).length = xs.length:=by simp [mixL]
theorem mixL_get {i:Nat} (h:i < (mixL k xs).length):(mixL k xs)[i] = (decide (i < k),xs[i]'(by simpa [mixL] using h)):=by simp [mixL]
theorem mixL_set (h:k < xs.length):(mixL k xs).set k (true,xs[k]) = mixL (k + 1) xs:=by
 apply List.ext_getElem
 ·rw [List.length_set,mixL_len,mixL_len]
 ·intro i h1 h2
  rw [List.getElem_set,mixL_get,mixL_get]
  by_cases e:k = i
  ·subst e;simp
  ·rw [if_neg e]
   have:decide (i < k) = decide (i < k + 1):=by rw [decide_eq_decide];omega
   rw [this]
theorem flat_slice {s:Nat} {css:List (List Value)} (h:∀ cs ∈ css,cs.length = s) {i:Nat} (hi:i < css.length):(css.flatten.drop (i * s)).take s = css[i]:=by
 have hl:css[i].length = s:=h _ (List.getElem_mem _)
 have hfl:=flat_lenL h
 have hm:(i + 1) * s ≤ css.length * s:=Nat.mul_le_mul_right _ hi
 rw [Nat.add_mul] at hm
 apply List.ext_getElem?
 intro j
 rw [List.getElem?_take]
 by_cases hj:j < s
 ·rw [if_pos hj,List.getElem?_drop,flat_getL h i j hi hj]
 ·rw [if_neg hj,List.getElem?_eq_none (by omega)]
theorem Sl.clone {s:Nat} {v:Value} (h:Sl El s w0 v xs) (hone:∀ w cs x,El w cs x → ∀ u ∈ cs,u.oneCell' = true) :
  ∃ cs,Row w0 v xs.length s cs ∧ (∀ u ∈ cs,u.oneCell' = true) ∧ ∀ (w':World) base e v',w'.ownsRow base e s v' xs.length cs → OSl (Mix w0 El OEl) true e s w' (fun b=>v'.ownBlock = some b) v' (mixL 0 xs):=by
 obtain ⟨css,h1,h2,h3,h4⟩:=h
 have hl:xs.length * s * 8 ≤ 140737488351232:=by have:=h3.2.1;rw [flat_lenL h2,h1] at this;exact this
 refine ⟨css.flatten,h3,fun u hu=>?_,fun w' base e v' ho=>?_⟩
 ·obtain ⟨cs,hcs,hu⟩:=List.mem_flatten.1 hu
  obtain ⟨i,hi,rfl⟩:=List.mem_iff_getElem.1 hcs
  exact hone _ _ _ (h4 i hi (by omega)) u hu
 ·have:=OSl.of_owns (El:=Mix w0 El OEl) (base:=base) (e:=e) (s:=s) (w:=w') (v:=v') (xs:=mixL 0 xs) (cl:=css.flatten) (by rw [mixL_len];exact ho) (by rw [mixL_len];exact hl) (fun i hi=>?_)
  ·exact this
  ·rw [mixL_get,flat_slice h2 (by rw [mixL_len] at hi;omega)]
   exact ⟨fun e=>by simp at e,fun _=>h4 i _ _⟩
theorem OSl.unmix {o:Bool} {e:TypeId} {s:Nat} {S:Nat → Prop} {v:Value} (h:OSl (Mix w0 El OEl) o e s w S v (mixL xs.length xs)):OSl OEl o e s w S v xs:=by
 rcases h with ⟨a0,h1,h2,h3⟩ | ⟨g,off,cap,T,h1,h2,h3,h4,h5,h6,h7,h8,h9,h10⟩
 ·refine .inl ⟨a0,h1, ?_,h3⟩
  have:=congrArg List.length h2
  rw [mixL_len] at this
  exact List.eq_nil_of_length_eq_zero this
 ·rw [mixL_len] at h1 h4 h7
  refine .inr ⟨g,off,cap,T,h1,h2,h3,h4,h5,h6,h7,fun i hi=>?_,h9,h10⟩
  obtain ⟨cs,c1,c2,c3⟩:=h8 i (by rw [mixL_len];exact hi)
  rw [mixL_get] at c3
  exact ⟨cs,c1,c2,c3.1 (by simpa using hi)⟩
theorem OSl.mix_at {o:Bool} {e:TypeId} {s:Nat} {S:Nat → Prop} {v:Value} (hE:OStays OEl) (h:OSl (Mix w0 El OEl) o e s w S v (mixL k xs)) (hk:k < xs.length) :
  ∃ (g off cap:Nat) (cs:List Value),v = .slice (some ⟨g,off,none⟩) xs.length cap ∧ S g ∧ BlkIs w g e (off + cap * s) ∧ xs.length ≤ cap ∧ (o = true → off = 0) ∧ cs.length = s ∧
   (∀ j,j < s → w.cell? ⟨g,off + k * s + j,none⟩ = cs[j]?) ∧ El w0 cs xs[k] ∧
   ∀ w' T' cs',Lies (fun b=>S b ∧ b ≠ g) w w' → BlkSet w w' g (off + k * s) cs' → cs'.length = s → OEl w' T' cs' xs[k] → (∀ b,T' b → ¬ S b) →
    OSl (Mix w0 El OEl) o e s w' (fun b=>S b ∨ T' b) v (mixL (k + 1) xs):=by
 obtain ⟨g,off,cap,T,cs,e1,e2,e3,e4,e5,e6,e7,e8,e9,back⟩:=OSl.at (Mix.stays hE) h (i:=k) (by rw [mixL_len];exact hk)
 rw [mixL_len] at e1 e4
 rw [mixL_get] at e8
 refine ⟨g,off,cap,cs,e1,e2,e3,e4,e5,e6,e7,e8.2 (by simp),fun w' T' cs' hL hB hl hX hT=>?_⟩
 have:=back w' T' cs' (true,xs[k]) (hL.mono fun b hb=>⟨hb.1,hb.2.1⟩) hB hl ⟨fun _=>hX,fun e=>by cases e⟩ (fun b hb=>Or.inr (hT b hb))
 rwa [mixL_set hk] at this
end
theorem ints_one {w:World} {v:Value} {l:List Int} (h:Ints w v l):v.oneCell' = true:=by obtain ⟨_,a,cap,rfl,_⟩:=h.open;rfl
theorem msgs_one {w:World} {v:Value} {l:List M} (h:Msgs w v l):v.oneCell' = true:=by obtain ⟨_,a,cap,rfl,_⟩:=h.open;rfl
theorem IntsEl.one:∀ w cs x,IntsEl w cs x → ∀ u ∈ cs,u.oneCell' = true:=by
 rintro w cs x ⟨u,rfl,h⟩ v hv
 obtain rfl:v = u:=by simpa using hv
 exact ints_one h
theorem MsgsEl.one:∀ w cs x,MsgsEl w cs x → ∀ u ∈ cs,u.oneCell' = true:=by
 rintro w cs x ⟨u,rfl,h⟩ v hv
 obtain rfl:v = u:=by simpa using hv
 exact msgs_one h
theorem MsgRowsEl.one:∀ w cs x,MsgRowsEl w cs x → ∀ u ∈ cs,u.oneCell' = true:=by
 rintro w cs x ⟨u,rfl,h⟩ v hv
 obtain rfl:v = u:=by simpa using hv
 obtain ⟨_,a,cap,rfl,_⟩:=h.form
 rfl
theorem NodeEl.one:∀ w cs x,NodeEl w cs x → ∀ u ∈ cs,u.oneCell' = true:=by
 rintro w cs x ⟨lv,hv,tv,rfl,_,h1,h2,h3⟩ u hu
 obtain ⟨_,a,cap,rfl,_⟩:=h1.form
 simp only [List.mem_cons,List.not_mem_nil,or_false] at hu
 rcases hu with rfl | rfl | rfl | rfl
 ·rfl
 ·rfl
 ·exact msgs_one h2
 ·exact msgs_one h3
abbrev XInts (w0:World):ElO (Bool × List Int):=Mix w0 IntsEl OIntsEl
abbrev XMsgs (w0:World):ElO (Bool × List M):=Mix w0 MsgsEl (OMsgsEl true)
abbrev XRows (w0:World):ElO (Bool × List (List M)):=Mix w0 MsgRowsEl (OMsgRowsEl true)
abbrev XNodes (w0:World):ElO (Bool × N):=Mix w0 NodeEl ONodeEl
end Go.Proofs.YtnalakhelicjcaaGreatDoor
namespace Go.Proofs.YtnalakhelicjcaaGreatDoor
open Go.RowKit
section
variable {P:Program} {ops:Array Oper} {Q:Exit → Act → World → Prop} {md:Region.Mode} {S:World → Prop} {n:Nat}
theorem N_of_wpAny {m:Nat}:∀ (fuel:Nat) (listed:Array Bool) (a:Act) (w:World),wpAny P md ops Q fuel listed a w → wpAnyN P md ops Q (fun _=>True) m fuel listed a w
 | 0,_,_,_,h=>h
 | fuel + 1,_,_,_,h=>⟨h.1,fun i hi=>wpOp_mono (fun a' w' h'=>⟨fun _=>trivial,N_of_wpAny fuel _ a' w' h'⟩) (h.2 i hi)⟩
theorem N_shift {m:Nat} {S':World → Prop} (n':Nat) {fuel:Nat} {listed:Array Bool} {a:Act} {w:World} (h:wpAnyN P md ops Q S' n' fuel listed a w):wpAnyN P md ops Q (fun _=>True) m fuel listed a w:=
 N_of_wpAny _ _ _ _ (wpAny_of_N _ _ _ _ h)
def sinkR (md:Region.Mode) (ops:Array Oper) (n:Nat) (L:Array Bool):Bool:=
 (List.range n).all fun i=>L.getD i false || (List.range (n + 1)).any fun j=>decide (i < j) && Region.waitsFor md ops j i
theorem tail_waitsR {L listed:Array Bool} (hs:sinkR md ops n L = true) (hsub:∀ i,L.getD i false = true → listed.getD i false = true) (hc:Region.chainB md ops n = true) (hn:n < ops.size) (inv:HeadInv md ops n listed) :
  ∀ (d i:Nat),n - i = d → i < n → listed.getD i true = false → ∀ t,n ≤ t → t ∉ Region.ready md ops listed:=by
 intro d
 induction d using Nat.strongRecOn with
 | _ d ih =>
  intro i hd hi hun t ht hr
  obtain ⟨_,ot,hot,hall⟩:=mem_ready.1 hr
  have htlt:t < ops.size:=(Array.getElem?_eq_some_iff.1 hot).1
  by_cases htn:t = n
  ·subst htn
   have h1:=List.all_eq_true.1 hs i (List.mem_range.2 hi)
   rcases Bool.or_eq_true_iff.1 h1 with h1 | h1
   ·have:=hsub i h1
    rw [getD_both hun] at this
    cases this
   obtain ⟨j,hj,hj2⟩:=List.any_eq_true.1 h1
   simp only [Bool.and_eq_true,decide_eq_true_eq] at hj2
   obtain ⟨oj,hoj,e,he,hb,hon⟩:=Region.waitsFor_spec hj2.2
   have hjle:j ≤ t:=by have:=List.mem_range.1 hj;omega
   by_cases hjt:j = t
   ·subst hjt
    have:oj = ot:=Option.some.inj (hoj.symm.trans hot)
    subst this
    have h2:=hall e he hb
    rw [hon,getD_both hun] at h2
    cases h2
   ·cases hl:listed.getD j false with
    | true =>
     have h2:=inv.closed j oj hoj hl e he hb
     rw [hon,getD_both hun] at h2
     cases h2
    | false =>
     have hjs:j < listed.size:=by rw [inv.size];omega
     exact ih (t - j) (by omega) j rfl (by omega) (getD_in hjs hl) t (Nat.le_refl _) hr
  ·have h1:=List.all_eq_true.1 hc t (List.mem_range.2 htlt)
   simp only [Bool.or_eq_true,decide_eq_true_eq] at h1
   rcases h1 with h1 | h1
   ·omega
   ·obtain ⟨o',ho',e,he,hb,hon⟩:=Region.waitsFor_spec h1
    have:o' = ot:=Option.some.inj (ho'.symm.trans hot)
    subst this
    have h2:=hall e he hb
    rw [hon,getD_both (inv.tail (t - 1) (by omega) (by omega))] at h2
    cases h2
theorem wpAnyN_firstR {L:Array Bool} {i:Nat} {oi:Oper} {v:Value} (hi:ops[i]? = some oi) (hsel:∀ (j:Nat) (o:Oper) cs b,ops[j]? = some o → o.op ≠ .select cs b)
  (hs:sinkR md ops n L = true) (hc:Region.chainB md ops n = true) (hn:n < ops.size) (hin:i < n)
  (hQ:∀ c a w,Q (.panic c) (a.put oi.dst v) w → Q (.panic c) a w) :
  ∀ (fuel:Nat) (listed:Array Bool) (a:Act) (w:World),HeadInv md ops n listed → (∀ i,L.getD i false = true → listed.getD i false = true) →
   (∀ j oj,ops[j]? = some oj → j ≠ i → listed.getD j true = false → (∀ e ∈ oj.after,Region.binds md e = true → e.on ≠ i) → oi.apart ops oj = true) →
   i ∈ Region.ready md ops listed → YieldsIf P ops S oi v a → S w →
   wpAnyN P md ops Q S n fuel (listed.setIfInBounds i true) (a.put oi.dst v) w → wpAnyN P md ops Q S n (fuel + 1) listed a w:=by
 intro fuel
 induction fuel with
 | zero =>
  intro listed a w _ _ _ hr hy hS H
  refine ⟨fun h=>(by rw [h] at hr;cases hr),fun j hj=>?_⟩
  by_cases hji:j = i
  ·subst hji;exact hy.wpOp hi hS ⟨fun _=>hS,H⟩
  ·have:=ready_mono hj hji
   rw [H.1] at this
   cases this
 | succ fuel ih =>
  intro listed a w inv hsub hfree hr hy hS H
  have hun:=(mem_ready.1 hr).1
  refine ⟨fun h=>(by rw [h] at hr;cases hr),fun j hj=>?_⟩
  by_cases hji:j = i
  ·subst hji;exact hy.wpOp hi hS ⟨fun _=>hS,H⟩
  ·have hjn:j < n:=by
    rcases Nat.lt_or_ge j n with h | h
    ·exact h
    ·exact absurd hj (tail_waitsR hs hsub hc hn inv _ i rfl hin hun j h)
   have h1:=H.2 j (ready_mono hj hji)
   obtain ⟨hjun,oj,hoj,hall⟩:=mem_ready.1 hj
   have hnot:∀ e ∈ oj.after,Region.binds md e = true → e.on ≠ i:=fun e he hb heq=>by
    have h1:=hall e he hb
    rw [heq,getD_both hun] at h1
    cases h1
   have h2:=wpOp_putIf hoj (hfree j oj hoj hji hjun hnot) (fun cs b=>hsel i oi cs b hi) (fun cs b=>hsel j oj cs b hoj) hQ hy h1
   have hfree':∀ k ok,ops[k]? = some ok → k ≠ i → (listed.setIfInBounds j true).getD k true = false →
     (∀ e ∈ ok.after,Region.binds md e = true → e.on ≠ i) → oi.apart ops ok = true:=fun k ok hk hki hun hno=>by
    refine hfree k ok hk hki ?_ hno
    by_cases hjk:j = k
    ·subst hjk;exact hjun
    ·rw [getD_set_ne true hjk] at hun;exact hun
   refine wpOp_mono (fun a' w' h3=>⟨fun _=>h3.2.1 hjn,ih (listed.setIfInBounds j true) a' w' (inv.set hj hjn) (fun q hq=>getD_set_true (hsub q hq)) hfree' (ready_mono hr (Ne.symm hji)) h3.1 (h3.2.1 hjn) ?_⟩) h2
   rw [Array.setIfInBounds_comm _ _ hji]
   exact h3.2.2
def takeRB (md:Region.Mode) (ops:Array Oper) (n:Nat) (listed:Array Bool) (i:Nat):Bool:=
 Region.noSelect ops && Region.free md ops listed i && (Region.ready md ops listed).contains i && decide (i < n) && sinkR md ops n listed && Region.chainB md ops n && decide (n < ops.size) && invB md ops n listed
theorem N_takeR {l:List Oper} {i:Nat} {oi:Oper} {d:Option Tmp} {v:Value} {fuel:Nat} {listed:Array Bool} {a:Act} {w:World} (hi:l[i]? = some oi) (hd:oi.dst = d) (hB:takeRB md l.toArray n listed i = true)
  (hQ:∀ c a w,Q (.panic c) (a.put d v) w → Q (.panic c) a w) (hy:YieldsIf P l.toArray S oi v a) (hS:S w)
  (h:wpAnyN P md l.toArray Q S n fuel (listed.setIfInBounds i true) (a.put d v) w):wpAnyN P md l.toArray Q S n (fuel + 1) listed a w:=by
 subst hd
 have hi':l.toArray[i]? = some oi:=by simpa using hi
 simp only [takeRB,Bool.and_eq_true,decide_eq_true_eq] at hB
 obtain ⟨⟨⟨⟨⟨⟨⟨b1,b2⟩,b3⟩,b4⟩,b5⟩,b6⟩,b7⟩,b8⟩:=hB
 exact wpAnyN_firstR (L:=listed) hi' (Region.noSelect_spec b1) b5 b6 b7 b4 hQ fuel listed a w (invB_spec b8) (fun _ h=>h) (Region.free_spec hi' b2) (by simpa using b3) hy hS h
def Enters (P:Program) (o:Oper) (a:Act) (f:FuncId) (args:Array Value):Prop:=∀ w:World,(execOp a.eval o).run P w = .ok (.enter f args) w
def InNew (w w':World) (v:Value):Prop:=∀ b,v.ownBlock = some b → w.heap.size ≤ b ∧ b < w'.heap.size
def Off (v u:Value):Prop:=∀ b,v.ownBlock = some b → u.ownBlock ≠ some b
def Makes (P:Program) (I:World → Prop) (R:Value → World → Prop) (f:FuncId) (args:Array Value):Prop:=
 ∀ w,I w → Calls P f args w fun e w'=>∃ v,e = .returned v ∧ I w' ∧ Below w.heap.size w w' ∧ R v w' ∧ InNew w w' v
theorem InNew.late {a b c:World} {v:Value} (h:InNew b c v) (k:Below a.heap.size a b):InNew a c v:=fun x hx=>⟨Nat.le_trans k.size (h x hx).1,(h x hx).2⟩
theorem InNew.off {a b c:World} {v u:Value} (h:InNew a b v) (k:InNew b c u):Off v u:=fun x hx hy=>by have:=(h x hx).2;have:=(k x hy).1;omega
theorem Off.symm {v u:Value} (h:Off v u):Off u v:=fun x hx hy=>h x hy hx
theorem Enters.put {o:Oper} {a:Act} {f:FuncId} {args:Array Value} {d:Option Tmp} {v:Value} (h:Enters P o a f args) (hs:∀ cs b,o.op ≠ .select cs b) (hd:∀ t,d = some t → t ∉ o.looksAt ops):Enters P o (a.put d v) f args:=by
 intro w
 rw [execOp_put o hs a d v hd]
 exact h w
theorem wpOp_enter {i:Nat} {o:Oper} {a:Act} {w:World} {K:Act → World → Prop} {f:FuncId} {args:Array Value} (ho:ops[i]? = some o) (hg:o.guard = none) (h:Enters P o a f args)
  {R:Value → World → Prop} (hc:Calls P f args w fun e w'=>∃ v,e = .returned v ∧ R v w') (hK:∀ v w',R v w' → K (a.put o.dst v) w'):wpOp P ops Q i K a w:=by
 unfold wpOp
 simp only [ho]
 have hw:Region.wanted o (yielded ops a.tmps) = true:=by simp [Region.wanted,hg]
 rw [if_pos hw]
 refine .inl ?_
 unfold Oper.wp
 rw [h w]
 simp only [Oper.upon]
 exact Calls.mono hc fun e w' ⟨v,he,hv⟩=>by subst he;exact hK v w' hv
def callsB1 (md:Region.Mode) (ops:Array Oper) (listed:Array Bool) (i:Nat):Bool:=Region.ready md ops listed == [i]
theorem N_call1 {i:Nat} {oi:Oper} {fi:FuncId} {ai:Array Value} {fuel:Nat} {listed:Array Bool} {a:Act} {w:World} {I:World → Prop} {Ri:Value → World → Prop}
  (hi:ops[i]? = some oi) (gi:oi.guard = none) (hB:callsB1 md ops listed i = true) (hS:∀ w,I w → S w) (hI:I w) (ei:Enters P oi a fi ai) (mi:Makes P I Ri fi ai)
  (h:∀ vi w',I w' → Below w.heap.size w w' → Ri vi w' → InNew w w' vi → wpAnyN P md ops Q S n fuel (listed.setIfInBounds i true) (a.put oi.dst vi) w'):wpAnyN P md ops Q S n (fuel + 1) listed a w:=by
 have hr:Region.ready md ops listed = [i]:=by simpa [callsB1] using hB
 refine ⟨fun h0=>(by rw [hr] at h0;cases h0),fun x hx=>?_⟩
 rw [hr] at hx
 obtain rfl:x = i:=by simpa using hx
 exact wpOp_enter hi gi ei (mi w hI) fun v w' ⟨h1,h2,h3,h4⟩=>⟨fun _=>hS _ h1,h v w' h1 h2 h3 h4⟩
theorem N_call1' {l:List Oper} {i:Nat} {oi:Oper} {fi:FuncId} {ai:Array Value} {fuel:Nat} {listed:Array Bool} {a:Act} {w:World} {I:World → Prop} {Ri:Value → World → Prop}
  (hi:l[i]? = some oi) (gi:oi.guard = none) (hB:callsB1 md l.toArray listed i = true) (hS:∀ w,I w → S w) (hI:I w) (ei:Enters P oi a fi ai) (mi:Makes P I Ri fi ai)
  (h:∀ vi w',I w' → Below w.heap.size w w' → Ri vi w' → InNew w w' vi → wpAnyN P md l.toArray Q S n fuel (listed.setIfInBounds i true) (a.put oi.dst vi) w'):wpAnyN P md l.toArray Q S n (fuel + 1) listed a w:=
 N_call1 (by simpa using hi) gi hB hS hI ei mi h
end
end Go.Proofs.YtnalakhelicjcaaGreatDoor
set_option maxRecDepth 100000
namespace Go.Proofs.YtnalakhelicjcaaGreatDoor
open Go.RowKit Go.Shelf Go.BigFrame
theorem owns_in {w w':World} {e:TypeId} {s n:Nat} {v:Value} {cs:List Value} (h:w'.ownsRow w.heap.size e s v n cs):InNew w w' v:=h.lt
set_option maxHeartbeats 16000000 in
theorem Own_c {w:World} {gv nv wv:Value} {X:Wd} (hg:Ints w gv X.groups) (hn:Nodes w nv X.nodes) (hw:Wires w wv X.wires) (hS:Small X) :
  Calls Tryz.prog 122 #[.agg #[gv,nv,wv]] w (OwnPost w X):=by
 obtain ⟨hgs,hnn,hww,hSmN,hSmW⟩:=hS
 obtain ⟨csn,rown,onen,clon⟩:=Sl.clone (OEl:=ONodeEl) hn NodeEl.one
 obtain ⟨csw,roww,onew,clow⟩:=Sl.clone (OEl:=OMsgRowsEl true) hw MsgRowsEl.one
 replace clon:=Lib.hid clon
 replace clow:=Lib.hid clow
 replace hSmN:=Lib.hid hSmN
 replace hSmW:=Lib.hid hSmW
 obtain ⟨hnl,na,ncap,rfl,hnc⟩:=hn.form
 obtain ⟨hwl,wa,wcap,rfl,hwc⟩:=hw.form
 obtain ⟨hgl,ga,gcap,rfl,_⟩:=hg.open
 obtain ⟨wA,hE,hA,hB,hRb⟩:=boxes2 w (.slice ga X.groups.length gcap) (.slice na X.nodes.length ncap) (.slice wa X.wires.length wcap) 35
 have hsA:wA.heap.size = w.heap.size + 2:=by rw [← hE.out,World.size_alloc,World.size_alloc]
 go_enter Tryz.func122,Tryz.ntmps122
 go_upto_region 1 with fail
 rw [hE.out]
 clear hE
 have hBl:=hB.lt
 have hRl:=hRb.lt
 obtain ⟨_,b0,b1,b2⟩:=id hB
 have hSB:∀ W,Below wA.heap.size wA W → W.cell? ⟨w.heap.size,0,none⟩ = some (.slice ga X.groups.length gcap) ∧ W.cell? ⟨w.heap.size,1,none⟩ = some (.slice na X.nodes.length ncap) ∧ W.cell? ⟨w.heap.size,2,none⟩ = some (.slice wa X.wires.length wcap):=
  fun W h=>⟨(h.cell (p:=⟨w.heap.size,0,none⟩) hBl).trans b0,(h.cell (p:=⟨w.heap.size,1,none⟩) hBl).trans b1,(h.cell (p:=⟨w.heap.size,2,none⟩) hBl).trans b2⟩
 clear b0 b1 b2
 refine wp_region_N (fun w'=>w'.cell? ⟨w.heap.size,0,none⟩ = some (.slice ga X.groups.length gcap) ∧ w'.cell? ⟨w.heap.size,1,none⟩ = some (.slice na X.nodes.length ncap) ∧ w'.cell? ⟨w.heap.size,2,none⟩ = some (.slice wa X.wires.length wcap)) 10 15 rfl (by kernel_rfl) (hSB _ (below_drewN wA 1)) (fun hSw=>?_)
 refine tk 0 ?_ rfl rfl (by kernel_rfl) (.inl ⟨by rfl, ?_⟩) hSw ?_
 rotate_left
 ·rintro w ⟨s0,s1,s2⟩;go_simp;try with_reducible rfl
 simp only [tkp,tkz,tks]
 refine tk 1 ?_ rfl rfl (by kernel_rfl) (.inl ⟨by rfl, ?_⟩) hSw ?_
 rotate_left
 ·rintro w ⟨s0,s1,s2⟩;go_simp;try with_reducible rfl
 simp only [tkp,tkz,tks]
 refine tk 3 ?_ rfl rfl (by kernel_rfl) (.inl ⟨by rfl, ?_⟩) hSw ?_
 rotate_left
 ·rintro w ⟨s0,s1,s2⟩;go_simp;try with_reducible rfl
 simp only [tkp,tkz,tks]
 refine tk 4 ?_ rfl rfl (by kernel_rfl) (.inl ⟨by rfl, ?_⟩) hSw ?_
 rotate_left
 ·rintro w ⟨s0,s1,s2⟩;go_simp;try with_reducible rfl
 simp only [tkp,tkz,tks]
 refine tk 6 ?_ rfl rfl (by kernel_rfl) (.inl ⟨by rfl, ?_⟩) hSw ?_
 rotate_left
 ·rintro w ⟨s0,s1,s2⟩;go_simp;try with_reducible rfl
 simp only [tkp,tkz,tks]
 refine tk 7 ?_ rfl rfl (by kernel_rfl) (.inl ⟨by rfl, ?_⟩) hSw ?_
 rotate_left
 ·rintro w ⟨s0,s1,s2⟩;go_simp;try with_reducible rfl
 simp only [tkp,tkz,tks]
 refine N_call1' (i:=2) (I:=fun W=>Below wA.heap.size wA W) (Ri:=fun v W=>W.ownsRow wA.heap.size 3 1 v X.groups.length (X.groups.map (Value.int .i64))) (fi:=27) (ai:=#[.slice ga X.groups.length gcap])
  rfl rfl (by kernel_rfl) hSB (below_drewN wA 1) (fun W=>by go_simp) (fun W hW=>(CloneInt_c (hg.below (below_trans hA hW)).2 (by simp [Value.oneCell']) (by omega)).mono ?_) ?_
 ·rintro e W' ⟨v,rfl,ho,hb⟩;exact ⟨v,rfl,below_trans hW hb,hb,owns_mono ho hW.size,owns_in ho⟩
 intro v1 w1 hI1 _ ho1 hn1
 simp only [Act.put,List.setIfInBounds_toArray,List.set_cons_zero,List.set_cons_succ]
 have hSw:=hSB w1 hI1
 refine tk 9 ?_ rfl rfl (by kernel_rfl) (.inl ⟨by rfl, ?_⟩) hSw ?_
 rotate_left
 ·rintro w ⟨s0,s1,s2⟩;go_simp;try with_reducible rfl
 simp only [tkp,tkz,tks]
 refine N_call1' (i:=5) (I:=fun W=>Below wA.heap.size wA W) (Ri:=fun v W=>W.ownsRow wA.heap.size 65 4 v X.nodes.length csn) (fi:=143) (ai:=#[.slice na X.nodes.length ncap])
  rfl rfl (by kernel_rfl) hSB hI1 (fun W=>by go_simp) (fun W hW=>(CloneNode_c (rown.below (below_trans hA hW)) onen (by omega)).mono ?_) ?_
 ·rintro e W' ⟨v,rfl,ho,hb⟩;exact ⟨v,rfl,below_trans hW hb,hb,owns_mono ho hW.size,owns_in ho⟩
 intro v2 w2 hI2 h12 ho2 hn2
 simp only [Act.put,List.setIfInBounds_toArray,List.set_cons_zero,List.set_cons_succ]
 refine N_call1' (i:=8) (I:=fun W=>Below wA.heap.size wA W) (Ri:=fun v W=>W.ownsRow wA.heap.size 66 1 v X.wires.length csw) (fi:=144) (ai:=#[.slice wa X.wires.length wcap])
  rfl rfl (by kernel_rfl) hSB hI2 (fun W=>by go_simp) (fun W hW=>(CloneMsgRows_c (roww.below (below_trans hA hW)) onew (by omega)).mono ?_) ?_
 ·rintro e W' ⟨v,rfl,ho,hb⟩;exact ⟨v,rfl,below_trans hW hb,hb,owns_mono ho hW.size,owns_in ho⟩
 intro v3 w3 hI3 h23 ho3 hn3
 simp only [Act.put,List.setIfInBounds_toArray,List.set_cons_zero,List.set_cons_succ]
 have ho2:=owns_below ho2 h23
 have ho1:=owns_below ho1 (below_trans h12 h23)
 obtain ⟨a1,c1,rfl⟩:=own_form ho1
 obtain ⟨a2,c2,rfl⟩:=own_form ho2
 obtain ⟨a3,c3,rfl⟩:=own_form ho3
 refine N_rest 10 5 (Nat.le_refl _) rfl (by kernel_rfl) ?_
 simp only [List.drop_succ_cons,List.drop_zero]
 clear hSB hSw
 -- the three stores
 have hB3:=hB.keep (hI3.block _ hBl)
 have hR3:=hRb.keep (hI3.block _ hRl)
 obtain ⟨hf0,hf1,hf2,b0,b1,b2⟩:=hB3.all
 have hBS:=((hB3.set0 (.slice a1 X.groups.length c1)).set1 (.slice a2 X.nodes.length c2)).set2 (.slice a3 X.wires.length c3)
 have hkS:∀ b,b ≠ w.heap.size → (((w3.setCell ⟨w.heap.size,0,none⟩ (.slice a1 X.groups.length c1)).setCell ⟨w.heap.size,1,none⟩ (.slice a2 X.nodes.length c2)).setCell ⟨w.heap.size,2,none⟩ (.slice a3 X.wires.length c3)).heap[b]? = w3.heap[b]?:=
  fun b hb=>(Go.Deep.blk_setCell_other _ _ _ _ hb).trans ((Go.Deep.blk_setCell_other _ _ _ _ hb).trans (Go.Deep.blk_setCell_other _ _ _ _ hb))
 have hsS:(((w3.setCell ⟨w.heap.size,0,none⟩ (.slice a1 X.groups.length c1)).setCell ⟨w.heap.size,1,none⟩ (.slice a2 X.nodes.length c2)).setCell ⟨w.heap.size,2,none⟩ (.slice a3 X.wires.length c3)).heap.size = w3.heap.size:=by
  rw [Go.Deep.nblk_setCell,Go.Deep.nblk_setCell,Go.Deep.nblk_setCell]
 have hbS:=below_setCell (below_setCell (below_setCell (below_trans hA hI3) (a:=⟨w.heap.size,0,none⟩) (Nat.le_refl _) (.slice a1 X.groups.length c1)) (a:=⟨w.heap.size,1,none⟩) (Nat.le_refl _) (.slice a2 X.nodes.length c2)) (a:=⟨w.heap.size,2,none⟩) (Nat.le_refl _) (.slice a3 X.wires.length c3)
 go_upto_region 2 with fail
 generalize ((w3.setCell ⟨w.heap.size,0,none⟩ (.slice a1 X.groups.length c1)).setCell ⟨w.heap.size,1,none⟩ (.slice a2 X.nodes.length c2)).setCell ⟨w.heap.size,2,none⟩ (.slice a3 X.wires.length c3) = wS at *
 have hRS:=hR3.keep (hkS _ (by omega))
 have hsi1:=hI1.size
 have hs12:=h12.size
 have hs23:=h23.size
 have hg1:∀ b,(Value.slice a1 X.groups.length c1).ownBlock = some b → w.heap.size + 2 ≤ b ∧ b < w1.heap.size:=fun b hb=>by have:=hn1 b hb;exact ⟨by have h:=this.1;show w.heap.size + 2 ≤ b;exact Nat.le_trans (Nat.le_of_eq hsA.symm) h,this.2⟩
 have hg2:∀ b,(Value.slice a2 X.nodes.length c2).ownBlock = some b → w1.heap.size ≤ b ∧ b < w2.heap.size:=hn2
 have hg3:∀ b,(Value.slice a3 X.wires.length c3).ownBlock = some b → w2.heap.size ≤ b ∧ b < w3.heap.size:=hn3
 have hG0:OInts wS (fun b=>(Value.slice a1 X.groups.length c1).ownBlock = some b) (.slice a1 X.groups.length c1) X.groups:=OInts.of_owns (owns_lies ho1 (fun k hk=>hkS k (by have:=hg1 k hk;omega))) hg.1 hgl
 have hN0:=clon.out wS _ _ _ (owns_lies ho2 (fun k hk=>hkS k (by have:=hg2 k hk;omega)))
 have hW0:=clow.out wS _ _ _ (owns_lies ho3 (fun k hk=>hkS k (by have:=hg3 k hk;omega)))
 have hsw:w.heap.size + 2 ≤ w1.heap.size ∧ w1.heap.size ≤ w2.heap.size ∧ w2.heap.size ≤ w3.heap.size ∧ w3.heap.size ≤ wS.heap.size:=⟨by omega,by omega,by omega,by omega⟩
 clear hf0 hf1 hf2 b0 b1 b2 hB3 hR3 hB hRb hBl hRl hsA hA hI1 hI2 hI3 h12 h23 ho1 ho2 ho3 hn1 hn2 hn3 hkS hsS hsi1 hs12 hs23 rown onen roww onew hg clon clow
 generalize w1.heap.size = s1 at *
 generalize w2.heap.size = s2 at *
 generalize w3.heap.size = s3 at *
 replace hW0:=Lib.hid hW0
 replace hG0:=Lib.hid hG0
 have hb1:=hBS.2.2.1
 go_upto_region 3 with fail
 clear hb1
 go_loopw [23] (fun i wr=>∃ k:Nat,k ≤ X.nodes.length ∧ i = .int .i64 k ∧ Within (fun b=>(Value.slice a2 X.nodes.length c2).ownBlock = some b) wS wr ∧ ∃ Sn,OSl (XNodes w) true 65 4 wr Sn (.slice a2 X.nodes.length c2) (mixL k X.nodes) ∧ ∀ b,Sn b → ((Value.slice a2 X.nodes.length c2).ownBlock = some b ∨ wS.heap.size ≤ b) ∧ b < wr.heap.size) (fun i _=>X.nodes.length - (intOf i).toNat)
 case atStart=>exact ⟨0,by omega,rfl,Within.of_below (Below.refl _ _),_,hN0,fun b hb=>⟨Or.inl hb,by have:=hg2 b hb;omega⟩⟩
 case round =>
  obtain ⟨k,hk,rfl,hwi,Sn,hNr,hSn2⟩:=hrel
  have hsr:=hwi.size
  have hBr:=hBS.keep (hwi.lies w.heap.size (by omega) (fun h=>by have:=hg2 _ h;omega))
  have hwr:Below w.heap.size w wr:=hbS.trans (hwi.below (by omega) (fun c hc=>by have:=hg2 c hc;omega))
  by_cases hlt:k < X.nodes.length
  ·obtain ⟨g,off,cap,cs,e1,hgS,hgB,hcap,hoff,hcl,hcc,hEl,back⟩:=hNr.mix_at ONodeEl.stays hlt
   cases e1
   obtain rfl:=hoff rfl
   have hgr:=hg2 g rfl
   obtain ⟨lv,hv,tv,rfl,hI64,hl,hh,htt⟩:=hEl
   obtain ⟨hm1,hm2,hm3,hm4⟩:=hSmN.out _ (List.getElem_mem hlt)
   obtain ⟨csl,rowl,onel,clol⟩:=Sl.clone (OEl:=OIntsEl) hl IntsEl.one
   replace clol:=Lib.hid clol
   obtain ⟨x,HX⟩:∃ x,X.nodes[k] = x:=⟨_,rfl⟩
   simp only [HX] at *
   clear HX hoff hcl
   obtain ⟨_,la,lcap,rfl,_⟩:=hl.form
   obtain ⟨_,ha,hcap,rfl,_⟩:=hh.open
   obtain ⟨_,ta,tcap,rfl,_⟩:=htt.open
   simp only [Nat.zero_add] at hgB hcc back
   have k1:=hcc 1 (by omega)
   have k2:=hcc 2 (by omega)
   have k3:=hcc 3 (by omega)
   simp only [List.getElem?_cons_succ,List.getElem?_cons_zero] at k1 k2 k3
   have hgl:=hgB.lt
   have hSB:∀ W,Below wr.heap.size wr W → W.cell? ⟨g,k * 4 + 1,none⟩ = some (.slice la x.last.length lcap) ∧ W.cell? ⟨g,k * 4 + 2,none⟩ = some (.slice ha x.held.length hcap) ∧ W.cell? ⟨g,k * 4 + 3,none⟩ = some (.slice ta x.told.length tcap):=
    fun W h=>⟨(h.cell (p:=⟨g,k * 4 + 1,none⟩) hgl).trans k1,(h.cell (p:=⟨g,k * 4 + 2,none⟩) hgl).trans k2,(h.cell (p:=⟨g,k * 4 + 3,none⟩) hgl).trans k3⟩
   obtain ⟨_,b0,b1,b2⟩:=id hBr
   clear k1 k2 k3
   replace back:=Lib.hid back
   go_upto_region 6 with fail
   clear b0 b1 b2
   refine wp_region_N (fun _=>True) 24 27 rfl (by kernel_rfl) trivial (fun _=>?_)
   refine N_takeR (i:=0) (v:=?_) rfl rfl (by kernel_rfl) (fun _ _ _ h=>h) (Or.inl ⟨by rfl, ?_⟩) trivial ?_
   rotate_left
   ·intro w _
    go_simp
    try with_reducible rfl
   simp only [Act.put,List.setIfInBounds_toArray,List.set_cons_zero,List.set_cons_succ]
   refine N_takeR (i:=1) (v:=?_) rfl rfl (by kernel_rfl) (fun _ _ _ h=>h) (Or.inl ⟨by rfl, ?_⟩) trivial ?_
   rotate_left
   ·intro w _
    go_simp
    try with_reducible rfl
   simp only [Act.put,List.setIfInBounds_toArray,List.set_cons_zero,List.set_cons_succ]
   refine N_takeR (i:=2) (v:=?_) rfl rfl (by kernel_rfl) (fun _ _ _ h=>h) (Or.inl ⟨by rfl, ?_⟩) trivial ?_
   rotate_left
   ·intro w _
    go_simp
    try with_reducible rfl
   simp only [Act.put,List.setIfInBounds_toArray,List.set_cons_zero,List.set_cons_succ]
   refine N_takeR (i:=3) (v:=?_) rfl rfl (by kernel_rfl) (fun _ _ _ h=>h) (Or.inl ⟨by rfl, ?_⟩) trivial ?_
   rotate_left
   ·intro w _
    go_simp
    try with_reducible rfl
   simp only [Act.put,List.setIfInBounds_toArray,List.set_cons_zero,List.set_cons_succ]
   refine N_shift (S':=fun w'=>w'.cell? ⟨g,k * 4 + 1,none⟩ = some (.slice la x.last.length lcap) ∧ w'.cell? ⟨g,k * 4 + 2,none⟩ = some (.slice ha x.held.length hcap) ∧ w'.cell? ⟨g,k * 4 + 3,none⟩ = some (.slice ta x.told.length tcap)) 18 ?_
   have hSw:=hSB _ (below_drewN wr 1)
   refine N_takeR (i:=4) (v:=?_) rfl rfl (by kernel_rfl) (fun _ _ _ h=>h) (Or.inl ⟨by rfl, ?_⟩) hSw ?_
   rotate_left
   ·intro w hSw
    obtain ⟨s0,s1,s2⟩:=hSw
    go_simp
    try with_reducible rfl
   simp only [Act.put,List.setIfInBounds_toArray,List.set_cons_zero,List.set_cons_succ]
   refine N_takeR (i:=5) (v:=?_) rfl rfl (by kernel_rfl) (fun _ _ _ h=>h) (Or.inl ⟨by rfl, ?_⟩) hSw ?_
   rotate_left
   ·intro w hSw
    obtain ⟨s0,s1,s2⟩:=hSw
    go_simp
    try with_reducible rfl
   simp only [Act.put,List.setIfInBounds_toArray,List.set_cons_zero,List.set_cons_succ]
   refine N_takeR (i:=6) (v:=?_) rfl rfl (by kernel_rfl) (fun _ _ _ h=>h) (Or.inl ⟨by rfl, ?_⟩) hSw ?_
   rotate_left
   ·intro w hSw
    obtain ⟨s0,s1,s2⟩:=hSw
    go_simp
    try with_reducible rfl
   simp only [Act.put,List.setIfInBounds_toArray,List.set_cons_zero,List.set_cons_succ]
   refine N_takeR (i:=8) (v:=?_) rfl rfl (by kernel_rfl) (fun _ _ _ h=>h) (Or.inl ⟨by rfl, ?_⟩) hSw ?_
   rotate_left
   ·intro w hSw
    obtain ⟨s0,s1,s2⟩:=hSw
    go_simp
    try with_reducible rfl
   simp only [Act.put,List.setIfInBounds_toArray,List.set_cons_zero,List.set_cons_succ]
   refine N_takeR (i:=9) (v:=?_) rfl rfl (by kernel_rfl) (fun _ _ _ h=>h) (Or.inl ⟨by rfl, ?_⟩) hSw ?_
   rotate_left
   ·intro w hSw
    obtain ⟨s0,s1,s2⟩:=hSw
    go_simp
    try with_reducible rfl
   simp only [Act.put,List.setIfInBounds_toArray,List.set_cons_zero,List.set_cons_succ]
   refine N_takeR (i:=10) (v:=?_) rfl rfl (by kernel_rfl) (fun _ _ _ h=>h) (Or.inl ⟨by rfl, ?_⟩) hSw ?_
   rotate_left
   ·intro w hSw
    obtain ⟨s0,s1,s2⟩:=hSw
    go_simp
    try with_reducible rfl
   simp only [Act.put,List.setIfInBounds_toArray,List.set_cons_zero,List.set_cons_succ]
   refine N_takeR (i:=11) (v:=?_) rfl rfl (by kernel_rfl) (fun _ _ _ h=>h) (Or.inl ⟨by rfl, ?_⟩) hSw ?_
   rotate_left
   ·intro w hSw
    obtain ⟨s0,s1,s2⟩:=hSw
    go_simp
    try with_reducible rfl
   simp only [Act.put,List.setIfInBounds_toArray,List.set_cons_zero,List.set_cons_succ]
   refine N_takeR (i:=13) (v:=?_) rfl rfl (by kernel_rfl) (fun _ _ _ h=>h) (Or.inl ⟨by rfl, ?_⟩) hSw ?_
   rotate_left
   ·intro w hSw
    obtain ⟨s0,s1,s2⟩:=hSw
    go_simp
    try with_reducible rfl
   simp only [Act.put,List.setIfInBounds_toArray,List.set_cons_zero,List.set_cons_succ]
   refine N_takeR (i:=14) (v:=?_) rfl rfl (by kernel_rfl) (fun _ _ _ h=>h) (Or.inl ⟨by rfl, ?_⟩) hSw ?_
   rotate_left
   ·intro w hSw
    obtain ⟨s0,s1,s2⟩:=hSw
    go_simp
    try with_reducible rfl
   simp only [Act.put,List.setIfInBounds_toArray,List.set_cons_zero,List.set_cons_succ]
   refine N_takeR (i:=15) (v:=?_) rfl rfl (by kernel_rfl) (fun _ _ _ h=>h) (Or.inl ⟨by rfl, ?_⟩) hSw ?_
   rotate_left
   ·intro w hSw
    obtain ⟨s0,s1,s2⟩:=hSw
    go_simp
    try with_reducible rfl
   simp only [Act.put,List.setIfInBounds_toArray,List.set_cons_zero,List.set_cons_succ]
   refine N_takeR (i:=16) (v:=?_) rfl rfl (by kernel_rfl) (fun _ _ _ h=>h) (Or.inl ⟨by rfl, ?_⟩) hSw ?_
   rotate_left
   ·intro w hSw
    obtain ⟨s0,s1,s2⟩:=hSw
    go_simp
    try with_reducible rfl
   simp only [Act.put,List.setIfInBounds_toArray,List.set_cons_zero,List.set_cons_succ]
   refine N_call1' (i:=7) (I:=fun W=>Below wr.heap.size wr W) (Ri:=fun v W=>W.ownsRow wr.heap.size 96 5 v x.held.length (x.held.flatMap M.cells)) (fi:=145) (ai:=#[.slice ha x.held.length hcap])
    rfl rfl (by kernel_rfl) hSB (below_drewN wr 1) (fun W=>by go_simp) (fun W hW=>(CloneMsg_c (hh.below (below_trans hwr hW)).2 (one_flat _) (by omega)).mono ?_) ?_
   ·rintro e W' ⟨v,rfl,ho,hb⟩;exact ⟨v,rfl,below_trans hW hb,hb,owns_mono ho hW.size,owns_in ho⟩
   intro v4 w4 hI4 _ ho4 hn4
   simp only [Act.put,List.setIfInBounds_toArray,List.set_cons_zero,List.set_cons_succ]
   refine N_call1' (i:=12) (I:=fun W=>Below wr.heap.size wr W) (Ri:=fun v W=>W.ownsRow wr.heap.size 96 5 v x.told.length (x.told.flatMap M.cells)) (fi:=145) (ai:=#[.slice ta x.told.length tcap])
    rfl rfl (by kernel_rfl) hSB hI4 (fun W=>by go_simp) (fun W hW=>(CloneMsg_c (htt.below (below_trans hwr hW)).2 (one_flat _) (by omega)).mono ?_) ?_
   ·rintro e W' ⟨v,rfl,ho,hb⟩;exact ⟨v,rfl,below_trans hW hb,hb,owns_mono ho hW.size,owns_in ho⟩
   intro v5 w5 hI5 h45 ho5 hn5
   simp only [Act.put,List.setIfInBounds_toArray,List.set_cons_zero,List.set_cons_succ]
   refine N_call1' (i:=17) (I:=fun W=>Below wr.heap.size wr W) (Ri:=fun v W=>W.ownsRow wr.heap.size 22 1 v x.last.length csl) (fi:=146) (ai:=#[.slice la x.last.length lcap])
    rfl rfl (by kernel_rfl) hSB hI5 (fun W=>by go_simp) (fun W hW=>(CloneIntRow_c (rowl.below (below_trans hwr hW)) onel (by omega)).mono ?_) ?_
   ·rintro e W' ⟨v,rfl,ho,hb⟩;exact ⟨v,rfl,below_trans hW hb,hb,owns_mono ho hW.size,owns_in ho⟩
   intro v6 w6 hI6 h56 ho6 hn6
   simp only [Act.put,List.setIfInBounds_toArray,List.set_cons_zero,List.set_cons_succ]
   refine N_rest 18 9 (Nat.le_refl _) rfl (by kernel_rfl) ?_
   simp only [List.drop_succ_cons,List.drop_zero]
   have ho5:=owns_below ho5 h56
   have ho4:=owns_below ho4 (below_trans h45 h56)
   obtain ⟨a4,c4,rfl⟩:=own_form ho4
   obtain ⟨a5,c5,rfl⟩:=own_form ho5
   obtain ⟨a6,c6,rfl⟩:=own_form ho6
   have hs4:=hI4.size
   have hs45:=h45.size
   have hs56:=h56.size
   have hg4:∀ b,(Value.slice a4 x.held.length c4).ownBlock = some b → wr.heap.size ≤ b ∧ b < w4.heap.size:=hn4
   have hg5:∀ b,(Value.slice a5 x.told.length c5).ownBlock = some b → w4.heap.size ≤ b ∧ b < w5.heap.size:=hn5
   have hg6:∀ b,(Value.slice a6 x.last.length c6).ownBlock = some b → w5.heap.size ≤ b ∧ b < w6.heap.size:=hn6
   have hgB6:=hgB.same (hI6.block g hgl)
   have hf1:=hgB6.frozen (k * 4 + 1)
   have hf2:=hgB6.frozen (k * 4 + 2)
   have hf3:=hgB6.frozen (k * 4 + 3)
   obtain ⟨kk1,kk2,kk3⟩:=hSB w6 hI6
   have hB7:BlkSet wr (((w6.setCell ⟨g,k * 4 + 2,none⟩ (.slice a4 x.held.length c4)).setCell ⟨g,k * 4 + 3,none⟩ (.slice a5 x.told.length c5)).setCell ⟨g,k * 4 + 1,none⟩ (.slice a6 x.last.length c6)) g (k * 4) [.int .i64 x.clock, .slice a6 x.last.length c6, .slice a4 x.held.length c4, .slice a5 x.told.length c5]:=
    (((BlkSet.same (w':=w6) (cs:=[.int .i64 x.clock, .slice la x.last.length lcap, .slice ha x.held.length hcap, .slice ta x.told.length tcap]) (hI6.block g hgl) (fun j hj=>hcc j hj)).set hgB 2 (by simp) (by simp;omega) (.slice a4 x.held.length c4)).set hgB 3 (by simp) (by simp;omega) (.slice a5 x.told.length c5)).set hgB 1 (by simp) (by simp;omega) (.slice a6 x.last.length c6)
   have hk7:∀ b,b ≠ g → (((w6.setCell ⟨g,k * 4 + 2,none⟩ (.slice a4 x.held.length c4)).setCell ⟨g,k * 4 + 3,none⟩ (.slice a5 x.told.length c5)).setCell ⟨g,k * 4 + 1,none⟩ (.slice a6 x.last.length c6)).heap[b]? = w6.heap[b]?:=
    fun b hb=>(Go.Deep.blk_setCell_other _ _ _ _ hb).trans ((Go.Deep.blk_setCell_other _ _ _ _ hb).trans (Go.Deep.blk_setCell_other _ _ _ _ hb))
   have hs7:(((w6.setCell ⟨g,k * 4 + 2,none⟩ (.slice a4 x.held.length c4)).setCell ⟨g,k * 4 + 3,none⟩ (.slice a5 x.told.length c5)).setCell ⟨g,k * 4 + 1,none⟩ (.slice a6 x.last.length c6)).heap.size = w6.heap.size:=by
    rw [Go.Deep.nblk_setCell,Go.Deep.nblk_setCell,Go.Deep.nblk_setCell]
   have hw7:Within (fun b=>(Value.slice (some ⟨g,0,none⟩) X.nodes.length c2).ownBlock = some b) wr (((w6.setCell ⟨g,k * 4 + 2,none⟩ (.slice a4 x.held.length c4)).setCell ⟨g,k * 4 + 3,none⟩ (.slice a5 x.told.length c5)).setCell ⟨g,k * 4 + 1,none⟩ (.slice a6 x.last.length c6)):=
    (((Within.of_below (S:=fun b=>(Value.slice (some ⟨g,0,none⟩) X.nodes.length c2).ownBlock = some b) hI6).setCell (a:=⟨g,k * 4 + 2,none⟩) rfl (.slice a4 x.held.length c4)).setCell (a:=⟨g,k * 4 + 3,none⟩) rfl (.slice a5 x.told.length c5)).setCell (a:=⟨g,k * 4 + 1,none⟩) rfl (.slice a6 x.last.length c6)
   clear hSB hSw
   go_upto_region 7 with fail
   generalize ((w6.setCell ⟨g,k * 4 + 2,none⟩ (.slice a4 x.held.length c4)).setCell ⟨g,k * 4 + 3,none⟩ (.slice a5 x.told.length c5)).setCell ⟨g,k * 4 + 1,none⟩ (.slice a6 x.last.length c6) = w7 at *
   have h4:OMsgs true w7 (fun b=>(Value.slice a4 x.held.length c4).ownBlock = some b) (.slice a4 x.held.length c4) x.held:=(MsgsOwn.own ⟨hh.1,ho4⟩ (by omega)).keep (fun b hb=>hk7 b (by have:=hg4 b hb;omega))
   have h5:OMsgs true w7 (fun b=>(Value.slice a5 x.told.length c5).ownBlock = some b) (.slice a5 x.told.length c5) x.told:=(MsgsOwn.own ⟨htt.1,ho5⟩ (by omega)).keep (fun b hb=>hk7 b (by have:=hg5 b hb;omega))
   have h6:=clol.out w7 _ _ _ (owns_lies ho6 (fun b hb=>hk7 b (by have:=hg6 b hb;omega)))
   have hlr:wr.heap.size ≤ w4.heap.size ∧ w4.heap.size ≤ w5.heap.size ∧ w5.heap.size ≤ w6.heap.size ∧ w6.heap.size ≤ w7.heap.size:=⟨by omega,by omega,by omega,by omega⟩
   have hc71:w7.cell? ⟨g,k * 4 + 1,none⟩ = some (.slice a6 x.last.length c6):=hB7.2.2 1 (by simp)
   have hB7':OBox w7 w.heap.size 35 (.slice a1 X.groups.length c1) (.slice (some ⟨g,0,none⟩) X.nodes.length c2) (.slice a3 X.wires.length c3):=hBr.keep ((hk7 _ (by omega)).trans (hI6.block _ (by omega)))
   have hg7:g < w7.heap.size:=by omega
   replace h4:=Lib.hid h4
   replace h5:=Lib.hid h5
   replace hB7:=Lib.hid hB7
   replace hw7:=Lib.hid hw7
   clear hf1 hf2 hf3 kk1 kk2 kk3 hgB6 ho4 ho5 ho6 hn4 hn5 hn6 hI4 hI5 hI6 h45 h56 hs4 hs45 hs56 hs7 hk7 clol rowl onel
   generalize w4.heap.size = s4 at *
   generalize w5.heap.size = s5 at *
   generalize w6.heap.size = s6 at *
   obtain ⟨wo,rfl⟩:∃ wo:World,wo = wr:=⟨_,rfl⟩
   go_upto_region 8 with fail
   go_loopw [59] (fun i wr=>∃ r:Nat,r ≤ x.last.length ∧ i = .int .i64 r ∧ Within (fun b=>(Value.slice a6 x.last.length c6).ownBlock = some b) w7 wr ∧ ∃ Sl,OSl (XInts w) true 22 1 wr Sl (.slice a6 x.last.length c6) (mixL r x.last) ∧ ∀ b,Sl b → ((Value.slice a6 x.last.length c6).ownBlock = some b ∨ w7.heap.size ≤ b) ∧ b < wr.heap.size) (fun i _=>x.last.length - (intOf i).toNat)
   case atStart=>exact ⟨0,by omega,rfl,Within.of_below (Below.refl _ _),_,h6,fun b hb=>⟨Or.inl hb,by have:=hg6 b hb;omega⟩⟩
   case round =>
    obtain ⟨r,hr,rfl,hwq,Sl,hLr,hSl2⟩:=hrel
    have hsq:=hwq.size
    have hng:∀ b,b < w7.heap.size → ¬ (s5 ≤ b ∧ b < s6) → wr.heap[b]? = w7.heap[b]?:=fun b hb hn=>hwq.lies b hb (fun h=>hn (hg6 b h))
    have hcr1:wr.cell? ⟨g,k * 4 + 1,none⟩ = some (.slice a6 x.last.length c6):=(World.cell?_of_block (w:=w7) (a:=⟨g,k * 4 + 1,none⟩) (hng g hg7 (by omega))).trans hc71
    have hw7r:=hw7.out
    by_cases hlt2:r < x.last.length
    ·obtain ⟨g2,off2,cap2,cs2,e2,hg2S,hg2B,hcap2,hoff2,hcl2,hcc2,hEl2,back2⟩:=hLr.mix_at OIntsEl.stays hlt2
     cases e2
     obtain rfl:=hoff2 rfl
     have hgr2:=hg6 g2 rfl
     have hm5:=hm2 _ (List.getElem_mem hlt2)
     obtain ⟨row,HR⟩:∃ row,x.last[r] = row:=⟨_,rfl⟩
     simp only [HR] at hEl2 back2 hm5
     clear HR
     obtain ⟨u,rfl,hu⟩:=hEl2
     obtain ⟨_,ua,ucap,rfl,_⟩:=hu.open
     simp only [Nat.zero_add,Nat.mul_one] at hg2B hcc2 back2
     have q0:=hcc2 0 (by omega)
     simp only [Nat.add_zero,List.getElem?_cons_zero] at q0
     have hg2l:=hg2B.lt
     have hgrl:=cell_lt hcr1
     dsimp only at hgrl
     have hwrq:Below w.heap.size w wr:=((hwr.trans (hw7r.below (by omega) (fun c hc=>by have:=hg2 c hc;omega))).trans (hwq.below (by omega) (fun c hc=>by have:=hg6 c hc;omega)))
     have hSB:∀ W,Below wr.heap.size wr W → W.cell? ⟨g,k * 4 + 1,none⟩ = some (.slice (some ⟨g2,0,none⟩) x.last.length c6) ∧ W.cell? ⟨g2,r,none⟩ = some (.slice ua row.length ucap):=
      fun W h=>⟨(h.cell (p:=⟨g,k * 4 + 1,none⟩) hgrl).trans hcr1,(h.cell (p:=⟨g2,r,none⟩) hg2l).trans q0⟩
     clear q0 hcr1
     replace back2:=Lib.hid back2
     go_upto_region 10 with fail
     refine wp_region_N (fun w'=>w'.cell? ⟨g,k * 4 + 1,none⟩ = some (.slice (some ⟨g2,0,none⟩) x.last.length c6) ∧ w'.cell? ⟨g2,r,none⟩ = some (.slice ua row.length ucap)) 13 15 rfl (by kernel_rfl) (hSB _ (below_drewN wr 1)) (fun hSw=>?_)
     refine tk 0 ?_ rfl rfl (by kernel_rfl) (.inl ⟨by rfl, ?_⟩) hSw ?_
     rotate_left
     ·rintro w ⟨s0,s1⟩;go_simp;try with_reducible rfl
     simp only [tkp,tkz,tks]
     refine tk 1 ?_ rfl rfl (by kernel_rfl) (.inl ⟨by rfl, ?_⟩) hSw ?_
     rotate_left
     ·rintro w ⟨s0,s1⟩;go_simp;try with_reducible rfl
     simp only [tkp,tkz,tks]
     refine tk 2 ?_ rfl rfl (by kernel_rfl) (.inl ⟨by rfl, ?_⟩) hSw ?_
     rotate_left
     ·rintro w ⟨s0,s1⟩;go_simp;try with_reducible rfl
     simp only [tkp,tkz,tks]
     refine tk 3 ?_ rfl rfl (by kernel_rfl) (.inl ⟨by rfl, ?_⟩) hSw ?_
     rotate_left
     ·rintro w ⟨s0,s1⟩;go_simp;try with_reducible rfl
     simp only [tkp,tkz,tks]
     refine tk 4 ?_ rfl rfl (by kernel_rfl) (.inl ⟨by rfl, ?_⟩) hSw ?_
     rotate_left
     ·rintro w ⟨s0,s1⟩;go_simp;try with_reducible rfl
     simp only [tkp,tkz,tks]
     refine tk 5 ?_ rfl rfl (by kernel_rfl) (.inl ⟨by rfl, ?_⟩) hSw ?_
     rotate_left
     ·rintro w ⟨s0,s1⟩;go_simp;try with_reducible rfl
     simp only [tkp,tkz,tks]
     refine tk 6 ?_ rfl rfl (by kernel_rfl) (.inl ⟨by rfl, ?_⟩) hSw ?_
     rotate_left
     ·rintro w ⟨s0,s1⟩;go_simp;try with_reducible rfl
     simp only [tkp,tkz,tks]
     refine tk 7 ?_ rfl rfl (by kernel_rfl) (.inl ⟨by rfl, ?_⟩) hSw ?_
     rotate_left
     ·rintro w ⟨s0,s1⟩;go_simp;try with_reducible rfl
     simp only [tkp,tkz,tks]
     refine tk 8 ?_ rfl rfl (by kernel_rfl) (.inl ⟨by rfl, ?_⟩) hSw ?_
     rotate_left
     ·rintro w ⟨s0,s1⟩;go_simp;try with_reducible rfl
     simp only [tkp,tkz,tks]
     refine tk 9 ?_ rfl rfl (by kernel_rfl) (.inl ⟨by rfl, ?_⟩) hSw ?_
     rotate_left
     ·rintro w ⟨s0,s1⟩;go_simp;try with_reducible rfl
     simp only [tkp,tkz,tks]
     refine tk 10 ?_ rfl rfl (by kernel_rfl) (.inl ⟨by rfl, ?_⟩) hSw ?_
     rotate_left
     ·rintro w ⟨s0,s1⟩;go_simp;try with_reducible rfl
     simp only [tkp,tkz,tks]
     refine tk 11 ?_ rfl rfl (by kernel_rfl) (.inl ⟨by rfl, ?_⟩) hSw ?_
     rotate_left
     ·rintro w ⟨s0,s1⟩;go_simp;try with_reducible rfl
     simp only [tkp,tkz,tks]
     refine N_call1' (i:=12) (I:=fun W=>Below wr.heap.size wr W) (Ri:=fun v W=>W.ownsRow wr.heap.size 3 1 v row.length (row.map (Value.int .i64))) (fi:=27) (ai:=#[.slice ua row.length ucap])
      rfl rfl (by kernel_rfl) hSB (below_drewN wr 1) (fun W=>by go_simp) (fun W hW=>(CloneInt_c (hu.below (below_trans hwrq hW)).2 (by simp [Value.oneCell']) (by omega)).mono ?_) ?_
     ·rintro e W' ⟨v,rfl,ho,hb⟩;exact ⟨v,rfl,below_trans hW hb,hb,owns_mono ho hW.size,owns_in ho⟩
     intro v8 w8 hI8 _ ho8 hn8
     simp only [Act.put,List.setIfInBounds_toArray,List.set_cons_zero,List.set_cons_succ]
     obtain ⟨a8,c8,rfl⟩:=own_form ho8
     refine N_rest 13 2 (Nat.le_refl _) rfl (by kernel_rfl) ?_
     simp only [List.drop_succ_cons,List.drop_zero]
     have hg2B8:=hg2B.same (hI8.block g2 hg2l)
     have hf8:=hg2B8.frozen r
     obtain ⟨_,q1⟩:=hSB w8 hI8
     have hg8:∀ b,(Value.slice a8 row.length c8).ownBlock = some b → wr.heap.size ≤ b ∧ b < w8.heap.size:=hn8
     clear hSB hSw
     go_wp2_with fail
     go_roundw
     case rel =>
      have hk8:∀ b,b ≠ g2 → (w8.setCell ⟨g2,r,none⟩ (.slice a8 row.length c8)).heap[b]? = w8.heap[b]?:=fun b hb=>Go.Deep.blk_setCell_other _ _ _ _ hb
      have hB8:BlkSet wr (w8.setCell ⟨g2,r,none⟩ (.slice a8 row.length c8)) g2 r [.slice a8 row.length c8]:=
       (BlkSet.same (w':=w8) (cs:=[.slice ua row.length ucap]) (hI8.block g2 hg2l) (fun j hj=>hcc2 j hj)).set hg2B 0 (by simp) (by simp;omega) _
      have o8:OInts (w8.setCell ⟨g2,r,none⟩ (.slice a8 row.length c8)) (fun b=>(Value.slice a8 row.length c8).ownBlock = some b) (.slice a8 row.length c8) row:=
       (OInts.of_owns ho8 hu.1 (by omega)).keep (fun b hb=>hk8 b (by have:=hg8 b hb;omega))
      refine ⟨r + 1,by omega,by go_num, ?_,_,back2.out _ _ _ (fun b hb=>(hk8 b hb.2).trans (hI8.block b (hSl2 b hb.1).2)) hB8 rfl ⟨_,rfl,o8⟩ (fun b hb hs=>by have:=hg8 b hb;have:=(hSl2 b hs).2;omega),fun b hb=>?_⟩
      ·exact (hwq.trans (Within.of_below (S:=fun b=>(Value.slice (some ⟨g2,0,none⟩) x.last.length c6).ownBlock = some b) hI8) (fun _ h=>Or.inl h)).setCell (a:=⟨g2,r,none⟩) rfl _
      ·rw [Go.Deep.nblk_setCell]
       have hsz8:=hI8.size
       rcases hb with hb | hb
       ·exact ⟨(hSl2 b hb).1,by have:=(hSl2 b hb).2;omega⟩
       ·have:=hg8 b hb
        exact ⟨Or.inr (by omega),this.2⟩
     case measure=>simp [intOf];omega
    ·obtain rfl:r = x.last.length:=by omega
     have h6':OIntRows wr Sl (.slice a6 x.last.length c6) x.last:=hLr.unmix
     go_wp2_with fail
     go_roundw
     case rel =>
      have k4:=h4.out.keep (w':=wr) (fun b hb=>hng b (by have:=hg4 b hb;omega) (by have:=hg4 b hb;omega))
      have k5:=h5.out.keep (w':=wr) (fun b hb=>hng b (by have:=hg5 b hb;omega) (by have:=hg5 b hb;omega))
      have hSl3:∀ b,Sl b → s5 ≤ b ∧ b < wr.heap.size:=fun b hb=>⟨by
       rcases (hSl2 b hb).1 with h | h
       ·exact (hg6 b h).1
       ·omega,(hSl2 b hb).2⟩
      have hX:ONodeEl wr (fun b=>Sl b ∨ (Value.slice a4 x.held.length c4).ownBlock = some b ∨ (Value.slice a5 x.told.length c5).ownBlock = some b) [.int .i64 x.clock, .slice a6 x.last.length c6, .slice a4 x.held.length c4, .slice a5 x.told.length c5] x:=
       ⟨_,_,_,Sl,_,_,rfl,hI64,h6',k4,k5,fun _ h=>Or.inl h,fun _ h=>Or.inr (Or.inl h),fun _ h=>Or.inr (Or.inr h),fun b h1 h2=>by have:=hSl3 b h1;have:=hg4 b h2;omega,fun b h1 h2=>by have:=hSl3 b h1;have:=hg5 b h2;omega,fun b h1 h2=>by have:=hg4 b h1;have:=hg5 b h2;omega⟩
      have hwow:∀ b,b < wo.heap.size → b ≠ g → wr.heap[b]? = wo.heap[b]?:=fun b hb hn=>(hng b (by omega) (by omega)).trans (hw7r.lies b hb (fun h=>hn (by cases h;rfl)))
      have hge:∀ b,(Sl b ∨ (Value.slice a4 x.held.length c4).ownBlock = some b ∨ (Value.slice a5 x.told.length c5).ownBlock = some b) → wo.heap.size ≤ b ∧ b < wr.heap.size:=fun b hb=>by
       rcases hb with h | h | h
       ·have:=hSl3 b h;omega
       ·have:=hg4 b h;omega
       ·have:=hg5 b h;omega
      refine ⟨k + 1,by omega,by go_num, ?_,_,back.out wr _ _ (fun b hb=>hwow b (hSn2 b hb.1).2 hb.2) (hB7.out.far (hng g hg7 (by omega))) rfl hX (fun b hb hs=>by have:=hge b hb;have:=(hSn2 b hs).2;omega),fun b hb=>?_⟩
      ·exact (hwi.trans hw7r (fun _ h=>Or.inl h)).trans hwq (fun b h=>Or.inr (by have:=hg6 b h;omega))
      ·rcases hb with hb | hb
       ·exact ⟨(hSn2 b hb).1,by have:=(hSn2 b hb).2;omega⟩
       ·have:=hge b hb
        exact ⟨Or.inr (by omega),this.2⟩
     case measure=>simp [intOf];omega
  ·obtain rfl:k = X.nodes.length:=by omega
   have hN1:ONodes wr Sn (.slice a2 X.nodes.length c2) X.nodes:=hNr.unmix
   have hW1:=OSl.keep (Mix.stays (OMsgRowsEl.stays true)) hW0.out (w':=wr) (fun b hb=>hwi.lies b (by have:=hg3 b hb;omega) (fun h=>by have:=hg3 b hb;have:=hg2 b h;omega))
   have hG1:=hG0.out.keep (w':=wr) (fun b hb=>hwi.lies b (by have:=hg1 b hb;omega) (fun h=>by have:=hg1 b hb;have:=hg2 b h;omega))
   have hR1:=hRS.keep (hwi.lies (w.heap.size + 1) (by omega) (fun h=>by have:=hg2 _ h;omega))
   have hSn3:∀ b,Sn b → s1 ≤ b ∧ b < wr.heap.size ∧ ¬ (s2 ≤ b ∧ b < s3):=fun b hb=>by
    have:=(hSn2 b hb).2
    rcases (hSn2 b hb).1 with h | h
    ·have:=hg2 b h;omega
    ·omega
   replace hN1:=Lib.hid hN1
   replace hG1:=Lib.hid hG1
   clear hG0 hW0 hSn2 hNr hN0 hlt hk hBS hRS hbS
   obtain ⟨_,b0,b1,b2⟩:=id hBr
   go_upto_region 14 with fail
   clear b0 b1 b2
   obtain ⟨wT,rfl⟩:∃ wT:World,wT = wr:=⟨_,rfl⟩
   go_loopw [81] (fun i wr=>∃ k:Nat,k ≤ X.wires.length ∧ i = .int .i64 k ∧ Within (fun b=>(Value.slice a3 X.wires.length c3).ownBlock = some b) wT wr ∧ ∃ Sw,OSl (XRows w) true 66 1 wr Sw (.slice a3 X.wires.length c3) (mixL k X.wires) ∧ ∀ b,Sw b → ((Value.slice a3 X.wires.length c3).ownBlock = some b ∨ wT.heap.size ≤ b) ∧ b < wr.heap.size) (fun i _=>X.wires.length - (intOf i).toNat)
   case atStart=>exact ⟨0,by omega,rfl,Within.of_below (Below.refl _ _),_,hW1,fun b hb=>⟨Or.inl hb,by have:=hg3 b hb;omega⟩⟩
   case round =>
    obtain ⟨k,hk,rfl,hwq,Sw,hWr,hSw2⟩:=hrel
    have hsq:=hwq.size
    have hBq:=hBr.keep (hwq.lies w.heap.size (by omega) (fun h=>by have:=hg3 _ h;omega))
    have hwrq:Below w.heap.size w wr:=hwr.trans (hwq.below (by omega) (fun c hc=>by have:=hg3 c hc;omega))
    by_cases hlt:k < X.wires.length
    ·obtain ⟨g,off,cap,cs,e1,hgS,hgB,hcap,hoff,hcl,hcc,hEl,back⟩:=hWr.mix_at (OMsgRowsEl.stays true) hlt
     cases e1
     obtain rfl:=hoff rfl
     have hgr:=hg3 g rfl
     obtain ⟨hm1,hm2⟩:=hSmW.out _ (List.getElem_mem hlt)
     obtain ⟨x,HX⟩:∃ x,X.wires[k] = x:=⟨_,rfl⟩
     simp only [HX] at hEl back hm1 hm2
     clear HX hoff hcl
     obtain ⟨u,rfl,hu⟩:=hEl
     obtain ⟨csl,rowl,onel,clol⟩:=Sl.clone (OEl:=OMsgsEl true) hu MsgsEl.one
     replace clol:=Lib.hid clol
     obtain ⟨_,ua,ucap,rfl,_⟩:=hu.form
     simp only [Nat.zero_add,Nat.mul_one] at hgB hcc back
     have q0:=hcc 0 (by omega)
     simp only [Nat.add_zero,List.getElem?_cons_zero] at q0
     have hgl:=hgB.lt
     have hbl:=hBq.lt
     obtain ⟨_,b0,b1,b2⟩:=id hBq
     have hSB:∀ W,Below wr.heap.size wr W → W.cell? ⟨w.heap.size,2,none⟩ = some (.slice (some ⟨g,0,none⟩) X.wires.length c3) ∧ W.cell? ⟨g,k,none⟩ = some (.slice ua x.length ucap):=
      fun W h=>⟨(h.cell (p:=⟨w.heap.size,2,none⟩) hbl).trans b2,(h.cell (p:=⟨g,k,none⟩) hgl).trans q0⟩
     replace back:=Lib.hid back
     clear b0 b1
     go_upto_region 16 with fail
     clear b2 q0
     refine wp_region_N (fun w'=>w'.cell? ⟨w.heap.size,2,none⟩ = some (.slice (some ⟨g,0,none⟩) X.wires.length c3) ∧ w'.cell? ⟨g,k,none⟩ = some (.slice ua x.length ucap)) 9 11 rfl (by kernel_rfl) (hSB _ (below_drewN wr 1)) (fun hSw=>?_)
     refine tk 0 ?_ rfl rfl (by kernel_rfl) (.inl ⟨by rfl, ?_⟩) hSw ?_
     rotate_left
     ·rintro w ⟨s0,s1⟩;go_simp;try with_reducible rfl
     simp only [tkp,tkz,tks]
     refine tk 1 ?_ rfl rfl (by kernel_rfl) (.inl ⟨by rfl, ?_⟩) hSw ?_
     rotate_left
     ·rintro w ⟨s0,s1⟩;go_simp;try with_reducible rfl
     simp only [tkp,tkz,tks]
     refine tk 2 ?_ rfl rfl (by kernel_rfl) (.inl ⟨by rfl, ?_⟩) hSw ?_
     rotate_left
     ·rintro w ⟨s0,s1⟩;go_simp;try with_reducible rfl
     simp only [tkp,tkz,tks]
     refine tk 3 ?_ rfl rfl (by kernel_rfl) (.inl ⟨by rfl, ?_⟩) hSw ?_
     rotate_left
     ·rintro w ⟨s0,s1⟩;go_simp;try with_reducible rfl
     simp only [tkp,tkz,tks]
     refine tk 4 ?_ rfl rfl (by kernel_rfl) (.inl ⟨by rfl, ?_⟩) hSw ?_
     rotate_left
     ·rintro w ⟨s0,s1⟩;go_simp;try with_reducible rfl
     simp only [tkp,tkz,tks]
     refine tk 5 ?_ rfl rfl (by kernel_rfl) (.inl ⟨by rfl, ?_⟩) hSw ?_
     rotate_left
     ·rintro w ⟨s0,s1⟩;go_simp;try with_reducible rfl
     simp only [tkp,tkz,tks]
     refine tk 6 ?_ rfl rfl (by kernel_rfl) (.inl ⟨by rfl, ?_⟩) hSw ?_
     rotate_left
     ·rintro w ⟨s0,s1⟩;go_simp;try with_reducible rfl
     simp only [tkp,tkz,tks]
     refine tk 7 ?_ rfl rfl (by kernel_rfl) (.inl ⟨by rfl, ?_⟩) hSw ?_
     rotate_left
     ·rintro w ⟨s0,s1⟩;go_simp;try with_reducible rfl
     simp only [tkp,tkz,tks]
     refine N_call1' (i:=8) (I:=fun W=>Below wr.heap.size wr W) (Ri:=fun v W=>W.ownsRow wr.heap.size 63 1 v x.length csl) (fi:=147) (ai:=#[.slice ua x.length ucap])
      rfl rfl (by kernel_rfl) hSB (below_drewN wr 1) (fun W=>by go_simp) (fun W hW=>(CloneMsgRow_c (rowl.below (below_trans hwrq hW)) onel (by omega)).mono ?_) ?_
     ·rintro e W' ⟨v,rfl,ho,hb⟩;exact ⟨v,rfl,below_trans hW hb,hb,owns_mono ho hW.size,owns_in ho⟩
     intro v4 w4 hI4 _ ho4 hn4
     simp only [Act.put,List.setIfInBounds_toArray,List.set_cons_zero,List.set_cons_succ]
     obtain ⟨a4,c4,rfl⟩:=own_form ho4
     refine N_rest 9 2 (Nat.le_refl _) rfl (by kernel_rfl) ?_
     simp only [List.drop_succ_cons,List.drop_zero]
     have hgB4:=hgB.same (hI4.block g hgl)
     have hf4:=hgB4.frozen k
     obtain ⟨b2,q1⟩:=hSB w4 hI4
     have hg4:∀ b,(Value.slice a4 x.length c4).ownBlock = some b → wr.heap.size ≤ b ∧ b < w4.heap.size:=hn4
     have hs4:=hI4.size
     have hB7:BlkSet wr (w4.setCell ⟨g,k,none⟩ (.slice a4 x.length c4)) g k [.slice a4 x.length c4]:=
      (BlkSet.same (w':=w4) (cs:=[.slice ua x.length ucap]) (hI4.block g hgl) (fun j hj=>hcc j hj)).set hgB 0 (by simp) (by simp;omega) _
     have hk7:∀ b,b ≠ g → (w4.setCell ⟨g,k,none⟩ (.slice a4 x.length c4)).heap[b]? = w4.heap[b]?:=fun b hb=>Go.Deep.blk_setCell_other _ _ _ _ hb
     have hs7:(w4.setCell ⟨g,k,none⟩ (.slice a4 x.length c4)).heap.size = w4.heap.size:=Go.Deep.nblk_setCell _ _ _
     have hw7:Within (fun b=>(Value.slice (some ⟨g,0,none⟩) X.wires.length c3).ownBlock = some b) wr (w4.setCell ⟨g,k,none⟩ (.slice a4 x.length c4)):=
      (Within.of_below (S:=fun b=>(Value.slice (some ⟨g,0,none⟩) X.wires.length c3).ownBlock = some b) hI4).setCell (a:=⟨g,k,none⟩) rfl (.slice a4 x.length c4)
     clear hSB hSw
     go_upto_region 17 with fail
     generalize w4.setCell ⟨g,k,none⟩ (.slice a4 x.length c4) = w7 at *
     have h6:=clol.out w7 _ _ _ (owns_lies ho4 (fun b hb=>hk7 b (by have:=hg4 b hb;omega)))
     have hc71:w7.cell? ⟨g,k,none⟩ = some (.slice a4 x.length c4):=hB7.2.2 0 (by simp)
     have hB7':OBox w7 w.heap.size 35 (.slice a1 X.groups.length c1) (.slice a2 X.nodes.length c2) (.slice (some ⟨g,0,none⟩) X.wires.length c3):=hBq.keep ((hk7 _ (by omega)).trans (hI4.block _ (by omega)))
     have hg7:g < w7.heap.size:=by omega
     have hlr:wr.heap.size ≤ w4.heap.size ∧ w4.heap.size ≤ w7.heap.size:=⟨hs4,by omega⟩
     replace hB7:=Lib.hid hB7
     replace hw7:=Lib.hid hw7
     clear hf4 q1 b2 hgB4 ho4 hn4 hI4 hs4 hs7 hk7 clol rowl onel
     generalize w4.heap.size = s4 at *
     obtain ⟨wo,rfl⟩:∃ wo:World,wo = wr:=⟨_,rfl⟩
     obtain ⟨_,b0,b1,b2⟩:=id hB7'
     go_upto_region 18 with fail
     clear b0 b1 b2
     go_loopw [100] (fun i wr=>∃ r:Nat,r ≤ x.length ∧ i = .int .i64 r ∧ Within (fun b=>(Value.slice a4 x.length c4).ownBlock = some b) w7 wr ∧ ∃ Sl,OSl (XMsgs w) true 63 1 wr Sl (.slice a4 x.length c4) (mixL r x) ∧ ∀ b,Sl b → ((Value.slice a4 x.length c4).ownBlock = some b ∨ w7.heap.size ≤ b) ∧ b < wr.heap.size) (fun i _=>x.length - (intOf i).toNat)
     case atStart=>exact ⟨0,by omega,rfl,Within.of_below (Below.refl _ _),_,h6,fun b hb=>⟨Or.inl hb,by have:=hg4 b hb;omega⟩⟩
     case round =>
      obtain ⟨r,hr,rfl,hwx,Sl,hLr,hSl2⟩:=hrel
      have hsx:=hwx.size
      have hng:∀ b,b < w7.heap.size → ¬ (wo.heap.size ≤ b ∧ b < s4) → wr.heap[b]? = w7.heap[b]?:=fun b hb hn=>hwx.lies b hb (fun h=>hn (hg4 b h))
      have hcr1:wr.cell? ⟨g,k,none⟩ = some (.slice a4 x.length c4):=(World.cell?_of_block (w:=w7) (a:=⟨g,k,none⟩) (hng g hg7 (by omega))).trans hc71
      have hBx:=hB7'.keep (hng w.heap.size (by omega) (by omega))
      have hw7r:=hw7.out
      by_cases hlt2:r < x.length
      ·obtain ⟨g2,off2,cap2,cs2,e2,hg2S,hg2B,hcap2,hoff2,hcl2,hcc2,hEl2,back2⟩:=hLr.mix_at (OMsgsEl.stays true) hlt2
       cases e2
       obtain rfl:=hoff2 rfl
       have hgr2:=hg4 g2 rfl
       have hm5:=hm2 _ (List.getElem_mem hlt2)
       obtain ⟨row,HR⟩:∃ row,x[r] = row:=⟨_,rfl⟩
       simp only [HR] at hEl2 back2 hm5
       clear HR
       obtain ⟨u2,rfl,hu2⟩:=hEl2
       obtain ⟨_,va,vcap,rfl,_⟩:=hu2.open
       simp only [Nat.zero_add,Nat.mul_one] at hg2B hcc2 back2
       have q0:=hcc2 0 (by omega)
       simp only [Nat.add_zero,List.getElem?_cons_zero] at q0
       have hg2l:=hg2B.lt
       have hgrl:=cell_lt hcr1
       dsimp only at hgrl
       have hbxl:=hBx.lt
       obtain ⟨_,b0,b1,b2⟩:=id hBx
       have hwrx:Below w.heap.size w wr:=(hwrq.trans (hw7r.below (by omega) (fun c hc=>by have:=hg3 c hc;omega))).trans (hwx.below (by omega) (fun c hc=>by have:=hg4 c hc;omega))
       have hSB:∀ W,Below wr.heap.size wr W → W.cell? ⟨w.heap.size,2,none⟩ = some (.slice (some ⟨g,0,none⟩) X.wires.length c3) ∧ W.cell? ⟨g,k,none⟩ = some (.slice (some ⟨g2,0,none⟩) x.length c4) ∧ W.cell? ⟨g2,r,none⟩ = some (.slice va row.length vcap):=
        fun W h=>⟨(h.cell (p:=⟨w.heap.size,2,none⟩) hbxl).trans b2,(h.cell (p:=⟨g,k,none⟩) hgrl).trans hcr1,(h.cell (p:=⟨g2,r,none⟩) hg2l).trans q0⟩
       clear q0 hcr1 b0 b1 b2
       replace back2:=Lib.hid back2
       go_upto_region 20 with fail
       refine wp_region_N (fun w'=>w'.cell? ⟨w.heap.size,2,none⟩ = some (.slice (some ⟨g,0,none⟩) X.wires.length c3) ∧ w'.cell? ⟨g,k,none⟩ = some (.slice (some ⟨g2,0,none⟩) x.length c4) ∧ w'.cell? ⟨g2,r,none⟩ = some (.slice va row.length vcap)) 15 17 rfl (by kernel_rfl) (hSB _ (below_drewN wr 1)) (fun hSw=>?_)
       refine tk 0 ?_ rfl rfl (by kernel_rfl) (.inl ⟨by rfl, ?_⟩) hSw ?_
       rotate_left
       ·rintro w ⟨s0,s1,s2⟩;go_simp;try with_reducible rfl
       simp only [tkp,tkz,tks]
       refine tk 1 ?_ rfl rfl (by kernel_rfl) (.inl ⟨by rfl, ?_⟩) hSw ?_
       rotate_left
       ·rintro w ⟨s0,s1,s2⟩;go_simp;try with_reducible rfl
       simp only [tkp,tkz,tks]
       refine tk 2 ?_ rfl rfl (by kernel_rfl) (.inl ⟨by rfl, ?_⟩) hSw ?_
       rotate_left
       ·rintro w ⟨s0,s1,s2⟩;go_simp;try with_reducible rfl
       simp only [tkp,tkz,tks]
       refine tk 3 ?_ rfl rfl (by kernel_rfl) (.inl ⟨by rfl, ?_⟩) hSw ?_
       rotate_left
       ·rintro w ⟨s0,s1,s2⟩;go_simp;try with_reducible rfl
       simp only [tkp,tkz,tks]
       refine tk 4 ?_ rfl rfl (by kernel_rfl) (.inl ⟨by rfl, ?_⟩) hSw ?_
       rotate_left
       ·rintro w ⟨s0,s1,s2⟩;go_simp;try with_reducible rfl
       simp only [tkp,tkz,tks]
       refine tk 5 ?_ rfl rfl (by kernel_rfl) (.inl ⟨by rfl, ?_⟩) hSw ?_
       rotate_left
       ·rintro w ⟨s0,s1,s2⟩;go_simp;try with_reducible rfl
       simp only [tkp,tkz,tks]
       refine tk 6 ?_ rfl rfl (by kernel_rfl) (.inl ⟨by rfl, ?_⟩) hSw ?_
       rotate_left
       ·rintro w ⟨s0,s1,s2⟩;go_simp;try with_reducible rfl
       simp only [tkp,tkz,tks]
       refine tk 7 ?_ rfl rfl (by kernel_rfl) (.inl ⟨by rfl, ?_⟩) hSw ?_
       rotate_left
       ·rintro w ⟨s0,s1,s2⟩;go_simp;try with_reducible rfl
       simp only [tkp,tkz,tks]
       refine tk 8 ?_ rfl rfl (by kernel_rfl) (.inl ⟨by rfl, ?_⟩) hSw ?_
       rotate_left
       ·rintro w ⟨s0,s1,s2⟩;go_simp;try with_reducible rfl
       simp only [tkp,tkz,tks]
       refine tk 9 ?_ rfl rfl (by kernel_rfl) (.inl ⟨by rfl, ?_⟩) hSw ?_
       rotate_left
       ·rintro w ⟨s0,s1,s2⟩;go_simp;try with_reducible rfl
       simp only [tkp,tkz,tks]
       refine tk 10 ?_ rfl rfl (by kernel_rfl) (.inl ⟨by rfl, ?_⟩) hSw ?_
       rotate_left
       ·rintro w ⟨s0,s1,s2⟩;go_simp;try with_reducible rfl
       simp only [tkp,tkz,tks]
       refine tk 11 ?_ rfl rfl (by kernel_rfl) (.inl ⟨by rfl, ?_⟩) hSw ?_
       rotate_left
       ·rintro w ⟨s0,s1,s2⟩;go_simp;try with_reducible rfl
       simp only [tkp,tkz,tks]
       refine tk 12 ?_ rfl rfl (by kernel_rfl) (.inl ⟨by rfl, ?_⟩) hSw ?_
       rotate_left
       ·rintro w ⟨s0,s1,s2⟩;go_simp;try with_reducible rfl
       simp only [tkp,tkz,tks]
       refine tk 13 ?_ rfl rfl (by kernel_rfl) (.inl ⟨by rfl, ?_⟩) hSw ?_
       rotate_left
       ·rintro w ⟨s0,s1,s2⟩;go_simp;try with_reducible rfl
       simp only [tkp,tkz,tks]
       refine N_call1' (i:=14) (I:=fun W=>Below wr.heap.size wr W) (Ri:=fun v W=>W.ownsRow wr.heap.size 96 5 v row.length (row.flatMap M.cells)) (fi:=145) (ai:=#[.slice va row.length vcap])
        rfl rfl (by kernel_rfl) hSB (below_drewN wr 1) (fun W=>by go_simp) (fun W hW=>(CloneMsg_c (hu2.below (below_trans hwrx hW)).2 (one_flat _) (by omega)).mono ?_) ?_
       ·rintro e W' ⟨v,rfl,ho,hb⟩;exact ⟨v,rfl,below_trans hW hb,hb,owns_mono ho hW.size,owns_in ho⟩
       intro v8 w8 hI8 _ ho8 hn8
       simp only [Act.put,List.setIfInBounds_toArray,List.set_cons_zero,List.set_cons_succ]
       obtain ⟨a8,c8,rfl⟩:=own_form ho8
       refine N_rest 15 2 (Nat.le_refl _) rfl (by kernel_rfl) ?_
       simp only [List.drop_succ_cons,List.drop_zero]
       have hg2B8:=hg2B.same (hI8.block g2 hg2l)
       have hf8:=hg2B8.frozen r
       obtain ⟨_,_,q1⟩:=hSB w8 hI8
       have hg8:∀ b,(Value.slice a8 row.length c8).ownBlock = some b → wr.heap.size ≤ b ∧ b < w8.heap.size:=hn8
       clear hSB hSw
       go_wp2_with fail
       go_roundw
       case rel =>
        have hk8:∀ b,b ≠ g2 → (w8.setCell ⟨g2,r,none⟩ (.slice a8 row.length c8)).heap[b]? = w8.heap[b]?:=fun b hb=>Go.Deep.blk_setCell_other _ _ _ _ hb
        have hB8:BlkSet wr (w8.setCell ⟨g2,r,none⟩ (.slice a8 row.length c8)) g2 r [.slice a8 row.length c8]:=
         (BlkSet.same (w':=w8) (cs:=[.slice va row.length vcap]) (hI8.block g2 hg2l) (fun j hj=>hcc2 j hj)).set hg2B 0 (by simp) (by simp;omega) _
        have o8:OMsgs true (w8.setCell ⟨g2,r,none⟩ (.slice a8 row.length c8)) (fun b=>(Value.slice a8 row.length c8).ownBlock = some b) (.slice a8 row.length c8) row:=
         (MsgsOwn.own ⟨hu2.1,ho8⟩ (by omega)).keep (fun b hb=>hk8 b (by have:=hg8 b hb;omega))
        refine ⟨r + 1,by omega,by go_num, ?_,_,back2.out _ _ _ (fun b hb=>(hk8 b hb.2).trans (hI8.block b (hSl2 b hb.1).2)) hB8 rfl ⟨_,rfl,o8⟩ (fun b hb hs=>by have:=hg8 b hb;have:=(hSl2 b hs).2;omega),fun b hb=>?_⟩
        ·exact (hwx.trans (Within.of_below (S:=fun b=>(Value.slice (some ⟨g2,0,none⟩) x.length c4).ownBlock = some b) hI8) (fun _ h=>Or.inl h)).setCell (a:=⟨g2,r,none⟩) rfl _
        ·rw [Go.Deep.nblk_setCell]
         have hsz8:=hI8.size
         rcases hb with hb | hb
         ·exact ⟨(hSl2 b hb).1,by have:=(hSl2 b hb).2;omega⟩
         ·have:=hg8 b hb
          exact ⟨Or.inr (by omega),this.2⟩
       case measure=>simp [intOf];omega
      ·obtain rfl:r = x.length:=by omega
       have h6':OMsgRows true wr Sl (.slice a4 x.length c4) x:=hLr.unmix
       go_wp2_with fail
       go_roundw
       case rel =>
        have hSl3:∀ b,Sl b → wo.heap.size ≤ b ∧ b < wr.heap.size:=fun b hb=>⟨by
         rcases (hSl2 b hb).1 with h | h
         ·exact (hg4 b h).1
         ·omega,(hSl2 b hb).2⟩
        have hwow:∀ b,b < wo.heap.size → b ≠ g → wr.heap[b]? = wo.heap[b]?:=fun b hb hn=>(hng b (by omega) (by omega)).trans (hw7r.lies b hb (fun h=>hn (by cases h;rfl)))
        refine ⟨k + 1,by omega,by go_num, ?_,_,back.out wr Sl _ (fun b hb=>hwow b (hSw2 b hb.1).2 hb.2) (hB7.out.far (hng g hg7 (by omega))) rfl ⟨_,rfl,h6'⟩ (fun b hb hs=>by have:=hSl3 b hb;have:=(hSw2 b hs).2;omega),fun b hb=>?_⟩
        ·exact (hwq.trans hw7r (fun _ h=>Or.inl h)).trans hwx (fun b h=>Or.inr (by have:=hg4 b h;omega))
        ·rcases hb with hb | hb
         ·exact ⟨(hSw2 b hb).1,by have:=(hSw2 b hb).2;omega⟩
         ·have:=hSl3 b hb
          exact ⟨Or.inr (by omega),this.2⟩
       case measure=>simp [intOf];omega
    ·obtain rfl:k = X.wires.length:=by omega
     have hWF:OWires true wr Sw (.slice a3 X.wires.length c3) X.wires:=hWr.unmix
     have hNF:=hN1.out.keep (w':=wr) (fun b hb=>hwq.lies b (hSn3 b hb).2.1 (fun h=>(hSn3 b hb).2.2 (hg3 b h)))
     have hGF:=hG1.out.keep (w':=wr) (fun b hb=>hwq.lies b (by have:=hg1 b hb;omega) (fun h=>by have:=hg1 b hb;have:=hg3 b h;omega))
     have hRF:=hR1.keep (hwq.lies (w.heap.size + 1) (by omega) (fun h=>by have:=hg3 _ h;omega))
     have hSw3:∀ b,Sw b → (s2 ≤ b ∧ b < s3 ∨ wT.heap.size ≤ b) ∧ b < wr.heap.size:=fun b hb=>⟨(hSw2 b hb).1.imp (hg3 b) id,(hSw2 b hb).2⟩
     obtain ⟨hf0,hf1,hf2,z0,z1,z2⟩:=hRF.all
     obtain ⟨_,y0,y1,y2⟩:=id hBq
     obtain ⟨f0,f1,f2⟩:=hRF.put3 (.slice a1 X.groups.length c1) (.slice a2 X.nodes.length c2) (.slice a3 X.wires.length c3)
     clear hWr hSw2
     go_wp2_with ((with_reducible refine bodyPost_ret (v:=.agg #[.slice a1 X.groups.length c1, .slice a2 X.nodes.length c2, .slice a3 X.wires.length c3]) ?_ rfl ?_);(focus (simp [results,Tryz.f122];go_simp)))
     have hkF:∀ b,b ≠ w.heap.size + 1 → (((wr.setCell ⟨w.heap.size + 1,0,none⟩ (.slice a1 X.groups.length c1)).setCell ⟨w.heap.size + 1,1,none⟩ (.slice a2 X.nodes.length c2)).setCell ⟨w.heap.size + 1,2,none⟩ (.slice a3 X.wires.length c3)).heap[b]? = wr.heap[b]?:=
      fun b hb=>(Go.Deep.blk_setCell_other _ _ _ _ hb).trans ((Go.Deep.blk_setCell_other _ _ _ _ hb).trans (Go.Deep.blk_setCell_other _ _ _ _ hb))
     refine ⟨_,_,_,fun b=>(Value.slice a1 X.groups.length c1).ownBlock = some b ∨ Sn b ∨ Sw b,rfl,⟨_,Sn,Sw,hGF.keep (fun b hb=>hkF b ?_),hNF.keep (fun b hb=>hkF b ?_),OWires.keep hWF (fun b hb=>hkF b ?_),fun _ h=>Or.inl h,fun _ h=>Or.inr (Or.inl h),fun _ h=>Or.inr (Or.inr h),fun b h1 h2=>?_,fun b h1 h2=>?_,fun b h1 h2=>?_⟩,fun b hb=>?_,set3_below hwrq (by omega)⟩
     ·have:=hg1 b hb;omega
     ·have:=hSn3 b hb;omega
     ·have:=hSw3 b hb;omega
     ·have:=hg1 b h1;have:=hSn3 b h2;omega
     ·have:=hg1 b h1;have:=hSw3 b h2;omega
     ·have:=hSn3 b h1;have:=hSw3 b h2;omega
     ·rw [Go.Deep.nblk_setCell,Go.Deep.nblk_setCell,Go.Deep.nblk_setCell]
      rcases hb with hb | hb | hb
      ·have:=hg1 b hb;omega
      ·have:=hSn3 b hb;omega
      ·have:=hSw3 b hb;omega
end Go.Proofs.YtnalakhelicjcaaGreatDoor
