/-
  The program's judge of worlds: must.
  The program's judge of worlds: a list that a node has.
  The program's judge of worlds: a wire.
  Where the first message is of which something holds; the judge's closures.
-/
import Derived.Test.YtnalakhelicjcaaGreatDoorZGN
import Derived.Test.YtnalakhelicjcaaGreatDoorZKO
import Derived.Deep.CutRange
set_option maxRecDepth 100000
namespace Go.Proofs.YtnalakhelicjcaaGreatDoor
open Go.RowKit Go.Shelf Go.BigFrame
def Bools (w:World) (b n:Nat) (l:List Bool):Prop:=l.length = n ∧ ∀ k,k < n → w.cell? ⟨b,k,none⟩ = some (.bool (l.getD k true))
def IdxB (l:List Bool) (w:World) (e:Ending) (w':World):Prop:=∃ i:Int,e = .returned (.int .i64 i) ∧ decide (0 ≤ i) = !(l.all id) ∧ w = w'
theorem IndexB_c {w:World} {b n:Nat} {l:List Bool} (h:Bools w b n l) (hn:n ≤ 100) :
  Calls Tryz.prog 176 #[.slice (some ⟨b,0,none⟩) n n, .bool false] w (IdxB l w):=by
 obtain ⟨hl,hc⟩:=h
 subst hl
 replace hc:=Lib.hid hc
 go_enter Tryz.func176,Tryz.ntmps176
 go_wp2_with fail
 go_loop [8] (fun i=>∃ k:Nat,k ≤ l.length ∧ i = .int .i64 k ∧ Hid ((l.take k).all id = true)) (fun i=>l.length - (intOf i).toNat)
 case atStart=>exact ⟨0,by omega,rfl,rfl⟩
 case round =>
  obtain ⟨k,hk,rfl,hg⟩:=hrel
  by_cases hlt:k < l.length
  ·have hck:=hc.out k hlt
   have ht:=all_take (p:=id) (d:=true) hlt
   cases hd:l.getD k true
   ·rw [hd] at hck ht
    have ha:=ht.1 rfl
    clear ht hd
    replace ha:=Lib.hid ha
    go_wp2_with fail
    go_ret
    exact ⟨k,rfl,by rw [ha.out];simp,rfl⟩
   ·rw [hd] at hck ht
    have ha:=ht.2 hg.out rfl
    clear ht hd
    replace ha:=Lib.hid ha
    go_wp2_with fail
    go_round
    case rel=>exact ⟨k + 1,by omega,by go_num,ha⟩
    case measure=>simp [intOf];omega
  ·obtain rfl:k = l.length:=by omega
   have ha:=hg.out
   rw [List.take_length] at ha
   replace ha:=Lib.hid ha
   go_wp2_with fail
   go_ret
   exact ⟨-1,rfl,by rw [ha.out];rfl,rfl⟩
theorem ContainsB_c {w:World} {b n:Nat} {l:List Bool} (h:Bools w b n l) (hn:n ≤ 100) :
  Calls Tryz.prog 164 #[.slice (some ⟨b,0,none⟩) n n, .bool false] w fun e w'=>e = .returned (.bool (!(l.all id))) ∧ w = w':=by
 have hI:=IndexB_c h hn
 go_enter Tryz.func164,Tryz.ntmps164
 go_wp2_with (go_at_call 176;refine hI.mono ?_;clear hI;rintro e w' ⟨i,rfl,hi,rfl⟩;replace hi:=Lib.hid hi)
 go_ret
 exact ⟨ret_bool hi.out,rfl⟩
def JPost (r:Int) (w:World) (e:Ending) (w':World):Prop:=
 ((r = 0 ∧ e = .returned (.tuple #[])) ∨ (r ≠ 0 ∧ e = .panicked [{ v:=.iface 168 (.agg #[.int .i64 r]),recovered:=false }])) ∧ Below w.heap.size w w'
theorem must_t {w:World} {b n:Nat} {l:List Bool} (e:Int) (h:Bools w b n l) (hn:n ≤ 100) (hl:l.all id = true) :
  Calls Tryz.prog 154 #[.int .i64 e, .slice (some ⟨b,0,none⟩) n n] w fun e' w'=>e' = .returned (.tuple #[]) ∧ w = w':=by
 have hI:=ContainsB_c h hn
 rw [hl] at hI
 go_enter Tryz.func154,Tryz.ntmps154
 go_wp2_with (go_at_call 164;refine hI.mono ?_;clear hI;rintro e w' ⟨rfl,rfl⟩)
 go_end0
 exact ⟨rfl,rfl⟩
theorem must_f {w:World} {b n:Nat} {l:List Bool} (e:Int) (h:Bools w b n l) (hn:n ≤ 100) (hl:l.all id = false) :
  Calls Tryz.prog 154 #[.int .i64 e, .slice (some ⟨b,0,none⟩) n n] w fun e' w'=>e' = .panicked [{ v:=.iface 168 (.agg #[.int .i64 e]),recovered:=false }] ∧ w = w':=by
 have hI:=ContainsB_c h hn
 rw [hl] at hI
 go_enter Tryz.func154,Tryz.ntmps154
 go_wp2_with (go_at_call 164;refine hI.mono ?_;clear hI;rintro e w' ⟨rfl,rfl⟩)
 exact ⟨rfl,rfl,rfl⟩
end Go.Proofs.YtnalakhelicjcaaGreatDoor
set_option maxRecDepth 100000
namespace Go.Proofs.YtnalakhelicjcaaGreatDoor
open Go.RowKit Go.Shelf Go.BigFrame
def fineRm (nodes:Int) (gs:List Int) (n:Int) (m:M):Bool:=(rightE nodes gs m == 0) && hasB gs m.grp n
def listR (X:Wd) (ms:List M) (n:Int):Int:=if ms.all (fineRm X.nodes.length X.groups n) = true then 0 else 1
theorem JPost.ok {w w':World} (h:Below w.heap.size w w'):JPost 0 w (.returned (.tuple #[])) w':=⟨Or.inl ⟨rfl,rfl⟩,h⟩
theorem JPost.bad {r:Int} {w w':World} (hr:r ≠ 0) (h:Below w.heap.size w w'):JPost r w (.panicked [{ v:=.iface 168 (.agg #[.int .i64 r]),recovered:=false }]) w':=⟨Or.inr ⟨hr,rfl⟩,h⟩
theorem Bools.new2 (w:World) (a b:Bool) (t:TypeId):Bools (w.alloc (.cells #[.bool a, .bool b] t)) w.heap.size 2 [a,b]:=by
 refine ⟨rfl,fun k hk=>?_⟩
 match k,hk with
 | 0,_=>simp
 | 1,_=>simp
theorem Bools.new1 (w:World) (a:Bool) (t:TypeId):Bools (w.alloc (.cells #[.bool a] t)) w.heap.size 1 [a]:=by
 refine ⟨rfl,fun k hk=>?_⟩
 match k,hk with
 | 0,_=>simp
theorem Bools.new3 (w:World) (a b c:Bool) (t:TypeId):Bools (w.alloc (.cells #[.bool a, .bool b, .bool c] t)) w.heap.size 3 [a,b,c]:=by
 refine ⟨rfl,fun k hk=>?_⟩
 match k,hk with
 | 0,_=>simp
 | 1,_=>simp
 | 2,_=>simp
set_option maxHeartbeats 1000000 in
theorem list_c {w:World} {gv nv wv v:Value} {X:Wd} {ms:List M} (hg:Ints w gv X.groups) (hn:Nodes w nv X.nodes) (h:Msgs w v ms) (n:Int) :
  Calls Tryz.prog 168 #[.agg #[gv,nv,wv],v, .int .i64 n] w (JPost (listR X ms n) w):=by
 obtain ⟨hl,a,cap,rfl,_,hc⟩:=h.open
 obtain ⟨hnl,na,ncap,rfl,_,_⟩:=Sl.open hn
 replace hc:=Lib.hid hc
 have hA:=below_a1 w (.cells #[gv, .slice na X.nodes.length ncap,wv] 171)
 have hB:=WBox.new w gv (.slice na X.nodes.length ncap) wv 171
 obtain ⟨P,hP⟩:∃ P,JPost (listR X ms n) w = P:=⟨_,rfl⟩
 rw [hP]
 unfold listR at hP
 replace hP:=Lib.hid hP
 go_enter Tryz.func168,Tryz.ntmps168
 go_wp2_with fail
 go_loopw [10] (fun i wr=>∃ k:Nat,k ≤ ms.length ∧ i = .int .i64 k ∧ (ms.take k).all (fineRm X.nodes.length X.groups n) = true ∧ Below (w.heap.size + 1) (w.alloc (.cells #[gv, .slice na X.nodes.length ncap,wv] 171)) wr) (fun i _=>ms.length - (intOf i).toNat)
 case atStart=>exact ⟨0,by omega,rfl,rfl,Below.refl _ _⟩
 case round =>
  obtain ⟨k,hk,rfl,hgo,hb⟩:=hrel
  replace hgo:=Lib.hid hgo
  obtain ⟨b0,b1,b2⟩:=hB.below hb (by omega)
  have hw:=hA.trans (hb.mono (by omega))
  by_cases hlt:k < ms.length
  ·obtain ⟨b,off,rfl,hcc⟩:=hc.out (by intro e;subst e;simp at hlt)
   obtain ⟨m0,m1,m2,m3,m4⟩:=(hcc k hlt).below hw
   have ht:=Lib.hid (all_take (p:=fineRm X.nodes.length X.groups n) (d:=M.zero) hlt)
   generalize ms.getD k M.zero = m at m0 m1 m2 m3 m4 ht
   have hgI:=hg.below hw
   have hE:=fun (o:World) (h:Ints o gv X.groups)=>Right_c h X.nodes.length m
   have hH:=fun (o:World) (h:Ints o gv X.groups)=>Has_c h m.grp n
   unfold M.val at hE
   have hbM:=below_a1 wr (.cells #[.int .i64 m.src, .int .i64 m.grp, .int .i64 m.stamp, .bool m.null, .string m.body] 96)
   have hMB:=MsgBox.new wr m 96
   go_upto_region 4 with fail
   generalize wr.alloc (.cells #[.int .i64 m.src, .int .i64 m.grp, .int .i64 m.stamp, .bool m.null, .string m.body] 96) = wM at *
   have hwM:=below_trans hw hbM
   have b0:=(hbM.cell (p:=⟨w.heap.size,0,none⟩) (cell_lt b0)).trans b0
   have b1:=(hbM.cell (p:=⟨w.heap.size,1,none⟩) (cell_lt b1)).trans b1
   have hgM:=hg.below hwM
   clear m0 m1 m2 m3 m4
   obtain ⟨m0,m1,m2,m3,m4⟩:=hMB
   have hl1:=cell_lt b0
   have hl2:=cell_lt m0
   dsimp only at hl1 hl2
   obtain ⟨r,hr⟩:∃ r,rightE X.nodes.length X.groups m = r:=⟨_,rfl⟩
   obtain ⟨hb',hh⟩:∃ h,hasB X.groups m.grp n = h:=⟨_,rfl⟩
   have hfm:fineRm X.nodes.length X.groups n m = ((r == 0) && hb'):=by rw [fineRm,hr,hh]
   rw [hfm] at ht
   clear hfm
   rw [hr] at hE
   rw [hh] at hH
   clear hr hh
   refine wp_region_over_tail 17 (by kernel_rfl) (by kernel_rfl) ?_
   simp only [List.take_succ_cons,List.take_zero,List.drop_succ_cons,List.drop_zero]
   repeat (go_big_quiet_step (first | exact over_c (hE _ (hgM.below (Over.h _))) | exact over_w (hH _ (hgM.below (Over.h _)))))
   refine wpQuiet_nil ?_
   rintro w2 ⟨⟨_,hb2⟩,rfl⟩
   have hBo:=Bools.new2 w2 (r == 0) hb' 4
   cases hv:((r == 0) && hb')
   ·rw [hv] at ht
    have hM:=must_f 1 hBo (by omega) (by simpa using hv)
    replace hv:=Lib.hid hv
    go_wp2_with fail
    refine hM.mono ?_
    rintro e w3 ⟨rfl,rfl⟩
    go_wp2_with fail
    refine ⟨rfl, ?_⟩
    rw [← hP.out,if_neg (by rw [ht.out.1 (by simp)];simp)]
    exact JPost.bad (by decide) (below_trans (below_trans hwM hb2) (below_a1 _ _))
   ·rw [hv] at ht
    have hM:=must_t 1 hBo (by omega) (by simpa using hv)
    replace hv:=Lib.hid hv
    go_wp2_with fail
    refine hM.mono ?_
    rintro e w3 ⟨rfl,rfl⟩
    go_wp2_with fail
    go_roundw
    case rel=>exact ⟨k + 1,by omega,by go_num,ht.out.2 hgo.out (by simp),(hb.trans (hbM.mono (by have:=hb.size;rw [World.size_alloc] at this;omega))).trans ((below_trans hb2 (below_a1 _ _)).mono (by have:=hl2;have:=hl1;omega))⟩
    case measure=>simp [intOf];omega
  ·obtain rfl:k = ms.length:=by omega
   have hgo:=hgo.out
   rw [List.take_length] at hgo
   replace hgo:=Lib.hid hgo
   go_wp2_with fail
   go_end0
   rw [← hP.out,if_pos hgo.out]
   exact JPost.ok hw
end Go.Proofs.YtnalakhelicjcaaGreatDoor
set_option maxRecDepth 100000
namespace Go.Proofs.YtnalakhelicjcaaGreatDoor
open Go.RowKit Go.Shelf Go.BigFrame
def lastS (l:List M):Nat → Int
 | 0=>0
 | k + 1=>(l.getD k M.zero).stamp
def stepJ (a b:Nat) (l:List M) (t:Nat):Bool:=((l.getD t M.zero).src == (a:Int)) && (((a:Int) != (b:Int)) && decide (lastS l t < (l.getD t M.zero).stamp))
def wireJ (X:Wd) (a b:Nat):Int:=
 if (List.range ((X.wires.getD a []).getD b []).length).all (stepJ a b ((X.wires.getD a []).getD b [])) = true then listR X ((X.wires.getD a []).getD b []) b else 1
set_option maxHeartbeats 2000000 in
theorem jwire_c {w:World} {gv nv wv:Value} {X:Wd} (hg:Ints w gv X.groups) (hn:Nodes w nv X.nodes) (hw:Wires w wv X.wires) {a b:Nat} (ha:a < X.wires.length) (hb:b < (X.wires.getD a []).length) :
  Calls Tryz.prog 156 #[.agg #[gv,nv,wv], .int .i64 a, .int .i64 b] w (JPost (wireJ X a b) w):=by
 obtain ⟨hnl,na,ncap,rfl,_⟩:=hn.form
 obtain ⟨hgl,ga,gcap,rfl,_⟩:=hg.open
 obtain ⟨bw,ow,wcap,u1,rfl,hwc,r1,hu1⟩:=hw.row ha
 obtain ⟨bx,ox,xcap,u2,rfl,hxc,r2,hu2⟩:=hu1.at hb
 have hA:=below_a1 w (.cells #[.slice ga X.groups.length gcap, .slice na X.nodes.length ncap, .slice (some ⟨bw,ow,none⟩) X.wires.length wcap] 171)
 have hB:=WBox.new w (.slice ga X.groups.length gcap) (.slice na X.nodes.length ncap) (.slice (some ⟨bw,ow,none⟩) X.wires.length wcap) 171
 obtain ⟨P,hP⟩:∃ P,JPost (wireJ X a b) w = P:=⟨_,rfl⟩
 rw [hP]
 unfold wireJ at hP
 obtain ⟨l,hl⟩:∃ l,(X.wires.getD a []).getD b [] = l:=⟨_,rfl⟩
 rw [hl] at hP hu2
 clear hl
 obtain ⟨hll,ua,ucap,rfl,huc,hc⟩:=hu2.open
 replace hc:=Lib.hid hc
 replace hP:=Lib.hid hP
 obtain ⟨rl,hrl⟩:∃ rl,(X.wires.getD a []).length = rl:=⟨_,rfl⟩
 rw [hrl] at r1 hxc hb
 clear hrl
 have hk1:=cell_lt r1
 have hk2:=cell_lt r2
 dsimp only at hk1 hk2
 go_enter Tryz.func156,Tryz.ntmps156
 go_upto_region 1 with fail
 generalize w.alloc (.cells #[.slice ga X.groups.length gcap, .slice na X.nodes.length ncap, .slice (some ⟨bw,ow,none⟩) X.wires.length wcap] 171) = wA at *
 have q1:=(hA.cell (p:=⟨bw,ow + a,none⟩) hk1).trans r1
 have q2:=(hA.cell (p:=⟨bx,ox + b,none⟩) hk2).trans r2
 obtain ⟨x0,x1,x2⟩:=id hB
 have hlA:=cell_lt x0
 dsimp only at hlA
 go_wp2_with fail
 go_loopw [6,19] (fun s i wr=>∃ k:Nat,k ≤ l.length ∧ i = .int .i64 k ∧ s = .int .i64 (lastS l k) ∧ Hid (∀ t,t < k → stepJ a b l t = true) ∧ Below wA.heap.size wA wr) (fun _ i _=>l.length - (intOf i).toNat)
 case atStart=>exact ⟨0,by omega,rfl,rfl,fun t ht=>absurd ht (Nat.not_lt_zero _),Below.refl _ _⟩
 case round =>
  clear q1 q2 x0 x1 x2
  obtain ⟨k,hk,rfl,rfl,hgo,hbw⟩:=hrel
  obtain ⟨x0,x1,x2⟩:=hB.below hbw hlA
  have hww:=below_trans hA hbw
  have q1:=(hww.cell (p:=⟨bw,ow + a,none⟩) hk1).trans r1
  have q2:=(hww.cell (p:=⟨bx,ox + b,none⟩) hk2).trans r2
  by_cases hlt:k < l.length
  ·obtain ⟨bm,off,rfl,hcc⟩:=hc.out (by intro e;subst e;simp at hlt)
   have hm:=(hcc k hlt).below hww
   have hls:lastS l (k + 1) = (l.getD k M.zero).stamp:=rfl
   have hst:stepJ a b l k = (((l.getD k M.zero).src == (a:Int)) && (((a:Int) != (b:Int)) && decide (lastS l k < (l.getD k M.zero).stamp))):=rfl
   obtain ⟨m,HM⟩:∃ m,l.getD k M.zero = m:=⟨_,rfl⟩
   rw [HM] at hm hls hst
   clear HM
   obtain ⟨m0,m1,m2,m3,m4⟩:=hm
   obtain ⟨s,hs⟩:∃ s,lastS l k = s:=⟨_,rfl⟩
   rw [hs] at hst ⊢
   clear hs
   replace hls:=Lib.hid hls
   have hMB:=MsgBox.new wr m 96
   have hbM:=below_a1 wr (.cells #[.int .i64 m.src, .int .i64 m.grp, .int .i64 m.stamp, .bool m.null, .string m.body] 96)
   cases hv:stepJ a b l k
   ·rw [hv] at hst
    replace hv:=Lib.hid hv
    replace hst:=Lib.hid hst
    go_upto_region 5 with fail
    generalize wr.alloc (.cells #[.int .i64 m.src, .int .i64 m.grp, .int .i64 m.stamp, .bool m.null, .string m.body] 96) = wM at *
    obtain ⟨y0,y1,y2,y3,y4⟩:=hMB
    go_wp2_with fail
    refine (must_f 1 (Bools.new3 _ _ _ _ _) (by omega) ?_).mono ?_
    ·have:=hst.out
     simpa using this
    rintro e w3 ⟨rfl,rfl⟩
    go_wp2_with fail
    refine ⟨rfl, ?_⟩
    rw [← hP.out,if_neg (by rw [range_all_f hlt hv.out];simp)]
    exact JPost.bad (by decide) (below_trans (below_trans hww hbM) (below_a1 _ _))
   ·rw [hv] at hst
    replace hst:=Lib.hid hst
    go_upto_region 5 with fail
    generalize wr.alloc (.cells #[.int .i64 m.src, .int .i64 m.grp, .int .i64 m.stamp, .bool m.null, .string m.body] 96) = wM at *
    obtain ⟨y0,y1,y2,y3,y4⟩:=id hMB
    go_wp2_with fail
    refine (must_t 1 (Bools.new3 _ _ _ _ _) (by omega) ?_).mono ?_
    ·have:=hst.out
     simpa using this.symm
    rintro e w3 ⟨rfl,rfl⟩
    clear y0 y1 y2 y3 y4
    have hlM:=cell_lt hMB.1
    dsimp only at hlM
    obtain ⟨y0,y1,y2,y3,y4⟩:=hMB.below (below_a1 wM (.cells #[.bool (m.src == (a:Int)), .bool ((a:Int) != (b:Int)), .bool (decide (s < m.stamp))] 4)) hlM
    go_wp2_with fail
    go_roundw
    case rel=>exact ⟨k + 1,by omega,by go_num,by rw [hls.out],fun t ht=>by
              rcases Nat.lt_succ_iff_lt_or_eq.1 ht with h | h
              ·exact hgo.out t h
              ·rw [h];exact hv,below_trans (below_trans hbw hbM) (below_a1 _ _)⟩
    case measure=>simp [intOf];omega
  ·obtain rfl:k = l.length:=by omega
   have hall:=range_all_t hgo.out
   have hl1:=cell_lt x0
   have hl2:=cell_lt q1
   have hl3:=cell_lt q2
   dsimp only at hl1 hl2 hl3
   replace hall:=Lib.hid hall
   go_wp2_with fail
   refine wp_region_over_tail 11 (by kernel_rfl) (by kernel_rfl) ?_
   simp only [List.take_succ_cons,List.take_zero,List.drop_succ_cons,List.drop_zero]
   repeat (go_big_quiet_step (fail))
   refine wpQuiet_nil ?_
   rintro w2 ⟨⟨_,hb2⟩,rfl⟩
   have hw2:=below_trans hww hb2
   have hL:=list_c (hg.below hw2) (hn.below hw2) (wv:=.slice (some ⟨bw,ow,none⟩) X.wires.length wcap) (hu2.below hw2) (b:Int)
   obtain ⟨r,hr⟩:∃ r,listR X l (b:Int) = r:=⟨_,rfl⟩
   rw [hr] at hL
   have hPr:JPost r w = P:=by rw [← hP.out,if_pos hall.out,hr]
   clear hr hall hP
   replace hPr:=Lib.hid hPr
   go_wp2_with fail
   refine hL.mono ?_
   rintro e w3 ⟨h,hb3⟩
   rcases h with ⟨hr0,rfl⟩ | ⟨hr0,rfl⟩
   ·subst hr0
    go_wp2_with fail
    go_end0
    rw [← hPr.out]
    exact JPost.ok (below_trans hw2 hb3)
   ·replace hr0:=Lib.hid hr0
    go_wp2_with fail
    refine ⟨rfl, ?_⟩
    rw [← hPr.out]
    exact JPost.bad hr0.out (below_trans hw2 hb3)
end Go.Proofs.YtnalakhelicjcaaGreatDoor
set_option maxRecDepth 100000
namespace Go.Proofs.YtnalakhelicjcaaGreatDoor
open Go.RowKit Go.Shelf Go.BigFrame
def PredM (P:Program) (g:Nat) (lb:Array Value) (p:M → Bool) (w:World):Prop:=
 (∀ args w,(callFunc g args).run P w = .ok (.enter g args) w) ∧ ∀ W (m:M),Below w.heap.size w W → Calls P g (#[m.val] ++ lb) W (GivesB (.bool (p m)) W)
def idxM (p:M → Bool) (xs:List M):Int:=match xs.findIdx? p with | some k=>(k:Int) | none=>-1
theorem idxM_hit {p:M → Bool} {xs:List M} {k:Nat} (hk:k < xs.length) (h:p (xs.getD k M.zero) = true) (hb:∀ j,j < k → p (xs.getD j M.zero) = false):idxM p xs = k:=by
 unfold idxM
 rw [List.findIdx?_eq_some_iff_getElem.2 ⟨hk, ?_, ?_⟩]
 ·simpa [hk] using h
 ·intro j hj
  have:=hb j hj
  simpa [Nat.lt_trans hj hk] using this
theorem idxM_miss {p:M → Bool} {xs:List M} (h:∀ j,j < xs.length → p (xs.getD j M.zero) = false):idxM p xs = -1:=by
 unfold idxM
 rw [List.findIdx?_eq_none_iff.2]
 intro x hx
 obtain ⟨j,hj,rfl⟩:=List.mem_iff_getElem.1 hx
 have:=h j hj
 simpa [hj] using this
theorem idxM_any (p:M → Bool) (xs:List M):decide (0 ≤ idxM p xs) = xs.any p:=by
 unfold idxM
 cases h:xs.findIdx? p with
 | none =>
  rw [List.findIdx?_eq_none_iff] at h
  rw [List.any_eq_false.2 (fun x hx=>by simp [h x hx])]
  rfl
 | some k =>
  obtain ⟨hk,h2,_⟩:=List.findIdx?_eq_some_iff_getElem.1 h
  rw [List.any_eq_true.2 ⟨_,List.getElem_mem hk,h2⟩]
  simp
theorem IndexFuncM_c {w:World} {v:Value} {ms:List M} (h:Msgs w v ms) (g:Nat) (lb:Array Value) (p:M → Bool) (hp:PredM Tryz.prog g lb p w) :
  Calls Tryz.prog 173 #[v, .func (.func g) #[] lb] w (GivesB (.int .i64 (idxM p ms)) w):=by
 obtain ⟨hl,a,cap,rfl,_,hc⟩:=h.open
 replace hc:=Lib.hid hc
 obtain ⟨eg,hp⟩:=hp
 have hpH:=Lib.hid hp;clear hp
 have hh:=Lib.hid (fun (k:Nat) (hk:k < ms.length) (h1:p (ms.getD k M.zero) = true) (h2:∀ j,j < k → p (ms.getD j M.zero) = false)=>idxM_hit (p:=p) hk h1 h2)
 have hmi:=Lib.hid (fun (h:∀ j,j < ms.length → p (ms.getD j M.zero) = false)=>idxM_miss (p:=p) h)
 generalize idxM p ms = r at *
 go_enter Tryz.func173,Tryz.ntmps173
 go_wp2_with fail
 go_loopw [8] (fun i wr=>∃ k:Nat,k ≤ ms.length ∧ i = .int .i64 k ∧ Hid (∀ j,j < k → p (ms.getD j M.zero) = false) ∧ Below w.heap.size w wr) (fun i _=>ms.length - (intOf i).toNat)
 case atStart=>exact ⟨0,by omega,rfl,fun j hj=>absurd hj (Nat.not_lt_zero _),Below.refl _ _⟩
 case round =>
  obtain ⟨k,hk,rfl,hA,hb⟩:=hrel
  by_cases hlt:k < ms.length
  ·obtain ⟨bm,off,rfl,hcc⟩:=hc.out (by intro e;subst e;simp at hlt)
   obtain ⟨m0,m1,m2,m3,m4⟩:=(hcc k hlt).below hb
   obtain ⟨m,HM⟩:∃ m,ms.getD k M.zero = m:=⟨_,rfl⟩
   rw [HM] at m0 m1 m2 m3 m4
   replace HM:=Lib.hid HM
   have hcall:=hpH.out wr m hb
   unfold M.val at hcall
   cases hq:p m
   ·rw [hq] at hcall
    replace hq:=Lib.hid hq
    go_wp2_with (go_at_fn g;refine hcall.mono ?_;rintro e w' ⟨rfl,hd'⟩)
    go_roundw
    case rel =>
     refine ⟨k + 1,by omega,by go_num,fun j hj=>?_,below_trans hb hd'⟩
     by_cases e:j = k
     ·subst e;rw [HM.out];exact hq.out
     ·exact hA.out j (by omega)
    case measure=>simp [intOf];omega
   ·rw [hq] at hcall
    replace hq:=Lib.hid hq
    go_wp2_with (go_at_fn g;refine hcall.mono ?_;rintro e w' ⟨rfl,hd'⟩)
    go_ret
    exact givesB_int (below_trans hb hd') (hh.out k hlt (by rw [HM.out];exact hq.out) hA.out).symm
  ·obtain rfl:k = ms.length:=by omega
   go_wp2_with fail
   go_ret
   exact givesB_int hb (hmi.out hA.out).symm
theorem ContainsFuncM_c {w:World} {v:Value} {ms:List M} (h:Msgs w v ms) (g:Nat) (lb:Array Value) (p:M → Bool) (hp:PredM Tryz.prog g lb p w) :
  Calls Tryz.prog 166 #[v, .func (.func g) #[] lb] w (GivesB (.bool (ms.any p)) w):=by
 have hcall:=IndexFuncM_c h g lb p hp
 have HE:=Lib.hid (idxM_any p ms)
 generalize idxM p ms = k at hcall HE
 clear hp h
 go_enter Tryz.func166,Tryz.ntmps166
 go_wp2_with (go_at_call 173;refine hcall.mono ?_;rintro e w' ⟨rfl,hd'⟩)
 go_ret
 exact givesB_bool hd' HE.out
theorem stamp_c (w:World) (s:Int):Calls Tryz.prog 165 #[.int .i64 s] w fun e w'=>e = .returned (.bool (inB s 0 1048576)) ∧ w = w':=by
 by_cases h0:0 ≤ s
 ·by_cases h1:s ≤ 1048576
  ·go_enter Tryz.func165,Tryz.ntmps165
   go_wp2_with fail
   go_ret
   exact ⟨ret_bool (by simp [inB,h0,h1]),rfl⟩
  ·go_enter Tryz.func165,Tryz.ntmps165
   go_wp2_with fail
   go_ret
   exact ⟨ret_bool (by simp [inB,h1];try omega),rfl⟩
 ·go_enter Tryz.func165,Tryz.ntmps165
  go_wp2_with fail
  go_ret
  exact ⟨ret_bool (by simp [inB];omega),rfl⟩
theorem null_c (w:World) (m:M):Calls Tryz.prog 167 #[m.val] w (GivesB (.bool m.null) w):=by
 unfold M.val
 have hM:=MsgBox.new w m 96
 have hA:=below_a1 w (.cells #[.int .i64 m.src, .int .i64 m.grp, .int .i64 m.stamp, .bool m.null, .string m.body] 96)
 go_enter Tryz.func167,Tryz.ntmps167
 go_wp2_with fail
 go_ret
 exact givesB_bool hA rfl
theorem null_p (w:World):PredM Tryz.prog 167 #[] (fun m=>m.null) w:=
 ⟨enters_of Tryz.func167 (by kernel_rfl) rfl,fun W m _=>null_c W m⟩
end Go.Proofs.YtnalakhelicjcaaGreatDoor
