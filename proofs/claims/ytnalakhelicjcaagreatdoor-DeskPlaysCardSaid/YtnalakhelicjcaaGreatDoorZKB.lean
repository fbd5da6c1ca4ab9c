/-
  Worlds, the document's answer: how far a node is; what is ready.
  Worlds, the document's answer: what is ready.
  Worlds, the document's answer: a node is told what is ready.
  Worlds, the document's answer: a node holds a message.
  Right worlds, in plain words; casting, in plain words.
-/
import Derived.Test.YtnalakhelicjcaaGreatDoorZKW
import Derived.Test.YtnalakhelicjcaaGreatDoorZKO
import Derived.Deep.CutRange
import Derived.Deep.RegionHeld3
set_option maxRecDepth 100000
namespace Go.Proofs.YtnalakhelicjcaaGreatDoor
open Go.RowKit Go.Shelf Go.BigFrame
def boundS (X:Wd) (n g k:Nat) (a:Int):Int:=if (k != n && hasB X.groups g n && hasB X.groups g k) = true then min a (((X.nodes.getD n N.zero).last.getD g []).getD k 0) else a
def boundG (X:Wd) (n g:Nat) (m:Nat) (a:Int):Int:=(List.range m).foldl (fun a k=>boundS X n g k a) a
def boundM (X:Wd) (n:Nat) (m:Nat):Int:=(List.range m).foldl (fun a g=>boundG X n g X.nodes.length a) (X.nodes.getD n N.zero).clock
def boundX (X:Wd) (n:Nat):Int:=boundM X n X.groups.length
theorem boundG_succ (X:Wd) (n g m:Nat) (a:Int):boundG X n g (m + 1) a = boundS X n g m (boundG X n g m a):=by simp [boundG,List.range_succ]
theorem boundM_succ (X:Wd) (n m:Nat):boundM X n (m + 1) = boundG X n m X.nodes.length (boundM X n m):=by simp [boundM,List.range_succ]
theorem boundS_eq (X:Wd) (n g k:Nat) (a s:Int) (h:((X.nodes.getD n N.zero).last.getD g []).getD k 0 = s) :
  (k = n ∧ boundS X n g k a = a) ∨ (k ≠ n ∧ hasB X.groups g n = false ∧ boundS X n g k a = a) ∨ (k ≠ n ∧ hasB X.groups g n = true ∧ hasB X.groups g k = false ∧ boundS X n g k a = a) ∨
  (k ≠ n ∧ hasB X.groups g n = true ∧ hasB X.groups g k = true ∧ boundS X n g k a = min a s):=by
 subst h
 unfold boundS
 by_cases e:k = n
 ·exact Or.inl ⟨e,if_neg (by simp [e])⟩
 ·cases h1:hasB X.groups g n
  ·exact Or.inr (Or.inl ⟨e,rfl,if_neg (by simp)⟩)
  ·cases h2:hasB X.groups g k
   ·exact Or.inr (Or.inr (Or.inl ⟨e,rfl,rfl,if_neg (by simp)⟩))
   ·exact Or.inr (Or.inr (Or.inr ⟨e,rfl,rfl,if_pos (by simp [e])⟩))
def TabN (X:Wd) (n:Nat):Prop:=(X.nodes.getD n N.zero).last.length = X.groups.length ∧ ∀ r ∈ (X.nodes.getD n N.zero).last,r.length = X.nodes.length
set_option maxHeartbeats 2000000 in
theorem bound_c {w:World} {gv nv wv:Value} {X:Wd} (hg:Ints w gv X.groups) (hn:Nodes w nv X.nodes) {n:Nat} (hn1:n < X.nodes.length) (ht:TabN X n) :
  Calls Tryz.prog 48 #[.agg #[gv,nv,wv], .int .i64 n] w (GivesB (.int .i64 (boundX X n)) w):=by
 obtain ⟨hnl,_⟩:=hn.form
 obtain ⟨hgl,ga,gcap,rfl,_⟩:=hg.open
 obtain ⟨b1,o1,c1,lv,hv,tv,rfl,hc1,k0,k1,k2,k3,hcl,hr,hh,htt⟩:=hn.at hn1
 obtain ⟨hrl,la,lcap,rfl,hlc⟩:=hr.form
 obtain ⟨_,ha,hcap,rfl,_⟩:=hh.open
 obtain ⟨_,ta,tcap,rfl,_⟩:=htt.open
 have hA:=below_a2 w (.cells #[.slice ga X.groups.length gcap, .slice (some ⟨b1,o1,none⟩) X.nodes.length c1,wv] 35) (.cells #[.int .i64 (X.nodes.getD n N.zero).clock, .slice la (X.nodes.getD n N.zero).last.length lcap, .slice ha (X.nodes.getD n N.zero).held.length hcap, .slice ta (X.nodes.getD n N.zero).told.length tcap] 65)
 have hB0:=WBox.new w (.slice ga X.groups.length gcap) (.slice (some ⟨b1,o1,none⟩) X.nodes.length c1) wv 35
 have hNb:=NBox.new (w.alloc (.cells #[.slice ga X.groups.length gcap, .slice (some ⟨b1,o1,none⟩) X.nodes.length c1,wv] 35)) (X.nodes.getD n N.zero) (.slice la (X.nodes.getD n N.zero).last.length lcap) (.slice ha (X.nodes.getD n N.zero).held.length hcap) (.slice ta (X.nodes.getD n N.zero).told.length tcap) 65
 have hB:=hB0.below (below_a1 _ (.cells #[.int .i64 (X.nodes.getD n N.zero).clock, .slice la (X.nodes.getD n N.zero).last.length lcap, .slice ha (X.nodes.getD n N.zero).held.length hcap, .slice ta (X.nodes.getD n N.zero).told.length tcap] 65)) (by rw [World.size_alloc];omega)
 rw [World.size_alloc] at hNb
 clear hB0
 have hSS:=Lib.hid (fun g k a s=>boundS_eq X n g k a s)
 have hGS:=Lib.hid (fun g m a=>boundG_succ X n g m a)
 have hMS:=Lib.hid (fun m=>boundM_succ X n m)
 have hEnd:boundX X n = boundM X n X.groups.length:=rfl
 have hM0:boundM X n 0 = (X.nodes.getD n N.zero).clock:=rfl
 have hG0:∀ g a,boundG X n g 0 a = a:=fun _ _=>rfl
 replace hG0:=Lib.hid hG0
 generalize boundX X n = R at *
 have htl:=ht.1
 replace ht:=Lib.hid ht.2
 obtain ⟨x,HX⟩:∃ x,X.nodes.getD n N.zero = x:=⟨_,rfl⟩
 simp only [HX] at *
 clear HX
 replace hEnd:=Lib.hid hEnd
 replace hM0:=Lib.hid hM0
 have hkb:=cell_lt k0
 dsimp only at hkb
 have htle:x.last.length ≤ X.groups.length ∧ X.groups.length ≤ x.last.length:=⟨by omega,by omega⟩
 clear htl
 go_enter Tryz.func48,Tryz.ntmps48
 go_wp2_with fail
 generalize (w.alloc (.cells #[.slice ga X.groups.length gcap, .slice (some ⟨b1,o1,none⟩) X.nodes.length c1,wv] 35)).alloc (.cells #[.int .i64 x.clock, .slice la x.last.length lcap, .slice ha x.held.length hcap, .slice ta x.told.length tcap] 65) = wA at *
 obtain ⟨x0,x1,x2⟩:=hB
 obtain ⟨y0,y1,y2,y3⟩:=hNb
 go_loop [6,7] (fun o i=>∃ g:Nat,g ≤ X.groups.length ∧ i = .int .i64 g ∧ o = .int .i64 (boundM X n g)) (fun _ i=>X.groups.length - (intOf i).toNat)
 case atStart=>exact ⟨0,by omega,rfl,by rw [hM0.out]⟩
 case round =>
  obtain ⟨g,hgn,rfl,rfl⟩:=hrel
  by_cases hlt:g < X.groups.length
  ·go_wp2_with fail
   go_loop [6,8] (fun o i=>∃ k:Nat,k ≤ X.nodes.length ∧ i = .int .i64 k ∧ o = .int .i64 (boundG X n g k (boundM X n g))) (fun _ i=>X.nodes.length - (intOf i).toNat)
   case atStart=>exact ⟨0,by omega,rfl,by rw [hG0.out]⟩
   case round =>
    obtain ⟨k,hkn,rfl,rfl⟩:=hrel
    by_cases hlk:k < X.nodes.length
    ·obtain ⟨b2,o2,c2,u,e2,_,r1,hu⟩:=hr.at (show g < x.last.length by omega)
     cases e2
     obtain ⟨row,HR⟩:∃ row,x.last.getD g [] = row:=⟨_,rfl⟩
     have hrl2:row.length = X.nodes.length:=ht.out row (by rw [← HR,getD_lt x.last [] (show g < x.last.length by omega)];exact List.getElem_mem _)
     have hrle:row.length ≤ X.nodes.length ∧ X.nodes.length ≤ row.length:=⟨by omega,by omega⟩
     clear hrl2
     rw [HR] at hu
     obtain ⟨b3,o3,c3,rfl,_,q1,hq64⟩:=hu.at (show k < row.length by omega)
     obtain ⟨s,HS⟩:∃ s,row.getD k 0 = s:=⟨_,rfl⟩
     rw [HS] at q1
     have hcase:=hSS.out g k (boundG X n g k (boundM X n g)) s (by rw [HR,HS])
     clear HR HS
     have r1:=(hA.cell (p:=⟨b2,o2 + g,none⟩) (cell_lt r1)).trans r1
     have q1:=(hA.cell (p:=⟨b3,o3 + k,none⟩) (cell_lt q1)).trans q1
     have hH1:=HasOf_c (hg.below hA) g n
     have hH2:=HasOf_c (hg.below hA) g k
     have hgs:=Lib.hid (hGS.out g k (boundM X n g))
     rcases hcase with ⟨e,hv⟩ | ⟨e,h1,hv⟩ | ⟨e,h1,h2,hv⟩ | ⟨e,h1,h2,hv⟩
     ·have hb:((k:Int) != (n:Int)) = false:=by simp;omega
      replace hv:=Lib.hid hv
      clear e
      go_wp2_with fail
      go_round
      case rel=>exact ⟨k + 1,by omega,by go_num,by rw [hgs.out,hv.out]⟩
      case measure=>simp [intOf];omega
     ·have hb:((k:Int) != (n:Int)) = true:=by simp;omega
      replace hv:=Lib.hid hv
      rw [h1] at hH1
      clear e h1
      go_wp2_with (go_at_call 68;refine hH1.mono ?_;clear hH1;rintro e w' ⟨rfl,rfl⟩)
      go_round
      case rel=>exact ⟨k + 1,by omega,by go_num,by rw [hgs.out,hv.out]⟩
      case measure=>simp [intOf];omega
     ·have hb:((k:Int) != (n:Int)) = true:=by simp;omega
      replace hv:=Lib.hid hv
      rw [h1] at hH1
      rw [h2] at hH2
      clear e h1 h2
      go_wp2_with (first | (go_at_call 68;refine hH1.mono ?_;clear hH1;rintro e w' ⟨rfl,rfl⟩) | (go_at_call 68;refine hH2.mono ?_;clear hH2;rintro e w' ⟨rfl,rfl⟩))
      go_round
      case rel=>exact ⟨k + 1,by omega,by go_num,by rw [hgs.out,hv.out]⟩
      case measure=>simp [intOf];omega
     ·have hb:((k:Int) != (n:Int)) = true:=by simp;omega
      replace hv:=Lib.hid hv
      rw [h1] at hH1
      rw [h2] at hH2
      clear e h1 h2
      go_wp2_with (first | (go_at_call 68;refine hH1.mono ?_;clear hH1;rintro e w' ⟨rfl,rfl⟩) | (go_at_call 68;refine hH2.mono ?_;clear hH2;rintro e w' ⟨rfl,rfl⟩))
      go_round
      case rel=>exact ⟨k + 1,by omega,by go_num,by rw [hgs.out,hv.out];congr 1;split <;> omega⟩
      case measure=>simp [intOf];omega
    ·obtain rfl:k = X.nodes.length:=by omega
     have hms:=Lib.hid (hMS.out g)
     go_wp2_with fail
     go_round
     case rel=>exact ⟨g + 1,by omega,by go_num,by rw [hms.out]⟩
     case measure=>simp [intOf];omega
  ·obtain rfl:g = X.groups.length:=by omega
   go_wp2_with fail
   go_ret
   exact givesB_int hA hEnd.out.symm
end Go.Proofs.YtnalakhelicjcaaGreatDoor
set_option maxRecDepth 100000
namespace Go.Proofs.YtnalakhelicjcaaGreatDoor
open Go.RowKit Go.Shelf Go.BigFrame
def readyL (ms:List M) (far:Int):List M:=ms.filter fun m=>decide (m.stamp ≤ far)
def readyX (X:Wd) (n:Nat):List M:=readyL (X.nodes.getD n N.zero).held (boundX X n)
theorem readyL_succ {ms:List M} {far:Int} {k:Nat} (hk:k < ms.length) :
  (decide ((ms.getD k M.zero).stamp ≤ far) = true → readyL (ms.take (k + 1)) far = readyL (ms.take k) far ++ [ms.getD k M.zero]) ∧
  (decide ((ms.getD k M.zero).stamp ≤ far) = false → readyL (ms.take (k + 1)) far = readyL (ms.take k) far):=by
 rw [getD_lt ms M.zero hk,List.take_succ_eq_append_getElem hk]
 unfold readyL
 rw [List.filter_append]
 exact ⟨fun h=>by simp [h],fun h=>by simp [h]⟩
theorem readyL_le (ms:List M) (far:Int) (k:Nat):(readyL (ms.take k) far).length ≤ k:=by
 unfold readyL
 exact Nat.le_trans (List.length_filter_le _ _) (by rw [List.length_take];omega)
set_option maxHeartbeats 2000000 in
theorem ready_c {w:World} {gv nv wv:Value} {X:Wd} (hg:Ints w gv X.groups) (hn:Nodes w nv X.nodes) (hwi:Wires w wv X.wires) {n:Nat} (hn1:n < X.nodes.length) (ht:TabN X n) (hs:(X.nodes.getD n N.zero).held.length ≤ 1000) :
  Calls Tryz.prog 112 #[.agg #[gv,nv,wv], .int .i64 n] w (fun e w'=>∃ v',e = .returned v' ∧ MsgsOwn w' w.heap.size v' (readyX X n) ∧ Below w.heap.size w w'):=by
 have hBc:=fun (o:World) (h1:Ints o gv X.groups) (h2:Nodes o nv X.nodes)=>bound_c (wv:=wv) h1 h2 hn1 ht
 obtain ⟨hnl,_⟩:=hn.form
 obtain ⟨hgl,ga,gcap,rfl,_⟩:=hg.open
 obtain ⟨_,wa,wcap,rfl,_⟩:=hwi.form
 obtain ⟨b1,o1,c1,lv,hv,tv,rfl,hc1,_,_,k2,_,_,_,hh,_⟩:=hn.at hn1
 obtain ⟨hhl,ha,hcap,rfl,_,hc⟩:=hh.open
 obtain ⟨i0,hi0,hz0,hz1,hz2⟩:=info_parts infoCMsg
 have hA:=below_a1 w (.cells #[.slice ga X.groups.length gcap, .slice (some ⟨b1,o1,none⟩) X.nodes.length c1, .slice wa X.wires.length wcap] 35)
 have hB:=WBox.new w (.slice ga X.groups.length gcap) (.slice (some ⟨b1,o1,none⟩) X.nodes.length c1) (.slice wa X.wires.length wcap) 35
 have hsA:(w.alloc (.cells #[.slice ga X.groups.length gcap, .slice (some ⟨b1,o1,none⟩) X.nodes.length c1, .slice wa X.wires.length wcap] 35)).heap.size = w.heap.size + 1:=World.size_alloc _ _
 have hEnd:readyX X n = readyL (X.nodes.getD n N.zero).held (boundX X n):=rfl
 generalize readyX X n = R at *
 generalize boundX X n = far at *
 obtain ⟨ms,HX⟩:∃ ms,(X.nodes.getD n N.zero).held = ms:=⟨_,rfl⟩
 simp only [HX] at *
 clear HX
 replace hEnd:=Lib.hid hEnd
 have hfit:=Lib.hid hh.1
 replace hc:=Lib.hid hc
 have hkb:=cell_lt k2
 dsimp only at hkb
 go_enter Tryz.func112,Tryz.ntmps112
 go_wp2_with fail
 generalize w.alloc (.cells #[.slice ga X.groups.length gcap, .slice (some ⟨b1,o1,none⟩) X.nodes.length c1, .slice wa X.wires.length wcap] 35) = wA at *
 go_loopw [5,6] (fun o i wr=>∃ k:Nat,k ≤ ms.length ∧ i = .int .i64 k ∧ wr.ownsRow (w.heap.size + 1) 96 5 o (readyL (ms.take k) far).length ((readyL (ms.take k) far).flatMap M.cells) ∧ Below (w.heap.size + 1) wA wr) (fun _ i _=>ms.length - (intOf i).toNat)
 case atStart=>exact ⟨0,by omega,rfl,by simp only [List.take_zero];exact World.ownsRow_nil _ _ _ _,Below.refl _ _⟩
 case round =>
  obtain ⟨k,hk,rfl,ho,hb⟩:=hrel
  have hbs:=hb.size
  have hw4:Below w.heap.size w wr:=hA.trans (hb.mono (by omega))
  obtain ⟨x0,x1,x2⟩:=hB.below hb (by omega)
  have k2':=(hw4.cell (p:=⟨b1,o1 + n * 4 + 2,none⟩) hkb).trans k2
  obtain ⟨a5,cap5,rfl⟩:=own_form ho
  have hle:=readyL_le ms far k
  by_cases hlt:k < ms.length
  ·obtain ⟨b,off,rfl,hcc⟩:=hc.out (by intro e;subst e;simp at hlt)
   obtain ⟨d,hd⟩:∃ d,ms.getD k M.zero = d:=⟨_,rfl⟩
   obtain ⟨d0,d1,d2,d3,d4⟩:=(hcc k hlt).below hw4
   have hsc:=readyL_succ (far:=far) hlt
   rw [hd] at d0 d1 d2 d3 d4 hsc
   replace hd:=Lib.hid hd
   replace hsc:=Lib.hid hsc
   have hM:=MsgBox.new wr d 96
   have hbM:=below_a1 wr (.cells #[.int .i64 d.src, .int .i64 d.grp, .int .i64 d.stamp, .bool d.null, .string d.body] 96)
   have hoM:=ho.alloc (.cells #[.int .i64 d.src, .int .i64 d.grp, .int .i64 d.stamp, .bool d.null, .string d.body] 96)
   have hlt':decide ((k:Int) < (ms.length:Int)) = true:=decide_eq_true (by omega)
   go_wp2_with fail
   generalize wr.alloc (.cells #[.int .i64 d.src, .int .i64 d.grp, .int .i64 d.stamp, .bool d.null, .string d.body] 96) = wM at *
   have hwM:=below_trans hw4 hbM
   have hgI:=hg.below hwM
   have hnI:=hn.below hwM
   obtain ⟨m0,m1,m2,m3,m4⟩:=hM
   obtain ⟨y0,y1,y2⟩:=(hB.below hb (by omega)).below hbM (by omega)
   have hmb:=cell_lt m0
   have hyb:=cell_lt y0
   dsimp only at hmb hyb
   cases hdec:decide (d.stamp ≤ far)
   ·replace hdec':=Lib.hid hdec
    refine wp_region_over (by kernel_rfl) (by kernel_rfl) ?_
    repeat (go_big_quiet_step (exact over_c (hBc _ (hgI.below (Over.h _)) (hnI.below (Over.h _)))))
    refine wpQuiet_nil ?_
    rintro w5 ⟨⟨_,hb5⟩,rfl⟩
    go_wp2_with fail
    go_roundw
    case rel=>exact ⟨k + 1,by omega,by go_num,by rw [hsc.out.2 hdec'.out];exact owns_below (owns_below ho hbM) hb5,(hb.trans (hbM.mono (by omega))).trans (hb5.mono (by omega))⟩
    case measure=>simp [intOf];omega
   ·replace hdec':=Lib.hid hdec
    refine wp_region_over (by kernel_rfl) (by kernel_rfl) ?_
    repeat (go_big_quiet_step (exact over_c (hBc _ (hgI.below (Over.h _)) (hnI.below (Over.h _)))))
    refine wpQuiet_nil ?_
    rintro w5 ⟨⟨_,hb5⟩,rfl⟩
    have hs5:=hb5.size
    have q0:=(hb5.cell (p:=⟨wr.heap.size,0,none⟩) hmb).trans m0
    have q1:=(hb5.cell (p:=⟨wr.heap.size,1,none⟩) hmb).trans m1
    have q2:=(hb5.cell (p:=⟨wr.heap.size,2,none⟩) hmb).trans m2
    have q3:=(hb5.cell (p:=⟨wr.heap.size,3,none⟩) hmb).trans m3
    have q4:=(hb5.cell (p:=⟨wr.heap.size,4,none⟩) hmb).trans m4
    have ho5:=owns_below hoM hb5
    have hb6:=(hb.trans (hbM.mono (by omega))).trans (hb5.mono (by omega))
    go_wp2_with (first
     |(at_builtin;refine wpList_append_own _ rfl _ _ 63 rfl (w.heap.size + 1) 96 i0 _ 5 48 Tryz.underlying63 hi0 hz0 hz1 hz2 rfl (by decide) _ _ _ rfl (ho5.alloc _) ⟨w5.heap.size,0,none⟩ 1 1 d.cells rfl rfl (cells_new _ _ _) (by simp [M.cells,Value.oneCell']) (by unfold maxLen;omega) (by omega) (by simp;omega) ?_;intro v' w1 hown' hgrow _))
    go_roundw
    case rel =>
     refine ⟨k + 1,by omega,by go_num, ?_,below_app hb6 ho5 (by omega) hgrow⟩
     rw [hsc.out.1 hdec'.out]
     simpa using hown'
    case measure=>simp [intOf];omega
  ·obtain rfl:k = ms.length:=by omega
   rw [List.take_length] at ho hle ⊢
   go_wp2_with fail
   go_ret
   refine ⟨_,rfl,⟨fun m hm=>?_, ?_⟩,hw4⟩
   ·rw [hEnd.out] at hm
    exact hfit.out m (List.mem_filter.1 hm |>.1)
   ·rw [hEnd.out]
    exact owns_mono (b:=w.heap.size + 1) ho (by omega)
end Go.Proofs.YtnalakhelicjcaaGreatDoor
set_option maxRecDepth 100000
namespace Go.Proofs.YtnalakhelicjcaaGreatDoor
open Go.RowKit Go.Shelf Go.BigFrame
structure Within (S:Nat → Prop) (w w':World):Prop where
 os:w'.os = w.os
 tape:w'.tape = w.tape
 output:w'.output = w.output
 size:w.heap.size ≤ w'.heap.size
 lies:∀ c,c < w.heap.size → ¬ S c → w'.heap[c]? = w.heap[c]?
theorem Within.below {S:Nat → Prop} {w w':World} (h:Within S w w') {B:Nat} (hB:B ≤ w.heap.size) (hS:∀ c,S c → B ≤ c):Below B w w':=
 ⟨h.os,h.tape,h.output,h.size,fun k hk=>h.lies k (by omega) (fun hs=>by have:=hS k hs;omega)⟩
theorem Within.of_below {S:Nat → Prop} {w w':World} (h:Below w.heap.size w w'):Within S w w':=⟨h.os,h.tape,h.output,h.size,fun c hc _=>h.block c hc⟩
theorem Within.trans {S T:Nat → Prop} {a b c:World} (h:Within S a b) (k:Within T b c) (hT:∀ x,T x → S x ∨ a.heap.size ≤ x):Within S a c:=
 ⟨k.os.trans h.os,k.tape.trans h.tape,k.output.trans h.output,Nat.le_trans h.size k.size,fun x hx hs=>(k.lies x (Nat.lt_of_lt_of_le hx h.size) (fun ht=>(hT x ht).elim hs (fun hle=>by omega))).trans (h.lies x hx hs)⟩
theorem Within.setCell {S:Nat → Prop} {w w':World} (h:Within S w w') {a:Addr} (ha:S a.block) (v:Value):Within S w (w'.setCell a v):=
 ⟨h.os,h.tape,h.output,by rw [Go.Deep.nblk_setCell];exact h.size,fun c hc hs=>(Go.Deep.blk_setCell_other _ _ _ _ (fun e=>hs (by rw [e];exact ha))).trans (h.lies c hc hs)⟩
def tellL (X:Wd) (n:Nat):List M:=(X.nodes.getD n N.zero).told ++ readyX X n
def tellE (X:Wd) (n:Nat):Int:=if 40 < (tellL X n).length then 2 else if risesB (tellL X n) = true then 0 else 1
def tellW (X:Wd) (n:Nat):Wd:={ X with nodes:=X.nodes.set n { X.nodes.getD n N.zero with told:=tellL X n,held:=(X.nodes.getD n N.zero).held.drop (readyX X n).length } }
def ActPost (o:Bool) (w:World) (S:Nat → Prop) (gv nv wv:Value) (X:Wd) (r:Value) (X':Wd) (ok:Prop) (e:Ending) (w':World):Prop:=
 e = .returned r ∧ Within S w w' ∧ (ok → ∃ S',OWd o w' S' gv nv wv X' ∧ ∀ c,S' c → (S c ∨ w.heap.size ≤ c) ∧ c < w'.heap.size) ∧ (¬ ok → OWd o w' S gv nv wv X)
theorem row_slice {w:World} {a:Addr} {cap:Nat} {ms:List M} (h:Msgs w (.slice (some a) ms.length cap) ms) (hs:a.spot = none) {k:Nat} (hk:k < ms.length):Row w (.slice (some ⟨a.block,a.off + k * 5,none⟩) (ms.length - k) (cap - k)) (ms.length - k) 5 ((ms.drop k).flatMap M.cells):=by
 obtain ⟨h1,h2,a',cap',e,h3,h4⟩:=h.2
 cases e
 obtain ⟨b,off,e2,hc⟩:=h4 (by omega)
 cases e2
 refine ⟨by rw [flat_len,List.length_drop],by rw [flat_len,List.length_drop];rw [flat_len] at h2;omega,_,_,rfl,by omega,fun _=>⟨_,_,rfl,fun j hj=>?_⟩⟩
 rw [flat_len,List.length_drop] at hj
 have:=hc (k * 5 + j) (by rw [flat_len];omega)
 rw [show off + k * 5 + j = off + (k * 5 + j) by omega,this, ← flat_drop,List.getD_eq_getElem?_getD,List.getD_eq_getElem?_getD,List.getElem?_drop]
theorem row_none (w:World) (a:Option Addr) (cap:Nat):Row w (.slice a 0 cap) 0 5 []:=⟨rfl,by simp,a,cap,rfl,Nat.zero_le _,fun h=>absurd rfl h⟩
theorem told_own {w1:World} {v:Value} {E:Obj} (hat:v.ownBlock = (Value.slice (some ⟨w1.heap.size,0,none⟩) 0 0).ownBlock ∨ v.ownBlock = some (w1.alloc E).heap.size):∀ k,v.ownBlock = some k → w1.heap.size ≤ k:=by
 intro k hk
 rw [World.size_alloc] at hat
 rcases hat with h | h
 ·rw [h] at hk;cases hk;exact Nat.le_refl _
 ·rw [h] at hk;cases hk;omega
set_option maxHeartbeats 4000000 in
theorem tell_c {o:Bool} {w:World} {S:Nat → Prop} {b:Nat} {gv nv wv:Value} {X:Wd} (hbox:OBox w b 35 gv nv wv) (hW:OWd o w S gv nv wv X) (hSl:∀ c,S c → c < w.heap.size) {n:Nat} (hn1:n < X.nodes.length) (ht:TabN X n)
  (hs:(X.nodes.getD n N.zero).held.length ≤ 1000 ∧ (X.nodes.getD n N.zero).told.length ≤ 1000) :
  Calls Tryz.prog 89 #[.pointer (some ⟨b,0,none⟩), .int .i64 n] w
   (ActPost o w S gv nv wv X (.tuple #[.int .i64 (if tellE X n = 0 then (readyX X n).length else 0), .int .i64 (tellE X n)]) (tellW X n) (tellE X n = 0)):=by
 obtain ⟨pg,pn,pw⟩:=hW.parts
 have hR:=ready_c pg pn pw hn1 ht hs.1
 have hlr:(readyX X n).length ≤ (X.nodes.getD n N.zero).held.length:=by unfold readyX readyL;exact List.length_filter_le _ _
 obtain ⟨i0,hi0,hz0,hz1,hz2⟩:=info_parts infoCMsg
 obtain ⟨hgl,ga,gcap,rfl,_⟩:=pg.open
 obtain ⟨_,wa,wcap,rfl,_⟩:=pw.form
 obtain ⟨g,ncap,lv,hv,tv,Tl,Th,Tt,rfl,hnc,hgS,hgl2,hgb,c0,c1,c2,c3,hI,hLo,hHo,hTo,sl,sh,st,d1,d2,d3,back⟩:=hW.node_at hn1
 have hhl:=hHo.msgs.open.1
 have htl:=hTo.msgs.open.1
 have hhM:=hHo.msgs
 have htM:=hTo.msgs
 obtain ⟨_,ha,hcap,rfl,hhc,_⟩:=hhM.open
 obtain ⟨_,ta,tcap,rfl,htc,_⟩:=htM.open
 obtain ⟨hbk,q0,q1,q2⟩:=hbox
 have hqb:=cell_lt q0
 dsimp only at hqb
 have hL0:tellL X n = (X.nodes.getD n N.zero).told ++ readyX X n:=rfl
 have hW0:tellW X n = { X with nodes:=X.nodes.set n { X.nodes.getD n N.zero with told:=tellL X n,held:=(X.nodes.getD n N.zero).held.drop (readyX X n).length } }:=rfl
 have hE0:tellE X n = if 40 < (tellL X n).length then 2 else if risesB (tellL X n) = true then 0 else 1:=rfl
 generalize tellW X n = X' at *
 generalize tellE X n = e0 at *
 generalize tellL X n = tl at *
 generalize readyX X n = rd at *
 obtain ⟨x,HX⟩:∃ x,X.nodes.getD n N.zero = x:=⟨_,rfl⟩
 simp only [HX] at *
 clear HX
 have htll:tl.length = x.told.length + rd.length:=by rw [hL0,List.length_append]
 have hlr2:(rd.length:Int) ≤ x.held.length:=by omega
 replace hL0:=Lib.hid hL0
 replace hW0:=Lib.hid hW0
 have hfz0:=hgb.frozen (n * 4 + 2)
 have hfz1:=hgb.frozen (n * 4 + 3)
 by_cases h40:40 < tl.length
 ·have he:e0 = 2:=by rw [hE0,if_pos h40]
  have h41:decide ((40:Int) < (x.told.length:Int) + (rd.length:Int)) = true:=decide_eq_true (by omega)
  subst he
  clear hE0
  go_enter Tryz.func89,Tryz.ntmps89
  go_wp2_with fail
  refine hR.mono ?_
  rintro e w1 ⟨v1,rfl,ho1,hb1⟩
  have hs1:=hb1.size
  have hM1:=ho1.msgs (by omega)
  obtain ⟨a1,cap1,rfl⟩:=own_form ho1.2
  have p0:=(hb1.cell (p:=⟨b,0,none⟩) hqb).trans q0
  have p1:=(hb1.cell (p:=⟨b,1,none⟩) hqb).trans q1
  have p2:=(hb1.cell (p:=⟨b,2,none⟩) hqb).trans q2
  have n2:=(hb1.cell (p:=⟨g,n * 4 + 2,none⟩) hgl2).trans c2
  have n3:=(hb1.cell (p:=⟨g,n * 4 + 3,none⟩) hgl2).trans c3
  have hg1:g < w1.heap.size:=by omega
  have hqb1:b < w1.heap.size:=by omega
  have hrT:=((htM.below hb1).below (below_a1 w1 (.cells #[] 96))).2
  go_wp2_with (first
   |(at_builtin;refine wpList_append_row _ rfl _ _ 63 rfl w.heap.size 96 i0 _ 5 48 Tryz.underlying63 hi0 hz0 hz1 hz2 rfl (by decide) (.slice (some ⟨w1.heap.size,0,none⟩) 0 0) 0 [] rfl (World.ownsRow_made w1 #[] 0 (by omega) (by simp [maxLen]) (by simp)) _ _ _ rfl hrT (one_flat _) (by unfold maxLen;omega) (by omega) (by rw [World.size_alloc];omega) ?_;intro v3 w3 hown3 hgrow3 hat3;simp only [Nat.zero_add,List.nil_append] at hown3;obtain ⟨a3,cap3,rfl⟩:=own_form hown3
     have hb3:Below w1.heap.size w1 w3:=(below_a1 w1 _).trans (below_row hgrow3 (fun k hk=>by cases hk;exact Nat.le_refl _) (by rw [World.size_alloc];omega))
     have hl3:=told_own hat3
     have hrR:=(hM1.below hb3).2
     have hs3:=hb3.size)
   |(at_builtin;refine wpList_append_row _ rfl _ _ 63 rfl w.heap.size 96 i0 _ 5 48 Tryz.underlying63 hi0 hz0 hz1 hz2 rfl (by decide) _ _ _ rfl hown3 _ _ _ rfl hrR (one_flat _) (by unfold maxLen;omega) (by omega) (by omega) ?_;intro v4 w4 hown4 hgrow4 hat4;obtain ⟨a4,cap4,rfl⟩:=own_form hown4))
  have hb4:Below w1.heap.size w1 w4:=hb3.trans (below_row hgrow4 (fun k hk=>by have:=hl3 k hk;omega) hs3)
  have hw4:=below_trans hb1 hb4
  go_ret2
  exact ⟨rfl,Within.of_below hw4,fun h=>absurd h (by decide),fun _=>hW.keep (fun c hc=>hw4.block c (hSl c hc))⟩
 ·have h41:decide ((40:Int) < (x.told.length:Int) + (rd.length:Int)) = false:=decide_eq_false (by omega)
  have h42:tl.length ≤ 40:=by omega
  cases hr:risesB tl
  ·have he:e0 = 1:=by rw [hE0,if_neg h40,if_neg (by rw [hr];simp)]
   subst he
   clear hE0 h40
   go_enter Tryz.func89,Tryz.ntmps89
   go_wp2_with fail
   refine hR.mono ?_
   rintro e w1 ⟨v1,rfl,ho1,hb1⟩
   have hs1:=hb1.size
   have hM1:=ho1.msgs (by omega)
   obtain ⟨a1,cap1,rfl⟩:=own_form ho1.2
   have p0:=(hb1.cell (p:=⟨b,0,none⟩) hqb).trans q0
   have p1:=(hb1.cell (p:=⟨b,1,none⟩) hqb).trans q1
   have p2:=(hb1.cell (p:=⟨b,2,none⟩) hqb).trans q2
   have n2:=(hb1.cell (p:=⟨g,n * 4 + 2,none⟩) hgl2).trans c2
   have n3:=(hb1.cell (p:=⟨g,n * 4 + 3,none⟩) hgl2).trans c3
   have hg1:g < w1.heap.size:=by omega
   have hqb1:b < w1.heap.size:=by omega
   have hrT:=((htM.below hb1).below (below_a1 w1 (.cells #[] 96))).2
   go_wp2_with (first
    |(at_builtin;refine wpList_append_row _ rfl _ _ 63 rfl w.heap.size 96 i0 _ 5 48 Tryz.underlying63 hi0 hz0 hz1 hz2 rfl (by decide) (.slice (some ⟨w1.heap.size,0,none⟩) 0 0) 0 [] rfl (World.ownsRow_made w1 #[] 0 (by omega) (by simp [maxLen]) (by simp)) _ _ _ rfl hrT (one_flat _) (by unfold maxLen;omega) (by omega) (by rw [World.size_alloc];omega) ?_;intro v3 w3 hown3 hgrow3 hat3;simp only [Nat.zero_add,List.nil_append] at hown3;obtain ⟨a3,cap3,rfl⟩:=own_form hown3
      have hb3:Below w1.heap.size w1 w3:=(below_a1 w1 _).trans (below_row hgrow3 (fun k hk=>by cases hk;exact Nat.le_refl _) (by rw [World.size_alloc];omega))
      have hl3:=told_own hat3
      have hrR:=(hM1.below hb3).2
      have hs3:=hb3.size)
    |(at_builtin;refine wpList_append_row _ rfl _ _ 63 rfl w.heap.size 96 i0 _ 5 48 Tryz.underlying63 hi0 hz0 hz1 hz2 rfl (by decide) _ _ _ rfl hown3 _ _ _ rfl hrR (one_flat _) (by unfold maxLen;omega) (by omega) (by omega) ?_;intro v4 w4 hown4 hgrow4 hat4;obtain ⟨a4,cap4,rfl⟩:=own_form hown4))
   have hb4:Below w1.heap.size w1 w4:=hb3.trans (below_row hgrow4 (fun k hk=>by have:=hl3 k hk;omega) hs3)
   have hs4:=hb4.size
   have hl4:∀ k,(Value.slice a4 (x.told.length + rd.length) cap4).ownBlock = some k → w1.heap.size ≤ k ∧ k < w4.heap.size:=fun k hk=>⟨hat4.elim (fun h=>hl3 k (h ▸ hk)) (fun h=>by rw [h] at hk;cases hk;omega),(hown4.lt k hk).2⟩
   rw [← List.flatMap_append, ← hL0.out, ← htll] at hown4
   have hfit4:∀ m ∈ tl,m.fits:=fun m hm=>by rw [hL0.out] at hm;exact (List.mem_append.1 hm).elim (htM.1 m) (hM1.1 m)
   have hown4':MsgsOwn w4 w.heap.size (.slice a4 tl.length cap4) tl:=⟨hfit4,hown4⟩
   have hM4:=hown4'.msgs (by omega)
   have hw4:=below_trans hb1 hb4
   have hRi:=rises_c hM4
   rw [hr,htll] at hRi
   refine hRi.mono ?_
   rintro e w5 ⟨rfl,hb5⟩
   have hw5:=below_trans hw4 hb5
   go_wp2_with fail
   go_ret2
   exact ⟨rfl,Within.of_below hw5,fun h=>absurd h (by decide),fun _=>hW.keep (fun c hc=>hw5.block c (hSl c hc))⟩
  ·have he:e0 = 0:=by rw [hE0,if_neg h40,if_pos hr]
   subst he
   clear hE0 h40
   go_enter Tryz.func89,Tryz.ntmps89
   go_wp2_with fail
   refine hR.mono ?_
   rintro e w1 ⟨v1,rfl,ho1,hb1⟩
   have hs1:=hb1.size
   have hM1:=ho1.msgs (by omega)
   obtain ⟨a1,cap1,rfl⟩:=own_form ho1.2
   have p0:=(hb1.cell (p:=⟨b,0,none⟩) hqb).trans q0
   have p1:=(hb1.cell (p:=⟨b,1,none⟩) hqb).trans q1
   have p2:=(hb1.cell (p:=⟨b,2,none⟩) hqb).trans q2
   have n2:=(hb1.cell (p:=⟨g,n * 4 + 2,none⟩) hgl2).trans c2
   have n3:=(hb1.cell (p:=⟨g,n * 4 + 3,none⟩) hgl2).trans c3
   have hg1:g < w1.heap.size:=by omega
   have hqb1:b < w1.heap.size:=by omega
   have hrT:=((htM.below hb1).below (below_a1 w1 (.cells #[] 96))).2
   go_wp2_with (first
    |(at_builtin;refine wpList_append_row _ rfl _ _ 63 rfl w.heap.size 96 i0 _ 5 48 Tryz.underlying63 hi0 hz0 hz1 hz2 rfl (by decide) (.slice (some ⟨w1.heap.size,0,none⟩) 0 0) 0 [] rfl (World.ownsRow_made w1 #[] 0 (by omega) (by simp [maxLen]) (by simp)) _ _ _ rfl hrT (one_flat _) (by unfold maxLen;omega) (by omega) (by rw [World.size_alloc];omega) ?_;intro v3 w3 hown3 hgrow3 hat3;simp only [Nat.zero_add,List.nil_append] at hown3;obtain ⟨a3,cap3,rfl⟩:=own_form hown3
      have hb3:Below w1.heap.size w1 w3:=(below_a1 w1 _).trans (below_row hgrow3 (fun k hk=>by cases hk;exact Nat.le_refl _) (by rw [World.size_alloc];omega))
      have hl3:=told_own hat3
      have hrR:=(hM1.below hb3).2
      have hs3:=hb3.size)
    |(at_builtin;refine wpList_append_row _ rfl _ _ 63 rfl w.heap.size 96 i0 _ 5 48 Tryz.underlying63 hi0 hz0 hz1 hz2 rfl (by decide) _ _ _ rfl hown3 _ _ _ rfl hrR (one_flat _) (by unfold maxLen;omega) (by omega) (by omega) ?_;intro v4 w4 hown4 hgrow4 hat4;obtain ⟨a4,cap4,rfl⟩:=own_form hown4))
   have hb4:Below w1.heap.size w1 w4:=hb3.trans (below_row hgrow4 (fun k hk=>by have:=hl3 k hk;omega) hs3)
   have hs4:=hb4.size
   have hl4:∀ k,(Value.slice a4 (x.told.length + rd.length) cap4).ownBlock = some k → w1.heap.size ≤ k ∧ k < w4.heap.size:=fun k hk=>⟨hat4.elim (fun h=>hl3 k (h ▸ hk)) (fun h=>by rw [h] at hk;cases hk;omega),(hown4.lt k hk).2⟩
   rw [← List.flatMap_append, ← hL0.out, ← htll] at hown4
   have hfit4:∀ m ∈ tl,m.fits:=fun m hm=>by rw [hL0.out] at hm;exact (List.mem_append.1 hm).elim (htM.1 m) (hM1.1 m)
   have hown4':MsgsOwn w4 w.heap.size (.slice a4 tl.length cap4) tl:=⟨hfit4,hown4⟩
   have hM4:=hown4'.msgs (by omega)
   have hw4:=below_trans hb1 hb4
   have hRi:=rises_c hM4
   rw [hr,htll] at hRi
   refine hRi.mono ?_
   rintro e w5 ⟨rfl,hb5⟩
   have hw5:=below_trans hw4 hb5
   have hs5:=hw5.size
   have hown5:=owns_below hown4 hb5
   have hs45:=hb5.size
   have t2:=(hw5.cell (p:=⟨g,n * 4 + 2,none⟩) hgl2).trans c2
   have t3:=(hw5.cell (p:=⟨g,n * 4 + 3,none⟩) hgl2).trans c3
   have hgb5:=hgb.same (hw5.block g hgl2)
   have hf5:=hgb5.frozen (n * 4 + 3)
   go_upto_region 9 with fail
   have hHM:=hhM
   have h56:Within (fun c=>c = g) w5 (w5.setCell ⟨g,n * 4 + 3,none⟩ (.slice a4 (x.told.length + rd.length) cap4)):=Within.setCell (S:=fun c=>c = g) (a:=⟨g,n * 4 + 3,none⟩) ⟨rfl,rfl,rfl,Nat.le_refl _,fun _ _ _=>rfl⟩ rfl _
   have u2:=(cell_setCell (w:=w5) (b:=g) (a:=n * 4 + 3) (u:=.slice a4 (x.told.length + rd.length) cap4) (n * 4 + 2) (by omega)).trans t2
   have hgb6:=hgb5.setCell (a:=n * 4 + 3) (u:=.slice a4 (x.told.length + rd.length) cap4)
   have hg6:g < (w5.setCell ⟨g,n * 4 + 3,none⟩ (.slice a4 (x.told.length + rd.length) cap4)).heap.size:=by rw [Go.Deep.nblk_setCell];omega
   have s6b:BlkSet w (w5.setCell ⟨g,n * 4 + 3,none⟩ (.slice a4 (x.told.length + rd.length) cap4)) g (n * 4) [.int .i64 x.clock,lv, .slice ha x.held.length hcap, .slice a4 (x.told.length + rd.length) cap4]:=
    (BlkSet.same (w':=w5) (cs:=[.int .i64 x.clock,lv, .slice ha x.held.length hcap, .slice ta x.told.length tcap]) (hw5.block g hgl2) (fun j hj=>by
     match j,hj with
     | 0,_=>exact c0
     | 1,_=>exact c1
     | 2,_=>exact c2
     | 3,_=>exact c3)).set hgb 3 (by simp) (by simp;omega) _
   have l56:∀ c,c ≠ g → (w5.setCell ⟨g,n * 4 + 3,none⟩ (.slice a4 (x.told.length + rd.length) cap4)).heap[c]? = w5.heap[c]?:=fun c hc=>Go.Deep.blk_setCell_other _ _ _ _ hc
   have s56:(w5.setCell ⟨g,n * 4 + 3,none⟩ (.slice a4 (x.told.length + rd.length) cap4)).heap.size = w5.heap.size:=Go.Deep.nblk_setCell _ _ _
   generalize w5.setCell ⟨g,n * 4 + 3,none⟩ (.slice a4 (x.told.length + rd.length) cap4) = w6 at *
   have hs6:w.heap.size ≤ w6.heap.size:=by omega
   have hs6':w5.heap.size ≤ w6.heap.size ∧ w6.heap.size ≤ w5.heap.size:=⟨by omega,by omega⟩
   clear s56
   have hH6:Msgs w6 (.slice ha x.held.length hcap) x.held:=(hHo.keep (w':=w6) (fun c hc=>(l56 c (sh c hc).2).trans (hw5.block c (hSl c (sh c hc).1)))).msgs
   have hH7:=hH6.below (below_a1 w6 (.cells #[] 96))
   clear h42 h41 hRi hM4 hown4' hown4 hgrow4 hat4 hgrow3 hat3 hown3 hrT hrR hb3 hb4 hb5 hb1 hM1 ho1 p0 p1 p2 n2 n3 t2 t3 hf5 hgb5
   have fin:∀ a7 cap7 m fl w7,Below w6.heap.size w6 w7 → w7.ownsRow w.heap.size 96 5 (.slice a7 m cap7) m fl → m = x.held.length - rd.length → fl = (x.held.drop rd.length).flatMap M.cells → (∀ k,(Value.slice a7 m cap7).ownBlock = some k → w6.heap.size ≤ k) →
     Within S w (w7.setCell ⟨g,n * 4 + 2,none⟩ (.slice a7 m cap7)) ∧ ∃ S',OWd o (w7.setCell ⟨g,n * 4 + 2,none⟩ (.slice a7 m cap7)) S' (.slice ga X.groups.length gcap) (.slice (some ⟨g,0,none⟩) X.nodes.length ncap) (.slice wa X.wires.length wcap) X' ∧ ∀ c,S' c → (S c ∨ w.heap.size ≤ c) ∧ c < (w7.setCell ⟨g,n * 4 + 2,none⟩ (.slice a7 m cap7)).heap.size:=by
    intro a7 cap7 m fl w7 hb7 hown7 hm hfl hl7
    have hs7:=hb7.size
    have lF:∀ c,c ≠ g → (w7.setCell ⟨g,n * 4 + 2,none⟩ (.slice a7 m cap7)).heap[c]? = w7.heap[c]?:=fun c hc=>Go.Deep.blk_setCell_other _ _ _ _ hc
    have kF:∀ c,c ≠ g → c < w5.heap.size → (w7.setCell ⟨g,n * 4 + 2,none⟩ (.slice a7 m cap7)).heap[c]? = w5.heap[c]?:=fun c hc hl=>(lF c hc).trans ((hb7.block c (by omega)).trans (l56 c hc))
    have oF:∀ c,c < w.heap.size → c ≠ g → (w7.setCell ⟨g,n * 4 + 2,none⟩ (.slice a7 m cap7)).heap[c]? = w.heap[c]?:=fun c hc hg=>(kF c hg (by omega)).trans (hw5.block c hc)
    have hsF:(w7.setCell ⟨g,n * 4 + 2,none⟩ (.slice a7 m cap7)).heap.size = w7.heap.size:=Go.Deep.nblk_setCell _ _ _
    have hwF:Within (fun c=>c = g) w (w7.setCell ⟨g,n * 4 + 2,none⟩ (.slice a7 m cap7)):=
     ((((Within.of_below hw5).trans h56 (fun _ h=>Or.inl h)).trans (Within.of_below (S:=fun _=>False) hb7) (fun _ h=>h.elim))).setCell (a:=⟨g,n * 4 + 2,none⟩) rfl _
    refine ⟨⟨hwF.os,hwF.tape,hwF.output,hwF.size,fun c hc hs=>hwF.lies c hc (fun e=>hs (by rw [e];exact hgS))⟩, ?_⟩
    have hB:BlkSet w (w7.setCell ⟨g,n * 4 + 2,none⟩ (.slice a7 m cap7)) g (n * 4) [.int .i64 x.clock,lv, .slice a7 m cap7, .slice a4 (x.told.length + rd.length) cap4]:=
     (s6b.far (hb7.block g hg6)).set hgb 2 (by simp) (by simp;omega) _
    have h4:OMsgs true (w7.setCell ⟨g,n * 4 + 2,none⟩ (.slice a7 m cap7)) (fun c=>(Value.slice a4 tl.length cap4).ownBlock = some c) (.slice a4 tl.length cap4) tl:=
     (MsgsOwn.own ⟨hfit4,hown5⟩ (by omega)).keep (fun c hc=>by
      have:=hl4 c (by rw [← htll];exact hc)
      exact kF c (by omega) (by omega))
    have h7:OMsgs true (w7.setCell ⟨g,n * 4 + 2,none⟩ (.slice a7 m cap7)) (fun c=>(Value.slice a7 m cap7).ownBlock = some c) (.slice a7 m cap7) (x.held.drop rd.length):=by
     refine (MsgsOwn.own (base:=w.heap.size) (ms:=x.held.drop rd.length) ⟨fun q hq=>hHo.msgs.1 q (List.mem_of_mem_drop hq), ?_⟩ (by rw [List.length_drop];omega)).keep (fun c hc=>lF c (by have:=hl7 c hc;omega))
     rw [List.length_drop, ← hm, ← hfl]
     exact hown7
    have hX:ONodeEl (w7.setCell ⟨g,n * 4 + 2,none⟩ (.slice a7 m cap7)) (fun c=>Tl c ∨ (Value.slice a7 m cap7).ownBlock = some c ∨ (Value.slice a4 tl.length cap4).ownBlock = some c)
      [.int .i64 x.clock,lv, .slice a7 m cap7, .slice a4 (x.told.length + rd.length) cap4] { x with told:=tl,held:=x.held.drop rd.length }:=by
     rw [← htll]
     refine ⟨lv,_,_,Tl,_,_,rfl,hI,hLo.keep (fun c hc=>oF c (hSl c (sl c hc).1) (sl c hc).2),h7,h4,fun _ h=>Or.inl h,fun _ h=>Or.inr (Or.inl h),fun _ h=>Or.inr (Or.inr h),fun c h1 h2=>?_,fun c h1 h2=>?_,fun c h1 h2=>?_⟩
     ·have:=hl7 c h2;have:=hSl c (sl c h1).1;omega
     ·have:=hl4 c (by rw [← htll];exact h2);have:=hSl c (sl c h1).1;omega
     ·have:=hl7 c h1;have:=hl4 c (by rw [← htll];exact h2);omega
    have:=back _ _ _ _ (fun c hc=>oF c (hSl c hc.1) hc.2.1) hB rfl hX (fun c hc=>by
     rcases hc with h | h | h
     ·exact Or.inl h
     ·exact Or.inr (Or.inr (Or.inr (fun hs=>by have:=hl7 c h;have:=hSl c hs;omega)))
     ·exact Or.inr (Or.inr (Or.inr (fun hs=>by have:=hl4 c (by rw [← htll];exact h);have:=hSl c hs;omega))))
    refine ⟨_,by rw [hW0.out];exact this,fun c hc=>?_⟩
    rw [hsF]
    rcases hc with h | h | h | h
    ·exact ⟨Or.inl h,by have:=hSl c h;omega⟩
    ·exact ⟨Or.inl (sl c h).1,by have:=hSl c (sl c h).1;omega⟩
    ·exact ⟨Or.inr (by have:=hl7 c h;omega),(hown7.lt c h).2⟩
    ·have:=hl4 c (by rw [← htll];exact h)
     exact ⟨Or.inr (by omega),by omega⟩
   replace fin:=Lib.hid fin
   by_cases hk:rd.length < x.held.length
   ·obtain ⟨_,ha',hcap',e,hcl,hcc⟩:=hH6.open
    cases e
    obtain ⟨hbb,hoff,rfl,_⟩:=hcc (by intro e;rw [e] at hk;simp at hk)
    have hck:¬ hcap = rd.length:=by omega
    have hrH:=row_slice hH7 rfl hk
    go_wp2_with (first
     |(at_builtin;refine wpList_append_row _ rfl _ _ 63 rfl w.heap.size 96 i0 _ 5 48 Tryz.underlying63 hi0 hz0 hz1 hz2 rfl (by decide) (.slice (some ⟨w6.heap.size,0,none⟩) 0 0) 0 [] rfl (World.ownsRow_made w6 #[] 0 (by omega) (by simp [maxLen]) (by simp)) _ _ _ rfl hrH (by first | exact one_flat _ | simp) (by unfold maxLen;omega) (by omega) (by rw [World.size_alloc];omega) ?_;intro v7 w7 hown7 hgrow7 hat7;simp only [Nat.zero_add,List.nil_append] at hown7;obtain ⟨a7,cap7,rfl⟩:=own_form hown7
       have hb7:Below w6.heap.size w6 w7:=(below_a1 w6 _).trans (below_row hgrow7 (fun k hk=>by cases hk;exact Nat.le_refl _) (by rw [World.size_alloc];omega))
       have hl7:=told_own hat7
       have hgb7:=hgb6.same (hb7.block g hg6)
       have z2:=(hb7.cell (p:=⟨g,n * 4 + 2,none⟩) hg6).trans u2
       have hf7:=hgb7.frozen (n * 4 + 2)))
    go_ret2
    obtain ⟨f1,f2⟩:=fin.out _ _ _ _ _ hb7 hown7 rfl rfl hl7
    exact ⟨by simp,f1,fun _=>f2,fun h=>absurd trivial h⟩
   ·have hk1:x.held.length ≤ rd.length:=by omega
    have hd0:[] = (x.held.drop rd.length).flatMap M.cells:=by rw [List.drop_of_length_le (by omega)];rfl
    replace hd0:=Lib.hid hd0
    by_cases hcl:hcap = rd.length
    ·subst hcl
     go_wp2_with (first
      |(at_builtin;refine wpList_append_row _ rfl _ _ 63 rfl w.heap.size 96 i0 _ 5 48 Tryz.underlying63 hi0 hz0 hz1 hz2 rfl (by decide) (.slice (some ⟨w6.heap.size,0,none⟩) 0 0) 0 [] rfl (World.ownsRow_made w6 #[] 0 (by omega) (by simp [maxLen]) (by simp)) _ _ _ rfl (row_none _ _ _) (by simp) (by unfold maxLen;omega) (by omega) (by rw [World.size_alloc];omega) ?_;intro v7 w7 hown7 hgrow7 hat7;simp only [Nat.zero_add,List.nil_append] at hown7;obtain ⟨a7,cap7,rfl⟩:=own_form hown7
        have hb7:Below w6.heap.size w6 w7:=(below_a1 w6 _).trans (below_row hgrow7 (fun k hk=>by cases hk;exact Nat.le_refl _) (by rw [World.size_alloc];omega))
        have hl7:=told_own hat7
        have hgb7:=hgb6.same (hb7.block g hg6)
        have z2:=(hb7.cell (p:=⟨g,n * 4 + 2,none⟩) hg6).trans u2
        have hf7:=hgb7.frozen (n * 4 + 2)))
     go_ret2
     obtain ⟨f1,f2⟩:=fin.out _ _ _ _ _ hb7 hown7 (by omega) hd0.out hl7
     exact ⟨by simp,f1,fun _=>f2,fun h=>absurd trivial h⟩
    ·have hcl2:rd.length < hcap:=by omega
     go_wp2_with (first
      |(at_builtin;refine wpList_append_row _ rfl _ _ 63 rfl w.heap.size 96 i0 _ 5 48 Tryz.underlying63 hi0 hz0 hz1 hz2 rfl (by decide) (.slice (some ⟨w6.heap.size,0,none⟩) 0 0) 0 [] rfl (World.ownsRow_made w6 #[] 0 (by omega) (by simp [maxLen]) (by simp)) _ _ _ rfl (row_none _ _ _) (by simp) (by unfold maxLen;omega) (by omega) (by rw [World.size_alloc];omega) ?_;intro v7 w7 hown7 hgrow7 hat7;simp only [Nat.zero_add,List.nil_append] at hown7;obtain ⟨a7,cap7,rfl⟩:=own_form hown7
        have hb7:Below w6.heap.size w6 w7:=(below_a1 w6 _).trans (below_row hgrow7 (fun k hk=>by cases hk;exact Nat.le_refl _) (by rw [World.size_alloc];omega))
        have hl7:=told_own hat7
        have hgb7:=hgb6.same (hb7.block g hg6)
        have z2:=(hb7.cell (p:=⟨g,n * 4 + 2,none⟩) hg6).trans u2
        have hf7:=hgb7.frozen (n * 4 + 2)))
     go_ret2
     obtain ⟨f1,f2⟩:=fin.out _ _ _ _ _ hb7 hown7 (by omega) hd0.out hl7
     exact ⟨by simp,f1,fun _=>f2,fun h=>absurd trivial h⟩
end Go.Proofs.YtnalakhelicjcaaGreatDoor
set_option maxRecDepth 100000
namespace Go.Proofs.YtnalakhelicjcaaGreatDoor
open Go.RowKit Go.Shelf Go.BigFrame
def holdW (X:Wd) (n:Nat) (m:M):Wd:={ X with nodes:=X.nodes.set n { X.nodes.getD n N.zero with held:=putL (X.nodes.getD n N.zero).held m } }
set_option maxHeartbeats 4000000 in
theorem hold_c {o:Bool} {w:World} {S:Nat → Prop} {b:Nat} {gv nv wv:Value} {X:Wd} (hbox:OBox w b 35 gv nv wv) (hW:OWd o w S gv nv wv X) (hSl:∀ c,S c → c < w.heap.size) {n:Nat} (hn1:n < X.nodes.length)
  (hs:(X.nodes.getD n N.zero).held.length ≤ 1000) {m:M} (hm:m.fits) :
  Calls Tryz.prog 88 #[.pointer (some ⟨b,0,none⟩), .int .i64 n,m.val] w
   (ActPost o w S gv nv wv X (.int .i64 (putE (X.nodes.getD n N.zero).held m)) (holdW X n m) (putE (X.nodes.getD n N.zero).held m = 0)):=by
 obtain ⟨pg,pn,pw⟩:=hW.parts
 obtain ⟨hgl,ga,gcap,rfl,_⟩:=pg.open
 obtain ⟨_,wa,wcap,rfl,_⟩:=pw.form
 obtain ⟨g,ncap,lv,hv,tv,Tl,Th,Tt,rfl,hnc,hgS,hgl2,hgb,c0,c1,c2,c3,hI,hLo,hHo,hTo,sl,sh,st,d1,d2,d3,back⟩:=hW.node_at hn1
 have hhM:=hHo.msgs
 have htM:=hTo.msgs
 obtain ⟨_,ha,hcap,rfl,hhc,_⟩:=hhM.open
 obtain ⟨_,ta,tcap,rfl,htc,_⟩:=htM.open
 obtain ⟨hbk,q0,q1,q2⟩:=hbox
 have hqb:=cell_lt q0
 dsimp only at hqb
 have hW0:holdW X n m = { X with nodes:=X.nodes.set n { X.nodes.getD n N.zero with held:=putL (X.nodes.getD n N.zero).held m } }:=rfl
 generalize holdW X n m = X' at *
 obtain ⟨x,HX⟩:∃ x,X.nodes.getD n N.zero = x:=⟨_,rfl⟩
 simp only [HX] at *
 clear HX
 replace hW0:=Lib.hid hW0
 have hpl:=Lib.hid (fun h:putE x.held m = 0=>(show (putL x.held m).length ≤ 1001 by rw [putL,if_pos h,putM_len];omega))
 have hA:=below_a1 w (.cells #[.int .i64 m.src, .int .i64 m.grp, .int .i64 m.stamp, .bool m.null, .string m.body] 96)
 have hM:=MsgBox.new w m 96
 have hP:=fun (o:World) (h:Below w.heap.size w o)=>PutOf_c (hhM.below h) hm
 unfold M.val at hP ⊢
 unfold PutPost at hP
 obtain ⟨e0,hE⟩:∃ e0,putE x.held m = e0:=⟨_,rfl⟩
 rw [hE] at hP ⊢
 replace hE:=Lib.hid hE
 go_enter Tryz.func88,Tryz.ntmps88
 go_wp2_with fail
 generalize w.alloc (.cells #[.int .i64 m.src, .int .i64 m.grp, .int .i64 m.stamp, .bool m.null, .string m.body] 96) = wA at *
 have r0:=(hA.cell (p:=⟨b,0,none⟩) hqb).trans q0
 have r1:=(hA.cell (p:=⟨b,1,none⟩) hqb).trans q1
 have r2:=(hA.cell (p:=⟨b,2,none⟩) hqb).trans q2
 have n2:=(hA.cell (p:=⟨g,n * 4 + 2,none⟩) hgl2).trans c2
 obtain ⟨m0,m1,m2,m3,m4⟩:=hM
 have hmb:=cell_lt m0
 have hbb:=cell_lt r0
 have hgb2:=cell_lt n2
 dsimp only at hmb hbb hgb2
 have hl0:=hA.size
 go_region_held3 (fun w'=>w'.cell? ⟨b,1,none⟩ = some (.slice (some ⟨g,0,none⟩) X.nodes.length ncap) ∧ w'.cell? ⟨g,n * 4 + 2,none⟩ = some (.slice ha x.held.length hcap) ∧ w'.cell? ⟨w.heap.size,0,none⟩ = some (.int .i64 m.src) ∧ w'.cell? ⟨w.heap.size,1,none⟩ = some (.int .i64 m.grp) ∧
   w'.cell? ⟨w.heap.size,2,none⟩ = some (.int .i64 m.stamp) ∧ w'.cell? ⟨w.heap.size,3,none⟩ = some (.bool m.null) ∧ w'.cell? ⟨w.heap.size,4,none⟩ = some (.string m.body))
  (first
   | go_keep
   |(go_split_ands
     exact ⟨(hb2.cell (p:=⟨b,1,none⟩) hbb).trans r1,(hb2.cell (p:=⟨g,n * 4 + 2,none⟩) hgb2).trans n2,(hb2.cell (p:=⟨w.heap.size,0,none⟩) hmb).trans m0,(hb2.cell (p:=⟨w.heap.size,1,none⟩) hmb).trans m1,(hb2.cell (p:=⟨w.heap.size,2,none⟩) hmb).trans m2,(hb2.cell (p:=⟨w.heap.size,3,none⟩) hmb).trans m3,(hb2.cell (p:=⟨w.heap.size,4,none⟩) hmb).trans m4⟩))
  (first
   |(go_at_call 111;refine (hP _ (below_drew hA)).mono ?_;rintro e w2 ⟨v2,rfl,ho2,hb2⟩
     have hb2:Below wA.heap.size wA w2:=(below_drew (Below.refl _ wA)).trans hb2
     obtain ⟨a2,cap2,rfl⟩:=own_form ho2.2))
 have hw2:=below_trans hA hb2
 have hs2:=hw2.size
 have s1:=(hb2.cell (p:=⟨b,1,none⟩) hbb).trans r1
 have s2:=(hb2.cell (p:=⟨g,n * 4 + 2,none⟩) hgb2).trans n2
 have hgbw:=hgb.same (hw2.block g hgl2)
 have hf2:=hgbw.frozen (n * 4 + 2)
 by_cases he:e0 = 0
 ·have hE0:=hE.out
  rw [he] at hE0
  subst he
  have hpl2:=hpl.out hE0
  have hb6:Below (w.heap.size + 1) wA w2:=hb2.mono (by have:=hmb;omega)
  have hlo:∀ c,(Value.slice a2 (putL x.held m).length cap2).ownBlock = some c → w.heap.size ≤ c ∧ c < w2.heap.size:=fun c hc=>by
   have:=ho2.2.lt c hc
   have h0:wA.heap.size ≤ c:=this.1
   exact ⟨by omega,this.2⟩
  replace hE0:=Lib.hid hE0
  go_wp2_with fail
  go_ret
  have lF:∀ c,c ≠ g → (w2.setCell ⟨g,n * 4 + 2,none⟩ (.slice a2 (putL x.held m).length cap2)).heap[c]? = w2.heap[c]?:=fun c hc=>Go.Deep.blk_setCell_other _ _ _ _ hc
  have oF:∀ c,c < w.heap.size → c ≠ g → (w2.setCell ⟨g,n * 4 + 2,none⟩ (.slice a2 (putL x.held m).length cap2)).heap[c]? = w.heap[c]?:=fun c hc hg=>(lF c hg).trans (hw2.block c hc)
  have hsF:(w2.setCell ⟨g,n * 4 + 2,none⟩ (.slice a2 (putL x.held m).length cap2)).heap.size = w2.heap.size:=Go.Deep.nblk_setCell _ _ _
  have hwF:Within S w (w2.setCell ⟨g,n * 4 + 2,none⟩ (.slice a2 (putL x.held m).length cap2)):=(Within.of_below hw2).setCell (a:=⟨g,n * 4 + 2,none⟩) hgS _
  have hB:BlkSet w (w2.setCell ⟨g,n * 4 + 2,none⟩ (.slice a2 (putL x.held m).length cap2)) g (n * 4) [.int .i64 x.clock,lv, .slice a2 (putL x.held m).length cap2, .slice ta x.told.length tcap]:=
   (BlkSet.same (w':=w2) (cs:=[.int .i64 x.clock,lv, .slice ha x.held.length hcap, .slice ta x.told.length tcap]) (hw2.block g hgl2) (fun j hj=>by
    match j,hj with
    | 0,_=>exact c0
    | 1,_=>exact c1
    | 2,_=>exact c2
    | 3,_=>exact c3)).set hgb 2 (by simp) (by simp;omega) _
  have h7:OMsgs true (w2.setCell ⟨g,n * 4 + 2,none⟩ (.slice a2 (putL x.held m).length cap2)) (fun c=>(Value.slice a2 (putL x.held m).length cap2).ownBlock = some c) (.slice a2 (putL x.held m).length cap2) (putL x.held m):=
   (MsgsOwn.own ho2 (by omega)).keep (fun c hc=>lF c (by have:=hlo c hc;omega))
  have hX:ONodeEl (w2.setCell ⟨g,n * 4 + 2,none⟩ (.slice a2 (putL x.held m).length cap2)) (fun c=>Tl c ∨ (Value.slice a2 (putL x.held m).length cap2).ownBlock = some c ∨ Tt c)
    [.int .i64 x.clock,lv, .slice a2 (putL x.held m).length cap2, .slice ta x.told.length tcap] { x with held:=putL x.held m }:=by
   refine ⟨lv,_,_,Tl,_,Tt,rfl,hI,hLo.keep (fun c hc=>oF c (hSl c (sl c hc).1) (sl c hc).2),h7,hTo.keep (fun c hc=>oF c (hSl c (st c hc).1) (st c hc).2),fun _ h=>Or.inl h,fun _ h=>Or.inr (Or.inl h),fun _ h=>Or.inr (Or.inr h),fun c h1 h2=>?_,d2,fun c h1 h2=>?_⟩
   ·have:=hlo c h2;have:=hSl c (sl c h1).1;omega
   ·have:=hlo c h1;have:=hSl c (st c h2).1;omega
  have:=back _ _ _ _ (fun c hc=>oF c (hSl c hc.1) hc.2.1) hB rfl hX (fun c hc=>by
   rcases hc with h | h | h
   ·exact Or.inl h
   ·exact Or.inr (Or.inr (Or.inr (fun hs=>by have:=hlo c h;have:=hSl c hs;omega)))
   ·exact Or.inr (Or.inr (Or.inl h)))
  refine ⟨rfl,hwF,fun _=>⟨_,by rw [hW0.out];exact this,fun c hc=>?_⟩,fun h=>absurd trivial h⟩
  rw [hsF]
  rcases hc with h | h | h | h
  ·exact ⟨Or.inl h,by have:=hSl c h;omega⟩
  ·exact ⟨Or.inl (sl c h).1,by have:=hSl c (sl c h).1;omega⟩
  ·have:=hlo c h;exact ⟨Or.inr this.1,this.2⟩
  ·exact ⟨Or.inl (st c h).1,by have:=hSl c (st c h).1;omega⟩
 ·have hne:(e0 != 0) = true:=by simpa using he
  replace he:=Lib.hid he
  go_wp2_with fail
  go_ret
  exact ⟨rfl,Within.of_below hw2,fun h=>absurd h he.out,fun _=>hW.keep (fun c hc=>hw2.block c (hSl c hc))⟩
end Go.Proofs.YtnalakhelicjcaaGreatDoor
set_option maxRecDepth 100000
namespace Go.Proofs.YtnalakhelicjcaaGreatDoor
open Go.RowKit Go.Shelf Go.BigFrame
structure Fit (X:Wd):Prop where
 nodes:X.nodes.length ≤ 4
 groups:X.groups.length ≤ 3
 wires:X.wires.length = X.nodes.length
 rows:∀ r ∈ X.wires,r.length = X.nodes.length
 tabs:∀ x ∈ X.nodes,x.last.length = X.groups.length ∧ ∀ r ∈ x.last,r.length = X.nodes.length
 lists:∀ x ∈ X.nodes,x.held.length ≤ 40 ∧ x.told.length ≤ 40
 wl:∀ r ∈ X.wires,∀ l ∈ r,l.length ≤ 40
 clocks:∀ x ∈ X.nodes,0 ≤ x.clock ∧ x.clock ≤ 1048576
theorem Fit.small {X:Wd} (h:Fit X):Small X:=
 ⟨by have:=h.groups;omega,by have:=h.nodes;omega,by have:=h.nodes;have:=h.wires;omega,
  fun x hx=>⟨by have:=(h.tabs x hx).1;have:=h.groups;omega,fun r hr=>by have:=(h.tabs x hx).2 r hr;have:=h.nodes;omega,by have:=h.lists x hx;omega,by have:=h.lists x hx;omega⟩,
  fun r hr=>⟨by have:=h.rows r hr;have:=h.nodes;omega,fun l hl=>by have:=h.wl r hr l hl;omega⟩⟩
theorem getD_mem {α:Type} (l:List α) (d:α) {i:Nat} (h:i < l.length):l.getD i d ∈ l:=by rw [getD_lt l d h];exact List.getElem_mem _
theorem Fit.tab {X:Wd} (h:Fit X) {n:Nat} (hn:n < X.nodes.length):TabN X n:=h.tabs _ (getD_mem _ _ hn)
theorem Fit.row {X:Wd} (h:Fit X) {n:Nat} (hn:n < X.nodes.length):(X.wires.getD n []).length = X.nodes.length:=h.rows _ (getD_mem _ _ (by rw [h.wires];exact hn))
theorem Fit.wire {X:Wd} (h:Fit X) {n k:Nat} (hn:n < X.nodes.length) (hk:k < X.nodes.length):((X.wires.getD n []).getD k []).length ≤ 40:=
 h.wl _ (getD_mem _ _ (by rw [h.wires];exact hn)) _ (getD_mem _ _ (by rw [h.row hn];exact hk))
theorem errX_fit {X:Wd} (h:errX X = 0):Fit X:=by
 have hg:gErr X.nodes.length X.groups = 0:=by
  rcases Classical.em (gErr X.nodes.length X.groups = 0) with e | e
  ·exact e
  ·rw [errX_g e] at h;exact absurd h e
 have hm:manyX X = false:=by
  cases hm:manyX X
  ·rfl
  ·rw [errX_2 hg hm] at h;cases h
 have hf:fineX X = true:=by
  cases hf:fineX X
  ·rw [errX_1 hg hm hf] at h;cases h
  ·rfl
 simp only [fineX,Bool.and_eq_true,decide_eq_true_eq,range_all_iff] at hf
 obtain ⟨⟨hw,hr⟩,hww⟩:=hf
 simp only [manyX,Bool.or_eq_false_iff] at hm
 obtain ⟨hm1,hm2⟩:=hm
 have hgg:X.nodes.length ≤ 4 ∧ X.groups.length ≤ 3:=by
  unfold gErr at hg
  unfold inB at hg
  constructor <;> (split at hg <;> first | (split at hg <;> first | (simp at *;omega) | cases hg) | cases hg)
 have hnode:∀ n,n < X.nodes.length → nodeFineB X n = true ∧ (X.wires.getD n []).length = X.nodes.length:=fun n hn=>by
  have:=hr n hn
  simp only [fineR,Bool.and_eq_true,decide_eq_true_eq] at this
  exact ⟨this.2,this.1⟩
 have hmn:∀ n,n < X.nodes.length → manyN (X.nodes.getD n N.zero) = false:=fun n hn=>by
  cases h0:manyN (X.nodes.getD n N.zero)
  ·rfl
  ·rw [range_any_t (p:=fun n=>manyN (X.nodes.getD n N.zero)) hn h0] at hm1;cases hm1
 have hmr:∀ n,n < X.wires.length → manyR (X.wires.getD n []) = false:=fun n hn=>by
  cases h0:manyR (X.wires.getD n [])
  ·rfl
  ·rw [range_any_t (p:=fun n=>manyR (X.wires.getD n [])) hn h0] at hm2;cases hm2
 have ix:∀ {α:Type} {l:List α} (d:α) {x:α},x ∈ l → ∃ i,i < l.length ∧ l.getD i d = x:=fun {α l} d x hx=>by
  obtain ⟨i,hi,rfl⟩:=List.mem_iff_getElem.1 hx
  exact ⟨i,hi,getD_lt l d hi⟩
 refine ⟨hgg.1,hgg.2,hw,fun r hr'=>?_,fun x hx=>?_,fun x hx=>?_,fun r hr' l hl=>?_,fun x hx=>?_⟩
 ·obtain ⟨i,hi,rfl⟩:=ix [] hr'
  exact (hnode i (by omega)).2
 ·obtain ⟨i,hi,rfl⟩:=ix N.zero hx
  have:=(hnode i hi).1
  simp only [nodeFineB,nodeOkB,lastFineB,Bool.and_eq_true,decide_eq_true_eq,range_all_iff] at this
  obtain ⟨⟨_,hl,hr2⟩,_⟩:=this
  refine ⟨hl,fun r hr'=>?_⟩
  obtain ⟨j,hj,rfl⟩:=ix [] hr'
  have:=hr2 j hj
  simp only [rowFineB,Bool.and_eq_true,decide_eq_true_eq] at this
  exact this.1
 ·obtain ⟨i,hi,rfl⟩:=ix N.zero hx
  have:=hmn i hi
  simp only [manyN,Bool.or_eq_false_iff,decide_eq_false_iff_not] at this
  omega
 ·obtain ⟨i,hi,rfl⟩:=ix [] hr'
  obtain ⟨j,hj,rfl⟩:=ix [] hl
  have:=hmr i hi
  rcases Nat.lt_or_ge 40 ((X.wires.getD i []).getD j []).length with h4 | h4
  ·rw [manyR,range_any_t (p:=fun b=>decide (40 < ((X.wires.getD i []).getD b []).length)) hj (decide_eq_true h4)] at this;cases this
  ·exact h4
 ·obtain ⟨i,hi,rfl⟩:=ix N.zero hx
  have:=(hnode i hi).1
  simp only [nodeFineB,nodeOkB,inB,Bool.and_eq_true,decide_eq_true_eq] at this
  exact this.1.1
def wireL (X:Wd) (n k:Nat):List M:=(X.wires.getD n []).getD k []
def wirePut (X:Wd) (n k:Nat) (l:List M):Wd:={ X with wires:=X.wires.set n ((X.wires.getD n []).set k l) }
def castStep (X:Wd) (n:Nat) (g:Int) (k:Nat) (m:M):Int × Wd:=
 if (k == n || !hasB X.groups g k) = true then (0,X)
 else if (wireL X n k).length = 40 then (2,X)
 else if 0 < (wireL X n k).length ∧ m.stamp ≤ ((wireL X n k).getD ((wireL X n k).length - 1) M.zero).stamp then (1,X)
 else (0,wirePut X n k (wireL X n k ++ [m]))
def castW (X:Wd) (n:Nat) (g:Int) (m:M):Nat → Int × Wd
 | 0=>(0,X)
 | k + 1=>if (castW X n g m k).1 = 0 then castStep (castW X n g m k).2 n g k m else castW X n g m k
def clockUp (X:Wd) (n:Nat):Wd:={ X with nodes:=X.nodes.set n { X.nodes.getD n N.zero with clock:=(X.nodes.getD n N.zero).clock + 1 } }
def castEnd (X:Wd) (n:Nat) (m:M):Int × Wd:=
 let e:=if m.null = true then 0 else putE (X.nodes.getD n N.zero).held m
 let Y:=if m.null = true then X else holdW X n m
 if e ≠ 0 then (e,Wd.none) else if tellE Y n ≠ 0 then (tellE Y n,Wd.none) else (0,tellW Y n)
def castR (X:Wd) (n:Int) (g:Int) (null:Bool) (body:ByteArray):Int × Wd:=
 if (inB n 0 (X.nodes.length - 1) && inB g 0 (X.groups.length - 1)) = true then
  if hasB X.groups g n = true then
   if 8 < (body.size:Int) then (1,Wd.none)
   else if (X.nodes.getD n.toNat N.zero).clock = 1048576 then (3,Wd.none)
   else
    let m:M:=⟨n,g,(X.nodes.getD n.toNat N.zero).clock + 1,null,body⟩
    let r:=castW (clockUp X n.toNat) n.toNat g m X.nodes.length
    if r.1 = 0 then castEnd r.2 n.toNat m else (r.1,Wd.none)
  else (5,Wd.none)
 else (4,Wd.none)
theorem mem_set {α:Type} {l:List α} {i:Nat} {x y:α} (h:y ∈ l.set i x):y ∈ l ∨ y = x:=List.mem_or_eq_of_mem_set h
theorem wirePut_fit {X:Wd} (h:Fit X) {n k:Nat} (hn:n < X.nodes.length) {l:List M} (hl:l.length ≤ 40):Fit (wirePut X n k l):=by
 have hrow:=h.row hn
 have hmr:=getD_mem X.wires [] (i:=n) (by rw [h.wires];exact hn)
 refine ⟨h.nodes,h.groups,by simpa [wirePut] using h.wires,fun r hr=>?_,h.tabs,h.lists,fun r hr q hq=>?_,h.clocks⟩
 ·rcases mem_set hr with h' | rfl
  ·exact h.rows r h'
  ·rw [List.length_set];exact hrow
 ·rcases mem_set hr with h' | rfl
  ·exact h.wl r h' q hq
  ·rcases mem_set hq with h' | rfl
   ·exact h.wl _ hmr q h'
   ·exact hl
theorem castStep_fit {X:Wd} (h:Fit X) {n k:Nat} {g:Int} {m:M} (hn:n < X.nodes.length) (hk:k < X.nodes.length):Fit (castStep X n g k m).2 ∧ (castStep X n g k m).2.nodes = X.nodes ∧ (castStep X n g k m).2.groups = X.groups:=by
 unfold castStep
 split
 ·exact ⟨h,rfl,rfl⟩
 ·split
  ·exact ⟨h,rfl,rfl⟩
  ·split
   ·exact ⟨h,rfl,rfl⟩
   ·refine ⟨wirePut_fit h hn ?_,rfl,rfl⟩
    have h0:(wireL X n k).length ≤ 40:=h.wire hn hk
    have h1:¬ (wireL X n k).length = 40:=by assumption
    rw [List.length_append]
    show (wireL X n k).length + 1 ≤ 40
    omega
theorem clockUp_fit {X:Wd} (h:Fit X) {n:Nat} (hn:n < X.nodes.length) (hc:(X.nodes.getD n N.zero).clock ≠ 1048576):Fit (clockUp X n):=by
 have hm:=getD_mem X.nodes N.zero hn
 have hl:(clockUp X n).nodes.length = X.nodes.length:=by simp [clockUp]
 refine ⟨by rw [hl];exact h.nodes,h.groups,by rw [hl];exact h.wires,fun r hr=>by rw [hl];exact h.rows r hr,fun x hx=>?_,fun x hx=>?_,h.wl,fun x hx=>?_⟩
 ·rcases mem_set hx with h' | rfl
  ·rw [hl];exact h.tabs x h'
  ·rw [hl];exact (h.tabs (X.nodes.getD n N.zero) hm :)
 ·rcases mem_set hx with h' | rfl
  ·exact h.lists x h'
  ·exact (h.lists (X.nodes.getD n N.zero) hm :)
 ·rcases mem_set hx with h' | rfl
  ·exact h.clocks x h'
  ·have:=h.clocks (X.nodes.getD n N.zero) hm
   show 0 ≤ (X.nodes.getD n N.zero).clock + 1 ∧ (X.nodes.getD n N.zero).clock + 1 ≤ 1048576
   omega
theorem castW_fit {X:Wd} (h:Fit X) {n:Nat} {g:Int} {m:M} (hn:n < X.nodes.length):∀ {k:Nat},k ≤ X.nodes.length → Fit (castW X n g m k).2 ∧ (castW X n g m k).2.nodes = X.nodes ∧ (castW X n g m k).2.groups = X.groups
 | 0,_=>⟨h,rfl,rfl⟩
 | k + 1,hk=>by
  obtain ⟨h1,h2,h3⟩:=castW_fit h hn (g:=g) (m:=m) (k:=k) (by omega)
  unfold castW
  split
  ·obtain ⟨h4,h5,h6⟩:=castStep_fit h1 (g:=g) (m:=m) (n:=n) (k:=k) (by rw [h2];exact hn) (by rw [h2];exact hk)
   exact ⟨h4,h5.trans h2,h6.trans h3⟩
  ·exact ⟨h1,h2,h3⟩
end Go.Proofs.YtnalakhelicjcaaGreatDoor
