/-
  Messages: what each function of the package msg, and of the document's answer to it, computes.
  Messages: the document's answers walked.
  Messages: where one stands in a list that rises; putting it there.
  Put a message into a row of one's own: slices.Insert, at messages, of one.
  Put a message into a list.
  The document's answer: put a message into a list.
-/
import Derived.Test.YtnalakhelicjcaaGreatDoorZKG
import Derived.Test.YtnalakhelicjcaaGreatDoorZKA
import Derived.StillTailTactics
import Derived.Lib.AppendZerosOnto
import Derived.Lib.Overlaps
import Derived.Laws.OwnMore
import Derived.Laws.Externs
import Derived.Deep.RegionHeld3
import Derived.Laws.AppendOwnNone
set_option maxRecDepth 100000
namespace Go.Proofs.YtnalakhelicjcaaGreatDoor
open Go.RowKit Go.Shelf Go.BigFrame
theorem isNaN_c (w:World) (x:Int):Calls Tryz.prog 181 #[.int .i64 x] w fun e w'=>e = .returned (.bool false) ∧ w = w':=by
 go_enter Tryz.func181,Tryz.ntmps181
 go_wp2
 go_ret;exact ⟨ret_bool (by simp),rfl⟩
theorem Compare_c (w:World) (x y:Int):Calls Tryz.prog 179 #[.int .i64 x, .int .i64 y] w fun e w'=>e = .returned (.int .i64 (cmpI x y)) ∧ w = w':=by
 have h:=fun w x=>isNaN_c w x
 go_enter Tryz.func179,Tryz.ntmps179
 go_wp2_with (go_at_call 181;refine (h _ _).mono ?_;rintro e w' ⟨rfl,rfl⟩)
 all_goals (go_ret;exact ⟨ret_int (by unfold cmpI;first | rw [if_pos (by assumption)] | rw [if_neg (by omega),if_pos (by assumption)] | rw [if_neg (by omega),if_neg (by omega)]),rfl⟩)
theorem Or_c (w:World) (b:Nat) (x y:Int) (h0:w.cell? ⟨b,0,none⟩ = some (.int .i64 x)) (h1:w.cell? ⟨b,1,none⟩ = some (.int .i64 y)) :
  Calls Tryz.prog 178 #[.slice (some ⟨b,0,none⟩) 2 2] w fun e w'=>e = .returned (.int .i64 (orI x y)) ∧ w = w':=by
 by_cases hx:x = 0
 ·have hx1:(x != 0) = false:=by simp [hx]
  have HX:=Lib.hid hx
  clear hx
  by_cases hy:y = 0
  ·have hx2:(y != 0) = false:=by simp [hy]
   have HY:=Lib.hid hy
   clear hy
   go_enter Tryz.func178,Tryz.ntmps178
   go_wp2
   refine wp_loop_rounds 3 ?_
   repeat any_goals (rw [rounds_succ];go_wp2)
   go_ret
   exact ⟨ret_int (by rw [orI,if_pos HX.out,HY.out]),rfl⟩
  ·have hx2:(y != 0) = true:=by simp [hy]
   go_enter Tryz.func178,Tryz.ntmps178
   go_wp2
   refine wp_loop_rounds 2 ?_
   repeat any_goals (rw [rounds_succ];go_wp2)
   go_ret
   exact ⟨ret_int (by rw [orI,if_pos HX.out]),rfl⟩
 ·have hx1:(x != 0) = true:=by simp [hx]
  have HX:=Lib.hid hx
  clear hx
  go_enter Tryz.func178,Tryz.ntmps178
  go_wp2
  refine wp_loop_rounds 1 ?_
  repeat any_goals (rw [rounds_succ];go_wp2)
  go_ret
  exact ⟨ret_int (by rw [orI,if_neg HX.out]),rfl⟩
theorem order_c (w:World) (a b:M):Calls Tryz.prog 169 #[a.val,b.val] w (GivesB (.int .i64 (ordM a b)) w):=by
 unfold M.val
 go_enter Tryz.func169,Tryz.ntmps169
 go_wp2_with fail
 refine wp_region_over_tail 10 (by kernel_rfl) (by kernel_rfl) ?_
 simp only [List.take_succ_cons,List.take_zero,List.drop_succ_cons,List.drop_zero]
 repeat (go_big_quiet_step (exact over_w (Compare_c _ _ _)))
 refine wpQuiet_nil ?_
 rintro w2 ⟨⟨_,hb⟩,rfl⟩
 have hOr:=fun h0 h1=>Or_c (w2.alloc (.cells #[.int .i64 (cmpI a.stamp b.stamp), .int .i64 (cmpI a.src b.src)] 3)) w2.heap.size (cmpI a.stamp b.stamp) (cmpI a.src b.src) h0 h1
 replace hOr:=hOr (by simp) (by simp)
 go_wp2_with fail
 refine hOr.mono ?_
 rintro e w3 ⟨rfl,rfl⟩
 go_wp2_with fail
 go_ret
 have hA:Below w.heap.size w ((w.alloc (.cells #[.int .i64 a.src, .int .i64 a.grp, .int .i64 a.stamp, .bool a.null, .string a.body] 96)).alloc (.cells #[.int .i64 b.src, .int .i64 b.grp, .int .i64 b.stamp, .bool b.null, .string b.body] 96)):=((Below.refl _ w).alloc (Nat.le_refl _) _).alloc (by simp) _
 exact givesB_int ((hA.trans (hb.mono hA.size)).alloc (by have:=hb.size;simp at this;omega) _) rfl
theorem LessOf_c (w:World) (a b:M):Calls Tryz.prog 132 #[a.val,b.val] w (GivesB (.bool (lessM a b)) w):=by
 unfold M.val
 go_enter Tryz.func132,Tryz.ntmps132
 go_wp2_with fail
 all_goals
  go_ret
  exact givesB_bool (below_a2 _ _ _) (by simp [lessM, *] <;> (intros;omega))
theorem Rises_c {w:World} {v:Value} {ms:List M} (h:Msgs w v ms):Calls Tryz.prog 157 #[v] w (GivesB (.bool (risesB ms)) w):=by
 obtain ⟨hl,a,cap,rfl,_,hc⟩:=h.open
 replace hc:=Lib.hid hc
 go_enter Tryz.func157,Tryz.ntmps157
 go_wp2_with fail
 go_loopw [3,6] (fun _ i wr=>∃ k:Nat,k ≤ ms.length ∧ i = .int .i64 k ∧ risesB (ms.take k) = true ∧ Below w.heap.size w wr) (fun _ i _=>ms.length - (intOf i).toNat)
 case atStart=>exact ⟨0,by omega,rfl,rfl,Below.refl _ _⟩
 case round =>
  obtain ⟨k,hk,rfl,hr,hb⟩:=hrel
  replace hr:=Lib.hid hr
  by_cases hlt:k < ms.length
  ·obtain ⟨b,off,rfl,hcc⟩:=hc.out (by intro e;subst e;simp at hlt)
   by_cases h0:0 < k
   ·obtain ⟨j,rfl⟩:∃ j,k = j + 1:=⟨k - 1,by omega⟩
    have hm:=(hcc (j + 1) hlt).below hb
    have hp:=(hcc j (by omega)).below hb
    have hne:(ordM (ms.getD j M.zero) (ms.getD (j + 1) M.zero)) = (ordM (ms.getD j M.zero) (ms.getD (j + 1) M.zero)):=rfl
    clear hne
    obtain ⟨m,HM⟩:∃ m,ms.getD (j + 1) M.zero = m:=⟨_,rfl⟩
    obtain ⟨p,HP⟩:∃ p,ms.getD j M.zero = p:=⟨_,rfl⟩
    rw [HM] at hm
    rw [HP] at hp
    replace HM:=Lib.hid HM
    replace HP:=Lib.hid HP
    have hblt:=cell_lt hm.1
    dsimp only at hblt
    obtain ⟨m0,m1,m2,m3,m4⟩:=hm
    obtain ⟨p0,p1,p2,p3,p4⟩:=hp
    have hd0:decide (0 < (↑(j + 1):Int)) = true:=decide_eq_true (by omega)
    have ht:=Lib.hid (risesB_take (ms:=ms) (j:=j) hlt)
    cases hlm:lessM p m
    ·have hd1:decide (0 ≤ ordM p m) = true:=by rw [ordM_ge,hlm];rfl
     go_wp2_with fail
     refine wp_region_over (by kernel_rfl) (by kernel_rfl) ?_
     repeat (go_big_quiet_step (exact over_c (order_c _ p m)))
     refine wpQuiet_nil ?_
     rintro w2 ⟨⟨_,hb2⟩,rfl⟩
     go_wp2_with fail
     go_ret
     exact givesB_bool (below_trans hb hb2) (by rw [risesB_no (by rw [ht.out,HP.out,HM.out,hlm,Bool.and_false])])
    ·have hd1:decide (0 ≤ ordM p m) = false:=by rw [ordM_ge,hlm];rfl
     go_wp2_with fail
     refine wp_region_over (by kernel_rfl) (by kernel_rfl) ?_
     repeat (go_big_quiet_step (exact over_c (order_c _ p m)))
     refine wpQuiet_nil ?_
     rintro w2 ⟨⟨_,hb2⟩,rfl⟩
     go_wp2_with fail
     go_roundw
     case rel=>exact ⟨j + 1 + 1,by omega,by go_num,by rw [ht.out,HP.out,HM.out,hlm,hr.out];rfl,below_trans hb hb2⟩
     case measure=>simp [intOf];omega
   ·obtain rfl:k = 0:=by omega
    go_wp2_with fail
    refine wp_region_over (by kernel_rfl) (by kernel_rfl) ?_
    repeat (go_big_quiet_step (fail))
    refine wpQuiet_nil ?_
    rintro w2 ⟨⟨_,hb2⟩,rfl⟩
    go_wp2_with fail
    go_roundw
    case rel=>exact ⟨1,by omega,by go_num,by cases ms <;> rfl,below_trans hb hb2⟩
    case measure=>simp [intOf];omega
  ·obtain rfl:k = ms.length:=by omega
   have hr:=hr.out
   rw [List.take_length] at hr
   replace hr:=Lib.hid hr
   go_wp2_with fail
   go_ret
   exact givesB_bool hb (by rw [hr.out])
set_option maxHeartbeats 1000000 in
theorem Right_c {w:World} {v:Value} {xs:List Int} (h:Ints w v xs) (nodes:Int) (m:M):Calls Tryz.prog 177 #[.int .i64 nodes,v,m.val] w (GivesB (.int .i64 (rightE nodes xs m)) w):=by
 obtain ⟨hl,a,cap,rfl,_,_⟩:=h.open
 have hA:=below_a1 w (.cells #[.int .i64 m.src, .int .i64 m.grp, .int .i64 m.stamp, .bool m.null, .string m.body] 96)
 have hcon:=Has_c (h.below hA) m.grp m.src
 clear hA h
 unfold M.val
 by_cases hr:inRange nodes xs m
 ·obtain ⟨r1,r2,r3,r4,r5,r6⟩:=hr
  cases hh:hasB xs m.grp m.src
  case' false =>
   have HE:=Lib.hid (rightE_5 ⟨r1,r2,r3,r4,r5,r6⟩ hh)
   rw [hh] at hcon
   replace hh:=Lib.hid hh
  case' true =>
   rw [hh] at hcon
   by_cases hb:8 < (m.body.size:Int)
   case' pos =>
    have HE:=Lib.hid (rightE_1a ⟨r1,r2,r3,r4,r5,r6⟩ hh hb)
    replace hh:=Lib.hid hh
   case' neg =>
    cases hn:m.null
    case' false=>have HE:=Lib.hid (rightE_0a ⟨r1,r2,r3,r4,r5,r6⟩ hh hb hn)
    case' true =>
     cases he:m.body.toList.isEmpty
     case' false=>have HE:=Lib.hid (rightE_1b ⟨r1,r2,r3,r4,r5,r6⟩ hh hb hn he)
     case' true=>have HE:=Lib.hid (rightE_0b ⟨r1,r2,r3,r4,r5,r6⟩ hh hb he)
    all_goals
     replace hh:=Lib.hid hh
     replace hn:=Lib.hid hn
     rw [hn.out] at hcon
  all_goals
   go_enter Tryz.func177,Tryz.ntmps177
   go_wp2_with (go_at_call 101;refine hcon.mono ?_;rintro e w' ⟨rfl,rfl⟩)
   go_ret
   exact givesB_int (below_a1 _ _) HE.out.symm
 ·have HE:=Lib.hid (rightE_3 hr)
  unfold inRange at hr
  clear hcon
  go_enter Tryz.func177,Tryz.ntmps177
  go_wp2_with fail
  all_goals
   first
    |(exfalso;omega)
    |(go_ret;exact givesB_int (below_a1 _ _) HE.out.symm)
end Go.Proofs.YtnalakhelicjcaaGreatDoor
set_option maxRecDepth 100000
namespace Go.Proofs.YtnalakhelicjcaaGreatDoor
open Go.RowKit Go.Shelf Go.BigFrame
set_option maxHeartbeats 1000000 in
theorem MsgError_c {w:World} {v:Value} {xs:List Int} (h:Ints w v xs) (nodes:Int) (m:M):Calls Tryz.prog 133 #[.int .i64 nodes,v,m.val] w (GivesB (.int .i64 (msgE nodes xs m)) w):=by
 obtain ⟨hl,a,cap,rfl,_,_⟩:=h.open
 have hA:=below_a1 w (.cells #[.int .i64 m.src, .int .i64 m.grp, .int .i64 m.stamp, .bool m.null, .string m.body] 96)
 have hM:=MsgBox.new w m 96
 have h1:=h.below hA
 have hc:=GroupsError_c h1 nodes
 clear h
 unfold M.val
 by_cases he:gErr nodes xs = 0
 case' neg =>
  have HE:=Lib.hid (show msgE nodes xs m = gErr nodes xs by rw [msgE,if_neg he])
  have hne:(gErr nodes xs != 0) = true:=by simpa using he
  generalize gErr nodes xs = r at *
  clear he
  go_enter Tryz.func133,Tryz.ntmps133
  go_wp2_with fail
  refine hc.mono ?_
  rintro e w2 ⟨rfl,hd⟩
  clear hc
  go_wp2_with fail
  go_ret
  exact givesB_int (below_trans hA hd.below) HE.out.symm
 rw [he] at hc
 have HM:=Lib.hid (show msgE nodes xs m = rightE nodes xs m by rw [msgE,if_pos he])
 obtain ⟨hn1,hn2⟩:=inB_t (gErr_zero he).1
 clear he
 have hcon:=fun w' (hd:Drew _ w')=>HasOf_c (h1.below hd.below) m.grp m.src
 have HR:=Lib.hid (rightE_cases nodes xs m)
 generalize rightE nodes xs m = r at HR HM
 obtain ⟨src,grp,stamp,null,body⟩:=m
 dsimp only at *
 by_cases h1r:inB src 0 (nodes - 1) = true
 case' neg =>
  have HE:=Lib.hid (HR.out.1 (fun h=>h1r (inB_mk h.1 (by have:=h.2.1;dsimp only at this;omega))))
  rw [Bool.not_eq_true] at h1r
 case' pos =>
  by_cases h2r:inB grp 0 (↑xs.length - 1) = true
  case' neg =>
   have HE:=Lib.hid (HR.out.1 (fun h=>h2r (inB_mk h.2.2.1 (by have:=h.2.2.2.1;dsimp only at this;omega))))
   rw [Bool.not_eq_true] at h2r
  case' pos =>
   by_cases h3r:inB stamp 1 1048576 = true
   case' neg =>
    have HE:=Lib.hid (HR.out.1 (fun h=>h3r (inB_mk h.2.2.2.2.1 h.2.2.2.2.2)))
    rw [Bool.not_eq_true] at h3r
   case' pos =>
    have hir:inRange nodes xs ⟨src,grp,stamp,null,body⟩:=⟨(inB_t h1r).1,by have:=inB_t h1r;dsimp only;omega,(inB_t h2r).1,by have:=inB_t h2r;dsimp only;omega,inB_t h3r⟩
    have HR2:=Lib.hid (HR.out.2 hir)
    clear hir HR
    cases hh:hasB xs grp src
    case' false =>
     have HE:=Lib.hid (HR2.out.1 hh)
     rw [hh] at hcon
     replace hh:=Lib.hid hh
    case' true =>
     rw [hh] at hcon
     have HR3:=Lib.hid (HR2.out.2 hh)
     replace hh:=Lib.hid hh
     clear HR2
     by_cases hb:8 < (body.size:Int)
     case' pos =>
      have HE:=Lib.hid (HR3.out.1 hb)
      have hbb:decide (8 < (body.size:Int)) = true:=decide_eq_true hb
     case' neg =>
      have hbb:decide (8 < (body.size:Int)) = false:=decide_eq_false hb
      have HR4:=Lib.hid (HR3.out.2 hb)
      cases null
      case' false=>have HE:=Lib.hid (HR4.out.1 rfl)
      case' true =>
       cases he:body.toList.isEmpty
       case' false=>have HE:=Lib.hid (HR4.out.2.1 rfl he)
       case' true=>have HE:=Lib.hid (HR4.out.2.2 he)
 all_goals
  replace hcon:=Lib.hid hcon
  replace hM:=Lib.hid hM
  go_enter Tryz.func133,Tryz.ntmps133
  go_wp2_with fail
  refine hc.mono ?_
  rintro e w2 ⟨rfl,hd⟩
  clear hc
  obtain ⟨c0,c1,c2,c3,c4⟩:=hM.out.below hd.below (by simp)
  have hcon2:=hcon.out w2 hd
  clear hcon hM
  go_wp2_with (first | (go_at_call 39;refine (within_c _ _ _ _).mono ?_;rintro e w' ⟨rfl,rfl⟩) | (go_at_call 68;refine hcon2.mono ?_;rintro e w' ⟨rfl,rfl⟩))
  go_ret
  exact givesB_int (below_trans hA hd.below) (by rw [HM.out,HE.out])
end Go.Proofs.YtnalakhelicjcaaGreatDoor
set_option maxRecDepth 100000
namespace Go.Proofs.YtnalakhelicjcaaGreatDoor
open Go.RowKit Go.Shelf Go.BigFrame
theorem lessM_iff {a b:M}:lessM a b = true ↔ a.stamp < b.stamp ∨ a.stamp = b.stamp ∧ a.src < b.src:=by
 simp [lessM]
theorem lessM_trans {a b c:M} (h:lessM a b = true) (k:lessM b c = true):lessM a c = true:=by
 rw [lessM_iff] at *;omega
theorem risesB_pair:∀ {ms:List M},risesB ms = true ↔ ms.Pairwise (fun a b=>lessM a b = true)
 | []=>by simp [risesB]
 | [_]=>by simp [risesB]
 | a :: b :: l=>by
  rw [risesB,Bool.and_eq_true,risesB_pair (ms:=b :: l),List.pairwise_cons (a:=a)]
  constructor
  ·rintro ⟨h1,h2⟩
   refine ⟨fun c hc=>?_,h2⟩
   rcases List.mem_cons.1 hc with rfl | hc
   ·exact h1
   ·exact lessM_trans h1 ((List.pairwise_cons.1 h2).1 c hc)
  ·rintro ⟨h1,h2⟩
   exact ⟨h1 b (by simp),h2⟩
theorem rises_lt {ms:List M} (h:risesB ms = true) {s t:Nat} (hs:s < t) (ht:t < ms.length):lessM (ms.getD s M.zero) (ms.getD t M.zero) = true:=by
 rw [risesB_pair] at h
 rw [getD_lt ms M.zero (by omega),getD_lt ms M.zero ht]
 exact List.pairwise_iff_getElem.1 h s t _ _ hs
def posM (ms:List M) (m:M):Nat:=(ms.takeWhile fun a=>lessM a m).length
theorem posM_eq:∀ {ms:List M} {m:M} {k:Nat},k ≤ ms.length → (∀ t,t < k → lessM (ms.getD t M.zero) m = true) → (k < ms.length → lessM (ms.getD k M.zero) m = false) → posM ms m = k
 | [],_,k,hk,_,_=>by
  have:k = 0:=by simpa using hk
  subst this;rfl
 | a :: ms,m,0,_,_,h2=>by
  have:=h2 (by simp)
  simp at this
  simp [posM,this]
 | a :: ms,m,k + 1,hk,h1,h2=>by
  have h0:=h1 0 (by omega)
  simp at h0
  have ih:=posM_eq (ms:=ms) (m:=m) (k:=k) (by simpa using hk) (fun t ht=>by simpa using h1 (t + 1) (by omega)) (fun h=>by simpa using h2 (by simpa using h))
  simp [posM,h0] at ih ⊢
  exact ih
def foundM (ms:List M) (m:M):Bool:=decide (posM ms m < ms.length) && (ordM (ms.getD (posM ms m) M.zero) m == 0)
theorem MsgBox.cells {w:World} {b:Nat} {m:M} (h:MsgBox w b m):b < w.heap.size:=cell_lt h.1
set_option maxHeartbeats 1000000 in
theorem Search_c {w:World} {v:Value} {ms:List M} (h:Msgs w v ms) (m:M) (hr:risesB ms = true) :
  Calls Tryz.prog 170 #[v,m.val, .func (.func 169) #[] #[]] w (GivesB (.tuple #[.int .i64 (posM ms m), .bool (foundM ms m)]) w):=by
 obtain ⟨hl,a,cap,rfl,_,hc⟩:=h.open
 replace hc:=Lib.hid hc
 replace hr:=Lib.hid hr
 have hA:=below_a1 w (.cells #[.int .i64 m.src, .int .i64 m.grp, .int .i64 m.stamp, .bool m.null, .string m.body] 96)
 have hM:=MsgBox.new w m 96
 unfold M.val
 go_enter Tryz.func170,Tryz.ntmps170
 go_wp2_with fail
 go_loopw [9,10,11] (fun i j _ wr=>∃ p q:Nat,p ≤ q ∧ q ≤ ms.length ∧ i = .int .i64 p ∧ j = .int .i64 q ∧ Hid (∀ t,t < p → lessM (ms.getD t M.zero) m = true) ∧ Hid (∀ t,q ≤ t → t < ms.length → lessM (ms.getD t M.zero) m = false) ∧
  Below (w.alloc (.cells #[.int .i64 m.src, .int .i64 m.grp, .int .i64 m.stamp, .bool m.null, .string m.body] 96)).heap.size (w.alloc (.cells #[.int .i64 m.src, .int .i64 m.grp, .int .i64 m.stamp, .bool m.null, .string m.body] 96)) wr) (fun i j _ _=>(intOf j).toNat - (intOf i).toNat)
 case atStart=>exact ⟨0,ms.length,by omega,by omega,rfl,rfl,fun t ht=>absurd ht (Nat.not_lt_zero _),fun t h1 h2=>by omega,Below.refl _ _⟩
 case round =>
  obtain ⟨p,q,hpq,hq,rfl,rfl,h1,h2,hb⟩:=hrel
  obtain ⟨c0,c1,c2,c3,c4⟩:=hM.below hb (by simp)
  have hmb:=cell_lt c0
  dsimp only at hmb
  by_cases hlt:p < q
  ·obtain ⟨b,off,rfl,hcc⟩:=hc.out (by intro e;subst e;simp at hq;omega)
   have hw2:=below_trans hA hb
   obtain ⟨h,he,hph,hhq⟩:∃ h:Nat,(h:Int) = ((p:Int) + (q:Int)) / 2 ∧ p ≤ h ∧ h < q:=⟨(p + q) / 2,by omega,by omega,by omega⟩
   replace he:=Lib.hid he
   obtain ⟨d,hd⟩:∃ d,ms.getD h M.zero = d:=⟨_,rfl⟩
   obtain ⟨d0,d1,d2,d3,d4⟩:=(hcc h (by omega)).below hw2
   rw [hd] at d0 d1 d2 d3 d4
   replace hd:=Lib.hid hd
   have hdb:=cell_lt d0
   dsimp only at hdb
   go_wp2_with fail
   rw [← he.out]
   cases hlm:lessM d m
   ·have ho:decide (ordM d m < 0) = false:=by rw [ordM_lt,hlm]
    refine wp_region_over (by kernel_rfl) (by kernel_rfl) ?_
    repeat (go_big_quiet_step (exact over_c (order_c _ d m)))
    refine wpQuiet_nil ?_
    rintro w2 ⟨⟨_,hb2⟩,rfl⟩
    go_wp2_with fail
    go_roundw
    case rel =>
     refine ⟨p,h,by omega,by omega,rfl,rfl,h1,fun t ht htl=>?_,hb.trans (hb2.mono hb.size)⟩
     cases hx:lessM (ms.getD t M.zero) m
     ·rfl
     ·exfalso
      rcases Nat.eq_or_lt_of_le ht with e | e
      ·subst e;rw [hd.out,hlm] at hx;cases hx
      ·have:=lessM_trans (rises_lt hr.out e htl) hx
       rw [hd.out,hlm] at this;cases this
    case measure=>simp [intOf];omega
   ·have ho:decide (ordM d m < 0) = true:=by rw [ordM_lt,hlm]
    refine wp_region_over (by kernel_rfl) (by kernel_rfl) ?_
    repeat (go_big_quiet_step (exact over_c (order_c _ d m)))
    refine wpQuiet_nil ?_
    rintro w2 ⟨⟨_,hb2⟩,rfl⟩
    go_wp2_with fail
    go_roundw
    case rel =>
     refine ⟨h + 1,q,by omega,by omega,by go_num,rfl,fun t ht=>?_,h2,hb.trans (hb2.mono hb.size)⟩
     rcases Nat.eq_or_lt_of_le (Nat.le_of_lt_succ ht) with e | e
     ·subst e;rw [hd.out,hlm]
     ·have:=rises_lt hr.out e (by omega)
      rw [hd.out] at this
      exact lessM_trans this hlm
    case measure=>simp [intOf];omega
  ·obtain rfl:p = q:=by omega
   have hpos:posM ms m = p:=posM_eq hq h1.out (fun h=>h2.out p (Nat.le_refl _) h)
   replace hpos:=Lib.hid hpos
   by_cases hlt:p < ms.length
   ·obtain ⟨b,off,rfl,hcc⟩:=hc.out (by intro e;subst e;simp at hlt)
    have hw2:=below_trans hA hb
    obtain ⟨d,hd⟩:∃ d,ms.getD p M.zero = d:=⟨_,rfl⟩
    obtain ⟨d0,d1,d2,d3,d4⟩:=(hcc p (by omega)).below hw2
    rw [hd] at d0 d1 d2 d3 d4
    replace hd:=Lib.hid hd
    have hdb:=cell_lt d0
    dsimp only at hdb
    go_wp2_with fail
    have hlt':decide ((p:Int) < (ms.length:Int)) = true:=decide_eq_true (by omega)
    refine wp_region_over (by kernel_rfl) (by kernel_rfl) ?_
    repeat (go_big_quiet_step (exact over_c (order_c _ d m)))
    refine wpQuiet_nil ?_
    rintro w2 ⟨⟨_,hb2⟩,rfl⟩
    go_wp2_with fail
    go_ret2
    refine ⟨ret_val ?_,below_trans hw2 hb2⟩
    rw [hpos.out,foundM,hpos.out,hd.out,decide_eq_true hlt,Bool.true_and]
    rfl
   ·have hlt':decide ((p:Int) < (ms.length:Int)) = false:=decide_eq_false (by omega)
    go_wp2_with fail
    refine wp_region_over (by kernel_rfl) (by kernel_rfl) ?_
    repeat (go_big_quiet_step (fail))
    refine wpQuiet_nil ?_
    rintro w2 ⟨⟨_,hb2⟩,rfl⟩
    go_wp2_with fail
    go_ret2
    refine ⟨ret_val ?_,below_trans (below_trans hA hb) hb2⟩
    rw [hpos.out,foundM,hpos.out,decide_eq_false hlt,Bool.false_and]
    rfl
theorem Seek_c {w:World} {v:Value} {ms:List M} (h:Msgs w v ms) (m:M) (hr:risesB ms = true) :
  Calls Tryz.prog 158 #[v,m.val] w (GivesB (.tuple #[.int .i64 (posM ms m), .bool (foundM ms m)]) w):=by
 have hA:=below_a1 w (.cells #[.int .i64 m.src, .int .i64 m.grp, .int .i64 m.stamp, .bool m.null, .string m.body] 96)
 have hS:=Search_c (h.below hA) m hr
 unfold M.val at hS ⊢
 go_enter Tryz.func158,Tryz.ntmps158
 go_wp2_with fail
 refine hS.mono ?_
 rintro e w2 ⟨rfl,hb⟩
 go_wp2_with fail
 go_ret2
 exact ⟨rfl,below_trans hA hb⟩
end Go.Proofs.YtnalakhelicjcaaGreatDoor
set_option maxRecDepth 100000
namespace Go.Proofs.YtnalakhelicjcaaGreatDoor
open Go.RowKit Go.Shelf Go.Lib
section
variable {P:Program}
theorem run_copy_rowN (w:World) (dT sT ty elem:TypeId) (s g o dLen dCap:Nat) (a:Addr) (sLen sCap:Nat) (cur:Array Value) (t:TypeId) (cs:List Value)
  (hu:P.underlying dT = some (.slice elem)) (hs:(P.info? elem).map (·.size) = some s)
  (hg:w.heap[g]? = some (.cells cur t (0,0))) (hn:cs.length = Nat.min sLen dLen * s)
  (hsrc:∀ j v,cs[j]? = some v → w.cell? (a.add j) = some v) (hfit:o + cs.length ≤ cur.size) (h1:∀ v ∈ cs,v.oneCell' = true) :
  (Builtin.copy_ #[dT,sT] ty #[.slice (some ⟨g,o,none⟩) dLen dCap, .slice (some a) sLen sCap]).run P w =
   .ok (goInt (Nat.min sLen dLen)) (w.setRow g (cur.toList.take o ++ cs ++ cur.toList.drop (o + cs.length)).toArray):=by
 have hl:=run_loadCells_list (P:=P) w a cs hsrc
 have hst:=run_storeCells_at P g o t cs 0 cur w hg (by simpa using hfit) h1
 cases hq:P.info? elem with
 | none=>simp [hq] at hs
 | some i =>
  have hi:i.size = s:=by simpa [hq] using hs
  simp [Builtin.copy_,run_underlying hu,Builtin.lenOf,Builtin.firstCells,sizeOf,typeInfo,hq,hi, ← hn,hl,hst]
theorem wp_copy_runM (w:World) {o:Oper} {a:Act} {K:Act → World → Prop} {Q:Exit → Act → World → Prop} (d s:Operand) (t t':TypeId)
  (ho:o.op = .call { callee:=.builtin .copy,args:=#[d,s],argTypes:=#[t,t'] }) (v u:Value) (hd:a.eval d = v) (hs:a.eval s = u) {v':Value} {w':World}
  (hr:(Builtin.copy_ #[t,t'] o.type #[v,u]).run P w = .ok v' w') (h:K (a.put o.dst v') w'):o.wp P a w K Q:=by
 unfold Oper.wp execOp
 simp only [ho,resolve,invoke,builtin,Sem.run_bind,Sem.run_pure,Result.andThen_ok,List.map_toArray,List.map_cons,List.map_nil,hd,hs,hr]
 exact h
theorem wpList_copy_runM (w:World) {ops:Array Oper} {rest:List Oper} {o:Oper} {a:Act} {Q:Exit → Act → World → Prop} (hgd:o.guard = none) (d s:Operand) (t t':TypeId)
  (ho:o.op = .call { callee:=.builtin .copy,args:=#[d,s],argTypes:=#[t,t'] }) (v u:Value) (hd:a.eval d = v) (hs:a.eval s = u) {v':Value} {w':World}
  (hr:(Builtin.copy_ #[t,t'] o.type #[v,u]).run P w = .ok v' w') (h:wpList P ops Q rest (a.put o.dst v') w'):wpList P ops Q (o :: rest) a w:=
 wpList_plain hgd fun _ hK=>wp_copy_runM w d s t t' ho v u hd hs hr (hK _ _ h)
end
theorem Addr.add0 (g o j:Nat):(⟨g,o,none⟩:Addr).add j = ⟨g,o + j,none⟩:=by unfold Addr.add;split <;> simp_all
def putIn (cs:List Value) (k:Nat) (news:List Value):List Value:=cs.take k ++ news ++ cs.drop k
theorem shift_laws {cur cs news:List Value} {a k N:Nat} (hk:news.length = k) (hN:cs.length = N) (hc:cur.take N = cs) (ha:a ≤ N) (hf:N + k ≤ cur.length) :
  (cur.take (a + k) ++ cs.drop a ++ cur.drop (a + k + (cs.drop a).length)).length = cur.length ∧
  ((cur.take (a + k) ++ cs.drop a ++ cur.drop (a + k + (cs.drop a).length)).take a ++ news ++ (cur.take (a + k) ++ cs.drop a ++ cur.drop (a + k + (cs.drop a).length)).drop (a + news.length)).length = cur.length ∧
  ((cur.take (a + k) ++ cs.drop a ++ cur.drop (a + k + (cs.drop a).length)).take a ++ news ++ (cur.take (a + k) ++ cs.drop a ++ cur.drop (a + k + (cs.drop a).length)).drop (a + news.length)).take (N + k) = putIn cs a news:=by
 have h1:(cur.take (a + k)).length = a + k:=by rw [List.length_take];omega
 have h2:(cs.drop a).length = N - a:=by rw [List.length_drop];omega
 have h3:(cur.take (a + k) ++ cs.drop a ++ cur.drop (a + k + (cs.drop a).length)).length = cur.length:=by
  simp only [List.length_append,h1,h2,List.length_drop];omega
 have h4:(cur.take (a + k) ++ cs.drop a ++ cur.drop (a + k + (cs.drop a).length)).take a = cs.take a:=by
  rw [List.append_assoc,List.take_append_of_le_length (by omega),List.take_take, ← hc,List.take_take]
  congr 1;omega
 have h5:(cur.take (a + k) ++ cs.drop a ++ cur.drop (a + k + (cs.drop a).length)).drop (a + news.length) = cs.drop a ++ cur.drop (a + k + (cs.drop a).length):=by
  rw [List.append_assoc,List.drop_append_of_le_length (by omega),List.drop_of_length_le (by omega),List.nil_append]
 refine ⟨h3, ?_, ?_⟩
 ·rw [h4,h5]
  simp only [List.length_append,List.length_take,List.length_drop];omega
 ·rw [h4,h5, ← List.append_assoc,List.take_append_of_le_length (by simp only [List.length_append,List.length_take,List.length_drop];omega),List.take_of_length_le (by simp only [List.length_append,List.length_take,List.length_drop];omega)]
  rfl
set_option maxHeartbeats 2000000 in
theorem Insert_c {w:World} {base n i vb:Nat} {v:Value} {cs news:List Value} (hown:w.ownsRow base 96 5 v n cs) (h1:∀ u ∈ cs,u.oneCell' = true) (hi:i ≤ n) (hn:n ≤ 200)
  (hl:news.length = 5) (h2:∀ u ∈ news,u.oneCell' = true) (hvb:w.heap[vb]? = some (.cells news.toArray 96 (0,0))) (hne:v.ownBlock ≠ some vb) (hb:base ≤ w.heap.size) :
  Calls Tryz.prog 159 #[v, .int .i64 i, .slice (some ⟨vb,0,none⟩) 1 1] w fun e w' =>
   ∃ v',e = .returned v' ∧ w'.ownsRow base 96 5 v' (n + 1) (putIn cs (i * 5) news) ∧ Below base w w':=by
 obtain ⟨i0,hi0,hz0,hz1,hz2⟩:=info_parts infoCMsg
 have hlc:=hown.1
 have hnews:∀ j u,news[j]? = some u → w.cell? ((⟨vb,0,none⟩:Addr).add j) = some u:=fun j u hj=>by
  rw [Addr.add0,cell_of_row w vb (0 + j) _ _ _ hvb]
  simpa using hj
 have hnewsH:=Lib.hid hnews
 have h2H:=Lib.hid h2
 have h1H:=Lib.hid h1
 by_cases hin:i = n
 ·subst hin
  have hput:putIn cs (i * 5) news = cs ++ news:=by
   rw [putIn, ← hlc,List.take_length,List.drop_length,List.append_nil]
  rw [hput]
  have hform:v = .slice none 0 0 ∧ i = 0 ∨ ∃ g cap,v = .slice (some ⟨g,0,none⟩) i cap ∧ i ≤ cap ∧ cap ≤ maxLen:=by
   rcases hown.2 with ⟨h,h'⟩ | ⟨g,cap,_,h,_,_,hc,hm,_⟩
   ·exact .inl ⟨h,h'⟩
   ·exact .inr ⟨g,cap,h,hc,hm⟩
  clear hnews h2 h1 hput hvb
  rcases hform with ⟨rfl,rfl⟩ | ⟨g,cap,rfl,hcap,hmax⟩
  ·go_enter Tryz.func159,Tryz.ntmps159
   go_wp2_with (at_builtin;refine wpList_append_own _ rfl _ _ 63 rfl base 96 i0 _ 5 48 Tryz.underlying63 hi0 hz0 hz1 hz2 rfl (by decide) _ _ _ rfl hown ⟨vb,0,none⟩ 1 1 news rfl hl hnewsH.out h2H.out (by unfold maxLen;omega) (by omega) hb ?_;intro v' w1 hown' hgrow _)
   go_ret
   exact ⟨_,rfl,hown',(Below.refl _ w).grown hgrow hb (fun k e=>(hown.lt k e).1)⟩
  ·have hmax:cap ≤ 9223372036854775807:=by unfold maxLen at hmax;omega
   go_enter Tryz.func159,Tryz.ntmps159
   go_wp2_with (at_builtin;refine wpList_append_own _ rfl _ _ 63 rfl base 96 i0 _ 5 48 Tryz.underlying63 hi0 hz0 hz1 hz2 rfl (by decide) _ _ _ rfl hown ⟨vb,0,none⟩ 1 1 news rfl hl hnewsH.out h2H.out (by unfold maxLen;omega) (by omega) hb ?_;intro v' w1 hown' hgrow _)
   all_goals (go_ret;exact ⟨_,rfl,hown',(Below.refl _ w).grown hgrow hb (fun k e=>(hown.lt k e).1)⟩)
 ·have hlt:i < n:=by omega
  obtain ⟨g,cap,cur,rfl,hbg,hg,hcap,hmax,hcur,htake⟩:∃ g cap cur,v = .slice (some ⟨g,0,none⟩) n cap ∧ base ≤ g ∧ w.heap[g]? = some (.cells cur 96 (0,0)) ∧ n ≤ cap ∧ cap ≤ maxLen ∧ cur.size = cap * 5 ∧ cur.toList.take (n * 5) = cs:=by
   rcases hown.2 with ⟨_,h'⟩ | h
   ·omega
   ·exact h
  have hgne:g ≠ vb:=by intro e;subst e;exact hne rfl
  have hmax:cap ≤ 9223372036854775807:=by unfold maxLen at hmax;omega
  by_cases hroom:n + 1 ≤ cap
  ·have c1:¬ cap = i:=by omega
   have c2:¬ cap = i + 1:=by omega
   have hov:∀ lb cb,(callFunc 171 #[.slice (some ⟨vb,0,none⟩) 1 1, .slice (some ⟨g,(i + 1) * 5,none⟩) lb cb]).run Tryz.prog w = .ok (.value (.bool false)) w:=fun lb cb=>by
    rw [run_callFunc_extern Tryz.func171 (by kernel_rfl) (by kernel_rfl) (by kernel_rfl) (e:=Extern.SlicesOverlaps.overlaps #[63,63] #[4]) (by kernel_rfl),
     Lib.run_overlaps_apart w 63 4 96 Tryz.underlying63 5 (fun w=>by simp [sizeOf,typeInfo,hi0,hz1]) ⟨vb,0,none⟩ ⟨g,(i + 1) * 5,none⟩ 1 1 lb cb (Ne.symm hgne) 96 96 5 (cap * 5) (by simp [World.shape?,hvb,hl]) (by simp [World.shape?,hg,hcur]) (by omega) (by simp [World.frozen?,hvb]) (by simp [World.frozen?,hvb])]
    rfl
   have hw1:IntKind.i64.wrap ((i:Int) + 1) = (i:Int) + 1:=by rw [IntKind.wrap_i64];omega
   have hb1:(0:Int) ≤ (i:Int) + 1:=by omega
   have htn:((i:Int) + 1).toNat = i + 1:=by omega
   have hb3:(i:Int) ≤ (n:Int) + 1:=by omega
   have hin':i ≤ n:=by omega
   go_enter Tryz.func159,Tryz.ntmps159
   go_wp2_with (simp only [hov])
   go_still_tail 8,(by kernel_rfl)
   obtain ⟨l1,l2,l3⟩:=shift_laws (cur:=cur.toList) (cs:=cs) (news:=news) (a:=i * 5) hl hlc htake (by omega) (by rw [Array.length_toList];omega)
   rw [show i * 5 + 5 = (i + 1) * 5 by omega] at l1 l2 l3
   obtain ⟨R1,hR1⟩:∃ R1,R1 = cur.toList.take ((i + 1) * 5) ++ cs.drop (i * 5) ++ cur.toList.drop ((i + 1) * 5 + (cs.drop (i * 5)).length):=⟨_,rfl⟩
   rw [← hR1] at l1 l2 l3
   have hcp1:∀ (W:World),W.heap = w.heap → ∀ ty dc sc,(Builtin.copy_ #[63,63] ty #[.slice (some ⟨g,(i + 1) * 5,none⟩) (n - i) dc, .slice (some ⟨g,i * 5,none⟩) (n + 1 - i) sc]).run Tryz.prog W = .ok (goInt (Nat.min (n + 1 - i) (n - i))) (W.setRow g R1.toArray):=fun W hW ty dc sc=>by
    have hWg:W.heap[g]? = some (.cells cur 96 (0,0)):=by rw [hW];exact hg
    rw [hR1]
    refine run_copy_rowN W _ _ ty 96 5 g ((i + 1) * 5) (n - i) dc ⟨g,i * 5,none⟩ (n + 1 - i) sc cur 96 (cs.drop (i * 5)) Tryz.underlying63 (by simp [hi0,hz1]) hWg (by rw [List.length_drop,hlc];simp only [Nat.min_def];split <;> omega) ?_ (by rw [List.length_drop];omega) (fun v hv=>h1 v (List.mem_of_mem_drop hv))
    intro j v hj
    rw [Addr.add0,cell_of_row W g _ _ _ _ hWg]
    rw [List.getElem?_drop, ← htake,List.getElem?_take] at hj
    split at hj
    ·simpa using hj
    ·cases hj
   have hcp2:∀ (W:World),W.heap = (w.setRow g R1.toArray).heap → ∀ ty dc,(Builtin.copy_ #[63,63] ty #[.slice (some ⟨g,i * 5,none⟩) (n + 1 - i) dc, .slice (some ⟨vb,0,none⟩) 1 1]).run Tryz.prog W = .ok (goInt (Nat.min 1 (n + 1 - i))) (W.setRow g (R1.take (i * 5) ++ news ++ R1.drop (i * 5 + news.length)).toArray):=fun W hW ty dc=>by
    have hWg:W.heap[g]? = some (.cells R1.toArray 96 (0,0)):=by rw [hW];exact setRow_heap w g cur _ _ _ hg
    have hWv:W.heap[vb]? = some (.cells news.toArray 96 (0,0)):=by rw [hW,setRow_other w g vb _ (Ne.symm hgne)];exact hvb
    refine run_copy_rowN W _ _ ty 96 5 g (i * 5) (n + 1 - i) dc ⟨vb,0,none⟩ 1 1 R1.toArray 96 news Tryz.underlying63 (by simp [hi0,hz1]) hWg (by rw [hl];simp only [Nat.min_def];split <;> omega) ?_ (by simp [l1];omega) h2
    intro j v hj
    rw [Addr.add0,cell_of_row W vb _ _ _ _ hWv]
    simpa using hj
   clear hR1
   obtain ⟨R2,hR2⟩:∃ R2,R2 = R1.take (i * 5) ++ news ++ R1.drop (i * 5 + news.length):=⟨_,rfl⟩
   rw [← hR2] at l2 l3 hcp2
   clear hR2
   refine wpList_copy_runM _ rfl _ _ 63 63 rfl (.slice (some ⟨g,(i + 1) * 5,none⟩) (n - i) (cap - (i + 1))) (.slice (some ⟨g,i * 5,none⟩) (n + 1 - i) (cap - i)) rfl rfl (hcp1 { w with drawn:=w.drawn + 1 } rfl _ _ _) ?_
   have hown3:(({ w with drawn:=w.drawn + 1 }:World).setRow g R1.toArray |>.setRow g R2.toArray).ownsRow base 96 5 (.slice (some ⟨g,0,none⟩) (n + 1) cap) (n + 1) (putIn cs (i * 5) news):=by
    refine ⟨?_, .inr ⟨g,cap,R2.toArray,rfl,hbg,setRow_heap _ g R1.toArray _ _ _ (setRow_heap _ g cur _ _ _ hg),hroom,by unfold maxLen;omega,by simp [l2,hcur], ?_⟩⟩
    ·simp only [putIn,List.length_append,List.length_take,List.length_drop];omega
    ·rw [← l3];congr 1;omega
   have hbel:Below base w (({ w with drawn:=w.drawn + 1 }:World).setRow g R1.toArray |>.setRow g R2.toArray):=
    ⟨rfl,rfl,rfl,by simp,fun k hk=>by rw [setRow_other _ g k _ (by omega),setRow_other _ g k _ (by omega)]⟩
   replace hown3:=Lib.hid hown3
   go_wp2_with (refine wpList_copy_runM _ rfl _ _ 63 63 rfl (.slice (some ⟨g,i * 5,none⟩) (n + 1 - i) (cap - i)) (.slice (some ⟨vb,0,none⟩) 1 1) rfl rfl (hcp2 (({ w with drawn:=w.drawn + 1 }:World).setRow g R1.toArray) rfl _ _) ?_)
   go_ret
   exact ⟨_,rfl,hown3.out,hbel⟩
  ·have hkk:(n:Int) + 1 - (i:Int) = ((n + 1 - i:Nat):Int):=by omega
   have hik:i + (n + 1 - i) = n + 1:=by omega
   have hold:(Builtin.firstCells i0.size i (.slice (some ⟨g,0,none⟩) i cap)).run Tryz.prog w.drew = .ok (cs.take (i * 5)).toArray w.drew:=by
    rw [hz1]
    exact run_firstCells_some w.drew 5 i ⟨g,0,none⟩ i cap (cs.take (i * 5)) (by rw [List.length_take];omega) (fun j v hj=>by
     rw [List.getElem?_take] at hj
     split at hj
     ·exact hown.cells rfl j v hj
     ·cases hj)
   obtain ⟨G,hG⟩:∃ G,G = grownCap w (n + 1) cap 96:=⟨_,rfl⟩
   have hGn:n + 1 ≤ G:=by rw [hG];exact grownCap_ge w _ _ _
   have hG63:G ≤ maxLen:=by rw [hG];exact grownCap_le_maxLen w (n + 1) cap 96 (by unfold maxLen;omega)
   have hG63':G ≤ 9223372036854775807:=by unfold maxLen at hG63;omega
   obtain ⟨Z,hZ⟩:∃ Z:Value,i0.zero = some Z ∧ Z.cells.size = 5:=⟨_,hz0,rfl⟩
   obtain ⟨ROW,hROW⟩:∃ ROW:Array Value,ROW = (cs.take (i * 5)).toArray ++ Builtin.zeroCells Z.cells (n + 1 - i) ++ Builtin.zeroCells Z.cells (G - (n + 1)):=⟨_,rfl⟩
   have hrz:∀ ty,(Builtin.append_ #[63,3] ty #[.slice (some ⟨g,0,none⟩) i cap, .int .i64 ((n:Int) + 1 - (i:Int))]).run Tryz.prog w =
     .ok (.slice (some ⟨w.heap.size,0,none⟩) (n + 1) G) (w.drew.alloc (.cells ROW 96)):=fun ty=>by
    have h:=Lib.run_append_grow_zeros w 63 3 ty 96 i0 Z .i64 .i64 Tryz.underlying63 Tryz.underlying3 hi0 hZ.1 (some ⟨g,0,none⟩) i cap (cs.take (i * 5)) hold (n + 1 - i) (by omega) (by omega) (by omega) (by omega) (by rw [hz2];omega) (by rw [hz2,hik];exact growslice_fits (by omega) (by omega))
    rw [hik] at h
    rw [hkk,hROW,hG]
    exact h
   have hRl:ROW.size = G * 5:=by
    rw [hROW]
    simp [Builtin.zeroCells,hZ.2]
    omega
   have hRt:ROW.toList.take (i * 5) = cs.take (i * 5):=by
    rw [hROW]
    simp only [Array.toList_append,List.append_assoc]
    rw [List.take_append_of_le_length (by simp;omega),List.take_of_length_le (by simp;omega)]
   clear hROW hold
   have hvl:vb < w.heap.size:=(Array.getElem?_eq_some_iff.1 hvb).1
   have hgl:g < w.heap.size:=(Array.getElem?_eq_some_iff.1 hg).1
   -- what comes: R1 with the message,R2 with the rest
   obtain ⟨R1,hR1⟩:∃ R1,R1 = ROW.toList.take (i * 5) ++ news ++ ROW.toList.drop (i * 5 + news.length):=⟨_,rfl⟩
   have r1:R1.length = G * 5:=by rw [hR1];simp only [List.length_append,List.length_take,List.length_drop,Array.length_toList];omega
   have r2:R1.take ((i + 1) * 5) = cs.take (i * 5) ++ news:=by
    rw [hR1,hRt,List.take_append_of_le_length (by simp only [List.length_append,List.length_take];omega),List.take_of_length_le (by simp only [List.length_append,List.length_take];omega)]
   have hcp1:∀ (W:World),W.heap = (w.alloc (.cells ROW 96)).heap → ∀ ty dc,(Builtin.copy_ #[63,63] ty #[.slice (some ⟨w.heap.size,i * 5,none⟩) (n + 1 - i) dc, .slice (some ⟨vb,0,none⟩) 1 1]).run Tryz.prog W = .ok (goInt (Nat.min 1 (n + 1 - i))) (W.setRow w.heap.size R1.toArray):=fun W hW ty dc=>by
    have hWg:W.heap[w.heap.size]? = some (.cells ROW 96 (0,0)):=by rw [hW];exact heap_alloc_new w _
    have hWv:W.heap[vb]? = some (.cells news.toArray 96 (0,0)):=by rw [hW,heap_alloc_old w _ hvl];exact hvb
    rw [hR1]
    refine run_copy_rowN W _ _ ty 96 5 w.heap.size (i * 5) (n + 1 - i) dc ⟨vb,0,none⟩ 1 1 ROW 96 news Tryz.underlying63 (by simp [hi0,hz1]) hWg (by rw [hl];simp only [Nat.min_def];split <;> omega) ?_ (by omega) h2
    intro j v hj
    rw [Addr.add0,cell_of_row W vb _ _ _ _ hWv]
    simpa using hj
   obtain ⟨R2,hR2⟩:∃ R2,R2 = R1.take ((i + 1) * 5) ++ cs.drop (i * 5) ++ R1.drop ((i + 1) * 5 + (cs.drop (i * 5)).length):=⟨_,rfl⟩
   have hcp2:∀ (W:World),W.heap = ((w.alloc (.cells ROW 96)).setRow w.heap.size R1.toArray).heap → ∀ ty dc sc,(Builtin.copy_ #[63,63] ty #[.slice (some ⟨w.heap.size,(i + 1) * 5,none⟩) (n - i) dc, .slice (some ⟨g,i * 5,none⟩) (n - i) sc]).run Tryz.prog W = .ok (goInt (Nat.min (n - i) (n - i))) (W.setRow w.heap.size R2.toArray):=fun W hW ty dc sc=>by
    have hWg:W.heap[w.heap.size]? = some (.cells R1.toArray 96 (0,0)):=by rw [hW];exact setRow_heap _ _ ROW _ _ _ (heap_alloc_new w _)
    have hWo:W.heap[g]? = some (.cells cur 96 (0,0)):=by rw [hW,setRow_other _ _ g _ (by omega),heap_alloc_old w _ hgl];exact hg
    rw [hR2]
    refine run_copy_rowN W _ _ ty 96 5 w.heap.size ((i + 1) * 5) (n - i) dc ⟨g,i * 5,none⟩ (n - i) sc R1.toArray 96 (cs.drop (i * 5)) Tryz.underlying63 (by simp [hi0,hz1]) hWg (by rw [List.length_drop,hlc];simp only [Nat.min_def];split <;> omega) ?_ (by rw [List.length_drop];simp only [List.size_toArray];omega) (fun v hv=>h1 v (List.mem_of_mem_drop hv))
    intro j v hj
    rw [Addr.add0,cell_of_row W g _ _ _ _ hWo]
    rw [List.getElem?_drop, ← htake,List.getElem?_take] at hj
    split at hj
    ·simpa using hj
    ·cases hj
   have r3:R2.length = G * 5:=by rw [hR2];simp only [List.length_append,List.length_take,List.length_drop];omega
   have r4:R2.take ((n + 1) * 5) = putIn cs (i * 5) news:=by
    rw [hR2,r2,putIn,List.take_append_of_le_length (by simp only [List.length_append,List.length_take,List.length_drop];omega),List.take_of_length_le (by simp only [List.length_append,List.length_take,List.length_drop];omega)]
   clear hR1 hR2 r2
   have hown3:∀ W:World,W.heap = (((w.alloc (.cells ROW 96)).setRow w.heap.size R1.toArray).setRow w.heap.size R2.toArray).heap → W.ownsRow base 96 5 (.slice (some ⟨w.heap.size,0,none⟩) (n + 1) G) (n + 1) (putIn cs (i * 5) news):=fun W hW=>by
    refine ⟨?_, .inr ⟨w.heap.size,G,R2.toArray,rfl,hb,by rw [hW];exact setRow_heap _ _ R1.toArray _ _ _ (setRow_heap _ _ ROW _ _ _ (heap_alloc_new w _)),hGn,hG63,by simp [r3],by simpa using r4⟩⟩
    simp only [putIn,List.length_append,List.length_take,List.length_drop];omega
   have c1:¬ G = i:=by omega
   have c2:¬ G = i + 1:=by omega
   have c3:¬ cap = i:=by omega
   have hw1:IntKind.i64.wrap ((i:Int) + 1) = (i:Int) + 1:=by rw [IntKind.wrap_i64];omega
   have hb1:(0:Int) ≤ (i:Int) + 1:=by omega
   have htn:((i:Int) + 1).toNat = i + 1:=by omega
   have hb3:(i:Int) ≤ (n:Int) + 1:=by omega
   have hin':i ≤ n:=by omega
   have hgt:(cap:Int) < (n:Int) + 1:=by omega
   clear hG hkk hik
   go_enter Tryz.func159,Tryz.ntmps159
   go_wp2_with (first
    |(at_builtin;refine Lib.wpList_append_run _ rfl _ _ _ _ rfl _ _ rfl rfl _ _ (hrz _) ?_)
    |(refine wpList_copy_runM _ rfl _ _ 63 63 rfl (.slice (some ⟨w.heap.size,i * 5,none⟩) (n + 1 - i) (G - i)) (.slice (some ⟨vb,0,none⟩) 1 1) rfl rfl (hcp1 (w.alloc (.cells ROW 96)).drew rfl _ _) ?_))
   go_still_tail 8,(by kernel_rfl)
   refine wpList_copy_runM _ rfl _ _ 63 63 rfl (.slice (some ⟨w.heap.size,(i + 1) * 5,none⟩) (n - i) (G - (i + 1))) (.slice (some ⟨g,i * 5,none⟩) (n - i) (cap - i)) rfl rfl (hcp2 ((w.alloc (.cells ROW 96)).drew.setRow w.heap.size R1.toArray).drew rfl _ _ _) ?_
   go_wp2_with fail
   go_ret
   refine ⟨_,rfl,hown3 _ rfl,rfl,rfl,rfl,by simp,fun k hk=>?_⟩
   show (((w.alloc (.cells ROW 96)).setRow w.heap.size R1.toArray).setRow w.heap.size R2.toArray).heap[k]? = _
   rw [setRow_other _ _ k _ (by omega),setRow_other _ _ k _ (by omega),heap_alloc_old w _ (by omega)]
end Go.Proofs.YtnalakhelicjcaaGreatDoor
set_option maxRecDepth 100000
namespace Go.Proofs.YtnalakhelicjcaaGreatDoor
open Go.RowKit Go.Shelf Go.BigFrame
def putE (ms:List M) (m:M):Int:=if risesB ms = true then if 40 ≤ (ms.length:Int) then 2 else if foundM ms m = true then 1 else 0 else 1
def putM (ms:List M) (m:M):List M:=ms.take (posM ms m) ++ m :: ms.drop (posM ms m)
def putL (ms:List M) (m:M):List M:=if putE ms m = 0 then putM ms m else []
theorem put_rise {ms:List M} {m:M} (h:risesB ms = false):putE ms m = 1 ∧ putL ms m = []:=by simp [putE,putL,h]
theorem put_many {ms:List M} {m:M} (h:risesB ms = true) (h2:40 ≤ (ms.length:Int)):putE ms m = 2 ∧ putL ms m = []:=by simp [putE,putL,h,h2]
theorem put_is {ms:List M} {m:M} (h:risesB ms = true) (h2:¬ 40 ≤ (ms.length:Int)) (h3:foundM ms m = true):putE ms m = 1 ∧ putL ms m = []:=by simp [putE,putL,h,h2,h3]
theorem put_ok {ms:List M} {m:M} (h:risesB ms = true) (h2:¬ 40 ≤ (ms.length:Int)) (h3:foundM ms m = false):putE ms m = 0 ∧ putL ms m = putM ms m:=by simp [putE,putL,h,h2,h3]
theorem posM_le (ms:List M) (m:M):posM ms m ≤ ms.length:=by unfold posM;exact (List.takeWhile_sublist _).length_le
theorem Msgs.nil (w:World):Msgs w (.slice none 0 0) []:=⟨by simp,by simp,by simp,none,0,rfl,Nat.le_refl _,fun h=>absurd rfl h⟩
theorem flat_take (ms:List M) (k:Nat):(ms.flatMap M.cells).take (k * 5) = (ms.take k).flatMap M.cells:=by
 induction ms generalizing k with
 | nil=>simp
 | cons m ms ih =>
  cases k with
  | zero=>simp
  | succ k =>
   rw [List.flatMap_cons,List.take_succ_cons,List.flatMap_cons, ← ih]
   rw [List.take_append]
   have e:m.cells.length = 5:=rfl
   rw [e,List.take_of_length_le (by rw [e];omega),show (k + 1) * 5 - 5 = k * 5 by omega]
theorem flat_drop (ms:List M) (k:Nat):(ms.flatMap M.cells).drop (k * 5) = (ms.drop k).flatMap M.cells:=by
 induction ms generalizing k with
 | nil=>simp
 | cons m ms ih =>
  cases k with
  | zero=>simp
  | succ k =>
   rw [List.flatMap_cons,List.drop_succ_cons, ← ih]
   rw [List.drop_append]
   have e:m.cells.length = 5:=rfl
   rw [e,List.drop_of_length_le (by rw [e];omega),show (k + 1) * 5 - 5 = k * 5 by omega,List.nil_append]
theorem putIn_flat (ms:List M) (m:M) (k:Nat):putIn (ms.flatMap M.cells) (k * 5) m.cells = (ms.take k ++ m :: ms.drop k).flatMap M.cells:=by
 rw [putIn,flat_take,flat_drop]
 simp
theorem one_flat (ms:List M):∀ u ∈ ms.flatMap M.cells,u.oneCell' = true:=by
 intro u hu
 obtain ⟨m,_,hm⟩:=List.mem_flatMap.1 hu
 simp [M.cells] at hm
 rcases hm with rfl | rfl | rfl | rfl | rfl <;> rfl
def MsgsOwn (w:World) (base:Nat) (v:Value) (ms:List M):Prop:=(∀ m ∈ ms,m.fits) ∧ w.ownsRow base 96 5 v ms.length (ms.flatMap M.cells)
theorem MsgsOwn.msgs {w:World} {base:Nat} {v:Value} {ms:List M} (h:MsgsOwn w base v ms) (hl:ms.length * 40 ≤ 140737488351232):Msgs w v ms:=
 ⟨h.1,Row.of_owns h.2 (by rw [flat_len];omega)⟩
def PutPost (w:World) (ms:List M) (m:M) (e:Ending) (w':World):Prop:=
 ∃ v',e = .returned (.tuple #[v', .int .i64 (putE ms m)]) ∧ MsgsOwn w' w.heap.size v' (putL ms m) ∧ Below w.heap.size w w'
theorem owns_mono {w:World} {b b':Nat} {e:TypeId} {s n:Nat} {v:Value} {xs:List Value} (h:w.ownsRow b e s v n xs) (hb:b' ≤ b):w.ownsRow b' e s v n xs:=by
 refine ⟨h.1, ?_⟩
 rcases h.2 with h | ⟨g,cap,cur,h1,h2,h3⟩
 ·exact .inl h
 ·exact .inr ⟨g,cap,cur,h1,by omega,h3⟩
theorem putM_fits {ms:List M} {m:M} (h:∀ m ∈ ms,m.fits) (hm:m.fits):∀ x ∈ putM ms m,x.fits:=by
 intro x hx
 rcases List.mem_append.1 hx with hx | hx
 ·exact h x (List.mem_of_mem_take hx)
 ·rcases List.mem_cons.1 hx with rfl | hx
  ·exact hm
  ·exact h x (List.mem_of_mem_drop hx)
theorem putM_len (ms:List M) (m:M):(putM ms m).length = ms.length + 1:=by
 have:=posM_le ms m
 simp [putM];omega
theorem put_done {w w':World} {ms:List M} {m:M} {p base:Nat} {v:Value} (hp:p = posM ms m) (hE:putE ms m = 0 ∧ putL ms m = putM ms m) (hf:(∀ m ∈ ms,m.fits) ∧ m.fits)
  (ho:w'.ownsRow base 96 5 v (ms.length + 1) (putIn (ms.flatMap M.cells) (p * 5) m.cells)) (hb:w.heap.size ≤ base) (hw:Below w.heap.size w w') :
  PutPost w ms m (.returned (.tuple #[v, .int .i64 0])) w':=by
 refine ⟨v,by rw [hE.1], ?_,hw⟩
 rw [hE.2]
 refine ⟨putM_fits hf.1 hf.2, ?_⟩
 rw [putM_len,putM, ← hp, ← putIn_flat]
 exact owns_mono ho hb
set_option maxHeartbeats 1000000 in
theorem Put_c {w:World} {v:Value} {ms:List M} {m:M} (h:Msgs w v ms) (hm:m.fits) :
  Calls Tryz.prog 148 #[v,m.val] w (PutPost w ms m):=by
 have hA:=below_a1 w (.cells #[.int .i64 m.src, .int .i64 m.grp, .int .i64 m.stamp, .bool m.null, .string m.body] 96)
 have hM:=MsgBox.new w m 96
 have hm':=Lib.hid (And.intro h.1 hm)
 have hR:=Rises_c (h.below hA)
 obtain ⟨hl,a,cap,rfl,_,_⟩:=h.open
 unfold M.val
 cases hr:risesB ms
 ·rw [hr] at hR
  have hE:=Lib.hid (put_rise (m:=m) hr)
  clear hr
  go_enter Tryz.func148,Tryz.ntmps148
  go_wp2_with fail
  refine hR.mono ?_
  rintro e w2 ⟨rfl,hb⟩
  go_wp2_with fail
  go_ret2
  exact ⟨_,by rw [hE.out.1];rfl,by rw [hE.out.2];exact ⟨by simp,World.ownsRow_nil _ _ _ _⟩,below_trans hA hb⟩
 ·rw [hr] at hR
  by_cases h40:40 ≤ (ms.length:Int)
  ·have hE:=Lib.hid (put_many (m:=m) hr h40)
   clear hr
   go_enter Tryz.func148,Tryz.ntmps148
   go_wp2_with fail
   refine hR.mono ?_
   rintro e w2 ⟨rfl,hb⟩
   go_wp2_with fail
   go_ret2
   exact ⟨_,by rw [hE.out.1];rfl,by rw [hE.out.2];exact ⟨by simp,World.ownsRow_nil _ _ _ _⟩,below_trans hA hb⟩
  ·cases hf:foundM ms m
   ·have hE:=Lib.hid (put_ok (m:=m) hr h40 hf)
    have hr':=Lib.hid hr
    clear hr
    go_enter Tryz.func148,Tryz.ntmps148
    go_wp2_with fail
    refine hR.mono ?_
    rintro e w2 ⟨rfl,hb⟩
    have hw2:=below_trans hA hb
    obtain ⟨c0,c1,c2,c3,c4⟩:=hM.below hb (by simp)
    have hS:=Seek_c (h.below hw2) m hr'.out
    rw [hf] at hS
    unfold M.val at hS
    go_wp2_with fail
    refine hS.mono ?_
    rintro e w3 ⟨rfl,hb3⟩
    have hmb:=cell_lt c0
    dsimp only at hmb
    obtain ⟨d0,d1,d2,d3,d4⟩:=hM.below (hb.trans (hb3.mono hb.size)) (by simp)
    have hw3:=below_trans hw2 hb3
    have hp:=posM_le ms m
    obtain ⟨p,hpp⟩:∃ p,p = posM ms m:=⟨_,rfl⟩
    rw [← hpp] at hp ⊢
    replace hpp:=Lib.hid hpp
    clear c0 c1 c2 c3 c4 hR hS hb3
    go_wp2_with fail
    have hrow:∀ W,Below w3.heap.size w3 W → Row W (.slice a ms.length cap) ms.length 5 (ms.flatMap M.cells):=fun W hW=>(h.below (below_trans hw3 hW)).2
    have hs3:w.heap.size < w3.heap.size:=by have:=hw3.size;have:=cell_lt d0;simpa using this
    clear h hM hA
    go_region_held3 (fun w'=>w'.cell? ⟨w.heap.size,0,none⟩ = some (.int .i64 m.src) ∧ w'.cell? ⟨w.heap.size,1,none⟩ = some (.int .i64 m.grp) ∧ w'.cell? ⟨w.heap.size,2,none⟩ = some (.int .i64 m.stamp) ∧
      w'.cell? ⟨w.heap.size,3,none⟩ = some (.bool m.null) ∧ w'.cell? ⟨w.heap.size,4,none⟩ = some (.string m.body))
     (first
      | go_keep
      |(go_split_ands
        refine ⟨?_, ?_, ?_, ?_, ?_⟩ <;> (rw [hb5.cell (by simp;omega)];first | assumption | (simp;assumption)))
      |(go_split_ands
        refine ⟨?_, ?_, ?_, ?_, ?_⟩ <;> (rw [hb7.cell (by simp;omega)];first | assumption | (simp;assumption)))
      |(go_split_ands
        refine ⟨?_, ?_, ?_, ?_, ?_⟩ <;> (rw [hb4.cell (by simp;omega)];first | assumption | (simp;assumption)))
      |(go_split_ands
        refine ⟨?_, ?_, ?_, ?_, ?_⟩ <;> (rw [hb6.cell (by simp;omega)];first | assumption | (simp;assumption))))
     (first
      |(go_at_call 145;refine (CloneMsg_c (hrow _ (below_drewN w3 1)) (one_flat ms) (by omega)).mono ?_
        rintro e w4 ⟨v4,rfl,ho4,hb4⟩
        have hs4:=hb4.size
        simp at hs4)
      |(go_at_call 145;refine (CloneMsg_c (hrow _ (below_trans (below_drewN w3 1) (below_a1 _ _))) (one_flat ms) (by omega)).mono ?_
        rintro e w6 ⟨v6,rfl,ho6,hb6⟩
        have hs6:=hb6.size
        simp at hs6)
      |(go_at_call 159;refine (Insert_c (i:=p) (news:=m.cells) (ho4.alloc _) (one_flat ms) hp (by omega) rfl (by simp [M.cells,Value.oneCell']) (heap_alloc_new _ _) (fun e=>absurd (ho4.lt _ e).2 (Nat.lt_irrefl _)) (by simp;omega)).mono ?_
        rintro e w5 ⟨v5,rfl,ho5,hb5⟩)
      |(go_at_call 159;refine (Insert_c (i:=p) (news:=m.cells) ho6 (one_flat ms) hp (by omega) rfl (by simp [M.cells,Value.oneCell']) ((hb6.block _ (by simp)).trans (heap_alloc_new _ _)) (fun e=>absurd (ho6.lt _ e).1 (by simp)) (by simp;omega)).mono ?_
        rintro e w7 ⟨v7,rfl,ho7,hb7⟩))
    ·go_wp2_with fail
     go_ret2
     exact put_done hpp.out hE.out hm'.out ho5 (by simp;omega) (below_trans hw3 (below_trans (below_drewN w3 1) ((hb4.alloc hb4.size _).trans hb5)))
    ·go_wp2_with fail
     go_ret2
     exact put_done hpp.out hE.out hm'.out ho7 (by simp;omega) (below_trans hw3 (below_trans (below_trans (below_drewN w3 1) (below_a1 _ _)) (hb6.trans hb7)))
   ·have hE:=Lib.hid (put_is (m:=m) hr h40 hf)
    have hr':=Lib.hid hr
    clear hr
    go_enter Tryz.func148,Tryz.ntmps148
    go_wp2_with fail
    refine hR.mono ?_
    rintro e w2 ⟨rfl,hb⟩
    have hw2:=below_trans hA hb
    obtain ⟨c0,c1,c2,c3,c4⟩:=hM.below hb (by simp)
    have hS:=Seek_c (h.below hw2) m hr'.out
    rw [hf] at hS
    unfold M.val at hS
    go_wp2_with fail
    refine hS.mono ?_
    rintro e w3 ⟨rfl,hb3⟩
    go_wp2_with fail
    go_ret2
    exact ⟨_,by rw [hE.out.1];rfl,by rw [hE.out.2];exact ⟨by simp,World.ownsRow_nil _ _ _ _⟩,below_trans hw2 hb3⟩
end Go.Proofs.YtnalakhelicjcaaGreatDoor
set_option maxRecDepth 100000
namespace Go.Proofs.YtnalakhelicjcaaGreatDoor
open Go.RowKit Go.Shelf Go.BigFrame
section
variable {P:Program} {w:World}
theorem run_append_zero (base:Nat) (t ty e:TypeId) (i:TypeInfo) (size:Nat) (ht:P.underlying t = some (.slice e)) (hi:P.info? e = some i)
  (v:Value) (n:Nat) (xs:List Value) (hown:w.ownsRow base e size v n xs) (r:Option Addr) (c:Nat) :
  (Builtin.append_ #[t,t] ty #[v, .slice r 0 c]).run P w = .ok v w:=by
 have hz:∀ s,(Builtin.firstCells s 0 (.slice r 0 c)).run P w = .ok #[] w:=fun s=>by
  cases r with
  | none=>exact run_firstCells_none w s 0 0 c
  | some a=>exact run_firstCells_some w s 0 a 0 c [] (by simp) (by simp)
 rcases hown.2 with ⟨rfl,rfl⟩ | ⟨g,cap,cur,rfl,_,_,hnc,_⟩
 ·simp [Builtin.append_,run_underlying ht,sizeOf,typeInfo,hi,Builtin.lenOf,hz]
 ·simp [Builtin.append_,run_underlying ht,sizeOf,typeInfo,hi,Builtin.lenOf,hz,hnc,storeCells]
theorem wpList_append_zero {ops:Array Oper} {rest:List Oper} {o:Oper} {a:Act} {Q:Exit → Act → World → Prop} (hgd:o.guard = none) (s x:Operand) (t:TypeId)
  (ho:o.op = .call { callee:=.builtin .append,args:=#[s,x],argTypes:=#[t,t] })
  (base:Nat) (e:TypeId) (i:TypeInfo) (size:Nat) (ht:P.underlying t = some (.slice e)) (hi:P.info? e = some i)
  (v:Value) (n:Nat) (xs:List Value) (hs:a.eval s = v) (hown:w.ownsRow base e size v n xs) (r:Option Addr) (c:Nat) (hx:a.eval x = .slice r 0 c)
  (h:wpList P ops Q rest (a.put o.dst v) w):wpList P ops Q (o :: rest) a w:=by
 refine wpList_plain hgd fun K hK=>?_
 have hrun:=run_append_zero (P:=P) (w:=w) base t o.type e i size ht hi v n xs hown r c
 unfold Oper.wp
 simp [execOp,ho,resolve,invoke,builtin,hs,hx,hrun,Result.andThen]
 exact hK _ _ h
end
theorem below_app {w wr w1:World} {base:Nat} {e:TypeId} {s n:Nat} {v:Value} {cs:List Value} {o:Obj} (hb:Below base w wr) (ho:wr.ownsRow base e s v n cs) (hbs:base ≤ wr.heap.size)
  (hg:(wr.alloc o).grownBy w1 v.ownBlock):Below base w w1:=
 (hb.alloc hbs _).grown hg (by rw [World.size_alloc];omega) (fun k e=>(ho.lt k e).1)
theorem cells_new (w:World) (cs:Array Value) (t:TypeId):∀ j u,cs.toList[j]? = some u → (w.alloc (.cells cs t)).cell? ((⟨w.heap.size,0,none⟩:Addr).add j) = some u:=by
 intro j u hj
 rw [Addr.add0,cell_of_row _ _ _ _ _ _ (heap_alloc_new w _)]
 simpa using hj
theorem owns_below {w w':World} {b:Nat} {e:TypeId} {s n:Nat} {v:Value} {xs:List Value} (h:w.ownsRow b e s v n xs) (hb:Below w.heap.size w w'):w'.ownsRow b e s v n xs:=by
 refine ⟨h.1, ?_⟩
 rcases h.2 with h | ⟨g,cap,cur,h1,h2,h3,h4⟩
 ·exact .inl h
 ·exact .inr ⟨g,cap,cur,h1,h2,(hb.block g (Array.getElem?_eq_some_iff.1 h3).1).trans h3,h4⟩
theorem own_form {w:World} {b:Nat} {e:TypeId} {s n:Nat} {v:Value} {xs:List Value} (h:w.ownsRow b e s v n xs):∃ a cap,v = .slice a n cap:=by
 rcases h.2 with ⟨h1,h2⟩ | ⟨g,cap,cur,h1,_⟩
 ·exact ⟨none,0,by rw [h1,h2]⟩
 ·exact ⟨_,cap,h1⟩
theorem ordM_zero {a b:M} (h:lessM a b = false):(ordM a b == 0) = !lessM b a:=by
 have h1:¬ (a.stamp < b.stamp ∨ a.stamp = b.stamp ∧ a.src < b.src):=fun e=>by rw [lessM_iff.2 e] at h;cases h
 unfold ordM lessM orI cmpI
 by_cases h2:b.stamp < a.stamp
 ·have:¬ a.stamp < b.stamp:=by omega
  simp [h2,this]
 ·have e:a.stamp = b.stamp:=by omega
  by_cases h3:b.src < a.src
  ·have:¬ a.src < b.src:=by omega
   simp [e,h3,this]
  ·have:¬ a.src < b.src:=by omega
   simp [e,h3,this]
theorem msgs_news {w:World} {b off cap:Nat} {ms:List M} (h:Msgs w (.slice (some ⟨b,off,none⟩) ms.length cap) ms) (k:Nat) :
  ∀ j u,((ms.drop k).flatMap M.cells)[j]? = some u → w.cell? ((⟨b,off + k * 5,none⟩:Addr).add j) = some u:=by
 intro j u hj
 rw [← flat_drop,List.getElem?_drop] at hj
 have:=row_news h.2 _ u hj
 rw [Addr.add0] at this ⊢
 rw [Nat.add_assoc]
 exact this
theorem last_flat (ms:List M) (m:M) (k:Nat):(ms.take k).flatMap M.cells ++ m.cells ++ (ms.drop k).flatMap M.cells = (ms.take k ++ m :: ms.drop k).flatMap M.cells:=by simp
theorem putof_done {w w':World} {ms:List M} {m:M} {k base:Nat} {v:Value} (hp:posM ms m = k) (hE:putE ms m = 0 ∧ putL ms m = putM ms m) (hf:(∀ m ∈ ms,m.fits) ∧ m.fits)
  (ho:w'.ownsRow base 96 5 v (ms.length + 1) ((ms.take k).flatMap M.cells ++ m.cells ++ (ms.drop k).flatMap M.cells)) (hb:w.heap.size ≤ base) (hw:Below w.heap.size w w') :
  PutPost w ms m (.returned (.tuple #[v, .int .i64 0])) w':=by
 refine ⟨v,by rw [hE.1], ?_,hw⟩
 rw [hE.2]
 refine ⟨putM_fits hf.1 hf.2, ?_⟩
 rw [putM_len,putM,hp, ← last_flat]
 exact owns_mono ho hb
theorem rises_c {w:World} {v:Value} {ms:List M} (h:Msgs w v ms):Calls Tryz.prog 108 #[v] w (GivesB (.bool (risesB ms)) w):=by
 obtain ⟨hl,a,cap,rfl,_,hc⟩:=h.open
 replace hc:=Lib.hid hc
 go_enter Tryz.func108,Tryz.ntmps108
 go_wp2_with fail
 go_loopw [3] (fun i wr=>∃ k:Nat,i = .int .i64 (k + 1:Nat) ∧ (k ≤ ms.length) ∧ (k < ms.length ∨ ms = []) ∧ risesB (ms.take (k + 1)) = true ∧ Below w.heap.size w wr) (fun i _=>ms.length - (intOf i).toNat)
 case atStart=>exact ⟨0,rfl,by omega,by cases ms <;> simp,by cases ms <;> rfl,Below.refl _ _⟩
 case round =>
  obtain ⟨j,rfl,hk,hk2,hr,hb⟩:=hrel
  replace hr:=Lib.hid hr
  by_cases hlt:j + 1 < ms.length
  ·obtain ⟨b,off,rfl,hcc⟩:=hc.out (by intro e;subst e;simp at hlt)
   have hm:=(hcc (j + 1) hlt).below hb
   have hp:=(hcc j (by omega)).below hb
   obtain ⟨m,HM⟩:∃ m,ms.getD (j + 1) M.zero = m:=⟨_,rfl⟩
   obtain ⟨p,HP⟩:∃ p,ms.getD j M.zero = p:=⟨_,rfl⟩
   rw [HM] at hm
   rw [HP] at hp
   replace HM:=Lib.hid HM
   replace HP:=Lib.hid HP
   have hblt:=cell_lt hm.1
   dsimp only at hblt
   obtain ⟨m0,m1,m2,m3,m4⟩:=hm
   obtain ⟨p0,p1,p2,p3,p4⟩:=hp
   have ht:=Lib.hid (risesB_take (ms:=ms) (j:=j) hlt)
   go_wp2_with fail
   refine wp_region_over (by kernel_rfl) (by kernel_rfl) ?_
   repeat (go_big_quiet_step (exact over_c (LessOf_c _ p m)))
   refine wpQuiet_nil ?_
   rintro w2 ⟨⟨_,hb2⟩,rfl⟩
   cases hlm:lessM p m
   ·go_wp2_with fail
    go_ret
    exact givesB_bool (below_trans hb hb2) (by rw [risesB_no (by rw [ht.out,HP.out,HM.out,hlm,Bool.and_false])])
   ·go_wp2_with fail
    go_roundw
    case rel=>exact ⟨j + 1,by go_num,by omega,Or.inl hlt,by rw [ht.out,HP.out,HM.out,hlm,hr.out];rfl,below_trans hb hb2⟩
    case measure=>simp [intOf];omega
  ·have hr:=hr.out
   rw [List.take_of_length_le (by omega)] at hr
   replace hr:=Lib.hid hr
   go_wp2_with fail
   go_ret
   exact givesB_bool hb (by rw [hr.out])
set_option maxHeartbeats 1000000 in
theorem PutOf_c {w:World} {v:Value} {ms:List M} {m:M} (h:Msgs w v ms) (hm:m.fits) :
  Calls Tryz.prog 111 #[v,m.val] w (PutPost w ms m):=by
 have hA:=below_a1 w (.cells #[.int .i64 m.src, .int .i64 m.grp, .int .i64 m.stamp, .bool m.null, .string m.body] 96)
 have hM:=MsgBox.new w m 96
 have hm':=Lib.hid (And.intro h.1 hm)
 have hR:=rises_c (h.below hA)
 obtain ⟨i0,hi0,hz0,hz1,hz2⟩:=info_parts infoCMsg
 obtain ⟨hl,a,cap,rfl,_,hc⟩:=h.open
 replace hc:=Lib.hid hc
 unfold M.val
 cases hr:risesB ms
 ·rw [hr] at hR
  have hE:=Lib.hid (put_rise (m:=m) hr)
  clear hr
  go_enter Tryz.func111,Tryz.ntmps111
  go_wp2_with fail
  refine hR.mono ?_
  rintro e w2 ⟨rfl,hb⟩
  go_wp2_with fail
  go_ret2
  exact ⟨_,by rw [hE.out.1];rfl,by rw [hE.out.2];exact ⟨by simp,World.ownsRow_nil _ _ _ _⟩,below_trans hA hb⟩
 ·rw [hr] at hR
  by_cases h40:40 ≤ (ms.length:Int)
  ·have hE:=Lib.hid (put_many (m:=m) hr h40)
   clear hr
   go_enter Tryz.func111,Tryz.ntmps111
   go_wp2_with fail
   refine hR.mono ?_
   rintro e w2 ⟨rfl,hb⟩
   go_wp2_with fail
   go_ret2
   exact ⟨_,by rw [hE.out.1];rfl,by rw [hE.out.2];exact ⟨by simp,World.ownsRow_nil _ _ _ _⟩,below_trans hA hb⟩
  ·have hr':=Lib.hid hr
   clear hr
   have h40':=h40
   go_enter Tryz.func111,Tryz.ntmps111
   go_wp2_with fail
   refine hR.mono ?_
   rintro e w2 ⟨rfl,hb⟩
   have hw2:=below_trans hA hb
   have hM2:=hM.below hb (by simp)
   have hbs:=hb.size
   simp at hbs
   go_wp2_with fail
   go_loopw [6,7] (fun o i wr=>∃ k:Nat,k ≤ ms.length ∧ i = .int .i64 k ∧ Hid (∀ t,t < k → lessM (ms.getD t M.zero) m = true) ∧ wr.ownsRow (w.heap.size + 1) 96 5 o k ((ms.take k).flatMap M.cells) ∧ Below (w.heap.size + 1) w2 wr) (fun _ i _=>ms.length - (intOf i).toNat)
   case atStart=>exact ⟨0,by omega,rfl,fun t ht=>absurd ht (Nat.not_lt_zero _),World.ownsRow_nil _ _ _ _,Below.refl _ _⟩
   case round =>
    obtain ⟨k,hk,rfl,hless,ho,hb4⟩:=hrel
    obtain ⟨a6,cap6,rfl⟩:=own_form ho
    have hs4:=hb4.size
    obtain ⟨c0,c1,c2,c3,c4⟩:=hM2.below hb4 (by omega)
    have hmb:=cell_lt c0
    dsimp only at hmb
    by_cases hlt:k < ms.length
    ·obtain ⟨b,off,rfl,hcc⟩:=hc.out (by intro e;subst e;simp at hlt)
     obtain ⟨d,hd⟩:∃ d,ms.getD k M.zero = d:=⟨_,rfl⟩
     have hw4:Below w.heap.size w wr:=hw2.trans (hb4.mono (by omega))
     obtain ⟨d0,d1,d2,d3,d4⟩:=(hcc k hlt).below hw4
     rw [hd] at d0 d1 d2 d3 d4
     replace hd:=Lib.hid hd
     have hdb:=cell_lt d0
     dsimp only at hdb
     have hlt':decide ((k:Int) < (ms.length:Int)) = true:=decide_eq_true (by omega)
     go_wp2_with fail
     refine wp_region_over (by kernel_rfl) (by kernel_rfl) ?_
     repeat (go_big_quiet_step (exact over_c (LessOf_c _ d m)))
     refine wpQuiet_nil ?_
     rintro w5 ⟨⟨_,hb5⟩,rfl⟩
     cases hlm:lessM d m
     ·have hpos:posM ms m = k:=posM_eq (by omega) hless.out (fun _=>by rw [hd.out,hlm])
      have hw5:=below_trans hw4 hb5
      have ho5:=owns_below ho hb5
      have e0:=(hb5.cell (p:=⟨b,off + k * 5,none⟩) hdb).trans d0
      have e1:=(hb5.cell (p:=⟨b,off + k * 5 + 1,none⟩) hdb).trans d1
      have e2:=(hb5.cell (p:=⟨b,off + k * 5 + 2,none⟩) hdb).trans d2
      have e3:=(hb5.cell (p:=⟨b,off + k * 5 + 3,none⟩) hdb).trans d3
      have e4:=(hb5.cell (p:=⟨b,off + k * 5 + 4,none⟩) hdb).trans d4
      obtain ⟨g0,g1,g2,g3,g4⟩:=hM2.below (hb4.trans (hb5.mono (by omega))) (by omega)
      have hrowH:=Lib.hid (msgs_news h k)
      have hgmb:=cell_lt g0
      have hdb5:=cell_lt e0
      dsimp only at hgmb hdb5
      have hck:¬ cap = k:=by omega
      have hrl:decide (0 < ms.length - k) = true:=decide_eq_true (by omega)
      have hrl2:(0:Int) < ((ms.length - k:Nat):Int):=by omega
      have hfd:foundM ms m = !lessM m d:=by rw [foundM,hpos,hd.out,decide_eq_true hlt,Bool.true_and,ordM_zero hlm]
      have hpos:=Lib.hid hpos
      have hfd:=Lib.hid hfd
      go_wp2_with fail
      refine wp_region_over (by kernel_rfl) (by kernel_rfl) ?_
      repeat (go_big_quiet_step (exact over_c (LessOf_c _ m d)))
      refine wpQuiet_nil ?_
      rintro w7 ⟨⟨_,hb7⟩,rfl⟩
      cases hml:lessM m d
      ·have hE:=Lib.hid (put_is (m:=m) hr'.out (by omega) (by rw [hfd.out,hml];rfl))
       go_wp2_with fail
       go_ret2
       exact ⟨_,by rw [hE.out.1];rfl,by rw [hE.out.2];exact ⟨by simp,World.ownsRow_nil _ _ _ _⟩,below_trans hw5 hb7⟩
      ·have hE:=Lib.hid (put_ok (m:=m) hr'.out (by omega) (by rw [hfd.out,hml];rfl))
       have ho7:=owns_below ho5 hb7
       have hs7:=hb7.size
       have hs5:=hb5.size
       obtain ⟨g0,g1,g2,g3,g4⟩:=hM2.below ((hb4.trans (hb5.mono (by omega))).trans (hb7.mono (by omega))) (by omega)
       have hw7:=below_trans hw5 hb7
       have hdl:((ms.drop k).flatMap M.cells).length = (ms.length - k) * 5:=by rw [flat_len,List.length_drop]
       have hdlH:=Lib.hid hdl
       clear hdl
       go_wp2_with (first
        |(at_builtin;refine wpList_append_own _ rfl _ _ 63 rfl (w.heap.size + 1) 96 i0 _ 5 48 Tryz.underlying63 hi0 hz0 hz1 hz2 rfl (by decide) _ _ _ rfl (ho7.alloc _) ⟨w7.heap.size,0,none⟩ 1 1 m.cells rfl rfl (cells_new _ _ _) (by simp [M.cells,Value.oneCell']) (by unfold maxLen;omega) (by omega) (by simp;omega) ?_;intro v' w1 hown1 hgrow1 _
          have hw1:=below_app hw7 (owns_mono ho7 (by omega)) (by omega) hgrow1
          have hs1:=hgrow1.size
          rw [World.size_alloc] at hs1)
        |(at_builtin;refine wpList_append_own _ rfl _ _ 63 rfl (w.heap.size + 1) 96 i0 _ 5 48 Tryz.underlying63 hi0 hz0 hz1 hz2 rfl (by decide) _ _ _ rfl hown1 ⟨b,off + k * 5,none⟩ (ms.length - k) (cap - k) ((ms.drop k).flatMap M.cells) rfl hdlH.out (fun j u hj=>(hw1.cell (cell_lt (hrowH.out j u hj))).trans (hrowH.out j u hj)) (one_flat _) (by unfold maxLen;omega) (by omega) (by omega) ?_;intro v2 w2' hown2 hgrow2 _))
       go_ret2
       refine putof_done (base:=w.heap.size + 1) hpos.out hE.out hm'.out ?_ (by omega) (hw1.grown hgrow2 (by omega) (fun q e=>by have:=(hown1.lt q e).1;omega))
       rw [show ms.length + 1 = k + 1 + (ms.length - k) by omega]
       exact hown2
     ·have ho5:=owns_below ho hb5
      have e0:=(hb5.cell (p:=⟨b,off + k * 5,none⟩) hdb).trans d0
      have e1:=(hb5.cell (p:=⟨b,off + k * 5 + 1,none⟩) hdb).trans d1
      have e2:=(hb5.cell (p:=⟨b,off + k * 5 + 2,none⟩) hdb).trans d2
      have e3:=(hb5.cell (p:=⟨b,off + k * 5 + 3,none⟩) hdb).trans d3
      have e4:=(hb5.cell (p:=⟨b,off + k * 5 + 4,none⟩) hdb).trans d4
      have hs5:=hb5.size
      have hb6:=hb4.trans (hb5.mono (by omega))
      go_wp2_with (at_builtin;refine wpList_append_own _ rfl _ _ 63 rfl (w.heap.size + 1) 96 i0 _ 5 48 Tryz.underlying63 hi0 hz0 hz1 hz2 rfl (by decide) _ _ _ rfl (ho5.alloc _) ⟨w5.heap.size,0,none⟩ 1 1 d.cells rfl rfl (cells_new _ _ _) (by simp [M.cells,Value.oneCell']) (by unfold maxLen;omega) (by omega) (by simp;omega) ?_;intro v' w1 hown' hgrow _)
      go_roundw
      case rel =>
       refine ⟨k + 1,by omega,by go_num,fun t ht=>?_, ?_,below_app hb6 ho5 (by omega) hgrow⟩
       ·rcases Nat.eq_or_lt_of_le (Nat.le_of_lt_succ ht) with e | e
        ·subst e;rw [hd.out,hlm]
        ·exact hless.out t e
       ·rw [show (ms.take (k + 1)).flatMap M.cells = (ms.take k).flatMap M.cells ++ d.cells by
         rw [← hd.out,getD_lt ms M.zero hlt,List.take_succ_eq_append_getElem hlt,List.flatMap_append];simp]
        exact hown'
      case measure=>simp [intOf];omega
    ·obtain rfl:k = ms.length:=by omega
     have hlt':decide ((ms.length:Int) < (ms.length:Int)) = false:=decide_eq_false (by omega)
     have hpos:posM ms m = ms.length:=posM_eq (by omega) hless.out (fun h=>absurd h hlt)
     have hfd:foundM ms m = false:=by rw [foundM,hpos,decide_eq_false hlt,Bool.false_and]
     have hE:=Lib.hid (put_ok (m:=m) hr'.out (by omega) hfd)
     have hrl:decide (0 < ms.length - ms.length) = false:=decide_eq_false (by omega)
     have hw4:Below w.heap.size w wr:=hw2.trans (hb4.mono (by omega))
     replace hpos:=Lib.hid hpos
     clear hfd
     have hw2':=hw2.mono (Nat.le_refl _)
     by_cases hcl:cap = ms.length
     all_goals
      go_wp2_with fail
      refine wp_region_over (by kernel_rfl) (by kernel_rfl) ?_
      repeat (go_big_quiet_step (fail))
      refine wpQuiet_nil ?_
      rintro w5 ⟨⟨_,hb5⟩,rfl⟩
      have ho5:=owns_below ho hb5
      have hs5:=hb5.size
      go_wp2_with fail
      refine wp_region_over (by kernel_rfl) (by kernel_rfl) ?_
      repeat (go_big_quiet_step (fail))
      refine wpQuiet_nil ?_
      rintro w7 ⟨⟨_,hb7⟩,rfl⟩
      have ho7:=owns_below ho5 hb7
      have hs7:=hb7.size
      obtain ⟨g0,g1,g2,g3,g4⟩:=hM2.below ((hb4.trans (hb5.mono (by omega))).trans (hb7.mono (by omega))) (by omega)
      have hw7:=below_trans (below_trans hw4 hb5) hb7
      go_wp2_with (first
       |(at_builtin;refine wpList_append_own _ rfl _ _ 63 rfl (w.heap.size + 1) 96 i0 _ 5 48 Tryz.underlying63 hi0 hz0 hz1 hz2 rfl (by decide) _ _ _ rfl (ho7.alloc _) ⟨w7.heap.size,0,none⟩ 1 1 m.cells rfl rfl (cells_new _ _ _) (by simp [M.cells,Value.oneCell']) (by unfold maxLen;omega) (by omega) (by simp;omega) ?_;intro v' w1 hown1 hgrow1 _
         have hw1:=below_app hw7 (owns_mono ho7 (by omega)) (by omega) hgrow1
         have hs1:=hgrow1.size
         rw [World.size_alloc] at hs1)
       |(at_builtin;refine wpList_append_zero rfl _ _ 63 rfl (w.heap.size + 1) 96 i0 5 Tryz.underlying63 hi0 _ _ _ rfl hown1 _ _ rfl ?_))
      go_ret2
      refine putof_done (base:=w.heap.size + 1) hpos.out hE.out hm'.out ?_ (by omega) hw1
      rw [List.drop_length,List.flatMap_nil,List.append_nil]
      exact hown1
end Go.Proofs.YtnalakhelicjcaaGreatDoor
