/-
  What a line of a script does to a world, and gives; a script.
-/
import Derived.Test.YtnalakhelicjcaaGreatDoorZGA
import Derived.Test.YtnalakhelicjcaaGreatDoorZKD
import Derived.Lib.Join
import Derived.Test.YtnalakhelicjcaaGreatDoorZKCa
import Derived.Test.YtnalakhelicjcaaGreatDoorZGC
set_option maxRecDepth 100000
namespace Go.Proofs.YtnalakhelicjcaaGreatDoor
open Go.RowKit Go.Shelf Go.BigFrame
def toldB (l:List M):List UInt8:=if l = [] then [45] else Lib.join (l.map fun m=>m.body.data.toList) [32]
def clockB (r:Int × Wd) (a:Nat):List UInt8:=Lib.decDigits (r.2.nodes.getD a N.zero).clock.toNat
def moreB (X Y:Wd) (b:Nat):List UInt8:=Lib.decDigits ((Y.nodes.getD b N.zero).told.length - (X.nodes.getD b N.zero).told.length)
def heldB (X:Wd) (a:Nat):List UInt8:=Lib.decDigits (X.nodes.getD a N.zero).held.length ++ 32 :: Lib.decDigits (boundX X a).toNat
def execB (X:Wd):Cmd → Int × List UInt8 × Wd
 | .send a b body=>if (castF X a b false (strB body)).1 = 0 then (0,clockB (castF X a b false (strB body)) a,(castF X a b false (strB body)).2) else ((castF X a b false (strB body)).1,[],X)
 | .null a b=>if (castF X a b true ByteArray.empty).1 = 0 then (0,clockB (castF X a b true ByteArray.empty) a,(castF X a b true ByteArray.empty).2) else ((castF X a b true ByteArray.empty).1,[],X)
 | .move a b=>if (moveF X a b).1 = 0 then (0,moreB X (moveF X a b).2 b,(moveF X a b).2) else ((moveF X a b).1,[],X)
 | .told a=>if a < X.nodes.length then (0,toldB (X.nodes.getD a N.zero).told,X) else (4,[],X)
 | .held a=>if a < X.nodes.length then (0,heldB X a,X) else (4,[],X)
 | .calm=>if (calmF X).1 = 0 then (0,[111,107],(calmF X).2) else ((calmF X).1,[],X)
 | .bad=>(1,[],X)
def errB (e:Int):List UInt8:=[101,114,114,111,114,32] ++ Lib.decDigits e.toNat
def lineX (X:Wd) (s:List UInt8):Wd × List UInt8:=if (execB X (parseB s)).1 = 0 then ((execB X (parseB s)).2.2,(execB X (parseB s)).2.1) else (X,errB (execB X (parseB s)).1)
def stepX (p:Wd × List UInt8) (s:List UInt8):Wd × List UInt8:=((lineX p.1 s).1,p.2 ++ (lineX p.1 s).2 ++ [10])
def playX (X:Wd) (l:List (List UInt8)):Wd × List UInt8:=l.foldl stepX (X,[])
def playF (n:Int) (gs:List Int) (s:List UInt8):Int × List UInt8:=
 if gErr n gs = 0 then
  if 4096 < s.length ∨ 80 < s.count 10 then (2,[])
  else if s ≠ [] ∧ s.getLast? ≠ some 10 then (1,[])
  else (0,(playX (beginX n.toNat gs) (linesB s)).2)
 else (gErr n gs,[])
end Go.Proofs.YtnalakhelicjcaaGreatDoor
set_option maxRecDepth 100000
namespace Go.Proofs.YtnalakhelicjcaaGreatDoor
open Go.RowKit
def nd (X:Wd) (n:Nat):N:=X.nodes.getD n N.zero
def heard (X:Wd) (n g k:Nat):Int:=((nd X n).last.getD g []).getD k 0
structure Kept (h t:List M) (m:M) (Y:Wd) (n:Nat):Prop where
 parts:∃ R,(nd Y n).told = t ++ R ∧ R ++ (nd Y n).held = (if m.null = true then h else putM h m) ∧ ∀ x ∈ R,x.stamp ≤ boundX Y n
 left:∀ x ∈ (nd Y n).held,boundX Y n < x.stamp
structure Fin (Z:Wd) (n:Nat) (m:M) (Y:Wd):Prop where
 like:Like Z Y
 wires:Y.wires = Z.wires
 others:∀ k,k ≠ n → nd Y k = nd Z k
 clock:(nd Y n).clock = (nd Z n).clock
 last:(nd Y n).last = (nd Z n).last
 kept:Kept (nd Z n).held (nd Z n).told m Y n
theorem tellW_fin {W:Wd} {n:Nat} (h:Right W) (hn:n < W.nodes.length) :
  (nd (tellW W n) n).clock = (nd W n).clock ∧ (nd (tellW W n) n).last = (nd W n).last ∧ (∃ R,(nd (tellW W n) n).told = (nd W n).told ++ R ∧ R ++ (nd (tellW W n) n).held = (nd W n).held ∧ ∀ x ∈ R,x.stamp ≤ boundX (tellW W n) n) ∧ (∀ x ∈ (nd (tellW W n) n).held,boundX (tellW W n) n < x.stamp) ∧ ∀ k,k ≠ n → nd (tellW W n) k = nd W k:=by
 have ha:nd (tellW W n) n = { nd W n with told:=tellL W n,held:=(nd W n).held.drop (readyX W n).length }:=tellW_at hn
 have hall:=tell_all h hn
 refine ⟨by rw [ha],by rw [ha],⟨readyX W n,by rw [ha];rfl, ?_,fun x hx=>?_⟩,fun x hx=>?_,fun k hk=>?_⟩
 ·have e:(nd W n).told ++ (readyX W n ++ (nd (tellW W n) n).held) = (nd W n).told ++ (nd W n).held:=by
   rw [← List.append_assoc]
   have h2:(nd (tellW W n) n).told = (nd W n).told ++ readyX W n:=by rw [ha];rfl
   rw [← h2]
   exact hall
  exact List.append_cancel_left e
 ·rw [tell_bound hn]
  simpa using (List.mem_filter.1 hx).2
 ·rw [tell_bound hn]
  exact tell_left h hn x hx
 ·unfold nd
  rw [tellW_set,nodeSet_ne (Ne.symm hk)]
theorem castEnd_fin {Z:Wd} {n:Nat} {m:M} (h:Right Z) (hn:n < Z.nodes.length) (hm:msgE Z.nodes.length Z.groups m = 0 ∧ hasB Z.groups m.grp n = true) (he:(castEnd Z n m).1 = 0):Fin Z n m (castEnd Z n m).2:=by
 have hE:=castEnd_ok h hn hm he
 cases hnull:m.null
 ·rw [castEnd_hold hnull] at he hE ⊢
  split at he
  ·rename_i h6
   exact absurd he h6
  rename_i h6
  rw [if_neg h6] at hE ⊢
  split at he
  ·rename_i h7
   exact absurd he h7
  rename_i h7
  rw [if_neg h7] at hE ⊢
  have h6:putE (Z.nodes.getD n N.zero).held m = 0:=by simpa using h6
  have hN:=h.node n hn
  have hHl:(holdW Z n m).nodes.length = Z.nodes.length:=by rw [holdW_set,nodeSet_len]
  have hH:Right (holdW Z n m):=by
   rw [holdW_set]
   exact h.setNode hn ⟨hN.clock,hN.len,hN.rows,hN.cells,putL_right hN.held h6 ⟨hnull,hm.1,hm.2⟩,hN.told⟩
  have hA:nd (holdW Z n m) n = { nd Z n with held:=putM (nd Z n).held m }:=by
   have:=(holdW_at (X:=Z) (m:=m) hn).2
   rw [(putE_zero h6).2.2.2] at this
   exact this
  obtain ⟨t1,t2,⟨R,r1,r2,r3⟩,t4,t5⟩:=tellW_fin hH (by rw [hHl];exact hn)
  refine ⟨hE.like,hE.wires,fun k hk=>?_,by rw [show (nd _ n).clock = _ from t1,hA],by rw [show (nd _ n).last = _ from t2,hA],⟨R, ?_, ?_,r3⟩,t4⟩
  ·rw [show nd _ k = _ from t5 k hk]
   unfold nd
   rw [holdW_set,nodeSet_ne (Ne.symm hk)]
  ·rw [show (nd _ n).told = _ from r1,hA]
  ·rw [show R ++ (nd _ n).held = _ from r2,hA,hnull]
   rfl
 ·rw [castEnd_null hnull] at he hE ⊢
  split at he
  ·rename_i h7
   exact absurd he h7
  rename_i h7
  rw [if_neg h7] at hE ⊢
  obtain ⟨t1,t2,⟨R,r1,r2,r3⟩,t4,t5⟩:=tellW_fin h hn
  exact ⟨hE.like,hE.wires,t5,t1,t2,⟨R,r1,by rw [if_pos hnull];exact r2,r3⟩,t4⟩
structure Mv (X:Wd) (a b:Nat) (m:M) (Y:Wd):Prop where
 at_:a < X.nodes.length ∧ b < X.nodes.length ∧ a ≠ b
 like:Like X Y
 first:∃ l,wireL X a b = m :: l ∧ wireL Y a b = l
 wires:∀ c d, ¬ (c = a ∧ d = b) → wireL Y c d = wireL X c d
 others:∀ k,k ≠ b → nd Y k = nd X k
 clock:(nd Y b).clock = max (nd X b).clock m.stamp
 hrd:∀ g k,g < X.groups.length → k < X.nodes.length → heard Y b g k = if (g:Int) = m.grp ∧ k = a then max (heard X b g k) m.stamp else heard X b g k
 kept:Kept (nd X b).held (nd X b).told m Y b
theorem moveR_mv {X:Wd} (h:Right X) {a b:Nat} (ha:a < X.nodes.length) (hb:b < X.nodes.length) (he:(moveR X a b).1 = 0):∃ m,Mv X a b m (moveR X a b).2:=by
 cases hl:wireL X a b with
 | nil =>
  unfold moveR at he
  rw [hl,if_pos (show ([]:List M).length = 0 from rfl)] at he
  cases he
 | cons m l =>
  refine ⟨m, ?_⟩
  have hW:=h.wire a b ha hb
  have hab:a ≠ b:=hW.self.resolve_right (by rw [hl];simp)
  have hr:moveR X a b = castEnd (comeW X a b m l) b m:=by
   unfold moveR
   rw [hl,if_neg (by simp)]
   rfl
  rw [hr] at he ⊢
  have hZ:=comeW_right h ha hb hl
  have hf:=hW.fine m (by rw [hl];exact List.mem_cons_self ..)
  have hZl:(comeW X a b m l).nodes.length = X.nodes.length:=by simp [comeW]
  have hZg:(comeW X a b m l).groups = X.groups:=rfl
  have hZn:nd (comeW X a b m l) b = { nd X b with clock:=max (nd X b).clock m.stamp,last:=(nd X b).last.set m.grp.toNat (((nd X b).last.getD m.grp.toNat []).set a (max (((nd X b).last.getD m.grp.toNat []).getD a 0) m.stamp)) }:=getD_set_eq _ _ _ hb
  have hF:=castEnd_fin hZ (by rw [hZl];exact hb) (by rw [hZl,hZg];exact hf) he
  have hwp:∀ c d,wireL (castEnd (comeW X a b m l) b m).2 c d = wireL (wirePut X a b l) c d:=fun c d=>by
   unfold wireL
   rw [hF.wires]
   rfl
  have hgr:=rightE_in hf.1
  have hN:=h.node b hb
  have hK:=hF.kept
  rw [hZn] at hK
  refine ⟨⟨ha,hb,hab⟩,⟨hF.like.right,by rw [hF.like.len,hZl],by rw [hF.like.groups,hZg]⟩,⟨l,hl, ?_⟩,fun c d hcd=>?_,fun k hk=>?_,by rw [hF.clock,hZn],fun g k hg hk=>?_,hK⟩
  ·rw [hwp,wirePut_at (by rw [h.nw];exact ha) (by rw [h.row a ha];exact hb)]
  ·rw [hwp,wirePut_ne (fun e=>hcd ⟨e.1.symm,e.2.symm⟩)]
  ·rw [hF.others k hk]
   exact getD_set_ne' _ _ _ (Ne.symm hk)
  ·unfold heard
   rw [hF.last,hZn]
   have hq:m.grp.toNat < (nd X b).last.length:=by have hl:=hN.len;unfold nd;rw [hl];have:=hgr.1;obtain ⟨_,_,h1,h2,_⟩:=this;omega
   have hrow:=hN.rows g hg
   by_cases e:m.grp.toNat = g
   ·rw [e,getD_set_eq _ _ _ (by rw [← e];exact hq)]
    have eg:(g:Int) = m.grp:=by obtain ⟨_,_,h1,_⟩:=hgr.1;omega
    by_cases e2:a = k
    ·rw [e2,getD_set_eq _ _ _ (by rw [show (nd X b).last = (X.nodes.getD b N.zero).last from rfl,hrow];exact hk),if_pos ⟨eg,rfl⟩]
    ·rw [getD_set_ne' _ _ _ e2,if_neg (fun h=>e2 h.2.symm)]
   ·rw [getD_set_ne' _ _ _ e,if_neg (fun h=>e (by omega))]
structure Sn (X:Wd) (n:Nat) (m:M) (Y:Wd):Prop where
 at_:n < X.nodes.length
 src:m.src = (n:Int)
 stamp:m.stamp = (nd X n).clock + 1
 fine:msgE X.nodes.length X.groups m = 0
 mem:hasB X.groups m.grp n = true
 like:Like X Y
 wires:∀ a b,a < X.nodes.length → b < X.nodes.length → wireL Y a b = if a = n ∧ b ≠ n ∧ hasB X.groups m.grp b = true then wireL X a b ++ [m] else wireL X a b
 others:∀ k,k ≠ n → nd Y k = nd X k
 clock:(nd Y n).clock = (nd X n).clock + 1
 last:(nd Y n).last = (nd X n).last
 kept:Kept (nd X n).held (nd X n).told m Y n
theorem castR_sn {X:Wd} (hR:Right X) {n g:Int} {null:Bool} {body:ByteArray} (hb:null = true → body = ByteArray.empty) (h:(castR X n g null body).1 = 0) :
  ∃ k:Nat,n = (k:Int) ∧ Sn X k ⟨k,g,(nd X k).clock + 1,null,body⟩ (castR X n g null body).2:=by
 have hLk:=castR_like hR hb h
 unfold castR at h hLk ⊢
 split at h
 rotate_left
 ·cases h
 rename_i h1
 rw [if_pos h1] at hLk ⊢
 split at h
 rotate_left
 ·cases h
 rename_i h2
 rw [if_pos h2] at hLk ⊢
 split at h
 ·cases h
 rename_i h3
 rw [if_neg h3] at hLk ⊢
 split at h
 ·cases h
 rename_i h4
 rw [if_neg h4] at hLk ⊢
 simp only [inB,Bool.and_eq_true,decide_eq_true_eq] at h1
 obtain ⟨k,rfl⟩:=Int.eq_ofNat_of_zero_le h1.1.1
 rw [Int.toNat_natCast] at h h4 hLk ⊢
 have hk:k < X.nodes.length:=by omega
 have hNk:=hR.node k hk
 have hU:Right (clockUp X k):=by
  rw [clockUp_set]
  refine hR.setNode hk ⟨?_,hNk.len,hNk.rows,hNk.cells,hNk.held,hNk.told⟩
  have:=hNk.clock
  show 0 ≤ (X.nodes.getD k N.zero).clock + 1 ∧ (X.nodes.getD k N.zero).clock + 1 ≤ 1048576
  omega
 have hUl:(clockUp X k).nodes.length = X.nodes.length:=by rw [clockUp_set,nodeSet_len]
 have hUn:nd (clockUp X k) k = { nd X k with clock:=(nd X k).clock + 1 }:=by
  unfold nd
  rw [clockUp_set,nodeSet_at hk]
 obtain ⟨m,hm⟩:∃ m:M,m = ⟨(k:Int),g,(X.nodes.getD k N.zero).clock + 1,null,body⟩:=⟨_,rfl⟩
 have hmE:msgE X.nodes.length X.groups m = 0:=by
  unfold msgE
  rw [if_pos hR.grp,hm]
  have:=hNk.clock
  have hin:inRange X.nodes.length X.groups ⟨(k:Int),g,(X.nodes.getD k N.zero).clock + 1,null,body⟩:=by
   refine ⟨?_, ?_, ?_, ?_, ?_, ?_⟩
   ·show (0:Int) ≤ k;omega
   ·show (k:Int) < _;omega
   ·show 0 ≤ g;omega
   ·show g < _;omega
   ·show 1 ≤ (X.nodes.getD k N.zero).clock + 1;omega
   ·show (X.nodes.getD k N.zero).clock + 1 ≤ 1048576;omega
  cases hn:null
  ·rw [hn] at hin
   exact rightE_0a hin h2 h3 rfl
  ·rw [hn] at hin
   refine rightE_0b hin h2 h3 ?_
   show body.toList.isEmpty = true
   rw [hb hn]
   decide +kernel
 have hC:CastR (clockUp X k) k g m:=⟨by rw [hUl];exact hk,by rw [hm],by rw [hm],by rw [hUl];exact hmE⟩
 simp only [← hm] at h hLk ⊢
 split at h
 rotate_left
 ·rename_i h5
  exact absurd h h5
 rename_i h5
 rw [if_pos h5] at hLk ⊢
 obtain ⟨Y,hY⟩:∃ Y,castW (clockUp X k) k g m X.nodes.length = (0,Y):=⟨_,Prod.ext h5 rfl⟩
 obtain ⟨r1,r2,r3,r4⟩:=castW_ok hC hU X.nodes.length Y (by rw [hUl];exact Nat.le_refl _) hY
 rw [hY] at h hLk ⊢
 dsimp only at h hLk ⊢
 have hYl:Y.nodes.length = X.nodes.length:=by rw [r2,hUl]
 have hYg:Y.groups = X.groups:=r3
 have hmg:m.grp = g:=by rw [hm]
 have hYn:∀ j,nd Y j = nd (clockUp X k) j:=fun j=>by unfold nd;rw [r2]
 have hF:=castEnd_fin r1 (by rw [hYl];exact hk) (by rw [hYl,hYg];exact ⟨hmE,by rw [hmg];exact h2⟩) h
 have hK:=hF.kept
 rw [hYn,hUn] at hK
 refine ⟨k,rfl, ?_⟩
 rw [show (⟨(k:Int),g,(nd X k).clock + 1,null,body⟩:M) = m from hm.symm]
 refine ⟨hk,by rw [hm],by rw [hm];rfl,hmE,by rw [hmg];exact h2,hLk,fun a b ha hb'=>?_,fun j hj=>?_,by rw [hF.clock,hYn,hUn],by rw [hF.last,hYn,hUn],hK⟩
 ·have e:wireL (castEnd Y k m).2 a b = wireL Y a b:=by unfold wireL;rw [hF.wires]
  rw [e,r4,hmg]
  unfold castL
  show (if a = k ∧ b < X.nodes.length ∧ (b == k || !hasB X.groups g b) = false then wireL X a b ++ [m] else wireL X a b) = _
  congr 1
  simp [hb']
 ·rw [hF.others j hj,hYn]
  exact getD_set_ne' _ _ _ (Ne.symm hj)
inductive Step (X Y:Wd):Prop where
 | move {a b:Nat} {m:M} (h:Mv X a b m Y):Step X Y
 | cast {n:Nat} {m:M} (h:Sn X n m Y):Step X Y
theorem Step.like {X Y:Wd} (h:Step X Y):Like X Y:=by
 cases h with
 | move h=>exact h.like
 | cast h=>exact h.like
end Go.Proofs.YtnalakhelicjcaaGreatDoor
set_option maxRecDepth 100000
namespace Go.Proofs.YtnalakhelicjcaaGreatDoor
open Go.RowKit
theorem boundS_ge {X:Wd} {n g k:Nat} {a v:Int} (ha:v ≤ a) (h:k ≠ n → hasB X.groups g n = true → hasB X.groups g k = true → v ≤ heard X n g k):v ≤ boundS X n g k a:=by
 unfold boundS
 split
 ·rename_i e
  simp only [Bool.and_eq_true,bne_iff_ne,ne_eq] at e
  have:=h e.1.1 e.1.2 e.2
  unfold heard nd at this
  omega
 ·exact ha
theorem boundX_ge {X:Wd} {n:Nat} {v:Int} (hc:v ≤ (nd X n).clock) (h:∀ g k,g < X.groups.length → k < X.nodes.length → k ≠ n → hasB X.groups g n = true → hasB X.groups g k = true → v ≤ heard X n g k):v ≤ boundX X n:=by
 have hG:∀ g,g < X.groups.length → ∀ m,m ≤ X.nodes.length → ∀ a,v ≤ a → v ≤ boundG X n g m a:=by
  intro g hg m
  induction m with
  | zero=>exact fun _ a ha=>ha
  | succ m ih =>
   intro hm a ha
   rw [boundG_succ]
   exact boundS_ge (ih (by omega) a ha) (fun h1 h2 h3=>h g m hg (by omega) h1 h2 h3)
 have hM:∀ m,m ≤ X.groups.length → v ≤ boundM X n m:=by
  intro m
  induction m with
  | zero=>exact fun _=>hc
  | succ m ih =>
   intro hm
   rw [boundM_succ]
   exact hG m (by omega) _ (Nat.le_refl _) _ (ih (by omega))
 exact hM _ (Nat.le_refl _)
theorem boundX_heard {X:Wd} {n g k:Nat} (hg:g < X.groups.length) (hk:k < X.nodes.length) (hn:k ≠ n) (h1:hasB X.groups g n = true) (h2:hasB X.groups g k = true):boundX X n ≤ heard X n g k:=boundX_last hg hk hn h1 h2
theorem boundX_mono {X Y:Wd} {n:Nat} (hg:Y.groups = X.groups) (hl:Y.nodes.length = X.nodes.length) (hc:(nd X n).clock ≤ (nd Y n).clock) (h:∀ g k,g < X.groups.length → k < X.nodes.length → heard X n g k ≤ heard Y n g k):boundX X n ≤ boundX Y n:=by
 refine boundX_ge (Int.le_trans (boundX_clock X n) hc) (fun g k h1 h2 h3 h4 h5=>?_)
 rw [hg] at h1 h4 h5
 rw [hl] at h2
 exact Int.le_trans (boundX_heard h1 h2 h3 h4 h5) (h g k h1 h2)
theorem boundX_same {X Y:Wd} {n:Nat} (hg:Y.groups = X.groups) (hl:Y.nodes.length = X.nodes.length) (h:nd Y n = nd X n):boundX Y n = boundX X n:=boundX_congr hg hl (congrArg N.clock h) (congrArg N.last h)
theorem heard_same {X Y:Wd} {n:Nat} (h:nd Y n = nd X n) (g k:Nat):heard Y n g k = heard X n g k:=by unfold heard;rw [h]
theorem Mv.clocks {X Y:Wd} {a b:Nat} {m:M} (h:Mv X a b m Y) (k:Nat):(nd X k).clock ≤ (nd Y k).clock:=by
 by_cases e:k = b
 ·rw [e,h.clock];omega
 ·rw [h.others k e];exact Int.le_refl _
theorem Mv.hears {X Y:Wd} {a b:Nat} {m:M} (h:Mv X a b m Y) (n:Nat) {g k:Nat} (hg:g < X.groups.length) (hk:k < X.nodes.length):heard X n g k ≤ heard Y n g k:=by
 by_cases e:n = b
 ·rw [e,h.hrd g k hg hk]
  split <;> omega
 ·rw [heard_same (h.others n e)];exact Int.le_refl _
theorem Sn.clocks {X Y:Wd} {n:Nat} {m:M} (h:Sn X n m Y) (k:Nat):(nd X k).clock ≤ (nd Y k).clock:=by
 by_cases e:k = n
 ·rw [e,h.clock];omega
 ·rw [h.others k e];exact Int.le_refl _
theorem Sn.hears {X Y:Wd} {n:Nat} {m:M} (h:Sn X n m Y) (j g k:Nat):heard Y j g k = heard X j g k:=by
 by_cases e:j = n
 ·unfold heard;rw [e,h.last]
 ·exact heard_same (h.others j e) g k
theorem Kept.mem {h t:List M} {m:M} {Y:Wd} {n:Nat} (k:Kept h t m Y n) {x:M}:x ∈ (nd Y n).held ∨ x ∈ (nd Y n).told ↔ (x ∈ h ∨ x ∈ t) ∨ (m.null = false ∧ x = m):=by
 obtain ⟨⟨R,h1,h2,_⟩,_⟩:=k
 have hH:x ∈ R ∨ x ∈ (nd Y n).held ↔ x ∈ (if m.null = true then h else putM h m):=by rw [← h2,List.mem_append]
 rw [h1,List.mem_append]
 cases hm:m.null
 ·rw [hm,if_neg (by simp),mem_putM] at hH
  constructor
  ·rintro (a | a | a)
   ·rcases hH.1 (Or.inr a) with e | e
    ·exact Or.inr ⟨rfl,e⟩
    ·exact Or.inl (Or.inl e)
   ·exact Or.inl (Or.inr a)
   ·rcases hH.1 (Or.inl a) with e | e
    ·exact Or.inr ⟨rfl,e⟩
    ·exact Or.inl (Or.inl e)
  ·rintro ((a | a) | ⟨_,a⟩)
   ·rcases hH.2 (Or.inr a) with e | e
    ·exact Or.inr (Or.inr e)
    ·exact Or.inl e
   ·exact Or.inr (Or.inl a)
   ·rcases hH.2 (Or.inl a) with e | e
    ·exact Or.inr (Or.inr e)
    ·exact Or.inl e
 ·rw [hm,if_pos rfl] at hH
  constructor
  ·rintro (a | a | a)
   ·exact Or.inl (Or.inl (hH.1 (Or.inr a)))
   ·exact Or.inl (Or.inr a)
   ·exact Or.inl (Or.inl (hH.1 (Or.inl a)))
  ·rintro ((a | a) | ⟨e,_⟩)
   ·rcases hH.2 a with e | e
    ·exact Or.inr (Or.inr e)
    ·exact Or.inl e
   ·exact Or.inr (Or.inl a)
   ·cases e
theorem Kept.bound {h t:List M} {m:M} {Y:Wd} {n:Nat} (k:Kept h t m Y n) {B:Int} (hB:B ≤ boundX Y n) (ht:∀ x ∈ t,x.stamp ≤ B):∀ x ∈ (nd Y n).told,x.stamp ≤ boundX Y n:=by
 obtain ⟨⟨R,h1,_,h3⟩,_⟩:=k
 intro x hx
 rw [h1,List.mem_append] at hx
 rcases hx with hx | hx
 ·exact Int.le_trans (ht x hx) hB
 ·exact h3 x hx
structure Inv (X:Wd):Prop where
 right:Right X
 hc:∀ n g k,n < X.nodes.length → g < X.groups.length → k < X.nodes.length → heard X n g k ≤ (nd X k).clock
 wc:∀ a b m,a < X.nodes.length → b < X.nodes.length → m ∈ wireL X a b → m.stamp ≤ (nd X a).clock
 wh:∀ a b m g,a < X.nodes.length → b < X.nodes.length → g < X.groups.length → m ∈ wireL X a b → heard X b g a < m.stamp
 lc:∀ n m,n < X.nodes.length → (m ∈ (nd X n).held ∨ m ∈ (nd X n).told) → m.stamp ≤ (nd X n).clock
 lo:∀ n m k,n < X.nodes.length → k < X.nodes.length → (m ∈ (nd X n).held ∨ m ∈ (nd X n).told) → m.src = (k:Int) → k ≠ n → m.stamp ≤ heard X n m.grp.toNat k
 tb:∀ n m,n < X.nodes.length → m ∈ (nd X n).told → m.stamp ≤ boundX X n
 hb:∀ n m,n < X.nodes.length → m ∈ (nd X n).held → boundX X n < m.stamp
theorem Right.msg {X:Wd} (h:Right X) {n:Nat} (hn:n < X.nodes.length) {m:M} (hm:m ∈ (nd X n).held ∨ m ∈ (nd X n).told):m.null = false ∧ msgE X.nodes.length X.groups m = 0 ∧ hasB X.groups m.grp n = true:=by
 rcases hm with hm | hm
 ·exact (h.node n hn).held.fine m hm
 ·exact (h.node n hn).told.fine m hm
theorem msgE_grp {K:Nat} {gs:List Int} {m:M} (h:msgE K gs m = 0):∃ g,g < gs.length ∧ m.grp = (g:Int) ∧ ∃ k,k < K ∧ m.src = (k:Int):=by
 obtain ⟨⟨h1,h2,h3,h4,_⟩,_⟩:=rightE_in h
 exact ⟨m.grp.toNat,by omega,by omega,m.src.toNat,by omega,by omega⟩
theorem Inv.move {X Y:Wd} {a b:Nat} {m:M} (i:Inv X) (h:Mv X a b m Y):Inv Y:=by
 obtain ⟨ha,hb,hab⟩:=h.at_
 obtain ⟨l,hl,hl'⟩:=h.first
 have hmem:m ∈ wireL X a b:=by rw [hl];exact List.mem_cons_self ..
 have hW:=i.right.wire a b ha hb
 have hfine:=hW.fine m hmem
 have hsrc:=hW.src m hmem
 obtain ⟨q,hq,hqm,_⟩:=msgE_grp hfine.1
 have hK:=h.like.len
 have hG:=h.like.groups
 have hcl:(nd Y a).clock = (nd X a).clock:=by rw [h.others a hab]
 have hw:∀ c d x,x ∈ wireL Y c d → x ∈ wireL X c d:=fun c d x hx=>by
  by_cases e:c = a ∧ d = b
  ·obtain ⟨rfl,rfl⟩:=e
   rw [hl'] at hx
   rw [hl]
   exact List.mem_cons_of_mem _ hx
  ·rw [h.wires c d e] at hx
   exact hx
 have hbm:boundX X b ≤ boundX Y b:=boundX_mono hG hK (h.clocks b) (fun g k hg hk=>h.hears b hg hk)
 refine ⟨h.like.right,fun n g k hn hg hk=>?_,fun c d x hc hd hx=>?_,fun c d x g hc hd hg hx=>?_,fun n x hn hx=>?_,fun n x k hn hk hx hs hkn=>?_,fun n x hn hx=>?_,fun n x hn hx=>?_⟩
 ·rw [hK] at hn hk
  rw [hG] at hg
  have h0:=i.hc n g k hn hg hk
  have h1:=h.clocks k
  by_cases e:n = b
  ·rw [e,h.hrd g k hg hk]
   rw [e] at h0
   split
   ·rename_i e2
    rw [e2.2] at h0 h1 ⊢
    have:=i.wc a b m ha hb hmem
    omega
   ·omega
  ·rw [heard_same (h.others n e)]
   omega
 ·rw [hK] at hc hd
  exact Int.le_trans (i.wc c d x hc hd (hw c d x hx)) (h.clocks c)
 ·rw [hK] at hc hd
  rw [hG] at hg
  have h0:=i.wh c d x g hc hd hg (hw c d x hx)
  by_cases e:d = b
  ·subst e
   rw [h.hrd g c hg hc]
   split
   ·rename_i e2
    obtain ⟨_,rfl⟩:=e2
    rw [hl'] at hx
    have hp:=hW.rise
    rw [hl] at hp
    have:=(List.pairwise_cons.1 hp).1 x hx
    omega
   ·exact h0
  ·rw [heard_same (h.others d e)]
   exact h0
 ·rw [hK] at hn
  by_cases e:n = b
  ·subst e
   rcases h.kept.mem.1 hx with hx | ⟨_,rfl⟩
   ·exact Int.le_trans (i.lc n x hn hx) (h.clocks n)
   ·rw [h.clock];omega
  ·rw [h.others n e] at hx ⊢
   exact i.lc n x hn hx
 ·rw [hK] at hn hk
  by_cases e:n = b
  ·subst e
   rcases h.kept.mem.1 hx with hx | ⟨_,rfl⟩
   ·obtain ⟨g,hg,hgm,_⟩:=msgE_grp (i.right.msg hn hx).2.1
    have:=i.lo n x k hn hk hx hs hkn
    have:=h.hears n (g:=x.grp.toNat) (by omega) hk
    omega
   ·have e2:k = a:=by omega
    subst e2
    rw [h.hrd _ _ (by omega) hk,if_pos ⟨by omega,rfl⟩]
    omega
  ·rw [h.others n e] at hx
   rw [heard_same (h.others n e)]
   exact i.lo n x k hn hk hx hs hkn
 ·rw [hK] at hn
  by_cases e:n = b
  ·subst e
   exact h.kept.bound hbm (fun x hx=>i.tb n x hn hx) x hx
  ·rw [boundX_same hG hK (h.others n e)]
   rw [h.others n e] at hx
   exact i.tb n x hn hx
 ·rw [hK] at hn
  by_cases e:n = b
  ·subst e
   exact h.kept.left x hx
  ·rw [boundX_same hG hK (h.others n e)]
   rw [h.others n e] at hx
   exact i.hb n x hn hx
theorem Inv.cast {X Y:Wd} {n:Nat} {m:M} (i:Inv X) (h:Sn X n m Y):Inv Y:=by
 have hn0:=h.at_
 have hK:=h.like.len
 have hG:=h.like.groups
 have hs:=h.stamp
 have hbm:boundX X n ≤ boundX Y n:=boundX_mono hG hK (h.clocks n) (fun g k _ _=>by rw [h.hears];exact Int.le_refl _)
 have hw:∀ c d x,c < X.nodes.length → d < X.nodes.length → x ∈ wireL Y c d → x ∈ wireL X c d ∨ (c = n ∧ d ≠ n ∧ x = m):=fun c d x hc hd hx=>by
  rw [h.wires c d hc hd] at hx
  split at hx
  ·rename_i e
   rcases List.mem_append.1 hx with hx | hx
   ·exact Or.inl hx
   ·exact Or.inr ⟨e.1,e.2.1,List.mem_singleton.1 hx⟩
  ·exact Or.inl hx
 refine ⟨h.like.right,fun j g k hj hg hk=>?_,fun c d x hc hd hx=>?_,fun c d x g hc hd hg hx=>?_,fun j x hj hx=>?_,fun j x k hj hk hx hs' hkn=>?_,fun j x hj hx=>?_,fun j x hj hx=>?_⟩
 ·rw [hK] at hj hk
  rw [hG] at hg
  rw [h.hears]
  exact Int.le_trans (i.hc j g k hj hg hk) (h.clocks k)
 ·rw [hK] at hc hd
  rcases hw c d x hc hd hx with hx | ⟨rfl,_,rfl⟩
  ·exact Int.le_trans (i.wc c d x hc hd hx) (h.clocks c)
  ·rw [h.clock,hs];exact Int.le_refl _
 ·rw [hK] at hc hd
  rw [hG] at hg
  rw [h.hears]
  rcases hw c d x hc hd hx with hx | ⟨rfl,_,rfl⟩
  ·exact i.wh c d x g hc hd hg hx
  ·have:=i.hc d g c hd hg hc
   omega
 ·rw [hK] at hj
  by_cases e:j = n
  ·subst e
   rcases h.kept.mem.1 hx with hx | ⟨_,rfl⟩
   ·exact Int.le_trans (i.lc j x hj hx) (h.clocks j)
   ·rw [h.clock,hs];exact Int.le_refl _
  ·rw [h.others j e] at hx ⊢
   exact i.lc j x hj hx
 ·rw [hK] at hj hk
  rw [h.hears]
  by_cases e:j = n
  ·subst e
   rcases h.kept.mem.1 hx with hx | ⟨_,rfl⟩
   ·exact i.lo j x k hj hk hx hs' hkn
   ·have:=h.src;exact absurd (by omega) hkn
  ·rw [h.others j e] at hx
   exact i.lo j x k hj hk hx hs' hkn
 ·rw [hK] at hj
  by_cases e:j = n
  ·subst e
   exact h.kept.bound hbm (fun x hx=>i.tb j x hj hx) x hx
  ·rw [boundX_same hG hK (h.others j e)]
   rw [h.others j e] at hx
   exact i.tb j x hj hx
 ·rw [hK] at hj
  by_cases e:j = n
  ·subst e
   exact h.kept.left x hx
  ·rw [boundX_same hG hK (h.others j e)]
   rw [h.others j e] at hx
   exact i.hb j x hj hx
end Go.Proofs.YtnalakhelicjcaaGreatDoor
set_option maxRecDepth 100000
namespace Go.Proofs.YtnalakhelicjcaaGreatDoor
open Go.RowKit
inductive Steps (X:Wd):Nat → Wd → Prop
 | refl:Steps X 0 X
 | move {k:Nat} {Y Z:Wd} {a b:Nat} {m:M} (h:Steps X k Y) (s:Mv Y a b m Z):Steps X k Z
 | cast {k:Nat} {Y Z:Wd} {n:Nat} {m:M} (h:Steps X k Y) (s:Sn Y n m Z):Steps X (k + 1) Z
theorem Steps.trans {X Y Z:Wd} {j k:Nat} (h:Steps X j Y) (h2:Steps Y k Z):Steps X (j + k) Z:=by
 induction h2 with
 | refl=>exact h
 | move _ s ih=>exact .move ih s
 | cast _ s ih=>exact .cast ih s
theorem Steps.like {X Y:Wd} {k:Nat} (h:Steps X k Y) (hR:Right X):Like X Y:=by
 induction h with
 | refl=>exact Like.refl hR
 | move _ s ih=>exact ih.trans s.like
 | cast _ s ih=>exact ih.trans s.like
theorem Steps.inv {X Y:Wd} {k:Nat} (h:Steps X k Y) (i:Inv X):Inv Y:=by
 induction h with
 | refl=>exact i
 | move _ s ih=>exact ih.move s
 | cast _ s ih=>exact ih.cast s
theorem Steps.clocks {X Y:Wd} {k:Nat} (h:Steps X k Y) (n:Nat):(nd X n).clock ≤ (nd Y n).clock:=by
 induction h with
 | refl=>exact Int.le_refl _
 | move _ s ih=>exact Int.le_trans ih (s.clocks n)
 | cast _ s ih=>exact Int.le_trans ih (s.clocks n)
theorem Steps.hears {X Y:Wd} {k:Nat} (h:Steps X k Y) (hR:Right X) (n:Nat) {g j:Nat} (hg:g < X.groups.length) (hj:j < X.nodes.length):heard X n g j ≤ heard Y n g j:=by
 induction h with
 | refl=>exact Int.le_refl _
 | move h s ih=>exact Int.le_trans ih (s.hears n (by rw [(h.like hR).groups];exact hg) (by rw [(h.like hR).len];exact hj))
 | cast _ s ih=>rw [s.hears];exact ih
theorem Steps.bound {X Y:Wd} {k:Nat} (h:Steps X k Y) (hR:Right X) (n:Nat):boundX X n ≤ boundX Y n:=
 boundX_mono (h.like hR).groups (h.like hR).len (h.clocks n) (fun _ _ hg hj=>h.hears hR n hg hj)
theorem Kept.told {h t:List M} {m:M} {Y:Wd} {n:Nat} (k:Kept h t m Y n):∃ R,(nd Y n).told = t ++ R:=by
 obtain ⟨⟨R,h1,_⟩,_⟩:=k
 exact ⟨R,h1⟩
theorem Steps.told {X Y:Wd} {k:Nat} (h:Steps X k Y) (n:Nat):∃ R,(nd Y n).told = (nd X n).told ++ R:=by
 induction h with
 | refl=>exact ⟨[],by simp⟩
 | @move k Y Z a b m _ s ih =>
  obtain ⟨R,hR⟩:=ih
  by_cases e:n = b
  ·obtain ⟨Q,hQ⟩:=s.kept.told
   rw [e] at hR ⊢
   exact ⟨R ++ Q,by rw [hQ,hR,List.append_assoc]⟩
  ·exact ⟨R,by rw [s.others n e];exact hR⟩
 | @cast k Y Z c m _ s ih =>
  obtain ⟨R,hR⟩:=ih
  by_cases e:n = c
  ·obtain ⟨Q,hQ⟩:=s.kept.told
   rw [e] at hR ⊢
   exact ⟨R ++ Q,by rw [hQ,hR,List.append_assoc]⟩
  ·exact ⟨R,by rw [s.others n e];exact hR⟩
def Under (X:Wd) (C:Int):Prop:=∀ n,n < X.nodes.length → (nd X n).clock ≤ C
structure Gh (X:Wd) (S:List M):Prop where
 onw:∀ a b m,a < X.nodes.length → b < X.nodes.length → m ∈ wireL X a b → m ∈ S
 onl:∀ n m,n < X.nodes.length → (m ∈ (nd X n).held ∨ m ∈ (nd X n).told) → m ∈ S
 key:∀ x ∈ S,∀ y ∈ S,x.src = y.src → x.stamp = y.stamp → x = y
 clk:∀ x ∈ S,∀ n,n < X.nodes.length → x.src = (n:Int) → x.stamp ≤ (nd X n).clock
 src:∀ x ∈ S,msgE X.nodes.length X.groups x = 0
 del:∀ x ∈ S,x.null = false → ∀ n,n < X.nodes.length → hasB X.groups x.grp n = true → (x ∈ (nd X n).held ∨ x ∈ (nd X n).told) ∨ ∃ a,a < X.nodes.length ∧ x.src = (a:Int) ∧ a ≠ n ∧ x ∈ wireL X a n
theorem Gh.move {X Y:Wd} {S:List M} {a b:Nat} {m:M} (i:Gh X S) (h:Mv X a b m Y):Gh Y S:=by
 obtain ⟨ha,hb,hab⟩:=h.at_
 obtain ⟨l,hl,hl'⟩:=h.first
 have hmem:m ∈ wireL X a b:=by rw [hl];exact List.mem_cons_self ..
 have hK:=h.like.len
 have hG:=h.like.groups
 refine ⟨fun c d x hc hd hx=>?_,fun n x hn hx=>?_,i.key,fun x hx n hn hs=>?_,fun x hx=>?_,fun x hx h0 n hn hh=>?_⟩
 ·rw [hK] at hc hd
  by_cases e:c = a ∧ d = b
  ·obtain ⟨rfl,rfl⟩:=e
   rw [hl'] at hx
   exact i.onw c d x hc hd (by rw [hl];exact List.mem_cons_of_mem _ hx)
  ·rw [h.wires c d e] at hx
   exact i.onw c d x hc hd hx
 ·rw [hK] at hn
  by_cases e:n = b
  ·subst e
   rcases h.kept.mem.1 hx with hx | ⟨_,rfl⟩
   ·exact i.onl n x hn hx
   ·exact i.onw a n x ha hb hmem
  ·rw [h.others n e] at hx
   exact i.onl n x hn hx
 ·rw [hK] at hn
  exact Int.le_trans (i.clk x hx n hn hs) (h.clocks n)
 ·rw [hK,hG]
  exact i.src x hx
 ·rw [hK] at hn ⊢
  rw [hG] at hh
  rcases i.del x hx h0 n hn hh with hx | ⟨c,hc,hs,hcn,hx⟩
  ·left
   by_cases e:n = b
   ·subst e
    exact h.kept.mem.2 (Or.inl hx)
   ·rw [h.others n e]
    exact hx
  ·by_cases e:c = a ∧ n = b
   ·obtain ⟨rfl,rfl⟩:=e
    rw [hl] at hx
    rcases List.mem_cons.1 hx with rfl | hx
    ·exact Or.inl (h.kept.mem.2 (Or.inr ⟨h0,rfl⟩))
    ·exact Or.inr ⟨c,hc,hs,hcn,by rw [hl'];exact hx⟩
   ·exact Or.inr ⟨c,hc,hs,hcn,by rw [h.wires c n e];exact hx⟩
theorem Gh.cast {X Y:Wd} {S:List M} {n:Nat} {m:M} (i:Gh X S) (h:Sn X n m Y):Gh Y (S ++ [m]):=by
 have hn0:=h.at_
 have hK:=h.like.len
 have hG:=h.like.groups
 have hs:=h.stamp
 have hsr:=h.src
 have inS:∀ x,x ∈ S ++ [m] ↔ x ∈ S ∨ x = m:=fun x=>by rw [List.mem_append,List.mem_singleton]
 have hnew:∀ x ∈ S,x.src = m.src → x.stamp ≠ m.stamp:=fun x hx e=>by
  have:=i.clk x hx n hn0 (by rw [e,hsr])
  omega
 refine ⟨fun c d x hc hd hx=>?_,fun j x hj hx=>?_,fun x hx y hy e1 e2=>?_,fun x hx j hj hs'=>?_,fun x hx=>?_,fun x hx h0 j hj hh=>?_⟩
 ·rw [hK] at hc hd
  rw [h.wires c d hc hd] at hx
  rw [inS]
  split at hx
  ·rcases List.mem_append.1 hx with hx | hx
   ·exact Or.inl (i.onw c d x hc hd hx)
   ·exact Or.inr (List.mem_singleton.1 hx)
  ·exact Or.inl (i.onw c d x hc hd hx)
 ·rw [hK] at hj
  rw [inS]
  by_cases e:j = n
  ·subst e
   rcases h.kept.mem.1 hx with hx | ⟨_,rfl⟩
   ·exact Or.inl (i.onl j x hj hx)
   ·exact Or.inr rfl
  ·rw [h.others j e] at hx
   exact Or.inl (i.onl j x hj hx)
 ·rcases (inS x).1 hx with kx | kx
  ·rcases (inS y).1 hy with ky | ky
   ·exact i.key x kx y ky e1 e2
   ·rw [ky] at e1 e2
    exact absurd e2 (hnew x kx e1)
  ·rcases (inS y).1 hy with ky | ky
   ·rw [kx] at e1 e2
    exact absurd e2.symm (hnew y ky e1.symm)
   ·rw [kx,ky]
 ·rw [hK] at hj
  rcases (inS x).1 hx with hx | rfl
  ·exact Int.le_trans (i.clk x hx j hj hs') (h.clocks j)
  ·have e:j = n:=by omega
   subst e
   rw [h.clock,hs];exact Int.le_refl _
 ·rw [hK,hG]
  rcases (inS x).1 hx with hx | rfl
  ·exact i.src x hx
  ·exact h.fine
 ·rw [hK] at hj ⊢
  rw [hG] at hh
  rcases (inS x).1 hx with hx | rfl
  ·rcases i.del x hx h0 j hj hh with hx | ⟨c,hc,hs',hcn,hx⟩
   ·left
    by_cases e:j = n
    ·subst e
     exact h.kept.mem.2 (Or.inl hx)
    ·rw [h.others j e]
     exact hx
   ·refine Or.inr ⟨c,hc,hs',hcn, ?_⟩
    rw [h.wires c j hc hj]
    split
    ·exact List.mem_append_left _ hx
    ·exact hx
  ·by_cases e:j = n
   ·subst e
    exact Or.inl (h.kept.mem.2 (Or.inr ⟨h0,rfl⟩))
   ·refine Or.inr ⟨n,hn0,hsr,fun h=>e h.symm, ?_⟩
    rw [h.wires n j hn0 hj,if_pos ⟨rfl,e,hh⟩]
    exact List.mem_append_right _ (List.mem_singleton.2 rfl)
theorem Steps.gh {X Y:Wd} {k:Nat} (h:Steps X k Y) {S:List M} (i:Gh X S):∃ T,Gh Y (S ++ T):=by
 induction h with
 | refl=>exact ⟨[],by simpa using i⟩
 | move _ s ih =>
  obtain ⟨T,hT⟩:=ih
  exact ⟨T,hT.move s⟩
 | @cast k Y Z n m _ s ih =>
  obtain ⟨T,hT⟩:=ih
  exact ⟨T ++ [m],by rw [← List.append_assoc];exact hT.cast s⟩
end Go.Proofs.YtnalakhelicjcaaGreatDoor
set_option maxRecDepth 100000
namespace Go.Proofs.YtnalakhelicjcaaGreatDoor
open Go.RowKit
inductive NSteps (X:Wd):Nat → Wd → Prop
 | refl:NSteps X 0 X
 | move {k:Nat} {Y Z:Wd} {a b:Nat} {m:M} (h:NSteps X k Y) (s:Mv Y a b m Z):NSteps X k Z
 | cast {k:Nat} {Y Z:Wd} {n:Nat} {m:M} (h:NSteps X k Y) (s:Sn Y n m Z) (h0:m.null = true):NSteps X (k + 1) Z
theorem NSteps.steps {X Y:Wd} {k:Nat} (h:NSteps X k Y):Steps X k Y:=by
 induction h with
 | refl=>exact .refl
 | move _ s ih=>exact .move ih s
 | cast _ s _ ih=>exact .cast ih s
theorem NSteps.trans {X Y Z:Wd} {j k:Nat} (h:NSteps X j Y) (h2:NSteps Y k Z):NSteps X (j + k) Z:=by
 induction h2 with
 | refl=>exact h
 | move _ s ih=>exact .move ih s
 | cast _ s h0 ih=>exact .cast ih s h0
def Empty (X:Wd):Prop:=∀ a b,a < X.nodes.length → b < X.nodes.length → wireL X a b = []
theorem NSteps.empty {X Y:Wd} {k:Nat} (h:NSteps X k Y) (h0:k = 0) {c d:Nat} (he:wireL X c d = []):wireL Y c d = []:=by
 induction h with
 | refl=>exact he
 | @move k Y Z a b m _ s ih =>
  have:=ih h0
  by_cases e:c = a ∧ d = b
  ·obtain ⟨rfl,rfl⟩:=e
   obtain ⟨l,hl,_⟩:=s.first
   rw [hl] at this
   cases this
  ·rw [s.wires c d e];exact this
 | cast=>cases h0
theorem wireN_steps {a b:Nat}:∀ (f:Nat) {X:Wd} (c:Int),Right X → a < X.nodes.length → b < X.nodes.length → (wireL X a b).length = f → (wireN a b f X c).1 = 0 → NSteps X 0 (wireN a b f X c).2.2
 | 0,X,c,_,_,_,_,_=>.refl
 | f + 1,X,c,hR,ha,hb,hl,h=>by
  unfold wireN at h ⊢
  rw [if_neg (by omega)] at h ⊢
  split at h
  rotate_left
  ·rename_i h1
   exact absurd h h1
  rename_i h1
  rw [if_pos h1]
  obtain ⟨m,hM⟩:=moveR_mv hR ha hb h1
  have hw:=moveR_wire hR ha hb h1
  have h2:=wireN_steps f (c + 1) hM.like.right (by rw [hM.like.len];exact ha) (by rw [hM.like.len];exact hb) (by rw [hw,List.length_drop,hl];rfl) h
  have:=(NSteps.move .refl hM).trans h2
  simpa using this
theorem wireR_steps {X:Wd} {a b:Nat} (hR:Right X) (ha:a < X.nodes.length) (hb:b < X.nodes.length) (h:(wireR X a b).1 = 0):NSteps X 0 (wireR X a b).2.2 ∧ wireL (wireR X a b).2.2 a b = []:=
 ⟨wireN_steps _ 0 hR ha hb rfl h,(wireR_like hR ha hb h).2.2.2⟩
theorem drB_steps {X:Wd} (hR:Right X) {a:Nat} (ha:a < X.nodes.length) (h0:(drA X a).1 = 0 → NSteps X 0 (drA X a).2.2 ∧ ∀ c d,c < a → d < X.nodes.length → wireL (drA X a).2.2 c d = []) :
  ∀ b,b ≤ X.nodes.length → (drB X a b).1 = 0 → NSteps X 0 (drB X a b).2.2 ∧ ∀ c d,((c < a ∧ d < X.nodes.length) ∨ (c = a ∧ d < b)) → wireL (drB X a b).2.2 c d = []
 | 0,_,h=>by
  rw [drB_zero] at h ⊢
  obtain ⟨h1,h2⟩:=h0 h
  exact ⟨h1,fun c d h=>h.elim (fun h=>h2 c d h.1 h.2) (fun h=>absurd h.2 (Nat.not_lt_zero _))⟩
 | b + 1,hb,h=>by
  have hL:(drB X a b).1 = 0:=by
   rw [drB_succ] at h
   rcases Classical.em ((drB X a b).1 = 0) with e | e
   ·exact e
   ·rw [drainS_stop e] at h;exact h
  obtain ⟨k1,k2⟩:=drB_steps hR ha h0 b (by omega) hL
  rw [drB_succ] at h ⊢
  obtain ⟨n,Y,hnY⟩:∃ n Y,drB X a b = (0,n,Y):=⟨_,_,Prod.ext hL rfl⟩
  rw [hnY] at h k1 k2 ⊢
  have hLY:=k1.steps.like hR
  have h2:(wireR Y a b).1 = 0:=by
   rcases Classical.em ((wireR Y a b).1 = 0) with e | e
   ·exact e
   ·rw [drainS_bad e] at h;exact absurd h e
  obtain ⟨s1,s2⟩:=wireR_steps hLY.right (by rw [hLY.len];exact ha) (by rw [hLY.len];omega) h2
  obtain ⟨e,_⟩:=drainS_like (n:=n) hLY ha (by omega) h2
  rw [e]
  refine ⟨by simpa using k1.trans s1,fun c d hcd=>?_⟩
  show wireL (wireR Y a b).2.2 c d = []
  by_cases e2:c = a ∧ d = b
  ·rw [e2.1,e2.2];exact s2
  ·exact s1.empty rfl (k2 c d (by omega))
theorem drA_steps {X:Wd} (hR:Right X):∀ a,a ≤ X.nodes.length → (drA X a).1 = 0 → NSteps X 0 (drA X a).2.2 ∧ ∀ c d,c < a → d < X.nodes.length → wireL (drA X a).2.2 c d = []
 | 0,_,_=>⟨.refl,fun _ _ h=>absurd h (Nat.not_lt_zero _)⟩
 | a + 1,ha,h=>by
  rw [drA_succ] at h ⊢
  obtain ⟨h1,h2⟩:=drB_steps hR (by omega) (drA_steps hR a (by omega)) X.nodes.length (Nat.le_refl _) h
  exact ⟨h1,fun c d hc hd=>h2 c d (by omega)⟩
theorem drainR_steps {X:Wd} (hR:Right X) (h:(drainR X).1 = 0):NSteps X 0 (drainR X).2.2 ∧ Empty (drainR X).2.2:=by
 rw [drain_eq] at h ⊢
 obtain ⟨h1,h2⟩:=drA_steps hR X.nodes.length (Nat.le_refl _) h
 have hl:=(h1.steps.like hR).len
 exact ⟨h1,fun a b ha hb=>h2 a b (by rw [← hl];exact ha) (by rw [← hl];exact hb)⟩
theorem fold_steps {α:Type} (f:Int × Wd → α → Int × Wd) (hf:∀ s a,(f s a).1 = 0 → s.1 = 0 ∧ (Right s.2 → ∃ k,k ≤ 1 ∧ NSteps s.2 k (f s a).2)) :
  ∀ (l:List α) (s:Int × Wd),(l.foldl f s).1 = 0 → s.1 = 0 ∧ (Right s.2 → ∃ k,k ≤ l.length ∧ NSteps s.2 k (l.foldl f s).2)
 | [],s,h=>⟨h,fun _=>⟨0,Nat.le_refl _, .refl⟩⟩
 | a :: l,s,h=>by
  rw [List.foldl_cons] at h ⊢
  obtain ⟨h1,h2⟩:=fold_steps f hf l _ h
  obtain ⟨h3,h4⟩:=hf s a h1
  refine ⟨h3,fun hR=>?_⟩
  obtain ⟨j,hj,hs⟩:=h4 hR
  obtain ⟨k,hk,ht⟩:=h2 (hs.steps.like hR).right
  exact ⟨j + k,by rw [List.length_cons];omega,hs.trans ht⟩
theorem fold_steps2 {α:Type} (n:Nat) (f:Int × Wd → α → Int × Wd) (hf:∀ s a,(f s a).1 = 0 → s.1 = 0 ∧ (Right s.2 → ∃ k,k ≤ n ∧ NSteps s.2 k (f s a).2)) :
  ∀ (l:List α) (s:Int × Wd),(l.foldl f s).1 = 0 → s.1 = 0 ∧ (Right s.2 → ∃ k,k ≤ l.length * n ∧ NSteps s.2 k (l.foldl f s).2)
 | [],s,h=>⟨h,fun _=>⟨0,by simp, .refl⟩⟩
 | a :: l,s,h=>by
  rw [List.foldl_cons] at h ⊢
  obtain ⟨h1,h2⟩:=fold_steps2 n f hf l _ h
  obtain ⟨h3,h4⟩:=hf s a h1
  refine ⟨h3,fun hR=>?_⟩
  obtain ⟨j,hj,hs⟩:=h4 hR
  obtain ⟨k,hk,ht⟩:=h2 (hs.steps.like hR).right
  exact ⟨j + k,by rw [List.length_cons,Nat.add_mul];omega,hs.trans ht⟩
theorem roundS_steps (n:Nat) (s:Int × Wd) (g:Nat) (h:(roundS n g s).1 = 0):s.1 = 0 ∧ (Right s.2 → ∃ k,k ≤ 1 ∧ NSteps s.2 k (roundS n g s).2):=by
 have h1:s.1 = 0:=by
  rcases Classical.em (s.1 = 0) with e | e
  ·exact e
  ·rw [roundS_stop e] at h;exact h
 refine ⟨h1,fun hR=>?_⟩
 unfold roundS at h ⊢
 rw [if_pos h1] at h ⊢
 split at h
 ·rename_i h2
  rw [if_pos h2]
  obtain ⟨k,hk,hS⟩:=castR_sn hR (fun _=>rfl) h
  obtain rfl:n = k:=by omega
  exact ⟨1,Nat.le_refl _, .cast .refl hS rfl⟩
 ·rename_i h2
  rw [if_neg h2]
  exact ⟨0,by omega, .refl⟩
theorem rounds_steps (G n:Nat) (s:Int × Wd) (h:((List.range G).foldl (fun r g=>roundS n g r) s).1 = 0):s.1 = 0 ∧ (Right s.2 → ∃ k,k ≤ G ∧ NSteps s.2 k ((List.range G).foldl (fun r g=>roundS n g r) s).2):=by
 have:=fold_steps (fun r g=>roundS n g r) (fun s g=>roundS_steps n s g) (List.range G) s h
 rwa [List.length_range] at this
theorem roundC_steps {X:Wd} (hR:Right X) (h:(roundC X).1 = 0):∃ k,k ≤ X.nodes.length * X.groups.length ∧ NSteps X k (roundC X).2:=by
 have:=(fold_steps2 X.groups.length (fun r n=>(List.range X.groups.length).foldl (fun r g=>roundS n g r) r) (fun s n=>rounds_steps X.groups.length n s) (List.range X.nodes.length) (0,X) h).2 hR
 rwa [List.length_range] at this
theorem roundR_split {X:Wd} (h:(roundR X).1 = 0):(roundC X).1 = 0 ∧ roundR X = drainR (roundC X).2:=by
 unfold roundR at h ⊢
 split at h
 ·rename_i h1
  exact ⟨h1,if_pos h1⟩
 ·rename_i h1
  exact absurd h h1
theorem roundR_steps {X:Wd} (hR:Right X) (h:(roundR X).1 = 0):(∃ k,k ≤ X.nodes.length * X.groups.length ∧ NSteps X k (roundR X).2.2) ∧ Empty (roundR X).2.2:=by
 obtain ⟨h1,h2⟩:=roundR_split h
 rw [h2] at h ⊢
 obtain ⟨k,hk,hs⟩:=roundC_steps hR h1
 obtain ⟨d1,d2⟩:=drainR_steps (hs.steps.like hR).right h
 exact ⟨⟨k,hk,by simpa using hs.trans d1⟩,d2⟩
theorem calmN_steps:∀ (k:Nat) {n:Int} {Y:Wd},Right Y → (calmN k (0,n,Y)).1 = 0 → ∃ c,c ≤ k * (Y.nodes.length * Y.groups.length) ∧ NSteps Y c (calmN k (0,n,Y)).2.2
 | 0,_,_,_,_=>⟨0,by simp, .refl⟩
 | k + 1,n,Y,hR,h=>by
  rw [calmN_next] at h ⊢
  have h1:(roundR Y).1 = 0:=by
   rcases Classical.em ((roundR Y).1 = 0) with e | e
   ·exact e
   ·rw [calmN_bad e] at h;exact h
  obtain ⟨p,Z,hZ⟩:∃ p Z,roundR Y = (0,p,Z):=⟨_,_,Prod.ext h1 rfl⟩
  obtain ⟨⟨j,hj,s⟩,_⟩:=roundR_steps hR h1
  rw [hZ] at h s ⊢
  have hL:=s.steps.like hR
  obtain ⟨c,hc,t⟩:=calmN_steps k (n:=p) hL.right h
  rw [hL.len,hL.groups] at hc
  exact ⟨j + c,by rw [Nat.add_mul];omega,s.trans t⟩
theorem calmR_steps {X:Wd} (hR:Right X) (h:(calmR X).1 = 0):∃ c,c ≤ 4 * (X.nodes.length * X.groups.length) ∧ NSteps X c (calmR X).2:=by
 unfold calmR at h ⊢
 split at h
 rotate_left
 ·rename_i h1
  exact absurd h h1
 rename_i h1
 rw [if_pos h1]
 have h0:(drainR X).1 = 0:=by
  rcases Classical.em ((drainR X).1 = 0) with e | e
  ·exact e
  ·rw [calmN_bad e] at h1;exact h1
 obtain ⟨s0,_⟩:=drainR_steps hR h0
 obtain ⟨p,Y,hY⟩:∃ p Y,drainR X = (0,p,Y):=⟨_,_,Prod.ext h0 rfl⟩
 rw [hY] at h1 s0 ⊢
 have hL0:=s0.steps.like hR
 obtain ⟨c,hc,t⟩:=calmN_steps 4 (n:=p) hL0.right h1
 rw [hL0.len,hL0.groups] at hc
 exact ⟨0 + c,by omega,s0.trans t⟩
end Go.Proofs.YtnalakhelicjcaaGreatDoor
set_option maxRecDepth 100000
namespace Go.Proofs.YtnalakhelicjcaaGreatDoor
open Go.RowKit
theorem getD_rep {α:Type} {n i:Nat} {x d:α} (h:i < n):(List.replicate n x).getD i d = x:=by
 rw [getD_lt _ d (by rw [List.length_replicate];exact h),List.getElem_replicate]
section
variable {n:Nat} {gs:List Int}
theorem begin_len:(beginX n gs).nodes.length = n ∧ (beginX n gs).wires.length = n ∧ (beginX n gs).groups = gs:=by simp [beginX]
theorem begin_nd {k:Nat} (h:k < n):nd (beginX n gs) k = ⟨0,List.replicate gs.length (List.replicate n 0),[],[]⟩:=getD_rep h
theorem begin_wire (a b:Nat):wireL (beginX n gs) a b = []:=by
 unfold wireL beginX
 dsimp only
 rw [List.getD_eq_getElem?_getD,List.getD_eq_getElem?_getD,List.getElem?_replicate]
 split
 ·rw [Option.getD_some,List.getElem?_replicate]
  split <;> rfl
 ·rfl
theorem begin_right (h:gErr n gs = 0):Right (beginX n gs):=by
 have hl:=begin_len (n:=n) (gs:=gs)
 have hL0:∀ k,ListR n gs k []:=fun k=>⟨rfl,fun m hm=>(by cases hm),by simp⟩
 refine ⟨by rw [hl.1,hl.2.2];exact h,by rw [hl.1,hl.2.1],fun a ha=>?_,fun k hk=>?_,fun a b ha hb=>?_⟩
 ·rw [hl.1] at ha ⊢
  show ((List.replicate n (List.replicate n ([]:List M))).getD a []).length = n
  rw [getD_rep ha,List.length_replicate]
 ·rw [hl.1] at hk ⊢
  rw [hl.2.2]
  have e:=begin_nd (gs:=gs) hk
  unfold nd at e
  rw [e]
  refine ⟨⟨by show (0:Int) ≤ 0;omega,by show (0:Int) ≤ _;omega⟩,by simp,fun g hg=>?_,fun g j hg hj=>?_,hL0 k,hL0 k⟩
  ·show ((List.replicate gs.length (List.replicate n (0:Int))).getD g []).length = n
   rw [getD_rep hg,List.length_replicate]
  ·have:((List.replicate gs.length (List.replicate n (0:Int))).getD g []).getD j 0 = 0:=by rw [getD_rep hg,getD_rep hj]
   dsimp only
   rw [this]
   exact ⟨by omega,Or.inr rfl⟩
 ·rw [begin_wire]
  exact ⟨fun m hm=>(by cases hm),List.Pairwise.nil,fun m hm=>(by cases hm),Or.inr rfl,by simp⟩
end
theorem grp_le {X:Wd} (h:Right X):X.nodes.length * X.groups.length ≤ 12:=by
 have hF:=errX_fit h.err
 exact Nat.mul_le_mul hF.nodes hF.groups
theorem doF_steps {X:Wd} {x:Ac} (h:(doF X x).1 = 0):Right X ∧ ∃ k,k ≤ 48 ∧ Steps X k (doF X x).2:=by
 have hc:∀ n g null body,(null = true → body = ByteArray.empty) → (castF X n g null body).1 = 0 → Right X ∧ ∃ k,k ≤ 48 ∧ Steps X k (castF X n g null body).2:=fun n g null body hb h=>by
  unfold castF at h ⊢
  split at h
  ·rename_i h0
   rw [if_pos h0]
   have hR:=right_of h0
   obtain ⟨k,_,hS⟩:=castR_sn hR hb h
   exact ⟨hR,1,by omega, .cast .refl hS⟩
  ·rename_i h0
   exact absurd h h0
 unfold doF at h ⊢
 split at h
 ·rename_i h1
  rw [if_pos h1]
  exact hc _ _ _ _ (fun h=>by cases h) h
 rename_i h1
 rw [if_neg h1]
 split at h
 ·rename_i h2
  rw [if_pos h2]
  exact hc _ _ _ _ (fun _=>rfl) h
 rename_i h2
 rw [if_neg h2]
 split at h
 ·rename_i h3
  rw [if_pos h3]
  unfold moveF at h ⊢
  split at h
  ·rename_i h0
   rw [if_pos h0]
   obtain ⟨hx,ha0,ha1,hb0,hb1⟩:=moveE_ok h0
   have hR:=right_of hx
   obtain ⟨m,hM⟩:=moveR_mv hR (by omega) (by omega) h
   exact ⟨hR,0,by omega, .move .refl hM⟩
  ·rename_i h0
   exact absurd h h0
 rename_i h3
 rw [if_neg h3]
 split at h
 ·rename_i h4
  rw [if_pos h4]
  unfold calmF at h ⊢
  split at h
  ·rename_i h0
   rw [if_pos h0]
   have hR:=right_of h0
   obtain ⟨c,hc,hS⟩:=calmR_steps hR h
   exact ⟨hR,c,by have:=grp_le hR;omega,hS.steps⟩
  ·rename_i h0
   exact absurd h h0
 ·cases h
structure Reach (X:Wd):Prop where
 inv:Inv X
 gh:∃ S,Gh X S
 low:Under X 100000
theorem Reach.steps {X Y:Wd} {k:Nat} (r:Reach X) (s:Steps X k Y):Inv Y ∧ ∃ S,Gh Y S:=by
 obtain ⟨S,hS⟩:=r.gh
 obtain ⟨T,hT⟩:=s.gh hS
 exact ⟨s.inv r.inv,_,hT⟩
end Go.Proofs.YtnalakhelicjcaaGreatDoor
set_option maxRecDepth 100000
namespace Go.Proofs.YtnalakhelicjcaaGreatDoor
open Go.RowKit Go.Shelf Go.BigFrame
theorem doF_fine {X:Wd} {x:Ac} (h:(doF X x).1 = 0):Right (doF X x).2 ∧ (doF X x).2.nodes.length = X.nodes.length:=by
 obtain ⟨hR,k,_,s⟩:=doF_steps h
 exact ⟨(s.like hR).right,(s.like hR).len⟩
theorem castF_fine {X:Wd} {n g:Nat} {null:Bool} {body:ByteArray} (hn:null = true → body = ByteArray.empty) (h:(castF X n g null body).1 = 0):n < X.nodes.length ∧ Right (castF X n g null body).2 ∧ (castF X n g null body).2.nodes.length = X.nodes.length:=by
 refine ⟨?_, ?_⟩
 ·unfold castF at h
  split at h
  ·unfold castR at h
   split at h
   ·rename_i h1
    unfold inB at h1
    simp only [Bool.and_eq_true,decide_eq_true_eq] at h1
    omega
   ·cases h
  ·exact absurd h (by assumption)
 ·cases null with
  | false=>exact doF_fine (x:=⟨1,n,g,body⟩) h
  | true =>
   rw [hn rfl] at h ⊢
   exact doF_fine (x:=⟨2,n,g,ByteArray.empty⟩) h
theorem moveF_fine {X:Wd} {a b:Nat} (h:(moveF X a b).1 = 0):b < X.nodes.length ∧ Right (moveF X a b).2 ∧ (moveF X a b).2.nodes.length = X.nodes.length ∧ (X.nodes.getD b N.zero).told.length ≤ ((moveF X a b).2.nodes.getD b N.zero).told.length:=by
 refine ⟨?_, ?_⟩
 ·have h':=h
  unfold moveF at h'
  split at h'
  ·rename_i h1
   have:=(moveE_ok h1).2.2.2.2
   omega
  ·exact absurd h' (by assumption)
 ·have h3:(doF X ⟨3,a,b,ByteArray.empty⟩).1 = 0:=h
  obtain ⟨h4,h5⟩:=doF_fine h3
  obtain ⟨hR,k,_,s⟩:=doF_steps h3
  obtain ⟨R,hRt⟩:=s.told b
  refine ⟨h4,h5, ?_⟩
  have e:((moveF X a b).2.nodes.getD b N.zero).told = (X.nodes.getD b N.zero).told ++ R:=hRt
  rw [e,List.length_append]
  omega
theorem calmF_fine {X:Wd} (h:(calmF X).1 = 0):Right (calmF X).2 ∧ (calmF X).2.nodes.length = X.nodes.length:=doF_fine (x:=⟨4,0,0,ByteArray.empty⟩) h
theorem node_clock {X:Wd} (h:Right X) {n:Nat} (hn:n < X.nodes.length):0 ≤ (X.nodes.getD n N.zero).clock ∧ (X.nodes.getD n N.zero).clock ≤ 1048576:=(h.node n hn).clock
theorem node_lists {X:Wd} (h:Right X) {n:Nat} (hn:n < X.nodes.length):(X.nodes.getD n N.zero).held.length ≤ 40 ∧ (X.nodes.getD n N.zero).told.length ≤ 40:=⟨(h.node n hn).held.many,(h.node n hn).told.many⟩
theorem bound_rng {X:Wd} (h:Right X) {n:Nat} (hn:n < X.nodes.length):0 ≤ boundX X n ∧ boundX X n ≤ 1048576:=by
 have hc:=node_clock h hn
 refine ⟨boundX_ge hc.1 (fun g k hg hk _ _ _=>?_),Int.le_trans (boundX_clock X n) hc.2⟩
 exact ((h.node n hn).cells g k hg hk).1.1
theorem execB_right {X:Wd} (h:Right X) (c:Cmd):Right (execB X c).2.2 ∧ (execB X c).2.2.nodes.length = X.nodes.length:=by
 cases c with
 | send a b body =>
  by_cases h1:(castF X a b false (strB body)).1 = 0
  ·rw [show execB X (.send a b body) = _ from if_pos h1]
   exact (castF_fine (by simp) h1).2
  ·rw [show execB X (.send a b body) = _ from if_neg h1]
   exact ⟨h,rfl⟩
 | null a b =>
  by_cases h1:(castF X a b true ByteArray.empty).1 = 0
  ·rw [show execB X (.null a b) = _ from if_pos h1]
   exact (castF_fine (fun _=>rfl) h1).2
  ·rw [show execB X (.null a b) = _ from if_neg h1]
   exact ⟨h,rfl⟩
 | move a b =>
  by_cases h1:(moveF X a b).1 = 0
  ·rw [show execB X (.move a b) = _ from if_pos h1]
   exact ⟨(moveF_fine h1).2.1,(moveF_fine h1).2.2.1⟩
  ·rw [show execB X (.move a b) = _ from if_neg h1]
   exact ⟨h,rfl⟩
 | calm =>
  by_cases h1:(calmF X).1 = 0
  ·rw [show execB X .calm = _ from if_pos h1]
   exact calmF_fine h1
  ·rw [show execB X .calm = _ from if_neg h1]
   exact ⟨h,rfl⟩
 | told a =>
  by_cases h1:a < X.nodes.length
  ·rw [show execB X (.told a) = _ from if_pos h1]
   exact ⟨h,rfl⟩
  ·rw [show execB X (.told a) = _ from if_neg h1]
   exact ⟨h,rfl⟩
 | held a =>
  by_cases h1:a < X.nodes.length
  ·rw [show execB X (.held a) = _ from if_pos h1]
   exact ⟨h,rfl⟩
  ·rw [show execB X (.held a) = _ from if_neg h1]
   exact ⟨h,rfl⟩
 | bad=>exact ⟨h,rfl⟩
theorem lineX_right {X:Wd} (h:Right X) (s:List UInt8):Right (lineX X s).1 ∧ (lineX X s).1.nodes.length = X.nodes.length:=by
 unfold lineX
 split
 ·exact execB_right h _
 ·exact ⟨h,rfl⟩
end Go.Proofs.YtnalakhelicjcaaGreatDoor
set_option maxRecDepth 100000
namespace Go.Proofs.YtnalakhelicjcaaGreatDoor
open Go.RowKit Go.Shelf Go.BigFrame
def Er (e:Int):Prop:=0 ≤ e ∧ e ≤ 9
theorem er0:Er 0:=by unfold Er;decide
theorem er1:Er 1:=by unfold Er;decide
theorem er2:Er 2:=by unfold Er;decide
theorem er3:Er 3:=by unfold Er;decide
theorem er4:Er 4:=by unfold Er;decide
theorem er5:Er 5:=by unfold Er;decide
theorem er7:Er 7:=by unfold Er;decide
theorem putE_er (ms:List M) (m:M):Er (putE ms m):=by
 unfold putE
 repeat' split
 all_goals first | exact er0 | exact er1 | exact er2 | exact er3 | exact er4 | exact er5 | exact er7
theorem tellE_er (X:Wd) (n:Nat):Er (tellE X n):=by
 unfold tellE
 repeat' split
 all_goals first | exact er0 | exact er1 | exact er2 | exact er3 | exact er4 | exact er5 | exact er7
theorem castEnd_er (X:Wd) (n:Nat) (m:M):Er (castEnd X n m).1:=by
 unfold castEnd
 dsimp only
 have h1:=putE_er (X.nodes.getD n N.zero).held m
 generalize putE (X.nodes.getD n N.zero).held m = e at *
 generalize (if m.null = true then X else holdW X n m) = Y at *
 have h2:=tellE_er Y n
 generalize tellE Y n = t at *
 repeat' split
 all_goals first | exact er0 | exact er1 | exact er2 | exact er3 | exact er4 | exact er5 | exact er7 | assumption
theorem castStep_er (X:Wd) (n:Nat) (g:Int) (k:Nat) (m:M):Er (castStep X n g k m).1:=by
 unfold castStep
 repeat' split
 all_goals first | exact er0 | exact er1 | exact er2 | exact er3 | exact er4 | exact er5 | exact er7
theorem castW_er (X:Wd) (n:Nat) (g:Int) (m:M):∀ k,Er (castW X n g m k).1
 | 0=>er0
 | k + 1=>by
  unfold castW
  split
  ·exact castStep_er ..
  ·exact castW_er X n g m k
theorem castR_er (X:Wd) (n g:Int) (null:Bool) (body:ByteArray):Er (castR X n g null body).1:=by
 unfold castR
 dsimp only
 generalize (⟨n,g,(X.nodes.getD n.toNat N.zero).clock + 1,null,body⟩:M) = m
 have h1:=castW_er (clockUp X n.toNat) n.toNat g m X.nodes.length
 generalize castW (clockUp X n.toNat) n.toNat g m X.nodes.length = r at *
 have h2:=castEnd_er r.2 n.toNat m
 generalize castEnd r.2 n.toNat m = t at *
 repeat' split
 all_goals first | exact er0 | exact er1 | exact er2 | exact er3 | exact er4 | exact er5 | exact er7 | assumption
theorem moveR_er (X:Wd) (a b:Nat):Er (moveR X a b).1:=by
 unfold moveR
 have h2:=castEnd_er (comeW X a b ((wireL X a b).getD 0 M.zero) ((wireL X a b).drop 1)) b ((wireL X a b).getD 0 M.zero)
 generalize castEnd (comeW X a b ((wireL X a b).getD 0 M.zero) ((wireL X a b).drop 1)) b ((wireL X a b).getD 0 M.zero) = t at *
 split
 ·first | exact er0 | exact er1 | exact er2 | exact er3 | exact er4 | exact er5 | exact er7
 ·exact h2
theorem wireN_er (a b:Nat):∀ (f:Nat) (X:Wd) (c:Int),Er (wireN a b f X c).1
 | 0,_,_=>er0
 | f + 1,X,c=>by
  unfold wireN
  have h1:=moveR_er X a b
  generalize moveR X a b = r at *
  have h2:=wireN_er a b f r.2 (c + 1)
  repeat' split
  all_goals first | exact er0 | exact er1 | exact er2 | exact er3 | exact er4 | exact er5 | exact er7 | assumption
theorem fold_er {α β:Type} {f:β → α → β} {p:β → Prop} (hf:∀ b a,p b → p (f b a)):∀ (l:List α) (b:β),p b → p (l.foldl f b)
 | [],_,h=>h
 | a :: l,b,h=>fold_er hf l (f b a) (hf b a h)
theorem drainR_er (X:Wd):Er (drainR X).1:=by
 unfold drainR
 refine fold_er (p:=fun r:Int × Int × Wd=>Er r.1) (fun r a hr=>?_) _ _ er0
 refine fold_er (p:=fun r:Int × Int × Wd=>Er r.1) (fun r b hr=>?_) _ _ hr
 unfold drainS
 have h1:=wireN_er a b (wireL r.2.2 a b).length r.2.2 0
 unfold wireR
 repeat' split
 all_goals first | exact er0 | exact er1 | exact er2 | exact er3 | exact er4 | exact er5 | exact er7 | assumption
theorem roundC_er (X:Wd):Er (roundC X).1:=by
 unfold roundC
 refine fold_er (p:=fun r:Int × Wd=>Er r.1) (fun r n hr=>?_) _ _ er0
 refine fold_er (p:=fun r:Int × Wd=>Er r.1) (fun r g hr=>?_) _ _ hr
 unfold roundS
 have h1:=castR_er r.2 n g true ByteArray.empty
 repeat' split
 all_goals assumption
theorem roundR_er (X:Wd):Er (roundR X).1:=by
 unfold roundR
 have h1:=roundC_er X
 generalize roundC X = r at *
 have h2:=drainR_er r.2
 split
 ·exact h2
 ·exact h1
theorem calmN_er:∀ (k:Nat) (r:Int × Int × Wd),Er r.1 → Er (calmN k r).1
 | 0,_,h=>h
 | k + 1,r,h=>by
  unfold calmN
  split
  ·exact calmN_er k _ (roundR_er _)
  ·exact h
theorem calmR_er (X:Wd):Er (calmR X).1:=by
 unfold calmR
 have h:=calmN_er 4 _ (drainR_er X)
 split
 ·first | exact er0 | exact er1 | exact er2 | exact er3 | exact er4 | exact er5 | exact er7
 ·exact h
theorem exec_er {X:Wd} (h:Right X) (c:Cmd):Er (execB X c).1:=by
 have hE:errX X = 0:=h.err
 cases c with
 | send a b body =>
  have h1:castF X a b false (strB body) = castR X a b false (strB body):=if_pos hE
  have h2:=castR_er X a b false (strB body)
  unfold execB
  dsimp only
  rw [h1]
  split
  ·first | exact er0 | exact er1 | exact er2 | exact er3 | exact er4 | exact er5 | exact er7
  ·exact h2
 | null a b =>
  have h1:castF X a b true ByteArray.empty = castR X a b true ByteArray.empty:=if_pos hE
  have h2:=castR_er X a b true ByteArray.empty
  unfold execB
  dsimp only
  rw [h1]
  split
  ·first | exact er0 | exact er1 | exact er2 | exact er3 | exact er4 | exact er5 | exact er7
  ·exact h2
 | move a b =>
  have h2:Er (moveF X a b).1:=by
   have h3:=moveR_er X (a:Int).toNat (b:Int).toNat
   have hn:∀ n:Int,Er (nodeE X n):=fun n=>by
    unfold nodeE
    rw [if_pos hE]
    split
    ·exact er0
    ·exact er4
   have h4:Er (moveE X a b):=by
    unfold moveE
    split
    ·exact hn _
    ·exact hn _
   unfold moveF
   split
   ·exact h3
   ·exact h4
  unfold execB
  dsimp only
  split
  ·first | exact er0 | exact er1 | exact er2 | exact er3 | exact er4 | exact er5 | exact er7
  ·exact h2
 | told a=>unfold execB;dsimp only;split <;> first | exact er0 | exact er1 | exact er2 | exact er3 | exact er4 | exact er5 | exact er7
 | held a=>unfold execB;dsimp only;split <;> first | exact er0 | exact er1 | exact er2 | exact er3 | exact er4 | exact er5 | exact er7
 | calm =>
  have h2:Er (calmF X).1:=by
   unfold calmF
   rw [if_pos hE]
   exact calmR_er X
  unfold execB
  dsimp only
  split
  ·first | exact er0 | exact er1 | exact er2 | exact er3 | exact er4 | exact er5 | exact er7
  ·exact h2
 | bad=>first | exact er0 | exact er1 | exact er2 | exact er3 | exact er4 | exact er5 | exact er7
end Go.Proofs.YtnalakhelicjcaaGreatDoor
