/-
  One step of a right world, in plain words: what a message that comes, or is cast, changes.
-/
import Derived.Test.YtnalakhelicjcaaGreatYKCa
import Derived.Test.YtnalakhelicjcaaGreatYKB3
set_option maxRecDepth 100000
namespace Go.Proofs.YtnalakhelicjcaaGreat
open Go.RowKit
def nd (X:Wd) (n:Nat):N:=X.nodes.getD n N.zero
def heard (X:Wd) (n g k:Nat):Int:=((nd X n).last.getD g []).getD k 0
structure Kept (h t:List M) (m:M) (Y:Wd) (n:Nat):Prop where
 parts:∃ R,(nd Y n).told = t ++ R ∧ R ++ (nd Y n).held = (if m.null = true then h else putM h m) ∧ ∀ x ∈ R,x.stamp ≤ boundX Y n
 left:∀ x ∈ (nd Y n).held,boundX Y n < x.stamp
structure Fin (Z:Wd) (n:Nat) (m:M) (Y:Wd):Prop where
 like:Like Z Y
 wires:Y.wires = Z.wires
 others:∀ k,k ≠ n → nd Y k = nd Z k
 clock:(nd Y n).clock = (nd Z n).clock
 last:(nd Y n).last = (nd Z n).last
 kept:Kept (nd Z n).held (nd Z n).told m Y n
theorem tellW_fin {W:Wd} {n:Nat} (h:Right W) (hn:n < W.nodes.length) :
  (nd (tellW W n) n).clock = (nd W n).clock ∧ (nd (tellW W n) n).last = (nd W n).last ∧ (∃ R,(nd (tellW W n) n).told = (nd W n).told ++ R ∧ R ++ (nd (tellW W n) n).held = (nd W n).held ∧ ∀ x ∈ R,x.stamp ≤ boundX (tellW W n) n) ∧ (∀ x ∈ (nd (tellW W n) n).held,boundX (tellW W n) n < x.stamp) ∧ ∀ k,k ≠ n → nd (tellW W n) k = nd W k:=by
 have ha:nd (tellW W n) n = { nd W n with told:=tellL W n,held:=(nd W n).held.drop (readyX W n).length }:=tellW_at hn
 have hall:=tell_all h hn
 refine ⟨by rw [ha],by rw [ha],⟨readyX W n,by rw [ha];rfl, ?_,fun x hx=>?_⟩,fun x hx=>?_,fun k hk=>?_⟩
 ·have e:(nd W n).told ++ (readyX W n ++ (nd (tellW W n) n).held) = (nd W n).told ++ (nd W n).held:=by
   rw [← List.append_assoc]
   have h2:(nd (tellW W n) n).told = (nd W n).told ++ readyX W n:=by rw [ha];rfl
   rw [← h2]
   exact hall
  exact List.append_cancel_left e
 ·rw [tell_bound hn]
  simpa using (List.mem_filter.1 hx).2
 ·rw [tell_bound hn]
  exact tell_left h hn x hx
 ·unfold nd
  rw [tellW_set,nodeSet_ne (Ne.symm hk)]
theorem castEnd_fin {Z:Wd} {n:Nat} {m:M} (h:Right Z) (hn:n < Z.nodes.length) (hm:msgE Z.nodes.length Z.groups m = 0 ∧ hasB Z.groups m.grp n = true) (he:(castEnd Z n m).1 = 0):Fin Z n m (castEnd Z n m).2:=by
 have hE:=castEnd_ok h hn hm he
 cases hnull:m.null
 ·rw [castEnd_hold hnull] at he hE ⊢
  split at he
  ·rename_i h6
   exact absurd he h6
  rename_i h6
  rw [if_neg h6] at hE ⊢
  split at he
  ·rename_i h7
   exact absurd he h7
  rename_i h7
  rw [if_neg h7] at hE ⊢
  have h6:putE (Z.nodes.getD n N.zero).held m = 0:=by simpa using h6
  have hN:=h.node n hn
  have hHl:(holdW Z n m).nodes.length = Z.nodes.length:=by rw [holdW_set,nodeSet_len]
  have hH:Right (holdW Z n m):=by
   rw [holdW_set]
   exact h.setNode hn ⟨hN.clock,hN.len,hN.rows,hN.cells,putL_right hN.held h6 ⟨hnull,hm.1,hm.2⟩,hN.told⟩
  have hA:nd (holdW Z n m) n = { nd Z n with held:=putM (nd Z n).held m }:=by
   have:=(holdW_at (X:=Z) (m:=m) hn).2
   rw [(putE_zero h6).2.2.2] at this
   exact this
  obtain ⟨t1,t2,⟨R,r1,r2,r3⟩,t4,t5⟩:=tellW_fin hH (by rw [hHl];exact hn)
  refine ⟨hE.like,hE.wires,fun k hk=>?_,by rw [show (nd _ n).clock = _ from t1,hA],by rw [show (nd _ n).last = _ from t2,hA],⟨R, ?_, ?_,r3⟩,t4⟩
  ·rw [show nd _ k = _ from t5 k hk]
   unfold nd
   rw [holdW_set,nodeSet_ne (Ne.symm hk)]
  ·rw [show (nd _ n).told = _ from r1,hA]
  ·rw [show R ++ (nd _ n).held = _ from r2,hA,hnull]
   rfl
 ·rw [castEnd_null hnull] at he hE ⊢
  split at he
  ·rename_i h7
   exact absurd he h7
  rename_i h7
  rw [if_neg h7] at hE ⊢
  obtain ⟨t1,t2,⟨R,r1,r2,r3⟩,t4,t5⟩:=tellW_fin h hn
  exact ⟨hE.like,hE.wires,t5,t1,t2,⟨R,r1,by rw [if_pos hnull];exact r2,r3⟩,t4⟩
structure Mv (X:Wd) (a b:Nat) (m:M) (Y:Wd):Prop where
 at_:a < X.nodes.length ∧ b < X.nodes.length ∧ a ≠ b
 like:Like X Y
 first:∃ l,wireL X a b = m :: l ∧ wireL Y a b = l
 wires:∀ c d, ¬ (c = a ∧ d = b) → wireL Y c d = wireL X c d
 others:∀ k,k ≠ b → nd Y k = nd X k
 clock:(nd Y b).clock = max (nd X b).clock m.stamp
 hrd:∀ g k,g < X.groups.length → k < X.nodes.length → heard Y b g k = if (g:Int) = m.grp ∧ k = a then max (heard X b g k) m.stamp else heard X b g k
 kept:Kept (nd X b).held (nd X b).told m Y b
theorem moveR_mv {X:Wd} (h:Right X) {a b:Nat} (ha:a < X.nodes.length) (hb:b < X.nodes.length) (he:(moveR X a b).1 = 0):∃ m,Mv X a b m (moveR X a b).2:=by
 cases hl:wireL X a b with
 | nil =>
  unfold moveR at he
  rw [hl,if_pos (show ([]:List M).length = 0 from rfl)] at he
  cases he
 | cons m l =>
  refine ⟨m, ?_⟩
  have hW:=h.wire a b ha hb
  have hab:a ≠ b:=hW.self.resolve_right (by rw [hl];simp)
  have hr:moveR X a b = castEnd (comeW X a b m l) b m:=by
   unfold moveR
   rw [hl,if_neg (by simp)]
   rfl
  rw [hr] at he ⊢
  have hZ:=comeW_right h ha hb hl
  have hf:=hW.fine m (by rw [hl];exact List.mem_cons_self ..)
  have hZl:(comeW X a b m l).nodes.length = X.nodes.length:=by simp [comeW]
  have hZg:(comeW X a b m l).groups = X.groups:=rfl
  have hZn:nd (comeW X a b m l) b = { nd X b with clock:=max (nd X b).clock m.stamp,last:=(nd X b).last.set m.grp.toNat (((nd X b).last.getD m.grp.toNat []).set a (max (((nd X b).last.getD m.grp.toNat []).getD a 0) m.stamp)) }:=getD_set_eq _ _ _ hb
  have hF:=castEnd_fin hZ (by rw [hZl];exact hb) (by rw [hZl,hZg];exact hf) he
  have hwp:∀ c d,wireL (castEnd (comeW X a b m l) b m).2 c d = wireL (wirePut X a b l) c d:=fun c d=>by
   unfold wireL
   rw [hF.wires]
   rfl
  have hgr:=rightE_in hf.1
  have hN:=h.node b hb
  have hK:=hF.kept
  rw [hZn] at hK
  refine ⟨⟨ha,hb,hab⟩,⟨hF.like.right,by rw [hF.like.len,hZl],by rw [hF.like.groups,hZg]⟩,⟨l,hl, ?_⟩,fun c d hcd=>?_,fun k hk=>?_,by rw [hF.clock,hZn],fun g k hg hk=>?_,hK⟩
  ·rw [hwp,wirePut_at (by rw [h.nw];exact ha) (by rw [h.row a ha];exact hb)]
  ·rw [hwp,wirePut_ne (fun e=>hcd ⟨e.1.symm,e.2.symm⟩)]
  ·rw [hF.others k hk]
   exact getD_set_ne' _ _ _ (Ne.symm hk)
  ·unfold heard
   rw [hF.last,hZn]
   have hq:m.grp.toNat < (nd X b).last.length:=by have hl:=hN.len;unfold nd;rw [hl];have:=hgr.1;obtain ⟨_,_,h1,h2,_⟩:=this;omega
   have hrow:=hN.rows g hg
   by_cases e:m.grp.toNat = g
   ·rw [e,getD_set_eq _ _ _ (by rw [← e];exact hq)]
    have eg:(g:Int) = m.grp:=by obtain ⟨_,_,h1,_⟩:=hgr.1;omega
    by_cases e2:a = k
    ·rw [e2,getD_set_eq _ _ _ (by rw [show (nd X b).last = (X.nodes.getD b N.zero).last from rfl,hrow];exact hk),if_pos ⟨eg,rfl⟩]
    ·rw [getD_set_ne' _ _ _ e2,if_neg (fun h=>e2 h.2.symm)]
   ·rw [getD_set_ne' _ _ _ e,if_neg (fun h=>e (by omega))]
structure Sn (X:Wd) (n:Nat) (m:M) (Y:Wd):Prop where
 at_:n < X.nodes.length
 src:m.src = (n:Int)
 stamp:m.stamp = (nd X n).clock + 1
 fine:msgE X.nodes.length X.groups m = 0
 mem:hasB X.groups m.grp n = true
 like:Like X Y
 wires:∀ a b,a < X.nodes.length → b < X.nodes.length → wireL Y a b = if a = n ∧ b ≠ n ∧ hasB X.groups m.grp b = true then wireL X a b ++ [m] else wireL X a b
 others:∀ k,k ≠ n → nd Y k = nd X k
 clock:(nd Y n).clock = (nd X n).clock + 1
 last:(nd Y n).last = (nd X n).last
 kept:Kept (nd X n).held (nd X n).told m Y n
theorem castR_sn {X:Wd} (hR:Right X) {n g:Int} {null:Bool} {body:ByteArray} (hb:null = true → body = ByteArray.empty) (h:(castR X n g null body).1 = 0) :
  ∃ k:Nat,n = (k:Int) ∧ Sn X k ⟨k,g,(nd X k).clock + 1,null,body⟩ (castR X n g null body).2:=by
 have hLk:=castR_like hR hb h
 unfold castR at h hLk ⊢
 split at h
 rotate_left
 ·cases h
 rename_i h1
 rw [if_pos h1] at hLk ⊢
 split at h
 rotate_left
 ·cases h
 rename_i h2
 rw [if_pos h2] at hLk ⊢
 split at h
 ·cases h
 rename_i h3
 rw [if_neg h3] at hLk ⊢
 split at h
 ·cases h
 rename_i h4
 rw [if_neg h4] at hLk ⊢
 simp only [inB,Bool.and_eq_true,decide_eq_true_eq] at h1
 obtain ⟨k,rfl⟩:=Int.eq_ofNat_of_zero_le h1.1.1
 rw [Int.toNat_natCast] at h h4 hLk ⊢
 have hk:k < X.nodes.length:=by omega
 have hNk:=hR.node k hk
 have hU:Right (clockUp X k):=by
  rw [clockUp_set]
  refine hR.setNode hk ⟨?_,hNk.len,hNk.rows,hNk.cells,hNk.held,hNk.told⟩
  have:=hNk.clock
  show 0 ≤ (X.nodes.getD k N.zero).clock + 1 ∧ (X.nodes.getD k N.zero).clock + 1 ≤ 1048576
  omega
 have hUl:(clockUp X k).nodes.length = X.nodes.length:=by rw [clockUp_set,nodeSet_len]
 have hUn:nd (clockUp X k) k = { nd X k with clock:=(nd X k).clock + 1 }:=by
  unfold nd
  rw [clockUp_set,nodeSet_at hk]
 obtain ⟨m,hm⟩:∃ m:M,m = ⟨(k:Int),g,(X.nodes.getD k N.zero).clock + 1,null,body⟩:=⟨_,rfl⟩
 have hmE:msgE X.nodes.length X.groups m = 0:=by
  unfold msgE
  rw [if_pos hR.grp,hm]
  have:=hNk.clock
  have hin:inRange X.nodes.length X.groups ⟨(k:Int),g,(X.nodes.getD k N.zero).clock + 1,null,body⟩:=by
   refine ⟨?_, ?_, ?_, ?_, ?_, ?_⟩
   ·show (0:Int) ≤ k;omega
   ·show (k:Int) < _;omega
   ·show 0 ≤ g;omega
   ·show g < _;omega
   ·show 1 ≤ (X.nodes.getD k N.zero).clock + 1;omega
   ·show (X.nodes.getD k N.zero).clock + 1 ≤ 1048576;omega
  cases hn:null
  ·rw [hn] at hin
   exact rightE_0a hin h2 h3 rfl
  ·rw [hn] at hin
   refine rightE_0b hin h2 h3 ?_
   show body.toList.isEmpty = true
   rw [hb hn]
   decide +kernel
 have hC:CastR (clockUp X k) k g m:=⟨by rw [hUl];exact hk,by rw [hm],by rw [hm],by rw [hUl];exact hmE⟩
 simp only [← hm] at h hLk ⊢
 split at h
 rotate_left
 ·rename_i h5
  exact absurd h h5
 rename_i h5
 rw [if_pos h5] at hLk ⊢
 obtain ⟨Y,hY⟩:∃ Y,castW (clockUp X k) k g m X.nodes.length = (0,Y):=⟨_,Prod.ext h5 rfl⟩
 obtain ⟨r1,r2,r3,r4⟩:=castW_ok hC hU X.nodes.length Y (by rw [hUl];exact Nat.le_refl _) hY
 rw [hY] at h hLk ⊢
 dsimp only at h hLk ⊢
 have hYl:Y.nodes.length = X.nodes.length:=by rw [r2,hUl]
 have hYg:Y.groups = X.groups:=r3
 have hmg:m.grp = g:=by rw [hm]
 have hYn:∀ j,nd Y j = nd (clockUp X k) j:=fun j=>by unfold nd;rw [r2]
 have hF:=castEnd_fin r1 (by rw [hYl];exact hk) (by rw [hYl,hYg];exact ⟨hmE,by rw [hmg];exact h2⟩) h
 have hK:=hF.kept
 rw [hYn,hUn] at hK
 refine ⟨k,rfl, ?_⟩
 rw [show (⟨(k:Int),g,(nd X k).clock + 1,null,body⟩:M) = m from hm.symm]
 refine ⟨hk,by rw [hm],by rw [hm];rfl,hmE,by rw [hmg];exact h2,hLk,fun a b ha hb'=>?_,fun j hj=>?_,by rw [hF.clock,hYn,hUn],by rw [hF.last,hYn,hUn],hK⟩
 ·have e:wireL (castEnd Y k m).2 a b = wireL Y a b:=by unfold wireL;rw [hF.wires]
  rw [e,r4,hmg]
  unfold castL
  show (if a = k ∧ b < X.nodes.length ∧ (b == k || !hasB X.groups g b) = false then wireL X a b ++ [m] else wireL X a b) = _
  congr 1
  simp [hb']
 ·rw [hF.others j hj,hYn]
  exact getD_set_ne' _ _ _ (Ne.symm hj)
inductive Step (X Y:Wd):Prop where
 | move {a b:Nat} {m:M} (h:Mv X a b m Y):Step X Y
 | cast {n:Nat} {m:M} (h:Sn X n m Y):Step X Y
theorem Step.like {X Y:Wd} (h:Step X Y):Like X Y:=by
 cases h with
 | move h=>exact h.like
 | cast h=>exact h.like
end Go.Proofs.YtnalakhelicjcaaGreat
