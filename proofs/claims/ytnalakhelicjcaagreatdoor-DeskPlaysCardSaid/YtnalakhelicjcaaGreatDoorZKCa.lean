/-
  Casting, emptying wires, rounds: what comes of a right world is right.
  Draining, rounds, in steps.
  Rounds, group by group of a node's.
  Draining, rounds, calm: errors too; in plain words.
-/
import Derived.Test.YtnalakhelicjcaaGreatDoorZKV
import Derived.Test.YtnalakhelicjcaaGreatDoorZKD
import Derived.Test.YtnalakhelicjcaaGreatDoorZKT
set_option maxRecDepth 100000
namespace Go.Proofs.YtnalakhelicjcaaGreatDoor
open Go.RowKit
structure Like (X Y:Wd):Prop where
 right:Right Y
 len:Y.nodes.length = X.nodes.length
 groups:Y.groups = X.groups
theorem Like.refl {X:Wd} (h:Right X):Like X X:=⟨h,rfl,rfl⟩
theorem Like.trans {X Y Z:Wd} (h:Like X Y) (k:Like Y Z):Like X Z:=⟨k.right,k.len.trans h.len,k.groups.trans h.groups⟩
theorem Ended.like {Z Y:Wd} {n:Nat} {m:M} (h:Ended Z n m Y):Like Z Y:=⟨h.right,h.len,h.groups⟩
theorem Moved.like {X Y:Wd} {a b:Nat} {m:M} (h:Moved X a b m Y):Like X Y:=⟨h.right,h.len,h.groups⟩
theorem castR_like {X:Wd} (hR:Right X) {n g:Int} {null:Bool} {body:ByteArray} (hb:null = true → body = ByteArray.empty) (h:(castR X n g null body).1 = 0):Like X (castR X n g null body).2:=by
 unfold castR at h ⊢
 split at h
 rotate_left
 ·cases h
 rename_i h1
 rw [if_pos h1]
 split at h
 rotate_left
 ·cases h
 rename_i h2
 rw [if_pos h2]
 split at h
 ·cases h
 rename_i h3
 rw [if_neg h3]
 split at h
 ·cases h
 rename_i h4
 rw [if_neg h4]
 simp only [inB,Bool.and_eq_true,decide_eq_true_eq] at h1
 obtain ⟨k,rfl⟩:=Int.eq_ofNat_of_zero_le h1.1.1
 rw [Int.toNat_natCast] at h h4 ⊢
 have hk:k < X.nodes.length:=by omega
 have hNk:=hR.node k hk
 have hU:Right (clockUp X k):=by
  rw [clockUp_set]
  refine hR.setNode hk ⟨?_,hNk.len,hNk.rows,hNk.cells,hNk.held,hNk.told⟩
  have:=hNk.clock
  show 0 ≤ (X.nodes.getD k N.zero).clock + 1 ∧ (X.nodes.getD k N.zero).clock + 1 ≤ 1048576
  omega
 have hUl:(clockUp X k).nodes.length = X.nodes.length:=by rw [clockUp_set,nodeSet_len]
 obtain ⟨m,hm⟩:∃ m:M,m = ⟨(k:Int),g,(X.nodes.getD k N.zero).clock + 1,null,body⟩:=⟨_,rfl⟩
 have hmE:msgE X.nodes.length X.groups m = 0:=by
  unfold msgE
  rw [if_pos hR.grp,hm]
  have:=hNk.clock
  have hin:inRange X.nodes.length X.groups ⟨(k:Int),g,(X.nodes.getD k N.zero).clock + 1,null,body⟩:=by
   refine ⟨?_, ?_, ?_, ?_, ?_, ?_⟩
   ·show (0:Int) ≤ k;omega
   ·show (k:Int) < _;omega
   ·show 0 ≤ g;omega
   ·show g < _;omega
   ·show 1 ≤ (X.nodes.getD k N.zero).clock + 1;omega
   ·show (X.nodes.getD k N.zero).clock + 1 ≤ 1048576;omega
  cases hn:null
  ·rw [hn] at hin
   exact rightE_0a hin h2 h3 rfl
  ·rw [hn] at hin
   refine rightE_0b hin h2 h3 ?_
   show body.toList.isEmpty = true
   rw [hb hn]
   decide +kernel
 have hC:CastR (clockUp X k) k g m:=⟨by rw [hUl];exact hk,by rw [hm],by rw [hm],by rw [hUl];exact hmE⟩
 simp only [← hm] at h ⊢
 split at h
 rotate_left
 ·rename_i h5
  exact absurd h h5
 rename_i h5
 rw [if_pos h5]
 obtain ⟨Y,hY⟩:∃ Y,castW (clockUp X k) k g m X.nodes.length = (0,Y):=⟨_,Prod.ext h5 rfl⟩
 obtain ⟨r1,r2,r3,r4⟩:=castW_ok hC hU X.nodes.length Y (by rw [hUl];exact Nat.le_refl _) hY
 rw [hY] at h ⊢
 dsimp only at h ⊢
 have hYl:Y.nodes.length = X.nodes.length:=by rw [r2,hUl]
 have hYg:Y.groups = X.groups:=r3
 have hE:=castEnd_ok r1 (by rw [hYl];exact hk) (by rw [hYl,hYg];exact ⟨hmE,by rw [hm];exact h2⟩) h
 exact ⟨hE.right,by rw [hE.len,hYl],by rw [hE.groups,hYg]⟩
theorem wireN_like {a b:Nat}:∀ (f:Nat) {X:Wd} (c:Int),Right X → a < X.nodes.length → b < X.nodes.length → (wireL X a b).length = f → (wireN a b f X c).1 = 0 →
  Like X (wireN a b f X c).2.2 ∧ (wireN a b f X c).2.1 = c + f ∧ wireL (wireN a b f X c).2.2 a b = []
 | 0,X,c,hR,_,_,hl,_=>⟨Like.refl hR,by show c = c + (0:Nat);simp,List.eq_nil_of_length_eq_zero hl⟩
 | f + 1,X,c,hR,ha,hb,hl,h=>by
  unfold wireN at h ⊢
  rw [if_neg (by omega)] at h ⊢
  split at h
  rotate_left
  ·rename_i h1
   exact absurd h h1
  rename_i h1
  rw [if_pos h1]
  obtain ⟨m,l,hml,hM⟩:=moveR_ok hR ha hb h1
  have hw:=moveR_wire hR ha hb h1
  obtain ⟨k1,k2,k3⟩:=wireN_like f (c + 1) hM.right (by rw [hM.len];exact ha) (by rw [hM.len];exact hb) (by rw [hw,List.length_drop,hl];rfl) h
  exact ⟨hM.like.trans k1,by rw [k2];omega,k3⟩
theorem wireR_like {a b:Nat} {X:Wd} (hR:Right X) (ha:a < X.nodes.length) (hb:b < X.nodes.length) (h:(wireR X a b).1 = 0) :
  Like X (wireR X a b).2.2 ∧ 0 ≤ (wireR X a b).2.1 ∧ (wireR X a b).2.1 ≤ 40 ∧ wireL (wireR X a b).2.2 a b = []:=by
 obtain ⟨h1,h2,h3⟩:=wireN_like _ 0 hR ha hb rfl h
 have:=(hR.wire a b ha hb).many
 unfold wireR at *
 exact ⟨h1,by rw [h2];omega,by rw [h2];omega,h3⟩
end Go.Proofs.YtnalakhelicjcaaGreatDoor
set_option maxRecDepth 100000
namespace Go.Proofs.YtnalakhelicjcaaGreatDoor
open Go.RowKit
theorem foldl_stop {α σ:Type} (f:σ → α → σ) (p:σ → Prop) (h:∀ s a,p s → f s a = s):∀ (l:List α) (s:σ),p s → l.foldl f s = s
 | [],_,_=>rfl
 | a :: l,s,hs=>by rw [List.foldl_cons,h s a hs];exact foldl_stop f p h l s hs
theorem foldl_range_stop {σ:Type} (f:σ → Nat → σ) (p:σ → Prop) (h:∀ s a,p s → f s a = s) {n m:Nat} (hnm:n ≤ m) (s:σ) (hp:p ((List.range n).foldl f s)):(List.range m).foldl f s = (List.range n).foldl f s:=by
 obtain ⟨d,rfl⟩:=Nat.exists_eq_add_of_le hnm
 rw [List.range_add,List.foldl_append,List.foldl_map]
 exact foldl_stop _ p (fun s a hs=>h s _ hs) _ _ hp
theorem foldl_range_succ {σ:Type} (f:σ → Nat → σ) (n:Nat) (s:σ):(List.range (n + 1)).foldl f s = f ((List.range n).foldl f s) n:=by
 rw [List.range_succ,List.foldl_append]
 rfl
theorem drainS_stop {a b:Nat} {r:Int × Int × Wd} (h:r.1 ≠ 0):drainS a b r = r:=if_neg h
def drA (X:Wd) (a:Nat):Int × Int × Wd:=(List.range a).foldl (fun r a=>(List.range X.nodes.length).foldl (fun r b=>drainS a b r) r) (0,0,X)
def drB (X:Wd) (a b:Nat):Int × Int × Wd:=(List.range b).foldl (fun r b=>drainS a b r) (drA X a)
theorem drA_zero (X:Wd):drA X 0 = (0,0,X):=rfl
theorem drB_zero (X:Wd) (a:Nat):drB X a 0 = drA X a:=rfl
theorem drB_succ (X:Wd) (a b:Nat):drB X a (b + 1) = drainS a b (drB X a b):=foldl_range_succ _ _ _
theorem drA_succ (X:Wd) (a:Nat):drA X (a + 1) = drB X a X.nodes.length:=foldl_range_succ _ _ _
theorem drain_eq (X:Wd):drainR X = drA X X.nodes.length:=rfl
theorem drB_stop {X:Wd} {a b:Nat} (ha:a < X.nodes.length) (hb:b ≤ X.nodes.length) (h:(drB X a b).1 ≠ 0):drainR X = drB X a b:=by
 have h1:drA X (a + 1) = drB X a b:=by
  rw [drA_succ]
  exact foldl_range_stop _ (fun r:Int × Int × Wd=>r.1 ≠ 0) (fun r b hr=>drainS_stop hr) hb _ h
 rw [drain_eq, ← h1]
 refine foldl_range_stop _ (fun r:Int × Int × Wd=>r.1 ≠ 0) (fun r a hr=>?_) (by omega) _ (by have:=h;rw [← h1] at this;exact this)
 exact foldl_stop _ (fun r:Int × Int × Wd=>r.1 ≠ 0) (fun r b hr=>drainS_stop hr) _ _ hr
theorem drainS_like {X Y:Wd} {a b:Nat} {n:Int} (hL:Like X Y) (ha:a < X.nodes.length) (hb:b < X.nodes.length) (h:(wireR Y a b).1 = 0) :
  drainS a b (0,n,Y) = (0,n + (wireR Y a b).2.1,(wireR Y a b).2.2) ∧ Like X (wireR Y a b).2.2 ∧ 0 ≤ (wireR Y a b).2.1 ∧ (wireR Y a b).2.1 ≤ 40:=by
 obtain ⟨h1,h2,h3,_⟩:=wireR_like hL.right (by rw [hL.len];exact ha) (by rw [hL.len];exact hb) h
 refine ⟨?_,hL.trans h1,h2,h3⟩
 show (if (0:Int) = 0 then if (wireR Y a b).1 = 0 then _ else _ else _) = _
 rw [if_pos rfl,if_pos h]
theorem drainS_bad {Y:Wd} {a b:Nat} {n:Int} (h:(wireR Y a b).1 ≠ 0):drainS a b (0,n,Y) = ((wireR Y a b).1,0,Wd.none):=by
 show (if (0:Int) = 0 then if (wireR Y a b).1 = 0 then _ else _ else _) = _
 rw [if_pos rfl,if_neg h]
theorem drB_like {X:Wd} (hR:Right X) {a:Nat} (ha:a < X.nodes.length) (h0:(drA X a).1 = 0 → Like X (drA X a).2.2 ∧ 0 ≤ (drA X a).2.1 ∧ (drA X a).2.1 ≤ 40 * (a * X.nodes.length:Nat)) :
  ∀ b,b ≤ X.nodes.length → (drB X a b).1 = 0 → Like X (drB X a b).2.2 ∧ 0 ≤ (drB X a b).2.1 ∧ (drB X a b).2.1 ≤ 40 * (a * X.nodes.length + b:Nat)
 | 0,_,h=>by rw [drB_zero] at h ⊢;simpa using h0 h
 | b + 1,hb,h=>by
  rw [drB_succ] at h ⊢
  have h1:(drB X a b).1 = 0:=by
   rcases Classical.em ((drB X a b).1 = 0) with e | e
   ·exact e
   ·rw [drainS_stop e] at h;exact h
  obtain ⟨k1,k2,k3⟩:=drB_like hR ha h0 b (by omega) h1
  obtain ⟨n,Y,hnY⟩:∃ n Y,drB X a b = (0,n,Y):=⟨_,_,Prod.ext h1 rfl⟩
  rw [hnY] at h k1 k2 k3 ⊢
  have h2:(wireR Y a b).1 = 0:=by
   rcases Classical.em ((wireR Y a b).1 = 0) with e | e
   ·exact e
   ·rw [drainS_bad e] at h;exact absurd h e
  obtain ⟨e,l1,l2,l3⟩:=drainS_like (n:=n) k1 ha (by omega) h2
  rw [e]
  refine ⟨l1,by show 0 ≤ n + _;have:0 ≤ n:=k2;omega, ?_⟩
  show n + _ ≤ _
  have:n ≤ 40 * (a * X.nodes.length + b:Nat):=k3
  omega
theorem drA_like {X:Wd} (hR:Right X):∀ a,a ≤ X.nodes.length → (drA X a).1 = 0 → Like X (drA X a).2.2 ∧ 0 ≤ (drA X a).2.1 ∧ (drA X a).2.1 ≤ 40 * (a * X.nodes.length:Nat)
 | 0,_,_=>by rw [drA_zero];exact ⟨Like.refl hR,Int.le_refl _,by simp⟩
 | a + 1,ha,h=>by
  rw [drA_succ] at h ⊢
  have:=drB_like hR (by omega) (drA_like hR a (by omega)) X.nodes.length (Nat.le_refl _) h
  rw [show (a + 1) * X.nodes.length = a * X.nodes.length + X.nodes.length by rw [Nat.add_mul,Nat.one_mul]]
  exact this
theorem drainR_like {X:Wd} (hR:Right X) (h:(drainR X).1 = 0):Like X (drainR X).2.2 ∧ 0 ≤ (drainR X).2.1 ∧ (drainR X).2.1 ≤ 640:=by
 rw [drain_eq] at h ⊢
 obtain ⟨h1,h2,h3⟩:=drA_like hR X.nodes.length (Nat.le_refl _) h
 have h4:=(errX_fit hR.err).nodes
 have:X.nodes.length * X.nodes.length ≤ 4 * 4:=Nat.mul_le_mul h4 h4
 exact ⟨h1,h2,by omega⟩
theorem roundS_stop {n g:Nat} {r:Int × Wd} (h:r.1 ≠ 0):roundS n g r = r:=if_neg h
def rdA (X:Wd) (n:Nat):Int × Wd:=(List.range n).foldl (fun r n=>(List.range X.groups.length).foldl (fun r g=>roundS n g r) r) (0,X)
def rdB (X:Wd) (n g:Nat):Int × Wd:=(List.range g).foldl (fun r g=>roundS n g r) (rdA X n)
theorem rdA_zero (X:Wd):rdA X 0 = (0,X):=rfl
theorem rdB_zero (X:Wd) (n:Nat):rdB X n 0 = rdA X n:=rfl
theorem rdB_succ (X:Wd) (n g:Nat):rdB X n (g + 1) = roundS n g (rdB X n g):=foldl_range_succ _ _ _
theorem rdA_succ (X:Wd) (n:Nat):rdA X (n + 1) = rdB X n X.groups.length:=foldl_range_succ _ _ _
theorem round_eq (X:Wd):roundC X = rdA X X.nodes.length:=rfl
theorem rdB_stop {X:Wd} {n g:Nat} (hn:n < X.nodes.length) (hg:g ≤ X.groups.length) (h:(rdB X n g).1 ≠ 0):roundC X = rdB X n g:=by
 have h1:rdA X (n + 1) = rdB X n g:=by
  rw [rdA_succ]
  exact foldl_range_stop _ (fun r:Int × Wd=>r.1 ≠ 0) (fun r b hr=>roundS_stop hr) hg _ h
 rw [round_eq, ← h1]
 refine foldl_range_stop _ (fun r:Int × Wd=>r.1 ≠ 0) (fun r a hr=>?_) (by omega) _ (by have:=h;rw [← h1] at this;exact this)
 exact foldl_stop _ (fun r:Int × Wd=>r.1 ≠ 0) (fun r b hr=>roundS_stop hr) _ _ hr
theorem roundS_do {Y:Wd} {n g:Nat}:roundS n g (0,Y) = if hasB Y.groups g n = true then castR Y n g true ByteArray.empty else (0,Y):=if_pos rfl
theorem roundS_like {X Y:Wd} {n g:Nat} (hL:Like X Y) (h:(roundS n g (0,Y)).1 = 0):Like X (roundS n g (0,Y)).2:=by
 rw [roundS_do] at h ⊢
 split at h
 ·rename_i h1
  rw [if_pos h1]
  exact hL.trans (castR_like hL.right (fun _=>rfl) h)
 ·rename_i h1
  rw [if_neg h1]
  exact hL
theorem rdB_like {X:Wd} {n:Nat} (h0:(rdA X n).1 = 0 → Like X (rdA X n).2):∀ g,(rdB X n g).1 = 0 → Like X (rdB X n g).2
 | 0,h=>h0 h
 | g + 1,h=>by
  rw [rdB_succ] at h ⊢
  have h1:(rdB X n g).1 = 0:=by
   rcases Classical.em ((rdB X n g).1 = 0) with e | e
   ·exact e
   ·rw [roundS_stop e] at h;exact h
  have k1:=rdB_like h0 g h1
  obtain ⟨Y,hnY⟩:∃ Y,rdB X n g = (0,Y):=⟨_,Prod.ext h1 rfl⟩
  rw [hnY] at h k1 ⊢
  exact roundS_like k1 h
theorem rdA_like {X:Wd} (hR:Right X):∀ n,(rdA X n).1 = 0 → Like X (rdA X n).2
 | 0,_=>Like.refl hR
 | n + 1,h=>by
  rw [rdA_succ] at h ⊢
  exact rdB_like (rdA_like hR n) _ h
theorem roundR_like {X:Wd} (hR:Right X) (h:(roundR X).1 = 0):Like X (roundR X).2.2 ∧ 0 ≤ (roundR X).2.1 ∧ (roundR X).2.1 ≤ 640:=by
 unfold roundR at h ⊢
 split at h
 ·rename_i h1
  rw [if_pos h1]
  have hL:=rdA_like hR X.nodes.length h1
  obtain ⟨k1,k2,k3⟩:=drainR_like hL.right h
  exact ⟨hL.trans k1,k2,k3⟩
 ·rename_i h1
  exact absurd h h1
end Go.Proofs.YtnalakhelicjcaaGreatDoor
set_option maxRecDepth 100000
namespace Go.Proofs.YtnalakhelicjcaaGreatDoor
open Go.RowKit
def ofL (X:Wd) (n:Nat):List Int:=both X.groups [(n:Int)] X.groups.length
theorem both_has {xs:List Int} {n:Int} {k:Nat} {x:Int} (h:x ∈ both xs [n] k):hasB xs x n = true:=by
 unfold both at h
 rw [List.mem_map] at h
 obtain ⟨j,hj,rfl⟩:=h
 have:=(List.mem_filter.1 hj).2
 simpa using this
def rdL (X:Wd) (n t:Nat):Int × Wd:=((ofL X n).take t).foldl (fun r g=>roundS n g.toNat r) (rdA X n)
theorem rdL_zero (X:Wd) (n:Nat):rdL X n 0 = rdA X n:=rfl
theorem rdL_succ {X:Wd} {n t:Nat} (ht:t < (ofL X n).length):rdL X n (t + 1) = roundS n ((ofL X n).getD t 0).toNat (rdL X n t):=by
 unfold rdL
 rw [List.take_succ_eq_append_getElem ht,List.foldl_append,getD_lt _ 0 ht]
 rfl
theorem rdB_both {X:Wd} (hR:Right X) (n:Nat):∀ j,j ≤ X.groups.length → rdB X n j = (both X.groups [(n:Int)] j).foldl (fun r g=>roundS n g.toNat r) (rdA X n)
 | 0,_=>rfl
 | j + 1,hj=>by
  have ih:=rdB_both hR n j (by omega)
  rw [rdB_succ]
  cases h:hasB X.groups (j:Int) n
  ·rw [both_miss (by simp [h]), ← ih]
   by_cases h0:(rdB X n j).1 = 0
   ·have hL:=rdB_like (rdA_like hR n) j h0
    unfold roundS
    rw [if_pos h0,hL.groups,h,if_neg (by simp)]
   ·exact roundS_stop h0
  ·rw [both_hit (by simp [h]),List.foldl_append, ← ih]
   simp
theorem rdL_all {X:Wd} (hR:Right X) (n:Nat):rdL X n (ofL X n).length = rdA X (n + 1):=by
 rw [rdA_succ,rdB_both hR n _ (Nat.le_refl _)]
 unfold rdL
 rw [List.take_length]
 rfl
theorem foldl_take_stop {α σ:Type} (f:σ → α → σ) (p:σ → Prop) (h:∀ s a,p s → f s a = s) (l:List α) (t:Nat) (s:σ) (hp:p ((l.take t).foldl f s)):l.foldl f s = (l.take t).foldl f s:=by
 have e:l.foldl f s = (l.drop t).foldl f ((l.take t).foldl f s):=by rw [← List.foldl_append,List.take_append_drop]
 rw [e]
 exact foldl_stop f p h _ _ hp
theorem rdL_stop {X:Wd} (hR:Right X) {n t:Nat} (hn:n < X.nodes.length) (h:(rdL X n t).1 ≠ 0):roundC X = rdL X n t:=by
 have h1:rdA X (n + 1) = rdL X n t:=by
  rw [← rdL_all hR]
  unfold rdL
  rw [List.take_length]
  exact foldl_take_stop _ (fun r:Int × Wd=>r.1 ≠ 0) (fun r b hr=>roundS_stop hr) _ _ _ h
 rw [round_eq, ← h1]
 refine foldl_range_stop _ (fun r:Int × Wd=>r.1 ≠ 0) (fun r a hr=>?_) (by omega) _ (by have:=h;rw [← h1] at this;exact this)
 exact foldl_stop _ (fun r:Int × Wd=>r.1 ≠ 0) (fun r b hr=>roundS_stop hr) _ _ hr
theorem rdL_step {X Y:Wd} {n t:Nat} (hL:Like X Y) (ht:t < (ofL X n).length) (h:rdL X n t = (0,Y)):rdL X n (t + 1) = castR Y n ((ofL X n).getD t 0) true ByteArray.empty:=by
 have hm:=getD_mem (ofL X n) 0 ht
 have h1:=both_has hm
 have h2:=both_mem hm
 rw [rdL_succ ht,h,roundS_do]
 rw [show (((ofL X n).getD t 0).toNat:Int) = (ofL X n).getD t 0 by omega,hL.groups,if_pos h1]
theorem rdL_like {X:Wd} (hR:Right X) {n:Nat}:∀ t,(rdL X n t).1 = 0 → Like X (rdL X n t).2
 | 0,h=>rdA_like hR n h
 | t + 1,h=>by
  by_cases ht:t < (ofL X n).length
  ·have h1:(rdL X n t).1 = 0:=by
    rcases Classical.em ((rdL X n t).1 = 0) with e | e
    ·exact e
    ·rw [rdL_succ ht,roundS_stop e] at h;exact h
   have k1:=rdL_like hR t h1
   obtain ⟨Y,hY⟩:∃ Y,rdL X n t = (0,Y):=⟨_,Prod.ext h1 rfl⟩
   rw [hY] at k1
   rw [rdL_step k1 ht hY] at h ⊢
   exact k1.trans (castR_like k1.right (fun _=>rfl) h)
  ·have e:rdL X n (t + 1) = rdL X n t:=by
    unfold rdL
    rw [List.take_of_length_le (by omega),List.take_of_length_le (by omega)]
   rw [e] at h ⊢
   exact rdL_like hR t h
theorem roundR_ok {X Y:Wd} (h:roundC X = (0,Y)):roundR X = drainR Y:=by
 unfold roundR
 rw [h,if_pos rfl]
theorem roundR_bad {X:Wd} (h:(roundC X).1 ≠ 0):roundR X = ((roundC X).1,0,Wd.none):=by
 unfold roundR
 rw [if_neg h]
end Go.Proofs.YtnalakhelicjcaaGreatDoor
set_option maxRecDepth 100000
namespace Go.Proofs.YtnalakhelicjcaaGreatDoor
open Go.RowKit
def Fails (r:Int × Int × Wd):Prop:=r.1 ≠ 0 → r = (r.1,0,Wd.none)
theorem foldl_inv {α σ:Type} (f:σ → α → σ) (p:σ → Prop) (h:∀ s a,p s → p (f s a)):∀ (l:List α) (s:σ),p s → p (l.foldl f s)
 | [],_,hs=>hs
 | a :: l,s,hs=>foldl_inv f p h l _ (h s a hs)
theorem drainS_fails (a b:Nat) (r:Int × Int × Wd) (h:Fails r):Fails (drainS a b r):=by
 unfold drainS
 split
 ·split
  ·intro h;exact absurd rfl h
  ·intro _;rfl
 ·exact h
theorem drainR_fails (X:Wd):Fails (drainR X):=
 foldl_inv _ _ (fun _ _ h=>foldl_inv _ _ (fun _ _ h=>drainS_fails _ _ _ h) _ _ h) _ _ (fun h=>absurd rfl h)
theorem roundR_fails (X:Wd):Fails (roundR X):=by
 unfold roundR
 split
 ·exact drainR_fails _
 ·intro _;rfl
theorem calmN_fails:∀ (k:Nat) (r:Int × Int × Wd),Fails r → Fails (calmN k r)
 | 0,_,h=>h
 | _ + 1,r,h=>by
  unfold calmN
  split
  ·exact calmN_fails _ _ (roundR_fails _)
  ·exact h
theorem calmN_bad {r:Int × Int × Wd} (h:r.1 ≠ 0):∀ k,calmN k r = r
 | 0=>rfl
 | _ + 1=>if_neg h
theorem calmN_next {k:Nat} {n:Int} {Y:Wd}:calmN (k + 1) (0,n,Y) = calmN k (roundR Y):=if_pos rfl
def drainF (X:Wd):Int × Int × Wd:=if errX X = 0 then drainR X else (errX X,0,Wd.none)
def calm3 (X:Wd):Int × Int × Wd:=if errX X = 0 then calmN 4 (drainR X) else (errX X,0,Wd.none)
theorem calmF_eq (X:Wd):calmF X = ((calm3 X).1,(calm3 X).2.2):=by
 unfold calmF calm3
 split
 ·unfold calmR
  have h:=calmN_fails 4 (drainR X) (drainR_fails X)
  generalize calmN 4 (drainR X) = r at *
  split
  ·rename_i h0
   rw [h0]
  ·rename_i h0
   rw [h h0]
 ·rfl
theorem drainF_right {X:Wd} (h:(drainF X).1 = 0):Like X (drainF X).2.2:=by
 unfold drainF at h ⊢
 split at h
 ·rename_i h0
  rw [if_pos h0]
  exact (drainR_like (right_of h0) h).1
 ·rename_i h0
  exact absurd h h0
theorem calmF_of (X:Wd):calmF X = if (calmN 4 (drainF X)).1 = 0 then (0,(calmN 4 (drainF X)).2.2) else ((calmN 4 (drainF X)).1,Wd.none):=by
 unfold calmF drainF
 split
 ·rfl
 ·rename_i h
  rw [calmN_bad (by exact h)]
  rw [if_neg h]
end Go.Proofs.YtnalakhelicjcaaGreatDoor
