/-
  What came ahead of what: both ways tell the same, and what is true of it.
-/
import Derived.Test.YtnalakhelicjcaaGreatYMkP
import Derived.Test.YtnalakhelicjcaaGreatYKS2
set_option maxRecDepth 100000
namespace Go.Proofs.YtnalakhelicjcaaGreat
open Go.RowKit
theorem idxM_mem {ms:List M} {m:M} (h:m ∈ ms):(idxM (eqM m) ms).toNat < ms.length ∧ ms.getD (idxM (eqM m) ms).toNat M.zero = m ∧ 0 ≤ idxM (eqM m) ms:=by
 unfold idxM
 cases hf:ms.findIdx? (eqM m) with
 | none =>
  rw [List.findIdx?_eq_none_iff] at hf
  have:=hf m h
  rw [eqM_iff.2 rfl] at this
  cases this
 | some k =>
  rw [List.findIdx?_eq_some_iff_getElem] at hf
  obtain ⟨hk,h1,_⟩:=hf
  refine ⟨by simpa using hk, ?_,Int.natCast_nonneg _⟩
  show ms.getD (k:Int).toNat M.zero = m
  rw [Int.toNat_natCast,getD_lt _ _ hk]
  exact (eqM_iff.1 h1).symm
inductive Ways (X:Wd) (x:Ac) (Y:Wd):Prop where
 | move (a b:Nat) (m:M) (h3:x.kind = 3) (h1:x.one = (a:Int)) (h2:x.two = (b:Int)) (hM:Mv X a b m Y)
 | send (n:Nat) (h3:x.kind = 1 ∨ x.kind = 2) (h1:x.one = (n:Int)) (hS:Sn X n (msgOf x Y) Y)
theorem ways {X:Wd} {x:Ac} (h4:x.kind ≠ 4) (h:(doF X x).1 = 0):Ways X x (doF X x).2:=by
 have hc:∀ null body,(null = true → body = ByteArray.empty) → (castF X x.one x.two null body).1 = 0 → ∃ k:Nat,x.one = (k:Int) ∧ Sn X k ⟨k,x.two,(nd X k).clock + 1,null,body⟩ (castF X x.one x.two null body).2:=fun null body hb h=>by
  unfold castF at h ⊢
  split at h
  ·rename_i h0
   rw [if_pos h0]
   exact castR_sn (right_of h0) hb h
  ·rename_i h0
   exact absurd h h0
 have hms:∀ (k:Nat) (Y:Wd) null body,x.one = (k:Int) → Sn X k ⟨k,x.two,(nd X k).clock + 1,null,body⟩ Y → null = (x.kind == 2) → body = (if x.kind = 2 then ByteArray.empty else x.body) → msgOf x Y = ⟨k,x.two,(nd X k).clock + 1,null,body⟩:=fun k Y null body h1 hS hn hb=>by
  unfold msgOf
  rw [h1,Int.toNat_natCast,hS.clock,hn,hb]
 unfold doF at h ⊢
 split at h
 ·rename_i h1
  rw [if_pos h1]
  obtain ⟨k,hk,hS⟩:=hc _ _ (fun h=>by cases h) h
  refine .send k (Or.inl h1) hk ?_
  rw [hms k _ _ _ hk hS (by rw [h1];rfl) (by rw [if_neg (by omega)])]
  exact hS
 rename_i h1
 rw [if_neg h1]
 split at h
 ·rename_i h2
  rw [if_pos h2]
  obtain ⟨k,hk,hS⟩:=hc _ _ (fun _=>rfl) h
  refine .send k (Or.inr h2) hk ?_
  rw [hms k _ _ _ hk hS (by rw [h2];rfl) (by rw [if_pos h2])]
  exact hS
 rename_i h2
 rw [if_neg h2]
 split at h
 ·rename_i h3
  rw [if_pos h3]
  unfold moveF at h ⊢
  split at h
  ·rename_i h0
   rw [if_pos h0]
   obtain ⟨hx,ha0,ha1,hb0,hb1⟩:=moveE_ok h0
   obtain ⟨m,hM⟩:=moveR_mv (right_of hx) (by omega) (by omega) h
   exact .move x.one.toNat x.two.toNat m h3 (by omega) (by omega) hM
  ·rename_i h0
   exact absurd h h0
 rename_i h3
 exact absurd h (by first | (rw [if_neg h4];decide) | decide)
theorem firstW_mv {X Y:Wd} {x:Ac} {a b:Nat} {m:M} (h1:x.one = (a:Int)) (h2:x.two = (b:Int)) (hM:Mv X a b m Y):firstW X x = m:=by
 obtain ⟨l,hl,_⟩:=hM.first
 unfold firstW
 rw [h1,h2,Int.toNat_natCast,Int.toNat_natCast,hl]
 rfl
theorem mv_mem {X Y:Wd} {a b:Nat} {m:M} (hM:Mv X a b m Y):m ∈ wireL X a b:=by
 obtain ⟨l,hl,_⟩:=hM.first
 rw [hl]
 exact List.mem_cons_self ..
theorem Both.act {s:Sc} {r:Rf} (h:Both s r) (x:Ac):Both (s.act x) (r.act x):=by
 unfold Sc.act Rf.act
 split
 ·exact h
 rename_i h4
 unfold Sc.step Rf.step
 rw [h.X]
 split
 ·rename_i h0
  have hw:=ways h4 h0
  generalize (doF s.X x).2 = Y at *
  cases hw with
  | move a b m h3 h1 h2 hM =>
   rw [if_pos h3,if_pos h3,firstW_mv h1 h2 hM,h2,Int.toNat_natCast]
   obtain ⟨ha,hb,_⟩:=hM.at_
   obtain ⟨i1,i2,_⟩:=idxM_mem (h.gh.onw a b m ha hb (mv_mem hM))
   exact h.move hM i1 i2
  | send n h3 h1 hS =>
   have hne:x.kind ≠ 3:=by omega
   rw [if_neg hne,if_neg hne,show x.one.toNat = n by omega]
   exact h.send hS
 ·exact h
theorem Both.run {s:Sc} {r:Rf} (h:Both s r):∀ l:List Ac,Both (s.run l) (r.run l)
 | []=>h
 | x :: l=>Both.run (h.act x) l
theorem rowS_len (n:Nat) (f:St):(rowS n f).length = n:=by simp [rowS]
theorem rowS_at {n:Nat} {f:St} {k:Nat} (h:k < n):(rowS n f).getD k false = f k:=by
 unfold rowS
 rw [List.getD_eq_getElem?_getD,List.getElem?_map,List.getElem?_range h]
 rfl
theorem Sc.rows_at {s:Sc} {i:Nat} (h:i < s.ahead.length):s.rows.getD i [] = rowS s.sent.length (s.ahead.getD i emptyS):=by
 unfold Sc.rows
 rw [List.getD_eq_getElem?_getD,List.getElem?_map,List.getElem?_eq_getElem h,getD_lt _ _ h]
 rfl
theorem Both.close {s:Sc} {r:Rf} (h:Both s r):∀ i,i ≤ s.sent.length → ∀ j t,j < i → t < s.sent.length → (((closeI r.ahead s.sent.length i).getD j []).getD t false = true ↔ s.ahead.getD j emptyS t = true)
 | 0,_,j,_,hj,_=>absurd hj (Nat.not_lt_zero _)
 | i + 1,hi,j,t,hj,ht=>by
  have hra:(r.ahead.getD j []).length = j:=h.ra j (by omega)
  have hpl:(padB s.sent.length (r.ahead.getD j [])).length = s.sent.length:=padB_len (by omega)
  have ih:∀ k t,k < j → t < s.sent.length → (((closeI r.ahead s.sent.length j).getD k []).getD t false = true ↔ s.ahead.getD k emptyS t = true):=fun k t hk ht=>h.close j (by omega) k t hk ht
  rw [closeI_at _ _ hj,closeJ_at (fun k t hkt=>?_) (by rw [hpl];exact ht) j (by rw [hpl];omega),h.is_a j t (by omega)]
  ·have hp:∀ k,(padB s.sent.length (r.ahead.getD j [])).getD k false = (r.ahead.getD j []).getD k false:=fun k=>padB_at k
   rw [hp]
   have hlt:∀ k,(r.ahead.getD j []).getD k false = true → k < j:=fun k hk=>by
    rw [← hra]
    refine Nat.lt_of_not_le fun hle=>?_
    rw [List.getD_eq_getElem?_getD,List.getElem?_eq_none hle] at hk
    cases hk
   constructor
   ·rintro (h1 | ⟨k,hk,h1,h2⟩)
    ·exact ⟨t,hlt t h1,h1,Or.inl rfl⟩
    ·rw [hp] at h1
     exact ⟨k,hk,h1,Or.inr ((ih k t hk ht).1 h2)⟩
   ·rintro ⟨k,hk,h1,rfl | h2⟩
    ·exact Or.inl h1
    ·exact Or.inr ⟨k,hk,by rw [hp];exact h1,(ih k t hk ht).2 h2⟩
  ·by_cases hk:k < j
   ·by_cases htl:t < s.sent.length
    ·exact h.low k t (by omega) ((ih k t hk htl).1 hkt)
    ·exfalso
     rw [closeI_at _ _ hk,List.getD_eq_getElem?_getD,List.getElem?_eq_none (by rw [closeJ_len,padB_len (by rw [h.ra k (by omega)];omega)];omega)] at hkt
     cases hkt
   ·exfalso
    rw [List.getD_eq_getElem?_getD (l:=closeI r.ahead s.sent.length j),List.getElem?_eq_none (by rw [closeI_len];omega)] at hkt
    cases hkt
theorem Both.rows {s:Sc} {r:Rf} (h:Both s r):closeI r.ahead s.sent.length s.sent.length = s.rows:=by
 have hrl:s.rows.length = s.sent.length:=by unfold Sc.rows;rw [List.length_map,h.la]
 apply List.ext_getElem
 ·rw [closeI_len,hrl]
 ·intro i h1 h2
  rw [← getD_lt _ [] h1, ← getD_lt _ [] h2]
  rw [hrl] at h2
  rw [Sc.rows_at (by rw [h.la];exact h2)]
  have hl:((closeI r.ahead s.sent.length s.sent.length).getD i []).length = s.sent.length:=by
   rw [closeI_at _ _ h2,closeJ_len,padB_len (by rw [h.ra i h2];omega)]
  apply List.ext_getElem
  ·rw [hl,rowS_len]
  ·intro t h3 h4
   rw [hl] at h3
   rw [← getD_lt _ false (by rw [hl];exact h3), ← getD_lt _ false h4,rowS_at h3,Bool.eq_iff_iff]
   exact h.close _ (Nat.le_refl _) i t h2 h3
def markS (n:Nat) (gs:List Int) (acts:List Ac):Sc:=(Sc.begin (beginX n gs)).run acts
def markF (nodes:Int) (gs:List Int) (acts:List Ac):Int × List M × List (List Bool):=
 if gErr nodes gs = 0 then if 80 < acts.length then (2,[],[]) else (0,(markS nodes.toNat gs acts).sent,(markS nodes.toNat gs acts).rows) else (gErr nodes gs,[],[])
def markD (nodes:Int) (gs:List Int) (acts:List Ac):Int × List M × List (List Bool):=
 if gErr nodes gs = 0 then if 80 < acts.length then (2,[],[]) else
  (0,((Rf.begin (beginX nodes.toNat gs) nodes.toNat).run acts).all,closeI ((Rf.begin (beginX nodes.toNat gs) nodes.toNat).run acts).ahead ((Rf.begin (beginX nodes.toNat gs) nodes.toNat).run acts).all.length ((Rf.begin (beginX nodes.toNat gs) nodes.toNat).run acts).all.length) else (gErr nodes gs,[],[])
theorem mark_both {n:Nat} {gs:List Int} (h:gErr n gs = 0) (acts:List Ac):Both (markS n gs acts) ((Rf.begin (beginX n gs) n).run acts):=(Both.begin h).run acts
theorem mark_same (nodes:Int) (gs:List Int) (acts:List Ac):markD nodes gs acts = markF nodes gs acts:=by
 unfold markD markF
 split
 ·rename_i h0
  obtain ⟨n,rfl⟩:=Int.eq_ofNat_of_zero_le (show 0 ≤ nodes by have:=gErr_small h0;omega)
  rw [Int.toNat_natCast]
  have hB:=mark_both h0 acts
  split
  ·rfl
  ·rw [hB.all,hB.rows]
 ·rfl
end Go.Proofs.YtnalakhelicjcaaGreat
