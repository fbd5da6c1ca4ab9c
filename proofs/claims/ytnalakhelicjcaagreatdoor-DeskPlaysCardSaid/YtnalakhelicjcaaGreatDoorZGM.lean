/-
  Right worlds, in plain words: what each part must be; what may be changed of one.
  Telling, the plain law: what comes is right; what is told was held; told once more, nothing is told.
  Putting a message, the plain law: what comes rises.
-/
import Derived.Test.YtnalakhelicjcaaGreatDoorZKD
import Derived.Test.YtnalakhelicjcaaGreatDoorZKT
import Derived.Test.YtnalakhelicjcaaGreatDoorZKN
import Derived.Test.YtnalakhelicjcaaGreatDoorZKB2
import Derived.Deep.QuietTactic
import Derived.BigQuiet
set_option maxRecDepth 100000
namespace Go.Proofs.YtnalakhelicjcaaGreatDoor
open Go.RowKit
structure ListR (K:Nat) (gs:List Int) (n:Nat) (l:List M):Prop where
 rise:risesB l = true
 fine:∀ m ∈ l,m.null = false ∧ msgE K gs m = 0 ∧ hasB gs m.grp n = true
 many:l.length ≤ 40
structure NodeR (K:Nat) (gs:List Int) (n:Nat) (x:N):Prop where
 clock:0 ≤ x.clock ∧ x.clock ≤ 1048576
 len:x.last.length = gs.length
 rows:∀ g,g < gs.length → (x.last.getD g []).length = K
 cells:∀ g k,g < gs.length → k < K → (0 ≤ (x.last.getD g []).getD k 0 ∧ (x.last.getD g []).getD k 0 ≤ 1048576) ∧ ((hasB gs g n = true ∧ hasB gs g k = true) ∨ (x.last.getD g []).getD k 0 = 0)
 held:ListR K gs n x.held
 told:ListR K gs n x.told
structure WireR (K:Nat) (gs:List Int) (a b:Nat) (l:List M):Prop where
 src:∀ m ∈ l,m.src = (a:Int)
 rise:l.Pairwise (fun x y=>x.stamp < y.stamp)
 fine:∀ m ∈ l,msgE K gs m = 0 ∧ hasB gs m.grp b = true
 self:a ≠ b ∨ l = []
 many:l.length ≤ 40
structure Right (X:Wd):Prop where
 grp:gErr X.nodes.length X.groups = 0
 nw:X.wires.length = X.nodes.length
 row:∀ a,a < X.nodes.length → (X.wires.getD a []).length = X.nodes.length
 node:∀ n,n < X.nodes.length → NodeR X.nodes.length X.groups n (X.nodes.getD n N.zero)
 wire:∀ a b,a < X.nodes.length → b < X.nodes.length → WireR X.nodes.length X.groups a b (wireL X a b)
theorem listFineB_iff {K:Int} {gs:List Int} {l:List M} {n:Int}:listFineB K gs l n = true ↔ ∀ m ∈ l,msgE K gs m = 0 ∧ hasB gs m.grp n = true:=by
 simp [listFineB,fineM,List.all_eq_true]
theorem noNullB_iff {l:List M}:noNullB l = true ↔ ∀ m ∈ l,m.null = false:=by simp [noNullB,List.all_eq_true]
theorem adj_pair:∀ {l:List M},(∀ t,t < l.length → t = 0 ∨ (l.getD (t - 1) M.zero).stamp < (l.getD t M.zero).stamp) → l.Pairwise (fun x y=>x.stamp < y.stamp)
 | [],_=>List.Pairwise.nil
 | [_],_=>by simp
 | a :: b :: l,h=>by
  have h2:=adj_pair (l:=b :: l) (fun t ht=>by
   cases t with
   | zero=>exact Or.inl rfl
   | succ t =>
    right
    have:=h (t + 2) (by simpa using ht)
    rcases this with h0 | h0
    ·omega
    ·simpa using h0)
  have h0:a.stamp < b.stamp:=by
   rcases h 1 (by simp) with h0 | h0
   ·omega
   ·simpa using h0
  rw [List.pairwise_cons]
  refine ⟨fun c hc=>?_,h2⟩
  rcases List.mem_cons.1 hc with rfl | hc
  ·exact h0
  ·have:=(List.pairwise_cons.1 h2).1 c hc;omega
theorem wireOrdB_iff {a:Int} {l:List M}:wireOrdB a l = true ↔ (∀ m ∈ l,m.src = a) ∧ l.Pairwise (fun x y=>x.stamp < y.stamp):=by
 unfold wireOrdB
 rw [range_all_iff]
 simp only [Bool.and_eq_true,beq_iff_eq,Bool.or_eq_true,decide_eq_true_eq]
 constructor
 ·intro h
  refine ⟨fun m hm=>?_,adj_pair fun t ht=>(h t ht).2⟩
  obtain ⟨i,hi,rfl⟩:=List.mem_iff_getElem.1 hm
  rw [← getD_lt l M.zero hi]
  exact (h i hi).1
 ·rintro ⟨h1,h2⟩ t ht
  refine ⟨by rw [getD_lt l M.zero ht];exact h1 _ (List.getElem_mem _), ?_⟩
  by_cases e:t = 0
  ·exact Or.inl e
  ·right
   rw [getD_lt l M.zero ht,getD_lt l M.zero (show t - 1 < l.length by omega)]
   exact List.pairwise_iff_getElem.1 h2 (t - 1) t _ _ (by omega)
theorem nodeFineB_iff {X:Wd} {n:Nat}:(nodeFineB X n = true ∧ manyN (X.nodes.getD n N.zero) = false) ↔ NodeR X.nodes.length X.groups n (X.nodes.getD n N.zero):=by
 unfold nodeFineB
 generalize X.nodes.getD n N.zero = x
 simp only [nodeOkB,lastFineB,rowFineB,cellFineB,inB,manyN,Bool.and_eq_true,Bool.or_eq_true,Bool.or_eq_false_iff,decide_eq_true_eq,decide_eq_false_iff_not,range_all_iff,listFineB_iff,noNullB_iff,beq_iff_eq]
 constructor
 ·rintro ⟨⟨⟨h1,h2,h3⟩,⟨⟨⟨⟨h4,h5⟩,h6⟩,h7⟩,h8⟩,h9⟩,h10,h11⟩
  refine ⟨h1,h2,fun g hg=>(h3 g (by omega)).1,fun g k hg hk=>(h3 g (by omega)).2 k (by rw [(h3 g (by omega)).1];exact hk),⟨h4,fun m hm=>⟨h6 m hm,h8 m hm⟩,by omega⟩,⟨h5,fun m hm=>⟨h7 m hm,h9 m hm⟩,by omega⟩⟩
 ·intro h
  refine ⟨⟨⟨h.clock,h.len,fun g hg=>⟨h.rows g (by rw [← h.len];exact hg),fun k hk=>h.cells g k (by rw [← h.len];exact hg) (by rw [← h.rows g (by rw [← h.len];exact hg)];exact hk)⟩⟩,
   ⟨⟨⟨⟨h.held.rise,h.told.rise⟩,fun m hm=>(h.held.fine m hm).1⟩,fun m hm=>(h.told.fine m hm).1⟩,fun m hm=>(h.held.fine m hm).2⟩,fun m hm=>(h.told.fine m hm).2⟩, ?_, ?_⟩
  ·have:=h.held.many;omega
  ·have:=h.told.many;omega
theorem right_of {X:Wd} (h:errX X = 0):Right X:=by
 have hg:gErr X.nodes.length X.groups = 0:=by
  rcases Classical.em (gErr X.nodes.length X.groups = 0) with e | e
  ·exact e
  ·rw [errX_g e] at h;exact absurd h e
 have hm:manyX X = false:=by
  cases hm:manyX X
  ·rfl
  ·rw [errX_2 hg hm] at h;cases h
 have hf:fineX X = true:=by
  cases hf:fineX X
  ·rw [errX_1 hg hm hf] at h;cases h
  ·rfl
 have hF:=errX_fit h
 simp only [fineX,Bool.and_eq_true,decide_eq_true_eq,range_all_iff] at hf
 obtain ⟨⟨hw,hr⟩,hww⟩:=hf
 simp only [manyX,Bool.or_eq_false_iff] at hm
 refine ⟨hg,hw,fun a ha=>hF.row ha,fun n hn=>nodeFineB_iff.1 ⟨?_, ?_⟩,fun a b ha hb=>?_⟩
 ·have:=hr n hn
  simp only [fineR,Bool.and_eq_true] at this
  exact this.2
 ·cases h0:manyN (X.nodes.getD n N.zero)
  ·rfl
  ·rw [range_any_t (p:=fun n=>manyN (X.nodes.getD n N.zero)) hn h0] at hm;cases hm.1
 ·have h1:=hww a ha
  unfold fineW at h1
  rw [range_all_iff] at h1
  have h2:=h1 b hb
  simp only [wireFineB,Bool.and_eq_true,Bool.or_eq_true,bne_iff_ne,ne_eq,listFineB_iff,wireOrdB_iff,List.isEmpty_iff] at h2
  exact ⟨h2.1.1.1,h2.1.1.2,h2.1.2,h2.2,hF.wire ha hb⟩
theorem Right.err {X:Wd} (h:Right X):errX X = 0:=by
 refine errX_0 h.grp ?_ ?_
 ·simp only [manyX,Bool.or_eq_false_iff]
  refine ⟨range_any_f fun t ht=>(nodeFineB_iff.2 (h.node t ht)).2,range_any_f fun t ht=>?_⟩
  rw [h.nw] at ht
  unfold manyR
  refine range_any_f fun s hs=>?_
  rw [h.row t ht] at hs
  have:=(h.wire t s ht hs).many
  rw [decide_eq_false_iff_not]
  unfold wireL at this
  omega
 ·simp only [fineX,Bool.and_eq_true,decide_eq_true_eq,range_all_iff]
  refine ⟨⟨h.nw,fun n hn=>?_⟩,fun a ha=>?_⟩
  ·simp only [fineR,Bool.and_eq_true,decide_eq_true_eq]
   exact ⟨h.row n hn,(nodeFineB_iff.2 (h.node n hn)).1⟩
  ·unfold fineW
   rw [range_all_iff]
   intro b hb
   have:=h.wire a b ha hb
   simp only [wireFineB,Bool.and_eq_true,Bool.or_eq_true,bne_iff_ne,ne_eq,listFineB_iff,wireOrdB_iff,List.isEmpty_iff]
   exact ⟨⟨⟨this.src,this.rise⟩,this.fine⟩,this.self⟩
theorem getD_set_eq {α:Type} (l:List α) (d x:α) {i:Nat} (h:i < l.length):(l.set i x).getD i d = x:=by simp [List.getD_eq_getElem?_getD,h]
theorem getD_set_ne' {α:Type} (l:List α) (d x:α) {i j:Nat} (h:i ≠ j):(l.set i x).getD j d = l.getD j d:=by simp [List.getD_eq_getElem?_getD,List.getElem?_set_ne h]
def nodeSet (X:Wd) (n:Nat) (x:N):Wd:={ X with nodes:=X.nodes.set n x }
theorem nodeSet_len {X:Wd} {n:Nat} {x:N}:(nodeSet X n x).nodes.length = X.nodes.length:=by simp [nodeSet]
theorem nodeSet_at {X:Wd} {n:Nat} {x:N} (h:n < X.nodes.length):(nodeSet X n x).nodes.getD n N.zero = x:=getD_set_eq _ _ _ h
theorem nodeSet_ne {X:Wd} {n k:Nat} {x:N} (h:n ≠ k):(nodeSet X n x).nodes.getD k N.zero = X.nodes.getD k N.zero:=getD_set_ne' _ _ _ h
theorem Right.setNode {X:Wd} (h:Right X) {n:Nat} (hn:n < X.nodes.length) {x:N} (hx:NodeR X.nodes.length X.groups n x):Right (nodeSet X n x):=by
 refine ⟨by rw [nodeSet_len];exact h.grp,by rw [nodeSet_len];exact h.nw,fun a ha=>?_,fun k hk=>?_,fun a b ha hb=>?_⟩
 ·rw [nodeSet_len] at ha ⊢
  exact h.row a ha
 ·rw [nodeSet_len] at hk ⊢
  by_cases e:n = k
  ·subst e
   rw [nodeSet_at hn]
   exact hx
  ·rw [nodeSet_ne e]
   exact h.node k hk
 ·rw [nodeSet_len] at ha hb ⊢
  exact h.wire a b ha hb
theorem wirePut_at {X:Wd} {a b:Nat} {l:List M} (ha:a < X.wires.length) (hb:b < (X.wires.getD a []).length):wireL (wirePut X a b l) a b = l:=by
 unfold wireL wirePut
 rw [getD_set_eq _ _ _ ha,getD_set_eq _ _ _ hb]
theorem wirePut_ne {X:Wd} {a b c d:Nat} {l:List M} (h:¬ (a = c ∧ b = d)):wireL (wirePut X a b l) c d = wireL X c d:=by
 unfold wireL wirePut
 by_cases e:a = c
 ·subst e
  by_cases ha:a < X.wires.length
  ·rw [getD_set_eq _ _ _ ha,getD_set_ne' _ _ _ (fun e=>h ⟨rfl,e⟩)]
  ·rw [List.set_eq_of_length_le (by omega)]
 ·rw [getD_set_ne' _ _ _ e]
theorem Right.setWire {X:Wd} (h:Right X) {a b:Nat} (ha:a < X.nodes.length) (hb:b < X.nodes.length) {l:List M} (hl:WireR X.nodes.length X.groups a b l):Right (wirePut X a b l):=by
 have haw:a < X.wires.length:=by rw [h.nw];exact ha
 refine ⟨h.grp,by simpa [wirePut] using h.nw,fun c hc=>?_,h.node,fun c d hc hd=>?_⟩
 ·have:=h.row c hc
  unfold wirePut
  by_cases e:a = c
  ·subst e
   show ((X.wires.set a _).getD a []).length = _
   rw [getD_set_eq _ _ _ haw,List.length_set];exact this
  ·show ((X.wires.set a _).getD c []).length = _
   rw [getD_set_ne' _ _ _ e];exact this
 ·by_cases e:a = c ∧ b = d
  ·obtain ⟨rfl,rfl⟩:=e
   rw [wirePut_at haw (by rw [h.row a ha];exact hb)]
   exact hl
  ·rw [wirePut_ne e]
   exact h.wire c d hc hd
theorem ListR.sub {K:Nat} {gs:List Int} {n:Nat} {l l':List M} (h:ListR K gs n l) (hs:l'.Sublist l):ListR K gs n l':=
 ⟨risesB_pair.2 ((risesB_pair.1 h.rise).sublist hs),fun m hm=>h.fine m (hs.subset hm),by have:=hs.length_le;have:=h.many;omega⟩
end Go.Proofs.YtnalakhelicjcaaGreatDoor
set_option maxRecDepth 100000
namespace Go.Proofs.YtnalakhelicjcaaGreatDoor
open Go.RowKit
theorem boundX_congr {X Y:Wd} {n:Nat} (h1:Y.groups = X.groups) (h2:Y.nodes.length = X.nodes.length) (h3:(Y.nodes.getD n N.zero).clock = (X.nodes.getD n N.zero).clock) (h4:(Y.nodes.getD n N.zero).last = (X.nodes.getD n N.zero).last):boundX Y n = boundX X n:=by
 unfold boundX boundM boundG boundS
 rw [h1,h2,h3,h4]
theorem tellE_zero {X:Wd} {n:Nat} (h:tellE X n = 0):(tellL X n).length ≤ 40 ∧ risesB (tellL X n) = true:=by
 unfold tellE at h
 split at h
 ·cases h
 ·split at h
  ·exact ⟨by omega,by assumption⟩
  ·cases h
theorem tellW_set (X:Wd) (n:Nat):tellW X n = nodeSet X n { X.nodes.getD n N.zero with told:=tellL X n,held:=(X.nodes.getD n N.zero).held.drop (readyX X n).length }:=rfl
theorem tellW_right {X:Wd} {n:Nat} (h:Right X) (hn:n < X.nodes.length) (he:tellE X n = 0):Right (tellW X n):=by
 have hx:=h.node n hn
 obtain ⟨h1,h2⟩:=tellE_zero he
 rw [tellW_set]
 refine h.setNode hn ⟨hx.clock,hx.len,hx.rows,hx.cells,hx.held.sub (List.drop_sublist _ _),⟨h2,fun m hm=>?_,h1⟩⟩
 rcases List.mem_append.1 hm with hm | hm
 ·exact hx.told.fine m hm
 ·exact hx.held.fine m (List.mem_filter.1 hm).1
theorem tellW_at {X:Wd} {n:Nat} (hn:n < X.nodes.length):(tellW X n).nodes.getD n N.zero = { X.nodes.getD n N.zero with told:=tellL X n,held:=(X.nodes.getD n N.zero).held.drop (readyX X n).length }:=by
 rw [tellW_set,nodeSet_at hn]
theorem drop_over {far:Int} {l:List M} (h:risesB l = true):∀ m ∈ l.drop (l.findIdx (overB far)),far < m.stamp:=by
 intro m hm
 obtain ⟨i,hi,rfl⟩:=List.mem_iff_getElem.1 hm
 rw [List.length_drop] at hi
 rw [List.getElem_drop]
 have hlt:l.findIdx (overB far) < l.length:=by omega
 have h0:=List.findIdx_getElem (p:=overB far) (xs:=l) (w:=hlt)
 simp only [overB,decide_eq_true_eq] at h0
 by_cases e:i = 0
 ·subst e
  simpa using h0
 ·have:=rises_lt h (s:=l.findIdx (overB far)) (t:=l.findIdx (overB far) + i) (by omega) (by omega)
  rw [getD_lt l M.zero hlt,getD_lt l M.zero (by omega),lessM_iff] at this
  have h0':far < l[l.findIdx (overB far)].stamp:=h0
  omega
theorem tell_bound {X:Wd} {n:Nat} (hn:n < X.nodes.length):boundX (tellW X n) n = boundX X n:=by
 refine boundX_congr rfl ?_ ?_ ?_
 ·rw [tellW_set,nodeSet_len]
 ·rw [tellW_at hn]
 ·rw [tellW_at hn]
theorem tell_left {X:Wd} {n:Nat} (h:Right X) (hn:n < X.nodes.length):∀ m ∈ ((tellW X n).nodes.getD n N.zero).held,boundX X n < m.stamp:=by
 rw [tellW_at hn]
 have hr:=(h.node n hn).held.rise
 show ∀ m ∈ (X.nodes.getD n N.zero).held.drop (readyX X n).length,_
 rw [(readyX_len hr).2]
 exact drop_over hr
theorem tell_all {X:Wd} {n:Nat} (h:Right X) (hn:n < X.nodes.length):((tellW X n).nodes.getD n N.zero).told ++ ((tellW X n).nodes.getD n N.zero).held = (X.nodes.getD n N.zero).told ++ (X.nodes.getD n N.zero).held:=by
 rw [tellW_at hn]
 have hr:=(h.node n hn).held.rise
 obtain ⟨h1,h2⟩:=readyX_len hr
 show ((X.nodes.getD n N.zero).told ++ readyX X n) ++ (X.nodes.getD n N.zero).held.drop (readyX X n).length = _
 rw [h2,h1,List.append_assoc,List.take_append_drop]
end Go.Proofs.YtnalakhelicjcaaGreatDoor
set_option maxRecDepth 100000
namespace Go.Proofs.YtnalakhelicjcaaGreatDoor
open Go.RowKit
theorem posM_spec:∀ (ms:List M) (m:M),(∀ t,t < posM ms m → lessM (ms.getD t M.zero) m = true) ∧ (posM ms m < ms.length → lessM (ms.getD (posM ms m) M.zero) m = false)
 | [],m=>⟨fun t ht=>absurd ht (Nat.not_lt_zero _),fun h=>absurd h (Nat.not_lt_zero _)⟩
 | a :: ms,m=>by
  cases h:lessM a m
  ·have e:posM (a :: ms) m = 0:=by simp [posM,h]
   rw [e]
   exact ⟨fun t ht=>absurd ht (Nat.not_lt_zero _),fun _=>by simpa using h⟩
  ·have e:posM (a :: ms) m = posM ms m + 1:=by simp [posM,h]
   obtain ⟨h1,h2⟩:=posM_spec ms m
   rw [e]
   refine ⟨fun t ht=>?_,fun hl=>by simpa using h2 (by simpa using hl)⟩
   cases t with
   | zero=>simpa using h
   | succ t=>simpa using h1 t (by omega)
theorem putM_pair {ms:List M} {m:M} (hr:risesB ms = true) (hf:foundM ms m = false):risesB (putM ms m) = true:=by
 obtain ⟨h1,h2⟩:=posM_spec ms m
 have hp:=risesB_pair.1 hr
 have hlo:∀ a ∈ ms.take (posM ms m),lessM a m = true:=fun a ha=>by
  obtain ⟨i,hi,rfl⟩:=List.mem_iff_getElem.1 ha
  rw [List.length_take] at hi
  rw [List.getElem_take, ← getD_lt ms M.zero (by omega)]
  exact h1 i (by omega)
 have hhi:∀ b ∈ ms.drop (posM ms m),lessM m b = true:=fun b hb=>by
  obtain ⟨i,hi,rfl⟩:=List.mem_iff_getElem.1 hb
  rw [List.length_drop] at hi
  have hk:posM ms m < ms.length:=by omega
  have h3:=h2 hk
  have h4:lessM m (ms.getD (posM ms m) M.zero) = true:=by
   rw [foundM,decide_eq_true hk,Bool.true_and,ordM_zero h3] at hf
   simpa using hf
  rw [List.getElem_drop, ← getD_lt ms M.zero (by omega)]
  by_cases e:i = 0
  ·subst e;exact h4
  ·exact lessM_trans h4 (rises_lt hr (by omega) (by omega))
 rw [risesB_pair,putM,List.pairwise_append,List.pairwise_cons]
 refine ⟨hp.sublist (List.take_sublist _ _),⟨hhi,hp.sublist (List.drop_sublist _ _)⟩,fun a ha b hb=>?_⟩
 rcases List.mem_cons.1 hb with rfl | hb
 ·exact hlo a ha
 ·exact lessM_trans (hlo a ha) (hhi b hb)
theorem mem_putM {ms:List M} {m x:M}:x ∈ putM ms m ↔ x = m ∨ x ∈ ms:=by
 have:x ∈ ms ↔ x ∈ ms.take (posM ms m) ∨ x ∈ ms.drop (posM ms m):=by
  rw [← List.mem_append,List.take_append_drop]
 rw [putM,List.mem_append,List.mem_cons,this]
 constructor
 ·rintro (h | h | h)
  ·exact Or.inr (Or.inl h)
  ·exact Or.inl h
  ·exact Or.inr (Or.inr h)
 ·rintro (h | h | h)
  ·exact Or.inr (Or.inl h)
  ·exact Or.inl h
  ·exact Or.inr (Or.inr h)
theorem putE_zero {ms:List M} {m:M} (h:putE ms m = 0):risesB ms = true ∧ ms.length < 40 ∧ foundM ms m = false ∧ putL ms m = putM ms m:=by
 have hl:putL ms m = putM ms m:=by rw [putL,if_pos h]
 unfold putE at h
 split at h
 ·rename_i h1
  split at h
  ·cases h
  ·split at h
   ·cases h
   ·rename_i h2 h3
    exact ⟨h1,by omega,by simpa using h3,hl⟩
 ·cases h
theorem putL_rises {ms:List M} {m:M} (h:putE ms m = 0):risesB (putL ms m) = true:=by
 obtain ⟨h1,_,h3,h4⟩:=putE_zero h
 rw [h4]
 exact putM_pair h1 h3
theorem putL_right {K:Nat} {gs:List Int} {n:Nat} {ms:List M} {m:M} (hl:ListR K gs n ms) (h:putE ms m = 0) (hm:m.null = false ∧ msgE K gs m = 0 ∧ hasB gs m.grp n = true):ListR K gs n (putL ms m):=by
 obtain ⟨h1,h2,h3,h4⟩:=putE_zero h
 refine ⟨putL_rises h,fun x hx=>?_,by rw [h4,putM_len];omega⟩
 rw [h4,mem_putM] at hx
 rcases hx with rfl | hx
 ·exact hm
 ·exact hl.fine x hx
end Go.Proofs.YtnalakhelicjcaaGreatDoor
set_option maxRecDepth 100000
namespace Go.Proofs.YtnalakhelicjcaaGreatDoor
open Go.RowKit
def castL (X:Wd) (n:Nat) (g:Int) (m:M) (k a b:Nat):List M:=if a = n ∧ b < k ∧ (b == n || !hasB X.groups g b) = false then wireL X a b ++ [m] else wireL X a b
structure CastR (X:Wd) (n:Nat) (g:Int) (m:M):Prop where
 at_:n < X.nodes.length
 src:m.src = (n:Int)
 grp:m.grp = g
 fine:msgE X.nodes.length X.groups m = 0
theorem castStep_ok {X Y Z:Wd} {n k:Nat} {g:Int} {m:M} (hc:CastR X n g m) (hR:Right Y) (hn:Y.nodes = X.nodes) (hg:Y.groups = X.groups) (hk:k < X.nodes.length) (hs:castStep Y n g k m = (0,Z)) :
  Right Z ∧ Z.nodes = X.nodes ∧ Z.groups = X.groups ∧ ∀ a b,wireL Z a b = if a = n ∧ b = k ∧ (k == n || !hasB X.groups g k) = false then wireL Y a b ++ [m] else wireL Y a b:=by
 unfold castStep at hs
 rw [hg] at hs
 split at hs
 ·rename_i h1
  cases hs
  exact ⟨hR,hn,hg,fun a b=>by rw [if_neg (by rw [h1];simp)]⟩
 rename_i h1
 split at hs
 ·cases hs
 rename_i h2
 split at hs
 ·cases hs
 rename_i h3
 have e:Z = wirePut Y n k (wireL Y n k ++ [m]):=by cases hs;rfl
 clear hs
 subst e
 have h1:(k == n || !hasB X.groups g k) = false:=by simpa using h1
 have hnY:n < Y.nodes.length:=by rw [hn];exact hc.at_
 have hkY:k < Y.nodes.length:=by rw [hn];exact hk
 have hW:=hR.wire n k hnY hkY
 have hne:n ≠ k:=by
  intro e
  subst e
  simp at h1
 have hb:hasB X.groups g k = true:=by
  cases h:hasB X.groups g k
  ·rw [h] at h1;simp at h1
  ·rfl
 have hl:WireR Y.nodes.length Y.groups n k (wireL Y n k ++ [m]):=by
  refine ⟨fun x hx=>?_, ?_,fun x hx=>?_,Or.inl hne, ?_⟩
  ·rcases List.mem_append.1 hx with hx | hx
   ·exact hW.src x hx
   ·rw [List.mem_singleton.1 hx];exact hc.src
  ·rw [List.pairwise_append]
   refine ⟨hW.rise,by simp,fun x hx y hy=>?_⟩
   rw [List.mem_singleton.1 hy]
   obtain ⟨i,hi,rfl⟩:=List.mem_iff_getElem.1 hx
   have h3':(wireL Y n k)[(wireL Y n k).length - 1].stamp < m.stamp:=by
    rw [← getD_lt _ M.zero]
    have:=fun h=>h3 ⟨by omega,h⟩
    omega
   rcases Nat.lt_or_ge i ((wireL Y n k).length - 1) with h | h
   ·have:=List.pairwise_iff_getElem.1 hW.rise i ((wireL Y n k).length - 1) hi (by omega) h
    omega
   ·have e:i = (wireL Y n k).length - 1:=by omega
    subst e
    exact h3'
  ·rcases List.mem_append.1 hx with hx | hx
   ·exact hW.fine x hx
   ·rw [List.mem_singleton.1 hx,hn,hg];exact ⟨hc.fine,by rw [hc.grp];exact hb⟩
  ·have:=hW.many
   rw [List.length_append]
   simp only [List.length_singleton]
   omega
 refine ⟨hR.setWire hnY hkY hl,hn,hg,fun a b=>?_⟩
 by_cases e:n = a ∧ k = b
 ·obtain ⟨rfl,rfl⟩:=e
  rw [wirePut_at (by rw [hR.nw];exact hnY) (by rw [hR.row n hnY];exact hkY),if_pos ⟨rfl,rfl,h1⟩]
 ·rw [wirePut_ne e,if_neg (fun h=>e ⟨h.1.symm,h.2.1.symm⟩)]
theorem castW_ok {X:Wd} {n:Nat} {g:Int} {m:M} (hc:CastR X n g m) (hR:Right X):∀ (k:Nat) (Y:Wd),k ≤ X.nodes.length → castW X n g m k = (0,Y) →
  Right Y ∧ Y.nodes = X.nodes ∧ Y.groups = X.groups ∧ ∀ a b,wireL Y a b = castL X n g m k a b
 | 0,Y,_,h=>by
  cases h
  exact ⟨hR,rfl,rfl,fun a b=>by unfold castL;rw [if_neg (by omega)]⟩
 | k + 1,Z,hk,h=>by
  unfold castW at h
  obtain ⟨Y,hY⟩:∃ Y,castW X n g m k = (0,Y):=by
   split at h
   ·rename_i h0
    exact ⟨(castW X n g m k).2,Prod.ext h0 rfl⟩
   ·rename_i h0
    rw [h] at h0
    exact absurd rfl h0
  rw [hY] at h
  simp only [if_pos] at h
  obtain ⟨r1,r2,r3,r4⟩:=castW_ok hc hR k Y (by omega) hY
  obtain ⟨s1,s2,s3,s4⟩:=castStep_ok hc r1 r2 r3 (by omega) h
  refine ⟨s1,s2,s3,fun a b=>?_⟩
  rw [s4,r4]
  unfold castL
  by_cases h1:a = n ∧ b = k ∧ (k == n || !hasB X.groups g k) = false
  ·obtain ⟨rfl,rfl,h1⟩:=h1
   rw [if_pos ⟨rfl,rfl,h1⟩,if_neg (by omega),if_pos ⟨rfl,by omega,h1⟩]
  ·rw [if_neg h1]
   by_cases h2:a = n ∧ b < k ∧ (b == n || !hasB X.groups g b) = false
   ·rw [if_pos h2,if_pos ⟨h2.1,by omega,h2.2.2⟩]
   ·rw [if_neg h2,if_neg]
    rintro ⟨h3,h4,h5⟩
    rcases Nat.lt_or_ge b k with h | h
    ·exact h2 ⟨h3,h,h5⟩
    ·obtain rfl:b = k:=by omega
     exact h1 ⟨h3,rfl,h5⟩
theorem clockUp_set (X:Wd) (n:Nat):clockUp X n = nodeSet X n { X.nodes.getD n N.zero with clock:=(X.nodes.getD n N.zero).clock + 1 }:=rfl
theorem holdW_set (X:Wd) (n:Nat) (m:M):holdW X n m = nodeSet X n { X.nodes.getD n N.zero with held:=putL (X.nodes.getD n N.zero).held m }:=rfl
end Go.Proofs.YtnalakhelicjcaaGreatDoor
set_option maxRecDepth 100000
namespace Go.Proofs.YtnalakhelicjcaaGreatDoor
open Go.RowKit Go.Shelf Go.BigFrame
section
variable {P:Program} {md:Region.Mode} {Q:Exit → Act → World → Prop}
end
end Go.Proofs.YtnalakhelicjcaaGreatDoor
