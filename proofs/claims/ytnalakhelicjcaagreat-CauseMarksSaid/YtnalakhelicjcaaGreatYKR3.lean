/-
  Sending, the plain law: what comes is right; the message is behind all on each other member's wire, and nowhere else.
  A drawn region whose operations behind the first calls only read: from there on one walk in the text's order.
-/
import Derived.Test.YtnalakhelicjcaaGreatYKP
import Derived.Test.YtnalakhelicjcaaGreatYKD
import Derived.Test.YtnalakhelicjcaaGreatYKN
import Derived.Deep.QuietTactic
import Derived.BigQuiet
set_option maxRecDepth 100000
namespace Go.Proofs.YtnalakhelicjcaaGreat
open Go.RowKit
def castL (X:Wd) (n:Nat) (g:Int) (m:M) (k a b:Nat):List M:=if a = n ∧ b < k ∧ (b == n || !hasB X.groups g b) = false then wireL X a b ++ [m] else wireL X a b
structure CastR (X:Wd) (n:Nat) (g:Int) (m:M):Prop where
 at_:n < X.nodes.length
 src:m.src = (n:Int)
 grp:m.grp = g
 fine:msgE X.nodes.length X.groups m = 0
theorem castStep_ok {X Y Z:Wd} {n k:Nat} {g:Int} {m:M} (hc:CastR X n g m) (hR:Right Y) (hn:Y.nodes = X.nodes) (hg:Y.groups = X.groups) (hk:k < X.nodes.length) (hs:castStep Y n g k m = (0,Z)) :
  Right Z ∧ Z.nodes = X.nodes ∧ Z.groups = X.groups ∧ ∀ a b,wireL Z a b = if a = n ∧ b = k ∧ (k == n || !hasB X.groups g k) = false then wireL Y a b ++ [m] else wireL Y a b:=by
 unfold castStep at hs
 rw [hg] at hs
 split at hs
 ·rename_i h1
  cases hs
  exact ⟨hR,hn,hg,fun a b=>by rw [if_neg (by rw [h1];simp)]⟩
 rename_i h1
 split at hs
 ·cases hs
 rename_i h2
 split at hs
 ·cases hs
 rename_i h3
 have e:Z = wirePut Y n k (wireL Y n k ++ [m]):=by cases hs;rfl
 clear hs
 subst e
 have h1:(k == n || !hasB X.groups g k) = false:=by simpa using h1
 have hnY:n < Y.nodes.length:=by rw [hn];exact hc.at_
 have hkY:k < Y.nodes.length:=by rw [hn];exact hk
 have hW:=hR.wire n k hnY hkY
 have hne:n ≠ k:=by
  intro e
  subst e
  simp at h1
 have hb:hasB X.groups g k = true:=by
  cases h:hasB X.groups g k
  ·rw [h] at h1;simp at h1
  ·rfl
 have hl:WireR Y.nodes.length Y.groups n k (wireL Y n k ++ [m]):=by
  refine ⟨fun x hx=>?_, ?_,fun x hx=>?_,Or.inl hne, ?_⟩
  ·rcases List.mem_append.1 hx with hx | hx
   ·exact hW.src x hx
   ·rw [List.mem_singleton.1 hx];exact hc.src
  ·rw [List.pairwise_append]
   refine ⟨hW.rise,by simp,fun x hx y hy=>?_⟩
   rw [List.mem_singleton.1 hy]
   obtain ⟨i,hi,rfl⟩:=List.mem_iff_getElem.1 hx
   have h3':(wireL Y n k)[(wireL Y n k).length - 1].stamp < m.stamp:=by
    rw [← getD_lt _ M.zero]
    have:=fun h=>h3 ⟨by omega,h⟩
    omega
   rcases Nat.lt_or_ge i ((wireL Y n k).length - 1) with h | h
   ·have:=List.pairwise_iff_getElem.1 hW.rise i ((wireL Y n k).length - 1) hi (by omega) h
    omega
   ·have e:i = (wireL Y n k).length - 1:=by omega
    subst e
    exact h3'
  ·rcases List.mem_append.1 hx with hx | hx
   ·exact hW.fine x hx
   ·rw [List.mem_singleton.1 hx,hn,hg];exact ⟨hc.fine,by rw [hc.grp];exact hb⟩
  ·have:=hW.many
   rw [List.length_append]
   simp only [List.length_singleton]
   omega
 refine ⟨hR.setWire hnY hkY hl,hn,hg,fun a b=>?_⟩
 by_cases e:n = a ∧ k = b
 ·obtain ⟨rfl,rfl⟩:=e
  rw [wirePut_at (by rw [hR.nw];exact hnY) (by rw [hR.row n hnY];exact hkY),if_pos ⟨rfl,rfl,h1⟩]
 ·rw [wirePut_ne e,if_neg (fun h=>e ⟨h.1.symm,h.2.1.symm⟩)]
theorem castW_ok {X:Wd} {n:Nat} {g:Int} {m:M} (hc:CastR X n g m) (hR:Right X):∀ (k:Nat) (Y:Wd),k ≤ X.nodes.length → castW X n g m k = (0,Y) →
  Right Y ∧ Y.nodes = X.nodes ∧ Y.groups = X.groups ∧ ∀ a b,wireL Y a b = castL X n g m k a b
 | 0,Y,_,h=>by
  cases h
  exact ⟨hR,rfl,rfl,fun a b=>by unfold castL;rw [if_neg (by omega)]⟩
 | k + 1,Z,hk,h=>by
  unfold castW at h
  obtain ⟨Y,hY⟩:∃ Y,castW X n g m k = (0,Y):=by
   split at h
   ·rename_i h0
    exact ⟨(castW X n g m k).2,Prod.ext h0 rfl⟩
   ·rename_i h0
    rw [h] at h0
    exact absurd rfl h0
  rw [hY] at h
  simp only [if_pos] at h
  obtain ⟨r1,r2,r3,r4⟩:=castW_ok hc hR k Y (by omega) hY
  obtain ⟨s1,s2,s3,s4⟩:=castStep_ok hc r1 r2 r3 (by omega) h
  refine ⟨s1,s2,s3,fun a b=>?_⟩
  rw [s4,r4]
  unfold castL
  by_cases h1:a = n ∧ b = k ∧ (k == n || !hasB X.groups g k) = false
  ·obtain ⟨rfl,rfl,h1⟩:=h1
   rw [if_pos ⟨rfl,rfl,h1⟩,if_neg (by omega),if_pos ⟨rfl,by omega,h1⟩]
  ·rw [if_neg h1]
   by_cases h2:a = n ∧ b < k ∧ (b == n || !hasB X.groups g b) = false
   ·rw [if_pos h2,if_pos ⟨h2.1,by omega,h2.2.2⟩]
   ·rw [if_neg h2,if_neg]
    rintro ⟨h3,h4,h5⟩
    rcases Nat.lt_or_ge b k with h | h
    ·exact h2 ⟨h3,h,h5⟩
    ·obtain rfl:b = k:=by omega
     exact h1 ⟨h3,rfl,h5⟩
theorem clockUp_set (X:Wd) (n:Nat):clockUp X n = nodeSet X n { X.nodes.getD n N.zero with clock:=(X.nodes.getD n N.zero).clock + 1 }:=rfl
theorem holdW_set (X:Wd) (n:Nat) (m:M):holdW X n m = nodeSet X n { X.nodes.getD n N.zero with held:=putL (X.nodes.getD n N.zero).held m }:=rfl
end Go.Proofs.YtnalakhelicjcaaGreat
set_option maxRecDepth 100000
namespace Go.Proofs.YtnalakhelicjcaaGreat
open Go.RowKit Go.Shelf Go.BigFrame
section
variable {P:Program} {md:Region.Mode} {Q:Exit → Act → World → Prop}
end
end Go.Proofs.YtnalakhelicjcaaGreat
