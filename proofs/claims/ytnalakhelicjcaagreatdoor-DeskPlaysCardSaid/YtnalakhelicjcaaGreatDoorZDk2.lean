/-
  The document's numbers of a line: just so many.
-/
import Derived.Test.YtnalakhelicjcaaGreatDoorZGA
import Derived.Test.YtnalakhelicjcaaGreatDoorZDn
import Derived.Test.YtnalakhelicjcaaGreatDoorZKC
set_option maxRecDepth 100000
namespace Go.Proofs.YtnalakhelicjcaaGreatDoor
open Go.RowKit Go.Shelf Go.BigFrame Go.Deep
def numsG:Nat → List UInt8 → Option (List Nat)
 | 0,_=>some []
 | k + 1,s=>match numB (wordB s).1 with
  | none=>none
  | some a=>if (wordB s).2.2 = decide (0 < k) then (numsG k (wordB s).2.1).map (a :: ·) else none
theorem numsG_none {k:Nat} {s:List UInt8} (h:numB (wordB s).1 = none ∨ (wordB s).2.2 ≠ decide (0 < k)):numsG (k + 1) s = none:=by
 unfold numsG
 rcases h with h | h
 ·rw [h]
 ·cases numB (wordB s).1 with
  | none=>rfl
  | some a=>simp only [if_neg h]
theorem numsG_some {k a:Nat} {s:List UInt8} (h:numB (wordB s).1 = some a) (h2:(wordB s).2.2 = decide (0 < k)):numsG (k + 1) s = (numsG k (wordB s).2.1).map (a :: ·):=by
 conv=>lhs;unfold numsG
 rw [h]
 simp only [if_pos h2]
theorem nums1_G (s:List UInt8):numsG 1 s = (nums1 s).map (fun a=>[a]):=by
 unfold nums1
 by_cases h:(wordB s).2.2 = true
 ·rw [if_pos h]
  exact numsG_none (Or.inr (by rw [h];decide))
 ·have h0:(wordB s).2.2 = false:=by simpa using h
  rw [if_neg h]
  cases hn:numB (wordB s).1 with
  | none=>exact numsG_none (Or.inl hn)
  | some a=>rw [numsG_some hn (by rw [h0];rfl)];rfl
theorem nums2_G (s:List UInt8):numsG 2 s = (nums2 s).map (fun p=>[p.1,p.2]):=by
 unfold nums2
 by_cases h:(wordB s).2.2 = true
 ·rw [if_pos h]
  cases hn:numB (wordB s).1 with
  | none=>exact numsG_none (Or.inl hn)
  | some a =>
   rw [numsG_some hn (by rw [h];rfl),nums1_G]
   cases nums1 (wordB s).2.1 <;> rfl
 ·have h0:(wordB s).2.2 = false:=by simpa using h
  rw [if_neg h]
  exact numsG_none (Or.inr (by rw [h0];decide))
theorem wordB_len:∀ s:List UInt8,(wordB s).1.length ≤ s.length ∧ (wordB s).2.1.length ≤ s.length
 | []=>⟨Nat.le_refl _,Nat.le_refl _⟩
 | c :: s=>by
  have ih:=wordB_len s
  unfold wordB
  split
  ·exact ⟨Nat.zero_le _,by simp⟩
  ·simp only [List.length_cons]
   omega
theorem numsG_lt:∀ (k:Nat) (s:List UInt8) (xs:List Nat),numsG k s = some xs → ∀ m ∈ xs,m < 1000000
 | 0,s,xs,h,m,hm=>by
  have h0:xs = []:=(Option.some.inj h).symm
  rw [h0] at hm
  cases hm
 | k + 1,s,xs,h,m,hm=>by
  cases hn:numB (wordB s).1 with
  | none=>rw [numsG_none (Or.inl hn)] at h;cases h
  | some a =>
   by_cases h2:(wordB s).2.2 = decide (0 < k)
   ·rw [numsG_some hn h2] at h
    obtain ⟨ys,h3,rfl⟩:=Option.map_eq_some_iff.1 h
    rcases List.mem_cons.1 hm with rfl | hm
    ·exact numB_lt hn
    ·exact numsG_lt k _ ys h3 m hm
   ·rw [numsG_none (Or.inr h2)] at h;cases h
def NsPost (w:World) (r:Option (List Nat)) (e:Ending) (w':World):Prop:=
 Below w.heap.size w w' ∧ ((r = none ∧ e = .returned (.tuple #[.slice none 0 0, .bool false])) ∨ ∃ (xs:List Nat) (a:Option Addr) (c:Nat),r = some xs ∧ e = .returned (.tuple #[.slice a xs.length c, .bool true]) ∧ Ints w' (.slice a xs.length c) (xs.map fun (n:Nat)=>(n:Int)))
theorem numV_none {s:List UInt8} (h:numB s = none):numV s = -1:=by
 unfold numV
 rw [h]
theorem numV_some {s:List UInt8} {n:Nat} (h:numB s = some n):numV s = n:=by
 unfold numV
 rw [h]
set_option maxHeartbeats 1000000 in
theorem nums_c (w:World) (s:List UInt8) (hs:s.length ≤ 1000000) (n:Nat) (hn:n ≤ 2):Calls Tryz.prog 45 #[.string (strB s), .int .i64 n] w (NsPost w (numsG n s)):=by
 obtain ⟨j0,hj0,jz0,jz1,jz2⟩:=info_parts infoCInt
 obtain ⟨r,hr⟩:∃ r,numsG n s = r:=⟨_,rfl⟩
 rw [hr]
 obtain ⟨P,hP⟩:∃ P,NsPost w r = P:=⟨_,rfl⟩
 rw [hP]
 replace hP:=Lib.hid hP
 replace hr:=Lib.hid hr
 go_enter Tryz.func45,Tryz.ntmps45
 go_wp2_with fail
 go_loopw [0,6,7] (fun sv v i wr=>∃ (k:Nat) (t:List UInt8) (xs:List Nat),k ≤ n ∧ i = .int .i64 k ∧ sv = .string (strB t) ∧ t.length ≤ 1000000 ∧ wr.ownsRow w.heap.size 3 1 v xs.length (xs.map fun (n:Nat)=>Value.int .i64 n) ∧ Below w.heap.size w wr ∧ xs.length = k ∧ Hid (r = (numsG (n - k) t).map (xs ++ ·))) (fun _ _ i _=>n - (intOf i).toNat)
 case atStart=>exact ⟨0,s,[],by omega,rfl,rfl,hs,World.ownsRow_nil _ _ _ _,Below.refl _ _,rfl,Lib.hid (by rw [← hr.out];cases numsG n s <;> rfl)⟩
 case round =>
  obtain ⟨k,t,xs,hk,rfl,rfl,ht,ho,hb,hxl,hrr⟩:=hrel
  obtain ⟨a9,c9,rfl⟩:=own_form ho
  rw [hxl] at ho ⊢
  by_cases hlt:k < n
  ·have hCw:=word_c wr t ht
   have hwl:=wordB_len t
   have hno:=fun h=>numsG_none (k:=n - k - 1) (s:=t) h
   have hye:=fun a h h2=>numsG_some (k:=n - k - 1) (a:=a) (s:=t) h h2
   rw [show n - k - 1 + 1 = n - k by omega] at hno hye
   have hkn:decide (0 < n - k - 1) = decide (k + 1 < n):=by
    by_cases h:k + 1 < n
    ·rw [decide_eq_true h,decide_eq_true (by omega)]
    ·rw [decide_eq_false h,decide_eq_false (by omega)]
   rw [hkn] at hno
   simp only [hkn] at hye
   obtain ⟨p,hp⟩:∃ p,wordB t = p:=⟨_,rfl⟩
   rw [hp] at hCw hwl hno
   simp only [hp] at hye
   obtain ⟨a,rest,more⟩:=p
   dsimp only at hCw hwl hno hye
   have ha1:a.length ≤ 1000000:=by omega
   have hr1:rest.length ≤ 1000000:=by omega
   clear hp hwl hkn
   have hN:=fun w'=>num_c w' a ha1
   replace hxl:=Lib.hid hxl
   replace hno:=Lib.hid hno
   replace hye:=Lib.hid hye
   obtain ⟨q,hq⟩:∃ q,numB a = q:=⟨_,rfl⟩
   rw [hq] at hno
   simp only [hq] at hye
   cases q with
   | none =>
    rw [numV_none hq] at hN
    clear hq
    go_wp2_with fail
    refine hCw.mono ?_
    clear hCw
    rintro e w1 ⟨rfl,b1⟩
    go_wp2_with fail
    refine (hN _).mono ?_
    clear hN
    rintro e w2 ⟨rfl,b2⟩
    go_wp2_with fail
    rw [← hP.out]
    rw [hno.out (Or.inl trivial)] at hrr
    exact ⟨(hb.trans (b1.mono hb.size)).trans (b2.mono (Nat.le_trans hb.size b1.size)),Or.inl ⟨hrr,rfl⟩⟩
   | some m =>
    rw [numV_some hq] at hN
    have hm6:=numB_lt hq
    clear hq
    have hnn:decide ((m:Int) < 0) = false:=by simp
    have hw1:IntKind.i64.wrap ((k:Int) + 1) = (k:Int) + 1:=IntWalk.i64_in _ (by omega)
    have hdk:decide ((k:Int) + 1 < (n:Int)) = decide (k + 1 < n):=by
     by_cases h:k + 1 < n
     ·rw [decide_eq_true h,decide_eq_true (by omega)]
     ·rw [decide_eq_false h,decide_eq_false (by omega)]
    by_cases hmo:more = decide (k + 1 < n)
    ·have hye2:=hye.out m rfl hmo
     have hbq:(more == decide (k + 1 < n)) = true:=by rw [hmo];simp
     replace hye2:=Lib.hid hye2
     replace hmo:=Lib.hid hmo
     obtain ⟨d,hd⟩:∃ d,decide (k + 1 < n) = d:=⟨_,rfl⟩
     rw [hd] at hdk hbq
     clear hd
     go_wp2_with fail
     refine hCw.mono ?_
     clear hCw
     rintro e w1 ⟨rfl,b1⟩
     go_wp2_with fail
     refine (hN _).mono ?_
     rintro e w2 ⟨rfl,b2⟩
     go_wp2_with fail
     refine (hN _).mono ?_
     clear hN
     rintro e w3 ⟨rfl,b3⟩
     have b13:=below_trans b1 (below_trans b2 b3)
     have hb3:=hb.trans (b13.mono hb.size)
     have ho3:=owns_below ho b13
     have hs3:=hb3.size
     go_wp2_with (at_builtin;refine wpList_append_own _ rfl _ _ 22 rfl w.heap.size 3 j0 _ 1 8 Tryz.underlying22 hj0 jz0 jz1 jz2 rfl (by decide) _ _ _ rfl (ho3.alloc _) ⟨w3.heap.size,0,none⟩ 1 1 [.int .i64 m] rfl rfl (cells_new w3 #[.int .i64 m] _) (by simp [Value.oneCell']) (by unfold maxLen;omega) (by omega) (by simp;omega) ?_;intro v' w6 hown' hgrow _)
     go_roundw
     case rel =>
      refine ⟨k + 1,rest,xs ++ [m],by omega,by go_num,rfl,hr1, ?_,below_app hb3 ho3 (by omega) hgrow,by rw [List.length_append,List.length_singleton,hxl.out],Lib.hid ?_⟩
      ·rw [List.length_append,List.length_singleton,hxl.out,List.map_append]
       exact hown'
      ·rw [hrr,hye2.out,show n - (k + 1) = n - k - 1 by omega]
       cases numsG (n - k - 1) rest <;> simp
     case measure=>simp [intOf];omega
    ·have hno2:=hno.out (Or.inr hmo)
     have hbq:(more == decide (k + 1 < n)) = false:=beq_eq_false_iff_ne.2 hmo
     replace hno2:=Lib.hid hno2
     replace hmo:=Lib.hid hmo
     obtain ⟨d,hd⟩:∃ d,decide (k + 1 < n) = d:=⟨_,rfl⟩
     rw [hd] at hdk hbq
     clear hd
     go_wp2_with fail
     refine hCw.mono ?_
     clear hCw
     rintro e w1 ⟨rfl,b1⟩
     go_wp2_with fail
     refine (hN _).mono ?_
     rintro e w2 ⟨rfl,b2⟩
     go_wp2_with fail
     rw [← hP.out]
     rw [hno2.out] at hrr
     exact ⟨(hb.trans (b1.mono hb.size)).trans (b2.mono (Nat.le_trans hb.size b1.size)),Or.inl ⟨hrr,rfl⟩⟩
  ·obtain rfl:k = n:=by omega
   rw [Nat.sub_self] at hrr
   have hrr2:r = some xs:=by rw [hrr];simp [numsG]
   replace hrr2:=Lib.hid hrr2
   go_wp2_with fail
   rw [← hP.out]
   refine ⟨hb,Or.inr ⟨xs,a9,c9,hrr2.out,by rw [hxl];rfl, ?_, ?_⟩⟩
   ·intro x hx
    obtain ⟨m,hm,rfl⟩:=List.mem_map.1 hx
    have:=numsG_lt k s xs (hr.out.trans hrr2.out) m hm
    unfold I64
    omega
   ·rw [List.length_map,List.map_map,hxl]
    exact Row.of_owns ho (by rw [List.length_map];omega)
end Go.Proofs.YtnalakhelicjcaaGreatDoor
