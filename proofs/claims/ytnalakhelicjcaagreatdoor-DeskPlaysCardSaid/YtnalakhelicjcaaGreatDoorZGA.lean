/-
  Lines of a script: words, numbers, commands, as lists of bytes.
-/
import Derived.Lib.Split
import Derived.Lib.CutLaws
import Derived.Lib.ItoaNum
import Derived.Lib.AtoiAllCases
import Derived.Lib.IndexBytes
import Derived.Test.YtnalakhelicjcaaGreatDoorZKG
import Derived.Laws.BytesArg
import Derived.Laws.DeepStrings4
import Derived.Lib.TrimByte
import Derived.BigQuiet
import Derived.Maps.AppendAt
set_option maxRecDepth 100000
namespace Go.Proofs.YtnalakhelicjcaaGreatDoor
open Go
def wordB:List UInt8 → List UInt8 × List UInt8 × Bool
 | []=>([],[],false)
 | c :: s=>if c = 32 then ([],s,true) else (c :: (wordB s).1,(wordB s).2.1,(wordB s).2.2)
theorem wordB_cut:∀ s:List UInt8,wordB s = Lib.cut s [32]
 | []=>by simp [wordB,Lib.cut,Lib.index]
 | c :: s=>by
  have ih:=wordB_cut s
  have hg:=Lib.index_ge s [32]
  unfold wordB
  by_cases h:c = 32
  ·subst h
   simp [Lib.cut,Lib.index]
  ·have hp:([32]:List UInt8).isPrefixOf (c :: s) = false:=by
    simp only [List.isPrefixOf,Bool.and_true]
    exact beq_eq_false_iff_ne.2 fun e=>h e.symm
   have hi:Lib.index (c :: s) [32] = if Lib.index s [32] == -1 then -1 else Lib.index s [32] + 1:=by
    show (if ([32]:List UInt8).isPrefixOf (c :: s) then 0 else if Lib.index s [32] == -1 then -1 else Lib.index s [32] + 1) = _
    rw [hp]
    rfl
   rw [if_neg h,ih]
   unfold Lib.cut
   rw [hi]
   clear hi hp ih
   generalize Lib.index s [32] = j at *
   by_cases hm:j = -1
   ·subst hm
    rfl
   ·have hb:(j == -1) = false:=beq_eq_false_iff_ne.2 hm
    obtain ⟨i,rfl⟩:=Int.eq_ofNat_of_zero_le (show 0 ≤ j by omega)
    rw [hb]
    have e:((i:Int) + 1).toNat = i + 1:=by omega
    simp [e,show (0:Int) ≤ (i:Int) + 1 by omega]
theorem wordB_none {s:List UInt8} (h:(wordB s).2.2 = false):(wordB s).1 = s ∧ (wordB s).2.1 = []:=by
 rw [wordB_cut] at h ⊢
 unfold Lib.cut at h ⊢
 split at h
 ·cases h
 ·rename_i hn
  rw [if_neg hn]
  exact ⟨rfl,rfl⟩
theorem wordB_splitK (k:Nat) (s:List UInt8):Lib.splitK [32] 0 (k + 1) s = if (wordB s).2.2 = true then (wordB s).1 :: Lib.splitK [32] 0 k (wordB s).2.1 else [s]:=by
 have hg:=Lib.index_ge s [32]
 rw [wordB_cut]
 show (if Lib.index s [32] == -1 then [s] else _) = _
 unfold Lib.cut
 by_cases hm:Lib.index s [32] = -1
 ·simp [hm]
 ·have hb:(Lib.index s [32] == -1) = false:=beq_eq_false_iff_ne.2 hm
  have h0:0 ≤ Lib.index s [32]:=by omega
  simp [hb,h0]
theorem wordB_count (s:List UInt8):Lib.count s [32] = if (wordB s).2.2 = true then 1 + Lib.count (wordB s).2.1 [32] else 0:=by
 have hg:=Lib.index_ge s [32]
 rw [wordB_cut]
 unfold Lib.cut
 by_cases hm:Lib.index s [32] = -1
 ·rw [Lib.count_miss hm]
  simp [hm]
 ·have h0:0 ≤ Lib.index s [32]:=by omega
  obtain ⟨i,hi⟩:=Int.eq_ofNat_of_zero_le h0
  rw [Lib.count_hit (by simp) hi,hi]
  simp
theorem split_word (s:List UInt8):Lib.split s [32] = if (wordB s).2.2 = true then (wordB s).1 :: Lib.split (wordB s).2.1 [32] else [s]:=by
 unfold Lib.split
 rw [wordB_count]
 by_cases h:(wordB s).2.2 = true
 ·rw [if_pos h,if_pos h,Nat.add_comm,wordB_splitK,if_pos h]
 ·rw [if_neg h,if_neg h]
  rfl
def valB (s:List UInt8):Nat:=s.foldl (fun n c=>10 * n + (c.toNat - 48)) 0
def digB (c:UInt8):Bool:=decide (48 ≤ c.toNat) && decide (c.toNat ≤ 57)
def numB (s:List UInt8):Option Nat:=if 1 ≤ s.length ∧ s.length ≤ 6 ∧ s.all digB = true ∧ Lib.decDigits (valB s) = s then some (valB s) else none
theorem valB_snoc (s:List UInt8) (c:UInt8):valB (s ++ [c]) = 10 * valB s + (c.toNat - 48):=by simp [valB,List.foldl_append]
theorem digit_nat {d:Nat} (h:d < 10):(UInt8.ofNat (48 + d)).toNat = 48 + d:=by
 rw [UInt8.toNat_ofNat_of_lt' (by show _ < 256;omega)]
theorem dec_all (n:Nat):(Lib.decDigits n).all digB = true ∧ valB (Lib.decDigits n) = n ∧ Lib.decDigits n ≠ []:=by
 induction n using Nat.strongRecOn with
 | _ n ih =>
  rw [Lib.decDigits]
  by_cases h:n < 10
  ·rw [dif_pos h]
   have:=digit_nat h
   refine ⟨?_, ?_,by simp⟩
   ·simp only [List.all_cons,List.all_nil,digB,this,Bool.and_true,Bool.and_eq_true,decide_eq_true_eq];omega
   ·simp only [valB,List.foldl_cons,List.foldl_nil,this];omega
  ·rw [dif_neg h]
   obtain ⟨h1,h2,h3⟩:=ih (n / 10) (by omega)
   have:=digit_nat (d:=n % 10) (by omega)
   refine ⟨?_, ?_,by simp⟩
   ·rw [List.all_append,h1]
    simp only [List.all_cons,List.all_nil,digB,this,Bool.and_true,Bool.and_eq_true,decide_eq_true_eq,Bool.true_and];omega
   ·rw [valB_snoc,h2,this]
    omega
theorem numB_iff (s:List UInt8) (n:Nat):numB s = some n ↔ s = Lib.decDigits n ∧ s.length ≤ 6:=by
 unfold numB
 constructor
 ·intro h
  split at h
  ·rename_i h1
   cases h
   exact ⟨h1.2.2.2.symm,h1.2.1⟩
  ·cases h
 ·rintro ⟨rfl,h⟩
  obtain ⟨h1,h2,h3⟩:=dec_all n
  have hl:1 ≤ (Lib.decDigits n).length:=Nat.pos_of_ne_zero fun e=>h3 (List.eq_nil_of_length_eq_zero e)
  rw [if_pos ⟨hl,h,h1,by rw [h2]⟩,h2]
theorem valB_lt:∀ (k:Nat) (s:List UInt8),s.length = k → s.all digB = true → valB s < 10 ^ k
 | 0,s,hl,_=>by
  obtain rfl:=List.eq_nil_of_length_eq_zero hl
  decide
 | k + 1,s,hl,h=>by
  obtain ⟨t,c,rfl⟩:∃ t c,s = t ++ [c]:=⟨_,_,(List.dropLast_concat_getLast (by intro e;subst e;simp at hl)).symm⟩
  rw [List.all_append] at h
  simp only [Bool.and_eq_true,List.all_cons,List.all_nil,Bool.and_true] at h
  have h1:=valB_lt k t (by simpa using hl) h.1
  have h2:c.toNat - 48 < 10:=by
   have:=h.2
   unfold digB at this
   simp at this
   omega
  rw [valB_snoc,Nat.pow_succ]
  omega
theorem numB_lt {s:List UInt8} {n:Nat} (h:numB s = some n):n < 1000000:=by
 unfold numB at h
 split at h
 ·rename_i h1
  cases h
  have:=valB_lt _ s rfl h1.2.2.1
  have h6:(10:Nat) ^ s.length ≤ 10 ^ 6:=Nat.pow_le_pow_right (by decide) h1.2.1
  omega
 ·cases h
theorem parse_dig:∀ (s:List UInt8) (acc:Nat),s.all digB = true → acc * 10 ^ s.length + 10 ^ s.length ≤ 1844674407370955162 → Lib.parseUint10 acc s = .ok (s.foldl (fun n c=>10 * n + (c.toNat - 48)) acc)
 | [],acc,_,_=>rfl
 | c :: s,acc,h,hl=>by
  simp only [List.all_cons,Bool.and_eq_true] at h
  have h2:=h.1
  unfold digB at h2
  simp only [Bool.and_eq_true,decide_eq_true_eq] at h2
  simp only [List.length_cons,Nat.pow_succ] at hl
  have hp:1 ≤ 10 ^ s.length:=Nat.one_le_pow _ _ (by decide)
  have hm:acc * 1 ≤ acc * (10 ^ s.length):=Nat.mul_le_mul_left _ hp
  have e1:acc * (10 ^ s.length * 10) = 10 * (acc * 10 ^ s.length):=by rw [Nat.mul_comm (10 ^ s.length), ← Nat.mul_assoc,Nat.mul_comm acc 10,Nat.mul_assoc]
  rw [e1] at hl
  unfold Lib.parseUint10
  rw [if_pos h2,if_neg (by omega),if_neg (by omega),parse_dig s _ h.2 ?_]
  ·simp only [List.foldl_cons]
   rw [Nat.mul_comm acc 10]
  ·have e2:(acc * 10 + (c.toNat - 48)) * 10 ^ s.length = 10 * (acc * 10 ^ s.length) + (c.toNat - 48) * 10 ^ s.length:=by rw [Nat.add_mul,Nat.mul_comm acc 10,Nat.mul_assoc]
   have e3:(c.toNat - 48) * 10 ^ s.length ≤ 9 * 10 ^ s.length:=Nat.mul_le_mul_right _ (by omega)
   omega
theorem dec_digit {n:Nat}:∀ c ∈ Lib.decDigits n,c.toNat ≠ 43 ∧ c.toNat ≠ 45:=fun c hc=>by
 have:=List.all_eq_true.1 (dec_all n).1 c hc
 unfold digB at this
 simp at this
 omega
theorem atoi_dec {n:Nat} (h:(Lib.decDigits n).length ≤ 6):Lib.atoiAll (Lib.decDigits n) = .ok n:=by
 obtain ⟨h1,h2,h3⟩:=dec_all n
 have hc:=dec_digit (n:=n)
 obtain ⟨l,hl⟩:∃ l,Lib.decDigits n = l:=⟨_,rfl⟩
 rw [hl] at h1 h2 h3 hc h ⊢
 cases l with
 | nil=>exact absurd rfl h3
 | cons c r =>
  obtain ⟨a,b⟩:=hc c (List.mem_cons_self ..)
  rw [Lib.atoiAll_plain c r a b]
  have hlt:=valB_lt _ _ rfl h1
  have h6:(10:Nat) ^ (c :: r).length ≤ 10 ^ 6:=Nat.pow_le_pow_right (by decide) h
  unfold Lib.parseMag
  rw [if_neg (by simp),parse_dig _ 0 h1 (by omega)]
  show Lib.signless (.ok (valB (c :: r))) = _
  rw [h2]
  rw [h2] at hlt
  show (if 9223372036854775808 ≤ n then _ else _) = _
  rw [if_neg (by omega)]
theorem num_some {s:List UInt8} {n:Nat} (h:numB s = some n):Lib.atoiAll s = .ok n ∧ s.length ≤ 6 ∧ Lib.itoa n = s:=by
 obtain ⟨rfl,hl⟩:=(numB_iff s n).1 h
 refine ⟨atoi_dec hl,hl, ?_⟩
 unfold Lib.itoa
 rw [if_neg (by omega)]
 rfl
theorem num_none {s:List UInt8} (h:numB s = none) {v:Int} (ha:Lib.atoiAll s = .ok v) (h0:0 ≤ v) (hl:s.length ≤ 6):¬ Lib.itoa v = s:=fun e=>by
 obtain ⟨n,rfl⟩:=Int.eq_ofNat_of_zero_le h0
 have e2:Lib.itoa (n:Int) = Lib.decDigits n:=by
  unfold Lib.itoa
  rw [if_neg (by omega)]
  rfl
 rw [e2] at e
 have:=(numB_iff s n).2 ⟨e.symm,hl⟩
 rw [h] at this
 cases this
inductive Cmd where
 | send (a b:Nat) (body:List UInt8)
 | null (a b:Nat)
 | move (a b:Nat)
 | told (a:Nat)
 | held (a:Nat)
 | calm
 | bad
def nums1 (s:List UInt8):Option Nat:=if (wordB s).2.2 = true then none else numB (wordB s).1
def nums2 (s:List UInt8):Option (Nat × Nat):=if (wordB s).2.2 = true then match numB (wordB s).1,nums1 (wordB s).2.1 with
 | some a,some b=>some (a,b)
 | _,_=>none else none
def nums3 (s:List UInt8):Option (Nat × Nat × List UInt8):=if (wordB s).2.2 = true ∧ (wordB (wordB s).2.1).2.2 = true then match numB (wordB s).1,numB (wordB (wordB s).2.1).1 with
 | some a,some b=>some (a,b,(wordB (wordB s).2.1).2.1)
 | _,_=>none else none
def kSend:List UInt8:=[115,101,110,100]
def kNull:List UInt8:=[110,117,108,108]
def kMove:List UInt8:=[109,111,118,101]
def kTold:List UInt8:=[116,111,108,100]
def kHeld:List UInt8:=[104,101,108,100]
def kCalm:List UInt8:=[99,97,108,109]
def parseB (s:List UInt8):Cmd:=
 if s = kCalm then .calm
 else if (wordB s).2.2 = true then
  if (wordB s).1 = kSend then match nums3 (wordB s).2.1 with
   | some p=>.send p.1 p.2.1 p.2.2
   | none=>.bad
  else if (wordB s).1 = kNull then match nums2 (wordB s).2.1 with
   | some p=>.null p.1 p.2
   | none=>.bad
  else if (wordB s).1 = kMove then match nums2 (wordB s).2.1 with
   | some p=>.move p.1 p.2
   | none=>.bad
  else if (wordB s).1 = kTold then match nums1 (wordB s).2.1 with
   | some a=>.told a
   | none=>.bad
  else if (wordB s).1 = kHeld then match nums1 (wordB s).2.1 with
   | some a=>.held a
   | none=>.bad
  else .bad
 else .bad
def lineB:List UInt8 → List UInt8 × List UInt8
 | []=>([],[])
 | c :: s=>if c = 10 then ([],s) else (c :: (lineB s).1,(lineB s).2)
theorem lineB_len:∀ {s:List UInt8},s ≠ [] → (lineB s).2.length < s.length
 | [],h=>absurd rfl h
 | c :: s,_=>by
  unfold lineB
  split
  ·simp
  ·cases s with
   | nil=>simp [lineB]
   | cons d t =>
    have:=lineB_len (s:=d :: t) (by simp)
    simp only [List.length_cons] at this ⊢
    omega
def linesK:Nat → List UInt8 → List (List UInt8)
 | 0,_=>[]
 | k + 1,s=>if s = [] then [] else (lineB s).1 :: linesK k (lineB s).2
def linesB (s:List UInt8):List (List UInt8):=linesK s.length s
theorem linesK_more:∀ (k:Nat) (s:List UInt8),s.length ≤ k → linesK k s = linesB s:=by
 intro k
 induction k using Nat.strongRecOn with
 | _ k ih =>
  intro s h
  unfold linesB
  cases s with
  | nil=>cases k <;> rfl
  | cons c t =>
   have hl:=lineB_len (s:=c :: t) (by simp)
   obtain ⟨k,rfl⟩:∃ n,k = n + 1:=⟨k - 1,by simp at h;omega⟩
   simp only [List.length_cons] at h hl ⊢
   show (if c :: t = [] then [] else _) = (if c :: t = [] then [] else _)
   rw [if_neg (by simp),if_neg (by simp),ih k (by omega) _ (by omega)]
   by_cases e:t.length < k + 1
   ·rw [ih t.length (by omega) _ (by omega)]
   ·obtain rfl:t.length = k:=by omega
    rw [ih t.length (by omega) _ (by omega)]
theorem linesB_nil:linesB [] = []:=rfl
theorem linesB_step {s:List UInt8} (h:s ≠ []):linesB s = (lineB s).1 :: linesB (lineB s).2:=by
 have hl:=lineB_len h
 obtain ⟨k,hk⟩:∃ k,s.length = k + 1:=⟨s.length - 1,by omega⟩
 unfold linesB
 rw [hk]
 show (if s = [] then [] else _) = _
 rw [if_neg h,linesK_more k _ (by omega)]
 rfl
theorem lineB_ends:∀ (a b:List UInt8),(∀ c ∈ a,c ≠ 10) → lineB (a ++ 10 :: b) = (a,b)
 | [],b,_=>by simp [lineB]
 | c :: a,b,h=>by
  have h1:=h c (List.mem_cons_self ..)
  have h2:=lineB_ends a b fun d hd=>h d (List.mem_cons_of_mem _ hd)
  rw [List.cons_append,lineB,if_neg h1,h2]
theorem lineB_split:∀ {s:List UInt8},s ≠ [] → s.getLast? = some 10 → s = (lineB s).1 ++ 10 :: (lineB s).2 ∧ (∀ c ∈ (lineB s).1,c ≠ 10) ∧ ((lineB s).2 = [] ∨ (lineB s).2.getLast? = some 10)
 | [],h,_=>absurd rfl h
 | c :: s,_,h=>by
  unfold lineB
  by_cases e:c = 10
  ·rw [if_pos e]
   subst e
   refine ⟨rfl,fun _ h=>by simp at h, ?_⟩
   cases s with
   | nil=>exact Or.inl rfl
   | cons d t=>exact Or.inr (by rw [List.getLast?_cons_cons] at h;exact h)
  ·rw [if_neg e]
   cases s with
   | nil =>
    simp at h
    exact absurd h e
   | cons d t =>
    rw [List.getLast?_cons_cons] at h
    obtain ⟨h1,h2,h3⟩:=lineB_split (s:=d :: t) (by simp) h
    refine ⟨?_,fun x hx=>?_,h3⟩
    ·rw [List.cons_append, ← h1]
    ·rcases List.mem_cons.1 hx with hx | hx
     ·exact hx ▸ e
     ·exact h2 x hx
end Go.Proofs.YtnalakhelicjcaaGreatDoor
set_option maxRecDepth 100000
namespace Go.Proofs.YtnalakhelicjcaaGreatDoor
open Go.RowKit Go.Shelf Go.BigFrame
def strB (l:List UInt8):ByteArray:=⟨l.toArray⟩
theorem strB_size (l:List UInt8):(strB l).size = l.length:=Lib.size_mk l
theorem strB_data (s:ByteArray):strB s.data.toList = s:=Lib.mk_data s
theorem strB_cut (l:List UInt8) (a b:Nat):(strB l).extract a b = strB ((l.drop a).take (b - a)):=Lib.extract_mk l a b
theorem strB_upto (l:List UInt8) (k:Nat):(strB l).extract 0 k = strB (l.take k):=by rw [strB_cut];simp
theorem strB_from (l:List UInt8) (k:Nat):(strB l).extract k l.length = strB (l.drop k):=by
 rw [strB_cut,List.take_of_length_le (by simp)]
theorem strB_at (l:List UInt8) (i:Nat) (h:i < (strB l).size):(strB l)[i] = l[i]'(by rwa [strB_size] at h):=by
 have h1:=Lib.getElem_mk l i h
 rw [List.getElem?_eq_getElem (by rwa [strB_size] at h)] at h1
 exact (Option.some.inj h1).symm
theorem strB_toL (l:List UInt8):(strB l).toList = l:=by rw [ByteArray.toList_eq];rfl
theorem strB_ne {l m:List UInt8} (h:l ≠ m):((strB l).toList == (strB m).toList) = false:=by
 rw [strB_toL,strB_toL]
 exact beq_eq_false_iff_ne.2 h
theorem strB_same {l m:List UInt8} (h:l = m):((strB l).toList == (strB m).toList) = true:=by
 rw [strB_toL,strB_toL,h]
 exact beq_self_eq_true m
def dch (d:Nat):UInt8:=UInt8.ofNat (48 + d)
theorem strB_nat {l:List UInt8} {k:Nat} {c:UInt8} (h:l[k]? = some c) (hk:k < (strB l).size):(strB l)[k] = c:=by
 rw [strB_at l k hk]
 rw [List.getElem?_eq_getElem (by rwa [strB_size] at hk)] at h
 exact Option.some.inj h
theorem dg_at (l:List UInt8) {k:Nat} (h:k < l.length):∃ c,l[k]? = some c:=⟨_,List.getElem?_eq_getElem h⟩
theorem wordB_at:∀ (s:List UInt8) (k:Nat),(∀ j,j < k → s[j]? ≠ some 32) → s[k]? = some 32 → wordB s = (s.take k,s.drop (k + 1),true)
 | [],_,_,h=>by simp at h
 | c :: s,0,_,h=>by
  have h:c = 32:=by simpa using h
  simp [wordB,h]
 | c :: s,k + 1,hj,h=>by
  have h0:=hj 0 (by omega)
  have ih:=wordB_at s k (fun j h=>by have:=hj (j + 1) (by omega);simpa using this) (by simpa using h)
  have h0:c ≠ 32:=by simpa using h0
  simp [wordB,h0,ih]
theorem wordB_no:∀ (s:List UInt8),(∀ j,j < s.length → s[j]? ≠ some 32) → wordB s = (s,[],false)
 | [],_=>rfl
 | c :: s,h=>by
  have h0:c ≠ 32:=by simpa using h 0 (by simp)
  have ih:=wordB_no s (fun j hj=>by have:=h (j + 1) (by simpa using hj);simpa using this)
  simp [wordB,h0,ih]
theorem word_c (w:World) (s:List UInt8) (hs:s.length ≤ 1000000):Calls Tryz.prog 42 #[.string (strB s)] w (GivesB (.tuple #[.string (strB (wordB s).1), .string (strB (wordB s).2.1), .bool (wordB s).2.2]) w):=by
 have hz:=strB_size s
 obtain ⟨P,hP⟩:∃ P,GivesB (.tuple #[.string (strB (wordB s).1), .string (strB (wordB s).2.1), .bool (wordB s).2.2]) w = P:=⟨_,rfl⟩
 rw [hP]
 replace hP:=Lib.hid hP
 go_enter Tryz.func42,Tryz.ntmps42
 go_wp2_with fail
 go_loopw [5] (fun i wr=>∃ k:Nat,k ≤ s.length ∧ i = .int .i64 k ∧ Hid (∀ j,j < k → s[j]? ≠ some 32) ∧ wr = w) (fun i _=>s.length - (intOf i).toNat)
 case atStart=>exact ⟨0,by omega,rfl,Lib.hid (fun j h=>absurd h (Nat.not_lt_zero _)),rfl⟩
 case round =>
  obtain ⟨k,hk,rfl,hno,hwr⟩:=hrel
  subst hwr
  by_cases hlt:k < s.length
  ·have hkz:k < (strB s).size:=by omega
   obtain ⟨c,hc⟩:=dg_at s hlt
   have hat:=strB_nat hc hkz
   by_cases he:c = 32
   ·rw [he] at hc hat
    have hw:=wordB_at s k hno.out hc
    have hx1:=strB_upto s k
    have hx2:=strB_from s (k + 1)
    have hP2:=hP.out
    rw [hw] at hP2
    replace hP2:=Lib.hid hP2
    clear hno hP hw hc he
    go_wp2_with fail
    go_quiet (fail)
    go_wp2_with fail
    rw [← hP2.out]
    exact ⟨rfl,below_drewN _ _⟩
   ·have q1:((c.toNat:Int) == 32) = false:=by
     rw [beq_eq_false_iff_ne]
     intro h
     exact he (UInt8.toNat_inj.1 (by show c.toNat = 32;omega))
    replace he:=Lib.hid he
    replace hc:=Lib.hid hc
    go_wp2_with fail
    go_roundw
    case rel =>
     refine ⟨k + 1,by omega,by go_num,Lib.hid (fun j h=>?_),trivial⟩
     by_cases e:j < k
     ·exact hno.out j e
     ·obtain rfl:j = k:=by omega
      rw [hc.out]
      exact fun h=>he.out (Option.some.inj h)
    case measure=>simp [intOf];omega
  ·obtain rfl:k = s.length:=by omega
   have hw:=wordB_no s hno.out
   have hP2:=hP.out
   rw [hw] at hP2
   replace hP2:=Lib.hid hP2
   clear hP hw hno
   go_wp2_with fail
   rw [← hP2.out]
   exact ⟨rfl,Below.refl _ _⟩
theorem strB_app (l m:List UInt8):strB l ++ strB m = strB (l ++ m):=by
 unfold strB
 apply ByteArray.ext
 simp
theorem dec_len (n:Nat):(Lib.decDigits n).length ≤ n + 1:=by
 induction n using Nat.strongRecOn with
 | _ n ih =>
  rw [Lib.decDigits]
  by_cases h:n < 10
  ·rw [dif_pos h]
   simp
  ·rw [dif_neg h]
   have:=ih (n / 10) (by omega)
   rw [List.length_append,List.length_singleton]
   omega
theorem Digits_c:∀ (n:Nat) (w:World),n ≤ 1000000000 → Calls Tryz.prog 19 #[.int .i64 n] w (GivesB (.string (strB (Lib.decDigits n))) w):=by
 intro n
 induction n using Nat.strongRecOn with
 | _ n ih =>
  intro w hn
  have q0:((n:Nat):Int).tmod 10 = ((n % 10:Nat):Int):=by rw [Int.tmod_eq_emod_of_nonneg (by omega)];omega
  have q1:((n:Nat):Int).tdiv 10 = ((n / 10:Nat):Int):=by rw [Int.tdiv_eq_ediv_of_nonneg (by omega)];omega
  have hd:Lib.decDigits n = if n < 10 then [dch (n % 10)] else Lib.decDigits (n / 10) ++ [dch (n % 10)]:=by
   rw [Lib.decDigits]
   by_cases h:n < 10
   ·rw [dif_pos h,if_pos h,Nat.mod_eq_of_lt h]
    rfl
   ·rw [dif_neg h,if_neg h]
    rfl
  have hd10:n % 10 < 10:=Nat.mod_lt _ (by decide)
  have hi:=ih (n / 10)
  obtain ⟨d,hdd⟩:∃ d,n % 10 = d:=⟨_,rfl⟩
  rw [hdd] at q0 hd hd10
  clear hdd
  have q2:(48 + (d:Int)) % 256 = 48 + d:=by omega
  have hb:=below_a1 w (.cells #[.int .u8 (48 + (d:Int))] 5)
  have hconv:=run_convert_bytes_arg (P:=Tryz.prog) (w.alloc (.cells #[.int .u8 (48 + (d:Int))] 5)) 40 5 Tryz.underlying40 Tryz.underlying5 w.heap.size 0 1 1 [48 + (d:Int)] rfl (fun i hi=>by
   obtain rfl:i = 0:=by simpa using hi
   exact cell_one_new w (.int .u8 (48 + (d:Int))) 5 0 _ rfl) 9 Tryz.underlying9
  have hst:strOfNums [48 + (d:Int)] = strB [dch d]:=by
   have e:(48 + (d:Int)).toNat = 48 + d:=by omega
   unfold strOfNums strB dch
   rw [List.map_cons,e]
   rfl
  rw [hst] at hconv
  clear hst
  obtain ⟨P,hP⟩:∃ P,GivesB (.string (strB (Lib.decDigits n))) w = P:=⟨_,rfl⟩
  rw [hP]
  rw [hd] at hP
  replace hP:=Lib.hid hP
  clear hd
  replace hi:=Lib.hid hi
  clear ih
  go_enter Tryz.func19,Tryz.ntmps19
  by_cases h:n < 10
  ·have e1:decide ((n:Int) < 10) = true:=decide_eq_true (by omega)
   have hP2:=hP.out
   rw [if_pos h] at hP2
   replace hP2:=Lib.hid hP2
   clear hP
   go_wp2_with fail
   rw [← hP2.out]
   exact ⟨rfl,hb⟩
  ·have e1:decide ((n:Int) < 10) = false:=decide_eq_false (by omega)
   have hP2:=hP.out
   rw [if_neg h] at hP2
   have hC:=hi.out (by omega) (w.alloc (.cells #[.int .u8 (48 + (d:Int))] 5)) (by omega)
   have hap:=strB_app (Lib.decDigits (n / 10)) [dch d]
   have hz1:=strB_size (Lib.decDigits (n / 10))
   have hz2:(strB [dch d]).size = 1:=strB_size _
   have hz3:=dec_len (n / 10)
   have hng:¬ 9223372036854775807 < (strB (Lib.decDigits (n / 10))).size + (strB [dch d]).size:=by omega
   clear hz1 hz2 hz3
   replace hP2:=Lib.hid hP2
   clear hP
   go_wp2_with fail
   refine hC.mono ?_
   clear hC
   rintro e w1 ⟨rfl,b1⟩
   go_wp2_with fail
   rw [← hP2.out]
   exact ⟨rfl,below_trans hb b1⟩
def numV (s:List UInt8):Int:=match numB s with
 | some n=>n
 | none=>-1
theorem numV_len {s:List UInt8} (h:¬ (1 ≤ s.length ∧ s.length ≤ 6)):numV s = -1:=by
 unfold numV numB
 rw [if_neg fun k=>h ⟨k.1,k.2.1⟩]
theorem numV_dig {s:List UInt8} (h:s.all digB = false):numV s = -1:=by
 unfold numV numB
 rw [if_neg fun k=>by rw [h] at k;cases k.2.2.1]
theorem numV_ne {s:List UInt8} (h:Lib.decDigits (valB s) ≠ s):numV s = -1:=by
 unfold numV numB
 rw [if_neg fun k=>h k.2.2.2]
theorem numV_ok {s:List UInt8} (h1:1 ≤ s.length ∧ s.length ≤ 6) (h2:s.all digB = true) (h3:Lib.decDigits (valB s) = s):numV s = valB s:=by
 unfold numV numB
 rw [if_pos ⟨h1.1,h1.2,h2,h3⟩]
theorem dg_snoc {s:List UInt8} {k:Nat} {c:UInt8} (h:s[k]? = some c):s.take (k + 1) = s.take k ++ [c]:=by
 rw [List.take_add_one,h]
 rfl
theorem digB_iff (c:UInt8):digB c = (decide (48 ≤ (c.toNat:Int)) && decide ((c.toNat:Int) ≤ 57)):=by
 unfold digB
 congr 1
 ·exact decide_eq_decide.2 (by omega)
 ·exact decide_eq_decide.2 (by omega)
theorem dg_all {s:List UInt8} {k:Nat} {c:UInt8} (h:s[k]? = some c) (h1:(s.take k).all digB = true) (h2:digB c = true):(s.take (k + 1)).all digB = true:=by
 rw [dg_snoc h,List.all_append,h1]
 simp [h2]
theorem dg_not {s:List UInt8} {k:Nat} {c:UInt8} (h:s[k]? = some c) (h2:digB c = false):s.all digB = false:=by
 rw [Bool.eq_false_iff]
 intro h3
 have:=List.all_eq_true.1 h3 c (List.mem_of_getElem? h)
 rw [h2] at this
 cases this
theorem num_c (w:World) (s:List UInt8) (hs:s.length ≤ 1000000):Calls Tryz.prog 43 #[.string (strB s)] w (GivesB (.int .i64 (numV s)) w):=by
 have hz:=strB_size s
 have hw:=within_c w s.length 1 6
 obtain ⟨P,hP⟩:∃ P,GivesB (.int .i64 (numV s)) w = P:=⟨_,rfl⟩
 rw [hP]
 by_cases hl:1 ≤ s.length ∧ s.length ≤ 6
 rotate_left
 ·have e1:inB (s.length:Int) 1 6 = false:=by
   unfold inB
   rw [Bool.eq_false_iff]
   intro h
   simp at h
   omega
  rw [e1] at hw
  rw [numV_len hl] at hP
  replace hP:=Lib.hid hP
  replace hl:=Lib.hid hl
  go_enter Tryz.func43,Tryz.ntmps43
  go_wp2_with (go_at_call 39;refine hw.mono ?_;rintro e w' ⟨rfl,rfl⟩)
  rw [← hP.out]
  exact ⟨rfl,Below.refl _ _⟩
 have e1:inB (s.length:Int) 1 6 = true:=by
  unfold inB
  rw [Bool.and_eq_true,decide_eq_true_iff,decide_eq_true_iff]
  omega
 rw [e1] at hw
 have hval:=numV_ok hl
 have hnd:=fun h:s.all digB = false=>numV_dig h
 have hne:=fun h:Lib.decDigits (valB s) ≠ s=>numV_ne h
 have hl6:=hl.2
 obtain ⟨nv,hnv⟩:∃ v,numV s = v:=⟨_,rfl⟩
 rw [hnv] at hval hnd hne hP
 clear hnv hl e1
 replace hP:=Lib.hid hP
 replace hval:=Lib.hid hval
 replace hnd:=Lib.hid hnd
 replace hne:=Lib.hid hne
 go_enter Tryz.func43,Tryz.ntmps43
 go_wp2_with (go_at_call 39;refine hw.mono ?_;rintro e w' ⟨rfl,rfl⟩)
 clear hw
 go_loopw [3,4] (fun n i wr=>∃ k:Nat,k ≤ s.length ∧ i = .int .i64 k ∧ n = .int .i64 (valB (s.take k)) ∧ Hid ((s.take k).all digB = true) ∧ wr = w) (fun _ i _=>s.length - (intOf i).toNat)
 case atStart=>exact ⟨0,by omega,rfl,rfl,Lib.hid rfl,rfl⟩
 case round =>
  obtain ⟨k,hk,rfl,rfl,hall,hwr⟩:=hrel
  subst hwr
  have hvl:=valB_lt k (s.take k) (by rw [List.length_take];omega) hall.out
  have hp6:(10:Nat) ^ k ≤ 10 ^ 6:=Nat.pow_le_pow_right (by decide) (by omega)
  have hvl6:valB (s.take k) < 1000000:=by omega
  clear hvl hp6
  by_cases hlt:k < s.length
  ·have hkz:k < (strB s).size:=by omega
   obtain ⟨c0,hc0⟩:=dg_at s hlt
   have hat:=strB_nat hc0 hkz
   have hstep:valB (s.take (k + 1)) = 10 * valB (s.take k) + (c0.toNat - 48):=by rw [dg_snoc hc0,valB_snoc]
   have hdi:=digB_iff c0
   have hno:=fun h:digB c0 = false=>dg_not hc0 h
   have hye:=fun h:digB c0 = true=>dg_all hc0 hall.out h
   have hc256:c0.toNat < 256:=UInt8.toNat_lt _
   obtain ⟨c,hc⟩:∃ c,c0.toNat = c:=⟨_,rfl⟩
   rw [hc] at hdi hstep hc256
   obtain ⟨v,hv⟩:∃ v,valB (s.take k) = v:=⟨_,rfl⟩
   rw [hv] at hstep hvl6
   simp only [hv] at ⊢
   replace hv:=Lib.hid hv
   replace hno:=Lib.hid hno
   replace hye:=Lib.hid hye
   replace hstep:=Lib.hid hstep
   replace hc0:=Lib.hid hc0
   by_cases h1:48 ≤ c
   rotate_left
   ·have q1:decide ((c:Int) < 48) = true:=decide_eq_true (by omega)
    rw [decide_eq_false (show ¬ 48 ≤ (c:Int) by omega),Bool.false_and] at hdi
    have hnv:=hnd.out (hno.out hdi)
    have hP2:=hP.out
    rw [hnv] at hP2
    replace hP2:=Lib.hid hP2
    clear hdi hP hnv hnd
    go_wp2_with fail
    rw [← hP2.out]
    exact ⟨rfl,Below.refl _ _⟩
   have q1:decide ((c:Int) < 48) = false:=decide_eq_false (by omega)
   by_cases h2:c ≤ 57
   rotate_left
   ·have q2:decide ((c:Int) > 57) = true:=decide_eq_true (by omega)
    rw [decide_eq_false (show ¬ (c:Int) ≤ 57 by omega),Bool.and_false] at hdi
    have hnv:=hnd.out (hno.out hdi)
    have hP2:=hP.out
    rw [hnv] at hP2
    replace hP2:=Lib.hid hP2
    clear hdi hP hnv hnd
    go_wp2_with fail
    rw [← hP2.out]
    exact ⟨rfl,Below.refl _ _⟩
   have q2:decide ((c:Int) > 57) = false:=decide_eq_false (by omega)
   rw [decide_eq_true (show 48 ≤ (c:Int) by omega),decide_eq_true (show (c:Int) ≤ 57 by omega),Bool.and_true] at hdi
   have hall2:=hye.out hdi
   replace hall2:=Lib.hid hall2
   have q3:((c:Int) - 48) % 256 = (c:Int) - 48:=by omega
   clear hdi
   go_wp2_with fail
   go_roundw
   case rel =>
    refine ⟨k + 1,by omega,by go_num, ?_,hall2,trivial⟩
    rw [hstep.out]
    go_num
   case measure=>simp [intOf];omega
  ·obtain rfl:k = s.length:=by omega
   rw [List.take_length] at hall hvl6 ⊢
   obtain ⟨v,hv⟩:∃ v,valB s = v:=⟨_,rfl⟩
   have hva:=hval.out
   have hne2:=hne.out
   rw [hv] at hvl6 hne2 ⊢
   simp only [hv] at hva
   have hC:=Digits_c v wr (by omega)
   clear hv hnd
   by_cases he:Lib.decDigits v = s
   ·have hnv:=hva hall.out he
    have hP2:=hP.out
    rw [hnv] at hP2
    replace hP2:=Lib.hid hP2
    have q1:=strB_same he
    replace he:=Lib.hid he
    clear hP hnv hva hne2 hne hval
    go_wp2_with fail
    refine hC.mono ?_
    clear hC
    rintro e w1 ⟨rfl,b1⟩
    go_wp2_with fail
    rw [← hP2.out]
    exact ⟨rfl,b1⟩
   ·have hnv:=hne2 he
    have hP2:=hP.out
    rw [hnv] at hP2
    replace hP2:=Lib.hid hP2
    have q1:=strB_ne he
    replace he:=Lib.hid he
    clear hP hnv hva hne2 hne hval
    go_wp2_with fail
    refine hC.mono ?_
    clear hC
    rintro e w1 ⟨rfl,b1⟩
    go_wp2_with fail
    rw [← hP2.out]
    exact ⟨rfl,b1⟩
end Go.Proofs.YtnalakhelicjcaaGreatDoor
set_option maxRecDepth 100000
namespace Go.Proofs.YtnalakhelicjcaaGreatDoor
open Go
def cmdS (a b body:List UInt8):Cmd:=match numB a,numB b with
 | some x,some y=>.send x y body
 | _,_=>.bad
def cmdN (a b:List UInt8):Cmd:=match numB a,numB b with
 | some x,some y=>.null x y
 | _,_=>.bad
def cmdM (a b:List UInt8):Cmd:=match numB a,numB b with
 | some x,some y=>.move x y
 | _,_=>.bad
def cmdT (a:List UInt8):Cmd:=match numB a with
 | some x=>.told x
 | _=>.bad
def cmdH (a:List UInt8):Cmd:=match numB a with
 | some x=>.held x
 | _=>.bad
theorem wordB_end {s:List UInt8} (h:(wordB s).2.2 = false):(wordB s).1 = s:=(wordB_none h).1
theorem calm_word:wordB kCalm = (kCalm,[],false):=by decide
theorem calm_of {s:List UInt8} (h:(wordB s).1 = kCalm) (h2:(wordB s).2.2 = false):s = kCalm:=by rw [← wordB_end h2,h]
theorem not_calm {s:List UInt8} (h:(wordB s).2.2 = true):s ≠ kCalm:=fun e=>by
 rw [e,calm_word] at h
 cases h
theorem not_calm' {s:List UInt8} (h:(wordB s).1 ≠ kCalm):s ≠ kCalm:=fun e=>h (by rw [e,calm_word])
theorem split4 (s:List UInt8):Lib.splitK [32] 0 3 s = if (wordB s).2.2 = true then (wordB s).1 :: (if (wordB (wordB s).2.1).2.2 = true then (wordB (wordB s).2.1).1 :: (if (wordB (wordB (wordB s).2.1).2.1).2.2 = true then [(wordB (wordB (wordB s).2.1).2.1).1,(wordB (wordB (wordB s).2.1).2.1).2.1] else [(wordB (wordB s).2.1).2.1]) else [(wordB s).2.1]) else [s]:=by
 rw [wordB_splitK,wordB_splitK,wordB_splitK]
 rfl
theorem split_pos (s:List UInt8):∃ a l,Lib.split s [32] = a :: l:=by
 rw [split_word]
 split
 ·exact ⟨_,_,rfl⟩
 ·exact ⟨_,_,rfl⟩
theorem parse_send {s:List UInt8} (h:(wordB s).1 = kSend):parseB s = if (Lib.splitK [32] 0 3 s).length = 4 then cmdS ((Lib.splitK [32] 0 3 s).getD 1 []) ((Lib.splitK [32] 0 3 s).getD 2 []) ((Lib.splitK [32] 0 3 s).getD 3 []) else .bad:=by
 have hc:s ≠ kCalm:=not_calm' (by rw [h];decide)
 rw [split4]
 unfold parseB
 rw [if_neg hc]
 by_cases h1:(wordB s).2.2 = true
 ·rw [if_pos h1,if_pos h1,if_pos h]
  unfold nums3
  by_cases h2:(wordB (wordB s).2.1).2.2 = true
  ·by_cases h3:(wordB (wordB (wordB s).2.1).2.1).2.2 = true
   ·rw [if_pos ⟨h2,h3⟩,if_pos h2,if_pos h3]
    simp only [List.length_cons,List.length_nil,List.getD_cons_succ,List.getD_cons_zero]
    unfold cmdS
    cases numB (wordB (wordB s).2.1).1 <;> cases numB (wordB (wordB (wordB s).2.1).2.1).1 <;> rfl
   ·rw [if_neg fun k=>h3 k.2,if_pos h2,if_neg h3]
    rfl
  ·rw [if_neg fun k=>h2 k.1,if_neg h2]
   rfl
 ·rw [if_neg h1,if_neg h1]
  rfl
theorem two_words {s:List UInt8} {f:List UInt8 → List UInt8 → Cmd} (g:Nat → Nat → Cmd) (hf:∀ a b,f a b = match numB a,numB b with | some x,some y=>g x y | _,_=>.bad) (h1:(wordB s).2.2 = true) :
  (match nums2 (wordB s).2.1 with | some p=>g p.1 p.2 | none=>.bad) = if (Lib.split s [32]).length = 3 then f ((Lib.split s [32]).getD 1 []) ((Lib.split s [32]).getD 2 []) else .bad:=by
 rw [split_word s,if_pos h1,split_word (wordB s).2.1]
 unfold nums2
 by_cases h2:(wordB (wordB s).2.1).2.2 = true
 ·rw [if_pos h2,if_pos h2,split_word (wordB (wordB s).2.1).2.1]
  unfold nums1
  by_cases h3:(wordB (wordB (wordB s).2.1).2.1).2.2 = true
  ·obtain ⟨a,l,hl⟩:=split_pos (wordB (wordB (wordB s).2.1).2.1).2.1
   rw [if_pos h3,if_pos h3,hl]
   simp only [List.length_cons]
   rw [if_neg (by omega)]
   cases numB (wordB (wordB s).2.1).1 <;> rfl
  ·have e:=wordB_end (s:=(wordB (wordB s).2.1).2.1) (by simpa using h3)
   rw [if_neg h3,if_neg h3,e]
   simp only [List.length_cons,List.length_nil,List.getD_cons_succ,List.getD_cons_zero]
   rw [if_pos trivial,hf]
   cases numB (wordB (wordB s).2.1).1 <;> cases numB (wordB (wordB s).2.1).2.1 <;> rfl
 ·rw [if_neg h2,if_neg h2]
  rfl
theorem parse_null {s:List UInt8} (h:(wordB s).1 = kNull):parseB s = if (Lib.split s [32]).length = 3 then cmdN ((Lib.split s [32]).getD 1 []) ((Lib.split s [32]).getD 2 []) else .bad:=by
 have hc:s ≠ kCalm:=not_calm' (by rw [h];decide)
 unfold parseB
 rw [if_neg hc]
 by_cases h1:(wordB s).2.2 = true
 ·rw [if_pos h1,if_neg (by rw [h];decide),if_pos h]
  exact two_words .null (fun _ _=>rfl) h1
 ·rw [if_neg h1,split_word,if_neg h1]
  rfl
theorem parse_move {s:List UInt8} (h:(wordB s).1 = kMove):parseB s = if (Lib.split s [32]).length = 3 then cmdM ((Lib.split s [32]).getD 1 []) ((Lib.split s [32]).getD 2 []) else .bad:=by
 have hc:s ≠ kCalm:=not_calm' (by rw [h];decide)
 unfold parseB
 rw [if_neg hc]
 by_cases h1:(wordB s).2.2 = true
 ·rw [if_pos h1,if_neg (by rw [h];decide),if_neg (by rw [h];decide),if_pos h]
  exact two_words .move (fun _ _=>rfl) h1
 ·rw [if_neg h1,split_word,if_neg h1]
  rfl
theorem one_word {s:List UInt8} {f:List UInt8 → Cmd} (g:Nat → Cmd) (hf:∀ a,f a = match numB a with | some x=>g x | _=>.bad) (h1:(wordB s).2.2 = true) :
  (match nums1 (wordB s).2.1 with | some p=>g p | none=>.bad) = if (Lib.split s [32]).length = 2 then f ((Lib.split s [32]).getD 1 []) else .bad:=by
 rw [split_word s,if_pos h1,split_word (wordB s).2.1]
 unfold nums1
 by_cases h3:(wordB (wordB s).2.1).2.2 = true
 ·obtain ⟨a,l,hl⟩:=split_pos (wordB (wordB s).2.1).2.1
  rw [if_pos h3,if_pos h3,hl]
  simp only [List.length_cons]
  rw [if_neg (by omega)]
 ·have e:=wordB_end (s:=(wordB s).2.1) (by simpa using h3)
  rw [if_neg h3,if_neg h3,e]
  simp only [List.length_cons,List.length_nil,List.getD_cons_succ,List.getD_cons_zero]
  rw [if_pos trivial,hf]
  cases numB (wordB s).2.1 <;> rfl
theorem parse_told {s:List UInt8} (h:(wordB s).1 = kTold):parseB s = if (Lib.split s [32]).length = 2 then cmdT ((Lib.split s [32]).getD 1 []) else .bad:=by
 have hc:s ≠ kCalm:=not_calm' (by rw [h];decide)
 unfold parseB
 rw [if_neg hc]
 by_cases h1:(wordB s).2.2 = true
 ·rw [if_pos h1,if_neg (by rw [h];decide),if_neg (by rw [h];decide),if_neg (by rw [h];decide),if_pos h]
  exact one_word .told (fun _=>rfl) h1
 ·rw [if_neg h1,split_word,if_neg h1]
  rfl
theorem parse_held {s:List UInt8} (h:(wordB s).1 = kHeld):parseB s = if (Lib.split s [32]).length = 2 then cmdH ((Lib.split s [32]).getD 1 []) else .bad:=by
 have hc:s ≠ kCalm:=not_calm' (by rw [h];decide)
 unfold parseB
 rw [if_neg hc]
 by_cases h1:(wordB s).2.2 = true
 ·rw [if_pos h1,if_neg (by rw [h];decide),if_neg (by rw [h];decide),if_neg (by rw [h];decide),if_neg (by rw [h];decide),if_pos h]
  exact one_word .held (fun _=>rfl) h1
 ·rw [if_neg h1,split_word,if_neg h1]
  rfl
theorem parse_calm {s:List UInt8} (h:(wordB s).1 = kCalm):parseB s = if (Lib.split s [32]).length = 1 then .calm else .bad:=by
 rw [split_word]
 by_cases h1:(wordB s).2.2 = true
 ·obtain ⟨a,l,hl⟩:=split_pos (wordB s).2.1
  rw [if_pos h1,hl]
  simp only [List.length_cons]
  rw [if_neg (show ¬ (l.length + 1 + 1 = 1) by omega)]
  unfold parseB
  rw [if_neg (not_calm h1),if_pos h1,if_neg (by rw [h];decide),if_neg (by rw [h];decide),if_neg (by rw [h];decide),if_neg (by rw [h];decide),if_neg (by rw [h];decide)]
 ·rw [if_neg h1]
  unfold parseB
  rw [if_pos (calm_of h (by simpa using h1))]
  rfl
theorem parse_none {s:List UInt8} (h1:(wordB s).1 ≠ kSend) (h2:(wordB s).1 ≠ kNull) (h3:(wordB s).1 ≠ kMove) (h4:(wordB s).1 ≠ kTold) (h5:(wordB s).1 ≠ kHeld) (h6:(wordB s).1 ≠ kCalm):parseB s = .bad:=by
 unfold parseB
 rw [if_neg (not_calm' h6),if_neg h1,if_neg h2,if_neg h3,if_neg h4,if_neg h5]
 split <;> rfl
end Go.Proofs.YtnalakhelicjcaaGreatDoor
