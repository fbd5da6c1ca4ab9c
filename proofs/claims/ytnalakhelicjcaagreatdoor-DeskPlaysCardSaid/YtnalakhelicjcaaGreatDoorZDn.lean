/-
  The desk: what must be; a number of a script.
-/
import Derived.Test.YtnalakhelicjcaaGreatDoorZShf
import Derived.Test.YtnalakhelicjcaaGreatDoorZGA
import Derived.Lib.AtoiErrMem
set_option maxRecDepth 100000
namespace Go.Proofs.YtnalakhelicjcaaGreatDoor
open Go.RowKit Go.Shelf Go.BigFrame
def Vars (w : World) : Prop := Lib.TabIs Tryz.prog w "internal/strconv.uint64pow10" .u64 Lib.pow10Tab ∧ (∃ tp p, w.var? Tryz.prog "strconv.ErrSyntax" = some #[.iface tp p]) ∧ (∃ tp p, w.var? Tryz.prog "strconv.ErrRange" = some #[.iface tp p]) ∧ ∃ m, w.cell? ⟨0, 0, none⟩ = some (.int .i64 m)
theorem gPow : Tryz.prog.globalNamed "internal/strconv.uint64pow10" = some 1 := by kernel_rfl
theorem gSyn : Tryz.prog.globalNamed "strconv.ErrSyntax" = some 6 := by kernel_rfl
theorem gRng : Tryz.prog.globalNamed "strconv.ErrRange" = some 7 := by kernel_rfl
theorem var_same {n:String} {g:Nat} {w w':World} {cs:Array Value} (hg:Tryz.prog.globalNamed n = some g) (h:w.var? Tryz.prog n = some cs) (hk:w'.heap[g]? = w.heap[g]?):w'.var? Tryz.prog n = some cs:=by
 unfold World.var? at h ⊢
 rw [hg] at h ⊢
 simp only [Option.bind_some] at h ⊢
 rw [hk]
 exact h
theorem var_lt {n:String} {g:Nat} {w:World} {cs:Array Value} (hg:Tryz.prog.globalNamed n = some g) (h:w.var? Tryz.prog n = some cs):g < w.heap.size:=by
 unfold World.var? at h
 rw [hg] at h
 simp only [Option.bind_some] at h
 rcases Nat.lt_or_ge g w.heap.size with h' | h'
 ·exact h'
 ·rw [Array.getElem?_eq_none h'] at h
  cases h
theorem Vars.same {w w':World} (h:Vars w) (hk:∀ g,g < 8 → w'.heap[g]? = w.heap[g]?):Vars w':=by
 obtain ⟨h1,⟨t2,p2,h2⟩,⟨t3,p3,h3⟩,m,h4⟩:=h
 exact ⟨var_same gPow h1 (hk 1 (by omega)),⟨t2,p2,var_same gSyn h2 (hk 6 (by omega))⟩,⟨t3,p3,var_same gRng h3 (hk 7 (by omega))⟩,m,(World.cell?_of_block (w:=w) (a:=⟨0,0,none⟩) (hk 0 (by omega))).trans h4⟩
theorem Vars.lt {w:World} (h:Vars w):8 ≤ w.heap.size:=by
 obtain ⟨_,_,⟨t3,p3,h3⟩,_⟩:=h
 exact var_lt gRng h3
theorem Vars.below {w w':World} {B:Nat} (h:Vars w) (b:Below B w w') (hB:8 ≤ B):Vars w':=h.same fun g hg=>b.block g (by omega)
theorem Vars.next {w w':World} (h:Vars w) (b:Below w.heap.size w w'):Vars w':=h.below b h.lt
theorem below_grow (w:World) (k:Nat) (os:Array Obj):Below w.heap.size w (Sort.grow (w.drewN k) os):=
 ⟨rfl,rfl,rfl,by show w.heap.size ≤ (w.heap ++ os).size;rw [Array.size_append];omega,fun b hb=>by show (w.heap ++ os)[b]? = _;exact Array.getElem?_append_left hb⟩
def refE (e:Int):PanicEntry:={ v:=.iface 69 (.agg #[.int .i64 e]),recovered:=false }
theorem dmust_t (w:World) (e:Int):Calls Tryz.prog 35 #[.bool true, .int .i64 e] w fun x w'=>x = .returned (.tuple #[]) ∧ w' = w:=by
 go_enter Tryz.func35,Tryz.ntmps35
 go_wp2_with fail
 go_end0
 exact ⟨rfl,rfl⟩
theorem dmust_f (w:World) (e:Int):Calls Tryz.prog 35 #[.bool false, .int .i64 e] w fun x w'=>x = .panicked [refE e] ∧ w' = w:=by
 go_enter Tryz.func35,Tryz.ntmps35
 go_wp2_with fail
 exact ⟨rfl,rfl,rfl⟩
theorem Itoa_c {w:World} (hv:Vars w) (n:Int) (h0:-9223372036854775808 ≤ n) (h1:n ≤ 9223372036854775807):Calls Tryz.prog 32 #[.int .i64 n] w (GivesB (.string (strB (Lib.itoa n))) w):=
 (Tryz.strconv_Itoa n h0 h1 w hv.1).mono fun _ _ ⟨he,k,os,hw⟩=>⟨he,hw ▸ below_grow w k os⟩
theorem itoa_nat (n:Nat):Lib.itoa (n:Int) = Lib.decDigits n:=by
 unfold Lib.itoa
 rw [if_neg (by omega)]
 rfl
theorem ItoaN_c {w:World} (hv:Vars w) (n:Nat) (h1:n ≤ 1000000000):Calls Tryz.prog 32 #[.int .i64 n] w (GivesB (.string (strB (Lib.decDigits n))) w):=by
 have h:=Itoa_c hv n (by omega) (by omega)
 rwa [itoa_nat] at h
theorem Atoi_c {w:World} (hv:Vars w) (s:List UInt8) (hs:s.length ≤ 1000000):Calls Tryz.prog 95 #[.string (strB s)] w fun e w' =>
  Below w.heap.size w w' ∧ ((∃ v,Lib.atoiAll s = .ok v ∧ e = .returned (.tuple #[.int .i64 v, .nilIface])) ∨ ((∀ v,Lib.atoiAll s ≠ .ok v) ∧ ∃ v t x,e = .returned (.tuple #[.int .i64 v, .iface t x]))):=by
 obtain ⟨_,⟨t2,p2,h2⟩,⟨t3,p3,h3⟩,_⟩:=hv
 have hz:=strB_size s
 cases ha:Lib.atoiAll s with
 | ok v =>
  refine (Tryz.strconv_Atoi_ok (strB s) (by omega) v ha w).mono ?_
  rintro e w' ⟨rfl,rfl | ⟨t,rfl⟩⟩
  ·exact ⟨Below.refl _ _,Or.inl ⟨v,rfl,rfl⟩⟩
  ·exact ⟨Lib.bytesWorld_below _ _ _,Or.inl ⟨v,rfl,rfl⟩⟩
 | range =>
  refine (Tryz.strconv_Atoi_range_var (strB s) (by omega) ha t3 p3 w h3).mono ?_
  rintro e w' ⟨N,rfl,_,_,hb⟩
  exact ⟨hb,Or.inr ⟨(fun v h=>by cases h),_,_,_,rfl⟩⟩
 | _ =>
  refine (Any.strconv_Atoi_syntax_var Tryz.laysC172 (strB s) (by omega) ha t2 p2 w h2).mono ?_
  rintro e w' ⟨N,rfl,_,_,hb⟩
  exact ⟨hb,Or.inr ⟨(fun v h=>by cases h),_,_,_,rfl⟩⟩
def NumPost (w:World) (r:Option Nat) (e:Ending) (w':World):Prop:=
 Below w.heap.size w w' ∧ ((∃ n,r = some n ∧ e = .returned (.int .i64 (n:Nat))) ∨ (r = none ∧ e = .panicked [refE 1]))
set_option maxHeartbeats 1000000 in
theorem dnum_c {w:World} (hv:Vars w) (s:List UInt8) (hs:s.length ≤ 1000000):Calls Tryz.prog 74 #[.string (strB s)] w (NumPost w (numB s)):=by
 have hz:=strB_size s
 have hA:=Atoi_c hv s hs
 have hT:=fun o=>dmust_t o 1
 have hF:=fun o=>dmust_f o 1
 have hok:=fun n=>@num_some s n
 have hno:=fun h v=>@num_none s h v
 obtain ⟨r,hr⟩:∃ r,numB s = r:=⟨_,rfl⟩
 rw [hr]
 rw [hr] at hno
 simp only [hr] at hok
 clear hr
 obtain ⟨P,hP⟩:∃ P,NumPost w r = P:=⟨_,rfl⟩
 rw [hP]
 replace hP:=Lib.hid hP
 replace hok:=Lib.hid hok
 replace hno:=Lib.hid hno
 replace hT:=Lib.hid hT
 replace hF:=Lib.hid hF
 go_enter Tryz.func74,Tryz.ntmps74
 go_wp2_with fail
 refine hA.mono ?_
 clear hA
 rintro e w1 ⟨b1,⟨v,ha,rfl⟩ | ⟨hne,v,t,x,rfl⟩⟩
 rotate_left
 ·have hrn:r = none:=by
   cases r with
   | none=>rfl
   | some n=>exact absurd (hok.out n rfl).1 (hne _)
  subst hrn
  clear hok hno hne
  go_wp2_with fail
  refine (hF.out _).mono ?_
  rintro e w2 ⟨rfl,rfl⟩
  rw [← hP.out]
  exact ⟨rfl,b1,Or.inr ⟨rfl,rfl⟩⟩
 have hb:=Lib.atoiAll_bounds ha
 have hrv:∀ n,r = some n → v = (n:Int) ∧ s.length ≤ 6 ∧ Lib.itoa v = s:=fun n h=>by
  obtain ⟨h1,h2,h3⟩:=hok.out n h
  rw [ha] at h1
  have h4:v = (n:Int):=by cases h1;rfl
  exact ⟨h4,h2,by rw [h4];exact h3⟩
 have hnv:r = none → 0 ≤ v → s.length ≤ 6 → ¬ Lib.itoa v = s:=fun h h0 hl=>hno.out h v ha h0 hl
 have hC:=Itoa_c (hv.next b1) v hb.1 hb.2
 clear hok hno ha
 replace hrv:=Lib.hid hrv
 replace hnv:=Lib.hid hnv
 have none_of:(∀ n,r = some n → False) → r = none:=fun h=>by
  cases r with
  | none=>rfl
  | some n=>exact (h n rfl).elim
 by_cases h0:0 ≤ v
 rotate_left
 ·have q0:decide (v ≥ 0) = false:=decide_eq_false h0
  obtain rfl:=none_of fun n h=>h0 (by have:=(hrv.out n h).1;omega)
  clear none_of
  replace h0:=Lib.hid h0
  go_wp2_with fail
  refine (hF.out _).mono ?_
  rintro e w2 ⟨rfl,rfl⟩
  rw [← hP.out]
  exact ⟨rfl,b1,Or.inr ⟨rfl,rfl⟩⟩
 have q0:decide (v ≥ 0) = true:=decide_eq_true h0
 by_cases h6:s.length ≤ 6
 rotate_left
 ·have q1:decide ((s.length:Int) ≤ 6) = false:=decide_eq_false (by omega)
  obtain rfl:=none_of fun n h=>h6 (hrv.out n h).2.1
  clear none_of
  replace h0:=Lib.hid h0
  replace h6:=Lib.hid h6
  go_wp2_with fail
  refine (hF.out _).mono ?_
  rintro e w2 ⟨rfl,rfl⟩
  rw [← hP.out]
  exact ⟨rfl,b1,Or.inr ⟨rfl,rfl⟩⟩
 have q1:decide ((s.length:Int) ≤ 6) = true:=decide_eq_true (by omega)
 have h0':=Lib.hid h0
 have h6':=Lib.hid h6
 clear h0 h6
 go_wp2_with fail
 refine hC.mono ?_
 clear hC
 rintro e w2 ⟨rfl,b2⟩
 have b2:=below_trans b1 b2
 by_cases he:Lib.itoa v = s
 rotate_left
 ·have q2:=strB_ne he
  obtain rfl:=none_of fun n h=>he (hrv.out n h).2.2
  clear none_of
  replace he:=Lib.hid he
  go_wp2_with fail
  refine (hF.out _).mono ?_
  rintro e w3 ⟨rfl,rfl⟩
  rw [← hP.out]
  exact ⟨rfl,b2,Or.inr ⟨rfl,rfl⟩⟩
 have q2:=strB_same he
 have hsome:∃ n,r = some n:=by
  cases r with
  | none=>exact absurd he (hnv.out rfl h0'.out h6'.out)
  | some n=>exact ⟨n,rfl⟩
 obtain ⟨n,rfl⟩:=hsome
 have hvn:=(hrv.out n rfl).1
 replace hvn:=Lib.hid hvn
 replace he:=Lib.hid he
 clear none_of
 go_wp2_with fail
 refine (hT.out _).mono ?_
 rintro e w3 ⟨rfl,rfl⟩
 go_wp2_with fail
 rw [← hP.out,hvn.out]
 exact ⟨b2,Or.inl ⟨n,rfl,rfl⟩⟩
end Go.Proofs.YtnalakhelicjcaaGreatDoor
