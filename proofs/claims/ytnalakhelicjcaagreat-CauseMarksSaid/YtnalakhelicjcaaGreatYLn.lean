/-
  A node learns a message, and all that came ahead of it.
-/
import Derived.Test.YtnalakhelicjcaaGreatYMpS
import Derived.Test.YtnalakhelicjcaaGreatYKC
set_option maxRecDepth 100000
namespace Go.Proofs.YtnalakhelicjcaaGreat
open Go.RowKit Go.Deep Go.Maps
def SetEl:ElO St:=fun w T cs f=>∃ b,cs = [.map (some b)] ∧ T b ∧ SetAt w b f
theorem SetEl.stays:OStays SetEl:=fun _ _ _ _ _ ⟨b,h1,h2,h3⟩ k=>⟨b,h1,h2,h3.keep (k b h2)⟩
theorem SetEl.lt:OLt SetEl:=fun _ _ _ _ ⟨b,h1,h2,h3⟩=>⟨b,h1,⟨h2,h3.lt⟩,h3⟩
def OSets (w:World) (S:Nat → Prop) (v:Value) (fs:List St):Prop:=OSl SetEl true 90 1 w S v fs
theorem OSets.keep {w w':World} {S:Nat → Prop} {v:Value} {fs:List St} (h:OSets w S v fs) (k:Lies S w w'):OSets w' S v fs:=OSl.keep SetEl.stays h k
theorem OSets.lt {w:World} {S:Nat → Prop} {v:Value} {fs:List St} (h:OSets w S v fs):OSets w (fun b=>S b ∧ b < w.heap.size) v fs:=OSl.lt SetEl.lt h
theorem OSets.set_at {w:World} {S:Nat → Prop} {v:Value} {fs:List St} (h:OSets w S v fs) {i:Nat} (hi:i < fs.length) :
  ∃ (g cap b:Nat),v = .slice (some ⟨g,0,none⟩) fs.length cap ∧ fs.length ≤ cap ∧ S g ∧ g < w.heap.size ∧ w.cell? ⟨g,i,none⟩ = some (.map (some b)) ∧ S b ∧ b ≠ g ∧ SetAt w b (fs.getD i emptyS) ∧
   ∀ w' f',Lies (fun c=>S c ∧ c ≠ b) w w' → SetAt w' b f' → OSets w' S v (fs.set i f'):=by
 obtain ⟨g,off,cap,T,cs,e1,e2,e3,e4,e5,e6,e7,⟨b,rfl,f2,f3⟩,e9,back⟩:=OSl.at SetEl.stays h hi
 obtain rfl:=e5 rfl
 simp only [Nat.zero_add,Nat.mul_one] at e3 e7 back
 have c0:=e7 0 (by omega)
 rw [← getD_lt fs emptyS hi] at f3
 refine ⟨g,cap,b,e1,e4,e2,e3.lt,c0,(e9 b f2).1,(e9 b f2).2,f3,fun w' f' hL hS=>?_⟩
 have hg:w'.heap[g]? = w.heap[g]?:=hL g ⟨e2,fun e=>(e9 b f2).2 e.symm⟩
 exact OSl.mono (back w' T [.map (some b)] f' (fun c hc=>hL c ⟨hc.1,fun e=>hc.2.2 (e ▸ f2)⟩) (BlkSet.same hg (fun j hj=>e7 j (by simpa using hj))) rfl ⟨b,rfl,f2,hS⟩ (fun c hc=>Or.inl hc)) (fun c hc=>hc.elim id (fun h=>(e9 c h).1))
structure Save (S:Nat → Prop) (w w':World):Prop where
 os:w'.os = w.os
 tape:w'.tape = w.tape
 output:w'.output = w.output
 size:w.heap.size ≤ w'.heap.size
 block:∀ k,k < w.heap.size → ¬ S k → w'.heap[k]? = w.heap[k]?
namespace Save
variable {S T:Nat → Prop} {w w1 w2:World}
theorem refl (S:Nat → Prop) (w:World):Save S w w:=⟨rfl,rfl,rfl,Nat.le_refl _,fun _ _ _=>rfl⟩
theorem trans (h:Save S w w1) (k:Save T w1 w2) (hT:∀ b,T b → b < w.heap.size → S b):Save S w w2:=
 ⟨k.os.trans h.os,k.tape.trans h.tape,k.output.trans h.output,Nat.le_trans h.size k.size,fun i hi hn=>(k.block i (Nat.lt_of_lt_of_le hi h.size) (fun ht=>hn (hT i ht hi))).trans (h.block i hi hn)⟩
theorem grown {b:Nat} (h:w.grownBy w1 (some b)) (hb:S b):Save S w w1:=⟨h.os,h.tape,h.output,h.size,fun k hk hn=>h.block k hk (fun e=>hn (by rw [Option.some.inj e];exact hb))⟩
theorem grown0 (h:w.grownBy w1 none):Save S w w1:=⟨h.os,h.tape,h.output,h.size,fun k hk _=>h.block k hk (by simp)⟩
theorem below {B:Nat} (h:Save S w w1) (hS:∀ b,S b → B ≤ b) (hB:B ≤ w.heap.size):Below B w w1:=⟨h.os,h.tape,h.output,h.size,fun k hk=>h.block k (by omega) (fun hs=>by have:=hS k hs;omega)⟩
theorem of_below {B:Nat} (h:Below B w w1) (hB:∀ b,B ≤ b → b < w.heap.size → S b):Save S w w1:=⟨h.os,h.tape,h.output,h.size,fun k hk hn=>h.block k (Nat.lt_of_not_le fun hle=>hn (hB k hle hk))⟩
theorem mono (h:Save S w w1) (k:∀ b,S b → T b):Save T w w1:=⟨h.os,h.tape,h.output,h.size,fun i hi hn=>h.block i hi (fun hs=>hn (k i hs))⟩
theorem cell (h:Save S w w1) {a:Addr} {v:Value} (hc:w.cell? a = some v) (hn:¬ S a.block):w1.cell? a = some v:=(World.cell?_of_block (h.block a.block (cell_lt hc) hn)).trans hc
theorem lies (h:Save S w w1) (hT:∀ b,T b → b < w.heap.size ∧ ¬ S b):Lies T w w1:=fun b hb=>h.block b (hT b hb).1 (hT b hb).2
end Save
theorem Learn_c {w:World} {B:Nat} {kv av:Value} {Sk Sa:Nat → Prop} {known ahead:List St} {n k:Nat} (c5:w.cell? ⟨B,5,none⟩ = some kv) (c4:w.cell? ⟨B,4,none⟩ = some av)
  (hK:OSets w Sk kv known) (hA:OSets w Sa av ahead) (hd:Dis Sk Sa) (hB:¬ Sk B) (hl2:∀ b,Sk b → b < w.heap.size) (hn:n < known.length) (hk:k < ahead.length) (hk1:k < 100) :
  Calls Tryz.prog 73 #[.pointer (some ⟨B,0,none⟩), .int .i64 (n:Int), .int .i64 (k:Int)] w fun e w'=>e = .returned (.tuple #[]) ∧ OSets w' Sk kv (known.set n (learnS (known.getD n emptyS) k (ahead.getD k emptyS))) ∧ Save Sk w w':=by
 obtain ⟨g,cap,bk,rfl,hc1,hg1,hg2,d1,hb1,hb2,hS,back⟩:=hK.set_at hn
 obtain ⟨ga,capa,ba,rfl,hc2,hg3,hg4,d2,hb3,hb4,hSa,_⟩:=hA.set_at hk
 have hbB:B ≠ bk:=fun e=>hB (e ▸ hb1)
 have hgb:ga ≠ bk:=fun e=>hd bk hb1 (e ▸ hg3)
 have hbb:ba ≠ bk:=fun e=>hd bk hb1 (e ▸ hb3)
 generalize known.getD n emptyS = f at *
 generalize ahead.getD k emptyS = a at *
 have hlb:=hS.lt
 have hBl:=cell_lt c5
 dsimp only at hBl
 have n1:decide ((n:Int) < 0) = false:=by simp
 have n2:decide (known.length ≤ n) = false:=by simp;omega
 have n3:decide ((k:Int) < 0) = false:=by simp
 have n4:decide (ahead.length ≤ k) = false:=by simp;omega
 replace back:=Lib.hid back
 clear hK hA hd
 go_enter Tryz.func73,Tryz.ntmps73
 go_upto_region 1 with (at_mapUpdate;refine wpList_set_put _ rfl _ _ _ rfl bk f k rfl hS hk1 rfl rfl ?_;intro w1 hS1 hg1')
 have c5':=hg1'.cell c5 (by simpa using hbB)
 have c4':=hg1'.cell c4 (by simpa using hbB)
 have d1':=hg1'.cell d1 (by simpa using fun e=>hb2 e.symm)
 have d2':=hg1'.cell d2 (by simpa using hgb)
 have hSa1:=hSa.keep (hg1'.block ba hSa.lt (by simpa using hbb))
 have w1s:=hg1'.size
 have v1:=Save.grown (S:=fun c=>c = bk) hg1' rfl
 clear c5 c4 d1 d2 hSa hS
 go_wp2_with (at_range;refine wpList_set_range _ rfl _ rfl ba a rfl hSa1 ?_;intro w2 cnt0 hrg0 hg2' hsz2)
 go_frame
 have c5:=hg2'.cell c5' (by simp)
 have d1:=hg2'.cell d1' (by simp)
 have hS2:=hS1.keep (hg2'.block bk hS1.lt (by simp))
 have v2:=v1.trans (Save.grown0 (S:=fun c=>c = bk) hg2') (fun _ h _=>h)
 obtain ⟨r,hr⟩:∃ r,w1.heap.size = r:=⟨_,rfl⟩
 simp only [hr] at hrg0 hsz2 ⊢
 have hrl:w.heap.size ≤ r:=by omega
 have hBr:B ≠ r:=by omega
 have hgr:g ≠ r:=by omega
 have hkr:bk ≠ r:=by omega
 clear c5' c4' d1' d2' hSa1 v1 hg1' hg2' hS1 w1s hr
 go_loopw [6] (fun _ wr=>∃ (l:St) (cnt:Nat),SetRg wr ba r a l cnt ∧ SetAt wr bk (fun j=>(f j || j == k) || (a j && !l j)) ∧ Save (fun c=>c = bk ∨ c = r) w2 wr) (fun _ wr=>wr.rangeLeft ba r)
 case atStart =>
  refine ⟨a,cnt0,hrg0, ?_,Save.refl _ _⟩
  have e:(fun j=>(f j || j == k) || (a j && !a j)) = fun j=>f j || j == k:=by funext j;simp
  rw [e]
  exact hS2
 case round =>
  obtain ⟨l,cnt,hrg,hSr,hv⟩:=hrel
  have hBl2:B < w2.heap.size:=cell_lt c5
  have hgl2:g < w2.heap.size:=cell_lt d1
  have c5r:=hv.cell c5 (by simp;omega)
  have d1r:=hv.cell d1 (by simp;omega)
  go_wp2_with (at_next;refine wpList_set_next _ rfl _ rfl ba r a l cnt rfl hrg ?_ ?_)
  ·intro hl0
   go_wp2
   refine bodyPost_end (v:=.tuple #[]) (by simp [results,Tryz.f73]) rfl ?_
   have e:(fun j=>(f j || j == k) || (a j && !l j)) = learnS f k a:=by
    funext j
    rw [hl0 j]
    simp [learnS,Bool.or_assoc]
   rw [e] at hSr
   have hv2:=v2.trans hv (fun b h hl=>h.elim id (fun e=>by omega))
   exact ⟨rfl,back.out _ _ (hv2.lies fun c hc=>⟨hl2 c hc.1,hc.2⟩) hSr,hv2.mono fun b e=>e ▸ hb1⟩
  ·intro i c w3 cnt1 hli hrg1 hlt1 hg1 hs1 hen
   obtain ⟨hai,hi⟩:=hrg.bound hli
   have hS3:=hSr.keep (hg1.block bk hSr.lt (by simp;omega))
   have c5s:=hg1.cell c5r (by simp;omega)
   have d1s:=hg1.cell d1r (by simp;omega)
   clear c5r d1r
   go_wp2_with (at_mapUpdate;refine wpList_set_put _ rfl _ _ _ rfl bk _ i rfl hS3 hi rfl rfl ?_;intro w4 hS4 hg4;go_frame)
   have hrg4:=hrg1.keep (hg4.block ba hrg1.lts.2.1 (by simp;omega)) (hg4.block r hrg1.lts.1 (by simp;omega))
   go_roundw
   case rel =>
    refine ⟨_,cnt1,hrg4, ?_,(hv.trans (Save.grown (S:=fun c=>c = bk ∨ c = r) hg1 (Or.inr rfl)) (fun _ h _=>h)).trans (Save.grown (S:=fun c=>c = bk ∨ c = r) hg4 (Or.inl rfl)) (fun _ h _=>h)⟩
    have e:(fun j=>((f j || j == k) || (a j && !l j)) || j == i) = fun j=>(f j || j == k) || (a j && !(l j && !(j == i))):=by
     funext j
     by_cases hj:j = i
     ·subst hj;simp [hai]
     ·have:(j == i) = false:=by simpa using hj
      simp [this]
    rw [e] at hS4
    exact hS4
   case measure=>rw [hrg4.left_eq,hrg.left_eq];exact hlt1
end Go.Proofs.YtnalakhelicjcaaGreat
