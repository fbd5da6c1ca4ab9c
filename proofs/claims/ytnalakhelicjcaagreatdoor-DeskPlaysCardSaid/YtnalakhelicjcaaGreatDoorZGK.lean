/-
  A builder: what is written, and what else stays.
-/
import Derived.Test.YtnalakhelicjcaaGreatDoorZShf
import Derived.Test.YtnalakhelicjcaaGreatDoorZGF
import Derived.Test.YtnalakhelicjcaaGreatDoorZGA
import Derived.Lib.Builder
import Derived.Lib.UnsafeStr
import Derived.Test.YtnalakhelicjcaaGreatDoorZGH
import Derived.Test.YtnalakhelicjcaaGreatDoorZGJ
import Derived.Test.YtnalakhelicjcaaGreatDoorZKS2
set_option maxRecDepth 100000
namespace Go.Proofs.YtnalakhelicjcaaGreatDoor
open Go.RowKit Go.Shelf Go.BigFrame
theorem infoBd:(Tryz.prog.info? 42).map (·.size) = some 2:=by kernel_rfl
theorem liesBd:liesAt Tryz.prog Tryz.prog.depth 42 (2 / Tryz.prog.cellsOf 42) 0 42 1 = true:=by kernel_rfl
def Bd (w:World) (B b:Nat) (v:Value) (bs:List UInt8):Prop:=
 B ≤ b ∧ (∃ p,(p = .pointer none ∨ p = .pointer (some ⟨b,0,none⟩)) ∧ w.heap[b]? = some (.cells #[p,v] 42 (0,0))) ∧ w.ownsRow B 5 1 v bs.length (Lib.byteCells bs) ∧ v.ownBlock ≠ some b
theorem Bd.is {w:World} {B b:Nat} {v:Value} {bs:List UInt8} (h:Bd w B b v bs):Lib.IsBuilder 42 5 B b (Lib.byteCells bs) w:=by
 obtain ⟨h0,⟨p,hp,h1⟩,h2,h3⟩:=h
 have hl:(Lib.byteCells bs).length = bs.length:=Lib.byteCells_length bs
 rcases hp with rfl | rfl
 ·exact Or.inl ⟨h0,v,h1,by rw [hl];exact h2,h3⟩
 ·exact Or.inr ⟨h0,v,h1,by rw [hl];exact h2,h3⟩
theorem copyCheck_c {w:World} {b:Nat} {p v:Value} (hp:p = .pointer none ∨ p = .pointer (some ⟨b,0,none⟩)) (hb:w.heap[b]? = some (.cells #[p,v] 42 (0,0))) :
  Calls Tryz.prog 30 #[.pointer (some ⟨b,0,none⟩)] w fun e w'=>e = .returned (.tuple #[]) ∧ w'.heap[b]? = some (.cells #[.pointer (some ⟨b,0,none⟩),v] 42 (0,0)) ∧ Save (fun c=>c = b) w w':=by
 obtain ⟨j,hj,hjs⟩:=Option.map_eq_some_iff.1 infoBd
 have h0:w.cell? ⟨b,0,none⟩ = some p:=by rw [Lib.cell_of_heap hb];rfl
 have hf:w.frozen? ⟨b,0,none⟩ = false:=Lib.frozen_of_heap hb 0
 have hsh:w.shape? b = some (42,2):=by simp [World.shape?,hb]
 rcases hp with rfl | rfl
 ·have hset:(w.setCell ⟨b,0,none⟩ (.pointer (some ⟨b,0,none⟩))).heap[b]? = some (.cells #[.pointer (some ⟨b,0,none⟩),v] 42 (0,0)):=by simp [World.setCell,Array.getElem?_modify,hb]
  have hsv:Save (fun c=>c = b) w (w.setCell ⟨b,0,none⟩ (.pointer (some ⟨b,0,none⟩))):=⟨rfl,rfl,rfl,by rw [Go.Deep.nblk_setCell];exact Nat.le_refl _,fun _ _ hn=>Go.Deep.blk_setCell_other _ _ _ _ hn⟩
  have hu:=Lib.run_to_unsafe (P:=Tryz.prog) w ⟨b,0,none⟩ Tryz.underlying39 Tryz.underlying98 hj (by rw [hjs];decide) hsh (Nat.zero_lt_succ 1)
  have hv:=Lib.run_from_unsafe (P:=Tryz.prog) w ⟨b,0,none⟩ Tryz.underlying98 Tryz.underlying39 hj hsh liesBd
  replace hset:=Lib.hid hset
  replace hsv:=Lib.hid hsv
  clear hb
  go_enter Tryz.func30,Tryz.ntmps30
  go_wp2
  rw [run_callFunc_extern Tryz.func52 (by kernel_rfl) (by kernel_rfl) (by kernel_rfl) (e:=Extern.AbiNoEscape.same) (by kernel_rfl)]
  rw [Lib.run_noEscape]
  simp only [Result.andThen]
  rw [Oper.upon_value]
  go_wp2
  go_end0
  exact ⟨rfl,hset.out,hsv.out⟩
 ·have hb':=Lib.hid hb
  clear hb
  go_enter Tryz.func30,Tryz.ntmps30
  go_wp2
  rw [Lib.run_neq_ptr_same w _ Tryz.underlying39 hj]
  go_wp2
  go_end0
  exact ⟨rfl,hb'.out,Save.refl _ _⟩
theorem cells_app (a b:List UInt8):Lib.byteCells (a ++ b) = Lib.byteCells a ++ Lib.byteCells b:=by simp [Lib.byteCells]
theorem cells_str (s:List UInt8):Lib.strCells (strB s) = Lib.byteCells s:=rfl
theorem neBd:42 ≠ 5:=by decide
set_option maxHeartbeats 1000000 in
theorem WriteS_c {w:World} {B b:Nat} {v:Value} {bs:List UInt8} (h:Bd w B b v bs) (s:List UInt8) (hl:bs.length + s.length ≤ 1000000000) (_hB:B ≤ w.heap.size) :
  Calls Tryz.prog 12 #[.pointer (some ⟨b,0,none⟩), .string (strB s)] w fun e w'=>(∃ x,e = .returned x) ∧ ∃ v',Bd w' B b v' (bs ++ s) ∧ (v'.ownBlock = v.ownBlock ∨ ∃ g,v'.ownBlock = some g ∧ w.heap.size ≤ g) ∧ Save (fun c=>c = b ∨ v.ownBlock = some c) w w':=by
 obtain ⟨i0,hi0,hz0,hz1,hz2⟩:=info_parts infoCByteP
 obtain ⟨hBb,⟨p,hp,hb⟩,hown,hne⟩:=h
 have hC:=copyCheck_c hp hb
 have hz:=strB_size s
 have hlt:b < w.heap.size:=(Array.getElem?_eq_some_iff.1 hb).1
 obtain ⟨va,vc,rfl⟩:=own_form hown
 clear hp hb
 go_enter Tryz.func12,Tryz.ntmps12
 go_wp2_with fail
 refine hC.mono ?_
 clear hC
 rintro e w1 ⟨rfl,hb1,s1⟩
 have hs1:=s1.size
 have hown1:w1.ownsRow B 5 1 (.slice va bs.length vc) bs.length (Lib.byteCells bs):=by
  obtain ⟨e1,e2 | ⟨g,cap,cur,e2,e3,e4,e5⟩⟩:=hown
  ·exact ⟨e1, .inl e2⟩
  ·refine ⟨e1, .inr ⟨g,cap,cur,e2,e3,(s1.block g (Array.getElem?_eq_some_iff.1 e4).1 (fun e=>hne ?_)).trans e4,e5⟩⟩
   rw [e2,e]
   rfl
 have c0:w1.cell? ⟨b,0,none⟩ = some (.pointer (some ⟨b,0,none⟩)):=by rw [Lib.cell_of_heap hb1];rfl
 have c1:w1.cell? ⟨b,1,none⟩ = some (.slice va bs.length vc):=by rw [Lib.cell_of_heap hb1];rfl
 go_wp2_with (first
  |(at_builtin;refine wpList_append_str _ rfl _ _ 40 9 rfl B 5 i0 Tryz.underlying40 Tryz.underlying9 hi0 hz0 hz1 hz2 (.slice va bs.length vc) bs.length (Lib.byteCells bs) rfl hown1 (strB s) rfl (by omega) (by omega) ?_;intro v2 w2 hown2 hg2 hat2;obtain ⟨ua,uc,rfl⟩:=own_form hown2
    have hb2:w2.heap[b]? = some (.cells #[.pointer (some ⟨b,0,none⟩), .slice va bs.length vc] 42 (0,0)):=(hg2.block b (by omega) (fun e=>hne e.symm)).trans hb1
    have d0:w2.cell? ⟨b,0,none⟩ = some (.pointer (some ⟨b,0,none⟩)):=by rw [Lib.cell_of_heap hb2];rfl
    have d1:w2.cell? ⟨b,1,none⟩ = some (.slice va bs.length vc):=by rw [Lib.cell_of_heap hb2];rfl
    have f1:w2.frozen? ⟨b,1,none⟩ = false:=Lib.frozen_of_heap hb2 1))
 all_goals
  have hne2:=Lib.ownBlock_ne hown2 hb2 neBd
  have s2:Save (fun c=>(Value.slice va bs.length vc).ownBlock = some c) w1 w2:=⟨hg2.os,hg2.tape,hg2.output,hg2.size,fun k hk hn=>hg2.block k hk (fun e=>hn e.symm)⟩
  have s3:Save (fun c=>c = b) w2 (w2.setCell ⟨b,1,none⟩ (.slice ua (bs.length + (strB s).size) uc)):=⟨rfl,rfl,rfl,by rw [Go.Deep.nblk_setCell];exact Nat.le_refl _,fun _ _ hn=>Go.Deep.blk_setCell_other _ _ _ _ hn⟩
  have hbF:(w2.setCell ⟨b,1,none⟩ (.slice ua (bs.length + (strB s).size) uc)).heap[b]? = some (.cells #[.pointer (some ⟨b,0,none⟩), .slice ua (bs.length + (strB s).size) uc] 42 (0,0)):=by simp [World.setCell,Array.getElem?_modify,hb2]
  have hoF:(w2.setCell ⟨b,1,none⟩ (.slice ua (bs.length + (strB s).size) uc)).ownsRow B 5 1 (.slice ua (bs.length + (strB s).size) uc) (bs.length + (strB s).size) (Lib.byteCells bs ++ Lib.strCells (strB s)):=
   hown2.kept (row:=some b) ⟨rfl,rfl,rfl,by simp [World.setCell],fun k _ hk=>Below.heap_setCell _ _ _ _ (fun e=>hk (by simp [e]))⟩ (Or.inr hne2)
  have sF:=((s1.mono (T:=fun c=>c = b ∨ (Value.slice va bs.length vc).ownBlock = some c) (fun _ h=>Or.inl h)).trans s2 (fun _ h _=>Or.inr h)).trans s3 (fun _ h _=>Or.inl h)
  rw [hz] at hbF hoF sF hne2
  rw [cells_str, ← cells_app] at hoF
  have hatF:(Value.slice ua (bs.length + s.length) uc).ownBlock = (Value.slice va bs.length vc).ownBlock ∨ ∃ g,(Value.slice ua (bs.length + s.length) uc).ownBlock = some g ∧ w.heap.size ≤ g:=by
   rw [hz] at hat2
   rcases hat2 with h | h
   ·exact Or.inl h
   ·exact Or.inr ⟨_,h,hs1⟩
  replace hbF:=Lib.hid hbF
  replace hoF:=Lib.hid hoF
  replace sF:=Lib.hid sF
  replace hne2:=Lib.hid hne2
  replace hatF:=Lib.hid hatF
  clear s2 s3 hown2 hat2
  go_wp2_with fail
  go_ret2
  refine ⟨⟨_,rfl⟩,_,⟨hBb,⟨_,Or.inr rfl,hbF.out⟩, ?_,hne2.out⟩,hatF.out,sF.out⟩
  rw [List.length_append]
  exact hoF.out
end Go.Proofs.YtnalakhelicjcaaGreatDoor
set_option maxRecDepth 100000
namespace Go.Proofs.YtnalakhelicjcaaGreatDoor
open Go.RowKit Go.Shelf Go.BigFrame
theorem byteCells1:Tryz.prog.cellsOf 5 = 1:=by kernel_rfl
theorem Save.freeze (w:World) (g n:Nat):Save (fun c=>some g = some c) w (w.freeze ⟨g,0,none⟩ n):=by
 unfold World.freeze
 split
 ·exact Save.refl _ w
 ·exact ⟨rfl,rfl,rfl,by simp,fun k hk hn=>by
   simp only [Array.getElem?_modify]
   rw [if_neg (fun e=>hn (by rw [e]))]⟩
set_option maxHeartbeats 2000000 in
theorem BStr_c {w:World} {B b:Nat} {v:Value} {l:List UInt8} (h:Bd w B b v l) (hn:l = [] → v = .slice none 0 0) :
  Calls Tryz.prog 15 #[.pointer (some ⟨b,0,none⟩)] w fun e w'=>e = .returned (.string (strB l)) ∧ Save (fun c=>v.ownBlock = some c) w w':=by
 obtain ⟨hB,⟨p,hp,hbk⟩,hown,hne⟩:=h
 by_cases h0:l = []
 ·obtain rfl:=hn h0
  subst h0
  have hUS:=fun (W:World) (q:Option Addr)=>Lib.run_unsafeString_none (P:=Tryz.prog) W 83 3 9 q
  have c1:w.drew.cell? ⟨b,1,none⟩ = some (.slice none 0 0):=by
   have:w.drew.heap[b]? = some (.cells #[p, .slice none 0 0] 42 (0,0)):=hbk
   rw [Lib.cell_of_heap this];rfl
  have hSD:∀ W:World,(Builtin.unsafeSliceData_ #[40] 83 #[.slice none 0 0]).run Tryz.prog W = .ok (.pointer none) W:=fun _=>rfl
  clear hbk hown hne hp
  go_enter Tryz.func15,Tryz.ntmps15
  go_upto_region 1 with fail
  refine wp_region_N (fun o=>o.cell? ⟨b,1,none⟩ = some (.slice none 0 0) ∧ True) 10 12 rfl (by kernel_rfl) ⟨c1,trivial⟩ (fun hSw=>?_)
  refine tk 0 ?_ rfl rfl (by kernel_rfl) (.inl ⟨by rfl, ?_⟩) hSw ?_
  rotate_left
  ·rintro w ⟨s0,_⟩;go_simp;try with_reducible rfl
  simp only [tkp,tkz,tks]
  refine tk 1 ?_ rfl rfl (by kernel_rfl) (.inl ⟨by rfl, ?_⟩) hSw ?_
  rotate_left
  ·rintro w ⟨s0,_⟩;go_simp;try with_reducible rfl
  simp only [tkp,tkz,tks]
  refine tk 2 ?_ rfl rfl (by kernel_rfl) (.inl ⟨by rfl, ?_⟩) hSw ?_
  rotate_left
  ·rintro w ⟨s0,_⟩;go_simp;try with_reducible rfl
  simp only [tkp,tkz,tks]
  refine tk 3 ?_ rfl rfl (by kernel_rfl) (.inl ⟨by rfl, ?_⟩) hSw ?_
  rotate_left
  ·rintro w ⟨s0,_⟩;go_simp;try with_reducible rfl
  simp only [tkp,tkz,tks]
  refine tk 4 ?_ rfl rfl (by kernel_rfl) (.inl ⟨by rfl, ?_⟩) hSw ?_
  rotate_left
  ·rintro w ⟨s0,_⟩;go_simp;try with_reducible rfl
  simp only [tkp,tkz,tks]
  refine tk 5 ?_ rfl rfl (by kernel_rfl) (.inl ⟨by rfl, ?_⟩) hSw ?_
  rotate_left
  ·rintro w ⟨s0,_⟩;go_simp;try with_reducible rfl
  simp only [tkp,tkz,tks]
  refine tk 6 ?_ rfl rfl (by kernel_rfl) (.inl ⟨by rfl, ?_⟩) hSw ?_
  rotate_left
  ·rintro w ⟨s0,_⟩;go_simp;try with_reducible rfl
  simp only [tkp,tkz,tks]
  refine tk 7 ?_ rfl rfl (by kernel_rfl) (.inl ⟨by rfl, ?_⟩) hSw ?_
  rotate_left
  ·rintro w ⟨s0,_⟩;go_simp;try with_reducible rfl
  simp only [tkp,tkz,tks]
  refine tk 8 ?_ rfl rfl (by kernel_rfl) (.inl ⟨by rfl, ?_⟩) hSw ?_
  rotate_left
  ·rintro w ⟨s0,_⟩;go_simp;try with_reducible rfl
  simp only [tkp,tkz,tks]
  refine tk 9 ?_ rfl rfl (by kernel_rfl) (.inl ⟨by rfl, ?_⟩) hSw ?_
  rotate_left
  ·rintro w ⟨s0,_⟩;go_simp;try with_reducible rfl
  simp only [tkp,tkz,tks]
  refine N_rest 10 2 (Nat.le_refl _) rfl (by kernel_rfl) ?_
  simp only [List.drop_succ_cons,List.drop_zero]
  have hU:=hUS w.drew none
  go_wp2_with fail
  go_ret
  exact ⟨rfl,(Save.refl _ w).then (below_drewN w 1)⟩
 ·have hl0:l.length ≠ 0:=by simpa using h0
  obtain ⟨g,cap,cur,rfl,hbg,hg,hnc,hcm,hcs,htake⟩:∃ g cap cur,v = .slice (some ⟨g,0,none⟩) l.length cap ∧ B ≤ g ∧ w.heap[g]? = some (.cells cur 5 (0,0)) ∧ l.length ≤ cap ∧ cap ≤ maxLen ∧ cur.size = cap * 1 ∧ cur.toList.take (l.length * 1) = Lib.byteCells l:=by
   rcases hown.2 with ⟨_,hz⟩ | ⟨g,cap,cur,hv,r⟩
   ·exact absurd hz hl0
   ·exact ⟨g,cap,cur,hv,r⟩
  have c1:w.drew.cell? ⟨b,1,none⟩ = some (.slice (some ⟨g,0,none⟩) l.length cap):=by
   have:w.drew.heap[b]? = some (.cells #[p, .slice (some ⟨g,0,none⟩) l.length cap] 42 (0,0)):=hbk
   rw [Lib.cell_of_heap this];rfl
  have hSD:∀ W:World,(Builtin.unsafeSliceData_ #[40] 83 #[.slice (some ⟨g,0,none⟩) l.length cap]).run Tryz.prog W = .ok (.pointer (some ⟨g,0,none⟩)) W:=
   fun W=>Lib.run_unsafeSliceData_row W _ _ _ _ _ (by omega)
  have hUS:(Builtin.unsafeString_ #[83,3] 9 #[.pointer (some ⟨g,0,none⟩), .int .i64 l.length]).run Tryz.prog w.drew = .ok (.string ⟨l.toArray⟩) (w.drew.freeze ⟨g,0,none⟩ l.length):=by
   refine Lib.run_unsafeString_row w.drew 83 3 9 5 Tryz.underlying83 byteCells1 g cur.size (by have hg':w.drew.heap[g]? = some (.cells cur 5 (0,0)):=hg;simp [World.shape?,hg']) l h0 (by omega) (by unfold maxLen at hcm;omega) ?_
   intro j x hx
   have:=hown.cells (g:=g) rfl j (.int .u8 x.toNat) (by simp [Lib.byteCells,hx])
   exact this
  clear hbk hown hne hp htake hcs hg
  go_enter Tryz.func15,Tryz.ntmps15
  go_upto_region 1 with fail
  refine wp_region_N (fun o=>o.cell? ⟨b,1,none⟩ = some (.slice (some ⟨g,0,none⟩) l.length cap) ∧ True) 10 12 rfl (by kernel_rfl) ⟨c1,trivial⟩ (fun hSw=>?_)
  refine tk 0 ?_ rfl rfl (by kernel_rfl) (.inl ⟨by rfl, ?_⟩) hSw ?_
  rotate_left
  ·rintro w ⟨s0,_⟩;go_simp;try with_reducible rfl
  simp only [tkp,tkz,tks]
  refine tk 1 ?_ rfl rfl (by kernel_rfl) (.inl ⟨by rfl, ?_⟩) hSw ?_
  rotate_left
  ·rintro w ⟨s0,_⟩;go_simp;try with_reducible rfl
  simp only [tkp,tkz,tks]
  refine tk 2 ?_ rfl rfl (by kernel_rfl) (.inl ⟨by rfl, ?_⟩) hSw ?_
  rotate_left
  ·rintro w ⟨s0,_⟩;go_simp;try with_reducible rfl
  simp only [tkp,tkz,tks]
  refine tk 3 ?_ rfl rfl (by kernel_rfl) (.inl ⟨by rfl, ?_⟩) hSw ?_
  rotate_left
  ·rintro w ⟨s0,_⟩;go_simp;try with_reducible rfl
  simp only [tkp,tkz,tks]
  refine tk 4 ?_ rfl rfl (by kernel_rfl) (.inl ⟨by rfl, ?_⟩) hSw ?_
  rotate_left
  ·rintro w ⟨s0,_⟩;go_simp;try with_reducible rfl
  simp only [tkp,tkz,tks]
  refine tk 5 ?_ rfl rfl (by kernel_rfl) (.inl ⟨by rfl, ?_⟩) hSw ?_
  rotate_left
  ·rintro w ⟨s0,_⟩;go_simp;try with_reducible rfl
  simp only [tkp,tkz,tks]
  refine tk 6 ?_ rfl rfl (by kernel_rfl) (.inl ⟨by rfl, ?_⟩) hSw ?_
  rotate_left
  ·rintro w ⟨s0,_⟩;go_simp;try with_reducible rfl
  simp only [tkp,tkz,tks]
  refine tk 7 ?_ rfl rfl (by kernel_rfl) (.inl ⟨by rfl, ?_⟩) hSw ?_
  rotate_left
  ·rintro w ⟨s0,_⟩;go_simp;try with_reducible rfl
  simp only [tkp,tkz,tks]
  refine tk 8 ?_ rfl rfl (by kernel_rfl) (.inl ⟨by rfl, ?_⟩) hSw ?_
  rotate_left
  ·rintro w ⟨s0,_⟩;go_simp;try with_reducible rfl
  simp only [tkp,tkz,tks]
  refine tk 9 ?_ rfl rfl (by kernel_rfl) (.inl ⟨by rfl, ?_⟩) hSw ?_
  rotate_left
  ·rintro w ⟨s0,_⟩;go_simp;try with_reducible rfl
  simp only [tkp,tkz,tks]
  refine N_rest 10 2 (Nat.le_refl _) rfl (by kernel_rfl) ?_
  simp only [List.drop_succ_cons,List.drop_zero]
  go_wp2_with fail
  go_ret
  exact ⟨rfl,((Save.refl _ w).then (below_drewN w 1)).trans (Save.freeze _ _ _) (fun _ h _=>h)⟩
end Go.Proofs.YtnalakhelicjcaaGreatDoor
set_option maxRecDepth 100000
namespace Go.Proofs.YtnalakhelicjcaaGreatDoor
open Go.RowKit Go.Shelf Go.BigFrame Go.Deep
attribute [local go_sem] Oper.semAt_some
def PlayPost (w:World) (r:Int × List UInt8):Ending → World → Prop:=GivesB (.tuple #[.string (strB r.2), .int .i64 r.1]) w
theorem playF_err {n:Int} {gs:List Int} {s:List UInt8} (h:gErr n gs ≠ 0):playF n gs s = (gErr n gs,[]):=if_neg h
theorem playF_long {n:Int} {gs:List Int} {s:List UInt8} (h:gErr n gs = 0) (h2:4096 < s.length ∨ 80 < s.count 10):playF n gs s = (2,[]):=by unfold playF;rw [if_pos h,if_pos h2]
theorem playF_open {n:Int} {gs:List Int} {s:List UInt8} (h:gErr n gs = 0) (h2:¬ (4096 < s.length ∨ 80 < s.count 10)) (h3:s ≠ [] ∧ s.getLast? ≠ some 10):playF n gs s = (1,[]):=by unfold playF;rw [if_pos h,if_neg h2,if_pos h3]
theorem playF_ok {n:Int} {gs:List Int} {s:List UInt8} (h:gErr n gs = 0) (h2:¬ (4096 < s.length ∨ 80 < s.count 10)) (h3:Ends s):playF n gs s = (0,(playX (beginX n.toNat gs) (linesB s)).2):=by
 unfold playF
 rw [if_pos h,if_neg h2,if_neg (fun k=>by rcases h3 with e | e;exact k.1 e;exact k.2 e)]
theorem count_c (w:World) (s:List UInt8):Calls Tryz.prog 8 #[.string (strB s), .string ⟨#[10]⟩] w fun e w'=>e = .returned (.int .i64 ((s.count 10:Nat):Int)) ∧ w' = w:=Tryz.strings_Count_one (strB s) 10 w
theorem suffix_line (s:List UInt8):Lib.hasSuffix s [10] = decide (s.getLast? = some 10):=by
 unfold Lib.hasSuffix
 rw [Bool.eq_iff_iff]
 simp only [List.isSuffixOf_iff_suffix,decide_eq_true_eq]
 rw [List.getLast?_eq_some_iff]
 constructor
 ·rintro ⟨t,rfl⟩
  exact ⟨t,rfl⟩
 ·rintro ⟨t,rfl⟩
  exact ⟨t,rfl⟩
theorem trim_c (w:World) (x:List UInt8) (hx:x.length ≤ 4096):Calls Tryz.prog 14 #[.string (strB (x ++ [10])), .string ⟨#[10]⟩] w fun e w'=>e = .returned (.string (strB x)) ∧ w' = w:=by
 have h:=Tryz.strings_TrimSuffix (strB (x ++ [10])) ⟨#[10]⟩ w (by rw [strB_size,List.length_append,List.length_singleton];omega)
 have e:Lib.trimSuffix (x ++ [10]) [10] = x:=by
  unfold Lib.trimSuffix
  rw [suffix_line]
  simp
 rw [show Lib.trimSuffix (strB (x ++ [10])).data.toList (⟨#[10]⟩:ByteArray).data.toList = x from e] at h
 exact h
theorem suffix_c (w:World) (s:List UInt8) (hs:s.length ≤ 140737488351232):Calls Tryz.prog 9 #[.string (strB s), .string ⟨#[10]⟩] w fun e w'=>e = .returned (.bool (decide (s.getLast? = some 10))) ∧ w' = w:=by
 rw [← suffix_line]
 exact Tryz.strings_HasSuffix (strB s) ⟨#[10]⟩ w (by rw [strB_size];omega)
set_option maxHeartbeats 2000000 in
theorem Play_no {w:World} {gv:Value} {gs:List Int} {n:Int} {s:List UInt8} (hg:Ints w gv gs) (hs:s.length ≤ 140737488351232) (h:¬ (gErr n gs = 0 ∧ ¬ (4096 < s.length ∨ 80 < s.count 10) ∧ Ends s)) :
  Calls Tryz.prog 4 #[.int .i64 n,gv, .string (strB s)] w (PlayPost w (playF n gs s)):=by
 have hC:=Check_c hg n
 obtain ⟨_,ga,gcap,rfl,_⟩:=hg.open
 obtain ⟨P,hP⟩:∃ P,PlayPost w (playF n gs s) = P:=⟨_,rfl⟩
 rw [hP]
 by_cases he:gErr n gs = 0
 rotate_left
 ·rw [playF_err he] at hP
  obtain ⟨e,hee⟩:∃ e,gErr n gs = e:=⟨_,rfl⟩
  rw [hee] at hC hP he
  clear hee
  have hq:(e != 0) = true:=by simpa using he
  replace hP:=Lib.hid hP
  replace he:=Lib.hid he
  go_enter Tryz.func4,Tryz.ntmps4
  go_wp2_with fail
  refine hC.mono ?_
  clear hC
  rintro e' w1 ⟨rfl,b1⟩
  go_wp2_with fail
  rw [← hP.out]
  exact ⟨rfl,b1⟩
 have hz:=strB_size s
 rw [he] at hC
 by_cases h1:4096 < s.length
 ·rw [playF_long he (Or.inl h1)] at hP
  replace hP:=Lib.hid hP
  replace he:=Lib.hid he
  go_enter Tryz.func4,Tryz.ntmps4
  go_wp2_with fail
  refine hC.mono ?_
  clear hC
  rintro e' w1 ⟨rfl,b1⟩
  go_wp2_with fail
  rw [← hP.out]
  exact ⟨rfl,b1⟩
 by_cases h2:80 < s.count 10
 ·rw [playF_long he (Or.inr h2)] at hP
  replace hP:=Lib.hid hP
  replace he:=Lib.hid he
  have hK:=fun w1=>count_c w1 s
  obtain ⟨ct,hct⟩:∃ ct,s.count 10 = ct:=⟨_,rfl⟩
  simp only [hct] at hK
  rw [hct] at h2
  clear hct h
  go_enter Tryz.func4,Tryz.ntmps4
  go_wp2_with fail
  refine hC.mono ?_
  clear hC
  rintro e' w1 ⟨rfl,b1⟩
  go_wp2_with fail
  refine (hK _).mono ?_
  clear hK
  rintro e' w2 ⟨rfl,rfl⟩
  go_wp2_with fail
  rw [← hP.out]
  exact ⟨rfl,b1⟩
 have h3:s ≠ [] ∧ s.getLast? ≠ some 10:=⟨fun e=>h ⟨he,(fun k=>k.elim h1 h2),Or.inl e⟩,fun e=>h ⟨he,(fun k=>k.elim h1 h2),Or.inr e⟩⟩
 rw [playF_open he (fun k=>k.elim h1 h2) h3] at hP
 have hK:=fun w1=>count_c w1 s
 have hS:=fun w1=>suffix_c w1 s hs
 have hne:((strB s).toList == []) = false:=by rw [strB_toL];exact beq_eq_false_iff_ne.2 h3.1
 rw [decide_eq_false h3.2] at hS
 obtain ⟨ct,hct⟩:∃ ct,s.count 10 = ct:=⟨_,rfl⟩
 simp only [hct] at hK
 rw [hct] at h2
 clear hct h h3
 replace hP:=Lib.hid hP
 replace he:=Lib.hid he
 go_enter Tryz.func4,Tryz.ntmps4
 go_wp2_with fail
 refine hC.mono ?_
 clear hC
 rintro e' w1 ⟨rfl,b1⟩
 go_wp2_with fail
 refine (hK _).mono ?_
 clear hK
 rintro e' w2 ⟨rfl,rfl⟩
 go_wp2_with fail
 refine (hS _).mono ?_
 clear hS
 rintro e' w2 ⟨rfl,rfl⟩
 go_wp2_with fail
 rw [← hP.out]
 exact ⟨rfl,b1⟩
end Go.Proofs.YtnalakhelicjcaaGreatDoor
