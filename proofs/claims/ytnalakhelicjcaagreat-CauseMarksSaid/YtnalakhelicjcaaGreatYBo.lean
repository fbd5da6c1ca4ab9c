/-
  Rows of bools: how they read; rows of a call's own; are two the same?
-/
import Derived.Test.YtnalakhelicjcaaGreatYMkP
import Derived.Test.YtnalakhelicjcaaGreatYOLt
import Derived.Test.YtnalakhelicjcaaGreatYKC
import Derived.Test.YtnalakhelicjcaaGreatYSW
set_option maxRecDepth 100000
namespace Go.Proofs.YtnalakhelicjcaaGreat
open Go.RowKit Go.Deep Go.Shelf Go.BigFrame
def BRd (_:World) (cs:List Value) (x:Bool):Prop:=cs = [.bool x]
theorem BRd.stays:Stays BRd:=fun _ _ _ _ h _=>h
def BoolsAt (w:World) (v:Value) (xs:List Bool):Prop:=Sl BRd 1 w v xs
def BRowRd (w:World) (cs:List Value) (xs:List Bool):Prop:=∃ u,cs = [u] ∧ BoolsAt w u xs
theorem BoolsAt.below {w w':World} {v:Value} {xs:List Bool} (h:BoolsAt w v xs) (hb:Below w.heap.size w w'):BoolsAt w' v xs:=Sl.below BRd.stays h hb
theorem BRowRd.stays:Stays BRowRd:=fun _ _ _ _ ⟨u,h1,h2⟩ hb=>⟨u,h1,h2.below hb⟩
def BRows (w:World) (v:Value) (l:List (List Bool)):Prop:=Sl BRowRd 1 w v l
theorem BRows.below {w w':World} {v:Value} {l:List (List Bool)} (h:BRows w v l) (hb:Below w.heap.size w w'):BRows w' v l:=Sl.below BRowRd.stays h hb
theorem BoolsAt.at {w:World} {v:Value} {xs:List Bool} (h:BoolsAt w v xs) {k:Nat} (hk:k < xs.length):∃ b off cap,v = .slice (some ⟨b,off,none⟩) xs.length cap ∧ xs.length ≤ cap ∧ w.cell? ⟨b,off + k,none⟩ = some (.bool (xs.getD k false)):=by
 obtain ⟨_,a,cap,rfl,hc,h2⟩:=Sl.open h
 obtain ⟨b,off,rfl,h3⟩:=h2 (by intro e;subst e;simp at hk)
 obtain ⟨cs,_,h4,h5⟩:=h3 k hk
 have h4:cs = [.bool xs[k]]:=h4
 subst h4
 have h6:=h5 0 (by omega)
 simp only [Nat.mul_one,Nat.add_zero] at h6
 exact ⟨b,off,cap,rfl,hc,by rw [h6,getD_lt xs false hk];rfl⟩
theorem BRows.at {w:World} {v:Value} {l:List (List Bool)} (h:BRows w v l) {k:Nat} (hk:k < l.length):∃ b off cap u,v = .slice (some ⟨b,off,none⟩) l.length cap ∧ l.length ≤ cap ∧ w.cell? ⟨b,off + k,none⟩ = some u ∧ BoolsAt w u (l.getD k []):=by
 obtain ⟨_,a,cap,rfl,hc,h2⟩:=Sl.open h
 obtain ⟨b,off,rfl,h3⟩:=h2 (by intro e;subst e;simp at hk)
 obtain ⟨cs,_,⟨u,rfl,h4⟩,h5⟩:=h3 k hk
 have h6:=h5 0 (by omega)
 simp only [Nat.mul_one,Nat.add_zero] at h6
 exact ⟨b,off,cap,u,rfl,hc,by rw [h6];rfl,by rw [getD_lt l [] hk];exact h4⟩
def BEl:ElO Bool:=fun _ _ cs x=>cs = [.bool x]
theorem BEl.stays:OStays BEl:=fun _ _ _ _ _ h _=>h
def OBools (w:World) (S:Nat → Prop) (v:Value) (xs:List Bool):Prop:=OSl BEl true 4 1 w S v xs
def OBoolsEl:ElO (List Bool):=fun w T cs xs=>∃ u,cs = [u] ∧ OBools w T u xs
theorem OBools.keep {w w':World} {S:Nat → Prop} {v:Value} {xs:List Bool} (h:OBools w S v xs) (k:Lies S w w'):OBools w' S v xs:=OSl.keep BEl.stays h k
theorem OBoolsEl.stays:OStays OBoolsEl:=fun _ _ _ _ _ ⟨u,h,h2⟩ k=>⟨u,h,h2.keep k⟩
def OBRows (w:World) (S:Nat → Prop) (v:Value) (l:List (List Bool)):Prop:=OSl OBoolsEl true 92 1 w S v l
theorem OBRows.keep {w w':World} {S:Nat → Prop} {v:Value} {l:List (List Bool)} (h:OBRows w S v l) (k:Lies S w w'):OBRows w' S v l:=OSl.keep OBoolsEl.stays h k
theorem OBools.bools {w:World} {S:Nat → Prop} {v:Value} {xs:List Bool} (h:OBools w S v xs):BoolsAt w v xs:=OSl.sl (fun _ _ _ _ h=>h) h
theorem OBRows.rows {w:World} {S:Nat → Prop} {v:Value} {l:List (List Bool)} (h:OBRows w S v l):BRows w v l:=OSl.sl (fun _ _ _ _ ⟨u,e,h⟩=>⟨u,e,OBools.bools h⟩) h
theorem OBools.bool_at {w:World} {S:Nat → Prop} {v:Value} {xs:List Bool} (h:OBools w S v xs) {k:Nat} (hk:k < xs.length) :
  ∃ (g cap:Nat),v = .slice (some ⟨g,0,none⟩) xs.length cap ∧ xs.length ≤ cap ∧ S g ∧ BlkIs w g 4 cap ∧ w.cell? ⟨g,k,none⟩ = some (.bool (xs.getD k false)) ∧
   ∀ w' x,Lies S w w' → OBools (w'.setCell ⟨g,k,none⟩ (.bool x)) S v (xs.set k x):=by
 obtain ⟨g,off,cap,T,cs,e1,e2,e3,e4,e5,e6,e7,e8,e9,back⟩:=OSl.at BEl.stays h hk
 have e8:cs = [.bool xs[k]]:=e8
 subst e8
 obtain rfl:=e5 rfl
 have k1:=e7 0 (by omega)
 simp only [Nat.zero_add,Nat.mul_one,Nat.add_zero] at e3 e7 back k1
 refine ⟨g,cap,e1,e4,e2,e3,by rw [k1,getD_lt xs false hk];rfl,fun w' x hL=>?_⟩
 have hB:BlkSet w (w'.setCell ⟨g,k,none⟩ (.bool x)) g k [.bool x]:=
  (BlkSet.same (w:=w) (w':=w') (p:=k) (cs:=[.bool xs[k]]) (hL g e2) (fun j hj=>by
   obtain rfl:j = 0:=by simpa using hj
   exact k1)).set e3 0 (by simp) (by simp;omega) _
 exact OSl.mono (back _ (fun _=>False) _ x (fun b hb=>(Go.Deep.blk_setCell_other _ _ _ _ hb.2.1).trans (hL b hb.1)) hB rfl rfl (fun _ h=>h.elim)) (fun b hb=>hb.elim id False.elim)
theorem rowS_set {n i:Nat} {f:St}:(rowS n f).set i true = rowS n (fun j=>f j || j == i):=by
 apply List.ext_getElem
 ·simp [rowS]
 ·intro j h1 h2
  have hj:j < n:=by simpa [rowS] using h2
  rw [List.getElem_set]
  simp only [rowS,List.getElem_map,List.getElem_range]
  by_cases e:i = j
  ·subst e;simp
  ·have:(j == i) = false:=by simpa using fun h=>e h.symm
   rw [if_neg e,this]
   simp
theorem rowS_none (n:Nat):rowS n (fun _=>false) = List.replicate n false:=by
 unfold rowS
 apply List.ext_getElem
 ·simp
 ·intro i h1 h2
  simp
set_option maxHeartbeats 1000000 in
theorem SameMarks_c {w:World} {v u:Value} {l:List (List Bool)} (h:BRows w v l) (h2:BRows w u l):Calls Tryz.prog 26 #[v,u] w (GivesB (.bool true) w):=by
 obtain ⟨hl,a,cap,rfl,hc,_⟩:=Sl.open h
 obtain ⟨_,a2,cap2,rfl,hc2,_⟩:=Sl.open h2
 go_enter Tryz.func26,Tryz.ntmps26
 go_wp2_with fail
 go_loopw [5] (fun i wr=>∃ k:Nat,k ≤ l.length ∧ i = .int .i64 k ∧ Below w.heap.size w wr) (fun i _=>l.length - (intOf i).toNat)
 case atStart=>exact ⟨0,by omega,rfl,Below.refl _ _⟩
 case round =>
  obtain ⟨k,hk,rfl,hb⟩:=hrel
  by_cases hlt:k < l.length
  ·obtain ⟨b1,o1,c1,u1,e1,_,r1,hu1⟩:=(BRows.below h hb).at hlt
   cases e1
   obtain ⟨b2,o2,c2,u2,e2,_,r2,hu2⟩:=(BRows.below h2 hb).at hlt
   cases e2
   obtain ⟨row,HR⟩:∃ row,l.getD k [] = row:=⟨_,rfl⟩
   rw [HR] at hu1 hu2
   clear HR
   obtain ⟨hrl,a3,cap3,rfl,_⟩:=Sl.open hu1
   obtain ⟨_,a4,cap4,rfl,_⟩:=Sl.open hu2
   have hl1:=cell_lt r1
   have hl2:=cell_lt r2
   dsimp only at hl1 hl2
   obtain ⟨wo,rfl⟩:∃ wo:World,wo = wr:=⟨_,rfl⟩
   go_wp2_with fail
   go_quiet (fail)
   go_wp2_with fail
   go_loopw [6] (fun i wr=>∃ j:Nat,j ≤ row.length ∧ i = .int .i64 j ∧ Below wo.heap.size wo wr) (fun i _=>row.length - (intOf i).toNat)
   case atStart=>exact ⟨0,by omega,rfl,below_drewN wo _⟩
   case round =>
    obtain ⟨j,hj0,rfl,hb9⟩:=hrel
    have r1:=(hb9.cell (p:=⟨b1,o1 + k,none⟩) hl1).trans r1
    have r2:=(hb9.cell (p:=⟨b2,o2 + k,none⟩) hl2).trans r2
    by_cases hltj:j < row.length
    ·obtain ⟨b3,o3,c3,e3,_,s1⟩:=(BoolsAt.below hu1 hb9).at hltj
     cases e3
     obtain ⟨b4,o4,c4,e4,_,s2⟩:=(BoolsAt.below hu2 hb9).at hltj
     cases e4
     generalize row.getD j false = bv at *
     go_wp2_with fail
     go_quiet (fail)
     go_wp2_with fail
     go_roundw
     case rel=>exact ⟨j + 1,by omega,by go_num,below_trans hb9 (below_drewN wr _)⟩
     case measure=>simp [intOf];omega
    ·obtain rfl:j = row.length:=by omega
     go_wp2_with fail
     go_roundw
     case rel=>exact ⟨k + 1,by omega,by go_num,below_trans hb hb9⟩
     case measure=>simp [intOf];omega
  ·obtain rfl:k = l.length:=by omega
   go_wp2_with fail
   go_ret
   exact ⟨rfl,hb⟩
end Go.Proofs.YtnalakhelicjcaaGreat
