/-
  CauseMarks: what comes ahead is noted just as the document says.
-/
import Derived.Test.YtnalakhelicjcaaGreatYMo
import Derived.Test.YtnalakhelicjcaaGreatYCbg
set_option maxRecDepth 100000
namespace Go.Proofs.YtnalakhelicjcaaGreat
open Go.RowKit Go.Shelf Go.BigFrame
set_option maxHeartbeats 2000000 in
theorem CauseMarks_walk_of (w:World) {nodes:Int} {gv av:Value} {gs:List Int} {acts:List Ac} (_hn64:I64 nodes) (hg:Ints w gv gs) (ha:Acts w av acts) :
  Calls Tryz.prog 7 #[.int .i64 nodes,gv,av] w (GivesB (.bool true) w):=by
 have hM:=Mark_c hg nodes ha
 have hM2:=fun o (h:Below w.heap.size w o)=>MarkOf_c (hg.below h) nodes (ha.below h)
 rw [mark_same] at hM2
 obtain ⟨_,aa,acap,rfl,_⟩:=ha.form
 obtain ⟨_,ga,gcap,rfl,_⟩:=hg.open
 generalize markF nodes gs acts = r at *
 clear ha hg
 replace hM2:=Lib.hid hM2
 go_enter Tryz.func7,Tryz.ntmps7
 go_wp2_with fail
 refine hM.mono ?_
 clear hM
 rintro e w1 ⟨sv,ov,rfl,hS1,hO1,b1⟩
 obtain ⟨_,sa,scap,rfl,_,_⟩:=id hS1.open
 obtain ⟨_,oa,ocap,rfl,_,_⟩:=Sl.open hO1
 go_wp2_with fail
 refine (hM2.out w1 b1).mono ?_
 clear hM2
 rintro e w2 ⟨s2,o2,rfl,hS2,hO2,b2⟩
 obtain ⟨_,sa2,scap2,rfl,_,_⟩:=id hS2.open
 obtain ⟨_,oa2,ocap2,rfl,_,_⟩:=Sl.open hO2
 have hS1:=hS1.below b2
 have hO1:=BRows.below hO1 b2
 go_wp2_with fail
 refine (causeBegun_c w2).mono ?_
 rintro e w3 ⟨rfl,b3⟩
 have hS:=SameMsgs_c (hS1.below b3) (hS2.below b3)
 rw [sameMs_self] at hS
 go_wp2_with fail
 refine hS.mono ?_
 clear hS
 rintro e w4 ⟨rfl,d4⟩
 have b4:=d4.below
 have hK:=SameMarks_c (BRows.below (BRows.below hO1 b3) b4) (BRows.below (BRows.below hO2 b3) b4)
 go_wp2_with fail
 refine hK.mono ?_
 clear hK
 rintro e w5 ⟨rfl,b5⟩
 go_wp2_with fail
 go_ret
 exact ⟨ret_bool (by simp),below_trans (below_trans (below_trans (below_trans b1 b2) b3) b4) b5⟩
end Go.Proofs.YtnalakhelicjcaaGreat
