/-
  Play: what must be in any case.
-/
import Derived.Test.YtnalakhelicjcaaGreatDoorZDpi
import Derived.Test.YtnalakhelicjcaaGreatDoorZDz
set_option maxRecDepth 100000
namespace Go.Proofs.YtnalakhelicjcaaGreatDoor
open Go.RowKit Go.Shelf Go.BigFrame Go.Deep
def sD:List UInt8:=[115,101,110,100,32,48,32,48,32,104,105,32,121,111,117,10,104,101,108,100,32,48,10,115,101,110,100,32,50,32,49,32,98,10,109,111,118,101,32,48,32,49,10,109,111,118,101,32,48,32,49,10,104,101,108,100,32,49,10,116,111,108,100,32,49,10,99,97,108,109,10,116,111,108,100,32,49,10,116,111,108,100,32,48,10,104,101,108,100,32,49,10,110,117,108,108,32,48,32,49,10,110,117,108,108,32,48,32,48,10,109,111,118,101,32,48,32,51,10,109,111,118,101,32,48,32,49,10,116,111,108,100,32,51,10,115,101,110,100,32,48,32,48,10,120,10]
def rD:List UInt8:=[49,10,49,32,48,10,49,10,48,10,101,114,114,111,114,32,55,10,49,32,48,10,45,10,111,107,10,104,105,32,121,111,117,32,98,10,104,105,32,121,111,117,10,48,32,55,10,101,114,114,111,114,32,53,10,57,10,101,114,114,111,114,32,52,10,48,10,101,114,114,111,114,32,52,10,101,114,114,111,114,32,49,10,101,114,114,111,114,32,49,10]
set_option maxHeartbeats 4000000 in
theorem desk_d:playF 3 [3,6] sD = (0,rD):=by decide +kernel
set_option maxHeartbeats 4000000 in
theorem deskBegun_c {w:World} (hv:Vars w):Calls Tryz.prog 6 #[] w (GivesB (.bool true) w):=by
 obtain ⟨P,hP⟩:∃ P,GivesB (.bool true) w = P:=⟨_,rfl⟩
 rw [hP]
 replace hP:=Lib.hid hP
 have hPl:=fun (u:World) (gv:Value) (k:Below w.heap.size w u) (hg:Ints u gv [3,6])=>Play_c (hv.next k) hg (n:=3) (s:=sD) (by decide)
 simp only [desk_d] at hPl
 go_enter Tryz.func6,Tryz.ntmps6
 go_wp2_with fail
 refine (two_c _).mono ?_
 rintro e w1 ⟨v,rfl,hI,b1⟩
 obtain ⟨_,ga,gcap,rfl,_⟩:=hI.open
 go_wp2_with fail
 refine (hPl _ _ b1 hI).mono ?_
 clear hPl
 rintro e w2 ⟨rfl,b2⟩
 have hq:((strB rD).toList == [49,10,49,32,48,10,49,10,48,10,101,114,114,111,114,32,55,10,49,32,48,10,45,10,111,107,10,104,105,32,121,111,117,32,98,10,104,105,32,121,111,117,10,48,32,55,10,101,114,114,111,114,32,53,10,57,10,101,114,114,111,114,32,52,10,48,10,101,114,114,111,114,32,52,10,101,114,114,111,114,32,49,10,101,114,114,111,114,32,49,10]) = true:=by
  rw [strB_toL]
  decide +kernel
 have b2:=below_trans b1 b2
 clear hI b1
 go_wp2_with fail
 rw [← hP.out]
 exact ⟨rfl,b2⟩
end Go.Proofs.YtnalakhelicjcaaGreatDoor
set_option maxRecDepth 100000
namespace Go.Proofs.YtnalakhelicjcaaGreatDoor
open Go.RowKit Go.Shelf Go.BigFrame Go.Deep
set_option maxHeartbeats 2000000 in
theorem DeskPlays_walk_of (W:World) (hv:Vars W) {n:Int} {v:Value} {gs:List Int} {s:ByteArray} (hg:Ints W v gs) (hs:s.size ≤ 140737488351232) :
  Calls Tryz.prog 3 #[.int .i64 n,v, .string s] W (GivesB (.bool true) W):=by
 have hsl:s.data.toList.length ≤ 140737488351232:=hs
 have hPl:=Play_c hv hg (n:=n) hsl
 have hPo:=fun (u:World) (k:Below W.heap.size W u)=>PlayOf_c (hg.below k) (n:=n) hsl
 have hBg:=fun (u:World) (k:Below W.heap.size W u)=>deskBegun_c (hv.next k)
 simp only [strB_data] at hPl hPo
 obtain ⟨r,hr⟩:∃ r,playF n gs s.data.toList = r:=⟨_,rfl⟩
 rw [hr] at hPl
 simp only [hr] at hPo
 obtain ⟨_,ga,gcap,rfl,_⟩:=hg.open
 obtain ⟨P,hP⟩:∃ P,GivesB (.bool true) W = P:=⟨_,rfl⟩
 rw [hP]
 replace hP:=Lib.hid hP
 clear hr hsl hg hv
 go_enter Tryz.func3,Tryz.ntmps3
 go_wp2_with fail
 refine hPl.mono ?_
 clear hPl
 rintro e w1 ⟨rfl,b1⟩
 go_wp2_with fail
 refine (hPo _ b1).mono ?_
 clear hPo
 rintro e w2 ⟨rfl,b2⟩
 have b2:=below_trans b1 b2
 go_wp2_with fail
 refine (hBg _ b2).mono ?_
 clear hBg
 rintro e w3 ⟨rfl,b3⟩
 have b3:=below_trans b2 b3
 go_wp2_with fail
 rw [← hP.out]
 exact ⟨rfl,b3⟩
end Go.Proofs.YtnalakhelicjcaaGreatDoor
