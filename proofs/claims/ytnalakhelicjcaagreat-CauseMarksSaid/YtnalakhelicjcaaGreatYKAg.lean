/-
  slices.Index and slices.Contains, at messages.
  agree.All: all that was told, in order.
-/
import Derived.Test.YtnalakhelicjcaaGreatYKJ
import Derived.Test.YtnalakhelicjcaaGreatYKM
import Derived.Test.YtnalakhelicjcaaGreatYKP
import Derived.Test.YtnalakhelicjcaaGreatYKL
import Derived.Test.YtnalakhelicjcaaGreatYKS2
set_option maxRecDepth 100000
namespace Go.Proofs.YtnalakhelicjcaaGreat
open Go.RowKit Go.Shelf Go.BigFrame
theorem IndexM_c {w:World} {v:Value} {ms:List M} (h:Msgs w v ms) (m:M) :
  Calls Tryz.prog 74 #[v,m.val] w (GivesB (.int .i64 (idxM (eqM m) ms)) w):=by
 obtain ⟨hl,a,cap,rfl,_,hc⟩:=h.open
 have hA:=below_a1 w (.cells #[.int .i64 m.src, .int .i64 m.grp, .int .i64 m.stamp, .bool m.null, .string m.body] 62)
 have hB:=MsgBox.new w m 62
 have hs1:w.heap.size < (w.alloc (.cells #[.int .i64 m.src, .int .i64 m.grp, .int .i64 m.stamp, .bool m.null, .string m.body] 62)).heap.size:=by rw [World.size_alloc];omega
 replace hc:=Lib.hid hc
 have hh:=Lib.hid (fun (k:Nat) (hk:k < ms.length) (h1:eqM m (ms.getD k M.zero) = true) (h2:∀ j,j < k → eqM m (ms.getD j M.zero) = false)=>idxM_hit (p:=eqM m) hk h1 h2)
 have hmi:=Lib.hid (fun (h:∀ j,j < ms.length → eqM m (ms.getD j M.zero) = false)=>idxM_miss (p:=eqM m) h)
 generalize idxM (eqM m) ms = r at *
 unfold M.val
 go_enter Tryz.func74,Tryz.ntmps74
 go_upto_region 1 with fail
 generalize w.alloc (.cells #[.int .i64 m.src, .int .i64 m.grp, .int .i64 m.stamp, .bool m.null, .string m.body] 62) = w1 at *
 obtain ⟨C,hC⟩:∃ C,w.heap.size = C:=⟨_,rfl⟩
 simp only [hC] at hB hs1 ⊢
 replace hC:=Lib.hid hC
 go_wp2_with fail
 go_loopw [8] (fun i wr=>∃ k:Nat,k ≤ ms.length ∧ i = .int .i64 k ∧ Hid (∀ j,j < k → eqM m (ms.getD j M.zero) = false) ∧ Below w1.heap.size w1 wr) (fun i _=>ms.length - (intOf i).toNat)
 case atStart=>exact ⟨0,by omega,rfl,fun j hj=>absurd hj (Nat.not_lt_zero _),Below.refl _ _⟩
 case round =>
  obtain ⟨k,hk,rfl,hAl,hb⟩:=hrel
  by_cases hlt:k < ms.length
  ·obtain ⟨bm,off,rfl,hcc⟩:=hc.out (by intro e;subst e;simp at hlt)
   obtain ⟨m0,m1,m2,m3,m4⟩:=((hcc k hlt).below hA).below hb
   obtain ⟨x0,x1,x2,x3,x4⟩:=hB.below hb hs1
   obtain ⟨x,HM⟩:∃ x,ms.getD k M.zero = x:=⟨_,rfl⟩
   rw [HM] at m0 m1 m2 m3 m4
   replace HM:=Lib.hid HM
   have heq:=eql_msg m x
   clear hcc
   cases hq:eqM m x
   ·rw [hq] at heq
    replace hq:=Lib.hid hq
    go_wp2_with fail
    go_quiet (fail)
    go_wp2_with fail
    go_roundw
    case rel =>
     refine ⟨k + 1,by omega,by go_num,fun j hj=>?_,below_trans hb (below_drewN wr _)⟩
     by_cases e:j = k
     ·subst e;rw [HM.out];exact hq.out
     ·exact hAl.out j (by omega)
    case measure=>simp [intOf];omega
   ·rw [hq] at heq
    replace hq:=Lib.hid hq
    go_wp2_with fail
    go_quiet (fail)
    go_wp2_with fail
    go_ret
    exact givesB_int (below_trans (below_trans hA hb) (below_drewN wr _)) (hh.out k hlt (by rw [HM.out];exact hq.out) hAl.out).symm
  ·obtain rfl:k = ms.length:=by omega
   go_wp2_with fail
   go_ret
   exact givesB_int (below_trans hA hb) (hmi.out hAl.out).symm
end Go.Proofs.YtnalakhelicjcaaGreat
set_option maxRecDepth 100000
namespace Go.Proofs.YtnalakhelicjcaaGreat
open Go.RowKit Go.Shelf Go.BigFrame
def LOwn (w:World) (l:List M) (r:Int) (e:Ending) (w':World):Prop:=∃ v',e = .returned (.tuple #[v', .int .i64 r]) ∧ MsgsOwn w' w.heap.size v' l ∧ Below w.heap.size w w'
theorem LOwn.none {w w':World} {r:Int} (h:Below w.heap.size w w'):LOwn w [] r (.returned (.tuple #[.slice none 0 0, .int .i64 r])) w':=⟨_,rfl,⟨by simp,World.ownsRow_nil _ _ _ _⟩,h⟩
end Go.Proofs.YtnalakhelicjcaaGreat
