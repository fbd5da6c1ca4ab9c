/-
  Acts that came in read as words of ours.
-/
import Derived.Test.YtnalakhelicjcaaGreatYKF
import Derived.Test.YtnalakhelicjcaaGreatYKD
set_option maxRecDepth 100000
namespace Go.Proofs.YtnalakhelicjcaaGreat
open Go.ChangeShapes Go.WideShapes Go.ChangeAt Go.RowKit Go.Deep
open Go.ChangeMaps (open_string shut_string)
section
variable {H:Type} {enc:TypeId × Value → H} {W:World} {sp:Nat → Bool} {hd:Bool} {fuel B:Nat} {c v:Value} {cs:List Value} {d:DataW H} {ps:List MemPlace}
theorem act_at (h:DataW.trod enc Tryz.prog W 0 sp hd fuel 23 cs = some (d,ps)) (hw:∀ n ∈ d.weights Tryz.prog 23,n ≤ reachBytes):∃ x:Ac,cs = x.cells ∧ x.fits:=by
 have hS:Tryz.prog.underlying 23 = some (.struct (Tryz.prog.fieldsOf 23)):=by kernel_rfl
 have hF:(Tryz.prog.fieldsOf 23).map (fun f=>(f.type,f.offset)) = #[(3,0),(3,1),(3,2),(9,3)]:=by kernel_rfl
 obtain ⟨hl,hp⟩:=struct_in hS hF h hw
 rw [show Tryz.prog.cellsOf 23 = 4 by kernel_rfl] at hl
 obtain ⟨c0,c1,c2,c3,rfl⟩:∃ c0 c1 c2 c3,cs = [c0,c1,c2,c3]:=by
  match cs,hl with
  | [c0,c1,c2,c3],_=>exact ⟨_,_,_,_,rfl⟩
 have k1:Tryz.prog.cellsOf 3 = 1:=by kernel_rfl
 have k3:Tryz.prog.cellsOf 9 = 1:=by kernel_rfl
 obtain ⟨_,_,_,h0,_⟩:=hp 0 _ _ rfl
 obtain ⟨_,_,_,h1,_⟩:=hp 1 _ _ rfl
 obtain ⟨_,_,_,h2,_⟩:=hp 2 _ _ rfl
 obtain ⟨_,_,_,h4,w4⟩:=hp 3 _ _ rfl
 rw [k1] at h0 h1 h2
 rw [k3] at h4
 obtain ⟨n0,e0,_,x0⟩:=DataW.trod_int Tryz.underlying3 h0
 obtain ⟨n1,e1,_,x1⟩:=DataW.trod_int Tryz.underlying3 h1
 obtain ⟨n2,e2,_,x2⟩:=DataW.trod_int Tryz.underlying3 h2
 obtain ⟨s4,e4,x4⟩:=string_at Tryz.underlying9 h4 w4
 simp at e0 e1 e2 e4
 subst e0 e1 e2 e4
 exact ⟨⟨n0,n1,n2,s4⟩,rfl,wf_i64 x0,wf_i64 x1,wf_i64 x2,x4⟩
theorem acts_in (hv:Value.okWide Tryz.prog W .any B 27 v) (h:DataW.Trod enc Tryz.prog W 0 sp hd 27 v d ps) (hw:∀ n ∈ d.weights Tryz.prog 27,n ≤ reachBytes):∃ l,Acts W v l:=by
 obtain ⟨fuel,h⟩:=slice_shape Tryz.underlying27 hv h
 obtain ⟨css,xs,hl,hs,hr,hel⟩:=slice_in (s:=4) (α:=Ac) (fun cs x=>AcEl W cs x) Tryz.underlying27 (by kernel_rfl) (by omega) (by rw [show Tryz.prog.bytesOf 23 = 40 by kernel_rfl];omega)
  (fun f cs d' ps' h _ hw=>by
   obtain ⟨x,h1,h2⟩:=act_at h hw
   exact ⟨x,h1,h2⟩) h hw
 exact ⟨xs,css,hl,hs,hr,hel⟩
end
end Go.Proofs.YtnalakhelicjcaaGreat
