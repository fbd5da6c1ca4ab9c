/-
  CauseMarks: for every input the law returns true, and what it was handed reads as it did. No condition.
-/
import Derived.Test.YtnalakhelicjcaaGreatYLMk
import Derived.Test.YtnalakhelicjcaaGreatYKF
import Derived.Test.YtnalakhelicjcaaGreatYFrameA
namespace Go.Proofs.YtnalakhelicjcaaGreat
open Go.ChangeShapes Go.WideShapes Go.ChangeAt Go.RowKit
open Go.ChangeMaps (open_string shut_string)
theorem CauseMarks_ts:∀ t ∈ Tryz.f7.params.toList,Tryz.prog.readableRec t = true ∧ t < Tryz.prog.types.size:=by
 have h:(Tryz.f7.params.toList.all fun t=>Tryz.prog.readableRec t && decide (t < Tryz.prog.types.size)) = true:=by kernel_rfl
 intro t ht
 simpa using List.all_eq_true.1 h t ht
set_option maxRecDepth 100000 in
theorem CauseMarks_lifted (os:Os) (started:os.Started) (H:Type) (enc:TypeId × Value → H) :
  ReturnsInHanded {} Tryz.checked os 7 .any (Rows.causeMarksSpec.pre6 enc Tryz.prog Tryz.f7 Rows.causeMarksRow.domain false) (Rows.causeMarksSpec.post enc Tryz.prog Tryz.f7 false true false false):=by
 refine returnsInHanded_of_change_sized (C:=Tryz.checked) own started (by kernel_rfl) Tryz.func7
  (ChangeSpec.witness6 (enc:=enc) (C:=Tryz.checked) false ⟨#[],#[.int .i64 0, .slice none 0 0, .slice none 0 0],[]⟩ 8 (by kernel_rfl) (by kernel_rfl) (by kernel_rfl) (by kernel_rfl)) ?_
 intro W base args ds gs before hval0 hW hcnd hsz0 _
 have hval:∀ (j:Nat) t v,Tryz.f7.params[j]? = some t → args[j]? = some v → Value.okWide Tryz.prog W .any base t v:=hval0
 have hW':=hW
 obtain ⟨p,q,hA0,hV,rfl,hfz,hnd⟩:=hW
 have hA:DataW.TrodAll enc Tryz.prog W 0 (fun _=>true) true Tryz.f7.params.toList args.toList ds p:=hA0
 have hA1:=hA
 obtain ⟨rfl,rfl⟩:=trodVars_none hV
 have hsz:(DataW.weightsEach Tryz.prog Tryz.f7.params.toList ds).all (· ≤ reachBytes) = true:=by
  have h:=hsz0
  rw [List.append_nil] at h
  exact (List.append_nil Tryz.f7.params.toList) ▸ h
 have hwt:∀ (j:Nat) (t:TypeId) (d:DataW H),Tryz.f7.params.toList[j]? = some t → ds[j]? = some d → ∀ n ∈ d.weights Tryz.prog t,n ≤ reachBytes:=fun j t d h1 h2 n hn=>by
  simpa using List.all_eq_true.1 hsz _ (DataW.weights_mem_each h1 h2 n hn)
 rw [Tryz.params7] at hA hval hwt
 obtain ⟨v0,vs0,d0,ds0,p0,q0,hargs,rfl,rfl,h0,r0⟩:=trodAll_cons hA
 obtain ⟨v1,vs1,d1,ds1,p1,q1,rfl,rfl,rfl,h1,r1⟩:=trodAll_cons r0
 obtain ⟨v2,vs2,d2,ds2,p2,q2,rfl,rfl,rfl,h2,r2⟩:=trodAll_cons r1
 obtain ⟨rfl,rfl,rfl⟩:=trodAll_nil r2
 obtain rfl:args = #[v0,v1,v2]:=by cases args;simp_all
 obtain ⟨a0,rfl,w0⟩:=int_in (hval 0 3 v0 rfl rfl) h0
 obtain ⟨a1,w1⟩:=ints_in (hval 1 33 v1 rfl rfl) h1 (hwt 1 33 d1 rfl rfl)
 obtain ⟨a2,w2⟩:=acts_in (hval 2 27 v2 rfl rfl) h2 (hwt 2 27 d2 rfl rfl)
 clear hA0 hval0
 refine (CauseMarks_walk_of W w0 w1 w2).mono fun e W' ⟨he,bel⟩=>?_
 subst he
 exact ⟨_,rfl,_,_,_,[],_,[],hW',trodAll_mk1 (shut_bool Tryz.underlying4 _),trodAll_below laidOut bel CauseMarks_ts hA1,rfl,bel.frame _,fun h=>by cases h⟩
theorem CauseMarks_over:Rows.causeMarksRow.holds Tryz.pinned (OpenSpec.ofChange Rows.causeMarksSpec):=
 OpenClaim.holds_of_wide 7 Tryz.f7 rfl rfl rfl rfl rfl rfl rfl ⟨rfl,rfl,rfl,rfl,rfl⟩ rfl rfl rfl rfl rfl (by kernel_rfl) Tryz.func7 (by kernel_rfl)
  (of_decide_eq_true (by kernel_rfl)) (by unfold Func.isWrapper;first | (rw [if_pos (by decide +kernel)];kernel_rfl) | (rw [if_neg (by decide +kernel)];exact ⟨rfl,rfl⟩))
  (fun os started H enc _=>CauseMarks_lifted os started H enc)
theorem CauseMarks_holds:Rows.CauseMarksSaid:=CauseMarks_over
end Go.Proofs.YtnalakhelicjcaaGreat
