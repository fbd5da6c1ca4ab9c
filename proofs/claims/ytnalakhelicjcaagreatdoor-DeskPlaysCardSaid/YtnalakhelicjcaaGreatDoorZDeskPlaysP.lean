/-
  DeskPlays: for every input the law returns true, and what it was handed reads as it did. The library's tables start as their text lays them (the card ties them).
-/
import Derived.Test.YtnalakhelicjcaaGreatDoorZGL
import Derived.Test.YtnalakhelicjcaaGreatDoorZKF
import Derived.Test.YtnalakhelicjcaaGreatDoorCards
import Derived.Test.YtnalakhelicjcaaGreatDoorTie
import Derived.OpenShut
import Derived.LaidMore
import Derived.Lay
import Derived.SevenTiedAt
import Derived.Stop.Joined
import Derived.Stop.LaidErr
import Derived.Deep.DeepHandedRow
import Derived.Lib.LaidTab
namespace Go.Proofs.YtnalakhelicjcaaGreatDoor
open Go.ChangeShapes Go.WideShapes Go.ChangeAt Go.RowKit
open Go.ChangeMaps (open_string shut_string)
/-! ### The library's variables -/
theorem star_err : "*" ++ "errors.errorString" = "*errors.errorString" := by decide
theorem row_err (u : TypeId) (h : Tryz.prog.typeName? 3 u = some "*errors.errorString") : u = 196 :=
 typeName_ptr_named (nm := "errors.errorString") (by rw [star_err]; kernel_rfl) (by kernel_rfl) (by decide) u (by rw [star_err]; exact h)
theorem cells_err:Tryz.prog.cellsOf 198 = 1:=by kernel_rfl
theorem cells_txt:Tryz.prog.cellsOf 9 = 1:=by kernel_rfl
theorem err_of {n : String} {g : Nat} {text : List UInt8} {r : List (String × DataW Unit)} {W : World} (h : laidMet Tryz.prog ((n, .iface "*errors.errorString" (.ptr (.agg [.lit (.string text)]))) :: r) W)
  (hg:Tryz.prog.globalNamed n = some g) (ht:(Tryz.prog.globals[g]?).map (·.type) = some 47):∃ tp p,W.var? Tryz.prog n = some #[.iface tp p]:=by
 obtain ⟨a,s,hv,_⟩:=laid_sentinel h hg ht Tryz.underlying47 row_err Tryz.underlying196 Tryz.underlying198 rfl rfl Tryz.underlying9 cells_err cells_txt
 exact ⟨_,_,hv⟩
theorem vars_of_laid {W:World} (h:laidMetH Tryz.prog Rows.deskPlaysRow.laid W) (hs:W.ShapedOpen Tryz.prog):Vars W:=by
 rw [MakeChecks.laidMetH_plain _ _ _ (by kernel_rfl)] at h
 have h3:=h.tail.tail
 have h5:=h3.tail.tail
 refine ⟨Lib.tabIs_of_head gPow (by kernel_rfl) Tryz.underlying146 Tryz.underlying124 (by kernel_rfl) (by kernel_rfl) (rest:=Rows.deskPlaysRow.laid.drop 3) h3,err_of h5.tail gSyn (by kernel_rfl),err_of h5 gRng (by kernel_rfl),Tryz.laysM145.s1_3 W hs⟩
set_option maxRecDepth 100000 in
theorem DeskPlays_string_in {H:Type} {enc:TypeId × Value → H} {W:World} {sp:Nat → Bool} {hd:Bool} {B:Nat} {v:Value} {d:DataW H} {ps:List MemPlace}
  (hv:Value.okWide Tryz.prog W .any B 9 v) (h:DataW.Trod enc Tryz.prog W 0 sp hd 9 v d ps) (hw:∀ n ∈ d.weights Tryz.prog 9,n ≤ reachBytes):∃ s:ByteArray,v = .string s ∧ s.size ≤ 140737488351232:=by
 obtain ⟨s,rfl,_⟩:=open_string Tryz.underlying9 hv h
 obtain ⟨fuel,h⟩:=h
 obtain ⟨s2,e,h2⟩:=string_at Tryz.underlying9 h hw
 cases e
 exact ⟨s,rfl,h2⟩
theorem DeskPlays_ts:∀ t ∈ Tryz.f3.params.toList,Tryz.prog.readableRec t = true ∧ t < Tryz.prog.types.size:=by
 have h:(Tryz.f3.params.toList.all fun t=>Tryz.prog.readableRec t && decide (t < Tryz.prog.types.size)) = true:=by kernel_rfl
 intro t ht
 simpa using List.all_eq_true.1 h t ht
set_option maxRecDepth 100000 in
theorem DeskPlays_fits (os:Os) {H:Type} (enc:TypeId × Value → H) :
  ∃ (w:World) (tape:Tape) (i:Input),w.os = os ∧ (w.forCall tape i).Shaped Tryz.prog ∧ i.vars = [] ∧ Input.okWide Tryz.prog (w.forCall tape i) .any w.heap.size 3 i ∧
   (OpenSpec.ofChange Rows.deskPlaysSpec).preRow enc Tryz.prog Tryz.f3 Rows.deskPlaysRow.domain false Rows.deskPlaysRow.laid (w.forCall tape i).memory i.args ∧ ({}:Assume).holds Tryz.prog (lone (Frame.enter Tryz.prog 3 i.args .normal) [] (w.forCall tape i)):=
 ⟨World.laidAll Tryz.prog os Rows.deskPlaysRow.laid,fun _ _=>0,⟨#[],#[.int .i64 0, .slice none 0 0, .string ByteArray.empty],[]⟩,World.laidAll_os _ _ _,World.shaped_of_ZipB (by kernel_rfl) (by kernel_rfl),rfl,
  (Input.okWide_of_okWideB (P:=Tryz.prog) (by kernel_rfl)).2,
  OpenSpec.preRow_of_B rfl 8 (by kernel_rfl) (by kernel_rfl) (by rw [MakeChecks.laidMetH_plain _ _ _ (by kernel_rfl)];exact laidMet_laidAll _ (by kernel_rfl) (by kernel_rfl)),
  by simp only [Assume.holds];exact ⟨by simp,by simp,fun _=>Modest.zero,by simp,by simp⟩⟩
set_option maxRecDepth 100000 in
theorem DeskPlays_lifted (os:Os) (started:os.Started) (H:Type) (enc:TypeId × Value → H) (F:Stop.Interp) :
  ReturnsInHanded {} Tryz.checked os 3 .any ((OpenSpec.ofChange Rows.deskPlaysSpec).preRow enc Tryz.prog Tryz.f3 Rows.deskPlaysRow.domain false Rows.deskPlaysRow.laid) (((OpenSpec.ofChange Rows.deskPlaysSpec).at F).post enc Tryz.prog Tryz.f3 false true false false):=by
 refine returnsInHanded_of_row (C:=Tryz.checked) (s:=OpenSpec.ofChange Rows.deskPlaysSpec) own started (by kernel_rfl) Tryz.func3 (DeskPlays_fits os enc) ?_
 intro W base args ds gs before hval0 hW _ _ hsz0 hL hsh _
 have hval:∀ (j:Nat) t v,Tryz.f3.params[j]? = some t → args[j]? = some v → Value.okWide Tryz.prog W .any base t v:=hval0
 have hW':=hW
 obtain ⟨p,q,hA0,hV,rfl,hfz,hnd⟩:=hW
 have hA:DataW.TrodAll enc Tryz.prog W 0 (fun _=>true) true Tryz.f3.params.toList args.toList ds p:=hA0
 have hA1:=hA
 obtain ⟨rfl,rfl⟩:=trodVars_none hV
 have hsz:(DataW.weightsEach Tryz.prog Tryz.f3.params.toList ds).all (· ≤ reachBytes) = true:=by
  have h:=hsz0
  rw [List.append_nil] at h
  exact (List.append_nil Tryz.f3.params.toList) ▸ h
 have hwt:∀ (j:Nat) (t:TypeId) (d:DataW H),Tryz.f3.params.toList[j]? = some t → ds[j]? = some d → ∀ n ∈ d.weights Tryz.prog t,n ≤ reachBytes:=fun j t d h1 h2 n hn=>by
  simpa using List.all_eq_true.1 hsz _ (DataW.weights_mem_each h1 h2 n hn)
 rw [Tryz.params3] at hA hval hwt
 obtain ⟨v0,vs0,d0,ds0,p0,q0,hargs,rfl,rfl,h0,r0⟩:=trodAll_cons hA
 obtain ⟨v1,vs1,d1,ds1,p1,q1,rfl,rfl,rfl,h1,r1⟩:=trodAll_cons r0
 obtain ⟨v2,vs2,d2,ds2,p2,q2,rfl,rfl,rfl,h2,r2⟩:=trodAll_cons r1
 obtain ⟨rfl,rfl,rfl⟩:=trodAll_nil r2
 obtain rfl:args = #[v0,v1,v2]:=by cases args;simp_all
 obtain ⟨a0,rfl,w0⟩:=int_in (hval 0 3 v0 rfl rfl) h0
 obtain ⟨a1,w1⟩:=ints_in (hval 1 22 v1 rfl rfl) h1 (hwt 1 22 d1 rfl rfl)
 obtain ⟨a2,rfl,w2⟩:=DeskPlays_string_in (hval 2 9 v2 rfl rfl) h2 (hwt 2 9 d2 rfl rfl)
 clear hA0 hval0
 refine (DeskPlays_walk_of W (vars_of_laid hL hsh) w1 w2).mono fun e W' ⟨he,bel⟩=>?_
 subst he
 exact ⟨_,rfl,_,_,_,[],_,[],hW',trodAll_mk1 (shut_bool Tryz.underlying4 _),trodAll_below laidOut bel DeskPlays_ts hA1,rfl,bel.frame _,fun h=>by cases h⟩
theorem DeskPlays_over:Rows.DeskPlaysSaid:=
 OpenClaim.holds_of_cond 3 Tryz.f3 rfl rfl rfl rfl rfl rfl rfl ⟨rfl,rfl,rfl,rfl,rfl⟩ rfl rfl rfl rfl rfl (by kernel_rfl) Tryz.func3 (by kernel_rfl)
  (of_decide_eq_true (by kernel_rfl)) (by unfold Func.isWrapper;first | (rw [if_pos (by decide +kernel)];kernel_rfl) | (rw [if_neg (by decide +kernel)];exact ⟨rfl,rfl⟩))
  (fun os started H enc _ F0=>by rw [OpenClaim.pre_eq_preRow];exact DeskPlays_lifted os started H enc F0)
theorem DeskPlays_holds:Rows.DeskPlaysCardSaid:=
 Claim7.holds_tied_plain_at .later [] [.data, .data, .data, .data, .sentinel, .sentinel, .pinned] true (true, "a36a7b71cfaf23910e759581fa1c742dbb1c9094f9c212da18236f72d010d67a") true DeskPlays_over (fun _ h => by cases h) (by kernel_rfl) (fun _ h => by cases h) deskPlays_row_tie rfl ⟨rfl, rfl⟩ (by kernel_rfl) rfl
  (fun f fn hf hfn=>by
   obtain rfl : f = 3 := Option.some.inj ((show Tryz.prog.funcNamed "furlong/furlonglaw.DeskPlays" = some 3 by kernel_rfl).symm.trans hf) |>.symm
   obtain rfl:fn = Tryz.f3:=(Option.some.inj (Tryz.func3.symm.trans hfn)).symm
   exact ⟨by kernel_rfl,fun j t ht=>by
    rw [Tryz.params3] at ht
    have hm:t ∈ [3,22,9]:=by simpa using Array.mem_of_getElem? ht
    have hall:([3,22,9].all fun u=>!Tryz.prog.wantsStandIn u) = true:=by kernel_rfl
    exact (show Tryz.prog.wantsStandIn t = false by simpa using List.all_eq_true.1 hall t hm)⟩)
  (by kernel_rfl)
end Go.Proofs.YtnalakhelicjcaaGreatDoor
