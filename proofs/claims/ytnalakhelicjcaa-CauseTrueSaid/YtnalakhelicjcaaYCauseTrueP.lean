/-
  CauseTrue: for every input the law returns true, and what it was handed reads as it did. No condition.
-/
import Derived.Test.YtnalakhelicjcaaYLTc
import Derived.Test.YtnalakhelicjcaaYKF
import Derived.Test.YtnalakhelicjcaaYFrameA
namespace Go.Proofs.Ytnalakhelicjcaa
open Go.ChangeShapes Go.WideShapes Go.ChangeAt Go.RowKit
open Go.ChangeMaps (open_string shut_string)

theorem CauseTrue_ts : ∀ t ∈ Try.f3.params.toList, Try.prog.readableRec t = true ∧ t < Try.prog.types.size := by
  have h : (Try.f3.params.toList.all fun t => Try.prog.readableRec t && decide (t < Try.prog.types.size)) = true := by kernel_rfl
  intro t ht
  simpa using List.all_eq_true.1 h t ht

set_option maxRecDepth 100000 in
theorem CauseTrue_lifted (os : Os) (started : os.Started) (H : Type) (enc : TypeId × Value → H) :
    ReturnsInHanded {} Try.checked os 3 .any (Rows.causeTrueSpec.pre6 enc Try.prog Try.f3 Rows.causeTrueRow.domain false) (Rows.causeTrueSpec.post enc Try.prog Try.f3 false true false false) := by
  refine returnsInHanded_of_change_sized (C := Try.checked) own started (by kernel_rfl) Try.func3
    (ChangeSpec.witness6 (enc := enc) (C := Try.checked) false ⟨#[], #[.int .i64 0, .slice none 0 0, .slice none 0 0, .int .i64 0, .int .i64 0, .int .i64 0], []⟩ 8 (by kernel_rfl) (by kernel_rfl) (by kernel_rfl) (by kernel_rfl)) ?_
  intro W base args ds gs before hval0 hW hcnd hsz0 _
  have hval : ∀ (j : Nat) t v, Try.f3.params[j]? = some t → args[j]? = some v → Value.okWide Try.prog W .any base t v := hval0
  have hW' := hW
  obtain ⟨p, q, hA0, hV, rfl, hfz, hnd⟩ := hW
  have hA : DataW.TrodAll enc Try.prog W 0 (fun _ => true) true Try.f3.params.toList args.toList ds p := hA0
  have hA1 := hA
  obtain ⟨rfl, rfl⟩ := trodVars_none hV
  have hsz : (DataW.weightsEach Try.prog Try.f3.params.toList ds).all (· ≤ reachBytes) = true := by
    have h := hsz0
    rw [List.append_nil] at h
    exact (List.append_nil Try.f3.params.toList) ▸ h
  have hwt : ∀ (j : Nat) (t : TypeId) (d : DataW H), Try.f3.params.toList[j]? = some t → ds[j]? = some d → ∀ n ∈ d.weights Try.prog t, n ≤ reachBytes := fun j t d h1 h2 n hn => by
    simpa using List.all_eq_true.1 hsz _ (DataW.weights_mem_each h1 h2 n hn)
  rw [Try.params3] at hA hval hwt
  obtain ⟨v0, vs0, d0, ds0, p0, q0, hargs, rfl, rfl, h0, r0⟩ := trodAll_cons hA
  obtain ⟨v1, vs1, d1, ds1, p1, q1, rfl, rfl, rfl, h1, r1⟩ := trodAll_cons r0
  obtain ⟨v2, vs2, d2, ds2, p2, q2, rfl, rfl, rfl, h2, r2⟩ := trodAll_cons r1
  obtain ⟨v3, vs3, d3, ds3, p3, q3, rfl, rfl, rfl, h3, r3⟩ := trodAll_cons r2
  obtain ⟨v4, vs4, d4, ds4, p4, q4, rfl, rfl, rfl, h4, r4⟩ := trodAll_cons r3
  obtain ⟨v5, vs5, d5, ds5, p5, q5, rfl, rfl, rfl, h5, r5⟩ := trodAll_cons r4
  obtain ⟨rfl, rfl, rfl⟩ := trodAll_nil r5
  obtain rfl : args = #[v0, v1, v2, v3, v4, v5] := by cases args; simp_all
  obtain ⟨a0, rfl, w0⟩ := int_in (hval 0 3 v0 rfl rfl) h0
  obtain ⟨a1, w1⟩ := ints_in (hval 1 22 v1 rfl rfl) h1 (hwt 1 22 d1 rfl rfl)
  obtain ⟨a2, w2⟩ := acts_in (hval 2 23 v2 rfl rfl) h2 (hwt 2 23 d2 rfl rfl)
  obtain ⟨a3, rfl, w3⟩ := int_in (hval 3 3 v3 rfl rfl) h3
  obtain ⟨a4, rfl, w4⟩ := int_in (hval 4 3 v4 rfl rfl) h4
  obtain ⟨a5, rfl, w5⟩ := int_in (hval 5 3 v5 rfl rfl) h5
  clear hA0 hval0
  refine (CauseTrue_walk_of W w0 w1 w2 w3 w4 w5).mono fun e W' ⟨he, bel⟩ => ?_
  subst he
  exact ⟨_, rfl, _, _, _, [], _, [], hW', trodAll_mk1 (shut_bool Try.underlying4 _), trodAll_below laidOut bel CauseTrue_ts hA1, rfl, bel.frame _, fun h => by cases h⟩

theorem CauseTrue_over : Rows.causeTrueRow.holds Try.pinned (OpenSpec.ofChange Rows.causeTrueSpec) :=
  OpenClaim.holds_of_wide 3 Try.f3 rfl rfl rfl rfl rfl rfl rfl ⟨rfl, rfl, rfl, rfl, rfl⟩ rfl rfl rfl rfl rfl (by kernel_rfl) Try.func3 (by kernel_rfl)
    (of_decide_eq_true (by kernel_rfl)) (by unfold Func.isWrapper; first | (rw [if_pos (by decide +kernel)]; kernel_rfl) | (rw [if_neg (by decide +kernel)]; exact ⟨rfl, rfl⟩))
    (fun os started H enc _ => CauseTrue_lifted os started H enc)

/-- The statement. -/
theorem CauseTrue_holds : Rows.CauseTrueSaid := CauseTrue_over
end Go.Proofs.Ytnalakhelicjcaa
