/-
  CauseTold: for every input the law returns true, and what it was handed reads as it did. No condition.
-/
import Derived.Test.YtnalakhelicjcaaYLTo
import Derived.Test.YtnalakhelicjcaaYKF
import Derived.Test.YtnalakhelicjcaaYFrameA
namespace Go.Proofs.Ytnalakhelicjcaa
open Go.ChangeShapes Go.WideShapes Go.ChangeAt Go.RowKit Go.Deep
open Go.ChangeMaps (open_string shut_string)

theorem CauseTold_ts : ∀ t ∈ Try.f4.params.toList, Try.prog.readableRec t = true ∧ t < Try.prog.types.size := by
  have h : (Try.f4.params.toList.all fun t => Try.prog.readableRec t && decide (t < Try.prog.types.size)) = true := by kernel_rfl
  intro t ht
  simpa using List.all_eq_true.1 h t ht

set_option maxRecDepth 100000 in
/-- So many acts as a list can hold: an act has 40 bytes. -/
theorem acts_long {H : Type} {enc : TypeId × Value → H} {W : World} {sp : Nat → Bool} {hd : Bool} {B : Nat} {v : Value} {d : DataW H} {ps : List MemPlace} {l : List Ac}
    (hv : Value.okWide Try.prog W .any B 23 v) (h : DataW.Trod enc Try.prog W 0 sp hd 23 v d ps) (hw : ∀ n ∈ d.weights Try.prog 23, n ≤ reachBytes) (ha : Acts W v l) : l.length * 40 ≤ 140737488351232 := by
  obtain ⟨fuel, h⟩ := slice_shape Try.underlying23 hv h
  obtain ⟨_, aa, acap, rfl, hac⟩ := ha.form
  rcases open_slice Try.underlying23 h with ⟨hc, _⟩ | ⟨a, len, cap, m, n, D, Pl, hc, _, hlc, hcm, hm, hx, hel'⟩
  · have hc' : Value.slice aa l.length acap = .slice none 0 0 := by simpa using hc
    have : l.length = 0 := by
      injection hc' with _ h2 _
    omega
  · have hc' : Value.slice aa l.length acap = .slice (some a) len cap := by simpa using hc
    obtain rfl : l.length = len := by
      injection hc' with _ h2 _
    have hd' : d = .slice ((List.range l.length).map D) ((List.range (m - l.length)).map fun j => D (l.length + j)) := congrArg Prod.fst hx
    subst hd'
    have hw0 : ∀ n ∈ ((((List.range l.length).map D).length + ((List.range (m - l.length)).map fun j => D (l.length + j)).length) * Try.prog.bytesOf 36 :: (DataW.weightsAll Try.prog 36 ((List.range l.length).map D) ++ DataW.weightsAll Try.prog 36 ((List.range (m - l.length)).map fun j => D (l.length + j)))), n ≤ reachBytes := by
      simpa [DataW.weights, Try.underlying23] using hw
    have h1 := hw0 _ (List.mem_cons_self)
    simp only [List.length_map, List.length_range] at h1
    rw [show Try.prog.bytesOf 36 = 40 by kernel_rfl] at h1
    have h3 : reachBytes = 140737488351232 := by decide
    have h2 : l.length * 40 ≤ (l.length + (m - l.length)) * 40 := Nat.mul_le_mul (by omega) (Nat.le_refl _)
    omega

set_option maxRecDepth 100000 in
theorem CauseTold_lifted (os : Os) (started : os.Started) (H : Type) (enc : TypeId × Value → H) :
    ReturnsInHanded {} Try.checked os 4 .any (Rows.causeToldSpec.pre6 enc Try.prog Try.f4 Rows.causeToldRow.domain false) (Rows.causeToldSpec.post enc Try.prog Try.f4 false true false false) := by
  refine returnsInHanded_of_change_sized (C := Try.checked) own started (by kernel_rfl) Try.func4
    (ChangeSpec.witness6 (enc := enc) (C := Try.checked) false ⟨#[], #[.int .i64 0, .slice none 0 0, .slice none 0 0, .int .i64 0], []⟩ 8 (by kernel_rfl) (by kernel_rfl) (by kernel_rfl) (by kernel_rfl)) ?_
  intro W base args ds gs before hval0 hW hcnd hsz0 _
  have hval : ∀ (j : Nat) t v, Try.f4.params[j]? = some t → args[j]? = some v → Value.okWide Try.prog W .any base t v := hval0
  have hW' := hW
  obtain ⟨p, q, hA0, hV, rfl, hfz, hnd⟩ := hW
  have hA : DataW.TrodAll enc Try.prog W 0 (fun _ => true) true Try.f4.params.toList args.toList ds p := hA0
  have hA1 := hA
  obtain ⟨rfl, rfl⟩ := trodVars_none hV
  have hsz : (DataW.weightsEach Try.prog Try.f4.params.toList ds).all (· ≤ reachBytes) = true := by
    have h := hsz0
    rw [List.append_nil] at h
    exact (List.append_nil Try.f4.params.toList) ▸ h
  have hwt : ∀ (j : Nat) (t : TypeId) (d : DataW H), Try.f4.params.toList[j]? = some t → ds[j]? = some d → ∀ n ∈ d.weights Try.prog t, n ≤ reachBytes := fun j t d h1 h2 n hn => by
    simpa using List.all_eq_true.1 hsz _ (DataW.weights_mem_each h1 h2 n hn)
  rw [Try.params4] at hA hval hwt
  obtain ⟨v0, vs0, d0, ds0, p0, q0, hargs, rfl, rfl, h0, r0⟩ := trodAll_cons hA
  obtain ⟨v1, vs1, d1, ds1, p1, q1, rfl, rfl, rfl, h1, r1⟩ := trodAll_cons r0
  obtain ⟨v2, vs2, d2, ds2, p2, q2, rfl, rfl, rfl, h2, r2⟩ := trodAll_cons r1
  obtain ⟨v3, vs3, d3, ds3, p3, q3, rfl, rfl, rfl, h3, r3⟩ := trodAll_cons r2
  obtain ⟨rfl, rfl, rfl⟩ := trodAll_nil r3
  obtain rfl : args = #[v0, v1, v2, v3] := by cases args; simp_all
  obtain ⟨a0, rfl, w0⟩ := int_in (hval 0 3 v0 rfl rfl) h0
  obtain ⟨a1, w1⟩ := ints_in (hval 1 22 v1 rfl rfl) h1 (hwt 1 22 d1 rfl rfl)
  obtain ⟨a2, w2⟩ := acts_in (hval 2 23 v2 rfl rfl) h2 (hwt 2 23 d2 rfl rfl)
  have a2l := acts_long (hval 2 23 v2 rfl rfl) h2 (hwt 2 23 d2 rfl rfl) w2
  obtain ⟨a3, rfl, w3⟩ := int_in (hval 3 3 v3 rfl rfl) h3
  clear hA0 hval0
  refine (CauseTold_walk_of W w0 w1 w2 w3 a2l).mono fun e W' ⟨he, bel⟩ => ?_
  subst he
  exact ⟨_, rfl, _, _, _, [], _, [], hW', trodAll_mk1 (shut_bool Try.underlying4 _), trodAll_below laidOut bel CauseTold_ts hA1, rfl, bel.frame _, fun h => by cases h⟩

theorem CauseTold_over : Rows.causeToldRow.holds Try.pinned (OpenSpec.ofChange Rows.causeToldSpec) :=
  OpenClaim.holds_of_wide 4 Try.f4 rfl rfl rfl rfl rfl rfl rfl ⟨rfl, rfl, rfl, rfl, rfl⟩ rfl rfl rfl rfl rfl (by kernel_rfl) Try.func4 (by kernel_rfl)
    (of_decide_eq_true (by kernel_rfl)) (by unfold Func.isWrapper; first | (rw [if_pos (by decide +kernel)]; kernel_rfl) | (rw [if_neg (by decide +kernel)]; exact ⟨rfl, rfl⟩))
    (fun os started H enc _ => CauseTold_lifted os started H enc)

/-- The statement. -/
theorem CauseTold_holds : Rows.CauseToldSaid := CauseTold_over
end Go.Proofs.Ytnalakhelicjcaa
