/-
  Messages that came in read as words of ours.
-/
import Derived.Test.YthclljdkicihpaaFrame
import Derived.Test.YthclljdkicihpaaMPure
set_option maxRecDepth 100000
namespace Go.Proofs.Ythclljdkicihpaa
open Go.ChangeShapes Go.WideShapes Go.ChangeAt Go.RowKit Go.Deep
open Go.ChangeMaps (open_string shut_string)

theorem field_at {fs : Array Field} {l : Array (TypeId × Nat)} (h : fs.map (fun f => (f.type, f.offset)) = l) {i t o : Nat} (hi : l[i]? = some (t, o)) : ∃ f, fs[i]? = some f ∧ f.type = t ∧ f.offset = o := by
  subst h
  rw [Array.getElem?_map] at hi
  obtain ⟨f, h1, h2⟩ := Option.map_eq_some_iff.1 hi
  exact ⟨f, h1, congrArg Prod.fst h2, congrArg Prod.snd h2⟩

section
variable {H : Type} {enc : TypeId × Value → H} {P : Program} {W : World} {base : Nat} {sp : Nat → Bool} {hd : Bool} {f : Nat} {cs : List Value} {d : DataW H} {ps : List MemPlace}
/-- The parts of a struct that came in. -/
theorem struct_in {t : TypeId} {fs : Array Field} {l : Array (TypeId × Nat)} (ht : P.underlying t = some (.struct fs)) (hl : fs.map (fun f => (f.type, f.offset)) = l)
    (h : DataW.trod enc P W base sp hd f t cs = some (d, ps)) (hw : ∀ n ∈ d.weights P t, n ≤ reachBytes) :
    cs.length = P.cellsOf t ∧ ∀ (i t' o : Nat), l[i]? = some (t', o) → ∃ d' ps' f', DataW.trod enc P W base sp hd f' t' ((cs.drop o).take (P.cellsOf t')) = some (d', ps') ∧ ∀ n ∈ d'.weights P t', n ≤ reachBytes := by
  obtain ⟨xs, n, _, hx, hlen, hsz, hf⟩ := DataW.trod_struct ht h
  refine ⟨hlen, fun i t' o hi => ?_⟩
  obtain ⟨fd, h1, h2, h3⟩ := field_at hl hi
  have h4 := hf i fd h1
  have hlt : i < xs.length := by rw [hsz]; exact (Array.getElem?_eq_some_iff.1 h1).1
  rw [List.getElem?_eq_getElem hlt, h2, h3] at h4
  refine ⟨xs[i].1, xs[i].2, n, h4, fun k hk => hw k ?_⟩
  have hd' : d = .agg (xs.map (·.1)) := congrArg Prod.fst hx
  subst hd'
  rw [DataW.weights, ht]
  exact DataW.weights_mem_each (j := i) (by rw [List.getElem?_map, Array.getElem?_toList, h1]; simp [h2]) (by rw [List.getElem?_map, List.getElem?_eq_getElem hlt]; rfl) k hk
theorem string_at {t : TypeId} (ht : P.underlying t = some .string) (h : DataW.trod enc P W base sp hd f t cs = some (d, ps)) (hw : ∀ n ∈ d.weights P t, n ≤ reachBytes) : ∃ s : ByteArray, cs = [.string s] ∧ s.size ≤ 140737488351232 := by
  obtain ⟨s, h1, h2, _⟩ := DataW.trod_string ht h
  have hd' : d = .lit (.string s.data.toList) := congrArg Prod.fst h2
  subst hd'
  have h3 := hw s.data.toList.length (by simp [DataW.weights])
  have h4 : reachBytes = 140737488351232 := by decide
  refine ⟨s, h1, ?_⟩
  rw [h4, Array.length_toList] at h3
  exact h3
end

theorem msg_at {H : Type} {enc : TypeId × Value → H} {W : World} {sp : Nat → Bool} {hd : Bool} {f : Nat} {cs : List Value} {d : DataW H} {ps : List MemPlace}
    (h : DataW.trod enc Try.prog W 0 sp hd f 24 cs = some (d, ps)) (hw : ∀ n ∈ d.weights Try.prog 24, n ≤ reachBytes) : ∃ m : M, m.fits ∧ cs = m.cells := by
  have hS : Try.prog.underlying 24 = some (.struct (Try.prog.fieldsOf 24)) := by kernel_rfl
  have hF : (Try.prog.fieldsOf 24).map (fun f => (f.type, f.offset)) = #[(3, 0), (3, 1), (3, 2), (4, 3), (9, 4)] := by kernel_rfl
  obtain ⟨hl, hp⟩ := struct_in hS hF h hw
  rw [show Try.prog.cellsOf 24 = 5 by kernel_rfl] at hl
  obtain ⟨c0, c1, c2, c3, c4, rfl⟩ : ∃ c0 c1 c2 c3 c4, cs = [c0, c1, c2, c3, c4] := by
    match cs, hl with
    | [c0, c1, c2, c3, c4], _ => exact ⟨_, _, _, _, _, rfl⟩
  have k1 : Try.prog.cellsOf 3 = 1 := by kernel_rfl
  have k2 : Try.prog.cellsOf 4 = 1 := by kernel_rfl
  have k3 : Try.prog.cellsOf 9 = 1 := by kernel_rfl
  obtain ⟨_, _, _, h0, _⟩ := hp 0 _ _ rfl
  obtain ⟨_, _, _, h1, _⟩ := hp 1 _ _ rfl
  obtain ⟨_, _, _, h2, _⟩ := hp 2 _ _ rfl
  obtain ⟨_, _, _, h3, _⟩ := hp 3 _ _ rfl
  obtain ⟨_, _, _, h4, w4⟩ := hp 4 _ _ rfl
  rw [k1] at h0 h1 h2
  rw [k2] at h3
  rw [k3] at h4
  obtain ⟨n0, e0, _, x0⟩ := DataW.trod_int Try.underlying3 h0
  obtain ⟨n1, e1, _, x1⟩ := DataW.trod_int Try.underlying3 h1
  obtain ⟨n2, e2, _, x2⟩ := DataW.trod_int Try.underlying3 h2
  obtain ⟨b3, e3, _⟩ := DataW.trod_bool Try.underlying4 h3
  obtain ⟨s4, e4, x4⟩ := string_at Try.underlying9 h4 w4
  simp at e0 e1 e2 e3 e4
  subst e0 e1 e2 e3 e4
  exact ⟨⟨n0, n1, n2, b3, s4⟩, ⟨wf_i64 x0, wf_i64 x1, wf_i64 x2, x4⟩, rfl⟩

theorem msg_in {H : Type} {enc : TypeId × Value → H} {W : World} {sp : Nat → Bool} {hd : Bool} {B : Nat} {v : Value} {d : DataW H} {ps : List MemPlace}
    (hv : Value.okWide Try.prog W .any B 24 v) (h : DataW.Trod enc Try.prog W 0 sp hd 24 v d ps) (hw : ∀ n ∈ d.weights Try.prog 24, n ≤ reachBytes) : ∃ m : M, m.fits ∧ v = m.val := by
  have hS : Try.prog.underlying 24 = some (.struct (Try.prog.fieldsOf 24)) := by kernel_rfl
  obtain ⟨cs, rfl, _⟩ := okWide_struct hS hv
  obtain ⟨fuel, h⟩ := h
  obtain ⟨m, hm, hc⟩ := msg_at h hw
  refine ⟨m, hm, ?_⟩
  have e : cs = m.cells.toArray := by
    rw [← hc]
    simp [Value.cells]
  rw [e]
  rfl

theorem msgs_in0 {H : Type} {enc : TypeId × Value → H} {W : World} {sp : Nat → Bool} {hd : Bool} {fuel : Nat} {c : Value} {d : DataW H} {ps : List MemPlace}
    (h : DataW.trod enc Try.prog W 0 sp hd fuel 30 [c] = some (d, ps)) (hw : ∀ n ∈ d.weights Try.prog 30, n ≤ reachBytes) : ∃ ms, Msgs W c ms := by
  obtain ⟨css, xs, hl, hs, hr, hel⟩ := slice_in (s := 5) (α := M) (fun cs m => m.fits ∧ cs = m.cells) Try.underlying30 (by kernel_rfl) (by omega) (by rw [show Try.prog.bytesOf 24 = 48 by kernel_rfl]; omega)
    (fun f cs d' ps' h _ hw => msg_at h hw) h hw
  have e : css.flatten = xs.flatMap M.cells := by
    have e' : css = xs.map M.cells := by
      apply List.ext_getElem (by simpa using hl)
      intro i h1 h2
      rw [(hel i h1 (by simpa using h2)).2]
      simp
    rw [e', List.flatMap_def]
  rw [e] at hr
  refine ⟨xs, fun x hx => ?_, hr⟩
  obtain ⟨i, hi, rfl⟩ := List.mem_iff_getElem.1 hx
  exact (hel i (by omega) hi).1

theorem msgs_in {H : Type} {enc : TypeId × Value → H} {W : World} {sp : Nat → Bool} {hd : Bool} {B : Nat} {v : Value} {d : DataW H} {ps : List MemPlace}
    (hv : Value.okWide Try.prog W .any B 30 v) (h : DataW.Trod enc Try.prog W 0 sp hd 30 v d ps) (hw : ∀ n ∈ d.weights Try.prog 30, n ≤ reachBytes) : ∃ ms, Msgs W v ms := by
  obtain ⟨fuel, h⟩ := slice_shape Try.underlying30 hv h
  exact msgs_in0 h hw
end Go.Proofs.Ythclljdkicihpaa
