/-
  Right worlds, in plain words: what each part must be; what may be changed of one.
  Telling, the plain law: what comes is right; what is told was held; told once more, nothing is told.
  Putting a message, the plain law: what comes rises.
-/
import Derived.Test.YtnalakhelicjcaaVKD
import Derived.Test.YtnalakhelicjcaaVKT
import Derived.Test.YtnalakhelicjcaaVKN
import Derived.Test.YtnalakhelicjcaaVKB2
set_option maxRecDepth 100000
namespace Go.Proofs.Ytnalakhelicjcaa
open Go.RowKit

structure ListR (K : Nat) (gs : List Int) (n : Nat) (l : List M) : Prop where
  rise : risesB l = true
  fine : ∀ m ∈ l, m.null = false ∧ msgE K gs m = 0 ∧ hasB gs m.grp n = true
  many : l.length ≤ 40
structure NodeR (K : Nat) (gs : List Int) (n : Nat) (x : N) : Prop where
  clock : 0 ≤ x.clock ∧ x.clock ≤ 1048576
  len : x.last.length = gs.length
  rows : ∀ g, g < gs.length → (x.last.getD g []).length = K
  cells : ∀ g k, g < gs.length → k < K → (0 ≤ (x.last.getD g []).getD k 0 ∧ (x.last.getD g []).getD k 0 ≤ 1048576) ∧ ((hasB gs g n = true ∧ hasB gs g k = true) ∨ (x.last.getD g []).getD k 0 = 0)
  held : ListR K gs n x.held
  told : ListR K gs n x.told
structure WireR (K : Nat) (gs : List Int) (a b : Nat) (l : List M) : Prop where
  src : ∀ m ∈ l, m.src = (a : Int)
  rise : l.Pairwise (fun x y => x.stamp < y.stamp)
  fine : ∀ m ∈ l, msgE K gs m = 0 ∧ hasB gs m.grp b = true
  self : a ≠ b ∨ l = []
  many : l.length ≤ 40
structure Right (X : Wd) : Prop where
  grp : gErr X.nodes.length X.groups = 0
  nw : X.wires.length = X.nodes.length
  row : ∀ a, a < X.nodes.length → (X.wires.getD a []).length = X.nodes.length
  node : ∀ n, n < X.nodes.length → NodeR X.nodes.length X.groups n (X.nodes.getD n N.zero)
  wire : ∀ a b, a < X.nodes.length → b < X.nodes.length → WireR X.nodes.length X.groups a b (wireL X a b)

theorem listFineB_iff {K : Int} {gs : List Int} {l : List M} {n : Int} : listFineB K gs l n = true ↔ ∀ m ∈ l, msgE K gs m = 0 ∧ hasB gs m.grp n = true := by
  simp [listFineB, fineM, List.all_eq_true]
theorem noNullB_iff {l : List M} : noNullB l = true ↔ ∀ m ∈ l, m.null = false := by simp [noNullB, List.all_eq_true]
theorem adj_pair : ∀ {l : List M}, (∀ t, t < l.length → t = 0 ∨ (l.getD (t - 1) M.zero).stamp < (l.getD t M.zero).stamp) → l.Pairwise (fun x y => x.stamp < y.stamp)
  | [], _ => List.Pairwise.nil
  | [_], _ => by simp
  | a :: b :: l, h => by
    have h2 := adj_pair (l := b :: l) (fun t ht => by
      cases t with
      | zero => exact Or.inl rfl
      | succ t =>
        right
        have := h (t + 2) (by simpa using ht)
        rcases this with h0 | h0
        · omega
        · simpa using h0)
    have h0 : a.stamp < b.stamp := by
      rcases h 1 (by simp) with h0 | h0
      · omega
      · simpa using h0
    rw [List.pairwise_cons]
    refine ⟨fun c hc => ?_, h2⟩
    rcases List.mem_cons.1 hc with rfl | hc
    · exact h0
    · have := (List.pairwise_cons.1 h2).1 c hc; omega
theorem wireOrdB_iff {a : Int} {l : List M} : wireOrdB a l = true ↔ (∀ m ∈ l, m.src = a) ∧ l.Pairwise (fun x y => x.stamp < y.stamp) := by
  unfold wireOrdB
  rw [range_all_iff]
  simp only [Bool.and_eq_true, beq_iff_eq, Bool.or_eq_true, decide_eq_true_eq]
  constructor
  · intro h
    refine ⟨fun m hm => ?_, adj_pair fun t ht => (h t ht).2⟩
    obtain ⟨i, hi, rfl⟩ := List.mem_iff_getElem.1 hm
    rw [← getD_lt l M.zero hi]
    exact (h i hi).1
  · rintro ⟨h1, h2⟩ t ht
    refine ⟨by rw [getD_lt l M.zero ht]; exact h1 _ (List.getElem_mem _), ?_⟩
    by_cases e : t = 0
    · exact Or.inl e
    · right
      rw [getD_lt l M.zero ht, getD_lt l M.zero (show t - 1 < l.length by omega)]
      exact List.pairwise_iff_getElem.1 h2 (t - 1) t _ _ (by omega)
theorem nodeFineB_iff {X : Wd} {n : Nat} : (nodeFineB X n = true ∧ manyN (X.nodes.getD n N.zero) = false) ↔ NodeR X.nodes.length X.groups n (X.nodes.getD n N.zero) := by
  unfold nodeFineB
  generalize X.nodes.getD n N.zero = x
  simp only [nodeOkB, lastFineB, rowFineB, cellFineB, inB, manyN, Bool.and_eq_true, Bool.or_eq_true, Bool.or_eq_false_iff, decide_eq_true_eq, decide_eq_false_iff_not, range_all_iff, listFineB_iff, noNullB_iff, beq_iff_eq]
  constructor
  · rintro ⟨⟨⟨h1, h2, h3⟩, ⟨⟨⟨⟨h4, h5⟩, h6⟩, h7⟩, h8⟩, h9⟩, h10, h11⟩
    refine ⟨h1, h2, fun g hg => (h3 g (by omega)).1, fun g k hg hk => (h3 g (by omega)).2 k (by rw [(h3 g (by omega)).1]; exact hk), ⟨h4, fun m hm => ⟨h6 m hm, h8 m hm⟩, by omega⟩, ⟨h5, fun m hm => ⟨h7 m hm, h9 m hm⟩, by omega⟩⟩
  · intro h
    refine ⟨⟨⟨h.clock, h.len, fun g hg => ⟨h.rows g (by rw [← h.len]; exact hg), fun k hk => h.cells g k (by rw [← h.len]; exact hg) (by rw [← h.rows g (by rw [← h.len]; exact hg)]; exact hk)⟩⟩,
      ⟨⟨⟨⟨h.held.rise, h.told.rise⟩, fun m hm => (h.held.fine m hm).1⟩, fun m hm => (h.told.fine m hm).1⟩, fun m hm => (h.held.fine m hm).2⟩, fun m hm => (h.told.fine m hm).2⟩, ?_, ?_⟩
    · have := h.held.many; omega
    · have := h.told.many; omega

theorem right_of {X : Wd} (h : errX X = 0) : Right X := by
  have hg : gErr X.nodes.length X.groups = 0 := by
    rcases Classical.em (gErr X.nodes.length X.groups = 0) with e | e
    · exact e
    · rw [errX_g e] at h; exact absurd h e
  have hm : manyX X = false := by
    cases hm : manyX X
    · rfl
    · rw [errX_2 hg hm] at h; cases h
  have hf : fineX X = true := by
    cases hf : fineX X
    · rw [errX_1 hg hm hf] at h; cases h
    · rfl
  have hF := errX_fit h
  simp only [fineX, Bool.and_eq_true, decide_eq_true_eq, range_all_iff] at hf
  obtain ⟨⟨hw, hr⟩, hww⟩ := hf
  simp only [manyX, Bool.or_eq_false_iff] at hm
  refine ⟨hg, hw, fun a ha => hF.row ha, fun n hn => nodeFineB_iff.1 ⟨?_, ?_⟩, fun a b ha hb => ?_⟩
  · have := hr n hn
    simp only [fineR, Bool.and_eq_true] at this
    exact this.2
  · cases h0 : manyN (X.nodes.getD n N.zero)
    · rfl
    · rw [range_any_t (p := fun n => manyN (X.nodes.getD n N.zero)) hn h0] at hm; cases hm.1
  · have h1 := hww a ha
    unfold fineW at h1
    rw [range_all_iff] at h1
    have h2 := h1 b hb
    simp only [wireFineB, Bool.and_eq_true, Bool.or_eq_true, bne_iff_ne, ne_eq, listFineB_iff, wireOrdB_iff, List.isEmpty_iff] at h2
    exact ⟨h2.1.1.1, h2.1.1.2, h2.1.2, h2.2, hF.wire ha hb⟩
theorem Right.err {X : Wd} (h : Right X) : errX X = 0 := by
  refine errX_0 h.grp ?_ ?_
  · simp only [manyX, Bool.or_eq_false_iff]
    refine ⟨range_any_f fun t ht => (nodeFineB_iff.2 (h.node t ht)).2, range_any_f fun t ht => ?_⟩
    rw [h.nw] at ht
    unfold manyR
    refine range_any_f fun s hs => ?_
    rw [h.row t ht] at hs
    have := (h.wire t s ht hs).many
    rw [decide_eq_false_iff_not]
    unfold wireL at this
    omega
  · simp only [fineX, Bool.and_eq_true, decide_eq_true_eq, range_all_iff]
    refine ⟨⟨h.nw, fun n hn => ?_⟩, fun a ha => ?_⟩
    · simp only [fineR, Bool.and_eq_true, decide_eq_true_eq]
      exact ⟨h.row n hn, (nodeFineB_iff.2 (h.node n hn)).1⟩
    · unfold fineW
      rw [range_all_iff]
      intro b hb
      have := h.wire a b ha hb
      simp only [wireFineB, Bool.and_eq_true, Bool.or_eq_true, bne_iff_ne, ne_eq, listFineB_iff, wireOrdB_iff, List.isEmpty_iff]
      exact ⟨⟨⟨this.src, this.rise⟩, this.fine⟩, this.self⟩
theorem right_iff {X : Wd} : errX X = 0 ↔ Right X := ⟨right_of, Right.err⟩

end Go.Proofs.Ytnalakhelicjcaa

set_option maxRecDepth 100000
namespace Go.Proofs.Ytnalakhelicjcaa
open Go.RowKit

theorem boundX_congr {X Y : Wd} {n : Nat} (h1 : Y.groups = X.groups) (h2 : Y.nodes.length = X.nodes.length) (h3 : (Y.nodes.getD n N.zero).clock = (X.nodes.getD n N.zero).clock) (h4 : (Y.nodes.getD n N.zero).last = (X.nodes.getD n N.zero).last) : boundX Y n = boundX X n := by
  unfold boundX boundM boundG boundS
  rw [h1, h2, h3, h4]
end Go.Proofs.Ytnalakhelicjcaa

set_option maxRecDepth 100000
namespace Go.Proofs.Ytnalakhelicjcaa
open Go.RowKit

theorem mem_putM {ms : List M} {m x : M} : x ∈ putM ms m ↔ x = m ∨ x ∈ ms := by
  have : x ∈ ms ↔ x ∈ ms.take (posM ms m) ∨ x ∈ ms.drop (posM ms m) := by
    rw [← List.mem_append, List.take_append_drop]
  rw [putM, List.mem_append, List.mem_cons, this]
  constructor
  · rintro (h | h | h)
    · exact Or.inr (Or.inl h)
    · exact Or.inl h
    · exact Or.inr (Or.inr h)
  · rintro (h | h | h)
    · exact Or.inr (Or.inl h)
    · exact Or.inl h
    · exact Or.inr (Or.inr h)
end Go.Proofs.Ytnalakhelicjcaa
