/-
  Whatever was done: what holds of it; which errors there can be.
-/
import Derived.Test.YtnalakhelicjcaaVIy
set_option maxRecDepth 100000
namespace Go.Proofs.Ytnalakhelicjcaa
open Go.RowKit

theorem getD_rep {α : Type} {n i : Nat} {x d : α} (h : i < n) : (List.replicate n x).getD i d = x := by
  rw [getD_lt _ d (by rw [List.length_replicate]; exact h), List.getElem_replicate]
section
variable {n : Nat} {gs : List Int}
theorem begin_len : (beginX n gs).nodes.length = n ∧ (beginX n gs).wires.length = n ∧ (beginX n gs).groups = gs := by simp [beginX]
theorem begin_nd {k : Nat} (h : k < n) : nd (beginX n gs) k = ⟨0, List.replicate gs.length (List.replicate n 0), [], []⟩ := getD_rep h
theorem begin_wire (a b : Nat) : wireL (beginX n gs) a b = [] := by
  unfold wireL beginX
  dsimp only
  rw [List.getD_eq_getElem?_getD, List.getD_eq_getElem?_getD, List.getElem?_replicate]
  split
  · rw [Option.getD_some, List.getElem?_replicate]
    split <;> rfl
  · rfl
theorem begin_heard {k g j : Nat} (h : k < n) : heard (beginX n gs) k g j = 0 := by
  unfold heard
  rw [begin_nd h]
  dsimp only
  rw [List.getD_eq_getElem?_getD, List.getD_eq_getElem?_getD, List.getElem?_replicate]
  split
  · rw [Option.getD_some, List.getElem?_replicate]
    split <;> rfl
  · rfl
theorem begin_right (h : gErr n gs = 0) : Right (beginX n gs) := by
  have hl := begin_len (n := n) (gs := gs)
  have hL0 : ∀ k, ListR n gs k [] := fun k => ⟨rfl, fun m hm => (by cases hm), by simp⟩
  refine ⟨by rw [hl.1, hl.2.2]; exact h, by rw [hl.1, hl.2.1], fun a ha => ?_, fun k hk => ?_, fun a b ha hb => ?_⟩
  · rw [hl.1] at ha ⊢
    show ((List.replicate n (List.replicate n ([] : List M))).getD a []).length = n
    rw [getD_rep ha, List.length_replicate]
  · rw [hl.1] at hk ⊢
    rw [hl.2.2]
    have e := begin_nd (gs := gs) hk
    unfold nd at e
    rw [e]
    refine ⟨⟨by show (0 : Int) ≤ 0; omega, by show (0 : Int) ≤ _; omega⟩, by simp, fun g hg => ?_, fun g j hg hj => ?_, hL0 k, hL0 k⟩
    · show ((List.replicate gs.length (List.replicate n (0 : Int))).getD g []).length = n
      rw [getD_rep hg, List.length_replicate]
    · have : ((List.replicate gs.length (List.replicate n (0 : Int))).getD g []).getD j 0 = 0 := by rw [getD_rep hg, getD_rep hj]
      dsimp only
      rw [this]
      exact ⟨by omega, Or.inr rfl⟩
  · rw [begin_wire]
    exact ⟨fun m hm => (by cases hm), List.Pairwise.nil, fun m hm => (by cases hm), Or.inr rfl, by simp⟩
theorem begin_inv (h : gErr n gs = 0) : Inv (beginX n gs) := by
  have hl := begin_len (n := n) (gs := gs)
  have hh : ∀ k m, k < n → ¬ (m ∈ (nd (beginX n gs) k).held ∨ m ∈ (nd (beginX n gs) k).told) := fun k m hk hm => by
    rw [begin_nd hk] at hm
    rcases hm with hm | hm <;> cases hm
  refine ⟨begin_right h, fun k g j hk _ hj => ?_, fun a b m _ _ hm => ?_, fun a b m g _ _ _ hm => ?_, fun k m hk hm => ?_, fun k m j hk _ hm _ _ => ?_, fun k m hk hm => ?_, fun k m hk hm => ?_⟩
  · rw [hl.1] at hk hj
    rw [begin_heard hk, begin_nd hj]
    exact Int.le_refl _
  · rw [begin_wire] at hm; cases hm
  · rw [begin_wire] at hm; cases hm
  · rw [hl.1] at hk; exact absurd hm (hh k m hk)
  · rw [hl.1] at hk; exact absurd hm (hh k m hk)
  · rw [hl.1] at hk; exact absurd (Or.inr hm) (hh k m hk)
  · rw [hl.1] at hk; exact absurd (Or.inl hm) (hh k m hk)
theorem begin_gh : Gh (beginX n gs) [] := by
  have hl := begin_len (n := n) (gs := gs)
  refine ⟨fun a b m _ _ hm => ?_, fun k m hk hm => ?_, fun x hx => (by cases hx), fun x hx => (by cases hx), fun x hx => (by cases hx), fun x hx => (by cases hx)⟩
  · rw [begin_wire] at hm; cases hm
  · rw [hl.1] at hk
    rw [begin_nd hk] at hm
    rcases hm with hm | hm <;> cases hm
end

end Go.Proofs.Ytnalakhelicjcaa
