/-
  Many steps; all that was ever sent.
-/
import Derived.Test.YtnalakhelicjcaaVIw
set_option maxRecDepth 100000
namespace Go.Proofs.Ytnalakhelicjcaa
open Go.RowKit

/-- Steps, of which k are casts. -/
inductive Steps (X : Wd) : Nat → Wd → Prop
  | refl : Steps X 0 X
  | move {k : Nat} {Y Z : Wd} {a b : Nat} {m : M} (h : Steps X k Y) (s : Mv Y a b m Z) : Steps X k Z
  | cast {k : Nat} {Y Z : Wd} {n : Nat} {m : M} (h : Steps X k Y) (s : Sn Y n m Z) : Steps X (k + 1) Z
theorem Steps.trans {X Y Z : Wd} {j k : Nat} (h : Steps X j Y) (h2 : Steps Y k Z) : Steps X (j + k) Z := by
  induction h2 with
  | refl => exact h
  | move _ s ih => exact .move ih s
  | cast _ s ih => exact .cast ih s
theorem Steps.like {X Y : Wd} {k : Nat} (h : Steps X k Y) (hR : Right X) : Like X Y := by
  induction h with
  | refl => exact Like.refl hR
  | move _ s ih => exact ih.trans s.like
  | cast _ s ih => exact ih.trans s.like
theorem Steps.inv {X Y : Wd} {k : Nat} (h : Steps X k Y) (i : Inv X) : Inv Y := by
  induction h with
  | refl => exact i
  | move _ s ih => exact ih.move s
  | cast _ s ih => exact ih.cast s
theorem Steps.clocks {X Y : Wd} {k : Nat} (h : Steps X k Y) (n : Nat) : (nd X n).clock ≤ (nd Y n).clock := by
  induction h with
  | refl => exact Int.le_refl _
  | move _ s ih => exact Int.le_trans ih (s.clocks n)
  | cast _ s ih => exact Int.le_trans ih (s.clocks n)
theorem Steps.hears {X Y : Wd} {k : Nat} (h : Steps X k Y) (hR : Right X) (n : Nat) {g j : Nat} (hg : g < X.groups.length) (hj : j < X.nodes.length) : heard X n g j ≤ heard Y n g j := by
  induction h with
  | refl => exact Int.le_refl _
  | move h s ih => exact Int.le_trans ih (s.hears n (by rw [(h.like hR).groups]; exact hg) (by rw [(h.like hR).len]; exact hj))
  | cast _ s ih => rw [s.hears]; exact ih
theorem Steps.bound {X Y : Wd} {k : Nat} (h : Steps X k Y) (hR : Right X) (n : Nat) : boundX X n ≤ boundX Y n :=
  boundX_mono (h.like hR).groups (h.like hR).len (h.clocks n) (fun _ _ hg hj => h.hears hR n hg hj)
/-- What was told stays told. -/
theorem Kept.told {h t : List M} {m : M} {Y : Wd} {n : Nat} (k : Kept h t m Y n) : ∃ R, (nd Y n).told = t ++ R := by
  obtain ⟨⟨R, h1, _⟩, _⟩ := k
  exact ⟨R, h1⟩
theorem Steps.told {X Y : Wd} {k : Nat} (h : Steps X k Y) (n : Nat) : ∃ R, (nd Y n).told = (nd X n).told ++ R := by
  induction h with
  | refl => exact ⟨[], by simp⟩
  | @move k Y Z a b m _ s ih =>
    obtain ⟨R, hR⟩ := ih
    by_cases e : n = b
    · obtain ⟨Q, hQ⟩ := s.kept.told
      rw [e] at hR ⊢
      exact ⟨R ++ Q, by rw [hQ, hR, List.append_assoc]⟩
    · exact ⟨R, by rw [s.others n e]; exact hR⟩
  | @cast k Y Z c m _ s ih =>
    obtain ⟨R, hR⟩ := ih
    by_cases e : n = c
    · obtain ⟨Q, hQ⟩ := s.kept.told
      rw [e] at hR ⊢
      exact ⟨R ++ Q, by rw [hQ, hR, List.append_assoc]⟩
    · exact ⟨R, by rw [s.others n e]; exact hR⟩
/-- How high a clock may be. -/
def Under (X : Wd) (C : Int) : Prop := ∀ n, n < X.nodes.length → (nd X n).clock ≤ C
theorem Steps.under {X Y : Wd} {k : Nat} (h : Steps X k Y) (i : Inv X) {C : Int} (hC : Under X C) : Under Y (C + k) := by
  induction h with
  | refl => simpa using hC
  | @move k Y Z a b m h s ih =>
    intro n hn
    rw [s.like.len] at hn
    by_cases e : n = b
    · obtain ⟨ha, hb, _⟩ := s.at_
      obtain ⟨l, hl, _⟩ := s.first
      have h1 := (h.inv i).wc a b m ha hb (by rw [hl]; exact List.mem_cons_self ..)
      have h2 := ih a ha
      have h3 := ih b hb
      rw [e, s.clock]
      omega
    · rw [s.others n e]; exact ih n hn
  | @cast k Y Z c m h s ih =>
    intro n hn
    rw [s.like.len] at hn
    have := ih n hn
    by_cases e : n = c
    · subst e
      rw [s.clock]
      omega
    · rw [s.others n e]
      omega

/-- S: all that was ever sent. -/
structure Gh (X : Wd) (S : List M) : Prop where
  onw : ∀ a b m, a < X.nodes.length → b < X.nodes.length → m ∈ wireL X a b → m ∈ S
  onl : ∀ n m, n < X.nodes.length → (m ∈ (nd X n).held ∨ m ∈ (nd X n).told) → m ∈ S
  key : ∀ x ∈ S, ∀ y ∈ S, x.src = y.src → x.stamp = y.stamp → x = y
  clk : ∀ x ∈ S, ∀ n, n < X.nodes.length → x.src = (n : Int) → x.stamp ≤ (nd X n).clock
  src : ∀ x ∈ S, msgE X.nodes.length X.groups x = 0
  del : ∀ x ∈ S, x.null = false → ∀ n, n < X.nodes.length → hasB X.groups x.grp n = true → (x ∈ (nd X n).held ∨ x ∈ (nd X n).told) ∨ ∃ a, a < X.nodes.length ∧ x.src = (a : Int) ∧ a ≠ n ∧ x ∈ wireL X a n
theorem Gh.move {X Y : Wd} {S : List M} {a b : Nat} {m : M} (i : Gh X S) (h : Mv X a b m Y) : Gh Y S := by
  obtain ⟨ha, hb, hab⟩ := h.at_
  obtain ⟨l, hl, hl'⟩ := h.first
  have hmem : m ∈ wireL X a b := by rw [hl]; exact List.mem_cons_self ..
  have hK := h.like.len
  have hG := h.like.groups
  refine ⟨fun c d x hc hd hx => ?_, fun n x hn hx => ?_, i.key, fun x hx n hn hs => ?_, fun x hx => ?_, fun x hx h0 n hn hh => ?_⟩
  · rw [hK] at hc hd
    by_cases e : c = a ∧ d = b
    · obtain ⟨rfl, rfl⟩ := e
      rw [hl'] at hx
      exact i.onw c d x hc hd (by rw [hl]; exact List.mem_cons_of_mem _ hx)
    · rw [h.wires c d e] at hx
      exact i.onw c d x hc hd hx
  · rw [hK] at hn
    by_cases e : n = b
    · subst e
      rcases h.kept.mem.1 hx with hx | ⟨_, rfl⟩
      · exact i.onl n x hn hx
      · exact i.onw a n x ha hb hmem
    · rw [h.others n e] at hx
      exact i.onl n x hn hx
  · rw [hK] at hn
    exact Int.le_trans (i.clk x hx n hn hs) (h.clocks n)
  · rw [hK, hG]
    exact i.src x hx
  · rw [hK] at hn ⊢
    rw [hG] at hh
    rcases i.del x hx h0 n hn hh with hx | ⟨c, hc, hs, hcn, hx⟩
    · left
      by_cases e : n = b
      · subst e
        exact h.kept.mem.2 (Or.inl hx)
      · rw [h.others n e]
        exact hx
    · by_cases e : c = a ∧ n = b
      · obtain ⟨rfl, rfl⟩ := e
        rw [hl] at hx
        rcases List.mem_cons.1 hx with rfl | hx
        · exact Or.inl (h.kept.mem.2 (Or.inr ⟨h0, rfl⟩))
        · exact Or.inr ⟨c, hc, hs, hcn, by rw [hl']; exact hx⟩
      · exact Or.inr ⟨c, hc, hs, hcn, by rw [h.wires c n e]; exact hx⟩
theorem Gh.cast {X Y : Wd} {S : List M} {n : Nat} {m : M} (i : Gh X S) (h : Sn X n m Y) : Gh Y (S ++ [m]) := by
  have hn0 := h.at_
  have hK := h.like.len
  have hG := h.like.groups
  have hs := h.stamp
  have hsr := h.src
  have inS : ∀ x, x ∈ S ++ [m] ↔ x ∈ S ∨ x = m := fun x => by rw [List.mem_append, List.mem_singleton]
  have hnew : ∀ x ∈ S, x.src = m.src → x.stamp ≠ m.stamp := fun x hx e => by
    have := i.clk x hx n hn0 (by rw [e, hsr])
    omega
  refine ⟨fun c d x hc hd hx => ?_, fun j x hj hx => ?_, fun x hx y hy e1 e2 => ?_, fun x hx j hj hs' => ?_, fun x hx => ?_, fun x hx h0 j hj hh => ?_⟩
  · rw [hK] at hc hd
    rw [h.wires c d hc hd] at hx
    rw [inS]
    split at hx
    · rcases List.mem_append.1 hx with hx | hx
      · exact Or.inl (i.onw c d x hc hd hx)
      · exact Or.inr (List.mem_singleton.1 hx)
    · exact Or.inl (i.onw c d x hc hd hx)
  · rw [hK] at hj
    rw [inS]
    by_cases e : j = n
    · subst e
      rcases h.kept.mem.1 hx with hx | ⟨_, rfl⟩
      · exact Or.inl (i.onl j x hj hx)
      · exact Or.inr rfl
    · rw [h.others j e] at hx
      exact Or.inl (i.onl j x hj hx)
  · rcases (inS x).1 hx with kx | kx
    · rcases (inS y).1 hy with ky | ky
      · exact i.key x kx y ky e1 e2
      · rw [ky] at e1 e2
        exact absurd e2 (hnew x kx e1)
    · rcases (inS y).1 hy with ky | ky
      · rw [kx] at e1 e2
        exact absurd e2.symm (hnew y ky e1.symm)
      · rw [kx, ky]
  · rw [hK] at hj
    rcases (inS x).1 hx with hx | rfl
    · exact Int.le_trans (i.clk x hx j hj hs') (h.clocks j)
    · have e : j = n := by omega
      subst e
      rw [h.clock, hs]; exact Int.le_refl _
  · rw [hK, hG]
    rcases (inS x).1 hx with hx | rfl
    · exact i.src x hx
    · exact h.fine
  · rw [hK] at hj ⊢
    rw [hG] at hh
    rcases (inS x).1 hx with hx | rfl
    · rcases i.del x hx h0 j hj hh with hx | ⟨c, hc, hs', hcn, hx⟩
      · left
        by_cases e : j = n
        · subst e
          exact h.kept.mem.2 (Or.inl hx)
        · rw [h.others j e]
          exact hx
      · refine Or.inr ⟨c, hc, hs', hcn, ?_⟩
        rw [h.wires c j hc hj]
        split
        · exact List.mem_append_left _ hx
        · exact hx
    · by_cases e : j = n
      · subst e
        exact Or.inl (h.kept.mem.2 (Or.inr ⟨h0, rfl⟩))
      · refine Or.inr ⟨n, hn0, hsr, fun h => e h.symm, ?_⟩
        rw [h.wires n j hn0 hj, if_pos ⟨rfl, e, hh⟩]
        exact List.mem_append_right _ (List.mem_singleton.2 rfl)
theorem Steps.gh {X Y : Wd} {k : Nat} (h : Steps X k Y) {S : List M} (i : Gh X S) : ∃ T, Gh Y (S ++ T) := by
  induction h with
  | refl => exact ⟨[], by simpa using i⟩
  | move _ s ih =>
    obtain ⟨T, hT⟩ := ih
    exact ⟨T, hT.move s⟩
  | @cast k Y Z n m _ s ih =>
    obtain ⟨T, hT⟩ := ih
    exact ⟨T ++ [m], by rw [← List.append_assoc]; exact hT.cast s⟩
end Go.Proofs.Ytnalakhelicjcaa
