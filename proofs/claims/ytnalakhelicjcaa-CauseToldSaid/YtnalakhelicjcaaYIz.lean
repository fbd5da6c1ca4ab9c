/-
  Whatever was done: what holds of it; which errors there can be.
-/
import Derived.Test.YtnalakhelicjcaaYIy
set_option maxRecDepth 100000
namespace Go.Proofs.Ytnalakhelicjcaa
open Go.RowKit

theorem getD_rep {α : Type} {n i : Nat} {x d : α} (h : i < n) : (List.replicate n x).getD i d = x := by
  rw [getD_lt _ d (by rw [List.length_replicate]; exact h), List.getElem_replicate]
section
variable {n : Nat} {gs : List Int}
theorem begin_len : (beginX n gs).nodes.length = n ∧ (beginX n gs).wires.length = n ∧ (beginX n gs).groups = gs := by simp [beginX]
theorem begin_nd {k : Nat} (h : k < n) : nd (beginX n gs) k = ⟨0, List.replicate gs.length (List.replicate n 0), [], []⟩ := getD_rep h
theorem begin_wire (a b : Nat) : wireL (beginX n gs) a b = [] := by
  unfold wireL beginX
  dsimp only
  rw [List.getD_eq_getElem?_getD, List.getD_eq_getElem?_getD, List.getElem?_replicate]
  split
  · rw [Option.getD_some, List.getElem?_replicate]
    split <;> rfl
  · rfl
theorem begin_heard {k g j : Nat} (h : k < n) : heard (beginX n gs) k g j = 0 := by
  unfold heard
  rw [begin_nd h]
  dsimp only
  rw [List.getD_eq_getElem?_getD, List.getD_eq_getElem?_getD, List.getElem?_replicate]
  split
  · rw [Option.getD_some, List.getElem?_replicate]
    split <;> rfl
  · rfl
theorem begin_right (h : gErr n gs = 0) : Right (beginX n gs) := by
  have hl := begin_len (n := n) (gs := gs)
  have hL0 : ∀ k, ListR n gs k [] := fun k => ⟨rfl, fun m hm => (by cases hm), by simp⟩
  refine ⟨by rw [hl.1, hl.2.2]; exact h, by rw [hl.1, hl.2.1], fun a ha => ?_, fun k hk => ?_, fun a b ha hb => ?_⟩
  · rw [hl.1] at ha ⊢
    show ((List.replicate n (List.replicate n ([] : List M))).getD a []).length = n
    rw [getD_rep ha, List.length_replicate]
  · rw [hl.1] at hk ⊢
    rw [hl.2.2]
    have e := begin_nd (gs := gs) hk
    unfold nd at e
    rw [e]
    refine ⟨⟨by show (0 : Int) ≤ 0; omega, by show (0 : Int) ≤ _; omega⟩, by simp, fun g hg => ?_, fun g j hg hj => ?_, hL0 k, hL0 k⟩
    · show ((List.replicate gs.length (List.replicate n (0 : Int))).getD g []).length = n
      rw [getD_rep hg, List.length_replicate]
    · have : ((List.replicate gs.length (List.replicate n (0 : Int))).getD g []).getD j 0 = 0 := by rw [getD_rep hg, getD_rep hj]
      dsimp only
      rw [this]
      exact ⟨by omega, Or.inr rfl⟩
  · rw [begin_wire]
    exact ⟨fun m hm => (by cases hm), List.Pairwise.nil, fun m hm => (by cases hm), Or.inr rfl, by simp⟩
theorem begin_inv (h : gErr n gs = 0) : Inv (beginX n gs) := by
  have hl := begin_len (n := n) (gs := gs)
  have hh : ∀ k m, k < n → ¬ (m ∈ (nd (beginX n gs) k).held ∨ m ∈ (nd (beginX n gs) k).told) := fun k m hk hm => by
    rw [begin_nd hk] at hm
    rcases hm with hm | hm <;> cases hm
  refine ⟨begin_right h, fun k g j hk _ hj => ?_, fun a b m _ _ hm => ?_, fun a b m g _ _ _ hm => ?_, fun k m hk hm => ?_, fun k m j hk _ hm _ _ => ?_, fun k m hk hm => ?_, fun k m hk hm => ?_⟩
  · rw [hl.1] at hk hj
    rw [begin_heard hk, begin_nd hj]
    exact Int.le_refl _
  · rw [begin_wire] at hm; cases hm
  · rw [begin_wire] at hm; cases hm
  · rw [hl.1] at hk; exact absurd hm (hh k m hk)
  · rw [hl.1] at hk; exact absurd hm (hh k m hk)
  · rw [hl.1] at hk; exact absurd (Or.inr hm) (hh k m hk)
  · rw [hl.1] at hk; exact absurd (Or.inl hm) (hh k m hk)
theorem begin_gh : Gh (beginX n gs) [] := by
  have hl := begin_len (n := n) (gs := gs)
  refine ⟨fun a b m _ _ hm => ?_, fun k m hk hm => ?_, fun x hx => (by cases hx), fun x hx => (by cases hx), fun x hx => (by cases hx), fun x hx => (by cases hx)⟩
  · rw [begin_wire] at hm; cases hm
  · rw [hl.1] at hk
    rw [begin_nd hk] at hm
    rcases hm with hm | hm <;> cases hm
theorem begin_under : Under (beginX n gs) 0 := fun k hk => by
  rw [begin_len.1] at hk
  rw [begin_nd hk]
  exact Int.le_refl _
end

theorem grp_le {X : Wd} (h : Right X) : X.nodes.length * X.groups.length ≤ 12 := by
  have hF := errX_fit h.err
  exact Nat.mul_le_mul hF.nodes hF.groups
/-- What is done: steps. -/
theorem doF_steps {X : Wd} {x : Ac} (h : (doF X x).1 = 0) : Right X ∧ ∃ k, k ≤ 48 ∧ Steps X k (doF X x).2 := by
  have hc : ∀ n g null body, (null = true → body = ByteArray.empty) → (castF X n g null body).1 = 0 → Right X ∧ ∃ k, k ≤ 48 ∧ Steps X k (castF X n g null body).2 := fun n g null body hb h => by
    unfold castF at h ⊢
    split at h
    · rename_i h0
      rw [if_pos h0]
      have hR := right_of h0
      obtain ⟨k, _, hS⟩ := castR_sn hR hb h
      exact ⟨hR, 1, by omega, .cast .refl hS⟩
    · rename_i h0
      exact absurd h h0
  unfold doF at h ⊢
  split at h
  · rename_i h1
    rw [if_pos h1]
    exact hc _ _ _ _ (fun h => by cases h) h
  rename_i h1
  rw [if_neg h1]
  split at h
  · rename_i h2
    rw [if_pos h2]
    exact hc _ _ _ _ (fun _ => rfl) h
  rename_i h2
  rw [if_neg h2]
  split at h
  · rename_i h3
    rw [if_pos h3]
    unfold moveF at h ⊢
    split at h
    · rename_i h0
      rw [if_pos h0]
      obtain ⟨hx, ha0, ha1, hb0, hb1⟩ := moveE_ok h0
      have hR := right_of hx
      obtain ⟨m, hM⟩ := moveR_mv hR (by omega) (by omega) h
      exact ⟨hR, 0, by omega, .move .refl hM⟩
    · rename_i h0
      exact absurd h h0
  rename_i h3
  rw [if_neg h3]
  split at h
  · rename_i h4
    rw [if_pos h4]
    unfold calmF at h ⊢
    split at h
    · rename_i h0
      rw [if_pos h0]
      have hR := right_of h0
      obtain ⟨c, hc, hS⟩ := calmR_steps hR h
      exact ⟨hR, c, by have := grp_le hR; omega, hS.steps⟩
    · rename_i h0
      exact absurd h h0
  · cases h
theorem doneF_steps {X : Wd} (hR : Right X) : ∀ l : List Ac, ∃ k, k ≤ 48 * l.length ∧ Steps X k (doneF X l)
  | [] => ⟨0, by simp, .refl⟩
  | x :: l => by
    have hs : ∃ k, k ≤ 48 ∧ Steps X k (doneS X x) := by
      unfold doneS
      split
      · rename_i h
        exact (doF_steps h).2
      · exact ⟨0, by omega, .refl⟩
    obtain ⟨j, hj, s⟩ := hs
    obtain ⟨k, hk, t⟩ := doneF_steps (s.like hR).right l
    exact ⟨j + k, by rw [List.length_cons]; omega, s.trans t⟩
/-- Whatever was done. -/
structure Reach (X : Wd) : Prop where
  inv : Inv X
  gh : ∃ S, Gh X S
  low : Under X 100000
theorem doneF_reach {n : Nat} {gs : List Int} (h : gErr n gs = 0) {l : List Ac} (hl : l.length ≤ 80) : Reach (doneF (beginX n gs) l) ∧ Like (beginX n gs) (doneF (beginX n gs) l) := by
  have hR := begin_right h
  obtain ⟨k, hk, s⟩ := doneF_steps hR l
  have hi := begin_inv h
  obtain ⟨T, hT⟩ := s.gh begin_gh
  refine ⟨⟨s.inv hi, ⟨_, hT⟩, fun j hj => ?_⟩, s.like hR⟩
  have := s.under hi begin_under j hj
  omega
theorem Reach.steps {X Y : Wd} {k : Nat} (r : Reach X) (s : Steps X k Y) : Inv Y ∧ ∃ S, Gh Y S := by
  obtain ⟨S, hS⟩ := r.gh
  obtain ⟨T, hT⟩ := s.gh hS
  exact ⟨s.inv r.inv, _, hT⟩

theorem ordM_same {a b : M} (h : ordM a b = 0) : a.stamp = b.stamp ∧ a.src = b.src := by
  unfold ordM orI cmpI at h
  by_cases h1 : a.stamp < b.stamp
  · simp [h1] at h
  by_cases h2 : b.stamp < a.stamp
  · simp [h1, h2] at h
  by_cases h3 : a.src < b.src
  · simp [h1, h2, h3] at h
  by_cases h4 : b.src < a.src
  · simp [h1, h2, h3, h4] at h
  omega
theorem foundM_not {ms : List M} {m : M} (h : ∀ x ∈ ms, x.stamp = m.stamp → x.src = m.src → False) : foundM ms m = false := by
  cases hf : foundM ms m
  · rfl
  · unfold foundM at hf
    simp only [Bool.and_eq_true, decide_eq_true_eq, beq_iff_eq] at hf
    obtain ⟨h1, h2⟩ := ordM_same hf.2
    exact (h _ (getD_mem ms M.zero hf.1) h1 h2).elim
theorem putE_02 {ms : List M} {m : M} (hr : risesB ms = true) (h : ∀ x ∈ ms, x.stamp = m.stamp → x.src = m.src → False) : putE ms m = 0 ∨ putE ms m = 2 := by
  unfold putE
  rw [if_pos hr]
  split
  · exact Or.inr rfl
  · rw [if_neg (by rw [foundM_not h]; simp)]
    exact Or.inl rfl
theorem tellE_02 {W : Wd} {n : Nat} {B : Int} (hn : n < W.nodes.length) (hR : Right W) (ht : ∀ x ∈ (nd W n).told, x.stamp ≤ B) (hh : ∀ x ∈ (nd W n).held, B < x.stamp) : tellE W n = 0 ∨ tellE W n = 2 := by
  have hr : risesB (tellL W n) = true := by
    rw [risesB_pair]
    unfold tellL
    rw [List.pairwise_append]
    have hN := hR.node n hn
    refine ⟨risesB_pair.1 hN.told.rise, (risesB_pair.1 hN.held.rise).sublist List.filter_sublist, fun x hx y hy => ?_⟩
    have h1 := ht x hx
    have h2 := hh y (List.mem_filter.1 hy).1
    rw [lessM_iff]
    exact Or.inl (by omega)
  unfold tellE
  split
  · exact Or.inr rfl
  · exact Or.inl rfl
/-- Holding, and being told: the one error is that there is no room. -/
theorem castEnd_02 {Z : Wd} {n : Nat} {m : M} {B : Int} (h : Right Z) (hn : n < Z.nodes.length) (hm : msgE Z.nodes.length Z.groups m = 0 ∧ hasB Z.groups m.grp n = true) (ht : ∀ x ∈ (nd Z n).told, x.stamp ≤ B) (hh : ∀ x ∈ (nd Z n).held, B < x.stamp) (hmB : B < m.stamp)
    (hk : ∀ x ∈ (nd Z n).held, x.stamp = m.stamp → x.src = m.src → False) : (castEnd Z n m).1 = 0 ∨ (castEnd Z n m).1 = 2 := by
  cases hnull : m.null
  · rw [castEnd_hold hnull]
    have hp := putE_02 (m := m) (h.node n hn).held.rise hk
    split
    · rename_i h6
      exact hp.imp (fun e => absurd e h6) id
    rename_i h6
    have h6 : putE (Z.nodes.getD n N.zero).held m = 0 := by simpa using h6
    have hN := h.node n hn
    have hHl : (holdW Z n m).nodes.length = Z.nodes.length := by rw [holdW_set, nodeSet_len]
    have hH : Right (holdW Z n m) := by
      rw [holdW_set]
      exact h.setNode hn ⟨hN.clock, hN.len, hN.rows, hN.cells, putL_right hN.held h6 ⟨hnull, hm.1, hm.2⟩, hN.told⟩
    have hA : nd (holdW Z n m) n = { nd Z n with held := putM (nd Z n).held m } := by
      have := (holdW_at (X := Z) (m := m) hn).2
      rw [(putE_zero h6).2.2.2] at this
      exact this
    have := tellE_02 (W := holdW Z n m) (n := n) (B := B) (by rw [hHl]; exact hn) hH (by rw [hA]; exact ht) (by
      rw [hA]
      intro x hx
      rcases mem_putM.1 hx with rfl | hx
      · exact hmB
      · exact hh x hx)
    split
    · rename_i h7
      exact this.imp (fun e => absurd e h7) id
    · exact Or.inl rfl
  · rw [castEnd_null hnull]
    have := tellE_02 hn h ht hh
    split
    · rename_i h7
      exact this.imp (fun e => absurd e h7) id
    · exact Or.inl rfl
theorem bound_group {X : Wd} {a b : Nat} {m : M} (ha : a < X.nodes.length) (hab : a ≠ b) (hs : m.src = (a : Int)) (hm : msgE X.nodes.length X.groups m = 0) (hb : hasB X.groups m.grp b = true) : ∃ g, g < X.groups.length ∧ m.grp = (g : Int) ∧ boundX X b ≤ heard X b g a := by
  obtain ⟨⟨_, _, h1, h2, _⟩, h3⟩ := rightE_in hm
  obtain ⟨g, hg, hgm, _⟩ := msgE_grp hm
  rw [hs] at h3
  rw [hgm] at hb h3
  exact ⟨g, hg, hgm, boundX_heard hg ha hab hb h3⟩
theorem moveR_02 {X : Wd} (i : Inv X) {a b : Nat} (ha : a < X.nodes.length) (hb : b < X.nodes.length) (hw : wireL X a b ≠ []) : (moveR X a b).1 = 0 ∨ (moveR X a b).1 = 2 := by
  cases hl : wireL X a b with
  | nil => exact absurd hl hw
  | cons m l =>
    have hR := i.right
    have hW := hR.wire a b ha hb
    have hmem : m ∈ wireL X a b := by rw [hl]; exact List.mem_cons_self ..
    have hab : a ≠ b := hW.self.resolve_right (by rw [hl]; simp)
    have hf := hW.fine m hmem
    have hsrc := hW.src m hmem
    have hr : moveR X a b = castEnd (comeW X a b m l) b m := by
      unfold moveR
      rw [hl, if_neg (by simp)]
      rfl
    rw [hr]
    have hZ := comeW_right hR ha hb hl
    have hZl : (comeW X a b m l).nodes.length = X.nodes.length := by simp [comeW]
    have hZg : (comeW X a b m l).groups = X.groups := rfl
    have hZn : nd (comeW X a b m l) b = { nd X b with clock := max (nd X b).clock m.stamp, last := (nd X b).last.set m.grp.toNat (((nd X b).last.getD m.grp.toNat []).set a (max (((nd X b).last.getD m.grp.toNat []).getD a 0) m.stamp)) } := getD_set_eq _ _ _ hb
    obtain ⟨g, hg, hgm, hbd⟩ := bound_group ha hab hsrc hf.1 hf.2
    have hwh := i.wh a b m g ha hb hg hmem
    refine castEnd_02 (B := boundX X b) hZ (by rw [hZl]; exact hb) (by rw [hZl, hZg]; exact hf) (by rw [hZn]; exact fun x hx => i.tb b x hb hx) (by rw [hZn]; exact fun x hx => i.hb b x hb hx) (by omega) ?_
    rw [hZn]
    intro x hx e1 e2
    obtain ⟨q, hq, hqm, _⟩ := msgE_grp (hR.msg hb (Or.inl hx)).2.1
    have h1 := i.lo b x a hb ha (Or.inl hx) (by rw [e2, hsrc]) hab
    have h2 := i.wh a b m q ha hb hq hmem
    rw [hqm, Int.toNat_natCast] at h1
    omega
end Go.Proofs.Ytnalakhelicjcaa
