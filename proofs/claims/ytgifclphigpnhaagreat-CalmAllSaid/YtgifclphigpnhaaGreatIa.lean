/-
  What was told, in plain words: one order of all.
-/
import Derived.Test.YtgifclphigpnhaaGreatIu
import Derived.Test.YtgifclphigpnhaaGreatKAg
set_option maxRecDepth 100000
namespace Go.Proofs.YtgifclphigpnhaaGreat
open Go.RowKit

theorem lessM_irr (a : M) : ¬ lessM a a = true := by
  rw [lessM_iff]
  omega
theorem rises_sub : ∀ {l t : List M}, risesB t = true → risesB l = true → (∀ x ∈ t, x ∈ l) → List.Sublist t l
  | [], t, _, _, h => by
    cases t with
    | nil => exact List.Sublist.refl _
    | cons x t => exact absurd (h x (by simp)) (by simp)
  | a :: l, t, ht, hl, h => by
    cases t with
    | nil => exact List.nil_sublist _
    | cons x t =>
      have h1 := List.pairwise_cons.1 (risesB_pair.1 ht)
      have h2 := List.pairwise_cons.1 (risesB_pair.1 hl)
      rcases List.mem_cons.1 (h x (by simp)) with rfl | hx
      · refine List.Sublist.cons_cons _ (rises_sub (risesB_pair.2 h1.2) (risesB_pair.2 h2.2) fun y hy => ?_)
        rcases List.mem_cons.1 (h y (List.mem_cons_of_mem _ hy)) with rfl | h3
        · exact absurd (h1.1 y hy) (lessM_irr y)
        · exact h3
      · refine List.Sublist.cons _ (rises_sub ht (risesB_pair.2 h2.2) fun y hy => ?_)
        rcases List.mem_cons.1 (h y hy) with rfl | h3
        · exfalso
          have h4 := h2.1 x hx
          rcases List.mem_cons.1 hy with rfl | hy
          · exact lessM_irr _ h4
          · exact lessM_irr _ (lessM_trans h4 (h1.1 y hy))
        · exact h3
theorem rises_ext {l t : List M} (ht : risesB t = true) (hl : risesB l = true) (h : ∀ x, x ∈ t ↔ x ∈ l) : t = l :=
  (rises_sub ht hl fun x => (h x).1).eq_of_length_le (rises_sub hl ht fun x => (h x).2).length_le
theorem mem_commonL {x y : N} {m : M} : m ∈ commonL x y ↔ m ∈ x.told ∧ m ∈ y.told := by
  unfold commonL
  rw [List.mem_filter, List.any_eq_true]
  constructor
  · rintro ⟨h1, z, hz, he⟩
    rw [eqM_iff.1 he] at h1 ⊢
    exact ⟨h1, hz⟩
  · rintro ⟨h1, h2⟩
    exact ⟨h1, m, h2, eqM_iff.2 rfl⟩
theorem commonL_rises {x y : N} (h : risesB x.told = true) : risesB (commonL x y) = true := risesB_pair.2 ((risesB_pair.1 h).filter _)
theorem commonL_comm {x y : N} (hx : risesB x.told = true) (hy : risesB y.told = true) : commonL x y = commonL y x :=
  rises_ext (commonL_rises hx) (commonL_rises hy) fun m => by rw [mem_commonL, mem_commonL]; exact And.comm

theorem allO_total {ms : List M} : (∀ x ∈ ms, ∀ y ∈ ms, x.src = y.src → x.stamp = y.stamp → x = y) → ∃ l, allO ms = some l ∧ ∀ m, m ∈ ms → m ∈ l := by
  refine rev_ind (P := fun ms => (∀ x ∈ ms, ∀ y ∈ ms, x.src = y.src → x.stamp = y.stamp → x = y) → ∃ l, allO ms = some l ∧ ∀ m, m ∈ ms → m ∈ l) ?_ ?_ ms
  · exact fun _ => ⟨[], rfl, fun _ h => h⟩
  · intro ms m ih hk
    obtain ⟨l, hl, hm⟩ := ih fun x hx y hy => hk x (List.mem_append_left _ hx) y (List.mem_append_left _ hy)
    obtain ⟨h1, h2, h3⟩ := allO_ok hl
    rw [allO_snoc, hl]
    simp only [allS]
    by_cases hf : foundM l m = true
    · rw [if_pos hf]
      simp only [foundM, Bool.and_eq_true, decide_eq_true_eq, beq_iff_eq] at hf
      have hd : l.getD (posM l m) M.zero ∈ l := by rw [getD_lt l M.zero hf.1]; exact List.getElem_mem _
      obtain ⟨e1, e2⟩ := ordM_same hf.2
      have e := hk _ (List.mem_append_left _ (h3 _ hd)) m (by simp) e2 e1
      rw [if_pos (eqM_iff.2 e)]
      refine ⟨l, rfl, fun x hx => ?_⟩
      rcases List.mem_append.1 hx with hx | hx
      · exact hm x hx
      · rw [List.mem_singleton.1 hx, ← e]; exact hd
    · rw [if_neg hf]
      refine ⟨_, rfl, fun x hx => mem_putM.2 ?_⟩
      rcases List.mem_append.1 hx with hx | hx
      · exact Or.inr (hm x hx)
      · exact Or.inl (List.mem_singleton.1 hx)
theorem mem_toldL {X : Wd} {m : M} : m ∈ toldL X ↔ ∃ n, n < X.nodes.length ∧ m ∈ (nd X n).told := by
  unfold toldL nd
  rw [List.mem_flatMap]
  constructor
  · rintro ⟨x, hx, hm⟩
    obtain ⟨i, hi, rfl⟩ := List.mem_iff_getElem.1 hx
    exact ⟨i, hi, by rw [getD_lt X.nodes N.zero hi]; exact hm⟩
  · rintro ⟨n, hn, hm⟩
    rw [getD_lt X.nodes N.zero hn] at hm
    exact ⟨_, List.getElem_mem _, hm⟩
/-- All that was told in a world that acts make. -/
theorem all_of {X : Wd} (i : Inv X) {S : List M} (g : Gh X S) : ∃ l, allF X = (0, l) ∧ risesB l = true ∧ ∀ m, m ∈ l ↔ ∃ n, n < X.nodes.length ∧ m ∈ (nd X n).told := by
  obtain ⟨l, hl, hm⟩ := allO_total (ms := toldL X) fun x hx y hy => by
    obtain ⟨a, ha, hx⟩ := mem_toldL.1 hx
    obtain ⟨b, hb, hy⟩ := mem_toldL.1 hy
    exact g.key x (g.onl a x ha (Or.inr hx)) y (g.onl b y hb (Or.inr hy))
  obtain ⟨h1, _, h3⟩ := allO_ok hl
  refine ⟨l, ?_, h1, fun m => ⟨fun h => mem_toldL.1 (h3 m h), fun h => hm m (mem_toldL.2 h)⟩⟩
  unfold allF
  rw [if_pos i.right.err, hl]
theorem Reach.all {X : Wd} (r : Reach X) : ∃ l, allF X = (0, l) ∧ risesB l = true ∧ ∀ m, m ∈ l ↔ ∃ n, n < X.nodes.length ∧ m ∈ (nd X n).told := by
  obtain ⟨S, g⟩ := r.gh
  exact all_of r.inv g
theorem Inv.told_rises {X : Wd} (i : Inv X) {n : Nat} (hn : n < X.nodes.length) : risesB (nd X n).told = true := (i.right.node n hn).told.rise
theorem told_sub {X : Wd} (i : Inv X) {n : Nat} (hn : n < X.nodes.length) {l : List M} (h1 : risesB l = true) (h : ∀ m, m ∈ l ↔ ∃ n, n < X.nodes.length ∧ m ∈ (nd X n).told) : List.Sublist (nd X n).told l :=
  rises_sub (i.told_rises hn) h1 fun m hm => (h m).2 ⟨n, hn, hm⟩
/-- One step of the search for a list in another. -/
theorem sub_step {a t : List M} {k j : Nat} (hk : k < a.length) (hj : j < t.length) (h : List.Sublist (t.drop j) (a.drop k)) :
    if eqM (a.getD k M.zero) (t.getD j M.zero) = true then List.Sublist (t.drop (j + 1)) (a.drop (k + 1)) else List.Sublist (t.drop j) (a.drop (k + 1)) := by
  rw [List.drop_eq_getElem_cons hk, List.drop_eq_getElem_cons hj] at h
  rw [getD_lt a M.zero hk, getD_lt t M.zero hj]
  by_cases e : eqM a[k] t[j] = true
  · rw [if_pos e]
    exact (List.cons_sublist_cons (a := t[j])).1 (by rw [eqM_iff.1 e] at h; exact h)
  · rw [if_neg e]
    rcases List.sublist_cons_iff.1 h with h | ⟨r, e2, h⟩
    · rw [List.drop_eq_getElem_cons hj]; exact h
    · exact absurd (eqM_iff.2 (List.cons.inj e2).1.symm) e
theorem sub_end {a t : List M} {k j : Nat} (hk : a.length ≤ k) (h : List.Sublist (t.drop j) (a.drop k)) : t.length ≤ j := by
  have := h.length_le
  rw [List.length_drop, List.length_drop] at this
  omega
/-- How often a message stands in a list that rises. -/
theorem count_rises {l : List M} (h : risesB l = true) (m : M) : (l.filter fun x => eqM x m).length = if l.any (eqM m) = true then 1 else 0 := by
  induction l with
  | nil => rfl
  | cons a l ih =>
    obtain ⟨h1, h2⟩ := List.pairwise_cons.1 (risesB_pair.1 h)
    have ih := ih (risesB_pair.2 h2)
    rw [List.any_cons, List.filter_cons]
    by_cases e : eqM a m = true
    · have e' := eqM_iff.1 e
      rw [if_pos e, List.length_cons]
      have h3 : (l.filter fun x => eqM x m) = [] := List.filter_eq_nil_iff.2 fun x hx he => by
        rw [eqM_iff.1 he, ← e'] at hx
        exact lessM_irr _ (h1 a hx)
      rw [h3, show eqM m a = true from eqM_iff.2 e'.symm]
      rfl
    · rw [if_neg e, ih, show eqM m a = false from by
        rw [Bool.eq_false_iff]
        intro h
        exact e (eqM_iff.2 (eqM_iff.1 h).symm)]
      simp
end Go.Proofs.YtgifclphigpnhaaGreat
