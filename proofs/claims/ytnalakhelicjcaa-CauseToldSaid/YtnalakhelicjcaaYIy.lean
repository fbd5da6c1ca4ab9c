/-
  Draining, rounds, calm, in steps; in a calm world nobody holds anything, and nothing is on its way.
-/
import Derived.Test.YtnalakhelicjcaaYIx
import Derived.Test.YtnalakhelicjcaaYKCa
set_option maxRecDepth 100000
namespace Go.Proofs.Ytnalakhelicjcaa
open Go.RowKit

/-- Steps whose casts are Nulls. -/
inductive NSteps (X : Wd) : Nat → Wd → Prop
  | refl : NSteps X 0 X
  | move {k : Nat} {Y Z : Wd} {a b : Nat} {m : M} (h : NSteps X k Y) (s : Mv Y a b m Z) : NSteps X k Z
  | cast {k : Nat} {Y Z : Wd} {n : Nat} {m : M} (h : NSteps X k Y) (s : Sn Y n m Z) (h0 : m.null = true) : NSteps X (k + 1) Z
theorem NSteps.steps {X Y : Wd} {k : Nat} (h : NSteps X k Y) : Steps X k Y := by
  induction h with
  | refl => exact .refl
  | move _ s ih => exact .move ih s
  | cast _ s _ ih => exact .cast ih s
theorem NSteps.trans {X Y Z : Wd} {j k : Nat} (h : NSteps X j Y) (h2 : NSteps Y k Z) : NSteps X (j + k) Z := by
  induction h2 with
  | refl => exact h
  | move _ s ih => exact .move ih s
  | cast _ s h0 ih => exact .cast ih s h0
/-- What is on its way is Nulls. -/
def Hush (X : Wd) : Prop := ∀ a b m, a < X.nodes.length → b < X.nodes.length → m ∈ wireL X a b → m.null = true
/-- Nothing is on its way. -/
def Empty (X : Wd) : Prop := ∀ a b, a < X.nodes.length → b < X.nodes.length → wireL X a b = []
theorem Empty.hush {X : Wd} (h : Empty X) : Hush X := fun a b m ha hb hm => by rw [h a b ha hb] at hm; cases hm
theorem NSteps.hush {X Y : Wd} {k : Nat} (h : NSteps X k Y) (hq : Hush X) : Hush Y ∧ ∀ n x, x ∈ (nd Y n).held → x ∈ (nd X n).held := by
  induction h with
  | refl => exact ⟨hq, fun _ _ h => h⟩
  | @move k Y Z a b m _ s ih =>
    obtain ⟨ih1, ih2⟩ := ih
    obtain ⟨ha, hb, _⟩ := s.at_
    obtain ⟨l, hl, hl'⟩ := s.first
    have hm := ih1 a b m ha hb (by rw [hl]; exact List.mem_cons_self ..)
    refine ⟨fun c d x hc hd hx => ?_, fun n x hx => ?_⟩
    · rw [s.like.len] at hc hd
      by_cases e : c = a ∧ d = b
      · obtain ⟨rfl, rfl⟩ := e
        rw [hl'] at hx
        exact ih1 c d x hc hd (by rw [hl]; exact List.mem_cons_of_mem _ hx)
      · rw [s.wires c d e] at hx
        exact ih1 c d x hc hd hx
    · by_cases e : n = b
      · subst e
        obtain ⟨⟨R, _, h2, _⟩, _⟩ := s.kept
        rw [if_pos hm] at h2
        exact ih2 n x (by rw [← h2]; exact List.mem_append_right _ hx)
      · rw [s.others n e] at hx
        exact ih2 n x hx
  | @cast k Y Z n m _ s h0 ih =>
    obtain ⟨ih1, ih2⟩ := ih
    refine ⟨fun c d x hc hd hx => ?_, fun j x hx => ?_⟩
    · rw [s.like.len] at hc hd
      rw [s.wires c d hc hd] at hx
      split at hx
      · rcases List.mem_append.1 hx with hx | hx
        · exact ih1 c d x hc hd hx
        · rw [List.mem_singleton.1 hx]; exact h0
      · exact ih1 c d x hc hd hx
    · by_cases e : j = n
      · subst e
        obtain ⟨⟨R, _, h2, _⟩, _⟩ := s.kept
        rw [if_pos h0] at h2
        exact ih2 j x (by rw [← h2]; exact List.mem_append_right _ hx)
      · rw [s.others j e] at hx
        exact ih2 j x hx
/-- No cast: what is empty stays so. -/
theorem NSteps.empty {X Y : Wd} {k : Nat} (h : NSteps X k Y) (h0 : k = 0) {c d : Nat} (he : wireL X c d = []) : wireL Y c d = [] := by
  induction h with
  | refl => exact he
  | @move k Y Z a b m _ s ih =>
    have := ih h0
    by_cases e : c = a ∧ d = b
    · obtain ⟨rfl, rfl⟩ := e
      obtain ⟨l, hl, _⟩ := s.first
      rw [hl] at this
      cases this
    · rw [s.wires c d e]; exact this
  | cast => cases h0

theorem wireN_steps {a b : Nat} : ∀ (f : Nat) {X : Wd} (c : Int), Right X → a < X.nodes.length → b < X.nodes.length → (wireL X a b).length = f → (wireN a b f X c).1 = 0 → NSteps X 0 (wireN a b f X c).2.2
  | 0, X, c, _, _, _, _, _ => .refl
  | f + 1, X, c, hR, ha, hb, hl, h => by
    unfold wireN at h ⊢
    rw [if_neg (by omega)] at h ⊢
    split at h
    rotate_left
    · rename_i h1
      exact absurd h h1
    rename_i h1
    rw [if_pos h1]
    obtain ⟨m, hM⟩ := moveR_mv hR ha hb h1
    have hw := moveR_wire hR ha hb h1
    have h2 := wireN_steps f (c + 1) hM.like.right (by rw [hM.like.len]; exact ha) (by rw [hM.like.len]; exact hb) (by rw [hw, List.length_drop, hl]; rfl) h
    have := (NSteps.move .refl hM).trans h2
    simpa using this
theorem wireR_steps {X : Wd} {a b : Nat} (hR : Right X) (ha : a < X.nodes.length) (hb : b < X.nodes.length) (h : (wireR X a b).1 = 0) : NSteps X 0 (wireR X a b).2.2 ∧ wireL (wireR X a b).2.2 a b = [] :=
  ⟨wireN_steps _ 0 hR ha hb rfl h, (wireR_like hR ha hb h).2.2.2⟩
theorem drB_steps {X : Wd} (hR : Right X) {a : Nat} (ha : a < X.nodes.length) (h0 : (drA X a).1 = 0 → NSteps X 0 (drA X a).2.2 ∧ ∀ c d, c < a → d < X.nodes.length → wireL (drA X a).2.2 c d = []) :
    ∀ b, b ≤ X.nodes.length → (drB X a b).1 = 0 → NSteps X 0 (drB X a b).2.2 ∧ ∀ c d, ((c < a ∧ d < X.nodes.length) ∨ (c = a ∧ d < b)) → wireL (drB X a b).2.2 c d = []
  | 0, _, h => by
    rw [drB_zero] at h ⊢
    obtain ⟨h1, h2⟩ := h0 h
    exact ⟨h1, fun c d h => h.elim (fun h => h2 c d h.1 h.2) (fun h => absurd h.2 (Nat.not_lt_zero _))⟩
  | b + 1, hb, h => by
    have hL : (drB X a b).1 = 0 := by
      rw [drB_succ] at h
      rcases Classical.em ((drB X a b).1 = 0) with e | e
      · exact e
      · rw [drainS_stop e] at h; exact h
    obtain ⟨k1, k2⟩ := drB_steps hR ha h0 b (by omega) hL
    rw [drB_succ] at h ⊢
    obtain ⟨n, Y, hnY⟩ : ∃ n Y, drB X a b = (0, n, Y) := ⟨_, _, Prod.ext hL rfl⟩
    rw [hnY] at h k1 k2 ⊢
    have hLY := k1.steps.like hR
    have h2 : (wireR Y a b).1 = 0 := by
      rcases Classical.em ((wireR Y a b).1 = 0) with e | e
      · exact e
      · rw [drainS_bad e] at h; exact absurd h e
    obtain ⟨s1, s2⟩ := wireR_steps hLY.right (by rw [hLY.len]; exact ha) (by rw [hLY.len]; omega) h2
    obtain ⟨e, _⟩ := drainS_like (n := n) hLY ha (by omega) h2
    rw [e]
    refine ⟨by simpa using k1.trans s1, fun c d hcd => ?_⟩
    show wireL (wireR Y a b).2.2 c d = []
    by_cases e2 : c = a ∧ d = b
    · rw [e2.1, e2.2]; exact s2
    · exact s1.empty rfl (k2 c d (by omega))
theorem drA_steps {X : Wd} (hR : Right X) : ∀ a, a ≤ X.nodes.length → (drA X a).1 = 0 → NSteps X 0 (drA X a).2.2 ∧ ∀ c d, c < a → d < X.nodes.length → wireL (drA X a).2.2 c d = []
  | 0, _, _ => ⟨.refl, fun _ _ h => absurd h (Nat.not_lt_zero _)⟩
  | a + 1, ha, h => by
    rw [drA_succ] at h ⊢
    obtain ⟨h1, h2⟩ := drB_steps hR (by omega) (drA_steps hR a (by omega)) X.nodes.length (Nat.le_refl _) h
    exact ⟨h1, fun c d hc hd => h2 c d (by omega)⟩
theorem drainR_steps {X : Wd} (hR : Right X) (h : (drainR X).1 = 0) : NSteps X 0 (drainR X).2.2 ∧ Empty (drainR X).2.2 := by
  rw [drain_eq] at h ⊢
  obtain ⟨h1, h2⟩ := drA_steps hR X.nodes.length (Nat.le_refl _) h
  have hl := (h1.steps.like hR).len
  exact ⟨h1, fun a b ha hb => h2 a b (by rw [← hl]; exact ha) (by rw [← hl]; exact hb)⟩

/-- A fold of casts. -/
theorem fold_steps {α : Type} (f : Int × Wd → α → Int × Wd) (hf : ∀ s a, (f s a).1 = 0 → s.1 = 0 ∧ (Right s.2 → ∃ k, k ≤ 1 ∧ NSteps s.2 k (f s a).2)) :
    ∀ (l : List α) (s : Int × Wd), (l.foldl f s).1 = 0 → s.1 = 0 ∧ (Right s.2 → ∃ k, k ≤ l.length ∧ NSteps s.2 k (l.foldl f s).2)
  | [], s, h => ⟨h, fun _ => ⟨0, Nat.le_refl _, .refl⟩⟩
  | a :: l, s, h => by
    rw [List.foldl_cons] at h ⊢
    obtain ⟨h1, h2⟩ := fold_steps f hf l _ h
    obtain ⟨h3, h4⟩ := hf s a h1
    refine ⟨h3, fun hR => ?_⟩
    obtain ⟨j, hj, hs⟩ := h4 hR
    obtain ⟨k, hk, ht⟩ := h2 (hs.steps.like hR).right
    exact ⟨j + k, by rw [List.length_cons]; omega, hs.trans ht⟩
theorem fold_steps2 {α : Type} (n : Nat) (f : Int × Wd → α → Int × Wd) (hf : ∀ s a, (f s a).1 = 0 → s.1 = 0 ∧ (Right s.2 → ∃ k, k ≤ n ∧ NSteps s.2 k (f s a).2)) :
    ∀ (l : List α) (s : Int × Wd), (l.foldl f s).1 = 0 → s.1 = 0 ∧ (Right s.2 → ∃ k, k ≤ l.length * n ∧ NSteps s.2 k (l.foldl f s).2)
  | [], s, h => ⟨h, fun _ => ⟨0, by simp, .refl⟩⟩
  | a :: l, s, h => by
    rw [List.foldl_cons] at h ⊢
    obtain ⟨h1, h2⟩ := fold_steps2 n f hf l _ h
    obtain ⟨h3, h4⟩ := hf s a h1
    refine ⟨h3, fun hR => ?_⟩
    obtain ⟨j, hj, hs⟩ := h4 hR
    obtain ⟨k, hk, ht⟩ := h2 (hs.steps.like hR).right
    exact ⟨j + k, by rw [List.length_cons, Nat.add_mul]; omega, hs.trans ht⟩
theorem roundS_steps (n : Nat) (s : Int × Wd) (g : Nat) (h : (roundS n g s).1 = 0) : s.1 = 0 ∧ (Right s.2 → ∃ k, k ≤ 1 ∧ NSteps s.2 k (roundS n g s).2) := by
  have h1 : s.1 = 0 := by
    rcases Classical.em (s.1 = 0) with e | e
    · exact e
    · rw [roundS_stop e] at h; exact h
  refine ⟨h1, fun hR => ?_⟩
  unfold roundS at h ⊢
  rw [if_pos h1] at h ⊢
  split at h
  · rename_i h2
    rw [if_pos h2]
    obtain ⟨k, hk, hS⟩ := castR_sn hR (fun _ => rfl) h
    obtain rfl : n = k := by omega
    exact ⟨1, Nat.le_refl _, .cast .refl hS rfl⟩
  · rename_i h2
    rw [if_neg h2]
    exact ⟨0, by omega, .refl⟩
theorem rounds_steps (G n : Nat) (s : Int × Wd) (h : ((List.range G).foldl (fun r g => roundS n g r) s).1 = 0) : s.1 = 0 ∧ (Right s.2 → ∃ k, k ≤ G ∧ NSteps s.2 k ((List.range G).foldl (fun r g => roundS n g r) s).2) := by
  have := fold_steps (fun r g => roundS n g r) (fun s g => roundS_steps n s g) (List.range G) s h
  rwa [List.length_range] at this
theorem roundC_steps {X : Wd} (hR : Right X) (h : (roundC X).1 = 0) : ∃ k, k ≤ X.nodes.length * X.groups.length ∧ NSteps X k (roundC X).2 := by
  have := (fold_steps2 X.groups.length (fun r n => (List.range X.groups.length).foldl (fun r g => roundS n g r) r) (fun s n => rounds_steps X.groups.length n s) (List.range X.nodes.length) (0, X) h).2 hR
  rwa [List.length_range] at this
theorem roundR_split {X : Wd} (h : (roundR X).1 = 0) : (roundC X).1 = 0 ∧ roundR X = drainR (roundC X).2 := by
  unfold roundR at h ⊢
  split at h
  · rename_i h1
    exact ⟨h1, if_pos h1⟩
  · rename_i h1
    exact absurd h h1
theorem roundR_steps {X : Wd} (hR : Right X) (h : (roundR X).1 = 0) : (∃ k, k ≤ X.nodes.length * X.groups.length ∧ NSteps X k (roundR X).2.2) ∧ Empty (roundR X).2.2 := by
  obtain ⟨h1, h2⟩ := roundR_split h
  rw [h2] at h ⊢
  obtain ⟨k, hk, hs⟩ := roundC_steps hR h1
  obtain ⟨d1, d2⟩ := drainR_steps (hs.steps.like hR).right h
  exact ⟨⟨k, hk, by simpa using hs.trans d1⟩, d2⟩

/-- Node n has heard of node k, in group g, v at least, or will. -/
def Will (Z : Wd) (k g n : Nat) (v : Int) : Prop := (v ≤ heard Z n g k ∧ v ≤ (nd Z n).clock) ∨ ∃ m ∈ wireL Z k n, m.grp = (g : Int) ∧ v ≤ m.stamp
theorem NSteps.will {X Y : Wd} {j k g n : Nat} {v : Int} (h : NSteps X j Y) (hR : Right X) (hk : k < X.nodes.length) (hn : n < X.nodes.length) (hg : g < X.groups.length) (hw : Will X k g n v) : Will Y k g n v := by
  induction h with
  | refl => exact hw
  | @move j Y Z a b m h s ih =>
    have hL := h.steps.like hR
    rcases ih with ⟨h1, h2⟩ | ⟨x, hx, hxg, hxv⟩
    · exact Or.inl ⟨Int.le_trans h1 (s.hears n (by rw [hL.groups]; exact hg) (by rw [hL.len]; exact hk)), Int.le_trans h2 (s.clocks n)⟩
    · by_cases e : k = a ∧ n = b
      · obtain ⟨rfl, rfl⟩ := e
        obtain ⟨l, hl, hl'⟩ := s.first
        rw [hl] at hx
        rcases List.mem_cons.1 hx with rfl | hx
        · left
          rw [s.hrd g k (by rw [hL.groups]; exact hg) (by rw [hL.len]; exact hk), if_pos ⟨hxg.symm, rfl⟩, s.clock]
          omega
        · exact Or.inr ⟨x, by rw [hl']; exact hx, hxg, hxv⟩
      · exact Or.inr ⟨x, by rw [s.wires k n e]; exact hx, hxg, hxv⟩
  | @cast j Y Z c m h s _ ih =>
    have hL := h.steps.like hR
    rcases ih with ⟨h1, h2⟩ | ⟨x, hx, hxg, hxv⟩
    · exact Or.inl ⟨by rw [s.hears]; exact h1, Int.le_trans h2 (s.clocks n)⟩
    · refine Or.inr ⟨x, ?_, hxg, hxv⟩
      rw [s.wires k n (by rw [hL.len]; exact hk) (by rw [hL.len]; exact hn)]
      split
      · exact List.mem_append_left _ hx
      · exact hx
theorem range_split {n m : Nat} (h : n ≤ m) : ∃ d, List.range m = List.range n ++ (List.range d).map (n + ·) := by
  obtain ⟨d, rfl⟩ := Nat.exists_eq_add_of_le h
  exact ⟨d, List.range_add⟩
/-- In a round each member of a group tells the others how far it was. -/
theorem round_will {X : Wd} (hR : Right X) (h : (roundR X).1 = 0) {k g n : Nat} (hk : k < X.nodes.length) (hn : n < X.nodes.length) (hg : g < X.groups.length) (hkn : k ≠ n) (h1 : hasB X.groups g k = true) (h2 : hasB X.groups g n = true) :
    (nd X k).clock + 1 ≤ heard (roundR X).2.2 n g k ∧ (nd X k).clock + 1 ≤ (nd (roundR X).2.2 n).clock := by
  obtain ⟨hc, hr⟩ := roundR_split h
  obtain ⟨d, hd⟩ := range_split (show k + 1 ≤ X.nodes.length from hk)
  obtain ⟨e, he⟩ := range_split (show g + 1 ≤ X.groups.length from hg)
  have hA : roundC X = ((List.range d).map (k + 1 + ·)).foldl (fun r n => (List.range X.groups.length).foldl (fun r g => roundS n g r) r) (rdA X (k + 1)) := by
    rw [round_eq, rdA, hd, List.foldl_append]
    rfl
  have hB : rdA X (k + 1) = ((List.range e).map (g + 1 + ·)).foldl (fun r g => roundS k g r) (rdB X k (g + 1)) := by
    rw [rdA_succ, rdB, he, List.foldl_append]
    rfl
  rw [hA] at hc
  obtain ⟨c1, c2⟩ := fold_steps2 X.groups.length (fun r n => (List.range X.groups.length).foldl (fun r g => roundS n g r) r) (fun s n => rounds_steps X.groups.length n s) _ _ hc
  rw [← hA] at c2
  have c1' := c1
  rw [hB] at c1'
  obtain ⟨b1, b2⟩ := fold_steps (fun r g => roundS k g r) (fun s g => roundS_steps k s g) _ _ c1'
  rw [← hB] at b2
  have hLB := rdB_like (rdA_like hR k) (g + 1) b1
  rw [rdB_succ] at b1
  obtain ⟨a1, a2⟩ := roundS_steps k _ g b1
  have hL0 := rdB_like (rdA_like hR k) g a1
  obtain ⟨Z, hZ⟩ : ∃ Z, rdB X k g = (0, Z) := ⟨_, Prod.ext a1 rfl⟩
  rw [hZ] at hL0 b1
  clear a2
  have hck : (nd X k).clock ≤ (nd Z k).clock := by
    have hA0 : (rdA X k).1 = 0 ∧ (Right (rdA X k).2 → ∃ j, j ≤ g ∧ NSteps (rdA X k).2 j (rdB X k g).2) := rounds_steps g k (rdA X k) a1
    have hX0 := (fold_steps2 X.groups.length (fun r n => (List.range X.groups.length).foldl (fun r g => roundS n g r) r) (fun s n => rounds_steps X.groups.length n s) (List.range k) (0, X) hA0.1).2 hR
    obtain ⟨j1, _, s1⟩ := hX0
    have hRA := (s1.steps.like hR).right
    obtain ⟨j2, _, s2⟩ := hA0.2 hRA
    rw [hZ] at s2
    exact Int.le_trans (s1.steps.clocks k) (s2.steps.clocks k)
  rw [roundS_do, hL0.groups, if_pos h1] at b1
  have hS := castR_sn hL0.right (fun _ => rfl) b1
  obtain ⟨k', hk', hS⟩ := hS
  obtain rfl : k = k' := by omega
  have hbe : rdB X k (g + 1) = castR Z k g true ByteArray.empty := by rw [rdB_succ, hZ, roundS_do, hL0.groups, if_pos h1]
  have hw0 : Will (rdB X k (g + 1)).2 k g n ((nd X k).clock + 1) := by
    right
    rw [hbe, hS.wires k n (by rw [hL0.len]; exact hk) (by rw [hL0.len]; exact hn)]
    refine ⟨⟨k, g, (nd Z k).clock + 1, true, ByteArray.empty⟩, ?_, rfl, ?_⟩
    · rw [if_pos ⟨rfl, Ne.symm hkn, by rw [hL0.groups]; exact h2⟩]
      exact List.mem_append_right _ (List.mem_singleton.2 rfl)
    · show (nd X k).clock + 1 ≤ (nd Z k).clock + 1
      omega
  obtain ⟨j1, _, s1⟩ := b2 hLB.right
  have hLA := s1.steps.like hLB.right
  obtain ⟨j2, _, s2⟩ := c2 hLA.right
  have hLC := s2.steps.like hLA.right
  rw [hr] at h ⊢
  obtain ⟨s3, hE⟩ := drainR_steps hLC.right h
  have hw := (s1.trans (s2.trans s3)).will hLB.right (by rw [hLB.len]; exact hk) (by rw [hLB.len]; exact hn) (by rw [hLB.groups]; exact hg) hw0
  have hLD := s3.steps.like hLC.right
  rcases hw with hw | ⟨m, hm, _⟩
  · exact hw
  · rw [hE k n (by rw [hLD.len, hLC.len, hLA.len, hLB.len]; exact hk) (by rw [hLD.len, hLC.len, hLA.len, hLB.len]; exact hn)] at hm
    cases hm
/-- Two rounds behind a draining: nobody holds anything. -/
theorem two_rounds {X : Wd} (i : Inv X) (hE : Empty X) (h1 : (roundR X).1 = 0) (h2 : (roundR (roundR X).2.2).1 = 0) : ∀ n, n < X.nodes.length → (nd (roundR (roundR X).2.2).2.2 n).held = [] := by
  intro n hn
  obtain ⟨⟨j1, _, s1⟩, e1⟩ := roundR_steps i.right h1
  have hL1 := s1.steps.like i.right
  obtain ⟨⟨j2, _, s2⟩, e2⟩ := roundR_steps hL1.right h2
  have hL2 := s2.steps.like hL1.right
  have q1 := (s1.hush hE.hush).2 n
  have q2 := (s2.hush e1.hush).2 n
  have i2 := s2.steps.inv (s1.steps.inv i)
  have hc1 := s1.steps.clocks n
  have hc2 := s2.steps.clocks n
  rw [List.eq_nil_iff_forall_not_mem]
  intro x hx
  have hx0 := q1 x (q2 x hx)
  have hs := i.lc n x hn (Or.inl hx0)
  have hb := i2.hb n x (by rw [hL2.len, hL1.len]; exact hn) hx
  have hv : (nd X n).clock ≤ boundX (roundR (roundR X).2.2).2.2 n := by
    refine boundX_ge (by omega) (fun g k hg hk hkn m1 m2 => ?_)
    rw [hL2.groups, hL1.groups] at hg m1 m2
    rw [hL2.len, hL1.len] at hk
    have w1 := (round_will i.right h1 hn hk hg (Ne.symm hkn) m1 m2).2
    have w2 := (round_will hL1.right h2 (k := k) (g := g) (n := n) (by rw [hL1.len]; exact hk) (by rw [hL1.len]; exact hn) (by rw [hL1.groups]; exact hg) hkn (by rw [hL1.groups]; exact m2) (by rw [hL1.groups]; exact m1)).1
    omega
  omega
theorem calmN_steps : ∀ (k : Nat) {n : Int} {Y : Wd}, Right Y → (calmN k (0, n, Y)).1 = 0 → ∃ c, c ≤ k * (Y.nodes.length * Y.groups.length) ∧ NSteps Y c (calmN k (0, n, Y)).2.2
  | 0, _, _, _, _ => ⟨0, by simp, .refl⟩
  | k + 1, n, Y, hR, h => by
    rw [calmN_next] at h ⊢
    have h1 : (roundR Y).1 = 0 := by
      rcases Classical.em ((roundR Y).1 = 0) with e | e
      · exact e
      · rw [calmN_bad e] at h; exact h
    obtain ⟨p, Z, hZ⟩ : ∃ p Z, roundR Y = (0, p, Z) := ⟨_, _, Prod.ext h1 rfl⟩
    obtain ⟨⟨j, hj, s⟩, _⟩ := roundR_steps hR h1
    rw [hZ] at h s ⊢
    have hL := s.steps.like hR
    obtain ⟨c, hc, t⟩ := calmN_steps k (n := p) hL.right h
    rw [hL.len, hL.groups] at hc
    exact ⟨j + c, by rw [Nat.add_mul]; omega, s.trans t⟩
theorem calmR_steps {X : Wd} (hR : Right X) (h : (calmR X).1 = 0) : ∃ c, c ≤ 4 * (X.nodes.length * X.groups.length) ∧ NSteps X c (calmR X).2 := by
  unfold calmR at h ⊢
  split at h
  rotate_left
  · rename_i h1
    exact absurd h h1
  rename_i h1
  rw [if_pos h1]
  have h0 : (drainR X).1 = 0 := by
    rcases Classical.em ((drainR X).1 = 0) with e | e
    · exact e
    · rw [calmN_bad e] at h1; exact h1
  obtain ⟨s0, _⟩ := drainR_steps hR h0
  obtain ⟨p, Y, hY⟩ : ∃ p Y, drainR X = (0, p, Y) := ⟨_, _, Prod.ext h0 rfl⟩
  rw [hY] at h1 s0 ⊢
  have hL0 := s0.steps.like hR
  obtain ⟨c, hc, t⟩ := calmN_steps 4 (n := p) hL0.right h1
  rw [hL0.len, hL0.groups] at hc
  exact ⟨0 + c, by omega, s0.trans t⟩
/-- Rounds keep what is empty. -/
theorem calmN_held : ∀ (k : Nat) {n : Int} {Y : Wd}, Right Y → Empty Y → (∀ j, j < Y.nodes.length → (nd Y j).held = []) → (calmN k (0, n, Y)).1 = 0 →
    (∃ c, c ≤ k * (Y.nodes.length * Y.groups.length) ∧ NSteps Y c (calmN k (0, n, Y)).2.2) ∧ Empty (calmN k (0, n, Y)).2.2 ∧ ∀ j, j < Y.nodes.length → (nd (calmN k (0, n, Y)).2.2 j).held = []
  | 0, n, Y, _, he, hh, _ => ⟨⟨0, by simp, .refl⟩, he, hh⟩
  | k + 1, n, Y, hR, he, hh, h => by
    rw [calmN_next] at h ⊢
    have h1 : (roundR Y).1 = 0 := by
      rcases Classical.em ((roundR Y).1 = 0) with e | e
      · exact e
      · rw [calmN_bad e] at h; exact h
    obtain ⟨p, Z, hZ⟩ : ∃ p Z, roundR Y = (0, p, Z) := ⟨_, _, Prod.ext h1 rfl⟩
    obtain ⟨⟨j, hj, s⟩, e⟩ := roundR_steps hR h1
    have hq := s.hush he.hush
    rw [hZ] at h s e hq ⊢
    have hL := s.steps.like hR
    obtain ⟨⟨c, hc, t⟩, h3, h4⟩ := calmN_held k (n := p) hL.right e (fun j hj => by
      rw [hL.len] at hj
      rw [List.eq_nil_iff_forall_not_mem]
      intro x hx
      have := hq.2 j x hx
      rw [hh j hj] at this
      cases this) h
    rw [hL.len, hL.groups] at hc
    rw [hL.len] at h4
    exact ⟨⟨j + c, by rw [Nat.add_mul]; omega, s.trans t⟩, h3, h4⟩
theorem calmR_calm {X : Wd} (i : Inv X) (h : (calmR X).1 = 0) : (∃ c, c ≤ 4 * (X.nodes.length * X.groups.length) ∧ NSteps X c (calmR X).2) ∧ Empty (calmR X).2 ∧ ∀ j, j < X.nodes.length → (nd (calmR X).2 j).held = [] := by
  unfold calmR at h ⊢
  split at h
  rotate_left
  · rename_i h1
    exact absurd h h1
  rename_i h1
  rw [if_pos h1]
  have h0 : (drainR X).1 = 0 := by
    rcases Classical.em ((drainR X).1 = 0) with e | e
    · exact e
    · rw [calmN_bad e] at h1; exact h1
  obtain ⟨s0, e0⟩ := drainR_steps i.right h0
  obtain ⟨p, Y, hY⟩ : ∃ p Y, drainR X = (0, p, Y) := ⟨_, _, Prod.ext h0 rfl⟩
  rw [hY] at h1 s0 e0 ⊢
  dsimp only at s0 e0 ⊢
  have hL0 := s0.steps.like i.right
  have i0 := s0.steps.inv i
  rw [calmN_next] at h1 ⊢
  have r1 : (roundR Y).1 = 0 := by
    rcases Classical.em ((roundR Y).1 = 0) with e | e
    · exact e
    · rw [calmN_bad e] at h1; exact h1
  obtain ⟨⟨j1, hj1, s1⟩, e1⟩ := roundR_steps hL0.right r1
  obtain ⟨p1, Z, hZ⟩ : ∃ p Z, roundR Y = (0, p, Z) := ⟨_, _, Prod.ext r1 rfl⟩
  rw [hZ, calmN_next] at h1 ⊢
  have hL1 := s1.steps.like hL0.right
  have r2 : (roundR Z).1 = 0 := by
    rcases Classical.em ((roundR Z).1 = 0) with e | e
    · exact e
    · rw [calmN_bad e] at h1; exact h1
  have hh := two_rounds i0 e0 r1 (by rw [hZ]; exact r2)
  rw [hZ] at hh s1 e1 hL1
  dsimp only at hh s1 e1 hL1
  obtain ⟨⟨j2, hj2, s2⟩, e2⟩ := roundR_steps hL1.right r2
  obtain ⟨p2, V, hV⟩ : ∃ p V, roundR Z = (0, p, V) := ⟨_, _, Prod.ext r2 rfl⟩
  have hL2 := s2.steps.like hL1.right
  rw [hV] at h1 hh s2 e2 hL2 ⊢
  dsimp only at hh s2 e2 hL2
  obtain ⟨⟨c, hc, t⟩, h3, h4⟩ := calmN_held 2 (n := p2) hL2.right e2 (fun j hj => hh j (by rw [hL2.len, hL1.len] at hj; exact hj)) h1
  rw [hL2.len, hL1.len, hL0.len, hL2.groups, hL1.groups, hL0.groups] at hc
  rw [hL1.len, hL0.len, hL1.groups, hL0.groups] at hj2
  rw [hL0.len, hL0.groups] at hj1
  rw [hL2.len, hL1.len, hL0.len] at h4
  exact ⟨⟨0 + (j1 + (j2 + c)), by omega, s0.trans (s1.trans (s2.trans t))⟩, h3, h4⟩
end Go.Proofs.Ytnalakhelicjcaa
