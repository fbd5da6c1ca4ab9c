/-
  What holds of every world that acts have made: clocks, what was heard, what is held, what was told.
-/
import Derived.Test.YtnalakhelicjcaaVIv
set_option maxRecDepth 100000
namespace Go.Proofs.Ytnalakhelicjcaa
open Go.RowKit

theorem boundS_ge {X : Wd} {n g k : Nat} {a v : Int} (ha : v ≤ a) (h : k ≠ n → hasB X.groups g n = true → hasB X.groups g k = true → v ≤ heard X n g k) : v ≤ boundS X n g k a := by
  unfold boundS
  split
  · rename_i e
    simp only [Bool.and_eq_true, bne_iff_ne, ne_eq] at e
    have := h e.1.1 e.1.2 e.2
    unfold heard nd at this
    omega
  · exact ha
theorem boundX_ge {X : Wd} {n : Nat} {v : Int} (hc : v ≤ (nd X n).clock) (h : ∀ g k, g < X.groups.length → k < X.nodes.length → k ≠ n → hasB X.groups g n = true → hasB X.groups g k = true → v ≤ heard X n g k) : v ≤ boundX X n := by
  have hG : ∀ g, g < X.groups.length → ∀ m, m ≤ X.nodes.length → ∀ a, v ≤ a → v ≤ boundG X n g m a := by
    intro g hg m
    induction m with
    | zero => exact fun _ a ha => ha
    | succ m ih =>
      intro hm a ha
      rw [boundG_succ]
      exact boundS_ge (ih (by omega) a ha) (fun h1 h2 h3 => h g m hg (by omega) h1 h2 h3)
  have hM : ∀ m, m ≤ X.groups.length → v ≤ boundM X n m := by
    intro m
    induction m with
    | zero => exact fun _ => hc
    | succ m ih =>
      intro hm
      rw [boundM_succ]
      exact hG m (by omega) _ (Nat.le_refl _) _ (ih (by omega))
  exact hM _ (Nat.le_refl _)
theorem boundX_heard {X : Wd} {n g k : Nat} (hg : g < X.groups.length) (hk : k < X.nodes.length) (hn : k ≠ n) (h1 : hasB X.groups g n = true) (h2 : hasB X.groups g k = true) : boundX X n ≤ heard X n g k := boundX_last hg hk hn h1 h2
theorem boundX_mono {X Y : Wd} {n : Nat} (hg : Y.groups = X.groups) (hl : Y.nodes.length = X.nodes.length) (hc : (nd X n).clock ≤ (nd Y n).clock) (h : ∀ g k, g < X.groups.length → k < X.nodes.length → heard X n g k ≤ heard Y n g k) : boundX X n ≤ boundX Y n := by
  refine boundX_ge (Int.le_trans (boundX_clock X n) hc) (fun g k h1 h2 h3 h4 h5 => ?_)
  rw [hg] at h1 h4 h5
  rw [hl] at h2
  exact Int.le_trans (boundX_heard h1 h2 h3 h4 h5) (h g k h1 h2)
theorem boundX_same {X Y : Wd} {n : Nat} (hg : Y.groups = X.groups) (hl : Y.nodes.length = X.nodes.length) (h : nd Y n = nd X n) : boundX Y n = boundX X n := boundX_congr hg hl (congrArg N.clock h) (congrArg N.last h)
theorem heard_same {X Y : Wd} {n : Nat} (h : nd Y n = nd X n) (g k : Nat) : heard Y n g k = heard X n g k := by unfold heard; rw [h]

theorem Mv.clocks {X Y : Wd} {a b : Nat} {m : M} (h : Mv X a b m Y) (k : Nat) : (nd X k).clock ≤ (nd Y k).clock := by
  by_cases e : k = b
  · rw [e, h.clock]; omega
  · rw [h.others k e]; exact Int.le_refl _
theorem Mv.hears {X Y : Wd} {a b : Nat} {m : M} (h : Mv X a b m Y) (n : Nat) {g k : Nat} (hg : g < X.groups.length) (hk : k < X.nodes.length) : heard X n g k ≤ heard Y n g k := by
  by_cases e : n = b
  · rw [e, h.hrd g k hg hk]
    split <;> omega
  · rw [heard_same (h.others n e)]; exact Int.le_refl _
theorem Sn.clocks {X Y : Wd} {n : Nat} {m : M} (h : Sn X n m Y) (k : Nat) : (nd X k).clock ≤ (nd Y k).clock := by
  by_cases e : k = n
  · rw [e, h.clock]; omega
  · rw [h.others k e]; exact Int.le_refl _
theorem Sn.hears {X Y : Wd} {n : Nat} {m : M} (h : Sn X n m Y) (j g k : Nat) : heard Y j g k = heard X j g k := by
  by_cases e : j = n
  · unfold heard; rw [e, h.last]
  · exact heard_same (h.others j e) g k
/-- Who is in what a node holds, or was told. -/
theorem Kept.mem {h t : List M} {m : M} {Y : Wd} {n : Nat} (k : Kept h t m Y n) {x : M} : x ∈ (nd Y n).held ∨ x ∈ (nd Y n).told ↔ (x ∈ h ∨ x ∈ t) ∨ (m.null = false ∧ x = m) := by
  obtain ⟨⟨R, h1, h2, _⟩, _⟩ := k
  have hH : x ∈ R ∨ x ∈ (nd Y n).held ↔ x ∈ (if m.null = true then h else putM h m) := by rw [← h2, List.mem_append]
  rw [h1, List.mem_append]
  cases hm : m.null
  · rw [hm, if_neg (by simp), mem_putM] at hH
    constructor
    · rintro (a | a | a)
      · rcases hH.1 (Or.inr a) with e | e
        · exact Or.inr ⟨rfl, e⟩
        · exact Or.inl (Or.inl e)
      · exact Or.inl (Or.inr a)
      · rcases hH.1 (Or.inl a) with e | e
        · exact Or.inr ⟨rfl, e⟩
        · exact Or.inl (Or.inl e)
    · rintro ((a | a) | ⟨_, a⟩)
      · rcases hH.2 (Or.inr a) with e | e
        · exact Or.inr (Or.inr e)
        · exact Or.inl e
      · exact Or.inr (Or.inl a)
      · rcases hH.2 (Or.inl a) with e | e
        · exact Or.inr (Or.inr e)
        · exact Or.inl e
  · rw [hm, if_pos rfl] at hH
    constructor
    · rintro (a | a | a)
      · exact Or.inl (Or.inl (hH.1 (Or.inr a)))
      · exact Or.inl (Or.inr a)
      · exact Or.inl (Or.inl (hH.1 (Or.inl a)))
    · rintro ((a | a) | ⟨e, _⟩)
      · rcases hH.2 a with e | e
        · exact Or.inr (Or.inr e)
        · exact Or.inl e
      · exact Or.inr (Or.inl a)
      · cases e
theorem Kept.bound {h t : List M} {m : M} {Y : Wd} {n : Nat} (k : Kept h t m Y n) {B : Int} (hB : B ≤ boundX Y n) (ht : ∀ x ∈ t, x.stamp ≤ B) : ∀ x ∈ (nd Y n).told, x.stamp ≤ boundX Y n := by
  obtain ⟨⟨R, h1, _, h3⟩, _⟩ := k
  intro x hx
  rw [h1, List.mem_append] at hx
  rcases hx with hx | hx
  · exact Int.le_trans (ht x hx) hB
  · exact h3 x hx

structure Inv (X : Wd) : Prop where
  right : Right X
  hc : ∀ n g k, n < X.nodes.length → g < X.groups.length → k < X.nodes.length → heard X n g k ≤ (nd X k).clock
  wc : ∀ a b m, a < X.nodes.length → b < X.nodes.length → m ∈ wireL X a b → m.stamp ≤ (nd X a).clock
  wh : ∀ a b m g, a < X.nodes.length → b < X.nodes.length → g < X.groups.length → m ∈ wireL X a b → heard X b g a < m.stamp
  lc : ∀ n m, n < X.nodes.length → (m ∈ (nd X n).held ∨ m ∈ (nd X n).told) → m.stamp ≤ (nd X n).clock
  lo : ∀ n m k, n < X.nodes.length → k < X.nodes.length → (m ∈ (nd X n).held ∨ m ∈ (nd X n).told) → m.src = (k : Int) → k ≠ n → m.stamp ≤ heard X n m.grp.toNat k
  tb : ∀ n m, n < X.nodes.length → m ∈ (nd X n).told → m.stamp ≤ boundX X n
  hb : ∀ n m, n < X.nodes.length → m ∈ (nd X n).held → boundX X n < m.stamp
theorem Right.msg {X : Wd} (h : Right X) {n : Nat} (hn : n < X.nodes.length) {m : M} (hm : m ∈ (nd X n).held ∨ m ∈ (nd X n).told) : m.null = false ∧ msgE X.nodes.length X.groups m = 0 ∧ hasB X.groups m.grp n = true := by
  rcases hm with hm | hm
  · exact (h.node n hn).held.fine m hm
  · exact (h.node n hn).told.fine m hm
theorem msgE_grp {K : Nat} {gs : List Int} {m : M} (h : msgE K gs m = 0) : ∃ g, g < gs.length ∧ m.grp = (g : Int) ∧ ∃ k, k < K ∧ m.src = (k : Int) := by
  obtain ⟨⟨h1, h2, h3, h4, _⟩, _⟩ := rightE_in h
  exact ⟨m.grp.toNat, by omega, by omega, m.src.toNat, by omega, by omega⟩

theorem Inv.move {X Y : Wd} {a b : Nat} {m : M} (i : Inv X) (h : Mv X a b m Y) : Inv Y := by
  obtain ⟨ha, hb, hab⟩ := h.at_
  obtain ⟨l, hl, hl'⟩ := h.first
  have hmem : m ∈ wireL X a b := by rw [hl]; exact List.mem_cons_self ..
  have hW := i.right.wire a b ha hb
  have hfine := hW.fine m hmem
  have hsrc := hW.src m hmem
  obtain ⟨q, hq, hqm, _⟩ := msgE_grp hfine.1
  have hK := h.like.len
  have hG := h.like.groups
  have hcl : (nd Y a).clock = (nd X a).clock := by rw [h.others a hab]
  have hw : ∀ c d x, x ∈ wireL Y c d → x ∈ wireL X c d := fun c d x hx => by
    by_cases e : c = a ∧ d = b
    · obtain ⟨rfl, rfl⟩ := e
      rw [hl'] at hx
      rw [hl]
      exact List.mem_cons_of_mem _ hx
    · rw [h.wires c d e] at hx
      exact hx
  have hbm : boundX X b ≤ boundX Y b := boundX_mono hG hK (h.clocks b) (fun g k hg hk => h.hears b hg hk)
  refine ⟨h.like.right, fun n g k hn hg hk => ?_, fun c d x hc hd hx => ?_, fun c d x g hc hd hg hx => ?_, fun n x hn hx => ?_, fun n x k hn hk hx hs hkn => ?_, fun n x hn hx => ?_, fun n x hn hx => ?_⟩
  · rw [hK] at hn hk
    rw [hG] at hg
    have h0 := i.hc n g k hn hg hk
    have h1 := h.clocks k
    by_cases e : n = b
    · rw [e, h.hrd g k hg hk]
      rw [e] at h0
      split
      · rename_i e2
        rw [e2.2] at h0 h1 ⊢
        have := i.wc a b m ha hb hmem
        omega
      · omega
    · rw [heard_same (h.others n e)]
      omega
  · rw [hK] at hc hd
    exact Int.le_trans (i.wc c d x hc hd (hw c d x hx)) (h.clocks c)
  · rw [hK] at hc hd
    rw [hG] at hg
    have h0 := i.wh c d x g hc hd hg (hw c d x hx)
    by_cases e : d = b
    · subst e
      rw [h.hrd g c hg hc]
      split
      · rename_i e2
        obtain ⟨_, rfl⟩ := e2
        rw [hl'] at hx
        have hp := hW.rise
        rw [hl] at hp
        have := (List.pairwise_cons.1 hp).1 x hx
        omega
      · exact h0
    · rw [heard_same (h.others d e)]
      exact h0
  · rw [hK] at hn
    by_cases e : n = b
    · subst e
      rcases h.kept.mem.1 hx with hx | ⟨_, rfl⟩
      · exact Int.le_trans (i.lc n x hn hx) (h.clocks n)
      · rw [h.clock]; omega
    · rw [h.others n e] at hx ⊢
      exact i.lc n x hn hx
  · rw [hK] at hn hk
    by_cases e : n = b
    · subst e
      rcases h.kept.mem.1 hx with hx | ⟨_, rfl⟩
      · obtain ⟨g, hg, hgm, _⟩ := msgE_grp (i.right.msg hn hx).2.1
        have := i.lo n x k hn hk hx hs hkn
        have := h.hears n (g := x.grp.toNat) (by omega) hk
        omega
      · have e2 : k = a := by omega
        subst e2
        rw [h.hrd _ _ (by omega) hk, if_pos ⟨by omega, rfl⟩]
        omega
    · rw [h.others n e] at hx
      rw [heard_same (h.others n e)]
      exact i.lo n x k hn hk hx hs hkn
  · rw [hK] at hn
    by_cases e : n = b
    · subst e
      exact h.kept.bound hbm (fun x hx => i.tb n x hn hx) x hx
    · rw [boundX_same hG hK (h.others n e)]
      rw [h.others n e] at hx
      exact i.tb n x hn hx
  · rw [hK] at hn
    by_cases e : n = b
    · subst e
      exact h.kept.left x hx
    · rw [boundX_same hG hK (h.others n e)]
      rw [h.others n e] at hx
      exact i.hb n x hn hx
theorem Inv.cast {X Y : Wd} {n : Nat} {m : M} (i : Inv X) (h : Sn X n m Y) : Inv Y := by
  have hn0 := h.at_
  have hK := h.like.len
  have hG := h.like.groups
  have hs := h.stamp
  have hbm : boundX X n ≤ boundX Y n := boundX_mono hG hK (h.clocks n) (fun g k _ _ => by rw [h.hears]; exact Int.le_refl _)
  have hw : ∀ c d x, c < X.nodes.length → d < X.nodes.length → x ∈ wireL Y c d → x ∈ wireL X c d ∨ (c = n ∧ d ≠ n ∧ x = m) := fun c d x hc hd hx => by
    rw [h.wires c d hc hd] at hx
    split at hx
    · rename_i e
      rcases List.mem_append.1 hx with hx | hx
      · exact Or.inl hx
      · exact Or.inr ⟨e.1, e.2.1, List.mem_singleton.1 hx⟩
    · exact Or.inl hx
  refine ⟨h.like.right, fun j g k hj hg hk => ?_, fun c d x hc hd hx => ?_, fun c d x g hc hd hg hx => ?_, fun j x hj hx => ?_, fun j x k hj hk hx hs' hkn => ?_, fun j x hj hx => ?_, fun j x hj hx => ?_⟩
  · rw [hK] at hj hk
    rw [hG] at hg
    rw [h.hears]
    exact Int.le_trans (i.hc j g k hj hg hk) (h.clocks k)
  · rw [hK] at hc hd
    rcases hw c d x hc hd hx with hx | ⟨rfl, _, rfl⟩
    · exact Int.le_trans (i.wc c d x hc hd hx) (h.clocks c)
    · rw [h.clock, hs]; exact Int.le_refl _
  · rw [hK] at hc hd
    rw [hG] at hg
    rw [h.hears]
    rcases hw c d x hc hd hx with hx | ⟨rfl, _, rfl⟩
    · exact i.wh c d x g hc hd hg hx
    · have := i.hc d g c hd hg hc
      omega
  · rw [hK] at hj
    by_cases e : j = n
    · subst e
      rcases h.kept.mem.1 hx with hx | ⟨_, rfl⟩
      · exact Int.le_trans (i.lc j x hj hx) (h.clocks j)
      · rw [h.clock, hs]; exact Int.le_refl _
    · rw [h.others j e] at hx ⊢
      exact i.lc j x hj hx
  · rw [hK] at hj hk
    rw [h.hears]
    by_cases e : j = n
    · subst e
      rcases h.kept.mem.1 hx with hx | ⟨_, rfl⟩
      · exact i.lo j x k hj hk hx hs' hkn
      · have := h.src; exact absurd (by omega) hkn
    · rw [h.others j e] at hx
      exact i.lo j x k hj hk hx hs' hkn
  · rw [hK] at hj
    by_cases e : j = n
    · subst e
      exact h.kept.bound hbm (fun x hx => i.tb j x hj hx) x hx
    · rw [boundX_same hG hK (h.others j e)]
      rw [h.others j e] at hx
      exact i.tb j x hj hx
  · rw [hK] at hj
    by_cases e : j = n
    · subst e
      exact h.kept.left x hx
    · rw [boundX_same hG hK (h.others j e)]
      rw [h.others j e] at hx
      exact i.hb j x hj hx
end Go.Proofs.Ytnalakhelicjcaa
