/-
  Calm of what acts have made: the one error is that there is no room.
-/
import Derived.Test.YtnalakhelicjcaaYIz
set_option maxRecDepth 100000
namespace Go.Proofs.Ytnalakhelicjcaa
open Go.RowKit

theorem castStep_02 {Y : Wd} {n k : Nat} {g : Int} {m : M} (h : ∀ x ∈ wireL Y n k, x.stamp < m.stamp) : (castStep Y n g k m).1 = 0 ∨ (castStep Y n g k m).1 = 2 := by
  unfold castStep
  split
  · exact Or.inl rfl
  · split
    · exact Or.inr rfl
    · split
      · rename_i h3
        have := h _ (getD_mem (wireL Y n k) M.zero (show (wireL Y n k).length - 1 < (wireL Y n k).length by omega))
        omega
      · exact Or.inl rfl
theorem castW_02 {X : Wd} {n : Nat} {g : Int} {m : M} (hc : CastR X n g m) (hR : Right X) (hw : ∀ b x, b < X.nodes.length → x ∈ wireL X n b → x.stamp < m.stamp) : ∀ k, k ≤ X.nodes.length → (castW X n g m k).1 = 0 ∨ (castW X n g m k).1 = 2
  | 0, _ => Or.inl rfl
  | k + 1, hk => by
    have ih := castW_02 hc hR hw k (by omega)
    unfold castW
    split
    · rename_i h0
      obtain ⟨Y, hY⟩ : ∃ Y, castW X n g m k = (0, Y) := ⟨_, Prod.ext h0 rfl⟩
      obtain ⟨_, _, _, r4⟩ := castW_ok hc hR k Y (by omega) hY
      rw [hY]
      refine castStep_02 (fun x hx => hw k x (by omega) ?_)
      rw [r4, castL, if_neg (fun h => absurd h.2.1 (Nat.lt_irrefl k))] at hx
      exact hx
    · exact ih
theorem castR_02 {X : Wd} (i : Inv X) {n g : Nat} (hn : n < X.nodes.length) (hg : g < X.groups.length) (hh : hasB X.groups g n = true) (hc : (nd X n).clock < 1048576) : (castR X n g true ByteArray.empty).1 = 0 ∨ (castR X n g true ByteArray.empty).1 = 2 := by
  have hR := i.right
  have hNk := hR.node n hn
  unfold castR
  rw [if_pos (by rw [inB_mk (by omega) (by omega), inB_mk (by omega) (by omega)]; rfl), if_pos hh, if_neg (by decide), Int.toNat_natCast]
  have hc' : (X.nodes.getD n N.zero).clock < 1048576 := hc
  rw [if_neg (by omega)]
  have hU : Right (clockUp X n) := by
    rw [clockUp_set]
    refine hR.setNode hn ⟨?_, hNk.len, hNk.rows, hNk.cells, hNk.held, hNk.told⟩
    have := hNk.clock
    show 0 ≤ (X.nodes.getD n N.zero).clock + 1 ∧ (X.nodes.getD n N.zero).clock + 1 ≤ 1048576
    omega
  have hUl : (clockUp X n).nodes.length = X.nodes.length := by rw [clockUp_set, nodeSet_len]
  have hUn : nd (clockUp X n) n = { nd X n with clock := (nd X n).clock + 1 } := by
    unfold nd
    rw [clockUp_set, nodeSet_at hn]
  obtain ⟨m, hm⟩ : ∃ m : M, m = ⟨(n : Int), g, (X.nodes.getD n N.zero).clock + 1, true, ByteArray.empty⟩ := ⟨_, rfl⟩
  have hms : m.stamp = (nd X n).clock + 1 := by rw [hm]; rfl
  have hmE : msgE X.nodes.length X.groups m = 0 := by
    unfold msgE
    rw [if_pos hR.grp, hm]
    have := hNk.clock
    refine rightE_0b ⟨?_, ?_, ?_, ?_, ?_, ?_⟩ hh (show ¬ 8 < (ByteArray.empty.size : Int) by decide) (show ByteArray.empty.toList.isEmpty = true by decide +kernel)
    · show (0 : Int) ≤ n; omega
    · show (n : Int) < _; omega
    · show (0 : Int) ≤ g; omega
    · show (g : Int) < _; omega
    · show 1 ≤ (X.nodes.getD n N.zero).clock + 1; omega
    · show (X.nodes.getD n N.zero).clock + 1 ≤ 1048576; omega
  have hC : CastR (clockUp X n) n g m := ⟨by rw [hUl]; exact hn, by rw [hm], by rw [hm], by rw [hUl]; exact hmE⟩
  simp only [← hm]
  have hW := castW_02 hC hU (fun b x hb hx => by
    rw [hUl] at hb
    have := i.wc n b x hn hb hx
    omega) X.nodes.length (by rw [hUl]; exact Nat.le_refl _)
  split
  · rename_i h5
    obtain ⟨Y, hY⟩ : ∃ Y, castW (clockUp X n) n g m X.nodes.length = (0, Y) := ⟨_, Prod.ext h5 rfl⟩
    obtain ⟨r1, r2, r3, _⟩ := castW_ok hC hU X.nodes.length Y (by rw [hUl]; exact Nat.le_refl _) hY
    rw [hY]
    have hYl : Y.nodes.length = X.nodes.length := by rw [r2, hUl]
    have hYg : Y.groups = X.groups := r3
    have hYn : nd Y n = { nd X n with clock := (nd X n).clock + 1 } := by
      rw [← hUn]
      unfold nd
      rw [r2]
    have hbc := boundX_clock X n
    refine castEnd_02 (B := boundX X n) r1 (by rw [hYl]; exact hn) (by rw [hYl, hYg]; exact ⟨hmE, by rw [hm]; exact hh⟩) (by rw [hYn]; exact fun x hx => i.tb n x hn hx) (by rw [hYn]; exact fun x hx => i.hb n x hn hx) (by rw [hms]; unfold nd; omega) ?_
    rw [hYn]
    intro x hx e1 _
    have := i.lc n x hn (Or.inl hx)
    omega
  · rename_i h5
    exact hW.imp (fun e => absurd e h5) id

theorem wireN_02 {a b : Nat} : ∀ (f : Nat) {X : Wd} (c : Int), Inv X → a < X.nodes.length → b < X.nodes.length → (wireL X a b).length = f → (wireN a b f X c).1 = 0 ∨ (wireN a b f X c).1 = 2
  | 0, _, _, _, _, _, _ => Or.inl rfl
  | f + 1, X, c, i, ha, hb, hl => by
    unfold wireN
    rw [if_neg (by omega)]
    have hm := moveR_02 i ha hb (by intro e; rw [e] at hl; simp at hl)
    split
    · rename_i h1
      obtain ⟨m, hM⟩ := moveR_mv i.right ha hb h1
      exact wireN_02 f (c + 1) (i.move hM) (by rw [hM.like.len]; exact ha) (by rw [hM.like.len]; exact hb) (by rw [moveR_wire i.right ha hb h1, List.length_drop, hl]; rfl)
    · rename_i h1
      exact hm.imp (fun e => absurd e h1) id
theorem drB_02 {X : Wd} (i : Inv X) {a : Nat} (ha : a < X.nodes.length) (h0 : (drA X a).1 = 0 ∨ (drA X a).1 = 2) : ∀ b, b ≤ X.nodes.length → (drB X a b).1 = 0 ∨ (drB X a b).1 = 2
  | 0, _ => h0
  | b + 1, hb => by
    rw [drB_succ]
    rcases drB_02 i ha h0 b (by omega) with e | e
    · obtain ⟨s, _⟩ := drB_steps i.right ha (drA_steps i.right a (by omega)) b (by omega) e
      have hL := s.steps.like i.right
      unfold drainS
      rw [if_pos e]
      split
      · exact Or.inl rfl
      · rename_i h1
        exact (wireN_02 _ 0 (s.steps.inv i) (by rw [hL.len]; exact ha) (by rw [hL.len]; omega) rfl).imp (fun e => absurd e h1) id
    · rw [drainS_stop (by rw [e]; decide)]
      exact Or.inr e
theorem drainR_02 {X : Wd} (i : Inv X) : (drainR X).1 = 0 ∨ (drainR X).1 = 2 := by
  have : ∀ a, a ≤ X.nodes.length → (drA X a).1 = 0 ∨ (drA X a).1 = 2 := by
    intro a
    induction a with
    | zero => exact fun _ => Or.inl rfl
    | succ a ih =>
      intro ha
      rw [drA_succ]
      exact drB_02 i (by omega) (ih (by omega)) _ (Nat.le_refl _)
  rw [drain_eq]
  exact this _ (Nat.le_refl _)
theorem rdA_steps {X : Wd} (hR : Right X) {n : Nat} (h : (rdA X n).1 = 0) : ∃ k, k ≤ n * X.groups.length ∧ NSteps X k (rdA X n).2 := by
  have := (fold_steps2 X.groups.length (fun r n => (List.range X.groups.length).foldl (fun r g => roundS n g r) r) (fun s n => rounds_steps X.groups.length n s) (List.range n) (0, X) h).2 hR
  rwa [List.length_range] at this
theorem rdB_steps {X : Wd} (hR : Right X) {n g : Nat} (h : (rdB X n g).1 = 0) : ∃ k, k ≤ n * X.groups.length + g ∧ NSteps X k (rdB X n g).2 := by
  obtain ⟨h1, h2⟩ := rounds_steps g n (rdA X n) h
  obtain ⟨j, hj, s⟩ := rdA_steps hR h1
  obtain ⟨k, hk, t⟩ := h2 (s.steps.like hR).right
  exact ⟨j + k, by omega, s.trans t⟩
theorem rdB_02 {X : Wd} (i : Inv X) (hU : Under X 1048000) {n : Nat} (hn : n < X.nodes.length) (h0 : (rdA X n).1 = 0 ∨ (rdA X n).1 = 2) : ∀ g, g ≤ X.groups.length → (rdB X n g).1 = 0 ∨ (rdB X n g).1 = 2
  | 0, _ => h0
  | g + 1, hg => by
    rw [rdB_succ]
    rcases rdB_02 i hU hn h0 g (by omega) with e | e
    · obtain ⟨k, hk, s⟩ := rdB_steps i.right e
      have hL := s.steps.like i.right
      have h12 := grp_le i.right
      have hG3 := (errX_fit i.right.err).groups
      have hnG : n * X.groups.length ≤ X.nodes.length * X.groups.length := Nat.mul_le_mul_right _ (by omega)
      have hu := s.steps.under i hU n (by rw [hL.len]; exact hn)
      unfold roundS
      rw [if_pos e]
      split
      · rename_i h1
        exact castR_02 (s.steps.inv i) (by rw [hL.len]; exact hn) (by rw [hL.groups]; omega) h1 (by omega)
      · exact Or.inl e
    · rw [roundS_stop (by rw [e]; decide)]
      exact Or.inr e
theorem roundC_02 {X : Wd} (i : Inv X) (hU : Under X 1048000) : (roundC X).1 = 0 ∨ (roundC X).1 = 2 := by
  have : ∀ n, n ≤ X.nodes.length → (rdA X n).1 = 0 ∨ (rdA X n).1 = 2 := by
    intro n
    induction n with
    | zero => exact fun _ => Or.inl rfl
    | succ n ih =>
      intro hn
      rw [rdA_succ]
      exact rdB_02 i hU (by omega) (ih (by omega)) _ (Nat.le_refl _)
  rw [round_eq]
  exact this _ (Nat.le_refl _)
theorem roundR_02 {X : Wd} (i : Inv X) (hU : Under X 1048000) : (roundR X).1 = 0 ∨ (roundR X).1 = 2 := by
  unfold roundR
  split
  · rename_i h
    obtain ⟨k, _, s⟩ := roundC_steps i.right h
    exact drainR_02 (s.steps.inv i)
  · rename_i h
    exact (roundC_02 i hU).imp (fun e => absurd e h) id
theorem calmN_02 : ∀ (k : Nat) {n : Int} {Y : Wd}, Inv Y → Under Y (1048000 - 12 * k) → (calmN k (0, n, Y)).1 = 0 ∨ (calmN k (0, n, Y)).1 = 2
  | 0, _, _, _, _ => Or.inl rfl
  | k + 1, n, Y, i, hU => by
    rw [calmN_next]
    have hU' : Under Y 1048000 := fun j hj => by have := hU j hj; omega
    rcases roundR_02 i hU' with e | e
    · obtain ⟨⟨j, hj, s⟩, _⟩ := roundR_steps i.right e
      have h12 := grp_le i.right
      have hu := s.steps.under i hU
      obtain ⟨p, Z, hZ⟩ : ∃ p Z, roundR Y = (0, p, Z) := ⟨_, _, Prod.ext e rfl⟩
      rw [hZ] at s hu ⊢
      dsimp only at s hu
      exact calmN_02 k (s.steps.inv i) (fun q hq => by have := hu q hq; omega)
    · rw [calmN_bad (by rw [e]; decide)]
      exact Or.inr e
/-- Calm of whatever was done. -/
theorem Reach.calm {X : Wd} (r : Reach X) : ((calmF X).1 = 0 ∧ Like X (calmF X).2 ∧ (∃ c, c ≤ 48 ∧ NSteps X c (calmF X).2) ∧ Empty (calmF X).2 ∧ ∀ j, j < X.nodes.length → (nd (calmF X).2 j).held = []) ∨ (calmF X).1 = 2 := by
  have i := r.inv
  unfold calmF
  rw [if_pos i.right.err]
  have h02 : (calmR X).1 = 0 ∨ (calmR X).1 = 2 := by
    unfold calmR
    split
    · exact Or.inl rfl
    · rename_i h
      rcases drainR_02 i with e | e
      · obtain ⟨s, _⟩ := drainR_steps i.right e
        obtain ⟨p, Y, hY⟩ : ∃ p Y, drainR X = (0, p, Y) := ⟨_, _, Prod.ext e rfl⟩
        rw [hY] at s h ⊢
        dsimp only at s
        have hu := s.steps.under i r.low
        exact (calmN_02 4 (n := p) (s.steps.inv i) (fun q hq => by have := hu q hq; omega)).imp (fun e => absurd e h) id
      · rw [calmN_bad (by rw [e]; decide)]
        exact Or.inr e
  rcases h02 with h | h
  · obtain ⟨⟨c, hc, s⟩, h2, h3⟩ := calmR_calm i h
    have := grp_le i.right
    exact Or.inl ⟨h, s.steps.like i.right, ⟨c, by omega, s⟩, h2, h3⟩
  · exact Or.inr h
/-- A message that comes. -/
theorem Reach.one {X : Wd} (r : Reach X) {a b : Nat} (ha : a < X.nodes.length) (hb : b < X.nodes.length) :
    ((moveR X a b).1 = 0 ∧ ∀ m ∈ wireL X a b, boundX X b < m.stamp) ∨ (moveR X a b).1 = 2 ∨ (moveR X a b).1 = 7 := by
  have i := r.inv
  by_cases hw : wireL X a b = []
  · right; right
    unfold moveR
    rw [hw, if_pos (show ([] : List M).length = 0 from rfl)]
  · rcases moveR_02 i ha hb hw with h | h
    · refine Or.inl ⟨h, fun m hm => ?_⟩
      have hW := i.right.wire a b ha hb
      obtain ⟨g, hg, _, hbd⟩ := bound_group ha (hW.self.resolve_right hw) (hW.src m hm) (hW.fine m hm).1 (hW.fine m hm).2
      have := i.wh a b m g ha hb hg hm
      omega
    · exact Or.inr (Or.inl h)
end Go.Proofs.Ytnalakhelicjcaa
