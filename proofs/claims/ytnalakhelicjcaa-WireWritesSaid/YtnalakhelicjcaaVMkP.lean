/-
  What came ahead of what, in plain words: with sets, and with rows of bools.
-/
import Derived.Test.YtnalakhelicjcaaVIz
import Derived.Test.YtnalakhelicjcaaVKJ
set_option maxRecDepth 100000
namespace Go.Proofs.Ytnalakhelicjcaa
open Go.RowKit

/-- A set of numbers. -/
abbrev St := Nat → Bool
def emptyS : St := fun _ => false
def learnS (f : St) (k : Nat) (a : St) : St := fun i => f i || (i == k || a i)
/-- What the scribe notes. -/
structure Sc where
  X : Wd
  sent : List M
  ahead : List St
  known : List St
def Sc.begin (X : Wd) : Sc := ⟨X, [], [], List.replicate X.nodes.length emptyS⟩
def Sc.move (s : Sc) (b : Nat) (Y : Wd) (i : Nat) : Sc := ⟨Y, s.sent, s.ahead, s.known.set b (learnS (s.known.getD b emptyS) i (s.ahead.getD i emptyS))⟩
def Sc.send (s : Sc) (n : Nat) (Y : Wd) (m : M) : Sc := ⟨Y, s.sent ++ [m], s.ahead ++ [s.known.getD n emptyS], s.known.set n (learnS (s.known.getD n emptyS) s.sent.length (s.known.getD n emptyS))⟩
def msgOf (x : Ac) (Y : Wd) : M := ⟨x.one, x.two, (nd Y x.one.toNat).clock, x.kind == 2, if x.kind = 2 then ByteArray.empty else x.body⟩
def firstW (X : Wd) (x : Ac) : M := (wireL X x.one.toNat x.two.toNat).getD 0 M.zero
def Sc.step (s : Sc) (x : Ac) : Sc :=
  if (doF s.X x).1 = 0 then if x.kind = 3 then s.move x.two.toNat (doF s.X x).2 (idxM (eqM (firstW s.X x)) s.sent).toNat else s.send x.one.toNat (doF s.X x).2 (msgOf x (doF s.X x).2) else s
def Sc.act (s : Sc) (x : Ac) : Sc := if x.kind = 4 then s else s.step x
def Sc.run (s : Sc) (l : List Ac) : Sc := l.foldl Sc.act s
/-- A set as a row of bools. -/
def rowS (n : Nat) (f : St) : List Bool := (List.range n).map f
def Sc.rows (s : Sc) : List (List Bool) := s.ahead.map (rowS s.sent.length)

/-- What the document's answer notes. -/
structure Rf where
  X : Wd
  all : List M
  ahead : List (List Bool)
  known : List (List Bool)
def Rf.begin (X : Wd) (n : Nat) : Rf := ⟨X, [], [], List.replicate n []⟩
def markR (all : List M) (m : M) (i : Nat) (row : List Bool) : List Bool := row.mapIdx fun j b => b || (decide (j < i) && eqM (all.getD j M.zero) m)
def Rf.move (r : Rf) (b : Nat) (Y : Wd) (m : M) : Rf := ⟨Y, r.all, r.ahead, r.known.set b (markR r.all m r.all.length (r.known.getD b []))⟩
def growR (l : List (List Bool)) (n k : Nat) : List (List Bool) := l.mapIdx fun j row => if j < k then row ++ [j == n] else row
def Rf.send (r : Rf) (n : Nat) (Y : Wd) (m : M) : Rf := ⟨Y, r.all ++ [m], r.ahead ++ [r.known.getD n []], growR r.known n r.known.length⟩
def Rf.step (r : Rf) (x : Ac) : Rf :=
  if (doF r.X x).1 = 0 then if x.kind = 3 then r.move x.two.toNat (doF r.X x).2 (firstW r.X x) else r.send x.one.toNat (doF r.X x).2 (msgOf x (doF r.X x).2) else r
def Rf.act (r : Rf) (x : Ac) : Rf := if x.kind = 4 then r else r.step x
def Rf.run (r : Rf) (l : List Ac) : Rf := l.foldl Rf.act r
/-- What holds of both, round by round. -/
structure Both (s : Sc) (r : Rf) : Prop where
  inv : Inv s.X
  gh : Gh s.X s.sent
  X : r.X = s.X
  all : r.all = s.sent
  one : s.sent.Nodup
  la : s.ahead.length = s.sent.length
  lr : r.ahead.length = s.sent.length
  lk : s.known.length = s.X.nodes.length
  lq : r.known.length = s.X.nodes.length
  rk : ∀ n, n < s.X.nodes.length → (r.known.getD n []).length = s.sent.length
  ra : ∀ i, i < s.sent.length → (r.ahead.getD i []).length = i
  low : ∀ i t, i < s.sent.length → s.ahead.getD i emptyS t = true → t < i
  is_k : ∀ n t, n < s.X.nodes.length → (s.known.getD n emptyS t = true ↔ ∃ j, j < s.sent.length ∧ (r.known.getD n []).getD j false = true ∧ (t = j ∨ s.ahead.getD j emptyS t = true))
  is_a : ∀ i t, i < s.sent.length → (s.ahead.getD i emptyS t = true ↔ ∃ j, j < i ∧ (r.ahead.getD i []).getD j false = true ∧ (t = j ∨ s.ahead.getD j emptyS t = true))
  own : ∀ n k, n < s.X.nodes.length → k < s.sent.length → (s.sent.getD k M.zero).src = (n : Int) → s.known.getD n emptyS k = true
  clk : ∀ n k, n < s.X.nodes.length → s.known.getD n emptyS k = true → (s.sent.getD k M.zero).stamp ≤ (nd s.X n).clock
  tra : ∀ n j k, n < s.X.nodes.length → s.known.getD n emptyS j = true → s.ahead.getD j emptyS k = true → s.known.getD n emptyS k = true
  trb : ∀ i j k, i < s.sent.length → s.ahead.getD i emptyS j = true → s.ahead.getD j emptyS k = true → s.ahead.getD i emptyS k = true
  sta : ∀ i k, i < s.sent.length → s.ahead.getD i emptyS k = true → (s.sent.getD k M.zero).stamp < (s.sent.getD i M.zero).stamp
  owa : ∀ i k, i < s.sent.length → k < i → (s.sent.getD k M.zero).src = (s.sent.getD i M.zero).src → s.ahead.getD i emptyS k = true
theorem getD_setM {α : Type} {l : List α} {d v : α} {b n : Nat} (hb : b < l.length) : (l.set b v).getD n d = if n = b then v else l.getD n d := by
  rw [List.getD_eq_getElem?_getD, List.getElem?_set, List.getD_eq_getElem?_getD]
  by_cases h : b = n
  · subst h; simp [hb]
  · rw [if_neg h, if_neg (fun e => h e.symm)]
theorem getD_appM {α : Type} {l : List α} {d v : α} {n : Nat} (h : n ≤ l.length) : (l ++ [v]).getD n d = if n = l.length then v else l.getD n d := by
  rw [List.getD_eq_getElem?_getD, List.getD_eq_getElem?_getD]
  by_cases e : n = l.length
  · subst e; simp
  · rw [if_neg e, List.getElem?_append_left (by omega)]
theorem learnS_iff {f a : St} {k t : Nat} : learnS f k a t = true ↔ f t = true ∨ t = k ∨ a t = true := by simp [learnS]
theorem markR_len (all : List M) (m : M) (i : Nat) (row : List Bool) : (markR all m i row).length = row.length := by simp [markR]
theorem markR_at {all : List M} {m : M} {i : Nat} {row : List Bool} {t : Nat} (h : t < row.length) : (markR all m i row).getD t false = (row.getD t false || (decide (t < i) && eqM (all.getD t M.zero) m)) := by
  unfold markR
  rw [List.getD_eq_getElem?_getD, List.getElem?_mapIdx, List.getElem?_eq_getElem h, getD_lt row _ h]
  rfl
theorem growR_len (l : List (List Bool)) (n k : Nat) : (growR l n k).length = l.length := by simp [growR]
theorem growR_at {l : List (List Bool)} {n k i : Nat} (h : i < l.length) : (growR l n k).getD i [] = if i < k then l.getD i [] ++ [i == n] else l.getD i [] := by
  unfold growR
  rw [List.getD_eq_getElem?_getD, List.getElem?_mapIdx, List.getElem?_eq_getElem h, getD_lt l _ h]
  rfl
namespace Both
variable {s : Sc} {r : Rf}
theorem lowk (h : Both s r) {n t : Nat} (hn : n < s.X.nodes.length) (hk : s.known.getD n emptyS t = true) : t < s.sent.length := by
  obtain ⟨j, hj, _, h2⟩ := (h.is_k n t hn).1 hk
  rcases h2 with rfl | h2
  · exact hj
  · have := h.low j t hj h2; omega
theorem begin {n : Nat} {gs : List Int} (h : gErr n gs = 0) : Both (Sc.begin (beginX n gs)) (Rf.begin (beginX n gs) n) := by
  have hl : (beginX n gs).nodes.length = n := begin_len.1
  have hk : ∀ k, (List.replicate n emptyS).getD k emptyS = emptyS := fun k => by
    rw [List.getD_eq_getElem?_getD, List.getElem?_replicate]
    split <;> rfl
  refine ⟨begin_inv h, begin_gh, rfl, rfl, List.nodup_nil, rfl, rfl, by simp [Sc.begin], by simp [Sc.begin, Rf.begin, hl], fun k hk => ?_, fun i hi => absurd hi (Nat.not_lt_zero _), fun i _ hi => absurd hi (Nat.not_lt_zero _), fun k t hk' => ?_, fun i _ hi => absurd hi (Nat.not_lt_zero _), fun _ k _ hk => absurd hk (Nat.not_lt_zero _), fun k t hk' ht => ?_, fun k t _ hk' ht => ?_, fun i _ _ hi => absurd hi (Nat.not_lt_zero _), fun i _ hi => absurd hi (Nat.not_lt_zero _), fun i _ hi => absurd hi (Nat.not_lt_zero _)⟩
  · show ((List.replicate n ([] : List Bool)).getD k []).length = 0
    rw [List.getD_eq_getElem?_getD, List.getElem?_replicate]
    split <;> rfl
  · constructor
    · intro ht
      rw [show (Sc.begin (beginX n gs)).known = List.replicate n emptyS by simp [Sc.begin, hl], hk] at ht
      cases ht
    · rintro ⟨j, hj, _⟩
      exact absurd hj (Nat.not_lt_zero _)
  · rw [show (Sc.begin (beginX n gs)).known = List.replicate n emptyS by simp [Sc.begin, hl], hk] at ht
    cases ht
  · rw [show (Sc.begin (beginX n gs)).known = List.replicate n emptyS by simp [Sc.begin, hl], hk] at ht
    cases ht
theorem nodup_at (h : Both s r) {i j : Nat} (hi : i < s.sent.length) (hj : j < s.sent.length) (e : s.sent.getD i M.zero = s.sent.getD j M.zero) : i = j := by
  rw [getD_lt _ _ hi, getD_lt _ _ hj] at e
  have hp := List.pairwise_iff_getElem.1 h.one
  rcases Nat.lt_trichotomy i j with h1 | h1 | h1
  · exact absurd e (hp i j hi hj h1)
  · exact h1
  · exact absurd e.symm (hp j i hj hi h1)
theorem move (h : Both s r) {a b i : Nat} {m : M} {Y : Wd} (hM : Mv s.X a b m Y) (hi : i < s.sent.length) (hm : s.sent.getD i M.zero = m) : Both (s.move b Y i) (r.move b Y m) := by
  obtain ⟨ha, hb, hab⟩ := hM.at_
  have hlen := hM.like.len
  have hbk : b < s.known.length := by rw [h.lk]; exact hb
  have hbq : b < r.known.length := by rw [h.lq]; exact hb
  have hK : ∀ n, (s.move b Y i).known.getD n emptyS = if n = b then learnS (s.known.getD b emptyS) i (s.ahead.getD i emptyS) else s.known.getD n emptyS := fun n => getD_setM hbk
  have hQ : ∀ n, (r.move b Y m).known.getD n [] = if n = b then markR r.all m r.all.length (r.known.getD b []) else r.known.getD n [] := fun n => getD_setM hbq
  have hnl : ∀ n, n < (s.move b Y i).X.nodes.length → n < s.X.nodes.length := fun n hn => by rw [← hlen]; exact hn
  refine ⟨h.inv.move hM, h.gh.move hM, rfl, h.all, h.one, h.la, h.lr, ?_, ?_, fun n hn => ?_, h.ra, h.low, fun n t hn => ?_, h.is_a, fun n k hn hk hs => ?_, fun n k hn hk => ?_, fun n j k hn hj hk => ?_, h.trb, h.sta, h.owa⟩
  · show (s.known.set b _).length = Y.nodes.length
    rw [List.length_set, h.lk, hlen]
  · show (r.known.set b _).length = Y.nodes.length
    rw [List.length_set, h.lq, hlen]
  · rw [hQ]
    split
    · rename_i e
      rw [markR_len]
      exact h.rk b hb
    · exact h.rk n (hnl n hn)
  · rw [hK, hQ]
    by_cases e : n = b
    · rw [if_pos e, if_pos e, learnS_iff, h.is_k b t hb]
      constructor
      · rintro (⟨j, hj, h1, h2⟩ | h2)
        · exact ⟨j, hj, by rw [markR_at (by rw [h.rk b hb]; exact hj), h1]; rfl, h2⟩
        · exact ⟨i, hi, by rw [markR_at (by rw [h.rk b hb]; exact hi), h.all, hm, eqM_iff.2 rfl, decide_eq_true hi]; simp, h2⟩
      · rintro ⟨j, hj, h1, h2⟩
        rw [markR_at (by rw [h.rk b hb]; exact hj), Bool.or_eq_true, Bool.and_eq_true, h.all] at h1
        rcases h1 with h1 | ⟨_, h1⟩
        · exact Or.inl ⟨j, hj, h1, h2⟩
        · obtain rfl := h.nodup_at hj hi ((eqM_iff.1 h1).trans hm.symm)
          exact Or.inr h2
    · rw [if_neg e, if_neg e]
      exact h.is_k n t (hnl n hn)
  · rw [hK]
    have h1 := h.own n k (hnl n hn) hk hs
    split
    · rename_i e
      rw [learnS_iff]
      exact Or.inl (e ▸ h1)
    · exact h1
  · rw [hK] at hk
    show _ ≤ (nd Y n).clock
    by_cases e : n = b
    · rw [if_pos e, learnS_iff] at hk
      subst e
      rw [hM.clock]
      have : (s.sent.getD k M.zero).stamp ≤ (nd s.X n).clock ∨ (s.sent.getD k M.zero).stamp ≤ m.stamp := by
        rcases hk with hk | rfl | hk
        · exact Or.inl (h.clk n k hb hk)
        · exact Or.inr (by rw [hm]; exact Int.le_refl _)
        · exact Or.inr (by have := h.sta i k hi hk; rw [hm] at this; omega)
      show (s.sent.getD k M.zero).stamp ≤ _
      omega
    · rw [if_neg e] at hk
      rw [hM.others n e]
      exact h.clk n k (hnl n hn) hk
  · rw [hK] at hj ⊢
    by_cases e : n = b
    · rw [if_pos e, learnS_iff] at hj ⊢
      rcases hj with hj | rfl | hj
      · exact Or.inl (h.tra b j k hb hj hk)
      · exact Or.inr (Or.inr hk)
      · exact Or.inr (Or.inr (h.trb i j k hi hj hk))
    · rw [if_neg e] at hj ⊢
      exact h.tra n j k (hnl n hn) hj hk
theorem send (h : Both s r) {n : Nat} {m : M} {Y : Wd} (hS : Sn s.X n m Y) : Both (s.send n Y m) (r.send n Y m) := by
  have hn := hS.at_
  have hlen := hS.like.len
  have hnk : n < s.known.length := by rw [h.lk]; exact hn
  have hnew : m ∉ s.sent := fun hm => by
    have := h.gh.clk m hm n hn hS.src
    rw [hS.stamp] at this
    omega
  have hK : ∀ k, (s.send n Y m).known.getD k emptyS = if k = n then learnS (s.known.getD n emptyS) s.sent.length (s.known.getD n emptyS) else s.known.getD k emptyS := fun k => getD_setM hnk
  have hKn : ∀ t, learnS (s.known.getD n emptyS) s.sent.length (s.known.getD n emptyS) t = true ↔ s.known.getD n emptyS t = true ∨ t = s.sent.length := fun t => by
    rw [learnS_iff]
    exact ⟨fun h => h.elim Or.inl (fun h => h.elim Or.inr Or.inl), fun h => h.elim Or.inl (fun h => Or.inr (Or.inl h))⟩
  have hQ : ∀ k, k < s.X.nodes.length → (r.send n Y m).known.getD k [] = r.known.getD k [] ++ [k == n] := fun k hk => by
    show (growR r.known n r.known.length).getD k [] = _
    rw [growR_at (by rw [h.lq]; exact hk), if_pos (by rw [h.lq]; exact hk)]
  have hA : ∀ i, i ≤ s.sent.length → (s.send n Y m).ahead.getD i emptyS = if i = s.sent.length then s.known.getD n emptyS else s.ahead.getD i emptyS := fun i hi => by
    show (s.ahead ++ [s.known.getD n emptyS]).getD i emptyS = _
    rw [getD_appM (by rw [h.la]; exact hi), h.la]
  have hR : ∀ i, i ≤ s.sent.length → (r.send n Y m).ahead.getD i [] = if i = s.sent.length then r.known.getD n [] else r.ahead.getD i [] := fun i hi => by
    show (r.ahead ++ [r.known.getD n []]).getD i [] = _
    rw [getD_appM (by rw [h.lr]; exact hi), h.lr]
  have hT : ∀ i, i ≤ s.sent.length → (s.send n Y m).sent.getD i M.zero = if i = s.sent.length then m else s.sent.getD i M.zero := fun i hi => getD_appM hi
  have hL : (s.send n Y m).sent.length = s.sent.length + 1 := by show (s.sent ++ [m]).length = _; simp
  have hrow : ∀ k, k < s.X.nodes.length → ∀ j, j ≤ s.sent.length → (r.known.getD k [] ++ [k == n]).getD j false = if j = s.sent.length then k == n else (r.known.getD k []).getD j false := fun k hk j hj => by
    rw [getD_appM (by rw [h.rk k hk]; exact hj), h.rk k hk]
  have hnl : ∀ k, k < (s.send n Y m).X.nodes.length → k < s.X.nodes.length := fun k hk => by rw [← hlen]; exact hk
  refine ⟨h.inv.cast hS, h.gh.cast hS, rfl, ?_, ?_, ?_, ?_, ?_, ?_, fun k hk => ?_, fun i hi => ?_, fun i t hi ht => ?_, fun k t hk => ?_, fun i t hi => ?_, fun k t hk ht hs => ?_, fun k t hk ht => ?_, fun k j t hk hj ht => ?_, fun i j t hi hj ht => ?_, fun i t hi ht => ?_, fun i k hi hk hs => ?_⟩
  · show r.all ++ [m] = s.sent ++ [m]
    rw [h.all]
  · show (s.sent ++ [m]).Nodup
    rw [List.nodup_append]
    exact ⟨h.one, by simp, fun x hx y hy e => hnew (by rw [List.mem_singleton] at hy; rw [← hy, ← e]; exact hx)⟩
  · show (s.ahead ++ [_]).length = (s.sent ++ [m]).length
    rw [List.length_append, List.length_append, h.la]; rfl
  · show (r.ahead ++ [_]).length = (s.sent ++ [m]).length
    rw [List.length_append, List.length_append, h.lr]; rfl
  · show (s.known.set n _).length = Y.nodes.length
    rw [List.length_set, h.lk, hlen]
  · show (growR r.known n r.known.length).length = Y.nodes.length
    rw [growR_len, h.lq, hlen]
  · rw [hQ k (hnl k hk), hL, List.length_append, h.rk k (hnl k hk)]; rfl
  · rw [hL] at hi
    rw [hR i (by omega)]
    split
    · rename_i e; rw [e]; exact h.rk n hn
    · exact h.ra i (by omega)
  · rw [hL] at hi
    rw [hA i (by omega)] at ht
    split at ht
    · rename_i e; rw [e]; exact h.lowk hn ht
    · exact h.low i t (by omega) ht
  · have hkk := hnl k hk
    rw [hK, hQ k hkk, hL]
    by_cases e : k = n
    · rw [if_pos e, hKn]
      subst e
      rw [h.is_k k t hkk]
      constructor
      · rintro (⟨j, hj, h1, h2⟩ | rfl)
        · exact ⟨j, by omega, by rw [hrow k hkk j (by omega), if_neg (by omega)]; exact h1, by rw [hA j (by omega), if_neg (by omega)]; exact h2⟩
        · exact ⟨s.sent.length, by omega, by rw [hrow k hkk _ (Nat.le_refl _), if_pos rfl]; simp, Or.inl rfl⟩
      · rintro ⟨j, hj, h1, h2⟩
        rw [hrow k hkk j (by omega)] at h1
        rw [hA j (by omega)] at h2
        by_cases ej : j = s.sent.length
        · rw [if_pos ej] at h2
          rcases h2 with h2 | h2
          · exact Or.inr (h2.trans ej)
          · exact Or.inl ((h.is_k k t hkk).1 h2)
        · rw [if_neg ej] at h1 h2
          exact Or.inl ⟨j, by omega, h1, h2⟩
    · rw [if_neg e, h.is_k k t hkk]
      constructor
      · rintro ⟨j, hj, h1, h2⟩
        exact ⟨j, by omega, by rw [hrow k hkk j (by omega), if_neg (by omega)]; exact h1, by rw [hA j (by omega), if_neg (by omega)]; exact h2⟩
      · rintro ⟨j, hj, h1, h2⟩
        rw [hrow k hkk j (by omega)] at h1
        rw [hA j (by omega)] at h2
        by_cases ej : j = s.sent.length
        · rw [if_pos ej] at h1
          exact absurd (by simpa using h1) e
        · rw [if_neg ej] at h1 h2
          exact ⟨j, by omega, h1, h2⟩
  · rw [hL] at hi
    rw [hA i (by omega), hR i (by omega)]
    by_cases e : i = s.sent.length
    · rw [if_pos e, if_pos e, h.is_k n t hn, e]
      constructor
      · rintro ⟨j, hj, h1, h2⟩
        exact ⟨j, hj, h1, by rw [hA j (by omega), if_neg (by omega)]; exact h2⟩
      · rintro ⟨j, hj, h1, h2⟩
        rw [hA j (by omega), if_neg (by omega)] at h2
        exact ⟨j, hj, h1, h2⟩
    · rw [if_neg e, if_neg e, h.is_a i t (by omega)]
      constructor
      · rintro ⟨j, hj, h1, h2⟩
        exact ⟨j, hj, h1, by rw [hA j (by omega), if_neg (by omega)]; exact h2⟩
      · rintro ⟨j, hj, h1, h2⟩
        rw [hA j (by omega), if_neg (by omega)] at h2
        exact ⟨j, hj, h1, h2⟩
  · have hk := hnl k hk
    rw [hL] at ht
    rw [hT t (by omega)] at hs
    rw [hK]
    by_cases e : t = s.sent.length
    · rw [if_pos e, hS.src] at hs
      rw [if_pos (by omega), hKn]
      exact Or.inr e
    · rw [if_neg e] at hs
      have h1 := h.own k t hk (by omega) hs
      split
      · rename_i e2; rw [hKn]; exact Or.inl (e2 ▸ h1)
      · exact h1
  · have hk := hnl k hk
    rw [hK] at ht
    show _ ≤ (nd Y k).clock
    by_cases e : k = n
    · rw [if_pos e, hKn] at ht
      rw [e, hS.clock]
      rcases ht with ht | rfl
      · have := h.lowk hn ht
        rw [hT t (by omega), if_neg (by omega)]
        have := h.clk n t hn ht
        omega
      · rw [hT _ (Nat.le_refl _), if_pos rfl, hS.stamp]
        exact Int.le_refl _
    · rw [if_neg e] at ht
      have := h.lowk hk ht
      rw [hT t (by omega), if_neg (by omega), hS.others k e]
      exact h.clk k t hk ht
  · have hk := hnl k hk
    rw [hK] at hj ⊢
    by_cases e : k = n
    · rw [if_pos e, hKn] at hj ⊢
      rcases hj with hj | rfl
      · have := h.lowk hn hj
        rw [hA j (by omega), if_neg (by omega)] at ht
        exact Or.inl (h.tra n j t hn hj ht)
      · rw [hA _ (Nat.le_refl _), if_pos rfl] at ht
        exact Or.inl ht
    · rw [if_neg e] at hj ⊢
      have := h.lowk hk hj
      rw [hA j (by omega), if_neg (by omega)] at ht
      exact h.tra k j t hk hj ht
  · rw [hL] at hi
    rw [hA i (by omega)] at hj ⊢
    by_cases e : i = s.sent.length
    · rw [if_pos e] at hj ⊢
      have := h.lowk hn hj
      rw [hA j (by omega), if_neg (by omega)] at ht
      exact h.tra n j t hn hj ht
    · rw [if_neg e] at hj ⊢
      have := h.low i j (by omega) hj
      rw [hA j (by omega), if_neg (by omega)] at ht
      exact h.trb i j t (by omega) hj ht
  · rw [hL] at hi
    rw [hA i (by omega)] at ht
    by_cases e : i = s.sent.length
    · rw [if_pos e] at ht
      have := h.lowk hn ht
      rw [hT t (by omega), hT i (by omega), if_neg (by omega), if_pos e, hS.stamp]
      have := h.clk n t hn ht
      omega
    · rw [if_neg e] at ht
      have := h.low i t (by omega) ht
      rw [hT t (by omega), hT i (by omega), if_neg (by omega), if_neg e]
      exact h.sta i t (by omega) ht
  · rw [hL] at hi
    rw [hA i (by omega)]
    rw [hT k (by omega), hT i (by omega), if_neg (by omega)] at hs
    by_cases e : i = s.sent.length
    · rw [if_pos e] at hs ⊢
      exact h.own n k hn (by omega) (hs.trans hS.src)
    · rw [if_neg e] at hs ⊢
      exact h.owa i k (by omega) hk hs
end Both
end Go.Proofs.Ytnalakhelicjcaa
