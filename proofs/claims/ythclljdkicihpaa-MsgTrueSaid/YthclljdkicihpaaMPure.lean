/-
  Messages in plain words.
-/
import Derived.Test.YthclljdkicihpaaGPure
namespace Go.Proofs.Ythclljdkicihpaa
open Go.RowKit

structure M where
  src : Int
  grp : Int
  stamp : Int
  null : Bool
  body : ByteArray

def M.val (m : M) : Value := .agg #[.int .i64 m.src, .int .i64 m.grp, .int .i64 m.stamp, .bool m.null, .string m.body]
def M.cells (m : M) : List Value := [.int .i64 m.src, .int .i64 m.grp, .int .i64 m.stamp, .bool m.null, .string m.body]
/-- It came in so: its numbers and its text fit. -/
def M.fits (m : M) : Prop := I64 m.src ∧ I64 m.grp ∧ I64 m.stamp ∧ m.body.size ≤ 140737488351232

def eqM (a b : M) : Bool := a.src == b.src && (a.grp == b.grp && (a.stamp == b.stamp && (a.null == b.null && a.body.toList == b.body.toList)))
theorem eqM_iff {a b : M} : eqM a b = true ↔ a = b := by
  obtain ⟨a1, a2, a3, a4, a5⟩ := a
  obtain ⟨b1, b2, b3, b4, b5⟩ := b
  have h : a5.toList = b5.toList ↔ a5 = b5 := by
    rw [ByteArray.toList_eq, ByteArray.toList_eq]
    constructor
    · intro h
      obtain ⟨⟨x⟩⟩ := a5
      obtain ⟨⟨y⟩⟩ := b5
      exact congrArg (fun l : List UInt8 => ByteArray.mk ⟨l⟩) h
    · intro h; rw [h]
  simp [eqM, h]
def cmpI (a b : Int) : Int := if a < b then -1 else if b < a then 1 else 0
def orI (x y : Int) : Int := if x = 0 then y else x
def ordM (a b : M) : Int := orI (cmpI a.stamp b.stamp) (cmpI a.src b.src)
def lessM (a b : M) : Bool := decide (a.stamp < b.stamp) || decide (a.stamp = b.stamp) && decide (a.src < b.src)
theorem ordM_lt (a b : M) : decide (ordM a b < 0) = lessM a b := by
  unfold ordM lessM orI cmpI
  by_cases h1 : a.stamp < b.stamp
  · simp [h1]
  · by_cases h2 : b.stamp < a.stamp
    · simp [h1, h2]; omega
    · have : a.stamp = b.stamp := by omega
      by_cases h3 : a.src < b.src <;> by_cases h4 : b.src < a.src <;> simp [this, h3, h4]

theorem ordM_ge (a b : M) : decide (0 ≤ ordM a b) = !lessM a b := by
  rw [← ordM_lt]
  by_cases h : ordM a b < 0
  · rw [decide_eq_true h, decide_eq_false (by omega)]; rfl
  · rw [decide_eq_false h, decide_eq_true (by omega)]; rfl
/-- A slice of messages. -/
def Msgs (w : World) (v : Value) (ms : List M) : Prop := (∀ m ∈ ms, m.fits) ∧ Row w v ms.length 5 (ms.flatMap M.cells)
/-- The message m lies at block b from o on. -/
def MsgAt (w : World) (b o : Nat) (m : M) : Prop :=
  w.cell? ⟨b, o, none⟩ = some (.int .i64 m.src) ∧ w.cell? ⟨b, o + 1, none⟩ = some (.int .i64 m.grp) ∧ w.cell? ⟨b, o + 2, none⟩ = some (.int .i64 m.stamp) ∧
    w.cell? ⟨b, o + 3, none⟩ = some (.bool m.null) ∧ w.cell? ⟨b, o + 4, none⟩ = some (.string m.body)
theorem Msgs.below {w w' : World} {v : Value} {xs : List M} (h : Msgs w v xs) (hb : Below w.heap.size w w') : Msgs w' v xs := ⟨h.1, h.2.below hb⟩
theorem flat_len (ms : List M) : (ms.flatMap M.cells).length = ms.length * 5 := by
  induction ms with
  | nil => rfl
  | cons m ms ih => rw [List.flatMap_cons, List.length_append, ih, List.length_cons]; simp [M.cells]; omega
theorem flat_at (d : M) : ∀ (ms : List M) (k j : Nat), k < ms.length → j < 5 → (ms.flatMap M.cells)[k * 5 + j]? = (ms.getD k d).cells[j]?
  | m :: ms, 0, j, _, hj => by
    rw [List.flatMap_cons, List.getElem?_append_left (by simp [M.cells]; omega)]
    simp
  | m :: ms, k + 1, j, hk, hj => by
    rw [List.flatMap_cons, List.getElem?_append_right (by simp [M.cells]; omega)]
    have e : (k + 1) * 5 + j - m.cells.length = k * 5 + j := by simp [M.cells]; omega
    rw [e, flat_at d ms k j (by simpa using hk) hj]
    simp
  | [], _, _, h, _ => absurd h (Nat.not_lt_zero _)
def M.zero : M := ⟨0, 0, 0, false, ByteArray.empty⟩
theorem Msgs.open {w : World} {v : Value} {ms : List M} (h : Msgs w v ms) :
    ms.length * 40 ≤ 140737488351232 ∧ ∃ a cap, v = .slice a ms.length cap ∧ ms.length ≤ cap ∧
      (ms ≠ [] → ∃ b off, a = some ⟨b, off, none⟩ ∧ ∀ k, k < ms.length → MsgAt w b (off + k * 5) (ms.getD k M.zero)) := by
  obtain ⟨_, h1, h2, a, cap, h3, h4, h5⟩ := h
  refine ⟨by omega, a, cap, h3, h4, fun hn => ?_⟩
  obtain ⟨b, off, ha, hc⟩ := h5 (by simpa using hn)
  refine ⟨b, off, ha, fun k hk => ?_⟩
  have key : ∀ j, j < 5 → w.cell? ⟨b, off + k * 5 + j, none⟩ = (ms.getD k M.zero).cells[j]? := by
    intro j hj
    have h6 := hc (k * 5 + j) (by rw [flat_len]; omega)
    have h7 := flat_at M.zero ms k j hk hj
    rw [Nat.add_assoc, h6, ← h7, List.getD_eq_getElem?_getD]
    have hlt : k * 5 + j < (ms.flatMap M.cells).length := by rw [flat_len]; omega
    rw [List.getElem?_eq_getElem hlt]
    rfl
  exact ⟨key 0 (by omega), key 1 (by omega), key 2 (by omega), key 3 (by omega), key 4 (by omega)⟩
theorem MsgAt.below {w w' : World} {b o : Nat} {m : M} (h : MsgAt w b o m) (hb : Below w.heap.size w w') : MsgAt w' b o m := by
  obtain ⟨h0, h1, h2, h3, h4⟩ := h
  have hl := cell_lt h0
  exact ⟨(hb.cell (p := ⟨b, o, none⟩) hl).trans h0, (hb.cell (p := ⟨b, o + 1, none⟩) hl).trans h1, (hb.cell (p := ⟨b, o + 2, none⟩) hl).trans h2, (hb.cell (p := ⟨b, o + 3, none⟩) hl).trans h3, (hb.cell (p := ⟨b, o + 4, none⟩) hl).trans h4⟩

/-- Does the list rise? -/
def risesB : List M → Bool
  | a :: b :: l => lessM a b && risesB (b :: l)
  | _ => true
theorem risesB_take : ∀ {ms : List M} {j : Nat}, j + 1 < ms.length → risesB (ms.take (j + 1 + 1)) = (risesB (ms.take (j + 1)) && lessM (ms.getD j M.zero) (ms.getD (j + 1) M.zero))
  | a :: b :: l, 0, _ => by simp [risesB]
  | a :: b :: l, j + 1, h => by
    have ih := risesB_take (ms := b :: l) (j := j) (by simpa using h)
    simp only [List.take_succ_cons, risesB] at ih ⊢
    rw [ih]
    simp [Bool.and_assoc]
  | [], _, h => absurd h (Nat.not_lt_zero _)
  | [_], _, h => by simp at h
theorem risesB_no {ms : List M} {n : Nat} (h : risesB (ms.take n) = false) : risesB ms = false := by
  induction ms generalizing n with
  | nil => simp [risesB] at h
  | cons a ms ih =>
    cases ms with
    | nil => cases n <;> simp [risesB] at h
    | cons b l =>
      cases n with
      | zero => simp [risesB] at h
      | succ n =>
        cases n with
        | zero => simp [risesB] at h
        | succ n =>
          simp only [List.take_succ_cons, risesB, Bool.and_eq_false_iff] at h ⊢
          rcases h with h | h
          · exact Or.inl h
          · exact Or.inr (ih (n := n + 1) (by simpa using h))
/-- Are two lists of messages the same? -/
def sameMs : List M → List M → Bool
  | [], [] => true
  | a :: xs, b :: ys => eqM a b && sameMs xs ys
  | _, _ => false
theorem sameMs_iff : ∀ {xs ys : List M}, sameMs xs ys = true ↔ xs = ys
  | [], [] => by simp [sameMs]
  | a :: xs, b :: ys => by simp [sameMs, eqM_iff, sameMs_iff (xs := xs) (ys := ys)]
  | [], _ :: _ => by simp [sameMs]
  | _ :: _, [] => by simp [sameMs]
theorem sameMs_take {xs ys : List M} (h : xs.length = ys.length) {k : Nat} (hk : k < xs.length) (hg : sameMs (xs.take k) (ys.take k) = true) :
    (eqM (xs.getD k M.zero) (ys.getD k M.zero) = true → sameMs (xs.take (k + 1)) (ys.take (k + 1)) = true) ∧ (eqM (xs.getD k M.zero) (ys.getD k M.zero) = false → sameMs xs ys = false) := by
  rw [sameMs_iff] at hg ⊢
  have := take_eq_succ (d := M.zero) h hk hg
  rw [eqM_iff]
  refine ⟨this.1, fun hne => ?_⟩
  rw [← Bool.not_eq_true, sameMs_iff]
  refine this.2 (fun e => ?_)
  rw [eqM_iff.2 e] at hne
  cases hne
theorem sameMs_len {xs ys : List M} (h : ¬ xs.length = ys.length) : sameMs xs ys = false := by
  rw [← Bool.not_eq_true, sameMs_iff]
  intro e
  exact h (by rw [e])
/-- B1, of right groups: which error. -/
def inRange (nodes : Int) (xs : List Int) (m : M) : Prop := 0 ≤ m.src ∧ m.src < nodes ∧ 0 ≤ m.grp ∧ m.grp < xs.length ∧ 1 ≤ m.stamp ∧ m.stamp ≤ 1048576
instance (nodes : Int) (xs : List Int) (m : M) : Decidable (inRange nodes xs m) := by unfold inRange; infer_instance
def rightE (nodes : Int) (xs : List Int) (m : M) : Int :=
  if inRange nodes xs m then
    if hasB xs m.grp m.src = true then if 8 < (m.body.size : Int) then 1 else if m.null = true ∧ m.body.toList.isEmpty = false then 1 else 0 else 5
  else 3
def msgE (nodes : Int) (xs : List Int) (m : M) : Int := if gErr nodes xs = 0 then rightE nodes xs m else gErr nodes xs
theorem rightE_3 {n : Int} {xs : List Int} {m : M} (h : ¬ inRange n xs m) : rightE n xs m = 3 := by rw [rightE, if_neg h]
theorem rightE_5 {n : Int} {xs : List Int} {m : M} (h : inRange n xs m) (hh : hasB xs m.grp m.src = false) : rightE n xs m = 5 := by rw [rightE, if_pos h, if_neg (by rw [hh]; simp)]
theorem rightE_1a {n : Int} {xs : List Int} {m : M} (h : inRange n xs m) (hh : hasB xs m.grp m.src = true) (hb : 8 < (m.body.size : Int)) : rightE n xs m = 1 := by
  rw [rightE, if_pos h, if_pos hh, if_pos hb]
theorem rightE_1b {n : Int} {xs : List Int} {m : M} (h : inRange n xs m) (hh : hasB xs m.grp m.src = true) (hb : ¬ 8 < (m.body.size : Int)) (hn : m.null = true) (he : m.body.toList.isEmpty = false) : rightE n xs m = 1 := by
  rw [rightE, if_pos h, if_pos hh, if_neg hb, if_pos ⟨hn, he⟩]
theorem rightE_0a {n : Int} {xs : List Int} {m : M} (h : inRange n xs m) (hh : hasB xs m.grp m.src = true) (hb : ¬ 8 < (m.body.size : Int)) (hn : m.null = false) : rightE n xs m = 0 := by
  rw [rightE, if_pos h, if_pos hh, if_neg hb, if_neg (by rw [hn]; simp)]
theorem rightE_0b {n : Int} {xs : List Int} {m : M} (h : inRange n xs m) (hh : hasB xs m.grp m.src = true) (hb : ¬ 8 < (m.body.size : Int)) (he : m.body.toList.isEmpty = true) : rightE n xs m = 0 := by
  rw [rightE, if_pos h, if_pos hh, if_neg hb, if_neg (by rw [he]; simp)]
/-- A message in a box of its own. -/
def MsgBox (w : World) (b : Nat) (m : M) : Prop :=
  w.cell? ⟨b, 0, none⟩ = some (.int .i64 m.src) ∧ w.cell? ⟨b, 1, none⟩ = some (.int .i64 m.grp) ∧ w.cell? ⟨b, 2, none⟩ = some (.int .i64 m.stamp) ∧
    w.cell? ⟨b, 3, none⟩ = some (.bool m.null) ∧ w.cell? ⟨b, 4, none⟩ = some (.string m.body)
theorem MsgBox.new (w : World) (m : M) (t : TypeId) : MsgBox (w.alloc (.cells #[.int .i64 m.src, .int .i64 m.grp, .int .i64 m.stamp, .bool m.null, .string m.body] t)) w.heap.size m := by
  unfold MsgBox
  simp
theorem MsgBox.below {w w' : World} {b B : Nat} {m : M} (h : MsgBox w b m) (hb : Below B w w') (hB : b < B) : MsgBox w' b m := by
  obtain ⟨h0, h1, h2, h3, h4⟩ := h
  exact ⟨(hb.cell (p := ⟨b, 0, none⟩) hB).trans h0, (hb.cell (p := ⟨b, 1, none⟩) hB).trans h1, (hb.cell (p := ⟨b, 2, none⟩) hB).trans h2, (hb.cell (p := ⟨b, 3, none⟩) hB).trans h3, (hb.cell (p := ⟨b, 4, none⟩) hB).trans h4⟩
theorem rightE_cases (n : Int) (xs : List Int) (m : M) : (¬ inRange n xs m → rightE n xs m = 3) ∧ (inRange n xs m →
    (hasB xs m.grp m.src = false → rightE n xs m = 5) ∧ (hasB xs m.grp m.src = true →
      (8 < (m.body.size : Int) → rightE n xs m = 1) ∧ (¬ 8 < (m.body.size : Int) →
        (m.null = false → rightE n xs m = 0) ∧ (m.null = true → m.body.toList.isEmpty = false → rightE n xs m = 1) ∧ (m.body.toList.isEmpty = true → rightE n xs m = 0)))) :=
  ⟨rightE_3, fun h => ⟨rightE_5 h, fun hh => ⟨rightE_1a h hh, fun hb => ⟨rightE_0a h hh hb, fun a b => rightE_1b h hh hb a b, rightE_0b h hh hb⟩⟩⟩⟩
end Go.Proofs.Ythclljdkicihpaa
