/-
  A log, in plain words: the acts that a text begins with.
-/
import Derived.Test.YtnalakhelicjcaaGreatKD
import Derived.Laws.Strings3
set_option maxRecDepth 100000
namespace Go.Proofs.YtnalakhelicjcaaGreat
open Go.RowKit

/-- Byte k of a text (0, if it has none). -/
def bt (s : ByteArray) (k : Nat) : Int := if h : k < s.size then ((s[k]'h).toNat : Int) else 0
theorem bt_eq {s : ByteArray} {k : Nat} (h : k < s.size) : bt s k = ((s[k]'h).toNat : Int) := by unfold bt; rw [dif_pos h]
theorem bt_pos (s : ByteArray) (k : Nat) : 0 ≤ bt s k ∧ bt s k ≤ 255 := by
  unfold bt
  split
  · have := (s[k]'‹_›).toNat_lt
    omega
  · omega
/-- Does it begin with a whole act? where is its end? the act; what is behind it. -/
def okA (s : ByteArray) : Bool := decide (4 ≤ s.size) && decide (4 + bt s 3 ≤ (s.size : Int))
def endA (s : ByteArray) : Nat := 4 + (bt s 3).toNat
def headA (s : ByteArray) : Ac := ⟨bt s 0, bt s 1, bt s 2, s.extract 4 (endA s)⟩
def restA (s : ByteArray) : ByteArray := s.extract (endA s) s.size
theorem okA_iff {s : ByteArray} : okA s = true ↔ 4 ≤ s.size ∧ endA s ≤ s.size := by
  unfold okA endA
  have := bt_pos s 3
  simp only [Bool.and_eq_true, decide_eq_true_eq]
  omega
theorem restA_size {s : ByteArray} (h : okA s = true) : (restA s).size = s.size - endA s ∧ 4 ≤ endA s ∧ endA s ≤ s.size := by
  obtain ⟨h1, h2⟩ := okA_iff.1 h
  refine ⟨by unfold restA; rw [ByteArray.size_extract]; omega, by unfold endA; omega, h2⟩
theorem headA_fits {s : ByteArray} (h : okA s = true) (hs : s.size ≤ 4096) : (headA s).fits := by
  have h0 := bt_pos s 0
  have h1 := bt_pos s 1
  have h2 := bt_pos s 2
  obtain ⟨_, h3, h4⟩ := restA_size h
  refine ⟨by show I64 (bt s 0); unfold I64; omega, by show I64 (bt s 1); unfold I64; omega, by show I64 (bt s 2); unfold I64; omega, ?_⟩
  show (s.extract 4 (endA s)).size ≤ _
  rw [ByteArray.size_extract]
  omega
/-- The acts, one behind the other, and what is behind each. -/
def stepsA : Nat → ByteArray → List (Ac × ByteArray)
  | 0, _ => []
  | f + 1, s => if okA s = true then (headA s, restA s) :: stepsA f (restA s) else []
theorem stepsA_fuel : ∀ (f g : Nat) (s : ByteArray), s.size ≤ f → s.size ≤ g → stepsA f s = stepsA g s
  | 0, 0, _, _, _ => rfl
  | 0, g + 1, s, h, _ => by
    have : okA s = false := by
      rw [Bool.eq_false_iff]
      intro h2
      have := (okA_iff.1 h2).1
      omega
    rw [stepsA, stepsA, this]
    rfl
  | f + 1, 0, s, _, h => by
    have : okA s = false := by
      rw [Bool.eq_false_iff]
      intro h2
      have := (okA_iff.1 h2).1
      omega
    rw [stepsA, stepsA, this]
    rfl
  | f + 1, g + 1, s, h1, h2 => by
    rw [stepsA, stepsA]
    cases ho : okA s
    · rfl
    · have := restA_size ho
      rw [if_pos rfl, if_pos rfl, stepsA_fuel f g (restA s) (by omega) (by omega)]
def allA (s : ByteArray) : List (Ac × ByteArray) := stepsA s.size s
theorem allA_no {s : ByteArray} (h : okA s = false) : allA s = [] := by
  unfold allA
  cases s.size with
  | zero => rfl
  | succ f => rw [stepsA, h]; rfl
theorem allA_ok {s : ByteArray} (h : okA s = true) : allA s = (headA s, restA s) :: allA (restA s) := by
  have hr := restA_size h
  unfold allA
  obtain ⟨f, hf⟩ : ∃ f, s.size = f + 1 := ⟨s.size - 1, by omega⟩
  rw [hf, stepsA, if_pos h, stepsA_fuel f (restA s).size (restA s) (by omega) (Nat.le_refl _)]
theorem allA_len : ∀ (f : Nat) (s : ByteArray), s.size ≤ f → 4 * (allA s).length ≤ s.size
  | 0, s, h => by
    rw [allA_no (by rw [Bool.eq_false_iff]; intro h2; have := (okA_iff.1 h2).1; omega)]
    simp
  | f + 1, s, h => by
    cases ho : okA s
    · rw [allA_no ho]; simp
    · have hr := restA_size ho
      rw [allA_ok ho, List.length_cons]
      have := allA_len f (restA s) (by omega)
      omega
theorem allA_fits : ∀ (f : Nat) (s : ByteArray), s.size ≤ f → s.size ≤ 4096 → ∀ z ∈ allA s, z.1.fits
  | 0, s, h, _ => by
    rw [allA_no (by rw [Bool.eq_false_iff]; intro h2; have := (okA_iff.1 h2).1; omega)]
    simp
  | f + 1, s, h, h4 => by
    cases ho : okA s
    · rw [allA_no ho]; simp
    · have hr := restA_size ho
      rw [allA_ok ho]
      intro z hz
      rcases List.mem_cons.1 hz with rfl | hz
      · exact headA_fits ho h4
      · exact allA_fits f (restA s) (by omega) (by omega) z hz
/-- What is behind the first k. -/
def leftA (s : ByteArray) (l : List (Ac × ByteArray)) : ByteArray := (l.map (·.2)).getLastD s
theorem leftA_snoc (s : ByteArray) (l : List (Ac × ByteArray)) (z : Ac × ByteArray) : leftA s (l ++ [z]) = z.2 := by
  unfold leftA
  rw [List.map_append, List.map_singleton, List.getLastD_concat]
theorem leftA_size : ∀ (f : Nat) (s : ByteArray), s.size ≤ f → ∀ pre suf, allA s = pre ++ suf → (leftA s pre).size ≤ s.size
  | 0, s, h, pre, suf, e => by
    rw [allA_no (by rw [Bool.eq_false_iff]; intro h2; have := (okA_iff.1 h2).1; omega)] at e
    rw [show pre = [] from (List.append_eq_nil_iff.1 e.symm).1]
    exact Nat.le_refl _
  | f + 1, s, h, pre, suf, e => by
    cases ho : okA s
    · rw [allA_no ho] at e
      rw [show pre = [] from (List.append_eq_nil_iff.1 e.symm).1]
      exact Nat.le_refl _
    · have hr := restA_size ho
      rw [allA_ok ho] at e
      cases pre with
      | nil => exact Nat.le_refl _
      | cons z pre =>
        rw [List.cons_append] at e
        obtain ⟨e1, e2⟩ := List.cons.inj e
        have h2 := leftA_size f (restA s) (by omega) pre suf e2
        have : leftA s (z :: pre) = leftA (restA s) pre := by
          unfold leftA
          rw [List.map_cons, List.getLastD_cons, ← e1]
        rw [this]
        omega
/-- What Replay answers. -/
def replayL (t : ByteArray) : List (Ac × ByteArray) := if t.size ≤ 4096 then (allA t).take 80 else []
def replayA (t : ByteArray) : List Ac := (replayL t).map (·.1)
def replayN (t : ByteArray) : Int := if t.size ≤ 4096 then (t.size : Int) - (leftA t (replayL t)).size else 0
def replayE (t : ByteArray) : Int := if t.size ≤ 4096 then 0 else 2
theorem replayA_len (t : ByteArray) : (replayA t).length ≤ 80 := by
  unfold replayA replayL
  rw [List.length_map]
  split
  · rw [List.length_take]; omega
  · simp
theorem replayA_fits (t : ByteArray) : ∀ x ∈ replayA t, x.fits := by
  unfold replayA replayL
  intro x hx
  obtain ⟨z, hz, rfl⟩ := List.mem_map.1 hx
  split at hz
  · exact allA_fits t.size t (Nat.le_refl _) ‹_› z (List.mem_of_mem_take hz)
  · cases hz
end Go.Proofs.YtnalakhelicjcaaGreat
