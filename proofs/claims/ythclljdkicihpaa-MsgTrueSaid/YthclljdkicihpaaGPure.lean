/-
  Groups in plain words: what the program and the document compute.
-/
import Derived.Test.YthclljdkicihpaaBase
namespace Go.Proofs.Ythclljdkicihpaa
open Go.RowKit
def inB (n lo hi : Int) : Bool := decide (lo ≤ n) && decide (n ≤ hi)
theorem inB_t {n lo hi : Int} (h : inB n lo hi = true) : lo ≤ n ∧ n ≤ hi := by simpa [inB] using h
theorem inB_f {n lo hi : Int} (h : ¬ inB n lo hi = true) : n < lo ∨ hi < n := by simp [inB] at h; omega
theorem inB_mk {n lo hi : Int} (h : lo ≤ n) (h' : n ≤ hi) : inB n lo hi = true := by simp [inB, h, h']
theorem inB_no {n lo hi : Int} (h : n < lo ∨ hi < n) : inB n lo hi = false := by simp [inB]; omega
def hasB (xs : List Int) (g n : Int) : Bool :=
  decide (0 ≤ g) && decide (g < xs.length) && decide (0 ≤ n) && decide (n < 4) && (bits BinOp.and IntKind.i64 (xs.getD g.toNat 0 / 2 ^ n.toNat) 1 == 1)
theorem hasB_in {xs : List Int} {g n : Int} (h1 : 0 ≤ g) (h2 : g < xs.length) (h3 : 0 ≤ n) (h4 : n < 4) :
    hasB xs g n = (bits BinOp.and IntKind.i64 (xs.getD g.toNat 0 / 2 ^ n.toNat) 1 == 1) := by simp [hasB, *]
theorem hasB_out {xs : List Int} {g n : Int} (h : g < 0 ∨ xs.length ≤ g ∨ n < 0 ∨ 4 ≤ n) : hasB xs g n = false := by
  unfold hasB
  rcases h with h | h | h | h
  · rw [decide_eq_false (by omega : ¬ 0 ≤ g)]; simp
  · rw [decide_eq_false (by omega : ¬ g < xs.length)]; simp
  · rw [decide_eq_false (by omega : ¬ 0 ≤ n)]; simp
  · rw [decide_eq_false (by omega : ¬ n < 4)]; simp

def pow2 (n : Int) : Int := ((2 ^ n.toNat : Nat) : Int)
theorem pow2_bd {n : Int} (h : n ≤ 4) : 1 ≤ pow2 n ∧ pow2 n ≤ 16 := by
  unfold pow2
  have h1 : 2 ^ n.toNat ≤ 2 ^ 4 := Nat.pow_le_pow_right (by omega) (by omega)
  have h2 : 0 < 2 ^ n.toNat := Nat.two_pow_pos _
  omega
theorem pow2_succ {n : Int} (h : 0 ≤ n) : pow2 (n + 1) = 2 * pow2 n := by
  unfold pow2
  rw [show (n + 1).toNat = n.toNat + 1 by omega, Nat.pow_succ]
  omega

theorem wrap_pow2 {n : Int} (h0 : 0 ≤ n) (h : n ≤ 4) : wrap64 (2 ^ n.toNat) = pow2 n := by
  have : n = 0 ∨ n = 1 ∨ n = 2 ∨ n = 3 ∨ n = 4 := by omega
  rcases this with rfl | rfl | rfl | rfl | rfl <;> simp [wrap64, pow2]
/-- Is each of these a group of so many nodes? -/
def gAll (nodes : Int) (xs : List Int) : Bool := xs.all fun x => inB x 1 (pow2 nodes - 1)
theorem gAll_nil (nodes : Int) : gAll nodes [] = true := rfl
theorem getD_lt {α : Type} (xs : List α) (d : α) {k : Nat} (hk : k < xs.length) : xs.getD k d = xs[k] := by simp [hk]
theorem gAll_take {nodes : Int} {xs : List Int} {k : Nat} (hk : k < xs.length) : gAll nodes (xs.take (k + 1)) = (gAll nodes (xs.take k) && inB (xs.getD k 0) 1 (pow2 nodes - 1)) := by
  rw [List.take_succ_eq_append_getElem hk, getD_lt xs 0 hk]
  unfold gAll
  rw [List.all_append]
  simp
theorem gAll_no {nodes : Int} {xs : List Int} {k : Nat} (hk : k < xs.length) (h : inB (xs.getD k 0) 1 (pow2 nodes - 1) = false) : gAll nodes xs = false := by
  rw [← Bool.not_eq_true]
  intro hh
  have := List.all_eq_true.1 hh xs[k] (List.getElem_mem hk)
  rw [getD_lt xs 0 hk] at h
  rw [h] at this
  cases this

/-- A1: which error. -/
def gErr (nodes : Int) (xs : List Int) : Int :=
  if inB nodes 1 4 = false then 3 else if inB xs.length 1 3 = false then 2 else if gAll nodes xs = false then 1 else 0
theorem inB_ge {x p : Int} (h : 1 ≤ x) : decide (p ≤ x) = !inB x 1 (p - 1) := by
  by_cases hp : p ≤ x
  · rw [inB_no (Or.inr (by omega)), decide_eq_true hp]; rfl
  · rw [inB_mk h (by omega), decide_eq_false hp]; rfl
theorem gErr_any {nodes : Int} {xs : List Int} (h1 : inB nodes 1 4 = true) (h2 : inB xs.length 1 3 = true) :
    gErr nodes xs = if xs.any (fun x => !inB x 1 (pow2 nodes - 1)) = true then 1 else 0 := by
  rw [← List.not_all_eq_any_not]
  change _ = if (!gAll nodes xs) = true then 1 else 0
  cases h : gAll nodes xs <;> simp [gErr, h1, h2, h]
theorem take_eq_succ {α : Type} {xs ys : List α} {d : α} (h : xs.length = ys.length) {k : Nat} (hk : k < xs.length) (hg : xs.take k = ys.take k) :
    (xs.getD k d = ys.getD k d → xs.take (k + 1) = ys.take (k + 1)) ∧ (¬ xs.getD k d = ys.getD k d → ¬ xs = ys) := by
  constructor
  · intro e
    rw [List.take_succ_eq_append_getElem hk, List.take_succ_eq_append_getElem (h ▸ hk), hg]
    rw [getD_lt xs d hk, getD_lt ys d (h ▸ hk)] at e
    rw [e]
  · intro ne e
    exact ne (by rw [e])
theorem gErr_zero {nodes : Int} {xs : List Int} (h : gErr nodes xs = 0) : inB nodes 1 4 = true ∧ inB xs.length 1 3 = true ∧ gAll nodes xs = true := by
  unfold gErr at h
  cases h1 : inB nodes 1 4
  · rw [h1] at h; simp at h
  · cases h2 : inB (xs.length : Int) 1 3
    · rw [h1, h2] at h; simp at h
    · cases h3 : gAll nodes xs
      · rw [h1, h2, h3] at h; simp at h
      · exact ⟨rfl, rfl, rfl⟩
end Go.Proofs.Ythclljdkicihpaa
