/-
  Which of n things a raw number speaks of.
-/
import Derived.Test.YtnalakhelicjcaaYLDo
set_option maxRecDepth 100000
namespace Go.Proofs.Ytnalakhelicjcaa
open Go.RowKit Go.Shelf Go.BigFrame

def chooseN (c : Int) (n : Nat) : Nat := ((if c < 0 then -(c + 1) else c) % (n : Int)).toNat
theorem chooseN_lt {c : Int} {n : Nat} (h : 0 < n) : chooseN c n < n := by
  unfold chooseN
  have h1 := Int.emod_nonneg (if c < 0 then -(c + 1) else c) (show (n : Int) ≠ 0 by omega)
  have h2 := Int.emod_lt_of_pos (if c < 0 then -(c + 1) else c) (show (0 : Int) < n by omega)
  omega
theorem choose_big (w : World) {c : Int} {n : Nat} (hc : I64 c) (h0 : 0 < n) (hn : n ≤ 1000000) : Calls Try.prog 9 #[.int .i64 c, .int .i64 n] w fun e w' => e = .returned (.int .i64 (chooseN c n : Nat)) ∧ w = w' := by
  have hv : ((chooseN c n : Nat) : Int) = (if c < 0 then -(c + 1) else c) % (n : Int) := by
    unfold chooseN
    have h1 := Int.emod_nonneg (if c < 0 then -(c + 1) else c) (show (n : Int) ≠ 0 by omega)
    omega
  unfold I64 at hc
  rw [hv]
  clear hv
  have hn0 : ((n : Int) == 0) = false := by simp; omega
  by_cases hz : c < 0
  · rw [if_pos hz]
    go_enter Try.func9, Try.ntmps9
    go_wp2
    go_ret
    exact ⟨ret_int (by rw [← Int.neg_tmod, Int.tmod_eq_emod_of_nonneg (by omega)]), rfl⟩
  · rw [if_neg hz]
    go_enter Try.func9, Try.ntmps9
    go_wp2
    go_ret
    exact ⟨rfl, rfl⟩
theorem choose_c (w : World) {c : Int} {n : Nat} (hc : I64 c) (h0 : 0 < n) (hn : n ≤ 1000) : Calls Try.prog 9 #[.int .i64 c, .int .i64 n] w fun e w' => e = .returned (.int .i64 (chooseN c n : Nat)) ∧ w = w' := choose_big w hc h0 (by omega)
end Go.Proofs.Ytnalakhelicjcaa
