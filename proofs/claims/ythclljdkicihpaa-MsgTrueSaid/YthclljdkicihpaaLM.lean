/-
  Messages: what must be in any case.
-/
import Derived.Test.YthclljdkicihpaaPutR
namespace Go.Proofs.Ythclljdkicihpaa
open Go.RowKit Go.Shelf Go.BigFrame

theorem say_c (w : World) (n g s : Int) (b : ByteArray) : Calls Try.prog 14 #[.int .i64 n, .int .i64 g, .int .i64 s, .string b] w (GivesB (M.val ⟨n, g, s, false, b⟩) w) := by
  go_enter Try.func14, Try.ntmps14
  go_wp2_with fail
  refine bodyPost_ret (v := M.val ⟨n, g, s, false, b⟩) ?_ rfl ⟨rfl, below_a1 _ _⟩
  simp [results, Try.f14, M.val]
  go_simp

instance : DecidableEq M := fun a b => decidable_of_iff (eqM a b = true) eqM_iff
def mA : M := ⟨0, 0, 1, false, ⟨#[97]⟩⟩
def mC : M := ⟨1, 1, 3, false, ⟨#[99]⟩⟩
def mB : M := ⟨2, 1, 1, false, ⟨#[98]⟩⟩
def mB0 : M := ⟨0, 0, 1, false, ⟨#[98]⟩⟩
def mA2 : M := ⟨0, 0, 2, false, ⟨#[97]⟩⟩
def mB3 : M := ⟨0, 0, 3, false, ⟨#[98]⟩⟩
theorem Msgs.lit (w : World) (ms : List M) (hf : ∀ m ∈ ms, m.fits) (hl : ms.length ≤ 100) (cs : Array Value) (hc : cs = (ms.flatMap M.cells).toArray) :
    Msgs (w.alloc (.cells cs 24)) (.slice (some ⟨w.heap.size, 0, none⟩) ms.length ms.length) ms := by
  subst hc
  have h := World.ownsRow_lit (base := 0) (e := 24) (size := 5) w (ms.flatMap M.cells).toArray ms.length (Nat.zero_le _) (by unfold maxLen; omega) (by rw [List.size_toArray, flat_len])
  exact MsgsOwn.msgs ⟨hf, by simpa using h⟩ (by omega)

set_option maxHeartbeats 1000000 in
theorem msgBegun_c (w : World) : Calls Try.prog 6 #[] w (GivesB (.bool true) w) := by
  go_enter Try.func6, Try.ntmps6
  go_wp2_with fail
  refine (say_c _ _ _ _ _).mono ?_
  rintro e1 w1 ⟨rfl, b1⟩
  unfold M.val
  go_wp2_with fail
  refine (say_c _ _ _ _ _).mono ?_
  rintro e2 w2 ⟨rfl, b2⟩
  unfold M.val
  go_wp2_with fail
  refine (say_c _ _ _ _ _).mono ?_
  rintro e3 w3 ⟨rfl, b3⟩
  have hl := (Msgs.lit w2 [mA, mC] (by simp [M.fits, I64, mA, mC]; decide) (by simp) #[.int .i64 0, .int .i64 0, .int .i64 1, .bool false, .string ⟨#[97]⟩, .int .i64 1, .int .i64 1, .int .i64 3, .bool false, .string ⟨#[99]⟩] rfl).below b3
  have hP := Put_c hl (m := mB) (by simp [M.fits, I64, mB]; decide)
  unfold M.val
  go_wp2_with fail
  refine hP.mono ?_
  rintro e4 w4 ⟨v4, rfl, ho4, b4⟩
  rw [show putE [mA, mC] mB = 0 from by decide +kernel]
  rw [show putL [mA, mC] mB = [mA, mB, mC] from by decide +kernel] at ho4
  go_wp2_with fail
  refine (say_c _ _ _ _ _).mono ?_
  rintro e5 w5 ⟨rfl, b5⟩
  unfold M.val
  go_wp2_with fail
  refine (say_c _ _ _ _ _).mono ?_
  rintro e6 w6 ⟨rfl, b6⟩
  unfold M.val
  have hl := (Msgs.lit w5 [mA] (by simp [M.fits, I64, mA]; decide) (by simp) #[.int .i64 0, .int .i64 0, .int .i64 1, .bool false, .string ⟨#[97]⟩] rfl).below b6
  have hP := Put_c hl (m := mB0) (by simp [M.fits, I64, mB0]; decide)
  go_wp2_with fail
  refine hP.mono ?_
  rintro e7 w7 ⟨v7, rfl, ho7, b7⟩
  rw [show putE [mA] mB0 = 1 from by decide +kernel]
  go_wp2_with fail
  refine (say_c _ _ _ _ _).mono ?_
  rintro e8 w8 ⟨rfl, b8⟩
  unfold M.val
  go_wp2_with fail
  refine (say_c _ _ _ _ _).mono ?_
  rintro e9 w9 ⟨rfl, b9⟩
  unfold M.val
  go_wp2_with fail
  refine (say_c _ _ _ _ _).mono ?_
  rintro e10 w10 ⟨rfl, b10⟩
  unfold M.val
  have hl := (Msgs.lit w9 [mA2, mA] (by simp [M.fits, I64, mA, mA2]; decide) (by simp) #[.int .i64 0, .int .i64 0, .int .i64 2, .bool false, .string ⟨#[97]⟩, .int .i64 0, .int .i64 0, .int .i64 1, .bool false, .string ⟨#[97]⟩] rfl).below b10
  have hP := Put_c hl (m := mB3) (by simp [M.fits, I64, mB3]; decide)
  go_wp2_with fail
  refine hP.mono ?_
  rintro e11 w11 ⟨v11, rfl, ho11, b11⟩
  rw [show putE [mA2, mA] mB3 = 1 from by decide +kernel]
  have h411 := below_trans (below_trans (below_trans (below_trans (below_trans (below_trans (below_trans (below_trans b5 (below_a1 w5 _)) b6) b7) b8) b9) (below_a1 w9 _)) b10) b11
  have h011 := below_trans (below_trans (below_trans (below_trans (below_trans b1 b2) (below_a1 w2 _)) b3) b4) h411
  have hv4 := (ho4.msgs (by simp)).below h411
  obtain ⟨_, a4, cap4, rfl, _, hc4⟩ := hv4.open
  obtain ⟨bb, off, rfl, hcc⟩ := hc4 (by simp)
  obtain ⟨d0, d1, d2, d3, d4⟩ := hcc 1 (by simp)
  have heq : ∀ w, (binOp .eql 24 (.agg #[.int .i64 2, .int .i64 1, .int .i64 1, .bool false, .string ⟨#[98]⟩]) (.agg #[.int .i64 2, .int .i64 1, .int .i64 1, .bool false, .string ⟨#[98]⟩])).run Try.prog w = .ok (.bool true) w := fun w =>
    (eql_msg mB mB w).trans (by rw [show eqM mB mB = true from by decide +kernel])
  clear hl hP hc4 hcc
  change _ = some (Value.int .i64 2) at d0
  change _ = some (Value.int .i64 1) at d1
  change _ = some (Value.int .i64 1) at d2
  change _ = some (Value.bool false) at d3
  change _ = some (Value.string ⟨#[98]⟩) at d4
  have hbb := cell_lt d0
  dsimp only at hbb
  have hsay := fun (w : World) => say_c w 2 1 1 ⟨#[98]⟩
  simp only [M.val] at hsay
  go_wp2_with fail
  refine wp_region_over_tail 21 (by kernel_rfl) (by kernel_rfl) ?_
  simp only [List.take_succ_cons, List.take_zero, List.drop_succ_cons, List.drop_zero]
  repeat (go_big_quiet_step (exact over_c (hsay _)))
  refine wpQuiet_nil ?_
  rintro w12 ⟨⟨_, b12⟩, rfl⟩
  go_wp2_with fail
  refine (two_c _).mono ?_
  rintro e13 w13 ⟨v13, rfl, i13, b13⟩
  go_wp2_with fail
  refine (say_c _ _ _ _ _).mono ?_
  rintro e14 w14 ⟨rfl, b14⟩
  unfold M.val
  have hc := MCheck_c (i13.below b14) 3 ⟨1, 1, 5, false, ⟨#[120]⟩⟩
  rw [show msgE 3 [3, 6] ⟨1, 1, 5, false, ⟨#[120]⟩⟩ = 0 from by decide +kernel] at hc
  simp only [M.val] at hc
  go_wp2_with fail
  refine hc.mono ?_
  clear hc
  rintro e15 w15 ⟨rfl, b15⟩
  go_wp2_with fail
  refine (two_c _).mono ?_
  rintro e16 w16 ⟨v16, rfl, i16, b16⟩
  go_wp2_with fail
  refine (say_c _ _ _ _ _).mono ?_
  rintro e17 w17 ⟨rfl, b17⟩
  unfold M.val
  have hc := MCheck_c (i16.below b17) 3 ⟨0, 1, 5, false, ⟨#[120]⟩⟩
  rw [show msgE 3 [3, 6] ⟨0, 1, 5, false, ⟨#[120]⟩⟩ = 5 from by decide +kernel] at hc
  simp only [M.val] at hc
  go_wp2_with fail
  refine hc.mono ?_
  clear hc
  rintro e18 w18 ⟨rfl, b18⟩
  go_wp2_with fail
  refine (two_c _).mono ?_
  rintro e19 w19 ⟨v19, rfl, i19, b19⟩
  go_wp2_with fail
  refine (say_c _ _ _ _ _).mono ?_
  rintro e20 w20 ⟨rfl, b20⟩
  unfold M.val
  have hc := MCheck_c (i19.below b20) 3 ⟨1, 1, 0, false, ⟨#[120]⟩⟩
  rw [show msgE 3 [3, 6] ⟨1, 1, 0, false, ⟨#[120]⟩⟩ = 3 from by decide +kernel] at hc
  simp only [M.val] at hc
  go_wp2_with fail
  refine hc.mono ?_
  clear hc
  rintro e21 w21 ⟨rfl, b21⟩
  go_wp2_with fail
  refine (two_c _).mono ?_
  rintro e22 w22 ⟨v22, rfl, i22, b22⟩
  go_wp2_with fail
  refine (say_c _ _ _ _ _).mono ?_
  rintro e23 w23 ⟨rfl, b23⟩
  unfold M.val
  have hc := MCheck_c (i22.below b23) 3 ⟨1, 1, 1, false, ⟨#[49, 50, 51, 52, 53, 54, 55, 56, 57]⟩⟩
  rw [show msgE 3 [3, 6] ⟨1, 1, 1, false, ⟨#[49, 50, 51, 52, 53, 54, 55, 56, 57]⟩⟩ = 1 from by decide +kernel] at hc
  simp only [M.val] at hc
  go_wp2_with fail
  refine hc.mono ?_
  clear hc
  rintro e24 w24 ⟨rfl, b24⟩
  go_wp2_with fail
  refine (say_c _ _ _ _ _).mono ?_
  rintro e25 w25 ⟨rfl, b25⟩
  unfold M.val
  go_wp2_with fail
  refine (say_c _ _ _ _ _).mono ?_
  rintro e26 w26 ⟨rfl, b26⟩
  unfold M.val
  have hc := Less_c w26 ⟨2, 1, 1, false, ⟨#[]⟩⟩ ⟨0, 0, 2, false, ⟨#[]⟩⟩
  rw [show lessM ⟨2, 1, 1, false, ⟨#[]⟩⟩ ⟨0, 0, 2, false, ⟨#[]⟩⟩ = true from by decide +kernel] at hc
  simp only [M.val] at hc
  go_wp2_with fail
  refine hc.mono ?_
  clear hc
  rintro e27 w27 ⟨rfl, b27⟩
  go_wp2_with fail
  refine (say_c _ _ _ _ _).mono ?_
  rintro e28 w28 ⟨rfl, b28⟩
  unfold M.val
  go_wp2_with fail
  refine (say_c _ _ _ _ _).mono ?_
  rintro e29 w29 ⟨rfl, b29⟩
  unfold M.val
  have hc := Less_c w29 ⟨0, 0, 1, false, ⟨#[]⟩⟩ ⟨2, 1, 1, false, ⟨#[]⟩⟩
  rw [show lessM ⟨0, 0, 1, false, ⟨#[]⟩⟩ ⟨2, 1, 1, false, ⟨#[]⟩⟩ = true from by decide +kernel] at hc
  simp only [M.val] at hc
  go_wp2_with fail
  refine hc.mono ?_
  clear hc
  rintro e30 w30 ⟨rfl, b30⟩
  go_wp2_with fail
  refine (say_c _ _ _ _ _).mono ?_
  rintro e31 w31 ⟨rfl, b31⟩
  unfold M.val
  go_wp2_with fail
  refine (say_c _ _ _ _ _).mono ?_
  rintro e32 w32 ⟨rfl, b32⟩
  unfold M.val
  have hc := Less_c w32 ⟨0, 0, 1, false, ⟨#[]⟩⟩ ⟨0, 0, 1, false, ⟨#[120]⟩⟩
  rw [show lessM ⟨0, 0, 1, false, ⟨#[]⟩⟩ ⟨0, 0, 1, false, ⟨#[120]⟩⟩ = false from by decide +kernel] at hc
  simp only [M.val] at hc
  go_wp2_with fail
  refine hc.mono ?_
  clear hc
  rintro e33 w33 ⟨rfl, b33⟩
  go_wp2_with fail
  go_ret
  exact givesB_bool (below_trans (below_trans (below_trans (below_trans (below_trans (below_trans (below_trans (below_trans (below_trans (below_trans (below_trans (below_trans (below_trans (below_trans (below_trans (below_trans (below_trans (below_trans (below_trans (below_trans (below_trans (below_trans h011 b12) b13) b14) b15) b16) b17) b18) b19) b20) b21) b22) b23) b24) b25) b26) b27) b28) b29) b30) b31) b32) b33) rfl
end Go.Proofs.Ythclljdkicihpaa
