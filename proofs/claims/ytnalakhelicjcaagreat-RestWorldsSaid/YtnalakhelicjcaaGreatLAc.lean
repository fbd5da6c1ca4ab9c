/-
  log.acts: the loop over the acts that a text begins with.
-/
import Derived.Test.YtnalakhelicjcaaGreatRfB
import Derived.Test.YtnalakhelicjcaaGreatLAp
import Derived.Test.YtnalakhelicjcaaGreatKT
import Derived.Test.YtnalakhelicjcaaGreatKO
import Derived.BigQuiet
import Derived.Laws.DeepStrings4
set_option maxRecDepth 100000
namespace Go.Proofs.YtnalakhelicjcaaGreat
open Go.RowKit Go.Shelf
attribute [local go_sem] Oper.semAt_some

def strAt (w : World) (B : Nat) : ByteArray := match w.cell? ⟨B, 0, none⟩ with | some (.string s) => s | _ => ⟨#[]⟩
theorem strAt_eq {w : World} {B : Nat} {s : ByteArray} (h : w.cell? ⟨B, 0, none⟩ = some (.string s)) : strAt w B = s := by unfold strAt; rw [h]

set_option maxHeartbeats 2000000 in
theorem acts1_in (n : Nat) (hn : 1 ≤ n) (l B : Nat) (t : ByteArray) (ht : t.size ≤ 4096) (J Jx : List (Ac × ByteArray) → World → Prop)
    (W : World) (hJ : AbidesFrom W.heap.size J) (hJB : ∀ s A v, J s A → J s (A.setCell ⟨B, 0, none⟩ v)) (hB : W.heap[B]? = some (.cells #[.string t] 9 (0, 0)))
    (hY : ∀ pre x W1, J pre W1 → pre.length < t.size → YieldAt Fence.wide (n - 1) Tryz.prog l #[x.1.val, .string x.2] W1 fun e W' => (e = .returned (.bool true) ∧ J (pre ++ [x]) W' ∧ W'.heap[B]? = W1.heap[B]?) ∨ (e = .returned (.bool false) ∧ Jx (pre ++ [x]) W'))
    (h0 : J [] W) :
    CallsIn Fence.wide n Tryz.prog 59 #[.func (.yield l) #[] #[], .pointer (some ⟨B, 0, none⟩)] W fun e W' => (∃ v, e = .returned v) ∧ ((∃ xs, xs = allA t ∧ J xs W') ∨ ∃ pre, (∃ suf, allA t = pre ++ suf) ∧ Jx pre W') := by
  refine callsIn_of_wp Tryz.func59 rfl trivial ?_ rfl
  simp only [Tryz.ntmps59, List.size_toArray, List.length_cons, List.length_nil, Nat.reduceAdd, Nat.reduceSub, Array.replicate_succ, Array.replicate_zero, List.push_toArray, List.append_toArray, List.nil_append, List.cons_append]
  gi_wp2
  gi_loopw [] (fun wr => ∃ (s : ByteArray) (pre : List (Ac × ByteArray)), wr.heap[B]? = some (.cells #[.string s] 9 (0, 0)) ∧ Hid (allA t = pre ++ allA s) ∧ s.size ≤ 4096 ∧ J pre wr) (fun wr => (strAt wr B).size)
  case atStart => exact ⟨t, [], hB, rfl, ht, h0⟩
  case round =>
    obtain ⟨s, pre, hBs, hal, hs, hj⟩ := hrel
    have hcB : wr.cell? ⟨B, 0, none⟩ = some (.string s) := by simp [World.cell?, hBs]
    have hcB0 := Lib.hid hcB
    have hfB : wr.frozen? ⟨B, 0, none⟩ = false := by simp [World.frozen?, hBs]
    have hBlt : B < wr.heap.size := (Array.getElem?_eq_some_iff.1 hBs).1
    have hok : okA s = true ↔ 4 ≤ s.size ∧ 4 + bt s 3 ≤ (s.size : Int) := by unfold okA; rw [Bool.and_eq_true, decide_eq_true_iff, decide_eq_true_iff]
    by_cases h4 : 4 ≤ s.size
    rotate_left
    · have hal0 := hal.out
      rw [allA_no (s := s) (by rw [Bool.eq_false_iff]; intro h; exact h4 (hok.1 h).1), List.append_nil] at hal0
      have hq1 : decide (4 ≤ (s.size : Int)) = false := decide_eq_false (by omega)
      replace hal0 := Lib.hid hal0
      clear hok
      gi_wp2
      refine wpIn_wide.2 ?_
      go_quiet (fail)
      all_goals
        gi_wp2
        go_end0
        exact ⟨⟨_, rfl⟩, .inl ⟨_, hal0.out.symm, abides_step hJ (W := wr) hj (below_drewN wr _)⟩⟩
    have hq1 : decide (4 ≤ (s.size : Int)) = true := decide_eq_true (by omega)
    have hb3 := bt_pos s 3
    rw [bt_eq (show 3 < s.size by omega)] at hok hb3
    obtain ⟨c3, hc3⟩ : ∃ c3, (s[3]'(by omega)).toNat = c3 := ⟨_, rfl⟩
    rw [hc3] at hok hb3
    have hw3 : IntKind.i64.wrap (c3 : Int) = c3 := IntWalk.i64_in _ (by omega)
    have hw34 : IntKind.i64.wrap (4 + (c3 : Int)) = 4 + (c3 : Int) := IntWalk.i64_in _ (by omega)
    by_cases h5 : 4 + (c3 : Int) ≤ s.size
    rotate_left
    · have hal0 := hal.out
      rw [allA_no (s := s) (by rw [Bool.eq_false_iff]; intro h; exact h5 (hok.1 h).2), List.append_nil] at hal0
      have hq2 : decide (4 + (c3 : Int) ≤ (s.size : Int)) = false := decide_eq_false h5
      replace hal0 := Lib.hid hal0
      clear hok h5
      gi_wp2
      refine wpIn_wide.2 ?_
      go_quiet (fail)
      all_goals
        gi_wp2
        go_end0
        exact ⟨⟨_, rfl⟩, .inl ⟨_, hal0.out.symm, abides_step hJ (W := wr) hj (below_drewN wr _)⟩⟩
    have hoks : okA s = true := hok.2 ⟨h4, h5⟩
    have hhd : headA s = ⟨(s[0]'(by omega)).toNat, (s[1]'(by omega)).toNat, (s[2]'(by omega)).toNat, s.extract 4 (4 + c3)⟩ ∧ restA s = s.extract (4 + c3) s.size := by
      have e : endA s = 4 + c3 := by unfold endA; rw [bt_eq (show 3 < s.size by omega), hc3]; omega
      unfold headA restA
      rw [e, bt_eq (show 0 < s.size by omega), bt_eq (show 1 < s.size by omega), bt_eq (show 2 < s.size by omega)]
      exact ⟨rfl, rfl⟩
    have hrs := restA_size hoks
    have hb0 := bt_pos s 0
    have hb1 := bt_pos s 1
    have hb2 := bt_pos s 2
    rw [bt_eq (show 0 < s.size by omega)] at hb0
    rw [bt_eq (show 1 < s.size by omega)] at hb1
    rw [bt_eq (show 2 < s.size by omega)] at hb2
    obtain ⟨c0, hc0⟩ : ∃ c0, (s[0]'(by omega)).toNat = c0 := ⟨_, rfl⟩
    obtain ⟨c1, hc1⟩ : ∃ c1, (s[1]'(by omega)).toNat = c1 := ⟨_, rfl⟩
    obtain ⟨c2, hc2⟩ : ∃ c2, (s[2]'(by omega)).toNat = c2 := ⟨_, rfl⟩
    rw [hc0] at hb0 hhd
    rw [hc1] at hb1 hhd
    rw [hc2] at hb2 hhd
    have hw0 : IntKind.i64.wrap (c0 : Int) = c0 := IntWalk.i64_in _ (by omega)
    have hw1 : IntKind.i64.wrap (c1 : Int) = c1 := IntWalk.i64_in _ (by omega)
    have hw2 : IntKind.i64.wrap (c2 : Int) = c2 := IntWalk.i64_in _ (by omega)
    have hal2 := hal.out
    rw [allA_ok hoks] at hal2
    have hlen : pre.length < t.size := by
      have h1 := allA_len t.size t (Nat.le_refl _)
      rw [hal2, List.length_append, List.length_cons] at h1
      omega
    generalize headA s = hd at *
    generalize restA s = rs at *
    obtain ⟨hhd, hrs2⟩ := hhd
    have hrsz := hrs.1
    have hrs4 : rs.size < s.size := by omega
    clear hrs
    replace hal2 := Lib.hid hal2
    replace hhd := Lib.hid hhd
    replace hrs2 := Lib.hid hrs2
    replace hrsz := Lib.hid hrsz
    replace hrs4 := Lib.hid hrs4
    replace hlen := Lib.hid hlen
    have hq2 : decide (4 + (c3 : Int) ≤ (s.size : Int)) = true := decide_eq_true h5
    have hsl : ∀ W : World, (Instr.slice 9 (.string s) (some (.int .i64 4)) (some (.int .i64 (4 + (c3 : Int)))) none).run Tryz.prog W = .ok (.string (s.extract 4 (4 + c3))) W := fun W => by
      rw [run_slice_string_if W 9 s .i64 .i64 _ _ Tryz.underlying9, if_pos (by omega), if_pos (by omega)]
      rfl
    have hsf : ∀ W : World, (Instr.slice 9 (.string s) (some (.int .i64 (4 + (c3 : Int)))) none none).run Tryz.prog W = .ok (.string (s.extract (4 + c3) s.size)) W := fun W => by
      rw [run_slice_string_from_if W 9 s .i64 _ Tryz.underlying9, if_pos (by omega)]
      rfl
    clear hok hoks
    gi_wp2
    refine wpIn_wide.2 ?_
    go_quiet (fail)
    gi_wp2
    refine wpIn_wide.2 ?_
    have hl0 : 0 < s.size := by omega
    have hl1 : (1 : Int) < s.size := by omega
    have hl2 : (2 : Int) < s.size := by omega
    have b0 := below_drewN wr nq
    generalize wr.drewN nq = w0 at *
    have hSB : ∀ W, Below wr.heap.size wr W → W.cell? ⟨B, 0, none⟩ = some (.string s) ∧ True := fun W h => ⟨(h.cell (p := ⟨B, 0, none⟩) hBlt).trans hcB, trivial⟩
    refine wp_region_N (fun w' => w'.cell? ⟨B, 0, none⟩ = some (.string s) ∧ True) 14 15 rfl (by kernel_rfl) (hSB _ (below_trans b0 (below_drewN w0 1))) (fun hSw => ?_)
    refine tk 0 ?_ rfl rfl (by kernel_rfl) (.inl ⟨by rfl, ?_⟩) hSw ?_
    rotate_left
    · rintro w ⟨s0, s1⟩; go_simp; try with_reducible rfl
    simp only [tkp, tkz, tks]
    refine tk 1 ?_ rfl rfl (by kernel_rfl) (.inl ⟨by rfl, ?_⟩) hSw ?_
    rotate_left
    · rintro w ⟨s0, s1⟩; go_simp; try with_reducible rfl
    simp only [tkp, tkz, tks]
    refine tk 2 ?_ rfl rfl (by kernel_rfl) (.inl ⟨by rfl, ?_⟩) hSw ?_
    rotate_left
    · rintro w ⟨s0, s1⟩; go_simp; try with_reducible rfl
    simp only [tkp, tkz, tks]
    refine tk 3 ?_ rfl rfl (by kernel_rfl) (.inl ⟨by rfl, ?_⟩) hSw ?_
    rotate_left
    · rintro w ⟨s0, s1⟩; go_simp; try with_reducible rfl
    simp only [tkp, tkz, tks]
    refine tk 4 ?_ rfl rfl (by kernel_rfl) (.inl ⟨by rfl, ?_⟩) hSw ?_
    rotate_left
    · rintro w ⟨s0, s1⟩; go_simp; try with_reducible rfl
    simp only [tkp, tkz, tks]
    refine tk 5 ?_ rfl rfl (by kernel_rfl) (.inl ⟨by rfl, ?_⟩) hSw ?_
    rotate_left
    · rintro w ⟨s0, s1⟩; go_simp; try with_reducible rfl
    simp only [tkp, tkz, tks]
    refine tk 6 ?_ rfl rfl (by kernel_rfl) (.inl ⟨by rfl, ?_⟩) hSw ?_
    rotate_left
    · rintro w ⟨s0, s1⟩; go_simp; try with_reducible rfl
    simp only [tkp, tkz, tks]
    refine tk 7 ?_ rfl rfl (by kernel_rfl) (.inl ⟨by rfl, ?_⟩) hSw ?_
    rotate_left
    · rintro w ⟨s0, s1⟩; go_simp; try with_reducible rfl
    simp only [tkp, tkz, tks]
    refine tk 8 ?_ rfl rfl (by kernel_rfl) (.inl ⟨by rfl, ?_⟩) hSw ?_
    rotate_left
    · rintro w ⟨s0, s1⟩; go_simp; try with_reducible rfl
    simp only [tkp, tkz, tks]
    refine tk 9 ?_ rfl rfl (by kernel_rfl) (.inl ⟨by rfl, ?_⟩) hSw ?_
    rotate_left
    · rintro w ⟨s0, s1⟩; go_simp; try with_reducible rfl
    simp only [tkp, tkz, tks]
    refine tk 10 ?_ rfl rfl (by kernel_rfl) (.inl ⟨by rfl, ?_⟩) hSw ?_
    rotate_left
    · rintro w ⟨s0, s1⟩; go_simp; try with_reducible rfl
    simp only [tkp, tkz, tks]
    refine tk 11 ?_ rfl rfl (by kernel_rfl) (.inl ⟨by rfl, ?_⟩) hSw ?_
    rotate_left
    · rintro w ⟨s0, s1⟩; go_simp; try with_reducible rfl
    simp only [tkp, tkz, tks]
    refine tk 12 ?_ rfl rfl (by kernel_rfl) (.inl ⟨by rfl, ?_⟩) hSw ?_
    rotate_left
    · rintro w ⟨s0, s1⟩; go_simp; try with_reducible rfl
    simp only [tkp, tkz, tks]
    refine N_one' (i := 13) (by kernel_rfl) rfl ?_
    go_wp2_with fail
    refine QK_normal ⟨fun _ => hSB _ (below_trans b0 (below_trans (below_a1 w0 _) (below_drewN _ 1))), ?_⟩
    refine N_rest 14 1 (by omega) rfl (by kernel_rfl) ?_
    go_wp2_with fail
    have b1 : Below wr.heap.size wr (w0.alloc (.cells #[.int .i64 c0, .int .i64 c1, .int .i64 c2, .string (s.extract 4 (4 + c3))] 23)).drew := below_trans b0 (below_trans (below_a1 w0 _) (below_drewN _ 1))
    have hM : AcBox (w0.alloc (.cells #[.int .i64 c0, .int .i64 c1, .int .i64 c2, .string (s.extract 4 (4 + c3))] 23)).drew w0.heap.size 0 ⟨c0, c1, c2, s.extract 4 (4 + c3)⟩ := (AcBox.new w0 ⟨c0, c1, c2, s.extract 4 (4 + c3)⟩ 23).below (below_drewN _ 1) (by rw [World.size_alloc]; omega)
    have hs1 : wr.heap.size ≤ w0.heap.size := b0.size
    generalize (w0.alloc (.cells #[.int .i64 c0, .int .i64 c1, .int .i64 c2, .string (s.extract 4 (4 + c3))] 23)).drew = w1 at *
    obtain ⟨A, hA⟩ : ∃ A, w0.heap.size = A := ⟨_, rfl⟩
    rw [hA] at hM hs1
    simp only [hA]
    clear hA b0 hSB hSw hfB hcB
    have hj1 := abides_step hJ hj b1
    have hB1 : Boxed w1 B 9 (.string s) := (b1.block B hBlt).trans hBs
    obtain ⟨m0, m1, m2, m3⟩ := hM
    simp only [Nat.zero_add] at m0 m1 m2 m3
    have hcB := hB1.cell
    have hfB := hB1.frozen
    have hJ2 := hJB _ _ (.string (s.extract (4 + c3) s.size)) hj1
    have hB2 := hB1.set (.string (s.extract (4 + c3) s.size))
    have hkA : (w1.setCell ⟨B, 0, none⟩ (.string (s.extract (4 + c3) s.size))).heap[A]? = w1.heap[A]? := Below.heap_setCell w1 ⟨B, 0, none⟩ _ A (by show A ≠ B; omega)
    have n0 := (World.cell?_of_block (a := ⟨A, 0, none⟩) hkA).trans m0
    have n1 := (World.cell?_of_block (a := ⟨A, 1, none⟩) hkA).trans m1
    have n2 := (World.cell?_of_block (a := ⟨A, 2, none⟩) hkA).trans m2
    have n3 := (World.cell?_of_block (a := ⟨A, 3, none⟩) hkA).trans m3
    have hcB2 := hB2.cell
    clear hkA
    obtain ⟨fn, tmps, assign, body, hy, hR⟩ := hY _ (hd, rs) _ hJ2 hlen.out
    dsimp only at hy hR
    rw [hhd.out, hrs2.out] at hy
    unfold Ac.val at hy
    gi_wp2
    refine hR.mono ?_
    rintro e W3 (⟨rfl, hJ3, hk3⟩ | ⟨rfl, hJx3⟩)
    · gi_wp2
      go_roundw
      case rel => exact ⟨rs, _, hk3.trans (by rw [hrs2.out]; exact hB2), by rw [List.append_assoc]; exact hal2.out, by have := hrs4.out; omega, hJ3⟩
      case measure =>
        have hB3 : Boxed W3 B 9 (.string rs) := hk3.trans (by rw [hrs2.out]; exact hB2)
        rw [strAt_eq hB3.cell, strAt_eq hcB0.out]
        exact hrs4.out
    · gi_wp2
      refine bodyPost_ret (results_none rfl _ _ _) rfl ?_
      exact ⟨⟨_, rfl⟩, .inr ⟨_, ⟨allA rs, by rw [List.append_assoc]; exact hal2.out⟩, hJx3⟩⟩

/-- The value of acts, called in whatever later world. -/
theorem acts_seq (n : Nat) (hn : 1 ≤ n) (B : Nat) (t : ByteArray) (ht : t.size ≤ 4096) (w : World) (hB : Boxed w B 9 (.string t)) :
    SeqB Fence.wide n Tryz.prog 59 #[.pointer (some ⟨B, 0, none⟩)] (fun z : Ac × ByteArray => #[z.1.val, .string z.2]) B (fun xs => xs = allA t) (fun pre => ∃ suf, allA t = pre ++ suf) t.size w :=
  fun l J Jx W hW hJ _ hJB hY h0 => acts1_in n hn l B t ht J Jx W hJ hJB ((hW.block B hB.lt).trans hB) hY h0
theorem acts_c (w : World) (t : ByteArray) : Calls Tryz.prog 33 #[.string t] w fun e w' => e = .returned (.func (.func 59) #[] #[.pointer (some ⟨w.heap.size, 0, none⟩)]) ∧ w' = w.alloc (.cells #[.string t] 9) := by
  go_enter Tryz.func33, Tryz.ntmps33
  go_wp2
  go_ret
  exact ⟨rfl, rfl⟩
end Go.Proofs.YtnalakhelicjcaaGreat
