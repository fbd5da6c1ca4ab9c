/-
  Messages: what each function of the package msg, and of the document's answer to it, computes.
-/
import Derived.Test.YthclljdkicihpaaG
import Derived.Test.YthclljdkicihpaaMPure
import Derived.Test.YthclljdkicihpaaReg
set_option maxRecDepth 100000
namespace Go.Proofs.Ythclljdkicihpaa
open Go.RowKit Go.Shelf Go.BigFrame

theorem isNaN_c (w : World) (x : Int) : Calls Try.prog 37 #[.int .i64 x] w fun e w' => e = .returned (.bool false) ∧ w = w' := by
  go_enter Try.func37, Try.ntmps37
  go_wp2
  go_ret; exact ⟨ret_bool (by simp), rfl⟩

theorem Compare_c (w : World) (x y : Int) : Calls Try.prog 32 #[.int .i64 x, .int .i64 y] w fun e w' => e = .returned (.int .i64 (cmpI x y)) ∧ w = w' := by
  have h := fun w x => isNaN_c w x
  go_enter Try.func32, Try.ntmps32
  go_wp2_with (go_at_call 37; refine (h _ _).mono ?_; rintro e w' ⟨rfl, rfl⟩)
  all_goals (go_ret; exact ⟨ret_int (by unfold cmpI; first | rw [if_pos (by assumption)] | rw [if_neg (by omega), if_pos (by assumption)] | rw [if_neg (by omega), if_neg (by omega)]), rfl⟩)

theorem Or_c (w : World) (b : Nat) (x y : Int) (h0 : w.cell? ⟨b, 0, none⟩ = some (.int .i64 x)) (h1 : w.cell? ⟨b, 1, none⟩ = some (.int .i64 y)) :
    Calls Try.prog 31 #[.slice (some ⟨b, 0, none⟩) 2 2] w fun e w' => e = .returned (.int .i64 (orI x y)) ∧ w = w' := by
  by_cases hx : x = 0
  · have hx1 : (x != 0) = false := by simp [hx]
    have HX := Lib.hid hx
    clear hx
    by_cases hy : y = 0
    · have hx2 : (y != 0) = false := by simp [hy]
      have HY := Lib.hid hy
      clear hy
      go_enter Try.func31, Try.ntmps31
      go_wp2
      refine wp_loop_rounds 3 ?_
      repeat any_goals (rw [rounds_succ]; go_wp2)
      go_ret
      exact ⟨ret_int (by rw [orI, if_pos HX.out, HY.out]), rfl⟩
    · have hx2 : (y != 0) = true := by simp [hy]
      go_enter Try.func31, Try.ntmps31
      go_wp2
      refine wp_loop_rounds 2 ?_
      repeat any_goals (rw [rounds_succ]; go_wp2)
      go_ret
      exact ⟨ret_int (by rw [orI, if_pos HX.out]), rfl⟩
  · have hx1 : (x != 0) = true := by simp [hx]
    have HX := Lib.hid hx
    clear hx
    go_enter Try.func31, Try.ntmps31
    go_wp2
    refine wp_loop_rounds 1 ?_
    repeat any_goals (rw [rounds_succ]; go_wp2)
    go_ret
    exact ⟨ret_int (by rw [orI, if_neg HX.out]), rfl⟩

theorem order_c (w : World) (a b : M) : Calls Try.prog 21 #[a.val, b.val] w (GivesB (.int .i64 (ordM a b)) w) := by
  unfold M.val
  go_enter Try.func21, Try.ntmps21
  go_wp2_with fail
  refine wp_region_over_tail 10 (by kernel_rfl) (by kernel_rfl) ?_
  simp only [List.take_succ_cons, List.take_zero, List.drop_succ_cons, List.drop_zero]
  repeat (go_big_quiet_step (exact over_w (Compare_c _ _ _)))
  refine wpQuiet_nil ?_
  rintro w2 ⟨⟨_, hb⟩, rfl⟩
  have hOr := fun h0 h1 => Or_c (w2.alloc (.cells #[.int .i64 (cmpI a.stamp b.stamp), .int .i64 (cmpI a.src b.src)] 3)) w2.heap.size (cmpI a.stamp b.stamp) (cmpI a.src b.src) h0 h1
  replace hOr := hOr (by simp) (by simp)
  go_wp2_with fail
  refine hOr.mono ?_
  rintro e w3 ⟨rfl, rfl⟩
  go_wp2_with fail
  go_ret
  have hA : Below w.heap.size w ((w.alloc (.cells #[.int .i64 a.src, .int .i64 a.grp, .int .i64 a.stamp, .bool a.null, .string a.body] 24)).alloc (.cells #[.int .i64 b.src, .int .i64 b.grp, .int .i64 b.stamp, .bool b.null, .string b.body] 24)) := ((Below.refl _ w).alloc (Nat.le_refl _) _).alloc (by simp) _
  exact givesB_int ((hA.trans (hb.mono hA.size)).alloc (by have := hb.size; simp at this; omega) _) rfl

theorem Less_c (w : World) (a b : M) : Calls Try.prog 9 #[a.val, b.val] w (GivesB (.bool (lessM a b)) w) := by
  have hA := below_a2 w (.cells #[.int .i64 a.src, .int .i64 a.grp, .int .i64 a.stamp, .bool a.null, .string a.body] 24) (.cells #[.int .i64 b.src, .int .i64 b.grp, .int .i64 b.stamp, .bool b.null, .string b.body] 24)
  have hc := order_c ((w.alloc (.cells #[.int .i64 a.src, .int .i64 a.grp, .int .i64 a.stamp, .bool a.null, .string a.body] 24)).alloc (.cells #[.int .i64 b.src, .int .i64 b.grp, .int .i64 b.stamp, .bool b.null, .string b.body] 24)) a b
  have HL := Lib.hid (ordM_lt a b)
  generalize ordM a b = r at hc HL
  unfold M.val at *
  go_enter Try.func9, Try.ntmps9
  go_wp2_with fail
  refine hc.mono ?_
  rintro e w2 ⟨rfl, hb⟩
  clear hc
  go_wp2_with fail
  go_ret
  exact givesB_bool (below_trans hA hb) HL.out
theorem LessOf_c (w : World) (a b : M) : Calls Try.prog 10 #[a.val, b.val] w (GivesB (.bool (lessM a b)) w) := by
  unfold M.val
  go_enter Try.func10, Try.ntmps10
  go_wp2_with fail
  all_goals
    go_ret
    exact givesB_bool (below_a2 _ _ _) (by simp [lessM, *] <;> (intros; omega))

theorem Rises_c {w : World} {v : Value} {ms : List M} (h : Msgs w v ms) : Calls Try.prog 22 #[v] w (GivesB (.bool (risesB ms)) w) := by
  obtain ⟨hl, a, cap, rfl, _, hc⟩ := h.open
  replace hc := Lib.hid hc
  go_enter Try.func22, Try.ntmps22
  go_wp2_with fail
  go_loopw [3, 6] (fun _ i wr => ∃ k : Nat, k ≤ ms.length ∧ i = .int .i64 k ∧ risesB (ms.take k) = true ∧ Below w.heap.size w wr) (fun _ i _ => ms.length - (intOf i).toNat)
  case atStart => exact ⟨0, by omega, rfl, rfl, Below.refl _ _⟩
  case round =>
    obtain ⟨k, hk, rfl, hr, hb⟩ := hrel
    replace hr := Lib.hid hr
    by_cases hlt : k < ms.length
    · obtain ⟨b, off, rfl, hcc⟩ := hc.out (by intro e; subst e; simp at hlt)
      by_cases h0 : 0 < k
      · obtain ⟨j, rfl⟩ : ∃ j, k = j + 1 := ⟨k - 1, by omega⟩
        have hm := (hcc (j + 1) hlt).below hb
        have hp := (hcc j (by omega)).below hb
        have hne : (ordM (ms.getD j M.zero) (ms.getD (j + 1) M.zero)) = (ordM (ms.getD j M.zero) (ms.getD (j + 1) M.zero)) := rfl
        clear hne
        obtain ⟨m, HM⟩ : ∃ m, ms.getD (j + 1) M.zero = m := ⟨_, rfl⟩
        obtain ⟨p, HP⟩ : ∃ p, ms.getD j M.zero = p := ⟨_, rfl⟩
        rw [HM] at hm
        rw [HP] at hp
        replace HM := Lib.hid HM
        replace HP := Lib.hid HP
        have hblt := cell_lt hm.1
        dsimp only at hblt
        obtain ⟨m0, m1, m2, m3, m4⟩ := hm
        obtain ⟨p0, p1, p2, p3, p4⟩ := hp
        have hd0 : decide (0 < (↑(j + 1) : Int)) = true := decide_eq_true (by omega)
        have ht := Lib.hid (risesB_take (ms := ms) (j := j) hlt)
        cases hlm : lessM p m
        · have hd1 : decide (0 ≤ ordM p m) = true := by rw [ordM_ge, hlm]; rfl
          go_wp2_with fail
          refine wp_region_over (by kernel_rfl) (by kernel_rfl) ?_
          repeat (go_big_quiet_step (exact over_c (order_c _ p m)))
          refine wpQuiet_nil ?_
          rintro w2 ⟨⟨_, hb2⟩, rfl⟩
          go_wp2_with fail
          go_ret
          exact givesB_bool (below_trans hb hb2) (by rw [risesB_no (by rw [ht.out, HP.out, HM.out, hlm, Bool.and_false])])
        · have hd1 : decide (0 ≤ ordM p m) = false := by rw [ordM_ge, hlm]; rfl
          go_wp2_with fail
          refine wp_region_over (by kernel_rfl) (by kernel_rfl) ?_
          repeat (go_big_quiet_step (exact over_c (order_c _ p m)))
          refine wpQuiet_nil ?_
          rintro w2 ⟨⟨_, hb2⟩, rfl⟩
          go_wp2_with fail
          go_roundw
          case rel => exact ⟨j + 1 + 1, by omega, by go_num, by rw [ht.out, HP.out, HM.out, hlm, hr.out]; rfl, below_trans hb hb2⟩
          case measure => simp [intOf]; omega
      · obtain rfl : k = 0 := by omega
        go_wp2_with fail
        refine wp_region_over (by kernel_rfl) (by kernel_rfl) ?_
        repeat (go_big_quiet_step (fail))
        refine wpQuiet_nil ?_
        rintro w2 ⟨⟨_, hb2⟩, rfl⟩
        go_wp2_with fail
        go_roundw
        case rel => exact ⟨1, by omega, by go_num, by cases ms <;> rfl, below_trans hb hb2⟩
        case measure => simp [intOf]; omega
    · obtain rfl : k = ms.length := by omega
      have hr := hr.out
      rw [List.take_length] at hr
      replace hr := Lib.hid hr
      go_wp2_with fail
      go_ret
      exact givesB_bool hb (by rw [hr.out])

theorem neq_msg (a b : M) (w : World) : (binOp .neq 24 (.agg #[.int .i64 a.src, .int .i64 a.grp, .int .i64 a.stamp, .bool a.null, .string a.body]) (.agg #[.int .i64 b.src, .int .i64 b.grp, .int .i64 b.stamp, .bool b.null, .string b.body])).run Try.prog w = .ok (.bool (!eqM a b)) w := by
  have hS : Try.prog.underlying 24 = some (.struct (Try.prog.fieldsOf 24)) := by kernel_rfl
  have hp : Try.prog.stoodInHeld 24 = false := by kernel_rfl
  rw [run_neq_struct, show (10000 : Nat) = 9999 + 1 from rfl, run_equalIn_agg w 9999 24 _ _ hS hp]
  simp [go_sem]
  unfold eqM
  by_cases h1 : a.src = b.src <;> by_cases h2 : a.grp = b.grp <;> by_cases h3 : a.stamp = b.stamp <;> by_cases h4 : a.null = b.null <;> by_cases h5 : a.body.toList = b.body.toList <;> simp [h1, h2, h3, h4, h5]
theorem eql_msg (a b : M) (w : World) : (binOp .eql 24 (.agg #[.int .i64 a.src, .int .i64 a.grp, .int .i64 a.stamp, .bool a.null, .string a.body]) (.agg #[.int .i64 b.src, .int .i64 b.grp, .int .i64 b.stamp, .bool b.null, .string b.body])).run Try.prog w = .ok (.bool (eqM a b)) w := by
  have hS : Try.prog.underlying 24 = some (.struct (Try.prog.fieldsOf 24)) := by kernel_rfl
  have hp : Try.prog.stoodInHeld 24 = false := by kernel_rfl
  rw [run_eql_struct, show (10000 : Nat) = 9999 + 1 from rfl, run_equalIn_agg w 9999 24 _ _ hS hp]
  simp [go_sem]
  unfold eqM
  by_cases h1 : a.src = b.src <;> by_cases h2 : a.grp = b.grp <;> by_cases h3 : a.stamp = b.stamp <;> by_cases h4 : a.null = b.null <;> by_cases h5 : a.body.toList = b.body.toList <;> simp [h1, h2, h3, h4, h5]

set_option maxHeartbeats 400000 in
theorem SameMsgs_c {w : World} {v u : Value} {xs ys : List M} (h : Msgs w v xs) (h2 : Msgs w u ys) :
    Calls Try.prog 13 #[v, u] w (Gives (.bool (sameMs xs ys)) w) := by
  obtain ⟨hl, a, cap, rfl, _, hc⟩ := h.open
  obtain ⟨hl2, a2, cap2, rfl, _, hc2⟩ := h2.open
  replace hc := Lib.hid hc
  replace hc2 := Lib.hid hc2
  by_cases he : xs.length = ys.length
  · have hE := Lib.hid he
    rw [← he]
    clear he
    go_enter Try.func13, Try.ntmps13
    go_wp2_with fail
    go_loopw [5] (fun i wr => ∃ k : Nat, k ≤ xs.length ∧ i = .int .i64 k ∧ sameMs (xs.take k) (ys.take k) = true ∧ Drew w wr) (fun i _ => xs.length - (intOf i).toNat)
    case atStart => exact ⟨0, by omega, rfl, rfl, Drew.refl _⟩
    case round =>
      obtain ⟨k, hk, rfl, hg, hd⟩ := hrel
      replace hg := Lib.hid hg
      by_cases hlt : k < xs.length
      · obtain ⟨b, off, rfl, hcc⟩ := hc.out (by intro e; subst e; simp at hlt)
        obtain ⟨b2, off2, rfl, hcc2⟩ := hc2.out (by intro e; subst e; rw [hE.out] at hlt; simp at hlt)
        have hm := (hcc k hlt).below hd.below
        have hp := (hcc2 k (by rw [← hE.out]; exact hlt)).below hd.below
        have ht := Lib.hid (sameMs_take (xs := xs) (ys := ys) hE.out hlt)
        generalize xs.getD k M.zero = m at hm ht
        generalize ys.getD k M.zero = p at hp ht
        obtain ⟨m0, m1, m2, m3, m4⟩ := hm
        obtain ⟨p0, p1, p2, p3, p4⟩ := hp
        have hneq := neq_msg m p
        cases heq : eqM m p
        · rw [heq] at hneq
          replace heq := Lib.hid heq
          clear hcc hcc2 hc hc2
          go_wp2_with fail
          go_quiet (fail)
          go_wp2_with fail
          go_ret
          exact gives_bool (hd.drewN _) ((ht.out hg.out).2 heq.out).symm
        · rw [heq] at hneq
          replace heq := Lib.hid heq
          clear hcc hcc2 hc hc2
          go_wp2_with fail
          go_quiet (fail)
          go_wp2_with fail
          go_roundw
          case rel => exact ⟨k + 1, by omega, by go_num, (ht.out hg.out).1 heq.out, hd.drewN _⟩
          case measure => simp [intOf]; omega
      · obtain rfl : k = xs.length := by omega
        have hg := hg.out
        rw [List.take_length, hE.out, List.take_length] at hg
        replace hg := Lib.hid hg
        go_wp2_with fail
        go_ret
        exact gives_bool hd hg.out.symm
  · have hb : ((xs.length : Int) != (ys.length : Int)) = true := by simp; omega
    have hne := Lib.hid (sameMs_len he)
    clear he
    go_enter Try.func13, Try.ntmps13
    go_wp2_with fail
    go_ret
    exact gives_bool (Drew.refl _) hne.out.symm

set_option maxHeartbeats 1000000 in
theorem Right_c {w : World} {v : Value} {xs : List Int} (h : Ints w v xs) (nodes : Int) (m : M) : Calls Try.prog 17 #[.int .i64 nodes, v, m.val] w (GivesB (.int .i64 (rightE nodes xs m)) w) := by
  obtain ⟨hl, a, cap, rfl, _, _⟩ := h.open
  have hA := below_a1 w (.cells #[.int .i64 m.src, .int .i64 m.grp, .int .i64 m.stamp, .bool m.null, .string m.body] 24)
  have hcon := Has_c (h.below hA) m.grp m.src
  clear hA h
  unfold M.val
  by_cases hr : inRange nodes xs m
  · obtain ⟨r1, r2, r3, r4, r5, r6⟩ := hr
    cases hh : hasB xs m.grp m.src
    case' false =>
      have HE := Lib.hid (rightE_5 ⟨r1, r2, r3, r4, r5, r6⟩ hh)
      rw [hh] at hcon
      replace hh := Lib.hid hh
    case' true =>
      rw [hh] at hcon
      by_cases hb : 8 < (m.body.size : Int)
      case' pos =>
        have HE := Lib.hid (rightE_1a ⟨r1, r2, r3, r4, r5, r6⟩ hh hb)
        replace hh := Lib.hid hh
      case' neg =>
        cases hn : m.null
        case' false => have HE := Lib.hid (rightE_0a ⟨r1, r2, r3, r4, r5, r6⟩ hh hb hn)
        case' true =>
          cases he : m.body.toList.isEmpty
          case' false => have HE := Lib.hid (rightE_1b ⟨r1, r2, r3, r4, r5, r6⟩ hh hb hn he)
          case' true => have HE := Lib.hid (rightE_0b ⟨r1, r2, r3, r4, r5, r6⟩ hh hb he)
        all_goals
          replace hh := Lib.hid hh
          replace hn := Lib.hid hn
          rw [hn.out] at hcon
    all_goals
      go_enter Try.func17, Try.ntmps17
      go_wp2_with (go_at_call 29; refine hcon.mono ?_; rintro e w' ⟨rfl, rfl⟩)
      go_ret
      exact givesB_int (below_a1 _ _) HE.out.symm
  · have HE := Lib.hid (rightE_3 hr)
    unfold inRange at hr
    clear hcon
    go_enter Try.func17, Try.ntmps17
    go_wp2_with fail
    all_goals
      first
        | (exfalso; omega)
        | (go_ret; exact givesB_int (below_a1 _ _) HE.out.symm)
theorem MCheck_c {w : World} {v : Value} {xs : List Int} (h : Ints w v xs) (nodes : Int) (m : M) : Calls Try.prog 7 #[.int .i64 nodes, v, m.val] w (GivesB (.int .i64 (msgE nodes xs m)) w) := by
  have hA := below_a1 w (.cells #[.int .i64 m.src, .int .i64 m.grp, .int .i64 m.stamp, .bool m.null, .string m.body] 24)
  have hc := Check_c (h.below hA) nodes
  have hR := fun w' (hb : Below _ _ w') => Right_c ((h.below hA).below hb) nodes m
  unfold M.val at *
  by_cases he : gErr nodes xs = 0
  · have HE := Lib.hid (show msgE nodes xs m = rightE nodes xs m by rw [msgE, if_pos he])
    rw [he] at hc
    generalize rightE nodes xs m = r at hR HE
    replace hR := Lib.hid hR
    go_enter Try.func7, Try.ntmps7
    go_wp2_with fail
    refine hc.mono ?_
    rintro e w2 ⟨rfl, hb⟩
    clear hc
    have hR2 := hR.out w2 hb
    have hx := fun (a : Addr) (h : a.block < _) => hb.cell (p := a) h
    have c0 := hx ⟨w.heap.size, 0, none⟩ (by simp)
    have c1 := hx ⟨w.heap.size, 1, none⟩ (by simp)
    have c2 := hx ⟨w.heap.size, 2, none⟩ (by simp)
    have c3 := hx ⟨w.heap.size, 3, none⟩ (by simp)
    have c4 := hx ⟨w.heap.size, 4, none⟩ (by simp)
    clear hx
    simp at c0 c1 c2 c3 c4
    go_wp2_with fail
    refine hR2.mono ?_
    rintro e w3 ⟨rfl, hb3⟩
    clear hR2
    go_wp2_with fail
    go_ret
    exact givesB_int (below_trans hA (below_trans hb hb3)) HE.out.symm
  · have HE := Lib.hid (show msgE nodes xs m = gErr nodes xs by rw [msgE, if_neg he])
    have hne : (gErr nodes xs != 0) = true := by simpa using he
    generalize gErr nodes xs = r at *
    clear he
    go_enter Try.func7, Try.ntmps7
    go_wp2_with fail
    refine hc.mono ?_
    rintro e w2 ⟨rfl, hb⟩
    clear hc
    go_wp2_with fail
    go_ret
    exact givesB_int (below_trans hA hb) HE.out.symm
end Go.Proofs.Ythclljdkicihpaa
