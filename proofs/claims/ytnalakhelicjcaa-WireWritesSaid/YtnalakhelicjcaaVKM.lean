/-
  Messages: what each function of the package msg, and of the document's answer to it, computes.
  Messages: the document's answers walked.
  Messages: where one stands in a list that rises; putting it there.
  Put a message into a row of one's own: slices.Insert, at messages, of one.
  Put a message into a list.
  The document's answer: put a message into a list.
-/
import Derived.Test.YtnalakhelicjcaaVKG
import Derived.Test.YtnalakhelicjcaaVKA
import Derived.StillTailTactics
import Derived.Lib.AppendZerosOnto
import Derived.Lib.Overlaps
import Derived.Laws.OwnMore
import Derived.Laws.Externs
import Derived.Deep.RegionHeld3
import Derived.Laws.AppendOwnNone
set_option maxRecDepth 100000
namespace Go.Proofs.Ytnalakhelicjcaa
open Go.RowKit Go.Shelf Go.BigFrame

theorem isNaN_c (w : World) (x : Int) : Calls Try.prog 145 #[.int .i64 x] w fun e w' => e = .returned (.bool false) ∧ w = w' := by
  go_enter Try.func145, Try.ntmps145
  go_wp2
  go_ret; exact ⟨ret_bool (by simp), rfl⟩

theorem Compare_c (w : World) (x y : Int) : Calls Try.prog 138 #[.int .i64 x, .int .i64 y] w fun e w' => e = .returned (.int .i64 (cmpI x y)) ∧ w = w' := by
  have h := fun w x => isNaN_c w x
  go_enter Try.func138, Try.ntmps138
  go_wp2_with (go_at_call 145; refine (h _ _).mono ?_; rintro e w' ⟨rfl, rfl⟩)
  all_goals (go_ret; exact ⟨ret_int (by unfold cmpI; first | rw [if_pos (by assumption)] | rw [if_neg (by omega), if_pos (by assumption)] | rw [if_neg (by omega), if_neg (by omega)]), rfl⟩)

theorem Or_c (w : World) (b : Nat) (x y : Int) (h0 : w.cell? ⟨b, 0, none⟩ = some (.int .i64 x)) (h1 : w.cell? ⟨b, 1, none⟩ = some (.int .i64 y)) :
    Calls Try.prog 137 #[.slice (some ⟨b, 0, none⟩) 2 2] w fun e w' => e = .returned (.int .i64 (orI x y)) ∧ w = w' := by
  by_cases hx : x = 0
  · have hx1 : (x != 0) = false := by simp [hx]
    have HX := Lib.hid hx
    clear hx
    by_cases hy : y = 0
    · have hx2 : (y != 0) = false := by simp [hy]
      have HY := Lib.hid hy
      clear hy
      go_enter Try.func137, Try.ntmps137
      go_wp2
      refine wp_loop_rounds 3 ?_
      repeat any_goals (rw [rounds_succ]; go_wp2)
      go_ret
      exact ⟨ret_int (by rw [orI, if_pos HX.out, HY.out]), rfl⟩
    · have hx2 : (y != 0) = true := by simp [hy]
      go_enter Try.func137, Try.ntmps137
      go_wp2
      refine wp_loop_rounds 2 ?_
      repeat any_goals (rw [rounds_succ]; go_wp2)
      go_ret
      exact ⟨ret_int (by rw [orI, if_pos HX.out]), rfl⟩
  · have hx1 : (x != 0) = true := by simp [hx]
    have HX := Lib.hid hx
    clear hx
    go_enter Try.func137, Try.ntmps137
    go_wp2
    refine wp_loop_rounds 1 ?_
    repeat any_goals (rw [rounds_succ]; go_wp2)
    go_ret
    exact ⟨ret_int (by rw [orI, if_neg HX.out]), rfl⟩

theorem order_c (w : World) (a b : M) : Calls Try.prog 123 #[a.val, b.val] w (GivesB (.int .i64 (ordM a b)) w) := by
  unfold M.val
  go_enter Try.func123, Try.ntmps123
  go_wp2_with fail
  refine wp_region_over_tail 10 (by kernel_rfl) (by kernel_rfl) ?_
  simp only [List.take_succ_cons, List.take_zero, List.drop_succ_cons, List.drop_zero]
  repeat (go_big_quiet_step (exact over_w (Compare_c _ _ _)))
  refine wpQuiet_nil ?_
  rintro w2 ⟨⟨_, hb⟩, rfl⟩
  have hOr := fun h0 h1 => Or_c (w2.alloc (.cells #[.int .i64 (cmpI a.stamp b.stamp), .int .i64 (cmpI a.src b.src)] 3)) w2.heap.size (cmpI a.stamp b.stamp) (cmpI a.src b.src) h0 h1
  replace hOr := hOr (by simp) (by simp)
  go_wp2_with fail
  refine hOr.mono ?_
  rintro e w3 ⟨rfl, rfl⟩
  go_wp2_with fail
  go_ret
  have hA : Below w.heap.size w ((w.alloc (.cells #[.int .i64 a.src, .int .i64 a.grp, .int .i64 a.stamp, .bool a.null, .string a.body] 33)).alloc (.cells #[.int .i64 b.src, .int .i64 b.grp, .int .i64 b.stamp, .bool b.null, .string b.body] 33)) := ((Below.refl _ w).alloc (Nat.le_refl _) _).alloc (by simp) _
  exact givesB_int ((hA.trans (hb.mono hA.size)).alloc (by have := hb.size; simp at this; omega) _) rfl

theorem LessOf_c (w : World) (a b : M) : Calls Try.prog 96 #[a.val, b.val] w (GivesB (.bool (lessM a b)) w) := by
  unfold M.val
  go_enter Try.func96, Try.ntmps96
  go_wp2_with fail
  all_goals
    go_ret
    exact givesB_bool (below_a2 _ _ _) (by simp [lessM, *] <;> (intros; omega))

theorem Rises_c {w : World} {v : Value} {ms : List M} (h : Msgs w v ms) : Calls Try.prog 111 #[v] w (GivesB (.bool (risesB ms)) w) := by
  obtain ⟨hl, a, cap, rfl, _, hc⟩ := h.open
  replace hc := Lib.hid hc
  go_enter Try.func111, Try.ntmps111
  go_wp2_with fail
  go_loopw [3, 6] (fun _ i wr => ∃ k : Nat, k ≤ ms.length ∧ i = .int .i64 k ∧ risesB (ms.take k) = true ∧ Below w.heap.size w wr) (fun _ i _ => ms.length - (intOf i).toNat)
  case atStart => exact ⟨0, by omega, rfl, rfl, Below.refl _ _⟩
  case round =>
    obtain ⟨k, hk, rfl, hr, hb⟩ := hrel
    replace hr := Lib.hid hr
    by_cases hlt : k < ms.length
    · obtain ⟨b, off, rfl, hcc⟩ := hc.out (by intro e; subst e; simp at hlt)
      by_cases h0 : 0 < k
      · obtain ⟨j, rfl⟩ : ∃ j, k = j + 1 := ⟨k - 1, by omega⟩
        have hm := (hcc (j + 1) hlt).below hb
        have hp := (hcc j (by omega)).below hb
        have hne : (ordM (ms.getD j M.zero) (ms.getD (j + 1) M.zero)) = (ordM (ms.getD j M.zero) (ms.getD (j + 1) M.zero)) := rfl
        clear hne
        obtain ⟨m, HM⟩ : ∃ m, ms.getD (j + 1) M.zero = m := ⟨_, rfl⟩
        obtain ⟨p, HP⟩ : ∃ p, ms.getD j M.zero = p := ⟨_, rfl⟩
        rw [HM] at hm
        rw [HP] at hp
        replace HM := Lib.hid HM
        replace HP := Lib.hid HP
        have hblt := cell_lt hm.1
        dsimp only at hblt
        obtain ⟨m0, m1, m2, m3, m4⟩ := hm
        obtain ⟨p0, p1, p2, p3, p4⟩ := hp
        have hd0 : decide (0 < (↑(j + 1) : Int)) = true := decide_eq_true (by omega)
        have ht := Lib.hid (risesB_take (ms := ms) (j := j) hlt)
        cases hlm : lessM p m
        · have hd1 : decide (0 ≤ ordM p m) = true := by rw [ordM_ge, hlm]; rfl
          go_wp2_with fail
          refine wp_region_over (by kernel_rfl) (by kernel_rfl) ?_
          repeat (go_big_quiet_step (exact over_c (order_c _ p m)))
          refine wpQuiet_nil ?_
          rintro w2 ⟨⟨_, hb2⟩, rfl⟩
          go_wp2_with fail
          go_ret
          exact givesB_bool (below_trans hb hb2) (by rw [risesB_no (by rw [ht.out, HP.out, HM.out, hlm, Bool.and_false])])
        · have hd1 : decide (0 ≤ ordM p m) = false := by rw [ordM_ge, hlm]; rfl
          go_wp2_with fail
          refine wp_region_over (by kernel_rfl) (by kernel_rfl) ?_
          repeat (go_big_quiet_step (exact over_c (order_c _ p m)))
          refine wpQuiet_nil ?_
          rintro w2 ⟨⟨_, hb2⟩, rfl⟩
          go_wp2_with fail
          go_roundw
          case rel => exact ⟨j + 1 + 1, by omega, by go_num, by rw [ht.out, HP.out, HM.out, hlm, hr.out]; rfl, below_trans hb hb2⟩
          case measure => simp [intOf]; omega
      · obtain rfl : k = 0 := by omega
        go_wp2_with fail
        refine wp_region_over (by kernel_rfl) (by kernel_rfl) ?_
        repeat (go_big_quiet_step (fail))
        refine wpQuiet_nil ?_
        rintro w2 ⟨⟨_, hb2⟩, rfl⟩
        go_wp2_with fail
        go_roundw
        case rel => exact ⟨1, by omega, by go_num, by cases ms <;> rfl, below_trans hb hb2⟩
        case measure => simp [intOf]; omega
    · obtain rfl : k = ms.length := by omega
      have hr := hr.out
      rw [List.take_length] at hr
      replace hr := Lib.hid hr
      go_wp2_with fail
      go_ret
      exact givesB_bool hb (by rw [hr.out])

theorem neq_msg (a b : M) (w : World) : (binOp .neq 33 (.agg #[.int .i64 a.src, .int .i64 a.grp, .int .i64 a.stamp, .bool a.null, .string a.body]) (.agg #[.int .i64 b.src, .int .i64 b.grp, .int .i64 b.stamp, .bool b.null, .string b.body])).run Try.prog w = .ok (.bool (!eqM a b)) w := by
  have hS : Try.prog.underlying 33 = some (.struct (Try.prog.fieldsOf 33)) := by kernel_rfl
  have hp : Try.prog.stoodInHeld 33 = false := by kernel_rfl
  rw [run_neq_struct, show (10000 : Nat) = 9999 + 1 from rfl, run_equalIn_agg w 9999 33 _ _ hS hp]
  simp [go_sem]
  unfold eqM
  by_cases h1 : a.src = b.src <;> by_cases h2 : a.grp = b.grp <;> by_cases h3 : a.stamp = b.stamp <;> by_cases h4 : a.null = b.null <;> by_cases h5 : a.body.toList = b.body.toList <;> simp [h1, h2, h3, h4, h5]
set_option maxHeartbeats 400000 in
theorem SameMsgs_c {w : World} {v u : Value} {xs ys : List M} (h : Msgs w v xs) (h2 : Msgs w u ys) :
    Calls Try.prog 58 #[v, u] w (Gives (.bool (sameMs xs ys)) w) := by
  obtain ⟨hl, a, cap, rfl, _, hc⟩ := h.open
  obtain ⟨hl2, a2, cap2, rfl, _, hc2⟩ := h2.open
  replace hc := Lib.hid hc
  replace hc2 := Lib.hid hc2
  by_cases he : xs.length = ys.length
  · have hE := Lib.hid he
    rw [← he]
    clear he
    go_enter Try.func58, Try.ntmps58
    go_wp2_with fail
    go_loopw [5] (fun i wr => ∃ k : Nat, k ≤ xs.length ∧ i = .int .i64 k ∧ sameMs (xs.take k) (ys.take k) = true ∧ Drew w wr) (fun i _ => xs.length - (intOf i).toNat)
    case atStart => exact ⟨0, by omega, rfl, rfl, Drew.refl _⟩
    case round =>
      obtain ⟨k, hk, rfl, hg, hd⟩ := hrel
      replace hg := Lib.hid hg
      by_cases hlt : k < xs.length
      · obtain ⟨b, off, rfl, hcc⟩ := hc.out (by intro e; subst e; simp at hlt)
        obtain ⟨b2, off2, rfl, hcc2⟩ := hc2.out (by intro e; subst e; rw [hE.out] at hlt; simp at hlt)
        have hm := (hcc k hlt).below hd.below
        have hp := (hcc2 k (by rw [← hE.out]; exact hlt)).below hd.below
        have ht := Lib.hid (sameMs_take (xs := xs) (ys := ys) hE.out hlt)
        generalize xs.getD k M.zero = m at hm ht
        generalize ys.getD k M.zero = p at hp ht
        obtain ⟨m0, m1, m2, m3, m4⟩ := hm
        obtain ⟨p0, p1, p2, p3, p4⟩ := hp
        have hneq := neq_msg m p
        cases heq : eqM m p
        · rw [heq] at hneq
          replace heq := Lib.hid heq
          clear hcc hcc2 hc hc2
          go_wp2_with fail
          go_quiet (fail)
          go_wp2_with fail
          go_ret
          exact gives_bool (hd.drewN _) ((ht.out hg.out).2 heq.out).symm
        · rw [heq] at hneq
          replace heq := Lib.hid heq
          clear hcc hcc2 hc hc2
          go_wp2_with fail
          go_quiet (fail)
          go_wp2_with fail
          go_roundw
          case rel => exact ⟨k + 1, by omega, by go_num, (ht.out hg.out).1 heq.out, hd.drewN _⟩
          case measure => simp [intOf]; omega
      · obtain rfl : k = xs.length := by omega
        have hg := hg.out
        rw [List.take_length, hE.out, List.take_length] at hg
        replace hg := Lib.hid hg
        go_wp2_with fail
        go_ret
        exact gives_bool hd hg.out.symm
  · have hb : ((xs.length : Int) != (ys.length : Int)) = true := by simp; omega
    have hne := Lib.hid (sameMs_len he)
    clear he
    go_enter Try.func58, Try.ntmps58
    go_wp2_with fail
    go_ret
    exact gives_bool (Drew.refl _) hne.out.symm

set_option maxHeartbeats 1000000 in
theorem Right_c {w : World} {v : Value} {xs : List Int} (h : Ints w v xs) (nodes : Int) (m : M) : Calls Try.prog 125 #[.int .i64 nodes, v, m.val] w (GivesB (.int .i64 (rightE nodes xs m)) w) := by
  obtain ⟨hl, a, cap, rfl, _, _⟩ := h.open
  have hA := below_a1 w (.cells #[.int .i64 m.src, .int .i64 m.grp, .int .i64 m.stamp, .bool m.null, .string m.body] 33)
  have hcon := Has_c (h.below hA) m.grp m.src
  clear hA h
  unfold M.val
  by_cases hr : inRange nodes xs m
  · obtain ⟨r1, r2, r3, r4, r5, r6⟩ := hr
    cases hh : hasB xs m.grp m.src
    case' false =>
      have HE := Lib.hid (rightE_5 ⟨r1, r2, r3, r4, r5, r6⟩ hh)
      rw [hh] at hcon
      replace hh := Lib.hid hh
    case' true =>
      rw [hh] at hcon
      by_cases hb : 8 < (m.body.size : Int)
      case' pos =>
        have HE := Lib.hid (rightE_1a ⟨r1, r2, r3, r4, r5, r6⟩ hh hb)
        replace hh := Lib.hid hh
      case' neg =>
        cases hn : m.null
        case' false => have HE := Lib.hid (rightE_0a ⟨r1, r2, r3, r4, r5, r6⟩ hh hb hn)
        case' true =>
          cases he : m.body.toList.isEmpty
          case' false => have HE := Lib.hid (rightE_1b ⟨r1, r2, r3, r4, r5, r6⟩ hh hb hn he)
          case' true => have HE := Lib.hid (rightE_0b ⟨r1, r2, r3, r4, r5, r6⟩ hh hb he)
        all_goals
          replace hh := Lib.hid hh
          replace hn := Lib.hid hn
          rw [hn.out] at hcon
    all_goals
      go_enter Try.func125, Try.ntmps125
      go_wp2_with (go_at_call 91; refine hcon.mono ?_; rintro e w' ⟨rfl, rfl⟩)
      go_ret
      exact givesB_int (below_a1 _ _) HE.out.symm
  · have HE := Lib.hid (rightE_3 hr)
    unfold inRange at hr
    clear hcon
    go_enter Try.func125, Try.ntmps125
    go_wp2_with fail
    all_goals
      first
        | (exfalso; omega)
        | (go_ret; exact givesB_int (below_a1 _ _) HE.out.symm)
end Go.Proofs.Ytnalakhelicjcaa

set_option maxRecDepth 100000
namespace Go.Proofs.Ytnalakhelicjcaa
open Go.RowKit Go.Shelf Go.BigFrame
set_option maxHeartbeats 1000000 in
theorem MsgError_c {w : World} {v : Value} {xs : List Int} (h : Ints w v xs) (nodes : Int) (m : M) : Calls Try.prog 97 #[.int .i64 nodes, v, m.val] w (GivesB (.int .i64 (msgE nodes xs m)) w) := by
  obtain ⟨hl, a, cap, rfl, _, _⟩ := h.open
  have hA := below_a1 w (.cells #[.int .i64 m.src, .int .i64 m.grp, .int .i64 m.stamp, .bool m.null, .string m.body] 33)
  have hM := MsgBox.new w m 33
  have h1 := h.below hA
  have hc := GroupsError_c h1 nodes
  clear h
  unfold M.val
  by_cases he : gErr nodes xs = 0
  case' neg =>
    have HE := Lib.hid (show msgE nodes xs m = gErr nodes xs by rw [msgE, if_neg he])
    have hne : (gErr nodes xs != 0) = true := by simpa using he
    generalize gErr nodes xs = r at *
    clear he
    go_enter Try.func97, Try.ntmps97
    go_wp2_with fail
    refine hc.mono ?_
    rintro e w2 ⟨rfl, hd⟩
    clear hc
    go_wp2_with fail
    go_ret
    exact givesB_int (below_trans hA hd.below) HE.out.symm
  rw [he] at hc
  have HM := Lib.hid (show msgE nodes xs m = rightE nodes xs m by rw [msgE, if_pos he])
  obtain ⟨hn1, hn2⟩ := inB_t (gErr_zero he).1
  clear he
  have hcon := fun w' (hd : Drew _ w') => HasOf_c (h1.below hd.below) m.grp m.src
  have HR := Lib.hid (rightE_cases nodes xs m)
  generalize rightE nodes xs m = r at HR HM
  obtain ⟨src, grp, stamp, null, body⟩ := m
  dsimp only at *
  by_cases h1r : inB src 0 (nodes - 1) = true
  case' neg =>
    have HE := Lib.hid (HR.out.1 (fun h => h1r (inB_mk h.1 (by have := h.2.1; dsimp only at this; omega))))
    rw [Bool.not_eq_true] at h1r
  case' pos =>
    by_cases h2r : inB grp 0 (↑xs.length - 1) = true
    case' neg =>
      have HE := Lib.hid (HR.out.1 (fun h => h2r (inB_mk h.2.2.1 (by have := h.2.2.2.1; dsimp only at this; omega))))
      rw [Bool.not_eq_true] at h2r
    case' pos =>
      by_cases h3r : inB stamp 1 1048576 = true
      case' neg =>
        have HE := Lib.hid (HR.out.1 (fun h => h3r (inB_mk h.2.2.2.2.1 h.2.2.2.2.2)))
        rw [Bool.not_eq_true] at h3r
      case' pos =>
        have hir : inRange nodes xs ⟨src, grp, stamp, null, body⟩ := ⟨(inB_t h1r).1, by have := inB_t h1r; dsimp only; omega, (inB_t h2r).1, by have := inB_t h2r; dsimp only; omega, inB_t h3r⟩
        have HR2 := Lib.hid (HR.out.2 hir)
        clear hir HR
        cases hh : hasB xs grp src
        case' false =>
          have HE := Lib.hid (HR2.out.1 hh)
          rw [hh] at hcon
          replace hh := Lib.hid hh
        case' true =>
          rw [hh] at hcon
          have HR3 := Lib.hid (HR2.out.2 hh)
          replace hh := Lib.hid hh
          clear HR2
          by_cases hb : 8 < (body.size : Int)
          case' pos =>
            have HE := Lib.hid (HR3.out.1 hb)
            have hbb : decide (8 < (body.size : Int)) = true := decide_eq_true hb
          case' neg =>
            have hbb : decide (8 < (body.size : Int)) = false := decide_eq_false hb
            have HR4 := Lib.hid (HR3.out.2 hb)
            cases null
            case' false => have HE := Lib.hid (HR4.out.1 rfl)
            case' true =>
              cases he : body.toList.isEmpty
              case' false => have HE := Lib.hid (HR4.out.2.1 rfl he)
              case' true => have HE := Lib.hid (HR4.out.2.2 he)
  all_goals
    replace hcon := Lib.hid hcon
    replace hM := Lib.hid hM
    go_enter Try.func97, Try.ntmps97
    go_wp2_with fail
    refine hc.mono ?_
    rintro e w2 ⟨rfl, hd⟩
    clear hc
    obtain ⟨c0, c1, c2, c3, c4⟩ := hM.out.below hd.below (by simp)
    have hcon2 := hcon.out w2 hd
    clear hcon hM
    go_wp2_with (first | (go_at_call 66; refine (within_c _ _ _ _).mono ?_; rintro e w' ⟨rfl, rfl⟩) | (go_at_call 78; refine hcon2.mono ?_; rintro e w' ⟨rfl, rfl⟩))
    go_ret
    exact givesB_int (below_trans hA hd.below) (by rw [HM.out, HE.out])
end Go.Proofs.Ytnalakhelicjcaa

set_option maxRecDepth 100000
namespace Go.Proofs.Ytnalakhelicjcaa
open Go.RowKit Go.Shelf Go.BigFrame

theorem lessM_iff {a b : M} : lessM a b = true ↔ a.stamp < b.stamp ∨ a.stamp = b.stamp ∧ a.src < b.src := by
  simp [lessM]
/-- How many are ahead of m, at a list's head. -/
def posM (ms : List M) (m : M) : Nat := (ms.takeWhile fun a => lessM a m).length
theorem posM_eq : ∀ {ms : List M} {m : M} {k : Nat}, k ≤ ms.length → (∀ t, t < k → lessM (ms.getD t M.zero) m = true) → (k < ms.length → lessM (ms.getD k M.zero) m = false) → posM ms m = k
  | [], _, k, hk, _, _ => by
    have : k = 0 := by simpa using hk
    subst this; rfl
  | a :: ms, m, 0, _, _, h2 => by
    have := h2 (by simp)
    simp at this
    simp [posM, this]
  | a :: ms, m, k + 1, hk, h1, h2 => by
    have h0 := h1 0 (by omega)
    simp at h0
    have ih := posM_eq (ms := ms) (m := m) (k := k) (by simpa using hk) (fun t ht => by simpa using h1 (t + 1) (by omega)) (fun h => by simpa using h2 (by simpa using h))
    simp [posM, h0] at ih ⊢
    exact ih
/-- Does one with its Stamp and From stand there? -/
def foundM (ms : List M) (m : M) : Bool := decide (posM ms m < ms.length) && (ordM (ms.getD (posM ms m) M.zero) m == 0)

theorem MsgBox.cells {w : World} {b : Nat} {m : M} (h : MsgBox w b m) : b < w.heap.size := cell_lt h.1

end Go.Proofs.Ytnalakhelicjcaa

set_option maxRecDepth 100000
namespace Go.Proofs.Ytnalakhelicjcaa
open Go.RowKit Go.Shelf Go.Lib
section
variable {P : Program}
end

theorem Addr.add0 (g o j : Nat) : (⟨g, o, none⟩ : Addr).add j = ⟨g, o + j, none⟩ := by unfold Addr.add; split <;> simp_all

end Go.Proofs.Ytnalakhelicjcaa

set_option maxRecDepth 100000
namespace Go.Proofs.Ytnalakhelicjcaa
open Go.RowKit Go.Shelf Go.BigFrame

def putE (ms : List M) (m : M) : Int := if risesB ms = true then if 40 ≤ (ms.length : Int) then 2 else if foundM ms m = true then 1 else 0 else 1
def putM (ms : List M) (m : M) : List M := ms.take (posM ms m) ++ m :: ms.drop (posM ms m)
def putL (ms : List M) (m : M) : List M := if putE ms m = 0 then putM ms m else []
theorem put_rise {ms : List M} {m : M} (h : risesB ms = false) : putE ms m = 1 ∧ putL ms m = [] := by simp [putE, putL, h]
theorem put_many {ms : List M} {m : M} (h : risesB ms = true) (h2 : 40 ≤ (ms.length : Int)) : putE ms m = 2 ∧ putL ms m = [] := by simp [putE, putL, h, h2]
theorem put_is {ms : List M} {m : M} (h : risesB ms = true) (h2 : ¬ 40 ≤ (ms.length : Int)) (h3 : foundM ms m = true) : putE ms m = 1 ∧ putL ms m = [] := by simp [putE, putL, h, h2, h3]
theorem put_ok {ms : List M} {m : M} (h : risesB ms = true) (h2 : ¬ 40 ≤ (ms.length : Int)) (h3 : foundM ms m = false) : putE ms m = 0 ∧ putL ms m = putM ms m := by simp [putE, putL, h, h2, h3]
theorem posM_le (ms : List M) (m : M) : posM ms m ≤ ms.length := by unfold posM; exact (List.takeWhile_sublist _).length_le
theorem Msgs.nil (w : World) : Msgs w (.slice none 0 0) [] := ⟨by simp, by simp, by simp, none, 0, rfl, Nat.le_refl _, fun h => absurd rfl h⟩
theorem flat_take (ms : List M) (k : Nat) : (ms.flatMap M.cells).take (k * 5) = (ms.take k).flatMap M.cells := by
  induction ms generalizing k with
  | nil => simp
  | cons m ms ih =>
    cases k with
    | zero => simp
    | succ k =>
      rw [List.flatMap_cons, List.take_succ_cons, List.flatMap_cons, ← ih]
      rw [List.take_append]
      have e : m.cells.length = 5 := rfl
      rw [e, List.take_of_length_le (by rw [e]; omega), show (k + 1) * 5 - 5 = k * 5 by omega]
theorem flat_drop (ms : List M) (k : Nat) : (ms.flatMap M.cells).drop (k * 5) = (ms.drop k).flatMap M.cells := by
  induction ms generalizing k with
  | nil => simp
  | cons m ms ih =>
    cases k with
    | zero => simp
    | succ k =>
      rw [List.flatMap_cons, List.drop_succ_cons, ← ih]
      rw [List.drop_append]
      have e : m.cells.length = 5 := rfl
      rw [e, List.drop_of_length_le (by rw [e]; omega), show (k + 1) * 5 - 5 = k * 5 by omega, List.nil_append]
theorem one_flat (ms : List M) : ∀ u ∈ ms.flatMap M.cells, u.oneCell' = true := by
  intro u hu
  obtain ⟨m, _, hm⟩ := List.mem_flatMap.1 hu
  simp [M.cells] at hm
  rcases hm with rfl | rfl | rfl | rfl | rfl <;> rfl
/-- An own row of messages. -/
def MsgsOwn (w : World) (base : Nat) (v : Value) (ms : List M) : Prop := (∀ m ∈ ms, m.fits) ∧ w.ownsRow base 33 5 v ms.length (ms.flatMap M.cells)
theorem MsgsOwn.msgs {w : World} {base : Nat} {v : Value} {ms : List M} (h : MsgsOwn w base v ms) (hl : ms.length * 40 ≤ 140737488351232) : Msgs w v ms :=
  ⟨h.1, Row.of_owns h.2 (by rw [flat_len]; omega)⟩
def PutPost (w : World) (ms : List M) (m : M) (e : Ending) (w' : World) : Prop :=
  ∃ v', e = .returned (.tuple #[v', .int .i64 (putE ms m)]) ∧ MsgsOwn w' w.heap.size v' (putL ms m) ∧ Below w.heap.size w w'

theorem owns_mono {w : World} {b b' : Nat} {e : TypeId} {s n : Nat} {v : Value} {xs : List Value} (h : w.ownsRow b e s v n xs) (hb : b' ≤ b) : w.ownsRow b' e s v n xs := by
  refine ⟨h.1, ?_⟩
  rcases h.2 with h | ⟨g, cap, cur, h1, h2, h3⟩
  · exact .inl h
  · exact .inr ⟨g, cap, cur, h1, by omega, h3⟩
theorem putM_fits {ms : List M} {m : M} (h : ∀ m ∈ ms, m.fits) (hm : m.fits) : ∀ x ∈ putM ms m, x.fits := by
  intro x hx
  rcases List.mem_append.1 hx with hx | hx
  · exact h x (List.mem_of_mem_take hx)
  · rcases List.mem_cons.1 hx with rfl | hx
    · exact hm
    · exact h x (List.mem_of_mem_drop hx)
theorem putM_len (ms : List M) (m : M) : (putM ms m).length = ms.length + 1 := by
  have := posM_le ms m
  simp [putM]; omega
end Go.Proofs.Ytnalakhelicjcaa

set_option maxRecDepth 100000
namespace Go.Proofs.Ytnalakhelicjcaa
open Go.RowKit Go.Shelf Go.BigFrame

section
variable {P : Program} {w : World}
theorem run_append_zero (base : Nat) (t ty e : TypeId) (i : TypeInfo) (size : Nat) (ht : P.underlying t = some (.slice e)) (hi : P.info? e = some i)
    (v : Value) (n : Nat) (xs : List Value) (hown : w.ownsRow base e size v n xs) (r : Option Addr) (c : Nat) :
    (Builtin.append_ #[t, t] ty #[v, .slice r 0 c]).run P w = .ok v w := by
  have hz : ∀ s, (Builtin.firstCells s 0 (.slice r 0 c)).run P w = .ok #[] w := fun s => by
    cases r with
    | none => exact run_firstCells_none w s 0 0 c
    | some a => exact run_firstCells_some w s 0 a 0 c [] (by simp) (by simp)
  rcases hown.2 with ⟨rfl, rfl⟩ | ⟨g, cap, cur, rfl, _, _, hnc, _⟩
  · simp [Builtin.append_, run_underlying ht, sizeOf, typeInfo, hi, Builtin.lenOf, hz]
  · simp [Builtin.append_, run_underlying ht, sizeOf, typeInfo, hi, Builtin.lenOf, hz, hnc, storeCells]
theorem wpList_append_zero {ops : Array Oper} {rest : List Oper} {o : Oper} {a : Act} {Q : Exit → Act → World → Prop} (hgd : o.guard = none) (s x : Operand) (t : TypeId)
    (ho : o.op = .call { callee := .builtin .append, args := #[s, x], argTypes := #[t, t] })
    (base : Nat) (e : TypeId) (i : TypeInfo) (size : Nat) (ht : P.underlying t = some (.slice e)) (hi : P.info? e = some i)
    (v : Value) (n : Nat) (xs : List Value) (hs : a.eval s = v) (hown : w.ownsRow base e size v n xs) (r : Option Addr) (c : Nat) (hx : a.eval x = .slice r 0 c)
    (h : wpList P ops Q rest (a.put o.dst v) w) : wpList P ops Q (o :: rest) a w := by
  refine wpList_plain hgd fun K hK => ?_
  have hrun := run_append_zero (P := P) (w := w) base t o.type e i size ht hi v n xs hown r c
  unfold Oper.wp
  simp [execOp, ho, resolve, invoke, builtin, hs, hx, hrun, Result.andThen]
  exact hK _ _ h
end

theorem below_app {w wr w1 : World} {base : Nat} {e : TypeId} {s n : Nat} {v : Value} {cs : List Value} {o : Obj} (hb : Below base w wr) (ho : wr.ownsRow base e s v n cs) (hbs : base ≤ wr.heap.size)
    (hg : (wr.alloc o).grownBy w1 v.ownBlock) : Below base w w1 :=
  (hb.alloc hbs _).grown hg (by rw [World.size_alloc]; omega) (fun k e => (ho.lt k e).1)
theorem cells_new (w : World) (cs : Array Value) (t : TypeId) : ∀ j u, cs.toList[j]? = some u → (w.alloc (.cells cs t)).cell? ((⟨w.heap.size, 0, none⟩ : Addr).add j) = some u := by
  intro j u hj
  rw [Addr.add0, cell_of_row _ _ _ _ _ _ (heap_alloc_new w _)]
  simpa using hj

theorem owns_below {w w' : World} {b : Nat} {e : TypeId} {s n : Nat} {v : Value} {xs : List Value} (h : w.ownsRow b e s v n xs) (hb : Below w.heap.size w w') : w'.ownsRow b e s v n xs := by
  refine ⟨h.1, ?_⟩
  rcases h.2 with h | ⟨g, cap, cur, h1, h2, h3, h4⟩
  · exact .inl h
  · exact .inr ⟨g, cap, cur, h1, h2, (hb.block g (Array.getElem?_eq_some_iff.1 h3).1).trans h3, h4⟩
theorem own_form {w : World} {b : Nat} {e : TypeId} {s n : Nat} {v : Value} {xs : List Value} (h : w.ownsRow b e s v n xs) : ∃ a cap, v = .slice a n cap := by
  rcases h.2 with ⟨h1, h2⟩ | ⟨g, cap, cur, h1, _⟩
  · exact ⟨none, 0, by rw [h1, h2]⟩
  · exact ⟨_, cap, h1⟩
theorem ordM_zero {a b : M} (h : lessM a b = false) : (ordM a b == 0) = !lessM b a := by
  have h1 : ¬ (a.stamp < b.stamp ∨ a.stamp = b.stamp ∧ a.src < b.src) := fun e => by rw [lessM_iff.2 e] at h; cases h
  unfold ordM lessM orI cmpI
  by_cases h2 : b.stamp < a.stamp
  · have : ¬ a.stamp < b.stamp := by omega
    simp [h2, this]
  · have e : a.stamp = b.stamp := by omega
    by_cases h3 : b.src < a.src
    · have : ¬ a.src < b.src := by omega
      simp [e, h3, this]
    · have : ¬ a.src < b.src := by omega
      simp [e, h3, this]
theorem msgs_news {w : World} {b off cap : Nat} {ms : List M} (h : Msgs w (.slice (some ⟨b, off, none⟩) ms.length cap) ms) (k : Nat) :
    ∀ j u, ((ms.drop k).flatMap M.cells)[j]? = some u → w.cell? ((⟨b, off + k * 5, none⟩ : Addr).add j) = some u := by
  intro j u hj
  rw [← flat_drop, List.getElem?_drop] at hj
  have := row_news h.2 _ u hj
  rw [Addr.add0] at this ⊢
  rw [Nat.add_assoc]
  exact this
theorem last_flat (ms : List M) (m : M) (k : Nat) : (ms.take k).flatMap M.cells ++ m.cells ++ (ms.drop k).flatMap M.cells = (ms.take k ++ m :: ms.drop k).flatMap M.cells := by simp
theorem putof_done {w w' : World} {ms : List M} {m : M} {k base : Nat} {v : Value} (hp : posM ms m = k) (hE : putE ms m = 0 ∧ putL ms m = putM ms m) (hf : (∀ m ∈ ms, m.fits) ∧ m.fits)
    (ho : w'.ownsRow base 33 5 v (ms.length + 1) ((ms.take k).flatMap M.cells ++ m.cells ++ (ms.drop k).flatMap M.cells)) (hb : w.heap.size ≤ base) (hw : Below w.heap.size w w') :
    PutPost w ms m (.returned (.tuple #[v, .int .i64 0])) w' := by
  refine ⟨v, by rw [hE.1], ?_, hw⟩
  rw [hE.2]
  refine ⟨putM_fits hf.1 hf.2, ?_⟩
  rw [putM_len, putM, hp, ← last_flat]
  exact owns_mono ho hb

theorem rises_c {w : World} {v : Value} {ms : List M} (h : Msgs w v ms) : Calls Try.prog 79 #[v] w (GivesB (.bool (risesB ms)) w) := by
  obtain ⟨hl, a, cap, rfl, _, hc⟩ := h.open
  replace hc := Lib.hid hc
  go_enter Try.func79, Try.ntmps79
  go_wp2_with fail
  go_loopw [3] (fun i wr => ∃ k : Nat, i = .int .i64 (k + 1 : Nat) ∧ (k ≤ ms.length) ∧ (k < ms.length ∨ ms = []) ∧ risesB (ms.take (k + 1)) = true ∧ Below w.heap.size w wr) (fun i _ => ms.length - (intOf i).toNat)
  case atStart => exact ⟨0, rfl, by omega, by cases ms <;> simp, by cases ms <;> rfl, Below.refl _ _⟩
  case round =>
    obtain ⟨j, rfl, hk, hk2, hr, hb⟩ := hrel
    replace hr := Lib.hid hr
    by_cases hlt : j + 1 < ms.length
    · obtain ⟨b, off, rfl, hcc⟩ := hc.out (by intro e; subst e; simp at hlt)
      have hm := (hcc (j + 1) hlt).below hb
      have hp := (hcc j (by omega)).below hb
      obtain ⟨m, HM⟩ : ∃ m, ms.getD (j + 1) M.zero = m := ⟨_, rfl⟩
      obtain ⟨p, HP⟩ : ∃ p, ms.getD j M.zero = p := ⟨_, rfl⟩
      rw [HM] at hm
      rw [HP] at hp
      replace HM := Lib.hid HM
      replace HP := Lib.hid HP
      have hblt := cell_lt hm.1
      dsimp only at hblt
      obtain ⟨m0, m1, m2, m3, m4⟩ := hm
      obtain ⟨p0, p1, p2, p3, p4⟩ := hp
      have ht := Lib.hid (risesB_take (ms := ms) (j := j) hlt)
      go_wp2_with fail
      refine wp_region_over (by kernel_rfl) (by kernel_rfl) ?_
      repeat (go_big_quiet_step (exact over_c (LessOf_c _ p m)))
      refine wpQuiet_nil ?_
      rintro w2 ⟨⟨_, hb2⟩, rfl⟩
      cases hlm : lessM p m
      · go_wp2_with fail
        go_ret
        exact givesB_bool (below_trans hb hb2) (by rw [risesB_no (by rw [ht.out, HP.out, HM.out, hlm, Bool.and_false])])
      · go_wp2_with fail
        go_roundw
        case rel => exact ⟨j + 1, by go_num, by omega, Or.inl hlt, by rw [ht.out, HP.out, HM.out, hlm, hr.out]; rfl, below_trans hb hb2⟩
        case measure => simp [intOf]; omega
    · have hr := hr.out
      rw [List.take_of_length_le (by omega)] at hr
      replace hr := Lib.hid hr
      go_wp2_with fail
      go_ret
      exact givesB_bool hb (by rw [hr.out])

set_option maxHeartbeats 1000000 in
theorem PutOf_c {w : World} {v : Value} {ms : List M} {m : M} (h : Msgs w v ms) (hm : m.fits) :
    Calls Try.prog 146 #[v, m.val] w (PutPost w ms m) := by
  have hA := below_a1 w (.cells #[.int .i64 m.src, .int .i64 m.grp, .int .i64 m.stamp, .bool m.null, .string m.body] 33)
  have hM := MsgBox.new w m 33
  have hm' := Lib.hid (And.intro h.1 hm)
  have hR := rises_c (h.below hA)
  obtain ⟨i0, hi0, hz0, hz1, hz2⟩ := info_parts infoCMsg
  obtain ⟨hl, a, cap, rfl, _, hc⟩ := h.open
  replace hc := Lib.hid hc
  unfold M.val
  cases hr : risesB ms
  · rw [hr] at hR
    have hE := Lib.hid (put_rise (m := m) hr)
    clear hr
    go_enter Try.func146, Try.ntmps146
    go_wp2_with fail
    refine hR.mono ?_
    rintro e w2 ⟨rfl, hb⟩
    go_wp2_with fail
    go_ret2
    exact ⟨_, by rw [hE.out.1]; rfl, by rw [hE.out.2]; exact ⟨by simp, World.ownsRow_nil _ _ _ _⟩, below_trans hA hb⟩
  · rw [hr] at hR
    by_cases h40 : 40 ≤ (ms.length : Int)
    · have hE := Lib.hid (put_many (m := m) hr h40)
      clear hr
      go_enter Try.func146, Try.ntmps146
      go_wp2_with fail
      refine hR.mono ?_
      rintro e w2 ⟨rfl, hb⟩
      go_wp2_with fail
      go_ret2
      exact ⟨_, by rw [hE.out.1]; rfl, by rw [hE.out.2]; exact ⟨by simp, World.ownsRow_nil _ _ _ _⟩, below_trans hA hb⟩
    · have hr' := Lib.hid hr
      clear hr
      have h40' := h40
      go_enter Try.func146, Try.ntmps146
      go_wp2_with fail
      refine hR.mono ?_
      rintro e w2 ⟨rfl, hb⟩
      have hw2 := below_trans hA hb
      have hM2 := hM.below hb (by simp)
      have hbs := hb.size
      simp at hbs
      go_wp2_with fail
      go_loopw [6, 7] (fun o i wr => ∃ k : Nat, k ≤ ms.length ∧ i = .int .i64 k ∧ Hid (∀ t, t < k → lessM (ms.getD t M.zero) m = true) ∧ wr.ownsRow (w.heap.size + 1) 33 5 o k ((ms.take k).flatMap M.cells) ∧ Below (w.heap.size + 1) w2 wr) (fun _ i _ => ms.length - (intOf i).toNat)
      case atStart => exact ⟨0, by omega, rfl, fun t ht => absurd ht (Nat.not_lt_zero _), World.ownsRow_nil _ _ _ _, Below.refl _ _⟩
      case round =>
        obtain ⟨k, hk, rfl, hless, ho, hb4⟩ := hrel
        obtain ⟨a6, cap6, rfl⟩ := own_form ho
        have hs4 := hb4.size
        obtain ⟨c0, c1, c2, c3, c4⟩ := hM2.below hb4 (by omega)
        have hmb := cell_lt c0
        dsimp only at hmb
        by_cases hlt : k < ms.length
        · obtain ⟨b, off, rfl, hcc⟩ := hc.out (by intro e; subst e; simp at hlt)
          obtain ⟨d, hd⟩ : ∃ d, ms.getD k M.zero = d := ⟨_, rfl⟩
          have hw4 : Below w.heap.size w wr := hw2.trans (hb4.mono (by omega))
          obtain ⟨d0, d1, d2, d3, d4⟩ := (hcc k hlt).below hw4
          rw [hd] at d0 d1 d2 d3 d4
          replace hd := Lib.hid hd
          have hdb := cell_lt d0
          dsimp only at hdb
          have hlt' : decide ((k : Int) < (ms.length : Int)) = true := decide_eq_true (by omega)
          go_wp2_with fail
          refine wp_region_over (by kernel_rfl) (by kernel_rfl) ?_
          repeat (go_big_quiet_step (exact over_c (LessOf_c _ d m)))
          refine wpQuiet_nil ?_
          rintro w5 ⟨⟨_, hb5⟩, rfl⟩
          cases hlm : lessM d m
          · have hpos : posM ms m = k := posM_eq (by omega) hless.out (fun _ => by rw [hd.out, hlm])
            have hw5 := below_trans hw4 hb5
            have ho5 := owns_below ho hb5
            have e0 := (hb5.cell (p := ⟨b, off + k * 5, none⟩) hdb).trans d0
            have e1 := (hb5.cell (p := ⟨b, off + k * 5 + 1, none⟩) hdb).trans d1
            have e2 := (hb5.cell (p := ⟨b, off + k * 5 + 2, none⟩) hdb).trans d2
            have e3 := (hb5.cell (p := ⟨b, off + k * 5 + 3, none⟩) hdb).trans d3
            have e4 := (hb5.cell (p := ⟨b, off + k * 5 + 4, none⟩) hdb).trans d4
            obtain ⟨g0, g1, g2, g3, g4⟩ := hM2.below (hb4.trans (hb5.mono (by omega))) (by omega)
            have hrowH := Lib.hid (msgs_news h k)
            have hgmb := cell_lt g0
            have hdb5 := cell_lt e0
            dsimp only at hgmb hdb5
            have hck : ¬ cap = k := by omega
            have hrl : decide (0 < ms.length - k) = true := decide_eq_true (by omega)
            have hrl2 : (0 : Int) < ((ms.length - k : Nat) : Int) := by omega
            have hfd : foundM ms m = !lessM m d := by rw [foundM, hpos, hd.out, decide_eq_true hlt, Bool.true_and, ordM_zero hlm]
            have hpos := Lib.hid hpos
            have hfd := Lib.hid hfd
            go_wp2_with fail
            refine wp_region_over (by kernel_rfl) (by kernel_rfl) ?_
            repeat (go_big_quiet_step (exact over_c (LessOf_c _ m d)))
            refine wpQuiet_nil ?_
            rintro w7 ⟨⟨_, hb7⟩, rfl⟩
            cases hml : lessM m d
            · have hE := Lib.hid (put_is (m := m) hr'.out (by omega) (by rw [hfd.out, hml]; rfl))
              go_wp2_with fail
              go_ret2
              exact ⟨_, by rw [hE.out.1]; rfl, by rw [hE.out.2]; exact ⟨by simp, World.ownsRow_nil _ _ _ _⟩, below_trans hw5 hb7⟩
            · have hE := Lib.hid (put_ok (m := m) hr'.out (by omega) (by rw [hfd.out, hml]; rfl))
              have ho7 := owns_below ho5 hb7
              have hs7 := hb7.size
              have hs5 := hb5.size
              obtain ⟨g0, g1, g2, g3, g4⟩ := hM2.below ((hb4.trans (hb5.mono (by omega))).trans (hb7.mono (by omega))) (by omega)
              have hw7 := below_trans hw5 hb7
              have hdl : ((ms.drop k).flatMap M.cells).length = (ms.length - k) * 5 := by rw [flat_len, List.length_drop]
              have hdlH := Lib.hid hdl
              clear hdl
              go_wp2_with (first
                | (at_builtin; refine wpList_append_own _ rfl _ _ 24 rfl (w.heap.size + 1) 33 i0 _ 5 48 Try.underlying24 hi0 hz0 hz1 hz2 rfl (by decide) _ _ _ rfl (ho7.alloc _) ⟨w7.heap.size, 0, none⟩ 1 1 m.cells rfl rfl (cells_new _ _ _) (by simp [M.cells, Value.oneCell']) (by unfold maxLen; omega) (by omega) (by simp; omega) ?_; intro v' w1 hown1 hgrow1 _
                   have hw1 := below_app hw7 (owns_mono ho7 (by omega)) (by omega) hgrow1
                   have hs1 := hgrow1.size
                   rw [World.size_alloc] at hs1)
                | (at_builtin; refine wpList_append_own _ rfl _ _ 24 rfl (w.heap.size + 1) 33 i0 _ 5 48 Try.underlying24 hi0 hz0 hz1 hz2 rfl (by decide) _ _ _ rfl hown1 ⟨b, off + k * 5, none⟩ (ms.length - k) (cap - k) ((ms.drop k).flatMap M.cells) rfl hdlH.out (fun j u hj => (hw1.cell (cell_lt (hrowH.out j u hj))).trans (hrowH.out j u hj)) (one_flat _) (by unfold maxLen; omega) (by omega) (by omega) ?_; intro v2 w2' hown2 hgrow2 _))
              go_ret2
              refine putof_done (base := w.heap.size + 1) hpos.out hE.out hm'.out ?_ (by omega) (hw1.grown hgrow2 (by omega) (fun q e => by have := (hown1.lt q e).1; omega))
              rw [show ms.length + 1 = k + 1 + (ms.length - k) by omega]
              exact hown2
          · have ho5 := owns_below ho hb5
            have e0 := (hb5.cell (p := ⟨b, off + k * 5, none⟩) hdb).trans d0
            have e1 := (hb5.cell (p := ⟨b, off + k * 5 + 1, none⟩) hdb).trans d1
            have e2 := (hb5.cell (p := ⟨b, off + k * 5 + 2, none⟩) hdb).trans d2
            have e3 := (hb5.cell (p := ⟨b, off + k * 5 + 3, none⟩) hdb).trans d3
            have e4 := (hb5.cell (p := ⟨b, off + k * 5 + 4, none⟩) hdb).trans d4
            have hs5 := hb5.size
            have hb6 := hb4.trans (hb5.mono (by omega))
            go_wp2_with (at_builtin; refine wpList_append_own _ rfl _ _ 24 rfl (w.heap.size + 1) 33 i0 _ 5 48 Try.underlying24 hi0 hz0 hz1 hz2 rfl (by decide) _ _ _ rfl (ho5.alloc _) ⟨w5.heap.size, 0, none⟩ 1 1 d.cells rfl rfl (cells_new _ _ _) (by simp [M.cells, Value.oneCell']) (by unfold maxLen; omega) (by omega) (by simp; omega) ?_; intro v' w1 hown' hgrow _)
            go_roundw
            case rel =>
              refine ⟨k + 1, by omega, by go_num, fun t ht => ?_, ?_, below_app hb6 ho5 (by omega) hgrow⟩
              · rcases Nat.eq_or_lt_of_le (Nat.le_of_lt_succ ht) with e | e
                · subst e; rw [hd.out, hlm]
                · exact hless.out t e
              · rw [show (ms.take (k + 1)).flatMap M.cells = (ms.take k).flatMap M.cells ++ d.cells by
                  rw [← hd.out, getD_lt ms M.zero hlt, List.take_succ_eq_append_getElem hlt, List.flatMap_append]; simp]
                exact hown'
            case measure => simp [intOf]; omega
        · obtain rfl : k = ms.length := by omega
          have hlt' : decide ((ms.length : Int) < (ms.length : Int)) = false := decide_eq_false (by omega)
          have hpos : posM ms m = ms.length := posM_eq (by omega) hless.out (fun h => absurd h hlt)
          have hfd : foundM ms m = false := by rw [foundM, hpos, decide_eq_false hlt, Bool.false_and]
          have hE := Lib.hid (put_ok (m := m) hr'.out (by omega) hfd)
          have hrl : decide (0 < ms.length - ms.length) = false := decide_eq_false (by omega)
          have hw4 : Below w.heap.size w wr := hw2.trans (hb4.mono (by omega))
          replace hpos := Lib.hid hpos
          clear hfd
          have hw2' := hw2.mono (Nat.le_refl _)
          by_cases hcl : cap = ms.length
          all_goals
            go_wp2_with fail
            refine wp_region_over (by kernel_rfl) (by kernel_rfl) ?_
            repeat (go_big_quiet_step (fail))
            refine wpQuiet_nil ?_
            rintro w5 ⟨⟨_, hb5⟩, rfl⟩
            have ho5 := owns_below ho hb5
            have hs5 := hb5.size
            go_wp2_with fail
            refine wp_region_over (by kernel_rfl) (by kernel_rfl) ?_
            repeat (go_big_quiet_step (fail))
            refine wpQuiet_nil ?_
            rintro w7 ⟨⟨_, hb7⟩, rfl⟩
            have ho7 := owns_below ho5 hb7
            have hs7 := hb7.size
            obtain ⟨g0, g1, g2, g3, g4⟩ := hM2.below ((hb4.trans (hb5.mono (by omega))).trans (hb7.mono (by omega))) (by omega)
            have hw7 := below_trans (below_trans hw4 hb5) hb7
            go_wp2_with (first
              | (at_builtin; refine wpList_append_own _ rfl _ _ 24 rfl (w.heap.size + 1) 33 i0 _ 5 48 Try.underlying24 hi0 hz0 hz1 hz2 rfl (by decide) _ _ _ rfl (ho7.alloc _) ⟨w7.heap.size, 0, none⟩ 1 1 m.cells rfl rfl (cells_new _ _ _) (by simp [M.cells, Value.oneCell']) (by unfold maxLen; omega) (by omega) (by simp; omega) ?_; intro v' w1 hown1 hgrow1 _
                 have hw1 := below_app hw7 (owns_mono ho7 (by omega)) (by omega) hgrow1
                 have hs1 := hgrow1.size
                 rw [World.size_alloc] at hs1)
              | (at_builtin; refine wpList_append_zero rfl _ _ 24 rfl (w.heap.size + 1) 33 i0 5 Try.underlying24 hi0 _ _ _ rfl hown1 _ _ rfl ?_))
            go_ret2
            refine putof_done (base := w.heap.size + 1) hpos.out hE.out hm'.out ?_ (by omega) hw1
            rw [List.drop_length, List.flatMap_nil, List.append_nil]
            exact hown1
end Go.Proofs.Ytnalakhelicjcaa
