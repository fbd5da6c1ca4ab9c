/-
  Messages: where one stands in a list that rises; putting it there.
-/
import Derived.Test.YthclljdkicihpaaM2
import Derived.Test.YthclljdkicihpaaClone
set_option maxRecDepth 100000
namespace Go.Proofs.Ythclljdkicihpaa
open Go.RowKit Go.Shelf Go.BigFrame

theorem lessM_iff {a b : M} : lessM a b = true ↔ a.stamp < b.stamp ∨ a.stamp = b.stamp ∧ a.src < b.src := by
  simp [lessM]
theorem lessM_trans {a b c : M} (h : lessM a b = true) (k : lessM b c = true) : lessM a c = true := by
  rw [lessM_iff] at *; omega
theorem risesB_pair : ∀ {ms : List M}, risesB ms = true ↔ ms.Pairwise (fun a b => lessM a b = true)
  | [] => by simp [risesB]
  | [_] => by simp [risesB]
  | a :: b :: l => by
    rw [risesB, Bool.and_eq_true, risesB_pair (ms := b :: l), List.pairwise_cons (a := a)]
    constructor
    · rintro ⟨h1, h2⟩
      refine ⟨fun c hc => ?_, h2⟩
      rcases List.mem_cons.1 hc with rfl | hc
      · exact h1
      · exact lessM_trans h1 ((List.pairwise_cons.1 h2).1 c hc)
    · rintro ⟨h1, h2⟩
      exact ⟨h1 b (by simp), h2⟩
theorem rises_lt {ms : List M} (h : risesB ms = true) {s t : Nat} (hs : s < t) (ht : t < ms.length) : lessM (ms.getD s M.zero) (ms.getD t M.zero) = true := by
  rw [risesB_pair] at h
  rw [getD_lt ms M.zero (by omega), getD_lt ms M.zero ht]
  exact List.pairwise_iff_getElem.1 h s t _ _ hs
/-- How many are ahead of m, at a list's head. -/
def posM (ms : List M) (m : M) : Nat := (ms.takeWhile fun a => lessM a m).length
theorem posM_eq : ∀ {ms : List M} {m : M} {k : Nat}, k ≤ ms.length → (∀ t, t < k → lessM (ms.getD t M.zero) m = true) → (k < ms.length → lessM (ms.getD k M.zero) m = false) → posM ms m = k
  | [], _, k, hk, _, _ => by
    have : k = 0 := by simpa using hk
    subst this; rfl
  | a :: ms, m, 0, _, _, h2 => by
    have := h2 (by simp)
    simp at this
    simp [posM, this]
  | a :: ms, m, k + 1, hk, h1, h2 => by
    have h0 := h1 0 (by omega)
    simp at h0
    have ih := posM_eq (ms := ms) (m := m) (k := k) (by simpa using hk) (fun t ht => by simpa using h1 (t + 1) (by omega)) (fun h => by simpa using h2 (by simpa using h))
    simp [posM, h0] at ih ⊢
    exact ih
/-- Does one with its Stamp and From stand there? -/
def foundM (ms : List M) (m : M) : Bool := decide (posM ms m < ms.length) && (ordM (ms.getD (posM ms m) M.zero) m == 0)

theorem MsgBox.cells {w : World} {b : Nat} {m : M} (h : MsgBox w b m) : b < w.heap.size := cell_lt h.1

set_option maxHeartbeats 1000000 in
theorem Search_c {w : World} {v : Value} {ms : List M} (h : Msgs w v ms) (m : M) (hr : risesB ms = true) :
    Calls Try.prog 33 #[v, m.val, .func (.func 21) #[] #[]] w (GivesB (.tuple #[.int .i64 (posM ms m), .bool (foundM ms m)]) w) := by
  obtain ⟨hl, a, cap, rfl, _, hc⟩ := h.open
  replace hc := Lib.hid hc
  replace hr := Lib.hid hr
  have hA := below_a1 w (.cells #[.int .i64 m.src, .int .i64 m.grp, .int .i64 m.stamp, .bool m.null, .string m.body] 24)
  have hM := MsgBox.new w m 24
  unfold M.val
  go_enter Try.func33, Try.ntmps33
  go_wp2_with fail
  go_loopw [9, 10, 11] (fun i j _ wr => ∃ p q : Nat, p ≤ q ∧ q ≤ ms.length ∧ i = .int .i64 p ∧ j = .int .i64 q ∧ Hid (∀ t, t < p → lessM (ms.getD t M.zero) m = true) ∧ Hid (∀ t, q ≤ t → t < ms.length → lessM (ms.getD t M.zero) m = false) ∧
    Below (w.alloc (.cells #[.int .i64 m.src, .int .i64 m.grp, .int .i64 m.stamp, .bool m.null, .string m.body] 24)).heap.size (w.alloc (.cells #[.int .i64 m.src, .int .i64 m.grp, .int .i64 m.stamp, .bool m.null, .string m.body] 24)) wr) (fun i j _ _ => (intOf j).toNat - (intOf i).toNat)
  case atStart => exact ⟨0, ms.length, by omega, by omega, rfl, rfl, fun t ht => absurd ht (Nat.not_lt_zero _), fun t h1 h2 => by omega, Below.refl _ _⟩
  case round =>
    obtain ⟨p, q, hpq, hq, rfl, rfl, h1, h2, hb⟩ := hrel
    obtain ⟨c0, c1, c2, c3, c4⟩ := hM.below hb (by simp)
    have hmb := cell_lt c0
    dsimp only at hmb
    by_cases hlt : p < q
    · obtain ⟨b, off, rfl, hcc⟩ := hc.out (by intro e; subst e; simp at hq; omega)
      have hw2 := below_trans hA hb
      obtain ⟨h, he, hph, hhq⟩ : ∃ h : Nat, (h : Int) = ((p : Int) + (q : Int)) / 2 ∧ p ≤ h ∧ h < q := ⟨(p + q) / 2, by omega, by omega, by omega⟩
      replace he := Lib.hid he
      obtain ⟨d, hd⟩ : ∃ d, ms.getD h M.zero = d := ⟨_, rfl⟩
      obtain ⟨d0, d1, d2, d3, d4⟩ := (hcc h (by omega)).below hw2
      rw [hd] at d0 d1 d2 d3 d4
      replace hd := Lib.hid hd
      have hdb := cell_lt d0
      dsimp only at hdb
      go_wp2_with fail
      rw [← he.out]
      cases hlm : lessM d m
      · have ho : decide (ordM d m < 0) = false := by rw [ordM_lt, hlm]
        refine wp_region_over (by kernel_rfl) (by kernel_rfl) ?_
        repeat (go_big_quiet_step (exact over_c (order_c _ d m)))
        refine wpQuiet_nil ?_
        rintro w2 ⟨⟨_, hb2⟩, rfl⟩
        go_wp2_with fail
        go_roundw
        case rel =>
          refine ⟨p, h, by omega, by omega, rfl, rfl, h1, fun t ht htl => ?_, hb.trans (hb2.mono hb.size)⟩
          cases hx : lessM (ms.getD t M.zero) m
          · rfl
          · exfalso
            rcases Nat.eq_or_lt_of_le ht with e | e
            · subst e; rw [hd.out, hlm] at hx; cases hx
            · have := lessM_trans (rises_lt hr.out e htl) hx
              rw [hd.out, hlm] at this; cases this
        case measure => simp [intOf]; omega
      · have ho : decide (ordM d m < 0) = true := by rw [ordM_lt, hlm]
        refine wp_region_over (by kernel_rfl) (by kernel_rfl) ?_
        repeat (go_big_quiet_step (exact over_c (order_c _ d m)))
        refine wpQuiet_nil ?_
        rintro w2 ⟨⟨_, hb2⟩, rfl⟩
        go_wp2_with fail
        go_roundw
        case rel =>
          refine ⟨h + 1, q, by omega, by omega, by go_num, rfl, fun t ht => ?_, h2, hb.trans (hb2.mono hb.size)⟩
          rcases Nat.eq_or_lt_of_le (Nat.le_of_lt_succ ht) with e | e
          · subst e; rw [hd.out, hlm]
          · have := rises_lt hr.out e (by omega)
            rw [hd.out] at this
            exact lessM_trans this hlm
        case measure => simp [intOf]; omega
    · obtain rfl : p = q := by omega
      have hpos : posM ms m = p := posM_eq hq h1.out (fun h => h2.out p (Nat.le_refl _) h)
      replace hpos := Lib.hid hpos
      by_cases hlt : p < ms.length
      · obtain ⟨b, off, rfl, hcc⟩ := hc.out (by intro e; subst e; simp at hlt)
        have hw2 := below_trans hA hb
        obtain ⟨d, hd⟩ : ∃ d, ms.getD p M.zero = d := ⟨_, rfl⟩
        obtain ⟨d0, d1, d2, d3, d4⟩ := (hcc p (by omega)).below hw2
        rw [hd] at d0 d1 d2 d3 d4
        replace hd := Lib.hid hd
        have hdb := cell_lt d0
        dsimp only at hdb
        go_wp2_with fail
        have hlt' : decide ((p : Int) < (ms.length : Int)) = true := decide_eq_true (by omega)
        refine wp_region_over (by kernel_rfl) (by kernel_rfl) ?_
        repeat (go_big_quiet_step (exact over_c (order_c _ d m)))
        refine wpQuiet_nil ?_
        rintro w2 ⟨⟨_, hb2⟩, rfl⟩
        go_wp2_with fail
        go_ret2
        refine ⟨ret_val ?_, below_trans hw2 hb2⟩
        rw [hpos.out, foundM, hpos.out, hd.out, decide_eq_true hlt, Bool.true_and]
        rfl
      · have hlt' : decide ((p : Int) < (ms.length : Int)) = false := decide_eq_false (by omega)
        go_wp2_with fail
        refine wp_region_over (by kernel_rfl) (by kernel_rfl) ?_
        repeat (go_big_quiet_step (fail))
        refine wpQuiet_nil ?_
        rintro w2 ⟨⟨_, hb2⟩, rfl⟩
        go_wp2_with fail
        go_ret2
        refine ⟨ret_val ?_, below_trans (below_trans hA hb) hb2⟩
        rw [hpos.out, foundM, hpos.out, decide_eq_false hlt, Bool.false_and]
        rfl

theorem Seek_c {w : World} {v : Value} {ms : List M} (h : Msgs w v ms) (m : M) (hr : risesB ms = true) :
    Calls Try.prog 23 #[v, m.val] w (GivesB (.tuple #[.int .i64 (posM ms m), .bool (foundM ms m)]) w) := by
  have hA := below_a1 w (.cells #[.int .i64 m.src, .int .i64 m.grp, .int .i64 m.stamp, .bool m.null, .string m.body] 24)
  have hS := Search_c (h.below hA) m hr
  unfold M.val at hS ⊢
  go_enter Try.func23, Try.ntmps23
  go_wp2_with fail
  refine hS.mono ?_
  rintro e w2 ⟨rfl, hb⟩
  go_wp2_with fail
  go_ret2
  exact ⟨rfl, below_trans hA hb⟩
end Go.Proofs.Ythclljdkicihpaa
