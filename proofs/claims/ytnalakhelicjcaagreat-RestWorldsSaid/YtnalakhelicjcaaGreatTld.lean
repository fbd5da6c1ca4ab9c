/-
  The document's answer: does it stand there, and where?
-/
import Derived.Test.YtnalakhelicjcaaGreatKAg
set_option maxRecDepth 100000
namespace Go.Proofs.YtnalakhelicjcaaGreat
open Go.RowKit Go.Shelf Go.BigFrame

theorem eqM_comm (a b : M) : eqM a b = eqM b a := by
  rw [Bool.eq_iff_iff, eqM_iff, eqM_iff]
  exact ⟨Eq.symm, Eq.symm⟩
def toldK (l : List M) (m : M) : Int := if 0 < idxM (eqM m) l then idxM (eqM m) l else 0
theorem told_c {w : World} {v : Value} {ms : List M} (h : Msgs w v ms) (m : M) :
    Calls Tryz.prog 57 #[v, m.val] w (GivesB (.tuple #[.int .i64 (toldK ms m), .bool (ms.any (eqM m))]) w) := by
  obtain ⟨hl, a, cap, rfl, _, hc⟩ := h.open
  have hA := below_a1 w (.cells #[.int .i64 m.src, .int .i64 m.grp, .int .i64 m.stamp, .bool m.null, .string m.body] 62)
  have hB := MsgBox.new w m 62
  have hs1 : w.heap.size < (w.alloc (.cells #[.int .i64 m.src, .int .i64 m.grp, .int .i64 m.stamp, .bool m.null, .string m.body] 62)).heap.size := by rw [World.size_alloc]; omega
  replace hc := Lib.hid hc
  have hh := Lib.hid (fun (k : Nat) (hk : k < ms.length) (h1 : eqM m (ms.getD k M.zero) = true) (h2 : ∀ j, j < k → eqM m (ms.getD j M.zero) = false) => show toldK ms m = k ∧ ms.any (eqM m) = true by
    have h3 := idxM_hit (p := eqM m) hk h1 h2
    rw [← idxM_any]
    unfold toldK
    rw [h3]
    refine ⟨?_, by simp⟩
    split <;> omega)
  have hmi := Lib.hid (fun (h : ∀ j, j < ms.length → eqM m (ms.getD j M.zero) = false) => show toldK ms m = 0 ∧ ms.any (eqM m) = false by
    have h3 := idxM_miss (p := eqM m) h
    rw [← idxM_any]
    unfold toldK
    rw [h3]
    exact ⟨rfl, by simp⟩)
  generalize toldK ms m = r at *
  generalize ms.any (eqM m) = rb at *
  unfold M.val
  go_enter Tryz.func57, Tryz.ntmps57
  go_upto_region 1 with fail
  generalize w.alloc (.cells #[.int .i64 m.src, .int .i64 m.grp, .int .i64 m.stamp, .bool m.null, .string m.body] 62) = w1 at *
  obtain ⟨C, hC⟩ : ∃ C, w.heap.size = C := ⟨_, rfl⟩
  simp only [hC] at hB hs1 ⊢
  replace hC := Lib.hid hC
  go_wp2_with fail
  go_loopw [6] (fun i wr => ∃ k : Nat, k ≤ ms.length ∧ i = .int .i64 k ∧ Hid (∀ j, j < k → eqM m (ms.getD j M.zero) = false) ∧ Below w1.heap.size w1 wr) (fun i _ => ms.length - (intOf i).toNat)
  case atStart => exact ⟨0, by omega, rfl, fun j hj => absurd hj (Nat.not_lt_zero _), Below.refl _ _⟩
  case round =>
    obtain ⟨k, hk, rfl, hAl, hb⟩ := hrel
    by_cases hlt : k < ms.length
    · obtain ⟨bm, off, rfl, hcc⟩ := hc.out (by intro e; subst e; simp at hlt)
      obtain ⟨m0, m1, m2, m3, m4⟩ := ((hcc k hlt).below hA).below hb
      obtain ⟨x0, x1, x2, x3, x4⟩ := hB.below hb hs1
      obtain ⟨x, HM⟩ : ∃ x, ms.getD k M.zero = x := ⟨_, rfl⟩
      rw [HM] at m0 m1 m2 m3 m4
      replace HM := Lib.hid HM
      have heq := eql_msg x m
      clear hcc
      cases hq : eqM x m
      · rw [hq] at heq
        rw [eqM_comm] at hq
        replace hq := Lib.hid hq
        go_wp2_with fail
        go_quiet (fail)
        go_wp2_with fail
        go_roundw
        case rel =>
          refine ⟨k + 1, by omega, by go_num, fun j hj => ?_, below_trans hb (below_drewN wr _)⟩
          by_cases e : j = k
          · subst e; rw [HM.out]; exact hq.out
          · exact hAl.out j (by omega)
        case measure => simp [intOf]; omega
      · rw [hq] at heq
        rw [eqM_comm] at hq
        replace hq := Lib.hid hq
        obtain ⟨e1, e2⟩ := hh.out k hlt (by rw [HM.out]; exact hq.out) hAl.out
        subst e1 e2
        go_wp2_with fail
        go_quiet (fail)
        go_wp2_with fail
        go_ret2
        exact ⟨rfl, below_trans (below_trans hA hb) (below_drewN wr _)⟩
    · obtain rfl : k = ms.length := by omega
      obtain ⟨e1, e2⟩ := hmi.out hAl.out
      subst e1 e2
      go_wp2_with fail
      go_ret2
      exact ⟨rfl, below_trans hA hb⟩

/-- Where a message stands in a list that rises. -/
theorem any_found {l : List M} {m : M} (hr : risesB l = true) (h : l.any (eqM m) = true) : foundM l m = true ∧ eqM (l.getD (posM l m) M.zero) m = true := by
  obtain ⟨x, hx, he⟩ := List.any_eq_true.1 h
  rw [eqM_iff] at he
  subst he
  obtain ⟨i, hi, he⟩ := List.mem_iff_getElem.1 hx
  rw [← getD_lt l M.zero hi] at he
  have hp : posM l m = i := posM_eq (by omega) (fun t ht => by rw [← he]; exact rises_lt hr ht hi) (fun _ => by
    rw [he, Bool.eq_false_iff]
    intro h2
    have := lessM_iff.1 h2
    omega)
  have ho : ordM m m = 0 := by unfold ordM orI cmpI; simp
  unfold foundM
  rw [hp, he, ho, decide_eq_true hi]
  exact ⟨rfl, eqM_iff.2 rfl⟩
theorem any_not {l : List M} {m : M} (h : l.any (eqM m) = false) (hf : foundM l m = true) : eqM (l.getD (posM l m) M.zero) m = false := by
  unfold foundM at hf
  simp only [Bool.and_eq_true, decide_eq_true_eq] at hf
  cases he : eqM (l.getD (posM l m) M.zero) m
  · rfl
  · rw [List.any_eq_false] at h
    rw [eqM_iff] at he
    exact absurd (eqM_iff.2 he.symm) (h _ (getD_mem l M.zero hf.1))
/-- One step of what is told, as the document says it. -/
theorem allS_told {l : List M} {m : M} (hr : risesB l = true) (h : l.any (eqM m) = true) : allS (some l) m = some l := by
  obtain ⟨h1, h2⟩ := any_found hr h
  simp only [allS]
  rw [if_pos h1, if_pos h2]
theorem allS_bad {l : List M} {m : M} (h : l.any (eqM m) = false) (hf : foundM l m = true) : allS (some l) m = none := by
  simp only [allS]
  rw [if_pos hf, any_not h hf]
  rfl
theorem allS_put {l : List M} {m : M} (hf : foundM l m = false) : allS (some l) m = some (putM l m) := by
  simp only [allS]
  rw [hf]
  rfl
end Go.Proofs.YtnalakhelicjcaaGreat
