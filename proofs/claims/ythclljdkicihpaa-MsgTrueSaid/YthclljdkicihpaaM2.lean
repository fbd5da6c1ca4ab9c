/-
  Messages: the document's answers walked.
-/
import Derived.Test.YthclljdkicihpaaM
set_option maxRecDepth 100000
namespace Go.Proofs.Ythclljdkicihpaa
open Go.RowKit Go.Shelf Go.BigFrame
set_option maxHeartbeats 1000000 in
theorem MsgError_c {w : World} {v : Value} {xs : List Int} (h : Ints w v xs) (nodes : Int) (m : M) : Calls Try.prog 8 #[.int .i64 nodes, v, m.val] w (GivesB (.int .i64 (msgE nodes xs m)) w) := by
  obtain ⟨hl, a, cap, rfl, _, _⟩ := h.open
  have hA := below_a1 w (.cells #[.int .i64 m.src, .int .i64 m.grp, .int .i64 m.stamp, .bool m.null, .string m.body] 24)
  have hM := MsgBox.new w m 24
  have h1 := h.below hA
  have hc := GroupsError_c h1 nodes
  clear h
  unfold M.val
  by_cases he : gErr nodes xs = 0
  case' neg =>
    have HE := Lib.hid (show msgE nodes xs m = gErr nodes xs by rw [msgE, if_neg he])
    have hne : (gErr nodes xs != 0) = true := by simpa using he
    generalize gErr nodes xs = r at *
    clear he
    go_enter Try.func8, Try.ntmps8
    go_wp2_with fail
    refine hc.mono ?_
    rintro e w2 ⟨rfl, hd⟩
    clear hc
    go_wp2_with fail
    go_ret
    exact givesB_int (below_trans hA hd.below) HE.out.symm
  rw [he] at hc
  have HM := Lib.hid (show msgE nodes xs m = rightE nodes xs m by rw [msgE, if_pos he])
  obtain ⟨hn1, hn2⟩ := inB_t (gErr_zero he).1
  clear he
  have hcon := fun w' (hd : Drew _ w') => HasOf_c (h1.below hd.below) m.grp m.src
  have HR := Lib.hid (rightE_cases nodes xs m)
  generalize rightE nodes xs m = r at HR HM
  obtain ⟨src, grp, stamp, null, body⟩ := m
  dsimp only at *
  by_cases h1r : inB src 0 (nodes - 1) = true
  case' neg =>
    have HE := Lib.hid (HR.out.1 (fun h => h1r (inB_mk h.1 (by have := h.2.1; dsimp only at this; omega))))
    rw [Bool.not_eq_true] at h1r
  case' pos =>
    by_cases h2r : inB grp 0 (↑xs.length - 1) = true
    case' neg =>
      have HE := Lib.hid (HR.out.1 (fun h => h2r (inB_mk h.2.2.1 (by have := h.2.2.2.1; dsimp only at this; omega))))
      rw [Bool.not_eq_true] at h2r
    case' pos =>
      by_cases h3r : inB stamp 1 1048576 = true
      case' neg =>
        have HE := Lib.hid (HR.out.1 (fun h => h3r (inB_mk h.2.2.2.2.1 h.2.2.2.2.2)))
        rw [Bool.not_eq_true] at h3r
      case' pos =>
        have hir : inRange nodes xs ⟨src, grp, stamp, null, body⟩ := ⟨(inB_t h1r).1, by have := inB_t h1r; dsimp only; omega, (inB_t h2r).1, by have := inB_t h2r; dsimp only; omega, inB_t h3r⟩
        have HR2 := Lib.hid (HR.out.2 hir)
        clear hir HR
        cases hh : hasB xs grp src
        case' false =>
          have HE := Lib.hid (HR2.out.1 hh)
          rw [hh] at hcon
          replace hh := Lib.hid hh
        case' true =>
          rw [hh] at hcon
          have HR3 := Lib.hid (HR2.out.2 hh)
          replace hh := Lib.hid hh
          clear HR2
          by_cases hb : 8 < (body.size : Int)
          case' pos =>
            have HE := Lib.hid (HR3.out.1 hb)
            have hbb : decide (8 < (body.size : Int)) = true := decide_eq_true hb
          case' neg =>
            have hbb : decide (8 < (body.size : Int)) = false := decide_eq_false hb
            have HR4 := Lib.hid (HR3.out.2 hb)
            cases null
            case' false => have HE := Lib.hid (HR4.out.1 rfl)
            case' true =>
              cases he : body.toList.isEmpty
              case' false => have HE := Lib.hid (HR4.out.2.1 rfl he)
              case' true => have HE := Lib.hid (HR4.out.2.2 he)
  all_goals
    replace hcon := Lib.hid hcon
    replace hM := Lib.hid hM
    go_enter Try.func8, Try.ntmps8
    go_wp2_with fail
    refine hc.mono ?_
    rintro e w2 ⟨rfl, hd⟩
    clear hc
    obtain ⟨c0, c1, c2, c3, c4⟩ := hM.out.below hd.below (by simp)
    have hcon2 := hcon.out w2 hd
    clear hcon hM
    go_wp2_with (first | (go_at_call 19; refine (within_c _ _ _ _).mono ?_; rintro e w' ⟨rfl, rfl⟩) | (go_at_call 20; refine hcon2.mono ?_; rintro e w' ⟨rfl, rfl⟩))
    go_ret
    exact givesB_int (below_trans hA hd.below) (by rw [HM.out, HE.out])
end Go.Proofs.Ythclljdkicihpaa
