/-
  Worlds, the document's answer: is the world right, are there such nodes?
  Worlds, the document's answer: may it move; how far is a node, errors too.
  Worlds, the document's answer: what is ready, errors too.
-/
import Derived.Test.YtnalakhelicjcaaVKW
import Derived.Test.YtnalakhelicjcaaVKB
set_option maxRecDepth 100000
namespace Go.Proofs.Ytnalakhelicjcaa
open Go.RowKit Go.Shelf Go.BigFrame

def nodeE (X : Wd) (n : Int) : Int := if errX X = 0 then if inB n 0 ((X.nodes.length : Int) - 1) = true then 0 else 4 else errX X

theorem NodeError_c {w : World} {v : Value} {X : Wd} (h : WorldAt w v X) (n : Int) :
    Calls Try.prog 142 #[v, .int .i64 n] w (GivesB (.int .i64 (nodeE X n)) w) := by
  obtain ⟨gv, nv, wv, rfl, hg, hn, hw⟩ := h
  obtain ⟨hnl, na, ncap, rfl, hnc⟩ := hn.form
  obtain ⟨hwl, wa, wcap, rfl, hwc⟩ := hw.form
  obtain ⟨hgl, ga, gcap, rfl, _⟩ := hg.open
  have hA := below_a1 w (.cells #[.slice ga X.groups.length gcap, .slice na X.nodes.length ncap, .slice wa X.wires.length wcap] 40)
  have hB := WBox.new w (.slice ga X.groups.length gcap) (.slice na X.nodes.length ncap) (.slice wa X.wires.length wcap) 40
  have hE := WorldError_c (w := w.alloc (.cells #[.slice ga X.groups.length gcap, .slice na X.nodes.length ncap, .slice wa X.wires.length wcap] 40)) ⟨_, _, _, rfl, hg.below hA, hn.below hA, hw.below hA⟩
  have hW := fun o => within_c o n 0 ((X.nodes.length : Int) - 1)
  have hR : nodeE X n = if errX X = 0 then if inB n 0 ((X.nodes.length : Int) - 1) = true then 0 else 4 else errX X := rfl
  generalize nodeE X n = r at *
  generalize errX X = e0 at *
  replace hR := Lib.hid hR
  by_cases he : e0 = 0
  · subst he
    cases hi : inB n 0 ((X.nodes.length : Int) - 1)
    all_goals
      have hr := hR.out
      rw [if_pos rfl, hi] at hr
      simp only [if_true, Bool.false_eq_true, if_false] at hr
      replace hr := Lib.hid hr
      rw [hi] at hW
      clear hi
      go_enter Try.func142, Try.ntmps142
      go_wp2_with fail
      refine hE.mono ?_
      rintro e w1 ⟨rfl, hb⟩
      obtain ⟨x0, x1, x2⟩ := hB.below hb (by rw [World.size_alloc]; omega)
      go_wp2_with (first | (go_at_call 66; refine (hW _).mono ?_; clear hW; rintro e w' ⟨rfl, rfl⟩))
      go_ret
      exact givesB_int (below_trans hA hb) hr.out.symm
  · have hr := hR.out
    rw [if_neg he] at hr
    have hne : (e0 != 0) = true := by simpa using he
    replace hr := Lib.hid hr
    replace he := Lib.hid he
    go_enter Try.func142, Try.ntmps142
    go_wp2_with fail
    refine hE.mono ?_
    rintro e w1 ⟨rfl, hb⟩
    go_wp2_with fail
    go_ret
    exact givesB_int (below_trans hA hb) hr.out.symm
end Go.Proofs.Ytnalakhelicjcaa

set_option maxRecDepth 100000
namespace Go.Proofs.Ytnalakhelicjcaa
open Go.RowKit Go.Shelf Go.BigFrame

def moveE (X : Wd) (a b : Int) : Int := if nodeE X a = 0 then nodeE X b else nodeE X a
theorem nodeE_ok {X : Wd} {n : Int} (h : nodeE X n = 0) : errX X = 0 ∧ 0 ≤ n ∧ n < X.nodes.length := by
  unfold nodeE at h
  split at h
  · rename_i he
    split at h
    · rename_i hi
      simp only [inB, Bool.and_eq_true, decide_eq_true_eq] at hi
      exact ⟨he, hi.1, by omega⟩
    · cases h
  · rename_i he
    exact absurd h he

theorem MoveError_c {w : World} {v : Value} {X : Wd} (h : WorldAt w v X) (a b : Int) :
    Calls Try.prog 127 #[v, .int .i64 a, .int .i64 b] w (GivesB (.int .i64 (moveE X a b)) w) := by
  obtain ⟨gv, nv, wv, rfl, hg, hn, hw⟩ := h
  obtain ⟨hnl, na, ncap, rfl, hnc⟩ := hn.form
  obtain ⟨hwl, wa, wcap, rfl, hwc⟩ := hw.form
  obtain ⟨hgl, ga, gcap, rfl, _⟩ := hg.open
  have hA := below_a1 w (.cells #[.slice ga X.groups.length gcap, .slice na X.nodes.length ncap, .slice wa X.wires.length wcap] 40)
  have hB := WBox.new w (.slice ga X.groups.length gcap) (.slice na X.nodes.length ncap) (.slice wa X.wires.length wcap) 40
  have hE1 := NodeError_c (w := w.alloc (.cells #[.slice ga X.groups.length gcap, .slice na X.nodes.length ncap, .slice wa X.wires.length wcap] 40)) ⟨_, _, _, rfl, hg.below hA, hn.below hA, hw.below hA⟩ a
  have hE2 := fun o (h : Below w.heap.size w o) => NodeError_c (w := o) ⟨_, _, _, rfl, hg.below h, hn.below h, hw.below h⟩ b
  have hR : moveE X a b = if nodeE X a = 0 then nodeE X b else nodeE X a := rfl
  generalize moveE X a b = r at *
  generalize nodeE X a = e0 at *
  generalize nodeE X b = e1 at *
  replace hR := Lib.hid hR
  by_cases he : e0 = 0
  · subst he
    have hr := hR.out
    rw [if_pos rfl] at hr
    rw [hr]
    clear hr hR
    go_enter Try.func127, Try.ntmps127
    go_wp2_with fail
    refine hE1.mono ?_
    rintro e w1 ⟨rfl, hb⟩
    obtain ⟨x0, x1, x2⟩ := hB.below hb (by rw [World.size_alloc]; omega)
    go_wp2_with fail
    refine (hE2 _ (below_trans hA hb)).mono ?_
    rintro e w2 ⟨rfl, hb2⟩
    go_wp2_with fail
    go_ret
    exact givesB_int (below_trans (below_trans hA hb) hb2) rfl
  · have hr := hR.out
    rw [if_neg he] at hr
    rw [hr]
    clear hr hR
    have hne : (e0 != 0) = true := by simpa using he
    replace he := Lib.hid he
    go_enter Try.func127, Try.ntmps127
    go_wp2_with fail
    refine hE1.mono ?_
    rintro e w1 ⟨rfl, hb⟩
    go_wp2_with fail
    go_ret
    exact givesB_int (below_trans hA hb) rfl

end Go.Proofs.Ytnalakhelicjcaa

set_option maxRecDepth 100000
namespace Go.Proofs.Ytnalakhelicjcaa
open Go.RowKit Go.Shelf Go.BigFrame

end Go.Proofs.Ytnalakhelicjcaa
