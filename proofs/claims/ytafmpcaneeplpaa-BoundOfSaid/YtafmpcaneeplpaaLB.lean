/-
  BoundOf, BoundReady: they answer just what the document says.
-/
import Derived.Test.YtafmpcaneeplpaaBB
set_option maxRecDepth 100000
namespace Go.Proofs.Ytafmpcaneeplpaa
open Go.RowKit Go.Shelf Go.BigFrame

set_option maxHeartbeats 1000000 in
theorem BoundOf_walk_of (w : World) {v : Value} {X : Wd} {n : Int} (hW : WorldAt w v X) (hn64 : I64 n) :
    Calls Try.prog 4 #[v, .int .i64 n] w (GivesB (.bool true) w) := by
  have hW0 := hW
  obtain ⟨gv, nv, wv, rfl, hg, hn, hw⟩ := hW
  obtain ⟨_, na, ncap, rfl, _⟩ := hn.form
  obtain ⟨_, ga, gcap, rfl, _⟩ := hg.open
  obtain ⟨_, wa, wcap, rfl, _⟩ := hw.form
  clear hg hn hw
  have hB := WBox.new w (.slice ga X.groups.length gcap) (.slice na X.nodes.length ncap) (.slice wa X.wires.length wcap) 26
  have b1 := below_a1 w (.cells #[.slice ga X.groups.length gcap, .slice na X.nodes.length ncap, .slice wa X.wires.length wcap] 26)
  have hP1 := BOf_c (hW0.below b1) n hn64
  have hP2 := fun o (h : Below w.heap.size w o) => BoundOf_c (hW0.below h) n
  generalize nodeE X n = e0 at *
  generalize boundR X n = r at *
  replace hP2 := Lib.hid hP2
  go_enter Try.func4, Try.ntmps4
  go_upto_region 1 with fail
  generalize w.alloc (.cells #[.slice ga X.groups.length gcap, .slice na X.nodes.length ncap, .slice wa X.wires.length wcap] 26) = w1 at *
  have hBl := cell_lt hB.1
  dsimp only at hBl
  obtain ⟨x0, x1, x2⟩ := id hB
  go_wp2_with fail
  refine hP1.mono ?_
  rintro e w2 ⟨rfl, b2⟩
  clear x0 x1 x2
  obtain ⟨x0, x1, x2⟩ := hB.below b2 hBl
  have b3 := below_trans b1 b2
  go_wp2_with fail
  refine (hP2.out w2 b3).mono ?_
  rintro e w3 ⟨rfl, b4⟩
  have b5 := below_trans b3 b4
  go_wp2_with fail
  refine (boundBegun_c w3).mono ?_
  rintro e w4 ⟨rfl, b6⟩
  go_wp2_with fail
  go_ret
  exact ⟨ret_bool (by simp), below_trans b5 b6⟩
end Go.Proofs.Ytafmpcaneeplpaa
