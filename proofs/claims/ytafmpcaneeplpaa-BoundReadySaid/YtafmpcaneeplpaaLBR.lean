/-
  BoundReady: Ready answers just what the document says.
-/
import Derived.Test.YtafmpcaneeplpaaBB
set_option maxRecDepth 100000
namespace Go.Proofs.Ytafmpcaneeplpaa
open Go.RowKit Go.Shelf Go.BigFrame

theorem readyR_len (X : Wd) (n : Int) : (readyR X n).length ≤ 1000 := by
  unfold readyR
  split
  · rename_i he
    obtain ⟨hx, h0, h1⟩ := nodeE_ok he
    have := ((errX_fit hx).lists _ (getD_mem X.nodes N.zero (show n.toNat < X.nodes.length by omega))).1
    unfold readyX readyL
    exact Nat.le_trans (List.length_filter_le _ _) (by omega)
  · simp

set_option maxHeartbeats 1000000 in
theorem BoundReady_walk_of (w : World) {v : Value} {X : Wd} {n : Int} (hW : WorldAt w v X) (hn64 : I64 n) :
    Calls Try.prog 5 #[v, .int .i64 n] w (GivesB (.bool true) w) := by
  have hW0 := hW
  obtain ⟨gv, nv, wv, rfl, hg, hn, hw⟩ := hW
  obtain ⟨_, na, ncap, rfl, _⟩ := hn.form
  obtain ⟨_, ga, gcap, rfl, _⟩ := hg.open
  obtain ⟨_, wa, wcap, rfl, _⟩ := hw.form
  clear hg hn hw
  have hB := WBox.new w (.slice ga X.groups.length gcap) (.slice na X.nodes.length ncap) (.slice wa X.wires.length wcap) 26
  have b1 := below_a1 w (.cells #[.slice ga X.groups.length gcap, .slice na X.nodes.length ncap, .slice wa X.wires.length wcap] 26)
  have hP1 := BReady_c (hW0.below b1) n hn64
  have hP2 := fun o (h : Below w.heap.size w o) => ReadyOf_c (hW0.below h) n
  have hlen := readyR_len X n
  generalize nodeE X n = e0 at *
  generalize readyR X n = r at *
  replace hP2 := Lib.hid hP2
  go_enter Try.func5, Try.ntmps5
  go_upto_region 1 with fail
  generalize w.alloc (.cells #[.slice ga X.groups.length gcap, .slice na X.nodes.length ncap, .slice wa X.wires.length wcap] 26) = w1 at *
  have hBl := cell_lt hB.1
  dsimp only at hBl
  obtain ⟨x0, x1, x2⟩ := id hB
  go_wp2_with fail
  refine hP1.mono ?_
  rintro e w2 ⟨v2, rfl, ho2, b2⟩
  clear x0 x1 x2
  obtain ⟨x0, x1, x2⟩ := hB.below b2 hBl
  have b3 := below_trans b1 b2
  obtain ⟨a2, c2, rfl⟩ := own_form ho2.2
  have hM2 := ho2.msgs (by omega)
  go_wp2_with fail
  refine (hP2.out w2 b3).mono ?_
  rintro e w3 ⟨v3, rfl, ho3, b4⟩
  have b5 := below_trans b3 b4
  obtain ⟨a3, c3, rfl⟩ := own_form ho3.2
  have hM3 := ho3.msgs (by omega)
  have hM2 := hM2.below b4
  go_wp2_with fail
  refine (boundBegun_c w3).mono ?_
  rintro e w4 ⟨rfl, b6⟩
  have hS := SameMsgs_c (hM2.below b6) (hM3.below b6)
  rw [sameMs_self] at hS
  go_wp2_with (go_at_call 27; refine hS.mono ?_; rintro e w5 ⟨rfl, b7⟩)
  go_ret
  exact ⟨ret_bool (by simp), below_trans (below_trans b5 b6) b7.below⟩
end Go.Proofs.Ytafmpcaneeplpaa
