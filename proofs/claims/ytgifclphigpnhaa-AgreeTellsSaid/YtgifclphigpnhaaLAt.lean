/-
  AgreeTells, AgreeAll: Common, Ahead, All answer just what the document says.
-/
import Derived.Test.YtgifclphigpnhaaAlO
import Derived.Test.YtgifclphigpnhaaAgB
set_option maxRecDepth 100000
namespace Go.Proofs.Ytgifclphigpnhaa
open Go.RowKit Go.Shelf Go.BigFrame

set_option maxHeartbeats 1000000 in
theorem AgreeAll_walk_of (w : World) {v : Value} {X : Wd} (hW : WorldAt w v X) :
    Calls Try.prog 4 #[v] w (GivesB (.bool true) w) := by
  have hW0 := hW
  obtain ⟨gv, nv, wv, rfl, hg, hn, hw⟩ := hW
  obtain ⟨_, na, ncap, rfl, _⟩ := hn.form
  obtain ⟨_, ga, gcap, rfl, _⟩ := hg.open
  obtain ⟨_, wa, wcap, rfl, _⟩ := hw.form
  clear hg hn hw
  have hB := OBox.new w 26 (.slice ga X.groups.length gcap) (.slice na X.nodes.length ncap) (.slice wa X.wires.length wcap)
  have b1 := below_a1 w (.cells #[.slice ga X.groups.length gcap, .slice na X.nodes.length ncap, .slice wa X.wires.length wcap] 26)
  have hP1 := TAll_c (hW0.below b1)
  have hP2 := fun o (h : Below w.heap.size w o) => AllOf_c (hW0.below h)
  have hlen : (allF X).2.length ≤ 160 := by
    unfold allF
    split
    · rename_i he
      have hR := right_of he
      split
      · rename_i l hl
        rw [← preL_end] at hl
        obtain ⟨h1, h2, _⟩ := allO_ok hl
        rw [preL_end] at h2
        have := toldL_len hR
        exact Nat.le_trans h2 this
      · simp
    · simp
  generalize allF X = r at *
  replace hP2 := Lib.hid hP2
  replace hlen := Lib.hid hlen
  go_enter Try.func4, Try.ntmps4
  go_upto_region 1 with fail
  generalize w.alloc (.cells #[.slice ga X.groups.length gcap, .slice na X.nodes.length ncap, .slice wa X.wires.length wcap] 26) = w1 at *
  obtain ⟨_, x0, x1, x2⟩ := id hB
  go_wp2_with fail
  refine hP1.mono ?_
  rintro e w2 ⟨v2, rfl, ho2, b2⟩
  have hM2 := ho2.msgs (by have := hlen.out; omega)
  obtain ⟨_, a2, c2, rfl, _⟩ := hM2.open
  have hB2 := hB.keep (b2.block _ hB.lt)
  have b2' := below_trans b1 b2
  clear x0 x1 x2 hP1 ho2
  obtain ⟨_, x0, x1, x2⟩ := id hB2
  go_wp2_with fail
  refine (hP2.out w2 b2').mono ?_
  rintro e w3 ⟨v3, rfl, ho3, b3⟩
  have hM3 := ho3.msgs (by have := hlen.out; omega)
  obtain ⟨_, a3, c3, rfl, _⟩ := hM3.open
  have b3' := below_trans b2' b3
  have hM2 := hM2.below b3
  clear x0 x1 x2 hP2 ho3
  go_wp2_with fail
  refine (agreeBegun_c w3).mono ?_
  rintro e w4 ⟨rfl, b4⟩
  have hS := SameMsgs_c (hM2.below b4) (hM3.below b4)
  rw [show sameMs r.2 r.2 = true from sameMs_iff.2 rfl] at hS
  go_wp2_with fail
  refine hS.mono ?_
  rintro e w5 ⟨rfl, d5⟩
  go_wp2_with fail
  go_ret
  exact ⟨ret_bool (by simp), below_trans (below_trans b3' b4) d5.below⟩

set_option maxHeartbeats 2000000 in
theorem AgreeTells_walk_of (w : World) {v mv : Value} {X : Wd} {a b : Int} {m : M} (hW : WorldAt w v X) (ha64 : I64 a) (hb64 : I64 b) (hm : m.fits ∧ mv = m.val) :
    Calls Try.prog 3 #[v, .int .i64 a, .int .i64 b, mv] w (GivesB (.bool true) w) := by
  obtain ⟨_, rfl⟩ := hm
  have hW0 := hW
  obtain ⟨gv, nv, wv, rfl, hg, hn, hw⟩ := hW
  obtain ⟨_, na, ncap, rfl, _⟩ := hn.form
  obtain ⟨_, ga, gcap, rfl, _⟩ := hg.open
  obtain ⟨_, wa, wcap, rfl, _⟩ := hw.form
  clear hg hn hw
  have hB := OBox.new w 26 (.slice ga X.groups.length gcap) (.slice na X.nodes.length ncap) (.slice wa X.wires.length wcap)
  have b0 := below_a1 w (.cells #[.slice ga X.groups.length gcap, .slice na X.nodes.length ncap, .slice wa X.wires.length wcap] 26)
  obtain ⟨w0, hw0⟩ : ∃ W, W = w.alloc (.cells #[.slice ga X.groups.length gcap, .slice na X.nodes.length ncap, .slice wa X.wires.length wcap] 26) := ⟨_, rfl⟩
  rw [← hw0] at hB b0
  have hs0 : w0.heap.size = w.heap.size + 1 := by rw [hw0, World.size_alloc]
  have bM := below_a1 w0 (.cells #[.int .i64 m.src, .int .i64 m.grp, .int .i64 m.stamp, .bool m.null, .string m.body] 28)
  have hM := MsgBox.new w0 m 28
  have hMl : w0.heap.size < (w0.alloc (.cells #[.int .i64 m.src, .int .i64 m.grp, .int .i64 m.stamp, .bool m.null, .string m.body] 28)).heap.size := by rw [World.size_alloc]; omega
  have hB := hB.keep (bM.block _ hB.lt)
  have b1 := below_trans b0 bM
  rw [hs0] at hM hMl
  have hP1 := Common_c (hW0.below b1) a b ha64 hb64
  have hP2 := fun o (h : Below w.heap.size w o) => Ahead_c (hW0.below h) a ha64 m
  have hP3 := fun o (h : Below w.heap.size w o) => CommonOf_c (hW0.below h) a b
  have hP4 := fun o (h : Below w.heap.size w o) => AheadOf_c (hW0.below h) a m
  have hAh : ∃ k is e, aheadF X a m = .tuple #[.int .i64 k, .bool is, .int .i64 e] := by
    unfold aheadF
    split
    · exact ⟨_, _, _, rfl⟩
    · exact ⟨_, _, _, rfl⟩
  generalize aheadF X a m = ah at *
  obtain ⟨ak, ai, ae, rfl⟩ := hAh
  generalize commonF X a b = r at *
  generalize moveE X a b = e0 at *
  unfold M.val at hP2 hP4 ⊢
  replace hP2 := Lib.hid hP2
  replace hP3 := Lib.hid hP3
  replace hP4 := Lib.hid hP4
  replace hw0 := Lib.hid hw0
  go_enter Try.func3, Try.ntmps3
  go_upto_region 1 with fail
  rw [← hw0.out]
  generalize w0.alloc (.cells #[.int .i64 m.src, .int .i64 m.grp, .int .i64 m.stamp, .bool m.null, .string m.body] 28) = w1 at *
  obtain ⟨_, x0, x1, x2⟩ := id hB
  go_wp2_with fail
  refine hP1.mono ?_
  rintro e w2 ⟨v2, rfl, hL2, b2⟩
  obtain ⟨_, a2, c2, rfl, _⟩ := hL2.open
  have hB2 := hB.keep (b2.block _ hB.lt)
  have hM2 := hM.below b2 hMl
  have hMl := Nat.lt_of_lt_of_le hMl b2.size
  have b2' := below_trans b1 b2
  clear x0 x1 x2 hP1 hB hM
  obtain ⟨_, x0, x1, x2⟩ := id hB2
  obtain ⟨m0, m1, m2, m3, m4⟩ := id hM2
  go_wp2_with fail
  refine (hP2.out w2 b2').mono ?_
  rintro e w3 ⟨rfl, b3⟩
  have hB3 := hB2.keep (b3.block _ hB2.lt)
  have hM3 := hM2.below b3 hMl
  have hMl := Nat.lt_of_lt_of_le hMl b3.size
  have b3' := below_trans b2' b3
  have hL2 := hL2.below b3
  clear x0 x1 x2 m0 m1 m2 m3 m4 hP2 hB2 hM2
  obtain ⟨_, x0, x1, x2⟩ := id hB3
  go_wp2_with fail
  refine (hP3.out w3 b3').mono ?_
  rintro e w4 ⟨v4, rfl, hL4, b4⟩
  obtain ⟨_, a4, c4, rfl, _⟩ := hL4.open
  have hB4 := hB3.keep (b4.block _ hB3.lt)
  have hM4 := hM3.below b4 hMl
  have hMl := Nat.lt_of_lt_of_le hMl b4.size
  have b4' := below_trans b3' b4
  have hL2 := hL2.below b4
  clear x0 x1 x2 hP3 hB3 hM3
  obtain ⟨_, x0, x1, x2⟩ := id hB4
  obtain ⟨m0, m1, m2, m3, m4⟩ := id hM4
  go_wp2_with fail
  refine (hP4.out w4 b4').mono ?_
  rintro e w5 ⟨rfl, b5⟩
  have b5' := below_trans b4' b5
  have hL2 := hL2.below b5
  have hL4 := hL4.below b5
  clear x0 x1 x2 m0 m1 m2 m3 m4 hP4 hB4 hM4
  go_wp2_with fail
  refine (agreeBegun_c w5).mono ?_
  rintro e w6 ⟨rfl, b6⟩
  have hS := SameMsgs_c (hL2.below b6) (hL4.below b6)
  rw [show sameMs r r = true from sameMs_iff.2 rfl] at hS
  go_wp2_with fail
  refine hS.mono ?_
  rintro e w7 ⟨rfl, d7⟩
  go_wp2_with fail
  go_ret
  exact ⟨ret_bool (by simp), below_trans (below_trans b5' b6) d7.below⟩
end Go.Proofs.Ytgifclphigpnhaa
