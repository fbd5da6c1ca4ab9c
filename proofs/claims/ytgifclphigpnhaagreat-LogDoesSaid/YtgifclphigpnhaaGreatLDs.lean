/-
  LogDoes: Do answers just what the document says.
-/
import Derived.Test.YtgifclphigpnhaaGreatLgB
import Derived.Test.YtgifclphigpnhaaGreatSW
set_option maxRecDepth 100000
namespace Go.Proofs.YtgifclphigpnhaaGreat
open Go.RowKit Go.Shelf Go.BigFrame

set_option maxHeartbeats 1000000 in
theorem LogDoes_walk_of (w : World) {v xv : Value} {X : Wd} {x : Ac} (hW : WorldAt w v X) (hx : x.fits ∧ xv = x.val) :
    Calls Tryz.prog 5 #[v, xv] w (GivesB (.bool true) w) := by
  obtain ⟨hxf, rfl⟩ := hx
  have hW0 := hW
  obtain ⟨gv, nv, wv, rfl, hg, hn, hw⟩ := hW
  obtain ⟨_, na, ncap, rfl, _⟩ := hn.form
  obtain ⟨_, ga, gcap, rfl, _⟩ := hg.open
  obtain ⟨_, wa, wcap, rfl, _⟩ := hw.form
  clear hg hn hw
  have hB := OBox.new w 26 (.slice ga X.groups.length gcap) (.slice na X.nodes.length ncap) (.slice wa X.wires.length wcap)
  have b0 := below_a1 w (.cells #[.slice ga X.groups.length gcap, .slice na X.nodes.length ncap, .slice wa X.wires.length wcap] 26)
  obtain ⟨w0, hw0⟩ : ∃ W, W = w.alloc (.cells #[.slice ga X.groups.length gcap, .slice na X.nodes.length ncap, .slice wa X.wires.length wcap] 26) := ⟨_, rfl⟩
  rw [← hw0] at hB b0
  have hs0 : w0.heap.size = w.heap.size + 1 := by rw [hw0, World.size_alloc]
  have bM := below_a1 w0 (.cells #[.int .i64 x.kind, .int .i64 x.one, .int .i64 x.two, .string x.body] 36)
  have hM := AcBox.new w0 x 36
  have hMl : w0.heap.size < (w0.alloc (.cells #[.int .i64 x.kind, .int .i64 x.one, .int .i64 x.two, .string x.body] 36)).heap.size := by rw [World.size_alloc]; omega
  have hB := hB.keep (bM.block _ hB.lt)
  have b1 := below_trans b0 bM
  rw [hs0] at hM hMl
  have hP1 := Do_c (hW0.below b1) hxf
  have hP2 := fun o (h : Below w.heap.size w o) => DoOf_c (hW0.below h) hxf (fun _ _ h => CalmOf_c h)
  generalize doF X x = r at *
  replace hP2 := Lib.hid hP2
  replace hw0 := Lib.hid hw0
  unfold Ac.val at hP1 hP2 ⊢
  go_enter Tryz.func5, Tryz.ntmps5
  go_upto_region 1 with fail
  rw [← hw0.out]
  generalize w0.alloc (.cells #[.int .i64 x.kind, .int .i64 x.one, .int .i64 x.two, .string x.body] 36) = w1 at *
  obtain ⟨_, x0, x1, x2⟩ := id hB
  obtain ⟨m0, m1, m2, m3⟩ := id hM
  simp only [Nat.zero_add] at m0 m1 m2 m3
  go_wp2_with fail
  refine hP1.mono ?_
  rintro e w2 ⟨gv2, nv2, wv2, S2, rfl, hO2, hS2, b2⟩
  obtain ⟨pg, pn, pw⟩ := hO2.parts
  obtain ⟨_, ga2, gcap2, rfl, _⟩ := pg.open
  obtain ⟨_, na2, ncap2, rfl, _⟩ := pn.form
  obtain ⟨_, wa2, wcap2, rfl, _⟩ := pw.form
  clear pg pn pw
  have hR2 := OBox.new w2 26 (.slice ga2 r.2.groups.length gcap2) (.slice na2 r.2.nodes.length ncap2) (.slice wa2 r.2.wires.length wcap2)
  have bx2 := below_a1 w2 (.cells #[.slice ga2 r.2.groups.length gcap2, .slice na2 r.2.nodes.length ncap2, .slice wa2 r.2.wires.length wcap2] 26)
  have hW2 := hO2.world.below bx2
  go_upto_region 2 with fail
  generalize w2.alloc (.cells #[.slice ga2 r.2.groups.length gcap2, .slice na2 r.2.nodes.length ncap2, .slice wa2 r.2.wires.length wcap2] 26) = w3 at *
  obtain ⟨B2, hB2⟩ : ∃ B, w2.heap.size = B := ⟨_, rfl⟩
  simp only [hB2] at hR2 ⊢
  clear hB2 x0 x1 x2 m0 m1 m2 m3
  have b23 := below_trans b2 bx2
  have hB3 := hB.keep (b23.block _ hB.lt)
  have hM3 := hM.below b23 hMl
  have b3 := below_trans b1 b23
  clear hO2 hS2 b23 bx2 b2 hB b1 hP1
  obtain ⟨_, x0, x1, x2⟩ := id hB3
  obtain ⟨m0, m1, m2, m3⟩ := id hM3
  simp only [Nat.zero_add] at m0 m1 m2 m3
  go_wp2_with fail
  refine (hP2.out w3 b3).mono ?_
  rintro e w4 ⟨gv4, nv4, wv4, S4, rfl, hO4, hS4, b4⟩
  obtain ⟨pg, pn, pw⟩ := hO4.parts
  obtain ⟨_, ga4, gcap4, rfl, _⟩ := pg.open
  obtain ⟨_, na4, ncap4, rfl, _⟩ := pn.form
  obtain ⟨_, wa4, wcap4, rfl, _⟩ := pw.form
  clear pg pn pw
  have hR4 := OBox.new w4 26 (.slice ga4 r.2.groups.length gcap4) (.slice na4 r.2.nodes.length ncap4) (.slice wa4 r.2.wires.length wcap4)
  have bx4 := below_a1 w4 (.cells #[.slice ga4 r.2.groups.length gcap4, .slice na4 r.2.nodes.length ncap4, .slice wa4 r.2.wires.length wcap4] 26)
  have hW4 := hO4.world.below bx4
  clear x0 x1 x2 m0 m1 m2 m3
  go_upto_region 3 with fail
  generalize w4.alloc (.cells #[.slice ga4 r.2.groups.length gcap4, .slice na4 r.2.nodes.length ncap4, .slice wa4 r.2.wires.length wcap4] 26) = w5 at *
  obtain ⟨B4, hB4⟩ : ∃ B, w4.heap.size = B := ⟨_, rfl⟩
  simp only [hB4] at hR4 ⊢
  clear hB4
  have b45 := below_trans b4 bx4
  have hR3 := hR2.keep (b45.block _ hR2.lt)
  have hW3 := hW2.below b45
  have b5 := below_trans b3 b45
  clear hO4 hS4 b45 bx4 b4 hR2 hW2 hP2
  go_wp2_with fail
  refine (logBegun_c w5).mono ?_
  rintro e w6 ⟨rfl, b6⟩
  have hR6 := hR3.keep (b6.block _ hR3.lt)
  have hR7 := hR4.keep (b6.block _ hR4.lt)
  have hS := SameWorlds_c (hW3.below b6) (hW4.below b6)
  obtain ⟨_, r0, r1, r2⟩ := id hR6
  obtain ⟨_, s0, s1, s2⟩ := id hR7
  go_wp2_with fail
  refine hS.mono ?_
  rintro e w8 ⟨rfl, b8⟩
  go_wp2_with fail
  go_ret
  exact ⟨ret_bool (by simp), below_trans (below_trans b5 b6) b8⟩
end Go.Proofs.YtgifclphigpnhaaGreat
