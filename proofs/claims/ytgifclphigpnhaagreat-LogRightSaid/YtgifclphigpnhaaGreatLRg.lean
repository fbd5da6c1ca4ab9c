/-
  LogRight: whatever act is done to a right world, what comes is right; what is not named counts for nothing.
-/
import Derived.Test.YtgifclphigpnhaaGreatLgB
import Derived.Test.YtgifclphigpnhaaGreatSW
import Derived.Test.YtgifclphigpnhaaGreatIz
set_option maxRecDepth 100000
namespace Go.Proofs.YtgifclphigpnhaaGreat
open Go.RowKit Go.Shelf Go.BigFrame

theorem doF_2 {X : Wd} {x : Ac} (h : x.kind = 2) : doF X x = castF X x.one x.two true ByteArray.empty := by unfold doF; rw [if_neg (by omega), if_pos h]
theorem doF_3 {X : Wd} {x : Ac} (h : x.kind = 3) : doF X x = moveF X x.one x.two := by unfold doF; rw [if_neg (by omega), if_neg (by omega), if_pos h]
theorem doF_4 {X : Wd} {x : Ac} (h : x.kind = 4) : doF X x = calmF X := by unfold doF; rw [if_neg (by omega), if_neg (by omega), if_neg (by omega), if_pos h]

set_option maxHeartbeats 2000000 in
theorem LogRight_walk_of (w : World) {v xv : Value} {X : Wd} {x : Ac} {n : Int} (hW : WorldAt w v X) (hx : x.fits ∧ xv = x.val) (hn64 : I64 n) :
    Calls Tryz.prog 6 #[v, xv, .int .i64 n] w (GivesB (.bool true) w) := by
  obtain ⟨hxf, rfl⟩ := hx
  have hW0 := hW
  obtain ⟨gv, nv, wv, rfl, hg, hn, hw⟩ := hW
  obtain ⟨_, na, ncap, rfl, _⟩ := hn.form
  obtain ⟨_, ga, gcap, rfl, _⟩ := hg.open
  obtain ⟨_, wa, wcap, rfl, _⟩ := hw.form
  clear hg hn hw
  have hB := OBox.new w 26 (.slice ga X.groups.length gcap) (.slice na X.nodes.length ncap) (.slice wa X.wires.length wcap)
  have b0 := below_a1 w (.cells #[.slice ga X.groups.length gcap, .slice na X.nodes.length ncap, .slice wa X.wires.length wcap] 26)
  obtain ⟨w0, hw0⟩ : ∃ W, W = w.alloc (.cells #[.slice ga X.groups.length gcap, .slice na X.nodes.length ncap, .slice wa X.wires.length wcap] 26) := ⟨_, rfl⟩
  rw [← hw0] at hB b0
  have hs0 : w0.heap.size = w.heap.size + 1 := by rw [hw0, World.size_alloc]
  have bM := below_a1 w0 (.cells #[.int .i64 x.kind, .int .i64 x.one, .int .i64 x.two, .string x.body] 36)
  have hM := AcBox.new w0 x 36
  have hMl : w0.heap.size < (w0.alloc (.cells #[.int .i64 x.kind, .int .i64 x.one, .int .i64 x.two, .string x.body] 36)).heap.size := by rw [World.size_alloc]; omega
  have hB := hB.keep (bM.block _ hB.lt)
  have b1 := below_trans b0 bM
  rw [hs0] at hM hMl
  have hP1 := Do_c (hW0.below b1) hxf
  have hZ : ∀ z : Ac, z.fits → (x.kind = 2 ∨ x.kind = 3) ∧ z = ⟨x.kind, x.one, x.two, ⟨#[101, 108, 115, 101]⟩⟩ ∨ x.kind = 4 ∧ z = ⟨x.kind, n, n, ⟨#[101, 108, 115, 101]⟩⟩ ∨ z = x → ∀ o, Below w.heap.size w o → Calls Tryz.prog 21 #[.agg #[.slice ga X.groups.length gcap, .slice na X.nodes.length ncap, .slice wa X.wires.length wcap], .agg #[.int .i64 z.kind, .int .i64 z.one, .int .i64 z.two, .string z.body]] o (WPost o (doF X x)) := fun z hz h o ho => by
    have e : doF X z = doF X x := by
      rcases h with ⟨h | h, rfl⟩ | ⟨h, rfl⟩ | rfl
      · rw [doF_2 h, doF_2 (x := ⟨x.kind, x.one, x.two, ⟨#[101, 108, 115, 101]⟩⟩) h]
      · rw [doF_3 h, doF_3 (x := ⟨x.kind, x.one, x.two, ⟨#[101, 108, 115, 101]⟩⟩) h]
      · rw [doF_4 h, doF_4 (x := ⟨x.kind, n, n, ⟨#[101, 108, 115, 101]⟩⟩) h]
      · rfl
    rw [← e]
    exact Do_c (hW0.below ho) hz
  have hEr : (doF X x).1 = 0 → errX (doF X x).2 = 0 := fun h => by
    obtain ⟨hR, k, _, s⟩ := doF_steps h
    exact (s.like hR).right.err
  generalize doF X x = r at *
  have hxf2 := hxf
  obtain ⟨f0, f1, f2, f3⟩ := hxf2
  replace hEr := Lib.hid hEr
  replace hxf := Lib.hid hxf
  replace hZ := Lib.hid hZ
  replace hw0 := Lib.hid hw0
  unfold Ac.val at hP1 ⊢
  go_enter Tryz.func6, Tryz.ntmps6
  go_upto_region 1 with fail
  rw [← hw0.out]
  generalize w0.alloc (.cells #[.int .i64 x.kind, .int .i64 x.one, .int .i64 x.two, .string x.body] 36) = w1 at *
  obtain ⟨_, x0, x1, x2⟩ := id hB
  obtain ⟨m0, m1, m2, m3⟩ := id hM
  simp only [Nat.zero_add] at m0 m1 m2 m3
  go_wp2_with fail
  refine hP1.mono ?_
  rintro e w2 ⟨gv2, nv2, wv2, S2, rfl, hO2, hS2, b2⟩
  obtain ⟨pg, pn, pw⟩ := hO2.parts
  obtain ⟨_, ga2, gcap2, rfl, _⟩ := pg.open
  obtain ⟨_, na2, ncap2, rfl, _⟩ := pn.form
  obtain ⟨_, wa2, wcap2, rfl, _⟩ := pw.form
  clear pg pn pw
  have hR2 := OBox.new w2 26 (.slice ga2 r.2.groups.length gcap2) (.slice na2 r.2.nodes.length ncap2) (.slice wa2 r.2.wires.length wcap2)
  have bx2 := below_a1 w2 (.cells #[.slice ga2 r.2.groups.length gcap2, .slice na2 r.2.nodes.length ncap2, .slice wa2 r.2.wires.length wcap2] 26)
  have hW2 := hO2.world.below bx2
  clear x0 x1 x2 m0 m1 m2 m3 hP1
  have b23 := below_trans b2 bx2
  have hB3 := hB.keep (b23.block _ hB.lt)
  have hM3 := hM.below b23 hMl
  have hMl3 := Nat.lt_of_lt_of_le hMl b23.size
  have b3 := below_trans b1 b23
  by_cases he : r.1 = 0
  rotate_left
  · have hne : (r.1 != 0) = true := by simpa using he
    replace he := Lib.hid he
    go_upto_region 3 with fail
    generalize w2.alloc (.cells #[.slice ga2 r.2.groups.length gcap2, .slice na2 r.2.nodes.length ncap2, .slice wa2 r.2.wires.length wcap2] 26) = w3 at *
    go_wp2_with fail
    refine (logBegun_c w3).mono ?_
    rintro e w4 ⟨rfl, b4⟩
    go_wp2_with fail
    go_ret
    exact ⟨ret_bool (by simp), below_trans b3 b4⟩
  have hne : (r.1 != 0) = false := by simpa using he
  have hEy := hEr.out he
  go_upto_region 4 with fail
  generalize w2.alloc (.cells #[.slice ga2 r.2.groups.length gcap2, .slice na2 r.2.nodes.length ncap2, .slice wa2 r.2.wires.length wcap2] 26) = w3 at *
  obtain ⟨B2, hB2⟩ : ∃ B, w2.heap.size = B := ⟨_, rfl⟩
  simp only [hB2] at hR2 ⊢
  clear hB2 hO2 hS2 b23 bx2 b2 hB b1 hM hMl
  replace he := Lib.hid he
  obtain ⟨m0, m1, m2, m3⟩ := id hM3
  simp only [Nat.zero_add] at m0 m1 m2 m3
  by_cases h2 : x.kind = 2
  · have q2 : (x.kind == 2) = true := by simpa using h2
    have hz := hZ.out ⟨x.kind, x.one, x.two, ⟨#[101, 108, 115, 101]⟩⟩ ⟨f0, f1, f2, by show (ByteArray.mk #[101, 108, 115, 101]).size ≤ _; decide⟩ (Or.inl ⟨Or.inl h2, rfl⟩)
    replace h2 := Lib.hid h2
    go_upto_region 11 with fail
    have bz := below_a1 w3 (.cells #[.int .i64 x.kind, .int .i64 x.one, .int .i64 x.two, .string ⟨#[101, 108, 115, 101]⟩] 36)
    have hMz := AcBox.new w3 ⟨x.kind, x.one, x.two, ⟨#[101, 108, 115, 101]⟩⟩ 36
    generalize w3.alloc (.cells #[.int .i64 x.kind, .int .i64 x.one, .int .i64 x.two, .string ⟨#[101, 108, 115, 101]⟩] 36) = w4 at *
    obtain ⟨D, hD⟩ : ∃ D, w3.heap.size = D := ⟨_, rfl⟩
    rw [hD] at hMz
    have hR2 := hR2.keep (bz.block _ hR2.lt)
    have hW2 := hW2.below bz
    have hB4 := hB3.keep (bz.block _ hB3.lt)
    have b4 := below_trans b3 bz
    simp only [hD] at ⊢
    replace hD := Lib.hid hD
    have hz := hz w4 b4
    clear m0 m1 m2 m3 hM3 hMl3 hB3 bz b3
    obtain ⟨z0, z1, z2, z3⟩ := hMz
    simp only [Nat.zero_add] at z0 z1 z2 z3
    obtain ⟨_, x0, x1, x2⟩ := id hB4
    go_wp2_with fail
    refine hz.mono ?_
    rintro e w5 ⟨gv5, nv5, wv5, S5, rfl, hO5, hS5, b5⟩
    obtain ⟨pg, pn, pw⟩ := hO5.parts
    obtain ⟨_, ga5, gcap5, rfl, _⟩ := pg.open
    obtain ⟨_, na5, ncap5, rfl, _⟩ := pn.form
    obtain ⟨_, wa5, wcap5, rfl, _⟩ := pw.form
    clear pg pn pw
    have hR5 := OBox.new w5 26 (.slice ga5 r.2.groups.length gcap5) (.slice na5 r.2.nodes.length ncap5) (.slice wa5 r.2.wires.length wcap5)
    have bx5 := below_a1 w5 (.cells #[.slice ga5 r.2.groups.length gcap5, .slice na5 r.2.nodes.length ncap5, .slice wa5 r.2.wires.length wcap5] 26)
    have hW5 := hO5.world.below bx5
    clear x0 x1 x2 z0 z1 z2 z3 hz
    have b56 := below_trans b5 bx5
    have hR2 := hR2.keep (b56.block _ hR2.lt)
    have hW2 := hW2.below b56
    have b6 := below_trans b4 b56
    rw [he.out]
    go_upto_region 12 with fail
    generalize w5.alloc (.cells #[.slice ga5 r.2.groups.length gcap5, .slice na5 r.2.nodes.length ncap5, .slice wa5 r.2.wires.length wcap5] 26) = w6 at *
    obtain ⟨B5, hB5⟩ : ∃ B, w5.heap.size = B := ⟨_, rfl⟩
    simp only [hB5] at hR5 ⊢
    clear hB5
    clear hO5 hS5 b56 bx5 b5 hB4 b4
    go_wp2_with fail
    refine (logBegun_c w6).mono ?_
    rintro e w7 ⟨rfl, b7⟩
    have hR2 := hR2.keep (b7.block _ hR2.lt)
    have hR5 := hR5.keep (b7.block _ hR5.lt)
    have hW2 := hW2.below b7
    have hW5 := hW5.below b7
    have b7 := below_trans b6 b7
    have hCk := WCheck_c hW2
    rw [hEy] at hCk
    obtain ⟨_, x0, x1, x2⟩ := id hR2
    go_wp2_with fail
    refine hCk.mono ?_
    rintro e w8 ⟨rfl, b8⟩
    have hR2 := hR2.keep (b8.block _ hR2.lt)
    have hR5 := hR5.keep (b8.block _ hR5.lt)
    have hS := SameWorlds_c (hW2.below b8) (hW5.below b8)
    have b8 := below_trans b7 b8
    clear x0 x1 x2 hCk
    obtain ⟨_, x0, x1, x2⟩ := id hR2
    obtain ⟨_, y0, y1, y2⟩ := id hR5
    go_wp2_with fail
    refine hS.mono ?_
    rintro e w9 ⟨rfl, b9⟩
    go_wp2_with fail
    go_ret
    exact ⟨ret_bool (by simp), below_trans b8 b9⟩
  have q2 : (x.kind == 2) = false := by simpa using h2
  by_cases h3 : x.kind = 3
  · have q3 : (x.kind == 3) = true := by simpa using h3
    have hz := hZ.out ⟨x.kind, x.one, x.two, ⟨#[101, 108, 115, 101]⟩⟩ ⟨f0, f1, f2, by show (ByteArray.mk #[101, 108, 115, 101]).size ≤ _; decide⟩ (Or.inl ⟨Or.inr h3, rfl⟩)
    replace h2 := Lib.hid h2
    replace h3 := Lib.hid h3
    go_upto_region 11 with fail
    have bz := below_a1 w3 (.cells #[.int .i64 x.kind, .int .i64 x.one, .int .i64 x.two, .string ⟨#[101, 108, 115, 101]⟩] 36)
    have hMz := AcBox.new w3 ⟨x.kind, x.one, x.two, ⟨#[101, 108, 115, 101]⟩⟩ 36
    generalize w3.alloc (.cells #[.int .i64 x.kind, .int .i64 x.one, .int .i64 x.two, .string ⟨#[101, 108, 115, 101]⟩] 36) = w4 at *
    obtain ⟨D, hD⟩ : ∃ D, w3.heap.size = D := ⟨_, rfl⟩
    rw [hD] at hMz
    have hR2 := hR2.keep (bz.block _ hR2.lt)
    have hW2 := hW2.below bz
    have hB4 := hB3.keep (bz.block _ hB3.lt)
    have b4 := below_trans b3 bz
    simp only [hD] at ⊢
    replace hD := Lib.hid hD
    have hz := hz w4 b4
    clear m0 m1 m2 m3 hM3 hMl3 hB3 bz b3
    obtain ⟨z0, z1, z2, z3⟩ := hMz
    simp only [Nat.zero_add] at z0 z1 z2 z3
    obtain ⟨_, x0, x1, x2⟩ := id hB4
    go_wp2_with fail
    refine hz.mono ?_
    rintro e w5 ⟨gv5, nv5, wv5, S5, rfl, hO5, hS5, b5⟩
    obtain ⟨pg, pn, pw⟩ := hO5.parts
    obtain ⟨_, ga5, gcap5, rfl, _⟩ := pg.open
    obtain ⟨_, na5, ncap5, rfl, _⟩ := pn.form
    obtain ⟨_, wa5, wcap5, rfl, _⟩ := pw.form
    clear pg pn pw
    have hR5 := OBox.new w5 26 (.slice ga5 r.2.groups.length gcap5) (.slice na5 r.2.nodes.length ncap5) (.slice wa5 r.2.wires.length wcap5)
    have bx5 := below_a1 w5 (.cells #[.slice ga5 r.2.groups.length gcap5, .slice na5 r.2.nodes.length ncap5, .slice wa5 r.2.wires.length wcap5] 26)
    have hW5 := hO5.world.below bx5
    clear x0 x1 x2 z0 z1 z2 z3 hz
    have b56 := below_trans b5 bx5
    have hR2 := hR2.keep (b56.block _ hR2.lt)
    have hW2 := hW2.below b56
    have b6 := below_trans b4 b56
    rw [he.out]
    go_upto_region 12 with fail
    generalize w5.alloc (.cells #[.slice ga5 r.2.groups.length gcap5, .slice na5 r.2.nodes.length ncap5, .slice wa5 r.2.wires.length wcap5] 26) = w6 at *
    obtain ⟨B5, hB5⟩ : ∃ B, w5.heap.size = B := ⟨_, rfl⟩
    simp only [hB5] at hR5 ⊢
    clear hB5
    clear hO5 hS5 b56 bx5 b5 hB4 b4
    go_wp2_with fail
    refine (logBegun_c w6).mono ?_
    rintro e w7 ⟨rfl, b7⟩
    have hR2 := hR2.keep (b7.block _ hR2.lt)
    have hR5 := hR5.keep (b7.block _ hR5.lt)
    have hW2 := hW2.below b7
    have hW5 := hW5.below b7
    have b7 := below_trans b6 b7
    have hCk := WCheck_c hW2
    rw [hEy] at hCk
    obtain ⟨_, x0, x1, x2⟩ := id hR2
    go_wp2_with fail
    refine hCk.mono ?_
    rintro e w8 ⟨rfl, b8⟩
    have hR2 := hR2.keep (b8.block _ hR2.lt)
    have hR5 := hR5.keep (b8.block _ hR5.lt)
    have hS := SameWorlds_c (hW2.below b8) (hW5.below b8)
    have b8 := below_trans b7 b8
    clear x0 x1 x2 hCk
    obtain ⟨_, x0, x1, x2⟩ := id hR2
    obtain ⟨_, y0, y1, y2⟩ := id hR5
    go_wp2_with fail
    refine hS.mono ?_
    rintro e w9 ⟨rfl, b9⟩
    go_wp2_with fail
    go_ret
    exact ⟨ret_bool (by simp), below_trans b8 b9⟩
  have q3 : (x.kind == 3) = false := by simpa using h3
  by_cases h4 : x.kind = 4
  · have q4 : (x.kind == 4) = true := by simpa using h4
    have hz := hZ.out ⟨x.kind, n, n, ⟨#[101, 108, 115, 101]⟩⟩ ⟨f0, hn64, hn64, by show (ByteArray.mk #[101, 108, 115, 101]).size ≤ _; decide⟩ (Or.inr (Or.inl ⟨h4, rfl⟩))
    replace h2 := Lib.hid h2
    replace h3 := Lib.hid h3
    replace h4 := Lib.hid h4
    go_upto_region 11 with fail
    have bz := below_a1 w3 (.cells #[.int .i64 x.kind, .int .i64 n, .int .i64 n, .string ⟨#[101, 108, 115, 101]⟩] 36)
    have hMz := AcBox.new w3 ⟨x.kind, n, n, ⟨#[101, 108, 115, 101]⟩⟩ 36
    generalize w3.alloc (.cells #[.int .i64 x.kind, .int .i64 n, .int .i64 n, .string ⟨#[101, 108, 115, 101]⟩] 36) = w4 at *
    obtain ⟨D, hD⟩ : ∃ D, w3.heap.size = D := ⟨_, rfl⟩
    rw [hD] at hMz
    have hR2 := hR2.keep (bz.block _ hR2.lt)
    have hW2 := hW2.below bz
    have hB4 := hB3.keep (bz.block _ hB3.lt)
    have b4 := below_trans b3 bz
    simp only [hD] at ⊢
    replace hD := Lib.hid hD
    have hz := hz w4 b4
    clear m0 m1 m2 m3 hM3 hMl3 hB3 bz b3
    obtain ⟨z0, z1, z2, z3⟩ := hMz
    simp only [Nat.zero_add] at z0 z1 z2 z3
    obtain ⟨_, x0, x1, x2⟩ := id hB4
    go_wp2_with fail
    refine hz.mono ?_
    rintro e w5 ⟨gv5, nv5, wv5, S5, rfl, hO5, hS5, b5⟩
    obtain ⟨pg, pn, pw⟩ := hO5.parts
    obtain ⟨_, ga5, gcap5, rfl, _⟩ := pg.open
    obtain ⟨_, na5, ncap5, rfl, _⟩ := pn.form
    obtain ⟨_, wa5, wcap5, rfl, _⟩ := pw.form
    clear pg pn pw
    have hR5 := OBox.new w5 26 (.slice ga5 r.2.groups.length gcap5) (.slice na5 r.2.nodes.length ncap5) (.slice wa5 r.2.wires.length wcap5)
    have bx5 := below_a1 w5 (.cells #[.slice ga5 r.2.groups.length gcap5, .slice na5 r.2.nodes.length ncap5, .slice wa5 r.2.wires.length wcap5] 26)
    have hW5 := hO5.world.below bx5
    clear x0 x1 x2 z0 z1 z2 z3 hz
    have b56 := below_trans b5 bx5
    have hR2 := hR2.keep (b56.block _ hR2.lt)
    have hW2 := hW2.below b56
    have b6 := below_trans b4 b56
    rw [he.out]
    go_upto_region 12 with fail
    generalize w5.alloc (.cells #[.slice ga5 r.2.groups.length gcap5, .slice na5 r.2.nodes.length ncap5, .slice wa5 r.2.wires.length wcap5] 26) = w6 at *
    obtain ⟨B5, hB5⟩ : ∃ B, w5.heap.size = B := ⟨_, rfl⟩
    simp only [hB5] at hR5 ⊢
    clear hB5
    clear hO5 hS5 b56 bx5 b5 hB4 b4
    go_wp2_with fail
    refine (logBegun_c w6).mono ?_
    rintro e w7 ⟨rfl, b7⟩
    have hR2 := hR2.keep (b7.block _ hR2.lt)
    have hR5 := hR5.keep (b7.block _ hR5.lt)
    have hW2 := hW2.below b7
    have hW5 := hW5.below b7
    have b7 := below_trans b6 b7
    have hCk := WCheck_c hW2
    rw [hEy] at hCk
    obtain ⟨_, x0, x1, x2⟩ := id hR2
    go_wp2_with fail
    refine hCk.mono ?_
    rintro e w8 ⟨rfl, b8⟩
    have hR2 := hR2.keep (b8.block _ hR2.lt)
    have hR5 := hR5.keep (b8.block _ hR5.lt)
    have hS := SameWorlds_c (hW2.below b8) (hW5.below b8)
    have b8 := below_trans b7 b8
    clear x0 x1 x2 hCk
    obtain ⟨_, x0, x1, x2⟩ := id hR2
    obtain ⟨_, y0, y1, y2⟩ := id hR5
    go_wp2_with fail
    refine hS.mono ?_
    rintro e w9 ⟨rfl, b9⟩
    go_wp2_with fail
    go_ret
    exact ⟨ret_bool (by simp), below_trans b8 b9⟩
  have q4 : (x.kind == 4) = false := by simpa using h4
  have hz := hZ.out x hxf.out (Or.inr (Or.inr rfl))
  replace h2 := Lib.hid h2
  replace h3 := Lib.hid h3
  replace h4 := Lib.hid h4
  go_upto_region 11 with fail
  have bz := below_a1 w3 (.cells #[.int .i64 x.kind, .int .i64 x.one, .int .i64 x.two, .string x.body] 36)
  have hMz := AcBox.new w3 ⟨x.kind, x.one, x.two, x.body⟩ 36
  generalize w3.alloc (.cells #[.int .i64 x.kind, .int .i64 x.one, .int .i64 x.two, .string x.body] 36) = w4 at *
  obtain ⟨D, hD⟩ : ∃ D, w3.heap.size = D := ⟨_, rfl⟩
  rw [hD] at hMz
  have hR2 := hR2.keep (bz.block _ hR2.lt)
  have hW2 := hW2.below bz
  have hB4 := hB3.keep (bz.block _ hB3.lt)
  have b4 := below_trans b3 bz
  simp only [hD] at ⊢
  replace hD := Lib.hid hD
  have hz := hz w4 b4
  clear m0 m1 m2 m3 hM3 hMl3 hB3 bz b3
  obtain ⟨z0, z1, z2, z3⟩ := hMz
  simp only [Nat.zero_add] at z0 z1 z2 z3
  obtain ⟨_, x0, x1, x2⟩ := id hB4
  go_wp2_with fail
  refine hz.mono ?_
  rintro e w5 ⟨gv5, nv5, wv5, S5, rfl, hO5, hS5, b5⟩
  obtain ⟨pg, pn, pw⟩ := hO5.parts
  obtain ⟨_, ga5, gcap5, rfl, _⟩ := pg.open
  obtain ⟨_, na5, ncap5, rfl, _⟩ := pn.form
  obtain ⟨_, wa5, wcap5, rfl, _⟩ := pw.form
  clear pg pn pw
  have hR5 := OBox.new w5 26 (.slice ga5 r.2.groups.length gcap5) (.slice na5 r.2.nodes.length ncap5) (.slice wa5 r.2.wires.length wcap5)
  have bx5 := below_a1 w5 (.cells #[.slice ga5 r.2.groups.length gcap5, .slice na5 r.2.nodes.length ncap5, .slice wa5 r.2.wires.length wcap5] 26)
  have hW5 := hO5.world.below bx5
  clear x0 x1 x2 z0 z1 z2 z3 hz
  have b56 := below_trans b5 bx5
  have hR2 := hR2.keep (b56.block _ hR2.lt)
  have hW2 := hW2.below b56
  have b6 := below_trans b4 b56
  rw [he.out]
  go_upto_region 12 with fail
  generalize w5.alloc (.cells #[.slice ga5 r.2.groups.length gcap5, .slice na5 r.2.nodes.length ncap5, .slice wa5 r.2.wires.length wcap5] 26) = w6 at *
  obtain ⟨B5, hB5⟩ : ∃ B, w5.heap.size = B := ⟨_, rfl⟩
  simp only [hB5] at hR5 ⊢
  clear hB5
  clear hO5 hS5 b56 bx5 b5 hB4 b4
  go_wp2_with fail
  refine (logBegun_c w6).mono ?_
  rintro e w7 ⟨rfl, b7⟩
  have hR2 := hR2.keep (b7.block _ hR2.lt)
  have hR5 := hR5.keep (b7.block _ hR5.lt)
  have hW2 := hW2.below b7
  have hW5 := hW5.below b7
  have b7 := below_trans b6 b7
  have hCk := WCheck_c hW2
  rw [hEy] at hCk
  obtain ⟨_, x0, x1, x2⟩ := id hR2
  go_wp2_with fail
  refine hCk.mono ?_
  rintro e w8 ⟨rfl, b8⟩
  have hR2 := hR2.keep (b8.block _ hR2.lt)
  have hR5 := hR5.keep (b8.block _ hR5.lt)
  have hS := SameWorlds_c (hW2.below b8) (hW5.below b8)
  have b8 := below_trans b7 b8
  clear x0 x1 x2 hCk
  obtain ⟨_, x0, x1, x2⟩ := id hR2
  obtain ⟨_, y0, y1, y2⟩ := id hR5
  go_wp2_with fail
  refine hS.mono ?_
  rintro e w9 ⟨rfl, b9⟩
  go_wp2_with fail
  go_ret
  exact ⟨ret_bool (by simp), below_trans b8 b9⟩
end Go.Proofs.YtgifclphigpnhaaGreat
