/-
  WireBack: what is written is read as it was, and nothing else is.
-/
import Derived.Test.YtnalakhelicjcaaWUb
set_option maxRecDepth 100000
namespace Go.Proofs.Ytnalakhelicjcaa
open Go.RowKit Go.Shelf Go.BigFrame Go.Deep

set_option maxHeartbeats 4000000 in
theorem WireBack_walk_of (w : World) {v : Value} {X : Wd} {b : ByteArray} (hW : WorldAt w v X) (_hb : b.size ≤ 140737488351232) :
    Calls Try.prog 6 #[v, .string b] w (GivesB (.bool true) w) := by
  have hWr := fun (o : World) (h : Below w.heap.size w o) => Write_c (hW.below h)
  have hSm := fun (o : World) (h : Below w.heap.size w o) => hW.below h
  have hRb := fun o => Read_c o b
  have hinv := readW_inv (numsOf_octs b)
  obtain ⟨r, hr⟩ : ∃ r, readW (numsOf b) = r := ⟨_, rfl⟩
  rw [hr] at hinv
  simp only [hr] at hRb
  clear hr
  unfold WPost at hRb
  have hRd : errX X = 0 → ∀ o, (writeW X).size ≤ 4096 → Calls Try.prog 16 #[.string (writeW X)] o (WPost o (0, X)) := fun h0 o hl => by
    have hs : writeW X = strOfNums (bWorld X) := by unfold writeW; rw [if_pos h0]
    rw [hs] at hl ⊢
    rw [str_len] at hl
    have h1 := Read_c o (strOfNums (bWorld X))
    rw [nums_str (octs_world X), readW_back h0 hl] at h1
    exact h1
  obtain ⟨s, hs⟩ : ∃ s, writeW X = s := ⟨_, rfl⟩
  obtain ⟨e0, he0⟩ : ∃ e, errX X = e := ⟨_, rfl⟩
  rw [hs, he0] at hRd
  rw [hs, he0] at hWr
  clear hs he0
  unfold WPost at hRd
  replace hRd := Lib.hid hRd
  replace hWr := Lib.hid hWr
  replace hRb := Lib.hid hRb
  replace hinv := Lib.hid hinv
  replace hSm := Lib.hid hSm
  obtain ⟨gv, nv, wv, rfl, hg, hn, hw⟩ := hW
  obtain ⟨_, ga, gcap, rfl, _⟩ := hg.open
  obtain ⟨_, na, ncap, rfl, _⟩ := hn.form
  obtain ⟨_, wa, wcap, rfl, _⟩ := hw.form
  clear hg hn hw
  have hB := OBox.new w 40 (.slice ga X.groups.length gcap) (.slice na X.nodes.length ncap) (.slice wa X.wires.length wcap)
  have bA := below_a1 w (.cells #[.slice ga X.groups.length gcap, .slice na X.nodes.length ncap, .slice wa X.wires.length wcap] 40)
  go_enter Try.func6, Try.ntmps6
  go_upto_region 1 with fail
  generalize w.alloc (.cells #[.slice ga X.groups.length gcap, .slice na X.nodes.length ncap, .slice wa X.wires.length wcap] 40) = w1 at *
  obtain ⟨B, hBe⟩ : ∃ B, w.heap.size = B := ⟨_, rfl⟩
  have hC := hWr.out w1 bA
  have hSm1 := hSm.out
  simp only [hBe] at hB ⊢
  clear hBe hSm
  replace hSm1 := Lib.hid hSm1
  obtain ⟨_, x0, x1, x2⟩ := id hB
  go_wp2_with fail
  refine hC.mono ?_
  clear hC x0 x1 x2
  rintro e w2 ⟨rfl, b12⟩
  have b2 := below_trans bA b12
  have hB2 := hB.keep (b12.block B hB.lt)
  by_cases h0 : e0 = 0
  rotate_left
  · have q0 : (e0 == 0) = false := by simpa using h0
    replace h0 := Lib.hid h0
    go_wp2_with fail
    refine (hRb.out w2).mono ?_
    rintro e w5 ⟨gv5, nv5, wv5, S5, rfl, hO5, hS5, b5⟩
    obtain ⟨pg, pn, pw⟩ := hO5.parts
    obtain ⟨_, ga5, gcap5, rfl, _⟩ := pg.open
    obtain ⟨_, na5, ncap5, rfl, _⟩ := pn.form
    obtain ⟨_, wa5, wcap5, rfl, _⟩ := pw.form
    clear pg pn pw
    have hR5 := OBox.new w5 40 (.slice ga5 r.2.groups.length gcap5) (.slice na5 r.2.nodes.length ncap5) (.slice wa5 r.2.wires.length wcap5)
    have bx5 := below_a1 w5 (.cells #[.slice ga5 r.2.groups.length gcap5, .slice na5 r.2.nodes.length ncap5, .slice wa5 r.2.wires.length wcap5] 40)
    have hW5 := hO5.world.below bx5
    have b5' := below_trans (below_trans b2 b5) bx5
    go_upto_region 7 with fail
    generalize w5.alloc (.cells #[.slice ga5 r.2.groups.length gcap5, .slice na5 r.2.nodes.length ncap5, .slice wa5 r.2.wires.length wcap5] 40) = w6 at *
    obtain ⟨E, hE⟩ : ∃ E, w5.heap.size = E := ⟨_, rfl⟩
    simp only [hE] at hR5 ⊢
    clear hE hO5 hS5 b5 bx5
    by_cases hr0 : r.1 = 0
    rotate_left
    · have q9 : (r.1 != 0) = true := by simpa using hr0
      replace hr0 := Lib.hid hr0
      go_wp2_with fail
      refine (wireBegun_c w6).mono ?_
      rintro e w7 ⟨rfl, b7⟩
      go_wp2_with fail
      go_ret
      exact ⟨rfl, below_trans b5' b7⟩
    have q9 : (r.1 != 0) = false := by simpa using hr0
    obtain ⟨hi1, hi2⟩ := hinv.out hr0
    have hW7 := Write_c hW5
    have hwb : writeW r.2 = b := by unfold writeW; rw [if_pos hi1, hi2, str_nums]
    rw [hwb, hi1] at hW7
    clear hwb
    replace hi1 := Lib.hid hi1
    replace hi2 := Lib.hid hi2
    replace hr0 := Lib.hid hr0
    obtain ⟨_, z0, z1, z2⟩ := id hR5
    go_wp2_with fail
    refine hW7.mono ?_
    clear hW7
    rintro e w7 ⟨rfl, b7⟩
    have b7 := below_trans b5' b7
    clear z0 z1 z2
    go_wp2_with fail
    refine (wireBegun_c w7).mono ?_
    rintro e w8 ⟨rfl, b8⟩
    go_wp2_with fail
    go_ret
    exact ⟨ret_bool (by simp), below_trans b7 b8⟩
  have q0 : (e0 == 0) = true := by simpa using h0
  by_cases hl : s.size ≤ 4096
  rotate_left
  · have q1 : decide ((s.size : Int) ≤ 4096) = false := decide_eq_false (by omega)
    replace h0 := Lib.hid h0
    replace hl := Lib.hid hl
    go_wp2_with fail
    refine (hRb.out w2).mono ?_
    rintro e w5 ⟨gv5, nv5, wv5, S5, rfl, hO5, hS5, b5⟩
    obtain ⟨pg, pn, pw⟩ := hO5.parts
    obtain ⟨_, ga5, gcap5, rfl, _⟩ := pg.open
    obtain ⟨_, na5, ncap5, rfl, _⟩ := pn.form
    obtain ⟨_, wa5, wcap5, rfl, _⟩ := pw.form
    clear pg pn pw
    have hR5 := OBox.new w5 40 (.slice ga5 r.2.groups.length gcap5) (.slice na5 r.2.nodes.length ncap5) (.slice wa5 r.2.wires.length wcap5)
    have bx5 := below_a1 w5 (.cells #[.slice ga5 r.2.groups.length gcap5, .slice na5 r.2.nodes.length ncap5, .slice wa5 r.2.wires.length wcap5] 40)
    have hW5 := hO5.world.below bx5
    have b5' := below_trans (below_trans b2 b5) bx5
    go_upto_region 7 with fail
    generalize w5.alloc (.cells #[.slice ga5 r.2.groups.length gcap5, .slice na5 r.2.nodes.length ncap5, .slice wa5 r.2.wires.length wcap5] 40) = w6 at *
    obtain ⟨E, hE⟩ : ∃ E, w5.heap.size = E := ⟨_, rfl⟩
    simp only [hE] at hR5 ⊢
    clear hE hO5 hS5 b5 bx5
    by_cases hr0 : r.1 = 0
    rotate_left
    · have q9 : (r.1 != 0) = true := by simpa using hr0
      replace hr0 := Lib.hid hr0
      go_wp2_with fail
      refine (wireBegun_c w6).mono ?_
      rintro e w7 ⟨rfl, b7⟩
      go_wp2_with fail
      go_ret
      exact ⟨rfl, below_trans b5' b7⟩
    have q9 : (r.1 != 0) = false := by simpa using hr0
    obtain ⟨hi1, hi2⟩ := hinv.out hr0
    have hW7 := Write_c hW5
    have hwb : writeW r.2 = b := by unfold writeW; rw [if_pos hi1, hi2, str_nums]
    rw [hwb, hi1] at hW7
    clear hwb
    replace hi1 := Lib.hid hi1
    replace hi2 := Lib.hid hi2
    replace hr0 := Lib.hid hr0
    obtain ⟨_, z0, z1, z2⟩ := id hR5
    go_wp2_with fail
    refine hW7.mono ?_
    clear hW7
    rintro e w7 ⟨rfl, b7⟩
    have b7 := below_trans b5' b7
    clear z0 z1 z2
    go_wp2_with fail
    refine (wireBegun_c w7).mono ?_
    rintro e w8 ⟨rfl, b8⟩
    go_wp2_with fail
    go_ret
    exact ⟨ret_bool (by simp), below_trans b7 b8⟩
  have q1 : decide ((s.size : Int) ≤ 4096) = true := decide_eq_true (by omega)
  have hR := hRd.out h0 w2 hl
  replace h0 := Lib.hid h0
  replace hl := Lib.hid hl
  go_wp2_with fail
  refine hR.mono ?_
  clear hR
  rintro e w3 ⟨gv3, nv3, wv3, S3, rfl, hO3, hS3, b3⟩
  obtain ⟨pg, pn, pw⟩ := hO3.parts
  obtain ⟨_, ga3, gcap3, rfl, _⟩ := pg.open
  obtain ⟨_, na3, ncap3, rfl, _⟩ := pn.form
  obtain ⟨_, wa3, wcap3, rfl, _⟩ := pw.form
  clear pg pn pw
  have hR3 := OBox.new w3 40 (.slice ga3 X.groups.length gcap3) (.slice na3 X.nodes.length ncap3) (.slice wa3 X.wires.length wcap3)
  have bx3 := below_a1 w3 (.cells #[.slice ga3 X.groups.length gcap3, .slice na3 X.nodes.length ncap3, .slice wa3 X.wires.length wcap3] 40)
  have hW3 := hO3.world.below bx3
  go_upto_region 4 with fail
  generalize w3.alloc (.cells #[.slice ga3 X.groups.length gcap3, .slice na3 X.nodes.length ncap3, .slice wa3 X.wires.length wcap3] 40) = w4 at *
  obtain ⟨D, hD⟩ : ∃ D, w3.heap.size = D := ⟨_, rfl⟩
  have hB4 := (hB2.keep (b3.block B hB2.lt)).keep (bx3.block B (Nat.lt_of_lt_of_le hB2.lt b3.size))
  have b4 := below_trans (below_trans b2 b3) bx3
  simp only [hD] at hR3 ⊢
  clear hD hO3 hS3 b3 bx3
  have hSW := SameWorlds_c hW3 (hSm1.out w4 b4)
  obtain ⟨_, x0, x1, x2⟩ := id hB4
  obtain ⟨_, y0, y1, y2⟩ := id hR3
  go_wp2_with fail
  refine hSW.mono ?_
  clear hSW x0 x1 x2 y0 y1 y2
  rintro e w5' ⟨rfl, b5'⟩
  have b5'' := below_trans b4 b5'
  go_wp2_with fail
  refine (hRb.out w5').mono ?_
  rintro e w5 ⟨gv5, nv5, wv5, S5, rfl, hO5, hS5, b5⟩
  obtain ⟨pg, pn, pw⟩ := hO5.parts
  obtain ⟨_, ga5, gcap5, rfl, _⟩ := pg.open
  obtain ⟨_, na5, ncap5, rfl, _⟩ := pn.form
  obtain ⟨_, wa5, wcap5, rfl, _⟩ := pw.form
  clear pg pn pw
  have hR5 := OBox.new w5 40 (.slice ga5 r.2.groups.length gcap5) (.slice na5 r.2.nodes.length ncap5) (.slice wa5 r.2.wires.length wcap5)
  have bx5 := below_a1 w5 (.cells #[.slice ga5 r.2.groups.length gcap5, .slice na5 r.2.nodes.length ncap5, .slice wa5 r.2.wires.length wcap5] 40)
  have hW5 := hO5.world.below bx5
  have b5' := below_trans (below_trans b5'' b5) bx5
  go_upto_region 7 with fail
  generalize w5.alloc (.cells #[.slice ga5 r.2.groups.length gcap5, .slice na5 r.2.nodes.length ncap5, .slice wa5 r.2.wires.length wcap5] 40) = w6 at *
  obtain ⟨E, hE⟩ : ∃ E, w5.heap.size = E := ⟨_, rfl⟩
  simp only [hE] at hR5 ⊢
  clear hE hO5 hS5 b5 bx5
  by_cases hr0 : r.1 = 0
  rotate_left
  · have q9 : (r.1 != 0) = true := by simpa using hr0
    replace hr0 := Lib.hid hr0
    go_wp2_with fail
    refine (wireBegun_c w6).mono ?_
    rintro e w7 ⟨rfl, b7⟩
    go_wp2_with fail
    go_ret
    exact ⟨rfl, below_trans b5' b7⟩
  have q9 : (r.1 != 0) = false := by simpa using hr0
  obtain ⟨hi1, hi2⟩ := hinv.out hr0
  have hW7 := Write_c hW5
  have hwb : writeW r.2 = b := by unfold writeW; rw [if_pos hi1, hi2, str_nums]
  rw [hwb, hi1] at hW7
  clear hwb
  replace hi1 := Lib.hid hi1
  replace hi2 := Lib.hid hi2
  replace hr0 := Lib.hid hr0
  obtain ⟨_, z0, z1, z2⟩ := id hR5
  go_wp2_with fail
  refine hW7.mono ?_
  clear hW7
  rintro e w7 ⟨rfl, b7⟩
  have b7 := below_trans b5' b7
  clear z0 z1 z2
  go_wp2_with fail
  refine (wireBegun_c w7).mono ?_
  rintro e w8 ⟨rfl, b8⟩
  go_wp2_with fail
  go_ret
  exact ⟨ret_bool (by simp), below_trans b7 b8⟩
end Go.Proofs.Ytnalakhelicjcaa
