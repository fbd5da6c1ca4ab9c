/-
  WireWrites: Write and Read answer just what the document says.
-/
import Derived.Test.YtnalakhelicjcaaVUk
set_option maxRecDepth 100000
namespace Go.Proofs.Ytnalakhelicjcaa
open Go.RowKit Go.Shelf Go.BigFrame Go.Deep

set_option maxHeartbeats 4000000 in
theorem WireWrites_walk_of (w : World) {v : Value} {X : Wd} {b : ByteArray} (hW : WorldAt w v X) (_hb : b.size ≤ 140737488351232) :
    Calls Try.prog 5 #[v, .string b] w (GivesB (.bool true) w) := by
  have hWr := fun (o : World) (h : Below w.heap.size w o) => Write_c (hW.below h)
  have hEr := fun (o : World) (h : Below w.heap.size w o) => WorldError_c (hW.below h)
  have hBy := fun (h0 : errX X = 0) (o : World) (h : Below w.heap.size w o) => WorldBytes_c (hW.below h) h0
  have hRd := fun o => Read_c o b
  have hFr := fun o => WorldFrom_c o b
  have hm := fun h : 4096 < b.size => readW_many (l := numsOf b) (by rw [numsOf_len]; exact h)
  have hf := fun h : ¬ 4096 < b.size => readW_ref (numsOf_octs b) (by rw [numsOf_len]; omega)
  obtain ⟨r, hr⟩ : ∃ r, readW (numsOf b) = r := ⟨_, rfl⟩
  obtain ⟨⟨pb, pX⟩, hp⟩ : ∃ p, refW (numsOf b) = p := ⟨_, rfl⟩
  rw [hr] at hm hf
  rw [hp] at hf
  simp only [hr] at hRd
  simp only [hp] at hFr
  clear hr hp
  have hs1 : errX X = 0 → writeW X = strOfNums (bWorld X) := fun h => by unfold writeW; rw [if_pos h]
  have hs0 : ¬ errX X = 0 → writeW X = ⟨#[]⟩ := fun h => by unfold writeW; rw [if_neg h]
  obtain ⟨s, hs⟩ : ∃ s, writeW X = s := ⟨_, rfl⟩
  obtain ⟨sb, hsb⟩ : ∃ s, strOfNums (bWorld X) = s := ⟨_, rfl⟩
  obtain ⟨e0, he0⟩ : ∃ e, errX X = e := ⟨_, rfl⟩
  rw [hs, he0] at hs0
  rw [hs, he0, hsb] at hs1
  rw [he0, hsb] at hBy
  rw [hs, he0] at hWr
  rw [he0] at hEr
  clear hs he0 hsb
  unfold WPost at hRd
  unfold FPost at hFr
  replace hRd := Lib.hid hRd
  replace hFr := Lib.hid hFr
  replace hWr := Lib.hid hWr
  replace hEr := Lib.hid hEr
  replace hBy := Lib.hid hBy
  replace hm := Lib.hid hm
  replace hf := Lib.hid hf
  replace hs0 := Lib.hid hs0
  replace hs1 := Lib.hid hs1
  obtain ⟨gv, nv, wv, rfl, hg, hn, hw⟩ := hW
  obtain ⟨_, ga, gcap, rfl, _⟩ := hg.open
  obtain ⟨_, na, ncap, rfl, _⟩ := hn.form
  obtain ⟨_, wa, wcap, rfl, _⟩ := hw.form
  clear hg hn hw
  have hB := OBox.new w 40 (.slice ga X.groups.length gcap) (.slice na X.nodes.length ncap) (.slice wa X.wires.length wcap)
  have bA := below_a1 w (.cells #[.slice ga X.groups.length gcap, .slice na X.nodes.length ncap, .slice wa X.wires.length wcap] 40)
  go_enter Try.func5, Try.ntmps5
  go_upto_region 1 with fail
  generalize w.alloc (.cells #[.slice ga X.groups.length gcap, .slice na X.nodes.length ncap, .slice wa X.wires.length wcap] 40) = w1 at *
  obtain ⟨B, hBe⟩ : ∃ B, w.heap.size = B := ⟨_, rfl⟩
  have hC := hWr.out w1 bA
  have hEr1 := hEr.out
  have hBy1 := hBy.out
  simp only [hBe] at hB ⊢
  clear hBe hEr hBy
  replace hEr1 := Lib.hid hEr1
  replace hBy1 := Lib.hid hBy1
  obtain ⟨_, x0, x1, x2⟩ := id hB
  go_wp2_with fail
  refine hC.mono ?_
  clear hC x0 x1 x2
  rintro e w2 ⟨rfl, b12⟩
  have b2 := below_trans bA b12
  have hB2 := hB.keep (b12.block B hB.lt)
  clear hB
  have hC := hEr1.out w2 b2
  obtain ⟨_, x0, x1, x2⟩ := id hB2
  go_wp2_with fail
  refine hC.mono ?_
  clear hC x0 x1 x2
  rintro e w3 ⟨rfl, b23⟩
  have b3 := below_trans b2 b23
  have hB3 := hB2.keep (b23.block B hB2.lt)
  clear hB2 b2 b23
  by_cases h0 : e0 = 0
  rotate_left
  · have q0 : (e0 == 0) = false := by simpa using h0
    obtain rfl := hs0.out h0
    replace h0 := Lib.hid h0
    go_wp2_with fail
    refine (hRd.out w3).mono ?_
    rintro e w5 ⟨gv5, nv5, wv5, S5, rfl, hO5, hS5, b5⟩
    obtain ⟨pg, pn, pw⟩ := hO5.parts
    obtain ⟨_, ga5, gcap5, rfl, _⟩ := pg.open
    obtain ⟨_, na5, ncap5, rfl, _⟩ := pn.form
    obtain ⟨_, wa5, wcap5, rfl, _⟩ := pw.form
    clear pg pn pw
    have hR5 := OBox.new w5 40 (.slice ga5 r.2.groups.length gcap5) (.slice na5 r.2.nodes.length ncap5) (.slice wa5 r.2.wires.length wcap5)
    have bx5 := below_a1 w5 (.cells #[.slice ga5 r.2.groups.length gcap5, .slice na5 r.2.nodes.length ncap5, .slice wa5 r.2.wires.length wcap5] 40)
    have hW5 := hO5.world.below bx5
    have b6 := below_trans (below_trans b3 b5) bx5
    go_upto_region 7 with fail
    generalize w5.alloc (.cells #[.slice ga5 r.2.groups.length gcap5, .slice na5 r.2.nodes.length ncap5, .slice wa5 r.2.wires.length wcap5] 40) = w6 at *
    obtain ⟨E, hE⟩ : ∃ E, w5.heap.size = E := ⟨_, rfl⟩
    simp only [hE] at hR5 ⊢
    clear hE hO5 hS5 b5 bx5
    by_cases hl : 4096 < b.size
    · have q1 : decide ((b.size : Int) > 4096) = true := decide_eq_true (by omega)
      obtain rfl := hm.out hl
      replace hl := Lib.hid hl
      go_wp2_with fail
      refine (wireBegun_c w6).mono ?_
      rintro e w7 ⟨rfl, b7⟩
      have hR7 := hR5.keep (b7.block E hR5.lt)
      have hW7 := hW5.below b7
      have b7 := below_trans b6 b7
      obtain ⟨_, x0, x1, x2⟩ := id hR7
      have hSm := SameWorlds_c hW7 (OWd.empty w7 (fun _ => False) false).world
      go_wp2_with fail
      refine hSm.mono ?_
      rintro e w8 ⟨rfl, b8⟩
      go_wp2_with fail
      go_ret
      exact ⟨ret_bool (by simp), below_trans b7 b8⟩
    have q1 : decide ((b.size : Int) > 4096) = false := decide_eq_false (by omega)
    have hf9 := hf.out hl
    rcases Bool.eq_false_or_eq_true pb with hpb | hpb
    all_goals
      subst hpb
      first | simp only [if_true] at hf9 | simp only [Bool.false_eq_true, if_false] at hf9
      obtain rfl := hf9
      replace hl := Lib.hid hl
      dsimp only at hR5 hW5 ⊢
      go_wp2_with fail
      refine (hFr.out w6).mono ?_
      rintro e w7 ⟨gv7, nv7, wv7, S7, rfl, hO7, hS7, b7⟩
      obtain ⟨pg, pn, pw⟩ := hO7.parts
      obtain ⟨_, ga7, gcap7, rfl, _⟩ := pg.open
      obtain ⟨_, na7, ncap7, rfl, _⟩ := pn.form
      obtain ⟨_, wa7, wcap7, rfl, _⟩ := pw.form
      clear pg pn pw
      have hR7 := OBox.new w7 40 (.slice ga7 pX.groups.length gcap7) (.slice na7 pX.nodes.length ncap7) (.slice wa7 pX.wires.length wcap7)
      have bx7 := below_a1 w7 (.cells #[.slice ga7 pX.groups.length gcap7, .slice na7 pX.nodes.length ncap7, .slice wa7 pX.wires.length wcap7] 40)
      have hW7 := hO7.world.below bx7
      have hR8 := (hR5.keep (b7.block E hR5.lt)).keep (bx7.block E (Nat.lt_of_lt_of_le hR5.lt b7.size))
      have hW8 := (hW5.below b7).below bx7
      have b8 := below_trans (below_trans b6 b7) bx7
      go_upto_region 10 with fail
      generalize w7.alloc (.cells #[.slice ga7 pX.groups.length gcap7, .slice na7 pX.nodes.length ncap7, .slice wa7 pX.wires.length wcap7] 40) = w8 at *
      obtain ⟨H, hH⟩ : ∃ H, w7.heap.size = H := ⟨_, rfl⟩
      simp only [hH] at hR7 ⊢
      clear hH hO7 hS7 b7 bx7 hR5 hW5 b6
      go_wp2_with fail
      refine (wireBegun_c w8).mono ?_
      rintro e w9 ⟨rfl, b9⟩
      have hR9 := hR8.keep (b9.block E hR8.lt)
      have hT9 := hR7.keep (b9.block H hR7.lt)
      have hSm := SameWorlds_c (hW8.below b9) (hW7.below b9)
      have b9 := below_trans b8 b9
      obtain ⟨_, x0, x1, x2⟩ := id hR9
      obtain ⟨_, y0, y1, y2⟩ := id hT9
      go_wp2_with fail
      refine hSm.mono ?_
      rintro e w10 ⟨rfl, b10⟩
      go_wp2_with fail
      go_ret
      exact ⟨ret_bool (by simp), below_trans b9 b10⟩
  have q0 : (e0 == 0) = true := by simpa using h0
  obtain rfl := hs1.out h0
  have hC := hBy1.out h0 w3 b3
  replace h0 := Lib.hid h0
  obtain ⟨_, x0, x1, x2⟩ := id hB3
  go_wp2_with fail
  refine hC.mono ?_
  clear hC x0 x1 x2
  rintro e w4 ⟨rfl, b34⟩
  have b4 := below_trans b3 b34
  clear hB3 b3 b34
  go_wp2_with fail
  refine (hRd.out w4).mono ?_
  rintro e w5 ⟨gv5, nv5, wv5, S5, rfl, hO5, hS5, b5⟩
  obtain ⟨pg, pn, pw⟩ := hO5.parts
  obtain ⟨_, ga5, gcap5, rfl, _⟩ := pg.open
  obtain ⟨_, na5, ncap5, rfl, _⟩ := pn.form
  obtain ⟨_, wa5, wcap5, rfl, _⟩ := pw.form
  clear pg pn pw
  have hR5 := OBox.new w5 40 (.slice ga5 r.2.groups.length gcap5) (.slice na5 r.2.nodes.length ncap5) (.slice wa5 r.2.wires.length wcap5)
  have bx5 := below_a1 w5 (.cells #[.slice ga5 r.2.groups.length gcap5, .slice na5 r.2.nodes.length ncap5, .slice wa5 r.2.wires.length wcap5] 40)
  have hW5 := hO5.world.below bx5
  have b6 := below_trans (below_trans b4 b5) bx5
  go_upto_region 7 with fail
  generalize w5.alloc (.cells #[.slice ga5 r.2.groups.length gcap5, .slice na5 r.2.nodes.length ncap5, .slice wa5 r.2.wires.length wcap5] 40) = w6 at *
  obtain ⟨E, hE⟩ : ∃ E, w5.heap.size = E := ⟨_, rfl⟩
  simp only [hE] at hR5 ⊢
  clear hE hO5 hS5 b5 bx5
  by_cases hl : 4096 < b.size
  · have q1 : decide ((b.size : Int) > 4096) = true := decide_eq_true (by omega)
    obtain rfl := hm.out hl
    replace hl := Lib.hid hl
    go_wp2_with fail
    refine (wireBegun_c w6).mono ?_
    rintro e w7 ⟨rfl, b7⟩
    have hR7 := hR5.keep (b7.block E hR5.lt)
    have hW7 := hW5.below b7
    have b7 := below_trans b6 b7
    obtain ⟨_, x0, x1, x2⟩ := id hR7
    have hSm := SameWorlds_c hW7 (OWd.empty w7 (fun _ => False) false).world
    go_wp2_with fail
    refine hSm.mono ?_
    rintro e w8 ⟨rfl, b8⟩
    go_wp2_with fail
    go_ret
    exact ⟨ret_bool (by simp), below_trans b7 b8⟩
  have q1 : decide ((b.size : Int) > 4096) = false := decide_eq_false (by omega)
  have hf9 := hf.out hl
  rcases Bool.eq_false_or_eq_true pb with hpb | hpb
  all_goals
    subst hpb
    first | simp only [if_true] at hf9 | simp only [Bool.false_eq_true, if_false] at hf9
    obtain rfl := hf9
    replace hl := Lib.hid hl
    dsimp only at hR5 hW5 ⊢
    go_wp2_with fail
    refine (hFr.out w6).mono ?_
    rintro e w7 ⟨gv7, nv7, wv7, S7, rfl, hO7, hS7, b7⟩
    obtain ⟨pg, pn, pw⟩ := hO7.parts
    obtain ⟨_, ga7, gcap7, rfl, _⟩ := pg.open
    obtain ⟨_, na7, ncap7, rfl, _⟩ := pn.form
    obtain ⟨_, wa7, wcap7, rfl, _⟩ := pw.form
    clear pg pn pw
    have hR7 := OBox.new w7 40 (.slice ga7 pX.groups.length gcap7) (.slice na7 pX.nodes.length ncap7) (.slice wa7 pX.wires.length wcap7)
    have bx7 := below_a1 w7 (.cells #[.slice ga7 pX.groups.length gcap7, .slice na7 pX.nodes.length ncap7, .slice wa7 pX.wires.length wcap7] 40)
    have hW7 := hO7.world.below bx7
    have hR8 := (hR5.keep (b7.block E hR5.lt)).keep (bx7.block E (Nat.lt_of_lt_of_le hR5.lt b7.size))
    have hW8 := (hW5.below b7).below bx7
    have b8 := below_trans (below_trans b6 b7) bx7
    go_upto_region 10 with fail
    generalize w7.alloc (.cells #[.slice ga7 pX.groups.length gcap7, .slice na7 pX.nodes.length ncap7, .slice wa7 pX.wires.length wcap7] 40) = w8 at *
    obtain ⟨H, hH⟩ : ∃ H, w7.heap.size = H := ⟨_, rfl⟩
    simp only [hH] at hR7 ⊢
    clear hH hO7 hS7 b7 bx7 hR5 hW5 b6
    go_wp2_with fail
    refine (wireBegun_c w8).mono ?_
    rintro e w9 ⟨rfl, b9⟩
    have hR9 := hR8.keep (b9.block E hR8.lt)
    have hT9 := hR7.keep (b9.block H hR7.lt)
    have hSm := SameWorlds_c (hW8.below b9) (hW7.below b9)
    have b9 := below_trans b8 b9
    obtain ⟨_, x0, x1, x2⟩ := id hR9
    obtain ⟨_, y0, y1, y2⟩ := id hT9
    go_wp2_with fail
    refine hSm.mono ?_
    rintro e w10 ⟨rfl, b10⟩
    go_wp2_with fail
    go_ret
    exact ⟨ret_bool (by simp), below_trans b9 b10⟩
end Go.Proofs.Ytnalakhelicjcaa
