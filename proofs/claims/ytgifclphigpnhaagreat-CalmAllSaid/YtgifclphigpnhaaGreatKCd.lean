/-
  Calm: what must be in any case.
-/
import Derived.Test.YtgifclphigpnhaaGreatKCb
import Derived.Test.YtgifclphigpnhaaGreatKCc
import Derived.Test.YtgifclphigpnhaaGreatKS
set_option maxRecDepth 100000
namespace Go.Proofs.YtgifclphigpnhaaGreat
open Go.RowKit Go.Shelf Go.BigFrame

def aC21 : Ac := ⟨1, 2, 1, ⟨#[98]⟩⟩
def mB1 : M := ⟨2, 1, 1, false, ⟨#[98]⟩⟩
def XD0 : Wd := doneF (beginX 3 [3, 6]) [aA, aC21]
def XD1 : Wd := (drainF XD0).2.2
def XD2 : Wd := (roundF XD1).2.2
def XD3 : Wd := (calmF XD0).2
theorem XD_1 : (drainF XD0).1 = 0 ∧ (drainF XD0).2.1 = 2 := by decide +kernel
theorem XD_2 : (roundF XD1).1 = 0 ∧ (roundF XD1).2.1 = 4 := by decide +kernel
theorem XD_3 : (calmF XD0).1 = 0 := by decide +kernel
theorem XD2_n : XD2.nodes.length = 3 := by decide +kernel
theorem XD3_n : XD3.nodes.length = 3 := by decide +kernel
theorem XD3_1 : (XD3.nodes.getD 1 N.zero).held = [] ∧ (XD3.nodes.getD 1 N.zero).told = [mA1, mB1] := ⟨by kernel_rfl, by kernel_rfl⟩
theorem XD3_2 : (XD3.nodes.getD 2 N.zero).told = [mB1] := by kernel_rfl

set_option maxHeartbeats 4000000 in
theorem calmBegun_c (w : World) : Calls Tryz.prog 17 #[] w (GivesB (.bool true) w) := by
  obtain ⟨P, hP⟩ : ∃ P, GivesB (.bool true) w = P := ⟨_, rfl⟩
  rw [hP]
  replace hP := Lib.hid hP
  go_enter Tryz.func17, Tryz.ntmps17
  go_wp2_with fail
  refine (act_c _ 1 0 0 ⟨#[97]⟩).mono ?_
  rintro e va1 ⟨rfl, ba1⟩
  go_wp2_with fail
  refine (act_c _ 1 2 1 ⟨#[98]⟩).mono ?_
  rintro e va2 ⟨rfl, ba2⟩
  unfold Ac.val
  have hl := Acts.lit va2 [aA, aC21] (by simp [Ac.fits, I64, aA, aC21]; decide) (by simp) #[.int .i64 1, .int .i64 0, .int .i64 0, .string ⟨#[97]⟩, .int .i64 1, .int .i64 2, .int .i64 1, .string ⟨#[98]⟩] rfl
  have hBg := begin_c hl (fun x hx h => by simp at hx; rcases hx with rfl | rfl <;> cases h)
  rw [show doneF (beginX 3 [3, 6]) [aA, aC21] = XD0 from rfl] at hBg
  simp only [List.length_cons, List.length_nil, Nat.zero_add, Nat.reduceAdd] at hBg
  have ba := below_trans (below_trans ba1 ba2) (below_a1 va2 (.cells #[.int .i64 1, .int .i64 0, .int .i64 0, .string ⟨#[97]⟩, .int .i64 1, .int .i64 2, .int .i64 1, .string ⟨#[98]⟩] 36))
  go_wp2_with fail
  refine hBg.mono ?_
  rintro e w1 ⟨gv1, nv1, wv1, S1, rfl, hO1, hS1, b1⟩
  obtain ⟨pg, pn, pw⟩ := hO1.parts
  obtain ⟨_, ga1, gcap1, rfl, _⟩ := pg.open
  obtain ⟨_, na1, ncap1, rfl, _⟩ := pn.form
  obtain ⟨_, wa1, wcap1, rfl, _⟩ := pw.form
  clear pg pn pw
  have hR1 := OBox.new w1 26 (.slice ga1 XD0.groups.length gcap1) (.slice na1 XD0.nodes.length ncap1) (.slice wa1 XD0.wires.length wcap1)
  have bx1 := below_a1 w1 (.cells #[.slice ga1 XD0.groups.length gcap1, .slice na1 XD0.nodes.length ncap1, .slice wa1 XD0.wires.length wcap1] 26)
  have hW1 := hO1.world.below bx1
  have b2 := below_trans (below_trans ba b1) bx1
  clear hBg hl ba ba1 ba2 hO1 hS1 b1 bx1
  go_upto_region 2 with fail
  obtain ⟨B1, hB1⟩ : ∃ B, w1.heap.size = B := ⟨_, rfl⟩
  simp only [hB1] at hR1 ⊢
  generalize w1.alloc (.cells #[.slice ga1 XD0.groups.length gcap1, .slice na1 XD0.nodes.length ncap1, .slice wa1 XD0.wires.length wcap1] 26) = w2 at *
  clear hB1
  obtain ⟨_, x0, x1, x2⟩ := id hR1
  go_wp2_with fail
  refine (Drain_c hW1).mono ?_
  rintro e w3 ⟨gv3, nv3, wv3, S3, rfl, hO3, hS3, b3⟩
  obtain ⟨pg, pn, pw⟩ := hO3.parts
  obtain ⟨_, ga3, gcap3, rfl, _⟩ := pg.open
  obtain ⟨_, na3, ncap3, rfl, _⟩ := pn.form
  obtain ⟨_, wa3, wcap3, rfl, _⟩ := pw.form
  clear pg pn pw
  rw [XD_1.1, XD_1.2]
  rw [show (drainF XD0).2.2 = XD1 from rfl] at hO3 ⊢
  have hR3 := OBox.new w3 26 (.slice ga3 XD1.groups.length gcap3) (.slice na3 XD1.nodes.length ncap3) (.slice wa3 XD1.wires.length wcap3)
  have bx3 := below_a1 w3 (.cells #[.slice ga3 XD1.groups.length gcap3, .slice na3 XD1.nodes.length ncap3, .slice wa3 XD1.wires.length wcap3] 26)
  have hW3 := hO3.world.below bx3
  clear x0 x1 x2
  have b4 := below_trans b3 bx3
  clear hO3 hS3 b3 bx3
  go_upto_region 3 with fail
  obtain ⟨B3, hB3⟩ : ∃ B, w3.heap.size = B := ⟨_, rfl⟩
  simp only [hB3] at hR3 ⊢
  generalize w3.alloc (.cells #[.slice ga3 XD1.groups.length gcap3, .slice na3 XD1.nodes.length ncap3, .slice wa3 XD1.wires.length wcap3] 26) = w4 at *
  clear hB3
  have hR1 := hR1.keep (b4.block _ hR1.lt)
  have hW1 := hW1.below b4
  have b4 := below_trans b2 b4
  clear b2
  obtain ⟨_, x0, x1, x2⟩ := id hR3
  go_wp2_with fail
  refine (Round_c hW3).mono ?_
  rintro e w5 ⟨gv5, nv5, wv5, S5, rfl, hO5, hS5, b5⟩
  obtain ⟨pg, pn, pw⟩ := hO5.parts
  obtain ⟨_, ga5, gcap5, rfl, _⟩ := pg.open
  obtain ⟨_, na5, ncap5, rfl, _⟩ := pn.form
  obtain ⟨_, wa5, wcap5, rfl, _⟩ := pw.form
  clear pg pn pw
  rw [XD_2.1, XD_2.2]
  rw [show (roundF XD1).2.2 = XD2 from rfl] at hO5 ⊢
  rw [XD2_n]
  have hR5 := OBox.new w5 26 (.slice ga5 XD2.groups.length gcap5) (.slice na5 3 ncap5) (.slice wa5 XD2.wires.length wcap5)
  have b6 := below_trans b5 (below_a1 w5 (.cells #[.slice ga5 XD2.groups.length gcap5, .slice na5 3 ncap5, .slice wa5 XD2.wires.length wcap5] 26))
  clear x0 x1 x2 hO5 hS5 b5 hR3 hW3
  go_upto_region 4 with fail
  obtain ⟨B5, hB5⟩ : ∃ B, w5.heap.size = B := ⟨_, rfl⟩
  simp only [hB5] at hR5 ⊢
  generalize w5.alloc (.cells #[.slice ga5 XD2.groups.length gcap5, .slice na5 3 ncap5, .slice wa5 XD2.wires.length wcap5] 26) = w6 at *
  clear hB5
  have hR1 := hR1.keep (b6.block _ hR1.lt)
  have hW1 := hW1.below b6
  have b6 := below_trans b4 b6
  clear b4
  obtain ⟨_, x0, x1, x2⟩ := id hR1
  go_wp2_with fail
  refine (Calm_c hW1).mono ?_
  rintro e w7 ⟨gv7, nv7, wv7, S7, rfl, hO7, hS7, b7⟩
  obtain ⟨pg, pn, pw⟩ := hO7.parts
  obtain ⟨_, ga7, gcap7, rfl, _⟩ := pg.open
  obtain ⟨_, na7, ncap7, rfl, _⟩ := pn.form
  obtain ⟨_, wa7, wcap7, rfl, _⟩ := pw.form
  clear pg pn pw
  rw [XD_3]
  rw [show (calmF XD0).2 = XD3 from rfl] at hO7 ⊢
  have hW7 := hO7.world
  rw [XD3_n] at hW7 ⊢
  have hR7 := OBox.new w7 26 (.slice ga7 XD3.groups.length gcap7) (.slice na7 3 ncap7) (.slice wa7 XD3.wires.length wcap7)
  have bx := below_a1 w7 (.cells #[.slice ga7 XD3.groups.length gcap7, .slice na7 3 ncap7, .slice wa7 XD3.wires.length wcap7] 26)
  have b8 := below_trans b7 bx
  have hR5 := hR5.keep (b8.block _ hR5.lt)
  have b8 := below_trans b6 b8
  have hW7 := hW7.below bx
  clear x0 x1 x2 hO7 hS7 b7 bx b6 hR1 hW1
  obtain ⟨_, y0, y1, y2⟩ := hR5
  obtain ⟨_, z0, z1, z2⟩ := hR7
  obtain ⟨_, _, _, e0, _, pn, _⟩ := hW7
  cases e0
  obtain ⟨bn, on, cn, lv, hv, tv, e1, hcn, kn0, kn1, kn2, kn3, _, hln, hhn, htn⟩ := pn.at (n := 1) (by rw [XD3_n]; omega)
  rw [XD3_n] at e1
  cases e1
  obtain ⟨_, _, _, lv2, hv2, tv2, e1, _, jn0, jn1, jn2, jn3, _, _, _, htn2⟩ := pn.at (n := 2) (by rw [XD3_n]; omega)
  rw [XD3_n] at e1
  cases e1
  rw [XD3_1.1] at hhn
  rw [XD3_1.2] at htn
  rw [XD3_2] at htn2
  obtain ⟨_, ha, hcap, rfl, _⟩ := hhn.open
  obtain ⟨_, ta, tcap, rfl, htc, _⟩ := htn.open
  obtain ⟨_, ta2, tcap2, rfl, htc2, _⟩ := htn2.open
  simp only [List.length_cons, List.length_nil, Nat.zero_add, Nat.reduceAdd, Nat.one_mul, Nat.reduceMul] at kn0 kn1 kn2 kn3 jn0 jn1 jn2 jn3 htc htc2 htn htn2
  clear pn hln hhn kn0 kn1 jn0 jn1 jn2
  go_upto_region 5 with fail
  obtain ⟨B7, hB7⟩ : ∃ B, w7.heap.size = B := ⟨_, rfl⟩
  simp only [hB7] at z0 z1 z2 ⊢
  generalize w7.alloc (.cells #[.slice ga7 XD3.groups.length gcap7, .slice (some ⟨bn, on, none⟩) 3 ncap7, .slice wa7 XD3.wires.length wcap7] 26) = w8 at *
  clear hB7 z0 z2 y0 y2
  have hSB : ∀ W, Below w8.heap.size w8 W → W.cell? ⟨B5, 1, none⟩ = some (.slice na5 3 ncap5) ∧ W.cell? ⟨B7, 1, none⟩ = some (.slice (some ⟨bn, on, none⟩) 3 ncap7) ∧ W.cell? ⟨bn, on + 4 + 2, none⟩ = some (.slice ha 0 hcap) ∧ W.cell? ⟨bn, on + 4 + 3, none⟩ = some (.slice ta 2 tcap) ∧ W.cell? ⟨bn, on + 8 + 3, none⟩ = some (.slice ta2 1 tcap2) :=
    fun W h => ⟨(h.cell (p := ⟨B5, 1, none⟩) (cell_lt y1)).trans y1, (h.cell (p := ⟨B7, 1, none⟩) (cell_lt z1)).trans z1, (h.cell (p := ⟨bn, on + 4 + 2, none⟩) (cell_lt kn2)).trans kn2, (h.cell (p := ⟨bn, on + 4 + 3, none⟩) (cell_lt kn3)).trans kn3, (h.cell (p := ⟨bn, on + 8 + 3, none⟩) (cell_lt jn3)).trans jn3⟩
  clear y1 z1 kn2 kn3 jn3
  refine wp_region_N (fun w' => w'.cell? ⟨B5, 1, none⟩ = some (.slice na5 3 ncap5) ∧ w'.cell? ⟨B7, 1, none⟩ = some (.slice (some ⟨bn, on, none⟩) 3 ncap7) ∧ w'.cell? ⟨bn, on + 4 + 2, none⟩ = some (.slice ha 0 hcap) ∧ w'.cell? ⟨bn, on + 4 + 3, none⟩ = some (.slice ta 2 tcap) ∧ w'.cell? ⟨bn, on + 8 + 3, none⟩ = some (.slice ta2 1 tcap2)) 67 70 rfl (by kernel_rfl) (hSB _ (below_drewN w8 1)) (fun hSw => ?_)
  refine tk 0 ?_ rfl rfl (by kernel_rfl) (.inl ⟨by rfl, ?_⟩) hSw ?_
  rotate_left
  · rintro w ⟨s0, s1, s2, s3, s4⟩; go_simp; try with_reducible rfl
  simp only [tkp, tkz, tks]
  refine tk 1 ?_ rfl rfl (by kernel_rfl) (.inl ⟨by rfl, ?_⟩) hSw ?_
  rotate_left
  · rintro w ⟨s0, s1, s2, s3, s4⟩; go_simp; try with_reducible rfl
  simp only [tkp, tkz, tks]
  refine tk 2 ?_ rfl rfl (by kernel_rfl) (.inl ⟨by rfl, ?_⟩) hSw ?_
  rotate_left
  · rintro w ⟨s0, s1, s2, s3, s4⟩; go_simp; try with_reducible rfl
  simp only [tkp, tkz, tks]
  refine tk 3 ?_ rfl rfl (by kernel_rfl) (.inl ⟨by rfl, ?_⟩) hSw ?_
  rotate_left
  · rintro w ⟨s0, s1, s2, s3, s4⟩; go_simp; try with_reducible rfl
  simp only [tkp, tkz, tks]
  refine tk 4 ?_ rfl rfl (by kernel_rfl) (.inl ⟨by rfl, ?_⟩) hSw ?_
  rotate_left
  · rintro w ⟨s0, s1, s2, s3, s4⟩; go_simp; try with_reducible rfl
  simp only [tkp, tkz, tks]
  refine tk 5 ?_ rfl rfl (by kernel_rfl) (.inl ⟨by rfl, ?_⟩) hSw ?_
  rotate_left
  · rintro w ⟨s0, s1, s2, s3, s4⟩; go_simp; try with_reducible rfl
  simp only [tkp, tkz, tks]
  refine tk 6 ?_ rfl rfl (by kernel_rfl) (.inl ⟨by rfl, ?_⟩) hSw ?_
  rotate_left
  · rintro w ⟨s0, s1, s2, s3, s4⟩; go_simp; try with_reducible rfl
  simp only [tkp, tkz, tks]
  refine tk 7 ?_ rfl rfl (by kernel_rfl) (.inl ⟨by rfl, ?_⟩) hSw ?_
  rotate_left
  · rintro w ⟨s0, s1, s2, s3, s4⟩; go_simp; try with_reducible rfl
  simp only [tkp, tkz, tks]
  refine tk 8 ?_ rfl rfl (by kernel_rfl) (.inl ⟨by rfl, ?_⟩) hSw ?_
  rotate_left
  · rintro w ⟨s0, s1, s2, s3, s4⟩; go_simp; try with_reducible rfl
  simp only [tkp, tkz, tks]
  refine tk 9 ?_ rfl rfl (by kernel_rfl) (.inl ⟨by rfl, ?_⟩) hSw ?_
  rotate_left
  · rintro w ⟨s0, s1, s2, s3, s4⟩; go_simp; try with_reducible rfl
  simp only [tkp, tkz, tks]
  refine tk 10 ?_ rfl rfl (by kernel_rfl) (.inl ⟨by rfl, ?_⟩) hSw ?_
  rotate_left
  · rintro w ⟨s0, s1, s2, s3, s4⟩; go_simp; try with_reducible rfl
  simp only [tkp, tkz, tks]
  refine tk 11 ?_ rfl rfl (by kernel_rfl) (.inl ⟨by rfl, ?_⟩) hSw ?_
  rotate_left
  · rintro w ⟨s0, s1, s2, s3, s4⟩; go_simp; try with_reducible rfl
  simp only [tkp, tkz, tks]
  refine tk 12 ?_ rfl rfl (by kernel_rfl) (.inl ⟨by rfl, ?_⟩) hSw ?_
  rotate_left
  · rintro w ⟨s0, s1, s2, s3, s4⟩; go_simp; try with_reducible rfl
  simp only [tkp, tkz, tks]
  refine tk 13 ?_ rfl rfl (by kernel_rfl) (.inl ⟨by rfl, ?_⟩) hSw ?_
  rotate_left
  · rintro w ⟨s0, s1, s2, s3, s4⟩; go_simp; try with_reducible rfl
  simp only [tkp, tkz, tks]
  refine tk 14 ?_ rfl rfl (by kernel_rfl) (.inl ⟨by rfl, ?_⟩) hSw ?_
  rotate_left
  · rintro w ⟨s0, s1, s2, s3, s4⟩; go_simp; try with_reducible rfl
  simp only [tkp, tkz, tks]
  refine tk 15 ?_ rfl rfl (by kernel_rfl) (.inl ⟨by rfl, ?_⟩) hSw ?_
  rotate_left
  · rintro w ⟨s0, s1, s2, s3, s4⟩; go_simp; try with_reducible rfl
  simp only [tkp, tkz, tks]
  refine tk 16 ?_ rfl rfl (by kernel_rfl) (.inl ⟨by rfl, ?_⟩) hSw ?_
  rotate_left
  · rintro w ⟨s0, s1, s2, s3, s4⟩; go_simp; try with_reducible rfl
  simp only [tkp, tkz, tks]
  refine tk 17 ?_ rfl rfl (by kernel_rfl) (.inl ⟨by rfl, ?_⟩) hSw ?_
  rotate_left
  · rintro w ⟨s0, s1, s2, s3, s4⟩; go_simp; try with_reducible rfl
  simp only [tkp, tkz, tks]
  refine tk 18 ?_ rfl rfl (by kernel_rfl) (.inl ⟨by rfl, ?_⟩) hSw ?_
  rotate_left
  · rintro w ⟨s0, s1, s2, s3, s4⟩; go_simp; try with_reducible rfl
  simp only [tkp, tkz, tks]
  refine tk 19 ?_ rfl rfl (by kernel_rfl) (.inl ⟨by rfl, ?_⟩) hSw ?_
  rotate_left
  · rintro w ⟨s0, s1, s2, s3, s4⟩; go_simp; try with_reducible rfl
  simp only [tkp, tkz, tks]
  refine tk 20 ?_ rfl rfl (by kernel_rfl) (.inl ⟨by rfl, ?_⟩) hSw ?_
  rotate_left
  · rintro w ⟨s0, s1, s2, s3, s4⟩; go_simp; try with_reducible rfl
  simp only [tkp, tkz, tks]
  refine tk 21 ?_ rfl rfl (by kernel_rfl) (.inl ⟨by rfl, ?_⟩) hSw ?_
  rotate_left
  · rintro w ⟨s0, s1, s2, s3, s4⟩; go_simp; try with_reducible rfl
  simp only [tkp, tkz, tks]
  refine tk 22 ?_ rfl rfl (by kernel_rfl) (.inl ⟨by rfl, ?_⟩) hSw ?_
  rotate_left
  · rintro w ⟨s0, s1, s2, s3, s4⟩; go_simp; try with_reducible rfl
  simp only [tkp, tkz, tks]
  refine tk 23 ?_ rfl rfl (by kernel_rfl) (.inl ⟨by rfl, ?_⟩) hSw ?_
  rotate_left
  · rintro w ⟨s0, s1, s2, s3, s4⟩; go_simp; try with_reducible rfl
  simp only [tkp, tkz, tks]
  refine tk 24 ?_ rfl rfl (by kernel_rfl) (.inl ⟨by rfl, ?_⟩) hSw ?_
  rotate_left
  · rintro w ⟨s0, s1, s2, s3, s4⟩; go_simp; try with_reducible rfl
  simp only [tkp, tkz, tks]
  refine tk 25 ?_ rfl rfl (by kernel_rfl) (.inl ⟨by rfl, ?_⟩) hSw ?_
  rotate_left
  · rintro w ⟨s0, s1, s2, s3, s4⟩; go_simp; try with_reducible rfl
  simp only [tkp, tkz, tks]
  refine tk 26 ?_ rfl rfl (by kernel_rfl) (.inl ⟨by rfl, ?_⟩) hSw ?_
  rotate_left
  · rintro w ⟨s0, s1, s2, s3, s4⟩; go_simp; try with_reducible rfl
  simp only [tkp, tkz, tks]
  refine tk 27 ?_ rfl rfl (by kernel_rfl) (.inl ⟨by rfl, ?_⟩) hSw ?_
  rotate_left
  · rintro w ⟨s0, s1, s2, s3, s4⟩; go_simp; try with_reducible rfl
  simp only [tkp, tkz, tks]
  refine tk 28 ?_ rfl rfl (by kernel_rfl) (.inl ⟨by rfl, ?_⟩) hSw ?_
  rotate_left
  · rintro w ⟨s0, s1, s2, s3, s4⟩; go_simp; try with_reducible rfl
  simp only [tkp, tkz, tks]
  refine tk 29 ?_ rfl rfl (by kernel_rfl) (.inl ⟨by rfl, ?_⟩) hSw ?_
  rotate_left
  · rintro w ⟨s0, s1, s2, s3, s4⟩; go_simp; try with_reducible rfl
  simp only [tkp, tkz, tks]
  refine tk 30 ?_ rfl rfl (by kernel_rfl) (.inl ⟨by rfl, ?_⟩) hSw ?_
  rotate_left
  · rintro w ⟨s0, s1, s2, s3, s4⟩; go_simp; try with_reducible rfl
  simp only [tkp, tkz, tks]
  refine tk 31 ?_ rfl rfl (by kernel_rfl) (.inl ⟨by rfl, ?_⟩) hSw ?_
  rotate_left
  · rintro w ⟨s0, s1, s2, s3, s4⟩; go_simp; try with_reducible rfl
  simp only [tkp, tkz, tks]
  refine tk 32 ?_ rfl rfl (by kernel_rfl) (.inl ⟨by rfl, ?_⟩) hSw ?_
  rotate_left
  · rintro w ⟨s0, s1, s2, s3, s4⟩; go_simp; try with_reducible rfl
  simp only [tkp, tkz, tks]
  refine tk 33 ?_ rfl rfl (by kernel_rfl) (.inl ⟨by rfl, ?_⟩) hSw ?_
  rotate_left
  · rintro w ⟨s0, s1, s2, s3, s4⟩; go_simp; try with_reducible rfl
  simp only [tkp, tkz, tks]
  refine tk 34 ?_ rfl rfl (by kernel_rfl) (.inl ⟨by rfl, ?_⟩) hSw ?_
  rotate_left
  · rintro w ⟨s0, s1, s2, s3, s4⟩; go_simp; try with_reducible rfl
  simp only [tkp, tkz, tks]
  refine tk 35 ?_ rfl rfl (by kernel_rfl) (.inl ⟨by rfl, ?_⟩) hSw ?_
  rotate_left
  · rintro w ⟨s0, s1, s2, s3, s4⟩; go_simp; try with_reducible rfl
  simp only [tkp, tkz, tks]
  refine tk 36 ?_ rfl rfl (by kernel_rfl) (.inl ⟨by rfl, ?_⟩) hSw ?_
  rotate_left
  · rintro w ⟨s0, s1, s2, s3, s4⟩; go_simp; try with_reducible rfl
  simp only [tkp, tkz, tks]
  refine tk 37 ?_ rfl rfl (by kernel_rfl) (.inl ⟨by rfl, ?_⟩) hSw ?_
  rotate_left
  · rintro w ⟨s0, s1, s2, s3, s4⟩; go_simp; try with_reducible rfl
  simp only [tkp, tkz, tks]
  refine tk 38 ?_ rfl rfl (by kernel_rfl) (.inl ⟨by rfl, ?_⟩) hSw ?_
  rotate_left
  · rintro w ⟨s0, s1, s2, s3, s4⟩; go_simp; try with_reducible rfl
  simp only [tkp, tkz, tks]
  refine tk 39 ?_ rfl rfl (by kernel_rfl) (.inl ⟨by rfl, ?_⟩) hSw ?_
  rotate_left
  · rintro w ⟨s0, s1, s2, s3, s4⟩; go_simp; try with_reducible rfl
  simp only [tkp, tkz, tks]
  refine tk 40 ?_ rfl rfl (by kernel_rfl) (.inl ⟨by rfl, ?_⟩) hSw ?_
  rotate_left
  · rintro w ⟨s0, s1, s2, s3, s4⟩; go_simp; try with_reducible rfl
  simp only [tkp, tkz, tks]
  refine tk 41 ?_ rfl rfl (by kernel_rfl) (.inl ⟨by rfl, ?_⟩) hSw ?_
  rotate_left
  · rintro w ⟨s0, s1, s2, s3, s4⟩; go_simp; try with_reducible rfl
  simp only [tkp, tkz, tks]
  refine tk 42 ?_ rfl rfl (by kernel_rfl) (.inl ⟨by rfl, ?_⟩) hSw ?_
  rotate_left
  · rintro w ⟨s0, s1, s2, s3, s4⟩; go_simp; try with_reducible rfl
  simp only [tkp, tkz, tks]
  refine tk 43 ?_ rfl rfl (by kernel_rfl) (.inl ⟨by rfl, ?_⟩) hSw ?_
  rotate_left
  · rintro w ⟨s0, s1, s2, s3, s4⟩; go_simp; try with_reducible rfl
  simp only [tkp, tkz, tks]
  refine tk 44 ?_ rfl rfl (by kernel_rfl) (.inl ⟨by rfl, ?_⟩) hSw ?_
  rotate_left
  · rintro w ⟨s0, s1, s2, s3, s4⟩; go_simp; try with_reducible rfl
  simp only [tkp, tkz, tks]
  refine tk 45 ?_ rfl rfl (by kernel_rfl) (.inl ⟨by rfl, ?_⟩) hSw ?_
  rotate_left
  · rintro w ⟨s0, s1, s2, s3, s4⟩; go_simp; try with_reducible rfl
  simp only [tkp, tkz, tks]
  refine tk 46 ?_ rfl rfl (by kernel_rfl) (.inl ⟨by rfl, ?_⟩) hSw ?_
  rotate_left
  · rintro w ⟨s0, s1, s2, s3, s4⟩; go_simp; try with_reducible rfl
  simp only [tkp, tkz, tks]
  refine tk 47 ?_ rfl rfl (by kernel_rfl) (.inl ⟨by rfl, ?_⟩) hSw ?_
  rotate_left
  · rintro w ⟨s0, s1, s2, s3, s4⟩; go_simp; try with_reducible rfl
  simp only [tkp, tkz, tks]
  refine tk 48 ?_ rfl rfl (by kernel_rfl) (.inl ⟨by rfl, ?_⟩) hSw ?_
  rotate_left
  · rintro w ⟨s0, s1, s2, s3, s4⟩; go_simp; try with_reducible rfl
  simp only [tkp, tkz, tks]
  refine tk 49 ?_ rfl rfl (by kernel_rfl) (.inl ⟨by rfl, ?_⟩) hSw ?_
  rotate_left
  · rintro w ⟨s0, s1, s2, s3, s4⟩; go_simp; try with_reducible rfl
  simp only [tkp, tkz, tks]
  refine tk 50 ?_ rfl rfl (by kernel_rfl) (.inl ⟨by rfl, ?_⟩) hSw ?_
  rotate_left
  · rintro w ⟨s0, s1, s2, s3, s4⟩; go_simp; try with_reducible rfl
  simp only [tkp, tkz, tks]
  refine tk 51 ?_ rfl rfl (by kernel_rfl) (.inl ⟨by rfl, ?_⟩) hSw ?_
  rotate_left
  · rintro w ⟨s0, s1, s2, s3, s4⟩; go_simp; try with_reducible rfl
  simp only [tkp, tkz, tks]
  refine tk 52 ?_ rfl rfl (by kernel_rfl) (.inl ⟨by rfl, ?_⟩) hSw ?_
  rotate_left
  · rintro w ⟨s0, s1, s2, s3, s4⟩; go_simp; try with_reducible rfl
  simp only [tkp, tkz, tks]
  refine tk 53 ?_ rfl rfl (by kernel_rfl) (.inl ⟨by rfl, ?_⟩) hSw ?_
  rotate_left
  · rintro w ⟨s0, s1, s2, s3, s4⟩; go_simp; try with_reducible rfl
  simp only [tkp, tkz, tks]
  refine N_one' (i := 54) (by kernel_rfl) rfl ?_
  go_wp2_with fail
  refine (say_c _ 0 0 1 ⟨#[97]⟩).mono ?_
  rintro e w9 ⟨rfl, b9⟩
  have b9 := below_trans (below_drewN w8 1) b9
  go_wp2_with fail
  refine QK_normal ⟨?_, ?_⟩
  · first | exact fun _ => hSB _ b9 | exact hSB _ b9
  refine N_one' (i := 55) (by kernel_rfl) rfl ?_
  go_wp2_with fail
  refine (say_c _ 2 1 1 ⟨#[98]⟩).mono ?_
  rintro e w10 ⟨rfl, b10⟩
  have b10 := below_trans b9 b10
  go_wp2_with fail
  refine QK_normal ⟨?_, ?_⟩
  · first | exact fun _ => hSB _ b10 | exact hSB _ b10
  refine N_one' (i := 56) (by kernel_rfl) rfl ?_
  unfold M.val
  go_wp2_with fail
  refine QK_normal ⟨?_, ?_⟩
  · first | exact fun _ => hSB _ (below_trans b10 (below_a1 _ _)) | exact hSB _ (below_trans b10 (below_a1 _ _))
  have hM11 := Msgs.lit w10 [mA1, mB1] (by simp [M.fits, I64, mA1, mB1]; decide) (by simp) #[.int .i64 0, .int .i64 0, .int .i64 1, .bool false, .string ⟨#[97]⟩, .int .i64 2, .int .i64 1, .int .i64 1, .bool false, .string ⟨#[98]⟩] rfl
  have b11 := below_trans b10 (below_a1 w10 (.cells #[.int .i64 0, .int .i64 0, .int .i64 1, .bool false, .string ⟨#[97]⟩, .int .i64 2, .int .i64 1, .int .i64 1, .bool false, .string ⟨#[98]⟩] 56))
  simp only [List.length_cons, List.length_nil, Nat.zero_add, Nat.reduceAdd] at hM11
  generalize w10.alloc (.cells #[.int .i64 0, .int .i64 0, .int .i64 1, .bool false, .string ⟨#[97]⟩, .int .i64 2, .int .i64 1, .int .i64 1, .bool false, .string ⟨#[98]⟩] 56) = w11 at *
  have hC := SameMsgs_c (htn.below b11) hM11
  rw [show sameMs [mA1, mB1] [mA1, mB1] = true from sameMs_iff.2 rfl] at hC
  refine N_one' (i := 57) (by kernel_rfl) rfl ?_
  go_wp2_with fail
  refine hC.mono ?_
  rintro e w12 ⟨rfl, d12⟩
  have b12 := below_trans b11 d12.below
  clear hC d12 b9 b10 b11 hM11
  go_wp2_with fail
  have hSw12 := hSB _ b12
  refine QK_normal ⟨?_, ?_⟩
  · first | exact fun _ => hSw12 | exact hSw12
  refine tk 58 ?_ rfl rfl (by kernel_rfl) (.inl ⟨by rfl, ?_⟩) hSw12 ?_
  rotate_left
  · rintro w ⟨s0, s1, s2, s3, s4⟩; go_simp; try with_reducible rfl
  simp only [tkp, tkz, tks]
  refine tk 59 ?_ rfl rfl (by kernel_rfl) (.inl ⟨by rfl, ?_⟩) hSw12 ?_
  rotate_left
  · rintro w ⟨s0, s1, s2, s3, s4⟩; go_simp; try with_reducible rfl
  simp only [tkp, tkz, tks]
  refine tk 60 ?_ rfl rfl (by kernel_rfl) (.inl ⟨by rfl, ?_⟩) hSw12 ?_
  rotate_left
  · rintro w ⟨s0, s1, s2, s3, s4⟩; go_simp; try with_reducible rfl
  simp only [tkp, tkz, tks]
  refine tk 61 ?_ rfl rfl (by kernel_rfl) (.inl ⟨by rfl, ?_⟩) hSw12 ?_
  rotate_left
  · rintro w ⟨s0, s1, s2, s3, s4⟩; go_simp; try with_reducible rfl
  simp only [tkp, tkz, tks]
  refine tk 62 ?_ rfl rfl (by kernel_rfl) (.inl ⟨by rfl, ?_⟩) hSw12 ?_
  rotate_left
  · rintro w ⟨s0, s1, s2, s3, s4⟩; go_simp; try with_reducible rfl
  simp only [tkp, tkz, tks]
  refine tk 63 ?_ rfl rfl (by kernel_rfl) (.inl ⟨by rfl, ?_⟩) hSw12 ?_
  rotate_left
  · rintro w ⟨s0, s1, s2, s3, s4⟩; go_simp; try with_reducible rfl
  simp only [tkp, tkz, tks]
  refine tk 64 ?_ rfl rfl (by kernel_rfl) (.inl ⟨by rfl, ?_⟩) hSw12 ?_
  rotate_left
  · rintro w ⟨s0, s1, s2, s3, s4⟩; go_simp; try with_reducible rfl
  simp only [tkp, tkz, tks]
  refine N_one' (i := 65) (by kernel_rfl) rfl ?_
  go_wp2_with fail
  refine (say_c _ 2 1 1 ⟨#[98]⟩).mono ?_
  rintro e w13 ⟨rfl, b13⟩
  have b13 := below_trans b12 b13
  go_wp2_with fail
  refine QK_normal ⟨?_, ?_⟩
  · first | exact fun _ => hSB _ b13 | exact hSB _ b13
  refine N_one' (i := 66) (by kernel_rfl) rfl ?_
  unfold M.val
  go_wp2_with fail
  refine QK_normal ⟨?_, ?_⟩
  · first | exact fun _ => hSB _ (below_trans b13 (below_a1 _ _)) | exact hSB _ (below_trans b13 (below_a1 _ _))
  have hM14 := Msgs.lit w13 [mB1] (by simp [M.fits, I64, mB1]; decide) (by simp) #[.int .i64 2, .int .i64 1, .int .i64 1, .bool false, .string ⟨#[98]⟩] rfl
  have b14 := below_trans b13 (below_a1 w13 (.cells #[.int .i64 2, .int .i64 1, .int .i64 1, .bool false, .string ⟨#[98]⟩] 56))
  simp only [List.length_cons, List.length_nil, Nat.zero_add] at hM14
  generalize w13.alloc (.cells #[.int .i64 2, .int .i64 1, .int .i64 1, .bool false, .string ⟨#[98]⟩] 56) = w14 at *
  have hC := SameMsgs_c (htn2.below b14) hM14
  rw [show sameMs [mB1] [mB1] = true from sameMs_iff.2 rfl] at hC
  refine N_rest 67 3 (by omega) rfl (by kernel_rfl) ?_
  simp only [List.append_eq, List.cons_append, List.nil_append, List.drop_succ_cons, List.drop_zero]
  go_wp2_with fail
  refine hC.mono ?_
  rintro e w15 ⟨rfl, d15⟩
  have b15 := below_trans b14 d15.below
  clear hSB hSw hSw12 hC hM14
  go_wp2_with fail
  rw [← hP.out]
  exact ⟨rfl, below_trans b8 b15⟩
end Go.Proofs.YtgifclphigpnhaaGreat
