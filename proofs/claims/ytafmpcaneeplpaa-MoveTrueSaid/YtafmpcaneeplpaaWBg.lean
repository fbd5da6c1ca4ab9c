/-
  Worlds: what must be in any case.
-/
import Derived.Test.YtafmpcaneeplpaaKS
import Derived.StillTailTactics
set_option maxRecDepth 100000
namespace Go.Proofs.Ytafmpcaneeplpaa
open Go.RowKit Go.Shelf Go.BigFrame

def aA : Ac := ⟨1, 0, 0, ⟨#[97]⟩⟩
def XA : Wd := doneF (beginX 3 [3, 6]) [aA]
theorem XA_0 : errX XA = 0 := by decide +kernel
theorem X0_0 : errX (beginX 3 [3, 6]) = 0 := by decide +kernel
theorem XA_x : errX (lastSet XA 0 1 0 1) = 1 := by decide +kernel
theorem XA_y : errX (wireSet XA 0 1 (((XA.wires.getD 0 []).getD 1 []).set 0 { ((XA.wires.getD 0 []).getD 1 []).getD 0 M.zero with src := 1 })) = 1 := by decide +kernel
theorem XA_z : errX (wireSet XA 0 2 ((XA.wires.getD 0 []).getD 1 [])) = 1 := by decide +kernel
theorem XA_n : XA.nodes.length = 3 ∧ XA.wires.length = 3 ∧ XA.groups.length = 2 ∧ (XA.nodes.getD 0 N.zero).last.length = 2 ∧ ((XA.nodes.getD 0 N.zero).last.getD 1 []).length = 3 ∧ (XA.wires.getD 0 []).length = 3 ∧ ((XA.wires.getD 0 []).getD 1 []).length = 1 := by decide +kernel
theorem XN_3 : errX Wd.none = 3 := by decide +kernel
theorem bF0 : beginF 3 [3, 6] = (0, beginX 3 [3, 6]) := rfl
theorem bF1 : beginF 3 [] = (2, Wd.none) := rfl

set_option maxHeartbeats 4000000 in
theorem worldBegun_c (w : World) : Calls Try.prog 18 #[] w (GivesB (.bool true) w) := by
  obtain ⟨P, hP⟩ : ∃ P, GivesB (.bool true) w = P := ⟨_, rfl⟩
  rw [hP]
  replace hP := Lib.hid hP
  go_enter Try.func18, Try.ntmps18
  go_wp2_with fail
  refine (two_c _).mono ?_
  rintro e w1 ⟨v1, rfl, i1, b1⟩
  have hB := Begin_c i1 3
  rw [bF0] at hB
  go_wp2_with fail
  refine hB.mono ?_
  rintro e w2 ⟨gv2, nv2, wv2, S2, he, hO2, hS2, b2⟩
  dsimp only at he hO2
  subst he
  clear hB
  obtain ⟨X0, hX0⟩ : ∃ X, beginX 3 [3, 6] = X := ⟨_, rfl⟩
  have hE0 := X0_0
  rw [hX0] at hO2 hE0
  obtain ⟨pg, pn, pw⟩ := hO2.parts
  obtain ⟨_, ga2, gcap2, rfl, _⟩ := pg.open
  obtain ⟨_, na2, ncap2, rfl, _⟩ := pn.form
  obtain ⟨_, wa2, wcap2, rfl, _⟩ := pw.form
  clear pg pn pw
  replace hX0 := Lib.hid hX0
  replace hE0 := Lib.hid hE0
  have hB2 := WBox.new w2 (.slice ga2 X0.groups.length gcap2) (.slice na2 X0.nodes.length ncap2) (.slice wa2 X0.wires.length wcap2) 26
  have b3 := below_trans (below_trans b1 b2) (below_a1 w2 (.cells #[.slice ga2 X0.groups.length gcap2, .slice na2 X0.nodes.length ncap2, .slice wa2 X0.wires.length wcap2] 26))
  have hW2 := hO2.world.below (below_a1 w2 (.cells #[.slice ga2 X0.groups.length gcap2, .slice na2 X0.nodes.length ncap2, .slice wa2 X0.wires.length wcap2] 26))
  clear hO2 hS2
  go_upto_region 2 with fail
  generalize w2.alloc (.cells #[.slice ga2 X0.groups.length gcap2, .slice na2 X0.nodes.length ncap2, .slice wa2 X0.wires.length wcap2] 26) = w3 at *
  obtain ⟨B1, hB1⟩ : ∃ B, w2.heap.size = B := ⟨_, rfl⟩
  simp only [hB1] at hB2 ⊢
  clear hB1 b1 b2 i1
  have hN := Begin_c (Ints.nil w3) 3
  rw [bF1] at hN
  go_wp2_with fail
  refine hN.mono ?_
  rintro e w4 ⟨gv4, nv4, wv4, S4, he, hO4, hS4, b4⟩
  dsimp only at he hO4
  subst he
  clear hN hS4
  obtain ⟨pg, pn, pw⟩ := hO4.parts
  obtain ⟨_, ga4, gcap4, rfl, _⟩ := pg.open
  obtain ⟨_, na4, ncap4, rfl, _⟩ := pn.form
  obtain ⟨_, wa4, wcap4, rfl, _⟩ := pw.form
  clear pg pn pw hO4
  go_upto_region 3 with fail
  have b5 := below_trans b4 (below_a1 w4 (.cells #[.slice ga4 Wd.none.groups.length gcap4, .slice na4 Wd.none.nodes.length ncap4, .slice wa4 Wd.none.wires.length wcap4] 26))
  simp only [Wd.none, List.length_nil] at b5 ⊢
  generalize w4.alloc (.cells #[.slice ga4 0 gcap4, .slice na4 0 ncap4, .slice wa4 0 wcap4] 26) = w5 at *
  obtain ⟨B3, hB3⟩ : ∃ B, w4.heap.size = B := ⟨_, rfl⟩
  simp only [hB3]
  clear hB3 b4
  have b6 := below_trans b3 b5
  have hl2 := cell_lt hB2.1
  dsimp only at hl2
  have hW2 := hW2.below b5
  have hB2 := hB2.below b5 hl2
  clear b3 b5 hl2
  go_wp2_with fail
  refine (act_c _ 1 0 0 ⟨#[97]⟩).mono ?_
  rintro e wa5 ⟨rfl, ba5⟩
  unfold Ac.val
  have hl5 := Acts.lit wa5 [aA] (by simp [Ac.fits, I64, aA]; decide) (by simp) #[.int .i64 1, .int .i64 0, .int .i64 0, .string ⟨#[97]⟩] rfl
  have hBg5 := begin_c hl5 (fun x hx h => by simp at hx; subst hx; cases h)
  rw [show doneF (beginX 3 [3, 6]) [aA] = XA from rfl] at hBg5
  simp only [List.length_cons, List.length_nil, Nat.zero_add] at hBg5
  go_wp2_with fail
  refine hBg5.mono ?_
  rintro e wb5 ⟨gv5, nv5, wv5, S5, rfl, hO5, hS5, hb5⟩
  have hal5 := below_trans (below_trans ba5 (below_a1 _ _)) hb5
  have hlo5 : ∀ c, S5 c → w5.heap.size ≤ c ∧ c < wb5.heap.size := fun c hc => ⟨Nat.le_trans (below_trans ba5 (below_a1 _ _)).size (hS5 c hc).1, (hS5 c hc).2⟩
  obtain ⟨pg, pn, pw⟩ := hO5.parts
  obtain ⟨_, ga5, gcap5, e1, _⟩ := pg.open
  obtain ⟨_, na5, ncap5, e2, _⟩ := pn.form
  obtain ⟨_, xa5, xcap5, e3, _⟩ := pw.form
  clear pg pn pw hBg5 hl5
  rw [XA_n.2.2.1] at e1
  rw [XA_n.1] at e2
  rw [XA_n.2.1] at e3
  subst e1 e2 e3
  have hB5 := WBox.new wb5 (.slice ga5 2 gcap5) (.slice na5 3 ncap5) (.slice xa5 3 xcap5) 26
  have hbB5 := below_a1 wb5 (.cells #[.slice ga5 2 gcap5, .slice na5 3 ncap5, .slice xa5 3 xcap5] 26)
  have hO5 := hO5.keep (w' := wb5.alloc (.cells #[.slice ga5 2 gcap5, .slice na5 3 ncap5, .slice xa5 3 xcap5] 26)) (fun c hc => hbB5.block c (hS5 c hc).2)
  have hsz5 : (wb5.alloc (.cells #[.slice ga5 2 gcap5, .slice na5 3 ncap5, .slice xa5 3 xcap5] 26)).heap.size = wb5.heap.size + 1 := World.size_alloc _ _
  go_upto_region 4 with fail
  generalize wb5.alloc (.cells #[.slice ga5 2 gcap5, .slice na5 3 ncap5, .slice xa5 3 xcap5] 26) = wc5 at *
  have hac5 := below_trans hal5 hbB5
  replace hsz5 := Lib.hid hsz5
  obtain ⟨p05, p15, p25⟩ := id hB5
  obtain ⟨g, cap, g1, cap1, g2, cap2, e1, _, _, gl, k1, c1, _, g1l, k2, c2, g2S, g2l, _, _, g2b, k3, _, hset⟩ := hO5.last_at (n := 0) (r := 1) (k := 0) (by rw [XA_n.1]; omega) (by rw [XA_n.2.2.2.1]; omega) (by rw [XA_n.2.2.2.2.1]; omega)
  rw [XA_n.1] at e1
  cases e1
  simp only [Nat.zero_mul, Nat.zero_add] at k1
  rw [XA_n.2.2.2.1] at k1 c1
  rw [XA_n.2.2.2.2.1] at k2 c2
  have hf := g2b.frozen 0
  have hx := hset wc5 1 (fun _ _ => rfl) (by simp [I64])
  have hg2 := hlo5 g2 g2S
  have hbx := below_setCell (a := ⟨g2, 0, none⟩) hac5 hg2.1 (.int .i64 1)
  have hB5 : WBox (wc5.setCell ⟨g2, 0, none⟩ (.int .i64 1)) wb5.heap.size _ _ _ :=
    ⟨(World.cell?_of_block (w := wc5) (a := ⟨wb5.heap.size, 0, none⟩) (Go.Deep.blk_setCell_other _ _ _ _ (by show wb5.heap.size ≠ g2; omega))).trans hB5.1, (World.cell?_of_block (w := wc5) (a := ⟨wb5.heap.size, 1, none⟩) (Go.Deep.blk_setCell_other _ _ _ _ (by show wb5.heap.size ≠ g2; omega))).trans hB5.2.1, (World.cell?_of_block (w := wc5) (a := ⟨wb5.heap.size, 2, none⟩) (Go.Deep.blk_setCell_other _ _ _ _ (by show wb5.heap.size ≠ g2; omega))).trans hB5.2.2⟩
  replace hset := Lib.hid hset
  replace hbx := Lib.hid hbx
  replace hlo5 := Lib.hid hlo5
  replace hS5 := Lib.hid hS5
  have hg2k := Lib.hid hg2
  clear hg2
  go_upto_region 5 with fail
  have hWx := hx.world
  have bx := hbx.out
  have hl2 := cell_lt hB2.1
  dsimp only at hl2
  have hW2 := hW2.below bx
  have hB2 := hB2.below bx hl2
  have b7 := below_trans b6 bx
  obtain ⟨B5, hB5e⟩ : ∃ B, wb5.heap.size = B := ⟨_, rfl⟩
  simp only [hB5e] at hB5 ⊢
  generalize wc5.setCell ⟨g2, 0, none⟩ (.int .i64 1) = w6 at *
  clear hB5e hx hbx hset hlo5 hS5 hg2k hO5 hac5 hal5 hbB5 hsz5 p05 p15 p25 bx b6 hl2 ba5 hb5 k1 k2 k3 c1 c2 g2S g2l g1l gl g2b hf
  have hl2 := cell_lt hB2.1
  have hl5 := cell_lt hB5.1
  dsimp only at hl2 hl5
  go_wp2_with fail
  refine (act_c _ 1 0 0 ⟨#[97]⟩).mono ?_
  rintro e wa7 ⟨rfl, ba7⟩
  unfold Ac.val
  have hl7 := Acts.lit wa7 [aA] (by simp [Ac.fits, I64, aA]; decide) (by simp) #[.int .i64 1, .int .i64 0, .int .i64 0, .string ⟨#[97]⟩] rfl
  have hBg7 := begin_c hl7 (fun x hx h => by simp at hx; subst hx; cases h)
  rw [show doneF (beginX 3 [3, 6]) [aA] = XA from rfl] at hBg7
  simp only [List.length_cons, List.length_nil, Nat.zero_add] at hBg7
  go_wp2_with fail
  refine hBg7.mono ?_
  rintro e wb7 ⟨gv7, nv7, wv7, S7, rfl, hO7, hS7, hb7⟩
  have hal7 := below_trans (below_trans ba7 (below_a1 _ _)) hb7
  have hlo7 : ∀ c, S7 c → w6.heap.size ≤ c ∧ c < wb7.heap.size := fun c hc => ⟨Nat.le_trans (below_trans ba7 (below_a1 _ _)).size (hS7 c hc).1, (hS7 c hc).2⟩
  obtain ⟨pg, pn, pw⟩ := hO7.parts
  obtain ⟨_, ga7, gcap7, e1, _⟩ := pg.open
  obtain ⟨_, na7, ncap7, e2, _⟩ := pn.form
  obtain ⟨_, xa7, xcap7, e3, _⟩ := pw.form
  clear pg pn pw hBg7 hl7
  rw [XA_n.2.2.1] at e1
  rw [XA_n.1] at e2
  rw [XA_n.2.1] at e3
  subst e1 e2 e3
  have hB7 := WBox.new wb7 (.slice ga7 2 gcap7) (.slice na7 3 ncap7) (.slice xa7 3 xcap7) 26
  have hbB7 := below_a1 wb7 (.cells #[.slice ga7 2 gcap7, .slice na7 3 ncap7, .slice xa7 3 xcap7] 26)
  have hO7 := hO7.keep (w' := wb7.alloc (.cells #[.slice ga7 2 gcap7, .slice na7 3 ncap7, .slice xa7 3 xcap7] 26)) (fun c hc => hbB7.block c (hS7 c hc).2)
  have hsz7 : (wb7.alloc (.cells #[.slice ga7 2 gcap7, .slice na7 3 ncap7, .slice xa7 3 xcap7] 26)).heap.size = wb7.heap.size + 1 := World.size_alloc _ _
  go_upto_region 6 with fail
  generalize wb7.alloc (.cells #[.slice ga7 2 gcap7, .slice na7 3 ncap7, .slice xa7 3 xcap7] 26) = wc7 at *
  have hac7 := below_trans hal7 hbB7
  replace hsz7 := Lib.hid hsz7
  obtain ⟨p07, p17, p27⟩ := id hB7
  have hw1 : (XA.wires.getD 0 []).length = 3 := XA_n.2.2.2.2.2.1
  have hw2 : ((XA.wires.getD 0 []).getD 1 []).length = 1 := XA_n.2.2.2.2.2.2
  obtain ⟨g1, cap1, g2, cap2, g3, off, cap3, e1, _, k1, c1, k2, c2, g3S, g3b, k3, hset⟩ := hO7.src_at (a := 0) (k := 1) (t := 0) (by rw [XA_n.2.1]; omega) (by rw [hw1]; omega) (by rw [hw2]; omega)
  rw [XA_n.2.1] at e1
  cases e1
  rw [hw1] at k1 c1
  rw [hw2] at k2 c2
  simp only [Nat.zero_mul, Nat.add_zero] at k3 hset
  have hf := g3b.frozen off
  have hx := hset wc7 1 (fun _ _ => rfl) (by simp [I64])
  have hg2 := hlo7 g3 g3S
  have hbx := below_setCell (a := ⟨g3, off, none⟩) hac7 hg2.1 (.int .i64 1)
  have hB7 : WBox (wc7.setCell ⟨g3, off, none⟩ (.int .i64 1)) wb7.heap.size _ _ _ :=
    ⟨(World.cell?_of_block (w := wc7) (a := ⟨wb7.heap.size, 0, none⟩) (Go.Deep.blk_setCell_other _ _ _ _ (by show wb7.heap.size ≠ g3; omega))).trans hB7.1, (World.cell?_of_block (w := wc7) (a := ⟨wb7.heap.size, 1, none⟩) (Go.Deep.blk_setCell_other _ _ _ _ (by show wb7.heap.size ≠ g3; omega))).trans hB7.2.1, (World.cell?_of_block (w := wc7) (a := ⟨wb7.heap.size, 2, none⟩) (Go.Deep.blk_setCell_other _ _ _ _ (by show wb7.heap.size ≠ g3; omega))).trans hB7.2.2⟩
  replace hset := Lib.hid hset
  replace hbx := Lib.hid hbx
  replace hlo7 := Lib.hid hlo7
  replace hS7 := Lib.hid hS7
  have hg2k := Lib.hid hg2
  clear hg2 hw1 hw2
  go_upto_region 7 with fail
  have hWy := hx.world
  have bx := hbx.out
  have hW2 := hW2.below bx
  have hB2 := hB2.below bx hl2
  have hWx := hWx.below bx
  have hB5 := hB5.below bx hl5
  have b8 := below_trans b7 bx
  obtain ⟨B7, hB7e⟩ : ∃ B, wb7.heap.size = B := ⟨_, rfl⟩
  simp only [hB7e] at hB7 ⊢
  generalize wc7.setCell ⟨g3, off, none⟩ (.int .i64 1) = w8 at *
  clear hB7e hx hbx hset hlo7 hS7 hg2k hO7 hac7 hal7 hbB7 hsz7 p07 p17 p27 bx b7 hl2 hl5 ba7 hb7 k1 k2 k3 c1 c2 g3S g3b hf
  have hl2 := cell_lt hB2.1
  have hl5 := cell_lt hB5.1
  have hl7 := cell_lt hB7.1
  dsimp only at hl2 hl5 hl7
  go_wp2_with fail
  refine (act_c _ 1 0 0 ⟨#[97]⟩).mono ?_
  rintro e wa9 ⟨rfl, ba9⟩
  unfold Ac.val
  have hl9 := Acts.lit wa9 [aA] (by simp [Ac.fits, I64, aA]; decide) (by simp) #[.int .i64 1, .int .i64 0, .int .i64 0, .string ⟨#[97]⟩] rfl
  have hBg9 := begin_c hl9 (fun x hx h => by simp at hx; subst hx; cases h)
  rw [show doneF (beginX 3 [3, 6]) [aA] = XA from rfl] at hBg9
  simp only [List.length_cons, List.length_nil, Nat.zero_add] at hBg9
  go_wp2_with fail
  refine hBg9.mono ?_
  rintro e wb9 ⟨gv9, nv9, wv9, S9, rfl, hO9, hS9, hb9⟩
  have hal9 := below_trans (below_trans ba9 (below_a1 _ _)) hb9
  have hlo9 : ∀ c, S9 c → w8.heap.size ≤ c ∧ c < wb9.heap.size := fun c hc => ⟨Nat.le_trans (below_trans ba9 (below_a1 _ _)).size (hS9 c hc).1, (hS9 c hc).2⟩
  obtain ⟨pg, pn, pw⟩ := hO9.parts
  obtain ⟨_, ga9, gcap9, e1, _⟩ := pg.open
  obtain ⟨_, na9, ncap9, e2, _⟩ := pn.form
  obtain ⟨_, xa9, xcap9, e3, _⟩ := pw.form
  clear pg pn pw hBg9 hl9
  rw [XA_n.2.2.1] at e1
  rw [XA_n.1] at e2
  rw [XA_n.2.1] at e3
  subst e1 e2 e3
  have hB9 := WBox.new wb9 (.slice ga9 2 gcap9) (.slice na9 3 ncap9) (.slice xa9 3 xcap9) 26
  have hbB9 := below_a1 wb9 (.cells #[.slice ga9 2 gcap9, .slice na9 3 ncap9, .slice xa9 3 xcap9] 26)
  have hO9 := hO9.keep (w' := wb9.alloc (.cells #[.slice ga9 2 gcap9, .slice na9 3 ncap9, .slice xa9 3 xcap9] 26)) (fun c hc => hbB9.block c (hS9 c hc).2)
  have hsz9 : (wb9.alloc (.cells #[.slice ga9 2 gcap9, .slice na9 3 ncap9, .slice xa9 3 xcap9] 26)).heap.size = wb9.heap.size + 1 := World.size_alloc _ _
  go_upto_region 8 with fail
  generalize wb9.alloc (.cells #[.slice ga9 2 gcap9, .slice na9 3 ncap9, .slice xa9 3 xcap9] 26) = wc9 at *
  have hac9 := below_trans hal9 hbB9
  replace hsz9 := Lib.hid hsz9
  obtain ⟨p09, p19, p29⟩ := id hB9
  have hw1 : (XA.wires.getD 0 []).length = 3 := XA_n.2.2.2.2.2.1
  have hw2 : ((XA.wires.getD 0 []).getD 1 []).length = 1 := XA_n.2.2.2.2.2.2
  obtain ⟨g1, cap1, g2, cap2, u, u0, e1, _, k1, c1, g2S, g2b, k2, k3, hu, hset⟩ := hO9.wire_over (a := 0) (j := 1) (k := 2) (by rw [XA_n.2.1]; omega) (by rw [hw1]; omega) (by rw [hw1]; omega)
  rw [XA_n.2.1] at e1
  cases e1
  rw [hw1] at k1 c1
  obtain ⟨_, ua, ucap, rfl, _⟩ := hu.open
  rw [hw2] at k2
  have hf := g2b.frozen 2
  have hx := hset wc9 (fun _ _ => rfl)
  rw [hw2] at hx
  have hg2 := hlo9 g2 g2S
  have hbx := below_setCell (a := ⟨g2, 2, none⟩) hac9 hg2.1 (.slice ua 1 ucap)
  have hB9 : WBox (wc9.setCell ⟨g2, 2, none⟩ (.slice ua 1 ucap)) wb9.heap.size _ _ _ :=
    ⟨(World.cell?_of_block (w := wc9) (a := ⟨wb9.heap.size, 0, none⟩) (Go.Deep.blk_setCell_other _ _ _ _ (by show wb9.heap.size ≠ g2; omega))).trans hB9.1, (World.cell?_of_block (w := wc9) (a := ⟨wb9.heap.size, 1, none⟩) (Go.Deep.blk_setCell_other _ _ _ _ (by show wb9.heap.size ≠ g2; omega))).trans hB9.2.1, (World.cell?_of_block (w := wc9) (a := ⟨wb9.heap.size, 2, none⟩) (Go.Deep.blk_setCell_other _ _ _ _ (by show wb9.heap.size ≠ g2; omega))).trans hB9.2.2⟩
  replace hset := Lib.hid hset
  replace hbx := Lib.hid hbx
  replace hlo9 := Lib.hid hlo9
  replace hS9 := Lib.hid hS9
  have hg2k := Lib.hid hg2
  clear hg2 hw1 hw2 hu
  go_still_tail 11, (by kernel_rfl)
  go_upto_region 9 with fail
  have bx := below_drew hbx.out
  have hW2 := hW2.below bx
  have hB2 := hB2.below bx hl2
  have hWx := hWx.below bx
  have hB5 := hB5.below bx hl5
  have hWy := hWy.below bx
  have hB7 := hB7.below bx hl7
  have hWz := hx.below (below_drewN _ 1)
  have hB9 : WBox ((wc9.setCell ⟨g2, 2, none⟩ (.slice ua 1 ucap)).drew) wb9.heap.size _ _ _ := hB9
  have b10 := below_trans b8 bx
  change WorldAt ((wc9.setCell ⟨g2, 2, none⟩ (.slice ua 1 ucap)).drew) _ _ at hWz
  obtain ⟨B9, hB9e⟩ : ∃ B, wb9.heap.size = B := ⟨_, rfl⟩
  simp only [hB9e] at hB9 ⊢
  have hez : errX (wireSet XA 0 2 ((XA.wires.getD 0 []).getD 1 [])) = 1 := XA_z
  generalize (wc9.setCell ⟨g2, 2, none⟩ (.slice ua 1 ucap)).drew = wz at *
  clear hB9e hx hbx hset hlo9 hS9 hg2k hO9 hac9 hal9 hbB9 hsz9 p09 p19 p29 bx b8 hl2 hl5 hl7 ba9 hb9 k1 k2 k3 c1 g2S g2b hf
  have hl2 := cell_lt hB2.1
  have hl5 := cell_lt hB5.1
  have hl7 := cell_lt hB7.1
  have hl9 := cell_lt hB9.1
  dsimp only at hl2 hl5 hl7 hl9
  have hSB : ∀ w', Below wz.heap.size wz w' → w'.cell? ⟨B1, 0, none⟩ = some (.slice ga2 X0.groups.length gcap2) ∧ w'.cell? ⟨B1, 1, none⟩ = some (.slice na2 X0.nodes.length ncap2) ∧ w'.cell? ⟨B1, 2, none⟩ = some (.slice wa2 X0.wires.length wcap2) := fun w' h => hB2.below h hl2
  replace hSB := Lib.hid hSB
  have hbd : Below wz.heap.size wz wz.drew := below_drew (Below.refl _ wz)
  replace hbd := Lib.hid hbd
  have hK2 := fun o (h : Below wz.heap.size wz o) => WCheck_c (hW2.below h)
  rw [hE0.out] at hK2
  replace hK2 := Lib.hid hK2
  replace hez := Lib.hid hez
  refine wp_region_N (fun w' => w'.cell? ⟨B1, 0, none⟩ = some (.slice ga2 X0.groups.length gcap2) ∧ w'.cell? ⟨B1, 1, none⟩ = some (.slice na2 X0.nodes.length ncap2) ∧ w'.cell? ⟨B1, 2, none⟩ = some (.slice wa2 X0.wires.length wcap2)) 15 45 rfl (by kernel_rfl) (hSB.out _ hbd.out) (fun hSw => ?_)
  refine N_take' (i := 0) (v := ?_) rfl rfl (by kernel_rfl) (fun _ _ _ h => h) (Or.inl ⟨by rfl, ?_⟩) hSw ?_
  rotate_left
  · intro w hSw
    obtain ⟨hsw1, hsw2, hsw3⟩ := hSw
    go_simp
    try with_reducible rfl
  simp only [Act.put, List.setIfInBounds_toArray, List.set_cons_zero, List.set_cons_succ]
  refine N_take' (i := 1) (v := ?_) rfl rfl (by kernel_rfl) (fun _ _ _ h => h) (Or.inl ⟨by rfl, ?_⟩) hSw ?_
  rotate_left
  · intro w hSw
    obtain ⟨hsw1, hsw2, hsw3⟩ := hSw
    go_simp
    try with_reducible rfl
  simp only [Act.put, List.setIfInBounds_toArray, List.set_cons_zero, List.set_cons_succ]
  refine N_take' (i := 2) (v := ?_) rfl rfl (by kernel_rfl) (fun _ _ _ h => h) (Or.inl ⟨by rfl, ?_⟩) hSw ?_
  rotate_left
  · intro w hSw
    obtain ⟨hsw1, hsw2, hsw3⟩ := hSw
    go_simp
    try with_reducible rfl
  simp only [Act.put, List.setIfInBounds_toArray, List.set_cons_zero, List.set_cons_succ]
  refine N_take' (i := 3) (v := ?_) rfl rfl (by kernel_rfl) (fun _ _ _ h => h) (Or.inl ⟨by rfl, ?_⟩) hSw ?_
  rotate_left
  · intro w hSw
    obtain ⟨hsw1, hsw2, hsw3⟩ := hSw
    go_simp
    try with_reducible rfl
  simp only [Act.put, List.setIfInBounds_toArray, List.set_cons_zero, List.set_cons_succ]
  refine N_take' (i := 4) (v := ?_) rfl rfl (by kernel_rfl) (fun _ _ _ h => h) (Or.inl ⟨by rfl, ?_⟩) hSw ?_
  rotate_left
  · intro w hSw
    obtain ⟨hsw1, hsw2, hsw3⟩ := hSw
    go_simp
    try with_reducible rfl
  simp only [Act.put, List.setIfInBounds_toArray, List.set_cons_zero, List.set_cons_succ]
  refine N_take' (i := 5) (v := ?_) rfl rfl (by kernel_rfl) (fun _ _ _ h => h) (Or.inl ⟨by rfl, ?_⟩) hSw ?_
  rotate_left
  · intro w hSw
    obtain ⟨hsw1, hsw2, hsw3⟩ := hSw
    go_simp
    try with_reducible rfl
  simp only [Act.put, List.setIfInBounds_toArray, List.set_cons_zero, List.set_cons_succ]
  refine N_take' (i := 6) (v := ?_) rfl rfl (by kernel_rfl) (fun _ _ _ h => h) (Or.inl ⟨by rfl, ?_⟩) hSw ?_
  rotate_left
  · intro w hSw
    obtain ⟨hsw1, hsw2, hsw3⟩ := hSw
    go_simp
    try with_reducible rfl
  simp only [Act.put, List.setIfInBounds_toArray, List.set_cons_zero, List.set_cons_succ]
  refine N_take' (i := 7) (v := ?_) rfl rfl (by kernel_rfl) (fun _ _ _ h => h) (Or.inl ⟨by rfl, ?_⟩) hSw ?_
  rotate_left
  · intro w hSw
    obtain ⟨hsw1, hsw2, hsw3⟩ := hSw
    go_simp
    try with_reducible rfl
  simp only [Act.put, List.setIfInBounds_toArray, List.set_cons_zero, List.set_cons_succ]
  refine N_one' (i := 8) (by kernel_rfl) rfl ?_
  go_wp2_with fail
  refine (hK2.out _ hbd.out).mono ?_
  rintro e w11 ⟨rfl, b11⟩
  replace b11 := below_trans hbd.out b11
  have hSw2 := hSB.out w11 b11
  go_wp2_with fail
  refine QK_normal ⟨?_, ?_⟩
  · first | exact fun _ => hSw2 | exact hSw2
  refine N_take' (i := 9) (v := ?_) rfl rfl (by kernel_rfl) (fun _ _ _ h => h) (Or.inl ⟨by rfl, ?_⟩) hSw2 ?_
  rotate_left
  · intro w hSw
    obtain ⟨hsw1, hsw2, hsw3⟩ := hSw
    go_simp
    try with_reducible rfl
  simp only [Act.put, List.setIfInBounds_toArray, List.set_cons_zero, List.set_cons_succ]
  refine N_take' (i := 10) (v := ?_) rfl rfl (by kernel_rfl) (fun _ _ _ h => h) (Or.inl ⟨by rfl, ?_⟩) hSw2 ?_
  rotate_left
  · intro w hSw
    obtain ⟨hsw1, hsw2, hsw3⟩ := hSw
    go_simp
    try with_reducible rfl
  simp only [Act.put, List.setIfInBounds_toArray, List.set_cons_zero, List.set_cons_succ]
  refine N_take' (i := 11) (v := ?_) rfl rfl (by kernel_rfl) (fun _ _ _ h => h) (Or.inl ⟨by rfl, ?_⟩) hSw2 ?_
  rotate_left
  · intro w hSw
    obtain ⟨hsw1, hsw2, hsw3⟩ := hSw
    go_simp
    try with_reducible rfl
  simp only [Act.put, List.setIfInBounds_toArray, List.set_cons_zero, List.set_cons_succ]
  refine N_take' (i := 12) (v := ?_) rfl rfl (by kernel_rfl) (fun _ _ _ h => h) (Or.inl ⟨by rfl, ?_⟩) hSw2 ?_
  rotate_left
  · intro w hSw
    obtain ⟨hsw1, hsw2, hsw3⟩ := hSw
    go_simp
    try with_reducible rfl
  simp only [Act.put, List.setIfInBounds_toArray, List.set_cons_zero, List.set_cons_succ]
  refine N_one' (i := 13) (by kernel_rfl) rfl ?_
  go_wp2_with fail
  refine (two_c _).mono ?_
  rintro e w12 ⟨v12, rfl, i12, b12⟩
  replace b12 := below_trans b11 b12
  have hSw3 := hSB.out w12 b12
  go_wp2_with fail
  refine QK_normal ⟨?_, ?_⟩
  · first | exact fun _ => hSw3 | exact hSw3
  refine N_one' (i := 14) (by kernel_rfl) rfl ?_
  have hBg := BeginOf_c i12 (n := 3) (by omega) (by simp)
  rw [hX0.out] at hBg
  go_wp2_with fail
  refine hBg.mono ?_
  rintro e w13 ⟨gv13, nv13, wv13, S13, rfl, hO13, _, b13⟩
  have hW13 := hO13.world
  clear hO13 hBg
  replace b13 := below_trans b12 b13
  have hSw4 := hSB.out w13 b13
  go_wp2_with fail
  refine QK_normal ⟨?_, ?_⟩
  · first | exact fun _ => hSw4 | exact hSw4
  refine N_rest 15 30 (Nat.le_refl _) rfl (by kernel_rfl) ?_
  simp only [List.drop_succ_cons, List.drop_zero]
  have hSa := SameWorlds_c (hW2.below b13) hW13
  clear hSw hSw2 hSw3 hSw4
  go_wp2_with fail
  refine hSa.mono ?_
  rintro e w14 ⟨rfl, b14⟩
  replace b14 := below_trans b13 b14
  clear hSa hW13
  go_wp2_with fail
  refine (act_c _ 1 0 0 ⟨#[97]⟩).mono ?_
  rintro e w15 ⟨rfl, b15⟩
  unfold Ac.val
  have hli := Acts.lit w15 [aA] (by simp [Ac.fits, I64, aA]; decide) (by simp) #[.int .i64 1, .int .i64 0, .int .i64 0, .string ⟨#[97]⟩] rfl
  have hBgn := begin_c hli (fun x hx h => by simp at hx; subst hx; cases h)
  rw [show doneF (beginX 3 [3, 6]) [aA] = XA from rfl] at hBgn
  simp only [List.length_cons, List.length_nil, Nat.zero_add] at hBgn
  go_wp2_with fail
  refine hBgn.mono ?_
  rintro e w16 ⟨gv16, nv16, wv16, S16, rfl, hO16, _, b16⟩
  replace b16 := below_trans (below_trans (below_trans b14 b15) (below_a1 _ _)) b16
  have hC := WCheck_c hO16.world
  rw [XA_0] at hC
  clear hBgn hli hO16
  go_wp2_with fail
  refine hC.mono ?_
  rintro e w17 ⟨rfl, b17⟩
  replace b17 := below_trans b16 b17
  clear hC
  obtain ⟨q0, q1, q2⟩ := hB5.below b17 hl5
  have hC := WCheck_c (hWx.below b17)
  rw [XA_x] at hC
  go_wp2_with fail
  refine hC.mono ?_
  rintro e w18 ⟨rfl, b18⟩
  replace b18 := below_trans b17 b18
  clear hC q0 q1 q2
  obtain ⟨q0, q1, q2⟩ := hB7.below b18 hl7
  have hC := WCheck_c (hWy.below b18)
  rw [XA_y] at hC
  go_wp2_with fail
  refine hC.mono ?_
  rintro e w19 ⟨rfl, b19⟩
  replace b19 := below_trans b18 b19
  clear hC q0 q1 q2
  obtain ⟨q0, q1, q2⟩ := hB9.below b19 hl9
  have hC := WCheck_c (hWz.below b19)
  rw [hez.out] at hC
  go_wp2_with fail
  refine hC.mono ?_
  rintro e w20 ⟨rfl, b20⟩
  replace b20 := below_trans b19 b20
  clear hC q0 q1 q2
  have hC := WCheck_c (OWd.empty w20 (fun _ => False) true).world
  rw [XN_3] at hC
  go_wp2_with fail
  refine hC.mono ?_
  rintro e w21 ⟨rfl, b21⟩
  replace b21 := below_trans (below_trans b10 b20) b21
  go_wp2_with fail
  rw [← hP.out]
  exact ⟨rfl, b21⟩
end Go.Proofs.Ytafmpcaneeplpaa
