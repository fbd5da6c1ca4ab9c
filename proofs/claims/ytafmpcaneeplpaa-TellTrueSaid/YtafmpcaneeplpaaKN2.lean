/-
  Tell: what must be in any case.
  TellTells: Node answers just what the document says.
-/
import Derived.Test.YtafmpcaneeplpaaKB2
import Derived.Test.YtafmpcaneeplpaaKN
set_option maxRecDepth 100000
namespace Go.Proofs.Ytafmpcaneeplpaa
open Go.RowKit Go.Shelf Go.BigFrame

def XT1 : Wd := (tellF XQ2 1).2.2
theorem XT_1 : (tellF XQ2 1).1 = 0 ∧ (tellF XQ2 1).2.1 = 1 := by decide +kernel
theorem XT_2 : (tellF XT1 1).1 = 0 ∧ (tellF XT1 1).2.1 = 0 := by decide +kernel
theorem XT_3 : (tellF XQ2 3).1 = 4 ∧ (tellF XQ2 3).2.1 = 0 := by decide +kernel
theorem XT_n : XT1.nodes.length = 3 ∧ (XT1.nodes.getD 1 N.zero).held.length = 1 ∧ (XT1.nodes.getD 1 N.zero).told.length = 1 := by decide +kernel

set_option maxHeartbeats 4000000 in
theorem tellBegun_c (w : World) : Calls Try.prog 31 #[] w (GivesB (.bool true) w) := by
  obtain ⟨P, hP⟩ : ∃ P, GivesB (.bool true) w = P := ⟨_, rfl⟩
  rw [hP]
  replace hP := Lib.hid hP
  go_enter Try.func31, Try.ntmps31
  go_wp2_with fail
  refine (act_c _ 1 0 0 ⟨#[97]⟩).mono ?_
  rintro e wa1 ⟨rfl, ba1⟩
  go_wp2_with fail
  refine (act_c _ 2 2 1 ⟨#[]⟩).mono ?_
  rintro e wa2 ⟨rfl, ba2⟩
  go_wp2_with fail
  refine (act_c _ 3 2 1 ⟨#[]⟩).mono ?_
  rintro e wa3 ⟨rfl, ba3⟩
  unfold Ac.val
  have ba := below_trans ba1 (below_trans ba2 ba3)
  clear ba1 ba2 ba3
  have hl := Acts.lit wa3 [aA, aN21, aM21] (by simp [Ac.fits, I64, aA, aM21, aN21]; decide) (by simp) #[.int .i64 1, .int .i64 0, .int .i64 0, .string ⟨#[97]⟩, .int .i64 2, .int .i64 2, .int .i64 1, .string ⟨#[]⟩, .int .i64 3, .int .i64 2, .int .i64 1, .string ⟨#[]⟩] rfl
  have hBg := begin_c hl (fun x hx h => by simp at hx; rcases hx with rfl | rfl | rfl <;> cases h)
  rw [show doneF (beginX 3 [3, 6]) [aA, aN21, aM21] = XQ from rfl] at hBg
  simp only [List.length_cons, List.length_nil, Nat.zero_add, Nat.reduceAdd] at hBg
  go_wp2_with fail
  refine hBg.mono ?_
  rintro e w5 ⟨gv5, nv5, wv5, S5, rfl, hO5, hS5, hb5⟩
  have b5 := below_trans (below_trans ba (below_a1 _ _)) hb5
  have hlo5 : ∀ c, S5 c → w.heap.size ≤ c ∧ c < w5.heap.size := fun c hc => ⟨Nat.le_trans (below_trans ba (below_a1 wa3 _)).size (hS5 c hc).1, (hS5 c hc).2⟩
  obtain ⟨pg, pn, pw⟩ := hO5.parts
  obtain ⟨_, ga5, gcap5, e1, _⟩ := pg.open
  obtain ⟨_, na5, ncap5, e2, _⟩ := pn.form
  obtain ⟨_, wa5, wcap5, e3, _⟩ := pw.form
  rw [XQ_n.2.2.1] at e1
  rw [XQ_n.1] at e2
  rw [XQ_n.2.1] at e3
  subst e1 e2 e3
  clear pg pn pw hBg hl ba hb5 hS5
  have hR7 := OBox.new w5 26 (.slice ga5 2 gcap5) (.slice na5 3 ncap5) (.slice wa5 3 wcap5)
  have ba1 := below_a1 w5 (.cells #[.slice ga5 2 gcap5, .slice na5 3 ncap5, .slice wa5 3 wcap5] 26)
  have hs7 : (w5.alloc (.cells #[.slice ga5 2 gcap5, .slice na5 3 ncap5, .slice wa5 3 wcap5] 26)).heap.size = w5.heap.size + 1 := World.size_alloc _ _
  go_upto_region 2 with fail
  generalize w5.alloc (.cells #[.slice ga5 2 gcap5, .slice na5 3 ncap5, .slice wa5 3 wcap5] 26) = w7 at *
  have hO7 := hO5.keep (fun c hc => ba1.block c (hlo5 c hc).2)
  have b7 := below_trans b5 ba1
  have hlo7 : ∀ c, S5 c → (w.heap.size ≤ c ∧ c < w7.heap.size) ∧ c ≠ w5.heap.size := fun c hc => by have := hlo5 c hc; omega
  have hwB : w.heap.size ≤ w5.heap.size := b5.size
  clear hO5 hlo5 b5 ba1
  obtain ⟨B, hB⟩ : ∃ B, w5.heap.size = B := ⟨_, rfl⟩
  simp only [hB] at hR7 hlo7 hwB hs7 ⊢
  clear hB
  obtain ⟨g, cap, g1, cap1, g2, cap2, e1, _, _, gl, k1, c1, _, g1l, k2, c2, g2S, g2l, _, _, g2b, k3, _, hset⟩ := hO7.last_at (n := 1) (r := 0) (k := 0) (by rw [XQ_n.1]; omega) (by rw [XQ_n.2.2.2.1]; omega) (by rw [XQ_n.2.2.2.2]; omega)
  rw [XQ_n.1] at e1
  cases e1
  simp only [Nat.one_mul, Nat.reduceAdd] at k1
  rw [XQ_n.2.2.2.1] at k1 c1
  rw [XQ_n.2.2.2.2] at k2 c2
  have hf := g2b.frozen 0
  have hx : OWd false (w7.setCell ⟨g2, 0, none⟩ (.int .i64 1)) S5 _ _ _ XQ1 := (hset w7 1 (fun _ _ => rfl) (by simp [I64])).any
  have hg2 := hlo7 g2 g2S
  have b8 := below_setCell (a := ⟨g2, 0, none⟩) b7 (by show w.heap.size ≤ g2; omega) (.int .i64 1)
  have hR8 := hR7.keep (w' := w7.setCell ⟨g2, 0, none⟩ (.int .i64 1)) (Go.Deep.blk_setCell_other _ _ _ _ (by show B ≠ g2; omega))
  have hsz8 : (w7.setCell ⟨g2, 0, none⟩ (.int .i64 1)).heap.size = w7.heap.size := Go.Deep.nblk_setCell _ _ _
  obtain ⟨_, r0, r1, r2⟩ := id hR7
  replace hset := Lib.hid hset
  replace hlo7 := Lib.hid hlo7
  replace hg2 := Lib.hid hg2
  replace b8 := Lib.hid b8
  replace hsz8 := Lib.hid hsz8
  replace hs7 := Lib.hid hs7
  go_upto_region 3 with fail
  have b8 := b8.out
  have hsz8 := hsz8.out
  generalize w7.setCell ⟨g2, 0, none⟩ (.int .i64 1) = w10 at *
  rw [← hsz8] at hlo7
  have hlo10 := hlo7.out
  have hR10 := hR8
  have hO10 := hx
  have b10 := b8
  clear hset r0 r1 r2 hR7 hO7 b7 hsz8 hg2 k1 k2 k3 c1 c2 g2S g2l g1l gl g2b hf hlo7 hR8 hx b8 hs7
  obtain ⟨g', cap', u0, e1, hcp, gS, gB, ku, hov⟩ := hO10.held_over (n := 1) (by show 1 < XQ1.nodes.length; rw [XQ1_n.1]; omega)
  rw [XQ1_n.1] at e1 hcp
  cases e1
  simp only [Nat.one_mul, Nat.reduceAdd] at ku hov
  have hg := hlo10 g gS
  obtain ⟨_, r0, r1, r2⟩ := id hR10
  have hBl := hR10.lt
  have hSB : ∀ W, Below w10.heap.size w10 W → W.cell? ⟨B, 0, none⟩ = some (.slice ga5 2 gcap5) ∧ W.cell? ⟨B, 1, none⟩ = some (.slice (some ⟨g, 0, none⟩) 3 ncap5) :=
    fun W h => ⟨(h.cell (p := ⟨B, 0, none⟩) hBl).trans r0, (h.cell (p := ⟨B, 1, none⟩) hBl).trans r1⟩
  replace hov := Lib.hid hov
  replace hlo10 := Lib.hid hlo10
  clear r0 r2
  refine wp_region_N (fun w' => w'.cell? ⟨B, 0, none⟩ = some (.slice ga5 2 gcap5) ∧ w'.cell? ⟨B, 1, none⟩ = some (.slice (some ⟨g, 0, none⟩) 3 ncap5)) 5 8 rfl (by kernel_rfl) (hSB _ (below_drewN w10 1)) (fun hSw => ?_)
  refine N_take' (i := 0) (v := ?_) rfl rfl (by kernel_rfl) (fun _ _ _ h => h) (Or.inl ⟨by rfl, ?_⟩) hSw ?_
  rotate_left
  · intro w hSw
    obtain ⟨s0, s1⟩ := hSw
    go_simp
    try with_reducible rfl
  simp only [Act.put, List.setIfInBounds_toArray, List.set_cons_zero, List.set_cons_succ]
  refine N_take' (i := 1) (v := ?_) rfl rfl (by kernel_rfl) (fun _ _ _ h => h) (Or.inl ⟨by rfl, ?_⟩) hSw ?_
  rotate_left
  · intro w hSw
    obtain ⟨s0, s1⟩ := hSw
    go_simp
    try with_reducible rfl
  simp only [Act.put, List.setIfInBounds_toArray, List.set_cons_zero, List.set_cons_succ]
  refine N_one' (i := 2) (by kernel_rfl) rfl ?_
  go_wp2_with fail
  refine (say_c _ 0 0 1 ⟨#[97]⟩).mono ?_
  rintro e w11 ⟨rfl, b11⟩
  have b11 := below_trans (below_drewN w10 1) b11
  go_wp2_with fail
  refine QK_normal ⟨?_, ?_⟩
  · first | exact fun _ => hSB _ b11 | exact hSB _ b11
  refine N_one' (i := 3) (by kernel_rfl) rfl ?_
  go_wp2_with fail
  refine (say_c _ 0 0 2 ⟨#[98]⟩).mono ?_
  rintro e w12 ⟨rfl, b12⟩
  have b12 := below_trans b11 b12
  go_wp2_with fail
  refine QK_normal ⟨?_, ?_⟩
  · first | exact fun _ => hSB _ b12 | exact hSB _ b12
  refine N_one' (i := 4) (by kernel_rfl) rfl ?_
  unfold M.val
  go_wp2_with fail
  refine QK_normal ⟨?_, ?_⟩
  · first | exact fun _ => hSB _ (below_trans b12 (below_a1 _ _)) | exact hSB _ (below_trans b12 (below_a1 _ _))
  have hM13 := Msgs.lit w12 [mA1, mB2] (by simp [M.fits, I64, mA1, mB2]; decide) (by simp) #[.int .i64 0, .int .i64 0, .int .i64 1, .bool false, .string ⟨#[97]⟩, .int .i64 0, .int .i64 0, .int .i64 2, .bool false, .string ⟨#[98]⟩] rfl
  have b13 := below_trans b12 (below_a1 w12 (.cells #[.int .i64 0, .int .i64 0, .int .i64 1, .bool false, .string ⟨#[97]⟩, .int .i64 0, .int .i64 0, .int .i64 2, .bool false, .string ⟨#[98]⟩] 48))
  have hgN : w12.heap.size ≠ g := by have := b12.size; omega
  simp only [List.length_cons, List.length_nil, Nat.zero_add, Nat.reduceAdd] at hM13
  refine N_rest 5 3 (Nat.le_refl _) rfl (by kernel_rfl) ?_
  simp only [List.drop_succ_cons, List.drop_zero]
  generalize w12.alloc (.cells #[.int .i64 0, .int .i64 0, .int .i64 1, .bool false, .string ⟨#[97]⟩, .int .i64 0, .int .i64 0, .int .i64 2, .bool false, .string ⟨#[98]⟩] 48) = w13 at *
  obtain ⟨C, hC⟩ : ∃ C, w12.heap.size = C := ⟨_, rfl⟩
  simp only [hC] at hM13 hgN ⊢
  have ku := (b13.cell (p := ⟨g, 6, none⟩) hg.1.2).trans ku
  have hf := (gB.same (b13.block g hg.1.2)).frozen 6
  have hW14 := hov.out w13 (.slice (some ⟨C, 0, none⟩) 2 2) [mA1, mB2] (fun c hc => b13.block c (hlo10.out c hc).1.2) ⟨hM13.1, hM13.2.keep (keep_setCell (S := fun b => b ≠ g) 6 _ (fun h => h rfl)) (fun _ b hb => by cases hb; exact hgN)⟩
  rw [show heldSet XQ1 1 [mA1, mB2] = XQ2 from rfl] at hW14
  have b14 := below_setCell (a := ⟨g, 6, none⟩) (below_trans b10 b13) (by show w.heap.size ≤ g; omega) (.slice (some ⟨C, 0, none⟩) 2 2)
  have hR14 := (hR10.keep (b13.block _ hBl)).keep (w' := w13.setCell ⟨g, 6, none⟩ (.slice (some ⟨C, 0, none⟩) 2 2)) (Go.Deep.blk_setCell_other _ _ _ _ (by show B ≠ g; omega))
  clear hov hSB hM13 hC b11 b12 b13 hlo10 gB gS hO10 b10 r1 hSw
  replace hW14 := Lib.hid hW14
  replace b14 := Lib.hid b14
  go_upto_region 4 with fail
  have b14 := b14.out
  have hW14 := hW14.out
  generalize w13.setCell ⟨g, 6, none⟩ (.slice (some ⟨C, 0, none⟩) 2 2) = w14 at *
  clear ku hf
  -- told once
  have hQ := Node_c hW14 1 (by simp [I64])
  obtain ⟨_, r0, r1, r2⟩ := id hR14
  go_wp2_with fail
  refine hQ.mono ?_
  rintro e w15 ⟨gv, nv, wv, S, rfl, hO15, hS15, b15⟩
  clear hQ r0 r1 r2
  rw [XT_1.1, XT_1.2]
  rw [show (tellF XQ2 1).2.2 = XT1 from rfl] at hO15
  have hR15 := hR14.keep (b15.block _ hR14.lt)
  have hW15 := hW14.below b15
  have b15 := below_trans b14 b15
  obtain ⟨pg, pn, pw⟩ := hO15.parts
  obtain ⟨_, ga6, gcap6, rfl, _⟩ := pg.open
  obtain ⟨bn, on, cn, lv, hv, tv, e1, hcn, _, _, kn2, kn3, _, _, hhn, htn⟩ := pn.at (n := 1) (by rw [XT_n.1]; omega)
  cases e1
  obtain ⟨_, wa6, wcap6, rfl, _⟩ := pw.form
  obtain ⟨_, ha, hcap, rfl, _⟩ := hhn.open
  obtain ⟨_, ta, tcap, rfl, _⟩ := htn.open
  have hW := hO15.world
  rw [XT_n.1] at *
  rw [XT_n.2.1] at kn2
  rw [XT_n.2.2] at kn3
  have hR16 := OBox.new w15 26 (.slice ga6 XT1.groups.length gcap6) (.slice (some ⟨bn, on, none⟩) 3 cn) (.slice wa6 XT1.wires.length wcap6)
  have ba := below_a1 w15 (.cells #[.slice ga6 XT1.groups.length gcap6, .slice (some ⟨bn, on, none⟩) 3 cn, .slice wa6 XT1.wires.length wcap6] 26)
  go_upto_region 5 with fail
  generalize w15.alloc (.cells #[.slice ga6 XT1.groups.length gcap6, .slice (some ⟨bn, on, none⟩) 3 cn, .slice wa6 XT1.wires.length wcap6] 26) = w16 at *
  simp only [Nat.one_mul] at kn2 kn3
  have kn2 := (ba.cell (p := ⟨bn, on + 4 + 2, none⟩) (cell_lt kn2)).trans kn2
  have kn3 := (ba.cell (p := ⟨bn, on + 4 + 3, none⟩) (cell_lt kn3)).trans kn3
  have hR15 := hR15.keep (ba.block _ hR15.lt)
  have hW15 := hW15.below ba
  have b16 := below_trans b15 ba
  have hQ := Node_c (hW.below ba) 1 (by simp [I64])
  obtain ⟨C, hC⟩ : ∃ C, w15.heap.size = C := ⟨_, rfl⟩
  simp only [hC] at hR16 ⊢
  clear hC ba b15 hO15 hS15 pg pn pw hW hR14 hW14 b14 hhn htn
  obtain ⟨_, r0, r1, r2⟩ := id hR16
  go_wp2_with fail
  refine hQ.mono ?_
  rintro e w17 ⟨gv, nv, wv, S, rfl, hO, _, b17⟩
  clear hQ r0 r1 r2
  rw [XT_2.1, XT_2.2]
  obtain ⟨pg, pn, pw⟩ := hO.parts
  obtain ⟨_, ga7, gcap7, rfl, _⟩ := pg.open
  obtain ⟨_, na7, ncap7, rfl, _⟩ := pn.form
  obtain ⟨_, wa7, wcap7, rfl, _⟩ := pw.form
  clear hO pg pn pw
  have ba := below_trans b17 (below_a1 w17 (.cells #[.slice ga7 (tellF XT1 1).2.2.groups.length gcap7, .slice na7 (tellF XT1 1).2.2.nodes.length ncap7, .slice wa7 (tellF XT1 1).2.2.wires.length wcap7] 26))
  go_upto_region 6 with fail
  generalize w17.alloc (.cells #[.slice ga7 (tellF XT1 1).2.2.groups.length gcap7, .slice na7 (tellF XT1 1).2.2.nodes.length ncap7, .slice wa7 (tellF XT1 1).2.2.wires.length wcap7] 26) = w18 at *
  have kn2 := (ba.cell (p := ⟨bn, on + 4 + 2, none⟩) (cell_lt kn2)).trans kn2
  have kn3 := (ba.cell (p := ⟨bn, on + 4 + 3, none⟩) (cell_lt kn3)).trans kn3
  have hR15 := hR15.keep (ba.block _ hR15.lt)
  have hR16 := hR16.keep (ba.block _ hR16.lt)
  have hW15 := hW15.below ba
  have b18 := below_trans b16 ba
  clear b17 ba b16
  have hQ := Node_c hW15 3 (by simp [I64])
  obtain ⟨_, r0, r1, r2⟩ := id hR15
  go_wp2_with fail
  refine hQ.mono ?_
  rintro e w19 ⟨gv, nv, wv, S, rfl, hO, _, b19⟩
  clear hQ r0 r1 r2
  rw [XT_3.1, XT_3.2]
  obtain ⟨pg, pn, pw⟩ := hO.parts
  obtain ⟨_, ga8, gcap8, rfl, _⟩ := pg.open
  obtain ⟨_, na8, ncap8, rfl, _⟩ := pn.form
  obtain ⟨_, wa8, wcap8, rfl, _⟩ := pw.form
  clear hO pg pn pw
  have ba := below_trans b19 (below_a1 w19 (.cells #[.slice ga8 (tellF XQ2 3).2.2.groups.length gcap8, .slice na8 (tellF XQ2 3).2.2.nodes.length ncap8, .slice wa8 (tellF XQ2 3).2.2.wires.length wcap8] 26))
  go_upto_region 7 with fail
  generalize w19.alloc (.cells #[.slice ga8 (tellF XQ2 3).2.2.groups.length gcap8, .slice na8 (tellF XQ2 3).2.2.nodes.length ncap8, .slice wa8 (tellF XQ2 3).2.2.wires.length wcap8] 26) = w20 at *
  have kn2 := (ba.cell (p := ⟨bn, on + 4 + 2, none⟩) (cell_lt kn2)).trans kn2
  have kn3 := (ba.cell (p := ⟨bn, on + 4 + 3, none⟩) (cell_lt kn3)).trans kn3
  have hR16 := hR16.keep (ba.block _ hR16.lt)
  have b20 := below_trans b18 ba
  clear b19 ba b18
  obtain ⟨_, r0, r1, r2⟩ := id hR16
  go_wp2_with fail
  rw [← hP.out]
  exact ⟨rfl, b20⟩
end Go.Proofs.Ytafmpcaneeplpaa

set_option maxRecDepth 100000
namespace Go.Proofs.Ytafmpcaneeplpaa
open Go.RowKit Go.Shelf Go.BigFrame

set_option maxHeartbeats 1000000 in
theorem TellTells_walk_of (w : World) {v : Value} {X : Wd} {n : Int} (hW : WorldAt w v X) (hn64 : I64 n) :
    Calls Try.prog 7 #[v, .int .i64 n] w (GivesB (.bool true) w) := by
  have hW0 := hW
  obtain ⟨gv, nv, wv, rfl, hg, hn, hw⟩ := hW
  obtain ⟨_, na, ncap, rfl, _⟩ := hn.form
  obtain ⟨_, ga, gcap, rfl, _⟩ := hg.open
  obtain ⟨_, wa, wcap, rfl, _⟩ := hw.form
  clear hg hn hw
  have hB := OBox.new w 26 (.slice ga X.groups.length gcap) (.slice na X.nodes.length ncap) (.slice wa X.wires.length wcap)
  have b1 := below_a1 w (.cells #[.slice ga X.groups.length gcap, .slice na X.nodes.length ncap, .slice wa X.wires.length wcap] 26)
  have hP1 := Node_c (hW0.below b1) n hn64
  have hP2 := fun o (h : Below w.heap.size w o) => TellOf_c (hW0.below h) n
  generalize tellF X n = r at *
  replace hP2 := Lib.hid hP2
  go_enter Try.func7, Try.ntmps7
  go_upto_region 1 with fail
  generalize w.alloc (.cells #[.slice ga X.groups.length gcap, .slice na X.nodes.length ncap, .slice wa X.wires.length wcap] 26) = w1 at *
  obtain ⟨_, x0, x1, x2⟩ := id hB
  go_wp2_with fail
  refine hP1.mono ?_
  rintro e w2 ⟨gv2, nv2, wv2, S2, rfl, hO2, hS2, b2⟩
  obtain ⟨pg, pn, pw⟩ := hO2.parts
  obtain ⟨_, ga2, gcap2, rfl, _⟩ := pg.open
  obtain ⟨_, na2, ncap2, rfl, _⟩ := pn.form
  obtain ⟨_, wa2, wcap2, rfl, _⟩ := pw.form
  clear pg pn pw
  have hR2 := OBox.new w2 26 (.slice ga2 r.2.2.groups.length gcap2) (.slice na2 r.2.2.nodes.length ncap2) (.slice wa2 r.2.2.wires.length wcap2)
  have bx2 := below_a1 w2 (.cells #[.slice ga2 r.2.2.groups.length gcap2, .slice na2 r.2.2.nodes.length ncap2, .slice wa2 r.2.2.wires.length wcap2] 26)
  have hW2 := hO2.world.below bx2
  go_upto_region 2 with fail
  generalize w2.alloc (.cells #[.slice ga2 r.2.2.groups.length gcap2, .slice na2 r.2.2.nodes.length ncap2, .slice wa2 r.2.2.wires.length wcap2] 26) = w3 at *
  obtain ⟨B2, hB2⟩ : ∃ B, w2.heap.size = B := ⟨_, rfl⟩
  simp only [hB2] at hR2 ⊢
  clear hB2 x0 x1 x2
  have b23 := below_trans b2 bx2
  have hB3 := hB.keep (b23.block _ hB.lt)
  have b3 := below_trans b1 b23
  clear hO2 hS2 b23 bx2 b2 hB b1 hP1
  obtain ⟨_, x0, x1, x2⟩ := id hB3
  go_wp2_with fail
  refine (hP2.out w3 b3).mono ?_
  rintro e w4 ⟨gv4, nv4, wv4, S4, rfl, hO4, hS4, b4⟩
  obtain ⟨pg, pn, pw⟩ := hO4.parts
  obtain ⟨_, ga4, gcap4, rfl, _⟩ := pg.open
  obtain ⟨_, na4, ncap4, rfl, _⟩ := pn.form
  obtain ⟨_, wa4, wcap4, rfl, _⟩ := pw.form
  clear pg pn pw
  have hR4 := OBox.new w4 26 (.slice ga4 r.2.2.groups.length gcap4) (.slice na4 r.2.2.nodes.length ncap4) (.slice wa4 r.2.2.wires.length wcap4)
  have bx4 := below_a1 w4 (.cells #[.slice ga4 r.2.2.groups.length gcap4, .slice na4 r.2.2.nodes.length ncap4, .slice wa4 r.2.2.wires.length wcap4] 26)
  have hW4 := hO4.world.below bx4
  clear x0 x1 x2
  go_upto_region 3 with fail
  generalize w4.alloc (.cells #[.slice ga4 r.2.2.groups.length gcap4, .slice na4 r.2.2.nodes.length ncap4, .slice wa4 r.2.2.wires.length wcap4] 26) = w5 at *
  obtain ⟨B4, hB4⟩ : ∃ B, w4.heap.size = B := ⟨_, rfl⟩
  simp only [hB4] at hR4 ⊢
  clear hB4
  have b45 := below_trans b4 bx4
  have hR3 := hR2.keep (b45.block _ hR2.lt)
  have hW3 := hW2.below b45
  have b5 := below_trans b3 b45
  clear hO4 hS4 b45 bx4 b4 hR2 hW2 hP2
  go_wp2_with fail
  refine (tellBegun_c w5).mono ?_
  rintro e w6 ⟨rfl, b6⟩
  have hR6 := hR3.keep (b6.block _ hR3.lt)
  have hR7 := hR4.keep (b6.block _ hR4.lt)
  have hS := SameWorlds_c (hW3.below b6) (hW4.below b6)
  obtain ⟨_, r0, r1, r2⟩ := id hR6
  obtain ⟨_, s0, s1, s2⟩ := id hR7
  go_wp2_with fail
  refine hS.mono ?_
  rintro e w8 ⟨rfl, b8⟩
  go_wp2_with fail
  go_ret
  exact ⟨ret_bool (by simp), below_trans (below_trans b5 b6) b8⟩
end Go.Proofs.Ytafmpcaneeplpaa
