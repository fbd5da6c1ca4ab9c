/-
  Agree: what must be in any case.
-/
import Derived.Test.YtgifclphigpnhaaGreatKAg
import Derived.Test.YtgifclphigpnhaaGreatKCc
import Derived.Test.YtgifclphigpnhaaGreatKS
set_option maxRecDepth 100000
namespace Go.Proofs.YtgifclphigpnhaaGreat
open Go.RowKit Go.Shelf Go.BigFrame

def aG1 : Ac := ⟨1, 2, 1, ⟨#[98]⟩⟩
def aG4 : Ac := ⟨4, 0, 0, ⟨#[]⟩⟩
def mG1 : M := ⟨2, 1, 1, false, ⟨#[98]⟩⟩
def XE0 : Wd := doneF (beginX 3 [3, 6]) [aA, aG1, aG4]
theorem XE_1 : commonF XE0 1 2 = [mG1] ∧ moveE XE0 1 2 = 0 := ⟨by kernel_rfl, by decide +kernel⟩
theorem XE_2 : aheadF XE0 1 mG1 = .tuple #[.int .i64 1, .bool true, .int .i64 0] ∧ aheadF XE0 0 mG1 = .tuple #[.int .i64 0, .bool false, .int .i64 0] := ⟨by kernel_rfl, by kernel_rfl⟩
theorem XE_3 : allF XE0 = (0, [mA1, mG1]) := by kernel_rfl
theorem XE_4 : commonF XE0 1 3 = [] ∧ moveE XE0 1 3 = 4 := ⟨by kernel_rfl, by decide +kernel⟩

set_option maxHeartbeats 4000000 in
theorem agreeBegun_c (w : World) : Calls Tryz.prog 32 #[] w (GivesB (.bool true) w) := by
  obtain ⟨P, hP⟩ : ∃ P, GivesB (.bool true) w = P := ⟨_, rfl⟩
  rw [hP]
  replace hP := Lib.hid hP
  go_enter Tryz.func32, Tryz.ntmps32
  go_wp2_with fail
  refine (act_c _ 1 0 0 ⟨#[97]⟩).mono ?_
  rintro e va1 ⟨rfl, ba1⟩
  go_wp2_with fail
  refine (act_c _ 1 2 1 ⟨#[98]⟩).mono ?_
  rintro e va2 ⟨rfl, ba2⟩
  go_wp2_with fail
  refine (act_c _ 4 0 0 ⟨#[]⟩).mono ?_
  rintro e va3 ⟨rfl, ba3⟩
  unfold Ac.val
  have hl := Acts.lit va3 [aA, aG1, aG4] (by simp [Ac.fits, I64, aA, aG1, aG4]; decide) (by simp) #[.int .i64 1, .int .i64 0, .int .i64 0, .string ⟨#[97]⟩, .int .i64 1, .int .i64 2, .int .i64 1, .string ⟨#[98]⟩, .int .i64 4, .int .i64 0, .int .i64 0, .string ⟨#[]⟩] rfl
  have hBg := begin_c hl (fun _ _ _ _ _ _ h => CalmOf_c h)
  rw [show doneF (beginX 3 [3, 6]) [aA, aG1, aG4] = XE0 from rfl] at hBg
  simp only [List.length_cons, List.length_nil, Nat.zero_add, Nat.reduceAdd] at hBg
  have ba := below_trans (below_trans (below_trans ba1 ba2) ba3) (below_a1 va3 (.cells #[.int .i64 1, .int .i64 0, .int .i64 0, .string ⟨#[97]⟩, .int .i64 1, .int .i64 2, .int .i64 1, .string ⟨#[98]⟩, .int .i64 4, .int .i64 0, .int .i64 0, .string ⟨#[]⟩] 36))
  go_wp2_with fail
  refine hBg.mono ?_
  rintro e w1 ⟨gv1, nv1, wv1, S1, rfl, hO1, hS1, b1⟩
  obtain ⟨pg, pn, pw⟩ := hO1.parts
  obtain ⟨_, ga1, gcap1, rfl, _⟩ := pg.open
  obtain ⟨_, na1, ncap1, rfl, _⟩ := pn.form
  obtain ⟨_, wa1, wcap1, rfl, _⟩ := pw.form
  clear pg pn pw
  have hR1 := OBox.new w1 26 (.slice ga1 XE0.groups.length gcap1) (.slice na1 XE0.nodes.length ncap1) (.slice wa1 XE0.wires.length wcap1)
  have bx1 := below_a1 w1 (.cells #[.slice ga1 XE0.groups.length gcap1, .slice na1 XE0.nodes.length ncap1, .slice wa1 XE0.wires.length wcap1] 26)
  have hW1 := hO1.world.below bx1
  have b2 := below_trans (below_trans ba b1) bx1
  clear hBg hl ba ba1 ba2 ba3 hO1 hS1 b1 bx1
  go_upto_region 2 with fail
  obtain ⟨B1, hB1⟩ : ∃ B, w1.heap.size = B := ⟨_, rfl⟩
  simp only [hB1] at hR1 ⊢
  generalize w1.alloc (.cells #[.slice ga1 XE0.groups.length gcap1, .slice na1 XE0.nodes.length ncap1, .slice wa1 XE0.wires.length wcap1] 26) = w2 at *
  clear hB1
  have hRr := fun W (h : Below w2.heap.size w2 W) => hR1.keep (h.block _ hR1.lt)
  have hC1 := Common_c hW1 1 2 (by unfold I64; omega) (by unfold I64; omega)
  rw [XE_1.1, XE_1.2] at hC1
  have hRh := Lib.hid hRr
  clear hRr
  obtain ⟨_, x0, x1, x2⟩ := id hR1
  go_wp2_with fail
  refine hC1.mono ?_
  rintro e w3 ⟨lv, rfl, hM3, b3⟩
  obtain ⟨_, la, lcap, rfl, _⟩ := hM3.open
  clear x0 x1 x2 hC1
  obtain ⟨_, x0, x1, x2⟩ := hRh.out w3 b3
  go_upto_region 3 with fail
  clear x0 x1 x2
  have hSB : ∀ W, Below w2.heap.size w2 W → W.cell? ⟨B1, 0, none⟩ = some (.slice ga1 XE0.groups.length gcap1) ∧ W.cell? ⟨B1, 1, none⟩ = some (.slice na1 XE0.nodes.length ncap1) ∧ W.cell? ⟨B1, 2, none⟩ = some (.slice wa1 XE0.wires.length wcap1) := fun W h => by
    obtain ⟨_, x0, x1, x2⟩ := hRh.out W h
    exact ⟨x0, x1, x2⟩
  have b4 := below_trans b3 (below_drewN w3 1)
  refine wp_region_N (fun w' => w'.cell? ⟨B1, 0, none⟩ = some (.slice ga1 XE0.groups.length gcap1) ∧ w'.cell? ⟨B1, 1, none⟩ = some (.slice na1 XE0.nodes.length ncap1) ∧ w'.cell? ⟨B1, 2, none⟩ = some (.slice wa1 XE0.wires.length wcap1)) 9 10 rfl (by kernel_rfl) (hSB _ b4) (fun hSw => ?_)
  refine tk 0 ?_ rfl rfl (by kernel_rfl) (.inl ⟨by rfl, ?_⟩) hSw ?_
  rotate_left
  · rintro w ⟨s0, s1, s2⟩; go_simp; try with_reducible rfl
  simp only [tkp, tkz, tks]
  refine N_one' (i := 1) (by kernel_rfl) rfl ?_
  go_wp2_with fail
  refine (say_c _ 2 1 1 ⟨#[98]⟩).mono ?_
  rintro e w5 ⟨rfl, b5⟩
  have hM3 := (hM3.below (below_drewN w3 1)).below b5
  have b5 := below_trans b4 b5
  unfold M.val
  go_wp2_with fail
  refine QK_normal ⟨fun _ => hSB _ b5, ?_⟩
  have hA1 := Ahead_c (hW1.below b5) 1 (by unfold I64; omega) ⟨2, 1, 1, false, ⟨#[98]⟩⟩
  rw [show aheadF XE0 1 ⟨2, 1, 1, false, ⟨#[98]⟩⟩ = _ from XE_2.1] at hA1
  unfold M.val at hA1
  refine N_one' (i := 2) (by kernel_rfl) rfl ?_
  go_wp2_with fail
  refine hA1.mono ?_
  rintro e w6 ⟨rfl, b6⟩
  have hM3 := hM3.below b6
  have b6 := below_trans b5 b6
  clear hA1 hSw
  have hSw := hSB _ b6
  go_wp2_with fail
  refine QK_normal ⟨fun _ => hSw, ?_⟩
  refine tk 3 ?_ rfl rfl (by kernel_rfl) (.inl ⟨by rfl, ?_⟩) hSw ?_
  rotate_left
  · rintro w ⟨s0, s1, s2⟩; go_simp; try with_reducible rfl
  simp only [tkp, tkz, tks]
  refine tk 4 ?_ rfl rfl (by kernel_rfl) (.inl ⟨by rfl, ?_⟩) hSw ?_
  rotate_left
  · rintro w ⟨s0, s1, s2⟩; go_simp; try with_reducible rfl
  simp only [tkp, tkz, tks]
  refine tk 5 ?_ rfl rfl (by kernel_rfl) (.inl ⟨by rfl, ?_⟩) hSw ?_
  rotate_left
  · rintro w ⟨s0, s1, s2⟩; go_simp; try with_reducible rfl
  simp only [tkp, tkz, tks]
  refine tk 6 ?_ rfl rfl (by kernel_rfl) (.inl ⟨by rfl, ?_⟩) hSw ?_
  rotate_left
  · rintro w ⟨s0, s1, s2⟩; go_simp; try with_reducible rfl
  simp only [tkp, tkz, tks]
  refine tk 7 ?_ rfl rfl (by kernel_rfl) (.inl ⟨by rfl, ?_⟩) hSw ?_
  rotate_left
  · rintro w ⟨s0, s1, s2⟩; go_simp; try with_reducible rfl
  simp only [tkp, tkz, tks]
  refine tk 8 ?_ rfl rfl (by kernel_rfl) (.inl ⟨by rfl, ?_⟩) hSw ?_
  rotate_left
  · rintro w ⟨s0, s1, s2⟩; go_simp; try with_reducible rfl
  simp only [tkp, tkz, tks]
  refine N_rest 9 1 (by omega) rfl (by kernel_rfl) ?_
  clear hSw
  go_upto_region 4 with fail
  have b7 := below_trans b6 (below_drewN w6 1)
  refine wp_region_N (fun w' => w'.cell? ⟨B1, 0, none⟩ = some (.slice ga1 XE0.groups.length gcap1) ∧ w'.cell? ⟨B1, 1, none⟩ = some (.slice na1 XE0.nodes.length ncap1) ∧ w'.cell? ⟨B1, 2, none⟩ = some (.slice wa1 XE0.wires.length wcap1)) 9 10 rfl (by kernel_rfl) (hSB _ b7) (fun hSw => ?_)
  refine tk 0 ?_ rfl rfl (by kernel_rfl) (.inl ⟨by rfl, ?_⟩) hSw ?_
  rotate_left
  · rintro w ⟨s0, s1, s2⟩; go_simp; try with_reducible rfl
  simp only [tkp, tkz, tks]
  refine N_one' (i := 1) (by kernel_rfl) rfl ?_
  go_wp2_with fail
  refine (say_c _ 2 1 1 ⟨#[98]⟩).mono ?_
  rintro e w8 ⟨rfl, b8⟩
  have hM3 := (hM3.below (below_drewN w6 1)).below b8
  have b8 := below_trans b7 b8
  unfold M.val
  go_wp2_with fail
  refine QK_normal ⟨fun _ => hSB _ b8, ?_⟩
  have hA1 := Ahead_c (hW1.below b8) 0 (by unfold I64; omega) ⟨2, 1, 1, false, ⟨#[98]⟩⟩
  rw [show aheadF XE0 0 ⟨2, 1, 1, false, ⟨#[98]⟩⟩ = _ from XE_2.2] at hA1
  unfold M.val at hA1
  refine N_one' (i := 2) (by kernel_rfl) rfl ?_
  go_wp2_with fail
  refine hA1.mono ?_
  rintro e w9 ⟨rfl, b9⟩
  have hM3 := hM3.below b9
  have b9 := below_trans b8 b9
  clear hA1 hSw
  have hSw := hSB _ b9
  go_wp2_with fail
  refine QK_normal ⟨fun _ => hSw, ?_⟩
  refine tk 3 ?_ rfl rfl (by kernel_rfl) (.inl ⟨by rfl, ?_⟩) hSw ?_
  rotate_left
  · rintro w ⟨s0, s1, s2⟩; go_simp; try with_reducible rfl
  simp only [tkp, tkz, tks]
  refine tk 4 ?_ rfl rfl (by kernel_rfl) (.inl ⟨by rfl, ?_⟩) hSw ?_
  rotate_left
  · rintro w ⟨s0, s1, s2⟩; go_simp; try with_reducible rfl
  simp only [tkp, tkz, tks]
  refine tk 5 ?_ rfl rfl (by kernel_rfl) (.inl ⟨by rfl, ?_⟩) hSw ?_
  rotate_left
  · rintro w ⟨s0, s1, s2⟩; go_simp; try with_reducible rfl
  simp only [tkp, tkz, tks]
  refine tk 6 ?_ rfl rfl (by kernel_rfl) (.inl ⟨by rfl, ?_⟩) hSw ?_
  rotate_left
  · rintro w ⟨s0, s1, s2⟩; go_simp; try with_reducible rfl
  simp only [tkp, tkz, tks]
  refine tk 7 ?_ rfl rfl (by kernel_rfl) (.inl ⟨by rfl, ?_⟩) hSw ?_
  rotate_left
  · rintro w ⟨s0, s1, s2⟩; go_simp; try with_reducible rfl
  simp only [tkp, tkz, tks]
  refine tk 8 ?_ rfl rfl (by kernel_rfl) (.inl ⟨by rfl, ?_⟩) hSw ?_
  rotate_left
  · rintro w ⟨s0, s1, s2⟩; go_simp; try with_reducible rfl
  simp only [tkp, tkz, tks]
  refine N_rest 9 1 (by omega) rfl (by kernel_rfl) ?_
  clear hSw
  have hAl := TAll_c (hW1.below b9)
  rw [XE_3] at hAl
  obtain ⟨x0, x1, x2⟩ := hSB _ b9
  go_wp2_with fail
  refine hAl.mono ?_
  rintro e w10 ⟨lv2, rfl, hM10, b10⟩
  have hM3 := hM3.below b10
  obtain ⟨la2, lcap2, rfl⟩ := own_form hM10.2
  have hM10 := hM10.msgs (by simp)
  have b10 := below_trans b9 b10
  clear x0 x1 x2 hAl
  obtain ⟨x0, x1, x2⟩ := hSB _ b10
  have hC2 := Common_c (hW1.below b10) 1 3 (by unfold I64; omega) (by unfold I64; omega)
  rw [XE_4.1, XE_4.2] at hC2
  simp only [List.length_cons, List.length_nil, Nat.zero_add, Nat.reduceAdd] at hM10
  go_wp2_with fail
  refine hC2.mono ?_
  rintro e w11 ⟨lv3, rfl, hM11, b11⟩
  have hM3 := hM3.below b11
  have hM10 := hM10.below b11
  obtain ⟨_, la3, lcap3, rfl, _⟩ := hM11.open
  have b11' := below_trans b10 b11
  clear x0 x1 x2 hC2 hM11
  go_wp2_with fail
  refine (say_c _ 2 1 1 ⟨#[98]⟩).mono ?_
  rintro e w12 ⟨rfl, b12⟩
  have hM3 := hM3.below b12
  have hM10 := hM10.below b12
  have b12 := below_trans b11' b12
  unfold M.val
  simp only [List.length_cons, List.length_nil, Nat.zero_add] at hM3
  have hMt := Msgs.lit w12 [mG1] (by simp [M.fits, I64, mG1]; decide) (by simp) #[.int .i64 2, .int .i64 1, .int .i64 1, .bool false, .string ⟨#[98]⟩] rfl
  have b13 := below_trans b12 (below_a1 w12 (.cells #[.int .i64 2, .int .i64 1, .int .i64 1, .bool false, .string ⟨#[98]⟩] 56))
  simp only [List.length_cons, List.length_nil, Nat.zero_add] at hMt
  have hC := SameMsgs_c (hM3.below (below_a1 w12 _)) hMt
  rw [show sameMs [mG1] [mG1] = true from sameMs_iff.2 rfl] at hC
  go_wp2_with fail
  refine hC.mono ?_
  rintro e w14 ⟨rfl, d14⟩
  have b14 := below_trans b13 d14.below
  have hM10 := (hM10.below (below_a1 w12 _)).below d14.below
  clear hC hMt hM3
  go_wp2_with fail
  refine (say_c _ 0 0 1 ⟨#[97]⟩).mono ?_
  rintro e w15 ⟨rfl, b15⟩
  have hM10 := hM10.below b15
  have b15 := below_trans b14 b15
  unfold M.val
  go_wp2_with fail
  refine (say_c _ 2 1 1 ⟨#[98]⟩).mono ?_
  rintro e w16 ⟨rfl, b16⟩
  have hM10 := hM10.below b16
  have b16 := below_trans b15 b16
  unfold M.val
  have hMt := Msgs.lit w16 [mA1, mG1] (by simp [M.fits, I64, mA1, mG1]; decide) (by simp) #[.int .i64 0, .int .i64 0, .int .i64 1, .bool false, .string ⟨#[97]⟩, .int .i64 2, .int .i64 1, .int .i64 1, .bool false, .string ⟨#[98]⟩] rfl
  have b17 := below_trans b16 (below_a1 w16 (.cells #[.int .i64 0, .int .i64 0, .int .i64 1, .bool false, .string ⟨#[97]⟩, .int .i64 2, .int .i64 1, .int .i64 1, .bool false, .string ⟨#[98]⟩] 56))
  simp only [List.length_cons, List.length_nil, Nat.zero_add, Nat.reduceAdd] at hMt
  have hC := SameMsgs_c (hM10.below (below_a1 w16 _)) hMt
  rw [show sameMs [mA1, mG1] [mA1, mG1] = true from sameMs_iff.2 rfl] at hC
  go_wp2_with fail
  refine hC.mono ?_
  rintro e w18 ⟨rfl, d18⟩
  have b18 := below_trans b17 d18.below
  go_wp2_with fail
  rw [← hP.out]
  exact ⟨rfl, below_trans b2 b18⟩
end Go.Proofs.YtgifclphigpnhaaGreat
