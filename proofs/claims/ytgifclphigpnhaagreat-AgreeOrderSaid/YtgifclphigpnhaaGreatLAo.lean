/-
  AgreeOrder: what was told to two was told to both in the same order.
-/
import Derived.Test.YtgifclphigpnhaaGreatChs
import Derived.Test.YtgifclphigpnhaaGreatIa
import Derived.Test.YtgifclphigpnhaaGreatAgB
set_option maxRecDepth 100000
namespace Go.Proofs.YtgifclphigpnhaaGreat
open Go.RowKit Go.Shelf Go.BigFrame

theorem Reach.nodeO {X : Wd} (r : Reach X) {k : Nat} (hk : k < X.nodes.length) : nodeE X (k : Nat) = 0 := by
  unfold nodeE
  rw [if_pos r.inv.right.err, if_pos (by rw [inB_mk (by omega) (by omega)])]
theorem Reach.both {X : Wd} (r : Reach X) {a b : Nat} (ha : a < X.nodes.length) (hb : b < X.nodes.length) : moveE X (a : Nat) (b : Nat) = 0 ∧ commonF X (a : Nat) (b : Nat) = commonL (nd X a) (nd X b) := by
  have h : moveE X (a : Nat) (b : Nat) = 0 := by
    unfold moveE
    rw [r.nodeO ha, r.nodeO hb]
    rfl
  refine ⟨h, ?_⟩
  unfold commonF
  rw [if_pos h, Int.toNat_natCast, Int.toNat_natCast]
  rfl

theorem allF_len (X : Wd) : (allF X).2.length ≤ 160 := by
  unfold allF
  split
  · rename_i he
    have hR := right_of he
    split
    · rename_i l hl
      rw [← preL_end] at hl
      obtain ⟨h1, h2, _⟩ := allO_ok hl
      rw [preL_end] at h2
      exact Nat.le_trans h2 (toldL_len hR)
    · simp
  · simp

set_option maxHeartbeats 2000000 in
theorem AgreeOrder_walk_of (w : World) {nodes a b : Int} {gv av : Value} {gs : List Int} {acts : List Ac} (_hn64 : I64 nodes) (hg : Ints w gv gs) (ha : Acts w av acts) (ha64 : I64 a) (hb64 : I64 b) :
    Calls Tryz.prog 11 #[.int .i64 nodes, gv, av, .int .i64 a, .int .i64 b] w (GivesB (.bool true) w) := by
  have hD := done_c hg nodes ha
  obtain ⟨_, aa, acap, rfl, _⟩ := ha.form
  obtain ⟨_, ga, gcap, rfl, _⟩ := hg.open
  have hRE := @doneX_reach nodes gs acts
  generalize doneX nodes gs acts = X at *
  generalize doneB nodes gs acts = is at *
  clear ha hg
  replace hRE := Lib.hid hRE
  replace ha64 := Lib.hid ha64
  replace hb64 := Lib.hid hb64
  go_enter Tryz.func11, Tryz.ntmps11
  go_wp2_with fail
  refine hD.mono ?_
  clear hD
  rintro e w1 ⟨gv1, nv1, wv1, S1, rfl, hO1, hS1, b1⟩
  obtain ⟨pg, pn, pw⟩ := hO1.parts
  obtain ⟨_, ga1, gcap1, rfl, _⟩ := pg.open
  obtain ⟨_, na1, ncap1, rfl, _⟩ := pn.form
  obtain ⟨_, wa1, wcap1, rfl, _⟩ := pw.form
  clear pg pn pw
  have hR1 := OBox.new w1 26 (.slice ga1 X.groups.length gcap1) (.slice na1 X.nodes.length ncap1) (.slice wa1 X.wires.length wcap1)
  have bx1 := below_a1 w1 (.cells #[.slice ga1 X.groups.length gcap1, .slice na1 X.nodes.length ncap1, .slice wa1 X.wires.length wcap1] 26)
  have hW1 := hO1.world.below bx1
  cases is
  · go_upto_region 3 with fail
    generalize w1.alloc (.cells #[.slice ga1 X.groups.length gcap1, .slice na1 X.nodes.length ncap1, .slice wa1 X.wires.length wcap1] 26) = w2 at *
    obtain ⟨B1, hB1⟩ : ∃ B, w1.heap.size = B := ⟨_, rfl⟩
    simp only [hB1] at hR1 ⊢
    clear hB1
    go_wp2_with fail
    refine (agreeBegun_c w2).mono ?_
    rintro e w4 ⟨rfl, b4⟩
    go_wp2_with fail
    go_ret
    exact ⟨ret_bool (by simp), below_trans (below_trans b1 bx1) b4⟩
  obtain ⟨rc, hnl, hgr⟩ := hRE.out rfl
  clear hRE hgr
  subst hnl
  have hsm := gErr_small rc.inv.right.grp
  have hp0 : 0 < X.nodes.length := by omega
  have hp1 : X.nodes.length ≤ 1000 := by omega
  have hC1 := fun o => choose_c o ha64.out hp0 hp1
  have hC2 := fun o => choose_c o hb64.out hp0 hp1
  have hx1 := chooseN_lt (c := a) hp0
  have hx2 := chooseN_lt (c := b) hp0
  generalize chooseN a X.nodes.length = x at *
  generalize chooseN b X.nodes.length = y at *
  clear hsm hp0 hp1
  replace hC1 := Lib.hid hC1
  replace hC2 := Lib.hid hC2
  go_upto_region 4 with fail
  generalize w1.alloc (.cells #[.slice ga1 X.groups.length gcap1, .slice na1 X.nodes.length ncap1, .slice wa1 X.wires.length wcap1] 26) = w2 at *
  obtain ⟨B1, hB1⟩ : ∃ B, w1.heap.size = B := ⟨_, rfl⟩
  simp only [hB1] at hR1 ⊢
  clear hB1
  have b2 := below_trans b1 bx1
  clear hO1 hS1 b1 bx1
  have hK1 := fun o (h : Below w2.heap.size w2 o) => Common_c (hW1.below h) (x : Nat) (y : Nat) (by unfold I64; omega) (by unfold I64; omega)
  have hK2 := fun o (h : Below w2.heap.size w2 o) => Common_c (hW1.below h) (y : Nat) (x : Nat) (by unfold I64; omega) (by unfold I64; omega)
  rw [(rc.both hx1 hx2).1, (rc.both hx1 hx2).2] at hK1
  rw [(rc.both hx2 hx1).1, (rc.both hx2 hx1).2, commonL_comm (rc.inv.told_rises hx2) (rc.inv.told_rises hx1)] at hK2
  obtain ⟨all, hall, har, ham⟩ := rc.all
  have hsub := told_sub rc.inv hx1 har ham
  have hAl := fun o (h : Below w2.heap.size w2 o) => TAll_c (hW1.below h)
  rw [hall] at hAl
  have hal := allF_len X
  rw [hall] at hal
  obtain ⟨_, _, _, e1, _, hnr, _⟩ := id hW1
  cases e1
  obtain ⟨c1, d1, f1, lv, hv, tv, e1, hc1, _, _, _, k3, _, _, _, ht⟩ := hnr.at hx1
  cases e1
  obtain ⟨tl, Htl⟩ : ∃ l, (X.nodes.getD x N.zero).told = l := ⟨_, rfl⟩
  rw [Htl] at ht
  have hsub : List.Sublist tl all := by rw [← Htl]; exact hsub
  obtain ⟨_, ta, tc, rfl, _⟩ := ht.open
  generalize commonL (nd X x) (nd X y) = cl at *
  clear Htl hnr hall har ham hc1 rc
  replace hK1 := Lib.hid hK1
  replace hK2 := Lib.hid hK2
  replace hAl := Lib.hid hAl
  replace hsub := Lib.hid hsub
  replace hal := Lib.hid hal
  have hSB : ∀ W, Below w2.heap.size w2 W → W.cell? ⟨B1, 0, none⟩ = some (.slice ga1 X.groups.length gcap1) ∧ W.cell? ⟨B1, 1, none⟩ = some (.slice (some ⟨c1, d1, none⟩) X.nodes.length ncap1) ∧ W.cell? ⟨B1, 2, none⟩ = some (.slice wa1 X.wires.length wcap1) := fun W h => by
    obtain ⟨_, x0, x1, x2⟩ := hR1.keep (h.block _ hR1.lt)
    exact ⟨x0, x1, x2⟩
  have b2x : Below w2.heap.size w2 w2 := Below.refl _ _
  refine wp_region_N (fun w' => w'.cell? ⟨B1, 0, none⟩ = some (.slice ga1 X.groups.length gcap1) ∧ w'.cell? ⟨B1, 1, none⟩ = some (.slice (some ⟨c1, d1, none⟩) X.nodes.length ncap1) ∧ w'.cell? ⟨B1, 2, none⟩ = some (.slice wa1 X.wires.length wcap1)) 12 13 rfl (by kernel_rfl) (hSB _ (below_trans b2x (below_drewN w2 1))) (fun hSw => ?_)
  refine tk 0 ?_ rfl rfl (by kernel_rfl) (.inl ⟨by rfl, ?_⟩) hSw ?_
  rotate_left
  · rintro w ⟨s0, s1, s2⟩; go_simp; try with_reducible rfl
  simp only [tkp, tkz, tks]
  refine tk 1 ?_ rfl rfl (by kernel_rfl) (.inl ⟨by rfl, ?_⟩) hSw ?_
  rotate_left
  · rintro w ⟨s0, s1, s2⟩; go_simp; try with_reducible rfl
  simp only [tkp, tkz, tks]
  refine tk 2 ?_ rfl rfl (by kernel_rfl) (.inl ⟨by rfl, ?_⟩) hSw ?_
  rotate_left
  · rintro w ⟨s0, s1, s2⟩; go_simp; try with_reducible rfl
  simp only [tkp, tkz, tks]
  refine tk 4 ?_ rfl rfl (by kernel_rfl) (.inl ⟨by rfl, ?_⟩) hSw ?_
  rotate_left
  · rintro w ⟨s0, s1, s2⟩; go_simp; try with_reducible rfl
  simp only [tkp, tkz, tks]
  refine tk 5 ?_ rfl rfl (by kernel_rfl) (.inl ⟨by rfl, ?_⟩) hSw ?_
  rotate_left
  · rintro w ⟨s0, s1, s2⟩; go_simp; try with_reducible rfl
  simp only [tkp, tkz, tks]
  refine N_one' (i := 3) (by kernel_rfl) rfl ?_
  go_wp2_with fail
  refine (hC1.out _).mono ?_
  rintro e w' ⟨rfl, h⟩; subst h
  go_wp2_with fail
  refine QK_normal ⟨fun _ => hSw, ?_⟩
  refine N_one' (i := 6) (by kernel_rfl) rfl ?_
  go_wp2_with fail
  refine (hC2.out _).mono ?_
  rintro e w' ⟨rfl, h⟩; subst h
  go_wp2_with fail
  refine QK_normal ⟨fun _ => hSw, ?_⟩
  refine N_one' (i := 7) (by kernel_rfl) rfl ?_
  go_wp2_with fail
  refine (hK1.out _ (below_trans b2x (below_drewN w2 1))).mono ?_
  rintro e w3 ⟨lv3, rfl, hM3, b3⟩
  obtain ⟨_, la3, lc3, rfl, _⟩ := hM3.open
  have b3l := (below_drewN w2 1).trans b3
  have b3x := below_trans b2x b3l
  clear hSw
  have hSw := hSB _ b3x
  go_wp2_with fail
  refine QK_normal ⟨fun _ => hSw, ?_⟩
  refine tk 8 ?_ rfl rfl (by kernel_rfl) (.inl ⟨by rfl, ?_⟩) hSw ?_
  rotate_left
  · rintro w ⟨s0, s1, s2⟩; go_simp; try with_reducible rfl
  simp only [tkp, tkz, tks]
  refine tk 9 ?_ rfl rfl (by kernel_rfl) (.inl ⟨by rfl, ?_⟩) hSw ?_
  rotate_left
  · rintro w ⟨s0, s1, s2⟩; go_simp; try with_reducible rfl
  simp only [tkp, tkz, tks]
  refine tk 10 ?_ rfl rfl (by kernel_rfl) (.inl ⟨by rfl, ?_⟩) hSw ?_
  rotate_left
  · rintro w ⟨s0, s1, s2⟩; go_simp; try with_reducible rfl
  simp only [tkp, tkz, tks]
  refine tk 11 ?_ rfl rfl (by kernel_rfl) (.inl ⟨by rfl, ?_⟩) hSw ?_
  rotate_left
  · rintro w ⟨s0, s1, s2⟩; go_simp; try with_reducible rfl
  simp only [tkp, tkz, tks]
  refine N_rest 12 1 (by omega) rfl (by kernel_rfl) ?_
  clear hSw
  go_upto_region 5 with fail
  refine wp_region_N (fun w' => w'.cell? ⟨B1, 0, none⟩ = some (.slice ga1 X.groups.length gcap1) ∧ w'.cell? ⟨B1, 1, none⟩ = some (.slice (some ⟨c1, d1, none⟩) X.nodes.length ncap1) ∧ w'.cell? ⟨B1, 2, none⟩ = some (.slice wa1 X.wires.length wcap1)) 12 13 rfl (by kernel_rfl) (hSB _ (below_trans b3x (below_drewN w3 1))) (fun hSw => ?_)
  refine tk 0 ?_ rfl rfl (by kernel_rfl) (.inl ⟨by rfl, ?_⟩) hSw ?_
  rotate_left
  · rintro w ⟨s0, s1, s2⟩; go_simp; try with_reducible rfl
  simp only [tkp, tkz, tks]
  refine tk 1 ?_ rfl rfl (by kernel_rfl) (.inl ⟨by rfl, ?_⟩) hSw ?_
  rotate_left
  · rintro w ⟨s0, s1, s2⟩; go_simp; try with_reducible rfl
  simp only [tkp, tkz, tks]
  refine tk 2 ?_ rfl rfl (by kernel_rfl) (.inl ⟨by rfl, ?_⟩) hSw ?_
  rotate_left
  · rintro w ⟨s0, s1, s2⟩; go_simp; try with_reducible rfl
  simp only [tkp, tkz, tks]
  refine tk 4 ?_ rfl rfl (by kernel_rfl) (.inl ⟨by rfl, ?_⟩) hSw ?_
  rotate_left
  · rintro w ⟨s0, s1, s2⟩; go_simp; try with_reducible rfl
  simp only [tkp, tkz, tks]
  refine tk 5 ?_ rfl rfl (by kernel_rfl) (.inl ⟨by rfl, ?_⟩) hSw ?_
  rotate_left
  · rintro w ⟨s0, s1, s2⟩; go_simp; try with_reducible rfl
  simp only [tkp, tkz, tks]
  refine N_one' (i := 3) (by kernel_rfl) rfl ?_
  go_wp2_with fail
  refine (hC2.out _).mono ?_
  rintro e w' ⟨rfl, h⟩; subst h
  go_wp2_with fail
  refine QK_normal ⟨fun _ => hSw, ?_⟩
  refine N_one' (i := 6) (by kernel_rfl) rfl ?_
  go_wp2_with fail
  refine (hC1.out _).mono ?_
  rintro e w' ⟨rfl, h⟩; subst h
  go_wp2_with fail
  refine QK_normal ⟨fun _ => hSw, ?_⟩
  refine N_one' (i := 7) (by kernel_rfl) rfl ?_
  go_wp2_with fail
  refine (hK2.out _ (below_trans b3x (below_drewN w3 1))).mono ?_
  rintro e w4 ⟨lv4, rfl, hM4, b4⟩
  obtain ⟨_, la4, lc4, rfl, _⟩ := hM4.open
  have b4l := (below_drewN w3 1).trans b4
  have b4x := below_trans b3x b4l
  clear hSw
  have hSw := hSB _ b4x
  go_wp2_with fail
  refine QK_normal ⟨fun _ => hSw, ?_⟩
  refine tk 8 ?_ rfl rfl (by kernel_rfl) (.inl ⟨by rfl, ?_⟩) hSw ?_
  rotate_left
  · rintro w ⟨s0, s1, s2⟩; go_simp; try with_reducible rfl
  simp only [tkp, tkz, tks]
  refine tk 9 ?_ rfl rfl (by kernel_rfl) (.inl ⟨by rfl, ?_⟩) hSw ?_
  rotate_left
  · rintro w ⟨s0, s1, s2⟩; go_simp; try with_reducible rfl
  simp only [tkp, tkz, tks]
  refine tk 10 ?_ rfl rfl (by kernel_rfl) (.inl ⟨by rfl, ?_⟩) hSw ?_
  rotate_left
  · rintro w ⟨s0, s1, s2⟩; go_simp; try with_reducible rfl
  simp only [tkp, tkz, tks]
  refine tk 11 ?_ rfl rfl (by kernel_rfl) (.inl ⟨by rfl, ?_⟩) hSw ?_
  rotate_left
  · rintro w ⟨s0, s1, s2⟩; go_simp; try with_reducible rfl
  simp only [tkp, tkz, tks]
  refine N_rest 12 1 (by omega) rfl (by kernel_rfl) ?_
  clear hSw
  have hM3 := hM3.below b4l
  obtain ⟨x0, x1, x2⟩ := hSB _ b4x
  go_wp2_with fail
  refine (hAl.out _ b4x).mono ?_
  rintro e w5 ⟨lv5, rfl, hO5, b5⟩
  have hM5 := hO5.msgs (by have := hal.out; omega)
  obtain ⟨_, la5, lc5, rfl, _⟩ := hM5.open
  have hM3 := hM3.below b5
  have hM4 := hM4.below b5
  have b5x := below_trans b4x b5
  have hS := SameMsgs_c hM3 hM4
  rw [show sameMs cl cl = true from sameMs_iff.2 rfl] at hS
  clear x0 x1 x2 hO5
  go_wp2_with fail
  refine hS.mono ?_
  rintro e w6 ⟨rfl, d6⟩
  have b6 := d6.below
  have hM5 := hM5.below b6
  have b6x := below_trans b5x b6
  clear hS hM3 hM4
  obtain ⟨x0, x1, x2⟩ := hSB _ b6x
  have hlk := cell_lt k3
  dsimp only at hlk
  have k3r := (b6x.cell (p := ⟨c1, d1 + x * 4 + 3, none⟩) hlk).trans k3
  have hz1 := cell_lt x1
  have hz2 := cell_lt k3r
  dsimp only at hz1 hz2
  have hk1 : decide ((x : Int) < 0) = false := by simp
  have hk2 : decide (X.nodes.length ≤ x) = false := by simp; omega
  go_wp2_with fail
  refine wp_region_over (by kernel_rfl) (by kernel_rfl) ?_
  repeat (go_big_quiet_step (exact over_w (hC1.out _)))
  refine wpQuiet_nil ?_
  rintro w7 ⟨⟨_, b7⟩, rfl⟩
  have hM5 := hM5.below b7
  have b7x := below_trans b6x b7
  have hT7 := ht.below b7x
  clear x0 x1 x2 k3r hz1 hz2
  obtain ⟨_, _, _, e1, _, hcA⟩ := hM5.open
  cases e1
  obtain ⟨_, _, _, e1, _, hcT⟩ := hT7.open
  cases e1
  replace hcA := Lib.hid hcA
  replace hcT := Lib.hid hcT
  go_wp2_with fail
  go_loopw [20, 21] (fun j i wr => ∃ k m : Nat, k ≤ all.length ∧ m ≤ tl.length ∧ i = .int .i64 k ∧ j = .int .i64 m ∧ Hid (List.Sublist (tl.drop m) (all.drop k)) ∧ Below w7.heap.size w7 wr) (fun _ i _ => all.length - (intOf i).toNat)
  case atStart => exact ⟨0, 0, by omega, by omega, rfl, rfl, hsub, Below.refl _ _⟩
  case round =>
    obtain ⟨k, m, hk, hm, rfl, rfl, hs, hb⟩ := hrel
    by_cases hlt : k < all.length
    rotate_left
    · have he := sub_end (by omega) hs.out
      obtain rfl : m = tl.length := by omega
      have hf : decide ((k : Int) < (all.length : Int)) = false := decide_eq_false (by omega)
      go_wp2_with fail
      refine (agreeBegun_c wr).mono ?_
      rintro e w9 ⟨rfl, b9⟩
      go_wp2_with fail
      go_ret
      exact ⟨ret_bool (by simp), below_trans b2 (below_trans (below_trans b7x hb) b9)⟩
    have hf : decide ((k : Int) < (all.length : Int)) = true := decide_eq_true (by omega)
    by_cases hlm : m < tl.length
    rotate_left
    · obtain rfl : m = tl.length := by omega
      have hf2 : decide ((tl.length : Int) < (tl.length : Int)) = false := decide_eq_false (by omega)
      go_wp2_with fail
      refine (agreeBegun_c wr).mono ?_
      rintro e w9 ⟨rfl, b9⟩
      go_wp2_with fail
      go_ret
      exact ⟨ret_bool (by simp), below_trans b2 (below_trans (below_trans b7x hb) b9)⟩
    have hf2 : decide ((m : Int) < (tl.length : Int)) = true := decide_eq_true (by omega)
    have hst := sub_step hlt hlm hs.out
    obtain ⟨bA, oA, rfl, hcA2⟩ := hcA.out (by intro e; rw [e] at hlt; simp at hlt)
    obtain ⟨bT, oT, rfl, hcT2⟩ := hcT.out (by intro e; rw [e] at hlm; simp at hlm)
    obtain ⟨p0, p1, p2, p3, p4⟩ := (hcA2 k hlt).below hb
    obtain ⟨q0, q1, q2, q3, q4⟩ := (hcT2 m hlm).below hb
    generalize all.getD k M.zero = mA at *
    generalize tl.getD m M.zero = mT at *
    clear hcA2 hcT2
    have hk1 : decide ((k : Int) < 0) = false := by simp
    have hk2 : decide (all.length ≤ k) = false := by simp; omega
    have hm1 : decide ((m : Int) < 0) = false := by simp
    have hm2 : decide (tl.length ≤ m) = false := by simp; omega
    have heq := eql_msg mA mT
    cases hq : eqM mA mT
    · rw [hq] at heq hst
      rw [if_neg (by simp)] at hst
      replace hst := Lib.hid hst
      replace hq := Lib.hid hq
      go_wp2_with fail
      go_quiet (fail)
      go_wp2_with fail
      go_roundw
      case rel => exact ⟨k + 1, m, by omega, by omega, by go_num, rfl, hst, below_trans hb (below_drewN _ _)⟩
      case measure => simp [intOf]; omega
    · rw [hq] at heq hst
      rw [if_pos rfl] at hst
      replace hst := Lib.hid hst
      replace hq := Lib.hid hq
      go_wp2_with fail
      go_quiet (fail)
      go_wp2_with fail
      go_roundw
      case rel => exact ⟨k + 1, m + 1, by omega, by omega, by go_num, by go_num, hst, below_trans hb (below_drewN _ _)⟩
      case measure => simp [intOf]; omega
end Go.Proofs.YtgifclphigpnhaaGreat
