/-
  TellTrue, without the document's answer.
-/
import Derived.Test.YtafmpcaneeplpaaKN2
import Derived.Test.YtafmpcaneeplpaaKP
import Derived.Test.YtafmpcaneeplpaaKL
import Derived.Deep.CutRange
set_option maxRecDepth 100000
namespace Go.Proofs.Ytafmpcaneeplpaa
open Go.RowKit Go.Shelf Go.BigFrame

set_option maxHeartbeats 2000000 in
theorem TellTrue_walk_of (w : World) {v : Value} {X : Wd} {n : Int} (hW : WorldAt w v X) (hn64 : I64 n) :
    Calls Try.prog 8 #[v, .int .i64 n] w (GivesB (.bool true) w) := by
  have hW0 := hW
  obtain ⟨gv, nv, wv, rfl, hg, hn, hw⟩ := hW
  obtain ⟨_, na, ncap, rfl, _⟩ := hn.form
  obtain ⟨_, ga, gcap, rfl, _⟩ := hg.open
  obtain ⟨_, wa, wcap, rfl, _⟩ := hw.form
  have hB := OBox.new w 26 (.slice ga X.groups.length gcap) (.slice na X.nodes.length ncap) (.slice wa X.wires.length wcap)
  have b1 := below_a1 w (.cells #[.slice ga X.groups.length gcap, .slice na X.nodes.length ncap, .slice wa X.wires.length wcap] 26)
  have hP1 := Node_c (hW0.below b1) n hn64
  obtain ⟨r, hr⟩ : ∃ r, tellF X n = r := ⟨_, rfl⟩
  rw [hr] at hP1
  go_enter Try.func8, Try.ntmps8
  go_upto_region 1 with fail
  generalize w.alloc (.cells #[.slice ga X.groups.length gcap, .slice na X.nodes.length ncap, .slice wa X.wires.length wcap] 26) = w1 at *
  obtain ⟨_, x0, x1, x2⟩ := id hB
  go_wp2_with fail
  refine hP1.mono ?_
  rintro e w2 ⟨gv2, nv2, wv2, S2, rfl, hO2, hS2, b2⟩
  obtain ⟨pg, pn, pw⟩ := hO2.parts
  obtain ⟨_, ga2, gcap2, rfl, _⟩ := pg.open
  obtain ⟨_, na2, ncap2, rfl, _⟩ := pn.form
  obtain ⟨_, wa2, wcap2, rfl, _⟩ := pw.form
  clear pg pn pw
  have hR2 := OBox.new w2 26 (.slice ga2 r.2.2.groups.length gcap2) (.slice na2 r.2.2.nodes.length ncap2) (.slice wa2 r.2.2.wires.length wcap2)
  have bx2 := below_a1 w2 (.cells #[.slice ga2 r.2.2.groups.length gcap2, .slice na2 r.2.2.nodes.length ncap2, .slice wa2 r.2.2.wires.length wcap2] 26)
  have hW2 := hO2.world.below bx2
  clear x0 x1 x2
  have b23 := below_trans b2 bx2
  have hB3 := hB.keep (b23.block _ hB.lt)
  have b3 := below_trans b1 b23
  by_cases he : r.1 = 0
  rotate_left
  · have hne : (r.1 != 0) = true := by simpa using he
    replace he := Lib.hid he
    go_upto_region 3 with fail
    generalize w2.alloc (.cells #[.slice ga2 r.2.2.groups.length gcap2, .slice na2 r.2.2.nodes.length ncap2, .slice wa2 r.2.2.wires.length wcap2] 26) = w3 at *
    go_wp2_with fail
    refine (tellBegun_c w3).mono ?_
    rintro e w4 ⟨rfl, b4⟩
    go_wp2_with fail
    go_ret
    exact ⟨ret_bool (by simp), below_trans b3 b4⟩
  have hE : nodeE X n = 0 := by
    rcases Classical.em (nodeE X n = 0) with e | e
    · exact e
    · unfold tellF at hr
      rw [if_neg e] at hr
      subst hr
      exact absurd he e
  obtain ⟨hx, h0, h1⟩ := nodeE_ok hE
  obtain ⟨m, rfl⟩ := Int.eq_ofNat_of_zero_le h0
  have hm : m < X.nodes.length := by omega
  have hRt := right_of hx
  have htE : tellE X m = 0 := by
    rcases Classical.em (tellE X m = 0) with e | e
    · exact e
    · unfold tellF tellR at hr
      rw [if_pos hE, Int.toNat_natCast, if_neg e] at hr
      subst hr
      exact absurd he e
  have hrr : r = (0, ((readyX X m).length : Int), tellW X m) := by
    rw [← hr]
    unfold tellF tellR
    rw [if_pos hE, Int.toNat_natCast, if_pos htE]
  have hY := tellW_right hRt hm htE
  obtain ⟨hag1, hag2⟩ := tell_again hRt hm htE
  have hall := tell_all hRt hm
  have hleft := tell_left hRt hm
  have hbd : boundR (tellW X m) m = boundX X m := by
    unfold boundR
    rw [if_pos, Int.toNat_natCast, tell_bound hm]
    unfold nodeE
    rw [if_pos hY.err, if_pos (inB_mk (by omega) (by rw [tellW_set, nodeSet_len]; omega))]
  have hnE : nodeE (tellW X m) m = 0 := by
    unfold nodeE
    rw [if_pos hY.err, if_pos (inB_mk (by omega) (by rw [tellW_set, nodeSet_len]; omega))]
  have hYl : (tellW X m).nodes.length = X.nodes.length := by rw [tellW_set, nodeSet_len]
  have hYt : ((tellW X m).nodes.getD m N.zero).told.length = (X.nodes.getD m N.zero).told.length + (readyX X m).length := by
    rw [tellW_at hm]
    exact List.length_append
  have hYe := hY.err
  have hYn := hY.node m (by rw [hYl]; exact hm)
  have hXn := hRt.node m hm
  have hmy1 := hYn.held.many
  have hmy2 := hYn.told.many
  have hmx1 := hXn.held.many
  have hmx2 := hXn.told.many
  subst hrr
  clear hE he hr hx hRt htE hY hXn hYn hP1 b2 bx2 b23
  dsimp only at *
  generalize tellW X m = Y at *
  generalize (readyX X m).length = k at *
  rw [hYl] at hR2 hW2 hB3 b3
  have hXl := hYl
  clear hYl
  obtain ⟨_, x0, x1, x2⟩ := id hB3
  go_upto_region 4 with fail
  clear x0 x1 x2
  generalize w2.alloc (.cells #[.slice ga2 Y.groups.length gcap2, .slice na2 X.nodes.length ncap2, .slice wa2 Y.wires.length wcap2] 26) = w3 at *
  obtain ⟨B2, hB2⟩ : ∃ B, w2.heap.size = B := ⟨_, rfl⟩
  simp only [hB2] at hR2 ⊢
  clear hB2 hO2 hS2 hB b1
  have hC := WCheck_c hW2
  rw [hYe] at hC
  obtain ⟨_, x0, x1, x2⟩ := id hB3
  obtain ⟨_, y0, y1, y2⟩ := id hR2
  go_wp2_with fail
  refine hC.mono ?_
  rintro e w4 ⟨rfl, b4⟩
  clear x0 x1 x2 y0 y1 y2 hC
  have hB4 := hB3.keep (b4.block _ hB3.lt)
  have hR4 := hR2.keep (b4.block _ hR2.lt)
  have hW4 := hW2.below b4
  have b4 := below_trans b3 b4
  clear hB3 hR2 hW2 b3
  go_upto_region 6 with fail
  obtain ⟨_, _, _, e1, _, hnY, _⟩ := id hW4
  cases e1
  obtain ⟨b0, o0, c0, lv, hv, tv, e1, hc1, k0, k1, k2, k3, _, hrr, hh, htt⟩ := (hn.below b4).at hm
  cases e1
  obtain ⟨_, la, lcap, rfl, _⟩ := hrr.form
  obtain ⟨_, ha, hcap, rfl, _⟩ := hh.open
  obtain ⟨_, ta, tcap, rfl, _⟩ := htt.open
  obtain ⟨d0, p0, f0, lv, hv, tv, e1, hf1, j0, j1, j2, j3, _, hrr2, hh2, htt2⟩ := hnY.at (n := m) (by rw [hXl]; exact hm)
  rw [hXl] at e1
  cases e1
  obtain ⟨_, lb, lbcap, rfl, _⟩ := hrr2.form
  obtain ⟨_, hb, hbcap, rfl, _⟩ := hh2.open
  obtain ⟨_, tb, tbcap, rfl, _⟩ := htt2.open
  clear hrr hrr2 hnY hn hg hw
  obtain ⟨x, HX⟩ : ∃ x, X.nodes.getD m N.zero = x := ⟨_, rfl⟩
  obtain ⟨y, HY⟩ : ∃ y, Y.nodes.getD m N.zero = y := ⟨_, rfl⟩
  simp only [HX, HY] at *
  clear HX HY
  replace hYt := Lib.hid hYt
  obtain ⟨_, x0, x1, x2⟩ := id hB4
  obtain ⟨_, y0, y1, y2⟩ := id hR4
  have hBl := hB4.lt
  have hRl := hR4.lt
  have hk0 := cell_lt k0
  have hj0 := cell_lt j0
  dsimp only at hk0 hj0
  have hSB : ∀ W, Below w4.heap.size w4 W → W.cell? ⟨w.heap.size, 1, none⟩ = some (.slice (some ⟨b0, o0, none⟩) X.nodes.length ncap) ∧ W.cell? ⟨B2, 1, none⟩ = some (.slice (some ⟨d0, p0, none⟩) X.nodes.length ncap2) ∧
      W.cell? ⟨b0, o0 + m * 4, none⟩ = some (.int .i64 x.clock) ∧ W.cell? ⟨b0, o0 + m * 4 + 1, none⟩ = some (.slice la x.last.length lcap) ∧ W.cell? ⟨b0, o0 + m * 4 + 2, none⟩ = some (.slice ha x.held.length hcap) ∧ W.cell? ⟨b0, o0 + m * 4 + 3, none⟩ = some (.slice ta x.told.length tcap) ∧
      W.cell? ⟨d0, p0 + m * 4, none⟩ = some (.int .i64 y.clock) ∧ W.cell? ⟨d0, p0 + m * 4 + 1, none⟩ = some (.slice lb y.last.length lbcap) ∧ W.cell? ⟨d0, p0 + m * 4 + 2, none⟩ = some (.slice hb y.held.length hbcap) ∧ W.cell? ⟨d0, p0 + m * 4 + 3, none⟩ = some (.slice tb y.told.length tbcap) :=
    fun W h => ⟨(h.cell (p := ⟨w.heap.size, 1, none⟩) hBl).trans x1, (h.cell (p := ⟨B2, 1, none⟩) hRl).trans y1, (h.cell (p := ⟨b0, o0 + m * 4, none⟩) hk0).trans k0, (h.cell (p := ⟨b0, o0 + m * 4 + 1, none⟩) hk0).trans k1, (h.cell (p := ⟨b0, o0 + m * 4 + 2, none⟩) hk0).trans k2, (h.cell (p := ⟨b0, o0 + m * 4 + 3, none⟩) hk0).trans k3,
      (h.cell (p := ⟨d0, p0 + m * 4, none⟩) hj0).trans j0, (h.cell (p := ⟨d0, p0 + m * 4 + 1, none⟩) hj0).trans j1, (h.cell (p := ⟨d0, p0 + m * 4 + 2, none⟩) hj0).trans j2, (h.cell (p := ⟨d0, p0 + m * 4 + 3, none⟩) hj0).trans j3⟩
  clear x0 x1 x2 y0 y1 y2 k0 k1 k2 k3 j0 j1 j2 j3
  go_cut [8, 9] from 55 to 64 (fun p q wx => ∃ B8 B9 : Nat, p = .pointer (some ⟨B8, 0, none⟩) ∧ q = .pointer (some ⟨B9, 0, none⟩) ∧ NBox wx B8 x (.slice la x.last.length lcap) (.slice ha x.held.length hcap) (.slice ta x.told.length tcap) ∧ NBox wx B9 y (.slice lb y.last.length lbcap) (.slice hb y.held.length hbcap) (.slice tb y.told.length tbcap) ∧ Below w4.heap.size w4 wx)
  case first =>
    refine wp_region_N (fun w' => w'.cell? ⟨w.heap.size, 1, none⟩ = some (.slice (some ⟨b0, o0, none⟩) X.nodes.length ncap) ∧ w'.cell? ⟨B2, 1, none⟩ = some (.slice (some ⟨d0, p0, none⟩) X.nodes.length ncap2) ∧
      w'.cell? ⟨b0, o0 + m * 4, none⟩ = some (.int .i64 x.clock) ∧ w'.cell? ⟨b0, o0 + m * 4 + 1, none⟩ = some (.slice la x.last.length lcap) ∧ w'.cell? ⟨b0, o0 + m * 4 + 2, none⟩ = some (.slice ha x.held.length hcap) ∧ w'.cell? ⟨b0, o0 + m * 4 + 3, none⟩ = some (.slice ta x.told.length tcap) ∧
      w'.cell? ⟨d0, p0 + m * 4, none⟩ = some (.int .i64 y.clock) ∧ w'.cell? ⟨d0, p0 + m * 4 + 1, none⟩ = some (.slice lb y.last.length lbcap) ∧ w'.cell? ⟨d0, p0 + m * 4 + 2, none⟩ = some (.slice hb y.held.length hbcap) ∧ w'.cell? ⟨d0, p0 + m * 4 + 3, none⟩ = some (.slice tb y.told.length tbcap)) 13 14 rfl (by kernel_rfl) (hSB _ (below_drewN w4 1)) (fun hSw => ?_)
    refine N_take' (i := 0) (v := ?_) rfl rfl (by kernel_rfl) (fun _ _ _ h => h) (Or.inl ⟨by rfl, ?_⟩) hSw ?_
    rotate_left
    · intro w hSw
      obtain ⟨s0, s1, s2, s3, s4, s5, s6, s7, s8, s9⟩ := hSw
      go_simp
      try with_reducible rfl
    simp only [Act.put, List.setIfInBounds_toArray, List.set_cons_zero, List.set_cons_succ]
    refine N_take' (i := 1) (v := ?_) rfl rfl (by kernel_rfl) (fun _ _ _ h => h) (Or.inl ⟨by rfl, ?_⟩) hSw ?_
    rotate_left
    · intro w hSw
      obtain ⟨s0, s1, s2, s3, s4, s5, s6, s7, s8, s9⟩ := hSw
      go_simp
      try with_reducible rfl
    simp only [Act.put, List.setIfInBounds_toArray, List.set_cons_zero, List.set_cons_succ]
    refine N_take' (i := 2) (v := ?_) rfl rfl (by kernel_rfl) (fun _ _ _ h => h) (Or.inl ⟨by rfl, ?_⟩) hSw ?_
    rotate_left
    · intro w hSw
      obtain ⟨s0, s1, s2, s3, s4, s5, s6, s7, s8, s9⟩ := hSw
      go_simp
      try with_reducible rfl
    simp only [Act.put, List.setIfInBounds_toArray, List.set_cons_zero, List.set_cons_succ]
    refine N_take' (i := 3) (v := ?_) rfl rfl (by kernel_rfl) (fun _ _ _ h => h) (Or.inl ⟨by rfl, ?_⟩) hSw ?_
    rotate_left
    · intro w hSw
      obtain ⟨s0, s1, s2, s3, s4, s5, s6, s7, s8, s9⟩ := hSw
      go_simp
      try with_reducible rfl
    simp only [Act.put, List.setIfInBounds_toArray, List.set_cons_zero, List.set_cons_succ]
    refine N_take' (i := 4) (v := ?_) rfl rfl (by kernel_rfl) (fun _ _ _ h => h) (Or.inl ⟨by rfl, ?_⟩) hSw ?_
    rotate_left
    · intro w hSw
      obtain ⟨s0, s1, s2, s3, s4, s5, s6, s7, s8, s9⟩ := hSw
      go_simp
      try with_reducible rfl
    simp only [Act.put, List.setIfInBounds_toArray, List.set_cons_zero, List.set_cons_succ]
    refine N_take' (i := 5) (v := ?_) rfl rfl (by kernel_rfl) (fun _ _ _ h => h) (Or.inl ⟨by rfl, ?_⟩) hSw ?_
    rotate_left
    · intro w hSw
      obtain ⟨s0, s1, s2, s3, s4, s5, s6, s7, s8, s9⟩ := hSw
      go_simp
      try with_reducible rfl
    simp only [Act.put, List.setIfInBounds_toArray, List.set_cons_zero, List.set_cons_succ]
    refine N_take' (i := 6) (v := ?_) rfl rfl (by kernel_rfl) (fun _ _ _ h => h) (Or.inl ⟨by rfl, ?_⟩) hSw ?_
    rotate_left
    · intro w hSw
      obtain ⟨s0, s1, s2, s3, s4, s5, s6, s7, s8, s9⟩ := hSw
      go_simp
      try with_reducible rfl
    simp only [Act.put, List.setIfInBounds_toArray, List.set_cons_zero, List.set_cons_succ]
    refine N_take' (i := 7) (v := ?_) rfl rfl (by kernel_rfl) (fun _ _ _ h => h) (Or.inl ⟨by rfl, ?_⟩) hSw ?_
    rotate_left
    · intro w hSw
      obtain ⟨s0, s1, s2, s3, s4, s5, s6, s7, s8, s9⟩ := hSw
      go_simp
      try with_reducible rfl
    simp only [Act.put, List.setIfInBounds_toArray, List.set_cons_zero, List.set_cons_succ]
    refine N_take' (i := 8) (v := ?_) rfl rfl (by kernel_rfl) (fun _ _ _ h => h) (Or.inl ⟨by rfl, ?_⟩) hSw ?_
    rotate_left
    · intro w hSw
      obtain ⟨s0, s1, s2, s3, s4, s5, s6, s7, s8, s9⟩ := hSw
      go_simp
      try with_reducible rfl
    simp only [Act.put, List.setIfInBounds_toArray, List.set_cons_zero, List.set_cons_succ]
    refine N_take' (i := 9) (v := ?_) rfl rfl (by kernel_rfl) (fun _ _ _ h => h) (Or.inl ⟨by rfl, ?_⟩) hSw ?_
    rotate_left
    · intro w hSw
      obtain ⟨s0, s1, s2, s3, s4, s5, s6, s7, s8, s9⟩ := hSw
      go_simp
      try with_reducible rfl
    simp only [Act.put, List.setIfInBounds_toArray, List.set_cons_zero, List.set_cons_succ]
    have hz := below_drewN w4 1
    refine N_two' (i := 10) (j := 11) (by kernel_rfl) rfl rfl ?_ ?_
    · skip
      go_wp2_with fail
      refine QK_normal ⟨?_, ?_⟩
      · exact fun _ => hSB _ (below_trans hz (below_a1 _ _))
      refine N_one' (i := 11) (by kernel_rfl) rfl ?_
      go_wp2_with fail
      refine QK_normal ⟨?_, ?_⟩
      · exact fun _ => hSB _ (below_trans hz (below_a2 _ _ _))
      refine N_one' (i := 12) (by kernel_rfl) rfl ?_
      go_wp2_with fail
      refine QK_normal ⟨?_, ?_⟩
      · exact fun _ => hSB _ (below_trans hz (below_a2 _ _ _))
      refine N_rest 13 1 (Nat.le_refl _) rfl (by kernel_rfl) ?_
      simp only [List.drop_succ_cons, List.drop_zero]
      go_wp2_with fail
      go_meet
      case rel => exact ⟨_, _, rfl, rfl, by unfold NBox; refine ⟨?_, ?_, ?_, ?_⟩ <;> simp, by unfold NBox; refine ⟨?_, ?_, ?_, ?_⟩ <;> simp, below_trans hz (below_a2 _ _ _)⟩
    · skip
      go_wp2_with fail
      refine QK_normal ⟨?_, ?_⟩
      · exact fun _ => hSB _ (below_trans hz (below_a1 _ _))
      refine N_one' (i := 10) (by kernel_rfl) rfl ?_
      go_wp2_with fail
      refine QK_normal ⟨?_, ?_⟩
      · exact fun _ => hSB _ (below_trans hz (below_a2 _ _ _))
      refine N_one' (i := 12) (by kernel_rfl) rfl ?_
      go_wp2_with fail
      refine QK_normal ⟨?_, ?_⟩
      · exact fun _ => hSB _ (below_trans hz (below_a2 _ _ _))
      refine N_rest 13 1 (Nat.le_refl _) rfl (by kernel_rfl) ?_
      simp only [List.drop_succ_cons, List.drop_zero]
      go_wp2_with fail
      go_meet
      case rel => exact ⟨_, _, rfl, rfl, by unfold NBox; refine ⟨?_, ?_, ?_, ?_⟩ <;> simp, by unfold NBox; refine ⟨?_, ?_, ?_, ?_⟩ <;> simp, below_trans hz (below_a2 _ _ _)⟩
  case rest =>
    obtain ⟨B8, B9, rfl, rfl, hN8, hN9, b6⟩ := hcut
    have hRc := hR4.keep (b6.block _ hRl)
    have hWc := hW4.below b6
    have hhX := hh.below b6
    have htX := htt.below b6
    have hhY := hh2.below b6
    have htY := htt2.below b6
    have bc := below_trans b4 b6
    clear hSB hB4 hR4 hW4 hh htt hh2 htt2 b4 b6 hk0 hj0 hBl hRl
    obtain ⟨i0, hi0, hz0, hz1, hz2⟩ := info_parts infoCMsg
    go_upto_region 7 with fail
    have hSc1 : ∀ W, Below wc.heap.size wc W → W.cell? ⟨B8, 2, none⟩ = some (.slice ha x.held.length hcap) ∧ W.cell? ⟨B8, 3, none⟩ = some (.slice ta x.told.length tcap) :=
      fun W h => ⟨(h.cell (p := ⟨B8, 2, none⟩) (cell_lt hN8.2.2.1)).trans hN8.2.2.1, (h.cell (p := ⟨B8, 3, none⟩) (cell_lt hN8.2.2.2)).trans hN8.2.2.2⟩
    refine wp_region_N (fun w' => w'.cell? ⟨B8, 2, none⟩ = some (.slice ha x.held.length hcap) ∧ w'.cell? ⟨B8, 3, none⟩ = some (.slice ta x.told.length tcap)) 6 8 rfl (by kernel_rfl) (hSc1 _ (below_drewN wc 1)) (fun hSw => ?_)
    refine N_take' (i := 1) (v := ?_) rfl rfl (by kernel_rfl) (fun _ _ _ h => h) (Or.inl ⟨by rfl, ?_⟩) hSw ?_
    rotate_left
    · intro w hSw
      obtain ⟨s0, s1⟩ := hSw
      go_simp
      try with_reducible rfl
    simp only [Act.put, List.setIfInBounds_toArray, List.set_cons_zero, List.set_cons_succ]
    refine N_take' (i := 2) (v := ?_) rfl rfl (by kernel_rfl) (fun _ _ _ h => h) (Or.inl ⟨by rfl, ?_⟩) hSw ?_
    rotate_left
    · intro w hSw
      obtain ⟨s0, s1⟩ := hSw
      go_simp
      try with_reducible rfl
    simp only [Act.put, List.setIfInBounds_toArray, List.set_cons_zero, List.set_cons_succ]
    refine N_take' (i := 4) (v := ?_) rfl rfl (by kernel_rfl) (fun _ _ _ h => h) (Or.inl ⟨by rfl, ?_⟩) hSw ?_
    rotate_left
    · intro w hSw
      obtain ⟨s0, s1⟩ := hSw
      go_simp
      try with_reducible rfl
    simp only [Act.put, List.setIfInBounds_toArray, List.set_cons_zero, List.set_cons_succ]
    refine N_take' (i := 5) (v := ?_) rfl rfl (by kernel_rfl) (fun _ _ _ h => h) (Or.inl ⟨by rfl, ?_⟩) hSw ?_
    rotate_left
    · intro w hSw
      obtain ⟨s0, s1⟩ := hSw
      go_simp
      try with_reducible rfl
    simp only [Act.put, List.setIfInBounds_toArray, List.set_cons_zero, List.set_cons_succ]
    refine N_one' (i := 0) (by kernel_rfl) rfl ?_
    go_wp2_with fail
    have hzz1 : Below wc.heap.size wc (wc.alloc (.cells #[] 48)).drew := below_drew (below_a1 wc _)
    have hzs1 : (wc.alloc (.cells #[] 48)).drew.heap.size = wc.heap.size + 1 := World.size_alloc _ _
    refine QK_normal ⟨?_, ?_⟩
    · first | exact fun _ => hSc1 _ hzz1 | exact hSc1 _ hzz1
    refine N_one' (i := 3) (by kernel_rfl) rfl ?_
    go_wp2_with (at_builtin; refine wpList_append_row _ rfl _ _ 39 rfl wc.heap.size 48 i0 _ 5 48 Try.underlying39 hi0 hz0 hz1 hz2 rfl (by decide) (.slice (some ⟨wc.heap.size, 0, none⟩) 0 0) 0 [] rfl (owns_drew (World.ownsRow_made _ #[] 0 (Nat.le_refl _) (by simp [maxLen]) (by simp))) _ _ _ rfl (htX.below hzz1).2 (one_flat _) (by unfold maxLen; omega) (by omega) (by rw [hzs1]; omega) ?_; intro vc1 wc1 hownc1 hgrowc1 hatc1; simp only [Nat.zero_add, List.nil_append] at hownc1; obtain ⟨ac1, cc1, rfl⟩ := own_form hownc1)
    have hcc1 : Below wc.heap.size wc wc1 := hzz1.trans (below_row hgrowc1 (fun k hk => by cases hk; exact Nat.le_refl _) (by rw [hzs1]; omega))
    have hcs1 := hcc1.size
    have hcl1 : ∀ k, (Value.slice ac1 x.told.length cc1).ownBlock = some k → wc.heap.size ≤ k := fun k hk => (hownc1.lt k hk).1
    refine QK_normal ⟨?_, ?_⟩
    · first | exact fun _ => hSc1 _ hcc1 | exact hSc1 _ hcc1
    refine N_rest 6 2 (Nat.le_refl _) rfl (by kernel_rfl) ?_
    simp only [List.drop_succ_cons, List.drop_zero]
    go_upto_region 8 with (at_builtin; refine wpList_append_row _ rfl _ _ 39 rfl wc.heap.size 48 i0 _ 5 48 Try.underlying39 hi0 hz0 hz1 hz2 rfl (by decide) _ _ _ rfl hownc1 _ _ _ rfl (hhX.below hcc1).2 (one_flat _) (by unfold maxLen; omega) (by omega) (by omega) ?_; intro vd1 wd1 hownd1 hgrowd1 hatd1; rw [← List.flatMap_append] at hownd1; obtain ⟨ad1, cd1, rfl⟩ := own_form hownd1)
    have hdd1 : Below wc.heap.size wc wd1 := hcc1.trans (below_row hgrowd1 (fun k hk => hcl1 k hk) hcs1)
    clear hatc1 hatd1 hgrowc1 hgrowd1 hownc1 hcl1 hcs1 hzz1 hzs1 hSc1
    have hRc := hRc.keep (hdd1.block _ hRc.lt)
    have hWc := hWc.below hdd1
    have hN8 := hN8.below hdd1 (cell_lt hN8.1)
    have hN9 := hN9.below hdd1 (cell_lt hN9.1)
    have hhY := hhY.below hdd1
    have htY := htY.below hdd1
    have bc := below_trans bc hdd1
    have hA1 : MsgsOwn wd1 wc.heap.size (.slice ad1 (x.told.length + x.held.length) cd1) (x.told ++ x.held) := ⟨fun q hq => (List.mem_append.1 hq).elim (htX.1 q) (hhX.1 q), by rw [List.length_append]; exact hownd1⟩
    have hA1 := hA1.msgs (by rw [List.length_append]; omega)
    clear hownd1 hdd1 hcc1 hhX htX
    have hSc2 : ∀ W, Below wd1.heap.size wd1 W → W.cell? ⟨B9, 2, none⟩ = some (.slice hb y.held.length hbcap) ∧ W.cell? ⟨B9, 3, none⟩ = some (.slice tb y.told.length tbcap) :=
      fun W h => ⟨(h.cell (p := ⟨B9, 2, none⟩) (cell_lt hN9.2.2.1)).trans hN9.2.2.1, (h.cell (p := ⟨B9, 3, none⟩) (cell_lt hN9.2.2.2)).trans hN9.2.2.2⟩
    refine wp_region_N (fun w' => w'.cell? ⟨B9, 2, none⟩ = some (.slice hb y.held.length hbcap) ∧ w'.cell? ⟨B9, 3, none⟩ = some (.slice tb y.told.length tbcap)) 6 8 rfl (by kernel_rfl) (hSc2 _ (below_drewN wd1 1)) (fun hSw => ?_)
    refine N_take' (i := 1) (v := ?_) rfl rfl (by kernel_rfl) (fun _ _ _ h => h) (Or.inl ⟨by rfl, ?_⟩) hSw ?_
    rotate_left
    · intro w hSw
      obtain ⟨s0, s1⟩ := hSw
      go_simp
      try with_reducible rfl
    simp only [Act.put, List.setIfInBounds_toArray, List.set_cons_zero, List.set_cons_succ]
    refine N_take' (i := 2) (v := ?_) rfl rfl (by kernel_rfl) (fun _ _ _ h => h) (Or.inl ⟨by rfl, ?_⟩) hSw ?_
    rotate_left
    · intro w hSw
      obtain ⟨s0, s1⟩ := hSw
      go_simp
      try with_reducible rfl
    simp only [Act.put, List.setIfInBounds_toArray, List.set_cons_zero, List.set_cons_succ]
    refine N_take' (i := 4) (v := ?_) rfl rfl (by kernel_rfl) (fun _ _ _ h => h) (Or.inl ⟨by rfl, ?_⟩) hSw ?_
    rotate_left
    · intro w hSw
      obtain ⟨s0, s1⟩ := hSw
      go_simp
      try with_reducible rfl
    simp only [Act.put, List.setIfInBounds_toArray, List.set_cons_zero, List.set_cons_succ]
    refine N_take' (i := 5) (v := ?_) rfl rfl (by kernel_rfl) (fun _ _ _ h => h) (Or.inl ⟨by rfl, ?_⟩) hSw ?_
    rotate_left
    · intro w hSw
      obtain ⟨s0, s1⟩ := hSw
      go_simp
      try with_reducible rfl
    simp only [Act.put, List.setIfInBounds_toArray, List.set_cons_zero, List.set_cons_succ]
    refine N_one' (i := 0) (by kernel_rfl) rfl ?_
    go_wp2_with fail
    have hzz2 : Below wd1.heap.size wd1 (wd1.alloc (.cells #[] 48)).drew := below_drew (below_a1 wd1 _)
    have hzs2 : (wd1.alloc (.cells #[] 48)).drew.heap.size = wd1.heap.size + 1 := World.size_alloc _ _
    refine QK_normal ⟨?_, ?_⟩
    · first | exact fun _ => hSc2 _ hzz2 | exact hSc2 _ hzz2
    refine N_one' (i := 3) (by kernel_rfl) rfl ?_
    go_wp2_with (at_builtin; refine wpList_append_row _ rfl _ _ 39 rfl wd1.heap.size 48 i0 _ 5 48 Try.underlying39 hi0 hz0 hz1 hz2 rfl (by decide) (.slice (some ⟨wd1.heap.size, 0, none⟩) 0 0) 0 [] rfl (owns_drew (World.ownsRow_made _ #[] 0 (Nat.le_refl _) (by simp [maxLen]) (by simp))) _ _ _ rfl (htY.below hzz2).2 (one_flat _) (by unfold maxLen; omega) (by omega) (by rw [hzs2]; omega) ?_; intro vc2 wc2 hownc2 hgrowc2 hatc2; simp only [Nat.zero_add, List.nil_append] at hownc2; obtain ⟨ac2, cc2, rfl⟩ := own_form hownc2)
    have hcc2 : Below wd1.heap.size wd1 wc2 := hzz2.trans (below_row hgrowc2 (fun k hk => by cases hk; exact Nat.le_refl _) (by rw [hzs2]; omega))
    have hcs2 := hcc2.size
    have hcl2 : ∀ k, (Value.slice ac2 y.told.length cc2).ownBlock = some k → wd1.heap.size ≤ k := fun k hk => (hownc2.lt k hk).1
    refine QK_normal ⟨?_, ?_⟩
    · first | exact fun _ => hSc2 _ hcc2 | exact hSc2 _ hcc2
    refine N_rest 6 2 (Nat.le_refl _) rfl (by kernel_rfl) ?_
    simp only [List.drop_succ_cons, List.drop_zero]
    go_upto_region 9 with (at_builtin; refine wpList_append_row _ rfl _ _ 39 rfl wd1.heap.size 48 i0 _ 5 48 Try.underlying39 hi0 hz0 hz1 hz2 rfl (by decide) _ _ _ rfl hownc2 _ _ _ rfl (hhY.below hcc2).2 (one_flat _) (by unfold maxLen; omega) (by omega) (by omega) ?_; intro vd2 wd2 hownd2 hgrowd2 hatd2; rw [← List.flatMap_append] at hownd2; obtain ⟨ad2, cd2, rfl⟩ := own_form hownd2)
    have hdd2 : Below wd1.heap.size wd1 wd2 := hcc2.trans (below_row hgrowd2 (fun k hk => hcl2 k hk) hcs2)
    clear hatc2 hatd2 hgrowc2 hgrowd2 hownc2 hcl2 hcs2 hzz2 hzs2 hSc2
    have hRc := hRc.keep (hdd2.block _ hRc.lt)
    have hWc := hWc.below hdd2
    have hN8 := hN8.below hdd2 (cell_lt hN8.1)
    have hN9 := hN9.below hdd2 (cell_lt hN9.1)
    have hhY2 := hhY.below hdd2
    have hA1 := hA1.below hdd2
    have bc := below_trans bc hdd2
    have hA2 : MsgsOwn wd2 wd1.heap.size (.slice ad2 (y.told.length + y.held.length) cd2) (y.told ++ y.held) := ⟨fun q hq => (List.mem_append.1 hq).elim (htY.1 q) (hhY.1 q), by rw [List.length_append]; exact hownd2⟩
    have hA2 := hA2.msgs (by rw [List.length_append]; omega)
    clear hownd2 hdd2 hcc2 hhY htY
    have hQ := Node_c hWc m (by unfold I64; omega)
    obtain ⟨_, y0, y1, y2⟩ := id hRc
    go_wp2_with fail
    refine hQ.mono ?_
    rintro e w5 ⟨gv5, nv5, wv5, S5, rfl, hO5, hS5, b5⟩
    obtain ⟨pg, pn, pw⟩ := hO5.parts
    obtain ⟨_, ga5, gcap5, rfl, _⟩ := pg.open
    obtain ⟨_, na5, ncap5, rfl, _⟩ := pn.form
    obtain ⟨_, wa5, wcap5, rfl, _⟩ := pw.form
    clear pg pn pw
    rw [hag1, hag2]
    clear hQ y0 y1 y2
    have bx := below_trans b5 (below_a1 w5 (.cells #[.slice ga5 (tellF Y m).2.2.groups.length gcap5, .slice na5 (tellF Y m).2.2.nodes.length ncap5, .slice wa5 (tellF Y m).2.2.wires.length wcap5] 26))
    go_upto_region 10 with fail
    generalize w5.alloc (.cells #[.slice ga5 (tellF Y m).2.2.groups.length gcap5, .slice na5 (tellF Y m).2.2.nodes.length ncap5, .slice wa5 (tellF Y m).2.2.wires.length wcap5] 26) = w6 at *
    clear hO5 hS5 b5
    have hRc := hRc.keep (bx.block _ hRc.lt)
    have hWc := hWc.below bx
    have hQ := BOf_c hWc m (by unfold I64; omega)
    rw [hbd, hnE] at hQ
    obtain ⟨_, y0, y1, y2⟩ := id hRc
    go_wp2_with fail
    refine hQ.mono ?_
    rintro e w7 ⟨rfl, b7⟩
    clear hQ y0 y1 y2 hRc hWc
    have bx := below_trans bx b7
    have hN8 := hN8.below bx (cell_lt hN8.1)
    have hN9 := hN9.below bx (cell_lt hN9.1)
    have hhY2 := hhY2.below bx
    have hA1 := hA1.below bx
    have hA2 := hA2.below bx
    have b7 := below_trans bc bx
    clear bx bc
    go_upto_region 12 with fail
    generalize boundX X m = far at *
    rw [hall] at hA2
    have hyk : ((y.told.length : Int) == (x.told.length : Int) + (k : Int)) = true := by have := hYt.out; simp; omega
    have hk40 : k ≤ 40 := by have := hYt.out; omega
    obtain ⟨_, _, _, e1, _, hc8⟩ := hhY2.open
    cases e1
    replace hc8 := Lib.hid hc8
    replace hleft := Lib.hid hleft
    replace hall := Lib.hid hall
    obtain ⟨z0, z1, z2, z3⟩ := hN9
    obtain ⟨u0, u1, u2, u3⟩ := hN8
    go_loop [17] (fun i => ∃ t : Nat, t ≤ y.held.length ∧ i = .int .i64 t) (fun i => y.held.length - (intOf i).toNat)
    case atStart => exact ⟨0, by omega, rfl⟩
    case round =>
      obtain ⟨t, ht, rfl⟩ := hrel
      by_cases hlt : t < y.held.length
      · obtain ⟨bh, oh, rfl, hd9⟩ := hc8.out (by intro e; rw [e] at hlt; simp at hlt)
        have hov := hleft.out (y.held.getD t M.zero) (getD_mem _ _ hlt)
        have hd10 := hd9 t hlt
        generalize y.held.getD t M.zero = d at *
        obtain ⟨_, _, q2, _, _⟩ := hd10
        have hnl : ¬ d.stamp ≤ far := by omega
        clear hd9
        go_wp2_with fail
        go_round
        case rel => exact ⟨t + 1, by omega, by go_num⟩
        case measure => simp [intOf]; omega
      · go_wp2_with fail
        refine (tellBegun_c w7).mono ?_
        rintro e w8 ⟨rfl, b8⟩
        have hS := SameMsgs_c (hA1.below b8) (hA2.below b8)
        rw [sameMs_self] at hS
        have z3 := (b8.cell (p := ⟨B9, 3, none⟩) (cell_lt z3)).trans z3
        have u3 := (b8.cell (p := ⟨B8, 3, none⟩) (cell_lt u3)).trans u3
        go_wp2_with fail
        refine hS.mono ?_
        rintro e w9 ⟨rfl, d9⟩
        have z3 := (d9.below.cell (p := ⟨B9, 3, none⟩) (cell_lt z3)).trans z3
        have u3 := (d9.below.cell (p := ⟨B8, 3, none⟩) (cell_lt u3)).trans u3
        go_wp2_with fail
        go_ret
        exact ⟨ret_bool (by simp), below_trans (below_trans b7 b8) d9.below⟩
end Go.Proofs.Ytafmpcaneeplpaa
