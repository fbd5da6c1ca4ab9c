/-
  BoundGrows: whatever is done, no node is less far than it was.
-/
import Derived.Test.YtgifclphigpnhaaGreatLSf
set_option maxRecDepth 100000
namespace Go.Proofs.YtgifclphigpnhaaGreat
open Go.RowKit Go.Shelf Go.BigFrame

/-- What one act more does. -/
theorem Reach.act {X : Wd} {x : Ac} (h : (doF X x).1 = 0) : Like X (doF X x).2 ∧ ∃ k, Steps X k (doF X x).2 := by
  obtain ⟨hR, k, _, s⟩ := doF_steps h
  exact ⟨s.like hR, k, s⟩
theorem Like.node {X Y : Wd} (h : Like X Y) {k : Nat} (hk : k < X.nodes.length) : nodeE Y (k : Nat) = 0 ∧ boundR Y (k : Nat) = boundX Y k := by
  have h0 : nodeE Y (k : Nat) = 0 := by
    unfold nodeE
    rw [if_pos h.right.err, if_pos (by rw [inB_mk (by omega) (by rw [h.len]; omega)])]
  refine ⟨h0, ?_⟩
  unfold boundR
  rw [if_pos h0, Int.toNat_natCast]

set_option maxHeartbeats 2000000 in
theorem BoundGrows_walk_of (w : World) {nodes n : Int} {gv av xv : Value} {gs : List Int} {acts : List Ac} {x : Ac} (_hn64 : I64 nodes) (hg : Ints w gv gs) (ha : Acts w av acts) (hx : x.fits ∧ xv = x.val) (hn64 : I64 n) :
    Calls Tryz.prog 8 #[.int .i64 nodes, gv, av, xv, .int .i64 n] w (GivesB (.bool true) w) := by
  obtain ⟨hxf, rfl⟩ := hx
  have bA := below_a1 w (.cells #[.int .i64 x.kind, .int .i64 x.one, .int .i64 x.two, .string x.body] 36)
  have hA := AcBox.new w x 36
  have hD := done_c (hg.below bA) nodes (ha.below bA)
  have hAl : w.heap.size < (w.alloc (.cells #[.int .i64 x.kind, .int .i64 x.one, .int .i64 x.two, .string x.body] 36)).heap.size := by rw [World.size_alloc]; omega
  obtain ⟨_, aa, acap, rfl, _⟩ := ha.form
  obtain ⟨_, ga, gcap, rfl, _⟩ := hg.open
  have hRE := @doneX_reach nodes gs acts
  generalize doneX nodes gs acts = X at *
  generalize doneB nodes gs acts = is at *
  clear ha hg
  replace hRE := Lib.hid hRE
  replace hn64 := Lib.hid hn64
  replace hxf := Lib.hid hxf
  have hDo := fun (w : World) (v : Value) (X : Wd) (h : WorldAt w v X) => Do_c h hxf.out
  unfold Ac.val at hDo ⊢
  replace hDo := Lib.hid hDo
  go_enter Tryz.func8, Tryz.ntmps8
  go_upto_region 1 with fail
  generalize w.alloc (.cells #[.int .i64 x.kind, .int .i64 x.one, .int .i64 x.two, .string x.body] 36) = w0 at *
  obtain ⟨A, hAe⟩ : ∃ A, w.heap.size = A := ⟨_, rfl⟩
  simp only [hAe] at hA hAl ⊢
  clear hAe
  go_wp2_with fail
  refine hD.mono ?_
  clear hD
  rintro e w1 ⟨gv1, nv1, wv1, S1, rfl, hO1, hS1, b1⟩
  obtain ⟨pg, pn, pw⟩ := hO1.parts
  obtain ⟨_, ga1, gcap1, rfl, _⟩ := pg.open
  obtain ⟨_, na1, ncap1, rfl, _⟩ := pn.form
  obtain ⟨_, wa1, wcap1, rfl, _⟩ := pw.form
  clear pg pn pw
  have hR1 := OBox.new w1 26 (.slice ga1 X.groups.length gcap1) (.slice na1 X.nodes.length ncap1) (.slice wa1 X.wires.length wcap1)
  have bx1 := below_a1 w1 (.cells #[.slice ga1 X.groups.length gcap1, .slice na1 X.nodes.length ncap1, .slice wa1 X.wires.length wcap1] 26)
  have hW1 := hO1.world.below bx1
  cases is
  · go_upto_region 3 with fail
    generalize w1.alloc (.cells #[.slice ga1 X.groups.length gcap1, .slice na1 X.nodes.length ncap1, .slice wa1 X.wires.length wcap1] 26) = w2 at *
    obtain ⟨B1, hB1⟩ : ∃ B, w1.heap.size = B := ⟨_, rfl⟩
    simp only [hB1] at hR1 ⊢
    clear hB1
    go_wp2_with fail
    refine (boundBegun_c w2).mono ?_
    rintro e w4 ⟨rfl, b4⟩
    go_wp2_with fail
    go_ret
    exact ⟨ret_bool (by simp), below_trans (below_trans bA (below_trans b1 bx1)) b4⟩
  obtain ⟨rc, hnl, hgr⟩ := hRE.out rfl
  clear hRE hgr
  subst hnl
  have hsm := gErr_small rc.inv.right.grp
  have hp0 : 0 < X.nodes.length := by omega
  have hp1 : X.nodes.length ≤ 1000 := by omega
  have hC1 := fun o => choose_c o hn64.out hp0 hp1
  have hxn := chooseN_lt (c := n) hp0
  generalize chooseN n X.nodes.length = k at *
  clear hsm hp0 hp1
  replace hC1 := Lib.hid hC1
  go_upto_region 4 with fail
  have hA2 := hA.below (below_trans b1 bx1) hAl
  have b2 := below_trans bA (below_trans b1 bx1)
  generalize w1.alloc (.cells #[.slice ga1 X.groups.length gcap1, .slice na1 X.nodes.length ncap1, .slice wa1 X.wires.length wcap1] 26) = w2 at *
  obtain ⟨B1, hB1⟩ : ∃ B, w1.heap.size = B := ⟨_, rfl⟩
  simp only [hB1] at hR1 ⊢
  clear hB1
  clear hO1 hS1 b1 bx1 bA hA hAl
  go_wp2_with fail
  refine (hC1.out _).mono ?_
  rintro e w' ⟨rfl, h⟩; subst h
  obtain ⟨_, _, _, e1, _, hnr, _⟩ := id hW1
  cases e1
  obtain ⟨b0, o0, c0, lv, hv, tv, e1, hc1, k0, k1, k2, k3, hk64, hrr, hh, htt⟩ := hnr.at hxn
  cases e1
  obtain ⟨_, la, lcap, rfl, _⟩ := hrr.form
  have hNk := rc.inv.right.node k hxn
  have hcl : ∀ g j, g < X.groups.length → j < X.nodes.length → ((X.nodes.getD k N.zero).last.getD g []).getD j 0 ≤ (X.nodes.getD j N.zero).clock := fun g j hg hj => rc.inv.hc k g j hxn hg hj
  have hlen := hNk.len
  have hrow := hNk.rows
  have hF := fun o (h : Below w2.heap.size w2 o) => BOf_c (hW1.below h) (k : Nat) (by unfold I64; omega)
  rw [rc.node hxn, rc.far hxn] at hF
  have hFin : (doF X x).1 = 0 → (nodeE (doF X x).2 (k : Nat) = 0 ∧ boundR (doF X x).2 (k : Nat) = boundX (doF X x).2 k) ∧ boundX X k ≤ boundX (doF X x).2 k ∧ (doF X x).2.nodes.length = X.nodes.length ∧ (X.nodes.getD k N.zero).clock ≤ ((doF X x).2.nodes.getD k N.zero).clock := fun h => by
    obtain ⟨hL, _, s⟩ := Reach.act h
    exact ⟨hL.node hxn, s.bound rc.inv.right k, hL.len, s.clocks k⟩
  have hK := fun o (h : Below w2.heap.size w2 o) => hDo.out _ _ X (hW1.below h)
  generalize boundX X k = far at *
  generalize doF X x = r at *
  obtain ⟨z, hz⟩ : ∃ z, X.nodes.getD k N.zero = z := ⟨_, rfl⟩
  simp only [hz] at *
  clear hz hnr hNk hDo hC1 hn64 rc
  replace hcl := Lib.hid hcl
  replace hlen := Lib.hid hlen
  replace hrow := Lib.hid hrow
  replace hF := Lib.hid hF
  replace hFin := Lib.hid hFin
  replace hK := Lib.hid hK
  have hl0 := cell_lt k0
  have hlA := cell_lt hA2.1
  have hlR := hR1.lt
  dsimp only at hl0 hlA
  have hk1 : decide ((k : Int) < 0) = false := by simp
  have hk2 : decide (X.nodes.length ≤ k) = false := by simp; omega
  obtain ⟨_, x0, x1, x2⟩ := id hR1
  go_wp2_with fail
  go_loopw [14] (fun i wr => ∃ g : Nat, g ≤ z.last.length ∧ i = .int .i64 g ∧ Below w2.heap.size w2 wr) (fun i _ => z.last.length - (intOf i).toNat)
  case atStart => exact ⟨0, by omega, rfl, Below.refl _ _⟩
  case round =>
    clear x0 x1 x2
    obtain ⟨g, hg0, rfl, hb⟩ := hrel
    have hRr := hR1.keep (hb.block _ hlR)
    obtain ⟨_, x0, x1, x2⟩ := id hRr
    have k1r := (hb.cell (p := ⟨b0, o0 + k * 4 + 1, none⟩) hl0).trans k1
    by_cases hlt : g < z.last.length
    · obtain ⟨b1, o1, c1, u1, e1, _, r1, hu1⟩ := (hrr.below hb).at hlt
      cases e1
      have hgl : g < X.groups.length := by rw [← hlen.out]; exact hlt
      have hrl := hrow.out g hgl
      have hcg := hcl.out g
      obtain ⟨row, HR⟩ : ∃ row, z.last.getD g [] = row := ⟨_, rfl⟩
      simp only [HR] at hu1 hrl hcg
      clear HR
      replace hcg := Lib.hid (fun j => hcg j hgl)
      replace hrl := Lib.hid hrl
      obtain ⟨_, a1, cap1, rfl, _⟩ := hu1.open
      have hl3 := cell_lt r1
      have hl4 := cell_lt x1
      have hl5 := cell_lt k1r
      dsimp only at hl3 hl4 hl5
      have hg1 : decide ((g : Int) < 0) = false := by simp
      have hg2 : decide (z.last.length ≤ g) = false := by simp; omega
      obtain ⟨wo, rfl⟩ : ∃ wo : World, wo = wr := ⟨_, rfl⟩
      go_wp2_with fail
      go_loopw [15] (fun i wr => ∃ j : Nat, j ≤ row.length ∧ i = .int .i64 j ∧ Below wo.heap.size wo wr) (fun i _ => row.length - (intOf i).toNat)
      case atStart => exact ⟨0, by omega, rfl, Below.refl _ _⟩
      case round =>
        obtain ⟨j, hj0, rfl, hb9⟩ := hrel
        have x1 := (hb9.cell (p := ⟨B1, 1, none⟩) hl4).trans x1
        have k1r := (hb9.cell (p := ⟨b0, o0 + k * 4 + 1, none⟩) hl5).trans k1r
        have r1 := (hb9.cell (p := ⟨b1, o1 + g, none⟩) hl3).trans r1
        by_cases hltj : j < row.length
        · obtain ⟨b3, o3, c3, e3, _, s1, _⟩ := (hu1.below hb9).at hltj
          cases e3
          have hjK : j < X.nodes.length := by rw [← hrl.out]; exact hltj
          obtain ⟨_, _, _, e1, _, hnr, _⟩ := (hW1.below hb).below hb9
          cases e1
          obtain ⟨_, _, _, _, _, _, e1, _, t0, _⟩ := hnr.at hjK
          cases e1
          have hle := hcg.out j hjK
          clear hnr
          generalize (X.nodes.getD j N.zero).clock = ck at *
          generalize row.getD j 0 = vl at *
          have hgt : decide (ck < vl) = false := decide_eq_false (by omega)
          have hj1 : decide ((j : Int) < 0) = false := by simp
          have hj2 : decide (row.length ≤ j) = false := by simp; omega
          have hj3 : decide (X.nodes.length ≤ j) = false := by simp; omega
          go_wp2_with fail
          go_quiet (fail)
          go_wp2_with fail
          go_roundw
          case rel => exact ⟨j + 1, by omega, by go_num, below_trans hb9 (below_drewN wr _)⟩
          case measure => simp [intOf]; omega
        · obtain rfl : j = row.length := by omega
          go_wp2_with fail
          go_roundw
          case rel => exact ⟨g + 1, by omega, by go_num, below_trans hb hb9⟩
          case measure => simp [intOf]; omega
    · obtain rfl : g = z.last.length := by omega
      go_upto_region 13 with fail
      have hA3 := hA2.below hb hlA
      obtain ⟨m0, m1, m2, m3⟩ := id hA3
      simp only [Nat.zero_add] at m0 m1 m2 m3
      have b3 := below_trans b2 hb
      have hK := hK.out wr hb
      have hF1 := fun o (h : Below wr.heap.size wr o) => hF.out o (below_trans hb h)
      have hW3 := hW1.below hb
      have k0 := (hb.cell (p := ⟨b0, o0 + k * 4, none⟩) hl0).trans k0
      replace hF1 := Lib.hid hF1
      clear hF hA2 hA3 hR1 hW1 hb b2 hrr hh htt k1r k1 k2 k3 hcl hlen hrow hlA hlR hl0
      go_wp2_with fail
      refine hK.mono ?_
      clear hK
      rintro e w4 ⟨gv4, nv4, wv4, S4, rfl, hO4, hS4, b4⟩
      obtain ⟨pg, pn, pw⟩ := hO4.parts
      obtain ⟨_, ga4, gcap4, rfl, _⟩ := pg.open
      obtain ⟨_, na4, ncap4, rfl, _⟩ := pn.form
      obtain ⟨_, wa4, wcap4, rfl, _⟩ := pw.form
      clear pg pn pw
      have hR4 := OBox.new w4 26 (.slice ga4 r.2.groups.length gcap4) (.slice na4 r.2.nodes.length ncap4) (.slice wa4 r.2.wires.length wcap4)
      have bx4 := below_a1 w4 (.cells #[.slice ga4 r.2.groups.length gcap4, .slice na4 r.2.nodes.length ncap4, .slice wa4 r.2.wires.length wcap4] 26)
      have hW4 := hO4.world.below bx4
      obtain ⟨w5, hw5⟩ : ∃ W, W = w4.alloc (.cells #[.slice ga4 r.2.groups.length gcap4, .slice na4 r.2.nodes.length ncap4, .slice wa4 r.2.wires.length wcap4] 26) := ⟨_, rfl⟩
      rw [← hw5] at hR4 bx4 hW4
      replace hw5 := Lib.hid hw5
      clear x0 x1 x2 m0 m1 m2 m3
      have b45 := below_trans b4 bx4
      have hR5 := hRr.keep (b45.block _ hRr.lt)
      have hF5 := fun o h => hF1.out o (below_trans b45 h)
      have k0 := (b45.cell (p := ⟨b0, o0 + k * 4, none⟩) (cell_lt k0)).trans k0
      have hW5 := hW3.below b45
      have b5 := below_trans b3 b45
      replace hF5 := Lib.hid hF5
      clear hRr hF1 hO4 hS4 b4 bx4 b3 b45 hW3
      by_cases h0 : r.1 = 0
      rotate_left
      · have hne : (r.1 != 0) = true := by simpa using h0
        replace h0 := Lib.hid h0
        go_upto_region 15 with fail
        rw [← hw5.out]
        clear hw5
        go_wp2_with fail
        refine (boundBegun_c w5).mono ?_
        rintro e w6 ⟨rfl, b6⟩
        go_wp2_with fail
        go_ret
        exact ⟨ret_bool (by simp), below_trans b5 b6⟩
      obtain ⟨⟨hN2, hB2⟩, hgr, hYl, hcc⟩ := hFin.out h0
      have hne : (r.1 != 0) = false := by rw [h0]; rfl
      replace h0 := Lib.hid h0
      clear hFin
      have hG5 := fun o h => BOf_c (hW4.below (w' := o) h) (k : Nat) (by unfold I64; omega)
      rw [hN2, hB2] at hG5
      obtain ⟨_, _, _, e1, _, hnY, _⟩ := id hW4
      cases e1
      obtain ⟨d0, p0, f0, lv, hv, tv, e1, hf1, j0, _, _, _, hj64, _⟩ := hnY.at (n := k) (by rw [hYl]; exact hxn)
      cases e1
      have q5 : ((r.2.nodes.length : Int) == (X.nodes.length : Int)) = true := beq_iff_eq.2 (by omega)
      have q6 : k < r.2.nodes.length := by omega
      generalize boundX r.2 k = far2 at *
      generalize (r.2.nodes.getD k N.zero).clock = ck2 at *
      replace hG5 := Lib.hid hG5
      clear hN2 hB2 hnY
      replace hYl := Lib.hid hYl
      go_upto_region 16 with fail
      rw [← hw5.out]
      clear hw5
      obtain ⟨B4, hB4⟩ : ∃ B, w4.heap.size = B := ⟨_, rfl⟩
      simp only [hB4] at hR4 ⊢
      clear hB4
      obtain ⟨_, x0, x1, x2⟩ := id hR5
      have hF5 := hF5.out w5 (Below.refl _ _)
      go_wp2_with fail
      refine hF5.mono ?_
      rintro e w6 ⟨rfl, b6⟩
      clear x0 x1 x2 hF5
      have hR6 := hR5.keep (b6.block _ hR5.lt)
      have hS6 := hR4.keep (b6.block _ hR4.lt)
      have k0 := (b6.cell (p := ⟨b0, o0 + k * 4, none⟩) (cell_lt k0)).trans k0
      have j0 := (b6.cell (p := ⟨d0, p0 + k * 4, none⟩) (cell_lt j0)).trans j0
      have hG6 := hG5.out w6 b6
      have b6 := below_trans b5 b6
      clear hR5 hR4 hG5 b5
      obtain ⟨_, y0, y1, y2⟩ := id hS6
      go_wp2_with fail
      refine hG6.mono ?_
      rintro e w7 ⟨rfl, b7⟩
      clear y0 y1 y2 hG6
      have hR7 := hR6.keep (b7.block _ hR6.lt)
      have hS7 := hS6.keep (b7.block _ hS6.lt)
      have k0 := (b7.cell (p := ⟨b0, o0 + k * 4, none⟩) (cell_lt k0)).trans k0
      have j0 := (b7.cell (p := ⟨d0, p0 + k * 4, none⟩) (cell_lt j0)).trans j0
      have b7 := below_trans b6 b7
      clear hR6 hS6 b6
      have q1 : decide (far ≤ far2) = true := decide_eq_true hgr
      have q2 : decide (z.clock ≤ ck2) = true := decide_eq_true hcc
      have q3 : decide (far2 < far) = false := decide_eq_false (by omega)
      have q4 : decide (ck2 < z.clock) = false := decide_eq_false (by omega)
      clear hgr hcc
      go_wp2_with fail
      have bd := below_drewN w7 1
      refine wp_region_N (fun _ => True) 0 37 rfl (by kernel_rfl) trivial (fun _ => ?_)
      refine N_one' (i := 0) (by kernel_rfl) rfl ?_
      go_wp2_with fail
      refine (boundBegun_c _).mono ?_
      rintro e w9 ⟨rfl, b9⟩
      go_wp2_with fail
      refine QK_normal ⟨fun _ => trivial, ?_⟩
      refine N_one' (i := 1) (by kernel_rfl) rfl ?_
      go_wp2_with fail
      refine QK_normal ⟨fun _ => trivial, ?_⟩
      have bz := below_trans bd b9
      have k0 := (bz.cell (p := ⟨b0, o0 + k * 4, none⟩) (cell_lt k0)).trans k0
      have j0 := (bz.cell (p := ⟨d0, p0 + k * 4, none⟩) (cell_lt j0)).trans j0
      have hBz := hR7.keep (bz.block _ hR7.lt)
      have hRz := hS7.keep (bz.block _ hS7.lt)
      have bz := below_trans b7 bz
      clear bd b9 hR7 hS7 b7
      obtain ⟨_, x0, x1, x2⟩ := id hBz
      obtain ⟨_, y0, y1, y2⟩ := id hRz
      refine N_quiet 2 35 rfl (by kernel_rfl) (by kernel_rfl) ?_
      simp only [List.drop_succ_cons, List.drop_zero]
      repeat (go_big_quiet_step (fail))
      refine wpQuiet_nil ?_
      intro _ hw'
      obtain ⟨nq, hw''⟩ := hw'
      subst hw''
      go_wp2_with fail
      go_ret
      exact ⟨ret_bool (by simp), below_trans bz (below_drewN _ _)⟩
end Go.Proofs.YtgifclphigpnhaaGreat
