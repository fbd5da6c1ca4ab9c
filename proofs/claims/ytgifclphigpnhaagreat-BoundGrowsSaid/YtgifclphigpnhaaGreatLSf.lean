/-
  AgreeSafe: whatever comes to a node later is beyond how far it is.
-/
import Derived.Test.YtgifclphigpnhaaGreatIu
import Derived.Test.YtgifclphigpnhaaGreatChs
import Derived.Test.YtgifclphigpnhaaGreatKB3
import Derived.Test.YtgifclphigpnhaaGreatKV
set_option maxRecDepth 100000
namespace Go.Proofs.YtgifclphigpnhaaGreat
open Go.RowKit Go.Shelf Go.BigFrame

theorem Reach.node {X : Wd} (r : Reach X) {k : Nat} (hk : k < X.nodes.length) : nodeE X (k : Nat) = 0 := by
  unfold nodeE
  rw [if_pos r.inv.right.err, if_pos (by rw [inB_mk (by omega) (by omega)])]
theorem Reach.far {X : Wd} (r : Reach X) {k : Nat} (hk : k < X.nodes.length) : boundR X (k : Nat) = boundX X k := by
  unfold boundR
  rw [if_pos (r.node hk), Int.toNat_natCast]
theorem Reach.moveF {X : Wd} (r : Reach X) {a b : Nat} (ha : a < X.nodes.length) (hb : b < X.nodes.length) : moveF X (a : Nat) (b : Nat) = moveR X a b := by
  unfold Go.Proofs.YtgifclphigpnhaaGreat.moveF moveE
  rw [r.node ha, r.node hb]
  rfl

set_option maxHeartbeats 2000000 in
theorem AgreeSafe_walk_of (w : World) {nodes a b : Int} {gv av : Value} {gs : List Int} {acts : List Ac} (_hn64 : I64 nodes) (hg : Ints w gv gs) (ha : Acts w av acts) (ha64 : I64 a) (hb64 : I64 b) :
    Calls Tryz.prog 9 #[.int .i64 nodes, gv, av, .int .i64 a, .int .i64 b] w (GivesB (.bool true) w) := by
  have hD := done_c hg nodes ha
  obtain ⟨_, aa, acap, rfl, _⟩ := ha.form
  obtain ⟨_, ga, gcap, rfl, _⟩ := hg.open
  have hRE := @doneX_reach nodes gs acts
  generalize doneX nodes gs acts = X at *
  generalize doneB nodes gs acts = is at *
  clear ha hg
  replace hRE := Lib.hid hRE
  replace ha64 := Lib.hid ha64
  replace hb64 := Lib.hid hb64
  go_enter Tryz.func9, Tryz.ntmps9
  go_wp2_with fail
  refine hD.mono ?_
  clear hD
  rintro e w1 ⟨gv1, nv1, wv1, S1, rfl, hO1, hS1, b1⟩
  obtain ⟨pg, pn, pw⟩ := hO1.parts
  obtain ⟨_, ga1, gcap1, rfl, _⟩ := pg.open
  obtain ⟨_, na1, ncap1, rfl, _⟩ := pn.form
  obtain ⟨_, wa1, wcap1, rfl, _⟩ := pw.form
  clear pg pn pw
  have hR1 := OBox.new w1 26 (.slice ga1 X.groups.length gcap1) (.slice na1 X.nodes.length ncap1) (.slice wa1 X.wires.length wcap1)
  have bx1 := below_a1 w1 (.cells #[.slice ga1 X.groups.length gcap1, .slice na1 X.nodes.length ncap1, .slice wa1 X.wires.length wcap1] 26)
  have hW1 := hO1.world.below bx1
  cases is
  · go_upto_region 3 with fail
    generalize w1.alloc (.cells #[.slice ga1 X.groups.length gcap1, .slice na1 X.nodes.length ncap1, .slice wa1 X.wires.length wcap1] 26) = w2 at *
    obtain ⟨B1, hB1⟩ : ∃ B, w1.heap.size = B := ⟨_, rfl⟩
    simp only [hB1] at hR1 ⊢
    clear hB1
    go_wp2_with fail
    refine (boundBegun_c w2).mono ?_
    rintro e w4 ⟨rfl, b4⟩
    go_wp2_with fail
    go_ret
    exact ⟨ret_bool (by simp), below_trans (below_trans b1 bx1) b4⟩
  obtain ⟨rc, hnl, hgr⟩ := hRE.out rfl
  clear hRE hgr
  subst hnl
  have hsm := gErr_small rc.inv.right.grp
  have hp0 : 0 < X.nodes.length := by omega
  have hp1 : X.nodes.length ≤ 1000 := by omega
  have hC1 := fun o => choose_c o ha64.out hp0 hp1
  have hC2 := fun o => choose_c o hb64.out hp0 hp1
  have hx1 := chooseN_lt (c := a) hp0
  have hx2 := chooseN_lt (c := b) hp0
  generalize chooseN a X.nodes.length = x at *
  generalize chooseN b X.nodes.length = y at *
  clear hsm hp0 hp1
  replace hC1 := Lib.hid hC1
  replace hC2 := Lib.hid hC2
  go_upto_region 4 with fail
  generalize w1.alloc (.cells #[.slice ga1 X.groups.length gcap1, .slice na1 X.nodes.length ncap1, .slice wa1 X.wires.length wcap1] 26) = w2 at *
  obtain ⟨B1, hB1⟩ : ∃ B, w1.heap.size = B := ⟨_, rfl⟩
  simp only [hB1] at hR1 ⊢
  clear hB1
  have b2 := below_trans b1 bx1
  clear hO1 hS1 b1 bx1
  go_wp2_with fail
  refine (hC1.out _).mono ?_
  rintro e w' ⟨rfl, h⟩; subst h
  go_wp2_with fail
  refine (hC2.out _).mono ?_
  rintro e w' ⟨rfl, h⟩; subst h
  have hF := fun o (h : Below w2.heap.size w2 o) => BOf_c (hW1.below h) (y : Nat) (by unfold I64; omega)
  rw [rc.node hx2, rc.far hx2] at hF
  have hM := fun o (h : Below w2.heap.size w2 o) => One_c (hW1.below h) (x : Nat) (y : Nat) (by unfold I64; omega) (by unfold I64; omega)
  rw [rc.moveF hx1 hx2] at hM
  have hOne := rc.one hx1 hx2
  have hXr := rc.inv.right.row x hx1
  have hXw := rc.inv.right.nw
  generalize moveR X x y = r at *
  generalize boundX X y = far at *
  replace hF := Lib.hid hF
  replace hM := Lib.hid hM
  replace hOne := Lib.hid hOne
  replace hXr := Lib.hid hXr
  replace hXw := Lib.hid hXw
  clear rc hC1 hC2 ha64 hb64
  obtain ⟨_, x0, x1, x2⟩ := id hR1
  go_wp2_with fail
  refine (hF.out _ (Below.refl _ _)).mono ?_
  rintro e w3 ⟨rfl, b3⟩
  have hR3 := hR1.keep (b3.block _ hR1.lt)
  have hM := hM.out w3 b3
  have hW3 := hW1.below b3
  have b3 := below_trans b2 b3
  clear x0 x1 x2 hF
  obtain ⟨_, x0, x1, x2⟩ := id hR3
  go_wp2_with fail
  refine hM.mono ?_
  rintro e w4 ⟨gv4, nv4, wv4, S4, rfl, hO4, hS4, b4⟩
  obtain ⟨pg, pn, pw⟩ := hO4.parts
  obtain ⟨_, ga4, gcap4, rfl, _⟩ := pg.open
  obtain ⟨_, na4, ncap4, rfl, _⟩ := pn.form
  obtain ⟨_, wa4, wcap4, rfl, _⟩ := pw.form
  have bx4 := below_a1 w4 (.cells #[.slice ga4 r.2.groups.length gcap4, .slice na4 r.2.nodes.length ncap4, .slice wa4 r.2.wires.length wcap4] 26)
  clear pg pn pw hO4 hS4 hM x0 x1 x2 b2 hR1 hW1
  have b34 := below_trans b4 bx4
  have hR5 := hR3.keep (b34.block _ hR3.lt)
  have hW5 := hW3.below b34
  have b5 := below_trans b3 b34
  clear hR3 hW3 b34 b4 bx4 b3
  rcases hOne.out with ⟨h0, hSt⟩ | h2
  rotate_left
  · have hne : (r.1 != 0) = true := by rcases h2 with h2 | h2 <;> (rw [h2]; rfl)
    have heq : ((r.1 == 2) || (r.1 == 7)) = true := by rcases h2 with h2 | h2 <;> (rw [h2]; rfl)
    replace h2 := Lib.hid h2
    go_upto_region 10 with fail
    generalize w4.alloc (.cells #[.slice ga4 r.2.groups.length gcap4, .slice na4 r.2.nodes.length ncap4, .slice wa4 r.2.wires.length wcap4] 26) = w5 at *
    go_wp2_with fail
    refine (boundBegun_c w5).mono ?_
    rintro e w6 ⟨rfl, b6⟩
    cases h27 : (r.1 == 2)
    · rw [h27, Bool.false_or] at heq
      go_wp2_with fail
      go_ret
      exact ⟨ret_bool (by simp), below_trans b5 b6⟩
    · go_wp2_with fail
      go_ret
      exact ⟨ret_bool (by simp), below_trans b5 b6⟩
  have hne : (r.1 != 0) = false := by rw [h0]; rfl
  replace h0 := Lib.hid h0
  replace hSt := Lib.hid hSt
  clear hOne
  go_upto_region 11 with fail
  generalize w4.alloc (.cells #[.slice ga4 r.2.groups.length gcap4, .slice na4 r.2.nodes.length ncap4, .slice wa4 r.2.wires.length wcap4] 26) = w5 at *
  obtain ⟨_, _, _, e1, _, _, hwr⟩ := id hW5
  cases e1
  obtain ⟨bw, ow, cw, u1, e1, _, r1, hu1⟩ := hwr.row (a := x) (by rw [hXw.out]; exact hx1)
  cases e1
  obtain ⟨bx, ox, cx, u2, rfl, _, r2, hu2⟩ := hu1.at (a := y) (by rw [hXr.out]; exact hx2)
  change Msgs w5 u2 (wireL X x y) at hu2
  rw [hXr.out] at r1
  rw [hXw.out] at hR5
  obtain ⟨l, HL⟩ : ∃ l, wireL X x y = l := ⟨_, rfl⟩
  rw [HL] at hu2 hSt
  clear HL hwr hu1 hXw hXr hW5
  obtain ⟨_, ua, cu, rfl, hcu, hum⟩ := hu2.open
  have hl1 := hR5.lt
  have hl3 := cell_lt r1
  have hl4 := cell_lt r2
  dsimp only at hl3 hl4
  have hk1 : decide ((x : Int) < 0) = false := by simp
  have hk2 : decide (X.nodes.length ≤ x) = false := by simp; omega
  have hk3 : decide ((y : Int) < 0) = false := by simp
  have hk4 : decide (X.nodes.length ≤ y) = false := by simp; omega
  clear hum
  go_wp2_with fail
  go_loopw [19] (fun i wr => ∃ k : Nat, k ≤ l.length ∧ i = .int .i64 k ∧ Below w5.heap.size w5 wr) (fun i _ => l.length - (intOf i).toNat)
  case atStart => exact ⟨0, by omega, rfl, Below.refl _ _⟩
  case round =>
    obtain ⟨k, hk0, rfl, hb⟩ := hrel
    have hRr := hR5.keep (hb.block _ hl1)
    obtain ⟨_, x0, x1, x2⟩ := id hRr
    have r1 := (hb.cell (p := ⟨bw, ow + x, none⟩) hl3).trans r1
    have r2 := (hb.cell (p := ⟨bx, ox + y, none⟩) hl4).trans r2
    have hur := hu2.below hb
    by_cases hlt : k < l.length
    · obtain ⟨_, _, _, e1, _, hum⟩ := hur.open
      cases e1
      obtain ⟨bm, om, rfl, hun⟩ := hum (by intro e; rw [e] at hlt; simp at hlt)
      obtain ⟨m0, m1, m2, m3, m4⟩ := hun k hlt
      have hst := hSt.out (l.getD k M.zero) (getD_mem l M.zero hlt)
      generalize l.getD k M.zero = m at *
      have hle : decide (m.stamp ≤ far) = false := decide_eq_false (by omega)
      clear hum hun
      go_wp2_with fail
      go_roundw
      case rel => exact ⟨k + 1, by omega, by go_num, hb⟩
      case measure => simp [intOf]; omega
    · obtain rfl : k = l.length := by omega
      go_wp2_with fail
      refine (boundBegun_c wr).mono ?_
      rintro e w6 ⟨rfl, b6⟩
      go_wp2_with fail
      go_ret
      exact ⟨ret_bool (by simp), below_trans (below_trans b5 hb) b6⟩
end Go.Proofs.YtgifclphigpnhaaGreat
