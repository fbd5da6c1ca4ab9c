/-
  AgreeGrows: what is told later is behind all that was told.
-/
import Derived.Test.YtgifclphigpnhaaGreatChs
import Derived.Test.YtgifclphigpnhaaGreatIa
import Derived.Test.YtgifclphigpnhaaGreatAgB
set_option maxRecDepth 100000
namespace Go.Proofs.YtgifclphigpnhaaGreat
open Go.RowKit Go.Shelf Go.BigFrame

theorem Reach.acts {X : Wd} {x : Ac} (h : (doF X x).1 = 0) : Like X (doF X x).2 ∧ ∃ k, Steps X k (doF X x).2 := by
  obtain ⟨hR, k, _, s⟩ := doF_steps h
  exact ⟨s.like hR, k, s⟩

set_option maxHeartbeats 2000000 in
theorem AgreeGrows_walk_of (w : World) {nodes n : Int} {gv av xv : Value} {gs : List Int} {acts : List Ac} {x : Ac} (_hn64 : I64 nodes) (hg : Ints w gv gs) (ha : Acts w av acts) (hx : x.fits ∧ xv = x.val) (hn64 : I64 n) :
    Calls Tryz.prog 12 #[.int .i64 nodes, gv, av, xv, .int .i64 n] w (GivesB (.bool true) w) := by
  obtain ⟨hxf, rfl⟩ := hx
  have bA := below_a1 w (.cells #[.int .i64 x.kind, .int .i64 x.one, .int .i64 x.two, .string x.body] 36)
  have hA := AcBox.new w x 36
  have hD := done_c (hg.below bA) nodes (ha.below bA)
  have hAl : w.heap.size < (w.alloc (.cells #[.int .i64 x.kind, .int .i64 x.one, .int .i64 x.two, .string x.body] 36)).heap.size := by rw [World.size_alloc]; omega
  obtain ⟨_, aa, acap, rfl, _⟩ := ha.form
  obtain ⟨_, ga, gcap, rfl, _⟩ := hg.open
  have hRE := @doneX_reach nodes gs acts
  generalize doneX nodes gs acts = X at *
  generalize doneB nodes gs acts = is at *
  clear ha hg
  replace hRE := Lib.hid hRE
  replace hn64 := Lib.hid hn64
  replace hxf := Lib.hid hxf
  have hDo := fun (w : World) (v : Value) (X : Wd) (h : WorldAt w v X) => Do_c h hxf.out
  unfold Ac.val at hDo ⊢
  replace hDo := Lib.hid hDo
  go_enter Tryz.func12, Tryz.ntmps12
  go_upto_region 1 with fail
  generalize w.alloc (.cells #[.int .i64 x.kind, .int .i64 x.one, .int .i64 x.two, .string x.body] 36) = w0 at *
  obtain ⟨A, hAe⟩ : ∃ A, w.heap.size = A := ⟨_, rfl⟩
  simp only [hAe] at hA hAl ⊢
  clear hAe
  go_wp2_with fail
  refine hD.mono ?_
  clear hD
  rintro e w1 ⟨gv1, nv1, wv1, S1, rfl, hO1, hS1, b1⟩
  obtain ⟨pg, pn, pw⟩ := hO1.parts
  obtain ⟨_, ga1, gcap1, rfl, _⟩ := pg.open
  obtain ⟨_, na1, ncap1, rfl, _⟩ := pn.form
  obtain ⟨_, wa1, wcap1, rfl, _⟩ := pw.form
  clear pg pn pw
  have hR1 := OBox.new w1 26 (.slice ga1 X.groups.length gcap1) (.slice na1 X.nodes.length ncap1) (.slice wa1 X.wires.length wcap1)
  have bx1 := below_a1 w1 (.cells #[.slice ga1 X.groups.length gcap1, .slice na1 X.nodes.length ncap1, .slice wa1 X.wires.length wcap1] 26)
  have hW1 := hO1.world.below bx1
  cases is
  · go_upto_region 3 with fail
    generalize w1.alloc (.cells #[.slice ga1 X.groups.length gcap1, .slice na1 X.nodes.length ncap1, .slice wa1 X.wires.length wcap1] 26) = w2 at *
    obtain ⟨B1, hB1⟩ : ∃ B, w1.heap.size = B := ⟨_, rfl⟩
    simp only [hB1] at hR1 ⊢
    clear hB1
    go_wp2_with fail
    refine (agreeBegun_c w2).mono ?_
    rintro e w4 ⟨rfl, b4⟩
    go_wp2_with fail
    go_ret
    exact ⟨ret_bool (by simp), below_trans (below_trans bA (below_trans b1 bx1)) b4⟩
  obtain ⟨rc, hnl, hgr⟩ := hRE.out rfl
  clear hRE hgr
  subst hnl
  have hsm := gErr_small rc.inv.right.grp
  have hp0 : 0 < X.nodes.length := by omega
  have hp1 : X.nodes.length ≤ 1000 := by omega
  have hC1 := fun o => choose_c o hn64.out hp0 hp1
  have hxn := chooseN_lt (c := n) hp0
  generalize chooseN n X.nodes.length = k at *
  clear hsm hp0 hp1
  replace hC1 := Lib.hid hC1
  go_upto_region 4 with fail
  have hA2 := hA.below (below_trans b1 bx1) hAl
  have b2 := below_trans bA (below_trans b1 bx1)
  generalize w1.alloc (.cells #[.slice ga1 X.groups.length gcap1, .slice na1 X.nodes.length ncap1, .slice wa1 X.wires.length wcap1] 26) = w2 at *
  obtain ⟨B1, hB1⟩ : ∃ B, w1.heap.size = B := ⟨_, rfl⟩
  simp only [hB1] at hR1 ⊢
  clear hB1
  clear hO1 hS1 b1 bx1 bA hA hAl
  have hFin : (doF X x).1 = 0 → (doF X x).2.nodes.length = X.nodes.length ∧ (∃ R, ((doF X x).2.nodes.getD k N.zero).told = (X.nodes.getD k N.zero).told ++ R) ∧ risesB ((doF X x).2.nodes.getD k N.zero).told = true := fun h => by
    obtain ⟨hL, _, s⟩ := Reach.acts h
    exact ⟨hL.len, s.told k, (hL.right.node k (by rw [hL.len]; exact hxn)).told.rise⟩
  have hK := fun o (h : Below w2.heap.size w2 o) => hDo.out _ _ X (hW1.below h)
  generalize doF X x = r at *
  clear hDo rc hn64
  replace hFin := Lib.hid hFin
  replace hK := Lib.hid hK
  obtain ⟨m0, m1, m2, m3⟩ := id hA2
  simp only [Nat.zero_add] at m0 m1 m2 m3
  obtain ⟨_, x0, x1, x2⟩ := id hR1
  go_wp2_with fail
  refine (hK.out _ (Below.refl _ _)).mono ?_
  clear hK
  rintro e w4 ⟨gv4, nv4, wv4, S4, rfl, hO4, hS4, b4⟩
  obtain ⟨pg, pn, pw⟩ := hO4.parts
  obtain ⟨_, ga4, gcap4, rfl, _⟩ := pg.open
  obtain ⟨_, na4, ncap4, rfl, _⟩ := pn.form
  obtain ⟨_, wa4, wcap4, rfl, _⟩ := pw.form
  clear pg pn pw
  have hR4 := OBox.new w4 26 (.slice ga4 r.2.groups.length gcap4) (.slice na4 r.2.nodes.length ncap4) (.slice wa4 r.2.wires.length wcap4)
  have bx4 := below_a1 w4 (.cells #[.slice ga4 r.2.groups.length gcap4, .slice na4 r.2.nodes.length ncap4, .slice wa4 r.2.wires.length wcap4] 26)
  have hW4 := hO4.world.below bx4
  clear x0 x1 x2 m0 m1 m2 m3 hA2
  have hR1 := hR1.keep ((below_trans b4 bx4).block _ hR1.lt)
  have hW1 := hW1.below (below_trans b4 bx4)
  have b5 := below_trans b2 (below_trans b4 bx4)
  by_cases he : r.1 = 0
  rotate_left
  · have hne : (r.1 != 0) = true := by simpa using he
    replace he := Lib.hid he
    go_upto_region 6 with fail
    generalize w4.alloc (.cells #[.slice ga4 r.2.groups.length gcap4, .slice na4 r.2.nodes.length ncap4, .slice wa4 r.2.wires.length wcap4] 26) = w5 at *
    obtain ⟨B4, hB4⟩ : ∃ B, w4.heap.size = B := ⟨_, rfl⟩
    simp only [hB4] at hR4 ⊢
    clear hB4
    go_wp2_with fail
    refine (agreeBegun_c w5).mono ?_
    rintro e w6 ⟨rfl, b6⟩
    go_wp2_with fail
    go_ret
    exact ⟨ret_bool (by simp), below_trans b5 b6⟩
  have hne : (r.1 != 0) = false := by simpa using he
  obtain ⟨hYl, ⟨R, hTo⟩, hRi⟩ := hFin.out he
  replace he := Lib.hid he
  clear hFin hO4 hS4 b4 bx4 b2
  rw [hYl] at hR4 ⊢
  replace hYl := Lib.hid hYl
  go_upto_region 7 with fail
  rw [← hYl.out] at hR4 ⊢
  generalize w4.alloc (.cells #[.slice ga4 r.2.groups.length gcap4, .slice na4 r.2.nodes.length ncap4, .slice wa4 r.2.wires.length wcap4] 26) = w5 at *
  obtain ⟨B4, hB4⟩ : ∃ B, w4.heap.size = B := ⟨_, rfl⟩
  simp only [hB4] at hR4 ⊢
  clear hB4
  rw [hYl.out] at hR4
  simp only [hYl.out] at ⊢
  go_wp2_with fail
  refine (hC1.out _).mono ?_
  rintro e w' ⟨rfl, h⟩; subst h
  obtain ⟨_, _, _, e1, _, hnr1, _⟩ := id hW1
  cases e1
  obtain ⟨c1, d1, f1, lv1, hv1, tv1, e1, hc1, _, _, _, k3, _, _, _, ht1⟩ := hnr1.at hxn
  cases e1
  obtain ⟨_, _, _, e1, _, hnr4, _⟩ := id hW4
  cases e1
  obtain ⟨c4, d4, f4, lv4, hv4, tv4, e1, hc4, _, _, _, q3, _, _, _, ht4⟩ := hnr4.at (n := k) (by rw [hYl.out]; exact hxn)
  cases e1
  rw [hYl.out] at hc4
  obtain ⟨l1, H1⟩ : ∃ l, (X.nodes.getD k N.zero).told = l := ⟨_, rfl⟩
  obtain ⟨l2, H2⟩ : ∃ l, (r.2.nodes.getD k N.zero).told = l := ⟨_, rfl⟩
  rw [H1] at ht1 hTo
  rw [H2] at ht4 hTo hRi
  have hle : l1.length ≤ l2.length := by rw [hTo, List.length_append]; omega
  have htk : sameMs (l2.take l1.length) l1 = true := sameMs_iff.2 (by rw [hTo, List.take_left])
  clear H1 H2 hTo hnr1 hnr4 hW1 hW4 hC1 hc1 hc4
  obtain ⟨hl1, u1, v1, rfl, hv1', _⟩ := ht1.open
  obtain ⟨hl2, u4, v4, rfl, hv4', hcc⟩ := ht4.open
  have hSm := fun o (h : Below w5.heap.size w5 o) => SameMsgs_c ((ht4.takes hle).below h) (ht1.below h)
  rw [htk] at hSm
  replace hSm := Lib.hid hSm
  have hRl := Lib.hid (fun t (h : t + 1 < l2.length) => rises_lt (ms := l2) hRi (s := t) (t := t + 1) (by omega) h)
  replace hcc := Lib.hid hcc
  replace htk := Lib.hid htk
  clear hRi
  have hk1 : decide ((k : Int) < 0) = false := by simp
  have hk2 : decide (X.nodes.length ≤ k) = false := by simp; omega
  have hq1 : decide ((l2.length : Int) < (l1.length : Int)) = false := decide_eq_false (by omega)
  obtain ⟨_, x0, x1, x2⟩ := id hR1
  obtain ⟨_, y0, y1, y2⟩ := id hR4
  go_wp2_with fail
  go_quiet (fail)
  go_wp2_with fail
  refine (hSm.out _ (below_drewN w5 _)).mono ?_
  rintro e w6 ⟨rfl, d6⟩
  have b6 := below_trans (below_drewN w5 _) d6.below
  clear x0 x1 x2 y0 y1 y2 hSm
  go_wp2_with fail
  go_loopw [18] (fun i wr => ∃ t : Nat, i = .int .i64 (t + 1 : Nat) ∧ (t + 1 ≤ l2.length ∨ t = 0) ∧ Below w5.heap.size w5 wr) (fun i _ => l2.length - (intOf i).toNat)
  case atStart => exact ⟨0, rfl, Or.inr rfl, b6⟩
  case round =>
    obtain ⟨t, rfl, ht, hb⟩ := hrel
    by_cases hlt : t + 1 < l2.length
    · obtain ⟨b8, o8, rfl, hc8⟩ := hcc.out (by intro e; rw [e] at hlt; simp at hlt)
      have hm := (hc8 (t + 1) hlt).below hb
      have hp := (hc8 t (by omega)).below hb
      have hls := hRl.out t hlt
      generalize l2.getD (t + 1) M.zero = m at *
      generalize l2.getD t M.zero = p at *
      clear hc8
      obtain ⟨m0, m1, m2, m3, m4⟩ := hm
      obtain ⟨p0, p1, p2, p3, p4⟩ := hp
      have hi1 : decide (((t : Int) + 1) < 0) = false := decide_eq_false (by omega)
      have hi2 : decide (l2.length ≤ t) = false := by simp; omega
      have hi3 : decide (l2.length ≤ t + 1) = false := by simp; omega
      rcases lessM_iff.1 hls with hs | ⟨hs, hf⟩
      · have hd1 : decide (m.stamp < p.stamp) = false := decide_eq_false (by omega)
        have hd2 : (p.stamp == m.stamp) = false := by simp; omega
        replace hs := Lib.hid hs
        go_wp2_with fail
        go_quiet (fail)
        go_wp2_with fail
        go_roundw
        case rel => exact ⟨t + 1, by go_num, Or.inl (by omega), below_trans hb (below_drewN _ _)⟩
        case measure => simp [intOf]; omega
      · have hd1 : decide (m.stamp < p.stamp) = false := decide_eq_false (by omega)
        have hd2 : (p.stamp == m.stamp) = true := by simp; omega
        have hd3 : decide (m.src ≤ p.src) = false := decide_eq_false (by omega)
        replace hs := Lib.hid hs
        replace hf := Lib.hid hf
        go_wp2_with fail
        go_quiet (fail)
        go_wp2_with fail
        go_roundw
        case rel => exact ⟨t + 1, by go_num, Or.inl (by omega), below_trans hb (below_drewN _ _)⟩
        case measure => simp [intOf]; omega
    · go_wp2_with fail
      refine (agreeBegun_c wr).mono ?_
      rintro e w7 ⟨rfl, b7⟩
      go_wp2_with fail
      go_ret
      exact ⟨ret_bool (by simp), below_trans (below_trans b5 hb) b7⟩
end Go.Proofs.YtgifclphigpnhaaGreat
