/-
  CalmTrue: whatever was done, in a calm world nobody holds anything, and nothing is on its way.
-/
import Derived.Test.YtgifclphigpnhaaGreatIu
import Derived.Test.YtgifclphigpnhaaGreatLD
import Derived.Test.YtgifclphigpnhaaGreatKCd
set_option maxRecDepth 100000
namespace Go.Proofs.YtgifclphigpnhaaGreat
open Go.RowKit Go.Shelf Go.BigFrame

set_option maxHeartbeats 2000000 in
theorem CalmTrue_walk_of (w : World) {nodes : Int} {gv av : Value} {gs : List Int} {acts : List Ac} (_hn64 : I64 nodes) (hg : Ints w gv gs) (ha : Acts w av acts) :
    Calls Tryz.prog 7 #[.int .i64 nodes, gv, av] w (GivesB (.bool true) w) := by
  have hD := done_c hg nodes ha
  obtain ⟨_, aa, acap, rfl, _⟩ := ha.form
  obtain ⟨_, ga, gcap, rfl, _⟩ := hg.open
  have hRE := @doneX_reach nodes gs acts
  generalize doneX nodes gs acts = X at *
  generalize doneB nodes gs acts = b at *
  clear ha hg
  replace hRE := Lib.hid hRE
  go_enter Tryz.func7, Tryz.ntmps7
  go_wp2_with fail
  refine hD.mono ?_
  clear hD
  rintro e w1 ⟨gv1, nv1, wv1, S1, rfl, hO1, hS1, b1⟩
  obtain ⟨pg, pn, pw⟩ := hO1.parts
  obtain ⟨_, ga1, gcap1, rfl, _⟩ := pg.open
  obtain ⟨_, na1, ncap1, rfl, _⟩ := pn.form
  obtain ⟨_, wa1, wcap1, rfl, _⟩ := pw.form
  clear pg pn pw
  have hR1 := OBox.new w1 26 (.slice ga1 X.groups.length gcap1) (.slice na1 X.nodes.length ncap1) (.slice wa1 X.wires.length wcap1)
  have bx1 := below_a1 w1 (.cells #[.slice ga1 X.groups.length gcap1, .slice na1 X.nodes.length ncap1, .slice wa1 X.wires.length wcap1] 26)
  have hW1 := hO1.world.below bx1
  cases b
  · go_upto_region 3 with fail
    generalize w1.alloc (.cells #[.slice ga1 X.groups.length gcap1, .slice na1 X.nodes.length ncap1, .slice wa1 X.wires.length wcap1] 26) = w2 at *
    obtain ⟨B1, hB1⟩ : ∃ B, w1.heap.size = B := ⟨_, rfl⟩
    simp only [hB1] at hR1 ⊢
    clear hB1
    go_wp2_with fail
    refine (calmBegun_c w2).mono ?_
    rintro e w4 ⟨rfl, b4⟩
    go_wp2_with fail
    go_ret
    exact ⟨ret_bool (by simp), below_trans (below_trans b1 bx1) b4⟩
  obtain ⟨rc, hnl, hgr⟩ := hRE.out rfl
  clear hRE hgr
  replace hnl := Lib.hid hnl
  have hCl := rc.calm
  replace hCl := Lib.hid hCl
  go_upto_region 4 with fail
  generalize w1.alloc (.cells #[.slice ga1 X.groups.length gcap1, .slice na1 X.nodes.length ncap1, .slice wa1 X.wires.length wcap1] 26) = w2 at *
  obtain ⟨B1, hB1⟩ : ∃ B, w1.heap.size = B := ⟨_, rfl⟩
  simp only [hB1] at hR1 ⊢
  clear hB1
  have hC := Calm_c hW1
  generalize calmF X = r at *
  obtain ⟨_, x0, x1, x2⟩ := id hR1
  have b2 := below_trans b1 bx1
  clear hO1 hS1 b1 bx1
  go_wp2_with fail
  refine hC.mono ?_
  clear hC
  rintro e w3 ⟨gv3, nv3, wv3, S3, rfl, hO3, hS3, b3⟩
  obtain ⟨pg, pn, pw⟩ := hO3.parts
  obtain ⟨_, ga3, gcap3, rfl, _⟩ := pg.open
  obtain ⟨_, na3, ncap3, rfl, _⟩ := pn.form
  obtain ⟨_, wa3, wcap3, rfl, _⟩ := pw.form
  clear pg pn pw
  have hR3 := OBox.new w3 26 (.slice ga3 r.2.groups.length gcap3) (.slice na3 r.2.nodes.length ncap3) (.slice wa3 r.2.wires.length wcap3)
  have bx3 := below_a1 w3 (.cells #[.slice ga3 r.2.groups.length gcap3, .slice na3 r.2.nodes.length ncap3, .slice wa3 r.2.wires.length wcap3] 26)
  have hW3 := hO3.world.below bx3
  clear x0 x1 x2
  have b4 := below_trans b2 (below_trans b3 bx3)
  rcases hCl.out with ⟨h0, hL, _, hEm, hHd⟩ | h2
  rotate_left
  · have hne : (r.1 != 0) = true := by rw [h2]; rfl
    have heq : (r.1 == 2) = true := by rw [h2]; rfl
    replace h2 := Lib.hid h2
    go_upto_region 6 with fail
    generalize w3.alloc (.cells #[.slice ga3 r.2.groups.length gcap3, .slice na3 r.2.nodes.length ncap3, .slice wa3 r.2.wires.length wcap3] 26) = w4 at *
    obtain ⟨B3, hB3⟩ : ∃ B, w3.heap.size = B := ⟨_, rfl⟩
    simp only [hB3] at hR3 ⊢
    clear hB3
    go_wp2_with fail
    refine (calmBegun_c w4).mono ?_
    rintro e w5 ⟨rfl, b5⟩
    go_wp2_with fail
    go_ret
    exact ⟨ret_bool (by simp), below_trans b4 b5⟩
  have heq : (r.1 != 0) = false := by rw [h0]; rfl
  have hE := hL.right.err
  have hYl := hL.len
  have hYw := hL.right.nw
  have hYr := hL.right.row
  have hnl := hnl.out
  rw [← hYl] at hnl
  generalize r.2 = Y at *
  replace h0 := Lib.hid h0
  replace hE := Lib.hid hE
  replace hHd := Lib.hid hHd
  replace hEm := Lib.hid hEm
  replace hYr := Lib.hid hYr
  replace hYw := Lib.hid hYw
  replace hYl := Lib.hid hYl
  replace hnl := Lib.hid hnl
  clear hCl hL hR1 hW1
  go_upto_region 7 with fail
  generalize w3.alloc (.cells #[.slice ga3 Y.groups.length gcap3, .slice na3 Y.nodes.length ncap3, .slice wa3 Y.wires.length wcap3] 26) = w4 at *
  obtain ⟨B3, hB3⟩ : ∃ B, w3.heap.size = B := ⟨_, rfl⟩
  simp only [hB3] at hR3 ⊢
  clear hB3
  clear hO3 hS3 b3 bx3 b2
  go_wp2_with fail
  go_loopw [11] (fun i wr => ∃ n : Nat, n ≤ Y.nodes.length ∧ i = .int .i64 n ∧ Below w4.heap.size w4 wr) (fun i _ => Y.nodes.length - (intOf i).toNat)
  case atStart => exact ⟨0, by omega, rfl, Below.refl _ _⟩
  case round =>
    obtain ⟨n, hn0, rfl, hb⟩ := hrel
    have hRr := hR3.keep (hb.block _ hR3.lt)
    obtain ⟨_, x0, x1, x2⟩ := id hRr
    by_cases hlt : n < Y.nodes.length
    · obtain ⟨_, _, _, e1, _, hnr, _⟩ := hW3.below hb
      cases e1
      obtain ⟨b0, o0, c0, lv, hv, tv, e1, hc1, k0, k1, k2, k3, hk64, hrr, hh, htt⟩ := hnr.at hlt
      cases e1
      have hHn : (Y.nodes.getD n N.zero).held = [] := hHd.out n (by rw [← hYl.out]; exact hlt)
      rw [hHn] at hh
      obtain ⟨_, ha', hcap, rfl, _⟩ := hh.open
      clear hrr htt hnr hHn hh
      go_wp2_with fail
      go_roundw
      case rel => exact ⟨n + 1, by omega, by go_num, hb⟩
      case measure => simp [intOf]; omega
    · obtain rfl : n = Y.nodes.length := by omega
      have b5 := below_trans b4 hb
      have hR5 := hRr
      have hW5 := hW3.below hb
      clear hR3 hW3 b4 hb hRr x0 x1 x2
      obtain ⟨w5, rfl⟩ : ∃ wo : World, wo = wr := ⟨_, rfl⟩
      obtain ⟨_, x0, x1, x2⟩ := id hR5
      go_wp2_with fail
      go_loopw [12] (fun i wr => ∃ n : Nat, n ≤ Y.wires.length ∧ i = .int .i64 n ∧ Below w5.heap.size w5 wr) (fun i _ => Y.wires.length - (intOf i).toNat)
      case atStart => exact ⟨0, by omega, rfl, Below.refl _ _⟩
      case round =>
        clear x0 x1 x2
        obtain ⟨a, ha0, rfl, hb⟩ := hrel
        have hRr := hR5.keep (hb.block _ hR5.lt)
        have hW6 := hW5.below hb
        obtain ⟨_, x0, x1, x2⟩ := id hRr
        by_cases hlt : a < Y.wires.length
        · obtain ⟨_, _, _, e1, _, _, hwr⟩ := id hW6
          cases e1
          have haN : a < Y.nodes.length := by rw [← hYw.out]; exact hlt
          obtain ⟨bw, ow, cw, u1, e1, _, r1, hu1⟩ := hwr.row hlt
          cases e1
          have hrl := hYr.out a haN
          obtain ⟨row, HR⟩ : ∃ row, Y.wires.getD a [] = row := ⟨_, rfl⟩
          have hrow : ∀ c, c < row.length → row.getD c [] = [] := fun c hc => by
            rw [← HR]
            exact hEm.out a c haN (by rw [HR] at hrl; omega)
          rw [HR] at hu1
          clear HR hrl
          replace hrow := Lib.hid hrow
          obtain ⟨_, a1, cap1, rfl, _⟩ := hu1.form
          have hl1 := hRr.lt
          have hl3 := cell_lt r1
          dsimp only at hl3
          clear hwr
          obtain ⟨wo, rfl⟩ : ∃ wo : World, wo = wr := ⟨_, rfl⟩
          go_wp2_with fail
          go_loopw [13] (fun i wr => ∃ k : Nat, k ≤ row.length ∧ i = .int .i64 k ∧ Below wo.heap.size wo wr) (fun i _ => row.length - (intOf i).toNat)
          case atStart => exact ⟨0, by omega, rfl, Below.refl _ _⟩
          case round =>
            clear x0 x1 x2
            obtain ⟨k, hk0, rfl, hb9⟩ := hrel
            have hRq := hRr.keep (hb9.block _ hl1)
            obtain ⟨_, x0, x1, x2⟩ := id hRq
            have r1 := (hb9.cell (p := ⟨bw, ow + a, none⟩) hl3).trans r1
            by_cases hltk : k < row.length
            · obtain ⟨b3, o3, c3, v3, e3, _, s1, hI3⟩ := (hu1.below hb9).at hltk
              cases e3
              rw [hrow.out k hltk] at hI3
              obtain ⟨_, a3, cap3, rfl, _⟩ := hI3.open
              clear hI3
              go_wp2_with fail
              go_roundw
              case rel => exact ⟨k + 1, by omega, by go_num, hb9⟩
              case measure => simp [intOf]; omega
            · obtain rfl : k = row.length := by omega
              go_wp2_with fail
              go_roundw
              case rel => exact ⟨a + 1, by omega, by go_num, below_trans hb hb9⟩
              case measure => simp [intOf]; omega
        · obtain rfl : a = Y.wires.length := by omega
          have b6 := below_trans b5 hb
          clear hR5 hW5 b5 hb
          go_upto_region 20 with fail
          have hE6 := fun o (h : Below wr.heap.size wr o) => WCheck_c (hW6.below h)
          rw [hE.out] at hE6
          replace hE6 := Lib.hid hE6
          go_wp2_with fail
          refine (calmBegun_c wr).mono ?_
          rintro e w7 ⟨rfl, b7⟩
          have hR7 := hRr.keep (b7.block _ hRr.lt)
          have hE7 := hE6.out w7 b7
          have hnl2 : ((Y.nodes.length : Int) == nodes) = true := by simpa using hnl.out
          clear x0 x1 x2 hRr hW6 hE6
          obtain ⟨_, x0, x1, x2⟩ := id hR7
          go_wp2_with fail
          refine hE7.mono ?_
          rintro e w8 ⟨rfl, b8⟩
          go_wp2_with fail
          go_ret
          exact ⟨ret_bool (by simp), below_trans (below_trans b6 b7) b8⟩
end Go.Proofs.YtgifclphigpnhaaGreat
