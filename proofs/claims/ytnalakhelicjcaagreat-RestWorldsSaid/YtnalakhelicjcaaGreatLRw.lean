/-
  RestWorlds: what came, and was changed, changes nothing that was handed in, nor what comes next.
-/
import Derived.Test.YtnalakhelicjcaaGreatRSt
import Derived.Test.YtnalakhelicjcaaGreatLgB
import Derived.Test.YtnalakhelicjcaaGreatSW
import Derived.Test.YtnalakhelicjcaaGreatAlO
import Derived.Test.YtnalakhelicjcaaGreatOwn
set_option maxRecDepth 100000
namespace Go.Proofs.YtnalakhelicjcaaGreat
open Go.RowKit Go.Shelf Go.BigFrame

theorem allF_len (X : Wd) : (allF X).2.length ≤ 160 := by
  unfold allF
  split
  · rename_i he
    have hR := right_of he
    split
    · rename_i l hl
      rw [← preL_end] at hl
      obtain ⟨h1, h2, _⟩ := allO_ok hl
      rw [preL_end] at h2
      exact Nat.le_trans h2 (toldL_len hR)
    · simp
  · simp

theorem mneg_fits : (⟨0, 0, -1, false, ⟨#[]⟩⟩ : M).fits := by
  refine ⟨?_, ?_, ?_, ?_⟩ <;> simp [I64, ByteArray.size]
theorem mzero_fits : M.zero.fits := by
  refine ⟨?_, ?_, ?_, ?_⟩ <;> simp [I64, M.zero]

set_option maxHeartbeats 8000000 in
theorem RestWorlds_walk_of (w : World) {v xv : Value} {X : Wd} {x : Ac} (hW : WorldAt w v X) (hx : x.fits ∧ xv = x.val) :
    Calls Tryz.prog 8 #[v, xv] w (GivesB (.bool true) w) := by
  obtain ⟨hxf, rfl⟩ := hx
  have hW0 := hW
  obtain ⟨gv, nv, wv, rfl, hg, hn, hw⟩ := hW
  obtain ⟨_, na, ncap, rfl, _⟩ := hn.form
  obtain ⟨_, ga, gcap, rfl, _⟩ := hg.open
  obtain ⟨_, wa, wcap, rfl, _⟩ := hw.form
  have hB := OBox.new w 37 (.slice ga X.groups.length gcap) (.slice na X.nodes.length ncap) (.slice wa X.wires.length wcap)
  have b0 := below_a1 w (.cells #[.slice ga X.groups.length gcap, .slice na X.nodes.length ncap, .slice wa X.wires.length wcap] 37)
  obtain ⟨w0, hw0⟩ : ∃ W, W = w.alloc (.cells #[.slice ga X.groups.length gcap, .slice na X.nodes.length ncap, .slice wa X.wires.length wcap] 37) := ⟨_, rfl⟩
  rw [← hw0] at hB b0
  have hs0 : w0.heap.size = w.heap.size + 1 := by rw [hw0, World.size_alloc]
  have bM := below_a1 w0 (.cells #[.int .i64 x.kind, .int .i64 x.one, .int .i64 x.two, .string x.body] 23)
  have hM := AcBox.new w0 x 23
  have hMl : w0.heap.size < (w0.alloc (.cells #[.int .i64 x.kind, .int .i64 x.one, .int .i64 x.two, .string x.body] 23)).heap.size := by rw [World.size_alloc]; omega
  have hB := hB.keep (bM.block _ hB.lt)
  have b1 := below_trans b0 bM
  rw [hs0] at hM hMl
  have hE := WorldError_c (hW0.below b1)
  have hDo := fun o (h : Below w.heap.size w o) => Do_c (hW0.below h) hxf
  have hDr := fun o (h : Below w.heap.size w o) => DoOf_c (hW0.below h) hxf (fun _ _ h => CalmOf_c h)
  have hAl := fun o (h : Below w.heap.size w o) => TAll_c (hW0.below h)
  have hAr := fun o (h : Below w.heap.size w o) => AllOf_c (hW0.below h)
  have hOw := fun (he : errX X = 0) o (h : Below w.heap.size w o) => OwnWorld_c (hg.below h) (hn.below h) (hw.below h) (errX_fit he).small
  have hal := allF_len X
  clear hg hn hw
  generalize doF X x = r at *
  generalize allF X = q at *
  generalize errX X = e0 at *
  unfold Ac.val at hDo hDr ⊢
  replace hDo := Lib.hid hDo
  replace hDr := Lib.hid hDr
  replace hAl := Lib.hid hAl
  replace hAr := Lib.hid hAr
  replace hOw := Lib.hid hOw
  replace hal := Lib.hid hal
  replace hw0 := Lib.hid hw0
  clear hxf
  go_enter Tryz.func8, Tryz.ntmps8
  go_upto_region 1 with fail
  rw [← hw0.out]
  generalize w0.alloc (.cells #[.int .i64 x.kind, .int .i64 x.one, .int .i64 x.two, .string x.body] 23) = w1 at *
  obtain ⟨A, hAe⟩ : ∃ A, w.heap.size = A := ⟨_, rfl⟩
  simp only [hAe] at hB hM hMl ⊢
  replace hAe := Lib.hid hAe
  clear hw0 hs0 b0 bM
  obtain ⟨_, x0, x1, x2⟩ := id hB
  by_cases h0 : e0 = 0
  rotate_left
  · have hne : (e0 != 0) = true := by simpa using h0
    replace h0 := Lib.hid h0
    go_wp2_with fail
    refine hE.mono ?_
    rintro e w2 ⟨rfl, b2⟩
    go_wp2_with fail
    refine (logBegun_c w2).mono ?_
    rintro e w3 ⟨rfl, b3⟩
    go_wp2_with fail
    go_ret
    exact ⟨ret_bool (by simp), below_trans (below_trans b1 b2) b3⟩
  subst h0
  have hOv := Lib.hid (hOw.out rfl)
  clear hOw
  go_wp2_with fail
  refine hE.mono ?_
  rintro e w2 ⟨rfl, b2⟩
  have hB2 := hB.keep (b2.block _ hB.lt)
  have hM2 := hM.below b2 hMl
  have hMl := Nat.lt_of_lt_of_le hMl b2.size
  have b3 := below_trans b1 b2
  clear x0 x1 x2 hE hB hM b1 b2
  obtain ⟨_, x0, x1, x2⟩ := id hB2
  go_wp2_with fail
  refine (hOv.out w2 b3).mono ?_
  clear x0 x1 x2 hOv
  rintro e w3 ⟨gv5, nv5, wv5, S5, rfl, hO5, hS5, b5⟩
  obtain ⟨pg, pn, pw⟩ := hO5.parts
  obtain ⟨_, ga5, gcap5, rfl, _⟩ := pg.open
  obtain ⟨_, na5, ncap5, rfl, _⟩ := pn.form
  obtain ⟨_, wa5, wcap5, rfl, _⟩ := pw.form
  clear pg pn pw
  have hR5 := OBox.new w3 37 (.slice ga5 X.groups.length gcap5) (.slice na5 X.nodes.length ncap5) (.slice wa5 X.wires.length wcap5)
  have bx5 := below_a1 w3 (.cells #[.slice ga5 X.groups.length gcap5, .slice na5 X.nodes.length ncap5, .slice wa5 X.wires.length wcap5] 37)
  have hW5 := hO5.world.below bx5
  go_upto_region 4 with fail
  generalize w3.alloc (.cells #[.slice ga5 X.groups.length gcap5, .slice na5 X.nodes.length ncap5, .slice wa5 X.wires.length wcap5] 37) = w4 at *
  obtain ⟨B5, hB5⟩ : ∃ B, w3.heap.size = B := ⟨_, rfl⟩
  simp only [hB5] at hR5 ⊢
  clear hB5
  have b45 := below_trans b5 bx5
  have hB4 := hB2.keep (b45.block _ hB2.lt)
  have hM4 := hM2.below b45 hMl
  have hMl := Nat.lt_of_lt_of_le hMl b45.size
  have b4 := below_trans b3 b45
  clear hO5 hS5 b5 bx5 b45 b3 hB2 hM2
  obtain ⟨_, x0, x1, x2⟩ := id hB4
  obtain ⟨m0, m1, m2, m3⟩ := id hM4
  simp only [Nat.zero_add] at m0 m1 m2 m3
  go_wp2_with fail
  refine (hDo.out w4 b4).mono ?_
  clear x0 x1 x2 m0 m1 m2 m3
  rintro e w5 ⟨gv6, nv6, wv6, S6, rfl, hO6, hS6, b6⟩
  obtain ⟨pg, pn, pw⟩ := hO6.parts
  obtain ⟨_, ga6, gcap6, rfl, _⟩ := pg.open
  obtain ⟨_, na6, ncap6, rfl, _⟩ := pn.form
  obtain ⟨_, wa6, wcap6, rfl, _⟩ := pw.form
  clear pg pn pw
  have hR6 := OBox.new w5 37 (.slice ga6 r.2.groups.length gcap6) (.slice na6 r.2.nodes.length ncap6) (.slice wa6 r.2.wires.length wcap6)
  have bx6 := below_a1 w5 (.cells #[.slice ga6 r.2.groups.length gcap6, .slice na6 r.2.nodes.length ncap6, .slice wa6 r.2.wires.length wcap6] 37)
  have hW6 := hO6.world.below bx6
  have hO7 := hO6.keep (fun c hc => bx6.block _ (hS6 c hc).2)
  have hns : ¬ S6 w5.heap.size := fun h => by have := (hS6 _ h).2; omega
  have b46 := below_trans b6 bx6
  go_upto_region 5 with fail
  generalize w5.alloc (.cells #[.slice ga6 r.2.groups.length gcap6, .slice na6 r.2.nodes.length ncap6, .slice wa6 r.2.wires.length wcap6] 37) = w6 at *
  obtain ⟨B6, hB6⟩ : ∃ B, w5.heap.size = B := ⟨_, rfl⟩
  simp only [hB6] at hR6 hns ⊢
  have hRW : RW S6 w4 w6 w6 (.slice ga6 r.2.groups.length gcap6) (.slice na6 r.2.nodes.length ncap6) (.slice wa6 r.2.wires.length wcap6) r.2 r.2 := ⟨hO7, rfl, rfl, rfl, fun _ _ => rfl, b46, fun b hb => (hS6 b hb).1⟩
  obtain ⟨GV, hGV⟩ : ∃ v, Value.slice ga6 r.2.groups.length gcap6 = v := ⟨_, rfl⟩
  obtain ⟨NV, hNV⟩ : ∃ v, Value.slice na6 r.2.nodes.length ncap6 = v := ⟨_, rfl⟩
  obtain ⟨WV, hWV⟩ : ∃ v, Value.slice wa6 r.2.wires.length wcap6 = v := ⟨_, rfl⟩
  rw [hGV, hNV, hWV] at hRW
  replace hGV := Lib.hid hGV
  replace hNV := Lib.hid hNV
  replace hWV := Lib.hid hWV
  clear hB6 hO6 hS6 b6 bx6 hO7 b46 hW6
  obtain ⟨_, y0, y1, y2⟩ := id hR6
  have hneg : (⟨0, 0, -1, false, ⟨#[]⟩⟩ : M).fits := mneg_fits
  replace hneg := Lib.hid hneg
  go_wp2_with fail
  go_loopw [8] (fun i wr => ∃ (n : Nat) (Y : Wd), n ≤ r.2.nodes.length ∧ i = .int .i64 n ∧ RW S6 w4 w6 wr GV NV WV r.2 Y) (fun i _ => r.2.nodes.length - (intOf i).toNat)
  case atStart => exact ⟨0, r.2, by omega, rfl, hRW⟩
  case round =>
    clear y0 y1 y2 hRW
    obtain ⟨n, Y, hn0, rfl, hY⟩ := hrel
    have hRr := hR6.keep (hY.out B6 hns)
    obtain ⟨_, y0, y1, y2⟩ := id hRr
    by_cases hlt : n < r.2.nodes.length
    · obtain ⟨L1, hL1⟩ : ∃ L, (Y.nodes.getD n N.zero).held.length = L := ⟨_, rfl⟩
      have hb1 : L1 ≤ 140737488351232 := hL1 ▸ (hY.bnd hlt).2.1
      go_wp2_with fail
      go_loopw [9] (fun i wr => ∃ (k : Nat) (Y : Wd), k ≤ L1 ∧ i = .int .i64 k ∧ RW S6 w4 w6 wr GV NV WV r.2 Y ∧ (Y.nodes.getD n N.zero).held.length = L1) (fun i _ => L1 - (intOf i).toNat)
      case atStart => exact ⟨0, Y, by omega, rfl, hY, hL1⟩
      case round =>
        clear y0 y1 y2 hRr hY
        obtain ⟨k, Y2, hk0, rfl, hY2, hL2⟩ := hrel
        have hRr := hR6.keep (hY2.out B6 hns)
        obtain ⟨_, y0, y1, y2⟩ := id hRr
        by_cases hltk : k < L1
        · obtain ⟨g, cap, g1, off, cap1, e1, c2, hf, hu, back⟩ := hY2.held_at hlt (by rw [hL2]; exact hltk)
          replace e1 := hNV.out.trans e1
          cases e1
          rw [hL2] at c2
          obtain ⟨u0, k0⟩ := hu 0 (by omega)
          obtain ⟨u1, k1⟩ := hu 1 (by omega)
          obtain ⟨u2, k2⟩ := hu 2 (by omega)
          obtain ⟨u3, k3⟩ := hu 3 (by omega)
          obtain ⟨u4, k4⟩ := hu 4 (by omega)
          have f0 := hf (off + k * 5)
          have f1 := hf (off + k * 5 + 1)
          have f2 := hf (off + k * 5 + 2)
          have f3 := hf (off + k * 5 + 3)
          have f4 := hf (off + k * 5 + 4)
          simp only [Nat.add_zero] at k0
          replace back := back ⟨0, 0, -1, false, ⟨#[]⟩⟩ hneg.out
          clear hf hu
          replace back := Lib.hid back
          go_wp2_with fail
          go_roundw
          case rel => exact ⟨k + 1, _, by omega, by go_num, back.out, by rw [heldPut_at (by rw [hY2.n]; exact hlt), List.length_set, hL2]⟩
          case measure => simp [intOf]; omega
        · obtain rfl : k = L1 := by omega
          obtain ⟨g, cap, la, ha, ta, lc, hc, tc, e1, c1, c2, c3⟩ := hY2.node hlt
          replace e1 := hNV.out.trans e1
          cases e1
          rw [hL2] at c2
          obtain ⟨L3, hL3⟩ : ∃ L, (Y2.nodes.getD n N.zero).told.length = L := ⟨_, rfl⟩
          have hb3 : L3 ≤ 140737488351232 := hL3 ▸ (hY2.bnd hlt).2.2
          clear c1 c3
          go_wp2_with fail
          clear c2 hL2
          go_loopw [10] (fun i wr => ∃ (k : Nat) (Y : Wd), k ≤ L3 ∧ i = .int .i64 k ∧ RW S6 w4 w6 wr GV NV WV r.2 Y ∧ (Y.nodes.getD n N.zero).told.length = L3) (fun i _ => L3 - (intOf i).toNat)
          case atStart => exact ⟨0, Y2, by omega, rfl, hY2, hL3⟩
          case round =>
            clear y0 y1 y2 hRr hY2
            obtain ⟨k, Y3, hk0, rfl, hY3, hL4⟩ := hrel
            have hRr := hR6.keep (hY3.out B6 hns)
            obtain ⟨_, y0, y1, y2⟩ := id hRr
            by_cases hltk : k < L3
            · obtain ⟨g, cap, g1, off, cap1, e1, c2, hf, hu, back⟩ := hY3.told_at hlt (by rw [hL4]; exact hltk)
              replace e1 := hNV.out.trans e1
              cases e1
              rw [hL4] at c2
              obtain ⟨u0, k0⟩ := hu 0 (by omega)
              obtain ⟨u1, k1⟩ := hu 1 (by omega)
              obtain ⟨u2, k2⟩ := hu 2 (by omega)
              obtain ⟨u3, k3⟩ := hu 3 (by omega)
              obtain ⟨u4, k4⟩ := hu 4 (by omega)
              have f0 := hf (off + k * 5)
              have f1 := hf (off + k * 5 + 1)
              have f2 := hf (off + k * 5 + 2)
              have f3 := hf (off + k * 5 + 3)
              have f4 := hf (off + k * 5 + 4)
              simp only [Nat.add_zero] at k0
              replace back := back ⟨0, 0, -1, false, ⟨#[]⟩⟩ hneg.out
              clear hf hu
              replace back := Lib.hid back
              go_wp2_with fail
              go_roundw
              case rel => exact ⟨k + 1, _, by omega, by go_num, back.out, by rw [toldPut_at (by rw [hY3.n]; exact hlt), List.length_set, hL4]⟩
              case measure => simp [intOf]; omega
            · obtain rfl : k = L3 := by omega
              obtain ⟨g, cap, la, ha, ta, lc, hc, tc, e1, c1, c2, c3⟩ := hY3.node hlt
              replace e1 := hNV.out.trans e1
              cases e1
              rw [hL4] at c3
              obtain ⟨L5, hL5⟩ : ∃ L, (Y3.nodes.getD n N.zero).last.length = L := ⟨_, rfl⟩
              have hb5 : L5 ≤ 140737488351232 := hL5 ▸ (hY3.bnd hlt).1
              clear c1 c2
              go_wp2_with fail
              clear c3 hL4
              go_loopw [11] (fun i wr => ∃ (k : Nat) (Y : Wd), k ≤ L5 ∧ i = .int .i64 k ∧ RW S6 w4 w6 wr GV NV WV r.2 Y ∧ (Y.nodes.getD n N.zero).last.length = L5) (fun i _ => L5 - (intOf i).toNat)
              case atStart => exact ⟨0, Y3, by omega, rfl, hY3, hL5⟩
              case round =>
                clear y0 y1 y2 hRr hY3
                obtain ⟨k, Y4, hk0, rfl, hY4, hL6⟩ := hrel
                have hRr := hR6.keep (hY4.out B6 hns)
                obtain ⟨_, y0, y1, y2⟩ := id hRr
                by_cases hltk : k < L5
                · skip
                  obtain ⟨g, cap, la, ha, ta, lc, hc, tc, e1, c1, c2, c3⟩ := hY4.node hlt
                  replace e1 := hNV.out.trans e1
                  cases e1
                  rw [hL6] at c1
                  clear c2 c3
                  obtain ⟨L7, hL7⟩ : ∃ L, ((Y4.nodes.getD n N.zero).last.getD k []).length = L := ⟨_, rfl⟩
                  have hb7 : L7 ≤ 140737488351232 := hL7 ▸ hY4.bndr hlt (by rw [hL6]; exact hltk)
                  go_wp2_with fail
                  clear c1
                  go_loopw [12] (fun i wr => ∃ (j : Nat) (Y : Wd), j ≤ L7 ∧ i = .int .i64 j ∧ RW S6 w4 w6 wr GV NV WV r.2 Y ∧ (Y.nodes.getD n N.zero).last.length = L5 ∧ ((Y.nodes.getD n N.zero).last.getD k []).length = L7) (fun i _ => L7 - (intOf i).toNat)
                  case atStart => exact ⟨0, Y4, by omega, rfl, hY4, hL6, hL7⟩
                  case round =>
                    clear y0 y1 y2 hRr hL6 hL7 hY4
                    obtain ⟨j, Y5, hj0, rfl, hY5, hL8, hL9⟩ := hrel
                    have hRr := hR6.keep (hY5.out B6 hns)
                    obtain ⟨_, y0, y1, y2⟩ := id hRr
                    by_cases hltj : j < L7
                    · obtain ⟨g, cap, g1, cap1, g2, cap2, u, e1, c1, d1, hf, hu, back⟩ := hY5.last_at hlt (by rw [hL8]; exact hltk) (by rw [hL9]; exact hltj)
                      replace e1 := hNV.out.trans e1
                      cases e1
                      rw [hL8] at c1
                      rw [hL9] at d1
                      replace back := back (-1) (by unfold I64; omega)
                      replace back := Lib.hid back
                      go_wp2_with fail
                      go_roundw
                      case rel =>
                        have hn5 : n < Y5.nodes.length := by rw [hY5.n]; exact hlt
                        exact ⟨j + 1, _, by omega, by go_num, back.out, by rw [lastSet_at hn5, List.length_set, hL8], by rw [lastSet_at hn5, getD_setR (by rw [hL8]; exact hltk), if_pos rfl, List.length_set, hL9]⟩
                      case measure => simp [intOf]; omega
                    · obtain rfl : j = L7 := by omega
                      obtain ⟨g, cap, g1, o1, lc, ra, rc, e1, c1, d1⟩ := hY5.lrow hlt (by rw [hL8]; exact hltk)
                      replace e1 := hNV.out.trans e1
                      cases e1
                      rw [hL8] at c1
                      rw [hL9] at d1
                      go_wp2_with fail
                      go_roundw
                      case rel => exact ⟨k + 1, Y5, by omega, by go_num, hY5, hL8⟩
                      case measure => simp [intOf]; omega
                · obtain rfl : k = L5 := by omega
                  obtain ⟨g, cap, la, ha, ta, lc, hc, tc, e1, c1, c2, c3⟩ := hY4.node hlt
                  replace e1 := hNV.out.trans e1
                  cases e1
                  rw [hL6] at c1
                  clear c2 c3
                  obtain ⟨g, cap, e1, hf, hu, back⟩ := hY4.node_zero hlt
                  replace e1 := hNV.out.trans e1
                  cases e1
                  obtain ⟨u0, k0⟩ := hu 0 (by omega)
                  obtain ⟨u1, k1⟩ := hu 1 (by omega)
                  obtain ⟨u2, k2⟩ := hu 2 (by omega)
                  obtain ⟨u3, k3⟩ := hu 3 (by omega)
                  have f0 := hf (n * 4)
                  have f1 := hf (n * 4 + 1)
                  have f2 := hf (n * 4 + 2)
                  have f3 := hf (n * 4 + 3)
                  simp only [Nat.add_zero] at k0
                  rw [c1] at k1
                  cases k1
                  replace back := Lib.hid back
                  clear hf hu
                  go_wp2_with fail
                  go_roundw
                  case rel => exact ⟨n + 1, _, by omega, by go_num, back.out⟩
                  case measure => simp [intOf]; omega
    · obtain rfl : n = r.2.nodes.length := by omega
      go_wp2_with fail
      go_loopw [13] (fun i wr => ∃ (n : Nat) (Y : Wd), n ≤ r.2.wires.length ∧ i = .int .i64 n ∧ RW S6 w4 w6 wr GV NV WV r.2 Y) (fun i _ => r.2.wires.length - (intOf i).toNat)
      case atStart => exact ⟨0, Y, by omega, rfl, hY⟩
      case round =>
        clear y0 y1 y2 hRr hY
        obtain ⟨n, Y, hn0, rfl, hY⟩ := hrel
        have hRr := hR6.keep (hY.out B6 hns)
        obtain ⟨_, y0, y1, y2⟩ := id hRr
        by_cases hlt : n < r.2.wires.length
        · obtain ⟨L1, hL1⟩ : ∃ L, (Y.wires.getD n []).length = L := ⟨_, rfl⟩
          have hb1 : L1 ≤ 140737488351232 := hL1 ▸ hY.bndw hlt
          go_wp2_with fail
          go_loopw [14] (fun i wr => ∃ (k : Nat) (Y : Wd), k ≤ L1 ∧ i = .int .i64 k ∧ RW S6 w4 w6 wr GV NV WV r.2 Y ∧ (Y.wires.getD n []).length = L1) (fun i _ => L1 - (intOf i).toNat)
          case atStart => exact ⟨0, Y, by omega, rfl, hY, hL1⟩
          case round =>
            clear y0 y1 y2 hRr hY
            obtain ⟨k, Y2, hk0, rfl, hY2, hL2⟩ := hrel
            have hRr := hR6.keep (hY2.out B6 hns)
            obtain ⟨_, y0, y1, y2⟩ := id hRr
            by_cases hltk : k < L1
            · obtain ⟨g, o, cap, ra, rc, e1, c1⟩ := hY2.wrow hlt
              replace e1 := hWV.out.trans e1
              cases e1
              rw [hL2] at c1
              obtain ⟨L3, hL3⟩ : ∃ L, ((Y2.wires.getD n []).getD k []).length = L := ⟨_, rfl⟩
              have hb3 : L3 ≤ 140737488351232 := hL3 ▸ hY2.bndl hlt (by rw [hL2]; exact hltk)
              go_wp2_with fail
              clear c1
              go_loopw [15] (fun i wr => ∃ (j : Nat) (Y : Wd), j ≤ L3 ∧ i = .int .i64 j ∧ RW S6 w4 w6 wr GV NV WV r.2 Y ∧ (Y.wires.getD n []).length = L1 ∧ ((Y.wires.getD n []).getD k []).length = L3) (fun i _ => L3 - (intOf i).toNat)
              case atStart => exact ⟨0, Y2, by omega, rfl, hY2, hL2, hL3⟩
              case round =>
                clear y0 y1 y2 hRr hL2 hL3 hY2
                obtain ⟨j, Y5, hj0, rfl, hY5, hL8, hL9⟩ := hrel
                have hRr := hR6.keep (hY5.out B6 hns)
                obtain ⟨_, y0, y1, y2⟩ := id hRr
                by_cases hltj : j < L3
                · obtain ⟨g1, cap1, g2, cap2, g3, off, cap3, e1, c1, d1, hf, hu, back⟩ := hY5.wmsg_at hlt (by rw [hL8]; exact hltk) (by rw [hL9]; exact hltj)
                  replace e1 := hWV.out.trans e1
                  cases e1
                  rw [hL8] at c1
                  rw [hL9] at d1
                  obtain ⟨u0, k0⟩ := hu 0 (by omega)
                  obtain ⟨u1, k1⟩ := hu 1 (by omega)
                  obtain ⟨u2, k2⟩ := hu 2 (by omega)
                  obtain ⟨u3, k3⟩ := hu 3 (by omega)
                  obtain ⟨u4, k4⟩ := hu 4 (by omega)
                  have f0 := hf (off + j * 5)
                  have f1 := hf (off + j * 5 + 1)
                  have f2 := hf (off + j * 5 + 2)
                  have f3 := hf (off + j * 5 + 3)
                  have f4 := hf (off + j * 5 + 4)
                  simp only [Nat.add_zero] at k0
                  replace back := back ⟨0, 0, -1, false, ⟨#[]⟩⟩ hneg.out
                  clear hf hu
                  replace back := Lib.hid back
                  go_wp2_with fail
                  go_roundw
                  case rel =>
                    have hn5 : n < Y5.wires.length := by rw [hY5.w]; exact hlt
                    exact ⟨j + 1, _, by omega, by go_num, back.out, by rw [wireSet_at hn5, List.length_set, hL8], by rw [wireSet_at hn5, getD_setR (by rw [hL8]; exact hltk), if_pos rfl, List.length_set, hL9]⟩
                  case measure => simp [intOf]; omega
                · obtain rfl : j = L3 := by omega
                  obtain ⟨g, o, cap, g2, o2, rc, ma, mc, e1, c1, d1⟩ := hY5.wire hlt (by rw [hL8]; exact hltk)
                  replace e1 := hWV.out.trans e1
                  cases e1
                  rw [hL8] at c1
                  rw [hL9] at d1
                  go_wp2_with fail
                  go_roundw
                  case rel => exact ⟨k + 1, Y5, by omega, by go_num, hY5, hL8⟩
                  case measure => simp [intOf]; omega
            · obtain rfl : k = L1 := by omega
              obtain ⟨g, o, cap, ra, rc, e1, c1⟩ := hY2.wrow hlt
              replace e1 := hWV.out.trans e1
              cases e1
              rw [hL2] at c1
              go_wp2_with fail
              go_roundw
              case rel => exact ⟨n + 1, Y2, by omega, by go_num, hY2⟩
              case measure => simp [intOf]; omega
        · obtain rfl : n = r.2.wires.length := by omega
          go_wp2_with fail
          go_loopw [16] (fun i wr => ∃ (n : Nat) (Y : Wd), n ≤ r.2.groups.length ∧ i = .int .i64 n ∧ RW S6 w4 w6 wr GV NV WV r.2 Y) (fun i _ => r.2.groups.length - (intOf i).toNat)
          case atStart => exact ⟨0, Y, by omega, rfl, hY⟩
          case round =>
            clear y0 y1 y2 hRr hY
            obtain ⟨n, Y, hn0, rfl, hY⟩ := hrel
            have hRr := hR6.keep (hY.out B6 hns)
            obtain ⟨_, y0, y1, y2⟩ := id hRr
            by_cases hlt : n < r.2.groups.length
            · obtain ⟨g, cap, u, e1, hf, hu, back⟩ := hY.group_at hlt
              replace e1 := hGV.out.trans e1
              cases e1
              replace back := back (-1) (by unfold I64; omega)
              replace back := Lib.hid back
              go_wp2_with fail
              go_roundw
              case rel => exact ⟨n + 1, _, by omega, by go_num, back.out⟩
              case measure => simp [intOf]; omega
            · obtain rfl : n = r.2.groups.length := by omega
              have bl := hY.low
              have hB7 := hB4.keep (bl.block _ hB4.lt)
              have hM7 := hM4.below bl hMl
              have hMl := Nat.lt_of_lt_of_le hMl bl.size
              have hR7 := hR5.keep (bl.block _ hR5.lt)
              have hW7 := hW5.below bl
              have b7 := below_trans b4 bl
              go_upto_region 38 with fail
              clear y0 y1 y2 hRr hR6 hns hY bl hB4 hM4 hR5 hW5 b4 hneg
              obtain ⟨w7, rfl⟩ : ∃ wo : World, wo = wr := ⟨_, rfl⟩
              obtain ⟨_, x0, x1, x2⟩ := id hB7
              go_wp2_with fail
              refine (hAl.out w7 b7).mono ?_
              rintro e w8 ⟨v8, rfl, ho8, b8⟩
              have hal := hal.out
              have hO8 := ho8.own (by omega)
              have hT8 := ho8.lt
              have hQ8 := ho8.msgs (by omega)
              obtain ⟨_, a8, c8, rfl, _⟩ := hQ8.open
              clear hQ8
              obtain ⟨T, hOT, hT⟩ : ∃ T : Nat → Prop, OMsgs true w8 T (.slice a8 q.2.length c8) q.2 ∧ ∀ b, T b → w7.heap.size ≤ b := ⟨_, hO8, fun b hb => (hT8 b hb).1⟩
              clear hO8 hT8 ho8 x0 x1 x2
              replace hal := Lib.hid hal
              have hzero : M.zero.fits := mzero_fits
              replace hzero := Lib.hid hzero
              go_wp2_with fail
              go_loopw [19] (fun i wr => ∃ (k : Nat) (ms : List M), k ≤ q.2.length ∧ i = .int .i64 k ∧ ms.length = q.2.length ∧ OMsgs true wr T (.slice a8 q.2.length c8) ms ∧ Below w7.heap.size w7 wr) (fun i _ => q.2.length - (intOf i).toNat)
              case atStart => exact ⟨0, q.2, by omega, rfl, rfl, hOT, b8⟩
              case round =>
                clear hOT b8
                obtain ⟨k, ms, hk0, rfl, hml, hOT, b8⟩ := hrel
                by_cases hlt : k < q.2.length
                · obtain ⟨g, off, cap, e1, _, hTg, hb3, hu, back⟩ := hOT.msg_at (k := k) (by rw [hml]; exact hlt)
                  rw [hml] at e1
                  cases e1
                  have hf := hb3.frozen
                  have bq := put5_below (m := M.zero) (p := off + k * 5) b8 (hT g hTg)
                  replace back := fun (m : M) (hm : m.fits) => back wr m (fun _ _ => rfl) hm
                  replace bq := Lib.hid bq
                  obtain ⟨u0, k0⟩ := hu 0 (by omega)
                  obtain ⟨u1, k1⟩ := hu 1 (by omega)
                  obtain ⟨u2, k2⟩ := hu 2 (by omega)
                  obtain ⟨u3, k3⟩ := hu 3 (by omega)
                  obtain ⟨u4, k4⟩ := hu 4 (by omega)
                  have f0 := hf (off + k * 5)
                  have f1 := hf (off + k * 5 + 1)
                  have f2 := hf (off + k * 5 + 2)
                  have f3 := hf (off + k * 5 + 3)
                  have f4 := hf (off + k * 5 + 4)
                  simp only [Nat.add_zero] at k0
                  replace back := back M.zero hzero.out
                  clear hf hu
                  replace back := Lib.hid back
                  go_wp2_with fail
                  go_roundw
                  case rel => exact ⟨k + 1, _, by omega, by go_num, by rw [List.length_set]; exact hml, back.out, bq.out⟩
                  case measure => simp [intOf]; omega
                · obtain rfl : k = q.2.length := by omega
                  have hB8 := hB7.keep (b8.block _ hB7.lt)
                  have hM8 := hM7.below b8 hMl
                  have hMl := Nat.lt_of_lt_of_le hMl b8.size
                  have hR8 := hR7.keep (b8.block _ hR7.lt)
                  have hW8 := hW7.below b8
                  have b9 := below_trans b7 b8
                  go_upto_region 43 with fail
                  clear hB7 hM7 hR7 hW7 hOT b8 hT hzero b7
                  obtain ⟨w9, rfl⟩ : ∃ wo : World, wo = wr := ⟨_, rfl⟩
                  obtain ⟨_, x0, x1, x2⟩ := id hB8
                  obtain ⟨m0, m1, m2, m3⟩ := id hM8
                  simp only [Nat.zero_add] at m0 m1 m2 m3
                  go_wp2_with fail
                  refine (hDo.out w9 b9).mono ?_
                  clear x0 x1 x2 m0 m1 m2 m3 hDo
                  rintro e w10 ⟨gv10, nv10, wv10, S10, rfl, hO10, hS10, b10⟩
                  obtain ⟨pg, pn, pw⟩ := hO10.parts
                  obtain ⟨_, ga10, gcap10, rfl, _⟩ := pg.open
                  obtain ⟨_, na10, ncap10, rfl, _⟩ := pn.form
                  obtain ⟨_, wa10, wcap10, rfl, _⟩ := pw.form
                  clear pg pn pw
                  have hR10 := OBox.new w10 37 (.slice ga10 r.2.groups.length gcap10) (.slice na10 r.2.nodes.length ncap10) (.slice wa10 r.2.wires.length wcap10)
                  have bx10 := below_a1 w10 (.cells #[.slice ga10 r.2.groups.length gcap10, .slice na10 r.2.nodes.length ncap10, .slice wa10 r.2.wires.length wcap10] 37)
                  have hW10 := hO10.world.below bx10
                  go_upto_region 44 with fail
                  generalize w10.alloc (.cells #[.slice ga10 r.2.groups.length gcap10, .slice na10 r.2.nodes.length ncap10, .slice wa10 r.2.wires.length wcap10] 37) = w11 at *
                  obtain ⟨B10, hB10⟩ : ∃ B, w10.heap.size = B := ⟨_, rfl⟩
                  simp only [hB10] at hR10 ⊢
                  clear hB10
                  have b11 := below_trans b10 bx10
                  have hB9 := hB8.keep (b11.block _ hB8.lt)
                  have hM9 := hM8.below b11 hMl
                  have hMl := Nat.lt_of_lt_of_le hMl b11.size
                  have hR9 := hR8.keep (b11.block _ hR8.lt)
                  have hW9 := hW8.below b11
                  have b12 := below_trans b9 b11
                  clear hB8 hM8 hR8 hW8 hO10 hS10 b10 bx10 b11 b9
                  obtain ⟨_, x0, x1, x2⟩ := id hB9
                  go_wp2_with fail
                  refine (hAl.out w11 b12).mono ?_
                  rintro e w12 ⟨v12, rfl, ho12, b13⟩
                  have hal2 := hal.out
                  have hQ12 := ho12.msgs (by omega)
                  obtain ⟨_, a12, c12, rfl, _⟩ := hQ12.open
                  clear x0 x1 x2 hAl hal2 ho12
                  have hB10 := hB9.keep (b13.block _ hB9.lt)
                  have hM10 := hM9.below b13 hMl
                  have hMl := Nat.lt_of_lt_of_le hMl b13.size
                  have hR11 := hR9.keep (b13.block _ hR9.lt)
                  have hW11 := hW9.below b13
                  have hR12 := hR10.keep (b13.block _ hR10.lt)
                  have hW12 := hW10.below b13
                  have b14 := below_trans b12 b13
                  clear hB9 hM9 hR9 hW9 hR10 hW10 b13 b12
                  obtain ⟨_, x0, x1, x2⟩ := id hB10
                  obtain ⟨m0, m1, m2, m3⟩ := id hM10
                  simp only [Nat.zero_add] at m0 m1 m2 m3
                  go_wp2_with fail
                  refine (hDr.out w12 b14).mono ?_
                  clear x0 x1 x2 m0 m1 m2 m3 hDr
                  rintro e w13 ⟨gv20, nv20, wv20, S20, rfl, hO20, hS20, b20⟩
                  obtain ⟨pg, pn, pw⟩ := hO20.parts
                  obtain ⟨_, ga20, gcap20, rfl, _⟩ := pg.open
                  obtain ⟨_, na20, ncap20, rfl, _⟩ := pn.form
                  obtain ⟨_, wa20, wcap20, rfl, _⟩ := pw.form
                  clear pg pn pw
                  have hR20 := OBox.new w13 37 (.slice ga20 r.2.groups.length gcap20) (.slice na20 r.2.nodes.length ncap20) (.slice wa20 r.2.wires.length wcap20)
                  have bx20 := below_a1 w13 (.cells #[.slice ga20 r.2.groups.length gcap20, .slice na20 r.2.nodes.length ncap20, .slice wa20 r.2.wires.length wcap20] 37)
                  have hW20 := hO20.world.below bx20
                  go_upto_region 46 with fail
                  generalize w13.alloc (.cells #[.slice ga20 r.2.groups.length gcap20, .slice na20 r.2.nodes.length ncap20, .slice wa20 r.2.wires.length wcap20] 37) = w14 at *
                  obtain ⟨B20, hB20⟩ : ∃ B, w13.heap.size = B := ⟨_, rfl⟩
                  simp only [hB20] at hR20 ⊢
                  clear hB20
                  have b15 := below_trans b20 bx20
                  have hB11 := hB10.keep (b15.block _ hB10.lt)
                  have hR13 := hR11.keep (b15.block _ hR11.lt)
                  have hW13 := hW11.below b15
                  have hR14 := hR12.keep (b15.block _ hR12.lt)
                  have hW14 := hW12.below b15
                  have hQ14 := hQ12.below b15
                  have b16 := below_trans b14 b15
                  clear hB10 hM10 hMl hR11 hW11 hR12 hW12 hQ12 hO20 hS20 b20 bx20 b15 b14
                  obtain ⟨_, x0, x1, x2⟩ := id hB11
                  go_wp2_with fail
                  refine (hAr.out w14 b16).mono ?_
                  rintro e w15 ⟨v15, rfl, ho15, b17⟩
                  have hal2 := hal.out
                  have hQ15 := ho15.msgs (by omega)
                  obtain ⟨_, a15, c15, rfl, _⟩ := hQ15.open
                  clear x0 x1 x2 hAr hal2 ho15
                  have hB12 := hB11.keep (b17.block _ hB11.lt)
                  have hR15 := hR13.keep (b17.block _ hR13.lt)
                  have hW15 := hW13.below b17
                  have hR16 := hR14.keep (b17.block _ hR14.lt)
                  have hW16 := hW14.below b17
                  have hR17 := hR20.keep (b17.block _ hR20.lt)
                  have hW17 := hW20.below b17
                  have hQ16 := hQ14.below b17
                  have b18 := below_trans b16 b17
                  clear hB11 hR13 hW13 hR14 hW14 hQ14 hR20 hW20 b17 b16
                  go_wp2_with fail
                  refine (logBegun_c w15).mono ?_
                  rintro e w16 ⟨rfl, b19⟩
                  have hB13 := hB12.keep (b19.block _ hB12.lt)
                  have hR18 := hR15.keep (b19.block _ hR15.lt)
                  have hW18 := hW15.below b19
                  have hR19 := hR16.keep (b19.block _ hR16.lt)
                  have hW19 := hW16.below b19
                  have hR21 := hR17.keep (b19.block _ hR17.lt)
                  have hW21 := hW17.below b19
                  have hQ17 := hQ16.below b19
                  have hQ18 := hQ15.below b19
                  have b21 := below_trans b18 b19
                  have hS1 := SameWorlds_c (hW0.below b21) hW18
                  clear hB12 hR15 hW15 hR16 hW16 hR17 hW17 hQ16 hQ15 b19 b18 hW18
                  obtain ⟨_, x0, x1, x2⟩ := id hB13
                  obtain ⟨_, y0, y1, y2⟩ := id hR18
                  go_wp2_with fail
                  refine hS1.mono ?_
                  rintro e w17 ⟨rfl, b22⟩
                  have hS2 := SameWorlds_c (hW19.below b22) (hW21.below b22)
                  have hR22 := hR19.keep (b22.block _ hR19.lt)
                  have hR23 := hR21.keep (b22.block _ hR21.lt)
                  have hQ19 := hQ17.below b22
                  have hQ20 := hQ18.below b22
                  have b23 := below_trans b21 b22
                  clear x0 x1 x2 y0 y1 y2 hS1 hB13 hR18 hR19 hW19 hR21 hW21 hQ17 hQ18 b22 b21
                  obtain ⟨_, x0, x1, x2⟩ := id hR22
                  obtain ⟨_, y0, y1, y2⟩ := id hR23
                  go_wp2_with fail
                  refine hS2.mono ?_
                  rintro e w18 ⟨rfl, b24⟩
                  have hS3 := SameMsgs_c (hQ19.below b24) (hQ20.below b24)
                  rw [sameMs_self] at hS3
                  clear x0 x1 x2 y0 y1 y2 hS2
                  go_wp2_with fail
                  refine hS3.mono ?_
                  rintro e w19 ⟨rfl, d25⟩
                  go_wp2_with fail
                  go_ret
                  exact ⟨ret_bool (by simp), below_trans (below_trans b23 b24) d25.below⟩
end Go.Proofs.YtnalakhelicjcaaGreat
