/-
  Worlds, the document's answer: two that are the same are the same.
-/
import Derived.Test.YtnalakhelicjcaaVKE
import Derived.Test.YtnalakhelicjcaaVKG
import Derived.Test.YtnalakhelicjcaaVKO
import Derived.Deep.CutRange
set_option maxRecDepth 100000
namespace Go.Proofs.Ytnalakhelicjcaa
open Go.RowKit Go.Shelf Go.BigFrame

theorem sameMs_self (xs : List M) : sameMs xs xs = true := sameMs_iff.2 rfl

set_option maxHeartbeats 4000000 in
theorem SameWorlds_c {w : World} {v u : Value} {X : Wd} (h : WorldAt w v X) (h2 : WorldAt w u X) : Calls Try.prog 18 #[v, u] w (GivesB (.bool true) w) := by
  obtain ⟨gv, nv, wv, rfl, hg, hn, hw⟩ := h
  obtain ⟨gu, nu, wu, rfl, kg, kn, kw⟩ := h2
  obtain ⟨hnl, na, ncap, rfl, _⟩ := hn.form
  obtain ⟨hwl, wa, wcap, rfl, _⟩ := hw.form
  obtain ⟨hgl, ga, gcap, rfl, _⟩ := hg.open
  obtain ⟨_, na2, ncap2, rfl, _⟩ := kn.form
  obtain ⟨_, wa2, wcap2, rfl, _⟩ := kw.form
  obtain ⟨_, ga2, gcap2, rfl, _⟩ := kg.open
  obtain ⟨w1, hw1⟩ : ∃ w1, w1 = w.alloc (.cells #[.slice ga X.groups.length gcap, .slice na X.nodes.length ncap, .slice wa X.wires.length wcap] 40) := ⟨_, rfl⟩
  obtain ⟨w2, hw2⟩ : ∃ w2, w2 = w1.alloc (.cells #[.slice ga2 X.groups.length gcap2, .slice na2 X.nodes.length ncap2, .slice wa2 X.wires.length wcap2] 40) := ⟨_, rfl⟩
  have hB1 : WBox w1 w.heap.size _ _ _ := hw1 ▸ WBox.new w (.slice ga X.groups.length gcap) (.slice na X.nodes.length ncap) (.slice wa X.wires.length wcap) 40
  have hA1 : Below w.heap.size w w1 := hw1 ▸ below_a1 w _
  have hs1 : w1.heap.size = w.heap.size + 1 := by rw [hw1, World.size_alloc]
  have hB2 : WBox w2 (w.heap.size + 1) (.slice ga2 X.groups.length gcap2) (.slice na2 X.nodes.length ncap2) (.slice wa2 X.wires.length wcap2) := by rw [← hs1]; exact hw2 ▸ WBox.new w1 (.slice ga2 X.groups.length gcap2) (.slice na2 X.nodes.length ncap2) (.slice wa2 X.wires.length wcap2) 40
  have hb2 : Below w1.heap.size w1 w2 := hw2 ▸ below_a1 w1 _
  have hs2 : w2.heap.size = w.heap.size + 2 := by rw [hw2, World.size_alloc, hs1]
  have hB1 := hB1.below hb2 (by omega)
  have hA := below_trans hA1 hb2
  have hE := Lib.hid (show w2 = (w.alloc (.cells #[.slice ga X.groups.length gcap, .slice na X.nodes.length ncap, .slice wa X.wires.length wcap] 40)).alloc (.cells #[.slice ga2 X.groups.length gcap2, .slice na2 X.nodes.length ncap2, .slice wa2 X.wires.length wcap2] 40) by rw [hw2, hw1])
  clear hw1 hw2 hb2 hs1 hA1
  have hSI := fun o (h : Below w.heap.size w o) => SameInts_c (hg.below h) (kg.below h)
  rw [show decide (X.groups = X.groups) = true by simp] at hSI
  replace hSI := hSI w2 hA
  replace hs2 := Lib.hid hs2
  go_enter Try.func18, Try.ntmps18
  go_upto_region 1 with fail
  rw [← hE.out]
  clear hE
  have hB1K := hB1
  have hB2K := hB2
  obtain ⟨x0, x1, x2⟩ := hB1
  obtain ⟨y0, y1, y2⟩ := hB2
  go_wp2_with (go_at_call 57; refine hSI.mono ?_; clear hSI; rintro e w3 ⟨rfl, m3, rfl⟩)
  go_loopw [5] (fun i wr => ∃ n : Nat, n ≤ X.nodes.length ∧ i = .int .i64 n ∧ Below (w.heap.size + 2) w2 wr) (fun i _ => X.nodes.length - (intOf i).toNat)
  case atStart => exact ⟨0, by omega, rfl, (below_drewN w2 _).mono (by have := hs2.out; omega)⟩
  case round =>
    obtain ⟨n, hn0, rfl, hb⟩ := hrel
    clear x0 x1 x2 y0 y1 y2
    have hww : Below w.heap.size w wr := hA.trans (hb.mono (by omega))
    have hB1 := hB1K.below hb (by omega)
    have hB2 := hB2K.below hb (by omega)
    obtain ⟨x0, x1, x2⟩ := hB1
    obtain ⟨y0, y1, y2⟩ := hB2
    by_cases hlt : n < X.nodes.length
    · obtain ⟨b1, o1, c1, lv, hv, tv, e1, _, k0, k1, k2, k3, hI, hL, hH, hT⟩ := (hn.below hww).at hlt
      cases e1
      obtain ⟨b2, o2, c2, lu, hu, tu, e2, _, j0, j1, j2, j3, _, jL, jH, jT⟩ := (kn.below hww).at hlt
      cases e2
      obtain ⟨x, HX⟩ : ∃ x, X.nodes.getD n N.zero = x := ⟨_, rfl⟩
      rw [HX] at k0 j0 hI hL hH hT jL jH jT
      clear HX
      obtain ⟨_, la, lcap, rfl, _⟩ := hL.form
      obtain ⟨_, ha, hcap, rfl, _⟩ := hH.open
      obtain ⟨_, ta, tcap, rfl, _⟩ := hT.open
      obtain ⟨_, la2, lcap2, rfl, _⟩ := jL.form
      obtain ⟨_, ha2, hcap2, rfl, _⟩ := jH.open
      obtain ⟨_, ta2, tcap2, rfl, _⟩ := jT.open
      have hSH := fun o (h : Below wr.heap.size wr o) => SameMsgs_c (hH.below h) (jH.below h)
      have hST := fun o (h : Below wr.heap.size wr o) => SameMsgs_c (hT.below h) (jT.below h)
      rw [sameMs_self] at hSH hST
      have hxl := cell_lt x1
      have hyl := cell_lt y1
      have hkl := cell_lt k0
      have hjl := cell_lt j0
      dsimp only at hxl hyl hkl hjl
      have hSB : ∀ w', Below wr.heap.size wr w' → w'.cell? ⟨w.heap.size, 1, none⟩ = some (.slice (some ⟨b1, o1, none⟩) X.nodes.length ncap) ∧ w'.cell? ⟨w.heap.size + 1, 1, none⟩ = some (.slice (some ⟨b2, o2, none⟩) X.nodes.length ncap2) ∧ w'.cell? ⟨b1, o1 + n * 4, none⟩ = some (.int .i64 x.clock) ∧ w'.cell? ⟨b1, o1 + n * 4 + 1, none⟩ = some (.slice la x.last.length lcap) ∧ w'.cell? ⟨b1, o1 + n * 4 + 2, none⟩ = some (.slice ha x.held.length hcap) ∧ w'.cell? ⟨b1, o1 + n * 4 + 3, none⟩ = some (.slice ta x.told.length tcap) ∧ w'.cell? ⟨b2, o2 + n * 4, none⟩ = some (.int .i64 x.clock) ∧ w'.cell? ⟨b2, o2 + n * 4 + 1, none⟩ = some (.slice la2 x.last.length lcap2) ∧ w'.cell? ⟨b2, o2 + n * 4 + 2, none⟩ = some (.slice ha2 x.held.length hcap2) ∧ w'.cell? ⟨b2, o2 + n * 4 + 3, none⟩ = some (.slice ta2 x.told.length tcap2) :=
        fun w' h => ⟨(h.cell (p := ⟨w.heap.size, 1, none⟩) hxl).trans x1, (h.cell (p := ⟨w.heap.size + 1, 1, none⟩) hyl).trans y1, (h.cell (p := ⟨b1, o1 + n * 4, none⟩) hkl).trans k0, (h.cell (p := ⟨b1, o1 + n * 4 + 1, none⟩) hkl).trans k1, (h.cell (p := ⟨b1, o1 + n * 4 + 2, none⟩) hkl).trans k2, (h.cell (p := ⟨b1, o1 + n * 4 + 3, none⟩) hkl).trans k3, (h.cell (p := ⟨b2, o2 + n * 4, none⟩) hjl).trans j0, (h.cell (p := ⟨b2, o2 + n * 4 + 1, none⟩) hjl).trans j1, (h.cell (p := ⟨b2, o2 + n * 4 + 2, none⟩) hjl).trans j2, (h.cell (p := ⟨b2, o2 + n * 4 + 3, none⟩) hjl).trans j3⟩
      replace hSB := Lib.hid hSB
      have hbd : Below wr.heap.size wr wr.drew := below_drew (Below.refl _ wr)
      replace hbd := Lib.hid hbd
      replace hSH := Lib.hid hSH
      replace hST := Lib.hid hST
      go_upto_region 6 with fail
      refine wp_region_N (fun w' => w'.cell? ⟨w.heap.size, 1, none⟩ = some (.slice (some ⟨b1, o1, none⟩) X.nodes.length ncap) ∧ w'.cell? ⟨w.heap.size + 1, 1, none⟩ = some (.slice (some ⟨b2, o2, none⟩) X.nodes.length ncap2) ∧ w'.cell? ⟨b1, o1 + n * 4, none⟩ = some (.int .i64 x.clock) ∧ w'.cell? ⟨b1, o1 + n * 4 + 1, none⟩ = some (.slice la x.last.length lcap) ∧ w'.cell? ⟨b1, o1 + n * 4 + 2, none⟩ = some (.slice ha x.held.length hcap) ∧ w'.cell? ⟨b1, o1 + n * 4 + 3, none⟩ = some (.slice ta x.told.length tcap) ∧ w'.cell? ⟨b2, o2 + n * 4, none⟩ = some (.int .i64 x.clock) ∧ w'.cell? ⟨b2, o2 + n * 4 + 1, none⟩ = some (.slice la2 x.last.length lcap2) ∧ w'.cell? ⟨b2, o2 + n * 4 + 2, none⟩ = some (.slice ha2 x.held.length hcap2) ∧ w'.cell? ⟨b2, o2 + n * 4 + 3, none⟩ = some (.slice ta2 x.told.length tcap2)) 13 14 rfl (by kernel_rfl) (hSB.out _ hbd.out) (fun hSw => ?_)
      refine tk 0 ?_ rfl rfl (by kernel_rfl) (.inl ⟨by rfl, ?_⟩) hSw ?_
      rotate_left
      · rintro w ⟨hsw0, hsw1, hsw2, hsw3, hsw4, hsw5, hsw6, hsw7, hsw8, hsw9⟩; go_simp; try with_reducible rfl
      simp only [tkp, tkz, tks]
      refine tk 1 ?_ rfl rfl (by kernel_rfl) (.inl ⟨by rfl, ?_⟩) hSw ?_
      rotate_left
      · rintro w ⟨hsw0, hsw1, hsw2, hsw3, hsw4, hsw5, hsw6, hsw7, hsw8, hsw9⟩; go_simp; try with_reducible rfl
      simp only [tkp, tkz, tks]
      refine tk 2 ?_ rfl rfl (by kernel_rfl) (.inl ⟨by rfl, ?_⟩) hSw ?_
      rotate_left
      · rintro w ⟨hsw0, hsw1, hsw2, hsw3, hsw4, hsw5, hsw6, hsw7, hsw8, hsw9⟩; go_simp; try with_reducible rfl
      simp only [tkp, tkz, tks]
      refine tk 3 ?_ rfl rfl (by kernel_rfl) (.inl ⟨by rfl, ?_⟩) hSw ?_
      rotate_left
      · rintro w ⟨hsw0, hsw1, hsw2, hsw3, hsw4, hsw5, hsw6, hsw7, hsw8, hsw9⟩; go_simp; try with_reducible rfl
      simp only [tkp, tkz, tks]
      refine tk 4 ?_ rfl rfl (by kernel_rfl) (.inl ⟨by rfl, ?_⟩) hSw ?_
      rotate_left
      · rintro w ⟨hsw0, hsw1, hsw2, hsw3, hsw4, hsw5, hsw6, hsw7, hsw8, hsw9⟩; go_simp; try with_reducible rfl
      simp only [tkp, tkz, tks]
      refine tk 5 ?_ rfl rfl (by kernel_rfl) (.inl ⟨by rfl, ?_⟩) hSw ?_
      rotate_left
      · rintro w ⟨hsw0, hsw1, hsw2, hsw3, hsw4, hsw5, hsw6, hsw7, hsw8, hsw9⟩; go_simp; try with_reducible rfl
      simp only [tkp, tkz, tks]
      refine tk 6 ?_ rfl rfl (by kernel_rfl) (.inl ⟨by rfl, ?_⟩) hSw ?_
      rotate_left
      · rintro w ⟨hsw0, hsw1, hsw2, hsw3, hsw4, hsw5, hsw6, hsw7, hsw8, hsw9⟩; go_simp; try with_reducible rfl
      simp only [tkp, tkz, tks]
      refine tk 7 ?_ rfl rfl (by kernel_rfl) (.inl ⟨by rfl, ?_⟩) hSw ?_
      rotate_left
      · rintro w ⟨hsw0, hsw1, hsw2, hsw3, hsw4, hsw5, hsw6, hsw7, hsw8, hsw9⟩; go_simp; try with_reducible rfl
      simp only [tkp, tkz, tks]
      refine tk 8 ?_ rfl rfl (by kernel_rfl) (.inl ⟨by rfl, ?_⟩) hSw ?_
      rotate_left
      · rintro w ⟨hsw0, hsw1, hsw2, hsw3, hsw4, hsw5, hsw6, hsw7, hsw8, hsw9⟩; go_simp; try with_reducible rfl
      simp only [tkp, tkz, tks]
      refine tk 9 ?_ rfl rfl (by kernel_rfl) (.inl ⟨by rfl, ?_⟩) hSw ?_
      rotate_left
      · rintro w ⟨hsw0, hsw1, hsw2, hsw3, hsw4, hsw5, hsw6, hsw7, hsw8, hsw9⟩; go_simp; try with_reducible rfl
      simp only [tkp, tkz, tks]
      refine N_two' (i := 10) (j := 11) (by kernel_rfl) rfl rfl ?_ ?_
      · go_wp2_with fail
        have hSw2 := hSB.out _ (below_drew (below_a1 wr (.cells #[.int .i64 0, .slice none 0 0, .slice none 0 0, .slice none 0 0] 79)))
        refine QK_normal ⟨?_, ?_⟩
        · first | exact fun _ => hSw2 | exact hSw2
        refine N_one' (i := 11) (by kernel_rfl) rfl ?_
        go_wp2_with fail
        have hSw3 := hSB.out _ (below_drew (below_a2 wr (.cells #[.int .i64 0, .slice none 0 0, .slice none 0 0, .slice none 0 0] 79) (.cells #[.int .i64 0, .slice none 0 0, .slice none 0 0, .slice none 0 0] 79)))
        refine QK_normal ⟨?_, ?_⟩
        · first | exact fun _ => hSw3 | exact hSw3
        refine N_one' (i := 12) (by kernel_rfl) rfl ?_
        go_wp2_with fail
        have hSw4 := hSB.out _ (below_drew (below_a2 wr (.cells #[.int .i64 x.clock, .slice la x.last.length lcap, .slice ha x.held.length hcap, .slice ta x.told.length tcap] 79) (.cells #[.int .i64 0, .slice none 0 0, .slice none 0 0, .slice none 0 0] 79)))
        refine QK_normal ⟨?_, ?_⟩
        · first | exact fun _ => hSw4 | exact hSw4
        clear hSw2 hSw3 hSw4
        refine N_rest 13 1 (Nat.le_refl _) rfl (by kernel_rfl) ?_
        simp only [List.drop_succ_cons, List.drop_zero]
        go_upto_region 7 with fail
        have hb6 : Below wr.heap.size wr (((wr.alloc (.cells #[.int .i64 x.clock, .slice la x.last.length lcap, .slice ha x.held.length hcap, .slice ta x.told.length tcap] 79)).alloc (.cells #[.int .i64 x.clock, .slice la2 x.last.length lcap2, .slice ha2 x.held.length hcap2, .slice ta2 x.told.length tcap2] 79)).drew) := below_drew (below_a2 wr _ _)
        have hc6 : NBox (((wr.alloc (.cells #[.int .i64 x.clock, .slice la x.last.length lcap, .slice ha x.held.length hcap, .slice ta x.told.length tcap] 79)).alloc (.cells #[.int .i64 x.clock, .slice la2 x.last.length lcap2, .slice ha2 x.held.length hcap2, .slice ta2 x.told.length tcap2] 79)).drew) wr.heap.size x (.slice la x.last.length lcap) (.slice ha x.held.length hcap) (.slice ta x.told.length tcap) := (NBox.new wr x (.slice la x.last.length lcap) (.slice ha x.held.length hcap) (.slice ta x.told.length tcap) 79).below (B := (wr.alloc (.cells #[.int .i64 x.clock, .slice la x.last.length lcap, .slice ha x.held.length hcap, .slice ta x.told.length tcap] 79)).heap.size) (below_drew (below_a1 (wr.alloc (.cells #[.int .i64 x.clock, .slice la x.last.length lcap, .slice ha x.held.length hcap, .slice ta x.told.length tcap] 79)) (.cells #[.int .i64 x.clock, .slice la2 x.last.length lcap2, .slice ha2 x.held.length hcap2, .slice ta2 x.told.length tcap2] 79))) (by rw [World.size_alloc]; omega)
        have hd6 : NBox (((wr.alloc (.cells #[.int .i64 x.clock, .slice la x.last.length lcap, .slice ha x.held.length hcap, .slice ta x.told.length tcap] 79)).alloc (.cells #[.int .i64 x.clock, .slice la2 x.last.length lcap2, .slice ha2 x.held.length hcap2, .slice ta2 x.told.length tcap2] 79)).drew) (wr.heap.size + 1) x (.slice la2 x.last.length lcap2) (.slice ha2 x.held.length hcap2) (.slice ta2 x.told.length tcap2) := by
          have := NBox.new (wr.alloc (.cells #[.int .i64 x.clock, .slice la x.last.length lcap, .slice ha x.held.length hcap, .slice ta x.told.length tcap] 79)) x (.slice la2 x.last.length lcap2) (.slice ha2 x.held.length hcap2) (.slice ta2 x.told.length tcap2) 79
          rw [World.size_alloc] at this
          exact this
        generalize ((wr.alloc (.cells #[.int .i64 x.clock, .slice la x.last.length lcap, .slice ha x.held.length hcap, .slice ta x.told.length tcap] 79)).alloc (.cells #[.int .i64 x.clock, .slice la2 x.last.length lcap2, .slice ha2 x.held.length hcap2, .slice ta2 x.told.length tcap2] 79)).drew = w6 at *
        have hw6 := below_trans hww hb6
        have hs6 := hb6.size
        have hc6K := hc6
        have hd6K := hd6
        obtain ⟨q0, q1, q2, q3⟩ := hc6
        obtain ⟨r0, r1, r2, r3⟩ := hd6
        have p1 := hSH.out _ hb6
        have p2 := fun m => hST.out _ (below_trans hb6 (below_drewN w6 m))
        replace p2 := Lib.hid p2
        have hbo := Lib.hid (hb.trans (hb6.mono (by have := hs2.out; have := hb.size; omega)))
        have hLK := Lib.hid (hL.below hb6)
        have jLK := Lib.hid (jL.below hb6)
        have hcl := cell_lt q0
        have hdl := cell_lt r0
        dsimp only at hcl hdl
        clear hSw hSB hSH hST hb6 hbd k0 k1 k2 k3 j0 j1 j2 j3
        obtain ⟨wo, rfl⟩ : ∃ wo : World, wo = wr := ⟨_, rfl⟩
        go_wp2_with (first
          | (go_at_call 58; refine p1.mono ?_; clear p1; rintro e w7 ⟨rfl, m7, rfl⟩)
          | (go_at_call 58; refine (p2.out _).mono ?_; clear p2; rintro e w8 ⟨rfl, m8, rfl⟩))
        go_loopw [8] (fun i wr => ∃ g : Nat, g ≤ x.last.length ∧ i = .int .i64 g ∧ Below w6.heap.size w6 wr) (fun i _ => x.last.length - (intOf i).toNat)
        case atStart => exact ⟨0, by omega, rfl, by first | exact below_drewN w6 _ | exact (below_drewN w6 _).trans ((below_drewN _ _).mono (Nat.le_refl _))⟩
        case round =>
          clear q0 q1 q2 q3 r0 r1 r2 r3
          obtain ⟨g, hg0, rfl, hb9⟩ := hrel
          obtain ⟨q0, q1, q2, q3⟩ := hc6K.below hb9 hcl
          obtain ⟨r0, r1, r2, r3⟩ := hd6K.below hb9 hdl
          by_cases hltg : g < x.last.length
          · obtain ⟨b3, o3, c3, u3, e3, _, s1, hI3⟩ := (hLK.out.below hb9).at hltg
            cases e3
            obtain ⟨b4, o4, c4, u4, e4, _, s2, hI4⟩ := (jLK.out.below hb9).at hltg
            cases e4
            obtain ⟨row, HR⟩ : ∃ row, x.last.getD g [] = row := ⟨_, rfl⟩
            rw [HR] at hI3 hI4
            clear HR
            obtain ⟨_, a3, cap3, rfl, _⟩ := hI3.open
            obtain ⟨_, a4, cap4, rfl, _⟩ := hI4.open
            have hS9 := fun o (h : Below wr.heap.size wr o) => SameInts_c (hI3.below h) (hI4.below h)
            rw [show decide (row = row) = true by simp] at hS9
            have hl1 := cell_lt q0
            have hl2 := cell_lt r0
            have hl3 := cell_lt s1
            have hl4 := cell_lt s2
            dsimp only at hl1 hl2 hl3 hl4
            replace hS9 := Lib.hid hS9
            go_wp2_with fail
            refine wp_region_over (by kernel_rfl) (by kernel_rfl) ?_
            repeat (go_big_quiet_step (exact over_g (hS9.out _ (Over.h _))))
            refine wpQuiet_nil ?_
            rintro w5 ⟨⟨_, hb5⟩, rfl⟩
            go_wp2_with fail
            go_roundw
            case rel => exact ⟨g + 1, by omega, by go_num, below_trans hb9 hb5⟩
            case measure => simp [intOf]; omega
          · obtain rfl : g = x.last.length := by omega
            go_wp2_with fail
            go_roundw
            case rel => exact ⟨n + 1, by omega, by go_num, hbo.out.trans (hb9.mono (by have := hs2.out; have := hbo.out.size; omega))⟩
            case measure => simp [intOf]; omega
      · go_wp2_with fail
        have hSw2 := hSB.out _ (below_drew (below_a1 wr (.cells #[.int .i64 0, .slice none 0 0, .slice none 0 0, .slice none 0 0] 79)))
        refine QK_normal ⟨?_, ?_⟩
        · first | exact fun _ => hSw2 | exact hSw2
        refine N_one' (i := 10) (by kernel_rfl) rfl ?_
        go_wp2_with fail
        have hSw3 := hSB.out _ (below_drew (below_a2 wr (.cells #[.int .i64 0, .slice none 0 0, .slice none 0 0, .slice none 0 0] 79) (.cells #[.int .i64 0, .slice none 0 0, .slice none 0 0, .slice none 0 0] 79)))
        refine QK_normal ⟨?_, ?_⟩
        · first | exact fun _ => hSw3 | exact hSw3
        refine N_one' (i := 12) (by kernel_rfl) rfl ?_
        go_wp2_with fail
        have hSw4 := hSB.out _ (below_drew (below_a2 wr (.cells #[.int .i64 0, .slice none 0 0, .slice none 0 0, .slice none 0 0] 79) (.cells #[.int .i64 x.clock, .slice la x.last.length lcap, .slice ha x.held.length hcap, .slice ta x.told.length tcap] 79)))
        refine QK_normal ⟨?_, ?_⟩
        · first | exact fun _ => hSw4 | exact hSw4
        clear hSw2 hSw3 hSw4
        refine N_rest 13 1 (Nat.le_refl _) rfl (by kernel_rfl) ?_
        simp only [List.drop_succ_cons, List.drop_zero]
        go_upto_region 7 with fail
        have hb6 : Below wr.heap.size wr (((wr.alloc (.cells #[.int .i64 x.clock, .slice la2 x.last.length lcap2, .slice ha2 x.held.length hcap2, .slice ta2 x.told.length tcap2] 79)).alloc (.cells #[.int .i64 x.clock, .slice la x.last.length lcap, .slice ha x.held.length hcap, .slice ta x.told.length tcap] 79)).drew) := below_drew (below_a2 wr _ _)
        have hd6 : NBox (((wr.alloc (.cells #[.int .i64 x.clock, .slice la2 x.last.length lcap2, .slice ha2 x.held.length hcap2, .slice ta2 x.told.length tcap2] 79)).alloc (.cells #[.int .i64 x.clock, .slice la x.last.length lcap, .slice ha x.held.length hcap, .slice ta x.told.length tcap] 79)).drew) wr.heap.size x (.slice la2 x.last.length lcap2) (.slice ha2 x.held.length hcap2) (.slice ta2 x.told.length tcap2) := (NBox.new wr x (.slice la2 x.last.length lcap2) (.slice ha2 x.held.length hcap2) (.slice ta2 x.told.length tcap2) 79).below (B := (wr.alloc (.cells #[.int .i64 x.clock, .slice la2 x.last.length lcap2, .slice ha2 x.held.length hcap2, .slice ta2 x.told.length tcap2] 79)).heap.size) (below_drew (below_a1 (wr.alloc (.cells #[.int .i64 x.clock, .slice la2 x.last.length lcap2, .slice ha2 x.held.length hcap2, .slice ta2 x.told.length tcap2] 79)) (.cells #[.int .i64 x.clock, .slice la x.last.length lcap, .slice ha x.held.length hcap, .slice ta x.told.length tcap] 79))) (by rw [World.size_alloc]; omega)
        have hc6 : NBox (((wr.alloc (.cells #[.int .i64 x.clock, .slice la2 x.last.length lcap2, .slice ha2 x.held.length hcap2, .slice ta2 x.told.length tcap2] 79)).alloc (.cells #[.int .i64 x.clock, .slice la x.last.length lcap, .slice ha x.held.length hcap, .slice ta x.told.length tcap] 79)).drew) (wr.heap.size + 1) x (.slice la x.last.length lcap) (.slice ha x.held.length hcap) (.slice ta x.told.length tcap) := by
          have := NBox.new (wr.alloc (.cells #[.int .i64 x.clock, .slice la2 x.last.length lcap2, .slice ha2 x.held.length hcap2, .slice ta2 x.told.length tcap2] 79)) x (.slice la x.last.length lcap) (.slice ha x.held.length hcap) (.slice ta x.told.length tcap) 79
          rw [World.size_alloc] at this
          exact this
        generalize ((wr.alloc (.cells #[.int .i64 x.clock, .slice la2 x.last.length lcap2, .slice ha2 x.held.length hcap2, .slice ta2 x.told.length tcap2] 79)).alloc (.cells #[.int .i64 x.clock, .slice la x.last.length lcap, .slice ha x.held.length hcap, .slice ta x.told.length tcap] 79)).drew = w6 at *
        have hw6 := below_trans hww hb6
        have hs6 := hb6.size
        have hc6K := hc6
        have hd6K := hd6
        obtain ⟨q0, q1, q2, q3⟩ := hc6
        obtain ⟨r0, r1, r2, r3⟩ := hd6
        have p1 := hSH.out _ hb6
        have p2 := fun m => hST.out _ (below_trans hb6 (below_drewN w6 m))
        replace p2 := Lib.hid p2
        have hbo := Lib.hid (hb.trans (hb6.mono (by have := hs2.out; have := hb.size; omega)))
        have hLK := Lib.hid (hL.below hb6)
        have jLK := Lib.hid (jL.below hb6)
        have hcl := cell_lt q0
        have hdl := cell_lt r0
        dsimp only at hcl hdl
        clear hSw hSB hSH hST hb6 hbd k0 k1 k2 k3 j0 j1 j2 j3
        obtain ⟨wo, rfl⟩ : ∃ wo : World, wo = wr := ⟨_, rfl⟩
        go_wp2_with (first
          | (go_at_call 58; refine p1.mono ?_; clear p1; rintro e w7 ⟨rfl, m7, rfl⟩)
          | (go_at_call 58; refine (p2.out _).mono ?_; clear p2; rintro e w8 ⟨rfl, m8, rfl⟩))
        go_loopw [8] (fun i wr => ∃ g : Nat, g ≤ x.last.length ∧ i = .int .i64 g ∧ Below w6.heap.size w6 wr) (fun i _ => x.last.length - (intOf i).toNat)
        case atStart => exact ⟨0, by omega, rfl, by first | exact below_drewN w6 _ | exact (below_drewN w6 _).trans ((below_drewN _ _).mono (Nat.le_refl _))⟩
        case round =>
          clear q0 q1 q2 q3 r0 r1 r2 r3
          obtain ⟨g, hg0, rfl, hb9⟩ := hrel
          obtain ⟨q0, q1, q2, q3⟩ := hc6K.below hb9 hcl
          obtain ⟨r0, r1, r2, r3⟩ := hd6K.below hb9 hdl
          by_cases hltg : g < x.last.length
          · obtain ⟨b3, o3, c3, u3, e3, _, s1, hI3⟩ := (hLK.out.below hb9).at hltg
            cases e3
            obtain ⟨b4, o4, c4, u4, e4, _, s2, hI4⟩ := (jLK.out.below hb9).at hltg
            cases e4
            obtain ⟨row, HR⟩ : ∃ row, x.last.getD g [] = row := ⟨_, rfl⟩
            rw [HR] at hI3 hI4
            clear HR
            obtain ⟨_, a3, cap3, rfl, _⟩ := hI3.open
            obtain ⟨_, a4, cap4, rfl, _⟩ := hI4.open
            have hS9 := fun o (h : Below wr.heap.size wr o) => SameInts_c (hI3.below h) (hI4.below h)
            rw [show decide (row = row) = true by simp] at hS9
            have hl1 := cell_lt q0
            have hl2 := cell_lt r0
            have hl3 := cell_lt s1
            have hl4 := cell_lt s2
            dsimp only at hl1 hl2 hl3 hl4
            replace hS9 := Lib.hid hS9
            go_wp2_with fail
            refine wp_region_over (by kernel_rfl) (by kernel_rfl) ?_
            repeat (go_big_quiet_step (exact over_g (hS9.out _ (Over.h _))))
            refine wpQuiet_nil ?_
            rintro w5 ⟨⟨_, hb5⟩, rfl⟩
            go_wp2_with fail
            go_roundw
            case rel => exact ⟨g + 1, by omega, by go_num, below_trans hb9 hb5⟩
            case measure => simp [intOf]; omega
          · obtain rfl : g = x.last.length := by omega
            go_wp2_with fail
            go_roundw
            case rel => exact ⟨n + 1, by omega, by go_num, hbo.out.trans (hb9.mono (by have := hs2.out; have := hbo.out.size; omega))⟩
            case measure => simp [intOf]; omega
    · obtain rfl : n = X.nodes.length := by omega
      have hbo := Lib.hid hb
      obtain ⟨wo, rfl⟩ : ∃ wo : World, wo = wr := ⟨_, rfl⟩
      go_wp2_with fail
      go_loopw [9] (fun i wr => ∃ n : Nat, n ≤ X.wires.length ∧ i = .int .i64 n ∧ Below (w.heap.size + 2) w2 wr) (fun i _ => X.wires.length - (intOf i).toNat)
      case atStart => exact ⟨0, by omega, rfl, hbo.out⟩
      case round =>
        clear x0 x1 x2 y0 y1 y2 hb hww hbo hn0 hlt
        obtain ⟨n, hn0, rfl, hb⟩ := hrel
        have hww : Below w.heap.size w wr := hA.trans (hb.mono (by omega))
        obtain ⟨x0, x1, x2⟩ := hB1K.below hb (by omega)
        obtain ⟨y0, y1, y2⟩ := hB2K.below hb (by omega)
        by_cases hlt : n < X.wires.length
        · obtain ⟨b1, o1, c1, v1, e1, _, r1, hu1⟩ := (hw.below hww).row hlt
          cases e1
          obtain ⟨b2, o2, c2, v2, e2, _, r2, hu2⟩ := (kw.below hww).row hlt
          cases e2
          obtain ⟨row, HR⟩ : ∃ row, X.wires.getD n [] = row := ⟨_, rfl⟩
          rw [HR] at hu1 hu2
          clear HR
          obtain ⟨hrl, a1, cap1, rfl, _⟩ := hu1.form
          obtain ⟨_, a2, cap2, rfl, _⟩ := hu2.form
          have hl1 := cell_lt x0
          have hl2 := cell_lt y0
          have hl3 := cell_lt r1
          have hl4 := cell_lt r2
          dsimp only at hl1 hl2 hl3 hl4
          have x2K := Lib.hid x2
          have y2K := Lib.hid y2
          have r1K := Lib.hid r1
          have r2K := Lib.hid r2
          have hbK := Lib.hid hb
          obtain ⟨wo, rfl⟩ : ∃ wo : World, wo = wr := ⟨_, rfl⟩
          go_wp2_with fail
          refine wp_region_over (by kernel_rfl) (by kernel_rfl) ?_
          repeat (go_big_quiet_step (fail))
          refine wpQuiet_nil ?_
          rintro w5 ⟨⟨_, hb5⟩, rfl⟩
          go_wp2_with fail
          go_loopw [10] (fun i wr => ∃ k : Nat, k ≤ row.length ∧ i = .int .i64 k ∧ Below wo.heap.size wo wr) (fun i _ => row.length - (intOf i).toNat)
          case atStart => exact ⟨0, by omega, rfl, hb5⟩
          case round =>
            clear x0 x1 x2 y0 y1 y2 r1 r2
            obtain ⟨k, hk0, rfl, hb9⟩ := hrel
            have hs9 := hb9.size
            have x2 := (hb9.cell (p := ⟨w.heap.size, 2, none⟩) hl1).trans x2K.out
            have y2 := (hb9.cell (p := ⟨w.heap.size + 1, 2, none⟩) hl2).trans y2K.out
            have r1 := (hb9.cell (p := ⟨b1, o1 + n, none⟩) hl3).trans r1K.out
            have r2 := (hb9.cell (p := ⟨b2, o2 + n, none⟩) hl4).trans r2K.out
            by_cases hltk : k < row.length
            · obtain ⟨b3, o3, c3, v3, e3, _, s1, hI3⟩ := (hu1.below hb9).at hltk
              cases e3
              obtain ⟨b4, o4, c4, v4, e4, _, s2, hI4⟩ := (hu2.below hb9).at hltk
              cases e4
              obtain ⟨l, HL⟩ : ∃ l, row.getD k [] = l := ⟨_, rfl⟩
              rw [HL] at hI3 hI4
              clear HL
              obtain ⟨_, a3, cap3, rfl, _⟩ := hI3.open
              obtain ⟨_, a4, cap4, rfl, _⟩ := hI4.open
              have hS9 := fun o (h : Below wr.heap.size wr o) => SameMsgs_c (hI3.below h) (hI4.below h)
              rw [sameMs_self] at hS9
              have hm1 := cell_lt x2
              have hm2 := cell_lt y2
              have hm3 := cell_lt r1
              have hm4 := cell_lt r2
              have hm5 := cell_lt s1
              have hm6 := cell_lt s2
              dsimp only at hm1 hm2 hm3 hm4 hm5 hm6
              replace hS9 := Lib.hid hS9
              go_wp2_with fail
              refine wp_region_over (by kernel_rfl) (by kernel_rfl) ?_
              repeat (go_big_quiet_step (exact over_g (hS9.out _ (Over.h _))))
              refine wpQuiet_nil ?_
              rintro w6 ⟨⟨_, hb6⟩, rfl⟩
              go_wp2_with fail
              go_roundw
              case rel => exact ⟨k + 1, by omega, by go_num, below_trans hb9 hb6⟩
              case measure => simp [intOf]; omega
            · obtain rfl : k = row.length := by omega
              go_wp2_with fail
              go_roundw
              case rel => exact ⟨n + 1, by omega, by go_num, hbK.out.trans (hb9.mono (by have := hs2.out; have := hbK.out.size; omega))⟩
              case measure => simp [intOf]; omega
        · obtain rfl : n = X.wires.length := by omega
          go_wp2_with fail
          go_ret
          exact ⟨rfl, hww⟩
end Go.Proofs.Ytnalakhelicjcaa
