/-
  WorldTells: Begin and Check answer just what the document says.
-/
import Derived.Test.YtafmpcaneeplpaaWBg
set_option maxRecDepth 100000
namespace Go.Proofs.Ytafmpcaneeplpaa
open Go.RowKit Go.Shelf Go.BigFrame

set_option maxHeartbeats 4000000 in
theorem WorldTells_walk_of (w : World) {v vw : Value} {nodes : Int} {xs : List Int} {X : Wd} (_ : I64 nodes) (h : Ints w v xs) (hW : WorldAt w vw X) :
    Calls Try.prog 3 #[.int .i64 nodes, v, vw] w (GivesB (.bool true) w) := by
  have hW0 := hW
  obtain ⟨gv, nv, wv, rfl, hg, hn, hw⟩ := hW
  obtain ⟨_, na, ncap, rfl, _⟩ := hn.form
  obtain ⟨_, ga, gcap, rfl, _⟩ := hg.open
  obtain ⟨_, wa, wcap, rfl, _⟩ := hw.form
  clear hg hn hw
  obtain ⟨P, hP⟩ : ∃ P, GivesB (.bool true) w = P := ⟨_, rfl⟩
  rw [hP]
  replace hP := Lib.hid hP
  have hB := WBox.new w (.slice ga X.groups.length gcap) (.slice na X.nodes.length ncap) (.slice wa X.wires.length wcap) 26
  have b1 := below_a1 w (.cells #[.slice ga X.groups.length gcap, .slice na X.nodes.length ncap, .slice wa X.wires.length wcap] 26)
  go_enter Try.func3, Try.ntmps3
  go_upto_region 1 with fail
  generalize w.alloc (.cells #[.slice ga X.groups.length gcap, .slice na X.nodes.length ncap, .slice wa X.wires.length wcap] 26) = w1 at *
  have hBl := cell_lt hB.1
  dsimp only at hBl
  have hBe := Begin_c (h.below b1) nodes
  have hsm := fun h => gErr_small (nodes := nodes) (gs := xs) h
  have hbf : beginF nodes xs = if gErr nodes xs = 0 then (0, beginX nodes.toNat xs) else (gErr nodes xs, Wd.none) := rfl
  obtain ⟨r, hr⟩ : ∃ r, beginF nodes xs = r := ⟨_, rfl⟩
  rw [hr] at hBe hbf
  clear hr
  have hGE := fun o (hb : Below w.heap.size w o) => GroupsError_c (h.below hb) nodes
  obtain ⟨e0, he0⟩ : ∃ e0, gErr nodes xs = e0 := ⟨_, rfl⟩
  rw [he0] at hsm hbf
  simp only [he0] at hGE
  clear he0
  replace hsm := Lib.hid hsm
  replace hGE := Lib.hid hGE
  replace hbf := Lib.hid hbf
  go_wp2_with fail
  refine hBe.mono ?_
  rintro e w2 ⟨gv2, nv2, wv2, S2, rfl, hO2, hS2, b2⟩
  obtain ⟨pg, pn, pw⟩ := hO2.parts
  obtain ⟨_, ga2, gcap2, rfl, _⟩ := pg.open
  obtain ⟨_, na2, ncap2, rfl, _⟩ := pn.form
  obtain ⟨_, wa2, wcap2, rfl, _⟩ := pw.form
  clear pg pn pw hBe hS2
  have hB2 := WBox.new w2 (.slice ga2 r.2.groups.length gcap2) (.slice na2 r.2.nodes.length ncap2) (.slice wa2 r.2.wires.length wcap2) 26
  have b3 := below_trans (below_trans b1 b2) (below_a1 w2 (.cells #[.slice ga2 r.2.groups.length gcap2, .slice na2 r.2.nodes.length ncap2, .slice wa2 r.2.wires.length wcap2] 26))
  have hW2 := hO2.world.below (below_a1 w2 (.cells #[.slice ga2 r.2.groups.length gcap2, .slice na2 r.2.nodes.length ncap2, .slice wa2 r.2.wires.length wcap2] 26))
  have hB3 := (hB.below b2 hBl).below (below_a1 w2 (.cells #[.slice ga2 r.2.groups.length gcap2, .slice na2 r.2.nodes.length ncap2, .slice wa2 r.2.wires.length wcap2] 26)) (by have := b2.size; omega)
  go_upto_region 2 with fail
  generalize w2.alloc (.cells #[.slice ga2 r.2.groups.length gcap2, .slice na2 r.2.nodes.length ncap2, .slice wa2 r.2.wires.length wcap2] 26) = w3 at *
  obtain ⟨B2, hB2e⟩ : ∃ B, w2.heap.size = B := ⟨_, rfl⟩
  simp only [hB2e] at hB2 ⊢
  clear hB2e hO2 b2 b1 hB hBl
  have hGE := hGE.out w3 b3
  have hk3 := cell_lt hB3.1
  have hk2 := cell_lt hB2.1
  dsimp only at hk3 hk2
  have hX3 := hW0.below b3
  by_cases hz : e0 = 0
  · obtain ⟨h1, h2, h3⟩ := hsm.out hz
    have hrr : r = (0, beginX nodes.toNat xs) := by have := hbf.out; rwa [if_pos hz] at this
    obtain ⟨n, rfl⟩ := Int.eq_ofNat_of_zero_le (show 0 ≤ nodes by omega)
    rw [Int.toNat_natCast] at hrr
    subst hrr
    subst hz
    have hBg := fun o (hb : Below w.heap.size w o) => BeginOf_c (h.below hb) (n := n) (by omega) (by omega)
    generalize beginX n xs = Y at *
    dsimp only at hB2 hW2 ⊢
    clear hbf hsm
    replace hBg := Lib.hid hBg
    go_wp2_with (first
      | (go_at_call 16; refine hGE.mono ?_; clear hGE; rintro e w4 ⟨rfl, m4, rfl⟩))
    have b4 : Below w3.heap.size w3 ((w3.drewN m4).alloc (.cells #[.slice none 0 0, .slice none 0 0, .slice none 0 0] 26)) := (below_drewN w3 m4).trans (below_a1 (w3.drewN m4) _)
    have hR : OBox ((w3.drewN m4).alloc (.cells #[.slice none 0 0, .slice none 0 0, .slice none 0 0] 26)) w3.heap.size 26 (.slice none 0 0) (.slice none 0 0) (.slice none 0 0) := OBox.new (w3.drewN m4) _ _ _ _
    have hBX := hB3.below b4 hk3
    have hBR := hB2.below b4 hk2
    have hWX := hX3.below b4
    have hWr := hW2.below b4
    have b5 := below_trans b3 b4
    have hs5 : w3.heap.size < ((w3.drewN m4).alloc (.cells #[.slice none 0 0, .slice none 0 0, .slice none 0 0] 26)).heap.size := hR.lt
    generalize (w3.drewN m4).alloc (.cells #[.slice none 0 0, .slice none 0 0, .slice none 0 0] 26) = w5 at *
    refine (hBg.out w5 b5).mono ?_
    rintro e w6 ⟨gv6, nv6, wv6, S6, rfl, hO6, hS6, b6⟩
    obtain ⟨pg, pn, pw⟩ := hO6.parts
    obtain ⟨_, ga6, gcap6, rfl, _⟩ := pg.open
    obtain ⟨_, na6, ncap6, rfl, _⟩ := pn.form
    obtain ⟨_, wa6, wcap6, rfl, _⟩ := pw.form
    clear pg pn pw hBg
    have hR6 := hR.keep (b6.block _ hR.lt)
    have hf0 := hR6.1.frozen 0
    have hf1 := hR6.1.frozen 1
    have hf2 := hR6.1.frozen 2
    obtain ⟨_, t0, t1, t2⟩ := id hR6
    have hBT := (((hR6.set0 (.slice ga6 Y.groups.length gcap6)).set1 (.slice na6 Y.nodes.length ncap6)).set2 (.slice wa6 Y.wires.length wcap6)).2
    have b7 : Below w3.heap.size w5 (((w6.setCell ⟨w3.heap.size, 0, none⟩ (.slice ga6 Y.groups.length gcap6)).setCell ⟨w3.heap.size, 1, none⟩ (.slice na6 Y.nodes.length ncap6)).setCell ⟨w3.heap.size, 2, none⟩ (.slice wa6 Y.wires.length wcap6)) :=
      below_setCell (below_setCell (below_setCell (b6.mono (Nat.le_of_lt hs5)) (Nat.le_refl _) _) (Nat.le_refl _) _) (Nat.le_refl _) _
    have hWt := (hO6.keep (w' := ((w6.setCell ⟨w3.heap.size, 0, none⟩ (.slice ga6 Y.groups.length gcap6)).setCell ⟨w3.heap.size, 1, none⟩ (.slice na6 Y.nodes.length ncap6)).setCell ⟨w3.heap.size, 2, none⟩ (.slice wa6 Y.wires.length wcap6)) (fun c hc => by
      have := hS6 c hc
      rw [Go.Deep.blk_setCell_other _ _ _ _ (by show c ≠ w3.heap.size; omega), Go.Deep.blk_setCell_other _ _ _ _ (by show c ≠ w3.heap.size; omega), Go.Deep.blk_setCell_other _ _ _ _ (by show c ≠ w3.heap.size; omega)])).world
    have b37 := (b4.mono (Nat.le_refl _)).trans b7
    have hBX := hB3.below b37 hk3
    have hBR := hB2.below b37 hk2
    have hWX := hX3.below b37
    have hWr := hW2.below b37
    have b7 := below_trans b3 b37
    clear hO6 hS6 b6 hR hR6 b4 b5 b37 hs5
    go_upto_region 6 with fail
    generalize ((w6.setCell ⟨w3.heap.size, 0, none⟩ (.slice ga6 Y.groups.length gcap6)).setCell ⟨w3.heap.size, 1, none⟩ (.slice na6 Y.nodes.length ncap6)).setCell ⟨w3.heap.size, 2, none⟩ (.slice wa6 Y.wires.length wcap6) = w7 at *
    have k0 := cell_lt hBX.1
    have k1 := cell_lt hBR.1
    have k2 := cell_lt hBT.1
    dsimp only at k0 k1 k2
    obtain ⟨x0, x1, x2⟩ := hBX
    obtain ⟨y0, y1, y2⟩ := hBR
    obtain ⟨z0, z1, z2⟩ := hBT
    have c2 := Lib.hid (fun o (h : Below w7.heap.size w7 o) => SameWorlds_c (hWr.below h) (hWt.below h))
    have c3 := fun o (h : Below w7.heap.size w7 o) => WCheck_c (hWX.below h)
    have c4 := fun o (h : Below w7.heap.size w7 o) => WorldError_c (hWX.below h)
    generalize errX X = ex at *
    replace c3 := Lib.hid c3
    replace c4 := Lib.hid c4
    clear hWr hWt hWX
    refine wp_region_over (by kernel_rfl) (by kernel_rfl) ?_
    repeat (go_big_quiet_step (first | exact over_c (worldBegun_c _) | exact over_c (c2.out _ (Over.h _)) | exact over_c (c3.out _ (Over.h _)) | exact over_c (c4.out _ (Over.h _))))
    refine wpQuiet_nil ?_
    rintro w8 ⟨⟨_, b8⟩, rfl⟩
    go_wp2_with fail
    rw [← hP.out]
    exact ⟨rfl, below_trans b7 b8⟩
  · have hrr : r = (e0, Wd.none) := by have := hbf.out; rwa [if_neg hz] at this
    subst hrr
    have hne : (e0 == 0) = false := by simpa using hz
    dsimp only at hB2 hW2 ⊢
    clear hbf hsm
    replace hz := Lib.hid hz
    go_upto_region 2 with fail
    go_wp2_with (first
      | (go_at_call 16; refine hGE.mono ?_; clear hGE; rintro e w4 ⟨rfl, m4, rfl⟩))
    have b4 : Below w3.heap.size w3 ((w3.drewN m4).alloc (.cells #[.slice none 0 0, .slice none 0 0, .slice none 0 0] 26)) := (below_drewN w3 m4).trans (below_a1 (w3.drewN m4) _)
    have hBT := WBox.new (w3.drewN m4) (.slice none 0 0) (.slice none 0 0) (.slice none 0 0) 26
    have hBX := hB3.below b4 hk3
    have hBR := hB2.below b4 hk2
    have hWX := hX3.below b4
    have hWr := hW2.below b4
    have b7 := below_trans b3 b4
    have hWt := (OWd.empty ((w3.drewN m4).alloc (.cells #[.slice none 0 0, .slice none 0 0, .slice none 0 0] 26)) (fun _ => False) true).world
    change WBox _ w3.heap.size _ _ _ at hBT
    generalize (w3.drewN m4).alloc (.cells #[.slice none 0 0, .slice none 0 0, .slice none 0 0] 26) = w7 at *
    have k0 := cell_lt hBX.1
    have k1 := cell_lt hBR.1
    have k2 := cell_lt hBT.1
    dsimp only at k0 k1 k2
    obtain ⟨x0, x1, x2⟩ := hBX
    obtain ⟨y0, y1, y2⟩ := hBR
    obtain ⟨z0, z1, z2⟩ := hBT
    have c2 := Lib.hid (fun o (h : Below w7.heap.size w7 o) => SameWorlds_c (hWr.below h) (hWt.below h))
    have c3 := fun o (h : Below w7.heap.size w7 o) => WCheck_c (hWX.below h)
    have c4 := fun o (h : Below w7.heap.size w7 o) => WorldError_c (hWX.below h)
    generalize errX X = ex at *
    replace c3 := Lib.hid c3
    replace c4 := Lib.hid c4
    clear hWr hWt hWX
    refine wp_region_over (by kernel_rfl) (by kernel_rfl) ?_
    repeat (go_big_quiet_step (first | exact over_c (worldBegun_c _) | exact over_c (c2.out _ (Over.h _)) | exact over_c (c3.out _ (Over.h _)) | exact over_c (c4.out _ (Over.h _))))
    refine wpQuiet_nil ?_
    rintro w8 ⟨⟨_, b8⟩, rfl⟩
    go_wp2_with fail
    rw [← hP.out]
    exact ⟨rfl, below_trans b7 b8⟩
end Go.Proofs.Ytafmpcaneeplpaa
