/-
  LogRecovers: Recover answers just what the document says.
-/
import Derived.Test.YtnalakhelicjcaaGreatLRr
import Derived.Test.YtnalakhelicjcaaGreatLgB
import Derived.Test.YtnalakhelicjcaaGreatSW
set_option maxRecDepth 100000
namespace Go.Proofs.YtnalakhelicjcaaGreat
open Go.RowKit Go.Shelf Go.BigFrame

set_option maxHeartbeats 2000000 in
theorem LogRecovers_walk_of (w : World) {nodes : Int} {gv : Value} {gs : List Int} {t : ByteArray} (_hn64 : I64 nodes) (hg : Ints w gv gs) (_hts : t.size ≤ 140737488351232) :
    Calls Tryz.prog 4 #[.int .i64 nodes, gv, .string t] w (GivesB (.bool true) w) := by
  have hRc := Recover_c hg nodes t
  have hGE := fun o (h : Below w.heap.size w o) => GroupsError_c (hg.below h) nodes
  have hO := fun o => ReplayOf_c o t
  have hDn := fun (n : Nat) (hn : n ≤ 4) (hgl : gs.length ≤ 1000) o v l (h : Below w.heap.size w o) (ha : Acts o v l) => DoneOf_c (n := n) (hg.below h) (by omega) hgl ha (fun _ _ _ _ _ _ h => CalmOf_c h)
  have hgs := fun h => gErr_small (nodes := nodes) (gs := gs) h
  have hr : recF nodes gs t = if gErr nodes gs = 0 then if replayE t = 0 then (0, ((replayA t).length : Int), doneF (beginX nodes.toNat gs) (replayA t)) else (replayE t, 0, Wd.none) else (gErr nodes gs, 0, Wd.none) := rfl
  obtain ⟨_, ga, gcap, rfl, _⟩ := hg.open
  generalize recF nodes gs t = r at *
  generalize gErr nodes gs = e0 at *
  generalize replayA t = l at *
  generalize replayN t = n1 at *
  generalize replayE t = u at *
  replace hGE := Lib.hid hGE
  replace hO := Lib.hid hO
  replace hDn := Lib.hid hDn
  replace hgs := Lib.hid hgs
  replace hr := Lib.hid hr
  clear hg
  go_enter Tryz.func4, Tryz.ntmps4
  go_wp2_with fail
  refine hRc.mono ?_
  clear hRc
  rintro e w1 ⟨gv1, nv1, wv1, S1, rfl, hO1, hS1, b1⟩
  obtain ⟨pg, pn, pw⟩ := hO1.parts
  obtain ⟨_, ga1, gcap1, rfl, _⟩ := pg.open
  obtain ⟨_, na1, ncap1, rfl, _⟩ := pn.form
  obtain ⟨_, wa1, wcap1, rfl, _⟩ := pw.form
  clear pg pn pw
  have hR1 := OBox.new w1 37 (.slice ga1 r.2.2.groups.length gcap1) (.slice na1 r.2.2.nodes.length ncap1) (.slice wa1 r.2.2.wires.length wcap1)
  have bx1 := below_a1 w1 (.cells #[.slice ga1 r.2.2.groups.length gcap1, .slice na1 r.2.2.nodes.length ncap1, .slice wa1 r.2.2.wires.length wcap1] 37)
  have hW1 := hO1.world.below bx1
  go_upto_region 2 with fail
  generalize w1.alloc (.cells #[.slice ga1 r.2.2.groups.length gcap1, .slice na1 r.2.2.nodes.length ncap1, .slice wa1 r.2.2.wires.length wcap1] 37) = w2 at *
  obtain ⟨B1, hB1⟩ : ∃ B, w1.heap.size = B := ⟨_, rfl⟩
  simp only [hB1] at hR1 ⊢
  clear hB1
  have b2 := below_trans b1 bx1
  clear hO1 hS1 b1 bx1
  go_wp2_with fail
  refine (hGE.out w2 b2).mono ?_
  rintro e w3 ⟨rfl, d3⟩
  have b3 := d3.below
  clear d3 hGE
  have hR1 := hR1.keep (b3.block _ hR1.lt)
  have hW1 := hW1.below b3
  have b3 := below_trans b2 b3
  go_wp2_with fail
  refine (hO.out w3).mono ?_
  rintro e w4 ⟨v4, rfl, hL4, b4⟩
  obtain ⟨_, a4, c4, rfl, _⟩ := hL4.form
  have hR1 := hR1.keep (b4.block _ hR1.lt)
  have hW1 := hW1.below b4
  have b4 := below_trans b3 b4
  clear hO b2 b3
  have hR1z := hR1
  have hW1z := hW1
  have bk := below_a1 w4 (.cells #[.slice none 0 0, .slice none 0 0, .slice none 0 0] 37)
  have hRk := OBox.new w4 37 (.slice none 0 0) (.slice none 0 0) (.slice none 0 0)
  have hR1 := hR1.keep (bk.block _ hR1.lt)
  have hW1 := hW1.below bk
  have hL4 := hL4.below bk
  have bF := below_trans b4 bk
  have hWn : WorldAt (w4.alloc (.cells #[.slice none 0 0, .slice none 0 0, .slice none 0 0] 37)) (.agg #[.slice none 0 0, .slice none 0 0, .slice none 0 0]) Wd.none := (OWd.empty _ (fun _ => False) false).world
  by_cases h0 : e0 = 0
  rotate_left
  · have hq : (e0 == 0) = false := by simpa using h0
    have hr := hr.out
    rw [if_neg h0] at hr
    have q1 : (r.1 == e0) = true := by rw [hr]; simp
    have q2 : (r.2.1 == 0) = true := by rw [hr]; rfl
    have q3 : r.2.2 = Wd.none := by rw [hr]
    have hWk := hWn
    rw [← q3] at hWk
    replace h0 := Lib.hid h0
    replace hr := Lib.hid hr
    replace q3 := Lib.hid q3
    clear hWn
    go_upto_region 8 with fail
    generalize w4.alloc (.cells #[.slice none 0 0, .slice none 0 0, .slice none 0 0] 37) = w5 at *
    obtain ⟨B4, hB4⟩ : ∃ B, w4.heap.size = B := ⟨_, rfl⟩
    simp only [hB4] at hRk ⊢
    clear hB4
    go_wp2_with fail
    refine (logBegun_c w5).mono ?_
    rintro e wG ⟨rfl, bG⟩
    have hR1 := hR1.keep (bG.block _ hR1.lt)
    have hRk := hRk.keep (bG.block _ hRk.lt)
    have hS := SameWorlds_c (hW1.below bG) (hWk.below bG)
    obtain ⟨_, x0, x1, x2⟩ := id hR1
    obtain ⟨_, y0, y1, y2⟩ := id hRk
    go_wp2_with fail
    refine hS.mono ?_
    rintro e wH ⟨rfl, bH⟩
    go_wp2_with fail
    go_ret
    exact ⟨ret_bool (by simp), below_trans (below_trans bF bG) bH⟩
  subst h0
  have hr := hr.out
  rw [if_pos rfl] at hr
  by_cases hu : u = 0
  rotate_left
  · have hq : (u == 0) = false := by simpa using hu
    rw [if_neg hu] at hr
    have q1 : (r.1 == u) = true := by rw [hr]; simp
    have q2 : (r.2.1 == 0) = true := by rw [hr]; rfl
    have q3 : r.2.2 = Wd.none := by rw [hr]
    have hWk := hWn
    rw [← q3] at hWk
    replace hu := Lib.hid hu
    replace hr := Lib.hid hr
    replace q3 := Lib.hid q3
    clear hWn
    go_upto_region 8 with fail
    generalize w4.alloc (.cells #[.slice none 0 0, .slice none 0 0, .slice none 0 0] 37) = w5 at *
    obtain ⟨B4, hB4⟩ : ∃ B, w4.heap.size = B := ⟨_, rfl⟩
    simp only [hB4] at hRk ⊢
    clear hB4
    go_wp2_with fail
    refine (logBegun_c w5).mono ?_
    rintro e wG ⟨rfl, bG⟩
    have hR1 := hR1.keep (bG.block _ hR1.lt)
    have hRk := hRk.keep (bG.block _ hRk.lt)
    have hS := SameWorlds_c (hW1.below bG) (hWk.below bG)
    obtain ⟨_, x0, x1, x2⟩ := id hR1
    obtain ⟨_, y0, y1, y2⟩ := id hRk
    go_wp2_with fail
    refine hS.mono ?_
    rintro e wH ⟨rfl, bH⟩
    go_wp2_with fail
    go_ret
    exact ⟨ret_bool (by simp), below_trans (below_trans bF bG) bH⟩
  subst hu
  rw [if_pos rfl] at hr
  have hgs := hgs.out rfl
  obtain ⟨n, rfl⟩ := Int.eq_ofNat_of_zero_le (show 0 ≤ nodes by omega)
  rw [Int.toNat_natCast] at hr
  have q1 : (r.1 == 0) = true := by rw [hr]; rfl
  have q2 : (r.2.1 == (l.length : Int)) = true := by rw [hr]; simp
  have q3 : r.2.2 = doneF (beginX n gs) l := by rw [hr]
  have hD := hDn.out n (by omega) (by omega) _ _ l bF hL4
  rw [← q3] at hD
  replace hr := Lib.hid hr
  replace q3 := Lib.hid q3
  clear hWn hDn
  go_upto_region 8 with fail
  have hwz := World.size_alloc w4 (.cells #[.slice none 0 0, .slice none 0 0, .slice none 0 0] 37)
  generalize w4.alloc (.cells #[.slice none 0 0, .slice none 0 0, .slice none 0 0] 37) = w5 at *
  replace hwz := Lib.hid hwz
  obtain ⟨B4, hB4⟩ : ∃ B, w4.heap.size = B := ⟨_, rfl⟩
  have hB4s : w.heap.size ≤ B4 := by rw [← hB4]; exact b4.size
  simp only [hB4] at hRk ⊢
  replace hB4 := Lib.hid hB4
  go_wp2_with fail
  refine hD.mono ?_
  rintro e w6 ⟨gv6, nv6, wv6, S6, rfl, hO6, hS6, b6⟩
  obtain ⟨pg, pn, pw⟩ := hO6.parts
  obtain ⟨_, ga6, gcap6, rfl, _⟩ := pg.open
  obtain ⟨_, na6, ncap6, rfl, _⟩ := pn.form
  obtain ⟨_, wa6, wcap6, rfl, _⟩ := pw.form
  clear pg pn pw
  have b46 := below_trans bk b6
  have hRk := hRk.keep (b6.block _ hRk.lt)
  have hlz := hR1z.lt
  rw [hB4.out] at hlz
  obtain ⟨hf0, hf1, hf2, z0, z1, z2⟩ := hRk.all
  have hlk := hRk.lt
  have hs5 : B4 < w5.heap.size := by
    have := bk.size
    rw [hwz.out, hB4.out]
    omega
  have bF := (below_trans bF b6)
  have bF := set3_below (b := B4) (u := .slice ga6 r.2.2.groups.length gcap6) (v := .slice na6 r.2.2.nodes.length ncap6) (x := .slice wa6 r.2.2.wires.length wcap6) bF hB4s
  have b4F := set3_below (b := B4) (u := .slice ga6 r.2.2.groups.length gcap6) (v := .slice na6 r.2.2.nodes.length ncap6) (x := .slice wa6 r.2.2.wires.length wcap6) b46 (by rw [hB4.out]; exact Nat.le_refl _)
  have hWk := (hO6.keep (w' := ((w6.setCell ⟨B4, 0, none⟩ (.slice ga6 r.2.2.groups.length gcap6)).setCell ⟨B4, 1, none⟩ (.slice na6 r.2.2.nodes.length ncap6)).setCell ⟨B4, 2, none⟩ (.slice wa6 r.2.2.wires.length wcap6)) (fun c hc => set3_blk (by have := hS6 c hc; omega))).world
  have hRk := ((hRk.set0 (.slice ga6 r.2.2.groups.length gcap6)).set1 (.slice na6 r.2.2.nodes.length ncap6)).set2 (.slice wa6 r.2.2.wires.length wcap6)
  have hR1 := hR1z.keep (b4F.block _ hR1z.lt)
  have hW1 := hW1z.below b4F
  clear hO6 hS6 b6 hD
  go_upto_region 10 with fail
  generalize ((w6.setCell ⟨B4, 0, none⟩ (.slice ga6 r.2.2.groups.length gcap6)).setCell ⟨B4, 1, none⟩ (.slice na6 r.2.2.nodes.length ncap6)).setCell ⟨B4, 2, none⟩ (.slice wa6 r.2.2.wires.length wcap6) = w7 at *
  clear hf0 hf1 hf2 z0 z1 z2
  go_wp2_with fail
  refine (logBegun_c w7).mono ?_
  rintro e wG ⟨rfl, bG⟩
  have hR1 := hR1.keep (bG.block _ hR1.lt)
  have hRk := hRk.keep (bG.block _ hRk.lt)
  have hS := SameWorlds_c (hW1.below bG) (hWk.below bG)
  obtain ⟨_, x0, x1, x2⟩ := id hR1
  obtain ⟨_, y0, y1, y2⟩ := id hRk
  go_wp2_with fail
  refine hS.mono ?_
  rintro e wH ⟨rfl, bH⟩
  go_wp2_with fail
  go_ret
  exact ⟨ret_bool (by simp), below_trans (below_trans bF bG) bH⟩
end Go.Proofs.YtnalakhelicjcaaGreat
