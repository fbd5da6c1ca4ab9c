/-
  LogMore: an act that is written behind a log is done to what is recovered from it.
-/
import Derived.Test.YtnalakhelicjcaaGreatLAr
import Derived.Test.YtnalakhelicjcaaGreatLgB
import Derived.Test.YtnalakhelicjcaaGreatSW
set_option maxRecDepth 100000
namespace Go.Proofs.YtnalakhelicjcaaGreat
open Go.RowKit Go.Shelf Go.BigFrame

set_option maxHeartbeats 1000000 in
theorem LogMore_walk_of (w : World) {nodes : Int} {gv xv : Value} {gs : List Int} {t : ByteArray} {x : Ac} (_hn64 : I64 nodes) (hg : Ints w gv gs) (hts : t.size ≤ 140737488351232) (hx : x.fits ∧ xv = x.val) :
    Calls Tryz.prog 6 #[.int .i64 nodes, gv, .string t, xv] w (GivesB (.bool true) w) := by
  obtain ⟨hxf, rfl⟩ := hx
  have hA := AcBox.new w x 23
  have b0 := below_a1 w (.cells #[.int .i64 x.kind, .int .i64 x.one, .int .i64 x.two, .string x.body] 23)
  have hl0 : w.heap.size < (w.alloc (.cells #[.int .i64 x.kind, .int .i64 x.one, .int .i64 x.two, .string x.body] 23)).heap.size := by rw [World.size_alloc]; omega
  have hRc := fun o (h : Below w.heap.size w o) t => Recover_c (hg.below h) nodes t
  have hWr := fun o => Write_c o hxf
  have hRp := fun o => Replay_c o t
  have hM := fun h1 h2 h3 h4 h5 => recF_more (nodes := nodes) (gs := gs) (t := t) (x := x) h1 h2 h3 h4 h5
  have hDo := fun o v X (h : WorldAt o v X) => Do_c h hxf
  have hn80 := replayA_len t
  have hr80 : (recF nodes gs t).1 = 0 → 0 ≤ (recF nodes gs t).2.1 ∧ (recF nodes gs t).2.1 ≤ 80 := fun h => by
    rw [(recF_ok h).2.2]
    refine ⟨by simp, ?_⟩
    show ((replayA t).length : Int) ≤ 80
    omega
  obtain ⟨_, ga, gcap, rfl, _⟩ := hg.open
  have hr2 : recF nodes gs (t ++ writeS x) = recF nodes gs (t ++ writeS x) := rfl
  have hR1 := fun o (h : Below w.heap.size w o) => hRc o h t
  have hR2 := fun o (h : Below w.heap.size w o) => hRc o h (t ++ writeS x)
  have hbs : (writeS x).size ≤ 140737488351232 + 4 := by
    unfold writeS
    split
    · decide
    · rw [ByteArray.size_append, strOfNums_size]
      have := hxf.2.2.2
      show 4 + x.body.size ≤ _
      omega
  clear hRc hr2
  generalize recF nodes gs (t ++ writeS x) = r2 at *
  generalize recF nodes gs t = r1 at *
  generalize writeS x = bs at *
  generalize writeE x = f0 at *
  generalize replayA t = l at *
  generalize replayN t = n1 at *
  generalize replayE t = u at *
  clear hg
  unfold Ac.val at hWr hDo ⊢
  replace hR1 := Lib.hid hR1
  replace hR2 := Lib.hid hR2
  replace hWr := Lib.hid hWr
  replace hRp := Lib.hid hRp
  replace hM := Lib.hid hM
  replace hDo := Lib.hid hDo
  go_enter Tryz.func6, Tryz.ntmps6
  go_upto_region 1 with fail
  generalize w.alloc (.cells #[.int .i64 x.kind, .int .i64 x.one, .int .i64 x.two, .string x.body] 23) = w0 at *
  obtain ⟨A, hAe⟩ : ∃ A, w.heap.size = A := ⟨_, rfl⟩
  rw [hAe] at hA hl0
  simp only [hAe] at ⊢
  replace hAe := Lib.hid hAe
  go_wp2_with fail
  refine (hR1.out w0 b0).mono ?_
  rintro e w1 ⟨gv1, nv1, wv1, S1, rfl, hO1, hS1, b1⟩
  obtain ⟨pg, pn, pw⟩ := hO1.parts
  obtain ⟨_, ga1, gcap1, rfl, _⟩ := pg.open
  obtain ⟨_, na1, ncap1, rfl, _⟩ := pn.form
  obtain ⟨_, wa1, wcap1, rfl, _⟩ := pw.form
  clear pg pn pw
  have hR1 := OBox.new w1 37 (.slice ga1 r1.2.2.groups.length gcap1) (.slice na1 r1.2.2.nodes.length ncap1) (.slice wa1 r1.2.2.wires.length wcap1)
  have bx1 := below_a1 w1 (.cells #[.slice ga1 r1.2.2.groups.length gcap1, .slice na1 r1.2.2.nodes.length ncap1, .slice wa1 r1.2.2.wires.length wcap1] 37)
  have hW1 := hO1.world.below bx1
  have hA1 := hA.below (below_trans b1 bx1) hl0
  have hl0 := Nat.lt_of_lt_of_le hl0 (below_trans b1 bx1).size
  go_upto_region 2 with fail
  generalize w1.alloc (.cells #[.slice ga1 r1.2.2.groups.length gcap1, .slice na1 r1.2.2.nodes.length ncap1, .slice wa1 r1.2.2.wires.length wcap1] 37) = w2 at *
  obtain ⟨B1, hB1⟩ : ∃ B, w1.heap.size = B := ⟨_, rfl⟩
  simp only [hB1] at hR1 ⊢
  clear hB1
  have b2 := below_trans b0 (below_trans b1 bx1)
  clear hO1 hS1 b1 bx1 hA b0
  obtain ⟨m0, m1, m2, m3⟩ := id hA1
  simp only [Nat.zero_add] at m0 m1 m2 m3
  go_wp2_with fail
  refine (hWr.out w2).mono ?_
  rintro e w3 ⟨rfl, b3⟩
  have hR1b := hR1.keep (b3.block _ hR1.lt)
  have hW1 := hW1.below b3
  have hA3 := hA1.below b3 hl0
  have hl0 := Nat.lt_of_lt_of_le hl0 b3.size
  have b3 := below_trans b2 b3
  clear m0 m1 m2 m3 hA1 b2 hWr
  go_wp2_with fail
  refine (hRp.out w3).mono ?_
  rintro e w4 ⟨v4, rfl, hL4, b4⟩
  obtain ⟨_, a4, c4, rfl, _⟩ := hL4.form
  have hR1c := hR1b.keep (b4.block _ hR1b.lt)
  have hW1 := hW1.below b4
  have hA4 := hA3.below b4 hl0
  have hl0 := Nat.lt_of_lt_of_le hl0 b4.size
  have b5 := below_trans b3 b4
  clear hR1 hR1b hA3 b3 b4 hRp hL4
  by_cases h1 : r1.1 = 0
  rotate_left
  · have q1 : (r1.1 != 0) = true := by simpa using h1
    replace h1 := Lib.hid h1
    go_wp2_with fail
    refine (logBegun_c _).mono ?_
    rintro e wG ⟨rfl, bG⟩
    go_wp2_with fail
    go_ret
    exact ⟨ret_bool (by simp), below_trans b5 bG⟩
  have q1 : (r1.1 != 0) = false := by simpa using h1
  by_cases h2 : f0 = 0
  rotate_left
  · have q2 : (f0 != 0) = true := by simpa using h2
    replace h1 := Lib.hid h1
    replace h2 := Lib.hid h2
    go_wp2_with fail
    refine (logBegun_c _).mono ?_
    rintro e wG ⟨rfl, bG⟩
    go_wp2_with fail
    go_ret
    exact ⟨ret_bool (by simp), below_trans b5 bG⟩
  have q2 : (f0 != 0) = false := by simpa using h2
  by_cases h3 : u = 0
  rotate_left
  · have q3 : (u != 0) = true := by simpa using h3
    replace h1 := Lib.hid h1
    replace h2 := Lib.hid h2
    replace h3 := Lib.hid h3
    go_wp2_with fail
    refine (logBegun_c _).mono ?_
    rintro e wG ⟨rfl, bG⟩
    go_wp2_with fail
    go_ret
    exact ⟨ret_bool (by simp), below_trans b5 bG⟩
  have q3 : (u != 0) = false := by simpa using h3
  by_cases h4 : n1 = t.size
  rotate_left
  · have q4 : (n1 != (t.size : Int)) = true := by simpa using h4
    replace h1 := Lib.hid h1
    replace h2 := Lib.hid h2
    replace h3 := Lib.hid h3
    replace h4 := Lib.hid h4
    go_wp2_with fail
    refine (logBegun_c _).mono ?_
    rintro e wG ⟨rfl, bG⟩
    go_wp2_with fail
    go_ret
    exact ⟨ret_bool (by simp), below_trans b5 bG⟩
  have q4 : (n1 != (t.size : Int)) = false := by simpa using h4
  by_cases h5 : l.length < 80
  rotate_left
  · have q5 : decide (80 ≤ (l.length : Int)) = true := decide_eq_true (by omega)
    replace h1 := Lib.hid h1
    replace h2 := Lib.hid h2
    replace h3 := Lib.hid h3
    replace h4 := Lib.hid h4
    replace h5 := Lib.hid h5
    go_wp2_with fail
    refine (logBegun_c _).mono ?_
    rintro e wG ⟨rfl, bG⟩
    go_wp2_with fail
    go_ret
    exact ⟨ret_bool (by simp), below_trans b5 bG⟩
  have q5 : decide (80 ≤ (l.length : Int)) = false := decide_eq_false (by omega)
  have hwr : IntKind.i64.wrap ((t.size : Int) + (bs.size : Int)) = (t.size : Int) + (bs.size : Int) := IntWalk.i64_in _ (by omega)
  by_cases h6 : t.size + bs.size ≤ 4096
  rotate_left
  · have q6 : decide (4096 < (t.size : Int) + (bs.size : Int)) = true := decide_eq_true (by omega)
    replace h1 := Lib.hid h1
    replace h2 := Lib.hid h2
    replace h3 := Lib.hid h3
    replace h4 := Lib.hid h4
    replace h5 := Lib.hid h5
    replace h6 := Lib.hid h6
    go_wp2_with fail
    refine (logBegun_c _).mono ?_
    rintro e wG ⟨rfl, bG⟩
    go_wp2_with fail
    go_ret
    exact ⟨ret_bool (by simp), below_trans b5 bG⟩
  have q6 : decide (4096 < (t.size : Int) + (bs.size : Int)) = false := decide_eq_false (by omega)
  have hM2 := hM.out h1 h2 h4 h5 h6
  have hsz : (t ++ bs).size ≤ 4096 := by rw [ByteArray.size_append]; exact h6
  have p1 : (r2.1 == 0) = true := by rw [hM2]; rfl
  have p2 : (r2.2.1 == r1.2.1 + 1) = true := by rw [hM2]; simp
  have hr80 := hr80 h1
  have hwr2 : IntKind.i64.wrap (r1.2.1 + 1) = r1.2.1 + 1 := IntWalk.i64_in _ (by omega)
  have p3 : r2.2.2 = doneS r1.2.2 x := by rw [hM2]
  replace hM2 := Lib.hid hM2
  replace h1 := Lib.hid h1
  replace h2 := Lib.hid h2
  replace h3 := Lib.hid h3
  replace h4 := Lib.hid h4
  replace h5 := Lib.hid h5
  replace h6 := Lib.hid h6
  replace hr80 := Lib.hid hr80
  replace p3 := Lib.hid p3
  go_wp2_with fail
  refine (hR2.out w4 b5).mono ?_
  clear hR2
  rintro e w6 ⟨gv6, nv6, wv6, S6, rfl, hO6, hS6, b6⟩
  obtain ⟨pg, pn, pw⟩ := hO6.parts
  obtain ⟨_, ga6, gcap6, rfl, _⟩ := pg.open
  obtain ⟨_, na6, ncap6, rfl, _⟩ := pn.form
  obtain ⟨_, wa6, wcap6, rfl, _⟩ := pw.form
  clear pg pn pw
  have hR6 := OBox.new w6 37 (.slice ga6 r2.2.2.groups.length gcap6) (.slice na6 r2.2.2.nodes.length ncap6) (.slice wa6 r2.2.2.wires.length wcap6)
  have bx6 := below_a1 w6 (.cells #[.slice ga6 r2.2.2.groups.length gcap6, .slice na6 r2.2.2.nodes.length ncap6, .slice wa6 r2.2.2.wires.length wcap6] 37)
  have hW6 := hO6.world.below bx6
  go_upto_region 7 with fail
  generalize w6.alloc (.cells #[.slice ga6 r2.2.2.groups.length gcap6, .slice na6 r2.2.2.nodes.length ncap6, .slice wa6 r2.2.2.wires.length wcap6] 37) = w7 at *
  obtain ⟨B6, hB6⟩ : ∃ B, w6.heap.size = B := ⟨_, rfl⟩
  simp only [hB6] at hR6 ⊢
  clear hB6
  have b67 := below_trans b6 bx6
  have hs67 := b67.size
  have hRd := hR1c.keep (b67.block _ hR1c.lt)
  have hW1 := hW1.below b67
  have hA7 := hA4.below b67 hl0
  have hl7 := Nat.lt_of_lt_of_le hl0 hs67
  have b7 := below_trans b5 b67
  clear hO6 hS6 b6 bx6 hR1c hA4 hl0 b5 b67 hs67
  have hD := hDo.out w7 _ r1.2.2 hW1
  have p3 := p3.out
  unfold doneS at p3
  generalize doF r1.2.2 x = d at *
  clear hDo
  obtain ⟨_, x0, x1, x2⟩ := id hRd
  obtain ⟨m0, m1, m2, m3⟩ := id hA7
  simp only [Nat.zero_add] at m0 m1 m2 m3
  by_cases hd : d.1 = 0
  · rw [if_pos hd] at p3
    have q7 : (d.1 != 0) = false := by rw [hd]; rfl
    replace hd := Lib.hid hd
    replace p3 := Lib.hid p3
    go_wp2_with fail
    refine hD.mono ?_
    clear hD
    rintro e w8 ⟨gv8, nv8, wv8, S8, rfl, hO8, hS8, b8⟩
    obtain ⟨pg, pn, pw⟩ := hO8.parts
    obtain ⟨_, ga8, gcap8, rfl, _⟩ := pg.open
    obtain ⟨_, na8, ncap8, rfl, _⟩ := pn.form
    obtain ⟨_, wa8, wcap8, rfl, _⟩ := pw.form
    clear pg pn pw
    have hR8 := OBox.new w8 37 (.slice ga8 d.2.groups.length gcap8) (.slice na8 d.2.nodes.length ncap8) (.slice wa8 d.2.wires.length wcap8)
    have bx8 := below_a1 w8 (.cells #[.slice ga8 d.2.groups.length gcap8, .slice na8 d.2.nodes.length ncap8, .slice wa8 d.2.wires.length wcap8] 37)
    have hW8 := hO8.world.below bx8
    go_upto_region 10 with fail
    generalize w8.alloc (.cells #[.slice ga8 d.2.groups.length gcap8, .slice na8 d.2.nodes.length ncap8, .slice wa8 d.2.wires.length wcap8] 37) = w9 at *
    obtain ⟨B8, hB8⟩ : ∃ B, w8.heap.size = B := ⟨_, rfl⟩
    simp only [hB8] at hR8 ⊢
    clear hB8
    have b79 := below_trans b8 bx8
    have hRk := hR6.keep (b79.block _ hR6.lt)
    have hWk := hW6.below b79
    have hWj : WorldAt w9 (.agg #[.slice ga8 d.2.groups.length gcap8, .slice na8 d.2.nodes.length ncap8, .slice wa8 d.2.wires.length wcap8]) r2.2.2 := by rw [p3.out]; exact hW8
    have hRj := hR8
    have bF := below_trans b7 b79
    clear x0 x1 x2 m0 m1 m2 m3 hO8 hS8 b8 bx8 hR6 hW6 hR8 hW8 hRd hA7 b7 b79 hW1
    go_wp2_with fail
    refine (logBegun_c w9).mono ?_
    rintro e wG ⟨rfl, bG⟩
    have hRj := hRj.keep (bG.block _ hRj.lt)
    have hRk := hRk.keep (bG.block _ hRk.lt)
    have hS := SameWorlds_c (hWk.below bG) (hWj.below bG)
    obtain ⟨_, x0, x1, x2⟩ := id hRk
    obtain ⟨_, y0, y1, y2⟩ := id hRj
    go_wp2_with fail
    refine hS.mono ?_
    rintro e wH ⟨rfl, bH⟩
    go_wp2_with fail
    go_ret
    exact ⟨ret_bool (by simp), below_trans (below_trans bF bG) bH⟩
  · rw [if_neg hd] at p3
    have q7 : (d.1 != 0) = true := by simpa using hd
    replace hd := Lib.hid hd
    replace p3 := Lib.hid p3
    go_wp2_with fail
    refine hD.mono ?_
    clear hD
    rintro e w8 ⟨gv8, nv8, wv8, S8, rfl, hO8, hS8, b8⟩
    obtain ⟨pg, pn, pw⟩ := hO8.parts
    obtain ⟨_, ga8, gcap8, rfl, _⟩ := pg.open
    obtain ⟨_, na8, ncap8, rfl, _⟩ := pn.form
    obtain ⟨_, wa8, wcap8, rfl, _⟩ := pw.form
    clear pg pn pw
    have hR8 := OBox.new w8 37 (.slice ga8 d.2.groups.length gcap8) (.slice na8 d.2.nodes.length ncap8) (.slice wa8 d.2.wires.length wcap8)
    have bx8 := below_a1 w8 (.cells #[.slice ga8 d.2.groups.length gcap8, .slice na8 d.2.nodes.length ncap8, .slice wa8 d.2.wires.length wcap8] 37)
    have hW8 := hO8.world.below bx8
    have hB8s := b8.size
    go_upto_region 9 with fail
    generalize w8.alloc (.cells #[.slice ga8 d.2.groups.length gcap8, .slice na8 d.2.nodes.length ncap8, .slice wa8 d.2.wires.length wcap8] 37) = w9 at *
    obtain ⟨B8, hB8⟩ : ∃ B, w8.heap.size = B := ⟨_, rfl⟩
    simp only [hB8] at hR8 hB8s ⊢
    clear hB8
    have b79 := below_trans b8 bx8
    have hRk := hR6.keep (b79.block _ hR6.lt)
    have hWk := hW6.below b79
    have hR9 := hRd.keep (b79.block _ hRd.lt)
    have hs79 := b79.size
    have hB8 : w7.heap.size ≤ B8 := hB8s
    obtain ⟨hf0, hf1, hf2, z0, z1, z2⟩ := hR8.all
    clear x0 x1 x2 m0 m1 m2 m3 hO8 hS8 b8 bx8 hW8 hA7
    obtain ⟨_, x0, x1, x2⟩ := id hR9
    have bz := set3_below (u := .slice ga1 r1.2.2.groups.length gcap1) (v := .slice na1 r1.2.2.nodes.length ncap1) (x := .slice wa1 r1.2.2.wires.length wcap1) b79 hB8
    have hRk := hR6.keep (bz.block _ hR6.lt)
    have hWk := hW6.below bz
    have hWj : WorldAt (((w9.setCell ⟨B8, 0, none⟩ (.slice ga1 r1.2.2.groups.length gcap1)).setCell ⟨B8, 1, none⟩ (.slice na1 r1.2.2.nodes.length ncap1)).setCell ⟨B8, 2, none⟩ (.slice wa1 r1.2.2.wires.length wcap1)) (.agg #[.slice ga1 r1.2.2.groups.length gcap1, .slice na1 r1.2.2.nodes.length ncap1, .slice wa1 r1.2.2.wires.length wcap1]) r2.2.2 := by rw [p3.out]; exact hW1.below bz
    have hRj := hR8.put (.slice ga1 r1.2.2.groups.length gcap1) (.slice na1 r1.2.2.nodes.length ncap1) (.slice wa1 r1.2.2.wires.length wcap1)
    have bF := below_trans b7 bz
    clear hR6 hW6 hR8 hRd hR9 b7 bz b79 hs79 hB8 hB8s hW1
    go_upto_region 10 with fail
    generalize ((w9.setCell ⟨B8, 0, none⟩ (.slice ga1 r1.2.2.groups.length gcap1)).setCell ⟨B8, 1, none⟩ (.slice na1 r1.2.2.nodes.length ncap1)).setCell ⟨B8, 2, none⟩ (.slice wa1 r1.2.2.wires.length wcap1) = w10 at *
    clear hf0 hf1 hf2 z0 z1 z2 x0 x1 x2
    go_wp2_with fail
    refine (logBegun_c w10).mono ?_
    rintro e wG ⟨rfl, bG⟩
    have hRj := hRj.keep (bG.block _ hRj.lt)
    have hRk := hRk.keep (bG.block _ hRk.lt)
    have hS := SameWorlds_c (hWk.below bG) (hWj.below bG)
    obtain ⟨_, x0, x1, x2⟩ := id hRk
    obtain ⟨_, y0, y1, y2⟩ := id hRj
    go_wp2_with fail
    refine hS.mono ?_
    rintro e wH ⟨rfl, bH⟩
    go_wp2_with fail
    go_ret
    exact ⟨ret_bool (by simp), below_trans (below_trans bF bG) bH⟩
end Go.Proofs.YtnalakhelicjcaaGreat
