/-
  The document's answer: all that was told.
-/
import Derived.Test.YtnalakhelicjcaaGreatTld
import Derived.Test.YtnalakhelicjcaaGreatKE
import Derived.Test.YtnalakhelicjcaaGreatKS
import Derived.Test.YtnalakhelicjcaaGreatKO
import Derived.Test.YtnalakhelicjcaaGreatKN
set_option maxRecDepth 100000
namespace Go.Proofs.YtnalakhelicjcaaGreat
open Go.RowKit Go.Shelf Go.BigFrame

theorem slice_from (W : World) (a : Option Addr) {n c k : Nat} (h : k ≤ n) : (Instr.slice 50 (.slice a n c) (some (.int .i64 (k : Nat))) none none).run Tryz.prog W = .ok (.slice (if c = k then a else Option.map (fun x => x.add (k * 5)) a) (n - k) (c - k)) W := by
  simp [go_sem, h]
theorem slice_to (W : World) (a : Option Addr) {n c k : Nat} (h : k ≤ c) : (Instr.slice 50 (.slice a n c) none (some (.int .i64 (k : Nat))) none).run Tryz.prog W = .ok (.slice a k c) W := by
  simp [go_sem, h]

theorem made_at1 (w : World) (o : Obj) : ((w.alloc (.cells #[] 62)).alloc o).drew.ownsRow w.heap.size 62 5 (.slice (some ⟨w.heap.size, 0, none⟩) 0 0) 0 [] :=
  owns_drew ((World.ownsRow_made (base := w.heap.size) (e := 62) (size := 5) w #[] 0 (Nat.le_refl _) (by simp [maxLen]) (by simp)).alloc o)
theorem made_at2 (w : World) (o : Obj) : ((w.alloc o).alloc (.cells #[] 62)).drew.ownsRow w.heap.size 62 5 (.slice (some ⟨w.heap.size + 1, 0, none⟩) 0 0) 0 [] := by
  have h := World.ownsRow_made (base := w.heap.size) (e := 62) (size := 5) (w.alloc o) #[] 0 (by rw [World.size_alloc]; omega) (by simp [maxLen]) (by simp)
  rw [World.size_alloc] at h
  exact owns_drew h
theorem cells_at1 (w : World) (cs : Array Value) (t : TypeId) (o : Obj) : ∀ j u, cs.toList[j]? = some u → ((w.alloc (.cells cs t)).alloc o).drew.cell? ((⟨w.heap.size, 0, none⟩ : Addr).add j) = some u := by
  intro j u hj
  have h := cells_new w cs t j u hj
  have hl := cell_lt h
  exact ((below_a1 (w.alloc (.cells cs t)) o).cell hl).trans h
theorem cells_at2 (w : World) (cs : Array Value) (t : TypeId) (o : Obj) : ∀ j u, cs.toList[j]? = some u → ((w.alloc o).alloc (.cells cs t)).drew.cell? ((⟨w.heap.size + 1, 0, none⟩ : Addr).add j) = some u := by
  intro j u hj
  have h := cells_new (w.alloc o) cs t j u hj
  rw [World.size_alloc] at h
  exact h
theorem cells_grown {w w' : World} {g b : Nat} {cs : List Value} (hg : w.grownBy w' (some g)) (hb : b < w.heap.size) (hne : b ≠ g) (h : ∀ j u, cs[j]? = some u → w.cell? ((⟨b, 0, none⟩ : Addr).add j) = some u) : ∀ j u, cs[j]? = some u → w'.cell? ((⟨b, 0, none⟩ : Addr).add j) = some u := by
  intro j u hj
  refine (World.cell?_of_block ?_).trans (h j u hj)
  have e : ((⟨b, 0, none⟩ : Addr).add j).block = b := by unfold Addr.add; split <;> rfl
  rw [e]
  exact hg.block b hb (fun e => hne (Option.some.inj e))

set_option maxHeartbeats 4000000 in
theorem AllOf_c {w : World} {v : Value} {X : Wd} (h : WorldAt w v X) : Calls Tryz.prog 31 #[v] w (LOwn w (allF X).2 (allF X).1) := by
  have hW0 := h
  obtain ⟨gv, nv, wv, rfl, hg, hn, hw⟩ := h
  obtain ⟨hnl, na, ncap, rfl, hnc⟩ := hn.form
  obtain ⟨hwl, wa, wcap, rfl, hwc⟩ := hw.form
  obtain ⟨hgl, ga, gcap, rfl, _⟩ := hg.open
  have hA := below_a1 w (.cells #[.slice ga X.groups.length gcap, .slice na X.nodes.length ncap, .slice wa X.wires.length wcap] 37)
  have hB := OBox.new w 37 (.slice ga X.groups.length gcap) (.slice na X.nodes.length ncap) (.slice wa X.wires.length wcap)
  obtain ⟨P, hP⟩ : ∃ P, LOwn w (allF X).2 (allF X).1 = P := ⟨_, rfl⟩
  rw [hP]
  replace hP := Lib.hid hP
  obtain ⟨i0, hi0, hz0, hz1, hz2⟩ := info_parts infoCMsg
  have hC := WorldError_c (hW0.below hA)
  go_enter Tryz.func31, Tryz.ntmps31
  go_upto_region 1 with fail
  generalize w.alloc (.cells #[.slice ga X.groups.length gcap, .slice na X.nodes.length ncap, .slice wa X.wires.length wcap] 37) = wA at *
  obtain ⟨B, hBe⟩ : ∃ B, w.heap.size = B := ⟨_, rfl⟩
  rw [hBe] at hB
  simp only [hBe] at ⊢
  replace hBe := Lib.hid hBe
  obtain ⟨_, b0, b1, b2⟩ := id hB
  by_cases he : errX X = 0
  rotate_left
  · have hF : allF X = (errX X, []) := by unfold allF; rw [if_neg he]
    rw [hF] at hP
    clear hF
    generalize errX X = e0 at *
    have hne : (e0 != 0) = true := by simpa using he
    replace he := Lib.hid he
    go_wp2_with fail
    refine hC.mono ?_
    rintro e w1 ⟨rfl, hb1⟩
    go_wp2_with fail
    rw [← hP.out]
    exact LOwn.none (below_trans hA hb1)
  have hR := right_of he
  have hTf := hn.told_fits
  have hK := Lib.hid (fun n j l hh hl => allO_all hR hTf (n := n) (j := j) (l := l) hh hl)
  have hBad := Lib.hid (fun n j hn h => allF_bad he (n := n) (j := j) hn h)
  have hOk := Lib.hid (fun l h => allF_ok he (l := l) h)
  have hNx := Lib.hid (fun n j (h : j < (X.nodes.getD n N.zero).told.length) l (hl : allO (preL X n j) = some l) => show allO (preL X n (j + 1)) = allS (some l) ((X.nodes.getD n N.zero).told.getD j M.zero) by rw [preL_next h, allO_snoc, hl])
  have hNd := Lib.hid (fun n hn => preL_node (X := X) (n := n) hn)
  rw [he] at hC
  replace he := Lib.hid he
  replace hR := Lib.hid hR
  replace hTf := Lib.hid hTf
  go_wp2_with fail
  refine hC.mono ?_
  rintro e w1 ⟨rfl, hb1⟩
  have hB := hB.keep (hb1.block _ hB.lt)
  have hA := below_trans hA hb1
  have hn1 := hn.below hA
  have hl1 := hB.lt
  clear b0 b1 b2 hC hb1 hW0 hn hg hw
  go_wp2_with fail
  go_loopw [5, 6] (fun o i wr => ∃ n : Nat, n ≤ X.nodes.length ∧ i = .int .i64 n ∧ ∃ l, Hid (allO (preL X n 0) = some l) ∧ wr.ownsRow w1.heap.size 62 5 o l.length (l.flatMap M.cells) ∧ Below w1.heap.size w1 wr) (fun _ i _ => X.nodes.length - (intOf i).toNat)
  case atStart => exact ⟨0, by omega, rfl, [], Lib.hid rfl, World.ownsRow_nil _ _ _ _, Below.refl _ _⟩
  case round =>
    obtain ⟨n, hn0, rfl, l, hl, ho, hb⟩ := hrel
    obtain ⟨a5, c5, rfl⟩ := own_form ho
    obtain ⟨_, x0, x1, x2⟩ := hB.keep (hb.block _ hl1)
    by_cases hlt : n < X.nodes.length
    · obtain ⟨bb, oo, cc, lv, hv, tv, e1, hc1, _, _, _, k3, _, _, _, htt⟩ := hn1.at hlt
      cases e1
      replace hNx := Lib.hid (hNx.out n)
      have hNd := Lib.hid (hNd.out n hlt)
      have hq := (hR.out.node n hlt).told.many
      obtain ⟨x, HX⟩ : ∃ x, X.nodes.getD n N.zero = x := ⟨_, rfl⟩
      rw [HX] at htt hNx hNd hq
      clear HX
      obtain ⟨_, ta, tcap, rfl, htc, _⟩ := htt.open
      have hlk := cell_lt k3
      dsimp only at hlk
      have hn1' : decide ((n : Int) < 0) = false := by simp
      have hn2' : decide (X.nodes.length ≤ n) = false := by simp; omega
      obtain ⟨wo, rfl⟩ : ∃ wo : World, wo = wr := ⟨_, rfl⟩
      go_wp2_with fail
      clear x0 x1 x2
      go_loopw [5, 7] (fun o i wr => ∃ j : Nat, j ≤ x.told.length ∧ i = .int .i64 j ∧ ∃ l, Hid (allO (preL X n j) = some l) ∧ wr.ownsRow w1.heap.size 62 5 o l.length (l.flatMap M.cells) ∧ Below w1.heap.size w1 wr) (fun _ i _ => x.told.length - (intOf i).toNat)
      case atStart => exact ⟨0, by omega, rfl, l, hl, ho, hb⟩
      case round =>
        clear hl ho hb
        obtain ⟨j, hj, rfl, l, hl, ho, hb⟩ := hrel
        obtain ⟨a5, c5, rfl⟩ := own_form ho
        have hBad := hBad.out n (j + 1) hlt
        obtain ⟨_, x0, x1, x2⟩ := hB.keep (hb.block _ hl1)
        have k3r := (hb.cell (p := ⟨bb, oo + n * 4 + 3, none⟩) hlk).trans k3
        by_cases hlj : j < x.told.length
        · obtain ⟨hr, h160, hfl⟩ := hK.out _ _ _ (Or.inl hlt) hl.out
          have hNj := hNx.out j hlj l hl.out
          obtain ⟨_, _, _, e1, _, hcc⟩ := (htt.below hb).open
          cases e1
          obtain ⟨bm, om, rfl, hun⟩ := hcc (by intro e; rw [e] at hlj; simp at hlj)
          obtain ⟨m0, m1, m2, m3, m4⟩ := hun j hlj
          obtain ⟨m, HM⟩ : ∃ m, x.told.getD j M.zero = m := ⟨_, rfl⟩
          rw [HM] at m0 m1 m2 m3 m4 hNj
          clear HM hcc hun
          have hMs : Msgs wr (.slice a5 l.length c5) l := MsgsOwn.msgs (base := w1.heap.size) ⟨hfl, ho⟩ (by omega)
          have hj1 : decide ((j : Int) < 0) = false := by simp
          have hj2 : decide (x.told.length ≤ j) = false := by simp; omega
          have bx := below_a1 wr (.cells #[.int .i64 m.src, .int .i64 m.grp, .int .i64 m.stamp, .bool m.null, .string m.body] 62)
          have hMb := MsgBox.new wr m 62
          have hsz : wr.heap.size < (wr.alloc (.cells #[.int .i64 m.src, .int .i64 m.grp, .int .i64 m.stamp, .bool m.null, .string m.body] 62)).heap.size := by rw [World.size_alloc]; omega
          go_upto_region 12 with fail
          have hMs := hMs.below bx
          have hb := below_trans hb bx
          have ho := owns_below ho bx
          generalize wr.alloc (.cells #[.int .i64 m.src, .int .i64 m.grp, .int .i64 m.stamp, .bool m.null, .string m.body] 62) = w3 at *
          obtain ⟨C, hC⟩ : ∃ C, wr.heap.size = C := ⟨_, rfl⟩
          rw [hC] at hMb hsz
          simp only [hC] at ⊢
          clear hC m0 m1 m2 m3 m4 x0 x1 x2 k3r bx
          have hTo := told_c hMs m
          unfold M.val at hTo
          obtain ⟨x0, x1, x2, x3, x4⟩ := id hMb
          cases hany : l.any (eqM m)
          rotate_left
          · rw [hany] at hTo
            have hN2 := allS_told hr hany
            rw [← hNj] at hN2
            replace hN2 := Lib.hid hN2
            replace hany := Lib.hid hany
            replace hNj := Lib.hid hNj
            go_wp2_with fail
            refine hTo.mono ?_
            rintro e w4 ⟨rfl, b4⟩
            go_wp2_with fail
            go_roundw
            case rel => exact ⟨j + 1, by omega, by go_num, l, hN2, owns_below ho b4, below_trans hb b4⟩
            case measure => simp [intOf]; omega
          rw [hany] at hTo
          have hany' := Lib.hid hany
          clear hany
          replace hNj := Lib.hid hNj
          go_wp2_with fail
          refine hTo.mono ?_
          rintro e w4 ⟨rfl, b4⟩
          have hMs := hMs.below b4
          have hMb := hMb.below b4 hsz
          have hsz := Nat.lt_of_lt_of_le hsz b4.size
          have hb := below_trans hb b4
          have ho := owns_below ho b4
          clear x0 x1 x2 x3 x4 hTo b4
          go_wp2_with fail
          go_loopw [11] (fun i wr => ∃ k : Nat, k ≤ l.length ∧ i = .int .i64 k ∧ Hid (∀ t, t < k → lessM (l.getD t M.zero) m = true) ∧ Below w4.heap.size w4 wr) (fun i _ => l.length - (intOf i).toNat)
          case atStart => exact ⟨0, by omega, rfl, fun t ht => absurd ht (Nat.not_lt_zero _), Below.refl _ _⟩
          case round =>
            obtain ⟨k, hk, rfl, hless, hb4⟩ := hrel
            have hMsr := hMs.below hb4
            have hMbr := hMb.below hb4 hsz
            obtain ⟨x0, x1, x2, x3, x4⟩ := id hMbr
            have hzx := cell_lt x0
            dsimp only at hzx
            by_cases hltk : k < l.length
            · obtain ⟨_, _, _, e1, hlc, hcl⟩ := hMsr.open
              cases e1
              obtain ⟨bl, ol, rfl, hul⟩ := hcl (by intro e; rw [e] at hltk; simp at hltk)
              obtain ⟨d0, d1, d2, d3, d4⟩ := hul k hltk
              obtain ⟨d, hd⟩ : ∃ d, l.getD k M.zero = d := ⟨_, rfl⟩
              rw [hd] at d0 d1 d2 d3 d4
              replace hd := Lib.hid hd
              have hzd := cell_lt d0
              dsimp only at hzd
              clear hcl hul
              have hlt' : decide ((k : Int) < (l.length : Int)) = true := decide_eq_true (by omega)
              have hk1 : decide ((k : Int) < 0) = false := by simp
              have hk2 : decide (l.length ≤ k) = false := by simp; omega
              go_wp2_with fail
              refine wp_region_over (by kernel_rfl) (by kernel_rfl) ?_
              repeat (go_big_quiet_step (exact over_c (LessOf_c _ d m)))
              refine wpQuiet_nil ?_
              rintro w5 ⟨⟨_, hb5⟩, rfl⟩
              cases hlm : lessM d m
              rotate_left
              · replace hlm := Lib.hid hlm
                go_wp2_with fail
                go_roundw
                case rel =>
                  refine ⟨k + 1, by omega, by go_num, fun t ht => ?_, below_trans hb4 hb5⟩
                  rcases Nat.eq_or_lt_of_le (Nat.le_of_lt_succ ht) with e | e
                  · subst e; rw [hd.out, hlm.out]
                  · exact hless.out t e
                case measure => simp [intOf]; omega
              have hpos : posM l m = k := posM_eq (by omega) hless.out (fun _ => by rw [hd.out, hlm])
              have hfd : foundM l m = !lessM m d := by rw [foundM, hpos, hd.out, decide_eq_true hltk, Bool.true_and, ordM_zero hlm]
              have hb6 := below_trans hb4 hb5
              have hMsr := hMs.below hb6
              have hMbr := hMb.below hb6 hsz
              have d0 := (hb5.cell (p := ⟨bl, ol + k * 5, none⟩) hzd).trans d0
              have d1 := (hb5.cell (p := ⟨bl, ol + k * 5 + 1, none⟩) hzd).trans d1
              have d2 := (hb5.cell (p := ⟨bl, ol + k * 5 + 2, none⟩) hzd).trans d2
              have d3 := (hb5.cell (p := ⟨bl, ol + k * 5 + 3, none⟩) hzd).trans d3
              have d4 := (hb5.cell (p := ⟨bl, ol + k * 5 + 4, none⟩) hzd).trans d4
              clear x0 x1 x2 x3 x4
              obtain ⟨x0, x1, x2, x3, x4⟩ := id hMbr
              have hzx := cell_lt x0
              have hzd := cell_lt d0
              dsimp only at hzx hzd
              replace hlm := Lib.hid hlm
              replace hpos := Lib.hid hpos
              go_wp2_with fail
              refine wp_region_over (by kernel_rfl) (by kernel_rfl) ?_
              repeat (go_big_quiet_step (exact over_c (LessOf_c _ m d)))
              refine wpQuiet_nil ?_
              rintro w7 ⟨⟨_, hb7⟩, rfl⟩
              cases hml : lessM m d
              · have hF : foundM l m = true := by rw [hfd, hml]; rfl
                have hN2 := allS_bad hany'.out hF
                rw [← hNj.out] at hN2
                rw [hBad hN2] at hP
                replace hml := Lib.hid hml
                clear hN2 hF hfd
                go_wp2_with fail
                rw [← hP.out]
                exact LOwn.none (below_trans (below_trans hA hb) (below_trans hb6 hb7))
              · have hF : foundM l m = false := by rw [hfd, hml]; rfl
                have hN2 := allS_put hF
                rw [← hNj.out] at hN2
                replace hN2 := Lib.hid hN2
                replace hml := Lib.hid hml
                clear hF hfd x0 x1 x2 x3 x4 d0 d1 d2 d3 d4
                have hb8 := below_trans hb6 hb7
                have hM9 := hMs.below hb8
                have hMb9 := hMb.below hb8 hsz
                have hCl := Nat.lt_of_lt_of_le hsz hb8.size
                have hple : k ≤ l.length := by omega
                obtain ⟨a5, ha5⟩ : ∃ a, (some ⟨bl, ol, none⟩ : Option Addr) = a := ⟨_, rfl⟩
                rw [ha5] at hM9
                simp only [ha5] at ⊢
                replace ha5 := Lib.hid ha5
                go_wp2_with fail
                have hTk := hM9.takes (k := k) hple
                have hDr := hM9.drops (k := k) hple
                have hlk := Lib.hid (show (l.take k).length = k by rw [List.length_take]; omega)
                have hld := Lib.hid (show (l.drop k).length = l.length - k from List.length_drop ..)
                obtain ⟨vD, hvD⟩ : ∃ vD, Value.slice (if c5 = k then a5 else Option.map (fun x => x.add (k * 5)) a5) (l.length - k) (c5 - k) = vD := ⟨_, rfl⟩
                rw [hvD] at hDr
                have hsf : ∀ W : World, (Instr.slice 50 (.slice a5 l.length c5) (some (.int .i64 (k : Nat))) none none).run Tryz.prog W = .ok vD W := fun W => by
                  rw [← hvD]
                  exact slice_from W a5 hple
                have hst : ∀ W : World, (Instr.slice 50 (.slice a5 l.length c5) none (some (.int .i64 (k : Nat))) none).run Tryz.prog W = .ok (.slice a5 k c5) W := fun W => slice_to W a5 (Nat.le_trans hple hlc)
                replace hvD := Lib.hid hvD
                have hSc : ∀ W, Below w7.heap.size w7 W → W.cell? ⟨C, 0, none⟩ = some (.int .i64 m.src) ∧ W.cell? ⟨C, 1, none⟩ = some (.int .i64 m.grp) ∧ W.cell? ⟨C, 2, none⟩ = some (.int .i64 m.stamp) ∧ W.cell? ⟨C, 3, none⟩ = some (.bool m.null) ∧ W.cell? ⟨C, 4, none⟩ = some (.string m.body) := fun W h => by
                  obtain ⟨x0, x1, x2, x3, x4⟩ := hMb9.below h hCl
                  exact ⟨x0, x1, x2, x3, x4⟩
                refine wp_region_N (fun w' => w'.cell? ⟨C, 0, none⟩ = some (.int .i64 m.src) ∧ w'.cell? ⟨C, 1, none⟩ = some (.int .i64 m.grp) ∧ w'.cell? ⟨C, 2, none⟩ = some (.int .i64 m.stamp) ∧ w'.cell? ⟨C, 3, none⟩ = some (.bool m.null) ∧ w'.cell? ⟨C, 4, none⟩ = some (.string m.body)) 11 13 rfl (by kernel_rfl) (hSc _ (below_drewN w7 1)) (fun hSw => ?_)
                refine tk 1 ?_ rfl rfl (by kernel_rfl) (.inl ⟨by rfl, ?_⟩) hSw ?_
                rotate_left
                · rintro w ⟨s0, s1, s2, s3, s4⟩; go_simp; try with_reducible rfl
                simp only [tkp, tkz, tks]
                refine tk 2 ?_ rfl rfl (by kernel_rfl) (.inl ⟨by rfl, ?_⟩) hSw ?_
                rotate_left
                · rintro w ⟨s0, s1, s2, s3, s4⟩; go_simp; try with_reducible rfl
                simp only [tkp, tkz, tks]
                refine tk 3 ?_ rfl rfl (by kernel_rfl) (.inl ⟨by rfl, ?_⟩) hSw ?_
                rotate_left
                · rintro w ⟨s0, s1, s2, s3, s4⟩; go_simp; try with_reducible rfl
                simp only [tkp, tkz, tks]
                refine tk 5 ?_ rfl rfl (by kernel_rfl) (.inl ⟨by rfl, ?_⟩) hSw ?_
                rotate_left
                · rintro w ⟨s0, s1, s2, s3, s4⟩; go_simp; try with_reducible rfl
                simp only [tkp, tkz, tks]
                refine tk 8 ?_ rfl rfl (by kernel_rfl) (.inl ⟨by rfl, ?_⟩) hSw ?_
                rotate_left
                · rintro w ⟨s0, s1, s2, s3, s4⟩; go_simp; try with_reducible rfl
                simp only [tkp, tkz, tks]
                refine tk 9 ?_ rfl rfl (by kernel_rfl) (.inl ⟨by rfl, ?_⟩) hSw ?_
                rotate_left
                · rintro w ⟨s0, s1, s2, s3, s4⟩; go_simp; try with_reducible rfl
                simp only [tkp, tkz, tks]
                refine tk 10 ?_ rfl rfl (by kernel_rfl) (.inl ⟨by rfl, ?_⟩) hSw ?_
                rotate_left
                · rintro w ⟨s0, s1, s2, s3, s4⟩; go_simp; try with_reducible rfl
                simp only [tkp, tkz, tks]
                refine N_two' (i := 0) (j := 6) (by kernel_rfl) rfl rfl ?_ ?_
                · go_wp2_with fail
                  have hzz : Below w7.heap.size w7 (w7.alloc (.cells #[] 62)).drew := below_drew (below_a1 w7 _)
                  refine QK_normal ⟨?_, ?_⟩
                  · first | exact fun _ => hSc _ hzz | exact hSc _ hzz
                  refine N_two' (i := 4) (j := 6) (by kernel_rfl) rfl rfl ?_ ?_
                  · go_wp2_with (at_builtin; refine wpList_append_row _ rfl _ _ 50 rfl w7.heap.size 62 i0 _ 5 48 Tryz.underlying50 hi0 hz0 hz1 hz2 rfl (by decide) (.slice (some ⟨w7.heap.size, 0, none⟩) 0 0) 0 [] rfl (owns_drew (World.ownsRow_made _ #[] 0 (Nat.le_refl _) (by simp [maxLen]) (by simp))) _ _ _ rfl (hTk.below hzz).2 (one_flat _) (by unfold maxLen; rw [hlk.out]; omega) (by rw [hlk.out]; omega) (by have := hzz.size; omega) ?_; intro vc wc hownc hgrowc hatc; simp only [Nat.zero_add, List.nil_append] at hownc; rw [hlk.out] at hownc; obtain ⟨ac, cc, rfl⟩ := own_form hownc)
                    have hcc : Below w7.heap.size w7 wc := hzz.trans (below_row hgrowc (fun k hk => by cases hk; exact Nat.le_refl _) (by have := hzz.size; omega))
                    have hcs := hcc.size
                    refine QK_normal ⟨?_, ?_⟩
                    · first | exact fun _ => hSc _ hcc | exact hSc _ hcc
                    refine N_one' (i := 6) (by kernel_rfl) rfl ?_
                    go_wp2_with fail
                    have hcd := below_trans hcc (below_a1 wc (.cells #[.int .i64 m.src, .int .i64 m.grp, .int .i64 m.stamp, .bool m.null, .string m.body] 62))
                    refine QK_normal ⟨?_, ?_⟩
                    · first | exact fun _ => hSc _ hcd | exact hSc _ hcd
                    refine N_one' (i := 7) (by kernel_rfl) rfl ?_
                    go_wp2_with (at_builtin; refine wpList_append_own _ rfl _ _ 50 rfl w7.heap.size 62 i0 _ 5 48 Tryz.underlying50 hi0 hz0 hz1 hz2 rfl (by decide) (.slice ac k cc) k ((l.take k).flatMap M.cells) rfl (hownc.alloc _) ⟨wc.heap.size, 0, none⟩ 1 1 m.cells rfl rfl (cells_new _ _ _) (by simp [M.cells, Value.oneCell']) (by unfold maxLen; omega) (by omega) (by have := hcd.size; omega) ?_; intro vd wd hownd hgrowd hatd; obtain ⟨ad, cd, rfl⟩ := own_form hownd)
                    have hdd : Below w7.heap.size w7 wd := hcd.trans (below_row hgrowd (fun k hk => (hownc.lt k hk).1) (by have := hcd.size; omega))
                    have hds := hdd.size
                    refine QK_normal ⟨?_, ?_⟩
                    · first | exact fun _ => hSc _ hdd | exact hSc _ hdd
                    refine N_rest 11 2 (Nat.le_refl _) rfl (by kernel_rfl) ?_
                    simp only [List.drop_succ_cons, List.drop_zero]
                    clear hSc hSw
                    go_wp2_with (at_builtin; refine wpList_append_row _ rfl _ _ 50 rfl w7.heap.size 62 i0 _ 5 48 Tryz.underlying50 hi0 hz0 hz1 hz2 rfl (by decide) (.slice ad (k + 1) cd) (k + 1) ((l.take k).flatMap M.cells ++ m.cells) rfl hownd vD (l.drop k).length ((l.drop k).flatMap M.cells) rfl (hDr.below hdd).2 (one_flat _) (by unfold maxLen; rw [hld.out]; omega) (by rw [hld.out]; omega) hds ?_; intro ve we howne hgrowe hate; rw [hld.out] at howne; obtain ⟨ae, ce, rfl⟩ := own_form howne)
                    have hee : Below w7.heap.size w7 we := hdd.trans (below_row hgrowe (fun k hk => (hownd.lt k hk).1) hds)
                    rw [last_flat] at howne
                    have hpn : k + 1 + (l.length - k) = (putM l m).length := by rw [putM_len]; omega
                    have hpe : l.take k ++ m :: l.drop k = putM l m := by unfold putM; rw [hpos.out]
                    rw [hpe] at howne
                    replace hpe := Lib.hid hpe
                    replace hpn := Lib.hid hpn
                    clear hTk hDr hgrowe hate hownd hgrowd hatd hgrowc hatc hownc
                    go_wp2_with fail
                    go_roundw
                    case rel => exact ⟨j + 1, by omega, by go_num, putM l m, hN2, by rw [← hpn.out]; exact owns_mono howne (below_trans hb hb8).size, below_trans hb (below_trans hb8 hee)⟩
                    case measure => simp [intOf]; omega
                  · go_wp2_with fail
                    have hzm : Below w7.heap.size w7 ((w7.alloc (.cells #[] 62)).drew.alloc (.cells #[.int .i64 m.src, .int .i64 m.grp, .int .i64 m.stamp, .bool m.null, .string m.body] 62)) := below_trans hzz (below_a1 _ _)
                    refine QK_normal ⟨?_, ?_⟩
                    · first | exact fun _ => hSc _ hzm | exact hSc _ hzm
                    refine N_one' (i := 4) (by kernel_rfl) rfl ?_
                    have hz2' : Below w7.heap.size w7 ((w7.alloc (.cells #[] 62)).alloc (.cells #[.int .i64 m.src, .int .i64 m.grp, .int .i64 m.stamp, .bool m.null, .string m.body] 62)).drew := below_drew (below_a2 w7 _ _)
                    have hsz2 : ((w7.alloc (.cells #[] 62)).alloc (.cells #[.int .i64 m.src, .int .i64 m.grp, .int .i64 m.stamp, .bool m.null, .string m.body] 62)).drew.heap.size = w7.heap.size + 1 + 1 := by show ((w7.alloc _).alloc _).heap.size = _; rw [World.size_alloc, World.size_alloc]
                    go_wp2_with (at_builtin; refine wpList_append_row _ rfl _ _ 50 rfl w7.heap.size 62 i0 _ 5 48 Tryz.underlying50 hi0 hz0 hz1 hz2 rfl (by decide) (.slice (some ⟨w7.heap.size, 0, none⟩) 0 0) 0 [] rfl (made_at1 w7 _) _ _ _ rfl (hTk.below hz2').2 (one_flat _) (by unfold maxLen; rw [hlk.out]; omega) (by rw [hlk.out]; omega) (by have := hz2'.size; omega) ?_; intro vc wc hownc hgrowc hatc; simp only [Nat.zero_add, List.nil_append] at hownc; rw [hlk.out] at hownc; obtain ⟨ac, cc, rfl⟩ := own_form hownc)
                    have hcc : Below w7.heap.size w7 wc := hz2'.trans (below_row hgrowc (fun k hk => by cases hk; exact Nat.le_refl _) (by have := hz2'.size; omega))
                    have hcs := hcc.size
                    have hcm := cells_grown (cs := m.cells) (b := w7.heap.size + 1) hgrowc (by rw [hsz2]; omega) (by show w7.heap.size + 1 ≠ w7.heap.size; omega) (cells_at2 w7 m.cells.toArray 62 _)
                    refine QK_normal ⟨?_, ?_⟩
                    · first | exact fun _ => hSc _ hcc | exact hSc _ hcc
                    refine N_one' (i := 7) (by kernel_rfl) rfl ?_
                    go_wp2_with (at_builtin; refine wpList_append_own _ rfl _ _ 50 rfl w7.heap.size 62 i0 _ 5 48 Tryz.underlying50 hi0 hz0 hz1 hz2 rfl (by decide) (.slice ac k cc) k ((l.take k).flatMap M.cells) rfl hownc ⟨w7.heap.size + 1, 0, none⟩ 1 1 m.cells rfl rfl hcm (by simp [M.cells, Value.oneCell']) (by unfold maxLen; omega) (by omega) (by have := hcc.size; omega) ?_; intro vd wd hownd hgrowd hatd; obtain ⟨ad, cd, rfl⟩ := own_form hownd)
                    have hdd : Below w7.heap.size w7 wd := hcc.trans (below_row hgrowd (fun k hk => (hownc.lt k hk).1) (by have := hcc.size; omega))
                    have hds := hdd.size
                    refine QK_normal ⟨?_, ?_⟩
                    · first | exact fun _ => hSc _ hdd | exact hSc _ hdd
                    refine N_rest 11 2 (Nat.le_refl _) rfl (by kernel_rfl) ?_
                    simp only [List.drop_succ_cons, List.drop_zero]
                    clear hSc hSw
                    go_wp2_with (at_builtin; refine wpList_append_row _ rfl _ _ 50 rfl w7.heap.size 62 i0 _ 5 48 Tryz.underlying50 hi0 hz0 hz1 hz2 rfl (by decide) (.slice ad (k + 1) cd) (k + 1) ((l.take k).flatMap M.cells ++ m.cells) rfl hownd vD (l.drop k).length ((l.drop k).flatMap M.cells) rfl (hDr.below hdd).2 (one_flat _) (by unfold maxLen; rw [hld.out]; omega) (by rw [hld.out]; omega) hds ?_; intro ve we howne hgrowe hate; rw [hld.out] at howne; obtain ⟨ae, ce, rfl⟩ := own_form howne)
                    have hee : Below w7.heap.size w7 we := hdd.trans (below_row hgrowe (fun k hk => (hownd.lt k hk).1) hds)
                    rw [last_flat] at howne
                    have hpn : k + 1 + (l.length - k) = (putM l m).length := by rw [putM_len]; omega
                    have hpe : l.take k ++ m :: l.drop k = putM l m := by unfold putM; rw [hpos.out]
                    rw [hpe] at howne
                    replace hpe := Lib.hid hpe
                    replace hpn := Lib.hid hpn
                    clear hTk hDr hgrowe hate hownd hgrowd hatd hgrowc hatc hownc
                    go_wp2_with fail
                    go_roundw
                    case rel => exact ⟨j + 1, by omega, by go_num, putM l m, hN2, by rw [← hpn.out]; exact owns_mono howne (below_trans hb hb8).size, below_trans hb (below_trans hb8 hee)⟩
                    case measure => simp [intOf]; omega
                · go_wp2_with fail
                  have hzz : Below w7.heap.size w7 (w7.alloc (.cells #[.int .i64 m.src, .int .i64 m.grp, .int .i64 m.stamp, .bool m.null, .string m.body] 62)).drew := below_drew (below_a1 w7 _)
                  refine QK_normal ⟨?_, ?_⟩
                  · first | exact fun _ => hSc _ hzz | exact hSc _ hzz
                  refine N_one' (i := 0) (by kernel_rfl) rfl ?_
                  go_wp2_with fail
                  have hz2' : Below w7.heap.size w7 ((w7.alloc (.cells #[.int .i64 m.src, .int .i64 m.grp, .int .i64 m.stamp, .bool m.null, .string m.body] 62)).alloc (.cells #[] 62)).drew := below_drew (below_a2 w7 _ _)
                  have hsz2 : ((w7.alloc (.cells #[.int .i64 m.src, .int .i64 m.grp, .int .i64 m.stamp, .bool m.null, .string m.body] 62)).alloc (.cells #[] 62)).drew.heap.size = w7.heap.size + 1 + 1 := by show ((w7.alloc _).alloc _).heap.size = _; rw [World.size_alloc, World.size_alloc]
                  refine QK_normal ⟨?_, ?_⟩
                  · first | exact fun _ => hSc _ hz2' | exact hSc _ hz2'
                  refine N_one' (i := 4) (by kernel_rfl) rfl ?_
                  go_wp2_with (at_builtin; refine wpList_append_row _ rfl _ _ 50 rfl w7.heap.size 62 i0 _ 5 48 Tryz.underlying50 hi0 hz0 hz1 hz2 rfl (by decide) (.slice (some ⟨w7.heap.size + 1, 0, none⟩) 0 0) 0 [] rfl (made_at2 w7 _) _ _ _ rfl (hTk.below hz2').2 (one_flat _) (by unfold maxLen; rw [hlk.out]; omega) (by rw [hlk.out]; omega) (by have := hz2'.size; omega) ?_; intro vc wc hownc hgrowc hatc; simp only [Nat.zero_add, List.nil_append] at hownc; rw [hlk.out] at hownc; obtain ⟨ac, cc, rfl⟩ := own_form hownc)
                  have hcc : Below w7.heap.size w7 wc := hz2'.trans (below_row hgrowc (fun k hk => by cases hk; exact Nat.le_succ _) (by have := hz2'.size; omega))
                  have hcs := hcc.size
                  have hcm := cells_grown (cs := m.cells) (b := w7.heap.size) hgrowc (by rw [hsz2]; omega) (by show w7.heap.size ≠ w7.heap.size + 1; omega) (cells_at1 w7 m.cells.toArray 62 _)
                  refine QK_normal ⟨?_, ?_⟩
                  · first | exact fun _ => hSc _ hcc | exact hSc _ hcc
                  refine N_one' (i := 7) (by kernel_rfl) rfl ?_
                  go_wp2_with (at_builtin; refine wpList_append_own _ rfl _ _ 50 rfl w7.heap.size 62 i0 _ 5 48 Tryz.underlying50 hi0 hz0 hz1 hz2 rfl (by decide) (.slice ac k cc) k ((l.take k).flatMap M.cells) rfl hownc ⟨w7.heap.size, 0, none⟩ 1 1 m.cells rfl rfl hcm (by simp [M.cells, Value.oneCell']) (by unfold maxLen; omega) (by omega) (by have := hcc.size; omega) ?_; intro vd wd hownd hgrowd hatd; obtain ⟨ad, cd, rfl⟩ := own_form hownd)
                  have hdd : Below w7.heap.size w7 wd := hcc.trans (below_row hgrowd (fun k hk => (hownc.lt k hk).1) (by have := hcc.size; omega))
                  have hds := hdd.size
                  refine QK_normal ⟨?_, ?_⟩
                  · first | exact fun _ => hSc _ hdd | exact hSc _ hdd
                  refine N_rest 11 2 (Nat.le_refl _) rfl (by kernel_rfl) ?_
                  simp only [List.drop_succ_cons, List.drop_zero]
                  clear hSc hSw
                  go_wp2_with (at_builtin; refine wpList_append_row _ rfl _ _ 50 rfl w7.heap.size 62 i0 _ 5 48 Tryz.underlying50 hi0 hz0 hz1 hz2 rfl (by decide) (.slice ad (k + 1) cd) (k + 1) ((l.take k).flatMap M.cells ++ m.cells) rfl hownd vD (l.drop k).length ((l.drop k).flatMap M.cells) rfl (hDr.below hdd).2 (one_flat _) (by unfold maxLen; rw [hld.out]; omega) (by rw [hld.out]; omega) hds ?_; intro ve we howne hgrowe hate; rw [hld.out] at howne; obtain ⟨ae, ce, rfl⟩ := own_form howne)
                  have hee : Below w7.heap.size w7 we := hdd.trans (below_row hgrowe (fun k hk => (hownd.lt k hk).1) hds)
                  rw [last_flat] at howne
                  have hpn : k + 1 + (l.length - k) = (putM l m).length := by rw [putM_len]; omega
                  have hpe : l.take k ++ m :: l.drop k = putM l m := by unfold putM; rw [hpos.out]
                  rw [hpe] at howne
                  replace hpe := Lib.hid hpe
                  replace hpn := Lib.hid hpn
                  clear hTk hDr hgrowe hate hownd hgrowd hatd hgrowc hatc hownc
                  go_wp2_with fail
                  go_roundw
                  case rel => exact ⟨j + 1, by omega, by go_num, putM l m, hN2, by rw [← hpn.out]; exact owns_mono howne (below_trans hb hb8).size, below_trans hb (below_trans hb8 hee)⟩
                  case measure => simp [intOf]; omega
            · have hlt' : decide ((k : Int) < (l.length : Int)) = false := decide_eq_false (by omega)
              have hpos : posM l m = k := posM_eq (by omega) hless.out (fun h => absurd h hltk)
              have hF : foundM l m = false := by rw [foundM, hpos, decide_eq_false hltk, Bool.false_and]
              obtain ⟨_, _, _, e1, hlc, _⟩ := hMsr.open
              cases e1
              have hN2 := allS_put hF
              rw [← hNj.out] at hN2
              replace hN2 := Lib.hid hN2
              replace hpos := Lib.hid hpos
              clear hF
              go_wp2_with fail
              refine wp_region_over (by kernel_rfl) (by kernel_rfl) ?_
              repeat (go_big_quiet_step (fail))
              refine wpQuiet_nil ?_
              rintro w5 ⟨⟨_, hb5⟩, rfl⟩
              go_wp2_with fail
              refine wp_region_over (by kernel_rfl) (by kernel_rfl) ?_
              repeat (go_big_quiet_step (fail))
              refine wpQuiet_nil ?_
              rintro w7 ⟨⟨_, hb7⟩, rfl⟩
              clear x0 x1 x2 x3 x4
              have hb8 := below_trans (below_trans hb4 hb5) hb7
              have hM9 := hMs.below hb8
              have hMb9 := hMb.below hb8 hsz
              have hCl := Nat.lt_of_lt_of_le hsz hb8.size
              have hple : k ≤ l.length := hk
              go_wp2_with fail
              have hTk := hM9.takes (k := k) hple
              have hDr := hM9.drops (k := k) hple
              have hlk := Lib.hid (show (l.take k).length = k by rw [List.length_take]; omega)
              have hld := Lib.hid (show (l.drop k).length = l.length - k from List.length_drop ..)
              obtain ⟨vD, hvD⟩ : ∃ vD, Value.slice (if c5 = k then a5 else Option.map (fun x => x.add (k * 5)) a5) (l.length - k) (c5 - k) = vD := ⟨_, rfl⟩
              rw [hvD] at hDr
              have hsf : ∀ W : World, (Instr.slice 50 (.slice a5 l.length c5) (some (.int .i64 (k : Nat))) none none).run Tryz.prog W = .ok vD W := fun W => by
                rw [← hvD]
                exact slice_from W a5 hple
              have hst : ∀ W : World, (Instr.slice 50 (.slice a5 l.length c5) none (some (.int .i64 (k : Nat))) none).run Tryz.prog W = .ok (.slice a5 k c5) W := fun W => slice_to W a5 (Nat.le_trans hple hlc)
              replace hvD := Lib.hid hvD
              have hSc : ∀ W, Below w7.heap.size w7 W → W.cell? ⟨C, 0, none⟩ = some (.int .i64 m.src) ∧ W.cell? ⟨C, 1, none⟩ = some (.int .i64 m.grp) ∧ W.cell? ⟨C, 2, none⟩ = some (.int .i64 m.stamp) ∧ W.cell? ⟨C, 3, none⟩ = some (.bool m.null) ∧ W.cell? ⟨C, 4, none⟩ = some (.string m.body) := fun W h => by
                obtain ⟨x0, x1, x2, x3, x4⟩ := hMb9.below h hCl
                exact ⟨x0, x1, x2, x3, x4⟩
              refine wp_region_N (fun w' => w'.cell? ⟨C, 0, none⟩ = some (.int .i64 m.src) ∧ w'.cell? ⟨C, 1, none⟩ = some (.int .i64 m.grp) ∧ w'.cell? ⟨C, 2, none⟩ = some (.int .i64 m.stamp) ∧ w'.cell? ⟨C, 3, none⟩ = some (.bool m.null) ∧ w'.cell? ⟨C, 4, none⟩ = some (.string m.body)) 11 13 rfl (by kernel_rfl) (hSc _ (below_drewN w7 1)) (fun hSw => ?_)
              refine tk 1 ?_ rfl rfl (by kernel_rfl) (.inl ⟨by rfl, ?_⟩) hSw ?_
              rotate_left
              · rintro w ⟨s0, s1, s2, s3, s4⟩; go_simp; try with_reducible rfl
              simp only [tkp, tkz, tks]
              refine tk 2 ?_ rfl rfl (by kernel_rfl) (.inl ⟨by rfl, ?_⟩) hSw ?_
              rotate_left
              · rintro w ⟨s0, s1, s2, s3, s4⟩; go_simp; try with_reducible rfl
              simp only [tkp, tkz, tks]
              refine tk 3 ?_ rfl rfl (by kernel_rfl) (.inl ⟨by rfl, ?_⟩) hSw ?_
              rotate_left
              · rintro w ⟨s0, s1, s2, s3, s4⟩; go_simp; try with_reducible rfl
              simp only [tkp, tkz, tks]
              refine tk 5 ?_ rfl rfl (by kernel_rfl) (.inl ⟨by rfl, ?_⟩) hSw ?_
              rotate_left
              · rintro w ⟨s0, s1, s2, s3, s4⟩; go_simp; try with_reducible rfl
              simp only [tkp, tkz, tks]
              refine tk 8 ?_ rfl rfl (by kernel_rfl) (.inl ⟨by rfl, ?_⟩) hSw ?_
              rotate_left
              · rintro w ⟨s0, s1, s2, s3, s4⟩; go_simp; try with_reducible rfl
              simp only [tkp, tkz, tks]
              refine tk 9 ?_ rfl rfl (by kernel_rfl) (.inl ⟨by rfl, ?_⟩) hSw ?_
              rotate_left
              · rintro w ⟨s0, s1, s2, s3, s4⟩; go_simp; try with_reducible rfl
              simp only [tkp, tkz, tks]
              refine tk 10 ?_ rfl rfl (by kernel_rfl) (.inl ⟨by rfl, ?_⟩) hSw ?_
              rotate_left
              · rintro w ⟨s0, s1, s2, s3, s4⟩; go_simp; try with_reducible rfl
              simp only [tkp, tkz, tks]
              refine N_two' (i := 0) (j := 6) (by kernel_rfl) rfl rfl ?_ ?_
              · go_wp2_with fail
                have hzz : Below w7.heap.size w7 (w7.alloc (.cells #[] 62)).drew := below_drew (below_a1 w7 _)
                refine QK_normal ⟨?_, ?_⟩
                · first | exact fun _ => hSc _ hzz | exact hSc _ hzz
                refine N_two' (i := 4) (j := 6) (by kernel_rfl) rfl rfl ?_ ?_
                · go_wp2_with (at_builtin; refine wpList_append_row _ rfl _ _ 50 rfl w7.heap.size 62 i0 _ 5 48 Tryz.underlying50 hi0 hz0 hz1 hz2 rfl (by decide) (.slice (some ⟨w7.heap.size, 0, none⟩) 0 0) 0 [] rfl (owns_drew (World.ownsRow_made _ #[] 0 (Nat.le_refl _) (by simp [maxLen]) (by simp))) _ _ _ rfl (hTk.below hzz).2 (one_flat _) (by unfold maxLen; rw [hlk.out]; omega) (by rw [hlk.out]; omega) (by have := hzz.size; omega) ?_; intro vc wc hownc hgrowc hatc; simp only [Nat.zero_add, List.nil_append] at hownc; rw [hlk.out] at hownc; obtain ⟨ac, cc, rfl⟩ := own_form hownc)
                  have hcc : Below w7.heap.size w7 wc := hzz.trans (below_row hgrowc (fun k hk => by cases hk; exact Nat.le_refl _) (by have := hzz.size; omega))
                  have hcs := hcc.size
                  refine QK_normal ⟨?_, ?_⟩
                  · first | exact fun _ => hSc _ hcc | exact hSc _ hcc
                  refine N_one' (i := 6) (by kernel_rfl) rfl ?_
                  go_wp2_with fail
                  have hcd := below_trans hcc (below_a1 wc (.cells #[.int .i64 m.src, .int .i64 m.grp, .int .i64 m.stamp, .bool m.null, .string m.body] 62))
                  refine QK_normal ⟨?_, ?_⟩
                  · first | exact fun _ => hSc _ hcd | exact hSc _ hcd
                  refine N_one' (i := 7) (by kernel_rfl) rfl ?_
                  go_wp2_with (at_builtin; refine wpList_append_own _ rfl _ _ 50 rfl w7.heap.size 62 i0 _ 5 48 Tryz.underlying50 hi0 hz0 hz1 hz2 rfl (by decide) (.slice ac k cc) k ((l.take k).flatMap M.cells) rfl (hownc.alloc _) ⟨wc.heap.size, 0, none⟩ 1 1 m.cells rfl rfl (cells_new _ _ _) (by simp [M.cells, Value.oneCell']) (by unfold maxLen; omega) (by omega) (by have := hcd.size; omega) ?_; intro vd wd hownd hgrowd hatd; obtain ⟨ad, cd, rfl⟩ := own_form hownd)
                  have hdd : Below w7.heap.size w7 wd := hcd.trans (below_row hgrowd (fun k hk => (hownc.lt k hk).1) (by have := hcd.size; omega))
                  have hds := hdd.size
                  refine QK_normal ⟨?_, ?_⟩
                  · first | exact fun _ => hSc _ hdd | exact hSc _ hdd
                  refine N_rest 11 2 (Nat.le_refl _) rfl (by kernel_rfl) ?_
                  simp only [List.drop_succ_cons, List.drop_zero]
                  clear hSc hSw
                  go_wp2_with (at_builtin; refine wpList_append_row _ rfl _ _ 50 rfl w7.heap.size 62 i0 _ 5 48 Tryz.underlying50 hi0 hz0 hz1 hz2 rfl (by decide) (.slice ad (k + 1) cd) (k + 1) ((l.take k).flatMap M.cells ++ m.cells) rfl hownd vD (l.drop k).length ((l.drop k).flatMap M.cells) rfl (hDr.below hdd).2 (one_flat _) (by unfold maxLen; rw [hld.out]; omega) (by rw [hld.out]; omega) hds ?_; intro ve we howne hgrowe hate; rw [hld.out] at howne; obtain ⟨ae, ce, rfl⟩ := own_form howne)
                  have hee : Below w7.heap.size w7 we := hdd.trans (below_row hgrowe (fun k hk => (hownd.lt k hk).1) hds)
                  rw [last_flat] at howne
                  have hpn : k + 1 + (l.length - k) = (putM l m).length := by rw [putM_len]; omega
                  have hpe : l.take k ++ m :: l.drop k = putM l m := by unfold putM; rw [hpos.out]
                  rw [hpe] at howne
                  replace hpe := Lib.hid hpe
                  replace hpn := Lib.hid hpn
                  clear hTk hDr hgrowe hate hownd hgrowd hatd hgrowc hatc hownc
                  go_wp2_with fail
                  go_roundw
                  case rel => exact ⟨j + 1, by omega, by go_num, putM l m, hN2, by rw [← hpn.out]; exact owns_mono howne (below_trans hb hb8).size, below_trans hb (below_trans hb8 hee)⟩
                  case measure => simp [intOf]; omega
                · go_wp2_with fail
                  have hzm : Below w7.heap.size w7 ((w7.alloc (.cells #[] 62)).drew.alloc (.cells #[.int .i64 m.src, .int .i64 m.grp, .int .i64 m.stamp, .bool m.null, .string m.body] 62)) := below_trans hzz (below_a1 _ _)
                  refine QK_normal ⟨?_, ?_⟩
                  · first | exact fun _ => hSc _ hzm | exact hSc _ hzm
                  refine N_one' (i := 4) (by kernel_rfl) rfl ?_
                  have hz2' : Below w7.heap.size w7 ((w7.alloc (.cells #[] 62)).alloc (.cells #[.int .i64 m.src, .int .i64 m.grp, .int .i64 m.stamp, .bool m.null, .string m.body] 62)).drew := below_drew (below_a2 w7 _ _)
                  have hsz2 : ((w7.alloc (.cells #[] 62)).alloc (.cells #[.int .i64 m.src, .int .i64 m.grp, .int .i64 m.stamp, .bool m.null, .string m.body] 62)).drew.heap.size = w7.heap.size + 1 + 1 := by show ((w7.alloc _).alloc _).heap.size = _; rw [World.size_alloc, World.size_alloc]
                  go_wp2_with (at_builtin; refine wpList_append_row _ rfl _ _ 50 rfl w7.heap.size 62 i0 _ 5 48 Tryz.underlying50 hi0 hz0 hz1 hz2 rfl (by decide) (.slice (some ⟨w7.heap.size, 0, none⟩) 0 0) 0 [] rfl (made_at1 w7 _) _ _ _ rfl (hTk.below hz2').2 (one_flat _) (by unfold maxLen; rw [hlk.out]; omega) (by rw [hlk.out]; omega) (by have := hz2'.size; omega) ?_; intro vc wc hownc hgrowc hatc; simp only [Nat.zero_add, List.nil_append] at hownc; rw [hlk.out] at hownc; obtain ⟨ac, cc, rfl⟩ := own_form hownc)
                  have hcc : Below w7.heap.size w7 wc := hz2'.trans (below_row hgrowc (fun k hk => by cases hk; exact Nat.le_refl _) (by have := hz2'.size; omega))
                  have hcs := hcc.size
                  have hcm := cells_grown (cs := m.cells) (b := w7.heap.size + 1) hgrowc (by rw [hsz2]; omega) (by show w7.heap.size + 1 ≠ w7.heap.size; omega) (cells_at2 w7 m.cells.toArray 62 _)
                  refine QK_normal ⟨?_, ?_⟩
                  · first | exact fun _ => hSc _ hcc | exact hSc _ hcc
                  refine N_one' (i := 7) (by kernel_rfl) rfl ?_
                  go_wp2_with (at_builtin; refine wpList_append_own _ rfl _ _ 50 rfl w7.heap.size 62 i0 _ 5 48 Tryz.underlying50 hi0 hz0 hz1 hz2 rfl (by decide) (.slice ac k cc) k ((l.take k).flatMap M.cells) rfl hownc ⟨w7.heap.size + 1, 0, none⟩ 1 1 m.cells rfl rfl hcm (by simp [M.cells, Value.oneCell']) (by unfold maxLen; omega) (by omega) (by have := hcc.size; omega) ?_; intro vd wd hownd hgrowd hatd; obtain ⟨ad, cd, rfl⟩ := own_form hownd)
                  have hdd : Below w7.heap.size w7 wd := hcc.trans (below_row hgrowd (fun k hk => (hownc.lt k hk).1) (by have := hcc.size; omega))
                  have hds := hdd.size
                  refine QK_normal ⟨?_, ?_⟩
                  · first | exact fun _ => hSc _ hdd | exact hSc _ hdd
                  refine N_rest 11 2 (Nat.le_refl _) rfl (by kernel_rfl) ?_
                  simp only [List.drop_succ_cons, List.drop_zero]
                  clear hSc hSw
                  go_wp2_with (at_builtin; refine wpList_append_row _ rfl _ _ 50 rfl w7.heap.size 62 i0 _ 5 48 Tryz.underlying50 hi0 hz0 hz1 hz2 rfl (by decide) (.slice ad (k + 1) cd) (k + 1) ((l.take k).flatMap M.cells ++ m.cells) rfl hownd vD (l.drop k).length ((l.drop k).flatMap M.cells) rfl (hDr.below hdd).2 (one_flat _) (by unfold maxLen; rw [hld.out]; omega) (by rw [hld.out]; omega) hds ?_; intro ve we howne hgrowe hate; rw [hld.out] at howne; obtain ⟨ae, ce, rfl⟩ := own_form howne)
                  have hee : Below w7.heap.size w7 we := hdd.trans (below_row hgrowe (fun k hk => (hownd.lt k hk).1) hds)
                  rw [last_flat] at howne
                  have hpn : k + 1 + (l.length - k) = (putM l m).length := by rw [putM_len]; omega
                  have hpe : l.take k ++ m :: l.drop k = putM l m := by unfold putM; rw [hpos.out]
                  rw [hpe] at howne
                  replace hpe := Lib.hid hpe
                  replace hpn := Lib.hid hpn
                  clear hTk hDr hgrowe hate hownd hgrowd hatd hgrowc hatc hownc
                  go_wp2_with fail
                  go_roundw
                  case rel => exact ⟨j + 1, by omega, by go_num, putM l m, hN2, by rw [← hpn.out]; exact owns_mono howne (below_trans hb hb8).size, below_trans hb (below_trans hb8 hee)⟩
                  case measure => simp [intOf]; omega
              · go_wp2_with fail
                have hzz : Below w7.heap.size w7 (w7.alloc (.cells #[.int .i64 m.src, .int .i64 m.grp, .int .i64 m.stamp, .bool m.null, .string m.body] 62)).drew := below_drew (below_a1 w7 _)
                refine QK_normal ⟨?_, ?_⟩
                · first | exact fun _ => hSc _ hzz | exact hSc _ hzz
                refine N_one' (i := 0) (by kernel_rfl) rfl ?_
                go_wp2_with fail
                have hz2' : Below w7.heap.size w7 ((w7.alloc (.cells #[.int .i64 m.src, .int .i64 m.grp, .int .i64 m.stamp, .bool m.null, .string m.body] 62)).alloc (.cells #[] 62)).drew := below_drew (below_a2 w7 _ _)
                have hsz2 : ((w7.alloc (.cells #[.int .i64 m.src, .int .i64 m.grp, .int .i64 m.stamp, .bool m.null, .string m.body] 62)).alloc (.cells #[] 62)).drew.heap.size = w7.heap.size + 1 + 1 := by show ((w7.alloc _).alloc _).heap.size = _; rw [World.size_alloc, World.size_alloc]
                refine QK_normal ⟨?_, ?_⟩
                · first | exact fun _ => hSc _ hz2' | exact hSc _ hz2'
                refine N_one' (i := 4) (by kernel_rfl) rfl ?_
                go_wp2_with (at_builtin; refine wpList_append_row _ rfl _ _ 50 rfl w7.heap.size 62 i0 _ 5 48 Tryz.underlying50 hi0 hz0 hz1 hz2 rfl (by decide) (.slice (some ⟨w7.heap.size + 1, 0, none⟩) 0 0) 0 [] rfl (made_at2 w7 _) _ _ _ rfl (hTk.below hz2').2 (one_flat _) (by unfold maxLen; rw [hlk.out]; omega) (by rw [hlk.out]; omega) (by have := hz2'.size; omega) ?_; intro vc wc hownc hgrowc hatc; simp only [Nat.zero_add, List.nil_append] at hownc; rw [hlk.out] at hownc; obtain ⟨ac, cc, rfl⟩ := own_form hownc)
                have hcc : Below w7.heap.size w7 wc := hz2'.trans (below_row hgrowc (fun k hk => by cases hk; exact Nat.le_succ _) (by have := hz2'.size; omega))
                have hcs := hcc.size
                have hcm := cells_grown (cs := m.cells) (b := w7.heap.size) hgrowc (by rw [hsz2]; omega) (by show w7.heap.size ≠ w7.heap.size + 1; omega) (cells_at1 w7 m.cells.toArray 62 _)
                refine QK_normal ⟨?_, ?_⟩
                · first | exact fun _ => hSc _ hcc | exact hSc _ hcc
                refine N_one' (i := 7) (by kernel_rfl) rfl ?_
                go_wp2_with (at_builtin; refine wpList_append_own _ rfl _ _ 50 rfl w7.heap.size 62 i0 _ 5 48 Tryz.underlying50 hi0 hz0 hz1 hz2 rfl (by decide) (.slice ac k cc) k ((l.take k).flatMap M.cells) rfl hownc ⟨w7.heap.size, 0, none⟩ 1 1 m.cells rfl rfl hcm (by simp [M.cells, Value.oneCell']) (by unfold maxLen; omega) (by omega) (by have := hcc.size; omega) ?_; intro vd wd hownd hgrowd hatd; obtain ⟨ad, cd, rfl⟩ := own_form hownd)
                have hdd : Below w7.heap.size w7 wd := hcc.trans (below_row hgrowd (fun k hk => (hownc.lt k hk).1) (by have := hcc.size; omega))
                have hds := hdd.size
                refine QK_normal ⟨?_, ?_⟩
                · first | exact fun _ => hSc _ hdd | exact hSc _ hdd
                refine N_rest 11 2 (Nat.le_refl _) rfl (by kernel_rfl) ?_
                simp only [List.drop_succ_cons, List.drop_zero]
                clear hSc hSw
                go_wp2_with (at_builtin; refine wpList_append_row _ rfl _ _ 50 rfl w7.heap.size 62 i0 _ 5 48 Tryz.underlying50 hi0 hz0 hz1 hz2 rfl (by decide) (.slice ad (k + 1) cd) (k + 1) ((l.take k).flatMap M.cells ++ m.cells) rfl hownd vD (l.drop k).length ((l.drop k).flatMap M.cells) rfl (hDr.below hdd).2 (one_flat _) (by unfold maxLen; rw [hld.out]; omega) (by rw [hld.out]; omega) hds ?_; intro ve we howne hgrowe hate; rw [hld.out] at howne; obtain ⟨ae, ce, rfl⟩ := own_form howne)
                have hee : Below w7.heap.size w7 we := hdd.trans (below_row hgrowe (fun k hk => (hownd.lt k hk).1) hds)
                rw [last_flat] at howne
                have hpn : k + 1 + (l.length - k) = (putM l m).length := by rw [putM_len]; omega
                have hpe : l.take k ++ m :: l.drop k = putM l m := by unfold putM; rw [hpos.out]
                rw [hpe] at howne
                replace hpe := Lib.hid hpe
                replace hpn := Lib.hid hpn
                clear hTk hDr hgrowe hate hownd hgrowd hatd hgrowc hatc hownc
                go_wp2_with fail
                go_roundw
                case rel => exact ⟨j + 1, by omega, by go_num, putM l m, hN2, by rw [← hpn.out]; exact owns_mono howne (below_trans hb hb8).size, below_trans hb (below_trans hb8 hee)⟩
                case measure => simp [intOf]; omega
        · obtain rfl : j = x.told.length := by omega
          have hN2 := hNd.out
          rw [← hN2] at hl
          replace hN2 := Lib.hid hN2
          go_wp2_with fail
          go_roundw
          case rel => exact ⟨n + 1, by omega, by go_num, l, hl, ho, hb⟩
          case measure => simp [intOf]; omega
    · obtain rfl : n = X.nodes.length := by omega
      have hF := hOk.out l hl.out
      have hKl := hK.out _ _ _ (Or.inr ⟨rfl, rfl⟩) hl.out
      rw [hF] at hP
      clear hF
      go_wp2_with fail
      rw [← hP.out]
      exact ⟨_, rfl, ⟨hKl.2.2, owns_mono ho hA.size⟩, below_trans hA hb⟩
end Go.Proofs.YtnalakhelicjcaaGreat
