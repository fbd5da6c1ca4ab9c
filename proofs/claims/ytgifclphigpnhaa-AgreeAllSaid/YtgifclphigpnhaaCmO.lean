/-
  The document's answer: what was told to both of two nodes; how many ahead of a message.
-/
import Derived.Test.YtgifclphigpnhaaTld
import Derived.Test.YtgifclphigpnhaaKE
set_option maxRecDepth 100000
namespace Go.Proofs.Ytgifclphigpnhaa
open Go.RowKit Go.Shelf Go.BigFrame

def keepL (y : N) (l : List M) : List M := l.filter fun m => y.told.any (eqM m)
theorem keepL_snoc {y : N} {l : List M} {k : Nat} (hk : k < l.length) :
    keepL y (l.take (k + 1)) = if y.told.any (eqM (l.getD k M.zero)) = true then keepL y (l.take k) ++ [l.getD k M.zero] else keepL y (l.take k) := by
  unfold keepL
  rw [List.take_succ_eq_append_getElem hk, List.filter_append, getD_lt l M.zero hk]
  split
  · rename_i h; simp [h]
  · rename_i h; simp [h]
theorem keepL_len {y : N} {l : List M} : (keepL y l).length ≤ l.length := List.length_filter_le _ _

set_option maxHeartbeats 1000000 in
theorem CommonOf_c {w : World} {v : Value} {X : Wd} (h : WorldAt w v X) (a b : Int) : Calls Try.prog 7 #[v, .int .i64 a, .int .i64 b] w (LPost w (commonF X a b) (moveE X a b)) := by
  have hW0 := h
  obtain ⟨gv, nv, wv, rfl, hg, hn, hw⟩ := h
  obtain ⟨hnl, na, ncap, rfl, hnc⟩ := hn.form
  obtain ⟨hwl, wa, wcap, rfl, hwc⟩ := hw.form
  obtain ⟨hgl, ga, gcap, rfl, _⟩ := hg.open
  have hA := below_a1 w (.cells #[.slice ga X.groups.length gcap, .slice na X.nodes.length ncap, .slice wa X.wires.length wcap] 26)
  have hB := OBox.new w 26 (.slice ga X.groups.length gcap) (.slice na X.nodes.length ncap) (.slice wa X.wires.length wcap)
  have hR : commonF X a b = commonF X a b := rfl
  conv at hR => rhs; unfold commonF
  generalize commonF X a b = r at *
  obtain ⟨P, hP⟩ : ∃ P, LPost w r (moveE X a b) = P := ⟨_, rfl⟩
  rw [hP]
  replace hP := Lib.hid hP
  obtain ⟨i0, hi0, hz0, hz1, hz2⟩ := info_parts infoCMsg
  go_enter Try.func7, Try.ntmps7
  go_upto_region 1 with fail
  generalize w.alloc (.cells #[.slice ga X.groups.length gcap, .slice na X.nodes.length ncap, .slice wa X.wires.length wcap] 26) = wA at *
  obtain ⟨B, hBe⟩ : ∃ B, w.heap.size = B := ⟨_, rfl⟩
  simp only [hBe] at hB ⊢
  replace hBe := Lib.hid hBe
  obtain ⟨_, b0, b1, b2⟩ := id hB
  have hE1 := MoveError_c (hW0.below (by rw [← hBe.out] at *; exact hA)) a b
  by_cases he : moveE X a b = 0
  · obtain ⟨hx, ha0, ha1, hbb0, hbb1⟩ := moveE_ok he
    obtain ⟨a, rfl⟩ := Int.eq_ofNat_of_zero_le ha0
    obtain ⟨b, rfl⟩ := Int.eq_ofNat_of_zero_le hbb0
    have ha : a < X.nodes.length := by omega
    have hb : b < X.nodes.length := by omega
    have hq1 := ((right_of hx).node a ha).told.many
    rw [if_pos he, Int.toNat_natCast, Int.toNat_natCast] at hR
    rw [he] at hE1 hP
    replace hR := Lib.hid hR
    clear he ha0 ha1 hbb0 hbb1 hx
    go_wp2_with fail
    refine hE1.mono ?_
    rintro e w1 ⟨rfl, hb1⟩
    clear b0 b1 b2 hE1
    have hB1 := hB.keep (hb1.block _ hB.lt)
    have hA1 := below_trans hA hb1
    obtain ⟨bb, oo, cc, lv, hv, tv, e1, hc1, _, _, _, k3, _, _, _, htt⟩ := (hn.below hA1).at hb
    cases e1
    obtain ⟨_, _, _, lv2, hv2, tv2, e1, _, _, _, _, j3, _, _, _, htt2⟩ := (hn.below hA1).at ha
    cases e1
    obtain ⟨_, ta, tcap, rfl, _⟩ := htt.open
    obtain ⟨_, ua, ucap, rfl, huc⟩ := htt2.open
    obtain ⟨x, HX⟩ : ∃ x, X.nodes.getD a N.zero = x := ⟨_, rfl⟩
    obtain ⟨y, HY⟩ : ∃ y, X.nodes.getD b N.zero = y := ⟨_, rfl⟩
    rw [HY] at htt k3
    rw [HX] at htt2 j3 hq1 huc
    rw [HX, HY] at hR
    clear HX HY hB
    have hfit := htt2.1
    have hTl := fun o (h : Below w1.heap.size w1 o) m => told_c (htt.below h) m
    have hlB := hB1.lt
    have hlk := cell_lt k3
    have hlj := cell_lt j3
    dsimp only at hlk hlj
    have hSn := Lib.hid (fun k (hk : k < x.told.length) => keepL_snoc (y := y) hk)
    unfold M.val at hTl
    replace hTl := Lib.hid hTl
    replace huc := Lib.hid huc
    have hda : decide ((a : Int) < 0) = false := by simp
    have hda2 : decide (X.nodes.length ≤ a) = false := by simp; omega
    have hdb : decide ((b : Int) < 0) = false := by simp
    have hdb2 : decide (X.nodes.length ≤ b) = false := by simp; omega
    go_wp2_with fail
    go_loopw [9, 10] (fun o i wr => ∃ k : Nat, k ≤ x.told.length ∧ i = .int .i64 k ∧ wr.ownsRow w1.heap.size 28 5 o (keepL y (x.told.take k)).length ((keepL y (x.told.take k)).flatMap M.cells) ∧ Below w1.heap.size w1 wr) (fun _ i _ => x.told.length - (intOf i).toNat)
    case atStart => exact ⟨0, by omega, rfl, World.ownsRow_nil _ _ _ _, Below.refl _ _⟩
    case round =>
      obtain ⟨k, hk, rfl, ho, hb⟩ := hrel
      obtain ⟨a9, c9, rfl⟩ := own_form ho
      have hBr := hB1.keep (hb.block _ hlB)
      have j3r := (hb.cell (p := ⟨bb, oo + a * 4 + 3, none⟩) hlj).trans j3
      have k3r := (hb.cell (p := ⟨bb, oo + b * 4 + 3, none⟩) hlk).trans k3
      obtain ⟨_, x0, x1, x2⟩ := hBr
      have hkl := keepL_len (y := y) (l := x.told.take k)
      rw [List.length_take] at hkl
      by_cases hlt : k < x.told.length
      · obtain ⟨_, hcc⟩ := huc.out
        obtain ⟨bm, om, rfl, hun⟩ := hcc (by intro e; rw [e] at hlt; simp at hlt)
        obtain ⟨m0, m1, m2, m3, m4⟩ := (hun k hlt).below hb
        have hsn := hSn.out k hlt
        have hmf := hfit _ (getD_mem x.told M.zero hlt)
        obtain ⟨m, HM⟩ : ∃ m, x.told.getD k M.zero = m := ⟨_, rfl⟩
        rw [HM] at m0 m1 m2 m3 m4 hsn hmf
        clear hcc hun HM
        have hTl := hTl.out
        have hk1 : decide ((k : Int) < 0) = false := by simp
        have hk2 : decide (x.told.length ≤ k) = false := by simp; omega
        generalize keepL y (x.told.take k) = lk at *
        obtain ⟨ln, hln⟩ : ∃ ln, keepL y (x.told.take (k + 1)) = ln := ⟨_, rfl⟩
        rw [hln] at hsn
        replace hln := Lib.hid hln
        replace hsn := Lib.hid hsn
        have hy1 := cell_lt x1
        have hy3 := cell_lt k3r
        have hy4 := cell_lt m0
        dsimp only at hy1 hy3 hy4
        go_wp2_with fail
        refine wp_region_over (by kernel_rfl) (by kernel_rfl) ?_
        repeat (go_big_quiet_step (exact over_c (hTl _ (below_trans hb (Over.h _)) m)))
        refine wpQuiet_nil ?_
        rintro w5 ⟨⟨_, hb5⟩, rfl⟩
        have ho5 := owns_below ho hb5
        have hb' := below_trans hb hb5
        have x1 := (hb5.cell (p := ⟨B, 1, none⟩) hy1).trans x1
        have j3r := (hb5.cell (p := ⟨bb, oo + a * 4 + 3, none⟩) hy3).trans j3r
        have m0 := (hb5.cell (p := ⟨bm, om + k * 5, none⟩) hy4).trans m0
        have m1 := (hb5.cell (p := ⟨bm, om + k * 5 + 1, none⟩) hy4).trans m1
        have m2 := (hb5.cell (p := ⟨bm, om + k * 5 + 2, none⟩) hy4).trans m2
        have m3 := (hb5.cell (p := ⟨bm, om + k * 5 + 3, none⟩) hy4).trans m3
        have m4 := (hb5.cell (p := ⟨bm, om + k * 5 + 4, none⟩) hy4).trans m4
        have hs5 := hb'.size
        cases hq : y.told.any (eqM m)
        · have hs2 := hsn.out
          rw [hq, if_neg (by simp)] at hs2
          subst hs2
          replace hq := Lib.hid hq
          go_wp2_with fail
          go_roundw
          case rel => exact ⟨k + 1, by omega, by go_num, by rw [hln.out]; exact ho5, hb'⟩
          case measure => simp [intOf]; omega
        · have hs2 := hsn.out
          rw [hq, if_pos rfl] at hs2
          subst hs2
          replace hq := Lib.hid hq
          go_wp2_with (at_builtin; refine wpList_append_own _ rfl _ _ 29 rfl w1.heap.size 28 i0 _ 5 48 Try.underlying29 hi0 hz0 hz1 hz2 rfl (by decide) _ _ _ rfl (ho5.alloc _) ⟨w5.heap.size, 0, none⟩ 1 1 m.cells rfl rfl (cells_new _ _ _) (by simp [M.cells, Value.oneCell']) (by unfold maxLen; omega) (by omega) (by simp; omega) ?_; intro v' w6 hown' hgrow _)
          go_roundw
          case rel =>
            refine ⟨k + 1, by omega, by go_num, ?_, below_app hb' ho5 (by omega) hgrow⟩
            rw [hln.out, List.length_append, List.flatMap_append]
            simpa using hown'
          case measure => simp [intOf]; omega
      · obtain rfl : k = x.told.length := by omega
        rw [List.take_length] at ho hkl ⊢
        have hcl : commonL x y = keepL y x.told := rfl
        rw [hcl] at hR
        generalize keepL y x.told = lk at *
        replace hcl := Lib.hid hcl
        go_wp2_with fail
        rw [← hP.out, hR.out]
        refine ⟨_, rfl, MsgsOwn.msgs ⟨fun m hm => ?_, ho⟩ (by omega), below_trans hA1 hb⟩
        rw [← hcl.out] at hm
        exact hfit m (List.mem_filter.1 hm).1
  · rw [if_neg he] at hR
    subst hR
    generalize moveE X a b = e0 at *
    have hne : (e0 != 0) = true := by simpa using he
    replace he := Lib.hid he
    go_wp2_with fail
    refine hE1.mono ?_
    rintro e w1 ⟨rfl, hb1⟩
    go_wp2_with fail
    rw [← hP.out]
    exact ⟨_, rfl, Msgs.nil _, below_trans hA hb1⟩

set_option maxHeartbeats 1000000 in
theorem AheadOf_c {w : World} {v : Value} {X : Wd} (h : WorldAt w v X) (n : Int) (m : M) : Calls Try.prog 8 #[v, .int .i64 n, m.val] w (GivesB (aheadF X n m) w) := by
  have hW0 := h
  obtain ⟨gv, nv, wv, rfl, hg, hn, hw⟩ := h
  obtain ⟨hnl, na, ncap, rfl, hnc⟩ := hn.form
  obtain ⟨hwl, wa, wcap, rfl, hwc⟩ := hw.form
  obtain ⟨hgl, ga, gcap, rfl, _⟩ := hg.open
  have hA := below_a1 w (.cells #[.slice ga X.groups.length gcap, .slice na X.nodes.length ncap, .slice wa X.wires.length wcap] 26)
  have hB := OBox.new w 26 (.slice ga X.groups.length gcap) (.slice na X.nodes.length ncap) (.slice wa X.wires.length wcap)
  have hR : aheadF X n m = aheadF X n m := rfl
  conv at hR => rhs; unfold aheadF
  generalize aheadF X n m = r at *
  obtain ⟨P, hP⟩ : ∃ P, GivesB r w = P := ⟨_, rfl⟩
  rw [hP]
  replace hP := Lib.hid hP
  have hsA : (w.alloc (.cells #[.slice ga X.groups.length gcap, .slice na X.nodes.length ncap, .slice wa X.wires.length wcap] 26)).heap.size = w.heap.size + 1 := World.size_alloc _ _
  replace hsA := Lib.hid hsA
  unfold M.val
  go_enter Try.func8, Try.ntmps8
  go_upto_region 1 with fail
  generalize w.alloc (.cells #[.slice ga X.groups.length gcap, .slice na X.nodes.length ncap, .slice wa X.wires.length wcap] 26) = wA at *
  have hAm := below_a1 wA (.cells #[.int .i64 m.src, .int .i64 m.grp, .int .i64 m.stamp, .bool m.null, .string m.body] 28)
  have hBm := MsgBox.new wA m 28
  have hBl : wA.heap.size < (wA.alloc (.cells #[.int .i64 m.src, .int .i64 m.grp, .int .i64 m.stamp, .bool m.null, .string m.body] 28)).heap.size := by rw [World.size_alloc]; omega
  have hB := hB.keep (hAm.block _ hB.lt)
  have hA := below_trans hA hAm
  generalize wA.alloc (.cells #[.int .i64 m.src, .int .i64 m.grp, .int .i64 m.stamp, .bool m.null, .string m.body] 28) = wB at *
  rw [hsA.out] at hBm hBl
  clear hAm hsA
  obtain ⟨_, b0, b1, b2⟩ := id hB
  have hE1 := NodeError_c (hW0.below hA) n
  by_cases he : nodeE X n = 0
  · obtain ⟨hx, ha0, ha1⟩ := nodeE_ok he
    obtain ⟨k, rfl⟩ := Int.eq_ofNat_of_zero_le ha0
    have hk : k < X.nodes.length := by omega
    rw [if_pos he, Int.toNat_natCast] at hR
    rw [he] at hE1
    replace hR := Lib.hid hR
    clear he ha0 ha1 hx
    go_wp2_with fail
    refine hE1.mono ?_
    rintro e w1 ⟨rfl, hb1⟩
    clear b0 b1 b2 hE1
    have hB1 := hB.keep (hb1.block _ hB.lt)
    have hM1 := hBm.below hb1 hBl
    have hA1 := below_trans hA hb1
    obtain ⟨bb, oo, cc, lv, hv, tv, e1, hc1, _, _, _, k3, _, _, _, htt⟩ := (hn.below hA1).at hk
    cases e1
    obtain ⟨_, ta, tcap, rfl, _⟩ := htt.open
    obtain ⟨x, HX⟩ : ∃ x, X.nodes.getD k N.zero = x := ⟨_, rfl⟩
    rw [HX] at htt k3 hR
    clear HX
    have hTl := fun o (h : Below w1.heap.size w1 o) => told_c (htt.below h) m
    unfold M.val at hTl
    have hkk : aheadK x m = toldK x.told m := rfl
    rw [hkk] at hR
    generalize toldK x.told m = tk at *
    generalize x.told.any (eqM m) = tb at *
    replace hkk := Lib.hid hkk
    replace hTl := Lib.hid hTl
    obtain ⟨_, x0, x1, x2⟩ := id hB1
    obtain ⟨y0, y1, y2, y3, y4⟩ := id hM1
    have hz1 := cell_lt x1
    have hz2 := cell_lt k3
    have hz3 := cell_lt y0
    dsimp only at hz1 hz2 hz3
    have hdb : decide ((k : Int) < 0) = false := by simp
    have hdb2 : decide (X.nodes.length ≤ k) = false := by simp; omega
    go_wp2_with fail
    refine wp_region_over (by kernel_rfl) (by kernel_rfl) ?_
    repeat (go_big_quiet_step (exact over_c (hTl.out _ (Over.h _))))
    refine wpQuiet_nil ?_
    rintro w5 ⟨⟨_, hb5⟩, rfl⟩
    go_wp2_with fail
    rw [← hP.out, hR.out]
    exact ⟨rfl, below_trans hA1 hb5⟩
  · rw [if_neg he] at hR
    subst hR
    generalize nodeE X n = e0 at *
    have hne : (e0 != 0) = true := by simpa using he
    replace he := Lib.hid he
    go_wp2_with fail
    refine hE1.mono ?_
    rintro e w1 ⟨rfl, hb1⟩
    go_wp2_with fail
    rw [← hP.out]
    exact ⟨rfl, below_trans hA hb1⟩
end Go.Proofs.Ytgifclphigpnhaa
