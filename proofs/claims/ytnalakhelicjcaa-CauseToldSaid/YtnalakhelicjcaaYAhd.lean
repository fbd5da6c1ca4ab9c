/-
  agree.Ahead: does it stand there, and where? (As XCom's; for a seat without agree.Common.)
-/
import Derived.Test.YtnalakhelicjcaaYKAg
import Derived.Test.YtnalakhelicjcaaYKV
import Derived.Test.YtnalakhelicjcaaYKP
import Derived.Test.YtnalakhelicjcaaYKM
set_option maxRecDepth 100000
namespace Go.Proofs.Ytnalakhelicjcaa
open Go.RowKit Go.Shelf Go.BigFrame

/-- How many were told ahead of a message, and whether it was told. -/
def aheadK (x : N) (m : M) : Int := if 0 < idxM (eqM m) x.told then idxM (eqM m) x.told else 0
def aheadF (X : Wd) (n : Int) (m : M) : Value :=
  if nodeE X n = 0 then .tuple #[.int .i64 (aheadK (X.nodes.getD n.toNat N.zero) m), .bool ((X.nodes.getD n.toNat N.zero).told.any (eqM m)), .int .i64 0] else .tuple #[.int .i64 0, .bool false, .int .i64 (nodeE X n)]

set_option maxHeartbeats 1000000 in
theorem Ahead_c {w : World} {v : Value} {X : Wd} (h : WorldAt w v X) (n : Int) (hn64 : I64 n) (m : M) : Calls Try.prog 12 #[v, .int .i64 n, m.val] w (GivesB (aheadF X n m) w) := by
  have hW0 := h
  obtain ⟨gv, nv, wv, rfl, hg, hn, hw⟩ := h
  obtain ⟨hnl, na, ncap, rfl, hnc⟩ := hn.form
  obtain ⟨hwl, wa, wcap, rfl, hwc⟩ := hw.form
  obtain ⟨hgl, ga, gcap, rfl, _⟩ := hg.open
  have hA := below_a1 w (.cells #[.slice ga X.groups.length gcap, .slice na X.nodes.length ncap, .slice wa X.wires.length wcap] 40)
  have hB := OBox.new w 40 (.slice ga X.groups.length gcap) (.slice na X.nodes.length ncap) (.slice wa X.wires.length wcap)
  have hR : aheadF X n m = aheadF X n m := rfl
  conv at hR => rhs; unfold aheadF
  generalize aheadF X n m = r at *
  obtain ⟨P, hP⟩ : ∃ P, GivesB r w = P := ⟨_, rfl⟩
  rw [hP]
  replace hP := Lib.hid hP
  have hsA : (w.alloc (.cells #[.slice ga X.groups.length gcap, .slice na X.nodes.length ncap, .slice wa X.wires.length wcap] 40)).heap.size = w.heap.size + 1 := World.size_alloc _ _
  replace hsA := Lib.hid hsA
  unfold M.val
  go_enter Try.func12, Try.ntmps12
  go_upto_region 1 with fail
  generalize w.alloc (.cells #[.slice ga X.groups.length gcap, .slice na X.nodes.length ncap, .slice wa X.wires.length wcap] 40) = wA at *
  have hAm := below_a1 wA (.cells #[.int .i64 m.src, .int .i64 m.grp, .int .i64 m.stamp, .bool m.null, .string m.body] 33)
  have hBm := MsgBox.new wA m 33
  have hBl : wA.heap.size < (wA.alloc (.cells #[.int .i64 m.src, .int .i64 m.grp, .int .i64 m.stamp, .bool m.null, .string m.body] 33)).heap.size := by rw [World.size_alloc]; omega
  have hB := hB.keep (hAm.block _ hB.lt)
  have hA := below_trans hA hAm
  generalize wA.alloc (.cells #[.int .i64 m.src, .int .i64 m.grp, .int .i64 m.stamp, .bool m.null, .string m.body] 33) = wB at *
  rw [hsA.out] at hBm hBl
  clear hAm hsA
  obtain ⟨_, b0, b1, b2⟩ := id hB
  have hLt := Ints.lit wB [n] 3 (by simp [hn64]) (by simp)
  have hb0 := below_a1 wB (.cells #[.int .i64 n] 3)
  have hE1 := There_c (hW0.below (below_trans hA hb0)) hLt
  rw [thereE_one] at hE1
  simp only [List.length_cons, List.length_nil, Nat.zero_add] at hE1
  by_cases he : nodeE X n = 0
  · obtain ⟨hx, ha0, ha1⟩ := nodeE_ok he
    obtain ⟨k, rfl⟩ := Int.eq_ofNat_of_zero_le ha0
    have hk : k < X.nodes.length := by omega
    rw [if_pos he, Int.toNat_natCast] at hR
    rw [he] at hE1
    replace hR := Lib.hid hR
    clear he ha0 ha1 hx
    go_wp2_with fail
    refine hE1.mono ?_
    rintro e w1 ⟨rfl, hb1⟩
    have hb1 := below_trans hb0 hb1
    clear b0 b1 b2 hE1 hb0 hLt
    have hB1 := hB.keep (hb1.block _ hB.lt)
    have hM1 := hBm.below hb1 hBl
    have hA1 := below_trans hA hb1
    obtain ⟨bb, oo, cc, lv, hv, tv, e1, hc1, k0, k1, k2, k3, hk64, hrr, hh, htt⟩ := (hn.below hA1).at hk
    cases e1
    obtain ⟨_, ta, tcap, rfl, _⟩ := htt.open
    obtain ⟨x, HX⟩ : ∃ x, X.nodes.getD k N.zero = x := ⟨_, rfl⟩
    rw [HX] at htt k3 hR
    clear HX hrr hh k0 k1 k2
    have hI := fun j => IndexM_c (htt.below (below_drewN w1 j)) m
    have hAn := Lib.hid (idxM_any (eqM m) x.told)
    have hKn : aheadK x m = if 0 < idxM (eqM m) x.told then idxM (eqM m) x.told else 0 := rfl
    generalize idxM (eqM m) x.told = i0 at *
    generalize aheadK x m = kk at *
    replace hKn := Lib.hid hKn
    replace hI := Lib.hid hI
    obtain ⟨_, x0, x1, x2⟩ := id hB1
    obtain ⟨y0, y1, y2, y3, y4⟩ := id hM1
    go_wp2_with fail
    go_still_tail 7, (by kernel_rfl)
    go_wp2_with fail
    refine (hI.out 1).mono ?_
    rintro e w2 ⟨rfl, b2⟩
    have b2 := below_trans (below_drewN w1 1) b2
    go_wp2_with fail
    all_goals
      rw [← hP.out, hR.out, hKn.out, ← hAn.out]
      refine ⟨?_, below_trans hA1 b2⟩
      first
        | rw [if_pos (by omega)]
        | rw [if_neg (by omega)]
  · rw [if_neg he] at hR
    subst hR
    generalize nodeE X n = e0 at *
    have hne : (e0 != 0) = true := by simpa using he
    replace he := Lib.hid he
    go_wp2_with fail
    refine hE1.mono ?_
    rintro e w1 ⟨rfl, hb1⟩
    go_wp2_with fail
    rw [← hP.out]
    exact ⟨rfl, below_trans (below_trans hA hb0) hb1⟩
end Go.Proofs.Ytnalakhelicjcaa
