/-
  log.Recover: a world from a log.
-/
import Derived.Test.YtnalakhelicjcaaGreatLRp
import Derived.Test.YtnalakhelicjcaaGreatLDo
import Derived.Test.YtnalakhelicjcaaGreatKS2
import Derived.Test.YtnalakhelicjcaaGreatKD
set_option maxRecDepth 100000
namespace Go.Proofs.YtnalakhelicjcaaGreat
open Go.RowKit Go.Shelf Go.BigFrame

/-- What Recover answers: an error, how many, the world. -/
def recF (nodes : Int) (gs : List Int) (t : ByteArray) : Int × Int × Wd :=
  if gErr nodes gs = 0 then if replayE t = 0 then (0, (replayA t).length, doneF (beginX nodes.toNat gs) (replayA t)) else (replayE t, 0, Wd.none) else (gErr nodes gs, 0, Wd.none)

set_option maxHeartbeats 4000000 in
theorem Recover_c {w : World} {gv : Value} {gs : List Int} (hg : Ints w gv gs) (nodes : Int) (t : ByteArray) :
    Calls Tryz.prog 15 #[.int .i64 nodes, gv, .string t] w (WPost3 w (recF nodes gs t)) := by
  obtain ⟨hgl, ga, gcap, rfl, _⟩ := hg.open
  have hA := below_a1 w (.cells #[.slice none 0 0, .slice none 0 0, .slice none 0 0] 37)
  have hRb := OBox.new w 37 (.slice none 0 0) (.slice none 0 0) (.slice none 0 0)
  have hC := fun o (h : Below w.heap.size w o) => Check_c (hg.below h) nodes
  obtain ⟨P, hP⟩ : ∃ P, WPost3 w (recF nodes gs t) = P := ⟨_, rfl⟩
  rw [hP]
  have hR : recF nodes gs t = recF nodes gs t := rfl
  conv at hR => rhs; unfold recF
  generalize recF nodes gs t = rr at *
  have hgs := fun h => gErr_small (nodes := nodes) (gs := gs) h
  generalize gErr nodes gs = e0 at *
  replace hP := Lib.hid hP
  replace hC := Lib.hid hC
  go_enter Tryz.func15, Tryz.ntmps15
  go_upto_region 1 with fail
  generalize w.alloc (.cells #[.slice none 0 0, .slice none 0 0, .slice none 0 0] 37) = wA at *
  have hC := hC.out wA hA
  by_cases hz : e0 = 0
  rotate_left
  · rw [if_neg hz] at hR
    subst hR
    have hne : (e0 != 0) = true := by simpa using hz
    replace hz := Lib.hid hz
    replace hgs := Lib.hid hgs
    go_wp2_with fail
    refine hC.mono ?_
    rintro e w1 ⟨rfl, d1⟩
    have hRb := hRb.keep ((show Below wA.heap.size wA w1 from d1).block _ hRb.lt)
    obtain ⟨hf0, hf1, hf2, z0, z1, z2⟩ := hRb.all
    obtain ⟨f0, f1, f2⟩ := hRb.put3 (.slice none 0 0) (.slice none 0 0) (.slice none 0 0)
    go_wp2_with ((with_reducible refine bodyPost_ret (v := .tuple #[.agg #[.slice none 0 0, .slice none 0 0, .slice none 0 0], .int .i64 0, .int .i64 e0]) ?_ rfl ?_); (focus (simp [results, Tryz.f15]; go_simp)))
    rw [← hP.out]
    exact WPost3.none (set3_below (below_trans hA d1) (by omega))
  rw [if_pos hz] at hR
  subst hz
  have hgs := hgs rfl
  obtain ⟨n, rfl⟩ := Int.eq_ofNat_of_zero_le (show 0 ≤ nodes by omega)
  rw [Int.toNat_natCast] at hR
  have hLen := replayA_len t
  have hSu := Lib.hid (fun k (hk : k < (replayA t).length) => doneF_succ (X := beginX n gs) hk)
  have hRp := fun o => Replay_c o t
  generalize replayE t = e1 at *
  generalize replayN t = n1 at *
  generalize replayA t = acts at *
  replace hRp := Lib.hid hRp
  go_wp2_with fail
  refine hC.mono ?_
  rintro e w1 ⟨rfl, d1⟩
  have d1 : Below wA.heap.size wA w1 := d1
  have hRb := hRb.keep (d1.block _ hRb.lt)
  have hA := below_trans hA d1
  clear d1 hC
  go_wp2_with fail
  refine (hRp.out w1).mono ?_
  rintro e w2 ⟨av, rfl, hAc, b2⟩
  have hRb := hRb.keep (b2.block _ hRb.lt)
  have hA := below_trans hA b2
  obtain ⟨hal, aa, acap, rfl, hac⟩ := hAc.form
  clear b2 hRp
  by_cases hz : e1 = 0
  rotate_left
  · rw [if_neg hz] at hR
    subst hR
    have hne : (e1 != 0) = true := by simpa using hz
    replace hz := Lib.hid hz
    obtain ⟨hf0, hf1, hf2, z0, z1, z2⟩ := hRb.all
    obtain ⟨f0, f1, f2⟩ := hRb.put3 (.slice none 0 0) (.slice none 0 0) (.slice none 0 0)
    go_wp2_with ((with_reducible refine bodyPost_ret (v := .tuple #[.agg #[.slice none 0 0, .slice none 0 0, .slice none 0 0], .int .i64 0, .int .i64 e1]) ?_ rfl ?_); (focus (simp [results, Tryz.f15]; go_simp)))
    rw [← hP.out]
    exact WPost3.none (set3_below hA (by omega))
  rw [if_pos hz] at hR
  subst hz hR
  have hF := First_c (hg.below hA) (n := n) (by omega) (by omega)
  obtain ⟨X0, hX0⟩ : ∃ X0, beginX n gs = X0 := ⟨_, rfl⟩
  rw [hX0] at hF hP
  simp only [hX0] at hSu
  clear hX0
  go_wp2_with fail
  refine hF.mono ?_
  rintro e w3 ⟨gv3, nv3, wv3, S3, rfl, hO3, hS3, b3⟩
  obtain ⟨pg, pn, pw⟩ := hO3.parts
  obtain ⟨_, ga3, gcap3, rfl, _⟩ := pg.open
  obtain ⟨_, na3, ncap3, rfl, _⟩ := pn.form
  obtain ⟨_, wa3, wcap3, rfl, _⟩ := pw.form
  clear pg pn pw
  have b4 := below_trans b3 (below_a1 w3 (.cells #[.slice ga3 X0.groups.length gcap3, .slice na3 X0.nodes.length ncap3, .slice wa3 X0.wires.length wcap3] 37))
  have hs3 := b3.size
  have hs2 := hRb.lt
  have hR4 := hRb.keep (b4.block _ hRb.lt)
  have hA4 := below_trans hA b4
  have hl2 : w2.heap.size ≤ w3.heap.size := hs3
  have hD0 : DoneR w (w3.alloc (.cells #[.slice ga3 X0.groups.length gcap3, .slice na3 X0.nodes.length ncap3, .slice wa3 X0.wires.length wcap3] 37)) w3.heap.size X0 :=
    ⟨_, _, _, S3, hO3.any.keep (fun c hc => Go.Deep.blk_alloc_lt _ _ _ (hS3 c hc).2), OBox.new w3 _ _ _ _, hR4, hA4, fun c hc => by have := hS3 c hc; rw [World.size_alloc]; omega⟩
  have hBw : w.heap.size < w3.heap.size := by omega
  go_upto_region 8 with fail
  obtain ⟨B, hB'⟩ : ∃ B, w3.heap.size = B := ⟨_, rfl⟩
  rw [hB'] at hD0 hBw hl2
  simp only [hB'] at ⊢
  replace hB' := Lib.hid hB'
  generalize w3.alloc (.cells #[.slice ga3 X0.groups.length gcap3, .slice na3 X0.nodes.length ncap3, .slice wa3 X0.wires.length wcap3] 37) = w4 at *
  clear hO3 hS3 b3 hs3 hs2 hRb hA hF hR4 hA4
  go_wp2_with fail
  go_loopw [40] (fun i wr => ∃ k : Nat, k ≤ acts.length ∧ i = .int .i64 k ∧ DoneR w wr B (doneF X0 (acts.take k)) ∧ Below w2.heap.size w2 wr) (fun i _ => acts.length - (intOf i).toNat)
  case atStart => exact ⟨0, by omega, rfl, hD0, b4⟩
  case round =>
    clear hD0 b4
    obtain ⟨k, hk, rfl, hD, hb2⟩ := hrel
    obtain ⟨gv, nv, wv, S, hO, hBx, hRx, hbw, hS⟩ := id hD
    obtain ⟨pg, pn, pw⟩ := hO.parts
    obtain ⟨_, ga, gcap, rfl, _⟩ := pg.open
    obtain ⟨_, na, ncap, rfl, _⟩ := pn.form
    obtain ⟨_, wa, wcap, rfl, _⟩ := pw.form
    clear pg pn pw
    replace hS := Lib.hid hS
    by_cases hlt : k < acts.length
    · obtain ⟨ab, ao, acap', e, _, hbox, hfit⟩ := (hAc.below hb2).at hlt
      cases e
      obtain ⟨x, hx⟩ : ∃ x, acts.getD k Ac.zero = x := ⟨_, rfl⟩
      have hsu := hSu.out k hlt
      rw [hx] at hbox hfit hsu
      clear hx
      have hDo := fun o (h : Below wr.heap.size wr o) => Do_c (hO.world.below h) hfit
      generalize doneF X0 (acts.take k) = Y at *
      unfold Ac.val at hDo
      replace hsu := Lib.hid hsu
      obtain ⟨r, hrd⟩ : ∃ r, doF Y x = r := ⟨_, rfl⟩
      rw [hrd] at hDo
      replace hrd := Lib.hid hrd
      obtain ⟨a0, a1, a2, a3⟩ := hbox
      have bx := below_a1 wr (.cells #[.int .i64 x.kind, .int .i64 x.one, .int .i64 x.two, .string x.body] 23)
      have hM := AcBox.new wr x 23
      have hDo := hDo _ bx
      have hBx5 := hBx.keep (bx.block _ hBx.lt)
      go_upto_region 11 with fail
      generalize wr.alloc (.cells #[.int .i64 x.kind, .int .i64 x.one, .int .i64 x.two, .string x.body] 23) = w5 at *
      obtain ⟨C, hC⟩ : ∃ C, wr.heap.size = C := ⟨_, rfl⟩
      rw [hC] at hM
      simp only [hC] at ⊢
      replace hC := Lib.hid hC
      obtain ⟨m0, m1, m2, m3⟩ := hM
      simp only [Nat.zero_add] at m0 m1 m2 m3
      obtain ⟨_, o0, o1, o2⟩ := id hBx5
      go_wp2_with fail
      refine hDo.mono ?_
      rintro e w6 ⟨gv5, nv5, wv5, S5, rfl, hO5, hS5, hb5⟩
      obtain ⟨pg, pn, pw⟩ := hO5.parts
      obtain ⟨_, ga5, gcap5, rfl, _⟩ := pg.open
      obtain ⟨_, na5, ncap5, rfl, _⟩ := pn.form
      obtain ⟨_, wa5, wcap5, rfl, _⟩ := pw.form
      clear pg pn pw m0 m1 m2 m3 o0 o1 o2 a0 a1 a2 a3 hDo
      have hs5 := bx.size
      have hb6 := below_trans bx (below_trans hb5 (below_a1 w6 (.cells #[.slice ga5 r.2.groups.length gcap5, .slice na5 r.2.nodes.length ncap5, .slice wa5 r.2.wires.length wcap5] 37)))
      have hq := WBox.new w6 (.slice ga5 r.2.groups.length gcap5) (.slice na5 r.2.nodes.length ncap5) (.slice wa5 r.2.wires.length wcap5) 37
      have hO6 := hO5.keep (w' := w6.alloc (.cells #[.slice ga5 r.2.groups.length gcap5, .slice na5 r.2.nodes.length ncap5, .slice wa5 r.2.wires.length wcap5] 37)) (fun c hc => Go.Deep.blk_alloc_lt _ _ _ (hS5 c hc).2)
      have hS6 : ∀ c, S5 c → wr.heap.size ≤ c ∧ c < (w6.alloc (.cells #[.slice ga5 r.2.groups.length gcap5, .slice na5 r.2.nodes.length ncap5, .slice wa5 r.2.wires.length wcap5] 37)).heap.size := fun c hc => by have h := hS5 c hc; rw [World.size_alloc]; exact ⟨by omega, by omega⟩
      go_upto_region 12 with fail
      generalize w6.alloc (.cells #[.slice ga5 r.2.groups.length gcap5, .slice na5 r.2.nodes.length ncap5, .slice wa5 r.2.wires.length wcap5] 37) = w7 at *
      obtain ⟨D, hD'⟩ : ∃ D, w6.heap.size = D := ⟨_, rfl⟩
      rw [hD'] at hq
      simp only [hD'] at ⊢
      replace hD' := Lib.hid hD'
      clear hO5 hS5 hb5 bx hs5 hBx5
      have hb7 := below_trans hb2 hb6
      have hBx6 := hBx.keep (hb6.block _ hBx.lt)
      have hg0 := hBx6.1.frozen 0
      have hg1 := hBx6.1.frozen 1
      have hg2 := hBx6.1.frozen 2
      obtain ⟨q0, q1, q2⟩ := hq
      obtain ⟨_, d0, d1, d2⟩ := id hBx6
      by_cases he : r.1 = 0
      · have hs2 : doneS Y x = r.2 := by unfold doneS; rw [hrd.out, if_pos he]
        have hN := hD.next hBw hb6 hO6 hS6
        have het : (r.1 == 0) = true := by simp [he]
        replace he := Lib.hid he
        replace hs2 := Lib.hid hs2
        replace hN := Lib.hid hN
        replace hS6 := Lib.hid hS6
        go_wp2_with fail
        go_roundw
        case rel => exact ⟨k + 1, by omega, by go_num, by rw [hsu.out, hs2.out]; exact hN.out, set3_below hb7 hl2⟩
        case measure => simp [intOf]; omega
      · have hs2 : doneS Y x = Y := by unfold doneS; rw [hrd.out, if_neg he]
        have hN := hD.trans hb6
        have het : (r.1 == 0) = false := by simpa using he
        replace he := Lib.hid he
        replace hs2 := Lib.hid hs2
        replace hN := Lib.hid hN
        replace hS6 := Lib.hid hS6
        go_wp2_with fail
        go_roundw
        case rel => exact ⟨k + 1, by omega, by go_num, by rw [hsu.out, hs2.out]; exact hN.out, hb7⟩
        case measure => simp [intOf]; omega
    · obtain rfl : k = acts.length := by omega
      rw [List.take_length] at hD hO hBx
      have hlR := hRx.lt
      obtain ⟨hf0, hf1, hf2, z0, z1, z2⟩ := hRx.all
      obtain ⟨_, o0, o1, o2⟩ := id hBx
      generalize doneF X0 acts = Y at *
      obtain ⟨f0, f1, f2⟩ := hRx.put3 (.slice ga Y.groups.length gcap) (.slice na Y.nodes.length ncap) (.slice wa Y.wires.length wcap)
      clear hD
      go_wp2_with ((with_reducible refine bodyPost_ret (v := .tuple #[.agg #[.slice ga Y.groups.length gcap, .slice na Y.nodes.length ncap, .slice wa Y.wires.length wcap], .int .i64 acts.length, .int .i64 0]) ?_ rfl ?_); (focus (simp [results, Tryz.f15]; go_simp)))
      rw [← hP.out]
      refine ⟨_, _, _, S, rfl, hO.keep (fun c hc => ?_), fun c hc => ?_, set3_below hbw (by omega)⟩
      · have h := (hS.out c hc).1
        rw [set3_blk (by show c ≠ w.heap.size; omega)]
      · have h := hS.out c hc
        rw [set3_size]
        exact ⟨by omega, h.2.1⟩
end Go.Proofs.YtnalakhelicjcaaGreat
