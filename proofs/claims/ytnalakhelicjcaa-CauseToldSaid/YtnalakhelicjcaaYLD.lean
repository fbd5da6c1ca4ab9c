/-
  Acts are done from Begin on, as the laws do it.
-/
import Derived.Test.YtnalakhelicjcaaYLDo
import Derived.Test.YtnalakhelicjcaaYIz
import Derived.Test.YtnalakhelicjcaaYKS2
import Derived.Test.YtnalakhelicjcaaYKD
set_option maxRecDepth 100000
namespace Go.Proofs.Ytnalakhelicjcaa
open Go.RowKit Go.Shelf Go.BigFrame

/-- Are they done? -/
def doneB (nodes : Int) (gs : List Int) (acts : List Ac) : Bool := gErr nodes gs == 0 && decide (acts.length ≤ 80)
/-- What comes. -/
def doneX (nodes : Int) (gs : List Int) (acts : List Ac) : Wd := if doneB nodes gs acts = true then doneF (beginX nodes.toNat gs) acts else Wd.none
theorem doneB_iff {nodes : Int} {gs : List Int} {acts : List Ac} : doneB nodes gs acts = true ↔ gErr nodes gs = 0 ∧ acts.length ≤ 80 := by
  unfold doneB
  simp
theorem doneX_reach {nodes : Int} {gs : List Int} {acts : List Ac} (h : doneB nodes gs acts = true) : Reach (doneX nodes gs acts) ∧ ((doneX nodes gs acts).nodes.length : Int) = nodes ∧ (doneX nodes gs acts).groups = gs := by
  obtain ⟨h1, h2⟩ := doneB_iff.1 h
  have hs := gErr_small h1
  obtain ⟨n, rfl⟩ := Int.eq_ofNat_of_zero_le (show 0 ≤ nodes by omega)
  unfold doneX
  rw [if_pos h, Int.toNat_natCast]
  obtain ⟨r, hL⟩ := doneF_reach h1 h2
  exact ⟨r, by rw [hL.len, begin_len.1], by rw [hL.groups, begin_len.2.2]⟩
/-- What is handed back: a world of the call's own, and whether it is one. -/
def DPost (w : World) (X : Wd) (b : Bool) (e : Ending) (w' : World) : Prop :=
  ∃ (gv nv wv : Value) (S : Nat → Prop), e = .returned (.tuple #[.agg #[gv, nv, wv], .bool b]) ∧ OWd false w' S gv nv wv X ∧ (∀ b, S b → w.heap.size ≤ b ∧ b < w'.heap.size) ∧ Below w.heap.size w w'

set_option maxHeartbeats 4000000 in
theorem done_c {w : World} {gv av : Value} {gs : List Int} {acts : List Ac} (hg : Ints w gv gs) (nodes : Int) (ha : Acts w av acts) :
    Calls Try.prog 10 #[.int .i64 nodes, gv, av] w (DPost w (doneX nodes gs acts) (doneB nodes gs acts)) := by
  obtain ⟨hal, aa, acap, rfl, hac⟩ := ha.form
  obtain ⟨hgl, ga, gcap, rfl, _⟩ := hg.open
  have hA := below_a1 w (.cells #[.slice none 0 0, .slice none 0 0, .slice none 0 0] 40)
  have hRb := OBox.new w 40 (.slice none 0 0) (.slice none 0 0) (.slice none 0 0)
  have hsA : (w.alloc (.cells #[.slice none 0 0, .slice none 0 0, .slice none 0 0] 40)).heap.size = w.heap.size + 1 := World.size_alloc _ _
  have hB := fun o (h : Below w.heap.size w o) => Begin_c (hg.below h) nodes
  have hGE := fun o (h : Below w.heap.size w o) => GroupsError_c (hg.below h) nodes
  obtain ⟨P, hP⟩ : ∃ P, DPost w (doneX nodes gs acts) (doneB nodes gs acts) = P := ⟨_, rfl⟩
  rw [hP]
  have hDB : doneB nodes gs acts = (gErr nodes gs == 0 && decide (acts.length ≤ 80)) := rfl
  have hDR := fun h => doneX_reach (nodes := nodes) (gs := gs) (acts := acts) h
  have hDX : doneX nodes gs acts = if doneB nodes gs acts = true then doneF (beginX nodes.toNat gs) acts else Wd.none := rfl
  have hSu := Lib.hid (fun k (hk : k < acts.length) => doneF_succ (X := beginX nodes.toNat gs) hk)
  generalize doneB nodes gs acts = db at *
  generalize doneX nodes gs acts = DX at *
  have hBf : beginF nodes gs = if gErr nodes gs = 0 then (0, beginX nodes.toNat gs) else (gErr nodes gs, Wd.none) := rfl
  obtain ⟨r, hr⟩ : ∃ r, beginF nodes gs = r := ⟨_, rfl⟩
  rw [hr] at hBf
  simp only [hr] at hB
  obtain ⟨e0, he0⟩ : ∃ e0, gErr nodes gs = e0 := ⟨_, rfl⟩
  rw [he0] at hBf hDB
  simp only [he0] at hGE
  clear hr he0
  replace hP := Lib.hid hP
  replace hDR := Lib.hid hDR
  replace hGE := Lib.hid hGE
  go_enter Try.func10, Try.ntmps10
  go_upto_region 1 with fail
  generalize w.alloc (.cells #[.slice none 0 0, .slice none 0 0, .slice none 0 0] 40) = wA at *
  replace hB := hB wA hA
  by_cases hz : e0 = 0
  rotate_left
  · rw [if_neg hz] at hBf
    subst hBf
    have hdb : db = false := by rw [hDB]; simp [hz]
    subst hdb
    have hX : DX = Wd.none := hDX
    subst hX
    have hne : (e0 != 0) = true := by simpa using hz
    replace hz := Lib.hid hz
    replace hDB := Lib.hid hDB
    clear hDX hSu
    go_wp2_with fail
    refine hB.mono ?_
    rintro e w1 ⟨gv1, nv1, wv1, S1, rfl, hO1, hS1, b1⟩
    obtain ⟨pg, pn, pw⟩ := hO1.parts
    obtain ⟨_, ga1, gcap1, rfl, _⟩ := pg.open
    obtain ⟨_, na1, ncap1, rfl, _⟩ := pn.form
    obtain ⟨_, wa1, wcap1, rfl, _⟩ := pw.form
    clear pg pn pw
    have b2 := below_trans b1 (below_a1 w1 (.cells #[.slice ga1 Wd.none.groups.length gcap1, .slice na1 Wd.none.nodes.length ncap1, .slice wa1 Wd.none.wires.length wcap1] 40))
    have hR2 := hRb.keep (b2.block _ hRb.lt)
    have hA2 := below_trans hA b2
    go_upto_region 2 with fail
    generalize w1.alloc (.cells #[.slice ga1 Wd.none.groups.length gcap1, .slice na1 Wd.none.nodes.length ncap1, .slice wa1 Wd.none.wires.length wcap1] 40) = wB at *
    obtain ⟨hf0, hf1, hf2, z0, z1, z2⟩ := hR2.all
    obtain ⟨f0, f1, f2⟩ := hR2.put3 (.slice none 0 0) (.slice none 0 0) (.slice none 0 0)
    clear hRb hA hsA hO1 hS1 b1 b2 hB
    go_wp2_with ((with_reducible refine bodyPost_ret (v := .tuple #[.agg #[.slice none 0 0, .slice none 0 0, .slice none 0 0], .bool false]) ?_ rfl ?_); (focus (simp [results, Try.f10]; go_simp)))
    rw [← hP.out]
    exact ⟨_, _, _, fun _ => False, rfl, OWd.empty _ _ _, fun _ h => h.elim, set3_below hA2 (by omega)⟩
  rw [if_pos hz] at hBf
  subst hz hBf
  obtain ⟨X0, hX0⟩ : ∃ X0, beginX nodes.toNat gs = X0 := ⟨_, rfl⟩
  rw [hX0] at hDX hB
  simp only [hX0] at hSu
  clear hX0
  go_wp2_with fail
  refine hB.mono ?_
  rintro e w1 ⟨gv1, nv1, wv1, S1, rfl, hO1, hS1, b1⟩
  obtain ⟨pg, pn, pw⟩ := hO1.parts
  obtain ⟨_, ga1, gcap1, rfl, _⟩ := pg.open
  obtain ⟨_, na1, ncap1, rfl, _⟩ := pn.form
  obtain ⟨_, wa1, wcap1, rfl, _⟩ := pw.form
  clear pg pn pw
  have b2 := below_trans b1 (below_a1 w1 (.cells #[.slice ga1 X0.groups.length gcap1, .slice na1 X0.nodes.length ncap1, .slice wa1 X0.wires.length wcap1] 40))
  have hs1 := b1.size
  have hR2 := hRb.keep (b2.block _ hRb.lt)
  have hA2 := below_trans hA b2
  have hD0 : DoneR w (w1.alloc (.cells #[.slice ga1 X0.groups.length gcap1, .slice na1 X0.nodes.length ncap1, .slice wa1 X0.wires.length wcap1] 40)) w1.heap.size X0 :=
    ⟨_, _, _, S1, hO1.keep (fun c hc => Go.Deep.blk_alloc_lt _ _ _ (hS1 c hc).2), OBox.new w1 _ _ _ _, hR2, hA2, fun c hc => by have := hS1 c hc; rw [World.size_alloc]; omega⟩
  have hBw : w.heap.size < w1.heap.size := by omega
  obtain ⟨B, hB'⟩ : ∃ B, w1.heap.size = B := ⟨_, rfl⟩
  have hGE2 := hGE.out _ hA2
  go_upto_region 2 with fail
  rw [hB'] at hD0 hBw
  replace hB' := Lib.hid hB'
  generalize w1.alloc (.cells #[.slice ga1 X0.groups.length gcap1, .slice na1 X0.nodes.length ncap1, .slice wa1 X0.wires.length wcap1] 40) = wB at *
  clear hO1 hS1 b1 b2 hs1 hRb hA hsA hB hGE
  by_cases h80 : acts.length ≤ 80
  rotate_left
  · have hdb : db = false := by rw [hDB]; simp; omega
    subst hdb
    have hX : DX = Wd.none := hDX
    subst hX
    have h81 : (80 : Int) < (acts.length : Int) := by omega
    replace hDB := Lib.hid hDB
    clear hDX hSu hD0
    replace h80 := Lib.hid h80
    go_wp2_with fail
    refine hGE2.mono ?_
    rintro e w3 ⟨rfl, d3⟩
    have b3 := d3.below
    clear d3
    have hR3 := hR2.keep (b3.block _ hR2.lt)
    have hA3 := below_trans hA2 b3
    obtain ⟨hf0, hf1, hf2, z0, z1, z2⟩ := hR3.all
    obtain ⟨f0, f1, f2⟩ := hR3.put3 (.slice none 0 0) (.slice none 0 0) (.slice none 0 0)
    go_wp2_with ((with_reducible refine bodyPost_ret (v := .tuple #[.agg #[.slice none 0 0, .slice none 0 0, .slice none 0 0], .bool false]) ?_ rfl ?_); (focus (simp [results, Try.f10]; go_simp)))
    rw [← hP.out]
    exact ⟨_, _, _, fun _ => False, rfl, OWd.empty _ _ _, fun _ h => h.elim, set3_below hA3 (by omega)⟩
  have hdb : db = true := by rw [hDB]; simp [h80]
  subst hdb
  rw [if_pos rfl] at hDX
  replace hDB := Lib.hid hDB
  replace hDX := Lib.hid hDX
  have h81 : (acts.length : Int) ≤ 80 := by omega
  clear hR2
  go_wp2_with fail
  refine hGE2.mono ?_
  rintro e w3 ⟨rfl, d3⟩
  have hD := hD0.trans d3.below
  clear hD0 hGE2 d3 hA2
  go_wp2_with fail
  go_loopw [10] (fun i wr => ∃ k : Nat, k ≤ acts.length ∧ i = .int .i64 k ∧ DoneR w wr B (doneF X0 (acts.take k))) (fun i _ => acts.length - (intOf i).toNat)
  case atStart => exact ⟨0, by omega, rfl, hD⟩
  case round =>
    clear hD
    obtain ⟨k, hk, rfl, hD⟩ := hrel
    obtain ⟨gv, nv, wv, S, hO, hBx, hRx, hbw, hS⟩ := id hD
    obtain ⟨pg, pn, pw⟩ := hO.parts
    obtain ⟨_, ga, gcap, rfl, _⟩ := pg.open
    obtain ⟨_, na, ncap, rfl, _⟩ := pn.form
    obtain ⟨_, wa, wcap, rfl, _⟩ := pw.form
    clear pg pn pw
    replace hS := Lib.hid hS
    by_cases hlt : k < acts.length
    · obtain ⟨ab, ao, acap', e, _, hbox, hfit⟩ := (ha.below hbw).at hlt
      cases e
      obtain ⟨x, hx⟩ : ∃ x, acts.getD k Ac.zero = x := ⟨_, rfl⟩
      have hsu := hSu.out k hlt
      rw [hx] at hbox hfit hsu
      clear hx
      have hDo := fun o (h : Below wr.heap.size wr o) => Do_c (hO.world.below h) hfit
      generalize doneF X0 (acts.take k) = Y at *
      unfold Ac.val at hDo
      replace hsu := Lib.hid hsu
      obtain ⟨r, hrd⟩ : ∃ r, doF Y x = r := ⟨_, rfl⟩
      rw [hrd] at hDo
      replace hrd := Lib.hid hrd
      obtain ⟨a0, a1, a2, a3⟩ := hbox
      obtain ⟨_, o0, o1, o2⟩ := id hBx
      have hab := cell_lt a0
      have hlB := cell_lt o0
      dsimp only at hab hlB
      have hSB : ∀ w', Below wr.heap.size wr w' → w'.cell? ⟨B, 0, none⟩ = some (.slice ga Y.groups.length gcap) ∧ w'.cell? ⟨B, 1, none⟩ = some (.slice na Y.nodes.length ncap) ∧ w'.cell? ⟨B, 2, none⟩ = some (.slice wa Y.wires.length wcap) ∧ w'.cell? ⟨ab, ao + k * 4, none⟩ = some (.int .i64 x.kind) ∧ w'.cell? ⟨ab, ao + k * 4 + 1, none⟩ = some (.int .i64 x.one) ∧ w'.cell? ⟨ab, ao + k * 4 + 2, none⟩ = some (.int .i64 x.two) ∧ w'.cell? ⟨ab, ao + k * 4 + 3, none⟩ = some (.string x.body) :=
        fun w' h => ⟨(h.cell (p := ⟨B, 0, none⟩) hlB).trans o0, (h.cell (p := ⟨B, 1, none⟩) hlB).trans o1, (h.cell (p := ⟨B, 2, none⟩) hlB).trans o2, (h.cell (p := ⟨ab, ao + k * 4, none⟩) hab).trans a0, (h.cell (p := ⟨ab, ao + k * 4 + 1, none⟩) hab).trans a1, (h.cell (p := ⟨ab, ao + k * 4 + 2, none⟩) hab).trans a2, (h.cell (p := ⟨ab, ao + k * 4 + 3, none⟩) hab).trans a3⟩
      replace hSB := Lib.hid hSB
      replace hDo := Lib.hid hDo
      have hbd : Below wr.heap.size wr wr.drew := below_drew (Below.refl _ wr)
      replace hbd := Lib.hid hbd
      go_upto_region 7 with fail
      refine wp_region_N (fun w' => w'.cell? ⟨B, 0, none⟩ = some (.slice ga Y.groups.length gcap) ∧ w'.cell? ⟨B, 1, none⟩ = some (.slice na Y.nodes.length ncap) ∧ w'.cell? ⟨B, 2, none⟩ = some (.slice wa Y.wires.length wcap) ∧ w'.cell? ⟨ab, ao + k * 4, none⟩ = some (.int .i64 x.kind) ∧ w'.cell? ⟨ab, ao + k * 4 + 1, none⟩ = some (.int .i64 x.one) ∧ w'.cell? ⟨ab, ao + k * 4 + 2, none⟩ = some (.int .i64 x.two) ∧ w'.cell? ⟨ab, ao + k * 4 + 3, none⟩ = some (.string x.body)) 11 12 rfl (by kernel_rfl) (hSB.out _ hbd.out) (fun hSw => ?_)
      refine tk 0 ?_ rfl rfl (by kernel_rfl) (.inl ⟨by rfl, ?_⟩) hSw ?_
      rotate_left
      · rintro w ⟨hsw1, hsw2, hsw3, hsw4, hsw5, hsw6, hsw7⟩; go_simp; try with_reducible rfl
      simp only [tkp, tkz, tks]
      refine tk 1 ?_ rfl rfl (by kernel_rfl) (.inl ⟨by rfl, ?_⟩) hSw ?_
      rotate_left
      · rintro w ⟨hsw1, hsw2, hsw3, hsw4, hsw5, hsw6, hsw7⟩; go_simp; try with_reducible rfl
      simp only [tkp, tkz, tks]
      refine tk 2 ?_ rfl rfl (by kernel_rfl) (.inl ⟨by rfl, ?_⟩) hSw ?_
      rotate_left
      · rintro w ⟨hsw1, hsw2, hsw3, hsw4, hsw5, hsw6, hsw7⟩; go_simp; try with_reducible rfl
      simp only [tkp, tkz, tks]
      refine tk 3 ?_ rfl rfl (by kernel_rfl) (.inl ⟨by rfl, ?_⟩) hSw ?_
      rotate_left
      · rintro w ⟨hsw1, hsw2, hsw3, hsw4, hsw5, hsw6, hsw7⟩; go_simp; try with_reducible rfl
      simp only [tkp, tkz, tks]
      refine tk 4 ?_ rfl rfl (by kernel_rfl) (.inl ⟨by rfl, ?_⟩) hSw ?_
      rotate_left
      · rintro w ⟨hsw1, hsw2, hsw3, hsw4, hsw5, hsw6, hsw7⟩; go_simp; try with_reducible rfl
      simp only [tkp, tkz, tks]
      refine N_two' (i := 5) (j := 9) (by kernel_rfl) rfl rfl ?_ ?_
      · go_wp2_with fail
        refine (hDo.out _ hbd.out).mono ?_
        rintro e w5 ⟨gv5, nv5, wv5, S5, rfl, hO5, hS5, hb5⟩
        replace hb5 := hbd.out.trans hb5
        obtain ⟨pg, pn, pw⟩ := hO5.parts
        obtain ⟨_, ga5, gcap5, rfl, _⟩ := pg.open
        obtain ⟨_, na5, ncap5, rfl, _⟩ := pn.form
        obtain ⟨_, wa5, wcap5, rfl, _⟩ := pw.form
        clear pg pn pw
        replace hS5 := Lib.hid hS5
        go_wp2_with fail
        have hSw5 := hSB.out w5 hb5
        refine QK_normal ⟨?_, ?_⟩
        · first | exact fun _ => hSw5 | exact hSw5
        refine tk 6 ?_ rfl rfl (by kernel_rfl) (.inl ⟨by rfl, ?_⟩) hSw5 ?_
        rotate_left
        · rintro w ⟨hsw1, hsw2, hsw3, hsw4, hsw5, hsw6, hsw7⟩; go_simp; try with_reducible rfl
        simp only [tkp, tkz, tks]
        refine tk 7 ?_ rfl rfl (by kernel_rfl) (.inl ⟨by rfl, ?_⟩) hSw5 ?_
        rotate_left
        · rintro w ⟨hsw1, hsw2, hsw3, hsw4, hsw5, hsw6, hsw7⟩; go_simp; try with_reducible rfl
        simp only [tkp, tkz, tks]
        refine tk 8 ?_ rfl rfl (by kernel_rfl) (.inl ⟨by rfl, ?_⟩) hSw5 ?_
        rotate_left
        · rintro w ⟨hsw1, hsw2, hsw3, hsw4, hsw5, hsw6, hsw7⟩; go_simp; try with_reducible rfl
        simp only [tkp, tkz, tks]
        refine N_one' (i := 9) (by kernel_rfl) rfl ?_
        go_wp2_with fail
        have hSw6 := hSB.out _ (below_trans hb5 (below_a1 w5 (.cells #[.slice none 0 0, .slice none 0 0, .slice none 0 0] 40)))
        refine QK_normal ⟨?_, ?_⟩
        · first | exact fun _ => hSw6 | exact hSw6
        refine N_one' (i := 10) (by kernel_rfl) rfl ?_
        have hF := ((OBox.new w5 40 (.slice none 0 0) (.slice none 0 0) (.slice none 0 0)))
        have hf0 := hF.1.frozen 0
        have hf1 := hF.1.frozen 1
        have hf2 := hF.1.frozen 2
        go_wp2_with fail
        have hb6 := below_trans hb5 (below_a1 w5 (.cells #[.slice ga5 r.2.groups.length gcap5, .slice na5 r.2.nodes.length ncap5, .slice wa5 r.2.wires.length wcap5] 40))
        have hq := WBox.new w5 (.slice ga5 r.2.groups.length gcap5) (.slice na5 r.2.nodes.length ncap5) (.slice wa5 r.2.wires.length wcap5) 40
        have hO6 := hO5.keep (w' := w5.alloc (.cells #[.slice ga5 r.2.groups.length gcap5, .slice na5 r.2.nodes.length ncap5, .slice wa5 r.2.wires.length wcap5] 40)) (fun c hc => Go.Deep.blk_alloc_lt _ _ _ (hS5.out c hc).2)
        have hS6 : ∀ c, S5 c → wr.heap.size ≤ c ∧ c < (w5.alloc (.cells #[.slice ga5 r.2.groups.length gcap5, .slice na5 r.2.nodes.length ncap5, .slice wa5 r.2.wires.length wcap5] 40)).heap.size := fun c hc => by have h := hS5.out c hc; rw [World.size_alloc]; exact ⟨h.1, by omega⟩
        have hSw7 := hSB.out _ hb6
        refine QK_normal ⟨?_, ?_⟩
        · first | exact fun _ => hSw7 | exact hSw7
        clear hF hf0 hf1 hf2 hSw5 hSw6 hSw7 hSw hO5 hb5
        refine N_rest 11 1 (Nat.le_refl _) rfl (by kernel_rfl) ?_
        simp only [List.drop_succ_cons, List.drop_zero]
        generalize w5.alloc (.cells #[.slice ga5 r.2.groups.length gcap5, .slice na5 r.2.nodes.length ncap5, .slice wa5 r.2.wires.length wcap5] 40) = w6 at *
        go_upto_region 8 with fail
        have hBx6 := hBx.keep (hb6.block _ hBx.lt)
        have hg0 := hBx6.1.frozen 0
        have hg1 := hBx6.1.frozen 1
        have hg2 := hBx6.1.frozen 2
        obtain ⟨q0, q1, q2⟩ := hq
        obtain ⟨_, d0, d1, d2⟩ := id hBx6
        by_cases he : r.1 = 0
        · have hs2 : doneS Y x = r.2 := by unfold doneS; rw [hrd.out, if_pos he]
          have hN := hD.next hBw hb6 hO6 hS6
          have het : (r.1 == 0) = true := by simp [he]
          replace he := Lib.hid he
          replace hs2 := Lib.hid hs2
          replace hN := Lib.hid hN
          replace hS6 := Lib.hid hS6
          go_wp2_with fail
          go_roundw
          case rel => exact ⟨k + 1, by omega, by go_num, by rw [hsu.out, hs2.out]; exact hN.out⟩
          case measure => simp [intOf]; omega
        · have hs2 : doneS Y x = Y := by unfold doneS; rw [hrd.out, if_neg he]
          have hN := hD.trans hb6
          have het : (r.1 == 0) = false := by simpa using he
          replace he := Lib.hid he
          replace hs2 := Lib.hid hs2
          replace hN := Lib.hid hN
          replace hS6 := Lib.hid hS6
          go_wp2_with fail
          go_roundw
          case rel => exact ⟨k + 1, by omega, by go_num, by rw [hsu.out, hs2.out]; exact hN.out⟩
          case measure => simp [intOf]; omega
      · go_wp2_with fail
        have hbn : Below wr.heap.size wr ((wr.alloc (.cells #[.slice none 0 0, .slice none 0 0, .slice none 0 0] 40)).drew) := below_drew (below_a1 wr _)
        have hSw4 := hSB.out _ hbn
        refine QK_normal ⟨?_, ?_⟩
        · first | exact fun _ => hSw4 | exact hSw4
        refine N_one' (i := 5) (by kernel_rfl) rfl ?_
        have hCb : OBox ((wr.alloc (.cells #[.slice none 0 0, .slice none 0 0, .slice none 0 0] 40)).drew) wr.heap.size 40 (.slice none 0 0) (.slice none 0 0) (.slice none 0 0) := OBox.new wr _ _ _ _
        go_wp2_with fail
        refine (hDo.out _ hbn).mono ?_
        rintro e w5 ⟨gv5, nv5, wv5, S5, rfl, hO5, hS5, hb5⟩
        obtain ⟨pg, pn, pw⟩ := hO5.parts
        obtain ⟨_, ga5, gcap5, rfl, _⟩ := pg.open
        obtain ⟨_, na5, ncap5, rfl, _⟩ := pn.form
        obtain ⟨_, wa5, wcap5, rfl, _⟩ := pw.form
        clear pg pn pw
        have hC5 := hCb.keep (hb5.block _ hCb.lt)
        have hS5' : ∀ c, S5 c → wr.heap.size < c ∧ c < w5.heap.size := fun c hc => by
          have h := hS5 c hc
          have h2 : ((wr.alloc (.cells #[.slice none 0 0, .slice none 0 0, .slice none 0 0] 40)).drew).heap.size = wr.heap.size + 1 := World.size_alloc _ _
          rw [h2] at h
          exact ⟨h.1, h.2⟩
        replace hb5 := below_trans hbn hb5
        clear hS5 hCb
        replace hS5' := Lib.hid hS5'
        go_wp2_with fail
        have hSw5 := hSB.out w5 hb5
        refine QK_normal ⟨?_, ?_⟩
        · first | exact fun _ => hSw5 | exact hSw5
        refine tk 6 ?_ rfl rfl (by kernel_rfl) (.inl ⟨by rfl, ?_⟩) hSw5 ?_
        rotate_left
        · rintro w ⟨hsw1, hsw2, hsw3, hsw4, hsw5, hsw6, hsw7⟩; go_simp; try with_reducible rfl
        simp only [tkp, tkz, tks]
        refine tk 7 ?_ rfl rfl (by kernel_rfl) (.inl ⟨by rfl, ?_⟩) hSw5 ?_
        rotate_left
        · rintro w ⟨hsw1, hsw2, hsw3, hsw4, hsw5, hsw6, hsw7⟩; go_simp; try with_reducible rfl
        simp only [tkp, tkz, tks]
        refine tk 8 ?_ rfl rfl (by kernel_rfl) (.inl ⟨by rfl, ?_⟩) hSw5 ?_
        rotate_left
        · rintro w ⟨hsw1, hsw2, hsw3, hsw4, hsw5, hsw6, hsw7⟩; go_simp; try with_reducible rfl
        simp only [tkp, tkz, tks]
        refine N_one' (i := 10) (by kernel_rfl) rfl ?_
        obtain ⟨_, y0, y1, y2⟩ := id hC5
        have hf0 := hC5.1.frozen 0
        have hf1 := hC5.1.frozen 1
        have hf2 := hC5.1.frozen 2
        go_wp2_with fail
        have hwk : ∀ c, c ≠ wr.heap.size → (((w5.setCell ⟨wr.heap.size, 0, none⟩ (.slice ga5 r.2.groups.length gcap5)).setCell ⟨wr.heap.size, 1, none⟩ (.slice na5 r.2.nodes.length ncap5)).setCell ⟨wr.heap.size, 2, none⟩ (.slice wa5 r.2.wires.length wcap5)).heap[c]? = w5.heap[c]? := fun c hc => by
          rw [set3_blk (by show c ≠ wr.heap.size; exact hc)]
        have hb6 : Below wr.heap.size wr (((w5.setCell ⟨wr.heap.size, 0, none⟩ (.slice ga5 r.2.groups.length gcap5)).setCell ⟨wr.heap.size, 1, none⟩ (.slice na5 r.2.nodes.length ncap5)).setCell ⟨wr.heap.size, 2, none⟩ (.slice wa5 r.2.wires.length wcap5)) :=
          set3_below hb5 (by omega)
        have hq := (((hC5.set0 (.slice ga5 r.2.groups.length gcap5)).set1 (.slice na5 r.2.nodes.length ncap5)).set2 (.slice wa5 r.2.wires.length wcap5)).2
        have hO6 := hO5.keep (w' := (((w5.setCell ⟨wr.heap.size, 0, none⟩ (.slice ga5 r.2.groups.length gcap5)).setCell ⟨wr.heap.size, 1, none⟩ (.slice na5 r.2.nodes.length ncap5)).setCell ⟨wr.heap.size, 2, none⟩ (.slice wa5 r.2.wires.length wcap5))) (fun c hc => hwk c (by have := hS5'.out c hc; omega))
        have hS6 : ∀ c, S5 c → wr.heap.size ≤ c ∧ c < (((w5.setCell ⟨wr.heap.size, 0, none⟩ (.slice ga5 r.2.groups.length gcap5)).setCell ⟨wr.heap.size, 1, none⟩ (.slice na5 r.2.nodes.length ncap5)).setCell ⟨wr.heap.size, 2, none⟩ (.slice wa5 r.2.wires.length wcap5)).heap.size := fun c hc => by
          have h := hS5'.out c hc
          rw [set3_size]
          exact ⟨by omega, h.2⟩
        have hSw7 := hSB.out _ hb6
        refine QK_normal ⟨?_, ?_⟩
        · first | exact fun _ => hSw7 | exact hSw7
        clear y0 y1 y2 hf0 hf1 hf2 hSw4 hSw5 hSw7 hSw hO5 hb5 hwk hC5 hbn
        refine N_rest 11 1 (Nat.le_refl _) rfl (by kernel_rfl) ?_
        simp only [List.drop_succ_cons, List.drop_zero]
        generalize (((w5.setCell ⟨wr.heap.size, 0, none⟩ (.slice ga5 r.2.groups.length gcap5)).setCell ⟨wr.heap.size, 1, none⟩ (.slice na5 r.2.nodes.length ncap5)).setCell ⟨wr.heap.size, 2, none⟩ (.slice wa5 r.2.wires.length wcap5)) = w6 at *
        go_upto_region 8 with fail
        have hBx6 := hBx.keep (hb6.block _ hBx.lt)
        have hg0 := hBx6.1.frozen 0
        have hg1 := hBx6.1.frozen 1
        have hg2 := hBx6.1.frozen 2
        obtain ⟨q0, q1, q2⟩ := hq
        obtain ⟨_, d0, d1, d2⟩ := id hBx6
        by_cases he : r.1 = 0
        · have hs2 : doneS Y x = r.2 := by unfold doneS; rw [hrd.out, if_pos he]
          have hN := hD.next hBw hb6 hO6 hS6
          have het : (r.1 == 0) = true := by simp [he]
          replace he := Lib.hid he
          replace hs2 := Lib.hid hs2
          replace hN := Lib.hid hN
          replace hS6 := Lib.hid hS6
          go_wp2_with fail
          go_roundw
          case rel => exact ⟨k + 1, by omega, by go_num, by rw [hsu.out, hs2.out]; exact hN.out⟩
          case measure => simp [intOf]; omega
        · have hs2 : doneS Y x = Y := by unfold doneS; rw [hrd.out, if_neg he]
          have hN := hD.trans hb6
          have het : (r.1 == 0) = false := by simpa using he
          replace he := Lib.hid he
          replace hs2 := Lib.hid hs2
          replace hN := Lib.hid hN
          replace hS6 := Lib.hid hS6
          go_wp2_with fail
          go_roundw
          case rel => exact ⟨k + 1, by omega, by go_num, by rw [hsu.out, hs2.out]; exact hN.out⟩
          case measure => simp [intOf]; omega
    · obtain rfl : k = acts.length := by omega
      rw [List.take_length] at hD hO hBx
      have hDR := hDR.out trivial
      rw [hDX.out] at hDR hP
      have hE := fun o (h : Below wr.heap.size wr o) => WorldError_c (hO.world.below h)
      generalize doneF X0 acts = Y at *
      obtain ⟨hrc, hnl, hgg⟩ := hDR
      have he0 := hrc.inv.right.err
      simp only [he0] at hE
      have hln : ((Y.nodes.length : Int) == nodes) = true := by simpa using hnl
      replace hnl := Lib.hid hnl
      replace he0 := Lib.hid he0
      replace hE := Lib.hid hE
      obtain ⟨_, o0, o1, o2⟩ := id hBx
      clear hD hrc hgg
      have hlB := hBx.lt
      have hlR := hRx.lt
      go_upto_region 10 with fail
      have hSB : ∀ W : World, W.heap[B]? = wr.heap[B]? → W.cell? ⟨B, 0, none⟩ = some (.slice ga Y.groups.length gcap) ∧ W.cell? ⟨B, 1, none⟩ = some (.slice na Y.nodes.length ncap) ∧ W.cell? ⟨B, 2, none⟩ = some (.slice wa Y.wires.length wcap) :=
        fun W h => ⟨(World.cell?_of_block (w := wr) (a := ⟨B, 0, none⟩) h).trans o0, (World.cell?_of_block (w := wr) (a := ⟨B, 1, none⟩) h).trans o1, (World.cell?_of_block (w := wr) (a := ⟨B, 2, none⟩) h).trans o2⟩
      refine wp_region_N (fun W => W.cell? ⟨B, 0, none⟩ = some (.slice ga Y.groups.length gcap) ∧ W.cell? ⟨B, 1, none⟩ = some (.slice na Y.nodes.length ncap) ∧ W.cell? ⟨B, 2, none⟩ = some (.slice wa Y.wires.length wcap)) 12 13 rfl (by kernel_rfl) (hSB _ rfl) (fun hSw => ?_)
      refine tk 0 ?_ rfl rfl (by kernel_rfl) (.inl ⟨by rfl, ?_⟩) hSw ?_
      rotate_left
      · rintro w ⟨s0, s1, s2⟩; go_simp; try with_reducible rfl
      simp only [tkp, tkz, tks]
      refine tk 1 ?_ rfl rfl (by kernel_rfl) (.inl ⟨by rfl, ?_⟩) hSw ?_
      rotate_left
      · rintro w ⟨s0, s1, s2⟩; go_simp; try with_reducible rfl
      simp only [tkp, tkz, tks]
      refine N_one' (i := 2) (by kernel_rfl) rfl ?_
      go_wp2_with fail
      refine (hE.out _ (below_drewN wr 1)).mono ?_
      rintro e w4 ⟨rfl, b4⟩
      have b4 := (below_drewN wr 1).trans b4
      have hSw4 := hSB w4 (b4.block _ hlB)
      go_wp2_with fail
      refine QK_normal ⟨?_, ?_⟩
      · first | exact fun _ => hSw4 | exact hSw4
      refine tk 3 ?_ rfl rfl (by kernel_rfl) (.inl ⟨by rfl, ?_⟩) hSw4 ?_
      rotate_left
      · rintro w ⟨s0, s1, s2⟩; go_simp; try with_reducible rfl
      simp only [tkp, tkz, tks]
      refine tk 4 ?_ rfl rfl (by kernel_rfl) (.inl ⟨by rfl, ?_⟩) hSw4 ?_
      rotate_left
      · rintro w ⟨s0, s1, s2⟩; go_simp; try with_reducible rfl
      simp only [tkp, tkz, tks]
      refine tk 5 ?_ rfl rfl (by kernel_rfl) (.inl ⟨by rfl, ?_⟩) hSw4 ?_
      rotate_left
      · rintro w ⟨s0, s1, s2⟩; go_simp; try with_reducible rfl
      simp only [tkp, tkz, tks]
      refine tk 6 ?_ rfl rfl (by kernel_rfl) (.inl ⟨by rfl, ?_⟩) hSw4 ?_
      rotate_left
      · rintro w ⟨s0, s1, s2⟩; go_simp; try with_reducible rfl
      simp only [tkp, tkz, tks]
      refine tk 7 ?_ rfl rfl (by kernel_rfl) (.inl ⟨by rfl, ?_⟩) hSw4 ?_
      rotate_left
      · rintro w ⟨s0, s1, s2⟩; go_simp; try with_reducible rfl
      simp only [tkp, tkz, tks]
      refine tk 8 ?_ rfl rfl (by kernel_rfl) (.inl ⟨by rfl, ?_⟩) hSw4 ?_
      rotate_left
      · rintro w ⟨s0, s1, s2⟩; go_simp; try with_reducible rfl
      simp only [tkp, tkz, tks]
      refine tk 9 ?_ rfl rfl (by kernel_rfl) (.inl ⟨by rfl, ?_⟩) hSw4 ?_
      rotate_left
      · rintro w ⟨s0, s1, s2⟩; go_simp; try with_reducible rfl
      simp only [tkp, tkz, tks]
      refine tk 10 ?_ rfl rfl (by kernel_rfl) (.inl ⟨by rfl, ?_⟩) hSw4 ?_
      rotate_left
      · rintro w ⟨s0, s1, s2⟩; go_simp; try with_reducible rfl
      simp only [tkp, tkz, tks]
      have hR4 := hRx.keep (b4.block _ hlR)
      obtain ⟨hf0, hf1, hf2, z0, z1, z2⟩ := hR4.all
      obtain ⟨f0, f1, f2⟩ := hR4.put3 (.slice ga Y.groups.length gcap) (.slice na Y.nodes.length ncap) (.slice wa Y.wires.length wcap)
      refine N_one' (i := 11) (by kernel_rfl) rfl ?_
      go_wp2_with fail
      have hSw5 := hSB (((w4.setCell ⟨w.heap.size, 0, none⟩ (.slice ga Y.groups.length gcap)).setCell ⟨w.heap.size, 1, none⟩ (.slice na Y.nodes.length ncap)).setCell ⟨w.heap.size, 2, none⟩ (.slice wa Y.wires.length wcap)) ((set3_blk (show B ≠ w.heap.size by omega)).trans (b4.block _ hlB))
      refine QK_normal ⟨?_, ?_⟩
      · first | exact fun _ => hSw5 | exact hSw5
      refine N_rest 12 1 (Nat.le_refl _) rfl (by kernel_rfl) ?_
      simp only [List.drop_succ_cons, List.drop_zero]
      clear hSw5 hSw4 hSw
      go_wp2_with ((with_reducible refine bodyPost_ret (v := .tuple #[.agg #[.slice ga Y.groups.length gcap, .slice na Y.nodes.length ncap, .slice wa Y.wires.length wcap], .bool true]) ?_ rfl ?_); (focus (simp [results, Try.f10]; go_simp)))
      rw [← hP.out]
      refine ⟨_, _, _, S, rfl, hO.keep (fun c hc => ?_), fun c hc => ?_, set3_below (below_trans hbw b4) (Nat.le_refl _)⟩
      · have h := hS.out c hc
        rw [set3_blk (by omega)]
        exact b4.block c h.2.1
      · have h := hS.out c hc
        rw [set3_size]
        have := b4.size
        exact ⟨by omega, by omega⟩
end Go.Proofs.Ytnalakhelicjcaa
