/-
  CauseTrue: nothing comes ahead of itself; what comes ahead has the lesser stamp; of one sender each is ahead of all that he sends later.
-/
import Derived.Test.YtnalakhelicjcaaYCbg
import Derived.Test.YtnalakhelicjcaaYChs
set_option maxRecDepth 100000
namespace Go.Proofs.Ytnalakhelicjcaa
open Go.RowKit Go.Shelf Go.BigFrame

theorem markF_ok {nodes : Int} {gs : List Int} {acts : List Ac} (h : (markF nodes gs acts).1 = 0) : ∃ s q, Both s q ∧ markF nodes gs acts = (0, s.sent, s.rows) ∧ s.sent.length ≤ 80 := by
  unfold markF at h ⊢
  split at h
  · rename_i h0
    rw [if_pos h0]
    obtain ⟨n, rfl⟩ := Int.eq_ofNat_of_zero_le (show 0 ≤ nodes by have := gErr_small h0; omega)
    split at h
    · exact absurd h (by decide)
    · rename_i h1
      rw [if_neg h1, Int.toNat_natCast]
      refine ⟨_, _, mark_both h0 acts, rfl, ?_⟩
      have := Sc.run_len acts (Sc.begin (beginX n gs))
      have h2 : (Sc.begin (beginX n gs)).sent.length = 0 := rfl
      unfold markS
      omega
  · rename_i h0
    exact absurd h h0
theorem Sc.rows_len (s : Sc) : s.rows.length = s.ahead.length := by unfold Sc.rows; rw [List.length_map]

set_option maxHeartbeats 4000000 in
theorem CauseTrue_walk_of (w : World) {nodes ci cj ck : Int} {gv av : Value} {gs : List Int} {acts : List Ac} (_hn64 : I64 nodes) (hg : Ints w gv gs) (ha : Acts w av acts) (hi64 : I64 ci) (hj64 : I64 cj) (hk64 : I64 ck) :
    Calls Try.prog 3 #[.int .i64 nodes, gv, av, .int .i64 ci, .int .i64 cj, .int .i64 ck] w (GivesB (.bool true) w) := by
  have hM := Mark_c hg nodes ha
  have hOk := @markF_ok nodes gs acts
  obtain ⟨_, aa, acap, rfl, _⟩ := ha.form
  obtain ⟨_, ga, gcap, rfl, _⟩ := hg.open
  generalize markF nodes gs acts = r at *
  clear ha hg
  replace hOk := Lib.hid hOk
  go_enter Try.func3, Try.ntmps3
  go_wp2_with fail
  refine hM.mono ?_
  clear hM
  rintro e w1 ⟨sv, ov, rfl, hS1, hO1, b1⟩
  obtain ⟨_, sa, scap, rfl, _, _⟩ := id hS1.open
  obtain ⟨_, oa, ocap, rfl, _, _⟩ := Sl.open hO1
  by_cases h0 : r.1 = 0
  rotate_left
  · have q0 : (r.1 != 0) = true := by simpa using h0
    replace h0 := Lib.hid h0
    go_wp2_with fail
    refine (causeBegun_c _).mono ?_
    rintro e w2 ⟨rfl, b2⟩
    go_wp2_with fail
    go_ret
    exact ⟨ret_bool (by simp), below_trans b1 b2⟩
  obtain ⟨s, q, hB, rfl, hlen⟩ := hOk.out h0
  clear hOk h0
  have hrl : s.rows.length = s.sent.length := by rw [s.rows_len, hB.la]
  dsimp only at hS1 hO1 ⊢
  rw [hrl] at hO1 ⊢
  by_cases hz : s.sent.length = 0
  · have q0 : ((s.sent.length : Int) == 0) = true := by simpa using hz
    replace hz := Lib.hid hz
    go_wp2_with fail
    refine (causeBegun_c _).mono ?_
    rintro e w2 ⟨rfl, b2⟩
    go_wp2_with fail
    go_ret
    exact ⟨ret_bool (by simp), below_trans b1 b2⟩
  have q0 : ((s.sent.length : Int) == 0) = false := by simpa using hz
  have ha := chooseN_lt (c := ci) (n := s.sent.length) (by omega)
  have hb := chooseN_lt (c := cj) (n := s.sent.length) (by omega)
  have hc := chooseN_lt (c := ck) (n := s.sent.length) (by omega)
  have hC1 := choose_c w1 hi64 (n := s.sent.length) (by omega) (by omega)
  have hC2 := choose_c w1 hj64 (n := s.sent.length) (by omega) (by omega)
  have hC3 := choose_c w1 hk64 (n := s.sent.length) (by omega) (by omega)
  generalize chooseN ci s.sent.length = a at *
  generalize chooseN cj s.sent.length = b at *
  generalize chooseN ck s.sent.length = c at *
  go_wp2_with fail
  refine hC1.mono ?_
  rintro e w' ⟨rfl, h⟩; subst h
  go_wp2_with fail
  refine hC2.mono ?_
  rintro e w' ⟨rfl, h⟩; subst h
  go_wp2_with fail
  refine hC3.mono ?_
  rintro e w' ⟨rfl, h⟩; subst h
  clear hC1 hC2 hC3
  obtain ⟨b0, o0, c0, ua, e0, _, ra, hua⟩ := hO1.at (k := a) (by rw [hrl]; exact ha)
  rw [hrl] at e0
  cases e0
  obtain ⟨_, _, _, ub, e0, _, rb, hub⟩ := hO1.at (k := b) (by rw [hrl]; exact hb)
  rw [hrl] at e0
  cases e0
  obtain ⟨_, _, _, uc, e0, _, rc, huc⟩ := hO1.at (k := c) (by rw [hrl]; exact hc)
  rw [hrl] at e0
  cases e0
  rw [Sc.rows_at (by rw [hB.la]; exact ha)] at hua
  rw [Sc.rows_at (by rw [hB.la]; exact hb)] at hub
  rw [Sc.rows_at (by rw [hB.la]; exact hc)] at huc
  obtain ⟨b2, o2, c2, rfl, _, ya⟩ := hua.at (k := a) (by rw [rowS_len]; exact ha)
  obtain ⟨_, _, _, e0, _, yb⟩ := hua.at (k := b) (by rw [rowS_len]; exact hb)
  cases e0
  obtain ⟨_, _, _, e0, _, yc⟩ := hua.at (k := c) (by rw [rowS_len]; exact hc)
  cases e0
  obtain ⟨b3, o3, c3, rfl, _, zc⟩ := hub.at (k := c) (by rw [rowS_len]; exact hc)
  obtain ⟨_, a4, c4, rfl, _, _⟩ := Sl.open huc
  rw [rowS_len] at ra rb rc
  rw [rowS_at ha] at ya
  rw [rowS_at hb] at yb
  rw [rowS_at hc] at yc zc
  clear hua hub huc
  obtain ⟨_, _, _, e0, _, hcm⟩ := hS1.open
  cases e0
  obtain ⟨bm, om, rfl, hcc⟩ := hcm (by intro e; rw [e] at hz; exact hz rfl)
  obtain ⟨f0, _, f2, _, _⟩ := hcc a ha
  obtain ⟨g0, _, g2, _, _⟩ := hcc b hb
  clear hcc hcm
  have haa : s.ahead.getD a emptyS a = false := Bool.eq_false_iff.2 fun h => absurd (hB.low a a ha h) (Nat.lt_irrefl _)
  have hlw := hB.low a b ha
  have htr := hB.trb a b c ha
  have hst := hB.sta a b ha
  have how := hB.owa a b ha
  obtain ⟨vab, hab⟩ : ∃ v, s.ahead.getD a emptyS b = v := ⟨_, rfl⟩
  obtain ⟨vac, hac⟩ : ∃ v, s.ahead.getD a emptyS c = v := ⟨_, rfl⟩
  obtain ⟨vbc, hbc⟩ : ∃ v, s.ahead.getD b emptyS c = v := ⟨_, rfl⟩
  rw [haa] at ya
  rw [hab] at yb hlw htr hst how
  rw [hac] at yc htr
  rw [hbc] at zc htr
  generalize s.sent.getD a M.zero = ma at *
  generalize s.sent.getD b M.zero = mb at *
  have hfin : ma.src = mb.src → vab = decide (b < a) := fun e => by
    by_cases h : b < a
    · rw [decide_eq_true h]; exact how h e.symm
    · rw [decide_eq_false h]; exact Bool.eq_false_iff.2 fun h2 => h (hlw h2)
  have k1 : ∀ i : Nat, decide ((i : Int) < 0) = false := fun i => by simp
  have ka := k1 a
  have kb := k1 b
  have kc := k1 c
  have la : decide (s.sent.length ≤ a) = false := by simp; omega
  have lb : decide (s.sent.length ≤ b) = false := by simp; omega
  have lc : decide (s.sent.length ≤ c) = false := by simp; omega
  clear hB hlw how haa hab hac hbc k1
  replace hfin := Lib.hid hfin
  have b2' := b1
  cases hv : vab
  · subst hv
    clear htr hst
    go_wp2_with fail
    go_quiet (fail)
    go_wp2_with fail
    have bq := below_drewN w1 nq
    generalize w1.drewN nq = wq at *
    refine wp_region_N (fun _ => True) 0 28 rfl (by kernel_rfl) trivial (fun _ => ?_)
    refine N_one' (i := 0) (by kernel_rfl) rfl ?_
    go_wp2_with fail
    refine (causeBegun_c _).mono ?_
    rintro e w9 ⟨rfl, b9⟩
    go_wp2_with fail
    refine QK_normal ⟨fun _ => trivial, ?_⟩
    refine N_one' (i := 1) (by kernel_rfl) rfl ?_
    go_wp2_with fail
    refine QK_normal ⟨fun _ => trivial, ?_⟩
    have bz := below_trans bq (below_trans (below_drewN wq 1) b9)
    have f0 := (bz.cell (cell_lt f0)).trans f0
    have g0 := (bz.cell (cell_lt g0)).trans g0
    have ra := (bz.cell (cell_lt ra)).trans ra
    have yb := (bz.cell (cell_lt yb)).trans yb
    have bz := below_trans b1 bz
    clear bq b9
    by_cases hs : ma.src = mb.src
    · have qs : (ma.src != mb.src) = false := by simp [hs]
      have hd := (hfin.out hs).symm
      replace hs := Lib.hid hs
      refine N_quiet 2 26 rfl (by kernel_rfl) (by kernel_rfl) ?_
      simp only [List.drop_succ_cons, List.drop_zero]
      repeat (go_big_quiet_step (fail))
      refine wpQuiet_nil ?_
      intro _ hw'
      obtain ⟨nq, hw''⟩ := hw'
      subst hw''
      go_wp2_with fail
      go_ret
      exact ⟨ret_bool (by simp), below_trans bz (below_drewN _ _)⟩
    · have qs : (ma.src != mb.src) = true := by simpa using hs
      replace hs := Lib.hid hs
      refine N_quiet 2 26 rfl (by kernel_rfl) (by kernel_rfl) ?_
      simp only [List.drop_succ_cons, List.drop_zero]
      repeat (go_big_quiet_step (fail))
      refine wpQuiet_nil ?_
      intro _ hw'
      obtain ⟨nq, hw''⟩ := hw'
      subst hw''
      go_wp2_with fail
      go_ret
      exact ⟨ret_bool (by simp), below_trans bz (below_drewN _ _)⟩
  · subst hv
    have hlt := hst rfl
    have qst : decide (ma.stamp ≤ mb.stamp) = false := decide_eq_false (by omega)
    replace hlt := Lib.hid hlt
    cases hv : vbc
    · subst hv
      clear htr hst
      go_wp2_with fail
      go_quiet (fail)
      go_wp2_with fail
      have bq := below_drewN w1 nq
      generalize w1.drewN nq = wq at *
      refine wp_region_N (fun _ => True) 0 28 rfl (by kernel_rfl) trivial (fun _ => ?_)
      refine N_one' (i := 0) (by kernel_rfl) rfl ?_
      go_wp2_with fail
      refine (causeBegun_c _).mono ?_
      rintro e w9 ⟨rfl, b9⟩
      go_wp2_with fail
      refine QK_normal ⟨fun _ => trivial, ?_⟩
      refine N_one' (i := 1) (by kernel_rfl) rfl ?_
      go_wp2_with fail
      refine QK_normal ⟨fun _ => trivial, ?_⟩
      have bz := below_trans bq (below_trans (below_drewN wq 1) b9)
      have f0 := (bz.cell (cell_lt f0)).trans f0
      have g0 := (bz.cell (cell_lt g0)).trans g0
      have ra := (bz.cell (cell_lt ra)).trans ra
      have yb := (bz.cell (cell_lt yb)).trans yb
      have bz := below_trans b1 bz
      clear bq b9
      by_cases hs : ma.src = mb.src
      · have qs : (ma.src != mb.src) = false := by simp [hs]
        have hd := (hfin.out hs).symm
        replace hs := Lib.hid hs
        refine N_quiet 2 26 rfl (by kernel_rfl) (by kernel_rfl) ?_
        simp only [List.drop_succ_cons, List.drop_zero]
        repeat (go_big_quiet_step (fail))
        refine wpQuiet_nil ?_
        intro _ hw'
        obtain ⟨nq, hw''⟩ := hw'
        subst hw''
        go_wp2_with fail
        go_ret
        exact ⟨ret_bool (by simp), below_trans bz (below_drewN _ _)⟩
      · have qs : (ma.src != mb.src) = true := by simpa using hs
        replace hs := Lib.hid hs
        refine N_quiet 2 26 rfl (by kernel_rfl) (by kernel_rfl) ?_
        simp only [List.drop_succ_cons, List.drop_zero]
        repeat (go_big_quiet_step (fail))
        refine wpQuiet_nil ?_
        intro _ hw'
        obtain ⟨nq, hw''⟩ := hw'
        subst hw''
        go_wp2_with fail
        go_ret
        exact ⟨ret_bool (by simp), below_trans bz (below_drewN _ _)⟩
    · subst hv
      have hvac := htr rfl rfl
      subst hvac
      clear htr hst
      go_wp2_with fail
      go_quiet (fail)
      go_wp2_with fail
      have bq := below_drewN w1 nq
      generalize w1.drewN nq = wq at *
      refine wp_region_N (fun _ => True) 0 28 rfl (by kernel_rfl) trivial (fun _ => ?_)
      refine N_one' (i := 0) (by kernel_rfl) rfl ?_
      go_wp2_with fail
      refine (causeBegun_c _).mono ?_
      rintro e w9 ⟨rfl, b9⟩
      go_wp2_with fail
      refine QK_normal ⟨fun _ => trivial, ?_⟩
      refine N_one' (i := 1) (by kernel_rfl) rfl ?_
      go_wp2_with fail
      refine QK_normal ⟨fun _ => trivial, ?_⟩
      have bz := below_trans bq (below_trans (below_drewN wq 1) b9)
      have f0 := (bz.cell (cell_lt f0)).trans f0
      have g0 := (bz.cell (cell_lt g0)).trans g0
      have ra := (bz.cell (cell_lt ra)).trans ra
      have yb := (bz.cell (cell_lt yb)).trans yb
      have bz := below_trans b1 bz
      clear bq b9
      by_cases hs : ma.src = mb.src
      · have qs : (ma.src != mb.src) = false := by simp [hs]
        have hd := (hfin.out hs).symm
        replace hs := Lib.hid hs
        refine N_quiet 2 26 rfl (by kernel_rfl) (by kernel_rfl) ?_
        simp only [List.drop_succ_cons, List.drop_zero]
        repeat (go_big_quiet_step (fail))
        refine wpQuiet_nil ?_
        intro _ hw'
        obtain ⟨nq, hw''⟩ := hw'
        subst hw''
        go_wp2_with fail
        go_ret
        exact ⟨ret_bool (by simp), below_trans bz (below_drewN _ _)⟩
      · have qs : (ma.src != mb.src) = true := by simpa using hs
        replace hs := Lib.hid hs
        refine N_quiet 2 26 rfl (by kernel_rfl) (by kernel_rfl) ?_
        simp only [List.drop_succ_cons, List.drop_zero]
        repeat (go_big_quiet_step (fail))
        refine wpQuiet_nil ?_
        intro _ hw'
        obtain ⟨nq, hw''⟩ := hw'
        subst hw''
        go_wp2_with fail
        go_ret
        exact ⟨ret_bool (by simp), below_trans bz (below_drewN _ _)⟩
end Go.Proofs.Ytnalakhelicjcaa
