/-
  CalmAll: in a calm world each message was told to all members of its group, once, and to nobody else.
-/
import Derived.Test.YtgifclphigpnhaaGreatIa
import Derived.Test.YtgifclphigpnhaaGreatLD
import Derived.Test.YtgifclphigpnhaaGreatKCd
set_option maxRecDepth 100000
namespace Go.Proofs.YtgifclphigpnhaaGreat
open Go.RowKit Go.Shelf Go.BigFrame

theorem calm_all {Y : Wd} (i : Inv Y) {S : List M} (g : Gh Y S) (hE : Empty Y) (hH : ∀ j, j < Y.nodes.length → (nd Y j).held = []) {m : M} (hm : ∃ n, n < Y.nodes.length ∧ m ∈ (nd Y n).told) {n : Nat} (hn : n < Y.nodes.length) :
    (nd Y n).told.any (eqM m) = hasB Y.groups m.grp n := by
  rw [Bool.eq_iff_iff, List.any_eq_true]
  constructor
  · rintro ⟨x, hx, he⟩
    rw [eqM_iff] at he
    subst he
    exact (i.right.msg hn (Or.inr hx)).2.2
  · intro hh
    obtain ⟨a, ha, hma⟩ := hm
    rcases g.del m (g.onl a m ha (Or.inr hma)) (i.right.msg ha (Or.inr hma)).1 n hn hh with (h | h) | ⟨c, hc, _, _, h⟩
    · rw [hH n hn] at h; cases h
    · exact ⟨m, h, eqM_iff.2 rfl⟩
    · rw [hE c n hc hn] at h; cases h
theorem allF_len (X : Wd) : (allF X).2.length ≤ 160 := by
  unfold allF
  split
  · rename_i he
    have hR := right_of he
    split
    · rename_i l hl
      rw [← preL_end] at hl
      obtain ⟨h1, h2, _⟩ := allO_ok hl
      rw [preL_end] at h2
      exact Nat.le_trans h2 (toldL_len hR)
    · simp
  · simp
/-- How often a message stands there. -/
def cntM (l : List M) (m : M) : Nat := (l.filter fun x => eqM x m).length
theorem cntM_snoc {l : List M} {m : M} {k : Nat} (hk : k < l.length) : cntM (l.take (k + 1)) m = if eqM (l.getD k M.zero) m = true then cntM (l.take k) m + 1 else cntM (l.take k) m := by
  unfold cntM
  rw [List.take_succ_eq_append_getElem hk, List.filter_append, List.length_append, getD_lt l M.zero hk]
  split
  · rename_i h; simp [h]
  · rename_i h; simp [h]
theorem cntM_rises {l : List M} (h : risesB l = true) (m : M) : cntM l m = if l.any (eqM m) = true then 1 else 0 := count_rises h m

set_option maxHeartbeats 4000000 in
theorem CalmAll_walk_of (w : World) {nodes : Int} {gv av : Value} {gs : List Int} {acts : List Ac} (_hn64 : I64 nodes) (hg : Ints w gv gs) (ha : Acts w av acts) :
    Calls Tryz.prog 10 #[.int .i64 nodes, gv, av] w (GivesB (.bool true) w) := by
  have hD := done_c hg nodes ha
  obtain ⟨_, aa, acap, rfl, _⟩ := ha.form
  obtain ⟨_, ga, gcap, rfl, _⟩ := hg.open
  have hRE := @doneX_reach nodes gs acts
  generalize doneX nodes gs acts = X at *
  generalize doneB nodes gs acts = b at *
  clear ha
  replace hRE := Lib.hid hRE
  go_enter Tryz.func10, Tryz.ntmps10
  go_wp2_with fail
  refine hD.mono ?_
  clear hD
  rintro e w1 ⟨gv1, nv1, wv1, S1, rfl, hO1, hS1, b1⟩
  obtain ⟨pg, pn, pw⟩ := hO1.parts
  obtain ⟨_, ga1, gcap1, rfl, _⟩ := pg.open
  obtain ⟨_, na1, ncap1, rfl, _⟩ := pn.form
  obtain ⟨_, wa1, wcap1, rfl, _⟩ := pw.form
  clear pg pn pw
  have hR1 := OBox.new w1 26 (.slice ga1 X.groups.length gcap1) (.slice na1 X.nodes.length ncap1) (.slice wa1 X.wires.length wcap1)
  have bx1 := below_a1 w1 (.cells #[.slice ga1 X.groups.length gcap1, .slice na1 X.nodes.length ncap1, .slice wa1 X.wires.length wcap1] 26)
  have hW1 := hO1.world.below bx1
  cases b
  · go_upto_region 3 with fail
    generalize w1.alloc (.cells #[.slice ga1 X.groups.length gcap1, .slice na1 X.nodes.length ncap1, .slice wa1 X.wires.length wcap1] 26) = w2 at *
    obtain ⟨B1, hB1⟩ : ∃ B, w1.heap.size = B := ⟨_, rfl⟩
    simp only [hB1] at hR1 ⊢
    clear hB1
    go_wp2_with fail
    refine (calmBegun_c w2).mono ?_
    rintro e w4 ⟨rfl, b4⟩
    go_wp2_with fail
    go_ret
    exact ⟨ret_bool (by simp), below_trans (below_trans b1 bx1) b4⟩
  obtain ⟨rc, hnl, hgr⟩ := hRE.out rfl
  clear hRE
  have hFin : ((calmF X).1 = 0 ∧ (calmF X).2.nodes.length = X.nodes.length ∧ ∃ all, allF (calmF X).2 = (0, all) ∧ (∀ n, n < X.nodes.length → risesB ((calmF X).2.nodes.getD n N.zero).told = true) ∧ ∀ m ∈ all, ∀ n, n < X.nodes.length → ((calmF X).2.nodes.getD n N.zero).told.any (eqM m) = hasB gs m.grp n) ∨ (calmF X).1 = 2 := by
    rcases rc.calm with ⟨h0, hL, ⟨c, _, hs⟩, hEm, hHd⟩ | h2
    · left
      obtain ⟨i, S, g⟩ := rc.steps hs.steps
      obtain ⟨all, h1, h2, h3⟩ := all_of i g
      refine ⟨h0, hL.len, all, h1, fun n hn => i.told_rises (by rw [hL.len]; exact hn), fun m hm n hn => ?_⟩
      have h4 := calm_all i g hEm (fun j hj => hHd j (by rw [← hL.len]; exact hj)) ((h3 m).1 hm) (n := n) (by rw [hL.len]; exact hn)
      rw [hL.groups, hgr] at h4
      exact h4
    · exact Or.inr h2
  replace hFin := Lib.hid hFin
  subst hnl
  clear hgr rc
  go_upto_region 4 with fail
  generalize w1.alloc (.cells #[.slice ga1 X.groups.length gcap1, .slice na1 X.nodes.length ncap1, .slice wa1 X.wires.length wcap1] 26) = w2 at *
  obtain ⟨B1, hB1⟩ : ∃ B, w1.heap.size = B := ⟨_, rfl⟩
  simp only [hB1] at hR1 ⊢
  clear hB1
  have hC := Calm_c hW1
  generalize calmF X = r at *
  obtain ⟨_, x0, x1, x2⟩ := id hR1
  have b2 := below_trans b1 bx1
  clear hO1 hS1 b1 bx1
  go_wp2_with fail
  refine hC.mono ?_
  clear hC
  rintro e w3 ⟨gv3, nv3, wv3, S3, rfl, hO3, hS3, b3⟩
  obtain ⟨pg, pn, pw⟩ := hO3.parts
  obtain ⟨_, ga3, gcap3, rfl, _⟩ := pg.open
  obtain ⟨_, na3, ncap3, rfl, _⟩ := pn.form
  obtain ⟨_, wa3, wcap3, rfl, _⟩ := pw.form
  clear pg pn pw
  have hR3 := OBox.new w3 26 (.slice ga3 r.2.groups.length gcap3) (.slice na3 r.2.nodes.length ncap3) (.slice wa3 r.2.wires.length wcap3)
  have bx3 := below_a1 w3 (.cells #[.slice ga3 r.2.groups.length gcap3, .slice na3 r.2.nodes.length ncap3, .slice wa3 r.2.wires.length wcap3] 26)
  have hW3 := hO3.world.below bx3
  clear x0 x1 x2
  have b4 := below_trans b2 (below_trans b3 bx3)
  go_upto_region 5 with fail
  generalize w3.alloc (.cells #[.slice ga3 r.2.groups.length gcap3, .slice na3 r.2.nodes.length ncap3, .slice wa3 r.2.wires.length wcap3] 26) = w4 at *
  obtain ⟨B3, hB3⟩ : ∃ B, w3.heap.size = B := ⟨_, rfl⟩
  simp only [hB3] at hR3 ⊢
  clear hB3
  clear hO3 hS3 b3 bx3
  have hAl := TAll_c hW3
  have hal := allF_len r.2
  obtain ⟨_, x0, x1, x2⟩ := id hR3
  obtain ⟨q, hq⟩ : ∃ q, allF r.2 = q := ⟨_, rfl⟩
  have hFin := hFin.out
  rw [hq] at hAl hal hFin
  replace hFin := Lib.hid hFin
  clear hq
  go_wp2_with fail
  refine hAl.mono ?_
  rintro e w5 ⟨lv5, rfl, hO5, b5⟩
  have hM5 := hO5.msgs (by omega)
  obtain ⟨_, la5, lc5, rfl, _, hcA⟩ := hM5.open
  have b5' := below_trans b4 b5
  have hR5 := hR3.keep (b5.block _ hR3.lt)
  have hW5 := hW3.below b5
  clear x0 x1 x2 hAl hO5 hR3 hW3
  rcases hFin.out with ⟨h0, hYl, all, hall, hRi, hHas⟩ | h2
  rotate_left
  · have hne : (r.1 != 0) = true := by rw [h2]; rfl
    have heq : (r.1 == 2) = true := by rw [h2]; rfl
    replace h2 := Lib.hid h2
    go_wp2_with fail
    refine (calmBegun_c w5).mono ?_
    rintro e w6 ⟨rfl, b6⟩
    go_wp2_with fail
    go_ret
    exact ⟨ret_bool (by simp), below_trans b5' b6⟩
  have hne : (r.1 != 0) = false := by rw [h0]; rfl
  subst hall
  dsimp only at hM5 hcA hal
  obtain ⟨_, _, _, e1, _, hnr, _⟩ := id hW5
  cases e1
  have hYn := hnr.form
  obtain ⟨_, bn, ncap5, e1, _⟩ := hYn
  rw [hYl] at hR5
  replace hYl := Lib.hid hYl
  have hHc := fun o (h : Below w.heap.size w o) (g n : Int) => Has_c (hg.below h) g n
  replace hHc := Lib.hid hHc
  replace hHas := Lib.hid hHas
  replace hRi := Lib.hid hRi
  replace hcA := Lib.hid hcA
  replace hnr := Lib.hid hnr
  replace h0 := Lib.hid h0
  clear hg hFin hM5 hW5
  have hlB := hR5.lt
  obtain ⟨_, x0, x1, x2⟩ := id hR5
  go_wp2_with fail
  clear x0 x1 x2
  go_loopw [13] (fun i wr => ∃ k : Nat, k ≤ all.length ∧ i = .int .i64 k ∧ Below w5.heap.size w5 wr) (fun i _ => all.length - (intOf i).toNat)
  case atStart => exact ⟨0, by omega, rfl, Below.refl _ _⟩
  case round =>
    obtain ⟨k, hk, rfl, hb⟩ := hrel
    by_cases hlt : k < all.length
    rotate_left
    · obtain rfl : k = all.length := by omega
      go_wp2_with fail
      refine (calmBegun_c wr).mono ?_
      rintro e w6 ⟨rfl, b6⟩
      go_wp2_with fail
      go_ret
      exact ⟨ret_bool (by simp), below_trans (below_trans b5' hb) b6⟩
    obtain ⟨bA, oA, rfl, hcA2⟩ := hcA.out (by intro e; rw [e] at hlt; simp at hlt)
    have hm5 := hcA2 k hlt
    have hHas := Lib.hid (hHas.out _ (getD_mem all M.zero hlt))
    obtain ⟨m, HM⟩ : ∃ m, all.getD k M.zero = m := ⟨_, rfl⟩
    rw [HM] at hm5 hHas
    clear HM hcA2
    have hk1 : decide ((k : Int) < 0) = false := by simp
    have hk2 : decide (all.length ≤ k) = false := by simp; omega
    obtain ⟨wo, rfl⟩ : ∃ wo : World, wo = wr := ⟨_, rfl⟩
    go_wp2_with fail
    go_loopw [14] (fun i wr => ∃ n : Nat, n ≤ X.nodes.length ∧ i = .int .i64 n ∧ Below w5.heap.size w5 wr) (fun i _ => X.nodes.length - (intOf i).toNat)
    case atStart => exact ⟨0, by omega, rfl, hb⟩
    case round =>
      clear hb
      obtain ⟨n, hn0, rfl, hb⟩ := hrel
      by_cases hltn : n < X.nodes.length
      rotate_left
      · obtain rfl : n = X.nodes.length := by omega
        go_wp2_with fail
        go_roundw
        case rel => exact ⟨k + 1, by omega, by go_num, hb⟩
        case measure => simp [intOf]; omega
      obtain ⟨bn, on, fn, lv, hv, tv, e1, hc1, _, _, _, k3, _, _, _, ht⟩ := hnr.out.at (n := n) (by rw [hYl.out]; exact hltn)
      have hHn := hHas.out n hltn
      have hcnt := cntM_rises (hRi.out n hltn) m
      obtain ⟨tl, HT⟩ : ∃ l, (r.2.nodes.getD n N.zero).told = l := ⟨_, rfl⟩
      rw [HT] at ht hHn hcnt
      clear HT
      obtain ⟨_, ta, tc, rfl, _, hcT⟩ := ht.open
      cases e1
      have hlk := cell_lt k3
      dsimp only at hlk
      have hn1 : decide ((n : Int) < 0) = false := by simp
      have hn2 : decide (X.nodes.length ≤ n) = false := by simp; omega
      have hcs := Lib.hid (fun j (hj : j < tl.length) => cntM_snoc (m := m) hj)
      replace hcT := Lib.hid hcT
      replace hcnt := Lib.hid hcnt
      obtain ⟨wp, rfl⟩ : ∃ wo : World, wo = wr := ⟨_, rfl⟩
      go_wp2_with fail
      go_loopw [15, 16] (fun c i wr => ∃ j : Nat, j ≤ tl.length ∧ i = .int .i64 j ∧ c = .int .i64 (cntM (tl.take j) m : Nat) ∧ Below w5.heap.size w5 wr) (fun _ i _ => tl.length - (intOf i).toNat)
      case atStart => exact ⟨0, by omega, rfl, rfl, hb⟩
      case round =>
        clear hb
        obtain ⟨j, hj, rfl, rfl, hb⟩ := hrel
        obtain ⟨_, x0, x1, x2⟩ := hR5.keep (hb.block _ hlB)
        have k3r := (hb.cell (p := ⟨bn, on + n * 4 + 3, none⟩) hlk).trans k3
        obtain ⟨p0, p1, p2, p3, p4⟩ := hm5.below hb
        by_cases hltj : j < tl.length
        · obtain ⟨bT, oT, rfl, hcT2⟩ := hcT.out (by intro e; rw [e] at hltj; simp at hltj)
          obtain ⟨q0, q1, q2, q3, q4⟩ := (hcT2 j hltj).below hb
          have hcs := hcs.out j hltj
          generalize tl.getD j M.zero = d at *
          obtain ⟨c0, hc0⟩ : ∃ c, cntM (tl.take j) m = c := ⟨_, rfl⟩
          obtain ⟨c1, hc1⟩ : ∃ c, cntM (tl.take (j + 1)) m = c := ⟨_, rfl⟩
          have hcl : c0 ≤ tl.length := by
            rw [← hc0]
            exact Nat.le_trans (List.length_filter_le _ _) (by rw [List.length_take]; omega)
          simp only [hc0, hc1] at hcs ⊢
          replace hc0 := Lib.hid hc0
          replace hc1 := Lib.hid hc1
          clear hcT2
          have hj1 : decide ((j : Int) < 0) = false := by simp
          have hj2 : decide (tl.length ≤ j) = false := by simp; omega
          have heq := eql_msg d m
          cases hq : eqM d m
          · rw [hq] at heq hcs
            rw [if_neg (by simp)] at hcs
            replace hq := Lib.hid hq
            replace hcs := Lib.hid hcs
            go_wp2_with fail
            go_quiet (fail)
            go_wp2_with fail
            go_roundw
            case rel => exact ⟨j + 1, by omega, by go_num, by rw [hc1.out, hcs.out], below_trans hb (below_drewN _ _)⟩
            case measure => simp [intOf]; omega
          · rw [hq] at heq hcs
            rw [if_pos rfl] at hcs
            replace hq := Lib.hid hq
            replace hcs := Lib.hid hcs
            go_wp2_with fail
            go_quiet (fail)
            go_wp2_with fail
            go_roundw
            case rel => exact ⟨j + 1, by omega, by go_num, by rw [hc1.out, hcs.out]; go_num, below_trans hb (below_drewN _ _)⟩
            case measure => simp [intOf]; omega
        · obtain rfl : j = tl.length := by omega
          have hcn := hcnt.out
          rw [hHn] at hcn
          simp only [List.take_length]
          obtain ⟨c0, hc0⟩ : ∃ c, cntM tl m = c := ⟨_, rfl⟩
          rw [hc0] at hcn
          simp only [hc0]
          replace hc0 := Lib.hid hc0
          have hH := hHc.out wr (below_trans b5' hb) m.grp (n : Nat)
          cases hh : hasB gs m.grp n
          · rw [hh] at hcn hH
            rw [if_neg (by simp)] at hcn
            subst hcn
            replace hh := Lib.hid hh
            go_wp2_with fail
            refine hH.mono ?_
            rintro e w' ⟨rfl, h⟩; subst h
            go_wp2_with fail
            go_roundw
            case rel => exact ⟨n + 1, by omega, by go_num, hb⟩
            case measure => simp [intOf]; omega
          · rw [hh] at hcn hH
            rw [if_pos rfl] at hcn
            subst hcn
            replace hh := Lib.hid hh
            go_wp2_with fail
            refine hH.mono ?_
            rintro e w' ⟨rfl, h⟩; subst h
            go_wp2_with fail
            go_roundw
            case rel => exact ⟨n + 1, by omega, by go_num, hb⟩
            case measure => simp [intOf]; omega
end Go.Proofs.YtgifclphigpnhaaGreat
