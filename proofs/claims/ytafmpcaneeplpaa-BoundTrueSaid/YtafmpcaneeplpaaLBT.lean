/-
  BoundTrue, without the document's answer.
-/
import Derived.Test.YtafmpcaneeplpaaKB2
set_option maxRecDepth 100000
namespace Go.Proofs.Ytafmpcaneeplpaa
open Go.RowKit Go.Shelf Go.BigFrame

set_option maxHeartbeats 2000000 in
theorem BoundTrue_walk_of (w : World) {v : Value} {X : Wd} {n : Int} (hW : WorldAt w v X) (hn64 : I64 n) :
    Calls Try.prog 6 #[v, .int .i64 n] w (GivesB (.bool true) w) := by
  have hW0 := hW
  obtain ⟨gv, nv, wv, rfl, hg, hn, hw⟩ := hW
  obtain ⟨_, na, ncap, rfl, _⟩ := hn.form
  obtain ⟨_, ga, gcap, rfl, _⟩ := hg.open
  obtain ⟨_, wa, wcap, rfl, _⟩ := hw.form
  have hB := WBox.new w (.slice ga X.groups.length gcap) (.slice na X.nodes.length ncap) (.slice wa X.wires.length wcap) 26
  have b1 := below_a1 w (.cells #[.slice ga X.groups.length gcap, .slice na X.nodes.length ncap, .slice wa X.wires.length wcap] 26)
  have hP1 := BOf_c (hW0.below b1) n hn64
  have hP2 := fun o (h : Below w.heap.size w o) => BReady_c (hW0.below h) n hn64
  replace hP2 := Lib.hid hP2
  go_enter Try.func6, Try.ntmps6
  go_upto_region 1 with fail
  generalize w.alloc (.cells #[.slice ga X.groups.length gcap, .slice na X.nodes.length ncap, .slice wa X.wires.length wcap] 26) = w1 at *
  have hBl := cell_lt hB.1
  dsimp only at hBl
  obtain ⟨x0, x1, x2⟩ := id hB
  by_cases he : nodeE X n = 0
  · obtain ⟨hx, h0, h1⟩ := nodeE_ok he
    have hfit := errX_fit hx
    obtain ⟨m, rfl⟩ := Int.eq_ofNat_of_zero_le h0
    have hm : m < X.nodes.length := by omega
    have htab : TabN X m := hfit.tab hm
    have hr1 : boundR X (m : Int) = boundX X m := by rw [boundR, if_pos he, Int.toNat_natCast]
    have hr2 : readyR X (m : Int) = (X.nodes.getD m N.zero).held.take (cntX X m) := by rw [readyR, if_pos he, Int.toNat_natCast, readyX_take hx hm]
    have hll := (hfit.lists _ (getD_mem X.nodes N.zero hm)).1
    rw [hr1, he] at hP1
    rw [hr2, he] at hP2
    obtain ⟨b0, o0, c0, lv, hv, tv, e1, hc1, k0, k1, k2, k3, _, hrr, hh, htt⟩ := hn.at hm
    cases e1
    obtain ⟨hrl, la, lcap, rfl, hlc⟩ := hrr.form
    obtain ⟨_, ha, hcap, rfl, _⟩ := hh.open
    obtain ⟨_, ta, tcap, rfl, _⟩ := htt.open
    clear he hr1 hr2 hx hfit
    have hcl : cntX X m ≤ (X.nodes.getD m N.zero).held.length := List.findIdx_le_length
    have hclk := Lib.hid (boundX_clock X m)
    have hlst := Lib.hid (fun g k h1 h2 h3 h4 h5 => boundX_last (X := X) (n := m) (g := g) (k := k) h1 h2 h3 h4 h5)
    have hSS := Lib.hid (fun g k a s => boundS_eq X m g k a s)
    have hGS := Lib.hid (fun g m' a => boundG_succ X m g m' a)
    have hMS := Lib.hid (fun m' => boundM_succ X m m')
    have htl0 : (X.nodes.getD m N.zero).last.length = X.groups.length := htab.1
    have hrows := Lib.hid htab.2
    have hM0 : boundM X m 0 = (X.nodes.getD m N.zero).clock := rfl
    have hEnd : boundX X m = boundM X m X.groups.length := rfl
    obtain ⟨l, hl⟩ : ∃ l, (X.nodes.getD m N.zero).held.take (cntX X m) = l := ⟨_, rfl⟩
    rw [hl] at hP2
    have hln : l.length = cntX X m := by rw [← hl, List.length_take, Nat.min_eq_left hcl]
    replace hl := Lib.hid hl
    have hov1 := Lib.hid (fun h => cnt_over (X := X) (m := m) h)
    have hov2 := Lib.hid (fun i h => cnt_under (X := X) (m := m) (i := i) h)
    rw [hl.out] at hov2
    generalize boundX X m = far at *
    obtain ⟨x, HX⟩ : ∃ x, X.nodes.getD m N.zero = x := ⟨_, rfl⟩
    rw [HX] at hM0
    simp only [HX] at *
    replace hM0 := Lib.hid hM0
    replace hEnd := Lib.hid hEnd
    have htl : x.last.length ≤ X.groups.length ∧ X.groups.length ≤ x.last.length := ⟨by omega, by omega⟩
    clear htab HX htl0
    go_wp2_with fail
    refine hP1.mono ?_
    rintro e w2 ⟨rfl, b2⟩
    clear x0 x1 x2
    obtain ⟨x0, x1, x2⟩ := hB.below b2 hBl
    have b3 := below_trans b1 b2
    go_wp2_with fail
    refine (hP2.out w2 b3).mono ?_
    rintro e w3 ⟨v3, rfl, ho3, b4⟩
    obtain ⟨a3, c3, rfl⟩ := own_form ho3.2
    have b5 := below_trans b3 b4
    obtain ⟨x0, x1, x2⟩ := hB.below (below_trans b2 b4) hBl
    have k0' := (b5.cell (p := ⟨b0, o0 + m * 4, none⟩) (cell_lt k0)).trans k0
    have k1' := (b5.cell (p := ⟨b0, o0 + m * 4 + 1, none⟩) (cell_lt k1)).trans k1
    have k2' := (b5.cell (p := ⟨b0, o0 + m * 4 + 2, none⟩) (cell_lt k2)).trans k2
    have k3' := (b5.cell (p := ⟨b0, o0 + m * 4 + 3, none⟩) (cell_lt k3)).trans k3
    have hNb := NBox.new w3 x (.slice la x.last.length lcap) (.slice ha x.held.length hcap) (.slice ta x.told.length tcap) 45
    have b6 := below_trans b5 (below_a1 w3 (.cells #[.int .i64 x.clock, .slice la x.last.length lcap, .slice ha x.held.length hcap, .slice ta x.told.length tcap] 45))
    have b6' := below_a1 w3 (.cells #[.int .i64 x.clock, .slice la x.last.length lcap, .slice ha x.held.length hcap, .slice ta x.told.length tcap] 45)
    have hX0 := hB.below (below_trans (below_trans b2 b4) (below_a1 w3 (.cells #[.int .i64 x.clock, .slice la x.last.length lcap, .slice ha x.held.length hcap, .slice ta x.told.length tcap] 45))) hBl
    go_upto_region 6 with fail
    generalize w3.alloc (.cells #[.int .i64 x.clock, .slice la x.last.length lcap, .slice ha x.held.length hcap, .slice ta x.told.length tcap] 45) = w6 at *
    clear x0 x1 x2 k0' k1' k2' k3'
    obtain ⟨x0, x1, x2⟩ := hX0
    obtain ⟨y0, y1, y2, y3⟩ := hNb
    go_upto_region 8 with fail
    replace hP2 := Lib.hid hP2
    have hM0' := Lib.hid (fun h : far = boundM X m 0 => h.trans hM0.out)
    go_loop [10, 11] (fun q i => ∃ g : Nat, g ≤ X.groups.length ∧ i = .int .i64 g ∧ ∃ b : Bool, q = .bool b ∧ Hid (far = boundM X m g → b = true)) (fun _ i => X.groups.length - (intOf i).toNat)
    case atStart => exact ⟨0, by omega, rfl, _, rfl, Lib.hid fun h => by simp [hM0'.out h]⟩
    case round =>
      obtain ⟨g, hgn, rfl, b, rfl, hq⟩ := hrel
      by_cases hlt : g < X.groups.length
      · obtain ⟨b2, o2, c2, u, e2, _, r1, hu⟩ := hrr.at (show g < x.last.length by omega)
        cases e2
        obtain ⟨row, HR⟩ : ∃ row, x.last.getD g [] = row := ⟨_, rfl⟩
        have hrl2 : row.length = X.nodes.length := hrows.out row (by rw [← HR, getD_lt x.last [] (show g < x.last.length by omega)]; exact List.getElem_mem _)
        have hrle : row.length ≤ X.nodes.length ∧ X.nodes.length ≤ row.length := ⟨by omega, by omega⟩
        rw [HR] at hu
        obtain ⟨_, ua, ucap, rfl, hucp, huc⟩ := hu.open
        rw [hrl2] at r1 hucp huc
        clear hrl2
        replace huc := Lib.hid huc
        have r1 := (b6.cell (p := ⟨b2, o2 + g, none⟩) (cell_lt r1)).trans r1
        go_wp2_with fail
        go_loop [10, 12] (fun q i => ∃ k : Nat, k ≤ X.nodes.length ∧ i = .int .i64 k ∧ ∃ b : Bool, q = .bool b ∧ Hid (far = boundG X m g k (boundM X m g) → b = true)) (fun _ i => X.nodes.length - (intOf i).toNat)
        case atStart => exact ⟨0, by omega, rfl, _, rfl, hq⟩
        case round =>
          obtain ⟨k, hkn, rfl, b, rfl, hq⟩ := hrel
          by_cases hlk : k < X.nodes.length
          · obtain ⟨b3, o3, rfl, huc2⟩ := huc.out (by rintro rfl; have h9 := hrle.2; rw [List.length_nil] at h9; omega)
            have q1 := huc2 k (by omega)
            obtain ⟨s, HS⟩ : ∃ s, row.getD k 0 = s := ⟨_, rfl⟩
            rw [HS] at q1
            have hcase := hSS.out g k (boundG X m g k (boundM X m g)) s (by rw [HR, HS])
            have q1 := (b6.cell (p := ⟨b3, o3 + k, none⟩) (cell_lt q1)).trans q1
            have hH1 := Has_c (hg.below b6) g m
            have hH2 := Has_c (hg.below b6) g k
            have hgs := Lib.hid (hGS.out g k (boundM X m g))
            have hle := fun h3 h4 h5 => hlst.out g k hlt hlk h3 h4 h5
            rw [HR, HS] at hle
            clear HR HS huc huc2
            rcases hcase with ⟨e, hv⟩ | ⟨e, h1, hv⟩ | ⟨e, h1, h2, hv⟩ | ⟨e, h1, h2, hv⟩
            · have hb : ((k : Int) == (m : Int)) = true := by simp; omega
              replace hv := Lib.hid hv
              clear e hle
              go_wp2_with fail
              go_round
              case rel => exact ⟨k + 1, by omega, by go_num, _, rfl, Lib.hid fun h => hq.out (by rw [h, hgs.out, hv.out])⟩
              case measure => simp [intOf]; omega
            · have hb : ((k : Int) == (m : Int)) = false := by simp; omega
              replace hv := Lib.hid hv
              rw [h1] at hH1
              clear e h1 hle
              go_wp2_with (go_at_call 28; refine hH1.mono ?_; clear hH1; rintro e w' ⟨rfl, rfl⟩)
              go_round
              case rel => exact ⟨k + 1, by omega, by go_num, _, rfl, Lib.hid fun h => hq.out (by rw [h, hgs.out, hv.out])⟩
              case measure => simp [intOf]; omega
            · have hb : ((k : Int) == (m : Int)) = false := by simp; omega
              replace hv := Lib.hid hv
              rw [h1] at hH1
              rw [h2] at hH2
              clear e h1 h2 hle
              go_wp2_with (first | (go_at_call 28; refine hH1.mono ?_; clear hH1; rintro e w' ⟨rfl, rfl⟩) | (go_at_call 28; refine hH2.mono ?_; clear hH2; rintro e w' ⟨rfl, rfl⟩))
              go_round
              case rel => exact ⟨k + 1, by omega, by go_num, _, rfl, Lib.hid fun h => hq.out (by rw [h, hgs.out, hv.out])⟩
              case measure => simp [intOf]; omega
            · have hb : ((k : Int) == (m : Int)) = false := by simp; omega
              have hfs := hle e h1 h2
              have hgt : ¬ s < far := by omega
              replace hv := Lib.hid hv
              rw [h1] at hH1
              rw [h2] at hH2
              clear e h1 h2 hle hfs
              by_cases hfe : far = s
              · have hfb : (far == s) = true := by simp [hfe]
                replace hfe := Lib.hid hfe
                cases b
                all_goals
                  go_wp2_with (first | (go_at_call 28; refine hH1.mono ?_; clear hH1; rintro e w' ⟨rfl, rfl⟩) | (go_at_call 28; refine hH2.mono ?_; clear hH2; rintro e w' ⟨rfl, rfl⟩))
                  go_round
                  case rel => exact ⟨k + 1, by omega, by go_num, true, rfl, Lib.hid fun _ => rfl⟩
                  case measure => simp [intOf]; omega
              · have hfb : (far == s) = false := by simp [hfe]
                have hmin := Lib.hid (show far = min (boundG X m g k (boundM X m g)) s → far = boundG X m g k (boundM X m g) by omega)
                replace hfe := Lib.hid hfe
                cases b
                all_goals
                  go_wp2_with (first | (go_at_call 28; refine hH1.mono ?_; clear hH1; rintro e w' ⟨rfl, rfl⟩) | (go_at_call 28; refine hH2.mono ?_; clear hH2; rintro e w' ⟨rfl, rfl⟩))
                  go_round
                  case rel => first | exact ⟨k + 1, by omega, by go_num, true, rfl, Lib.hid fun _ => rfl⟩ | exact ⟨k + 1, by omega, by go_num, _, rfl, Lib.hid fun h => hq.out (hmin.out (by rw [h, hgs.out, hv.out]))⟩
                  case measure => simp [intOf]; omega
          · obtain rfl : k = X.nodes.length := by omega
            have hms := Lib.hid (hMS.out g)
            go_wp2_with fail
            go_round
            case rel =>
              refine ⟨_, _, _, ⟨g + 1, by omega, rfl, ?_⟩, rfl, rfl, by go_num⟩
              cases b
              · exact Or.inl ⟨rfl, Lib.hid fun h => by have h2 := hq.out (by rw [h, hms.out]); cases h2⟩
              · exact Or.inr ⟨rfl, Lib.hid trivial⟩
            case measure => simp [intOf]; omega
      · obtain rfl : g = X.groups.length := by omega
        obtain rfl : b = true := hq.out hEnd.out
        have hcmp : ¬ x.clock < far := by have := hclk.out; omega
        have hcl2 : ¬ x.held.length < cntX X m := by omega
        have hM6 := (ho3.msgs (by omega)).below b6'
        have hT6 := (hh.below b6).takes hcl
        rw [hl.out] at hT6
        have hS := SameMsgs_c hM6 hT6
        rw [sameMs_self, hln] at hS
        replace hov1 := Lib.hid hov1
        replace hov2 := Lib.hid hov2
        have hw6 := cell_lt y2
        dsimp only at hw6
        have hhM := hh.below b6
        clear hT6 hq hl hM0' hEnd hMS hGS hSS hlst hP2 hrows hclk
        go_wp2_with fail
        refine hS.mono ?_
        rintro e w7 ⟨rfl, d7⟩
        have b7 := below_trans b6 d7.below
        clear hS
        go_upto_region 19 with fail
        go_wp2_with fail
        refine (boundBegun_c w7).mono ?_
        rintro e w8 ⟨rfl, b8⟩
        have b78 := below_trans d7.below b8
        have y2' := (b78.cell (p := ⟨w3.heap.size, 2, none⟩) hw6).trans y2
        have hM8 := hM6.below b78
        have hh8 := hhM.below b78
        have b9 := below_trans b6 b78
        clear hM6 hhM y2 b7 b78 x0 x1 x2 y0 y1 y3
        obtain ⟨_, _, _, e1, _, hc8⟩ := hM8.open
        cases e1
        obtain ⟨_, _, _, e1, _, hd8⟩ := hh8.open
        cases e1
        generalize cntX X m = r at *
        rcases Nat.lt_or_ge r x.held.length with hlr | hlr
        · have hb1 : ((r : Int) == (x.held.length : Int)) = false := by simp; omega
          have ho := hov1.out.out hlr
          obtain ⟨bh, oh, rfl, hd9⟩ := hd8 (by intro e; rw [e] at hlr; simp at hlr)
          obtain ⟨d, hd⟩ : ∃ d, x.held.getD r M.zero = d := ⟨_, rfl⟩
          have hd10 := hd9 r hlr
          rw [hd] at hd10 ho
          obtain ⟨_, _, m2, _, _⟩ := hd10
          clear hd hd9 hd8
          rcases Nat.eq_zero_or_pos r with h0 | h0
          · subst h0
            clear hc8
            go_wp2_with fail
            go_ret
            exact ⟨ret_bool (by simp), b9⟩
          · have hb2 : ((r : Int) == 0) = false := by simp; omega
            have hu := hov2.out.out (r - 1) (by omega)
            obtain ⟨bl, ol, rfl, hc9⟩ := hc8 (by intro e; have h9 := hln; rw [e, List.length_nil] at h9; omega)
            obtain ⟨f, hf⟩ : ∃ f, l.getD (r - 1) M.zero = f := ⟨_, rfl⟩
            have hc10 := hc9 (r - 1) (by omega)
            rw [hf] at hc10 hu
            obtain ⟨_, _, n2, _, _⟩ := hc10
            clear hf hc9 hc8
            go_wp2_with fail
            go_ret
            exact ⟨ret_bool (by simp), b9⟩
        · obtain rfl : r = x.held.length := by omega
          clear hd8
          rcases Nat.eq_zero_or_pos x.held.length with h0 | h0
          · clear hc8
            go_wp2_with fail
            go_ret
            exact ⟨ret_bool (by simp), b9⟩
          · have hb2 : ((x.held.length : Int) == 0) = false := beq_eq_false_iff_ne.2 (by omega)
            have hu := hov2.out.out (x.held.length - 1) (by omega)
            obtain ⟨bl, ol, rfl, hc9⟩ := hc8 (by intro e; have h9 := hln; rw [e, List.length_nil] at h9; omega)
            obtain ⟨f, hf⟩ : ∃ f, l.getD (x.held.length - 1) M.zero = f := ⟨_, rfl⟩
            have hc10 := hc9 (x.held.length - 1) (by omega)
            rw [hf] at hc10 hu
            obtain ⟨_, _, n2, _, _⟩ := hc10
            clear hf hc9 hc8
            go_wp2_with fail
            go_ret
            exact ⟨ret_bool (by simp), b9⟩
  · generalize boundR X n = r at *
    generalize readyR X n = l at *
    generalize nodeE X n = e0 at *
    have hne : (e0 != 0) = true := by simpa using he
    replace he := Lib.hid he
    go_wp2_with fail
    refine hP1.mono ?_
    rintro e w2 ⟨rfl, b2⟩
    clear x0 x1 x2
    obtain ⟨x0, x1, x2⟩ := hB.below b2 hBl
    have b3 := below_trans b1 b2
    go_wp2_with fail
    refine (hP2.out w2 b3).mono ?_
    rintro e w3 ⟨v3, rfl, ho3, b4⟩
    obtain ⟨a3, c3, rfl⟩ := own_form ho3.2
    have b5 := below_trans b3 b4
    go_wp2_with fail
    refine (boundBegun_c w3).mono ?_
    rintro e w4 ⟨rfl, b6⟩
    go_wp2_with fail
    go_ret
    exact ⟨ret_bool (by simp), below_trans b5 b6⟩
end Go.Proofs.Ytafmpcaneeplpaa
