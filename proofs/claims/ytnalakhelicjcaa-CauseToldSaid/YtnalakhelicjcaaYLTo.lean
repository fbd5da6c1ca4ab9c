/-
  CauseTold: of two that were told to one, what came ahead of the other was told first.
-/
import Derived.Test.YtnalakhelicjcaaYLTc
import Derived.Test.YtnalakhelicjcaaYLD
import Derived.Test.YtnalakhelicjcaaYIu
import Derived.Test.YtnalakhelicjcaaYAhd
import Derived.Test.YtnalakhelicjcaaYKN
set_option maxRecDepth 100000
namespace Go.Proofs.Ytnalakhelicjcaa
open Go.RowKit Go.Shelf Go.BigFrame

theorem lessM_le {a b : M} (h : lessM a b = true) : a.stamp ≤ b.stamp := by
  unfold lessM at h
  simp at h
  omega
/-- Of two that stand in a list that rises, the one with the lesser stamp stands first. -/
theorem idx_first {ms : List M} (h : risesB ms = true) {a b : M} (ha : ms.any (eqM a) = true) (hb : ms.any (eqM b) = true) (hs : b.stamp < a.stamp) : idxM (eqM b) ms < idxM (eqM a) ms := by
  have hm : ∀ {x : M}, ms.any (eqM x) = true → x ∈ ms := fun {x} h => by
    obtain ⟨y, h1, h2⟩ := List.any_eq_true.1 h
    rw [eqM_iff.1 h2]
    exact h1
  obtain ⟨a1, a2, a3⟩ := idxM_mem (hm ha)
  obtain ⟨b1, b2, b3⟩ := idxM_mem (hm hb)
  refine Int.not_le.1 fun hle => ?_
  rcases Nat.lt_or_ge (idxM (eqM a) ms).toNat (idxM (eqM b) ms).toNat with hlt | hge
  · have := lessM_le (rises_lt h hlt b1)
    rw [a2, b2] at this
    omega
  · have e : (idxM (eqM a) ms).toNat = (idxM (eqM b) ms).toNat := by omega
    rw [e, b2] at a2
    rw [a2] at hs
    omega
theorem ahead_first {z : N} (h : risesB z.told = true) {a b : M} (ha : z.told.any (eqM a) = true) (hb : z.told.any (eqM b) = true) (hs : b.stamp < a.stamp) : aheadK z b < aheadK z a := by
  have h1 := idx_first h ha hb hs
  obtain ⟨y, h2, h3⟩ := List.any_eq_true.1 hb
  obtain ⟨_, _, h4⟩ := idxM_mem (m := b) (by rw [eqM_iff.1 h3]; exact h2)
  unfold aheadK
  split <;> split <;> omega
theorem ac_flatC (l : List Ac) : (l.flatMap Ac.cells).length = l.length * 4 := by
  induction l with
  | nil => rfl
  | cons x l ih => rw [List.flatMap_cons, List.length_append, ih, List.length_cons]; show 4 + l.length * 4 = _; omega
theorem Acts.of_own {w : World} {base : Nat} {v : Value} {l : List Ac} (hf : ∀ x ∈ l, x.fits) (h : w.ownsRow base 36 4 v l.length (l.flatMap Ac.cells)) (hl : l.length * 32 ≤ 140737488351232) : Acts w v l := by
  have hfl : (l.map Ac.cells).flatten = l.flatMap Ac.cells := by simp [List.flatMap]
  have hr := Row.of_owns h (by rw [ac_flatC]; omega)
  refine ⟨l.map Ac.cells, by simp, fun c hc => ?_, by rw [hfl]; exact hr, fun i h1 h2 => ?_⟩
  · obtain ⟨x, _, rfl⟩ := List.mem_map.1 hc
    rfl
  · simp only [List.getElem_map]
    exact ⟨rfl, hf _ (List.getElem_mem _)⟩
def plainA (l : List Ac) : List Ac := l.filter fun x => x.kind != 4
theorem plainA_len (l : List Ac) : (plainA l).length ≤ l.length := List.length_filter_le _ _
theorem plainA_succ {l : List Ac} {k : Nat} (h : k < l.length) : plainA (l.take (k + 1)) = if (l.getD k Ac.zero).kind = 4 then plainA (l.take k) else plainA (l.take k) ++ [l.getD k Ac.zero] := by
  unfold plainA
  rw [List.take_succ_eq_append_getElem h, List.filter_append, getD_lt l Ac.zero h]
  split
  · rename_i h4; simp [h4]
  · rename_i h4; simp [h4]

set_option maxHeartbeats 4000000 in
theorem CauseTold_walk_of (w : World) {nodes ci : Int} {gv av : Value} {gs : List Int} {acts : List Ac} (_hn64 : I64 nodes) (hg : Ints w gv gs) (ha : Acts w av acts) (hi64 : I64 ci) (hab : acts.length * 40 ≤ 140737488351232) :
    Calls Try.prog 4 #[.int .i64 nodes, gv, av, .int .i64 ci] w (GivesB (.bool true) w) := by
  have hM := Mark_c hg nodes ha
  have hOk := @markF_ok nodes gs acts
  have hDn := fun o v l (h : Below w.heap.size w o) (k : Acts o v l) => done_c (hg.below h) nodes k
  have hRE := fun l => @doneX_reach nodes gs l
  obtain ⟨hal, aa, acap, rfl, hac⟩ := ha.form
  obtain ⟨_, ga, gcap, rfl, _⟩ := hg.open
  generalize markF nodes gs acts = r at *
  clear hg
  replace hOk := Lib.hid hOk
  replace hDn := Lib.hid hDn
  replace hRE := Lib.hid hRE
  obtain ⟨i0, hi0, hz0, hz1, hz2⟩ := info_parts infoCActC
  go_enter Try.func4, Try.ntmps4
  go_wp2_with fail
  refine hM.mono ?_
  clear hM
  rintro e w1 ⟨sv, ov, rfl, hS1, hO1, b1⟩
  obtain ⟨_, sa, scap, rfl, _, _⟩ := id hS1.open
  obtain ⟨_, oa, ocap, rfl, _, _⟩ := Sl.open hO1
  have hs1 := b1.size
  go_wp2_with fail
  go_loopw [12, 13] (fun pv i wr => ∃ k : Nat, k ≤ acts.length ∧ i = .int .i64 k ∧ wr.ownsRow w1.heap.size 36 4 pv (plainA (acts.take k)).length ((plainA (acts.take k)).flatMap Ac.cells) ∧ Below w1.heap.size w1 wr) (fun _ i _ => acts.length - (intOf i).toNat)
  case atStart => exact ⟨0, by omega, rfl, World.ownsRow_nil _ _ _ _, Below.refl _ _⟩
  case round =>
    obtain ⟨k, hk, rfl, ho, hb⟩ := hrel
    have hsr := hb.size
    have hb0 : Below w.heap.size w wr := b1.trans (hb.mono hs1)
    obtain ⟨ap, cp, rfl⟩ := own_form ho
    by_cases hlt : k < acts.length
    · obtain ⟨ab, ao, acap', e, _, hbox, hfit⟩ := (ha.below hb0).at hlt
      cases e
      have hsu := plainA_succ hlt
      obtain ⟨x, hx⟩ : ∃ x, acts.getD k Ac.zero = x := ⟨_, rfl⟩
      rw [hx] at hbox hfit hsu
      clear hx
      have hple : (plainA (acts.take k)).length ≤ k := Nat.le_trans (plainA_len _) (by rw [List.length_take]; omega)
      obtain ⟨m0, m1, m2, m3⟩ := hbox
      by_cases h4 : x.kind = 4
      · have q4 : (x.kind != 4) = false := by simpa using h4
        rw [if_pos h4] at hsu
        replace h4 := Lib.hid h4
        replace hsu := Lib.hid hsu
        go_wp2_with fail
        go_roundw
        case rel => exact ⟨k + 1, by omega, by go_num, by rw [hsu.out]; exact ho, hb⟩
        case measure => simp [intOf]; omega
      · have q4 : (x.kind != 4) = true := by simpa using h4
        rw [if_neg h4] at hsu
        replace h4 := Lib.hid h4
        obtain ⟨pl, hpl⟩ : ∃ l, plainA (acts.take k) = l := ⟨_, rfl⟩
        rw [hpl] at ho hsu hple
        simp only [hpl] at ⊢
        clear hpl
        replace hsu := Lib.hid hsu
        go_wp2_with (at_builtin; refine wpList_append_own _ rfl _ _ 23 rfl w1.heap.size 36 i0 _ 4 40 Try.underlying23 hi0 hz0 hz1 hz2 rfl (by decide) (.slice ap pl.length cp) pl.length (pl.flatMap Ac.cells) rfl (ho.alloc _) ⟨wr.heap.size, 0, none⟩ 1 1 [.int .i64 x.kind, .int .i64 x.one, .int .i64 x.two, .string x.body] rfl rfl (cells_new _ _ _) (by simp [Value.oneCell']) (by unfold maxLen; omega) (by omega) (by rw [World.size_alloc]; omega) ?_; intro v' w5 hown' hgrow _)
        go_roundw
        case rel =>
          refine ⟨k + 1, by omega, by go_num, ?_, (below_trans hb (below_a1 wr _)).grown hgrow (by rw [World.size_alloc]; omega) (fun k e => by have := (ho.lt k e).1; omega)⟩
          rw [hsu.out, List.length_append, List.flatMap_append]
          simpa [Ac.cells] using hown'
        case measure => simp [intOf]; omega
    · obtain rfl : k = acts.length := by omega
      rw [List.take_length] at ho ⊢
      have hpf : ∀ x ∈ plainA acts, x.fits := fun x hx => by
        have hx := (List.mem_filter.1 hx).1
        obtain ⟨i, hi, rfl⟩ := List.mem_iff_getElem.1 hx
        obtain ⟨_, _, _, _, _, _, hfit⟩ := ha.at hi
        rw [getD_lt acts Ac.zero hi] at hfit
        exact hfit
      have hpl := plainA_len acts
      have hPA := Acts.of_own hpf ho (by omega)
      obtain ⟨pl, hple⟩ : ∃ l, plainA acts = l := ⟨_, rfl⟩
      rw [hple] at hPA
      simp only [hple] at ⊢
      clear hple hpf hpl ho
      have hD := hDn.out wr _ _ hb0 hPA
      have hRE := hRE.out pl
      generalize doneX nodes gs pl = X at *
      generalize doneB nodes gs pl = is at *
      clear hDn
      have hSm := hS1.below hb
      have hOm := hO1.below hb
      replace hRE := Lib.hid hRE
      go_wp2_with fail
      refine hD.mono ?_
      clear hD
      rintro e w2 ⟨gv2, nv2, wv2, S2, rfl, hO2, hS2, b2⟩
      obtain ⟨pg, pn, pw⟩ := hO2.parts
      obtain ⟨_, ga2, gcap2, rfl, _⟩ := pg.open
      obtain ⟨_, na2, ncap2, rfl, _⟩ := pn.form
      obtain ⟨_, wa2, wcap2, rfl, _⟩ := pw.form
      clear pg pn pw
      have hR2 := OBox.new w2 40 (.slice ga2 X.groups.length gcap2) (.slice na2 X.nodes.length ncap2) (.slice wa2 X.wires.length wcap2)
      have bx2 := below_a1 w2 (.cells #[.slice ga2 X.groups.length gcap2, .slice na2 X.nodes.length ncap2, .slice wa2 X.wires.length wcap2] 40)
      have hW2 := hO2.world.below bx2
      have b22 := below_trans b2 bx2
      have hS3 := hSm.below b22
      have hO3 := BRows.below hOm b22
      have b3 := hb0.trans (b22.mono hb0.size)
      clear hS1 hO1 hSm hOm b2 bx2 hO2 hS2 b22
      by_cases h0 : r.1 = 0
      rotate_left
      · have q0 : (r.1 != 0) = true := by simpa using h0
        replace h0 := Lib.hid h0
        go_upto_region 10 with fail
        generalize w2.alloc (.cells #[.slice ga2 X.groups.length gcap2, .slice na2 X.nodes.length ncap2, .slice wa2 X.wires.length wcap2] 40) = w3 at *
        go_wp2_with fail
        refine (causeBegun_c _).mono ?_
        rintro e w4 ⟨rfl, b4⟩
        go_wp2_with fail
        go_ret
        exact ⟨ret_bool (by simp), below_trans b3 b4⟩
      have q0 : (r.1 != 0) = false := by simpa using h0
      cases is
      · replace h0 := Lib.hid h0
        go_upto_region 10 with fail
        generalize w2.alloc (.cells #[.slice ga2 X.groups.length gcap2, .slice na2 X.nodes.length ncap2, .slice wa2 X.wires.length wcap2] 40) = w3 at *
        go_wp2_with fail
        refine (causeBegun_c _).mono ?_
        rintro e w4 ⟨rfl, b4⟩
        go_wp2_with fail
        go_ret
        exact ⟨ret_bool (by simp), below_trans b3 b4⟩
      obtain ⟨rc, hnl, hgr⟩ := hRE.out rfl
      clear hgr
      subst hnl
      obtain ⟨s, q, hB, hr, hlen⟩ := hOk.out h0
      have hrl : s.rows.length = s.sent.length := by rw [s.rows_len, hB.la]
      have hsl : r.2.1.length = s.sent.length := by rw [hr]
      have hol : r.2.2.length = s.sent.length := by rw [hr]; exact hrl
      have hr1 : r.2.1 = s.sent := by rw [hr]
      have hr2 : r.2.2 = s.rows := by rw [hr]
      have qlen : ((r.2.2.length : Int) != (r.2.1.length : Int)) = false := by rw [hsl, hol]; simp
      rw [hsl, hr1] at hS3
      rw [hol, hr2] at hO3
      replace h0 := Lib.hid h0
      replace hr := Lib.hid hr
      clear hOk hRE hr1 hr2
      go_upto_region 13 with fail
      generalize w2.alloc (.cells #[.slice ga2 X.groups.length gcap2, .slice na2 X.nodes.length ncap2, .slice wa2 X.wires.length wcap2] 40) = w3 at *
      obtain ⟨B2, hB2⟩ : ∃ B, w2.heap.size = B := ⟨_, rfl⟩
      simp only [hB2] at hR2 ⊢
      clear hB2
      have hC := Calm_c hW2
      have hCl := rc.calm
      have hsm := gErr_small rc.inv.right.grp
      obtain ⟨r2, hr2⟩ : ∃ r2, calmF X = r2 := ⟨_, rfl⟩
      rw [hr2] at hC hCl
      clear hr2
      replace hCl := Lib.hid hCl
      obtain ⟨_, x0, x1, x2⟩ := id hR2
      go_wp2_with fail
      refine hC.mono ?_
      clear hC
      rintro e w4 ⟨gv4, nv4, wv4, S4, rfl, hO4, hS4, b4⟩
      obtain ⟨pg, pn, pw⟩ := hO4.parts
      obtain ⟨_, ga4, gcap4, rfl, _⟩ := pg.open
      obtain ⟨_, na4, ncap4, rfl, _⟩ := pn.form
      obtain ⟨_, wa4, wcap4, rfl, _⟩ := pw.form
      clear pg pn pw
      have hR4 := OBox.new w4 40 (.slice ga4 r2.2.groups.length gcap4) (.slice na4 r2.2.nodes.length ncap4) (.slice wa4 r2.2.wires.length wcap4)
      have bx4 := below_a1 w4 (.cells #[.slice ga4 r2.2.groups.length gcap4, .slice na4 r2.2.nodes.length ncap4, .slice wa4 r2.2.wires.length wcap4] 40)
      have hW4 := hO4.world.below bx4
      clear x0 x1 x2
      have b44 := below_trans b4 bx4
      have hS5 := hS3.below b44
      have hO5 := BRows.below hO3 b44
      have b5 := below_trans b3 b44
      clear hS3 hO3 b3 hR2 hW2 b4 bx4
      rcases hCl.out with ⟨h2, hL, _, _, _⟩ | h2
      rotate_left
      · have q7 : (r2.1 != 0) = true := by rw [h2]; rfl
        have q8 : (r2.1 == 2) = true := by rw [h2]; rfl
        replace h2 := Lib.hid h2
        go_upto_region 15 with fail
        generalize w4.alloc (.cells #[.slice ga4 r2.2.groups.length gcap4, .slice na4 r2.2.nodes.length ncap4, .slice wa4 r2.2.wires.length wcap4] 40) = w5 at *
        obtain ⟨B4, hB4⟩ : ∃ B, w4.heap.size = B := ⟨_, rfl⟩
        simp only [hB4] at hR4 ⊢
        clear hB4
        go_wp2_with fail
        refine (causeBegun_c _).mono ?_
        rintro e w6 ⟨rfl, b6⟩
        go_wp2_with fail
        go_ret
        exact ⟨ret_bool (by simp), below_trans b5 b6⟩
      have q7 : (r2.1 != 0) = false := by rw [h2]; rfl
      replace h2 := Lib.hid h2
      clear hCl
      generalize r2.2 = Y at *
      go_upto_region 16 with fail
      generalize w4.alloc (.cells #[.slice ga4 Y.groups.length gcap4, .slice na4 Y.nodes.length ncap4, .slice wa4 Y.wires.length wcap4] 40) = w5 at *
      obtain ⟨B4, hB4⟩ : ∃ B, w4.heap.size = B := ⟨_, rfl⟩
      simp only [hB4] at hR4 ⊢
      clear hB4
      clear b44 hO4 hS4
      have hC1 := choose_c w5 hi64 (n := X.nodes.length) (by omega) (by omega)
      have hto := chooseN_lt (c := ci) (n := X.nodes.length) (by omega)
      generalize chooseN ci X.nodes.length = k at *
      have hnE : nodeE Y (k : Nat) = 0 := by
        unfold nodeE
        rw [if_pos hL.right.err, if_pos (by rw [inB_mk (by omega) (by rw [hL.len]; omega)])]
      have hris : risesB (Y.nodes.getD k N.zero).told = true := (hL.right.node k (by rw [hL.len]; exact hto)).told.rise
      have hAf : ∀ m, aheadF Y (k : Nat) m = .tuple #[.int .i64 (aheadK (Y.nodes.getD k N.zero) m), .bool ((Y.nodes.getD k N.zero).told.any (eqM m)), .int .i64 0] := fun m => by
        unfold aheadF
        rw [if_pos hnE, Int.toNat_natCast]
      have hAh := fun o (h : Below w5.heap.size w5 o) m => hAf m ▸ Ahead_c (hW4.below h) (k : Nat) (by unfold I64; omega) m
      clear hAf
      generalize Y.nodes.getD k N.zero = z at *
      have hfst := fun (a b : M) (h : b.stamp < a.stamp) (h1 : z.told.any (eqM a) = true) (h2 : z.told.any (eqM b) = true) => ahead_first hris h1 h2 h
      have hsta := hB.sta
      have hla := hB.la
      clear hB hnE hris hL rc
      replace hAh := Lib.hid hAh
      replace hfst := Lib.hid hfst
      replace hsta := Lib.hid hsta
      go_wp2_with fail
      refine hC1.mono ?_
      rintro e w' ⟨rfl, h⟩; subst h
      clear hC1
      go_wp2_with fail
      go_loopw [19] (fun i wr => ∃ a : Nat, a ≤ s.sent.length ∧ i = .int .i64 a ∧ Below w5.heap.size w5 wr) (fun i _ => s.sent.length - (intOf i).toNat)
      case atStart => exact ⟨0, by omega, rfl, Below.refl _ _⟩
      case round =>
        obtain ⟨a, ha0, rfl, hb6⟩ := hrel
        by_cases hlt2 : a < s.sent.length
        · obtain ⟨b0, o0, c0, ua, e0, _, ra, hua⟩ := (BRows.below hO5 hb6).at (k := a) (by rw [hrl]; exact hlt2)
          rw [hrl] at e0
          cases e0
          rw [Sc.rows_at (by rw [hla]; exact hlt2)] at hua
          obtain ⟨_, a3, c3, rfl, _, _⟩ := Sl.open hua
          rw [rowS_len] at ra hua
          obtain ⟨wo, rfl⟩ : ∃ wo : World, wo = wr := ⟨_, rfl⟩
          have hlr := cell_lt ra
          dsimp only at hlr
          go_wp2_with fail
          go_loopw [20] (fun i wr => ∃ b : Nat, b ≤ s.sent.length ∧ i = .int .i64 b ∧ Below wo.heap.size wo wr) (fun i _ => s.sent.length - (intOf i).toNat)
          case atStart => exact ⟨0, by omega, rfl, Below.refl _ _⟩
          case round =>
            obtain ⟨b, hb0', rfl, hb9⟩ := hrel
            have ra := (hb9.cell (p := ⟨b0, o0 + a, none⟩) hlr).trans ra
            by_cases hlt3 : b < s.sent.length
            · have hua9 := BoolsAt.below hua hb9
              obtain ⟨b2, o2, c2, e0, _, yb⟩ := hua9.at (k := b) (by rw [rowS_len]; exact hlt3)
              rw [rowS_len] at e0
              cases e0
              rw [rowS_at hlt3] at yb
              have hst := hsta.out a b hlt2
              obtain ⟨vab, hab2⟩ : ∃ v, s.ahead.getD a emptyS b = v := ⟨_, rfl⟩
              rw [hab2] at yb hst
              clear hab2
              cases vab
              · clear hst
                go_wp2_with fail
                go_roundw
                case rel => exact ⟨b + 1, by omega, by go_num, hb9⟩
                case measure => simp [intOf]; omega
              · have hst := hst rfl
                have hb69 := below_trans hb6 hb9
                obtain ⟨_, _, _, e0, _, hcm⟩ := (hS5.below hb69).open
                cases e0
                obtain ⟨bm, om, rfl, hcc⟩ := hcm (by intro e; rw [e] at hlt2; exact absurd hlt2 (Nat.not_lt_zero _))
                obtain ⟨f0, f1, f2, f3, f4⟩ := hcc a hlt2
                obtain ⟨g0, g1, g2, g3, g4⟩ := hcc b hlt3
                clear hcc hcm hua9
                generalize s.sent.getD a M.zero = ma at *
                generalize s.sent.getD b M.zero = mb at *
                have hA1 := fun o (h : Below wr.heap.size wr o) => hAh.out o (below_trans hb69 h) ma
                have hA2 := fun o (h : Below wr.heap.size wr o) => hAh.out o (below_trans hb69 h) mb
                have hff := hfst.out ma mb hst
                have hRr := hR4.keep (hb69.block _ hR4.lt)
                replace hst := Lib.hid hst
                unfold M.val at hA1 hA2
                generalize aheadK z ma = ka at *
                generalize aheadK z mb = kb at *
                generalize z.told.any (eqM ma) = fa at *
                generalize z.told.any (eqM mb) = fb at *
                replace hA1 := Lib.hid hA1
                replace hA2 := Lib.hid hA2
                go_upto_region 24 with fail
                obtain ⟨_, x0, x1, x2⟩ := id hRr
                have hSB : ∀ o, Below wr.heap.size wr o → o.cell? ⟨B4, 0, none⟩ = some (.slice ga4 Y.groups.length gcap4) ∧ o.cell? ⟨B4, 1, none⟩ = some (.slice na4 Y.nodes.length ncap4) ∧ o.cell? ⟨B4, 2, none⟩ = some (.slice wa4 Y.wires.length wcap4) ∧ o.cell? ⟨bm, om + a * 5, none⟩ = some (.int .i64 ma.src) ∧ o.cell? ⟨bm, om + a * 5 + 1, none⟩ = some (.int .i64 ma.grp) ∧ o.cell? ⟨bm, om + a * 5 + 2, none⟩ = some (.int .i64 ma.stamp) ∧ o.cell? ⟨bm, om + a * 5 + 3, none⟩ = some (.bool ma.null) ∧ o.cell? ⟨bm, om + a * 5 + 4, none⟩ = some (.string ma.body) := fun o k => ⟨(k.cell (cell_lt x0)).trans x0, (k.cell (cell_lt x1)).trans x1, (k.cell (cell_lt x2)).trans x2, (k.cell (cell_lt f0)).trans f0, (k.cell (cell_lt f1)).trans f1, (k.cell (cell_lt f2)).trans f2, (k.cell (cell_lt f3)).trans f3, (k.cell (cell_lt f4)).trans f4⟩
                clear x0 x1 x2
                refine wp_region_N (fun o => o.cell? ⟨B4, 0, none⟩ = some (.slice ga4 Y.groups.length gcap4) ∧ o.cell? ⟨B4, 1, none⟩ = some (.slice na4 Y.nodes.length ncap4) ∧ o.cell? ⟨B4, 2, none⟩ = some (.slice wa4 Y.wires.length wcap4) ∧ o.cell? ⟨bm, om + a * 5, none⟩ = some (.int .i64 ma.src) ∧ o.cell? ⟨bm, om + a * 5 + 1, none⟩ = some (.int .i64 ma.grp) ∧ o.cell? ⟨bm, om + a * 5 + 2, none⟩ = some (.int .i64 ma.stamp) ∧ o.cell? ⟨bm, om + a * 5 + 3, none⟩ = some (.bool ma.null) ∧ o.cell? ⟨bm, om + a * 5 + 4, none⟩ = some (.string ma.body)) 13 14 rfl (by kernel_rfl) (hSB _ (below_drewN wr 1)) (fun hSw => ?_)
                refine tk 0 ?_ rfl rfl (by kernel_rfl) (.inl ⟨by rfl, ?_⟩) hSw ?_
                rotate_left
                · rintro w ⟨s0, s1, s2, s3, s4, s5, s6, s7⟩; go_simp; try with_reducible rfl
                simp only [tkp, tkz, tks]
                refine tk 1 ?_ rfl rfl (by kernel_rfl) (.inl ⟨by rfl, ?_⟩) hSw ?_
                rotate_left
                · rintro w ⟨s0, s1, s2, s3, s4, s5, s6, s7⟩; go_simp; try with_reducible rfl
                simp only [tkp, tkz, tks]
                refine tk 2 ?_ rfl rfl (by kernel_rfl) (.inl ⟨by rfl, ?_⟩) hSw ?_
                rotate_left
                · rintro w ⟨s0, s1, s2, s3, s4, s5, s6, s7⟩; go_simp; try with_reducible rfl
                simp only [tkp, tkz, tks]
                refine tk 3 ?_ rfl rfl (by kernel_rfl) (.inl ⟨by rfl, ?_⟩) hSw ?_
                rotate_left
                · rintro w ⟨s0, s1, s2, s3, s4, s5, s6, s7⟩; go_simp; try with_reducible rfl
                simp only [tkp, tkz, tks]
                refine tk 4 ?_ rfl rfl (by kernel_rfl) (.inl ⟨by rfl, ?_⟩) hSw ?_
                rotate_left
                · rintro w ⟨s0, s1, s2, s3, s4, s5, s6, s7⟩; go_simp; try with_reducible rfl
                simp only [tkp, tkz, tks]
                refine tk 5 ?_ rfl rfl (by kernel_rfl) (.inl ⟨by rfl, ?_⟩) hSw ?_
                rotate_left
                · rintro w ⟨s0, s1, s2, s3, s4, s5, s6, s7⟩; go_simp; try with_reducible rfl
                simp only [tkp, tkz, tks]
                refine N_one' (i := 6) (by kernel_rfl) rfl ?_
                go_wp2_with fail
                refine (hA1.out _ (below_drewN wr 1)).mono ?_
                rintro e w7 ⟨rfl, c7⟩
                have c7 := below_trans (below_drewN wr 1) c7
                go_wp2_with fail
                refine QK_normal ⟨?_, ?_⟩
                · first | exact fun _ => hSB _ c7 | exact hSB _ c7
                have hSw := hSB _ c7
                refine tk 7 ?_ rfl rfl (by kernel_rfl) (.inl ⟨by rfl, ?_⟩) hSw ?_
                rotate_left
                · rintro w ⟨s0, s1, s2, s3, s4, s5, s6, s7⟩; go_simp; try with_reducible rfl
                simp only [tkp, tkz, tks]
                refine tk 8 ?_ rfl rfl (by kernel_rfl) (.inl ⟨by rfl, ?_⟩) hSw ?_
                rotate_left
                · rintro w ⟨s0, s1, s2, s3, s4, s5, s6, s7⟩; go_simp; try with_reducible rfl
                simp only [tkp, tkz, tks]
                refine tk 9 ?_ rfl rfl (by kernel_rfl) (.inl ⟨by rfl, ?_⟩) hSw ?_
                rotate_left
                · rintro w ⟨s0, s1, s2, s3, s4, s5, s6, s7⟩; go_simp; try with_reducible rfl
                simp only [tkp, tkz, tks]
                refine tk 10 ?_ rfl rfl (by kernel_rfl) (.inl ⟨by rfl, ?_⟩) hSw ?_
                rotate_left
                · rintro w ⟨s0, s1, s2, s3, s4, s5, s6, s7⟩; go_simp; try with_reducible rfl
                simp only [tkp, tkz, tks]
                refine tk 11 ?_ rfl rfl (by kernel_rfl) (.inl ⟨by rfl, ?_⟩) hSw ?_
                rotate_left
                · rintro w ⟨s0, s1, s2, s3, s4, s5, s6, s7⟩; go_simp; try with_reducible rfl
                simp only [tkp, tkz, tks]
                refine tk 12 ?_ rfl rfl (by kernel_rfl) (.inl ⟨by rfl, ?_⟩) hSw ?_
                rotate_left
                · rintro w ⟨s0, s1, s2, s3, s4, s5, s6, s7⟩; go_simp; try with_reducible rfl
                simp only [tkp, tkz, tks]
                refine N_rest 13 1 (Nat.le_refl _) rfl (by kernel_rfl) ?_
                simp only [List.drop_succ_cons, List.drop_zero]
                clear hSB hSw
                have hRr := hRr.keep (c7.block _ hRr.lt)
                have g0 := (c7.cell (cell_lt g0)).trans g0
                have g1 := (c7.cell (cell_lt g1)).trans g1
                have g2 := (c7.cell (cell_lt g2)).trans g2
                have g3 := (c7.cell (cell_lt g3)).trans g3
                have g4 := (c7.cell (cell_lt g4)).trans g4
                have c8 := c7
                clear f0 f1 f2 f3 f4 c7
                go_upto_region 25 with fail
                obtain ⟨_, x0, x1, x2⟩ := id hRr
                have hSB : ∀ o, Below w7.heap.size w7 o → o.cell? ⟨B4, 0, none⟩ = some (.slice ga4 Y.groups.length gcap4) ∧ o.cell? ⟨B4, 1, none⟩ = some (.slice na4 Y.nodes.length ncap4) ∧ o.cell? ⟨B4, 2, none⟩ = some (.slice wa4 Y.wires.length wcap4) ∧ o.cell? ⟨bm, om + b * 5, none⟩ = some (.int .i64 mb.src) ∧ o.cell? ⟨bm, om + b * 5 + 1, none⟩ = some (.int .i64 mb.grp) ∧ o.cell? ⟨bm, om + b * 5 + 2, none⟩ = some (.int .i64 mb.stamp) ∧ o.cell? ⟨bm, om + b * 5 + 3, none⟩ = some (.bool mb.null) ∧ o.cell? ⟨bm, om + b * 5 + 4, none⟩ = some (.string mb.body) := fun o k => ⟨(k.cell (cell_lt x0)).trans x0, (k.cell (cell_lt x1)).trans x1, (k.cell (cell_lt x2)).trans x2, (k.cell (cell_lt g0)).trans g0, (k.cell (cell_lt g1)).trans g1, (k.cell (cell_lt g2)).trans g2, (k.cell (cell_lt g3)).trans g3, (k.cell (cell_lt g4)).trans g4⟩
                clear x0 x1 x2
                refine wp_region_N (fun o => o.cell? ⟨B4, 0, none⟩ = some (.slice ga4 Y.groups.length gcap4) ∧ o.cell? ⟨B4, 1, none⟩ = some (.slice na4 Y.nodes.length ncap4) ∧ o.cell? ⟨B4, 2, none⟩ = some (.slice wa4 Y.wires.length wcap4) ∧ o.cell? ⟨bm, om + b * 5, none⟩ = some (.int .i64 mb.src) ∧ o.cell? ⟨bm, om + b * 5 + 1, none⟩ = some (.int .i64 mb.grp) ∧ o.cell? ⟨bm, om + b * 5 + 2, none⟩ = some (.int .i64 mb.stamp) ∧ o.cell? ⟨bm, om + b * 5 + 3, none⟩ = some (.bool mb.null) ∧ o.cell? ⟨bm, om + b * 5 + 4, none⟩ = some (.string mb.body)) 13 14 rfl (by kernel_rfl) (hSB _ (below_drewN w7 1)) (fun hSw => ?_)
                refine tk 0 ?_ rfl rfl (by kernel_rfl) (.inl ⟨by rfl, ?_⟩) hSw ?_
                rotate_left
                · rintro w ⟨s0, s1, s2, s3, s4, s5, s6, s7⟩; go_simp; try with_reducible rfl
                simp only [tkp, tkz, tks]
                refine tk 1 ?_ rfl rfl (by kernel_rfl) (.inl ⟨by rfl, ?_⟩) hSw ?_
                rotate_left
                · rintro w ⟨s0, s1, s2, s3, s4, s5, s6, s7⟩; go_simp; try with_reducible rfl
                simp only [tkp, tkz, tks]
                refine tk 2 ?_ rfl rfl (by kernel_rfl) (.inl ⟨by rfl, ?_⟩) hSw ?_
                rotate_left
                · rintro w ⟨s0, s1, s2, s3, s4, s5, s6, s7⟩; go_simp; try with_reducible rfl
                simp only [tkp, tkz, tks]
                refine tk 3 ?_ rfl rfl (by kernel_rfl) (.inl ⟨by rfl, ?_⟩) hSw ?_
                rotate_left
                · rintro w ⟨s0, s1, s2, s3, s4, s5, s6, s7⟩; go_simp; try with_reducible rfl
                simp only [tkp, tkz, tks]
                refine tk 4 ?_ rfl rfl (by kernel_rfl) (.inl ⟨by rfl, ?_⟩) hSw ?_
                rotate_left
                · rintro w ⟨s0, s1, s2, s3, s4, s5, s6, s7⟩; go_simp; try with_reducible rfl
                simp only [tkp, tkz, tks]
                refine tk 5 ?_ rfl rfl (by kernel_rfl) (.inl ⟨by rfl, ?_⟩) hSw ?_
                rotate_left
                · rintro w ⟨s0, s1, s2, s3, s4, s5, s6, s7⟩; go_simp; try with_reducible rfl
                simp only [tkp, tkz, tks]
                refine N_one' (i := 6) (by kernel_rfl) rfl ?_
                go_wp2_with fail
                refine (hA2.out _ (below_trans c8 (below_drewN w7 1))).mono ?_
                rintro e w8 ⟨rfl, c7⟩
                have c7 := below_trans (below_drewN w7 1) c7
                go_wp2_with fail
                refine QK_normal ⟨?_, ?_⟩
                · first | exact fun _ => hSB _ c7 | exact hSB _ c7
                have hSw := hSB _ c7
                refine tk 7 ?_ rfl rfl (by kernel_rfl) (.inl ⟨by rfl, ?_⟩) hSw ?_
                rotate_left
                · rintro w ⟨s0, s1, s2, s3, s4, s5, s6, s7⟩; go_simp; try with_reducible rfl
                simp only [tkp, tkz, tks]
                refine tk 8 ?_ rfl rfl (by kernel_rfl) (.inl ⟨by rfl, ?_⟩) hSw ?_
                rotate_left
                · rintro w ⟨s0, s1, s2, s3, s4, s5, s6, s7⟩; go_simp; try with_reducible rfl
                simp only [tkp, tkz, tks]
                refine tk 9 ?_ rfl rfl (by kernel_rfl) (.inl ⟨by rfl, ?_⟩) hSw ?_
                rotate_left
                · rintro w ⟨s0, s1, s2, s3, s4, s5, s6, s7⟩; go_simp; try with_reducible rfl
                simp only [tkp, tkz, tks]
                refine tk 10 ?_ rfl rfl (by kernel_rfl) (.inl ⟨by rfl, ?_⟩) hSw ?_
                rotate_left
                · rintro w ⟨s0, s1, s2, s3, s4, s5, s6, s7⟩; go_simp; try with_reducible rfl
                simp only [tkp, tkz, tks]
                refine tk 11 ?_ rfl rfl (by kernel_rfl) (.inl ⟨by rfl, ?_⟩) hSw ?_
                rotate_left
                · rintro w ⟨s0, s1, s2, s3, s4, s5, s6, s7⟩; go_simp; try with_reducible rfl
                simp only [tkp, tkz, tks]
                refine tk 12 ?_ rfl rfl (by kernel_rfl) (.inl ⟨by rfl, ?_⟩) hSw ?_
                rotate_left
                · rintro w ⟨s0, s1, s2, s3, s4, s5, s6, s7⟩; go_simp; try with_reducible rfl
                simp only [tkp, tkz, tks]
                refine N_rest 13 1 (Nat.le_refl _) rfl (by kernel_rfl) ?_
                simp only [List.drop_succ_cons, List.drop_zero]
                clear hSB hSw
                have c9 := below_trans hb9 (below_trans c8 c7)
                clear g0 g1 g2 g3 g4 hRr hA1 hA2
                have qk : fa = true → fb = true → decide (ka ≤ kb) = false := fun h1 h2 => decide_eq_false (by have := hff h1 h2; omega)
                clear hff
                cases fa
                · clear qk
                  go_wp2_with fail
                  go_roundw
                  case rel => exact ⟨b + 1, by omega, by go_num, c9⟩
                  case measure => simp [intOf]; omega
                cases fb
                · clear qk
                  go_wp2_with fail
                  go_roundw
                  case rel => exact ⟨b + 1, by omega, by go_num, c9⟩
                  case measure => simp [intOf]; omega
                · have qk := qk rfl rfl
                  go_wp2_with fail
                  go_roundw
                  case rel => exact ⟨b + 1, by omega, by go_num, c9⟩
                  case measure => simp [intOf]; omega
            · obtain rfl : b = s.sent.length := by omega
              go_wp2_with fail
              go_roundw
              case rel => exact ⟨a + 1, by omega, by go_num, below_trans hb6 hb9⟩
              case measure => simp [intOf]; omega
        · obtain rfl : a = s.sent.length := by omega
          go_wp2_with fail
          refine (causeBegun_c _).mono ?_
          rintro e w7 ⟨rfl, b7⟩
          go_wp2_with fail
          go_ret
          exact ⟨ret_bool (by simp), below_trans (below_trans b5 hb6) b7⟩
end Go.Proofs.Ytnalakhelicjcaa
