/-
  LogKept: wherever a log is cut, what is recovered is what was done by the acts that are whole, and is right.
-/
import Derived.Test.YtnalakhelicjcaaGreatLAr
import Derived.Test.YtnalakhelicjcaaGreatLgB
import Derived.Test.YtnalakhelicjcaaGreatSW
import Derived.Test.YtnalakhelicjcaaGreatChs
set_option maxRecDepth 100000
namespace Go.Proofs.YtnalakhelicjcaaGreat
open Go.RowKit Go.Shelf Go.BigFrame

theorem infoCInt8 : (Tryz.prog.info? 3).map (fun i => (i.zero, i.size, i.bytes)) = some (some (.int .i64 0), 1, 8) := by kernel_rfl
/-- Where the acts end. -/
def endsA (l : List Ac) (n : Nat) : List Int := (List.range n).map fun i => ((catA (l.take (i + 1))).size : Int)
theorem endsA_snoc (l : List Ac) (n : Nat) : endsA l (n + 1) = endsA l n ++ [((catA (l.take (n + 1))).size : Int)] := by
  unfold endsA
  rw [List.range_succ, List.map_append]
  rfl
theorem endsA_len (l : List Ac) (n : Nat) : (endsA l n).length = n := by simp [endsA]
theorem endsA_at {l : List Ac} {n i : Nat} (h : i < n) : (endsA l n).getD i 0 = ((catA (l.take (i + 1))).size : Int) := by
  unfold endsA
  rw [List.getD_eq_getElem?_getD, List.getElem?_map, List.getElem?_range h]
  rfl
theorem write_small {x : Ac} (h : writeE x = 0) : (writeS x).size ≤ 259 := by
  have h2 := (write_ok h).1 3 (by omega)
  have h3 : (actNums x).getD 3 0 = (x.body.size : Int) := rfl
  rw [h3] at h2
  simp only [badB, Bool.or_eq_false_iff, decide_eq_false_iff_not] at h2
  rw [write_size h]
  omega
theorem Acts.takes {w : World} {a : Option Addr} {cap : Nat} {l : List Ac} (h : Acts w (.slice a l.length cap) l) {k : Nat} (hk : k ≤ l.length) : Acts w (.slice a k cap) (l.take k) := by
  obtain ⟨css, h1, h2, h3, h4⟩ := h
  obtain ⟨r1, r2, a', cap', e, r4, r5⟩ := h3
  cases e
  have hl : (l.take k).length = k := by rw [List.length_take]; omega
  have hfl : ∀ c : List (List Value), (∀ x ∈ c, x.length = 4) → c.flatten.length = c.length * 4 := fun c hc => by
    induction c with
    | nil => rfl
    | cons x c ih =>
      rw [List.flatten_cons, List.length_append, ih (fun y hy => hc y (List.mem_cons_of_mem _ hy)), hc x (by simp), List.length_cons]
      omega
  have hc4 : ∀ x ∈ css.take k, x.length = 4 := fun x hx => h2 x (List.mem_of_mem_take hx)
  have hk2 : (css.take k).length = k := by rw [List.length_take]; omega
  have hft := hfl _ hc4
  rw [hk2] at hft
  have hpre : (css.take k).flatten = css.flatten.take (k * 4) := by
    have e : css.flatten = (css.take k).flatten ++ (css.drop k).flatten := by rw [← List.flatten_append, List.take_append_drop]
    rw [e, List.take_left' hft]
  refine ⟨css.take k, by rw [hk2, hl], hc4, ⟨by rw [hft, hl], by rw [hft]; omega, a, cap, by rw [hl], by omega, fun hn => ?_⟩, fun i hi1 hi2 => ?_⟩
  · rw [hl] at hn
    obtain ⟨b, off, ha, hc⟩ := r5 (by omega)
    refine ⟨b, off, ha, fun j hj => ?_⟩
    rw [hft] at hj
    rw [hc j (by omega), hpre, List.getD_eq_getElem?_getD, List.getD_eq_getElem?_getD, List.getElem?_take_of_lt hj]
  · rw [List.getElem_take, List.getElem_take]
    exact h4 i (by rw [hk2] at hi1; omega) (by rw [hl] at hi2; omega)

set_option maxHeartbeats 1000000 in
theorem LogKept_walk_of (w : World) {nodes cut : Int} {gv av : Value} {gs : List Int} {l : List Ac} (_hn64 : I64 nodes) (hg : Ints w gv gs) (ha : Acts w av l) (hc64 : I64 cut) :
    Calls Tryz.prog 5 #[.int .i64 nodes, gv, av, .int .i64 cut] w (GivesB (.bool true) w) := by
  have hGE := GroupsError_c hg nodes
  have hRc := fun o (h : Below w.heap.size w o) t => Recover_c (hg.below h) nodes t
  have hDn := fun (n : Nat) (hn : n ≤ 4) (hgl : gs.length ≤ 1000) o v l (h : Below w.heap.size w o) (ha : Acts o v l) => DoneOf_c (n := n) (hg.below h) (by omega) hgl ha (fun _ _ _ _ _ _ h => CalmOf_c h)
  have hgs := fun h => gErr_small (nodes := nodes) (gs := gs) h
  have hCut := fun h1 h2 h3 h4 k => recF_cut (nodes := nodes) (gs := gs) (l := l) (k := k) h1 h2 h3 h4
  have hWi := fun k i (h : i < l.length) => wholeA_iff l k i h
  have hWl := fun k => wholeA_le l k
  have hNx := fun k (h : k < l.length) => catA_next h
  obtain ⟨hal, aa, acap, rfl, hac⟩ := ha.form
  obtain ⟨_, ga, gcap, rfl, _⟩ := hg.open
  obtain ⟨i0, hi0, hz0, hz1, hz2⟩ := info_parts infoCInt8
  generalize gErr nodes gs = e0 at *
  clear hg
  replace hRc := Lib.hid hRc
  replace hDn := Lib.hid hDn
  replace hgs := Lib.hid hgs
  replace hCut := Lib.hid hCut
  replace hWi := Lib.hid hWi
  replace hWl := Lib.hid hWl
  replace hNx := Lib.hid hNx
  go_enter Tryz.func5, Tryz.ntmps5
  by_cases h40 : l.length ≤ 40
  rotate_left
  · have q1 : decide ((40 : Int) < (l.length : Int)) = true := decide_eq_true (by omega)
    replace h40 := Lib.hid h40
    go_wp2_with fail
    refine (logBegun_c _).mono ?_
    rintro e wG ⟨rfl, bG⟩
    go_wp2_with fail
    go_ret
    exact ⟨ret_bool (by simp), below_trans (Below.refl _ _) bG⟩
  have q1 : decide ((40 : Int) < (l.length : Int)) = false := decide_eq_false (by omega)
  by_cases h0 : e0 = 0
  rotate_left
  · have q2 : (e0 != 0) = true := by simpa using h0
    replace h0 := Lib.hid h0
    go_wp2_with fail
    refine hGE.mono ?_
    rintro e w1 ⟨rfl, d1⟩
    have b1 := d1.below
    clear d1
    go_wp2_with fail
    refine (logBegun_c _).mono ?_
    rintro e wG ⟨rfl, bG⟩
    go_wp2_with fail
    go_ret
    exact ⟨ret_bool (by simp), below_trans b1 bG⟩
  subst h0
  have hgs := hgs.out rfl
  have hCu := Lib.hid (hCut.out rfl h40)
  clear hCut
  go_wp2_with fail
  refine hGE.mono ?_
  rintro e w1 ⟨rfl, d1⟩
  have b1 := d1.below
  clear d1 hGE
  go_wp2_with fail
  go_loopw [9, 10, 11] (fun s o i wr => ∃ k : Nat, k ≤ l.length ∧ i = .int .i64 k ∧ s = .string (catA (l.take k)) ∧ (catA (l.take k)).size ≤ 259 * k ∧ Hid (∀ j, j < k → writeE (l.getD j Ac.zero) = 0) ∧ wr.ownsRow w.heap.size 3 1 o k ((endsA l k).map (Value.int .i64)) ∧ Below w.heap.size w wr) (fun _ _ i _ => l.length - (intOf i).toNat)
  case atStart => exact ⟨0, by omega, rfl, rfl, Nat.le_refl _, fun j hj => absurd hj (Nat.not_lt_zero _), World.ownsRow_nil _ _ _ _, b1⟩
  case round =>
    clear b1
    obtain ⟨k, hk, rfl, rfl, hz, hno, ho, hb⟩ := hrel
    obtain ⟨a9, c9, rfl⟩ := own_form ho
    have hsr := hb.size
    by_cases hlt : k < l.length
    · obtain ⟨ab, ao, acap', e, _, hbox, hfit⟩ := (ha.below hb).at hlt
      cases e
      have hnx := hNx.out k hlt
      obtain ⟨x, hx⟩ : ∃ x, l.getD k Ac.zero = x := ⟨_, rfl⟩
      rw [hx] at hbox hfit hnx
      replace hx := Lib.hid hx
      have hWr := Write_c wr hfit
      have hsm := fun h => write_small (x := x) h
      obtain ⟨s1, hs1⟩ : ∃ s, catA (l.take k) = s := ⟨_, rfl⟩
      obtain ⟨s2, hs2⟩ : ∃ s, catA (l.take (k + 1)) = s := ⟨_, rfl⟩
      rw [hs1] at hz
      rw [hs1, hs2] at hnx
      simp only [hs1] at ⊢
      replace hs1 := Lib.hid hs1
      replace hs2 := Lib.hid hs2
      generalize writeS x = bs at *
      obtain ⟨f0, hf0⟩ : ∃ f, writeE x = f := ⟨_, rfl⟩
      rw [hf0] at hWr hsm
      have hee : Hid (f0 = writeE x) := Lib.hid hf0.symm
      clear hf0
      unfold Ac.val at hWr
      obtain ⟨m0, m1, m2, m3⟩ := hbox
      have hk1 : decide ((k : Int) < 0) = false := by simp
      have hk2 : decide (l.length ≤ k) = false := by simp; omega
      by_cases hf : f0 = 0
      rotate_left
      · have q2 : (f0 != 0) = true := by simpa using hf
        replace hf := Lib.hid hf
        replace hnx := Lib.hid hnx
        replace hsm := Lib.hid hsm
        go_wp2_with fail
        refine hWr.mono ?_
        rintro e w3 ⟨rfl, b3⟩
        have b3 := below_trans hb b3
        go_wp2_with fail
        refine (logBegun_c _).mono ?_
        rintro e wG ⟨rfl, bG⟩
        go_wp2_with fail
        go_ret
        exact ⟨ret_bool (by simp), below_trans b3 bG⟩
      have hsm2 := hsm hf
      rw [hf] at hee hWr
      replace hee : Hid (writeE x = 0) := Lib.hid hee.out.symm
      clear hf
      have hzz : (s1 ++ bs).size = s1.size + bs.size := ByteArray.size_append
      replace hnx := Lib.hid hnx
      clear hsm
      have hw3' : ∀ w3, Below wr.heap.size wr w3 → Below w.heap.size w w3 := fun w3 h => below_trans hb h
      go_wp2_with fail
      refine hWr.mono ?_
      rintro e w3 ⟨rfl, b3⟩
      have ho3 := owns_below ho b3
      have b4 := below_trans hb b3
      have hs4 := b4.size
      clear hw3' hWr m0 m1 m2 m3
      go_wp2_with (at_builtin; refine wpList_append_own _ rfl _ _ 33 rfl w.heap.size 3 i0 _ 1 8 Tryz.underlying33 hi0 hz0 hz1 hz2 rfl (by decide) (.slice a9 k c9) k ((endsA l k).map (Value.int .i64)) rfl (ho3.alloc _) ⟨w3.heap.size, 0, none⟩ 1 1 [.int .i64 ((s1.size : Int) + (bs.size : Int))] rfl rfl (cells_new _ _ _) (by simp [Value.oneCell']) (by unfold maxLen; omega) (by omega) (by simp; omega) ?_; intro v' w5 hown' hgrow _)
      go_roundw
      case rel =>
        refine ⟨k + 1, by omega, by go_num, by rw [hs2.out, hnx.out], ?_, ?_, ?_, ?_⟩
        · rw [hs2.out, hnx.out]
          omega
        · exact Lib.hid (fun j hj => by
            rcases Nat.lt_succ_iff_lt_or_eq.1 hj with h | rfl
            · exact hno.out j h
            · rw [hx.out]; exact hee.out)
        · rw [endsA_snoc, List.map_append]
          have e : ((catA (l.take (k + 1))).size : Int) = (s1.size : Int) + (bs.size : Int) := by rw [hs2.out, hnx.out, hzz]; simp
          rw [e]
          exact hown'
        · exact (below_trans b4 (below_a1 w3 _)).grown hgrow (by rw [World.size_alloc]; omega) (fun k e => by have := (ho3.lt k e).1; omega)
      case measure => simp [intOf]; omega
    · obtain rfl : k = l.length := by omega
      rw [List.take_length] at hz ⊢
      have hall : ∀ x ∈ l, writeE x = 0 := fun x hx => by
        obtain ⟨i, hi, rfl⟩ := List.mem_iff_getElem.1 hx
        rw [← getD_lt l Ac.zero hi]
        exact hno.out i hi
      have hCut := hCu.out hall
      obtain ⟨es, hes⟩ : ∃ es, endsA l l.length = es := ⟨_, rfl⟩
      have hel : es.length = l.length := by rw [← hes, endsA_len]
      have hea : ∀ i, i < l.length → es.getD i 0 = ((catA (l.take (i + 1))).size : Int) := fun i hi => by rw [← hes]; exact endsA_at hi
      rw [hes] at ho
      clear hes hno hall hNx
      obtain ⟨s1, hs1⟩ : ∃ s, catA l = s := ⟨_, rfl⟩
      simp only [hs1] at hz hCut ⊢
      clear hs1
      by_cases hz4 : s1.size ≤ 4096
      rotate_left
      · have q : decide ((4096 : Int) < (s1.size : Int)) = true := decide_eq_true (by omega)
        replace hz4 := Lib.hid hz4
        replace hz := Lib.hid hz
        replace hCut := Lib.hid hCut
        go_wp2_with fail
        refine (logBegun_c _).mono ?_
        rintro e wG ⟨rfl, bG⟩
        go_wp2_with fail
        go_ret
        exact ⟨ret_bool (by simp), below_trans hb bG⟩
      have q : decide ((4096 : Int) < (s1.size : Int)) = false := decide_eq_false (by omega)
      have hCut := hCut hz4
      have hC := choose_big wr hc64 (n := s1.size + 1) (by omega) (by omega)
      have hcl := chooseN_lt (c := cut) (n := s1.size + 1) (by omega)
      have e1 : ((s1.size + 1 : Nat) : Int) = (s1.size : Int) + 1 := by omega
      rw [e1] at hC
      clear e1
      generalize chooseN cut (s1.size + 1) = c at *
      have hWl := hWl.out c
      have hWi := hWi.out c
      have hCut := hCut c
      have hws : IntKind.i64.wrap ((s1.size : Int) + 1) = (s1.size : Int) + 1 := IntWalk.i64_in _ (by omega)
      replace hz := Lib.hid hz
      replace hz4 := Lib.hid hz4
      replace hCut := Lib.hid hCut
      replace hWi := Lib.hid hWi
      go_wp2_with fail
      refine hC.mono ?_
      rintro e w' ⟨rfl, h⟩; subst h
      have hro := Row.of_owns ho (by simp [hel]; omega)
      have hk1 : ∀ j : Nat, decide ((j : Int) < 0) = false := fun j => by simp
      obtain ⟨whole, hwh⟩ : ∃ n, wholeA c l = n := ⟨_, rfl⟩
      rw [hwh] at hWl hWi hCut
      replace hwh := Lib.hid hwh
      clear hC
      go_wp2_with fail
      go_loopw [15] (fun i w' => ∃ j : Nat, j ≤ whole ∧ i = .int .i64 j ∧ w' = wr) (fun i _ => l.length - (intOf i).toNat)
      case atStart => exact ⟨0, by omega, rfl, rfl⟩
      case round =>
        obtain ⟨j, hj, rfl, rfl⟩ := hrel
        by_cases hjl : j < l.length
        · obtain ⟨_, _, a', cap', e1, _, hcell⟩ := hro
          cases e1
          obtain ⟨b, off, rfl, hcl⟩ := hcell (by omega)
          have hcj := hcl j (by rw [List.length_map, hel]; exact hjl)
          rw [List.getD_eq_getElem?_getD, List.getElem?_map, List.getElem?_eq_getElem (by rw [hel]; exact hjl)] at hcj
          replace hcj : wr.cell? ⟨b, off + j, none⟩ = some (.int .i64 (es.getD j 0)) := by rw [hcj, getD_lt es 0 (by rw [hel]; exact hjl)]; rfl
          rw [hea j hjl] at hcj
          have hwj := hWi.out j hjl
          have hk2 : decide (l.length ≤ j) = false := by simp; omega
          have hk3 := hk1 j
          generalize (catA (l.take (j + 1))).size = sz at *
          by_cases hjw : j < whole
          · have q3 : decide (sz ≤ c) = true := decide_eq_true (hwj.2 hjw)
            clear hwj hcl hcell
            go_wp2_with fail
            go_roundw
            case rel => exact ⟨j + 1, by omega, by go_num, by first | rfl | trivial⟩
            case measure => simp [intOf]; omega
          · have q3 : decide (sz ≤ c) = false := decide_eq_false (mt hwj.1 hjw)
            obtain rfl : j = whole := by omega
            clear hwj hcl hcell
            go_upto_region 19 with fail
            obtain ⟨n, rfl⟩ := Int.eq_ofNat_of_zero_le (show 0 ≤ nodes by have h := hgs.out trivial; omega)
            have hgs := hgs.out trivial
            have hR0 := hRc.out wr hb (s1.extract 0 c)
            obtain ⟨hC1, hC2⟩ := hCut.out
            rw [Int.toNat_natCast] at hC1 hC2
            generalize recF (n : Int) gs (s1.extract 0 c) = r at *
            have p1 : (r.1 == 0) = true := by rw [hC1]; rfl
            have p2 : (r.2.1 == (j : Int)) = true := by rw [hC1]; simp
            have p3 : r.2.2 = doneF (beginX n gs) (l.take j) := by rw [hC1]
            have p4 : errX r.2.2 = 0 := by rw [p3]; exact hC2
            have hD := fun o (h : Below w.heap.size w o) => hDn.out n (by omega) (by omega) o _ (l.take j) h ((ha.below h).takes (k := j) hWl)
            rw [← p3] at hD
            replace hC1 := Lib.hid hC1
            replace hC2 := Lib.hid hC2
            replace p3 := Lib.hid p3
            replace p4 := Lib.hid p4
            replace hD := Lib.hid hD
            clear hCu hgs hDn hRc hCut hWi ho hea
            go_wp2_with fail
            refine hR0.mono ?_
            clear hR0
            rintro e w6 ⟨gv6, nv6, wv6, S6, rfl, hO6, hS6, b6⟩
            obtain ⟨pg, pn, pw⟩ := hO6.parts
            obtain ⟨_, ga6, gcap6, rfl, _⟩ := pg.open
            obtain ⟨_, na6, ncap6, rfl, _⟩ := pn.form
            obtain ⟨_, wa6, wcap6, rfl, _⟩ := pw.form
            clear pg pn pw
            have hR6 := OBox.new w6 37 (.slice ga6 r.2.2.groups.length gcap6) (.slice na6 r.2.2.nodes.length ncap6) (.slice wa6 r.2.2.wires.length wcap6)
            have bx6 := below_a1 w6 (.cells #[.slice ga6 r.2.2.groups.length gcap6, .slice na6 r.2.2.nodes.length ncap6, .slice wa6 r.2.2.wires.length wcap6] 37)
            have hW6 := hO6.world.below bx6
            go_upto_region 20 with fail
            generalize w6.alloc (.cells #[.slice ga6 r.2.2.groups.length gcap6, .slice na6 r.2.2.nodes.length ncap6, .slice wa6 r.2.2.wires.length wcap6] 37) = w7 at *
            obtain ⟨B6, hB6⟩ : ∃ B, w6.heap.size = B := ⟨_, rfl⟩
            simp only [hB6] at hR6 ⊢
            clear hB6
            have b7 := below_trans hb (below_trans b6 bx6)
            clear hO6 hS6 b6 bx6 hb
            have hSB : ∀ o, Below w7.heap.size w7 o → o.cell? ⟨B6, 0, none⟩ = some (.slice ga6 r.2.2.groups.length gcap6) ∧ o.cell? ⟨B6, 1, none⟩ = some (.slice na6 r.2.2.nodes.length ncap6) ∧ o.cell? ⟨B6, 2, none⟩ = some (.slice wa6 r.2.2.wires.length wcap6) := fun o h => (hR6.keep (h.block _ hR6.lt)).2
            refine wp_region_N (fun w' => w'.cell? ⟨B6, 0, none⟩ = some (.slice ga6 r.2.2.groups.length gcap6) ∧ w'.cell? ⟨B6, 1, none⟩ = some (.slice na6 r.2.2.nodes.length ncap6) ∧ w'.cell? ⟨B6, 2, none⟩ = some (.slice wa6 r.2.2.wires.length wcap6)) 23 26 rfl (by kernel_rfl) (hSB _ (below_drewN w7 1)) (fun hSw => ?_)
            refine N_one' (i := 0) (by kernel_rfl) rfl ?_
            go_wp2_with fail
            refine (logBegun_c _).mono ?_
            rintro e w8 ⟨rfl, b8⟩
            have b8 := below_trans (below_drewN w7 1) b8
            go_wp2_with fail
            refine QK_normal ⟨?_, ?_⟩
            · first | exact fun _ => hSB _ b8 | exact hSB _ b8
            have hSw := hSB _ b8
            refine tk 1 ?_ rfl rfl (by kernel_rfl) (.inl ⟨by rfl, ?_⟩) hSw ?_
            rotate_left
            · rintro w ⟨s0, s1, s2⟩; go_simp; try with_reducible rfl
            simp only [tkp, tkz, tks]
            refine tk 2 ?_ rfl rfl (by kernel_rfl) (.inl ⟨by rfl, ?_⟩) hSw ?_
            rotate_left
            · rintro w ⟨s0, s1, s2⟩; go_simp; try with_reducible rfl
            simp only [tkp, tkz, tks]
            refine tk 3 ?_ rfl rfl (by kernel_rfl) (.inl ⟨by rfl, ?_⟩) hSw ?_
            rotate_left
            · rintro w ⟨s0, s1, s2⟩; go_simp; try with_reducible rfl
            simp only [tkp, tkz, tks]
            refine tk 4 ?_ rfl rfl (by kernel_rfl) (.inl ⟨by rfl, ?_⟩) hSw ?_
            rotate_left
            · rintro w ⟨s0, s1, s2⟩; go_simp; try with_reducible rfl
            simp only [tkp, tkz, tks]
            refine tk 5 ?_ rfl rfl (by kernel_rfl) (.inl ⟨by rfl, ?_⟩) hSw ?_
            rotate_left
            · rintro w ⟨s0, s1, s2⟩; go_simp; try with_reducible rfl
            simp only [tkp, tkz, tks]
            refine tk 6 ?_ rfl rfl (by kernel_rfl) (.inl ⟨by rfl, ?_⟩) hSw ?_
            rotate_left
            · rintro w ⟨s0, s1, s2⟩; go_simp; try with_reducible rfl
            simp only [tkp, tkz, tks]
            refine tk 7 ?_ rfl rfl (by kernel_rfl) (.inl ⟨by rfl, ?_⟩) hSw ?_
            rotate_left
            · rintro w ⟨s0, s1, s2⟩; go_simp; try with_reducible rfl
            simp only [tkp, tkz, tks]
            refine tk 8 ?_ rfl rfl (by kernel_rfl) (.inl ⟨by rfl, ?_⟩) hSw ?_
            rotate_left
            · rintro w ⟨s0, s1, s2⟩; go_simp; try with_reducible rfl
            simp only [tkp, tkz, tks]
            refine tk 9 ?_ rfl rfl (by kernel_rfl) (.inl ⟨by rfl, ?_⟩) hSw ?_
            rotate_left
            · rintro w ⟨s0, s1, s2⟩; go_simp; try with_reducible rfl
            simp only [tkp, tkz, tks]
            refine tk 10 ?_ rfl rfl (by kernel_rfl) (.inl ⟨by rfl, ?_⟩) hSw ?_
            rotate_left
            · rintro w ⟨s0, s1, s2⟩; go_simp; try with_reducible rfl
            simp only [tkp, tkz, tks]
            refine tk 11 ?_ rfl rfl (by kernel_rfl) (.inl ⟨by rfl, ?_⟩) hSw ?_
            rotate_left
            · rintro w ⟨s0, s1, s2⟩; go_simp; try with_reducible rfl
            simp only [tkp, tkz, tks]
            have hWc := WCheck_c (hW6.below b8)
            rw [p4.out] at hWc
            refine N_one' (i := 12) (by kernel_rfl) rfl ?_
            go_wp2_with fail
            refine hWc.mono ?_
            rintro e w9 ⟨rfl, b9⟩
            have b9 := below_trans b8 b9
            clear hWc
            go_wp2_with fail
            refine QK_normal ⟨?_, ?_⟩
            · first | exact fun _ => hSB _ b9 | exact hSB _ b9
            have hSw := hSB _ b9
            have hcp : j ≤ acap := by omega
            refine tk 13 ?_ rfl rfl (by kernel_rfl) (.inl ⟨by rfl, ?_⟩) hSw ?_
            rotate_left
            · rintro w ⟨s0, s1, s2⟩; go_simp; try with_reducible rfl
            simp only [tkp, tkz, tks]
            refine tk 14 ?_ rfl rfl (by kernel_rfl) (.inl ⟨by rfl, ?_⟩) hSw ?_
            rotate_left
            · rintro w ⟨s0, s1, s2⟩; go_simp; try with_reducible rfl
            simp only [tkp, tkz, tks]
            refine tk 15 ?_ rfl rfl (by kernel_rfl) (.inl ⟨by rfl, ?_⟩) hSw ?_
            rotate_left
            · rintro w ⟨s0, s1, s2⟩; go_simp; try with_reducible rfl
            simp only [tkp, tkz, tks]
            refine tk 16 ?_ rfl rfl (by kernel_rfl) (.inl ⟨by rfl, ?_⟩) hSw ?_
            rotate_left
            · rintro w ⟨s0, s1, s2⟩; go_simp; try with_reducible rfl
            simp only [tkp, tkz, tks]
            refine tk 17 ?_ rfl rfl (by kernel_rfl) (.inl ⟨by rfl, ?_⟩) hSw ?_
            rotate_left
            · rintro w ⟨s0, s1, s2⟩; go_simp; try with_reducible rfl
            simp only [tkp, tkz, tks]
            refine tk 18 ?_ rfl rfl (by kernel_rfl) (.inl ⟨by rfl, ?_⟩) hSw ?_
            rotate_left
            · rintro w ⟨s0, s1, s2⟩; go_simp; try with_reducible rfl
            simp only [tkp, tkz, tks]
            refine tk 19 ?_ rfl rfl (by kernel_rfl) (.inl ⟨by rfl, ?_⟩) hSw ?_
            rotate_left
            · rintro w ⟨s0, s1, s2⟩; go_simp; try with_reducible rfl
            simp only [tkp, tkz, tks]
            refine tk 20 ?_ rfl rfl (by kernel_rfl) (.inl ⟨by rfl, ?_⟩) hSw ?_
            rotate_left
            · rintro w ⟨s0, s1, s2⟩; go_simp; try with_reducible rfl
            simp only [tkp, tkz, tks]
            refine tk 21 ?_ rfl rfl (by kernel_rfl) (.inl ⟨by rfl, ?_⟩) hSw ?_
            rotate_left
            · rintro w ⟨s0, s1, s2⟩; go_simp; try with_reducible rfl
            simp only [tkp, tkz, tks]
            refine N_one' (i := 22) (by kernel_rfl) rfl ?_
            go_wp2_with fail
            refine (hD.out w9 (below_trans b7 b9)).mono ?_
            rintro e w10 ⟨gvA, nvA, wvA, SA, rfl, hOA, hSA, bA⟩
            have hWA := hOA.world
            obtain ⟨pg, pn, pw⟩ := hOA.parts
            obtain ⟨_, gaA, gcapA, rfl, _⟩ := pg.open
            obtain ⟨_, naA, ncapA, rfl, _⟩ := pn.form
            obtain ⟨_, waA, wcapA, rfl, _⟩ := pw.form
            clear pg pn pw hD hOA hSA
            have bA := below_trans b9 bA
            go_wp2_with fail
            refine QK_normal ⟨?_, ?_⟩
            · first | exact fun _ => hSB _ bA | exact hSB _ bA
            have hS := SameWorlds_c (hW6.below bA) hWA
            refine N_rest 23 3 (Nat.le_refl _) rfl (by kernel_rfl) ?_
            simp only [List.append_eq, List.cons_append, List.nil_append, List.drop_succ_cons, List.drop_zero]
            go_wp2_with fail
            refine hS.mono ?_
            rintro e w11 ⟨rfl, b11⟩
            go_wp2_with fail
            go_ret
            exact ⟨ret_bool (by simp), below_trans b7 (below_trans bA b11)⟩
        · obtain rfl : j = whole := by omega
          go_upto_region 19 with fail
          obtain ⟨n, rfl⟩ := Int.eq_ofNat_of_zero_le (show 0 ≤ nodes by have h := hgs.out trivial; omega)
          have hgs := hgs.out trivial
          have hR0 := hRc.out wr hb (s1.extract 0 c)
          obtain ⟨hC1, hC2⟩ := hCut.out
          rw [Int.toNat_natCast] at hC1 hC2
          generalize recF (n : Int) gs (s1.extract 0 c) = r at *
          have p1 : (r.1 == 0) = true := by rw [hC1]; rfl
          have p2 : (r.2.1 == (j : Int)) = true := by rw [hC1]; simp
          have p3 : r.2.2 = doneF (beginX n gs) (l.take j) := by rw [hC1]
          have p4 : errX r.2.2 = 0 := by rw [p3]; exact hC2
          have hD := fun o (h : Below w.heap.size w o) => hDn.out n (by omega) (by omega) o _ (l.take j) h ((ha.below h).takes (k := j) hWl)
          rw [← p3] at hD
          replace hC1 := Lib.hid hC1
          replace hC2 := Lib.hid hC2
          replace p3 := Lib.hid p3
          replace p4 := Lib.hid p4
          replace hD := Lib.hid hD
          clear hCu hgs hDn hRc hCut hWi ho hea
          go_wp2_with fail
          refine hR0.mono ?_
          clear hR0
          rintro e w6 ⟨gv6, nv6, wv6, S6, rfl, hO6, hS6, b6⟩
          obtain ⟨pg, pn, pw⟩ := hO6.parts
          obtain ⟨_, ga6, gcap6, rfl, _⟩ := pg.open
          obtain ⟨_, na6, ncap6, rfl, _⟩ := pn.form
          obtain ⟨_, wa6, wcap6, rfl, _⟩ := pw.form
          clear pg pn pw
          have hR6 := OBox.new w6 37 (.slice ga6 r.2.2.groups.length gcap6) (.slice na6 r.2.2.nodes.length ncap6) (.slice wa6 r.2.2.wires.length wcap6)
          have bx6 := below_a1 w6 (.cells #[.slice ga6 r.2.2.groups.length gcap6, .slice na6 r.2.2.nodes.length ncap6, .slice wa6 r.2.2.wires.length wcap6] 37)
          have hW6 := hO6.world.below bx6
          go_upto_region 20 with fail
          generalize w6.alloc (.cells #[.slice ga6 r.2.2.groups.length gcap6, .slice na6 r.2.2.nodes.length ncap6, .slice wa6 r.2.2.wires.length wcap6] 37) = w7 at *
          obtain ⟨B6, hB6⟩ : ∃ B, w6.heap.size = B := ⟨_, rfl⟩
          simp only [hB6] at hR6 ⊢
          clear hB6
          have b7 := below_trans hb (below_trans b6 bx6)
          clear hO6 hS6 b6 bx6 hb
          have hSB : ∀ o, Below w7.heap.size w7 o → o.cell? ⟨B6, 0, none⟩ = some (.slice ga6 r.2.2.groups.length gcap6) ∧ o.cell? ⟨B6, 1, none⟩ = some (.slice na6 r.2.2.nodes.length ncap6) ∧ o.cell? ⟨B6, 2, none⟩ = some (.slice wa6 r.2.2.wires.length wcap6) := fun o h => (hR6.keep (h.block _ hR6.lt)).2
          refine wp_region_N (fun w' => w'.cell? ⟨B6, 0, none⟩ = some (.slice ga6 r.2.2.groups.length gcap6) ∧ w'.cell? ⟨B6, 1, none⟩ = some (.slice na6 r.2.2.nodes.length ncap6) ∧ w'.cell? ⟨B6, 2, none⟩ = some (.slice wa6 r.2.2.wires.length wcap6)) 23 26 rfl (by kernel_rfl) (hSB _ (below_drewN w7 1)) (fun hSw => ?_)
          refine N_one' (i := 0) (by kernel_rfl) rfl ?_
          go_wp2_with fail
          refine (logBegun_c _).mono ?_
          rintro e w8 ⟨rfl, b8⟩
          have b8 := below_trans (below_drewN w7 1) b8
          go_wp2_with fail
          refine QK_normal ⟨?_, ?_⟩
          · first | exact fun _ => hSB _ b8 | exact hSB _ b8
          have hSw := hSB _ b8
          refine tk 1 ?_ rfl rfl (by kernel_rfl) (.inl ⟨by rfl, ?_⟩) hSw ?_
          rotate_left
          · rintro w ⟨s0, s1, s2⟩; go_simp; try with_reducible rfl
          simp only [tkp, tkz, tks]
          refine tk 2 ?_ rfl rfl (by kernel_rfl) (.inl ⟨by rfl, ?_⟩) hSw ?_
          rotate_left
          · rintro w ⟨s0, s1, s2⟩; go_simp; try with_reducible rfl
          simp only [tkp, tkz, tks]
          refine tk 3 ?_ rfl rfl (by kernel_rfl) (.inl ⟨by rfl, ?_⟩) hSw ?_
          rotate_left
          · rintro w ⟨s0, s1, s2⟩; go_simp; try with_reducible rfl
          simp only [tkp, tkz, tks]
          refine tk 4 ?_ rfl rfl (by kernel_rfl) (.inl ⟨by rfl, ?_⟩) hSw ?_
          rotate_left
          · rintro w ⟨s0, s1, s2⟩; go_simp; try with_reducible rfl
          simp only [tkp, tkz, tks]
          refine tk 5 ?_ rfl rfl (by kernel_rfl) (.inl ⟨by rfl, ?_⟩) hSw ?_
          rotate_left
          · rintro w ⟨s0, s1, s2⟩; go_simp; try with_reducible rfl
          simp only [tkp, tkz, tks]
          refine tk 6 ?_ rfl rfl (by kernel_rfl) (.inl ⟨by rfl, ?_⟩) hSw ?_
          rotate_left
          · rintro w ⟨s0, s1, s2⟩; go_simp; try with_reducible rfl
          simp only [tkp, tkz, tks]
          refine tk 7 ?_ rfl rfl (by kernel_rfl) (.inl ⟨by rfl, ?_⟩) hSw ?_
          rotate_left
          · rintro w ⟨s0, s1, s2⟩; go_simp; try with_reducible rfl
          simp only [tkp, tkz, tks]
          refine tk 8 ?_ rfl rfl (by kernel_rfl) (.inl ⟨by rfl, ?_⟩) hSw ?_
          rotate_left
          · rintro w ⟨s0, s1, s2⟩; go_simp; try with_reducible rfl
          simp only [tkp, tkz, tks]
          refine tk 9 ?_ rfl rfl (by kernel_rfl) (.inl ⟨by rfl, ?_⟩) hSw ?_
          rotate_left
          · rintro w ⟨s0, s1, s2⟩; go_simp; try with_reducible rfl
          simp only [tkp, tkz, tks]
          refine tk 10 ?_ rfl rfl (by kernel_rfl) (.inl ⟨by rfl, ?_⟩) hSw ?_
          rotate_left
          · rintro w ⟨s0, s1, s2⟩; go_simp; try with_reducible rfl
          simp only [tkp, tkz, tks]
          refine tk 11 ?_ rfl rfl (by kernel_rfl) (.inl ⟨by rfl, ?_⟩) hSw ?_
          rotate_left
          · rintro w ⟨s0, s1, s2⟩; go_simp; try with_reducible rfl
          simp only [tkp, tkz, tks]
          have hWc := WCheck_c (hW6.below b8)
          rw [p4.out] at hWc
          refine N_one' (i := 12) (by kernel_rfl) rfl ?_
          go_wp2_with fail
          refine hWc.mono ?_
          rintro e w9 ⟨rfl, b9⟩
          have b9 := below_trans b8 b9
          clear hWc
          go_wp2_with fail
          refine QK_normal ⟨?_, ?_⟩
          · first | exact fun _ => hSB _ b9 | exact hSB _ b9
          have hSw := hSB _ b9
          have hcp : j ≤ acap := by omega
          refine tk 13 ?_ rfl rfl (by kernel_rfl) (.inl ⟨by rfl, ?_⟩) hSw ?_
          rotate_left
          · rintro w ⟨s0, s1, s2⟩; go_simp; try with_reducible rfl
          simp only [tkp, tkz, tks]
          refine tk 14 ?_ rfl rfl (by kernel_rfl) (.inl ⟨by rfl, ?_⟩) hSw ?_
          rotate_left
          · rintro w ⟨s0, s1, s2⟩; go_simp; try with_reducible rfl
          simp only [tkp, tkz, tks]
          refine tk 15 ?_ rfl rfl (by kernel_rfl) (.inl ⟨by rfl, ?_⟩) hSw ?_
          rotate_left
          · rintro w ⟨s0, s1, s2⟩; go_simp; try with_reducible rfl
          simp only [tkp, tkz, tks]
          refine tk 16 ?_ rfl rfl (by kernel_rfl) (.inl ⟨by rfl, ?_⟩) hSw ?_
          rotate_left
          · rintro w ⟨s0, s1, s2⟩; go_simp; try with_reducible rfl
          simp only [tkp, tkz, tks]
          refine tk 17 ?_ rfl rfl (by kernel_rfl) (.inl ⟨by rfl, ?_⟩) hSw ?_
          rotate_left
          · rintro w ⟨s0, s1, s2⟩; go_simp; try with_reducible rfl
          simp only [tkp, tkz, tks]
          refine tk 18 ?_ rfl rfl (by kernel_rfl) (.inl ⟨by rfl, ?_⟩) hSw ?_
          rotate_left
          · rintro w ⟨s0, s1, s2⟩; go_simp; try with_reducible rfl
          simp only [tkp, tkz, tks]
          refine tk 19 ?_ rfl rfl (by kernel_rfl) (.inl ⟨by rfl, ?_⟩) hSw ?_
          rotate_left
          · rintro w ⟨s0, s1, s2⟩; go_simp; try with_reducible rfl
          simp only [tkp, tkz, tks]
          refine tk 20 ?_ rfl rfl (by kernel_rfl) (.inl ⟨by rfl, ?_⟩) hSw ?_
          rotate_left
          · rintro w ⟨s0, s1, s2⟩; go_simp; try with_reducible rfl
          simp only [tkp, tkz, tks]
          refine tk 21 ?_ rfl rfl (by kernel_rfl) (.inl ⟨by rfl, ?_⟩) hSw ?_
          rotate_left
          · rintro w ⟨s0, s1, s2⟩; go_simp; try with_reducible rfl
          simp only [tkp, tkz, tks]
          refine N_one' (i := 22) (by kernel_rfl) rfl ?_
          go_wp2_with fail
          refine (hD.out w9 (below_trans b7 b9)).mono ?_
          rintro e w10 ⟨gvA, nvA, wvA, SA, rfl, hOA, hSA, bA⟩
          have hWA := hOA.world
          obtain ⟨pg, pn, pw⟩ := hOA.parts
          obtain ⟨_, gaA, gcapA, rfl, _⟩ := pg.open
          obtain ⟨_, naA, ncapA, rfl, _⟩ := pn.form
          obtain ⟨_, waA, wcapA, rfl, _⟩ := pw.form
          clear pg pn pw hD hOA hSA
          have bA := below_trans b9 bA
          go_wp2_with fail
          refine QK_normal ⟨?_, ?_⟩
          · first | exact fun _ => hSB _ bA | exact hSB _ bA
          have hS := SameWorlds_c (hW6.below bA) hWA
          refine N_rest 23 3 (Nat.le_refl _) rfl (by kernel_rfl) ?_
          simp only [List.append_eq, List.cons_append, List.nil_append, List.drop_succ_cons, List.drop_zero]
          go_wp2_with fail
          refine hS.mono ?_
          rintro e w11 ⟨rfl, b11⟩
          go_wp2_with fail
          go_ret
          exact ⟨ret_bool (by simp), below_trans b7 (below_trans bA b11)⟩
end Go.Proofs.YtnalakhelicjcaaGreat
