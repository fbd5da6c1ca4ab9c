/-
  The document's answers on logs: ActBytes, ReplayOf, SameActs.
-/
import Derived.Test.YtnalakhelicjcaaGreatLAq
import Derived.Test.YtnalakhelicjcaaGreatLRp
import Derived.Test.YtnalakhelicjcaaGreatKO
import Derived.Laws.DeepStrings4
set_option maxRecDepth 100000
namespace Go.Proofs.YtnalakhelicjcaaGreat
open Go.RowKit Go.Shelf Go.BigFrame

def eqAc (a b : Ac) : Bool := a.kind == b.kind && (a.one == b.one && (a.two == b.two && a.body.toList == b.body.toList))
theorem eqAc_refl (a : Ac) : eqAc a a = true := by simp [eqAc]
theorem neq_act (a b : Ac) (w : World) : (binOp .neq 23 (.agg #[.int .i64 a.kind, .int .i64 a.one, .int .i64 a.two, .string a.body]) (.agg #[.int .i64 b.kind, .int .i64 b.one, .int .i64 b.two, .string b.body])).run Tryz.prog w = .ok (.bool (!eqAc a b)) w := by
  have hS : Tryz.prog.underlying 23 = some (.struct (Tryz.prog.fieldsOf 23)) := by kernel_rfl
  have hp : Tryz.prog.stoodInHeld 23 = false := by kernel_rfl
  rw [run_neq_struct, show (10000 : Nat) = 9999 + 1 from rfl, run_equalIn_agg w 9999 23 _ _ hS hp]
  simp [go_sem]
  unfold eqAc
  by_cases h1 : a.kind = b.kind <;> by_cases h2 : a.one = b.one <;> by_cases h3 : a.two = b.two <;> by_cases h5 : a.body.toList = b.body.toList <;> simp [h1, h2, h3, h5]
theorem SameActs_c {w : World} {v u : Value} {l : List Ac} (h : Acts w v l) (h2 : Acts w u l) : Calls Tryz.prog 14 #[v, u] w (GivesB (.bool true) w) := by
  obtain ⟨_, a, cap, rfl, _⟩ := h.form
  obtain ⟨_, a2, cap2, rfl, _⟩ := h2.form
  go_enter Tryz.func14, Tryz.ntmps14
  go_wp2_with fail
  go_loopw [5] (fun i wr => ∃ k : Nat, k ≤ l.length ∧ i = .int .i64 k ∧ Below w.heap.size w wr) (fun i _ => l.length - (intOf i).toNat)
  case atStart => exact ⟨0, by omega, rfl, Below.refl _ _⟩
  case round =>
    obtain ⟨k, hk, rfl, hb⟩ := hrel
    by_cases hlt : k < l.length
    · obtain ⟨b1, o1, c1, e1, _, m, _⟩ := (h.below hb).at hlt
      cases e1
      obtain ⟨b2, o2, c2, e2, _, n, _⟩ := (h2.below hb).at hlt
      cases e2
      obtain ⟨x, HX⟩ : ∃ x, l.getD k Ac.zero = x := ⟨_, rfl⟩
      rw [HX] at m n
      replace HX := Lib.hid HX
      obtain ⟨m0, m1, m2, m3⟩ := m
      obtain ⟨n0, n1, n2, n3⟩ := n
      have hne := neq_act x x
      rw [eqAc_refl] at hne
      go_wp2_with fail
      go_quiet (fail)
      go_wp2_with fail
      go_roundw
      case rel => exact ⟨k + 1, by omega, by go_num, below_trans hb (below_drewN _ _)⟩
      case measure => simp [intOf]; omega
    · obtain rfl : k = l.length := by omega
      go_wp2_with fail
      go_ret
      exact givesB_bool hb rfl
theorem inB_bad (n : Int) : inB n 0 255 = !badB n := by
  rw [Bool.eq_iff_iff]
  simp only [inB, badB, Bool.and_eq_true, decide_eq_true_eq, Bool.not_eq_true', Bool.or_eq_false_iff, decide_eq_false_iff_not]
  omega

set_option maxHeartbeats 1000000 in
theorem ActBytes_c (w : World) {x : Ac} (hx : x.fits) : Calls Tryz.prog 10 #[x.val] w (GivesB (.tuple #[.string (writeS x), .int .i64 (writeE x)]) w) := by
  obtain ⟨P, hP⟩ : ∃ P, GivesB (.tuple #[.string (writeS x), .int .i64 (writeE x)]) w = P := ⟨_, rfl⟩
  rw [hP]
  have hBad := Lib.hid (fun (h : (actNums x).any badB = true) => show writeS x = ⟨#[]⟩ ∧ writeE x = 3 by unfold writeS writeE; rw [if_pos h, if_pos h]; exact ⟨rfl, rfl⟩)
  have hOk := Lib.hid (fun (h : (actNums x).any badB = false) => show writeS x = strOfNums (actNums x) ++ x.body ∧ writeE x = 0 by unfold writeS writeE; rw [h]; exact ⟨rfl, rfl⟩)
  replace hP := Lib.hid hP
  have hA := below_a1 w (.cells #[.int .i64 x.kind, .int .i64 x.one, .int .i64 x.two, .string x.body] 23)
  have hB := AcBox.new w x 23
  have hsz : w.heap.size < (w.alloc (.cells #[.int .i64 x.kind, .int .i64 x.one, .int .i64 x.two, .string x.body] 23)).heap.size := by rw [World.size_alloc]; omega
  obtain ⟨i0, hi0, hz0, hz1, hz2⟩ := info_parts infoCByte
  obtain ⟨f0, f1, f2, f3⟩ := hx
  unfold Ac.val
  go_enter Tryz.func10, Tryz.ntmps10
  go_upto_region 1 with fail
  generalize w.alloc (.cells #[.int .i64 x.kind, .int .i64 x.one, .int .i64 x.two, .string x.body] 23) = wA at *
  obtain ⟨m0, m1, m2, m3⟩ := id hB
  simp only [Nat.zero_add] at m0 m1 m2 m3
  have hL := Ints.lit wA (actNums x) 3 (by unfold actNums; simp only [List.mem_cons, List.not_mem_nil, or_false]; rintro y (rfl | rfl | rfl | rfl) <;> first | assumption | (unfold I64; omega)) (by simp [actNums])
  have bx := below_a1 wA (.cells #[.int .i64 x.kind, .int .i64 x.one, .int .i64 x.two, .int .i64 x.body.size] 3)
  rw [show (actNums x).length = 4 from rfl] at hL
  change Ints (wA.alloc (.cells #[.int .i64 x.kind, .int .i64 x.one, .int .i64 x.two, .int .i64 x.body.size] 3)) _ _ at hL
  have hB2 := hB.below bx hsz
  have b2 := below_trans hA bx
  have hs2 := Nat.lt_of_lt_of_le hsz bx.size
  go_wp2_with fail
  generalize wA.alloc (.cells #[.int .i64 x.kind, .int .i64 x.one, .int .i64 x.two, .int .i64 x.body.size] 3) = w2 at *
  obtain ⟨C, hC⟩ : ∃ C, wA.heap.size = C := ⟨_, rfl⟩
  simp only [hC] at hL ⊢
  clear hC m0 m1 m2 m3 hB bx hsz
  obtain ⟨C2, hC2⟩ : ∃ C, w.heap.size = C := ⟨_, rfl⟩
  rw [hC2] at hB2 hs2
  simp only [hC2] at ⊢
  replace hC2 := Lib.hid hC2
  obtain ⟨l, hl⟩ : ∃ l, actNums x = l := ⟨_, rfl⟩
  have hl4 : l.length = 4 := by rw [← hl]; rfl
  rw [hl] at hL hBad hOk
  clear hl
  replace hl4 := Lib.hid hl4
  go_loopw [5, 6] (fun o i wr => ∃ k : Nat, k ≤ 4 ∧ i = .int .i64 k ∧ Hid (∀ j, j < k → badB (l.getD j 0) = false) ∧ wr.ownsRow w2.heap.size 5 1 o k ((l.take k).map (Value.int .u8)) ∧ Below w2.heap.size w2 wr) (fun _ i _ => 4 - (intOf i).toNat)
  case atStart => exact ⟨0, by omega, rfl, fun j hj => absurd hj (Nat.not_lt_zero _), World.ownsRow_nil _ _ _ _, Below.refl _ _⟩
  case round =>
    obtain ⟨k, hk, rfl, hno, ho, hb⟩ := hrel
    obtain ⟨a4, c4, rfl⟩ := own_form ho
    have hB3 := hB2.below hb hs2
    obtain ⟨m0, m1, m2, m3⟩ := hB3
    simp only [Nat.zero_add] at m0 m1 m2 m3
    have hbw := below_trans b2 hb
    have hsr := hb.size
    by_cases hlt : k < 4
    · obtain ⟨b4, o4, c5, e4, _, q1, hq64⟩ := hL.at (a := k) (by rw [hl4.out]; exact hlt)
      have q1 := (hb.cell (cell_lt q1)).trans q1
      obtain ⟨n, hn⟩ : ∃ n, l.getD k 0 = n := ⟨_, rfl⟩
      rw [hn] at q1 hq64
      have hlen : k < l.length := by rw [hl4.out]; exact hlt
      rw [hl4.out] at e4
      cases e4
      simp only [Nat.zero_add] at q1
      replace hlen := Lib.hid hlen
      have hwi := within_c wr n 0 255
      rw [inB_bad] at hwi
      cases hbd : badB n
      · rw [hbd] at hwi
        have hw8 := wrap8 hbd
        have hbd' := Lib.hid hbd
        clear hbd
        have hn' := Lib.hid hn
        clear hn
        go_wp2_with fail
        refine hwi.mono ?_
        rintro e w' ⟨rfl, h⟩; subst h
        go_wp2_with (at_builtin; refine wpList_append_own _ rfl _ _ 67 rfl w2.heap.size 5 i0 _ 1 1 Tryz.underlying67 hi0 hz0 hz1 hz2 rfl (by decide) _ _ _ rfl (ho.alloc _) ⟨wr.heap.size, 0, none⟩ 1 1 [.int .u8 n] rfl rfl (cells_new _ _ _) (by simp [Value.oneCell']) (by unfold maxLen; omega) (by omega) (by simp; omega) ?_; intro v' w1 hown' hgrow _)
        go_roundw
        case rel =>
          refine ⟨k + 1, by omega, by go_num, fun j hj => ?_, ?_, below_app hb ho (by omega) hgrow⟩
          · rcases Nat.eq_or_lt_of_le (Nat.le_of_lt_succ hj) with e | e
            · subst e; rw [hn'.out]; exact hbd'.out
            · exact hno.out j e
          · rw [show (l.take (k + 1)).map (Value.int .u8) = (l.take k).map (Value.int .u8) ++ [.int .u8 n] by
              rw [← hn'.out, getD_lt l 0 hlen.out, List.take_succ_eq_append_getElem hlen.out, List.map_append]; simp]
            exact hown'
        case measure => simp [intOf]; omega
      · rw [hbd] at hwi
        have hany : l.any badB = true := any_at 0 hlen.out (by rw [hn]; exact hbd)
        obtain ⟨e1, e2⟩ := hBad.out hany
        rw [e1, e2] at hP
        clear hany e1 e2 hn hbd
        go_wp2_with fail
        refine hwi.mono ?_
        rintro e w' ⟨rfl, h⟩; subst h
        go_wp2_with fail
        rw [← hP.out]
        exact ⟨rfl, hbw⟩
    · obtain rfl : k = 4 := by omega
      have hany : l.any badB = false := any_no 0 (fun j hj => hno.out j (by rw [← hl4.out]; exact hj))
      obtain ⟨e1, e2⟩ := hOk.out hany
      rw [e1, e2] at hP
      clear hany e1 e2
      obtain ⟨_, _, _, _, e5, _, hcl⟩ := Row.of_owns ho (by simp; omega)
      cases e5
      obtain ⟨b5, o5, rfl, hcl2⟩ := hcl (by decide)
      have hconv := run_convert_bytes_arg (P := Tryz.prog) wr 67 5 Tryz.underlying67 Tryz.underlying5 b5 o5 4 c4 l hl4.out (fun i hi => by
        have h5 := hcl2 i (by omega)
        have hil : i < l.length := by rw [hl4.out]; exact hi
        rw [h5, List.take_of_length_le (by rw [hl4.out]; exact Nat.le_refl _), getD_lt l 0 hil, List.getD_eq_getElem?_getD, List.getElem?_map, List.getElem?_eq_getElem hil]
        rfl) 9 Tryz.underlying9
      clear hcl hcl2
      go_wp2_with fail
      · exfalso
        rename_i h
        have h5 := strOfNums_size l
        rw [hl4.out] at h5
        simp [h5] at h
        omega
      rw [← hP.out]
      exact ⟨rfl, hbw⟩
theorem ReplayOf_no (w : World) (t : ByteArray) (ht : ¬ t.size ≤ 4096) : Calls Tryz.prog 12 #[.string t] w (RPost w (replayA t) (replayN t) (replayE t)) := by
  have e1 : replayA t = [] := by unfold replayA replayL; rw [if_neg ht]; rfl
  have e2 : replayN t = 0 := by unfold replayN; rw [if_neg ht]
  have e3 : replayE t = 2 := by unfold replayE; rw [if_neg ht]
  rw [e1, e2, e3]
  have hd : decide ((4096 : Int) < t.size) = true := decide_eq_true (by omega)
  obtain ⟨P, hP⟩ : ∃ P, RPost w [] 0 2 = P := ⟨_, rfl⟩
  rw [hP]
  replace hP := Lib.hid hP
  go_enter Tryz.func12, Tryz.ntmps12
  go_wp2_with fail
  rw [← hP.out]
  exact ⟨_, rfl, Acts.nil w, Below.refl _ _⟩

set_option maxHeartbeats 2000000 in
theorem ReplayOf_yes (w : World) (t : ByteArray) (ht : t.size ≤ 4096) : Calls Tryz.prog 12 #[.string t] w (RPost w (replayA t) (replayN t) (replayE t)) := by
  have hd : decide ((4096 : Int) < t.size) = false := decide_eq_false (by omega)
  obtain ⟨i0, hi0, hz0, hz1, hz2⟩ := info_parts infoCAct
  have hEnd := Lib.hid (fun pre a h1 h2 h3 h4 h5 => replay_end (t := t) ht (pre := pre) (a := a) h1 h2 h3 h4 h5)
  have hfit := Lib.hid (replayA_fits t)
  obtain ⟨P, hP⟩ : ∃ P, RPost w (replayA t) (replayN t) (replayE t) = P := ⟨_, rfl⟩
  rw [hP]
  replace hP := Lib.hid hP
  go_enter Tryz.func12, Tryz.ntmps12
  go_wp2_with fail
  go_loopw [5, 6] (fun o i wr => ∃ (pre : List (Ac × ByteArray)) (a : Nat), i = .int .i64 a ∧ a ≤ t.size ∧ pre.length ≤ 80 ∧ Hid (allA t = pre ++ allA (subA t a)) ∧ Hid (leftA t pre = subA t a) ∧ wr.ownsRow w.heap.size 23 4 o pre.length ((pre.map (·.1)).flatMap Ac.cells) ∧ Below w.heap.size w wr) (fun _ i _ => t.size - (intOf i).toNat)
  case atStart => exact ⟨[], 0, rfl, by omega, by simp, by rw [subA_zero]; rfl, by rw [subA_zero]; rfl, World.ownsRow_nil _ _ _ _, Below.refl _ _⟩
  case round =>
    obtain ⟨pre, a, rfl, ha, hp80, hal, hlf, ho, hb⟩ := hrel
    obtain ⟨a5, c5, rfl⟩ := own_form ho
    have hsub := subA_size t a
    have hsr := hb.size
    have hfin : (pre.length = 80 ∨ okA (subA t a) = false) → P (.returned (.tuple #[.slice a5 pre.length c5, .int .i64 a, .int .i64 0])) wr := fun h => by
      obtain ⟨e1, e2, e3⟩ := hEnd.out pre a ha hal.out hlf.out hp80 h
      rw [← hP.out, e1, e2, e3]
      have hf := hfit.out
      rw [e1] at hf
      exact ⟨_, rfl, Acts.of_owns hf (by rw [List.length_map]; exact ho) (by rw [List.length_map]; omega), hb⟩
    replace hfin := Lib.hid hfin
    by_cases h80 : pre.length = 80
    · have hq : decide ((pre.length : Int) < 80) = false := decide_eq_false (by omega)
      have hf := hfin.out (Or.inl h80)
      clear hfin
      replace h80 := Lib.hid h80
      go_wp2_with fail
      exact hf
    have hq : decide ((pre.length : Int) < 80) = true := decide_eq_true (by omega)
    have hw0 : IntKind.i64.wrap ((t.size : Int) - (a : Int)) = (t.size : Int) - (a : Int) := IntWalk.i64_in _ (by omega)
    by_cases h4 : 4 ≤ (t.size : Int) - (a : Int)
    rotate_left
    · have hq2 : decide (4 ≤ (t.size : Int) - (a : Int)) = false := decide_eq_false h4
      have hf := hfin.out (Or.inr (by rw [Bool.eq_false_iff]; intro h; have := (okA_iff.1 h).1; omega))
      clear hfin
      go_wp2_with fail
      exact hf
    have hq2 : decide (4 ≤ (t.size : Int) - (a : Int)) = true := decide_eq_true h4
    have hb3 := bt_pos t (a + 3)
    have hok : okA (subA t a) = true ↔ 4 + bt t (a + 3) ≤ (t.size : Int) - a := by
      unfold okA
      rw [subA_bt, hsub, Bool.and_eq_true, decide_eq_true_iff, decide_eq_true_iff]
      omega
    have hw3 : IntKind.i64.wrap ((a : Int) + 3) = (a : Int) + 3 := IntWalk.i64_in _ (by omega)
    have hi3 : ∀ W : World, (Instr.index 9 (.string t) (.int .i64 ((a : Int) + 3))).run Tryz.prog W = .ok (.int .u8 (bt t (a + 3))) W := fun W => by
      rw [run_index_string W 9 t .i64 _ Tryz.underlying9, dif_pos (by omega), bt_eq (show a + 3 < t.size by omega)]
      rfl
    have hi3w : IntKind.i64.wrap (bt t (a + 3)) = bt t (a + 3) := IntWalk.i64_in _ (by omega)
    have hi34 : IntKind.i64.wrap (4 + bt t (a + 3)) = 4 + bt t (a + 3) := IntWalk.i64_in _ (by omega)
    by_cases h5 : 4 + bt t (a + 3) ≤ (t.size : Int) - a
    rotate_left
    · have hq3 : decide (4 + bt t (a + 3) ≤ (t.size : Int) - a) = false := decide_eq_false h5
      have hf := hfin.out (Or.inr (by rw [Bool.eq_false_iff]; intro h; exact h5 (hok.1 h)))
      clear hfin hok
      go_wp2_with fail
      exact hf
    have hq3 : decide (4 + bt t (a + 3) ≤ (t.size : Int) - a) = true := decide_eq_true h5
    have hoks : okA (subA t a) = true := hok.2 h5
    have hal2 := hal.out
    rw [allA_ok hoks] at hal2
    obtain ⟨hh1, hh2⟩ := subA_head t a
    obtain ⟨hrs, he4, hes⟩ := restA_size hoks
    have hEv : ((a + endA (subA t a) : Nat) : Int) = (a : Int) + 4 + bt t (a + 3) := by
      unfold endA
      rw [subA_bt]
      omega
    rw [hsub] at hes
    generalize a + endA (subA t a) = E at *
    have hE1 : E ≤ t.size := by omega
    have hE2 : a + 4 ≤ E := by omega
    have hb0 := bt_pos t a
    have hb1 := bt_pos t (a + 1)
    have hb2 := bt_pos t (a + 2)
    have hw4 : IntKind.i64.wrap ((a : Int) + 4) = (a : Int) + 4 := IntWalk.i64_in _ (by omega)
    have hw1 : IntKind.i64.wrap ((a : Int) + 1) = (a : Int) + 1 := IntWalk.i64_in _ (by omega)
    have hw2 : IntKind.i64.wrap ((a : Int) + 2) = (a : Int) + 2 := IntWalk.i64_in _ (by omega)
    have hwE : IntKind.i64.wrap ((a : Int) + 4 + bt t (a + 3)) = (E : Int) := by rw [IntWalk.i64_in _ (by omega), hEv]
    have hv0 : IntKind.i64.wrap (bt t a) = bt t a := IntWalk.i64_in _ (by omega)
    have hv1 : IntKind.i64.wrap (bt t (a + 1)) = bt t (a + 1) := IntWalk.i64_in _ (by omega)
    have hv2 : IntKind.i64.wrap (bt t (a + 2)) = bt t (a + 2) := IntWalk.i64_in _ (by omega)
    have hi0' : ∀ W : World, (Instr.index 9 (.string t) (.int .i64 (a : Int))).run Tryz.prog W = .ok (.int .u8 (bt t a)) W := fun W => by
      rw [run_index_string W 9 t .i64 _ Tryz.underlying9, dif_pos (by omega), bt_eq (show a < t.size by omega)]
      rfl
    have hi1 : ∀ W : World, (Instr.index 9 (.string t) (.int .i64 ((a : Int) + 1))).run Tryz.prog W = .ok (.int .u8 (bt t (a + 1))) W := fun W => by
      rw [run_index_string W 9 t .i64 _ Tryz.underlying9, dif_pos (by omega), bt_eq (show a + 1 < t.size by omega)]
      rfl
    have hi2 : ∀ W : World, (Instr.index 9 (.string t) (.int .i64 ((a : Int) + 2))).run Tryz.prog W = .ok (.int .u8 (bt t (a + 2))) W := fun W => by
      rw [run_index_string W 9 t .i64 _ Tryz.underlying9, dif_pos (by omega), bt_eq (show a + 2 < t.size by omega)]
      rfl
    have hsl : ∀ W : World, (Instr.slice 9 (.string t) (some (.int .i64 ((a : Int) + 4))) (some (.int .i64 (E : Nat))) none).run Tryz.prog W = .ok (.string (t.extract (a + 4) E)) W := fun W => by
      rw [run_slice_string_if W 9 t .i64 .i64 _ _ Tryz.underlying9, if_pos (by omega), if_pos (by omega)]
      rfl
    generalize headA (subA t a) = hd at *
    generalize restA (subA t a) = rs at *
    replace hal2 := Lib.hid hal2
    replace hh1 := Lib.hid hh1
    replace hh2 := Lib.hid hh2
    replace hrs := Lib.hid hrs
    replace hEv := Lib.hid hEv
    clear hok hoks hfin hEnd he4
    generalize bt t (a + 3) = q3 at *
    obtain ⟨q0, hq0⟩ : ∃ q, bt t a = q := ⟨_, rfl⟩
    obtain ⟨q1, hq1'⟩ : ∃ q, bt t (a + 1) = q := ⟨_, rfl⟩
    obtain ⟨q2, hq2'⟩ : ∃ q, bt t (a + 2) = q := ⟨_, rfl⟩
    rw [hq0] at hi0' hv0 hb0
    rw [hq1'] at hi1 hv1 hb1
    rw [hq2'] at hi2 hv2 hb2
    have hh1 := hh1.out
    rw [hq0, hq1', hq2'] at hh1
    clear hq0 hq1' hq2'
    obtain ⟨bd, hbd⟩ : ∃ s, t.extract (a + 4) E = s := ⟨_, rfl⟩
    rw [hbd] at hsl hh1
    clear hbd
    replace hh1 := Lib.hid hh1
    go_wp2_with fail
    refine wp_region_N (fun _ => True ∧ True) 22 24 rfl (by kernel_rfl) ⟨trivial, trivial⟩ (fun hSw => ?_)
    refine tk 0 ?_ rfl rfl (by kernel_rfl) (.inl ⟨by rfl, ?_⟩) hSw ?_
    rotate_left
    · rintro w ⟨_, _⟩; go_simp; try with_reducible rfl
    simp only [tkp, tkz, tks]
    refine tk 1 ?_ rfl rfl (by kernel_rfl) (.inl ⟨by rfl, ?_⟩) hSw ?_
    rotate_left
    · rintro w ⟨_, _⟩; go_simp; try with_reducible rfl
    simp only [tkp, tkz, tks]
    refine tk 2 ?_ rfl rfl (by kernel_rfl) (.inl ⟨by rfl, ?_⟩) hSw ?_
    rotate_left
    · rintro w ⟨_, _⟩; go_simp; try with_reducible rfl
    simp only [tkp, tkz, tks]
    refine tk 3 ?_ rfl rfl (by kernel_rfl) (.inl ⟨by rfl, ?_⟩) hSw ?_
    rotate_left
    · rintro w ⟨_, _⟩; go_simp; try with_reducible rfl
    simp only [tkp, tkz, tks]
    refine tk 4 ?_ rfl rfl (by kernel_rfl) (.inl ⟨by rfl, ?_⟩) hSw ?_
    rotate_left
    · rintro w ⟨_, _⟩; go_simp; try with_reducible rfl
    simp only [tkp, tkz, tks]
    refine tk 5 ?_ rfl rfl (by kernel_rfl) (.inl ⟨by rfl, ?_⟩) hSw ?_
    rotate_left
    · rintro w ⟨_, _⟩; go_simp; try with_reducible rfl
    simp only [tkp, tkz, tks]
    refine tk 6 ?_ rfl rfl (by kernel_rfl) (.inl ⟨by rfl, ?_⟩) hSw ?_
    rotate_left
    · rintro w ⟨_, _⟩; go_simp; try with_reducible rfl
    simp only [tkp, tkz, tks]
    refine tk 7 ?_ rfl rfl (by kernel_rfl) (.inl ⟨by rfl, ?_⟩) hSw ?_
    rotate_left
    · rintro w ⟨_, _⟩; go_simp; try with_reducible rfl
    simp only [tkp, tkz, tks]
    refine tk 8 ?_ rfl rfl (by kernel_rfl) (.inl ⟨by rfl, ?_⟩) hSw ?_
    rotate_left
    · rintro w ⟨_, _⟩; go_simp; try with_reducible rfl
    simp only [tkp, tkz, tks]
    refine tk 9 ?_ rfl rfl (by kernel_rfl) (.inl ⟨by rfl, ?_⟩) hSw ?_
    rotate_left
    · rintro w ⟨_, _⟩; go_simp; try with_reducible rfl
    simp only [tkp, tkz, tks]
    refine tk 10 ?_ rfl rfl (by kernel_rfl) (.inl ⟨by rfl, ?_⟩) hSw ?_
    rotate_left
    · rintro w ⟨_, _⟩; go_simp; try with_reducible rfl
    simp only [tkp, tkz, tks]
    refine tk 11 ?_ rfl rfl (by kernel_rfl) (.inl ⟨by rfl, ?_⟩) hSw ?_
    rotate_left
    · rintro w ⟨_, _⟩; go_simp; try with_reducible rfl
    simp only [tkp, tkz, tks]
    refine tk 12 ?_ rfl rfl (by kernel_rfl) (.inl ⟨by rfl, ?_⟩) hSw ?_
    rotate_left
    · rintro w ⟨_, _⟩; go_simp; try with_reducible rfl
    simp only [tkp, tkz, tks]
    refine tk 13 ?_ rfl rfl (by kernel_rfl) (.inl ⟨by rfl, ?_⟩) hSw ?_
    rotate_left
    · rintro w ⟨_, _⟩; go_simp; try with_reducible rfl
    simp only [tkp, tkz, tks]
    refine tk 14 ?_ rfl rfl (by kernel_rfl) (.inl ⟨by rfl, ?_⟩) hSw ?_
    rotate_left
    · rintro w ⟨_, _⟩; go_simp; try with_reducible rfl
    simp only [tkp, tkz, tks]
    refine tk 15 ?_ rfl rfl (by kernel_rfl) (.inl ⟨by rfl, ?_⟩) hSw ?_
    rotate_left
    · rintro w ⟨_, _⟩; go_simp; try with_reducible rfl
    simp only [tkp, tkz, tks]
    refine tk 16 ?_ rfl rfl (by kernel_rfl) (.inl ⟨by rfl, ?_⟩) hSw ?_
    rotate_left
    · rintro w ⟨_, _⟩; go_simp; try with_reducible rfl
    simp only [tkp, tkz, tks]
    refine tk 17 ?_ rfl rfl (by kernel_rfl) (.inl ⟨by rfl, ?_⟩) hSw ?_
    rotate_left
    · rintro w ⟨_, _⟩; go_simp; try with_reducible rfl
    simp only [tkp, tkz, tks]
    refine tk 18 ?_ rfl rfl (by kernel_rfl) (.inl ⟨by rfl, ?_⟩) hSw ?_
    rotate_left
    · rintro w ⟨_, _⟩; go_simp; try with_reducible rfl
    simp only [tkp, tkz, tks]
    refine tk 19 ?_ rfl rfl (by kernel_rfl) (.inl ⟨by rfl, ?_⟩) hSw ?_
    rotate_left
    · rintro w ⟨_, _⟩; go_simp; try with_reducible rfl
    simp only [tkp, tkz, tks]
    refine tk 20 ?_ rfl rfl (by kernel_rfl) (.inl ⟨by rfl, ?_⟩) hSw ?_
    rotate_left
    · rintro w ⟨_, _⟩; go_simp; try with_reducible rfl
    simp only [tkp, tkz, tks]
    refine N_one' (i := 21) (by kernel_rfl) rfl ?_
    go_wp2_with fail
    refine QK_normal ⟨fun _ => ⟨trivial, trivial⟩, ?_⟩
    refine N_rest 22 2 (by omega) rfl (by kernel_rfl) ?_
    simp only [List.drop_succ_cons, List.drop_zero]
    have hcN : ∀ j u, ([.int .i64 q0, .int .i64 q1, .int .i64 q2, .string bd] : List Value)[j]? = some u → (wr.alloc (.cells #[.int .i64 q0, .int .i64 q1, .int .i64 q2, .string bd] 23)).drew.cell? ((⟨wr.heap.size, 0, none⟩ : Addr).add j) = some u := fun j u hj => cells_new wr #[.int .i64 q0, .int .i64 q1, .int .i64 q2, .string bd] 23 j u hj
    replace hcN := hcN
    go_wp2_with (at_builtin; (refine wpList_append_own _ rfl _ _ 27 rfl w.heap.size 23 i0 _ 4 40 Tryz.underlying27 hi0 hz0 hz1 hz2 rfl (by decide) (.slice a5 pre.length c5) pre.length ((pre.map (·.1)).flatMap Ac.cells) rfl (owns_drew (ho.alloc _)) ⟨wr.heap.size, 0, none⟩ 1 1 [.int .i64 q0, .int .i64 q1, .int .i64 q2, .string bd] rfl rfl hcN (by simp [Value.oneCell']) (by unfold maxLen; omega) (by omega) (by show w.heap.size ≤ (wr.alloc _).heap.size; rw [World.size_alloc]; omega) ?_); intro v' w5 hown' hgrow _)
    have hbd1 : Below w.heap.size w (wr.alloc (.cells #[.int .i64 q0, .int .i64 q1, .int .i64 q2, .string bd] 23)).drew := (below_trans hb (below_a1 wr _)).trans (below_drewN _ 1 |>.mono (by rw [World.size_alloc]; omega))
    have hbz : Below w.heap.size w w5 := hbd1.grown hgrow (by show w.heap.size ≤ (wr.alloc _).heap.size; rw [World.size_alloc]; omega) (fun k e => (ho.lt k e).1)
    go_roundw
    case rel =>
      refine ⟨pre ++ [(hd, rs)], E, by go_num, hE1, by rw [List.length_append, List.length_singleton]; omega, ?_, ?_, ?_, hbz⟩
      · rw [← hh2.out, List.append_assoc]; exact hal2.out
      · rw [leftA_snoc]; exact hh2.out
      · rw [List.map_append, List.flatMap_append, List.length_append, List.length_singleton]
        rw [show ([(hd, rs)].map (·.1)).flatMap Ac.cells = [.int .i64 q0, .int .i64 q1, .int .i64 q2, .string bd] by rw [hh1.out]; rfl]
        exact hown'
    case measure => simp [intOf]; omega
theorem ReplayOf_c (w : World) (t : ByteArray) : Calls Tryz.prog 12 #[.string t] w (RPost w (replayA t) (replayN t) (replayE t)) := by
  by_cases ht : t.size ≤ 4096
  · exact ReplayOf_yes w t ht
  · exact ReplayOf_no w t ht
end Go.Proofs.YtnalakhelicjcaaGreat
