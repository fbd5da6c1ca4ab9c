/-
  The document's answer: put a message into a list.
-/
import Derived.Test.YthclljdkicihpaaPut
import Derived.Laws.AppendOwnNone
set_option maxRecDepth 100000
namespace Go.Proofs.Ythclljdkicihpaa
open Go.RowKit Go.Shelf Go.BigFrame

section
variable {P : Program} {w : World}
theorem run_append_zero (base : Nat) (t ty e : TypeId) (i : TypeInfo) (size : Nat) (ht : P.underlying t = some (.slice e)) (hi : P.info? e = some i)
    (v : Value) (n : Nat) (xs : List Value) (hown : w.ownsRow base e size v n xs) (r : Option Addr) (c : Nat) :
    (Builtin.append_ #[t, t] ty #[v, .slice r 0 c]).run P w = .ok v w := by
  have hz : ∀ s, (Builtin.firstCells s 0 (.slice r 0 c)).run P w = .ok #[] w := fun s => by
    cases r with
    | none => exact run_firstCells_none w s 0 0 c
    | some a => exact run_firstCells_some w s 0 a 0 c [] (by simp) (by simp)
  rcases hown.2 with ⟨rfl, rfl⟩ | ⟨g, cap, cur, rfl, _, _, hnc, _⟩
  · simp [Builtin.append_, run_underlying ht, sizeOf, typeInfo, hi, Builtin.lenOf, hz]
  · simp [Builtin.append_, run_underlying ht, sizeOf, typeInfo, hi, Builtin.lenOf, hz, hnc, storeCells]
theorem wpList_append_zero {ops : Array Oper} {rest : List Oper} {o : Oper} {a : Act} {Q : Exit → Act → World → Prop} (hgd : o.guard = none) (s x : Operand) (t : TypeId)
    (ho : o.op = .call { callee := .builtin .append, args := #[s, x], argTypes := #[t, t] })
    (base : Nat) (e : TypeId) (i : TypeInfo) (size : Nat) (ht : P.underlying t = some (.slice e)) (hi : P.info? e = some i)
    (v : Value) (n : Nat) (xs : List Value) (hs : a.eval s = v) (hown : w.ownsRow base e size v n xs) (r : Option Addr) (c : Nat) (hx : a.eval x = .slice r 0 c)
    (h : wpList P ops Q rest (a.put o.dst v) w) : wpList P ops Q (o :: rest) a w := by
  refine wpList_plain hgd fun K hK => ?_
  have hrun := run_append_zero (P := P) (w := w) base t o.type e i size ht hi v n xs hown r c
  unfold Oper.wp
  simp [execOp, ho, resolve, invoke, builtin, hs, hx, hrun, Result.andThen]
  exact hK _ _ h
end

theorem below_app {w wr w1 : World} {base : Nat} {e : TypeId} {s n : Nat} {v : Value} {cs : List Value} {o : Obj} (hb : Below base w wr) (ho : wr.ownsRow base e s v n cs) (hbs : base ≤ wr.heap.size)
    (hg : (wr.alloc o).grownBy w1 v.ownBlock) : Below base w w1 :=
  (hb.alloc hbs _).grown hg (by rw [World.size_alloc]; omega) (fun k e => (ho.lt k e).1)
theorem cells_new (w : World) (cs : Array Value) (t : TypeId) : ∀ j u, cs.toList[j]? = some u → (w.alloc (.cells cs t)).cell? ((⟨w.heap.size, 0, none⟩ : Addr).add j) = some u := by
  intro j u hj
  rw [Addr.add0, cell_of_row _ _ _ _ _ _ (heap_alloc_new w _)]
  simpa using hj

theorem owns_below {w w' : World} {b : Nat} {e : TypeId} {s n : Nat} {v : Value} {xs : List Value} (h : w.ownsRow b e s v n xs) (hb : Below w.heap.size w w') : w'.ownsRow b e s v n xs := by
  refine ⟨h.1, ?_⟩
  rcases h.2 with h | ⟨g, cap, cur, h1, h2, h3, h4⟩
  · exact .inl h
  · exact .inr ⟨g, cap, cur, h1, h2, (hb.block g (Array.getElem?_eq_some_iff.1 h3).1).trans h3, h4⟩
theorem own_form {w : World} {b : Nat} {e : TypeId} {s n : Nat} {v : Value} {xs : List Value} (h : w.ownsRow b e s v n xs) : ∃ a cap, v = .slice a n cap := by
  rcases h.2 with ⟨h1, h2⟩ | ⟨g, cap, cur, h1, _⟩
  · exact ⟨none, 0, by rw [h1, h2]⟩
  · exact ⟨_, cap, h1⟩
theorem ordM_zero {a b : M} (h : lessM a b = false) : (ordM a b == 0) = !lessM b a := by
  have h1 : ¬ (a.stamp < b.stamp ∨ a.stamp = b.stamp ∧ a.src < b.src) := fun e => by rw [lessM_iff.2 e] at h; cases h
  unfold ordM lessM orI cmpI
  by_cases h2 : b.stamp < a.stamp
  · have : ¬ a.stamp < b.stamp := by omega
    simp [h2, this]
  · have e : a.stamp = b.stamp := by omega
    by_cases h3 : b.src < a.src
    · have : ¬ a.src < b.src := by omega
      simp [e, h3, this]
    · have : ¬ a.src < b.src := by omega
      simp [e, h3, this]
theorem msgs_news {w : World} {b off cap : Nat} {ms : List M} (h : Msgs w (.slice (some ⟨b, off, none⟩) ms.length cap) ms) (k : Nat) :
    ∀ j u, ((ms.drop k).flatMap M.cells)[j]? = some u → w.cell? ((⟨b, off + k * 5, none⟩ : Addr).add j) = some u := by
  intro j u hj
  rw [← flat_drop, List.getElem?_drop] at hj
  have := row_news h.2 _ u hj
  rw [Addr.add0] at this ⊢
  rw [Nat.add_assoc]
  exact this
theorem last_flat (ms : List M) (m : M) (k : Nat) : (ms.take k).flatMap M.cells ++ m.cells ++ (ms.drop k).flatMap M.cells = (ms.take k ++ m :: ms.drop k).flatMap M.cells := by simp
theorem putof_done {w w' : World} {ms : List M} {m : M} {k base : Nat} {v : Value} (hp : posM ms m = k) (hE : putE ms m = 0 ∧ putL ms m = putM ms m) (hf : (∀ m ∈ ms, m.fits) ∧ m.fits)
    (ho : w'.ownsRow base 24 5 v (ms.length + 1) ((ms.take k).flatMap M.cells ++ m.cells ++ (ms.drop k).flatMap M.cells)) (hb : w.heap.size ≤ base) (hw : Below w.heap.size w w') :
    PutPost w ms m (.returned (.tuple #[v, .int .i64 0])) w' := by
  refine ⟨v, by rw [hE.1], ?_, hw⟩
  rw [hE.2]
  refine ⟨putM_fits hf.1 hf.2, ?_⟩
  rw [putM_len, putM, hp, ← last_flat]
  exact owns_mono ho hb

theorem rises_c {w : World} {v : Value} {ms : List M} (h : Msgs w v ms) : Calls Try.prog 26 #[v] w (GivesB (.bool (risesB ms)) w) := by
  obtain ⟨hl, a, cap, rfl, _, hc⟩ := h.open
  replace hc := Lib.hid hc
  go_enter Try.func26, Try.ntmps26
  go_wp2_with fail
  go_loopw [3] (fun i wr => ∃ k : Nat, i = .int .i64 (k + 1 : Nat) ∧ (k ≤ ms.length) ∧ (k < ms.length ∨ ms = []) ∧ risesB (ms.take (k + 1)) = true ∧ Below w.heap.size w wr) (fun i _ => ms.length - (intOf i).toNat)
  case atStart => exact ⟨0, rfl, by omega, by cases ms <;> simp, by cases ms <;> rfl, Below.refl _ _⟩
  case round =>
    obtain ⟨j, rfl, hk, hk2, hr, hb⟩ := hrel
    replace hr := Lib.hid hr
    by_cases hlt : j + 1 < ms.length
    · obtain ⟨b, off, rfl, hcc⟩ := hc.out (by intro e; subst e; simp at hlt)
      have hm := (hcc (j + 1) hlt).below hb
      have hp := (hcc j (by omega)).below hb
      obtain ⟨m, HM⟩ : ∃ m, ms.getD (j + 1) M.zero = m := ⟨_, rfl⟩
      obtain ⟨p, HP⟩ : ∃ p, ms.getD j M.zero = p := ⟨_, rfl⟩
      rw [HM] at hm
      rw [HP] at hp
      replace HM := Lib.hid HM
      replace HP := Lib.hid HP
      have hblt := cell_lt hm.1
      dsimp only at hblt
      obtain ⟨m0, m1, m2, m3, m4⟩ := hm
      obtain ⟨p0, p1, p2, p3, p4⟩ := hp
      have ht := Lib.hid (risesB_take (ms := ms) (j := j) hlt)
      go_wp2_with fail
      refine wp_region_over (by kernel_rfl) (by kernel_rfl) ?_
      repeat (go_big_quiet_step (exact over_c (LessOf_c _ p m)))
      refine wpQuiet_nil ?_
      rintro w2 ⟨⟨_, hb2⟩, rfl⟩
      cases hlm : lessM p m
      · go_wp2_with fail
        go_ret
        exact givesB_bool (below_trans hb hb2) (by rw [risesB_no (by rw [ht.out, HP.out, HM.out, hlm, Bool.and_false])])
      · go_wp2_with fail
        go_roundw
        case rel => exact ⟨j + 1, by go_num, by omega, Or.inl hlt, by rw [ht.out, HP.out, HM.out, hlm, hr.out]; rfl, below_trans hb hb2⟩
        case measure => simp [intOf]; omega
    · have hr := hr.out
      rw [List.take_of_length_le (by omega)] at hr
      replace hr := Lib.hid hr
      go_wp2_with fail
      go_ret
      exact givesB_bool hb (by rw [hr.out])

set_option maxHeartbeats 1000000 in
theorem PutOf_c {w : World} {v : Value} {ms : List M} {m : M} (h : Msgs w v ms) (hm : m.fits) :
    Calls Try.prog 12 #[v, m.val] w (PutPost w ms m) := by
  have hA := below_a1 w (.cells #[.int .i64 m.src, .int .i64 m.grp, .int .i64 m.stamp, .bool m.null, .string m.body] 24)
  have hM := MsgBox.new w m 24
  have hm' := Lib.hid (And.intro h.1 hm)
  have hR := rises_c (h.below hA)
  obtain ⟨i0, hi0, hz0, hz1, hz2⟩ := info_parts infoCMsg
  obtain ⟨hl, a, cap, rfl, _, hc⟩ := h.open
  replace hc := Lib.hid hc
  unfold M.val
  cases hr : risesB ms
  · rw [hr] at hR
    have hE := Lib.hid (put_rise (m := m) hr)
    clear hr
    go_enter Try.func12, Try.ntmps12
    go_wp2_with fail
    refine hR.mono ?_
    rintro e w2 ⟨rfl, hb⟩
    go_wp2_with fail
    go_ret2
    exact ⟨_, by rw [hE.out.1]; rfl, by rw [hE.out.2]; exact ⟨by simp, World.ownsRow_nil _ _ _ _⟩, below_trans hA hb⟩
  · rw [hr] at hR
    by_cases h40 : 40 ≤ (ms.length : Int)
    · have hE := Lib.hid (put_many (m := m) hr h40)
      clear hr
      go_enter Try.func12, Try.ntmps12
      go_wp2_with fail
      refine hR.mono ?_
      rintro e w2 ⟨rfl, hb⟩
      go_wp2_with fail
      go_ret2
      exact ⟨_, by rw [hE.out.1]; rfl, by rw [hE.out.2]; exact ⟨by simp, World.ownsRow_nil _ _ _ _⟩, below_trans hA hb⟩
    · have hr' := Lib.hid hr
      clear hr
      have h40' := h40
      go_enter Try.func12, Try.ntmps12
      go_wp2_with fail
      refine hR.mono ?_
      rintro e w2 ⟨rfl, hb⟩
      have hw2 := below_trans hA hb
      have hM2 := hM.below hb (by simp)
      have hbs := hb.size
      simp at hbs
      go_wp2_with fail
      go_loopw [6, 7] (fun o i wr => ∃ k : Nat, k ≤ ms.length ∧ i = .int .i64 k ∧ Hid (∀ t, t < k → lessM (ms.getD t M.zero) m = true) ∧ wr.ownsRow (w.heap.size + 1) 24 5 o k ((ms.take k).flatMap M.cells) ∧ Below (w.heap.size + 1) w2 wr) (fun _ i _ => ms.length - (intOf i).toNat)
      case atStart => exact ⟨0, by omega, rfl, fun t ht => absurd ht (Nat.not_lt_zero _), World.ownsRow_nil _ _ _ _, Below.refl _ _⟩
      case round =>
        obtain ⟨k, hk, rfl, hless, ho, hb4⟩ := hrel
        obtain ⟨a6, cap6, rfl⟩ := own_form ho
        have hs4 := hb4.size
        obtain ⟨c0, c1, c2, c3, c4⟩ := hM2.below hb4 (by omega)
        have hmb := cell_lt c0
        dsimp only at hmb
        by_cases hlt : k < ms.length
        · obtain ⟨b, off, rfl, hcc⟩ := hc.out (by intro e; subst e; simp at hlt)
          obtain ⟨d, hd⟩ : ∃ d, ms.getD k M.zero = d := ⟨_, rfl⟩
          have hw4 : Below w.heap.size w wr := hw2.trans (hb4.mono (by omega))
          obtain ⟨d0, d1, d2, d3, d4⟩ := (hcc k hlt).below hw4
          rw [hd] at d0 d1 d2 d3 d4
          replace hd := Lib.hid hd
          have hdb := cell_lt d0
          dsimp only at hdb
          have hlt' : decide ((k : Int) < (ms.length : Int)) = true := decide_eq_true (by omega)
          go_wp2_with fail
          refine wp_region_over (by kernel_rfl) (by kernel_rfl) ?_
          repeat (go_big_quiet_step (exact over_c (LessOf_c _ d m)))
          refine wpQuiet_nil ?_
          rintro w5 ⟨⟨_, hb5⟩, rfl⟩
          cases hlm : lessM d m
          · have hpos : posM ms m = k := posM_eq (by omega) hless.out (fun _ => by rw [hd.out, hlm])
            have hw5 := below_trans hw4 hb5
            have ho5 := owns_below ho hb5
            have e0 := (hb5.cell (p := ⟨b, off + k * 5, none⟩) hdb).trans d0
            have e1 := (hb5.cell (p := ⟨b, off + k * 5 + 1, none⟩) hdb).trans d1
            have e2 := (hb5.cell (p := ⟨b, off + k * 5 + 2, none⟩) hdb).trans d2
            have e3 := (hb5.cell (p := ⟨b, off + k * 5 + 3, none⟩) hdb).trans d3
            have e4 := (hb5.cell (p := ⟨b, off + k * 5 + 4, none⟩) hdb).trans d4
            obtain ⟨g0, g1, g2, g3, g4⟩ := hM2.below (hb4.trans (hb5.mono (by omega))) (by omega)
            have hrowH := Lib.hid (msgs_news h k)
            have hgmb := cell_lt g0
            have hdb5 := cell_lt e0
            dsimp only at hgmb hdb5
            have hck : ¬ cap = k := by omega
            have hrl : decide (0 < ms.length - k) = true := decide_eq_true (by omega)
            have hrl2 : (0 : Int) < ((ms.length - k : Nat) : Int) := by omega
            have hfd : foundM ms m = !lessM m d := by rw [foundM, hpos, hd.out, decide_eq_true hlt, Bool.true_and, ordM_zero hlm]
            have hpos := Lib.hid hpos
            have hfd := Lib.hid hfd
            go_wp2_with fail
            refine wp_region_over (by kernel_rfl) (by kernel_rfl) ?_
            repeat (go_big_quiet_step (exact over_c (LessOf_c _ m d)))
            refine wpQuiet_nil ?_
            rintro w7 ⟨⟨_, hb7⟩, rfl⟩
            cases hml : lessM m d
            · have hE := Lib.hid (put_is (m := m) hr'.out (by omega) (by rw [hfd.out, hml]; rfl))
              go_wp2_with fail
              go_ret2
              exact ⟨_, by rw [hE.out.1]; rfl, by rw [hE.out.2]; exact ⟨by simp, World.ownsRow_nil _ _ _ _⟩, below_trans hw5 hb7⟩
            · have hE := Lib.hid (put_ok (m := m) hr'.out (by omega) (by rw [hfd.out, hml]; rfl))
              have ho7 := owns_below ho5 hb7
              have hs7 := hb7.size
              have hs5 := hb5.size
              obtain ⟨g0, g1, g2, g3, g4⟩ := hM2.below ((hb4.trans (hb5.mono (by omega))).trans (hb7.mono (by omega))) (by omega)
              have hw7 := below_trans hw5 hb7
              have hdl : ((ms.drop k).flatMap M.cells).length = (ms.length - k) * 5 := by rw [flat_len, List.length_drop]
              have hdlH := Lib.hid hdl
              clear hdl
              go_wp2_with (first
                | (at_builtin; refine wpList_append_own _ rfl _ _ 30 rfl (w.heap.size + 1) 24 i0 _ 5 48 Try.underlying30 hi0 hz0 hz1 hz2 rfl (by decide) _ _ _ rfl (ho7.alloc _) ⟨w7.heap.size, 0, none⟩ 1 1 m.cells rfl rfl (cells_new _ _ _) (by simp [M.cells, Value.oneCell']) (by unfold maxLen; omega) (by omega) (by simp; omega) ?_; intro v' w1 hown1 hgrow1 _
                   have hw1 := below_app hw7 (owns_mono ho7 (by omega)) (by omega) hgrow1
                   have hs1 := hgrow1.size
                   rw [World.size_alloc] at hs1)
                | (at_builtin; refine wpList_append_own _ rfl _ _ 30 rfl (w.heap.size + 1) 24 i0 _ 5 48 Try.underlying30 hi0 hz0 hz1 hz2 rfl (by decide) _ _ _ rfl hown1 ⟨b, off + k * 5, none⟩ (ms.length - k) (cap - k) ((ms.drop k).flatMap M.cells) rfl hdlH.out (fun j u hj => (hw1.cell (cell_lt (hrowH.out j u hj))).trans (hrowH.out j u hj)) (one_flat _) (by unfold maxLen; omega) (by omega) (by omega) ?_; intro v2 w2' hown2 hgrow2 _))
              go_ret2
              refine putof_done (base := w.heap.size + 1) hpos.out hE.out hm'.out ?_ (by omega) (hw1.grown hgrow2 (by omega) (fun q e => by have := (hown1.lt q e).1; omega))
              rw [show ms.length + 1 = k + 1 + (ms.length - k) by omega]
              exact hown2
          · have ho5 := owns_below ho hb5
            have e0 := (hb5.cell (p := ⟨b, off + k * 5, none⟩) hdb).trans d0
            have e1 := (hb5.cell (p := ⟨b, off + k * 5 + 1, none⟩) hdb).trans d1
            have e2 := (hb5.cell (p := ⟨b, off + k * 5 + 2, none⟩) hdb).trans d2
            have e3 := (hb5.cell (p := ⟨b, off + k * 5 + 3, none⟩) hdb).trans d3
            have e4 := (hb5.cell (p := ⟨b, off + k * 5 + 4, none⟩) hdb).trans d4
            have hs5 := hb5.size
            have hb6 := hb4.trans (hb5.mono (by omega))
            go_wp2_with (at_builtin; refine wpList_append_own _ rfl _ _ 30 rfl (w.heap.size + 1) 24 i0 _ 5 48 Try.underlying30 hi0 hz0 hz1 hz2 rfl (by decide) _ _ _ rfl (ho5.alloc _) ⟨w5.heap.size, 0, none⟩ 1 1 d.cells rfl rfl (cells_new _ _ _) (by simp [M.cells, Value.oneCell']) (by unfold maxLen; omega) (by omega) (by simp; omega) ?_; intro v' w1 hown' hgrow _)
            go_roundw
            case rel =>
              refine ⟨k + 1, by omega, by go_num, fun t ht => ?_, ?_, below_app hb6 ho5 (by omega) hgrow⟩
              · rcases Nat.eq_or_lt_of_le (Nat.le_of_lt_succ ht) with e | e
                · subst e; rw [hd.out, hlm]
                · exact hless.out t e
              · rw [show (ms.take (k + 1)).flatMap M.cells = (ms.take k).flatMap M.cells ++ d.cells by
                  rw [← hd.out, getD_lt ms M.zero hlt, List.take_succ_eq_append_getElem hlt, List.flatMap_append]; simp]
                exact hown'
            case measure => simp [intOf]; omega
        · obtain rfl : k = ms.length := by omega
          have hlt' : decide ((ms.length : Int) < (ms.length : Int)) = false := decide_eq_false (by omega)
          have hpos : posM ms m = ms.length := posM_eq (by omega) hless.out (fun h => absurd h hlt)
          have hfd : foundM ms m = false := by rw [foundM, hpos, decide_eq_false hlt, Bool.false_and]
          have hE := Lib.hid (put_ok (m := m) hr'.out (by omega) hfd)
          have hrl : decide (0 < ms.length - ms.length) = false := decide_eq_false (by omega)
          have hw4 : Below w.heap.size w wr := hw2.trans (hb4.mono (by omega))
          replace hpos := Lib.hid hpos
          clear hfd
          have hw2' := hw2.mono (Nat.le_refl _)
          by_cases hcl : cap = ms.length
          all_goals
            go_wp2_with fail
            refine wp_region_over (by kernel_rfl) (by kernel_rfl) ?_
            repeat (go_big_quiet_step (fail))
            refine wpQuiet_nil ?_
            rintro w5 ⟨⟨_, hb5⟩, rfl⟩
            have ho5 := owns_below ho hb5
            have hs5 := hb5.size
            go_wp2_with fail
            refine wp_region_over (by kernel_rfl) (by kernel_rfl) ?_
            repeat (go_big_quiet_step (fail))
            refine wpQuiet_nil ?_
            rintro w7 ⟨⟨_, hb7⟩, rfl⟩
            have ho7 := owns_below ho5 hb7
            have hs7 := hb7.size
            obtain ⟨g0, g1, g2, g3, g4⟩ := hM2.below ((hb4.trans (hb5.mono (by omega))).trans (hb7.mono (by omega))) (by omega)
            have hw7 := below_trans (below_trans hw4 hb5) hb7
            go_wp2_with (first
              | (at_builtin; refine wpList_append_own _ rfl _ _ 30 rfl (w.heap.size + 1) 24 i0 _ 5 48 Try.underlying30 hi0 hz0 hz1 hz2 rfl (by decide) _ _ _ rfl (ho7.alloc _) ⟨w7.heap.size, 0, none⟩ 1 1 m.cells rfl rfl (cells_new _ _ _) (by simp [M.cells, Value.oneCell']) (by unfold maxLen; omega) (by omega) (by simp; omega) ?_; intro v' w1 hown1 hgrow1 _
                 have hw1 := below_app hw7 (owns_mono ho7 (by omega)) (by omega) hgrow1
                 have hs1 := hgrow1.size
                 rw [World.size_alloc] at hs1)
              | (at_builtin; refine wpList_append_zero rfl _ _ 30 rfl (w.heap.size + 1) 24 i0 5 Try.underlying30 hi0 _ _ _ rfl hown1 _ _ rfl ?_))
            go_ret2
            refine putof_done (base := w.heap.size + 1) hpos.out hE.out hm'.out ?_ (by omega) hw1
            rw [List.drop_length, List.flatMap_nil, List.append_nil]
            exact hown1
end Go.Proofs.Ythclljdkicihpaa
