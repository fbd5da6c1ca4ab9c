/-
  Groups: the document's answers walked; what must be in any case.
-/
import Derived.Test.YtkbdnbipjepcaaaGB
namespace Go.Proofs.Ytkbdnbipjepcaaa
open Go.RowKit Go.Shelf

set_option maxHeartbeats 400000 in
theorem SameInts_some (w : World) (b off cap b2 off2 cap2 : Nat) (xs ys : List Int) (hl : xs.length * 8 ≤ 140737488351232) (he : xs.length = ys.length)
    (hc : ∀ k, k < xs.length → w.cell? ⟨b, off + k, none⟩ = some (.int .i64 (xs.getD k 0)))
    (hc2 : ∀ k, k < ys.length → w.cell? ⟨b2, off2 + k, none⟩ = some (.int .i64 (ys.getD k 0))) :
    Calls Try.prog 11 #[.slice (some ⟨b, off, none⟩) xs.length cap, .slice (some ⟨b2, off2, none⟩) xs.length cap2] w (Gives (.bool (decide (xs = ys))) w) := by
  have hcH := Lib.hid hc
  have hcH2 := Lib.hid hc2
  have hE := Lib.hid he
  clear hc hc2 he
  go_enter Try.func11, Try.ntmps11
  go_wp2
  go_loopw [5] (fun i wr => ∃ k : Nat, k ≤ xs.length ∧ i = .int .i64 k ∧ xs.take k = ys.take k ∧ Drew w wr) (fun i _ => xs.length - (intOf i).toNat)
  case atStart => exact ⟨0, by omega, rfl, by simp, Drew.refl _⟩
  case round =>
    obtain ⟨k, hk, rfl, hg, hd⟩ := hrel
    have hG := Lib.hid hg
    clear hg
    by_cases hlt : k < xs.length
    · have hv := (hd.cell _).trans (hcH.out k hlt)
      have hv2 := (hd.cell _).trans (hcH2.out k (by rw [← hE.out]; exact hlt))
      have ht := Lib.hid (take_eq_succ (xs := xs) (ys := ys) (d := 0) hE.out hlt)
      generalize xs.getD k 0 = x at hv ht
      generalize ys.getD k 0 = y at hv2 ht
      by_cases hxy : x = y
      · have hb : (x != y) = false := by simp [hxy]
        have HX := Lib.hid hxy
        clear hxy
        go_wp2
        go_quiet (fail)
        go_wp2
        go_roundw
        case rel => exact ⟨k + 1, by omega, by go_num, (ht.out hG.out).1 HX.out, hd.drewN _⟩
        case measure => simp [intOf]; omega
      · have hb : (x != y) = true := by simp [hxy]
        have HX := Lib.hid hxy
        clear hxy
        go_wp2
        go_quiet (fail)
        go_wp2
        go_ret
        exact gives_bool (hd.drewN _) (by rw [decide_eq_false ((ht.out hG.out).2 HX.out)])
    · go_wp2
      go_ret
      exact gives_bool hd (by rw [decide_eq_true]; have := hG.out; rwa [List.take_of_length_le (by omega), List.take_of_length_le (by have := hE.out; omega)] at this)

theorem SameInts_c {w : World} {v u : Value} {xs ys : List Int} (h : Ints w v xs) (h2 : Ints w u ys) :
    Calls Try.prog 11 #[v, u] w (Gives (.bool (decide (xs = ys))) w) := by
  obtain ⟨hl, a, cap, rfl, _, hc⟩ := h.open
  obtain ⟨hl2, a2, cap2, rfl, _, hc2⟩ := h2.open
  by_cases he : xs.length = ys.length
  · by_cases hx : xs = []
    · subst hx
      obtain rfl : ys = [] := List.eq_nil_of_length_eq_zero he.symm
      clear hc hc2 he hl hl2
      go_enter Try.func11, Try.ntmps11
      go_wp2
      refine wp_loop_rounds 1 ?_
      rw [rounds_succ]
      go_wp2
      go_ret
      exact gives_bool (Drew.refl _) rfl
    · obtain ⟨b, off, rfl, hcc⟩ := hc hx
      obtain ⟨b2, off2, rfl, hcc2⟩ := hc2 (by intro e; subst e; exact hx (List.eq_nil_of_length_eq_zero he))
      rw [← he]
      exact SameInts_some w b off cap b2 off2 cap2 xs ys hl he hcc hcc2
  · have hb : ((xs.length : Int) != (ys.length : Int)) = true := by simp; omega
    have hne := Lib.hid (decide_eq_false (fun e : xs = ys => he (by rw [e])))
    clear hc hc2 he
    go_enter Try.func11, Try.ntmps11
    go_wp2
    go_ret
    exact gives_bool (Drew.refl _) hne.out.symm

theorem below_append {w wr w1 : World} {base : Nat} {e : TypeId} {s n : Nat} {v : Value} {cs : List Value} {o : Obj} (hb : Below base w wr) (ho : wr.ownsRow base e s v n cs) (hbs : base ≤ wr.heap.size)
    (hg : (wr.alloc o).grownBy w1 v.ownBlock) : Below base w w1 :=
  (hb.alloc hbs _).grown hg (by rw [World.size_alloc]; omega) (fun k e => (ho.lt k e).1)
theorem both_one {xs : List Int} {n : Int} {k : Nat} : (([n] : List Int).any fun x => !hasB xs (k : Int) x) = !hasB xs k n := by simp
theorem both_two {xs : List Int} {a b : Int} {k : Nat} : (([a, b] : List Int).any fun x => !hasB xs (k : Int) x) = !(hasB xs k a && hasB xs k b) := by simp

set_option maxHeartbeats 400000 in
theorem GroupsOf_c {w : World} {v : Value} {xs : List Int} (h : Ints w v xs) (n : Int) :
    Calls Try.prog 13 #[v, .int .i64 n] w fun e w' => ∃ v', e = .returned v' ∧ w'.ownsRow w.heap.size 3 1 v' (both xs [n] xs.length).length ((both xs [n] xs.length).map (Value.int .i64)) ∧ Below w.heap.size w w' := by
  obtain ⟨hl, a, cap, rfl, _⟩ := h.open
  obtain ⟨i0, hi, hz0, hz1, hz2⟩ := info_parts Try.info3
  go_enter Try.func13, Try.ntmps13
  go_wp2
  go_loopw [5, 6] (fun o i wr => ∃ k : Nat, k ≤ xs.length ∧ i = .int .i64 k ∧ wr.ownsRow w.heap.size 3 1 o (both xs [n] k).length ((both xs [n] k).map (Value.int .i64)) ∧ Below w.heap.size w wr) (fun _ i _ => xs.length - (intOf i).toNat)
  case atStart => exact ⟨0, by omega, rfl, World.ownsRow_nil _ _ _ _, Below.refl _ _⟩
  case round =>
    obtain ⟨k, hk, rfl, ho, hb⟩ := hrel
    by_cases hlt : k < xs.length
    · have hcon := HasOf_c (h.below hb) k n
      have hbl := both_len xs [n] k
      have hit := Lib.hid (@both_hit xs [n] k)
      have miss := Lib.hid (@both_miss xs [n] k)
      rw [both_one] at hit miss
      cases hh : hasB xs k n
      · rw [hh] at hcon hit miss
        go_wp2_with (go_at_call 10; refine hcon.mono ?_; rintro e w' ⟨rfl, rfl⟩)
        go_roundw
        case rel => exact ⟨k + 1, by omega, by go_num, by rw [miss.out rfl]; exact ho, hb⟩
        case measure => simp [intOf]; omega
      · rw [hh] at hcon hit miss
        go_wp2_with (first | (go_at_call 10; refine hcon.mono ?_; rintro e w' ⟨rfl, rfl⟩) | (at_builtin; refine wpList_append_own _ rfl _ _ 22 rfl w.heap.size 3 i0 (.int .i64 0) 1 8 Try.underlying22 hi hz0 hz1 hz2 rfl (by decide) _ _ _ rfl (ho.alloc _) ⟨wr.heap.size, 0, none⟩ 1 1 [.int .i64 k] rfl rfl (cell_one_new _ _ _) (by simp [Value.oneCell']) (by unfold maxLen; omega) (by omega) (by have := hb.size; simp; omega) ?_; intro v' w1 hown' hgrow _))
        go_roundw
        case rel => exact ⟨k + 1, by omega, by go_num, by rw [hit.out rfl]; simpa using hown', below_append hb ho hb.size hgrow⟩
        case measure => simp [intOf]; omega
    · obtain rfl : k = xs.length := by omega
      go_wp2
      go_ret
      exact ⟨_, rfl, ho, hb⟩

set_option maxHeartbeats 400000 in
theorem ShareOf_c {w : World} {v : Value} {xs : List Int} (h : Ints w v xs) (x y : Int) :
    Calls Try.prog 15 #[v, .int .i64 x, .int .i64 y] w fun e w' => e = .returned (.bool (!(both xs [x, y] xs.length).isEmpty)) ∧ w = w' := by
  obtain ⟨hl, a, cap, rfl, _⟩ := h.open
  go_enter Try.func15, Try.ntmps15
  go_wp2
  go_loop [7] (fun i => ∃ k : Nat, k ≤ xs.length ∧ i = .int .i64 k ∧ both xs [x, y] k = []) (fun i => xs.length - (intOf i).toNat)
  case atStart => exact ⟨0, by omega, rfl, rfl⟩
  case round =>
    obtain ⟨k, hk, rfl, ho⟩ := hrel
    have hO := Lib.hid ho
    clear ho
    by_cases hlt : k < xs.length
    · have hcon := HasOf_c h k x
      have hcon2 := HasOf_c h k y
      have hit := Lib.hid (@both_hit xs [x, y] k)
      have miss := Lib.hid (@both_miss xs [x, y] k)
      rw [both_two] at hit miss
      cases hh : hasB xs k x <;> cases hh2 : hasB xs k y <;> rw [hh] at hcon hit miss <;> rw [hh2] at hcon2 hit miss
      · go_wp2_with fail
        refine hcon.mono ?_; rintro e w' ⟨rfl, rfl⟩
        go_wp2_with fail
        go_round
        case rel => exact ⟨k + 1, by omega, by go_num, by rw [miss.out rfl, hO.out]⟩
        case measure => simp [intOf]; omega
      · go_wp2_with fail
        refine hcon.mono ?_; rintro e w' ⟨rfl, rfl⟩
        go_wp2_with fail
        go_round
        case rel => exact ⟨k + 1, by omega, by go_num, by rw [miss.out rfl, hO.out]⟩
        case measure => simp [intOf]; omega
      · go_wp2_with fail
        refine hcon.mono ?_; rintro e w' ⟨rfl, rfl⟩
        go_wp2_with fail
        refine hcon2.mono ?_; rintro e w' ⟨rfl, rfl⟩
        go_wp2_with fail
        go_round
        case rel => exact ⟨k + 1, by omega, by go_num, by rw [miss.out rfl, hO.out]⟩
        case measure => simp [intOf]; omega
      · go_wp2_with fail
        refine hcon.mono ?_; rintro e w' ⟨rfl, rfl⟩
        go_wp2_with fail
        refine hcon2.mono ?_; rintro e w' ⟨rfl, rfl⟩
        go_wp2_with fail
        go_ret
        refine ⟨ret_bool ?_, rfl⟩
        obtain ⟨r, hr⟩ := both_take (xs := xs) (ns := [x, y]) (k := k + 1) (n := xs.length) (by omega)
        rw [hr, hit.out rfl]
        cases both xs [x, y] k <;> rfl
    · obtain rfl : k = xs.length := by omega
      go_wp2
      go_ret
      exact ⟨ret_bool (by rw [hO.out]; rfl), rfl⟩

theorem two_c (w : World) : Calls Try.prog 16 #[] w fun e w' => ∃ v, e = .returned v ∧ Ints w' v [3, 6] ∧ Below w.heap.size w w' := by
  have hl := Ints.lit w [3, 6] 3 (by simp [I64]) (by simp)
  go_enter Try.func16, Try.ntmps16
  go_wp2
  go_ret
  exact ⟨_, rfl, hl, (Below.refl _ _).alloc (Nat.le_refl _) _⟩

theorem Ints.nil (w : World) : Ints w (.slice none 0 0) [] := ⟨by simp, by simp, by simp, none, 0, rfl, Nat.le_refl _, fun h => absurd rfl h⟩

set_option maxHeartbeats 1000000 in
theorem groupsBegun_c (w : World) : Calls Try.prog 6 #[] w (GivesB (.bool true) w) := by
  go_enter Try.func6, Try.ntmps6
  go_wp2_with fail
  refine (two_c _).mono ?_
  rintro e1 w1 ⟨v1, rfl, i1, b1⟩
  have hc2 := Check_c i1 3
  rw [show gErr 3 [3, 6] = 0 from by decide +kernel] at hc2
  go_wp2_with fail
  refine hc2.mono ?_
  clear hc2
  rintro e2 w2 ⟨rfl, b2⟩
  go_wp2_with fail
  refine (two_c _).mono ?_
  rintro e3 w3 ⟨v3, rfl, i3, b3⟩
  have hc4 := Check_c i3 0
  rw [show gErr 0 [3, 6] = 3 from by decide +kernel] at hc4
  go_wp2_with fail
  refine hc4.mono ?_
  clear hc4
  rintro e4 w4 ⟨rfl, b4⟩
  have hc5 := Check_c (Ints.nil w4) 3
  rw [show gErr 3 [] = 2 from by decide +kernel] at hc5
  go_wp2_with fail
  refine hc5.mono ?_
  clear hc5
  rintro e5 w5 ⟨rfl, b5⟩
  go_wp2_with fail
  refine (two_c _).mono ?_
  rintro e6 w6 ⟨v6, rfl, i6, b6⟩
  have hc7 := Check_c i6 2
  rw [show gErr 2 [3, 6] = 1 from by decide +kernel] at hc7
  go_wp2_with fail
  refine hc7.mono ?_
  clear hc7
  rintro e7 w7 ⟨rfl, b7⟩
  go_wp2_with fail
  have i0 := Ints.lit w7 [0] 3 (by simp [I64]) (by simp)
  have b0 : Below w7.heap.size w7 (w7.alloc (.cells #[.int .i64 0] 3)) := (Below.refl _ _).alloc (Nat.le_refl _) _
  have hc8 := Check_c i0 3
  rw [show gErr 3 [0] = 1 from by decide +kernel] at hc8
  go_wp2_with fail
  refine hc8.mono ?_
  clear hc8
  rintro e8 w8 ⟨rfl, b8⟩
  go_wp2_with fail
  refine (two_c _).mono ?_
  rintro e9 w9 ⟨v9, rfl, i9, b9⟩
  have hc10 := Has_c i9 0 1
  rw [show hasB [3, 6] 0 1 = true from by decide +kernel] at hc10
  go_wp2_with fail
  refine hc10.mono ?_
  clear hc10
  rintro e10 w10 ⟨rfl, rfl⟩
  go_wp2_with fail
  refine (two_c _).mono ?_
  rintro e11 w11 ⟨v11, rfl, i11, b11⟩
  have hc12 := Has_c i11 0 2
  rw [show hasB [3, 6] 0 2 = false from by decide +kernel] at hc12
  go_wp2_with fail
  refine hc12.mono ?_
  clear hc12
  rintro e12 w12 ⟨rfl, rfl⟩
  go_wp2_with fail
  refine (two_c _).mono ?_
  rintro e13 w13 ⟨v13, rfl, i13, b13⟩
  have hc14 := Has_c i13 2 0
  rw [show hasB [3, 6] 2 0 = false from by decide +kernel] at hc14
  go_wp2_with fail
  refine hc14.mono ?_
  clear hc14
  rintro e14 w14 ⟨rfl, rfl⟩
  go_wp2_with fail
  refine (two_c _).mono ?_
  rintro e15 w15 ⟨v15, rfl, i15, b15⟩
  have hc16 := Of_c i15 1 (by simp [I64])
  rw [show both [3, 6] [1] ([3, 6] : List Int).length = [0, 1] from by decide +kernel] at hc16
  go_wp2_with fail
  refine hc16.mono ?_
  clear hc16
  rintro e16 w16 ⟨v16, rfl, i16, b16⟩
  go_wp2_with fail
  have j16 := Ints.lit w16 [0, 1] 3 (by simp [I64]) (by simp)
  have c16 : Below w16.heap.size w16 (w16.alloc (.cells #[.int .i64 0, .int .i64 1] 3)) := (Below.refl _ _).alloc (Nat.le_refl _) _
  have hc17 := SameInts_c (i16.below c16) j16
  rw [show decide (([0, 1] : List Int) = [0, 1]) = true from by decide +kernel] at hc17
  go_wp2_with fail
  refine hc17.mono ?_
  clear hc17
  rintro e17 w17 ⟨rfl, d17⟩
  have b17 := d17.below
  go_wp2_with fail
  refine (two_c _).mono ?_
  rintro e18 w18 ⟨v18, rfl, i18, b18⟩
  have hc19 := Of_c i18 2 (by simp [I64])
  rw [show both [3, 6] [2] ([3, 6] : List Int).length = [1] from by decide +kernel] at hc19
  go_wp2_with fail
  refine hc19.mono ?_
  clear hc19
  rintro e19 w19 ⟨v19, rfl, i19, b19⟩
  go_wp2_with fail
  have j19 := Ints.lit w19 [1] 3 (by simp [I64]) (by simp)
  have c19 : Below w19.heap.size w19 (w19.alloc (.cells #[.int .i64 1] 3)) := (Below.refl _ _).alloc (Nat.le_refl _) _
  have hc20 := SameInts_c (i19.below c19) j19
  rw [show decide (([1] : List Int) = [1]) = true from by decide +kernel] at hc20
  go_wp2_with fail
  refine hc20.mono ?_
  clear hc20
  rintro e20 w20 ⟨rfl, d20⟩
  have b20 := d20.below
  go_wp2_with fail
  refine (two_c _).mono ?_
  rintro e21 w21 ⟨v21, rfl, i21, b21⟩
  have hc22 := Share_c i21 0 1 (by simp [I64]) (by simp [I64])
  rw [show (!(both [3, 6] [0, 1] ([3, 6] : List Int).length).isEmpty) = true from by decide +kernel] at hc22
  go_wp2_with fail
  refine hc22.mono ?_
  clear hc22
  rintro e22 w22 ⟨rfl, b22⟩
  go_wp2_with fail
  refine (two_c _).mono ?_
  rintro e23 w23 ⟨v23, rfl, i23, b23⟩
  have hc24 := Share_c i23 0 2 (by simp [I64]) (by simp [I64])
  rw [show (!(both [3, 6] [0, 2] ([3, 6] : List Int).length).isEmpty) = false from by decide +kernel] at hc24
  go_wp2_with fail
  refine hc24.mono ?_
  clear hc24
  rintro e24 w24 ⟨rfl, b24⟩
  go_wp2_with fail
  go_ret
  exact givesB_bool (below_trans b1 (below_trans b2 (below_trans b3 (below_trans b4 (below_trans b5 (below_trans b6 (below_trans b7 (below_trans b0 (below_trans b8 (below_trans b9 (below_trans b11 (below_trans b13 (below_trans b15 (below_trans b16 (below_trans c16 (below_trans b17 (below_trans b18 (below_trans b19 (below_trans c19 (below_trans b20 (below_trans b21 (below_trans b22 (below_trans b23 (b24)))))))))))))))))))))))) rfl
end Go.Proofs.Ytkbdnbipjepcaaa
