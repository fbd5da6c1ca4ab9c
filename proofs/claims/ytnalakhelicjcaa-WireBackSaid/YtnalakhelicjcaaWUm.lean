/-
  A message that is read; messages.
-/
import Derived.Test.YtnalakhelicjcaaWUl
import Derived.Test.YtnalakhelicjcaaWKA
import Derived.Test.YtnalakhelicjcaaWSc
set_option maxRecDepth 100000
namespace Go.Proofs.Ytnalakhelicjcaa
open Go.RowKit Go.Shelf Go.BigFrame Go.Deep

theorem bindR_none {α β : Type} {p : Rdr α} {f : α → Rdr β} {l : List Int} (h : p l = none) : bindR p f l = none := by
  unfold bindR
  rw [h]
theorem RdPost.fail {α : Type} {w w' : World} {G : Nat} {r : Option (α × List Int)} {V : World → Value → α → Prop} (h : Save (fun b => b = G) w w') (hr : r = none) : RdPost w G r V (.panicked [shortE]) w' := ⟨h, Or.inl ⟨hr, rfl⟩⟩
theorem RdPost.mono {α : Type} {w : World} {G : Nat} {r : Option (α × List Int)} {V V' : World → Value → α → Prop} (hV : ∀ w' v x, V w' v x → V' w' v x) {e : Ending} {w' : World} (h : RdPost w G r V e w') : RdPost w G r V' e w' :=
  ⟨h.1, h.2.imp id fun ⟨x, t, v, a, b, c, d⟩ => ⟨x, t, v, a, b, hV _ _ _ c, d⟩⟩
theorem Glass.below {w w' : World} {G : Nat} {l : List Int} (h : Glass w G l) (k : Below w.heap.size w w') : Glass w' G l := h.keep (k.block G h.lt)

theorem BlkIs.some {w : World} {b : Nat} {e : TypeId} {n : Nat} (h : BlkIs w b e n) (i : Nat) (hi : i < n) : ∃ u, w.cell? ⟨b, i, Option.none⟩ = Option.some u := by
  obtain ⟨cur, hc, hn⟩ := h
  exact ⟨cur[i]'(by omega), by simp [World.cell?, hc, show i < cur.size by omega]⟩
theorem Save.pre {G : Nat} {w w1 w2 : World} (k : Below w.heap.size w w1) (h : Save (fun b => b = G) w1 w2) (_ : G < w.heap.size) : Save (fun b => b = G) w w2 :=
  ⟨h.os.trans k.os, h.tape.trans k.tape, h.output.trans k.output, Nat.le_trans k.size h.size, fun b hb hn => (h.block b (Nat.lt_of_lt_of_le hb k.size) hn).trans (k.block b hb)⟩

set_option maxHeartbeats 1000000 in
theorem msg_c {w : World} {G : Nat} {l : List Int} (h : Glass w G l) : Calls Try.prog 84 #[.pointer (some ⟨G, 0, none⟩)] w (RdPost w G (msgP l) (ElV MEl oneA w)) := by
  obtain ⟨r, hr⟩ : ∃ r, msgP l = r := ⟨_, rfl⟩
  rw [hr]
  unfold msgP at hr
  obtain ⟨P, hP⟩ : ∃ P, RdPost w G r (ElV MEl oneA w) = P := ⟨_, rfl⟩
  rw [hP]
  replace hP := Lib.hid hP
  have hGl := h.lt
  have ba := below_a1 w (.cells #[.int .i64 0, .int .i64 0, .int .i64 0, .bool false, .string ⟨#[]⟩] 33)
  have hB0 : BlkIs (w.alloc (.cells #[.int .i64 0, .int .i64 0, .int .i64 0, .bool false, .string ⟨#[]⟩] 33)) w.heap.size 33 5 := ⟨_, heap_alloc_new w _, rfl⟩
  have h0 := h.below ba
  replace hr := Lib.hid hr
  go_enter Try.func84, Try.ntmps84
  go_upto_region 1 with fail
  generalize w.alloc (.cells #[.int .i64 0, .int .i64 0, .int .i64 0, .bool false, .string ⟨#[]⟩] 33) = wa at *
  obtain ⟨R, hR⟩ : ∃ R, w.heap.size = R := ⟨_, rfl⟩
  simp only [hR] at hB0 ⊢
  replace hR := Lib.hid hR
  have hRG : R ≠ G := by have := hR.out; omega
  have hRw := Lib.hid (Nat.le_of_eq hR.out)
  have sv := (Save.refl (fun b => b = G) w).then ba
  have hC9 := small_c h0
  go_wp2_with fail
  refine hC9.mono ?_
  clear hC9
  rintro e w1 ⟨s9, ⟨q9, rfl⟩ | ⟨a, l1, v9, q9, rfl, ⟨rfl, ha⟩, h1⟩⟩
  · have e9 := hr.out
    rw [bindR_none q9] at e9
    go_wp2_with fail
    refine ⟨rfl, ?_⟩
    rw [← hP.out, ← e9]
    exact RdPost.fail (sv.trans s9 (fun _ h _ => h)) rfl
  have hr9 := hr.out
  rw [bindR_some q9] at hr9
  clear hr
  have hr := Lib.hid hr9
  clear hr9 q9
  have sv9 := sv.trans s9 (fun _ h _ => h)
  clear sv
  have sv := sv9
  clear sv9
  have hB1 := hB0.same (s9.block R hB0.lt hRG)
  clear s9 h0 hB0
  have hC9 := small_c h1
  go_wp2_with fail
  refine hC9.mono ?_
  clear hC9
  rintro e w2 ⟨s9, ⟨q9, rfl⟩ | ⟨g, l2, v9, q9, rfl, ⟨rfl, hg⟩, h2⟩⟩
  · have e9 := hr.out
    rw [bindR_none q9] at e9
    go_wp2_with fail
    refine ⟨rfl, ?_⟩
    rw [← hP.out, ← e9]
    exact RdPost.fail (sv.trans s9 (fun _ h _ => h)) rfl
  have hr9 := hr.out
  rw [bindR_some q9] at hr9
  clear hr
  have hr := Lib.hid hr9
  clear hr9 q9
  have sv9 := sv.trans s9 (fun _ h _ => h)
  clear sv
  have sv := sv9
  clear sv9
  have hB2 := hB1.same (s9.block R hB1.lt hRG)
  clear s9 h1 hB1
  have bb := below_a1 w2 (.cells #[.int .i64 a, .int .i64 g, .int .i64 0, .bool false, .string ⟨#[]⟩] 33)
  have hM3 : BlkIs (w2.alloc (.cells #[.int .i64 a, .int .i64 g, .int .i64 0, .bool false, .string ⟨#[]⟩] 33)) w2.heap.size 33 5 := ⟨_, heap_alloc_new w2 _, rfl⟩
  have hMb := MsgBox.new w2 ⟨a, g, 0, false, ⟨#[]⟩⟩ 33
  have h3 := h2.below bb
  have hB3 := hB2.same (bb.block R hB2.lt)
  have hlt2 := hB2.lt
  have hgl2 := h2.lt
  have svb := sv.then (bb.mono sv.size)
  have hsw := sv.size
  clear sv
  have sv := svb
  clear svb h2 hB2
  go_upto_region 2 with fail
  change MsgBox (w2.alloc (.cells #[.int .i64 a, .int .i64 g, .int .i64 0, .bool false, .string ⟨#[]⟩] 33)) _ _ at hMb
  generalize w2.alloc (.cells #[.int .i64 a, .int .i64 g, .int .i64 0, .bool false, .string ⟨#[]⟩] 33) = w3 at *
  obtain ⟨C, hC⟩ : ∃ C, w2.heap.size = C := ⟨_, rfl⟩
  simp only [hC] at hM3 hMb hlt2 hgl2 hsw ⊢
  clear hC bb
  have hCG : C ≠ G := by omega
  have hCR : C ≠ R := by omega
  obtain ⟨m0, m1, m2, m3, m4⟩ := hMb
  dsimp only at m0 m1 m2 m3 m4
  have hC9 := small_c h3
  go_wp2_with fail
  refine hC9.mono ?_
  clear hC9
  rintro e w4 ⟨s9, ⟨q9, rfl⟩ | ⟨z, l4, v9, q9, rfl, ⟨rfl, hz⟩, h4⟩⟩
  · have e9 := hr.out
    rw [bindR_none q9] at e9
    go_wp2_with fail
    refine ⟨rfl, ?_⟩
    rw [← hP.out, ← e9]
    exact RdPost.fail (sv.trans s9 (fun _ h _ => h)) rfl
  have hr9 := hr.out
  rw [bindR_some q9] at hr9
  clear hr
  have hr := Lib.hid hr9
  clear hr9 q9
  have sv9 := sv.trans s9 (fun _ h _ => h)
  clear sv
  have sv := sv9
  clear sv9
  have kp : ∀ {j : Nat} {u : Value}, w3.cell? ⟨C, j, none⟩ = some u → w4.cell? ⟨C, j, none⟩ = some u := fun hu => (World.cell?_of_block (w := w3) (s9.block C hM3.lt hCG)).trans hu
  have m0 := kp m0
  have m1 := kp m1
  have m2 := kp m2
  have m3 := kp m3
  have m4 := kp m4
  have hM4 := hM3.same (s9.block C hM3.lt hCG)
  have hB4 := hB3.same (s9.block R hB3.lt hRG)
  clear kp s9 h3 hM3 hB3
  by_cases hz1 : 1 < z
  · have e9 := hr.out
    rw [if_pos hz1] at e9
    have q9 : decide (1 < z) = true := decide_eq_true hz1
    go_wp2_with fail
    refine ⟨rfl, ?_⟩
    rw [← hP.out, ← e9]
    exact RdPost.fail sv rfl
  have q9 : decide (1 < z) = false := decide_eq_false hz1
  have hr9 := hr.out
  rw [if_neg hz1] at hr9
  clear hr
  have hr := Lib.hid hr9
  clear hr9
  have f3 := hM4.frozen 3
  have hCw := Lib.hid (show w.heap.size ≤ C by have := sv.size; have := hRw.out; omega)
  have sv5 := sv.then (below_setCell (a := ⟨C, 3, none⟩) (Below.refl w.heap.size w4) hCw.out (.bool (z == 1)))
  have h5 := h4.keep (w' := w4.setCell ⟨C, 3, none⟩ (.bool (z == 1))) (Go.Deep.blk_setCell_other _ _ _ _ (fun e => hCG e.symm))
  have hB5 := hB4.same (w' := w4.setCell ⟨C, 3, none⟩ (.bool (z == 1))) (Go.Deep.blk_setCell_other _ _ _ _ (fun e => hCR e.symm))
  have hM5 := hM4.setCell (a := 3) (u := .bool (z == 1))
  have n3 := hM4.cell_set (a := 3) (u := .bool (z == 1)) (by omega)
  have n0 := (cell_setCell (u := .bool (z == 1)) (a := 3) 0 (by omega)).trans m0
  have n1 := (cell_setCell (u := .bool (z == 1)) (a := 3) 1 (by omega)).trans m1
  have n2 := (cell_setCell (u := .bool (z == 1)) (a := 3) 2 (by omega)).trans m2
  have n4 := (cell_setCell (u := .bool (z == 1)) (a := 3) 4 (by omega)).trans m4
  go_upto_region 6 with fail
  generalize w4.setCell ⟨C, 3, none⟩ (.bool (z == 1)) = w5 at *
  clear m0 m1 m2 m3 m4 f3 q9 sv h4 hM4 hB4
  have sv := sv5
  clear sv5
  have hC9 := small_c h5
  go_wp2_with fail
  refine hC9.mono ?_
  clear hC9
  rintro e w6 ⟨s9, ⟨q9, rfl⟩ | ⟨n, l6, v9, q9, rfl, ⟨rfl, hn⟩, h6⟩⟩
  · have e9 := hr.out
    rw [bindR_none q9] at e9
    go_wp2_with fail
    refine ⟨rfl, ?_⟩
    rw [← hP.out, ← e9]
    exact RdPost.fail (sv.trans s9 (fun _ h _ => h)) rfl
  have hr9 := hr.out
  rw [bindR_some q9] at hr9
  clear hr
  have hr := Lib.hid hr9
  clear hr9 q9
  have sv9 := sv.trans s9 (fun _ h _ => h)
  clear sv
  have sv := sv9
  clear sv9
  have kp : ∀ {j : Nat} {u : Value}, w5.cell? ⟨C, j, none⟩ = some u → w6.cell? ⟨C, j, none⟩ = some u := fun hu => (World.cell?_of_block (w := w5) (s9.block C hM5.lt hCG)).trans hu
  have n0 := kp n0
  have n1 := kp n1
  have n2 := kp n2
  have n3 := kp n3
  have n4 := kp n4
  have hM6 := hM5.same (s9.block C hM5.lt hCG)
  have hB6 := hB5.same (s9.block R hB5.lt hRG)
  clear kp s9 h5 hM5 hB5
  obtain ⟨k, rfl⟩ := Int.eq_ofNat_of_zero_le hn.1
  have hT := take_c h6 k (by omega)
  go_wp2_with fail
  refine hT.mono ?_
  clear hT
  rintro e w7 (⟨q7, rfl, rfl⟩ | ⟨q7, rfl, hw7⟩)
  · have e9 := hr.out
    rw [Int.toNat_natCast, bindR_none (by unfold takeP; rw [if_pos q7])] at e9
    go_wp2_with fail
    refine ⟨rfl, ?_⟩
    rw [← hP.out, ← e9]
    exact RdPost.fail sv rfl
  have hr9 := hr.out
  rw [Int.toNat_natCast, bindR_some (by unfold takeP; rw [if_neg (by omega)])] at hr9
  clear hr
  have hr := Lib.hid hr9
  clear hr9
  have s9 : Save (fun b => b = G) w6 w7 := hw7 ▸ save_cell
  have h7 : Glass w7 G (l6.drop k) := hw7 ▸ h6.put (octs_drop h6.1 k)
  have ob := octs_take h6.1 k
  have hbl : (l6.take k).length = k := by rw [List.length_take]; omega
  generalize l6.take k = bs at *
  generalize l6.drop k = l7 at *
  have kp : ∀ {j : Nat} {u : Value}, w6.cell? ⟨C, j, none⟩ = some u → w7.cell? ⟨C, j, none⟩ = some u := fun hu => (World.cell?_of_block (w := w6) (s9.block C hM6.lt hCG)).trans hu
  have n0 := kp n0
  have n1 := kp n1
  have n2 := kp n2
  have n3 := kp n3
  have n4 := kp n4
  have hM7 := hM6.same (s9.block C hM6.lt hCG)
  have hB7 := hB6.same (s9.block R hB6.lt hRG)
  have sv7 := sv.trans s9 (fun _ h _ => h)
  clear kp s9 h6 hM6 hB6 hw7 q7 sv
  have f4 := hM7.frozen 4
  have sv := sv7.then (below_setCell (a := ⟨C, 4, none⟩) (Below.refl w.heap.size w7) hCw.out (.string (strOfNums bs)))
  have h8 := h7.keep (w' := w7.setCell ⟨C, 4, none⟩ (.string (strOfNums bs))) (Go.Deep.blk_setCell_other _ _ _ _ (fun e => hCG e.symm))
  have hB8 := hB7.same (w' := w7.setCell ⟨C, 4, none⟩ (.string (strOfNums bs))) (Go.Deep.blk_setCell_other _ _ _ _ (fun e => hCR e.symm))
  have hM8 := hM7.setCell (a := 4) (u := .string (strOfNums bs))
  have m4 := hM7.cell_set (a := 4) (u := .string (strOfNums bs)) (by omega)
  have m0 := (cell_setCell (u := .string (strOfNums bs)) (a := 4) 0 (by omega)).trans n0
  have m1 := (cell_setCell (u := .string (strOfNums bs)) (a := 4) 1 (by omega)).trans n1
  have m2 := (cell_setCell (u := .string (strOfNums bs)) (a := 4) 2 (by omega)).trans n2
  have m3 := (cell_setCell (u := .string (strOfNums bs)) (a := 4) 3 (by omega)).trans n3
  go_upto_region 7 with fail
  generalize w7.setCell ⟨C, 4, none⟩ (.string (strOfNums bs)) = w8 at *
  clear n0 n1 n2 n3 n4 f4 sv7 h7 hM7 hB7
  have hC9 := wide_c h8
  go_wp2_with fail
  refine hC9.mono ?_
  clear hC9
  rintro e w9 ⟨s9, ⟨q9, rfl⟩ | ⟨st, l9, v9, q9, rfl, ⟨rfl, hs⟩, h9⟩⟩
  · have e9 := hr.out
    rw [bindR_none q9] at e9
    go_wp2_with fail
    refine ⟨rfl, ?_⟩
    rw [← hP.out, ← e9]
    exact RdPost.fail (sv.trans s9 (fun _ h _ => h)) rfl
  have hr9 := hr.out
  rw [bindR_some q9] at hr9
  clear hr
  have hr := Lib.hid hr9
  clear hr9 q9
  have sv9 := sv.trans s9 (fun _ h _ => h)
  clear sv
  have sv := sv9
  clear sv9
  have kp : ∀ {j : Nat} {u : Value}, w8.cell? ⟨C, j, none⟩ = some u → w9.cell? ⟨C, j, none⟩ = some u := fun hu => (World.cell?_of_block (w := w8) (s9.block C hM8.lt hCG)).trans hu
  have m0 := kp m0
  have m1 := kp m1
  have m2 := kp m2
  have m3 := kp m3
  have m4 := kp m4
  have hM9 := hM8.same (s9.block C hM8.lt hCG)
  have hB9 := hB8.same (s9.block R hB8.lt hRG)
  clear kp s9 h8 hM8 hB8
  have f2 := hM9.frozen 2
  have sv9 := sv.then (below_setCell (a := ⟨C, 2, none⟩) (Below.refl w.heap.size w9) hCw.out (.int .i64 st))
  have h10 := h9.keep (w' := w9.setCell ⟨C, 2, none⟩ (.int .i64 st)) (Go.Deep.blk_setCell_other _ _ _ _ (fun e => hCG e.symm))
  have hB10 := hB9.same (w' := w9.setCell ⟨C, 2, none⟩ (.int .i64 st)) (Go.Deep.blk_setCell_other _ _ _ _ (fun e => hCR e.symm))
  have n2 := hM9.cell_set (a := 2) (u := .int .i64 st) (by omega)
  have n0 := (cell_setCell (u := .int .i64 st) (a := 2) 0 (by omega)).trans m0
  have n1 := (cell_setCell (u := .int .i64 st) (a := 2) 1 (by omega)).trans m1
  have n3 := (cell_setCell (u := .int .i64 st) (a := 2) 3 (by omega)).trans m3
  have n4 := (cell_setCell (u := .int .i64 st) (a := 2) 4 (by omega)).trans m4
  go_upto_region 8 with fail
  generalize w9.setCell ⟨C, 2, none⟩ (.int .i64 st) = w10 at *
  clear m0 m1 m2 m3 m4 f2 sv h9 hM9 hB9
  have g0 := hB10.frozen 0
  have g1 := hB10.frozen 1
  have g2 := hB10.frozen 2
  have g3 := hB10.frozen 3
  have g4 := hB10.frozen 4
  obtain ⟨u0, r0⟩ := hB10.some 0 (by omega)
  obtain ⟨u1, r1⟩ := hB10.some 1 (by omega)
  obtain ⟨u2, r2⟩ := hB10.some 2 (by omega)
  obtain ⟨u3, r3⟩ := hB10.some 3 (by omega)
  obtain ⟨u4, r4⟩ := hB10.some 4 (by omega)
  obtain ⟨_, k0, k1, k2, k3, k4⟩ := five_put hB10 (.int .i64 a) (.int .i64 g) (.int .i64 st) (.bool (z == 1)) (.string (strOfNums bs))
  have b11 : Below w.heap.size w10 (((((w10.setCell ⟨R, 0, none⟩ (.int .i64 a)).setCell ⟨R, 1, none⟩ (.int .i64 g)).setCell ⟨R, 2, none⟩ (.int .i64 st)).setCell ⟨R, 3, none⟩ (.bool (z == 1))).setCell ⟨R, 4, none⟩ (.string (strOfNums bs))) := below_setCell (below_setCell (below_setCell (below_setCell (below_setCell (Below.refl _ _) hRw.out _) hRw.out _) hRw.out _) hRw.out _) hRw.out _
  have h11 : Glass (((((w10.setCell ⟨R, 0, none⟩ (.int .i64 a)).setCell ⟨R, 1, none⟩ (.int .i64 g)).setCell ⟨R, 2, none⟩ (.int .i64 st)).setCell ⟨R, 3, none⟩ (.bool (z == 1))).setCell ⟨R, 4, none⟩ (.string (strOfNums bs))) G l9 := h10.keep (b11.block G hGl)
  have sv := sv9.then b11
  have hres := hr.out
  replace k0 := Lib.hid k0
  replace k1 := Lib.hid k1
  replace k2 := Lib.hid k2
  replace k3 := Lib.hid k3
  replace k4 := Lib.hid k4
  go_wp2_with ((with_reducible refine bodyPost_ret (v := (M.mk a g st (z == 1) (strOfNums bs)).val) ?_ rfl ?_); (focus (have k0 := k0.out; have k1 := k1.out; have k2 := k2.out; have k3 := k3.out; have k4 := k4.out; simp [results, Try.f84]; go_simp)))
  · rfl
  rw [← hP.out, ← hres]
  exact ⟨sv, Or.inr ⟨_, l9, _, rfl, rfl, ⟨fun _ => False, _, rfl, ⟨rfl, by unfold I64; dsimp only; omega, by unfold I64; dsimp only; omega, by unfold I64; dsimp only; omega, by dsimp only; rw [str_len, hbl]; omega⟩, fun _ h => h.elim⟩, h11⟩⟩
theorem ElV.one {α : Type} {El : ElO α} {mk : List Value → Value} {w w1 w' : World} {v : Value} {x : α} (h : ElV El mk w1 w' v x) (k : w.heap.size ≤ w1.heap.size) : ElV El mk w w' v x := by
  obtain ⟨T, cs, a, b, c⟩ := h
  exact ⟨T, cs, a, b, fun t ht => ⟨Nat.le_trans k (c t ht).1, (c t ht).2⟩⟩
theorem ListV.one {α : Type} {El : ElO α} {e : TypeId} {s : Nat} {w w1 w' : World} {v : Value} {xs : List α} (h : ListV El e s w1 w' v xs) (k : w.heap.size ≤ w1.heap.size) : ListV El e s w w' v xs := by
  obtain ⟨S, a, c⟩ := h
  exact ⟨S, a, fun t ht => ⟨Nat.le_trans k (c t ht).1, (c t ht).2⟩⟩
theorem msg_one (w : World) (G : Nat) : OneC 84 (#[.pointer (some ⟨G, 0, none⟩)] ++ #[]) G w msgP (ElV MEl oneA) := ⟨fun _ _ => rfl, fun _ _ hG _ => msg_c hG⟩
theorem small_one (w : World) (G : Nat) : OneC 46 (#[.pointer (some ⟨G, 0, none⟩)] ++ #[]) G w smallP (ElV IntEl one1) :=
  ⟨fun _ _ => rfl, fun _ _ hG _ => (small_c hG).mono fun _ _ h => h.mono fun _ _ _ ⟨e, h0, h1⟩ => ⟨fun _ => False, [_], e, ⟨rfl, by unfold I64; omega⟩, fun _ h => h.elim⟩⟩
theorem wide_one (w : World) (G : Nat) : OneC 49 (#[.pointer (some ⟨G, 0, none⟩)] ++ #[]) G w wideP (ElV IntEl one1) :=
  ⟨fun _ _ => rfl, fun _ _ hG _ => (wide_c hG).mono fun _ _ h => h.mono fun _ _ _ ⟨e, h0, h1⟩ => ⟨fun _ => False, [_], e, ⟨rfl, by unfold I64; omega⟩, fun _ h => h.elim⟩⟩

theorem msgs_c {w : World} {G : Nat} {l : List Int} (h : Glass w G l) : Calls Try.prog 52 #[.pointer (some ⟨G, 0, none⟩)] w (RdPost w G (msgsP l) (ListV MEl 33 5 w)) := by
  obtain ⟨r, hr⟩ : ∃ r, msgsP l = r := ⟨_, rfl⟩
  rw [hr]
  unfold msgsP at hr
  obtain ⟨P, hP⟩ : ∃ P, RdPost w G r (ListV MEl 33 5 w) = P := ⟨_, rfl⟩
  rw [hP]
  replace hP := Lib.hid hP
  replace hr := Lib.hid hr
  have sv := Save.refl (fun b => b = G) w
  have hmf : ∀ (fn : Fn) (first cap : Array Value) (w : World), (Instr.makeFunc fn first cap).run Try.prog w = .ok (.func fn first cap) w := fun _ _ _ _ => rfl
  go_enter Try.func52, Try.ntmps52
  have hC9 := small_c h
  go_wp2_with fail
  refine hC9.mono ?_
  clear hC9
  rintro e w1 ⟨s9, ⟨q9, rfl⟩ | ⟨n, l1, v9, q9, rfl, ⟨rfl, hn⟩, h1⟩⟩
  · have e9 := hr.out
    rw [bindR_none q9] at e9
    go_wp2_with fail
    refine ⟨rfl, ?_⟩
    rw [← hP.out, ← e9]
    exact RdPost.fail (sv.trans s9 (fun _ h _ => h)) rfl
  have hr9 := hr.out
  rw [bindR_some q9] at hr9
  clear hr
  have hr := Lib.hid hr9
  clear hr9 q9
  have sv9 := sv.trans s9 (fun _ h _ => h)
  clear sv
  have sv := sv9
  clear sv9
  obtain ⟨k, rfl⟩ := Int.eq_ofNat_of_zero_le hn.1
  rw [Int.toNat_natCast] at hr
  have hL := list_msg_c h1 (n := k) (by omega) (msg_one w1 G)
  go_wp2_with fail
  refine hL.mono ?_
  clear hL
  rintro e w2 ⟨s9, ⟨q9, rfl⟩ | ⟨xs, t, v9, q9, rfl, hV, h2⟩⟩
  · have e9 := hr.out
    rw [q9] at e9
    go_wp2_with fail
    refine ⟨rfl, ?_⟩
    rw [← hP.out]
    exact RdPost.fail (sv.trans s9 (fun _ h _ => h)) e9.symm
  · have e9 := hr.out
    rw [q9] at e9
    have hV := hV.one sv.size
    replace e9 := Lib.hid e9
    go_wp2_with fail
    rw [← hP.out, ← e9.out]
    exact ⟨sv.trans s9 (fun _ h _ => h), Or.inr ⟨xs, t, _, rfl, rfl, hV, h2⟩⟩
theorem gmsgs_one (w : World) (G : Nat) : OneC 52 (#[.pointer (some ⟨G, 0, none⟩)] ++ #[]) G w msgsP (ElV (OMsgsEl true) one1) :=
  ⟨fun _ _ => rfl, fun _ _ hG _ => (msgs_c hG).mono fun _ _ h => h.mono fun _ v _ ⟨S, hO, hS⟩ => ⟨S, [v], rfl, ⟨v, rfl, hO⟩, hS⟩⟩
end Go.Proofs.Ytnalakhelicjcaa
