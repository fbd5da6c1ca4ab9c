/-
  A message that is read; messages.
-/
import Derived.Test.YtnalakhelicjcaaVUA
import Derived.Test.YtnalakhelicjcaaVKA
import Derived.Test.YtnalakhelicjcaaVSc
set_option maxRecDepth 100000
namespace Go.Proofs.Ytnalakhelicjcaa
open Go.RowKit Go.Shelf Go.BigFrame Go.Deep

theorem bindR_none {α β : Type} {p : Rdr α} {f : α → Rdr β} {l : List Int} (h : p l = none) : bindR p f l = none := by
  unfold bindR
  rw [h]
theorem RdPost.fail {α : Type} {w w' : World} {G : Nat} {r : Option (α × List Int)} {V : World → Value → α → Prop} (h : Save (fun b => b = G) w w') (hr : r = none) : RdPost w G r V (.panicked [shortE]) w' := ⟨h, Or.inl ⟨hr, rfl⟩⟩
theorem RdPost.mono {α : Type} {w : World} {G : Nat} {r : Option (α × List Int)} {V V' : World → Value → α → Prop} (hV : ∀ w' v x, V w' v x → V' w' v x) {e : Ending} {w' : World} (h : RdPost w G r V e w') : RdPost w G r V' e w' :=
  ⟨h.1, h.2.imp id fun ⟨x, t, v, a, b, c, d⟩ => ⟨x, t, v, a, b, hV _ _ _ c, d⟩⟩
theorem Glass.below {w w' : World} {G : Nat} {l : List Int} (h : Glass w G l) (k : Below w.heap.size w w') : Glass w' G l := h.keep (k.block G h.lt)

theorem BlkIs.some {w : World} {b : Nat} {e : TypeId} {n : Nat} (h : BlkIs w b e n) (i : Nat) (hi : i < n) : ∃ u, w.cell? ⟨b, i, Option.none⟩ = Option.some u := by
  obtain ⟨cur, hc, hn⟩ := h
  exact ⟨cur[i]'(by omega), by simp [World.cell?, hc, show i < cur.size by omega]⟩
theorem Save.pre {G : Nat} {w w1 w2 : World} (k : Below w.heap.size w w1) (h : Save (fun b => b = G) w1 w2) (_ : G < w.heap.size) : Save (fun b => b = G) w w2 :=
  ⟨h.os.trans k.os, h.tape.trans k.tape, h.output.trans k.output, Nat.le_trans k.size h.size, fun b hb hn => (h.block b (Nat.lt_of_lt_of_le hb k.size) hn).trans (k.block b hb)⟩

set_option maxHeartbeats 1000000 in
theorem msg_c {w : World} {G : Nat} {l : List Int} (h : Glass w G l) : Calls Try.prog 84 #[.pointer (some ⟨G, 0, none⟩)] w (RdPost w G (msgP l) (ElV MEl oneA w)) := by
  obtain ⟨r, hr⟩ : ∃ r, msgP l = r := ⟨_, rfl⟩
  rw [hr]
  unfold msgP at hr
  obtain ⟨P, hP⟩ : ∃ P, RdPost w G r (ElV MEl oneA w) = P := ⟨_, rfl⟩
  rw [hP]
  replace hP := Lib.hid hP
  have hGl := h.lt
  have ba := below_a1 w (.cells #[.int .i64 0, .int .i64 0, .int .i64 0, .bool false, .string ⟨#[]⟩] 33)
  have hB0 : BlkIs (w.alloc (.cells #[.int .i64 0, .int .i64 0, .int .i64 0, .bool false, .string ⟨#[]⟩] 33)) w.heap.size 33 5 := ⟨_, heap_alloc_new w _, rfl⟩
  have h0 := h.below ba
  replace hr := Lib.hid hr
  go_enter Try.func84, Try.ntmps84
  go_upto_region 1 with fail
  generalize w.alloc (.cells #[.int .i64 0, .int .i64 0, .int .i64 0, .bool false, .string ⟨#[]⟩] 33) = wa at *
  obtain ⟨R, hR⟩ : ∃ R, w.heap.size = R := ⟨_, rfl⟩
  simp only [hR] at hB0 ⊢
  replace hR := Lib.hid hR
  have hRG : R ≠ G := by have := hR.out; omega
  have hRw := Lib.hid (Nat.le_of_eq hR.out)
  have sv := (Save.refl (fun b => b = G) w).then ba
  have hC9 := small_c h0
  go_wp2_with fail
  refine hC9.mono ?_
  clear hC9
  rintro e w1 ⟨s9, ⟨q9, rfl⟩ | ⟨a, l1, v9, q9, rfl, ⟨rfl, ha⟩, h1⟩⟩
  · have e9 := hr.out
    rw [bindR_none q9] at e9
    go_wp2_with fail
    refine ⟨rfl, ?_⟩
    rw [← hP.out, ← e9]
    exact RdPost.fail (sv.trans s9 (fun _ h _ => h)) rfl
  have hr9 := hr.out
  rw [bindR_some q9] at hr9
  clear hr
  have hr := Lib.hid hr9
  clear hr9 q9
  have sv9 := sv.trans s9 (fun _ h _ => h)
  clear sv
  have sv := sv9
  clear sv9
  have hB1 := hB0.same (s9.block R hB0.lt hRG)
  clear s9 h0 hB0
  have hC9 := small_c h1
  go_wp2_with fail
  refine hC9.mono ?_
  clear hC9
  rintro e w2 ⟨s9, ⟨q9, rfl⟩ | ⟨g, l2, v9, q9, rfl, ⟨rfl, hg⟩, h2⟩⟩
  · have e9 := hr.out
    rw [bindR_none q9] at e9
    go_wp2_with fail
    refine ⟨rfl, ?_⟩
    rw [← hP.out, ← e9]
    exact RdPost.fail (sv.trans s9 (fun _ h _ => h)) rfl
  have hr9 := hr.out
  rw [bindR_some q9] at hr9
  clear hr
  have hr := Lib.hid hr9
  clear hr9 q9
  have sv9 := sv.trans s9 (fun _ h _ => h)
  clear sv
  have sv := sv9
  clear sv9
  have hB2 := hB1.same (s9.block R hB1.lt hRG)
  clear s9 h1 hB1
  have bb := below_a1 w2 (.cells #[.int .i64 a, .int .i64 g, .int .i64 0, .bool false, .string ⟨#[]⟩] 33)
  have hM3 : BlkIs (w2.alloc (.cells #[.int .i64 a, .int .i64 g, .int .i64 0, .bool false, .string ⟨#[]⟩] 33)) w2.heap.size 33 5 := ⟨_, heap_alloc_new w2 _, rfl⟩
  have hMb := MsgBox.new w2 ⟨a, g, 0, false, ⟨#[]⟩⟩ 33
  have h3 := h2.below bb
  have hB3 := hB2.same (bb.block R hB2.lt)
  have hlt2 := hB2.lt
  have hgl2 := h2.lt
  have svb := sv.then (bb.mono sv.size)
  have hsw := sv.size
  clear sv
  have sv := svb
  clear svb h2 hB2
  go_upto_region 2 with fail
  change MsgBox (w2.alloc (.cells #[.int .i64 a, .int .i64 g, .int .i64 0, .bool false, .string ⟨#[]⟩] 33)) _ _ at hMb
  generalize w2.alloc (.cells #[.int .i64 a, .int .i64 g, .int .i64 0, .bool false, .string ⟨#[]⟩] 33) = w3 at *
  obtain ⟨C, hC⟩ : ∃ C, w2.heap.size = C := ⟨_, rfl⟩
  simp only [hC] at hM3 hMb hlt2 hgl2 hsw ⊢
  clear hC bb
  have hCG : C ≠ G := by omega
  have hCR : C ≠ R := by omega
  obtain ⟨m0, m1, m2, m3, m4⟩ := hMb
  dsimp only at m0 m1 m2 m3 m4
  have hC9 := small_c h3
  go_wp2_with fail
  refine hC9.mono ?_
  clear hC9
  rintro e w4 ⟨s9, ⟨q9, rfl⟩ | ⟨z, l4, v9, q9, rfl, ⟨rfl, hz⟩, h4⟩⟩
  · have e9 := hr.out
    rw [bindR_none q9] at e9
    go_wp2_with fail
    refine ⟨rfl, ?_⟩
    rw [← hP.out, ← e9]
    exact RdPost.fail (sv.trans s9 (fun _ h _ => h)) rfl
  have hr9 := hr.out
  rw [bindR_some q9] at hr9
  clear hr
  have hr := Lib.hid hr9
  clear hr9 q9
  have sv9 := sv.trans s9 (fun _ h _ => h)
  clear sv
  have sv := sv9
  clear sv9
  have kp : ∀ {j : Nat} {u : Value}, w3.cell? ⟨C, j, none⟩ = some u → w4.cell? ⟨C, j, none⟩ = some u := fun hu => (World.cell?_of_block (w := w3) (s9.block C hM3.lt hCG)).trans hu
  have m0 := kp m0
  have m1 := kp m1
  have m2 := kp m2
  have m3 := kp m3
  have m4 := kp m4
  have hM4 := hM3.same (s9.block C hM3.lt hCG)
  have hB4 := hB3.same (s9.block R hB3.lt hRG)
  clear kp s9 h3 hM3 hB3
  by_cases hz1 : 1 < z
  · have e9 := hr.out
    rw [if_pos hz1] at e9
    have q9 : decide (1 < z) = true := decide_eq_true hz1
    go_wp2_with fail
    refine ⟨rfl, ?_⟩
    rw [← hP.out, ← e9]
    exact RdPost.fail sv rfl
  have q9 : decide (1 < z) = false := decide_eq_false hz1
  have hr9 := hr.out
  rw [if_neg hz1] at hr9
  clear hr
  have hr := Lib.hid hr9
  clear hr9
  have f3 := hM4.frozen 3
  have hCw := Lib.hid (show w.heap.size ≤ C by have := sv.size; have := hRw.out; omega)
  have sv5 := sv.then (below_setCell (a := ⟨C, 3, none⟩) (Below.refl w.heap.size w4) hCw.out (.bool (z == 1)))
  have h5 := h4.keep (w' := w4.setCell ⟨C, 3, none⟩ (.bool (z == 1))) (Go.Deep.blk_setCell_other _ _ _ _ (fun e => hCG e.symm))
  have hB5 := hB4.same (w' := w4.setCell ⟨C, 3, none⟩ (.bool (z == 1))) (Go.Deep.blk_setCell_other _ _ _ _ (fun e => hCR e.symm))
  have hM5 := hM4.setCell (a := 3) (u := .bool (z == 1))
  have n3 := hM4.cell_set (a := 3) (u := .bool (z == 1)) (by omega)
  have n0 := (cell_setCell (u := .bool (z == 1)) (a := 3) 0 (by omega)).trans m0
  have n1 := (cell_setCell (u := .bool (z == 1)) (a := 3) 1 (by omega)).trans m1
  have n2 := (cell_setCell (u := .bool (z == 1)) (a := 3) 2 (by omega)).trans m2
  have n4 := (cell_setCell (u := .bool (z == 1)) (a := 3) 4 (by omega)).trans m4
  go_upto_region 6 with fail
  generalize w4.setCell ⟨C, 3, none⟩ (.bool (z == 1)) = w5 at *
  clear m0 m1 m2 m3 m4 f3 q9 sv h4 hM4 hB4
  have sv := sv5
  clear sv5
  have hC9 := small_c h5
  go_wp2_with fail
  refine hC9.mono ?_
  clear hC9
  rintro e w6 ⟨s9, ⟨q9, rfl⟩ | ⟨n, l6, v9, q9, rfl, ⟨rfl, hn⟩, h6⟩⟩
  · have e9 := hr.out
    rw [bindR_none q9] at e9
    go_wp2_with fail
    refine ⟨rfl, ?_⟩
    rw [← hP.out, ← e9]
    exact RdPost.fail (sv.trans s9 (fun _ h _ => h)) rfl
  have hr9 := hr.out
  rw [bindR_some q9] at hr9
  clear hr
  have hr := Lib.hid hr9
  clear hr9 q9
  have sv9 := sv.trans s9 (fun _ h _ => h)
  clear sv
  have sv := sv9
  clear sv9
  have kp : ∀ {j : Nat} {u : Value}, w5.cell? ⟨C, j, none⟩ = some u → w6.cell? ⟨C, j, none⟩ = some u := fun hu => (World.cell?_of_block (w := w5) (s9.block C hM5.lt hCG)).trans hu
  have n0 := kp n0
  have n1 := kp n1
  have n2 := kp n2
  have n3 := kp n3
  have n4 := kp n4
  have hM6 := hM5.same (s9.block C hM5.lt hCG)
  have hB6 := hB5.same (s9.block R hB5.lt hRG)
  clear kp s9 h5 hM5 hB5
  obtain ⟨k, rfl⟩ := Int.eq_ofNat_of_zero_le hn.1
  have hT := take_c h6 k (by omega)
  go_wp2_with fail
  refine hT.mono ?_
  clear hT
  rintro e w7 (⟨q7, rfl, rfl⟩ | ⟨q7, rfl, hw7⟩)
  · have e9 := hr.out
    rw [Int.toNat_natCast, bindR_none (by unfold takeP; rw [if_pos q7])] at e9
    go_wp2_with fail
    refine ⟨rfl, ?_⟩
    rw [← hP.out, ← e9]
    exact RdPost.fail sv rfl
  have hr9 := hr.out
  rw [Int.toNat_natCast, bindR_some (by unfold takeP; rw [if_neg (by omega)])] at hr9
  clear hr
  have hr := Lib.hid hr9
  clear hr9
  have s9 : Save (fun b => b = G) w6 w7 := hw7 ▸ save_cell
  have h7 : Glass w7 G (l6.drop k) := hw7 ▸ h6.put (octs_drop h6.1 k)
  have ob := octs_take h6.1 k
  have hbl : (l6.take k).length = k := by rw [List.length_take]; omega
  generalize l6.take k = bs at *
  generalize l6.drop k = l7 at *
  have kp : ∀ {j : Nat} {u : Value}, w6.cell? ⟨C, j, none⟩ = some u → w7.cell? ⟨C, j, none⟩ = some u := fun hu => (World.cell?_of_block (w := w6) (s9.block C hM6.lt hCG)).trans hu
  have n0 := kp n0
  have n1 := kp n1
  have n2 := kp n2
  have n3 := kp n3
  have n4 := kp n4
  have hM7 := hM6.same (s9.block C hM6.lt hCG)
  have hB7 := hB6.same (s9.block R hB6.lt hRG)
  have sv7 := sv.trans s9 (fun _ h _ => h)
  clear kp s9 h6 hM6 hB6 hw7 q7 sv
  have f4 := hM7.frozen 4
  have sv := sv7.then (below_setCell (a := ⟨C, 4, none⟩) (Below.refl w.heap.size w7) hCw.out (.string (strOfNums bs)))
  have h8 := h7.keep (w' := w7.setCell ⟨C, 4, none⟩ (.string (strOfNums bs))) (Go.Deep.blk_setCell_other _ _ _ _ (fun e => hCG e.symm))
  have hB8 := hB7.same (w' := w7.setCell ⟨C, 4, none⟩ (.string (strOfNums bs))) (Go.Deep.blk_setCell_other _ _ _ _ (fun e => hCR e.symm))
  have hM8 := hM7.setCell (a := 4) (u := .string (strOfNums bs))
  have m4 := hM7.cell_set (a := 4) (u := .string (strOfNums bs)) (by omega)
  have m0 := (cell_setCell (u := .string (strOfNums bs)) (a := 4) 0 (by omega)).trans n0
  have m1 := (cell_setCell (u := .string (strOfNums bs)) (a := 4) 1 (by omega)).trans n1
  have m2 := (cell_setCell (u := .string (strOfNums bs)) (a := 4) 2 (by omega)).trans n2
  have m3 := (cell_setCell (u := .string (strOfNums bs)) (a := 4) 3 (by omega)).trans n3
  go_upto_region 7 with fail
  generalize w7.setCell ⟨C, 4, none⟩ (.string (strOfNums bs)) = w8 at *
  clear n0 n1 n2 n3 n4 f4 sv7 h7 hM7 hB7
  have hC9 := wide_c h8
  go_wp2_with fail
  refine hC9.mono ?_
  clear hC9
  rintro e w9 ⟨s9, ⟨q9, rfl⟩ | ⟨st, l9, v9, q9, rfl, ⟨rfl, hs⟩, h9⟩⟩
  · have e9 := hr.out
    rw [bindR_none q9] at e9
    go_wp2_with fail
    refine ⟨rfl, ?_⟩
    rw [← hP.out, ← e9]
    exact RdPost.fail (sv.trans s9 (fun _ h _ => h)) rfl
  have hr9 := hr.out
  rw [bindR_some q9] at hr9
  clear hr
  have hr := Lib.hid hr9
  clear hr9 q9
  have sv9 := sv.trans s9 (fun _ h _ => h)
  clear sv
  have sv := sv9
  clear sv9
  have kp : ∀ {j : Nat} {u : Value}, w8.cell? ⟨C, j, none⟩ = some u → w9.cell? ⟨C, j, none⟩ = some u := fun hu => (World.cell?_of_block (w := w8) (s9.block C hM8.lt hCG)).trans hu
  have m0 := kp m0
  have m1 := kp m1
  have m2 := kp m2
  have m3 := kp m3
  have m4 := kp m4
  have hM9 := hM8.same (s9.block C hM8.lt hCG)
  have hB9 := hB8.same (s9.block R hB8.lt hRG)
  clear kp s9 h8 hM8 hB8
  have f2 := hM9.frozen 2
  have sv9 := sv.then (below_setCell (a := ⟨C, 2, none⟩) (Below.refl w.heap.size w9) hCw.out (.int .i64 st))
  have h10 := h9.keep (w' := w9.setCell ⟨C, 2, none⟩ (.int .i64 st)) (Go.Deep.blk_setCell_other _ _ _ _ (fun e => hCG e.symm))
  have hB10 := hB9.same (w' := w9.setCell ⟨C, 2, none⟩ (.int .i64 st)) (Go.Deep.blk_setCell_other _ _ _ _ (fun e => hCR e.symm))
  have n2 := hM9.cell_set (a := 2) (u := .int .i64 st) (by omega)
  have n0 := (cell_setCell (u := .int .i64 st) (a := 2) 0 (by omega)).trans m0
  have n1 := (cell_setCell (u := .int .i64 st) (a := 2) 1 (by omega)).trans m1
  have n3 := (cell_setCell (u := .int .i64 st) (a := 2) 3 (by omega)).trans m3
  have n4 := (cell_setCell (u := .int .i64 st) (a := 2) 4 (by omega)).trans m4
  go_upto_region 8 with fail
  generalize w9.setCell ⟨C, 2, none⟩ (.int .i64 st) = w10 at *
  clear m0 m1 m2 m3 m4 f2 sv h9 hM9 hB9
  have g0 := hB10.frozen 0
  have g1 := hB10.frozen 1
  have g2 := hB10.frozen 2
  have g3 := hB10.frozen 3
  have g4 := hB10.frozen 4
  obtain ⟨u0, r0⟩ := hB10.some 0 (by omega)
  obtain ⟨u1, r1⟩ := hB10.some 1 (by omega)
  obtain ⟨u2, r2⟩ := hB10.some 2 (by omega)
  obtain ⟨u3, r3⟩ := hB10.some 3 (by omega)
  obtain ⟨u4, r4⟩ := hB10.some 4 (by omega)
  obtain ⟨_, k0, k1, k2, k3, k4⟩ := five_put hB10 (.int .i64 a) (.int .i64 g) (.int .i64 st) (.bool (z == 1)) (.string (strOfNums bs))
  have b11 : Below w.heap.size w10 (((((w10.setCell ⟨R, 0, none⟩ (.int .i64 a)).setCell ⟨R, 1, none⟩ (.int .i64 g)).setCell ⟨R, 2, none⟩ (.int .i64 st)).setCell ⟨R, 3, none⟩ (.bool (z == 1))).setCell ⟨R, 4, none⟩ (.string (strOfNums bs))) := below_setCell (below_setCell (below_setCell (below_setCell (below_setCell (Below.refl _ _) hRw.out _) hRw.out _) hRw.out _) hRw.out _) hRw.out _
  have h11 : Glass (((((w10.setCell ⟨R, 0, none⟩ (.int .i64 a)).setCell ⟨R, 1, none⟩ (.int .i64 g)).setCell ⟨R, 2, none⟩ (.int .i64 st)).setCell ⟨R, 3, none⟩ (.bool (z == 1))).setCell ⟨R, 4, none⟩ (.string (strOfNums bs))) G l9 := h10.keep (b11.block G hGl)
  have sv := sv9.then b11
  have hres := hr.out
  replace k0 := Lib.hid k0
  replace k1 := Lib.hid k1
  replace k2 := Lib.hid k2
  replace k3 := Lib.hid k3
  replace k4 := Lib.hid k4
  go_wp2_with ((with_reducible refine bodyPost_ret (v := (M.mk a g st (z == 1) (strOfNums bs)).val) ?_ rfl ?_); (focus (have k0 := k0.out; have k1 := k1.out; have k2 := k2.out; have k3 := k3.out; have k4 := k4.out; simp [results, Try.f84]; go_simp)))
  · rfl
  rw [← hP.out, ← hres]
  exact ⟨sv, Or.inr ⟨_, l9, _, rfl, rfl, ⟨fun _ => False, _, rfl, ⟨rfl, by unfold I64; dsimp only; omega, by unfold I64; dsimp only; omega, by unfold I64; dsimp only; omega, by dsimp only; rw [str_len, hbl]; omega⟩, fun _ h => h.elim⟩, h11⟩⟩
theorem ElV.one {α : Type} {El : ElO α} {mk : List Value → Value} {w w1 w' : World} {v : Value} {x : α} (h : ElV El mk w1 w' v x) (k : w.heap.size ≤ w1.heap.size) : ElV El mk w w' v x := by
  obtain ⟨T, cs, a, b, c⟩ := h
  exact ⟨T, cs, a, b, fun t ht => ⟨Nat.le_trans k (c t ht).1, (c t ht).2⟩⟩
theorem ListV.one {α : Type} {El : ElO α} {e : TypeId} {s : Nat} {w w1 w' : World} {v : Value} {xs : List α} (h : ListV El e s w1 w' v xs) (k : w.heap.size ≤ w1.heap.size) : ListV El e s w w' v xs := by
  obtain ⟨S, a, c⟩ := h
  exact ⟨S, a, fun t ht => ⟨Nat.le_trans k (c t ht).1, (c t ht).2⟩⟩
theorem msg_one (w : World) (G : Nat) : OneC 84 (#[.pointer (some ⟨G, 0, none⟩)] ++ #[]) G w msgP (ElV MEl oneA) := ⟨fun _ _ => rfl, fun _ _ hG _ => msg_c hG⟩
theorem small_one (w : World) (G : Nat) : OneC 46 (#[.pointer (some ⟨G, 0, none⟩)] ++ #[]) G w smallP (ElV IntEl one1) :=
  ⟨fun _ _ => rfl, fun _ _ hG _ => (small_c hG).mono fun _ _ h => h.mono fun _ _ _ ⟨e, h0, h1⟩ => ⟨fun _ => False, [_], e, ⟨rfl, by unfold I64; omega⟩, fun _ h => h.elim⟩⟩
theorem wide_one (w : World) (G : Nat) : OneC 49 (#[.pointer (some ⟨G, 0, none⟩)] ++ #[]) G w wideP (ElV IntEl one1) :=
  ⟨fun _ _ => rfl, fun _ _ hG _ => (wide_c hG).mono fun _ _ h => h.mono fun _ _ _ ⟨e, h0, h1⟩ => ⟨fun _ => False, [_], e, ⟨rfl, by unfold I64; omega⟩, fun _ h => h.elim⟩⟩

theorem msgs_c {w : World} {G : Nat} {l : List Int} (h : Glass w G l) : Calls Try.prog 52 #[.pointer (some ⟨G, 0, none⟩)] w (RdPost w G (msgsP l) (ListV MEl 33 5 w)) := by
  obtain ⟨r, hr⟩ : ∃ r, msgsP l = r := ⟨_, rfl⟩
  rw [hr]
  unfold msgsP at hr
  obtain ⟨P, hP⟩ : ∃ P, RdPost w G r (ListV MEl 33 5 w) = P := ⟨_, rfl⟩
  rw [hP]
  replace hP := Lib.hid hP
  replace hr := Lib.hid hr
  have sv := Save.refl (fun b => b = G) w
  have hmf : ∀ (fn : Fn) (first cap : Array Value) (w : World), (Instr.makeFunc fn first cap).run Try.prog w = .ok (.func fn first cap) w := fun _ _ _ _ => rfl
  go_enter Try.func52, Try.ntmps52
  have hC9 := small_c h
  go_wp2_with fail
  refine hC9.mono ?_
  clear hC9
  rintro e w1 ⟨s9, ⟨q9, rfl⟩ | ⟨n, l1, v9, q9, rfl, ⟨rfl, hn⟩, h1⟩⟩
  · have e9 := hr.out
    rw [bindR_none q9] at e9
    go_wp2_with fail
    refine ⟨rfl, ?_⟩
    rw [← hP.out, ← e9]
    exact RdPost.fail (sv.trans s9 (fun _ h _ => h)) rfl
  have hr9 := hr.out
  rw [bindR_some q9] at hr9
  clear hr
  have hr := Lib.hid hr9
  clear hr9 q9
  have sv9 := sv.trans s9 (fun _ h _ => h)
  clear sv
  have sv := sv9
  clear sv9
  obtain ⟨k, rfl⟩ := Int.eq_ofNat_of_zero_le hn.1
  rw [Int.toNat_natCast] at hr
  have hL := list_msg_c h1 (n := k) (by omega) (msg_one w1 G)
  go_wp2_with fail
  refine hL.mono ?_
  clear hL
  rintro e w2 ⟨s9, ⟨q9, rfl⟩ | ⟨xs, t, v9, q9, rfl, hV, h2⟩⟩
  · have e9 := hr.out
    rw [q9] at e9
    go_wp2_with fail
    refine ⟨rfl, ?_⟩
    rw [← hP.out]
    exact RdPost.fail (sv.trans s9 (fun _ h _ => h)) e9.symm
  · have e9 := hr.out
    rw [q9] at e9
    have hV := hV.one sv.size
    replace e9 := Lib.hid e9
    go_wp2_with fail
    rw [← hP.out, ← e9.out]
    exact ⟨sv.trans s9 (fun _ h _ => h), Or.inr ⟨xs, t, _, rfl, rfl, hV, h2⟩⟩
theorem gmsgs_one (w : World) (G : Nat) : OneC 52 (#[.pointer (some ⟨G, 0, none⟩)] ++ #[]) G w msgsP (ElV (OMsgsEl true) one1) :=
  ⟨fun _ _ => rfl, fun _ _ hG _ => (msgs_c hG).mono fun _ _ h => h.mono fun _ v _ ⟨S, hO, hS⟩ => ⟨S, [v], rfl, ⟨v, rfl, hO⟩, hS⟩⟩
end Go.Proofs.Ytnalakhelicjcaa
set_option maxRecDepth 100000
namespace Go.Proofs.Ytnalakhelicjcaa
open Go.RowKit Go.Shelf Go.BigFrame Go.Deep

theorem row51_c {w : World} {G K A k : Nat} {l : List Int} (h : Glass w G l) (hk : k ≤ 255) (hK : w.cell? ⟨K, 0, none⟩ = some (.int .i64 k)) (hA : w.cell? ⟨A, 0, none⟩ = some (.pointer (some ⟨G, 0, none⟩))) :
    Calls Try.prog 51 #[.pointer (some ⟨K, 0, none⟩), .pointer (some ⟨A, 0, none⟩)] w (RdPost w G (manyP wideP k l) (ListV IntEl 3 1 w)) := by
  have hmf : ∀ (fn : Fn) (first cap : Array Value) (w : World), (Instr.makeFunc fn first cap).run Try.prog w = .ok (.func fn first cap) w := fun _ _ _ _ => rfl
  have hL := list_int_c h (n := k) hk (wide_one w G)
  go_enter Try.func51, Try.ntmps51
  go_wp2_with fail
  refine hL.mono ?_
  clear hL
  rintro e w2 ⟨s9, ⟨q9, rfl⟩ | ⟨xs, t, v9, q9, rfl, hV, h2⟩⟩
  · replace q9 := Lib.hid q9
    go_wp2_with fail
    exact ⟨rfl, RdPost.fail s9 q9.out⟩
  · replace q9 := Lib.hid q9
    go_wp2_with fail
    go_ret
    exact ⟨s9, Or.inr ⟨xs, t, _, q9.out, rfl, hV, h2⟩⟩
theorem row54_c {w : World} {G K A k : Nat} {l : List Int} (h : Glass w G l) (hk : k ≤ 255) (hK : w.cell? ⟨K, 0, none⟩ = some (.int .i64 k)) (hA : w.cell? ⟨A, 0, none⟩ = some (.pointer (some ⟨G, 0, none⟩))) :
    Calls Try.prog 54 #[.pointer (some ⟨K, 0, none⟩), .pointer (some ⟨A, 0, none⟩)] w (RdPost w G (manyP msgsP k l) (ListV (OMsgsEl true) 24 1 w)) := by
  have hmf : ∀ (fn : Fn) (first cap : Array Value) (w : World), (Instr.makeFunc fn first cap).run Try.prog w = .ok (.func fn first cap) w := fun _ _ _ _ => rfl
  have hL := list_msgs_c h (n := k) hk (gmsgs_one w G)
  go_enter Try.func54, Try.ntmps54
  go_wp2_with fail
  refine hL.mono ?_
  clear hL
  rintro e w2 ⟨s9, ⟨q9, rfl⟩ | ⟨xs, t, v9, q9, rfl, hV, h2⟩⟩
  · replace q9 := Lib.hid q9
    go_wp2_with fail
    exact ⟨rfl, RdPost.fail s9 q9.out⟩
  · replace q9 := Lib.hid q9
    go_wp2_with fail
    go_ret
    exact ⟨s9, Or.inr ⟨xs, t, _, q9.out, rfl, hV, h2⟩⟩
theorem row51_one {w : World} {G K A k : Nat} (hk : k ≤ 255) (hK : w.cell? ⟨K, 0, none⟩ = some (.int .i64 k)) (hA : w.cell? ⟨A, 0, none⟩ = some (.pointer (some ⟨G, 0, none⟩))) (hKG : K ≠ G) (hAG : A ≠ G) :
    OneC 51 (#[] ++ #[.pointer (some ⟨K, 0, none⟩), .pointer (some ⟨A, 0, none⟩)]) G w (manyP wideP k) (ElV OIntsEl one1) :=
  ⟨fun _ _ => rfl, fun _ _ hG hs => (row51_c hG hk ((World.cell?_of_block (w := w) (hs.block K (cell_lt hK) hKG)).trans hK) ((World.cell?_of_block (w := w) (hs.block A (cell_lt hA) hAG)).trans hA)).mono fun _ _ h => h.mono fun _ v _ ⟨S, hO, hS⟩ => ⟨S, [v], rfl, ⟨v, rfl, hO⟩, hS⟩⟩
theorem row54_one {w : World} {G K A k : Nat} (hk : k ≤ 255) (hK : w.cell? ⟨K, 0, none⟩ = some (.int .i64 k)) (hA : w.cell? ⟨A, 0, none⟩ = some (.pointer (some ⟨G, 0, none⟩))) (hKG : K ≠ G) (hAG : A ≠ G) :
    OneC 54 (#[] ++ #[.pointer (some ⟨K, 0, none⟩), .pointer (some ⟨A, 0, none⟩)]) G w (manyP msgsP k) (ElV (OMsgRowsEl true) one1) :=
  ⟨fun _ _ => rfl, fun _ _ hG hs => (row54_c hG hk ((World.cell?_of_block (w := w) (hs.block K (cell_lt hK) hKG)).trans hK) ((World.cell?_of_block (w := w) (hs.block A (cell_lt hA) hAG)).trans hA)).mono fun _ _ h => h.mono fun _ v _ ⟨S, hO, hS⟩ => ⟨S, [v], rfl, ⟨v, rfl, hO⟩, hS⟩⟩

theorem four_put {w : World} {F : Nat} {e : TypeId} (h : BlkIs w F e 4) (v0 v1 v2 v3 : Value) :
    ((((w.setCell ⟨F, 0, none⟩ v0).setCell ⟨F, 1, none⟩ v1).setCell ⟨F, 2, none⟩ v2).setCell ⟨F, 3, none⟩ v3).cell? ⟨F, 0, none⟩ = some v0 ∧
    ((((w.setCell ⟨F, 0, none⟩ v0).setCell ⟨F, 1, none⟩ v1).setCell ⟨F, 2, none⟩ v2).setCell ⟨F, 3, none⟩ v3).cell? ⟨F, 1, none⟩ = some v1 ∧
    ((((w.setCell ⟨F, 0, none⟩ v0).setCell ⟨F, 1, none⟩ v1).setCell ⟨F, 2, none⟩ v2).setCell ⟨F, 3, none⟩ v3).cell? ⟨F, 2, none⟩ = some v2 ∧
    ((((w.setCell ⟨F, 0, none⟩ v0).setCell ⟨F, 1, none⟩ v1).setCell ⟨F, 2, none⟩ v2).setCell ⟨F, 3, none⟩ v3).cell? ⟨F, 3, none⟩ = some v3 := by
  have h1 := h.setCell (a := 0) (u := v0)
  have h2 := h1.setCell (a := 1) (u := v1)
  have h3 := h2.setCell (a := 2) (u := v2)
  exact ⟨(cell_setCell _ (by omega)).trans ((cell_setCell _ (by omega)).trans ((cell_setCell _ (by omega)).trans (h.cell_set (by omega)))), (cell_setCell _ (by omega)).trans ((cell_setCell _ (by omega)).trans (h1.cell_set (by omega))),
    (cell_setCell _ (by omega)).trans (h2.cell_set (by omega)), h3.cell_set (by omega)⟩

set_option maxHeartbeats 1000000 in
theorem node_c {w : World} {G K A B k gn gc : Nat} {ga : Option Addr} {l : List Int} (h : Glass w G l) (hk : k ≤ 255) (hgn : gn ≤ 255) (hK : w.cell? ⟨K, 0, none⟩ = some (.int .i64 k)) (hA : w.cell? ⟨A, 0, none⟩ = some (.pointer (some ⟨G, 0, none⟩)))
    (hB : w.cell? ⟨B, 0, none⟩ = some (.slice ga gn gc)) (hKG : K ≠ G) (hAG : A ≠ G) (hBG : B ≠ G) :
    Calls Try.prog 48 #[.pointer (some ⟨A, 0, none⟩), .pointer (some ⟨B, 0, none⟩), .pointer (some ⟨K, 0, none⟩)] w (RdPost w G (nodeP gn k l) (ElV ONodeEl oneA w)) := by
  obtain ⟨r, hr⟩ : ∃ r, nodeP gn k l = r := ⟨_, rfl⟩
  rw [hr]
  unfold nodeP at hr
  obtain ⟨P, hP⟩ : ∃ P, RdPost w G r (ElV ONodeEl oneA w) = P := ⟨_, rfl⟩
  rw [hP]
  replace hP := Lib.hid hP
  have hGl := h.lt
  have hmf : ∀ (fn : Fn) (first cap : Array Value) (w : World), (Instr.makeFunc fn first cap).run Try.prog w = .ok (.func fn first cap) w := fun _ _ _ _ => rfl
  have ba := below_a1 w (.cells #[.int .i64 0, .slice none 0 0, .slice none 0 0, .slice none 0 0] 79)
  have hB0 : BlkIs (w.alloc (.cells #[.int .i64 0, .slice none 0 0, .slice none 0 0, .slice none 0 0] 79)) w.heap.size 79 4 := ⟨_, heap_alloc_new w _, rfl⟩
  have h0 := h.below ba
  replace hr := Lib.hid hr
  go_enter Try.func48, Try.ntmps48
  go_upto_region 1 with fail
  generalize w.alloc (.cells #[.int .i64 0, .slice none 0 0, .slice none 0 0, .slice none 0 0] 79) = wa at *
  obtain ⟨R, hR⟩ : ∃ R, w.heap.size = R := ⟨_, rfl⟩
  simp only [hR] at hB0 ⊢
  replace hR := Lib.hid hR
  have hRG : R ≠ G := by have := hR.out; omega
  have hRw := Lib.hid (Nat.le_of_eq hR.out)
  have sv := (Save.refl (fun b => b = G) w).then ba
  have hKl := cell_lt hK
  have hAl := cell_lt hA
  have hBl := cell_lt hB
  dsimp only at hKl hAl hBl
  have hA1 := (World.cell?_of_block (w := w) (sv.block A hAl hAG)).trans hA
  have hC9 := wide_c h0
  go_wp2_with fail
  refine hC9.mono ?_
  clear hC9
  rintro e w1 ⟨s9, ⟨q9, rfl⟩ | ⟨ck, l1, v9, q9, rfl, ⟨rfl, hc⟩, h1⟩⟩
  · have e9 := hr.out
    rw [bindR_none q9] at e9
    go_wp2_with fail
    refine ⟨rfl, ?_⟩
    rw [← hP.out, ← e9]
    exact RdPost.fail (sv.trans s9 (fun _ h _ => h)) rfl
  have hr9 := hr.out
  rw [bindR_some q9] at hr9
  clear hr
  have hr := Lib.hid hr9
  clear hr9 q9
  have sv9 := sv.trans s9 (fun _ h _ => h)
  clear sv
  have sv := sv9
  clear sv9
  have hB1 := hB0.same (s9.block R hB0.lt hRG)
  clear s9 h0 hB0 hA1
  have bb := below_a1 w1 (.cells #[.int .i64 ck, .slice none 0 0, .slice none 0 0, .slice none 0 0] 79)
  have hM3 : BlkIs (w1.alloc (.cells #[.int .i64 ck, .slice none 0 0, .slice none 0 0, .slice none 0 0] 79)) w1.heap.size 79 4 := ⟨_, heap_alloc_new w1 _, rfl⟩
  have hNb := cells_new w1 #[.int .i64 ck, .slice none 0 0, .slice none 0 0, .slice none 0 0] 79
  have h3 := h1.below bb
  have hX3 := hB1.same (bb.block R hB1.lt)
  have hs1 := sv.size
  have hRl := hB1.lt
  have hgl1 := h1.lt
  have svb := sv.then (bb.mono sv.size)
  clear sv
  have sv := svb
  clear svb h1 hB1
  have n0 := hNb 0 (.int .i64 ck) rfl
  have n1 := hNb 1 (.slice none 0 0) rfl
  have n2 := hNb 2 (.slice none 0 0) rfl
  have n3 := hNb 3 (.slice none 0 0) rfl
  clear hNb
  go_upto_region 2 with fail
  generalize w1.alloc (.cells #[.int .i64 ck, .slice none 0 0, .slice none 0 0, .slice none 0 0] 79) = w3 at *
  obtain ⟨C, hC⟩ : ∃ C, w1.heap.size = C := ⟨_, rfl⟩
  simp only [hC, Addr.add, Nat.zero_add] at hM3 n0 n1 n2 n3 hgl1 hRl hs1 ⊢
  clear hC bb
  have hCl3 := hM3.lt
  have hCG : C ≠ G := by omega
  have hCR : C ≠ R := by omega
  have hCw := Lib.hid (show w.heap.size ≤ C by omega)
  have hA1 := (World.cell?_of_block (w := w) (sv.block A hAl hAG)).trans hA
  have hK1 := (World.cell?_of_block (w := w) (sv.block K hKl hKG)).trans hK
  have hB1 := (World.cell?_of_block (w := w) (sv.block B hBl hBG)).trans hB
  have hL1 := list_ints_c h3 (n := gn) hgn (row51_one hk hK1 hA1 hKG hAG)
  have hC9 := hL1
  go_wp2_with fail
  refine hC9.mono ?_
  clear hC9
  rintro e w4 ⟨s9, ⟨q9, rfl⟩ | ⟨last, l4, v9, q9, rfl, ⟨S1, hO1, hS1⟩, h4⟩⟩
  · have e9 := hr.out
    rw [bindR_none q9] at e9
    go_wp2_with fail
    refine ⟨rfl, ?_⟩
    rw [← hP.out, ← e9]
    exact RdPost.fail (sv.trans s9 (fun _ h _ => h)) rfl
  have hr9 := hr.out
  rw [bindR_some q9] at hr9
  clear hr
  have hr := Lib.hid hr9
  clear hr9 q9
  have sv9 := sv.trans s9 (fun _ h _ => h)
  clear sv
  have sv := sv9
  clear sv9
  clear hL1
  obtain ⟨a1, c1, rfl, _, _⟩ := OSl.form hO1
  have kp : ∀ {j : Nat} {u : Value}, w3.cell? ⟨C, j, none⟩ = some u → w4.cell? ⟨C, j, none⟩ = some u := fun hu => (World.cell?_of_block (w := w3) (s9.block C hM3.lt hCG)).trans hu
  have n0 := kp n0
  have n1 := kp n1
  have n2 := kp n2
  have n3 := kp n3
  have hM4 := hM3.same (s9.block C hM3.lt hCG)
  have hX4 := hX3.same (s9.block R hX3.lt hRG)
  have f9 := hM4.frozen 1
  have sv9 := sv.then (below_setCell (a := ⟨C, 1, none⟩) (Below.refl w.heap.size w4) hCw.out (.slice a1 last.length c1))
  have h5 := h4.keep (w' := w4.setCell ⟨C, 1, none⟩ (.slice a1 last.length c1)) (Go.Deep.blk_setCell_other _ _ _ _ (fun e => hCG e.symm))
  have hX5 := hX4.same (w' := w4.setCell ⟨C, 1, none⟩ (.slice a1 last.length c1)) (Go.Deep.blk_setCell_other _ _ _ _ (fun e => hCR e.symm))
  have hM5 := hM4.setCell (a := 1) (u := .slice a1 last.length c1)
  have m1 := hM4.cell_set (a := 1) (u := .slice a1 last.length c1) (by omega)
  have m0 := (cell_setCell (u := .slice a1 last.length c1) (a := 1) 0 (by omega)).trans n0
  have m2 := (cell_setCell (u := .slice a1 last.length c1) (a := 1) 2 (by omega)).trans n2
  have m3 := (cell_setCell (u := .slice a1 last.length c1) (a := 1) 3 (by omega)).trans n3
  have hk5 : ∀ b, b < w3.heap.size → b ≠ G → b ≠ C → (w4.setCell ⟨C, 1, none⟩ (.slice a1 last.length c1)).heap[b]? = w3.heap[b]? := fun b hb hG hc => (Go.Deep.blk_setCell_other _ _ _ _ hc).trans (s9.block b hb hG)
  have hj5 : ∀ b, b ≠ C → (w4.setCell ⟨C, 1, none⟩ (.slice a1 last.length c1)).heap[b]? = w4.heap[b]? := fun b hc => Go.Deep.blk_setCell_other _ _ _ _ hc
  have hy5 : w4.heap.size ≤ (w4.setCell ⟨C, 1, none⟩ (.slice a1 last.length c1)).heap.size := by rw [Go.Deep.nblk_setCell]; exact Nat.le_refl _
  have hz5 : (w4.setCell ⟨C, 1, none⟩ (.slice a1 last.length c1)).heap.size ≤ w4.heap.size := by rw [Go.Deep.nblk_setCell]; exact Nat.le_refl _
  have ht5 := s9.size
  go_upto_region 3 with fail
  generalize w4.setCell ⟨C, 1, none⟩ (.slice a1 last.length c1) = w5 at *
  clear n0 n1 n2 n3 f9 sv s9 h3 h4 hM3 hM4 hX3 hX4 kp
  have sv := sv9
  have n0 := m0
  have n1 := m1
  have n2 := m2
  have n3 := m3
  clear m0 m1 m2 m3 sv9
  clear hA1 hK1 hB1
  have hA2 := (World.cell?_of_block (w := w) (sv.block A hAl hAG)).trans hA
  have hK2 := (World.cell?_of_block (w := w) (sv.block K hKl hKG)).trans hK
  have hB2 := (World.cell?_of_block (w := w) (sv.block B hBl hBG)).trans hB
  have hL2 := msgs_c h5
  have hC9 := hL2
  go_wp2_with fail
  refine hC9.mono ?_
  clear hC9
  rintro e w6 ⟨s9, ⟨q9, rfl⟩ | ⟨held, l6, v9, q9, rfl, ⟨S2, hO2, hS2⟩, h6⟩⟩
  · have e9 := hr.out
    rw [bindR_none q9] at e9
    go_wp2_with fail
    refine ⟨rfl, ?_⟩
    rw [← hP.out, ← e9]
    exact RdPost.fail (sv.trans s9 (fun _ h _ => h)) rfl
  have hr9 := hr.out
  rw [bindR_some q9] at hr9
  clear hr
  have hr := Lib.hid hr9
  clear hr9 q9
  have sv9 := sv.trans s9 (fun _ h _ => h)
  clear sv
  have sv := sv9
  clear sv9
  clear hL2
  obtain ⟨a2, c2, rfl, _, _⟩ := OSl.form hO2
  have kp : ∀ {j : Nat} {u : Value}, w5.cell? ⟨C, j, none⟩ = some u → w6.cell? ⟨C, j, none⟩ = some u := fun hu => (World.cell?_of_block (w := w5) (s9.block C hM5.lt hCG)).trans hu
  have n0 := kp n0
  have n1 := kp n1
  have n2 := kp n2
  have n3 := kp n3
  have hM6 := hM5.same (s9.block C hM5.lt hCG)
  have hX6 := hX5.same (s9.block R hX5.lt hRG)
  have f9 := hM6.frozen 2
  have sv9 := sv.then (below_setCell (a := ⟨C, 2, none⟩) (Below.refl w.heap.size w6) hCw.out (.slice a2 held.length c2))
  have h7 := h6.keep (w' := w6.setCell ⟨C, 2, none⟩ (.slice a2 held.length c2)) (Go.Deep.blk_setCell_other _ _ _ _ (fun e => hCG e.symm))
  have hX7 := hX6.same (w' := w6.setCell ⟨C, 2, none⟩ (.slice a2 held.length c2)) (Go.Deep.blk_setCell_other _ _ _ _ (fun e => hCR e.symm))
  have hM7 := hM6.setCell (a := 2) (u := .slice a2 held.length c2)
  have m2 := hM6.cell_set (a := 2) (u := .slice a2 held.length c2) (by omega)
  have m0 := (cell_setCell (u := .slice a2 held.length c2) (a := 2) 0 (by omega)).trans n0
  have m1 := (cell_setCell (u := .slice a2 held.length c2) (a := 2) 1 (by omega)).trans n1
  have m3 := (cell_setCell (u := .slice a2 held.length c2) (a := 2) 3 (by omega)).trans n3
  have hk7 : ∀ b, b < w5.heap.size → b ≠ G → b ≠ C → (w6.setCell ⟨C, 2, none⟩ (.slice a2 held.length c2)).heap[b]? = w5.heap[b]? := fun b hb hG hc => (Go.Deep.blk_setCell_other _ _ _ _ hc).trans (s9.block b hb hG)
  have hj7 : ∀ b, b ≠ C → (w6.setCell ⟨C, 2, none⟩ (.slice a2 held.length c2)).heap[b]? = w6.heap[b]? := fun b hc => Go.Deep.blk_setCell_other _ _ _ _ hc
  have hy7 : w6.heap.size ≤ (w6.setCell ⟨C, 2, none⟩ (.slice a2 held.length c2)).heap.size := by rw [Go.Deep.nblk_setCell]; exact Nat.le_refl _
  have hz7 : (w6.setCell ⟨C, 2, none⟩ (.slice a2 held.length c2)).heap.size ≤ w6.heap.size := by rw [Go.Deep.nblk_setCell]; exact Nat.le_refl _
  have ht7 := s9.size
  go_upto_region 4 with fail
  generalize w6.setCell ⟨C, 2, none⟩ (.slice a2 held.length c2) = w7 at *
  clear n0 n1 n2 n3 f9 sv s9 h5 h6 hM5 hM6 hX5 hX6 kp
  have sv := sv9
  have n0 := m0
  have n1 := m1
  have n2 := m2
  have n3 := m3
  clear m0 m1 m2 m3 sv9
  clear hA2 hK2 hB2
  have hA3 := (World.cell?_of_block (w := w) (sv.block A hAl hAG)).trans hA
  have hK3 := (World.cell?_of_block (w := w) (sv.block K hKl hKG)).trans hK
  have hB3 := (World.cell?_of_block (w := w) (sv.block B hBl hBG)).trans hB
  have hL3 := msgs_c h7
  have hC9 := hL3
  go_wp2_with fail
  refine hC9.mono ?_
  clear hC9
  rintro e w8 ⟨s9, ⟨q9, rfl⟩ | ⟨told, l8, v9, q9, rfl, ⟨S3, hO3, hS3⟩, h8⟩⟩
  · have e9 := hr.out
    rw [bindR_none q9] at e9
    go_wp2_with fail
    refine ⟨rfl, ?_⟩
    rw [← hP.out, ← e9]
    exact RdPost.fail (sv.trans s9 (fun _ h _ => h)) rfl
  have hr9 := hr.out
  rw [bindR_some q9] at hr9
  clear hr
  have hr := Lib.hid hr9
  clear hr9 q9
  have sv9 := sv.trans s9 (fun _ h _ => h)
  clear sv
  have sv := sv9
  clear sv9
  clear hL3
  obtain ⟨a3, c3, rfl, _, _⟩ := OSl.form hO3
  have kp : ∀ {j : Nat} {u : Value}, w7.cell? ⟨C, j, none⟩ = some u → w8.cell? ⟨C, j, none⟩ = some u := fun hu => (World.cell?_of_block (w := w7) (s9.block C hM7.lt hCG)).trans hu
  have n0 := kp n0
  have n1 := kp n1
  have n2 := kp n2
  have n3 := kp n3
  have hM8 := hM7.same (s9.block C hM7.lt hCG)
  have hX8 := hX7.same (s9.block R hX7.lt hRG)
  have f9 := hM8.frozen 3
  have sv9 := sv.then (below_setCell (a := ⟨C, 3, none⟩) (Below.refl w.heap.size w8) hCw.out (.slice a3 told.length c3))
  have h9 := h8.keep (w' := w8.setCell ⟨C, 3, none⟩ (.slice a3 told.length c3)) (Go.Deep.blk_setCell_other _ _ _ _ (fun e => hCG e.symm))
  have hX9 := hX8.same (w' := w8.setCell ⟨C, 3, none⟩ (.slice a3 told.length c3)) (Go.Deep.blk_setCell_other _ _ _ _ (fun e => hCR e.symm))
  have hM9 := hM8.setCell (a := 3) (u := .slice a3 told.length c3)
  have m3 := hM8.cell_set (a := 3) (u := .slice a3 told.length c3) (by omega)
  have m0 := (cell_setCell (u := .slice a3 told.length c3) (a := 3) 0 (by omega)).trans n0
  have m1 := (cell_setCell (u := .slice a3 told.length c3) (a := 3) 1 (by omega)).trans n1
  have m2 := (cell_setCell (u := .slice a3 told.length c3) (a := 3) 2 (by omega)).trans n2
  have hk9 : ∀ b, b < w7.heap.size → b ≠ G → b ≠ C → (w8.setCell ⟨C, 3, none⟩ (.slice a3 told.length c3)).heap[b]? = w7.heap[b]? := fun b hb hG hc => (Go.Deep.blk_setCell_other _ _ _ _ hc).trans (s9.block b hb hG)
  have hj9 : ∀ b, b ≠ C → (w8.setCell ⟨C, 3, none⟩ (.slice a3 told.length c3)).heap[b]? = w8.heap[b]? := fun b hc => Go.Deep.blk_setCell_other _ _ _ _ hc
  have hy9 : w8.heap.size ≤ (w8.setCell ⟨C, 3, none⟩ (.slice a3 told.length c3)).heap.size := by rw [Go.Deep.nblk_setCell]; exact Nat.le_refl _
  have hz9 : (w8.setCell ⟨C, 3, none⟩ (.slice a3 told.length c3)).heap.size ≤ w8.heap.size := by rw [Go.Deep.nblk_setCell]; exact Nat.le_refl _
  have ht9 := s9.size
  go_upto_region 5 with fail
  generalize w8.setCell ⟨C, 3, none⟩ (.slice a3 told.length c3) = w9 at *
  clear n0 n1 n2 n3 f9 sv s9 h7 h8 hM7 hM8 hX7 hX8 kp
  have sv := sv9
  have n0 := m0
  have n1 := m1
  have n2 := m2
  have n3 := m3
  clear m0 m1 m2 m3 sv9
  clear hA3 hK3 hB3
  obtain ⟨u0, r0⟩ := hX9.some 0 (by omega)
  obtain ⟨u1, r1⟩ := hX9.some 1 (by omega)
  obtain ⟨u2, r2⟩ := hX9.some 2 (by omega)
  obtain ⟨u3, r3⟩ := hX9.some 3 (by omega)
  have g0 := hX9.frozen 0
  have g1 := hX9.frozen 1
  have g2 := hX9.frozen 2
  have g3 := hX9.frozen 3
  obtain ⟨k0, k1, k2, k3⟩ := four_put hX9 (.int .i64 ck) (.slice a1 last.length c1) (.slice a2 held.length c2) (.slice a3 told.length c3)
  have b11 : Below w.heap.size w9 ((((w9.setCell ⟨R, 0, none⟩ (.int .i64 ck)).setCell ⟨R, 1, none⟩ (.slice a1 last.length c1)).setCell ⟨R, 2, none⟩ (.slice a2 held.length c2)).setCell ⟨R, 3, none⟩ (.slice a3 told.length c3)) := below_setCell (below_setCell (below_setCell (below_setCell (Below.refl _ _) hRw.out _) hRw.out _) hRw.out _) hRw.out _
  have hoR : ∀ b, b ≠ R → ((((w9.setCell ⟨R, 0, none⟩ (.int .i64 ck)).setCell ⟨R, 1, none⟩ (.slice a1 last.length c1)).setCell ⟨R, 2, none⟩ (.slice a2 held.length c2)).setCell ⟨R, 3, none⟩ (.slice a3 told.length c3)).heap[b]? = w9.heap[b]? := fun b hb => by
    rw [Go.Deep.blk_setCell_other _ _ _ _ hb, Go.Deep.blk_setCell_other _ _ _ _ hb, Go.Deep.blk_setCell_other _ _ _ _ hb, Go.Deep.blk_setCell_other _ _ _ _ hb]
  have hsR : ((((w9.setCell ⟨R, 0, none⟩ (.int .i64 ck)).setCell ⟨R, 1, none⟩ (.slice a1 last.length c1)).setCell ⟨R, 2, none⟩ (.slice a2 held.length c2)).setCell ⟨R, 3, none⟩ (.slice a3 told.length c3)).heap.size = w9.heap.size := by
    rw [Go.Deep.nblk_setCell, Go.Deep.nblk_setCell, Go.Deep.nblk_setCell, Go.Deep.nblk_setCell]
  have h11 := h9.keep (b11.block G hGl)
  have svF := sv.then b11
  replace hsR := Lib.hid hsR
  have hres := hr.out
  have hwR := hR.out
  have hCl : C < w3.heap.size ∧ w.heap.size ≤ C := ⟨hCl3, by have := hCw.out; omega⟩
  replace k0 := Lib.hid k0
  replace k1 := Lib.hid k1
  replace k2 := Lib.hid k2
  replace k3 := Lib.hid k3
  replace hwR := Lib.hid hwR
  replace hres := Lib.hid hres
  go_wp2_with ((with_reducible refine bodyPost_ret (v := .agg #[.int .i64 ck, .slice a1 last.length c1, .slice a2 held.length c2, .slice a3 told.length c3]) ?_ rfl ?_); (focus (have k0 := k0.out; have k1 := k1.out; have k2 := k2.out; have k3 := k3.out; simp [results, Try.f48]; go_simp)))
  rw [← hP.out, ← hres.out]
  have e0 := hwR.out
  have e1 := hsR.out
  generalize (((w9.setCell ⟨R, 0, none⟩ (.int .i64 ck)).setCell ⟨R, 1, none⟩ (.slice a1 last.length c1)).setCell ⟨R, 2, none⟩ (.slice a2 held.length c2)).setCell ⟨R, 3, none⟩ (.slice a3 told.length c3) = wF at *
  have q1 : OSl OIntsEl true 22 1 wF S1 (.slice a1 last.length c1) last := OSl.keep OIntsEl.stays hO1 (fun b hb => by
    have := hS1 b hb
    exact (hoR b (by omega)).trans ((hk9 b (by omega) (by omega) (by omega)).trans ((hk7 b (by omega) (by omega) (by omega)).trans (hj5 b (by omega)))))
  have q2 : OSl MEl true 33 5 wF S2 (.slice a2 held.length c2) held := OSl.keep MEl.stays hO2 (fun b hb => by
    have := hS2 b hb
    exact (hoR b (by omega)).trans ((hk9 b (by omega) (by omega) (by omega)).trans (hj7 b (by omega))))
  have q3 : OSl MEl true 33 5 wF S3 (.slice a3 told.length c3) told := OSl.keep MEl.stays hO3 (fun b hb => by
    have := hS3 b hb
    exact (hoR b (by omega)).trans (hj9 b (by omega)))
  refine ⟨svF, Or.inr ⟨⟨ck, last, held, told⟩, l8, _, rfl, rfl, ⟨fun b => S1 b ∨ S2 b ∨ S3 b, _, rfl, ⟨_, _, _, S1, S2, S3, rfl, by unfold I64; dsimp only; omega, q1, q2, q3, fun _ h => Or.inl h, fun _ h => Or.inr (Or.inl h), fun _ h => Or.inr (Or.inr h), ?_, ?_, ?_⟩, ?_⟩, h11⟩⟩
  · intro b h1 h2
    have := hS1 b h1
    have := hS2 b h2
    omega
  · intro b h1 h2
    have := hS1 b h1
    have := hS3 b h2
    omega
  · intro b h1 h2
    have := hS2 b h1
    have := hS3 b h2
    omega
  · intro b hb
    rcases hb with hb | hb | hb
    · have := hS1 b hb; omega
    · have := hS2 b hb; omega
    · have := hS3 b hb; omega
theorem node_one {w : World} {G K A B k gn gc : Nat} {ga : Option Addr} (hk : k ≤ 255) (hgn : gn ≤ 255) (hK : w.cell? ⟨K, 0, none⟩ = some (.int .i64 k)) (hA : w.cell? ⟨A, 0, none⟩ = some (.pointer (some ⟨G, 0, none⟩)))
    (hB : w.cell? ⟨B, 0, none⟩ = some (.slice ga gn gc)) (hKG : K ≠ G) (hAG : A ≠ G) (hBG : B ≠ G) :
    OneC 48 (#[] ++ #[.pointer (some ⟨A, 0, none⟩), .pointer (some ⟨B, 0, none⟩), .pointer (some ⟨K, 0, none⟩)]) G w (nodeP gn k) (ElV ONodeEl oneA) :=
  ⟨fun _ _ => rfl, fun _ _ hG hs => node_c hG hk hgn ((World.cell?_of_block (w := w) (hs.block K (cell_lt hK) hKG)).trans hK) ((World.cell?_of_block (w := w) (hs.block A (cell_lt hA) hAG)).trans hA) ((World.cell?_of_block (w := w) (hs.block B (cell_lt hB) hBG)).trans hB) hKG hAG hBG⟩
end Go.Proofs.Ytnalakhelicjcaa
