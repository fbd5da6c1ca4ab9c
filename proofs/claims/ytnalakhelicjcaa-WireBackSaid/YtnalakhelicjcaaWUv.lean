/-
  The pen: messages.
-/
import Derived.Test.YtnalakhelicjcaaWUw
import Derived.Test.YtnalakhelicjcaaWKN
set_option maxRecDepth 100000
namespace Go.Proofs.Ytnalakhelicjcaa
open Go.RowKit Go.Shelf Go.BigFrame Go.Deep

theorem Ints.blkL {w w' : World} {g o n c : Nat} {xs : List Int} (h : Ints w (.slice (some ⟨g, o, none⟩) n c) xs) (k : w'.heap[g]? = w.heap[g]?) : Ints w' (.slice (some ⟨g, o, none⟩) n c) xs := by
  obtain ⟨h0, h1, h2, a, cap, e, h3, h4⟩ := h
  refine ⟨h0, h1, h2, a, cap, e, h3, fun hn => ?_⟩
  obtain ⟨b, off, rfl, h5⟩ := h4 hn
  cases e
  exact ⟨_, _, rfl, fun j hj => (World.cell?_of_block (w := w) (a := ⟨g, o + j, none⟩) k).trans (h5 j hj)⟩
theorem PenAt.alloc {w : World} {Q : Nat} {v : Value} {bs : List Int} (h : PenAt w Q v bs) (o : Obj) : PenAt (w.alloc o) Q v bs :=
  ⟨h.1.same (Go.Deep.blk_alloc_lt _ _ _ h.1.lt), (World.cell?_of_block (Go.Deep.blk_alloc_lt w o Q h.1.lt)).trans h.2.1, h.2.2.alloc o⟩
theorem PenOn.pre {w w' : World} {Q : Nat} {v v' : Value} {bs : List Int} {o : Obj} (h : PenOn (w.alloc o) Q v w' v' bs) : PenOn w Q v w' v' bs := by
  obtain ⟨h1, h2, h3⟩ := h
  exact ⟨h1, fun b hb => (h2 b hb).imp id (fun e => by rw [World.size_alloc] at e; omega), ⟨h3.os, h3.tape, h3.output, Nat.le_trans (by rw [World.size_alloc]; omega) h3.size, fun b hb hn => (h3.block b (by rw [World.size_alloc]; omega) hn).trans (Go.Deep.blk_alloc_lt _ _ _ hb)⟩⟩
theorem pen_small_lit {w : World} {Q : Nat} {v : Value} {bs : List Int} (h : PenAt w Q v bs) (xs : List Int) (hx : ∀ x ∈ xs, I64 x) (hl : xs.length ≤ 1000) (hb : bs.length + xs.length * 1 ≤ 1000000) :
    Calls Try.prog 37 #[.pointer (some ⟨Q, 0, none⟩), .slice (some ⟨w.heap.size, 0, none⟩) xs.length xs.length] (w.alloc (.cells (xs.map (Value.int .i64)).toArray 3)) (PenPost w Q v (bs ++ xs.flatMap bSmall)) := by
  have hL := Ints.lit w xs 3 hx (by omega)
  have hQ := h.1.lt
  refine (pen_small_c (h.alloc _) (fun W hW => hL.blkL (hW.block w.heap.size (by rw [World.size_alloc]; omega) (fun e => ?_))) hb).mono fun e w' ⟨he, v', hv⟩ => ⟨he, v', hv.pre⟩
  rcases e with e | e
  · omega
  · have := (h.2.2.lt _ e).2
    omega
theorem pen_wide_lit {w : World} {Q : Nat} {v : Value} {bs : List Int} (h : PenAt w Q v bs) (xs : List Int) (hx : ∀ x ∈ xs, I64 x) (hl : xs.length ≤ 1000) (hb : bs.length + xs.length * 3 ≤ 1000000) :
    Calls Try.prog 38 #[.pointer (some ⟨Q, 0, none⟩), .slice (some ⟨w.heap.size, 0, none⟩) xs.length xs.length] (w.alloc (.cells (xs.map (Value.int .i64)).toArray 3)) (PenPost w Q v (bs ++ xs.flatMap bWide)) := by
  have hL := Ints.lit w xs 3 hx (by omega)
  have hQ := h.1.lt
  refine (pen_wide_c (h.alloc _) (fun W hW => hL.blkL (hW.block w.heap.size (by rw [World.size_alloc]; omega) (fun e => ?_))) hb).mono fun e w' ⟨he, v', hv⟩ => ⟨he, v', hv.pre⟩
  rcases e with e | e
  · omega
  · have := (h.2.2.lt _ e).2
    omega
theorem PenOn.keep {w w' : World} {Q C : Nat} {v v' : Value} {bs : List Int} (h : PenOn w Q v w' v' bs) (hC : C < w.heap.size) (hQ : C ≠ Q) (hv : ¬ v.ownBlock = some C) : w'.heap[C]? = w.heap[C]? :=
  h.2.2.block C hC (fun e => e.elim hQ hv)
theorem save_drew {w w1 : World} {r : Option Nat} (h : w.drew.grownBy w1 r) : Save (fun b => r = some b) w w1 := ⟨h.os, h.tape, h.output, h.size, fun b hb hn => h.block b hb (fun e => hn e.symm)⟩
theorem owns_drewU {w : World} {b : Nat} {e : TypeId} {s n : Nat} {v : Value} {xs : List Value} (h : w.ownsRow b e s v n xs) : w.drew.ownsRow b e s v n xs := h
theorem strCells_nums (s : ByteArray) : Lib.strCells s = (numsOf s).map (Value.int .u8) := by
  unfold Lib.strCells numsOf
  rw [List.map_map]
  rfl
theorem bMsg_len (m : M) : (bMsg m).length = 7 + m.body.size := by
  unfold bMsg bSmall bWide
  simp only [List.length_append, List.length_cons, List.length_nil, numsOf_len]
  omega

set_option maxHeartbeats 2000000 in
theorem pen_msgs_c {w : World} {Q : Nat} {v mv : Value} {bs : List Int} {l : List M} (h : PenAt w Q v bs) (hm : ∀ W, Save (PenB Q v) w W → Msgs W mv l) (hb : bs.length + (bMsgs l).length ≤ 1000000) :
    Calls Try.prog 39 #[.pointer (some ⟨Q, 0, none⟩), mv] w (PenPost w Q v (bs ++ bMsgs l)) := by
  obtain ⟨hll, la, lcap, rfl, _⟩ := (hm w (Save.refl _ _)).open
  obtain ⟨i0, hi0, hz0, hz1, hz2⟩ := info_parts infoCByteP
  obtain ⟨P, hP⟩ : ∃ P, PenPost w Q v (bs ++ bMsgs l) = P := ⟨_, rfl⟩
  rw [hP]
  replace hP := Lib.hid hP
  replace hm := Lib.hid hm
  unfold bMsgs at hb
  rw [List.length_append] at hb
  have hb1 : (bSmall l.length).length = 1 := rfl
  rw [hb1] at hb
  have hC1 := pen_small_lit h [(l.length : Int)] (fun x hx => by simp at hx; subst hx; unfold I64; omega) (by simp) (by simp; omega)
  change Calls _ _ #[_, .slice _ 1 1] (w.alloc (.cells #[.int .i64 (l.length : Int)] 3)) _ at hC1
  go_enter Try.func39, Try.ntmps39
  go_wp2_with fail
  refine hC1.mono ?_
  clear hC1
  rintro e w1 ⟨rfl, u1, hp1⟩
  have hp1 := hp1
  rw [show [(l.length : Int)].flatMap bSmall = bSmall l.length by simp] at hp1
  go_upto_region 2 with fail
  go_loopw [14] (fun i wr => ∃ (k : Nat) (u : Value), k ≤ l.length ∧ i = .int .i64 k ∧ PenOn w Q v wr u (bs ++ (bSmall l.length ++ (l.take k).flatMap bMsg))) (fun i _ => l.length - (intOf i).toNat)
  case atStart => exact ⟨0, u1, by omega, rfl, by simpa using hp1⟩
  case round =>
    clear h hp1
    obtain ⟨k, u, hk, rfl, hp⟩ := hrel
    by_cases hlt : k < l.length
    · have hM := hm.out wr hp.2.2
      obtain ⟨_, _, _, e4, _, hcc⟩ := hM.open
      cases e4
      obtain ⟨b4, o4, rfl, hun⟩ := hcc (by intro e; subst e; simp at hlt)
      obtain ⟨d0, d1, d2, d3, d4⟩ := hun k hlt
      have e1 : decide ((k : Int) < (l.length : Int)) = true := decide_eq_true (by omega)
      have hft := bflat_take bMsg M.zero hlt
      have hfit : (l.getD k M.zero).fits := hM.1 _ (by rw [getD_lt l _ hlt]; exact List.getElem_mem _)
      have hfl : ((l.take k).flatMap bMsg).length + (bMsg (l.getD k M.zero)).length ≤ (l.flatMap bMsg).length := by
        have h1 : ((l.take (k + 1)).flatMap bMsg).length ≤ (l.flatMap bMsg).length := by
          conv => rhs; rw [← List.take_append_drop (k + 1) l, List.flatMap_append, List.length_append]
          omega
        rw [hft, List.length_append] at h1
        exact h1
      obtain ⟨m, hmd⟩ : ∃ m, l.getD k M.zero = m := ⟨_, rfl⟩
      rw [hmd] at d0 d1 d2 d3 d4 hft hfit hfl
      clear hmd hun hcc hM
      rw [bMsg_len] at hfl
      have hfe : bs ++ (bSmall l.length ++ (l.take (k + 1)).flatMap bMsg) = (bs ++ (bSmall l.length ++ (l.take k).flatMap bMsg)) ++ bMsg m := by rw [hft, List.append_assoc, List.append_assoc]
      have hcl : (bs ++ (bSmall l.length ++ (l.take k).flatMap bMsg)).length + (7 + m.body.size) ≤ 1000000 := by
        rw [List.length_append, List.length_append]
        omega
      obtain ⟨cs, hcs⟩ : ∃ cs, bs ++ (bSmall l.length ++ (l.take k).flatMap bMsg) = cs := ⟨_, rfl⟩
      rw [hcs] at hp hcl hfe
      clear hcs hft hfl
      replace hfe := Lib.hid hfe
      have hQl := hp.1.1.lt
      have hol := hp.1.2.2.lt
      have bA := below_a1 wr (.cells #[.int .i64 m.src, .int .i64 m.grp, .int .i64 m.stamp, .bool m.null, .string m.body] 33)
      have hMb := MsgBox.new wr m 33
      have hpa := hp.1.alloc (.cells #[.int .i64 m.src, .int .i64 m.grp, .int .i64 m.stamp, .bool m.null, .string m.body] 33)
      have hsz : (wr.alloc (.cells #[.int .i64 m.src, .int .i64 m.grp, .int .i64 m.stamp, .bool m.null, .string m.body] 33)).heap.size = wr.heap.size + 1 := World.size_alloc _ _
      have hrel : ∀ {w9 : World} {v9 : Value} {b9 : List Int}, PenOn (wr.alloc (.cells #[.int .i64 m.src, .int .i64 m.grp, .int .i64 m.stamp, .bool m.null, .string m.body] 33)) Q u w9 v9 b9 → PenOn w Q v w9 v9 b9 := fun h => hp.trans h.pre
      have hCo : ¬ u.ownBlock = some wr.heap.size := fun e => by have := (hol _ e).2; omega
      replace hsz := Lib.hid hsz
      go_upto_region 5 with fail
      generalize wr.alloc (.cells #[.int .i64 m.src, .int .i64 m.grp, .int .i64 m.stamp, .bool m.null, .string m.body] 33) = w2 at *
      obtain ⟨C, hC⟩ : ∃ C, wr.heap.size = C := ⟨_, rfl⟩
      have hCl : C < w2.heap.size := by have := hsz.out; omega
      simp only [hC] at hMb hCo hQl ⊢
      clear hC d0 d1 d2 d3 d4 bA
      have hCQ : C ≠ Q := by omega
      obtain ⟨m0, m1, m2, m3, m4⟩ := id hMb
      cases hz : m.null
      · rw [hz] at m3
        replace hz := Lib.hid hz
        have hC1 := pen_small_lit hpa [m.src, m.grp, 0, (m.body.size : Int)] (fun x hx => by
          obtain ⟨f0, f1, f2, f3⟩ := hfit
          simp only [List.mem_cons, List.not_mem_nil, or_false] at hx
          rcases hx with rfl | rfl | rfl | rfl
          · exact f0
          · exact f1
          · unfold I64; omega
          · unfold I64; omega) (by simp) (by simp; omega)
        change Calls _ _ #[_, .slice _ 4 4] (w2.alloc (.cells #[.int .i64 m.src, .int .i64 m.grp, .int .i64 0, .int .i64 (m.body.size : Int)] 3)) _ at hC1
        go_wp2_with fail
        refine hC1.mono ?_
        clear hC1
        rintro e w3 ⟨rfl, u3, hp3⟩
        have hk3 := hp3.keep hCl hCQ hCo
        have hs3 := hp3.2.2.size
        have hCo3 : ¬ u3.ownBlock = some C := fun e => (hp3.2.1 C e).elim hCo (fun h => by omega)
        have m4' := (World.cell?_of_block (w := w2) (a := ⟨C, 4, none⟩) hk3).trans m4
        have m2' := (World.cell?_of_block (w := w2) (a := ⟨C, 2, none⟩) hk3).trans m2
        obtain ⟨c3, hc3⟩ : ∃ c, cs ++ [m.src, m.grp, 0, (m.body.size : Int)].flatMap bSmall = c := ⟨_, rfl⟩
        have hc3l : c3.length = cs.length + 4 := by rw [← hc3, List.length_append]; rfl
        rw [hc3] at hp3
        replace hc3 := Lib.hid hc3
        have hc3m : c3.length + m.body.size + 3 ≤ 1000000 := by omega
        replace hc3l := Lib.hid hc3l
        obtain ⟨hB, hc, ho⟩ := id hp3.1
        have hQ3 := hB.lt
        obtain ⟨pa, pc, rfl⟩ := own_form ho
        go_upto_region 8 with fail
        have hSB : ∀ o : World, o.heap[Q]? = w3.heap[Q]? → o.heap[C]? = w3.heap[C]? → o.cell? ⟨Q, 0, none⟩ = some (.slice pa c3.length pc) ∧ o.cell? ⟨C, 4, none⟩ = some (.string m.body) := fun o k1 k2 => ⟨(World.cell?_of_block (w := w3) (a := ⟨Q, 0, none⟩) k1).trans hc, (World.cell?_of_block (w := w3) (a := ⟨C, 4, none⟩) k2).trans m4'⟩
        refine wp_region_N (fun o => o.cell? ⟨Q, 0, none⟩ = some (.slice pa c3.length pc) ∧ o.cell? ⟨C, 4, none⟩ = some (.string m.body)) 8 11 rfl (by kernel_rfl) (hSB _ rfl rfl) (fun hSw => ?_)
        refine tk 0 ?_ rfl rfl (by kernel_rfl) (.inl ⟨by rfl, ?_⟩) hSw ?_
        rotate_left
        · rintro w ⟨s0, s1⟩; go_simp; try with_reducible rfl
        simp only [tkp, tkz, tks]
        refine tk 1 ?_ rfl rfl (by kernel_rfl) (.inl ⟨by rfl, ?_⟩) hSw ?_
        rotate_left
        · rintro w ⟨s0, s1⟩; go_simp; try with_reducible rfl
        simp only [tkp, tkz, tks]
        refine tk 2 ?_ rfl rfl (by kernel_rfl) (.inl ⟨by rfl, ?_⟩) hSw ?_
        rotate_left
        · rintro w ⟨s0, s1⟩; go_simp; try with_reducible rfl
        simp only [tkp, tkz, tks]
        refine tk 3 ?_ rfl rfl (by kernel_rfl) (.inl ⟨by rfl, ?_⟩) hSw ?_
        rotate_left
        · rintro w ⟨s0, s1⟩; go_simp; try with_reducible rfl
        simp only [tkp, tkz, tks]
        refine tk 4 ?_ rfl rfl (by kernel_rfl) (.inl ⟨by rfl, ?_⟩) hSw ?_
        rotate_left
        · rintro w ⟨s0, s1⟩; go_simp; try with_reducible rfl
        simp only [tkp, tkz, tks]
        refine tk 5 ?_ rfl rfl (by kernel_rfl) (.inl ⟨by rfl, ?_⟩) hSw ?_
        rotate_left
        · rintro w ⟨s0, s1⟩; go_simp; try with_reducible rfl
        simp only [tkp, tkz, tks]
        refine tk 6 ?_ rfl rfl (by kernel_rfl) (.inl ⟨by rfl, ?_⟩) hSw ?_
        rotate_left
        · rintro w ⟨s0, s1⟩; go_simp; try with_reducible rfl
        simp only [tkp, tkz, tks]
        refine N_one' (i := 7) (by kernel_rfl) rfl ?_
        go_wp2_with (at_builtin; refine wpList_append_str _ rfl _ _ 81 9 rfl (Q + 1) 5 i0 Try.underlying81 Try.underlying9 hi0 hz0 hz1 hz2 (.slice pa c3.length pc) c3.length (c3.map (Value.int .u8)) rfl (owns_drewU ho) m.body rfl (by omega) hQ3 ?_; intro v4 w4 hown4 hgrow4 hat4; obtain ⟨qa, qc, rfl⟩ := own_form hown4)
        have s4 := save_drew hgrow4
        have hq4 := s4.block Q hQ3 (fun e => by have := (ho.lt Q e).1; omega)
        have hcC := s4.block C (by omega) hCo3
        refine QK_normal ⟨?_, ?_⟩
        · first | exact fun _ => hSB _ hq4 hcC | exact hSB _ hq4 hcC
        refine N_rest 8 3 (Nat.le_refl _) rfl (by kernel_rfl) ?_
        simp only [List.drop_succ_cons, List.drop_zero]
        have fq := (hB.same hq4).frozen 0
        have cq := (hSB w4 hq4 hcC).1
        have hp4 := PenAt.put hp3.1 (w1 := w4) (v' := .slice qa (c3.length + m.body.size) qc) (cs := numsOf m.body) (by rw [strCells_nums] at hown4; simpa [numsOf_len] using hown4) s4 (fun b hb => hat4.elim (fun e => Or.inl (e ▸ hb)) (fun e => Or.inr (by rw [e] at hb; cases hb; exact Nat.le_refl _)))
        have m2'' := (World.cell?_of_block (w := w4) (a := ⟨C, 2, none⟩) (Go.Deep.blk_setCell_other w4 ⟨Q, 0, none⟩ (.slice qa (c3.length + m.body.size) qc) C hCQ)).trans ((World.cell?_of_block (w := w3) (a := ⟨C, 2, none⟩) hcC).trans m2')
        clear hSB hSw
        go_upto_region 9 with fail
        generalize w4.setCell ⟨Q, 0, none⟩ (.slice qa (c3.length + m.body.size) qc) = w5 at *
        have hC2 := pen_wide_lit hp4.1 [m.stamp] (fun x hx => by simp at hx; subst hx; exact hfit.2.2.1) (by simp) (by simp [numsOf_len]; omega)
        change Calls _ _ #[_, .slice _ 1 1] (w5.alloc (.cells #[.int .i64 m.stamp] 3)) _ at hC2
        go_wp2_with fail
        refine hC2.mono ?_
        clear hC2
        rintro e w6 ⟨rfl, u6, hp6⟩
        go_wp2_with fail
        go_roundw
        case rel =>
          refine ⟨k + 1, u6, by omega, by go_num, ?_⟩
          have e := hrel (hp3.trans (hp4.trans hp6))
          have e2 : c3 ++ numsOf m.body ++ [m.stamp].flatMap bWide = cs ++ bMsg m := by
            rw [← hc3.out]
            unfold bMsg
            rw [hz.out]
            simp
          rw [e2, ← hfe.out] at e
          exact e
        case measure => simp [intOf]; omega
      · rw [hz] at m3
        replace hz := Lib.hid hz
        have hC1 := pen_small_lit hpa [m.src, m.grp, 1, (m.body.size : Int)] (fun x hx => by
          obtain ⟨f0, f1, f2, f3⟩ := hfit
          simp only [List.mem_cons, List.not_mem_nil, or_false] at hx
          rcases hx with rfl | rfl | rfl | rfl
          · exact f0
          · exact f1
          · unfold I64; omega
          · unfold I64; omega) (by simp) (by simp; omega)
        change Calls _ _ #[_, .slice _ 4 4] (w2.alloc (.cells #[.int .i64 m.src, .int .i64 m.grp, .int .i64 1, .int .i64 (m.body.size : Int)] 3)) _ at hC1
        go_wp2_with fail
        refine hC1.mono ?_
        clear hC1
        rintro e w3 ⟨rfl, u3, hp3⟩
        have hk3 := hp3.keep hCl hCQ hCo
        have hs3 := hp3.2.2.size
        have hCo3 : ¬ u3.ownBlock = some C := fun e => (hp3.2.1 C e).elim hCo (fun h => by omega)
        have m4' := (World.cell?_of_block (w := w2) (a := ⟨C, 4, none⟩) hk3).trans m4
        have m2' := (World.cell?_of_block (w := w2) (a := ⟨C, 2, none⟩) hk3).trans m2
        obtain ⟨c3, hc3⟩ : ∃ c, cs ++ [m.src, m.grp, 1, (m.body.size : Int)].flatMap bSmall = c := ⟨_, rfl⟩
        have hc3l : c3.length = cs.length + 4 := by rw [← hc3, List.length_append]; rfl
        rw [hc3] at hp3
        replace hc3 := Lib.hid hc3
        have hc3m : c3.length + m.body.size + 3 ≤ 1000000 := by omega
        replace hc3l := Lib.hid hc3l
        obtain ⟨hB, hc, ho⟩ := id hp3.1
        have hQ3 := hB.lt
        obtain ⟨pa, pc, rfl⟩ := own_form ho
        go_upto_region 8 with fail
        have hSB : ∀ o : World, o.heap[Q]? = w3.heap[Q]? → o.heap[C]? = w3.heap[C]? → o.cell? ⟨Q, 0, none⟩ = some (.slice pa c3.length pc) ∧ o.cell? ⟨C, 4, none⟩ = some (.string m.body) := fun o k1 k2 => ⟨(World.cell?_of_block (w := w3) (a := ⟨Q, 0, none⟩) k1).trans hc, (World.cell?_of_block (w := w3) (a := ⟨C, 4, none⟩) k2).trans m4'⟩
        refine wp_region_N (fun o => o.cell? ⟨Q, 0, none⟩ = some (.slice pa c3.length pc) ∧ o.cell? ⟨C, 4, none⟩ = some (.string m.body)) 8 11 rfl (by kernel_rfl) (hSB _ rfl rfl) (fun hSw => ?_)
        refine tk 0 ?_ rfl rfl (by kernel_rfl) (.inl ⟨by rfl, ?_⟩) hSw ?_
        rotate_left
        · rintro w ⟨s0, s1⟩; go_simp; try with_reducible rfl
        simp only [tkp, tkz, tks]
        refine tk 1 ?_ rfl rfl (by kernel_rfl) (.inl ⟨by rfl, ?_⟩) hSw ?_
        rotate_left
        · rintro w ⟨s0, s1⟩; go_simp; try with_reducible rfl
        simp only [tkp, tkz, tks]
        refine tk 2 ?_ rfl rfl (by kernel_rfl) (.inl ⟨by rfl, ?_⟩) hSw ?_
        rotate_left
        · rintro w ⟨s0, s1⟩; go_simp; try with_reducible rfl
        simp only [tkp, tkz, tks]
        refine tk 3 ?_ rfl rfl (by kernel_rfl) (.inl ⟨by rfl, ?_⟩) hSw ?_
        rotate_left
        · rintro w ⟨s0, s1⟩; go_simp; try with_reducible rfl
        simp only [tkp, tkz, tks]
        refine tk 4 ?_ rfl rfl (by kernel_rfl) (.inl ⟨by rfl, ?_⟩) hSw ?_
        rotate_left
        · rintro w ⟨s0, s1⟩; go_simp; try with_reducible rfl
        simp only [tkp, tkz, tks]
        refine tk 5 ?_ rfl rfl (by kernel_rfl) (.inl ⟨by rfl, ?_⟩) hSw ?_
        rotate_left
        · rintro w ⟨s0, s1⟩; go_simp; try with_reducible rfl
        simp only [tkp, tkz, tks]
        refine tk 6 ?_ rfl rfl (by kernel_rfl) (.inl ⟨by rfl, ?_⟩) hSw ?_
        rotate_left
        · rintro w ⟨s0, s1⟩; go_simp; try with_reducible rfl
        simp only [tkp, tkz, tks]
        refine N_one' (i := 7) (by kernel_rfl) rfl ?_
        go_wp2_with (at_builtin; refine wpList_append_str _ rfl _ _ 81 9 rfl (Q + 1) 5 i0 Try.underlying81 Try.underlying9 hi0 hz0 hz1 hz2 (.slice pa c3.length pc) c3.length (c3.map (Value.int .u8)) rfl (owns_drewU ho) m.body rfl (by omega) hQ3 ?_; intro v4 w4 hown4 hgrow4 hat4; obtain ⟨qa, qc, rfl⟩ := own_form hown4)
        have s4 := save_drew hgrow4
        have hq4 := s4.block Q hQ3 (fun e => by have := (ho.lt Q e).1; omega)
        have hcC := s4.block C (by omega) hCo3
        refine QK_normal ⟨?_, ?_⟩
        · first | exact fun _ => hSB _ hq4 hcC | exact hSB _ hq4 hcC
        refine N_rest 8 3 (Nat.le_refl _) rfl (by kernel_rfl) ?_
        simp only [List.drop_succ_cons, List.drop_zero]
        have fq := (hB.same hq4).frozen 0
        have cq := (hSB w4 hq4 hcC).1
        have hp4 := PenAt.put hp3.1 (w1 := w4) (v' := .slice qa (c3.length + m.body.size) qc) (cs := numsOf m.body) (by rw [strCells_nums] at hown4; simpa [numsOf_len] using hown4) s4 (fun b hb => hat4.elim (fun e => Or.inl (e ▸ hb)) (fun e => Or.inr (by rw [e] at hb; cases hb; exact Nat.le_refl _)))
        have m2'' := (World.cell?_of_block (w := w4) (a := ⟨C, 2, none⟩) (Go.Deep.blk_setCell_other w4 ⟨Q, 0, none⟩ (.slice qa (c3.length + m.body.size) qc) C hCQ)).trans ((World.cell?_of_block (w := w3) (a := ⟨C, 2, none⟩) hcC).trans m2')
        clear hSB hSw
        go_upto_region 9 with fail
        generalize w4.setCell ⟨Q, 0, none⟩ (.slice qa (c3.length + m.body.size) qc) = w5 at *
        have hC2 := pen_wide_lit hp4.1 [m.stamp] (fun x hx => by simp at hx; subst hx; exact hfit.2.2.1) (by simp) (by simp [numsOf_len]; omega)
        change Calls _ _ #[_, .slice _ 1 1] (w5.alloc (.cells #[.int .i64 m.stamp] 3)) _ at hC2
        go_wp2_with fail
        refine hC2.mono ?_
        clear hC2
        rintro e w6 ⟨rfl, u6, hp6⟩
        go_wp2_with fail
        go_roundw
        case rel =>
          refine ⟨k + 1, u6, by omega, by go_num, ?_⟩
          have e := hrel (hp3.trans (hp4.trans hp6))
          have e2 : c3 ++ numsOf m.body ++ [m.stamp].flatMap bWide = cs ++ bMsg m := by
            rw [← hc3.out]
            unfold bMsg
            rw [hz.out]
            simp
          rw [e2, ← hfe.out] at e
          exact e
        case measure => simp [intOf]; omega
    · have hke : k = l.length := by omega
      have e1 : decide ((k : Int) < (l.length : Int)) = false := decide_eq_false (by omega)
      rw [hke, List.take_length] at hp
      go_wp2_with fail
      refine bodyPost_end (v := .tuple #[]) (by simp [results, Try.f39]) rfl ?_
      rw [← hP.out]
      exact ⟨rfl, _, hp⟩
end Go.Proofs.Ytnalakhelicjcaa
