/-
  The document's answer: the world that bytes are, or none.
-/
import Derived.Test.YtnalakhelicjcaaVUC
import Derived.Test.YtnalakhelicjcaaVUE
import Derived.Test.YtnalakhelicjcaaVUh
set_option maxRecDepth 100000
namespace Go.Proofs.Ytnalakhelicjcaa
open Go.RowKit Go.Shelf Go.BigFrame Go.Deep

theorem bytes_ne {a b : ByteArray} (h : a ≠ b) : (a.toList == b.toList) = false := by
  rw [ByteArray.toList_eq, ByteArray.toList_eq, beq_eq_false_iff_ne]
  intro e
  apply h
  have h1 : a.data = b.data := Array.ext' e
  cases a
  cases b
  exact congrArg ByteArray.mk h1
def FPost (w : World) (r : Bool × Wd) (e : Ending) (w' : World) : Prop :=
  ∃ (gv nv wv : Value) (S : Nat → Prop), e = .returned (.tuple #[.agg #[gv, nv, wv], .bool r.1]) ∧ OWd false w' S gv nv wv r.2 ∧ (∀ b, S b → w.heap.size ≤ b ∧ b < w'.heap.size) ∧ Below w.heap.size w w'
theorem box3_new (w : World) (b : ByteArray) : ∃ w3, Hid (((w.alloc (.cells #[.slice none 0 0, .slice none 0 0, .slice none 0 0] 40)).alloc (.cells #[.string b] 110)).alloc (.cells #[.slice none 0 0, .slice none 0 0, .slice none 0 0] 40) = w3) ∧ Below w.heap.size w w3 ∧ w3.heap.size = w.heap.size + 3 ∧
    OBox w3 w.heap.size 40 (.slice none 0 0) (.slice none 0 0) (.slice none 0 0) ∧ EarAt w3 (w.heap.size + 1) (numsOf b) ∧ OBox w3 (w.heap.size + 2) 40 (.slice none 0 0) (.slice none 0 0) (.slice none 0 0) := by
  obtain ⟨w1, h1⟩ : ∃ w1, w.alloc (.cells #[.slice none 0 0, .slice none 0 0, .slice none 0 0] 40) = w1 := ⟨_, rfl⟩
  have z1 : w1.heap.size = w.heap.size + 1 := by rw [← h1, World.size_alloc]
  obtain ⟨w2, h2⟩ : ∃ w2, w1.alloc (.cells #[.string b] 110) = w2 := ⟨_, rfl⟩
  have z2 : w2.heap.size = w.heap.size + 2 := by rw [← h2, World.size_alloc, z1]
  have b1 := below_a1 w (.cells #[.slice none 0 0, .slice none 0 0, .slice none 0 0] 40)
  have b2 := below_a1 w1 (.cells #[.string b] 110)
  have b3 := below_a1 w2 (.cells #[.slice none 0 0, .slice none 0 0, .slice none 0 0] 40)
  have hR := OBox.new w 40 (.slice none 0 0) (.slice none 0 0) (.slice none 0 0)
  have hE : BlkIs (w1.alloc (.cells #[.string b] 110)) w1.heap.size 110 1 := ⟨_, heap_alloc_new w1 _, rfl⟩
  have hEc := cells_new w1 #[.string b] 110 0 _ rfl
  have hB := OBox.new w2 40 (.slice none 0 0) (.slice none 0 0) (.slice none 0 0)
  rw [h1] at b1 hR ⊢
  rw [h2] at b2 hE hEc ⊢
  rw [z1] at hE hEc
  rw [z2] at hB
  refine ⟨_, Lib.hid rfl, (b1.trans (b2.mono (by omega))).trans (b3.mono (by omega)), by rw [World.size_alloc, z2], (hR.keep (b2.block _ (by omega))).keep (b3.block _ (by omega)), ?_, hB⟩
  have hE2 : EarAt w2 (w.heap.size + 1) (numsOf b) := ⟨numsOf_octs b, hE, by rw [str_nums]; exact hEc⟩
  exact hE2.keep (b3.block _ (by omega))

set_option maxHeartbeats 4000000 in
theorem WorldFrom_c (w : World) (b : ByteArray) : Calls Try.prog 19 #[.string b] w (FPost w (refW (numsOf b))) := by
  obtain ⟨w3, h3, b3, z3, hR, hE, hBx⟩ := box3_new w b
  have hst := str_nums b
  obtain ⟨l, hl⟩ : ∃ l, numsOf b = l := ⟨_, rfl⟩
  rw [hl] at hE hst ⊢
  clear hl
  obtain ⟨P, hP⟩ : ∃ P, FPost w (refW l) = P := ⟨_, rfl⟩
  rw [hP]
  replace hP := Lib.hid hP
  replace hst := Lib.hid hst
  have hlo := Lib.hid hE.1
  obtain ⟨j0, hj0, jz0, jz1, jz2⟩ := info_parts infoCInt
  obtain ⟨n0, hn0, nz0, nz1, nz2⟩ := info_parts infoCNode
  obtain ⟨r0, hr0, rz0, rz1, rz2⟩ := info_parts infoCIntRow
  obtain ⟨q0, hq0, qz0, qz1, qz2⟩ := info_parts infoCMsgRow
  obtain ⟨s0, hs0, sz0, sz1, sz2⟩ := info_parts infoCMsgRows
  have hF := FrW.new hE hBx
  clear hE hBx
  obtain ⟨Rb, hRb⟩ : ∃ Rb, w.heap.size = Rb := ⟨_, rfl⟩
  obtain ⟨G, hG⟩ : ∃ G, w.heap.size + 1 = G := ⟨_, rfl⟩
  obtain ⟨B, hB⟩ : ∃ B, w.heap.size + 2 = B := ⟨_, rfl⟩
  rw [hG, hB] at hF
  have kG : G < w3.heap.size := by omega
  have kB : B < w3.heap.size := by omega
  have kBG : B ≠ G := by omega
  have hz := Lib.hid (show Rb < G ∧ Rb < B ∧ Rb < w3.heap.size by omega)
  rw [hRb] at b3 hR
  go_enter Try.func19, Try.ntmps19
  go_upto_region 3 with fail
  rw [h3.out]
  have hG' : Rb + 1 = G := by omega
  have hB' : G + 1 = B := by omega
  simp only [hG', hB'] at ⊢
  clear hG' hB'
  clear h3 z3
  replace hRb := Lib.hid hRb
  clear hG hB
  have hC := byte_c hF.2.1
  have hv := byteE_octs hF.2.1.1
  obtain ⟨p1, e1⟩ : ∃ p, byteE l = p := ⟨_, rfl⟩
  rw [e1] at hC hv
  obtain ⟨g, l1⟩ := p1
  dsimp only at hv
  obtain ⟨N, rfl⟩ := Int.eq_ofNat_of_zero_le hv.2.1
  have hN : N ≤ 255 := by omega
  clear hv
  replace e1 := Lib.hid e1
  go_wp2_with fail
  refine hC.mono ?_
  clear hC
  rintro e w4 ⟨s9, v9, rfl, hv9, h4⟩
  obtain rfl : v9 = .int .i64 N := hv9
  dsimp only at h4
  have hF := hF.move kG kB kBG s9 h4
  clear s9 h4
  go_wp2_with fail
  go_loopw [6] (fun i wr => ∃ (j : Nat) (gv : Value) (S1 : Nat → Prop), j ≤ N ∧ i = .int .i64 ((N - j : Nat) : Int) ∧ FrW w3 wr G B S1 (fun _ => False) (fun _ => False) gv (.slice none 0 0) (.slice none 0 0) ⟨(emany byteE j l1).1, [], []⟩ (emany byteE j l1).2) (fun i _ => (intOf i).toNat)
  case atStart => exact ⟨0, _, _, by omega, rfl, hF⟩
  case round =>
    clear hF
    obtain ⟨j, gv, S1, hj, rfl, hF⟩ := hrel
    have hxl := emany_len byteE j l1
    have hem : emany byteE (j + 1) l1 = ((emany byteE j l1).1 ++ [(byteE (emany byteE j l1).2).1], (byteE (emany byteE j l1).2).2) := rfl
    by_cases hlt : j < N
    · have e9 : decide (((N - j : Nat) : Int) > 0) = true := decide_eq_true (by omega)
      generalize emany byteE j l1 = p at *
      obtain ⟨xs, t⟩ := p
      dsimp only at hF hxl hem
      have hx8 : xs.length ≤ 255 := by omega
      replace hxl := Lib.hid hxl
      obtain ⟨ga, gc, rfl, _, _⟩ := OSl.form hF.2.2.2.1
      obtain ⟨_, x0, _, _⟩ := id hF.2.2.1
      have hFd := hF.move kG kB kBG ((Save.refl (fun b => b = G) wr).then (below_drewN wr 1)) (hF.2.1.below (below_drewN wr 1))
      have hC := byte_c hFd.2.1
      have hv := byteE_octs hFd.2.1.1
      obtain ⟨p1, q1⟩ : ∃ p, byteE t = p := ⟨_, rfl⟩
      rw [q1] at hC hv hem
      obtain ⟨a, t1⟩ := p1
      dsimp only at hv hem
      have hSB : ∀ o : World, o.heap[B]? = wr.heap[B]? → o.cell? ⟨B, 0, none⟩ = some (.slice ga xs.length gc) ∧ True := fun o k => ⟨(World.cell?_of_block (w := wr) (a := ⟨B, 0, none⟩) k).trans x0, trivial⟩
      replace hem := Lib.hid hem
      clear q1
      replace hF := Lib.hid hF
      go_upto_region 6 with fail
      refine wp_region_N (fun o => o.cell? ⟨B, 0, none⟩ = some (.slice ga xs.length gc) ∧ True) 5 8 rfl (by kernel_rfl) (hSB _ rfl) (fun hSw => ?_)
      refine tk 0 ?_ rfl rfl (by kernel_rfl) (.inl ⟨by rfl, ?_⟩) hSw ?_
      rotate_left
      · rintro w ⟨s0, _⟩; go_simp; try with_reducible rfl
      simp only [tkp, tkz, tks]
      refine tk 1 ?_ rfl rfl (by kernel_rfl) (.inl ⟨by rfl, ?_⟩) hSw ?_
      rotate_left
      · rintro w ⟨s0, _⟩; go_simp; try with_reducible rfl
      simp only [tkp, tkz, tks]
      refine tk 2 ?_ rfl rfl (by kernel_rfl) (.inl ⟨by rfl, ?_⟩) hSw ?_
      rotate_left
      · rintro w ⟨s0, _⟩; go_simp; try with_reducible rfl
      simp only [tkp, tkz, tks]
      refine N_one' (i := 3) (by kernel_rfl) rfl ?_
      go_wp2_with fail
      refine hC.mono ?_
      clear hC
      rintro e w5 ⟨s9, v9, rfl, hv9, h5⟩
      obtain rfl : v9 = .int .i64 a := hv9
      dsimp only at h5
      have hF5 := hFd.move kG kB kBG s9 h5
      have k5 : w5.heap[B]? = wr.heap[B]? := s9.block B (hFd.2.2.1.lt) kBG
      clear hSw hFd s9 h5 x0
      go_wp2_with fail
      refine QK_normal ⟨?_, ?_⟩
      · first | exact fun _ => hSB _ k5 | exact hSB _ k5
      refine N_one' (i := 4) (by kernel_rfl) rfl ?_
      go_wp2_with fail
      refine QK_normal ⟨?_, ?_⟩
      · first | exact fun _ => hSB _ ((Go.Deep.blk_alloc_lt _ _ _ hF5.2.2.1.lt).trans k5) | exact hSB _ ((Go.Deep.blk_alloc_lt _ _ _ hF5.2.2.1.lt).trans k5)
      refine N_rest 5 3 (Nat.le_refl _) rfl (by kernel_rfl) ?_
      simp only [List.drop_succ_cons, List.drop_zero]
      clear hSB k5
      obtain ⟨_, _, hob, hO1, _, _, hS1, _⟩ := id hF5
      have hsz : (w5.alloc (.cells #[.int .i64 a] 3)).heap.size = w5.heap.size + 1 := World.size_alloc _ _
      replace hsz := Lib.hid hsz
      have hO' := OSl.keep IntEl.stays hO1 (w' := w5.alloc (.cells #[.int .i64 a] 3)) (fun b hb => Go.Deep.blk_alloc_lt _ _ _ (hS1 b hb).2)
      have hnew : ∀ j u, [Value.int .i64 a][j]? = some u → (w5.alloc (.cells #[.int .i64 a] 3)).cell? ((⟨w5.heap.size, 0, none⟩ : Addr).add j) = some u := cells_new w5 #[.int .i64 a] 3
      go_wp2_with (first
        | (at_builtin; refine wpList_push _ rfl _ _ 22 rfl 3 j0 _ 1 8 Try.underlying22 hj0 jz0 jz1 jz2 rfl (by decide) IntEl.stays _ rfl S1 xs hO' (fun b hb => by have := (hS1 b hb).2; have := hsz.out; omega) ⟨w5.heap.size, 0, none⟩ _ rfl [.int .i64 a] rfl hnew (by simp [Value.oneCell']) (fun _ => False) a ⟨rfl, by unfold I64; omega⟩ (fun _ h => h.elim) (by omega) (by omega) (by omega) ?_; intro v6 w6 hp; obtain ⟨a6, c6, rfl⟩ := hp.2.2.2.2
           have hob6 := hob.keep (Fr_core (j := 0) hF5.1 hS1 kB hp).2.2.2
           have hfz6 := hob6.1.frozen 0
           have hcz6 := hob6.2.1))
      all_goals
        obtain ⟨S6, hF6⟩ := hF5.push1 kG kB kBG hp
        go_roundw
        case rel =>
          refine ⟨j + 1, .slice a6 (xs.length + 1) c6, S6, by omega, by rw [show N - (j + 1) = N - j - 1 by omega]; go_num, ?_⟩
          rw [hem.out]
          exact hF6
        case measure => simp [intOf]; omega
    · obtain rfl : N = j := by omega
      have e9 : decide (((N - N : Nat) : Int) > 0) = false := decide_eq_false (by omega)
      clear hem
      obtain ⟨p1, e2⟩ : ∃ p, emany byteE N l1 = p := ⟨_, rfl⟩
      rw [e2] at hF hxl
      obtain ⟨gs, l2⟩ := p1
      dsimp only at hF hxl
      replace e2 := Lib.hid e2
      replace hxl := Lib.hid hxl
      obtain ⟨ga, gc, rfl, _, _⟩ := OSl.form hF.2.2.2.1
      have hC := byte_c hF.2.1
      have hv := byteE_octs hF.2.1.1
      obtain ⟨p1, e3⟩ : ∃ p, byteE l2 = p := ⟨_, rfl⟩
      rw [e3] at hC hv
      obtain ⟨kk, l3⟩ := p1
      dsimp only at hv
      obtain ⟨K, rfl⟩ := Int.eq_ofNat_of_zero_le hv.2.1
      have hK : K ≤ 255 := by omega
      clear hv
      replace e3 := Lib.hid e3
      replace hF := Lib.hid hF
      go_wp2_with fail
      refine hC.mono ?_
      clear hC
      rintro e w5 ⟨s9, v9, rfl, hv9, h5⟩
      obtain rfl : v9 = .int .i64 K := hv9
      dsimp only at h5
      have hF := hF.out.move kG kB kBG s9 h5
      clear s9 h5
      go_wp2_with fail
      go_loopw [8] (fun i wr => ∃ (n : Nat) (nv : Value) (S2 : Nat → Prop), n ≤ K ∧ i = .int .i64 n ∧ FrW w3 wr G B S1 S2 (fun _ => False) (.slice ga gs.length gc) nv (.slice none 0 0) ⟨gs, (emany (enode N K) n l3).1, []⟩ (emany (enode N K) n l3).2) (fun i _ => K - (intOf i).toNat)
      case atStart => exact ⟨0, _, _, by omega, rfl, hF⟩
      case round =>
        clear hF
        obtain ⟨n, nv, S2, hn, rfl, hF⟩ := hrel
        have hxl2 := emany_len (enode N K) n l3
        have hem : emany (enode N K) (n + 1) l3 = ((emany (enode N K) n l3).1 ++ [(enode N K (emany (enode N K) n l3).2).1], (enode N K (emany (enode N K) n l3).2).2) := rfl
        by_cases hlt : n < K
        · have e9 : decide ((n : Int) < (K : Int)) = true := decide_eq_true (by omega)
          generalize emany (enode N K) n l3 = p at *
          obtain ⟨xs, t⟩ := p
          dsimp only at hF hxl2 hem
          have hx8 : xs.length ≤ 255 := by omega
          replace hxl2 := Lib.hid hxl2
          obtain ⟨na, nc, rfl, _, _⟩ := OSl.form hF.2.2.2.2.1
          have hC := three_c hF.2.1
          have hv := threeE_rng hF.2.1.1
          obtain ⟨p1, q1⟩ : ∃ p, threeE t = p := ⟨_, rfl⟩
          rw [q1] at hC hv
          obtain ⟨ck, t1⟩ := p1
          dsimp only at hv
          replace q1 := Lib.hid q1
          replace hem := Lib.hid hem
          replace hF := Lib.hid hF
          go_wp2_with fail
          refine hC.mono ?_
          clear hC
          rintro e w4 ⟨s9, v9, rfl, hv9, h5⟩
          obtain rfl : v9 = .int .i64 ck := hv9
          dsimp only at h5
          have hF4 := hF.out.move kG kB kBG s9 h5
          clear s9 h5 hF
          have hFG := hF4.2.1
          have hCb := NdBox.new w4 ck (.slice none 0 0) (.slice none 0 0) (.slice none 0 0)
          have s5 := (Save.refl (fun b => b = G) w4).then (below_a1 w4 (.cells #[.int .i64 ck, .slice none 0 0, .slice none 0 0, .slice none 0 0] 79))
          have hE5 := hFG.below (below_a1 w4 (.cells #[.int .i64 ck, .slice none 0 0, .slice none 0 0, .slice none 0 0] 79))
          clear hFG
          replace hF4 := Lib.hid hF4
          go_upto_region 12 with fail
          generalize w4.alloc (.cells #[.int .i64 ck, .slice none 0 0, .slice none 0 0, .slice none 0 0] 79) = w5' at *
          obtain ⟨C, hC⟩ : ∃ C, w4.heap.size = C := ⟨_, rfl⟩
          simp only [hC] at hCb ⊢
          have hCB : B < C ∧ G < C ∧ w3.heap.size ≤ C := by have := hF4.out.2.2.1.lt; have := hF4.out.2.1.lt; have := hF4.out.1.size; omega
          replace hC := Lib.hid hC
          have hCB := Lib.hid hCB
          go_wp2_with fail
          go_loopw [10] (fun i ws => ∃ (g : Nat) (lv : Value) (S4 : Nat → Prop), g ≤ N ∧ i = .int .i64 g ∧ Save (fun b => b = G) w4 ws ∧ EarAt ws G (emany (emany threeE K) g t1).2 ∧ NdBox ws C ck lv (.slice none 0 0) (.slice none 0 0) ∧ OIntRows ws S4 lv (emany (emany threeE K) g t1).1 ∧ ∀ b, S4 b → C < b ∧ b < ws.heap.size) (fun i _ => N - (intOf i).toNat)
          case atStart => exact ⟨0, _, fun _ => False, by omega, rfl, s5, hE5, hCb, OSl.nil _ _ _ _ _ _, fun _ h => h.elim⟩
          case round =>
            clear s5 hE5 hCb
            obtain ⟨g, lv, S4, hg, rfl, sv, hE, hCb, hO4, hS4⟩ := hrel
            have hxl3 := emany_len (emany threeE K) g t1
            have hem3 : emany (emany threeE K) (g + 1) t1 = ((emany (emany threeE K) g t1).1 ++ [(emany threeE K (emany (emany threeE K) g t1).2).1], (emany threeE K (emany (emany threeE K) g t1).2).2) := rfl
            have hoB := hF4.out.2.2.1.keep (sv.block B (hF4.out.2.2.1.lt) kBG)
            obtain ⟨_, x0, _, _⟩ := id hoB
            have hgsl := hxl.out
            obtain ⟨wo, rfl⟩ : ∃ wo : World, wo = wr := ⟨_, rfl⟩
            by_cases hlt3 : g < N
            · have e10 : decide (g < gs.length) = true := decide_eq_true (by omega)
              generalize emany (emany threeE K) g t1 = p at *
              obtain ⟨ys, u⟩ := p
              dsimp only at hE hO4 hxl3 hem3
              have hy8 : ys.length ≤ 255 := by omega
              replace hxl3 := Lib.hid hxl3
              replace hgsl := Lib.hid hgsl
              replace hem3 := Lib.hid hem3
              replace hS4 := Lib.hid hS4
              replace hCb := Lib.hid hCb
              replace hoB := Lib.hid hoB
              obtain ⟨la, lc, rfl, _, _⟩ := OSl.form hO4
              go_upto_region 15 with fail
              clear x0
              go_wp2_with fail
              go_loopw [11, 12] (fun v i wt => ∃ (k : Nat) (S5 : Nat → Prop), k ≤ K ∧ i = .int .i64 k ∧ Save (fun b => b = G) wo wt ∧ EarAt wt G (emany threeE k u).2 ∧ OInts wt S5 v (emany threeE k u).1 ∧ ∀ b, S5 b → wo.heap.size ≤ b ∧ b < wt.heap.size) (fun _ i _ => K - (intOf i).toNat)
              case atStart => exact ⟨0, fun _ => False, by omega, rfl, Save.refl _ _, hE, OSl.nil _ _ _ _ _ _, fun _ h => h.elim⟩
              case round =>
                clear hE
                obtain ⟨k, S5, hk, rfl, sv5, hE, hO5, hS5⟩ := hrel
                have hxl5 := emany_len threeE k u
                have hem5 : emany threeE (k + 1) u = ((emany threeE k u).1 ++ [(threeE (emany threeE k u).2).1], (threeE (emany threeE k u).2).2) := rfl
                by_cases hlt5 : k < K
                · have e11 : decide ((k : Int) < (K : Int)) = true := decide_eq_true (by omega)
                  generalize emany threeE k u = p at *
                  obtain ⟨zs, r⟩ := p
                  dsimp only at hE hO5 hxl5 hem5
                  have hz8 : zs.length ≤ 255 := by omega
                  replace hxl5 := Lib.hid hxl5
                  obtain ⟨va, vc, rfl, _, _⟩ := OSl.form hO5
                  have hC9 := three_c hE
                  have hv9 := threeE_rng hE.1
                  obtain ⟨p1, q2⟩ : ∃ p, threeE r = p := ⟨_, rfl⟩
                  rw [q2] at hC9 hv9 hem5
                  obtain ⟨a, r1⟩ := p1
                  dsimp only at hv9 hem5
                  clear q2
                  replace hem5 := Lib.hid hem5
                  replace hS5 := Lib.hid hS5
                  go_wp2_with fail
                  refine hC9.mono ?_
                  clear hC9
                  rintro e w7 ⟨s9, v9, rfl, hw9, h7⟩
                  obtain rfl : v9 = .int .i64 a := hw9
                  dsimp only at h7
                  have hs9 := s9.size
                  have hO7 := OSl.keep IntEl.stays hO5 (w' := w7) (fun b hb => s9.block b (hS5.out b hb).2 (by have := (hS5.out b hb).1; have := hE.lt; have := hCb.out.lt; have := hCB.out; have := sv.size; omega))
                  have sv7 := sv5.trans s9 (fun _ h _ => h)
                  have hbs7 : ∀ b, S5 b → b < w7.heap.size := fun b hb => Nat.lt_of_lt_of_le (hS5.out b hb).2 hs9
                  clear s9 hO5 hE
                  have hsz : (w7.alloc (.cells #[.int .i64 a] 3)).heap.size = w7.heap.size + 1 := World.size_alloc _ _
                  have hwz := sv7.size
                  replace hsz := Lib.hid hsz
                  replace hbs7 := Lib.hid hbs7
                  have hO' := OSl.keep IntEl.stays hO7 (w' := w7.alloc (.cells #[.int .i64 a] 3)) (fun b hb => Go.Deep.blk_alloc_lt _ _ _ (hbs7.out b hb))
                  have hnew : ∀ j u, [Value.int .i64 a][j]? = some u → (w7.alloc (.cells #[.int .i64 a] 3)).cell? ((⟨w7.heap.size, 0, none⟩ : Addr).add j) = some u := cells_new w7 #[.int .i64 a] 3
                  go_wp2_with (at_builtin; refine wpList_push _ rfl _ _ 22 rfl 3 j0 _ 1 8 Try.underlying22 hj0 jz0 jz1 jz2 rfl (by decide) IntEl.stays _ rfl S5 zs hO' (fun b hb => by have := hbs7.out b hb; have := hsz.out; omega) ⟨w7.heap.size, 0, none⟩ _ rfl [.int .i64 a] rfl hnew (by simp [Value.oneCell']) (fun _ => False) a ⟨rfl, by unfold I64; omega⟩ (fun _ h => h.elim) (by omega) (by omega) (by omega) ?_; intro v8 w8 hp; obtain ⟨⟨S8, hO8, hS8⟩, hz8', hL8, hB8, a8, c8, rfl⟩ := hp)
                  go_roundw
                  case rel =>
                    have ba := below_a1 w7 (.cells #[.int .i64 a] 3)
                    have hS5' := hS5.out
                    have hsz' := hsz.out
                    have hGw : G < wo.heap.size := by have := hCb.out.lt; have := hCB.out; omega
                    refine ⟨k + 1, S8, by omega, by go_num, (sv7.then (ba.mono hwz)).then (hB8 wo.heap.size (fun b hb => (hS5' b hb).1) (by omega)), ?_, ?_, fun b hb => ⟨?_, (hS8 b hb).2⟩⟩
                    · rw [hem5.out]
                      exact (h7.below ba).keep (hL8 G ⟨by omega, fun h => by have := (hS5' G h).1; omega⟩)
                    · rw [hem5.out]
                      exact hO8
                    · rcases (hS8 b hb).1 with h | h | h
                      · exact (hS5' b h).1
                      · exact h.elim
                      · omega
                  case measure => simp [intOf]; omega
                · obtain rfl : K = k := by omega
                  have e11 : decide ((K : Int) < (K : Int)) = false := decide_eq_false (by omega)
                  clear hem5
                  obtain ⟨p1, q2⟩ : ∃ p, emany threeE K u = p := ⟨_, rfl⟩
                  rw [q2] at hE hO5 hxl5
                  obtain ⟨zs, u1⟩ := p1
                  dsimp only at hE hO5 hxl5
                  replace q2 := Lib.hid q2
                  replace hxl5 := Lib.hid hxl5
                  obtain ⟨va, vc, rfl, _, _⟩ := OSl.form hO5
                  have hs5 := sv5.size
                  have hCl := hCb.out.lt
                  have hCB' := hCB.out
                  have hCk := hCb.out.keep (sv5.block C hCl (by omega))
                  have hS4' := hS4.out
                  have hO4k := hO4.keep (w' := wr) (fun b hb => sv5.block b (hS4' b hb).2 (by have := (hS4' b hb).1; omega))
                  have hO4a := OIntRows.keep hO4k (w' := wr.alloc (.cells #[.slice va zs.length vc] 22)) (fun b hb => Go.Deep.blk_alloc_lt _ _ _ (by have := (hS4' b hb).2; omega))
                  have hO5a := OInts.keep hO5 (w' := wr.alloc (.cells #[.slice va zs.length vc] 22)) (fun b hb => Go.Deep.blk_alloc_lt _ _ _ (hS5 b hb).2)
                  obtain ⟨_, m0, m1, m2, m3⟩ := id hCk
                  have hsz : (wr.alloc (.cells #[.slice va zs.length vc] 22)).heap.size = wr.heap.size + 1 := World.size_alloc _ _
                  replace hsz := Lib.hid hsz
                  replace hCk := Lib.hid hCk
                  have hs5' := Lib.hid hs5
                  have hCl' := Lib.hid hCl
                  have hS5' := Lib.hid hS5
                  have hnS := Lib.hid (show ¬ S4 C from fun h => by have := (hS4' C h).1; omega)
                  have hnG := Lib.hid (show ¬ S4 G from fun h => by have := (hS4' G h).1; omega)
                  have hdj : ∀ b, S5 b → ¬ S4 b := fun b h1 h2 => by have := (hS5 b h1).1; have := (hS4' b h2).2; omega
                  have hrg : ∀ b, S4 b → C < b ∧ b < wr.heap.size := fun b h => ⟨(hS4' b h).1, by have := (hS4' b h).2; omega⟩
                  replace hdj := Lib.hid hdj
                  replace hrg := Lib.hid hrg
                  have hrg5 := Lib.hid (show ∀ b, S5 b → C < b ∧ b < wr.heap.size from fun b h => ⟨by have := (hS5 b h).1; omega, (hS5 b h).2⟩)
                  clear hS5 hS4' hCB' hs5 hCl hO4k hO5
                  have hnew : ∀ j u, [Value.slice va zs.length vc][j]? = some u → (wr.alloc (.cells #[.slice va zs.length vc] 22)).cell? ((⟨wr.heap.size, 0, none⟩ : Addr).add j) = some u := cells_new wr #[.slice va zs.length vc] 22
                  go_wp2_with (first
                    | (at_builtin; refine wpList_push _ rfl _ _ 77 rfl 22 r0 _ 1 24 Try.underlying77 hr0 rz0 rz1 rz2 rfl (by decide) OIntsEl.stays _ rfl S4 ys hO4a (fun b hb => by have := (hrg.out b hb).2; have := hsz.out; omega) ⟨wr.heap.size, 0, none⟩ _ rfl [.slice va zs.length vc] rfl hnew (by simp [Value.oneCell']) S5 zs ⟨_, rfl, hO5a⟩ (fun b hb => ⟨hdj.out b hb, by have := (hrg5.out b hb).2; have := hsz.out; omega⟩) (by omega) (by omega) (by omega) ?_; intro v8 w8 hp; obtain ⟨a8, c8, rfl⟩ := hp.2.2.2.2
                       have hC8 := hCk.out.keep ((hp.2.2.1 C ⟨by have := hsz.out; have := hCk.out.lt; omega, hnS.out⟩).trans (Go.Deep.blk_alloc_lt _ _ _ hCk.out.lt))
                       have hfz8 := hC8.1.frozen 1
                       have hcz8 := hC8.2.2.1))
                  all_goals
                    obtain ⟨⟨S8, hO8, hS8⟩, _, hL8, hB8, _⟩ := hp
                    go_roundw
                    case rel =>
                      have hC0 := hC.out
                      have hsz' := hsz.out
                      have hrg' := hrg.out
                      have hCB' := hCB.out
                      have hCl := hCk.out.lt
                      have hw4 := (sv.trans sv5 (fun _ h _ => h)).size
                      have b8 := ((below_a1 wr (.cells #[.slice va zs.length vc] 22)).mono hw4).trans (hB8 w4.heap.size (fun b hb => by have := (hrg' b hb).1; omega) (by omega))
                      have hr8 : ∀ b, S8 b → C < b ∧ b < w8.heap.size := fun b hb => by
                        refine ⟨?_, (hS8 b hb).2⟩
                        rcases (hS8 b hb).1 with h | h | h
                        · exact (hrg' b h).1
                        · exact (hrg5.out b h).1
                        · omega
                      refine ⟨g + 1, .slice a8 (ys.length + 1) c8, S8, by omega, by go_num, (sv.trans sv5 (fun _ h _ => h)).then (below_setCell b8 (by show w4.heap.size ≤ C; omega) _), ?_, hC8.set1 _, ?_, fun b hb => ⟨(hr8 b hb).1, by rw [Go.Deep.nblk_setCell]; exact (hr8 b hb).2⟩⟩
                      · rw [hem3.out, q2.out]
                        exact hE.keep ((Go.Deep.blk_setCell_other _ _ _ _ (by show G ≠ C; omega)).trans ((hL8 G ⟨by omega, hnG.out⟩).trans (Go.Deep.blk_alloc_lt _ _ _ (by omega))))
                      · rw [hem3.out, q2.out]
                        exact OSl.keep OIntsEl.stays hO8 (fun b hb => Go.Deep.blk_setCell_other _ _ _ _ (by have := (hr8 b hb).1; show b ≠ C; omega))
                    case measure => simp [intOf]; omega
            · obtain rfl : N = g := by omega
              have e10 : decide (N < gs.length) = false := decide_eq_false (by omega)
              clear hem3
              obtain ⟨p1, q3⟩ : ∃ p, emany (emany threeE K) N t1 = p := ⟨_, rfl⟩
              rw [q3] at hE hO4 hxl3
              obtain ⟨rows, t2⟩ := p1
              dsimp only at hE hO4 hxl3
              have hrl : rows.length ≤ 255 := by omega
              replace q3 := Lib.hid q3
              replace hxl3 := Lib.hid hxl3
              replace hgsl := Lib.hid hgsl
              obtain ⟨la, lc, rfl, _, _⟩ := OSl.form hO4
              have hC9 := emsgs_c hE
              obtain ⟨p1, q4⟩ : ∃ p, emsgs t2 = p := ⟨_, rfl⟩
              rw [q4] at hC9
              obtain ⟨hd, t3⟩ := p1
              replace q4 := Lib.hid q4
              have hw4 := sv.size
              have hCl := hCb.lt
              have hCB' := hCB.out
              have hC0 := hC.out
              replace hS4 := Lib.hid hS4
              replace hCb := Lib.hid hCb
              replace hoB := Lib.hid hoB
              go_wp2_with fail
              refine hC9.mono ?_
              clear hC9
              rintro e w6 ⟨s6, v6, rfl, ⟨S6, hO6, hS6⟩, h6⟩
              dsimp only at hO6 h6
              obtain ⟨a6, c6, rfl, _, _⟩ := OSl.form hO6
              have hs6 := s6.size
              have hC6 := hCb.out.keep (s6.block C hCl (by omega))
              have f6 := hC6.1.frozen 2
              have m6 := hC6.2.2.2.1
              have sv7 := (sv.trans s6 (fun _ h _ => h)).then (below_setCell (a := ⟨C, 2, none⟩) (Below.refl w4.heap.size w6) (by show w4.heap.size ≤ C; omega) (.slice a6 hd.length c6))
              have h7 := h6.keep (w' := w6.setCell ⟨C, 2, none⟩ (.slice a6 hd.length c6)) (Go.Deep.blk_setCell_other _ _ _ _ (by show G ≠ C; omega))
              have hC7 := hC6.set2 (.slice a6 hd.length c6)
              have hO4_7 := hO4.keep (w' := w6.setCell ⟨C, 2, none⟩ (.slice a6 hd.length c6)) (fun b hb => (Go.Deep.blk_setCell_other _ _ _ _ (by have := (hS4.out b hb).1; show b ≠ C; omega)).trans (s6.block b (hS4.out b hb).2 (by have := (hS4.out b hb).1; omega)))
              have hO6_7 := OSl.keep MEl.stays hO6 (w' := w6.setCell ⟨C, 2, none⟩ (.slice a6 hd.length c6)) (fun b hb => Go.Deep.blk_setCell_other _ _ _ _ (by have := (hS6 b hb).1; show b ≠ C; omega))
              have hz7 : (w6.setCell ⟨C, 2, none⟩ (.slice a6 hd.length c6)).heap.size = w6.heap.size := Go.Deep.nblk_setCell _ _ _
              replace hz7 := Lib.hid hz7
              replace hC7 := Lib.hid hC7
              clear hO4 hO6 hE hC6
              go_upto_region 22 with fail
              clear f6 m6
              generalize w6.setCell ⟨C, 2, none⟩ (.slice a6 hd.length c6) = w7 at *
              have hz7 := hz7.out
              have hC9 := emsgs_c h7
              obtain ⟨p1, q5⟩ : ∃ p, emsgs t3 = p := ⟨_, rfl⟩
              rw [q5] at hC9
              obtain ⟨tl, t4⟩ := p1
              replace q5 := Lib.hid q5
              replace hz7 := Lib.hid hz7
              replace hS6 := Lib.hid hS6
              go_wp2_with fail
              refine hC9.mono ?_
              clear hC9
              rintro e w8 ⟨s8, v8, rfl, ⟨S8, hO8, hS8⟩, h8⟩
              dsimp only at hO8 h8
              obtain ⟨a8, c8, rfl, _, _⟩ := OSl.form hO8
              have hs8 := s8.size
              have hz7 := hz7.out
              have hS6 := hS6.out
              have hC8 := hC7.out.keep (s8.block C hC7.out.lt (by omega))
              have f8 := hC8.1.frozen 3
              have m8 := hC8.2.2.2.2
              have sv9 := (sv7.trans s8 (fun _ h _ => h)).then (below_setCell (a := ⟨C, 3, none⟩) (Below.refl w4.heap.size w8) (by show w4.heap.size ≤ C; omega) (.slice a8 tl.length c8))
              have h9 := h8.keep (w' := w8.setCell ⟨C, 3, none⟩ (.slice a8 tl.length c8)) (Go.Deep.blk_setCell_other _ _ _ _ (by show G ≠ C; omega))
              have hC9' := hC8.set3 (.slice a8 tl.length c8)
              have hO4_9 := hO4_7.keep (w' := w8.setCell ⟨C, 3, none⟩ (.slice a8 tl.length c8)) (fun b hb => (Go.Deep.blk_setCell_other _ _ _ _ (by have := (hS4.out b hb).1; show b ≠ C; omega)).trans (s8.block b (by have := (hS4.out b hb).2; omega) (by have := (hS4.out b hb).1; omega)))
              have hO6_9 := OSl.keep MEl.stays hO6_7 (w' := w8.setCell ⟨C, 3, none⟩ (.slice a8 tl.length c8)) (fun b hb => (Go.Deep.blk_setCell_other _ _ _ _ (by have := (hS6 b hb).1; show b ≠ C; omega)).trans (s8.block b (by have := (hS6 b hb).2; omega) (by have := (hS6 b hb).1; omega)))
              have hO8_9 := OSl.keep MEl.stays hO8 (w' := w8.setCell ⟨C, 3, none⟩ (.slice a8 tl.length c8)) (fun b hb => Go.Deep.blk_setCell_other _ _ _ _ (by have := (hS8 b hb).1; show b ≠ C; omega))
              have hz9 : (w8.setCell ⟨C, 3, none⟩ (.slice a8 tl.length c8)).heap.size = w8.heap.size := Go.Deep.nblk_setCell _ _ _
              replace hz9 := Lib.hid hz9
              replace hC9' := Lib.hid hC9'
              clear hO4_7 hO6_7 hO8 h7 hC8 h8
              go_upto_region 23 with fail
              clear f8 m8
              generalize w8.setCell ⟨C, 3, none⟩ (.slice a8 tl.length c8) = w9 at *
              have hz9 := hz9.out
              have hF9 := hF4.out.move kG kB kBG sv9 h9
              have hdm : ∀ b, S4 b ∨ S6 b ∨ S8 b → C < b ∧ b < w9.heap.size := fun b hb => by
                rcases hb with h | h | h
                · have := hS4.out b h; omega
                · have := hS6 b h; omega
                · have := hS8 b h; omega
              have hx : ONodeEl (w9.alloc (.cells #[.int .i64 ck, .slice la rows.length lc, .slice a6 hd.length c6, .slice a8 tl.length c8] 79)) (fun b => S4 b ∨ S6 b ∨ S8 b) [.int .i64 ck, .slice la rows.length lc, .slice a6 hd.length c6, .slice a8 tl.length c8] ⟨ck, rows, hd, tl⟩ := by
                have ka : ∀ b, b < w9.heap.size → (w9.alloc (.cells #[.int .i64 ck, .slice la rows.length lc, .slice a6 hd.length c6, .slice a8 tl.length c8] 79)).heap[b]? = w9.heap[b]? := fun b h => Go.Deep.blk_alloc_lt _ _ _ h
                refine ⟨_, _, _, S4, S6, S8, rfl, by unfold I64; dsimp only; omega, hO4_9.keep (fun b hb => ka b (hdm b (Or.inl hb)).2), OSl.keep MEl.stays hO6_9 (fun b hb => ka b (hdm b (Or.inr (Or.inl hb))).2), OSl.keep MEl.stays hO8_9 (fun b hb => ka b (hdm b (Or.inr (Or.inr hb))).2), fun _ h => Or.inl h, fun _ h => Or.inr (Or.inl h), fun _ h => Or.inr (Or.inr h), fun b h1 h2 => ?_, fun b h1 h2 => ?_, fun b h1 h2 => ?_⟩
                · have := hS4.out b h1; have := hS6 b h2; omega
                · have := hS4.out b h1; have := hS8 b h2; omega
                · have := hS6 b h1; have := hS8 b h2; omega
              have hS1c : ∀ b, S1 b → b < C := fun b hb => by have := (hF4.out.2.2.2.2.2.2.1 b hb).2; omega
              have hS2c : ∀ b, S2 b → b < C := fun b hb => by have := (hF4.out.2.2.2.2.2.2.2.1 b hb).2; omega
              have hC9w := hC9'.out.lt
              obtain ⟨_, m0, m1, m2, m3⟩ := hC9'.out
              obtain ⟨_, _, hob, _, hN9, _, _, hS2, _⟩ := id hF9
              obtain ⟨_, _, x1, _⟩ := id hob
              have hT : ∀ b, S4 b ∨ S6 b ∨ S8 b → w3.heap.size ≤ b ∧ b < w9.heap.size ∧ ¬ S1 b ∧ ¬ False := fun b hb => by
                have h := hdm b hb
                exact ⟨by omega, h.2, fun h1 => by have := hS1c b h1; omega, id⟩
              have hT2 : ∀ b, S4 b ∨ S6 b ∨ S8 b → ¬ S2 b := fun b hb h1 => by
                have h := hdm b hb
                have := hS2c b h1
                omega
              have hsz : (w9.alloc (.cells #[.int .i64 ck, .slice la rows.length lc, .slice a6 hd.length c6, .slice a8 tl.length c8] 79)).heap.size = w9.heap.size + 1 := World.size_alloc _ _
              have hN' := ONodes.keep hN9 (w' := w9.alloc (.cells #[.int .i64 ck, .slice la rows.length lc, .slice a6 hd.length c6, .slice a8 tl.length c8] 79)) (fun b hb => Go.Deep.blk_alloc_lt _ _ _ (hS2 b hb).2)
              have hTl : ∀ b, S4 b ∨ S6 b ∨ S8 b → b < w9.heap.size := fun b hb => (hdm b hb).2
              replace hsz := Lib.hid hsz
              replace hT := Lib.hid hT
              replace hT2 := Lib.hid hT2
              replace hTl := Lib.hid hTl
              replace hS2 := Lib.hid hS2
              replace hS8 := Lib.hid hS8
              replace hS6 := Lib.hid hS6
              replace hz9 := Lib.hid hz9
              replace hz7 := Lib.hid hz7
              replace hC0 := Lib.hid hC0
              replace hF9 := Lib.hid hF9
              clear hdm hS1c hS2c hN9 hO4_9 hO6_9 hO8_9 sv9 h9
              go_wp2_with (first
                | (at_builtin; refine wpList_push _ rfl _ _ 37 rfl 79 n0 _ 4 80 Try.underlying37 hn0 nz0 nz1 nz2 rfl (by decide) ONodeEl.stays _ rfl S2 xs hN' (fun b hb => by have := (hS2.out b hb).2; have := hsz.out; omega) ⟨w9.heap.size, 0, none⟩ _ rfl [_, _, _, _] rfl (cells_new _ _ _) (by simp [Value.oneCell']) (fun b => S4 b ∨ S6 b ∨ S8 b) ⟨ck, rows, hd, tl⟩ hx (fun b hb => ⟨hT2.out b hb, by have := hTl.out b hb; have := hsz.out; omega⟩) (by omega) (by omega) (by omega) ?_; intro v10 w10 hp; obtain ⟨a10, c10, rfl⟩ := hp.2.2.2.2
                   have hob10 := hob.keep (Fr_core (j := 1) hF9.out.1 hS2.out kB hp).2.2.2
                   have hfz10 := hob10.1.frozen 1
                   have hcz10 := hob10.2.2.1))
              all_goals
                obtain ⟨S10, hF10⟩ := hF9.out.push2 kG kB kBG hT.out hp
                go_roundw
                case rel =>
                  refine ⟨n + 1, .slice a10 (xs.length + 1) c10, S10, by omega, by go_num, ?_⟩
                  rw [hem.out, enode_at q1.out q3.out q4.out q5.out]
                  exact hF10
                case measure => simp [intOf]; omega
        · obtain rfl : K = n := by omega
          have e9 : decide ((K : Int) < (K : Int)) = false := decide_eq_false (by omega)
          clear hem
          obtain ⟨p1, e4⟩ : ∃ p, emany (enode N K) K l3 = p := ⟨_, rfl⟩
          rw [e4] at hF hxl2
          obtain ⟨ns, l4⟩ := p1
          dsimp only at hF hxl2
          replace e4 := Lib.hid e4
          replace hxl2 := Lib.hid hxl2
          obtain ⟨na, nc, rfl, _, _⟩ := OSl.form hF.2.2.2.2.1
          go_upto_region 24 with fail
          go_wp2_with fail
          go_loopw [13] (fun i wr => ∃ (n : Nat) (wv : Value) (S3 : Nat → Prop), n ≤ K ∧ i = .int .i64 n ∧ FrW w3 wr G B S1 S2 S3 (.slice ga gs.length gc) (.slice na ns.length nc) wv ⟨gs, ns, (emany (emany emsgs K) n l4).1⟩ (emany (emany emsgs K) n l4).2) (fun i _ => K - (intOf i).toNat)
          case atStart => exact ⟨0, _, _, by omega, rfl, hF⟩
          case round =>
            clear hF
            obtain ⟨n, wv, S3, hn, rfl, hF⟩ := hrel
            have hxl5 := emany_len (emany emsgs K) n l4
            have hem : emany (emany emsgs K) (n + 1) l4 = ((emany (emany emsgs K) n l4).1 ++ [(emany emsgs K (emany (emany emsgs K) n l4).2).1], (emany emsgs K (emany (emany emsgs K) n l4).2).2) := rfl
            obtain ⟨wo, rfl⟩ : ∃ wo : World, wo = wr := ⟨_, rfl⟩
            by_cases hlt : n < K
            · have e10 : decide ((n : Int) < (K : Int)) = true := decide_eq_true (by omega)
              generalize emany (emany emsgs K) n l4 = p at *
              obtain ⟨xs, u⟩ := p
              dsimp only at hF hxl5 hem
              have hx8 : xs.length ≤ 255 := by omega
              replace hxl5 := Lib.hid hxl5
              replace hem := Lib.hid hem
              obtain ⟨wa, wc, rfl, _, _⟩ := OSl.form hF.2.2.2.2.2.1
              have hE := hF.2.1
              replace hF := Lib.hid hF
              go_upto_region 27 with fail
              go_wp2_with fail
              go_loopw [14, 15] (fun v i wt => ∃ (k : Nat) (S5 : Nat → Prop), k ≤ K ∧ i = .int .i64 k ∧ Save (fun b => b = G) wo wt ∧ EarAt wt G (emany emsgs k u).2 ∧ OMsgRows true wt S5 v (emany emsgs k u).1 ∧ ∀ b, S5 b → wo.heap.size ≤ b ∧ b < wt.heap.size) (fun _ i _ => K - (intOf i).toNat)
              case atStart => exact ⟨0, fun _ => False, by omega, rfl, Save.refl _ _, hE, OSl.nil _ _ _ _ _ _, fun _ h => h.elim⟩
              case round =>
                clear hE
                obtain ⟨k, S5, hk, rfl, sv5, hE, hO5, hS5⟩ := hrel
                have hxl6 := emany_len emsgs k u
                have hem5 : emany emsgs (k + 1) u = ((emany emsgs k u).1 ++ [(emsgs (emany emsgs k u).2).1], (emsgs (emany emsgs k u).2).2) := rfl
                by_cases hlt5 : k < K
                · have e11 : decide ((k : Int) < (K : Int)) = true := decide_eq_true (by omega)
                  generalize emany emsgs k u = p at *
                  obtain ⟨zs, r⟩ := p
                  dsimp only at hE hO5 hxl6 hem5
                  have hz8 : zs.length ≤ 255 := by omega
                  replace hxl6 := Lib.hid hxl6
                  obtain ⟨va, vc, rfl, _, _⟩ := OSl.form hO5
                  have hC9 := emsgs_c hE
                  obtain ⟨p1, q2⟩ : ∃ p, emsgs r = p := ⟨_, rfl⟩
                  rw [q2] at hC9 hem5
                  obtain ⟨ms, r1⟩ := p1
                  dsimp only at hem5
                  clear q2
                  replace hem5 := Lib.hid hem5
                  replace hS5 := Lib.hid hS5
                  go_wp2_with fail
                  refine hC9.mono ?_
                  clear hC9
                  rintro e w7 ⟨s9, v9, rfl, ⟨S7, hO7, hS7⟩, h7⟩
                  dsimp only at h7 hO7
                  obtain ⟨a7, c7, rfl, _, _⟩ := OSl.form hO7
                  have hs9 := s9.size
                  have hGw : G < wo.heap.size := hF.out.2.1.lt
                  have hO5' := OMsgRows.keep hO5 (w' := w7) (fun b hb => s9.block b (hS5.out b hb).2 (by have := (hS5.out b hb).1; omega))
                  have sv7 := sv5.trans s9 (fun _ h _ => h)
                  have hsz : (w7.alloc (.cells #[.slice a7 ms.length c7] 24)).heap.size = w7.heap.size + 1 := World.size_alloc _ _
                  have hwz := sv7.size
                  have hOa := OMsgRows.keep hO5' (w' := w7.alloc (.cells #[.slice a7 ms.length c7] 24)) (fun b hb => Go.Deep.blk_alloc_lt _ _ _ (by have := (hS5.out b hb).2; omega))
                  have hMa := OSl.keep MEl.stays hO7 (w' := w7.alloc (.cells #[.slice a7 ms.length c7] 24)) (fun b hb => Go.Deep.blk_alloc_lt _ _ _ (hS7 b hb).2)
                  have hnew : ∀ j u, [Value.slice a7 ms.length c7][j]? = some u → (w7.alloc (.cells #[.slice a7 ms.length c7] 24)).cell? ((⟨w7.heap.size, 0, none⟩ : Addr).add j) = some u := cells_new w7 #[.slice a7 ms.length c7] 24
                  have hb5 : ∀ b, S5 b → wo.heap.size ≤ b ∧ b < w7.heap.size := fun b hb => ⟨(hS5.out b hb).1, by have := (hS5.out b hb).2; omega⟩
                  have hb7 : ∀ b, S7 b → wo.heap.size ≤ b ∧ b < w7.heap.size := fun b hb => ⟨by have := (hS7 b hb).1; have := sv5.size; omega, (hS7 b hb).2⟩
                  have hdj : ∀ b, S7 b → ¬ S5 b := fun b h1 h2 => by have := (hS7 b h1).1; have := (hS5.out b h2).2; omega
                  replace hsz := Lib.hid hsz
                  replace hb5 := Lib.hid hb5
                  replace hb7 := Lib.hid hb7
                  replace hdj := Lib.hid hdj
                  replace hwz := Lib.hid hwz
                  clear hS7 hS5 hO5' hO5 hO7 s9 hs9 hE
                  go_wp2_with (at_builtin; refine wpList_push _ rfl _ _ 86 rfl 24 q0 _ 1 24 Try.underlying86 hq0 qz0 qz1 qz2 rfl (by decide) (OMsgsEl.stays true) _ rfl S5 zs hOa (fun b hb => by have := (hb5.out b hb).2; have := hsz.out; omega) ⟨w7.heap.size, 0, none⟩ _ rfl [.slice a7 ms.length c7] rfl hnew (by simp [Value.oneCell']) S7 ms ⟨_, rfl, hMa⟩ (fun b hb => ⟨hdj.out b hb, by have := (hb7.out b hb).2; have := hsz.out; omega⟩) (by omega) (by omega) (by omega) ?_; intro v8 w8 hp; obtain ⟨⟨S8, hO8, hS8⟩, hz8', hL8, hB8, a8, c8, rfl⟩ := hp)
                  go_roundw
                  case rel =>
                    have ba := below_a1 w7 (.cells #[.slice a7 ms.length c7] 24)
                    have hsz' := hsz.out
                    have hwz' := hwz.out
                    refine ⟨k + 1, S8, by omega, by go_num, (sv7.then (ba.mono hwz')).then (hB8 wo.heap.size (fun b hb => (hb5.out b hb).1) (by omega)), ?_, ?_, fun b hb => ⟨?_, (hS8 b hb).2⟩⟩
                    · rw [hem5.out]
                      exact (h7.below ba).keep (hL8 G ⟨by omega, fun h => by have := (hb5.out G h).1; omega⟩)
                    · rw [hem5.out]
                      exact hO8
                    · rcases (hS8 b hb).1 with h | h | h
                      · exact (hb5.out b h).1
                      · exact (hb7.out b h).1
                      · omega
                  case measure => simp [intOf]; omega
                · obtain rfl : K = k := by omega
                  have e11 : decide ((K : Int) < (K : Int)) = false := decide_eq_false (by omega)
                  clear hem5
                  obtain ⟨p1, q2⟩ : ∃ p, emany emsgs K u = p := ⟨_, rfl⟩
                  rw [q2] at hE hO5 hxl6
                  obtain ⟨zs, u1⟩ := p1
                  dsimp only at hE hO5 hxl6
                  replace q2 := Lib.hid q2
                  replace hxl6 := Lib.hid hxl6
                  obtain ⟨va, vc, rfl, _, _⟩ := OSl.form hO5
                  have hF5 := hF.out.move kG kB kBG sv5 hE
                  have hS1c : ∀ b, S1 b → b < wo.heap.size := fun b hb => (hF.out.2.2.2.2.2.2.1 b hb).2
                  have hS2c : ∀ b, S2 b → b < wo.heap.size := fun b hb => (hF.out.2.2.2.2.2.2.2.1 b hb).2
                  have hS3c : ∀ b, S3 b → b < wo.heap.size := fun b hb => (hF.out.2.2.2.2.2.2.2.2.1 b hb).2
                  have hwo := hF.out.1.size
                  obtain ⟨_, _, hob, _, _, hW5, _, _, hS3, _⟩ := id hF5
                  obtain ⟨_, _, _, x2⟩ := id hob
                  have hT : ∀ b, S5 b → w3.heap.size ≤ b ∧ b < wr.heap.size ∧ ¬ S1 b ∧ ¬ S2 b := fun b hb => by
                    have h := hS5 b hb
                    exact ⟨by omega, h.2, fun h1 => by have := hS1c b h1; omega, fun h1 => by have := hS2c b h1; omega⟩
                  have hT2 : ∀ b, S5 b → ¬ S3 b ∧ b < wr.heap.size := fun b hb => ⟨fun h1 => by have := hS3c b h1; have := hS5 b hb; omega, (hS5 b hb).2⟩
                  have hsz : (wr.alloc (.cells #[.slice va zs.length vc] 86)).heap.size = wr.heap.size + 1 := World.size_alloc _ _
                  have hWa := OWires.keep hW5 (w' := wr.alloc (.cells #[.slice va zs.length vc] 86)) (fun b hb => Go.Deep.blk_alloc_lt _ _ _ (hS3 b hb).2)
                  have hRa := OMsgRows.keep hO5 (w' := wr.alloc (.cells #[.slice va zs.length vc] 86)) (fun b hb => Go.Deep.blk_alloc_lt _ _ _ (hS5 b hb).2)
                  have hnew : ∀ j u, [Value.slice va zs.length vc][j]? = some u → (wr.alloc (.cells #[.slice va zs.length vc] 86)).cell? ((⟨wr.heap.size, 0, none⟩ : Addr).add j) = some u := cells_new wr #[.slice va zs.length vc] 86
                  replace hsz := Lib.hid hsz
                  replace hT := Lib.hid hT
                  replace hT2 := Lib.hid hT2
                  replace hS3 := Lib.hid hS3
                  replace hF5 := Lib.hid hF5
                  clear hS1c hS2c hS3c hS5 hW5 hO5 hE sv5
                  go_wp2_with (first
                    | (at_builtin; refine wpList_push _ rfl _ _ 38 rfl 86 s0 _ 1 24 Try.underlying38 hs0 sz0 sz1 sz2 rfl (by decide) (OMsgRowsEl.stays true) _ rfl S3 xs hWa (fun b hb => by have := (hS3.out b hb).2; have := hsz.out; omega) ⟨wr.heap.size, 0, none⟩ _ rfl [.slice va zs.length vc] rfl hnew (by simp [Value.oneCell']) S5 zs ⟨_, rfl, hRa⟩ (fun b hb => ⟨(hT2.out b hb).1, by have := (hT2.out b hb).2; have := hsz.out; omega⟩) (by omega) (by omega) (by omega) ?_; intro v8 w8 hp; obtain ⟨a8, c8, rfl⟩ := hp.2.2.2.2
                       have hob8 := hob.keep (Fr_core (j := 2) hF5.out.1 hS3.out kB hp).2.2.2
                       have hfz8 := hob8.1.frozen 2
                       have hcz8 := hob8.2.2.2))
                  all_goals
                    obtain ⟨S8, hF8⟩ := hF5.out.push3 kG kB kBG hT.out hp
                    go_roundw
                    case rel =>
                      refine ⟨n + 1, .slice a8 (xs.length + 1) c8, S8, by omega, by go_num, ?_⟩
                      rw [hem.out, q2.out]
                      exact hF8
                    case measure => simp [intOf]; omega
            · obtain rfl : K = n := by omega
              have e10 : decide ((K : Int) < (K : Int)) = false := decide_eq_false (by omega)
              clear hem
              obtain ⟨p1, e5⟩ : ∃ p, emany (emany emsgs K) K l4 = p := ⟨_, rfl⟩
              rw [e5] at hF
              obtain ⟨ws, l5⟩ := p1
              dsimp only at hF
              have hew := eworld_at e1.out (Int.toNat_natCast N) e2.out e3.out (Int.toNat_natCast K) e4.out e5
              clear hxl5
              obtain ⟨wa, wc, rfl, _, _⟩ := OSl.form hF.2.2.2.2.2.1
              obtain ⟨sv, _, hob, h1, h2, h3, k1, k2, k3, d1, d2, d3⟩ := hF
              obtain ⟨X, hX⟩ : ∃ X, Wd.mk gs ns ws = X := ⟨_, rfl⟩
              rw [hX] at hew
              have hOW : OWd true wo (fun b => S1 b ∨ S2 b ∨ S3 b) (.slice ga gs.length gc) (.slice na ns.length nc) (.slice wa ws.length wc) X := hX ▸ ⟨S1, S2, S3, h1, h2, h3, fun _ h => Or.inl h, fun _ h => Or.inr (Or.inl h), fun _ h => Or.inr (Or.inr h), d1, d2, d3⟩
              have hSr : ∀ b, S1 b ∨ S2 b ∨ S3 b → w3.heap.size ≤ b ∧ b < wo.heap.size := fun b hb => by
                rcases hb with h | h | h
                · exact k1 b h
                · exact k2 b h
                · exact k3 b h
              clear h1 h2 h3 k1 k2 k3 d1 d2 d3 hX
              have hz' := hz.out
              have hRo := hR.keep (sv.block Rb hz'.2.2 (by omega))
              have bo : Below Rb w wo := b3.trans (sv.below (fun b hb => by omega) (by omega))
              replace hSr := Lib.hid hSr
              replace hew := Lib.hid hew
              clear e5 hxl hxl2 e1 e2 e3 e4
              obtain ⟨_, x0, x1, x2⟩ := id hob
              have hC := WorldError_c hOW.world
              obtain ⟨e0, he0⟩ : ∃ e, errX X = e := ⟨_, rfl⟩
              rw [he0] at hC
              replace he0 := Lib.hid he0
              replace hOW := Lib.hid hOW
              replace hRo := Lib.hid hRo
              replace hob := Lib.hid hob
              go_wp2_with fail
              refine hC.mono ?_
              clear hC x0 x1 x2
              rintro e w5 ⟨rfl, b5⟩
              have hob5 := hob.out.keep (b5.block B hob.out.lt)
              have hR5 := hRo.out.keep (b5.block Rb hRo.out.lt)
              have bw5 : Below Rb w w5 := bo.trans (b5.mono (by have := hRo.out.lt; omega))
              have hO5 := hOW.out.keep (fun b hb => b5.block b (hSr.out b hb).2)
              have hr5 : ∀ b, S1 b ∨ S2 b ∨ S3 b → w3.heap.size ≤ b ∧ b < w5.heap.size := fun b hb => ⟨(hSr.out b hb).1, Nat.lt_of_lt_of_le (hSr.out b hb).2 b5.size⟩
              replace hr5 := Lib.hid hr5
              clear b5 hob hRo hOW bo
              by_cases he : e0 = 0
              rotate_left
              · have q0 : (e0 != 0) = true := by simpa using he
                have hne := Lib.hid (show ¬ (errX (eworld l).1 = 0 ∧ bWorld (eworld l).1 = l) from fun h => by rw [hew.out, he0.out] at h; exact he h.1)
                clear he
                have hput := Lib.hid ((hR5).put3 (.slice none 0 0) (.slice none 0 0) (.slice none 0 0))
                have hbz := Lib.hid (set3_below (u := .slice none 0 0) (v := .slice none 0 0) (x := .slice none 0 0) bw5 (Nat.le_refl Rb))
                obtain ⟨f0, f1, f2, y0, y1, y2⟩ := (hR5).all
                go_wp2_with ((with_reducible refine bodyPost_ret (v := .tuple #[.agg #[.slice none 0 0, .slice none 0 0, .slice none 0 0], .bool false]) ?_ rfl ?_); (focus (obtain ⟨u0, u1, u2⟩ := hput.out; simp [results, Try.f19]; go_simp)))
                rw [← hP.out]
                rw [refW_no hne.out]
                exact ⟨_, _, _, fun _ => False, rfl, OWd.empty _ _ _, fun _ h => h.elim, by rw [hRb.out]; exact hbz.out⟩
              have q0 : (e0 != 0) = false := by simpa using he
              have hX0 : errX X = 0 := by rw [he0.out, he]
              have hC := WorldBytes_c hO5.world hX0
              replace hX0 := Lib.hid hX0
              clear he
              obtain ⟨sb, hsb⟩ : ∃ s, strOfNums (bWorld X) = s := ⟨_, rfl⟩
              rw [hsb] at hC
              replace hsb := Lib.hid hsb
              obtain ⟨_, x0, x1, x2⟩ := id hob5
              replace hO5 := Lib.hid hO5
              replace hR5 := Lib.hid hR5
              replace hob5 := Lib.hid hob5
              go_wp2_with fail
              refine hC.mono ?_
              clear hC x0 x1 x2
              rintro e w6 ⟨rfl, b6⟩
              have hob6 := hob5.out.keep (b6.block B hob5.out.lt)
              have hR6 := hR5.out.keep (b6.block Rb hR5.out.lt)
              have bw6 : Below Rb w w6 := bw5.trans (b6.mono (by have := hR5.out.lt; omega))
              have hO6 := hO5.out.keep (fun b hb => b6.block b (hr5.out b hb).2)
              have hr6 := Lib.hid (show ∀ b, S1 b ∨ S2 b ∨ S3 b → w3.heap.size ≤ b ∧ b < w6.heap.size from fun b hb => ⟨(hr5.out b hb).1, Nat.lt_of_lt_of_le (hr5.out b hb).2 b6.size⟩)
              clear b6 hob5 hR5 hO5 bw5
              have hbl : sb = b ↔ bWorld (eworld l).1 = l := by
                rw [hew.out, ← hsb.out, ← hst.out]
                constructor
                · intro h
                  have := congrArg numsOf h
                  rwa [nums_str (octs_world X), nums_str hlo.out] at this
                · intro h
                  rw [h]
              by_cases hq : sb = b
              rotate_left
              · have q1 : (sb.toList == b.toList) = false := bytes_ne hq
                have hne := Lib.hid (show ¬ (errX (eworld l).1 = 0 ∧ bWorld (eworld l).1 = l) from fun h => hq (hbl.2 h.2))
                clear hbl hob6
                have hput := Lib.hid ((hR6).put3 (.slice none 0 0) (.slice none 0 0) (.slice none 0 0))
                have hbz := Lib.hid (set3_below (u := .slice none 0 0) (v := .slice none 0 0) (x := .slice none 0 0) bw6 (Nat.le_refl Rb))
                obtain ⟨f0, f1, f2, y0, y1, y2⟩ := (hR6).all
                go_wp2_with ((with_reducible refine bodyPost_ret (v := .tuple #[.agg #[.slice none 0 0, .slice none 0 0, .slice none 0 0], .bool false]) ?_ rfl ?_); (focus (obtain ⟨u0, u1, u2⟩ := hput.out; simp [results, Try.f19]; go_simp)))
                rw [← hP.out]
                rw [refW_no hne.out]
                exact ⟨_, _, _, fun _ => False, rfl, OWd.empty _ _ _, fun _ h => h.elim, by rw [hRb.out]; exact hbz.out⟩
              have q1 : (sb.toList == b.toList) = true := by rw [hq]; simp
              have hyes := Lib.hid (hbl.1 hq)
              clear hbl
              obtain ⟨_, x0, x1, x2⟩ := id hob6
              have hOF := Lib.hid (show OWd true (((w6.setCell ⟨Rb, 0, none⟩ (.slice ga gs.length gc)).setCell ⟨Rb, 1, none⟩ (.slice na ns.length nc)).setCell ⟨Rb, 2, none⟩ (.slice wa ws.length wc)) _ _ _ _ X from hO6.keep (fun b hb => set3_blk (by have := (hr6.out b hb).1; omega)))
              replace hO6 := Lib.hid hO6
              have hput := Lib.hid ((hR6).put3 (.slice ga gs.length gc) (.slice na ns.length nc) (.slice wa ws.length wc))
              have hbz := Lib.hid (set3_below (u := .slice ga gs.length gc) (v := .slice na ns.length nc) (x := .slice wa ws.length wc) bw6 (Nat.le_refl Rb))
              obtain ⟨f0, f1, f2, y0, y1, y2⟩ := (hR6).all
              go_wp2_with ((with_reducible refine bodyPost_ret (v := .tuple #[.agg #[.slice ga gs.length gc, .slice na ns.length nc, .slice wa ws.length wc], .bool true]) ?_ rfl ?_); (focus (obtain ⟨u0, u1, u2⟩ := hput.out; simp [results, Try.f19]; go_simp)))
              rw [← hP.out]
              have hzz : (((w6.setCell ⟨Rb, 0, none⟩ (.slice ga gs.length gc)).setCell ⟨Rb, 1, none⟩ (.slice na ns.length nc)).setCell ⟨Rb, 2, none⟩ (.slice wa ws.length wc)).heap.size = w6.heap.size := set3_size
              have hRbo := hRb.out
              rw [refW_yes (by rw [hew.out]; exact hX0.out) hyes.out, hew.out]
              exact ⟨_, _, _, _, rfl, hOF.out.any, fun b hb => ⟨by have := (hr6.out b hb).1; omega, by rw [hzz]; exact (hr6.out b hb).2⟩, by rw [hRbo]; exact hbz.out⟩
end Go.Proofs.Ytnalakhelicjcaa
