/-
  Read: a world that is read, or none.
-/
import Derived.Test.YtnalakhelicjcaaVUB
import Derived.Test.YtnalakhelicjcaaVKL
import Derived.Test.YtnalakhelicjcaaVKCb
import Derived.Test.YtnalakhelicjcaaVKC
import Derived.Test.YtnalakhelicjcaaVKN
import Derived.Recover
import Derived.Defers
set_option maxRecDepth 100000
namespace Go.Proofs.Ytnalakhelicjcaa
open Go.RowKit Go.Shelf Go.BigFrame Go.Deep

theorem catchR_p (p q : Nat) (older : List PanicEntry) (w : World) (hp : BlkIs w p 40 3) (hq : BlkIs w q 26 1) (hpq : p ≠ q) :
    CallsD Try.prog 44 #[.pointer (some ⟨p, 0, none⟩), .pointer (some ⟨q, 0, none⟩)] (.panicking (shortE :: older)) w fun e u' w' =>
      e = .returned (.tuple #[]) ∧ u' = .panicking ({ shortE with recovered := true } :: older) ∧
      w' = (((w.setCell ⟨p, 0, none⟩ (.slice none 0 0)).setCell ⟨p, 1, none⟩ (.slice none 0 0)).setCell ⟨p, 2, none⟩ (.slice none 0 0)).setCell ⟨q, 0, none⟩ (.int .i64 1) := by
  refine callsD_of_wpS Try.func44 rfl fun c₀ cs hu => ?_
  apply wpS_seq
  apply wpS_region
  simp [wpOpsS, go_sem, recoverD, hu, Try.ntmps44, Exit.thenS, shortE]
  refine wpS_of_wp ?_
  have ht : (#[Value.pointer (some ⟨p, 0, none⟩), Value.pointer (some ⟨q, 0, none⟩)] ++ ((Array.replicate 3 undef).setIfInBounds 0 (.iface 104 (.agg #[]))).setIfInBounds 1 (.bool true) : Array Value) =
      #[.pointer (some ⟨p, 0, none⟩), .pointer (some ⟨q, 0, none⟩), .iface 104 (.agg #[]), .bool true, undef] := by simp [Array.replicate]
  rw [ht]
  clear ht
  obtain ⟨u0, r0⟩ := hp.some 0 (by omega)
  obtain ⟨u1, r1⟩ := hp.some 1 (by omega)
  obtain ⟨u2, r2⟩ := hp.some 2 (by omega)
  obtain ⟨u3, r3⟩ := hq.some 0 (by omega)
  have f0 := hp.frozen 0
  have f1 := hp.frozen 1
  have f2 := hp.frozen 2
  have f3 := hq.frozen 0
  have hqp : q ≠ p := fun e => hpq e.symm
  go_wp2_with fail
  simp [bodyPostS, results, Try.results44]
theorem catchR_i (p q : Nat) (w : World) :
    CallsD Try.prog 44 #[.pointer (some ⟨p, 0, none⟩), .pointer (some ⟨q, 0, none⟩)] .returning w fun e u' w' => e = .returned (.tuple #[]) ∧ u' = .returning ∧ w' = w := by
  refine callsD_of_wpS Try.func44 rfl fun c₀ cs hu => ?_
  apply wpS_seq
  apply wpS_region
  simp [wpOpsS, go_sem, recoverD, hu, Try.ntmps44, Exit.thenS]
  refine wpS_of_wp ?_
  have ht : (#[Value.pointer (some ⟨p, 0, none⟩), Value.pointer (some ⟨q, 0, none⟩)] ++ ((Array.replicate 3 undef).setIfInBounds 0 .nilIface).setIfInBounds 1 (.bool false) : Array Value) =
      #[.pointer (some ⟨p, 0, none⟩), .pointer (some ⟨q, 0, none⟩), .nilIface, .bool false, undef] := by simp [Array.replicate]
  rw [ht]
  clear ht
  go_wp2_with fail
  cases c₀
  simp_all [bodyPostS, results, Try.results44]
theorem read_q {P : Program} {R : Ending → World → Prop} {u : FrameMode} {w : World} {a : Act} {d : Nat} {v : Value} (hd : 4 ≤ d) (h : Leaves P Try.f16 (a.put (some d) v).tmps R (a.put (some d) v).defers u w) : Leaves P Try.f16 a.tmps R a.defers u w := by
  refine Leaves.congr ?_ h
  have e : ∀ k, k < 4 → (a.tmps.setIfInBounds d v)[k]?.getD undef = a.tmps[k]?.getD undef := fun k hk => by
    rw [Array.getElem?_setIfInBounds_ne (by omega)]
  simp only [results, Try.f16, Act.put]
  simp [e 2 (by omega), e 3 (by omega)]
/-- What Read answers. -/
def readW (l : List Int) : Int × Wd := if 4096 < l.length then (2, Wd.none) else match readP l with
  | none => (1, Wd.none)
  | some X => (0, X)
theorem readW_many {l : List Int} (h : 4096 < l.length) : readW l = (2, Wd.none) := if_pos h
theorem readW_none {l : List Int} (h : ¬ 4096 < l.length) (hw : worldP l = none) : readW l = (1, Wd.none) := by
  unfold readW readP
  rw [if_neg h, hw]
theorem readW_left {l t : List Int} {X : Wd} (h : ¬ 4096 < l.length) (hw : worldP l = some (X, t)) (ht : t ≠ []) : readW l = (1, Wd.none) := by
  unfold readW readP
  rw [if_neg h, hw]
  cases t with
  | nil => exact absurd rfl ht
  | cons a t => rfl
theorem readW_wrong {l : List Int} {X : Wd} (h : ¬ 4096 < l.length) (hw : worldP l = some (X, [])) (he : errX X ≠ 0) : readW l = (1, Wd.none) := by
  unfold readW readP
  rw [if_neg h, hw]
  simp only [if_neg he]
theorem readW_ok {l : List Int} {X : Wd} (h : ¬ 4096 < l.length) (hw : worldP l = some (X, [])) (he : errX X = 0) : readW l = (0, X) := by
  unfold readW readP
  rw [if_neg h, hw]
  simp only [if_pos he]

theorem str_emp (l : List Int) : (strOfNums l).toList.isEmpty = l.isEmpty := by
  rw [ByteArray.toList_eq]
  unfold strOfNums
  cases l <;> rfl
theorem box_cells {w : World} {B Q : Nat} {u v x n : Value} (hB : BlkIs w B 40 3) (hQ : BlkIs w Q 26 1) (h : B ≠ Q) :
    ((((w.setCell ⟨B, 0, none⟩ u).setCell ⟨B, 1, none⟩ v).setCell ⟨B, 2, none⟩ x).setCell ⟨Q, 0, none⟩ n).cell? ⟨B, 0, none⟩ = some u ∧ ((((w.setCell ⟨B, 0, none⟩ u).setCell ⟨B, 1, none⟩ v).setCell ⟨B, 2, none⟩ x).setCell ⟨Q, 0, none⟩ n).cell? ⟨B, 1, none⟩ = some v ∧ ((((w.setCell ⟨B, 0, none⟩ u).setCell ⟨B, 1, none⟩ v).setCell ⟨B, 2, none⟩ x).setCell ⟨Q, 0, none⟩ n).cell? ⟨B, 2, none⟩ = some x ∧ ((((w.setCell ⟨B, 0, none⟩ u).setCell ⟨B, 1, none⟩ v).setCell ⟨B, 2, none⟩ x).setCell ⟨Q, 0, none⟩ n).cell? ⟨Q, 0, none⟩ = some n := by
  have h1 := hB.setCell (a := 0) (u := u)
  have h2 := h1.setCell (a := 1) (u := v)
  have a0 : (((w.setCell ⟨B, 0, none⟩ u).setCell ⟨B, 1, none⟩ v).setCell ⟨B, 2, none⟩ x).cell? ⟨B, 0, none⟩ = some u := (cell_setCell _ (by omega)).trans ((cell_setCell _ (by omega)).trans (hB.cell_set (by omega)))
  have a1 : (((w.setCell ⟨B, 0, none⟩ u).setCell ⟨B, 1, none⟩ v).setCell ⟨B, 2, none⟩ x).cell? ⟨B, 1, none⟩ = some v := (cell_setCell _ (by omega)).trans (h1.cell_set (by omega))
  have a2 : (((w.setCell ⟨B, 0, none⟩ u).setCell ⟨B, 1, none⟩ v).setCell ⟨B, 2, none⟩ x).cell? ⟨B, 2, none⟩ = some x := h2.cell_set (by omega)
  have hq : BlkIs (((w.setCell ⟨B, 0, none⟩ u).setCell ⟨B, 1, none⟩ v).setCell ⟨B, 2, none⟩ x) Q 26 1 := hQ.same (set3_blk (fun e => h e.symm))
  clear h1 h2 hB hQ
  generalize ((w.setCell ⟨B, 0, none⟩ u).setCell ⟨B, 1, none⟩ v).setCell ⟨B, 2, none⟩ x = w3 at *
  have hk : (w3.setCell ⟨Q, 0, none⟩ n).heap[B]? = w3.heap[B]? := Go.Deep.blk_setCell_other _ _ _ _ h
  exact ⟨(World.cell?_of_block (w := w3) (a := ⟨B, 0, none⟩) hk).trans a0, (World.cell?_of_block (w := w3) (a := ⟨B, 1, none⟩) hk).trans a1, (World.cell?_of_block (w := w3) (a := ⟨B, 2, none⟩) hk).trans a2, hq.cell_set (by omega)⟩

set_option maxHeartbeats 4000000 in
theorem Read_c (w : World) (b : ByteArray) : Calls Try.prog 16 #[.string b] w (WPost w (readW (numsOf b))) := by
  obtain ⟨l, hl⟩ : ∃ l, numsOf b = l := ⟨_, rfl⟩
  have hob : octs l := hl ▸ numsOf_octs b
  have hsb : strOfNums l = b := hl ▸ str_nums b
  have hlb : l.length = b.size := hl ▸ numsOf_len b
  rw [hl]
  clear hl
  obtain ⟨r, hr⟩ : ∃ r, readW l = r := ⟨_, rfl⟩
  rw [hr]
  obtain ⟨P, hP⟩ : ∃ P, WPost w r = P := ⟨_, rfl⟩
  rw [hP]
  replace hP := Lib.hid hP
  replace hr := Lib.hid hr
  have hmf : ∀ (fn : Fn) (first cap : Array Value) (w : World), (Instr.makeFunc fn first cap).run Try.prog w = .ok (.func fn first cap) w := fun _ _ _ _ => rfl
  obtain ⟨w1, hw1⟩ : ∃ w1, w1 = w.alloc (.cells #[.slice none 0 0, .slice none 0 0, .slice none 0 0] 40) := ⟨_, rfl⟩
  obtain ⟨w2, hw2⟩ : ∃ w2, w2 = w1.alloc (.cells #[.int .i64 0] 26) := ⟨_, rfl⟩
  have hB1 : OBox w1 w.heap.size 40 (.slice none 0 0) (.slice none 0 0) (.slice none 0 0) := hw1 ▸ OBox.new w _ _ _ _
  have b1 : Below w.heap.size w w1 := hw1 ▸ below_a1 w _
  have b12 : Below w1.heap.size w1 w2 := hw2 ▸ below_a1 w1 _
  have hs1 : w1.heap.size = w.heap.size + 1 := by rw [hw1, World.size_alloc]
  have hs2 : w2.heap.size = w.heap.size + 2 := by rw [hw2, World.size_alloc, hs1]
  have hB := hB1.keep (b12.block _ hB1.lt)
  have hQ : BlkIs w2 (w.heap.size + 1) 26 1 := by
    refine ⟨#[.int .i64 0], ?_, rfl⟩
    rw [hw2, ← hs1]
    exact heap_alloc_new w1 _
  have b2 : Below w.heap.size w w2 := below_trans b1 b12
  have hE := Lib.hid (show w2 = (w.alloc (.cells #[.slice none 0 0, .slice none 0 0, .slice none 0 0] 40)).alloc (.cells #[.int .i64 0] 26) by rw [hw2, hw1])
  clear hw1 hw2 hB1 b1 b12 hs1
  obtain ⟨B, hBe⟩ : ∃ B, w.heap.size = B := ⟨_, rfl⟩
  rw [hBe] at hB hQ b2 hs2
  replace hs2 := Lib.hid hs2
  go_enter_defers Try.func16, Try.ntmps16
  go_upto_region 1 with fail
  rw [← hE.out]
  clear hE
  replace hBe := Lib.hid hBe
  obtain ⟨_, x0, x1, x2⟩ := id hB
  obtain ⟨e0, y0⟩ := hQ.some 0 (by omega)
  have f0 := hB.1.frozen 0
  have f1 := hB.1.frozen 1
  have f2 := hB.1.frozen 2
  have f3 := hQ.frozen 0
  by_cases hbig : 4096 < l.length
  · have q1 : decide ((4096 : Int) < (b.size : Int)) = true := decide_eq_true (by omega)
    have hrr := readW_many hbig
    rw [hr.out] at hrr
    replace hbig := Lib.hid hbig
    replace hrr := Lib.hid hrr
    have hcz := box_cells (u := .slice none 0 0) (v := .slice none 0 0) (x := .slice none 0 0) (n := .int .i64 2) hB.1 hQ (show B ≠ B + 1 by omega)
    have hbz : Below B w ((((w2.setCell ⟨B, 0, none⟩ (.slice none 0 0)).setCell ⟨B, 1, none⟩ (.slice none 0 0)).setCell ⟨B, 2, none⟩ (.slice none 0 0)).setCell ⟨B + 1, 0, none⟩ (.int .i64 2)) := below_setCell (set3_below b2 (Nat.le_refl _)) (Nat.le_succ _) _
    replace hcz := Lib.hid hcz
    go_wp2_with fail
    obtain ⟨c0, c1, c2, c3⟩ := hcz.out
    simp only [bodyPostD, Leaves]
    refine ⟨.tuple #[.agg #[.slice none 0 0, .slice none 0 0, .slice none 0 0], .int .i64 2], ?_, ?_⟩
    · simp [results, Try.f16]
      go_simp
    · rw [← hP.out, hrr.out]
      exact WPost.none (by rw [hBe.out]; exact hbz)
  · have q1 : decide ((4096 : Int) < (b.size : Int)) = false := decide_eq_false (by omega)
    go_upto_region 5 with fail
    obtain ⟨G, hG⟩ : ∃ G, w2.heap.size = G := ⟨_, rfl⟩
    have ba := below_a1 w2 (.cells #[.string b] 93)
    have hGB : BlkIs (w2.alloc (.cells #[.string b] 93)) w2.heap.size 93 1 := ⟨_, heap_alloc_new w2 _, rfl⟩
    have hGc := cells_new w2 #[.string b] 93 0 _ rfl
    have hsA : (w2.alloc (.cells #[.string b] 93)).heap.size = w2.heap.size + 1 := World.size_alloc _ _
    have bb := below_a1 (w2.alloc (.cells #[.string b] 93)) (.cells #[.pointer (some ⟨w2.heap.size, 0, none⟩)] 91)
    have hAc := cells_new (w2.alloc (.cells #[.string b] 93)) #[.pointer (some ⟨w2.heap.size, 0, none⟩)] 91 0 _ rfl
    have h4 : Glass ((w2.alloc (.cells #[.string b] 93)).alloc (.cells #[.pointer (some ⟨w2.heap.size, 0, none⟩)] 91)) w2.heap.size l :=
      ⟨hob, hGB.same (bb.block _ hGB.lt), (World.cell?_of_block (bb.block w2.heap.size hGB.lt)).trans (by rw [hsb]; exact hGc)⟩
    have hB4 := (hB.keep (ba.block _ hB.lt)).keep (bb.block _ (by have := hB.lt; omega))
    have hQ4 := (hQ.same (ba.block _ hQ.lt)).same (bb.block _ (by have := hQ.lt; omega))
    have b4 := b2.trans ((ba.mono (by have := hs2.out; omega)).trans (bb.mono (by have := hs2.out; omega)))
    rw [hsA] at hAc
    simp only [Addr.add, Nat.add_zero] at hAc
    clear hGB hGc ba hsA bb
    generalize (w2.alloc (.cells #[.string b] 93)).alloc (.cells #[.pointer (some ⟨w2.heap.size, 0, none⟩)] 91) = w4 at *
    simp only [hG] at h4 hAc ⊢
    have hGn : G = B + 2 := by rw [← hG]; exact hs2.out
    clear hG
    have hBG : B + 1 < G := by omega
    replace hGn := Lib.hid hGn
    obtain ⟨A, hAe⟩ : ∃ A, G + 1 = A := ⟨_, rfl⟩
    rw [hAe] at hAc
    simp only [hAe] at ⊢
    have hAG : A ≠ G := by omega
    have hBA : B + 1 < A := by omega
    replace hAe := Lib.hid hAe
    have hA4 := hAc
    clear hAc
    have hSB : ∀ o : World, o.heap[A]? = w4.heap[A]? → o.cell? ⟨A, 0, none⟩ = some (.pointer (some ⟨G, 0, none⟩)) ∧ True := fun o k => ⟨(World.cell?_of_block (w := w4) (a := ⟨A, 0, none⟩) k).trans hA4, trivial⟩
    have hC1 := small_c (h4.below (below_drewN w4 1))
    refine wp_region_N (fun o => o.cell? ⟨A, 0, none⟩ = some (.pointer (some ⟨G, 0, none⟩)) ∧ True) 4 7 rfl (by kernel_rfl) (hSB _ ((below_drewN w4 1).block A (cell_lt hA4))) (fun hSw => ?_)
    refine tk 0 ?_ rfl rfl (by kernel_rfl) (.inl ⟨by rfl, ?_⟩) hSw ?_ (hQ := fun _ _ _ h => read_q (by omega) h)
    rotate_left
    · rintro w ⟨s0, _⟩; go_simp; try with_reducible rfl
    simp only [tkp, tkz, tks]
    refine tk 2 ?_ rfl rfl (by kernel_rfl) (.inl ⟨by rfl, ?_⟩) hSw ?_ (hQ := fun _ _ _ h => read_q (by omega) h)
    rotate_left
    · rintro w ⟨s0, _⟩; go_simp; try with_reducible rfl
    simp only [tkp, tkz, tks]
    refine tk 3 ?_ rfl rfl (by kernel_rfl) (.inl ⟨by rfl, ?_⟩) hSw ?_ (hQ := fun _ _ _ h => read_q (by omega) h)
    rotate_left
    · rintro w ⟨s0, _⟩; go_simp; try with_reducible rfl
    simp only [tkp, tkz, tks]
    refine N_one' (i := 1) (by kernel_rfl) rfl ?_
    go_wp2_with fail
    refine hC1.mono ?_
    clear hC1
    rintro e w5 ⟨s5, hr5⟩
    have s9 := Save.pre (below_drewN w4 1) s5 h4.lt
    have hB5 := hB4.keep (s9.block B hB4.lt (by omega))
    have hQ5 := hQ4.same (s9.block (B + 1) hQ4.lt (by omega))
    have hA5 := (World.cell?_of_block (w := w4) (a := ⟨A, 0, none⟩) (s9.block A (cell_lt hA4) hAG)).trans hA4
    have b5 := b4.trans (s9.below (B := B) (fun b e => by omega) (by have := hB4.lt; omega))
    have s45 := s9.block A (cell_lt hA4) hAG
    rcases hr5 with ⟨q9, rfl⟩ | ⟨n, l1, v9, q9, rfl, ⟨rfl, hn⟩, h5⟩
    · skip
      have hcz := box_cells (u := .slice none 0 0) (v := .slice none 0 0) (x := .slice none 0 0) (n := .int .i64 1) hB5.1 hQ5 (show B ≠ B + 1 by omega)
      have hbz : Below B w (((((w5).setCell ⟨B, 0, none⟩ (.slice none 0 0)).setCell ⟨B, 1, none⟩ (.slice none 0 0)).setCell ⟨B, 2, none⟩ (.slice none 0 0)).setCell ⟨B + 1, 0, none⟩ (.int .i64 1)) := below_setCell (set3_below b5 (Nat.le_refl _)) (Nat.le_succ _) _
      have hrz := (readW_none hbig (by unfold worldP; exact bindR_none q9))
      rw [hr.out] at hrz
      replace hrz := Lib.hid hrz
      replace hcz := Lib.hid hcz
      go_wp2_with fail
      refine leaves_cons (f := 44) (args := #[.pointer (some ⟨B, 0, none⟩), .pointer (some ⟨B + 1, 0, none⟩)]) (by simp) (by simp [go_sem]) ?_
      refine (catchR_p B (B + 1) [] _ hB5.1 hQ5 (by omega)).mono ?_
      rintro e u' w'' ⟨rfl, rfl, rfl⟩
      obtain ⟨c0, c1, c2, c3⟩ := hcz.out
      simp only [Leaves, settle, List.dropWhile]
      refine ⟨.tuple #[.agg #[.slice none 0 0, .slice none 0 0, .slice none 0 0], .int .i64 1], ?_, ?_⟩
      · simp [results, Try.f16]
        go_simp
      · rw [← hP.out, hrz.out]
        exact WPost.none (by rw [hBe.out]; exact hbz)
    obtain ⟨k, rfl⟩ := Int.eq_ofNat_of_zero_le hn.1
    have hL := list_int_c h5 (n := k) (by omega) (small_one w5 G)
    have hwp := bindR_some (f := fun g => bindR (manyP smallP g.toNat) fun gs => bindR smallP fun k => bindR (manyP (nodeP gs.length k.toNat) k.toNat) fun ns => bindR (manyP (manyP msgsP k.toNat) k.toNat) fun ws => pureR (Wd.mk gs ns ws)) q9
    change worldP l = _ at hwp
    rw [Int.toNat_natCast] at hwp
    clear q9 s5 s9 h4
    replace hwp := Lib.hid hwp
    have hSw := hSB w5 (s45)
    go_wp2_with fail
    refine QK_normal ⟨?_, ?_⟩
    · first | exact fun _ => hSw | exact hSw
    refine N_rest 4 3 (Nat.le_refl _) rfl (by kernel_rfl) ?_
    simp only [List.drop_succ_cons, List.drop_zero]
    clear hSw hSB
    go_wp2_with fail
    refine hL.mono ?_
    clear hL
    rintro e w6 ⟨s9, hr6⟩
    have hB6 := hB5.keep (s9.block B hB5.lt (by omega))
    have hQ6 := hQ5.same (s9.block (B + 1) hQ5.lt (by omega))
    have hA6 := (World.cell?_of_block (w := w5) (a := ⟨A, 0, none⟩) (s9.block A (cell_lt hA5) hAG)).trans hA5
    have b6 := b5.trans (s9.below (B := B) (fun b e => by omega) (by have := hB5.lt; omega))
    rcases hr6 with ⟨q9, rfl⟩ | ⟨gs, l2, v9, q9, rfl, ⟨S1, hO1, hS1⟩, h6⟩
    · skip
      have hcz := box_cells (u := .slice none 0 0) (v := .slice none 0 0) (x := .slice none 0 0) (n := .int .i64 1) hB6.1 hQ6 (show B ≠ B + 1 by omega)
      have hbz : Below B w (((((w6).setCell ⟨B, 0, none⟩ (.slice none 0 0)).setCell ⟨B, 1, none⟩ (.slice none 0 0)).setCell ⟨B, 2, none⟩ (.slice none 0 0)).setCell ⟨B + 1, 0, none⟩ (.int .i64 1)) := below_setCell (set3_below b6 (Nat.le_refl _)) (Nat.le_succ _) _
      have hrz := (readW_none hbig (by rw [hwp.out]; exact bindR_none q9))
      rw [hr.out] at hrz
      replace hrz := Lib.hid hrz
      replace hcz := Lib.hid hcz
      go_wp2_with fail
      refine leaves_cons (f := 44) (args := #[.pointer (some ⟨B, 0, none⟩), .pointer (some ⟨B + 1, 0, none⟩)]) (by simp) (by simp [go_sem]) ?_
      refine (catchR_p B (B + 1) [] _ hB6.1 hQ6 (by omega)).mono ?_
      rintro e u' w'' ⟨rfl, rfl, rfl⟩
      obtain ⟨c0, c1, c2, c3⟩ := hcz.out
      simp only [Leaves, settle, List.dropWhile]
      refine ⟨.tuple #[.agg #[.slice none 0 0, .slice none 0 0, .slice none 0 0], .int .i64 1], ?_, ?_⟩
      · simp [results, Try.f16]
        go_simp
      · rw [← hP.out, hrz.out]
        exact WPost.none (by rw [hBe.out]; exact hbz)
    have hgl := Lib.hid (manyP_len q9)
    have hw9 := hwp.out
    rw [bindR_some q9] at hw9
    clear hwp
    have hwp := Lib.hid hw9
    clear hw9 q9
    obtain ⟨ga, gc, rfl, _, _⟩ := OSl.form hO1
    have hs56 := s9.size
    obtain ⟨_, x0, x1, x2⟩ := id hB6
    have f0 := hB6.1.frozen 0
    have hj7 : ∀ b, b ≠ B → (w6.setCell ⟨B, 0, none⟩ (.slice ga gs.length gc)).heap[b]? = w6.heap[b]? := fun b hc => Go.Deep.blk_setCell_other _ _ _ _ hc
    have hy7 : w6.heap.size ≤ (w6.setCell ⟨B, 0, none⟩ (.slice ga gs.length gc)).heap.size := by rw [Go.Deep.nblk_setCell]; exact Nat.le_refl _
    have hz7 : (w6.setCell ⟨B, 0, none⟩ (.slice ga gs.length gc)).heap.size ≤ w6.heap.size := by rw [Go.Deep.nblk_setCell]; exact Nat.le_refl _
    have hB7 := hB6.set0 (.slice ga gs.length gc)
    have hQ7 := hQ6.same (hj7 (B + 1) (by omega))
    have hA7 := (World.cell?_of_block (w := w6) (a := ⟨A, 0, none⟩) (hj7 A (by omega))).trans hA6
    have b7 : Below B w (w6.setCell ⟨B, 0, none⟩ (.slice ga gs.length gc)) := below_setCell b6 (Nat.le_refl _) _
    have h7 := h6.keep (hj7 G (by omega))
    clear s9
    go_upto_region 6 with fail
    generalize w6.setCell ⟨B, 0, none⟩ (.slice ga gs.length gc) = w7 at *
    have hO1 := OSl.keep IntEl.stays hO1 (w' := w7) (fun b hb => hj7 b (by have := (hS1 b hb).1; have := hB5.lt; omega))
    have hb5 := hB5.lt
    have hg5 := h5.lt
    clear x0 x1 x2 f0 hB4 hQ4 hA4 b4 hB5 hQ5 hA5 b5 h5 hB6 hQ6 hA6 b6 h6
    have hC1 := small_c h7
    go_wp2_with fail
    refine hC1.mono ?_
    clear hC1
    rintro e w8 ⟨s9, hr8⟩
    have hB8 := hB7.keep (s9.block B hB7.lt (by omega))
    have hQ8 := hQ7.same (s9.block (B + 1) hQ7.lt (by omega))
    have hA8 := (World.cell?_of_block (w := w7) (a := ⟨A, 0, none⟩) (s9.block A (cell_lt hA7) hAG)).trans hA7
    have b8 := b7.trans (s9.below (B := B) (fun b e => by omega) (by have := hB7.lt; omega))
    rcases hr8 with ⟨q9, rfl⟩ | ⟨n2, l3, v9, q9, rfl, ⟨rfl, hn2⟩, h8⟩
    · skip
      have hcz := box_cells (u := .slice none 0 0) (v := .slice none 0 0) (x := .slice none 0 0) (n := .int .i64 1) hB8.1 hQ8 (show B ≠ B + 1 by omega)
      have hbz : Below B w (((((w8).setCell ⟨B, 0, none⟩ (.slice none 0 0)).setCell ⟨B, 1, none⟩ (.slice none 0 0)).setCell ⟨B, 2, none⟩ (.slice none 0 0)).setCell ⟨B + 1, 0, none⟩ (.int .i64 1)) := below_setCell (set3_below b8 (Nat.le_refl _)) (Nat.le_succ _) _
      have hrz := (readW_none hbig (by rw [hwp.out]; exact bindR_none q9))
      rw [hr.out] at hrz
      replace hrz := Lib.hid hrz
      replace hcz := Lib.hid hcz
      go_wp2_with fail
      refine leaves_cons (f := 44) (args := #[.pointer (some ⟨B, 0, none⟩), .pointer (some ⟨B + 1, 0, none⟩)]) (by simp) (by simp [go_sem]) ?_
      refine (catchR_p B (B + 1) [] _ hB8.1 hQ8 (by omega)).mono ?_
      rintro e u' w'' ⟨rfl, rfl, rfl⟩
      obtain ⟨c0, c1, c2, c3⟩ := hcz.out
      simp only [Leaves, settle, List.dropWhile]
      refine ⟨.tuple #[.agg #[.slice none 0 0, .slice none 0 0, .slice none 0 0], .int .i64 1], ?_, ?_⟩
      · simp [results, Try.f16]
        go_simp
      · rw [← hP.out, hrz.out]
        exact WPost.none (by rw [hBe.out]; exact hbz)
    have hw9 := hwp.out
    rw [bindR_some q9] at hw9
    clear hwp
    have hwp := Lib.hid hw9
    clear hw9 q9
    obtain ⟨k2, rfl⟩ := Int.eq_ofNat_of_zero_le hn2.1
    rw [Int.toNat_natCast] at hwp
    have hs78 := s9.size
    have hO1 := OSl.keep IntEl.stays hO1 (w' := w8) (fun b hb => s9.block b (by have := (hS1 b hb).2; omega) (by have := (hS1 b hb).1; omega))
    have bk := below_a1 w8 (.cells #[.int .i64 k2] 3)
    have hKc := cells_new w8 #[.int .i64 k2] 3 0 _ rfl
    have hB9 := hB8.keep (bk.block B hB8.lt)
    have hQ9 := hQ8.same (bk.block (B + 1) hQ8.lt)
    have hA9 := (bk.cell (cell_lt hA8)).trans hA8
    have b9 := b8.trans (bk.mono (by have := hB8.lt; omega))
    have h9 := h8.below bk
    have hO1 := OSl.keep IntEl.stays hO1 (w' := w8.alloc (.cells #[.int .i64 k2] 3)) (fun b hb => bk.block b (by have := (hS1 b hb).2; omega))
    have hgl8 := h8.lt
    have hbl8 := hB8.lt
    have hal8 := cell_lt hA8
    have hsk := bk.size
    go_upto_region 7 with fail
    generalize w8.alloc (.cells #[.int .i64 k2] 3) = w9 at *
    obtain ⟨K, hKe⟩ : ∃ K, w8.heap.size = K := ⟨_, rfl⟩
    replace hKc : w9.cell? ⟨w8.heap.size, 0, none⟩ = some (.int .i64 k2) := hKc
    simp only [hKe] at hKc hgl8 hbl8 hal8 hs78 hsk ⊢
    have hKl := cell_lt hKc
    have hKG : K ≠ G := by omega
    have hBG' : B ≠ G := by omega
    clear hKe bk s9 hA8 hB8 hQ8 b8 h8 hA7 hB7 hQ7 b7 h7
    have hL := list_node_c h9 (n := k2) (by omega) (node_one (gn := gs.length) (by omega) (by have := hgl.out; omega) hKc hA9 hB9.2.1 hKG hAG hBG')
    obtain ⟨_, x0, _, _⟩ := id hB9
    go_wp2_with fail
    refine hL.mono ?_
    clear hL
    rintro e w10 ⟨s9, hr10⟩
    have hB10 := hB9.keep (s9.block B hB9.lt (by omega))
    have hQ10 := hQ9.same (s9.block (B + 1) hQ9.lt (by omega))
    have hA10 := (World.cell?_of_block (w := w9) (a := ⟨A, 0, none⟩) (s9.block A (cell_lt hA9) hAG)).trans hA9
    have b10 := b9.trans (s9.below (B := B) (fun b e => by omega) (by have := hB9.lt; omega))
    rcases hr10 with ⟨q9, rfl⟩ | ⟨ns, l4, v9, q9, rfl, ⟨S2, hO2, hS2⟩, h10⟩
    · skip
      have hcz := box_cells (u := .slice none 0 0) (v := .slice none 0 0) (x := .slice none 0 0) (n := .int .i64 1) hB10.1 hQ10 (show B ≠ B + 1 by omega)
      have hbz : Below B w (((((w10).setCell ⟨B, 0, none⟩ (.slice none 0 0)).setCell ⟨B, 1, none⟩ (.slice none 0 0)).setCell ⟨B, 2, none⟩ (.slice none 0 0)).setCell ⟨B + 1, 0, none⟩ (.int .i64 1)) := below_setCell (set3_below b10 (Nat.le_refl _)) (Nat.le_succ _) _
      have hrz := (readW_none hbig (by rw [hwp.out]; exact bindR_none q9))
      rw [hr.out] at hrz
      replace hrz := Lib.hid hrz
      replace hcz := Lib.hid hcz
      go_wp2_with fail
      refine leaves_cons (f := 44) (args := #[.pointer (some ⟨B, 0, none⟩), .pointer (some ⟨B + 1, 0, none⟩)]) (by simp) (by simp [go_sem]) ?_
      refine (catchR_p B (B + 1) [] _ hB10.1 hQ10 (by omega)).mono ?_
      rintro e u' w'' ⟨rfl, rfl, rfl⟩
      obtain ⟨c0, c1, c2, c3⟩ := hcz.out
      simp only [Leaves, settle, List.dropWhile]
      refine ⟨.tuple #[.agg #[.slice none 0 0, .slice none 0 0, .slice none 0 0], .int .i64 1], ?_, ?_⟩
      · simp [results, Try.f16]
        go_simp
      · rw [← hP.out, hrz.out]
        exact WPost.none (by rw [hBe.out]; exact hbz)
    clear x0
    have hnl := Lib.hid (manyP_len q9)
    have hw9 := hwp.out
    rw [bindR_some q9] at hw9
    clear hwp
    have hwp := Lib.hid hw9
    clear hw9 q9
    obtain ⟨na, nc, rfl, _, _⟩ := OSl.form hO2
    have hs910 := s9.size
    have hO1 := OSl.keep IntEl.stays hO1 (w' := w10) (fun b hb => s9.block b (by have := (hS1 b hb).2; omega) (by have := (hS1 b hb).1; omega))
    have hK10 := (World.cell?_of_block (w := w9) (a := ⟨K, 0, none⟩) (s9.block K hKl hKG)).trans hKc
    obtain ⟨_, x0, x1, x2⟩ := id hB10
    have f1 := hB10.1.frozen 1
    have hj11 : ∀ b, b ≠ B → (w10.setCell ⟨B, 1, none⟩ (.slice na ns.length nc)).heap[b]? = w10.heap[b]? := fun b hc => Go.Deep.blk_setCell_other _ _ _ _ hc
    have hy11 : w10.heap.size ≤ (w10.setCell ⟨B, 1, none⟩ (.slice na ns.length nc)).heap.size := by rw [Go.Deep.nblk_setCell]; exact Nat.le_refl _
    have hz11 : (w10.setCell ⟨B, 1, none⟩ (.slice na ns.length nc)).heap.size ≤ w10.heap.size := by rw [Go.Deep.nblk_setCell]; exact Nat.le_refl _
    have hB11 := hB10.set1 (.slice na ns.length nc)
    have hQ11 := hQ10.same (hj11 (B + 1) (by omega))
    have hA11 := (World.cell?_of_block (w := w10) (a := ⟨A, 0, none⟩) (hj11 A (by omega))).trans hA10
    have b11 : Below B w (w10.setCell ⟨B, 1, none⟩ (.slice na ns.length nc)) := below_setCell b10 (Nat.le_refl _) _
    have h11 := h10.keep (hj11 G (by omega))
    have hK11 := (World.cell?_of_block (w := w10) (a := ⟨K, 0, none⟩) (hj11 K (by omega))).trans hK10
    clear s9
    go_upto_region 8 with fail
    generalize w10.setCell ⟨B, 1, none⟩ (.slice na ns.length nc) = w11 at *
    have hO1 := OSl.keep IntEl.stays hO1 (w' := w11) (fun b hb => hj11 b (by have := (hS1 b hb).1; omega))
    have hO2 := OSl.keep ONodeEl.stays hO2 (w' := w11) (fun b hb => hj11 b (by have := (hS2 b hb).1; omega))
    have hg10 := h10.lt
    clear x0 x1 x2 f1 hB9 hQ9 hA9 b9 h9 hB10 hQ10 hA10 b10 h10 hK10 hKc
    have hL := list_rows_c h11 (n := k2) (by omega) (row54_one (by omega) hK11 hA11 hKG hAG)
    go_wp2_with fail
    refine hL.mono ?_
    clear hL
    rintro e w12 ⟨s9, hr12⟩
    have hB12 := hB11.keep (s9.block B hB11.lt (by omega))
    have hQ12 := hQ11.same (s9.block (B + 1) hQ11.lt (by omega))
    have hA12 := (World.cell?_of_block (w := w11) (a := ⟨A, 0, none⟩) (s9.block A (cell_lt hA11) hAG)).trans hA11
    have b12 := b11.trans (s9.below (B := B) (fun b e => by omega) (by have := hB11.lt; omega))
    rcases hr12 with ⟨q9, rfl⟩ | ⟨ws, l5, v9, q9, rfl, ⟨S3, hO3, hS3⟩, h12⟩
    · skip
      have hcz := box_cells (u := .slice none 0 0) (v := .slice none 0 0) (x := .slice none 0 0) (n := .int .i64 1) hB12.1 hQ12 (show B ≠ B + 1 by omega)
      have hbz : Below B w (((((w12).setCell ⟨B, 0, none⟩ (.slice none 0 0)).setCell ⟨B, 1, none⟩ (.slice none 0 0)).setCell ⟨B, 2, none⟩ (.slice none 0 0)).setCell ⟨B + 1, 0, none⟩ (.int .i64 1)) := below_setCell (set3_below b12 (Nat.le_refl _)) (Nat.le_succ _) _
      have hrz := (readW_none hbig (by rw [hwp.out]; exact bindR_none q9))
      rw [hr.out] at hrz
      replace hrz := Lib.hid hrz
      replace hcz := Lib.hid hcz
      go_wp2_with fail
      refine leaves_cons (f := 44) (args := #[.pointer (some ⟨B, 0, none⟩), .pointer (some ⟨B + 1, 0, none⟩)]) (by simp) (by simp [go_sem]) ?_
      refine (catchR_p B (B + 1) [] _ hB12.1 hQ12 (by omega)).mono ?_
      rintro e u' w'' ⟨rfl, rfl, rfl⟩
      obtain ⟨c0, c1, c2, c3⟩ := hcz.out
      simp only [Leaves, settle, List.dropWhile]
      refine ⟨.tuple #[.agg #[.slice none 0 0, .slice none 0 0, .slice none 0 0], .int .i64 1], ?_, ?_⟩
      · simp [results, Try.f16]
        go_simp
      · rw [← hP.out, hrz.out]
        exact WPost.none (by rw [hBe.out]; exact hbz)
    have hw9 := hwp.out
    rw [bindR_some q9] at hw9
    clear hwp
    have hwp := Lib.hid hw9
    clear hw9 q9
    change Hid (worldP l = some (Wd.mk gs ns ws, l5)) at hwp
    obtain ⟨va, vc, rfl, _, _⟩ := OSl.form hO3
    have hs1112 := s9.size
    have hO1 := OSl.keep IntEl.stays hO1 (w' := w12) (fun b hb => s9.block b (by have := (hS1 b hb).2; omega) (by have := (hS1 b hb).1; omega))
    have hO2 := OSl.keep ONodeEl.stays hO2 (w' := w12) (fun b hb => s9.block b (by have := (hS2 b hb).2; omega) (by have := (hS2 b hb).1; omega))
    obtain ⟨_, x0, x1, x2⟩ := id hB12
    have f2 := hB12.1.frozen 2
    have hj13 : ∀ b, b ≠ B → (w12.setCell ⟨B, 2, none⟩ (.slice va ws.length vc)).heap[b]? = w12.heap[b]? := fun b hc => Go.Deep.blk_setCell_other _ _ _ _ hc
    have hy13 : w12.heap.size ≤ (w12.setCell ⟨B, 2, none⟩ (.slice va ws.length vc)).heap.size := by rw [Go.Deep.nblk_setCell]; exact Nat.le_refl _
    have hz13 : (w12.setCell ⟨B, 2, none⟩ (.slice va ws.length vc)).heap.size ≤ w12.heap.size := by rw [Go.Deep.nblk_setCell]; exact Nat.le_refl _
    have hB13 := hB12.set2 (.slice va ws.length vc)
    have hQ13 := hQ12.same (hj13 (B + 1) (by omega))
    have hA13 := (World.cell?_of_block (w := w12) (a := ⟨A, 0, none⟩) (hj13 A (by omega))).trans hA12
    have b13 : Below B w (w12.setCell ⟨B, 2, none⟩ (.slice va ws.length vc)) := below_setCell b12 (Nat.le_refl _) _
    have h13 := h12.keep (hj13 G (by omega))
    clear s9
    go_upto_region 9 with fail
    generalize w12.setCell ⟨B, 2, none⟩ (.slice va ws.length vc) = w13 at *
    have hO1 := OSl.keep IntEl.stays hO1 (w' := w13) (fun b hb => hj13 b (by have := (hS1 b hb).1; omega))
    have hO2 := OSl.keep ONodeEl.stays hO2 (w' := w13) (fun b hb => hj13 b (by have := (hS2 b hb).1; omega))
    have hO3 := OSl.keep (OMsgRowsEl.stays true) hO3 (w' := w13) (fun b hb => hj13 b (by have := (hS3 b hb).1; omega))
    clear x0 x1 x2 f2 hB11 hQ11 hA11 b11 h11 hB12 hQ12 hA12 b12 h12
    have hOW : OWd true w13 (fun b => S1 b ∨ S2 b ∨ S3 b) (.slice ga gs.length gc) (.slice na ns.length nc) (.slice va ws.length vc) ⟨gs, ns, ws⟩ :=
      ⟨S1, S2, S3, hO1, hO2, hO3, fun _ h => Or.inl h, fun _ h => Or.inr (Or.inl h), fun _ h => Or.inr (Or.inr h), fun b h1 h2 => by have := hS1 b h1; have := hS2 b h2; omega, fun b h1 h2 => by have := hS1 b h1; have := hS3 b h2; omega, fun b h1 h2 => by have := hS2 b h1; have := hS3 b h2; omega⟩
    have hSb : ∀ b, (S1 b ∨ S2 b ∨ S3 b) → B + 1 < b ∧ b < w13.heap.size := fun b hb => by
      rcases hb with hb | hb | hb
      · have := hS1 b hb; omega
      · have := hS2 b hb; omega
      · have := hS3 b hb; omega
    have hg13 := h13.2.2
    obtain ⟨_, x0, x1, x2⟩ := id hB13
    have hemp := str_emp l5
    by_cases hl5 : l5 = []
    rotate_left
    · have he : (strOfNums l5).toList.isEmpty = false := by
        rw [hemp]
        cases l5 with
        | nil => exact absurd rfl hl5
        | cons => rfl
      clear hemp
      have hcz := box_cells (u := .slice none 0 0) (v := .slice none 0 0) (x := .slice none 0 0) (n := .int .i64 1) hB13.1 hQ13 (show B ≠ B + 1 by omega)
      have hbz : Below B w (((((w13).setCell ⟨B, 0, none⟩ (.slice none 0 0)).setCell ⟨B, 1, none⟩ (.slice none 0 0)).setCell ⟨B, 2, none⟩ (.slice none 0 0)).setCell ⟨B + 1, 0, none⟩ (.int .i64 1)) := below_setCell (set3_below b13 (Nat.le_refl _)) (Nat.le_succ _) _
      have hrz := (readW_left hbig hwp.out hl5)
      rw [hr.out] at hrz
      replace hrz := Lib.hid hrz
      replace hcz := Lib.hid hcz
      go_wp2_with fail
      refine leaves_cons (f := 44) (args := #[.pointer (some ⟨B, 0, none⟩), .pointer (some ⟨B + 1, 0, none⟩)]) (by simp) (by simp [go_sem]) ?_
      refine (catchR_p B (B + 1) [] _ hB13.1 hQ13 (by omega)).mono ?_
      rintro e u' w'' ⟨rfl, rfl, rfl⟩
      obtain ⟨c0, c1, c2, c3⟩ := hcz.out
      simp only [Leaves, settle, List.dropWhile]
      refine ⟨.tuple #[.agg #[.slice none 0 0, .slice none 0 0, .slice none 0 0], .int .i64 1], ?_, ?_⟩
      · simp [results, Try.f16]
        go_simp
      · rw [← hP.out, hrz.out]
        exact WPost.none (by rw [hBe.out]; exact hbz)
    have he : (strOfNums l5).toList.isEmpty = true := by rw [hemp, hl5]; rfl
    rw [hl5] at hwp
    clear hemp
    replace hl5 := Lib.hid hl5
    have hCk := WCheck_c hOW.world
    obtain ⟨e0, he0⟩ : ∃ e, errX ⟨gs, ns, ws⟩ = e := ⟨_, rfl⟩
    rw [he0] at hCk
    replace he0 := Lib.hid he0
    go_wp2_with fail
    refine hCk.mono ?_
    clear hCk
    rintro e w14 ⟨rfl, bC⟩
    have hB14 := hB13.keep (bC.block B hB13.lt)
    have hQ14 := hQ13.same (bC.block (B + 1) hQ13.lt)
    have b14 := b13.trans (bC.mono (by have := hB13.lt; omega))
    have hOW := OWd.any (hOW.keep (fun b hb => bC.block b (hSb b hb).2))
    have hSb : ∀ b, (S1 b ∨ S2 b ∨ S3 b) → B + 1 < b ∧ b < w14.heap.size := fun b hb => ⟨(hSb b hb).1, Nat.lt_of_lt_of_le (hSb b hb).2 bC.size⟩
    clear x0 x1 x2 hB13 hQ13 b13 hg13 h13 bC hO1 hO2 hO3
    by_cases hX : e0 = 0
    rotate_left
    · have q0 : (e0 != 0) = true := by simpa using hX
      have hX' := Lib.hid hX
      clear hX
      have hcz := box_cells (u := .slice none 0 0) (v := .slice none 0 0) (x := .slice none 0 0) (n := .int .i64 1) hB14.1 hQ14 (show B ≠ B + 1 by omega)
      have hbz : Below B w (((((w14).setCell ⟨B, 0, none⟩ (.slice none 0 0)).setCell ⟨B, 1, none⟩ (.slice none 0 0)).setCell ⟨B, 2, none⟩ (.slice none 0 0)).setCell ⟨B + 1, 0, none⟩ (.int .i64 1)) := below_setCell (set3_below b14 (Nat.le_refl _)) (Nat.le_succ _) _
      have hrz := (readW_wrong hbig hwp.out (by rw [he0.out]; exact hX'.out))
      rw [hr.out] at hrz
      replace hrz := Lib.hid hrz
      replace hcz := Lib.hid hcz
      go_wp2_with fail
      refine leaves_cons (f := 44) (args := #[.pointer (some ⟨B, 0, none⟩), .pointer (some ⟨B + 1, 0, none⟩)]) (by simp) (by simp [go_sem]) ?_
      refine (catchR_p B (B + 1) [] _ hB14.1 hQ14 (by omega)).mono ?_
      rintro e u' w'' ⟨rfl, rfl, rfl⟩
      obtain ⟨c0, c1, c2, c3⟩ := hcz.out
      simp only [Leaves, settle, List.dropWhile]
      refine ⟨.tuple #[.agg #[.slice none 0 0, .slice none 0 0, .slice none 0 0], .int .i64 1], ?_, ?_⟩
      · simp [results, Try.f16]
        go_simp
      · rw [← hP.out, hrz.out]
        exact WPost.none (by rw [hBe.out]; exact hbz)
    have q0 : (e0 != 0) = false := by simpa using hX
    replace hX := Lib.hid hX
    obtain ⟨_, x0, x1, x2⟩ := id hB14
    have f0 := hB14.1.frozen 0
    have f1 := hB14.1.frozen 1
    have f2 := hB14.1.frozen 2
    have f3 := hQ14.frozen 0
    obtain ⟨u3, y3⟩ := hQ14.some 0 (by omega)
    have hcz := box_cells (u := .slice ga gs.length gc) (v := .slice na ns.length nc) (x := .slice va ws.length vc) (n := .int .i64 0) hB14.1 hQ14 (show B ≠ B + 1 by omega)
    have hbz : Below B w ((((w14.setCell ⟨B, 0, none⟩ (.slice ga gs.length gc)).setCell ⟨B, 1, none⟩ (.slice na ns.length nc)).setCell ⟨B, 2, none⟩ (.slice va ws.length vc)).setCell ⟨B + 1, 0, none⟩ (.int .i64 0)) := below_setCell (set3_below b14 (Nat.le_refl _)) (Nat.le_succ _) _
    have hOF : OWd false ((((w14.setCell ⟨B, 0, none⟩ (.slice ga gs.length gc)).setCell ⟨B, 1, none⟩ (.slice na ns.length nc)).setCell ⟨B, 2, none⟩ (.slice va ws.length vc)).setCell ⟨B + 1, 0, none⟩ (.int .i64 0)) _ _ _ _ _ := hOW.keep (fun b hb => (Go.Deep.blk_setCell_other _ _ _ _ (by have := (hSb b hb).1; show b ≠ B + 1; omega)).trans (set3_blk (by have := (hSb b hb).1; omega)))
    have hsz : w14.heap.size ≤ ((((w14.setCell ⟨B, 0, none⟩ (.slice ga gs.length gc)).setCell ⟨B, 1, none⟩ (.slice na ns.length nc)).setCell ⟨B, 2, none⟩ (.slice va ws.length vc)).setCell ⟨B + 1, 0, none⟩ (.int .i64 0)).heap.size := by
      rw [Go.Deep.nblk_setCell, set3_size]
      exact Nat.le_refl _
    have hrz := readW_ok hbig hwp.out (by rw [he0.out]; exact hX.out)
    rw [hr.out] at hrz
    replace hrz := Lib.hid hrz
    replace hcz := Lib.hid hcz
    replace hOF := Lib.hid hOF
    replace hsz := Lib.hid hsz
    replace hbz := Lib.hid hbz
    go_wp2_with fail
    refine leaves_cons (f := 44) (args := #[.pointer (some ⟨B, 0, none⟩), .pointer (some ⟨B + 1, 0, none⟩)]) (by simp) (by simp [go_sem]) ?_
    refine (catchR_i B (B + 1) _).mono ?_
    rintro e u' w'' ⟨rfl, rfl, rfl⟩
    obtain ⟨c0, c1, c2, c3⟩ := hcz.out
    simp only [Leaves, settle]
    refine ⟨.tuple #[.agg #[.slice ga gs.length gc, .slice na ns.length nc, .slice va ws.length vc], .int .i64 0], ?_, ?_⟩
    · simp [results, Try.f16]
      go_simp
    · rw [← hP.out, hrz.out]
      exact ⟨_, _, _, _, rfl, hOF.out, fun b hb => ⟨by have := (hSb b hb).1; have := hBe.out; omega, Nat.lt_of_lt_of_le (hSb b hb).2 hsz.out⟩, by rw [hBe.out]; exact hbz.out⟩
end Go.Proofs.Ytnalakhelicjcaa
