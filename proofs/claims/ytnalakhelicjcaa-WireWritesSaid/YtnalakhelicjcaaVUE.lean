/-
  The document's bytes: three of a number, messages.
-/
import Derived.Test.YtnalakhelicjcaaVUD
import Derived.Test.YtnalakhelicjcaaVUx
set_option maxRecDepth 100000
namespace Go.Proofs.Ytnalakhelicjcaa
open Go.RowKit Go.Shelf Go.BigFrame Go.Deep

/-- Bytes in a row of one's own. -/
def BytAt (B : Nat) (w : World) (v : Value) (bs : List Int) : Prop := w.ownsRow B 5 1 v bs.length (bs.map (Value.int .u8))
theorem BytAt.keep {B : Nat} {w w' : World} {v : Value} {bs : List Int} (h : BytAt B w v bs) (k : ∀ b, v.ownBlock = some b → w'.heap[b]? = w.heap[b]?) : BytAt B w' v bs := by
  obtain ⟨e, h | ⟨g, cap, cur, e1, e2, e3, e4⟩⟩ := h
  · exact ⟨e, .inl h⟩
  · exact ⟨e, .inr ⟨g, cap, cur, e1, e2, (k g (by rw [e1]; rfl)).trans e3, e4⟩⟩
theorem BytAt.below {B : Nat} {w w' : World} {v : Value} {bs : List Int} (h : BytAt B w v bs) (k : Below w.heap.size w w') : BytAt B w' v bs := h.keep fun b hb => k.block b (h.lt b hb).2
theorem BytAt.mono {B C : Nat} {w : World} {v : Value} {bs : List Int} (h : BytAt B w v bs) (k : C ≤ B) : BytAt C w v bs := by
  obtain ⟨e, h | ⟨g, cap, cur, e1, e2, e3⟩⟩ := h
  · exact ⟨e, .inl h⟩
  · exact ⟨e, .inr ⟨g, cap, cur, e1, Nat.le_trans k e2, e3⟩⟩
theorem BytAt.lit (w : World) (cs : List Int) (hl : cs.length ≤ 1000) : BytAt w.heap.size (w.alloc (.cells (cs.map (Value.int .u8)).toArray 5)) (.slice (some ⟨w.heap.size, 0, none⟩) cs.length cs.length) cs := by
  refine ⟨by simp, .inr ⟨w.heap.size, cs.length, (cs.map (Value.int .u8)).toArray, rfl, Nat.le_refl _, ?_, Nat.le_refl _, by unfold maxLen; omega, by simp, by simp only [Nat.mul_one]; exact List.take_of_length_le (by simp)⟩⟩
  exact heap_alloc_new w _
def ByPost (w : World) (bs : List Int) (e : Ending) (w' : World) : Prop := ∃ v, e = .returned v ∧ BytAt w.heap.size w' v bs ∧ Below w.heap.size w w'

theorem threeB_c {w : World} {n : Int} (h : 0 ≤ n ∧ n < 16777216) : Calls Try.prog 42 #[.int .i64 n] w (ByPost w (bWide n)) := by
  have q0 : n.tdiv 65536 = n / 65536 := Int.tdiv_eq_ediv_of_nonneg h.1
  have q1 : n.tdiv 256 = n / 256 := Int.tdiv_eq_ediv_of_nonneg h.1
  have q2 : (n / 256).tmod 256 = n / 256 % 256 := Int.tmod_eq_emod_of_nonneg (by omega)
  have q3 : n.tmod 256 = n % 256 := Int.tmod_eq_emod_of_nonneg h.1
  have hP : ∀ v w', BytAt w.heap.size w' v (bWide n) → Below w.heap.size w w' → ByPost w (bWide n) (.returned v) w' := fun v w' h k => ⟨v, rfl, h, k⟩
  have hL := BytAt.lit w (bWide n) (by unfold bWide; simp)
  have hB := below_a1 w (.cells ((bWide n).map (Value.int .u8)).toArray 5)
  have hR := hP _ _ hL hB
  clear hL hB hP
  obtain ⟨P, hP⟩ : ∃ P, ByPost w (bWide n) = P := ⟨_, rfl⟩
  rw [hP] at hR ⊢
  clear hP
  change P (.returned (.slice (some ⟨w.heap.size, 0, none⟩) 3 3)) (w.alloc (.cells #[.int .u8 (n / 65536 % 256), .int .u8 (n / 256 % 256), .int .u8 (n % 256)] 5)) at hR
  rw [show n / 65536 % 256 = n / 65536 by omega] at hR
  go_enter Try.func42, Try.ntmps42
  go_wp2_with fail
  exact hR
set_option maxHeartbeats 2000000 in
theorem msgsB_c {w : World} {mv : Value} {l : List M} (hm : Msgs w mv l) (hst : ∀ m ∈ l, 0 ≤ m.stamp ∧ m.stamp < 16777216) (hb : (bMsgs l).length ≤ 1000000) :
    Calls Try.prog 43 #[mv] w (ByPost w (bMsgs l)) := by
  obtain ⟨hll, la, lcap, rfl, _⟩ := hm.open
  obtain ⟨i0, hi0, hz0, hz1, hz2⟩ := info_parts infoCByteP
  obtain ⟨P, hP⟩ : ∃ P, ByPost w (bMsgs l) = P := ⟨_, rfl⟩
  rw [hP]
  replace hP := Lib.hid hP
  have hm := fun W (h : Below w.heap.size w W) => hm.below h
  replace hm := Lib.hid hm
  unfold bMsgs at hb
  rw [List.length_append] at hb
  have hb1 : (bSmall l.length).length = 1 := rfl
  rw [hb1] at hb
  have h1 := BytAt.lit w (bSmall l.length) (by unfold bSmall; simp)
  have bA := below_a1 w (.cells ((bSmall l.length).map (Value.int .u8)).toArray 5)
  change BytAt w.heap.size (w.alloc (.cells #[.int .u8 ((l.length : Int) % 256)] 5)) (.slice (some ⟨w.heap.size, 0, none⟩) 1 1) (bSmall l.length) at h1
  change Below w.heap.size w (w.alloc (.cells #[.int .u8 ((l.length : Int) % 256)] 5)) at bA
  go_enter Try.func43, Try.ntmps43
  go_upto_region 2 with fail
  generalize w.alloc (.cells #[.int .u8 ((l.length : Int) % 256)] 5) = w1 at *
  go_upto_region 3 with fail
  go_loopw [3, 4] (fun b i wr => ∃ (k : Nat), k ≤ l.length ∧ i = .int .i64 k ∧ BytAt w.heap.size wr b (bSmall l.length ++ (l.take k).flatMap bMsg) ∧ Below w.heap.size w wr) (fun _ i _ => l.length - (intOf i).toNat)
  case atStart => exact ⟨0, by omega, rfl, by simpa using h1, bA⟩
  case round =>
    clear h1 bA
    obtain ⟨k, hk, rfl, hp, hbw⟩ := hrel
    by_cases hlt : k < l.length
    · have hM := hm.out wr hbw
      obtain ⟨_, _, _, e4, _, hcc⟩ := hM.open
      cases e4
      obtain ⟨b4, o4, rfl, hun⟩ := hcc (by intro e; subst e; simp at hlt)
      obtain ⟨d0, d1, d2, d3, d4⟩ := hun k hlt
      have e1 : decide ((k : Int) < (l.length : Int)) = true := decide_eq_true (by omega)
      have hft := bflat_take bMsg M.zero hlt
      have hst1 : 0 ≤ (l.getD k M.zero).stamp ∧ (l.getD k M.zero).stamp < 16777216 := hst _ (by rw [getD_lt l _ hlt]; exact List.getElem_mem _)
      have hfl : ((l.take k).flatMap bMsg).length + (bMsg (l.getD k M.zero)).length ≤ (l.flatMap bMsg).length := by
        have h1 : ((l.take (k + 1)).flatMap bMsg).length ≤ (l.flatMap bMsg).length := by
          conv => rhs; rw [← List.take_append_drop (k + 1) l, List.flatMap_append, List.length_append]
          omega
        rw [hft, List.length_append] at h1
        exact h1
      obtain ⟨m, hmd⟩ : ∃ m, l.getD k M.zero = m := ⟨_, rfl⟩
      rw [hmd] at d0 d1 d2 d3 d4 hft hst1 hfl
      clear hmd hun hcc hM
      rw [bMsg_len] at hfl
      have hfe : bSmall l.length ++ (l.take (k + 1)).flatMap bMsg = (bSmall l.length ++ (l.take k).flatMap bMsg) ++ bMsg m := by rw [hft, List.append_assoc]
      have hcl : (bSmall l.length ++ (l.take k).flatMap bMsg).length + (7 + m.body.size) ≤ 1000000 := by
        rw [List.length_append]
        omega
      obtain ⟨cs, hcs⟩ : ∃ cs, bSmall l.length ++ (l.take k).flatMap bMsg = cs := ⟨_, rfl⟩
      rw [hcs] at hp hcl hfe
      clear hcs hft hfl
      replace hfe := Lib.hid hfe
      have hol := hp.lt
      have bA := below_a1 wr (.cells #[.int .i64 m.src, .int .i64 m.grp, .int .i64 m.stamp, .bool m.null, .string m.body] 33)
      have hMb := MsgBox.new wr m 33
      have hp2 := hp.below bA
      have hwl := hbw.size
      have hbw2 := hbw.trans (bA.mono hwl)
      have hsz : (wr.alloc (.cells #[.int .i64 m.src, .int .i64 m.grp, .int .i64 m.stamp, .bool m.null, .string m.body] 33)).heap.size = wr.heap.size + 1 := World.size_alloc _ _
      obtain ⟨pa, pc, rfl⟩ := own_form hp
      have hCo : ¬ (Value.slice pa cs.length pc).ownBlock = some wr.heap.size := fun e => by have := (hol _ e).2; omega
      replace hsz := Lib.hid hsz
      clear hp hbw
      go_upto_region 6 with fail
      generalize wr.alloc (.cells #[.int .i64 m.src, .int .i64 m.grp, .int .i64 m.stamp, .bool m.null, .string m.body] 33) = w2 at *
      obtain ⟨C, hC⟩ : ∃ C, wr.heap.size = C := ⟨_, rfl⟩
      have hCl : C < w2.heap.size := by have := hsz.out; omega
      have hAC : w.heap.size ≤ C := by omega
      simp only [hC] at hMb hCo ⊢
      clear hC d0 d1 d2 d3 d4 bA hwl hol
      obtain ⟨m0, m1, m2, m3, m4⟩ := id hMb
      cases hz : m.null
      · rw [hz] at m3
        replace hz := Lib.hid hz
        have hR : Row (w2.alloc (.cells #[.int .u8 (m.src % 256), .int .u8 (m.grp % 256), .int .u8 0, .int .u8 ((m.body.size : Int) % 256)] 5)) (.slice (some ⟨w2.heap.size, 0, none⟩) 4 4) 4 1 [.int .u8 (m.src % 256), .int .u8 (m.grp % 256), .int .u8 0, .int .u8 ((m.body.size : Int) % 256)] := Row.lit w2 5 _ (by simp)
        have hB2 := hbw2.size
        go_upto_region 10 with (first | (at_builtin; refine wpList_append_row _ rfl _ _ 81 rfl w.heap.size 5 i0 _ 1 1 Try.underlying81 hi0 hz0 hz1 hz2 rfl (by decide) (.slice pa cs.length pc) cs.length (cs.map (Value.int .u8)) rfl (hp2.alloc _) _ _ _ rfl hR (by simp [Value.oneCell']) (by unfold maxLen; omega) (by omega) (by rw [World.size_alloc]; omega) ?_; intro v3 w3 hown3 hgrow3 hat3; obtain ⟨qa, qc, rfl⟩ := own_form hown3))
        have s3 := save_app hgrow3
        have hb3 := hbw2.trans (s3.below (fun b hb => (hp2.lt b hb).1) hB2)
        have h3 : BytAt w.heap.size w3 (.slice qa (cs.length + 4) qc) (cs ++ [m.src % 256, m.grp % 256, 0, (m.body.size : Int) % 256]) := by unfold BytAt; simpa using hown3
        have hkC := s3.block C hCl hCo
        have m4' := (World.cell?_of_block (w := w2) (a := ⟨C, 4, none⟩) hkC).trans m4
        have m2' := (World.cell?_of_block (w := w2) (a := ⟨C, 2, none⟩) hkC).trans m2
        have hCo3 : ¬ (Value.slice qa (cs.length + 4) qc).ownBlock = some C := fun e => by
          rcases hat3 with h | h
          · exact hCo (h ▸ e)
          · rw [h, World.size_alloc] at e
            cases e
            omega
        have hs3 := s3.size
        obtain ⟨c3, hc3⟩ : ∃ c, cs ++ [m.src % 256, m.grp % 256, 0, (m.body.size : Int) % 256] = c := ⟨_, rfl⟩
        have hc3l : c3.length = cs.length + 4 := by rw [← hc3, List.length_append]; rfl
        rw [hc3] at h3
        replace hc3 := Lib.hid hc3
        simp only [← hc3l] at h3 hCo3 ⊢
        have hc3m : c3.length + m.body.size + 3 ≤ 1000000 := by omega
        replace hc3l := Lib.hid hc3l
        clear hown3 hgrow3 hat3 s3 hR hp2 hbw2 hB2 m0 m1 m2 m3 m4 hMb
        have hSB : ∀ o : World, o.heap[C]? = w3.heap[C]? → o.cell? ⟨C, 4, none⟩ = some (.string m.body) ∧ o.cell? ⟨C, 2, none⟩ = some (.int .i64 m.stamp) := fun o k1 => ⟨(World.cell?_of_block (w := w3) (a := ⟨C, 4, none⟩) k1).trans m4', (World.cell?_of_block (w := w3) (a := ⟨C, 2, none⟩) k1).trans m2'⟩
        have hB3 := hb3.size
        refine wp_region_N (fun o => o.cell? ⟨C, 4, none⟩ = some (.string m.body) ∧ o.cell? ⟨C, 2, none⟩ = some (.int .i64 m.stamp)) 6 9 rfl (by kernel_rfl) (hSB _ rfl) (fun hSw => ?_)
        refine tk 0 ?_ rfl rfl (by kernel_rfl) (.inl ⟨by rfl, ?_⟩) hSw ?_
        rotate_left
        · rintro w ⟨s0, s1⟩; go_simp; try with_reducible rfl
        simp only [tkp, tkz, tks]
        refine tk 1 ?_ rfl rfl (by kernel_rfl) (.inl ⟨by rfl, ?_⟩) hSw ?_
        rotate_left
        · rintro w ⟨s0, s1⟩; go_simp; try with_reducible rfl
        simp only [tkp, tkz, tks]
        refine tk 2 ?_ rfl rfl (by kernel_rfl) (.inl ⟨by rfl, ?_⟩) hSw ?_
        rotate_left
        · rintro w ⟨s0, s1⟩; go_simp; try with_reducible rfl
        simp only [tkp, tkz, tks]
        refine tk 4 ?_ rfl rfl (by kernel_rfl) (.inl ⟨by rfl, ?_⟩) hSw ?_
        rotate_left
        · rintro w ⟨s0, s1⟩; go_simp; try with_reducible rfl
        simp only [tkp, tkz, tks]
        refine tk 5 ?_ rfl rfl (by kernel_rfl) (.inl ⟨by rfl, ?_⟩) hSw ?_
        rotate_left
        · rintro w ⟨s0, s1⟩; go_simp; try with_reducible rfl
        simp only [tkp, tkz, tks]
        refine N_one' (i := 3) (by kernel_rfl) rfl ?_
        go_wp2_with (at_builtin; refine wpList_append_str _ rfl _ _ 81 9 rfl w.heap.size 5 i0 Try.underlying81 Try.underlying9 hi0 hz0 hz1 hz2 (.slice qa c3.length qc) c3.length (c3.map (Value.int .u8)) rfl (owns_drewU h3) m.body rfl (by omega) hB3 ?_; intro v4 w4 hown4 hgrow4 hat4; obtain ⟨ra, rc, rfl⟩ := own_form hown4)
        have s4 := save_drew hgrow4
        have hcC := s4.block C (by omega) hCo3
        refine QK_normal ⟨?_, ?_⟩
        · first | exact fun _ => hSB _ hcC | exact hSB _ hcC
        refine N_rest 6 3 (Nat.le_refl _) rfl (by kernel_rfl) ?_
        simp only [List.drop_succ_cons, List.drop_zero]
        have h4 : BytAt w.heap.size w4 (.slice ra (c3.length + m.body.size) rc) (c3 ++ numsOf m.body) := by unfold BytAt; rw [strCells_nums] at hown4; simpa [numsOf_len] using hown4
        have hb4 := hb3.trans (s4.below (fun b hb => (h3.lt b hb).1) hB3)
        have hB4 := hb4.size
        clear hSB hSw hown4 hgrow4 hat4 s4 hcC h3 hb3
        have hC5 := threeB_c (w := w4) hst1
        go_wp2_with fail
        refine hC5.mono ?_
        clear hC5
        rintro e w5 ⟨v5, rfl, h5, b5⟩
        have h45 := h4.below b5
        obtain ⟨ta, tc, rfl⟩ := own_form h5
        have hR5 : Row w5 (.slice ta 3 tc) 3 1 ((bWide m.stamp).map (Value.int .u8)) := Row.of_owns h5 (by simp [bWide])
        have hB5 := b5.size
        have hb5 := hb4.trans (b5.mono hB4)
        have ho5 : w5.ownsRow w.heap.size 5 1 (.slice ra (c3.length + m.body.size) rc) (c3.length + m.body.size) ((c3 ++ numsOf m.body).map (Value.int .u8)) := by
          have h := h45
          unfold BytAt at h
          rwa [List.length_append, numsOf_len] at h
        simp only [show (bWide m.stamp).length = 3 from rfl]
        clear h45 h4 hb4 h5
        go_wp2_with (at_builtin; refine wpList_append_row _ rfl _ _ 81 rfl w.heap.size 5 i0 _ 1 1 Try.underlying81 hi0 hz0 hz1 hz2 rfl (by decide) (.slice ra (c3.length + m.body.size) rc) (c3.length + m.body.size) _ rfl ho5 _ _ _ rfl hR5 (by simp [bWide, Value.oneCell']) (by unfold maxLen; omega) (by omega) (by omega) ?_; intro v6 w6 hown6 hgrow6 hat6; obtain ⟨ua, uc, rfl⟩ := own_form hown6)
        have s6 : Save (fun b => (Value.slice ra (c3.length + m.body.size) rc).ownBlock = some b) w5 w6 := ⟨hgrow6.os, hgrow6.tape, hgrow6.output, hgrow6.size, fun b hb hn => hgrow6.block b hb (fun e => hn e.symm)⟩
        go_roundw
        case rel =>
          refine ⟨k + 1, by omega, by go_num, ?_, hb5.trans (s6.below (fun b hb => (ho5.lt b hb).1) (by omega))⟩
          have e2 : c3 ++ numsOf m.body ++ bWide m.stamp = cs ++ bMsg m := by
            rw [← hc3.out]
            unfold bMsg bSmall
            rw [hz.out]
            simp
          rw [hfe.out, ← e2]
          unfold BytAt
          rw [List.map_append, List.length_append, List.length_append, numsOf_len]
          exact hown6
        case measure => simp [intOf]; omega
      · rw [hz] at m3
        replace hz := Lib.hid hz
        have hR : Row (w2.alloc (.cells #[.int .u8 (m.src % 256), .int .u8 (m.grp % 256), .int .u8 1, .int .u8 ((m.body.size : Int) % 256)] 5)) (.slice (some ⟨w2.heap.size, 0, none⟩) 4 4) 4 1 [.int .u8 (m.src % 256), .int .u8 (m.grp % 256), .int .u8 1, .int .u8 ((m.body.size : Int) % 256)] := Row.lit w2 5 _ (by simp)
        have hB2 := hbw2.size
        go_upto_region 10 with (first | (at_builtin; refine wpList_append_row _ rfl _ _ 81 rfl w.heap.size 5 i0 _ 1 1 Try.underlying81 hi0 hz0 hz1 hz2 rfl (by decide) (.slice pa cs.length pc) cs.length (cs.map (Value.int .u8)) rfl (hp2.alloc _) _ _ _ rfl hR (by simp [Value.oneCell']) (by unfold maxLen; omega) (by omega) (by rw [World.size_alloc]; omega) ?_; intro v3 w3 hown3 hgrow3 hat3; obtain ⟨qa, qc, rfl⟩ := own_form hown3))
        have s3 := save_app hgrow3
        have hb3 := hbw2.trans (s3.below (fun b hb => (hp2.lt b hb).1) hB2)
        have h3 : BytAt w.heap.size w3 (.slice qa (cs.length + 4) qc) (cs ++ [m.src % 256, m.grp % 256, 1, (m.body.size : Int) % 256]) := by unfold BytAt; simpa using hown3
        have hkC := s3.block C hCl hCo
        have m4' := (World.cell?_of_block (w := w2) (a := ⟨C, 4, none⟩) hkC).trans m4
        have m2' := (World.cell?_of_block (w := w2) (a := ⟨C, 2, none⟩) hkC).trans m2
        have hCo3 : ¬ (Value.slice qa (cs.length + 4) qc).ownBlock = some C := fun e => by
          rcases hat3 with h | h
          · exact hCo (h ▸ e)
          · rw [h, World.size_alloc] at e
            cases e
            omega
        have hs3 := s3.size
        obtain ⟨c3, hc3⟩ : ∃ c, cs ++ [m.src % 256, m.grp % 256, 1, (m.body.size : Int) % 256] = c := ⟨_, rfl⟩
        have hc3l : c3.length = cs.length + 4 := by rw [← hc3, List.length_append]; rfl
        rw [hc3] at h3
        replace hc3 := Lib.hid hc3
        simp only [← hc3l] at h3 hCo3 ⊢
        have hc3m : c3.length + m.body.size + 3 ≤ 1000000 := by omega
        replace hc3l := Lib.hid hc3l
        clear hown3 hgrow3 hat3 s3 hR hp2 hbw2 hB2 m0 m1 m2 m3 m4 hMb
        have hSB : ∀ o : World, o.heap[C]? = w3.heap[C]? → o.cell? ⟨C, 4, none⟩ = some (.string m.body) ∧ o.cell? ⟨C, 2, none⟩ = some (.int .i64 m.stamp) := fun o k1 => ⟨(World.cell?_of_block (w := w3) (a := ⟨C, 4, none⟩) k1).trans m4', (World.cell?_of_block (w := w3) (a := ⟨C, 2, none⟩) k1).trans m2'⟩
        have hB3 := hb3.size
        refine wp_region_N (fun o => o.cell? ⟨C, 4, none⟩ = some (.string m.body) ∧ o.cell? ⟨C, 2, none⟩ = some (.int .i64 m.stamp)) 6 9 rfl (by kernel_rfl) (hSB _ rfl) (fun hSw => ?_)
        refine tk 0 ?_ rfl rfl (by kernel_rfl) (.inl ⟨by rfl, ?_⟩) hSw ?_
        rotate_left
        · rintro w ⟨s0, s1⟩; go_simp; try with_reducible rfl
        simp only [tkp, tkz, tks]
        refine tk 1 ?_ rfl rfl (by kernel_rfl) (.inl ⟨by rfl, ?_⟩) hSw ?_
        rotate_left
        · rintro w ⟨s0, s1⟩; go_simp; try with_reducible rfl
        simp only [tkp, tkz, tks]
        refine tk 2 ?_ rfl rfl (by kernel_rfl) (.inl ⟨by rfl, ?_⟩) hSw ?_
        rotate_left
        · rintro w ⟨s0, s1⟩; go_simp; try with_reducible rfl
        simp only [tkp, tkz, tks]
        refine tk 4 ?_ rfl rfl (by kernel_rfl) (.inl ⟨by rfl, ?_⟩) hSw ?_
        rotate_left
        · rintro w ⟨s0, s1⟩; go_simp; try with_reducible rfl
        simp only [tkp, tkz, tks]
        refine tk 5 ?_ rfl rfl (by kernel_rfl) (.inl ⟨by rfl, ?_⟩) hSw ?_
        rotate_left
        · rintro w ⟨s0, s1⟩; go_simp; try with_reducible rfl
        simp only [tkp, tkz, tks]
        refine N_one' (i := 3) (by kernel_rfl) rfl ?_
        go_wp2_with (at_builtin; refine wpList_append_str _ rfl _ _ 81 9 rfl w.heap.size 5 i0 Try.underlying81 Try.underlying9 hi0 hz0 hz1 hz2 (.slice qa c3.length qc) c3.length (c3.map (Value.int .u8)) rfl (owns_drewU h3) m.body rfl (by omega) hB3 ?_; intro v4 w4 hown4 hgrow4 hat4; obtain ⟨ra, rc, rfl⟩ := own_form hown4)
        have s4 := save_drew hgrow4
        have hcC := s4.block C (by omega) hCo3
        refine QK_normal ⟨?_, ?_⟩
        · first | exact fun _ => hSB _ hcC | exact hSB _ hcC
        refine N_rest 6 3 (Nat.le_refl _) rfl (by kernel_rfl) ?_
        simp only [List.drop_succ_cons, List.drop_zero]
        have h4 : BytAt w.heap.size w4 (.slice ra (c3.length + m.body.size) rc) (c3 ++ numsOf m.body) := by unfold BytAt; rw [strCells_nums] at hown4; simpa [numsOf_len] using hown4
        have hb4 := hb3.trans (s4.below (fun b hb => (h3.lt b hb).1) hB3)
        have hB4 := hb4.size
        clear hSB hSw hown4 hgrow4 hat4 s4 hcC h3 hb3
        have hC5 := threeB_c (w := w4) hst1
        go_wp2_with fail
        refine hC5.mono ?_
        clear hC5
        rintro e w5 ⟨v5, rfl, h5, b5⟩
        have h45 := h4.below b5
        obtain ⟨ta, tc, rfl⟩ := own_form h5
        have hR5 : Row w5 (.slice ta 3 tc) 3 1 ((bWide m.stamp).map (Value.int .u8)) := Row.of_owns h5 (by simp [bWide])
        have hB5 := b5.size
        have hb5 := hb4.trans (b5.mono hB4)
        have ho5 : w5.ownsRow w.heap.size 5 1 (.slice ra (c3.length + m.body.size) rc) (c3.length + m.body.size) ((c3 ++ numsOf m.body).map (Value.int .u8)) := by
          have h := h45
          unfold BytAt at h
          rwa [List.length_append, numsOf_len] at h
        simp only [show (bWide m.stamp).length = 3 from rfl]
        clear h45 h4 hb4 h5
        go_wp2_with (at_builtin; refine wpList_append_row _ rfl _ _ 81 rfl w.heap.size 5 i0 _ 1 1 Try.underlying81 hi0 hz0 hz1 hz2 rfl (by decide) (.slice ra (c3.length + m.body.size) rc) (c3.length + m.body.size) _ rfl ho5 _ _ _ rfl hR5 (by simp [bWide, Value.oneCell']) (by unfold maxLen; omega) (by omega) (by omega) ?_; intro v6 w6 hown6 hgrow6 hat6; obtain ⟨ua, uc, rfl⟩ := own_form hown6)
        have s6 : Save (fun b => (Value.slice ra (c3.length + m.body.size) rc).ownBlock = some b) w5 w6 := ⟨hgrow6.os, hgrow6.tape, hgrow6.output, hgrow6.size, fun b hb hn => hgrow6.block b hb (fun e => hn e.symm)⟩
        go_roundw
        case rel =>
          refine ⟨k + 1, by omega, by go_num, ?_, hb5.trans (s6.below (fun b hb => (ho5.lt b hb).1) (by omega))⟩
          have e2 : c3 ++ numsOf m.body ++ bWide m.stamp = cs ++ bMsg m := by
            rw [← hc3.out]
            unfold bMsg bSmall
            rw [hz.out]
            simp
          rw [hfe.out, ← e2]
          unfold BytAt
          rw [List.map_append, List.length_append, List.length_append, numsOf_len]
          exact hown6
        case measure => simp [intOf]; omega
    · have hke : k = l.length := by omega
      have e1 : decide ((k : Int) < (l.length : Int)) = false := decide_eq_false (by omega)
      rw [hke, List.take_length] at hp
      obtain ⟨pa, pc, hpe⟩ := own_form hp
      go_wp2_with fail
      rw [← hP.out]
      exact ⟨_, rfl, hp, hbw⟩
end Go.Proofs.Ytnalakhelicjcaa
set_option maxRecDepth 100000
namespace Go.Proofs.Ytnalakhelicjcaa
open Go.RowKit Go.Shelf Go.BigFrame Go.Deep

/-- Bytes in a row of one's own, beside a block that stays. -/
def ByC (A C : Nat) (w0 wc w : World) (v : Value) (bs : List Int) : Prop := BytAt A w v bs ∧ Below A w0 w ∧ ¬ v.ownBlock = some C ∧ C < w.heap.size ∧ A ≤ w.heap.size ∧ w.heap[C]? = wc.heap[C]?
theorem ByC.call {A C : Nat} {w0 wc w w' : World} {v : Value} {bs : List Int} (h : ByC A C w0 wc w v bs) (b : Below w.heap.size w w') : ByC A C w0 wc w' v bs := by
  obtain ⟨h1, h2, h3, h4, h5, h6⟩ := h
  have hs := b.size
  exact ⟨h1.below b, h2.trans (b.mono h5), h3, by omega, by omega, (b.block C h4).trans h6⟩
theorem ByC.app {A C : Nat} {w0 wc w w' : World} {v v' : Value} {bs ds : List Int} (h : ByC A C w0 wc w v bs) (ho : w'.ownsRow A 5 1 v' (bs.length + ds.length) (bs.map (Value.int .u8) ++ ds.map (Value.int .u8))) (hg : w.grownBy w' v.ownBlock) (hat : v'.ownBlock = v.ownBlock ∨ v'.ownBlock = some w.heap.size) : ByC A C w0 wc w' v' (bs ++ ds) := by
  obtain ⟨h1, h2, h3, h4, h5, h6⟩ := h
  have s : Save (fun b => v.ownBlock = some b) w w' := ⟨hg.os, hg.tape, hg.output, hg.size, fun b hb hn => hg.block b hb (fun e => hn e.symm)⟩
  have hs := s.size
  refine ⟨?_, h2.trans (s.below (fun b hb => (h1.lt b hb).1) h5), fun e => ?_, by omega, by omega, (s.block C h4 h3).trans h6⟩
  · unfold BytAt
    rw [List.map_append, List.length_append]
    exact ho
  · rcases hat with k | k
    · exact h3 (k ▸ e)
    · rw [k] at e
      cases e
      omega
/-- The same beside another block, of below. -/
theorem ByC.out {A C B : Nat} {w0 wc w : World} {v : Value} {bs : List Int} (h : ByC A C w0 wc w v bs) (hB : B < A) : ByC A B w0 w0 w v bs := by
  obtain ⟨h1, h2, h3, h4, h5, h6⟩ := h
  exact ⟨h1, h2, fun e => by have := (h1.lt B e).1; omega, by omega, h5, h2.block B hB⟩
/-- Beside a block that is laid now. -/
theorem ByC.new {A C : Nat} {w0 wc w : World} {v : Value} {bs : List Int} (h : ByC A C w0 wc w v bs) (o : Obj) : ByC A w.heap.size w0 (w.alloc o) (w.alloc o) v bs := by
  obtain ⟨h1, h2, h3, h4, h5, h6⟩ := h
  have hs := World.size_alloc w o
  have hb := below_a1 w o
  exact ⟨h1.below hb, h2.trans (hb.mono h5), fun e => by have := (h1.lt _ e).2; omega, by omega, by omega, rfl⟩

set_option maxHeartbeats 4000000 in
theorem WorldBytes_c {w : World} {v : Value} {X : Wd} (hW : WorldAt w v X) (h0 : errX X = 0) : Calls Try.prog 15 #[v] w (GivesB (.string (strOfNums (bWorld X))) w) := by
  have hSh := right_short h0
  obtain ⟨-, -, okn, -, okw⟩ := right_ok h0
  clear h0
  obtain ⟨i0, hi0, hz0, hz1, hz2⟩ := info_parts infoCByteP
  obtain ⟨P, hP⟩ : ∃ P, GivesB (.string (strOfNums (bWorld X))) w = P := ⟨_, rfl⟩
  rw [hP]
  replace hP := Lib.hid hP
  obtain ⟨gv, nv, wv, rfl, hg, hn, hw⟩ := hW
  obtain ⟨_, ga, gcap, rfl, _⟩ := hg.open
  obtain ⟨_, na, ncap, rfl, _⟩ := hn.form
  obtain ⟨_, wa, wcap, rfl, _⟩ := hw.form
  have hB := OBox.new w 40 (.slice ga X.groups.length gcap) (.slice na X.nodes.length ncap) (.slice wa X.wires.length wcap)
  have bA := below_a1 w (.cells #[.slice ga X.groups.length gcap, .slice na X.nodes.length ncap, .slice wa X.wires.length wcap] 40)
  have hs1 : (w.alloc (.cells #[.slice ga X.groups.length gcap, .slice na X.nodes.length ncap, .slice wa X.wires.length wcap] 40)).heap.size = w.heap.size + 1 := World.size_alloc _ _
  go_enter Try.func15, Try.ntmps15
  go_upto_region 1 with fail
  generalize w.alloc (.cells #[.slice ga X.groups.length gcap, .slice na X.nodes.length ncap, .slice wa X.wires.length wcap] 40) = w0 at *
  have h1 := BytAt.lit w0 (bSmall X.groups.length) (by unfold bSmall; simp)
  have b1 := below_a1 w0 (.cells ((bSmall X.groups.length).map (Value.int .u8)).toArray 5)
  change BytAt w0.heap.size (w0.alloc (.cells #[.int .u8 ((X.groups.length : Int) % 256)] 5)) (.slice (some ⟨w0.heap.size, 0, none⟩) 1 1) (bSmall X.groups.length) at h1
  change Below w0.heap.size w0 (w0.alloc (.cells #[.int .u8 ((X.groups.length : Int) % 256)] 5)) at b1
  have hp0 : ByC w0.heap.size w.heap.size w0 w0 (w0.alloc (.cells #[.int .u8 ((X.groups.length : Int) % 256)] 5)) (.slice (some ⟨w0.heap.size, 0, none⟩) 1 1) (bSmall X.groups.length) := by
    have hs := b1.size
    exact ⟨h1, b1, fun e => by have := (h1.lt _ e).1; omega, by omega, by omega, b1.block _ (by omega)⟩
  have hrg : ∀ (wr : World) (u : Value) (bs : List Int), ByC w0.heap.size w.heap.size w0 w0 wr u bs → Below w.heap.size w wr := fun _ _ _ h => bA.trans (h.2.1.mono (by omega))
  have hbx : ∀ (wr : World) (u : Value) (bs : List Int), ByC w0.heap.size w.heap.size w0 w0 wr u bs → OBox wr w.heap.size 40 (.slice ga X.groups.length gcap) (.slice na X.nodes.length ncap) (.slice wa X.wires.length wcap) := fun _ _ _ h => hB.keep h.2.2.2.2.2
  obtain ⟨_, x0, x1, x2⟩ := id hB
  clear h1 b1 hB bA
  replace hs1 := Lib.hid hs1
  replace hrg := Lib.hid hrg
  replace hbx := Lib.hid hbx
  go_upto_region 2 with fail
  clear x0 x1 x2
  generalize w0.alloc (.cells #[.int .u8 ((X.groups.length : Int) % 256)] 5) = w1 at *
  obtain ⟨u1, hu1⟩ : ∃ u, Value.slice (some ⟨w0.heap.size, 0, none⟩) 1 1 = u := ⟨_, rfl⟩
  go_upto_region 3 with fail
  go_loopw [3, 4] (fun u i wr => ∃ (k : Nat), k ≤ X.groups.length ∧ i = .int .i64 k ∧ ByC w0.heap.size w.heap.size w0 w0 wr u (bSmall X.groups.length ++ (X.groups.take k).flatMap bSmall)) (fun _ i _ => X.groups.length - (intOf i).toNat)
  case atStart => exact ⟨0, by omega, rfl, by simpa using hp0⟩
  case round =>
    clear hp0 hu1 u1
    obtain ⟨k, hk, rfl, hp⟩ := hrel
    obtain ⟨_, x0, x1, x2⟩ := hbx.out _ _ _ hp
    by_cases hlt : k < X.groups.length
    · obtain ⟨b4, o4, c5, e4, _, q1, hq64⟩ := (hg.below (hrg.out _ _ _ hp)).at (a := k) hlt
      cases e4
      have e1 : decide ((k : Int) < (X.groups.length : Int)) = true := decide_eq_true (by omega)
      have hft := bflat_take bSmall (0 : Int) hlt
      obtain ⟨n, hn'⟩ : ∃ n, X.groups.getD k 0 = n := ⟨_, rfl⟩
      rw [hn'] at q1 hq64 hft
      clear hn'
      have hcl : (bSmall X.groups.length ++ (X.groups.take k).flatMap bSmall).length ≤ 4 := by
        have := fmap_len (f := bSmall) (l := X.groups.take k) (c := 1) (fun _ _ => Nat.le_refl _)
        have := hSh.g
        rw [List.length_append]
        have e : (bSmall (X.groups.length : Int)).length = 1 := rfl
        rw [List.length_take] at *
        omega
      have hfe : bSmall X.groups.length ++ (X.groups.take (k + 1)).flatMap bSmall = (bSmall X.groups.length ++ (X.groups.take k).flatMap bSmall) ++ bSmall n := by rw [hft, List.append_assoc]
      obtain ⟨cs, hcs⟩ : ∃ cs, bSmall (X.groups.length : Int) ++ (X.groups.take k).flatMap bSmall = cs := ⟨_, rfl⟩
      rw [hcs] at hp hcl hfe
      clear hcs hft
      replace hfe := Lib.hid hfe
      obtain ⟨pa, pc, rfl⟩ := own_form hp.1
      have hlw2 := (ByC.call hp (below_a1 wr (.cells #[.int .u8 (n % 256)] 5)))
      have hRw2 : Row (wr.alloc (.cells #[.int .u8 (n % 256)] 5)) (.slice (some ⟨wr.heap.size, 0, none⟩) 1 1) 1 1 [.int .u8 (n % 256)] := Row.lit wr 5 _ (by simp)
      have hAw2 := hlw2.2.2.2.2.1
      go_wp2_with (first | (at_builtin; refine wpList_append_row _ rfl _ _ 81 rfl w0.heap.size 5 i0 _ 1 1 Try.underlying81 hi0 hz0 hz1 hz2 rfl (by decide) (.slice pa cs.length pc) cs.length (cs.map (Value.int .u8)) rfl hlw2.1 _ _ _ rfl hRw2 (by simp [Value.oneCell']) (by unfold maxLen; omega) (by omega) hAw2 ?_; intro v' w2 hown' hgrow hat; obtain ⟨ua, uc, rfl⟩ := own_form hown'))
      have h2 := ByC.app (ds := bSmall n) hlw2 hown' hgrow hat
      clear hlw2 hRw2 hAw2 hown' hgrow hat
      go_roundw
      case rel => exact ⟨k + 1, by omega, by go_num, by rw [hfe.out]; exact h2⟩
      case measure => simp [intOf]; omega
    · have hke : k = X.groups.length := by omega
      have e1 : decide ((k : Int) < (X.groups.length : Int)) = false := decide_eq_false (by omega)
      rw [hke, List.take_length] at hp
      clear hke
      have hcl : (bSmall X.groups.length ++ X.groups.flatMap bSmall).length ≤ 4 := by
        have := fmap_len (f := bSmall) (l := X.groups) (c := 1) (fun _ _ => Nat.le_refl _)
        have := hSh.g
        rw [List.length_append]
        have e : (bSmall (X.groups.length : Int)).length = 1 := rfl
        omega
      have hbW : bWorld X = ((bSmall (X.groups.length : Int) ++ X.groups.flatMap bSmall) ++ bSmall X.nodes.length) ++ X.nodes.flatMap bNode ++ X.wires.flatMap (fun r => r.flatMap bMsgs) := by
        unfold bWorld
        simp only [List.append_assoc]
      obtain ⟨cs, hcs⟩ : ∃ cs, bSmall (X.groups.length : Int) ++ X.groups.flatMap bSmall = cs := ⟨_, rfl⟩
      rw [hcs] at hp hcl hbW
      clear hcs
      replace hbW := Lib.hid hbW
      obtain ⟨pa, pc, rfl⟩ := own_form hp.1
      have hlw2 := (ByC.call hp (below_a1 wr (.cells #[.int .u8 ((X.nodes.length : Int) % 256)] 5)))
      have hRw2 : Row (wr.alloc (.cells #[.int .u8 ((X.nodes.length : Int) % 256)] 5)) (.slice (some ⟨wr.heap.size, 0, none⟩) 1 1) 1 1 [.int .u8 ((X.nodes.length : Int) % 256)] := Row.lit wr 5 _ (by simp)
      have hAw2 := hlw2.2.2.2.2.1
      go_upto_region 7 with (first | (at_builtin; refine wpList_append_row _ rfl _ _ 81 rfl w0.heap.size 5 i0 _ 1 1 Try.underlying81 hi0 hz0 hz1 hz2 rfl (by decide) (.slice pa cs.length pc) cs.length (cs.map (Value.int .u8)) rfl hlw2.1 _ _ _ rfl hRw2 (by simp [Value.oneCell']) (by unfold maxLen; omega) (by omega) hAw2 ?_; intro v' w2 hown' hgrow hat; obtain ⟨ua, uc, rfl⟩ := own_form hown'))
      have h2 := ByC.app (ds := bSmall (X.nodes.length : Int)) hlw2 hown' hgrow hat
      clear hlw2 hRw2 hAw2 hown' hgrow hat
      clear x0 x1 x2 hp
      have hcl : (cs ++ bSmall (X.nodes.length : Int)).length ≤ 5 := by
        rw [List.length_append]
        have e : (bSmall (X.nodes.length : Int)).length = 1 := rfl
        omega
      have hcu : cs.length + 1 = (cs ++ bSmall (X.nodes.length : Int)).length := by rw [List.length_append]; rfl
      simp only [hcu] at h2 ⊢
      obtain ⟨c7, hc7⟩ : ∃ c, cs ++ bSmall (X.nodes.length : Int) = c := ⟨_, rfl⟩
      rw [hc7] at h2 hcl
      simp only [hc7] at hbW ⊢
      clear hcu hc7
      go_upto_region 8 with fail
      go_loopw [3, 5] (fun u i wr => ∃ (k : Nat), k ≤ X.nodes.length ∧ i = .int .i64 k ∧ ByC w0.heap.size w.heap.size w0 w0 wr u (c7 ++ (X.nodes.take k).flatMap bNode)) (fun _ i _ => X.nodes.length - (intOf i).toNat)
      case atStart => exact ⟨0, by omega, rfl, by simpa using h2⟩
      case round =>
        clear h2
        obtain ⟨k, hk, rfl, hp⟩ := hrel
        obtain ⟨_, x0, x1, x2⟩ := hbx.out _ _ _ hp
        by_cases hlt : k < X.nodes.length
        · obtain ⟨b4, o4, c5, lv, hv, tv, e4, _, k0, k1, k2, k3, hi64, hL, hH, hT⟩ := hn.at hlt
          cases e4
          have bwr := hrg.out _ _ _ hp
          have k0 := (bwr.cell (cell_lt k0)).trans k0
          have k1 := (bwr.cell (cell_lt k1)).trans k1
          have k2 := (bwr.cell (cell_lt k2)).trans k2
          have k3 := (bwr.cell (cell_lt k3)).trans k3
          have e1 : decide ((k : Int) < (X.nodes.length : Int)) = true := decide_eq_true (by omega)
          have hft := bflat_take bNode N.zero hlt
          have hmem : X.nodes.getD k N.zero ∈ X.nodes := by rw [getD_lt _ _ hlt]; exact List.getElem_mem _
          have hnl := hSh.node _ hmem
          have htb := hSh.tab _ hmem
          have hhl := hSh.held _ hmem
          have hok := okn _ hmem
          have hal := fmap_len (f := bNode) (l := X.nodes.take k) (c := 21001) (fun x hx => hSh.node x (List.mem_of_mem_take hx))
          have hn4 := hSh.n
          have hkl : (X.nodes.take k).length ≤ 4 := by rw [List.length_take]; omega
          obtain ⟨x, hx⟩ : ∃ x, X.nodes.getD k N.zero = x := ⟨_, rfl⟩
          rw [hx] at k0 hi64 hL hH hT hft hnl htb hhl hok
          clear hx hmem
          have hfe : c7 ++ (X.nodes.take (k + 1)).flatMap bNode = (c7 ++ (X.nodes.take k).flatMap bNode) ++ bNode x := by rw [hft, List.append_assoc]
          have hcl2 : (c7 ++ (X.nodes.take k).flatMap bNode).length ≤ 100000 := by
            rw [List.length_append]
            have := Nat.mul_le_mul_right 21001 hkl
            omega
          obtain ⟨cs, hcs⟩ : ∃ cs, c7 ++ (X.nodes.take k).flatMap bNode = cs := ⟨_, rfl⟩
          rw [hcs] at hp hcl2 hfe
          clear hcs hft hal
          replace hfe := Lib.hid hfe
          obtain ⟨okc, ⟨-, okl⟩, ⟨-, okh⟩, -, okt⟩ := hok
          obtain ⟨_, la, lc, rfl, _⟩ := hL.form
          obtain ⟨_, ha, hc, rfl, _⟩ := hH.open
          obtain ⟨_, ta9, tc9, rfl, _⟩ := hT.open
          obtain ⟨pa, pc, rfl⟩ := own_form hp.1
          have hNb := NBox.new wr x (.slice la x.last.length lc) (.slice ha x.held.length hc) (.slice ta9 x.told.length tc9) 79
          have hq0 := ByC.new hp (.cells #[.int .i64 x.clock, .slice la x.last.length lc, .slice ha x.held.length hc, .slice ta9 x.told.length tc9] 79)
          go_upto_region 11 with fail
          generalize wr.alloc (.cells #[.int .i64 x.clock, .slice la x.last.length lc, .slice ha x.held.length hc, .slice ta9 x.told.length tc9] 79) = w8 at *
          obtain ⟨C, hC⟩ : ∃ C, wr.heap.size = C := ⟨_, rfl⟩
          simp only [hC] at hNb hq0 ⊢
          clear hC k0 k1 k2 k3 bwr x0 x1 x2 hp
          obtain ⟨n0, n1, n2, n3⟩ := id hNb
          have hC9 := threeB_c (w := w8) okc
          have hl3 : (bWide x.clock).length = 3 := rfl
          go_wp2_with fail
          refine hC9.mono ?_
          clear hC9
          rintro e w5 ⟨v5, rfl, h5, b5⟩
          have h45 := ByC.call hq0 b5
          obtain ⟨ta, tc, rfl⟩ := own_form h5
          have hR5 := Row.of_owns h5 (by rw [List.length_map]; omega)
          have hA5 := h45.2.2.2.2.1
          go_upto_region 12 with (first | (at_builtin; refine wpList_append_row _ rfl _ _ 81 rfl w0.heap.size 5 i0 _ 1 1 Try.underlying81 hi0 hz0 hz1 hz2 rfl (by decide) (.slice pa cs.length pc) cs.length (cs.map (Value.int .u8)) rfl h45.1 _ _ _ rfl hR5 (by intro u hu; obtain ⟨x, _, rfl⟩ := List.mem_map.1 hu; rfl) (by unfold maxLen; omega) (by omega) hA5 ?_; intro v' w9 hown' hgrow hat; obtain ⟨ua9, uc9, rfl⟩ := own_form hown'))
          have q9 := ByC.app (ds := bWide x.clock) h45 hown' hgrow hat
          clear h45 hR5 hA5 h5 b5 hown' hgrow hat
          have hrC : ∀ (W : World) (u : Value) (bs : List Int), ByC w0.heap.size C w0 w8 W u bs → Below w.heap.size w W := fun _ _ _ h => hrg.out _ _ _ (h.out (by have := hs1.out; omega))
          have hN9 : ∀ (W : World) (u : Value) (bs : List Int), ByC w0.heap.size C w0 w8 W u bs → NBox W C x (.slice la x.last.length lc) (.slice ha x.held.length hc) (.slice ta9 x.told.length tc9) := fun W _ _ h => by
            have e := h.2.2.2.2.2
            exact ⟨(World.cell?_of_block (w := w8) (a := ⟨C, 0, none⟩) e).trans n0, (World.cell?_of_block (w := w8) (a := ⟨C, 1, none⟩) e).trans n1, (World.cell?_of_block (w := w8) (a := ⟨C, 2, none⟩) e).trans n2, (World.cell?_of_block (w := w8) (a := ⟨C, 3, none⟩) e).trans n3⟩
          replace hrC := Lib.hid hrC
          replace hN9 := Lib.hid hN9
          clear n0 n1 n2 n3 hNb hq0 hl3
          have hl9 : (cs ++ bWide x.clock).length ≤ 100010 := by
            rw [List.length_append]
            have e : (bWide x.clock).length = 3 := rfl
            omega
          obtain ⟨c9, hc9⟩ : ∃ c, cs ++ bWide x.clock = c := ⟨_, rfl⟩
          rw [hc9] at q9 hl9
          replace hc9 := Lib.hid hc9
          go_upto_region 13 with fail
          go_loopw [3, 7] (fun u i wr => ∃ (j : Nat), j ≤ x.last.length ∧ i = .int .i64 j ∧ ByC w0.heap.size C w0 w8 wr u (c9 ++ (x.last.take j).flatMap (fun r => r.flatMap bWide))) (fun _ i _ => x.last.length - (intOf i).toNat)
          case atStart => exact ⟨0, by omega, rfl, by simp only [List.take_zero, List.flatMap_nil, List.append_nil]; exact q9⟩
          case round =>
            clear q9
            obtain ⟨j, hj, rfl, hq⟩ := hrel
            obtain ⟨_, m1, _, _⟩ := hN9.out _ _ _ hq
            by_cases hjl : j < x.last.length
            · obtain ⟨b5, o5, c6, rv, e5, _, r0, hRw⟩ := hL.at hjl
              cases e5
              have r0h := Lib.hid r0
              have r0 := ((hrC.out _ _ _ hq).cell (cell_lt r0)).trans r0
              have e2 : decide ((j : Int) < (x.last.length : Int)) = true := decide_eq_true (by omega)
              have hft2 := bflat_take (fun r : List Int => r.flatMap bWide) [] hjl
              have hrm : x.last.getD j [] ∈ x.last := by rw [getD_lt _ _ hjl]; exact List.getElem_mem _
              have hrl4 := htb.2 _ hrm
              have hrk := (okl _ hrm).2
              have hal := fmap_len (f := fun r : List Int => r.flatMap bWide) (l := x.last.take j) (c := 12) (fun r hr => by
                have h6 := fmap_len (f := bWide) (l := r) (c := 3) (fun _ _ => Nat.le_refl _)
                have := htb.2 r (List.mem_of_mem_take hr)
                omega)
              have hkl2 : (x.last.take j).length ≤ 3 := by rw [List.length_take]; have := htb.1; omega
              obtain ⟨row, hrow⟩ : ∃ r, x.last.getD j [] = r := ⟨_, rfl⟩
              rw [hrow] at hRw hft2 hrl4 hrk
              clear hrow hrm
              obtain ⟨_, ra, rc, rfl, _⟩ := hRw.open
              have hfe2 : c9 ++ (x.last.take (j + 1)).flatMap (fun r => r.flatMap bWide) = (c9 ++ (x.last.take j).flatMap (fun r => r.flatMap bWide)) ++ row.flatMap bWide := by rw [hft2, List.append_assoc]
              have hlen2 : (c9 ++ (x.last.take j).flatMap (fun r => r.flatMap bWide)).length ≤ 100100 := by
                rw [List.length_append]
                have := Nat.mul_le_mul_right 12 hkl2
                omega
              obtain ⟨d, hd⟩ : ∃ d, c9 ++ (x.last.take j).flatMap (fun r => r.flatMap bWide) = d := ⟨_, rfl⟩
              rw [hd] at hq hlen2 hfe2
              clear hd hft2 hal
              replace hfe2 := Lib.hid hfe2
              go_upto_region 16 with fail
              clear m1 r0
              go_loopw [3, 8] (fun u i wr => ∃ (z : Nat), z ≤ row.length ∧ i = .int .i64 z ∧ ByC w0.heap.size C w0 w8 wr u (d ++ (row.take z).flatMap bWide)) (fun _ i _ => row.length - (intOf i).toNat)
              case atStart => exact ⟨0, by omega, rfl, by simpa using hq⟩
              case round =>
                clear hq
                obtain ⟨z, hz, rfl, hq⟩ := hrel
                obtain ⟨_, m1, _, _⟩ := hN9.out _ _ _ hq
                have r0 := ((hrC.out _ _ _ hq).cell (cell_lt r0h.out)).trans r0h.out
                by_cases hzl : z < row.length
                · obtain ⟨b7, o7, c8, e7, _, y0, y64⟩ := (hRw.below (hrC.out _ _ _ hq)).at (a := z) hzl
                  cases e7
                  have e3 : decide ((z : Int) < (row.length : Int)) = true := decide_eq_true (by omega)
                  have hft3 := bflat_take bWide (0 : Int) hzl
                  have hyk := hrk (row.getD z 0) (by rw [getD_lt _ _ hzl]; exact List.getElem_mem _)
                  have hal := fmap_len (f := bWide) (l := row.take z) (c := 3) (fun _ _ => Nat.le_refl _)
                  have hkl3 : (row.take z).length ≤ 4 := by rw [List.length_take]; omega
                  obtain ⟨y, hy⟩ : ∃ y, row.getD z 0 = y := ⟨_, rfl⟩
                  rw [hy] at y0 y64 hft3 hyk
                  clear hy
                  have hfe3 : d ++ (row.take (z + 1)).flatMap bWide = (d ++ (row.take z).flatMap bWide) ++ bWide y := by rw [hft3, List.append_assoc]
                  have hlen3 : (d ++ (row.take z).flatMap bWide).length ≤ 100120 := by
                    rw [List.length_append]
                    omega
                  obtain ⟨cs, hcs⟩ : ∃ cs, d ++ (row.take z).flatMap bWide = cs := ⟨_, rfl⟩
                  rw [hcs] at hq hlen3 hfe3
                  clear hcs hft3 hal
                  replace hfe3 := Lib.hid hfe3
                  obtain ⟨pa, pc, rfl⟩ := own_form hq.1
                  have hC9 := threeB_c (w := wr) hyk
                  have hl3 : (bWide y).length = 3 := rfl
                  go_wp2_with fail
                  refine hC9.mono ?_
                  clear hC9
                  rintro e w5 ⟨v5, rfl, h5, b5⟩
                  have h45 := ByC.call hq b5
                  obtain ⟨ta, tc, rfl⟩ := own_form h5
                  have hR5 := Row.of_owns h5 (by rw [List.length_map]; omega)
                  have hA5 := h45.2.2.2.2.1
                  go_wp2_with (first | (at_builtin; refine wpList_append_row _ rfl _ _ 81 rfl w0.heap.size 5 i0 _ 1 1 Try.underlying81 hi0 hz0 hz1 hz2 rfl (by decide) (.slice pa cs.length pc) cs.length (cs.map (Value.int .u8)) rfl h45.1 _ _ _ rfl hR5 (by intro u hu; obtain ⟨x, _, rfl⟩ := List.mem_map.1 hu; rfl) (by unfold maxLen; omega) (by omega) hA5 ?_; intro v' w9 hown' hgrow hat; obtain ⟨ua9, uc9, rfl⟩ := own_form hown'))
                  have q9 := ByC.app (ds := bWide y) h45 hown' hgrow hat
                  clear h45 hR5 hA5 h5 b5 hown' hgrow hat
                  go_roundw
                  case rel => exact ⟨z + 1, by omega, by go_num, by rw [hfe3.out]; exact q9⟩
                  case measure => simp [intOf]; omega
                · have hze : z = row.length := by omega
                  have e3 : decide ((z : Int) < (row.length : Int)) = false := decide_eq_false (by omega)
                  rw [hze, List.take_length, ← hfe2.out] at hq
                  clear hze
                  go_wp2_with fail
                  go_roundw
                  case rel => exact ⟨j + 1, by omega, by go_num, hq⟩
                  case measure => simp [intOf]; omega
            · have hje : j = x.last.length := by omega
              have e2 : decide ((j : Int) < (x.last.length : Int)) = false := decide_eq_false (by omega)
              rw [hje, List.take_length] at hq
              clear hje
              have hlen2 : (c9 ++ x.last.flatMap (fun r => r.flatMap bWide)).length ≤ 100100 := by
                have hal := fmap_len (f := fun r : List Int => r.flatMap bWide) (l := x.last) (c := 12) (fun r hr => by
                  have h6 := fmap_len (f := bWide) (l := r) (c := 3) (fun _ _ => Nat.le_refl _)
                  have := htb.2 r hr
                  omega)
                have := htb.1
                rw [List.length_append]
                omega
              obtain ⟨cs, hcs⟩ : ∃ cs, c9 ++ x.last.flatMap (fun r => r.flatMap bWide) = cs := ⟨_, rfl⟩
              rw [hcs] at hq hlen2
              replace hcs := Lib.hid hcs
              obtain ⟨pa, pc, rfl⟩ := own_form hq.1
              have hCl := hq.2.2.2.1
              have hCo := hq.2.2.1
              obtain ⟨_, _, m2, m3⟩ := hN9.out _ _ _ hq
              go_upto_region 19 with fail
              have hqd : ByC w0.heap.size C w0 w8 wr.drew (.slice pa cs.length pc) cs := hq.call (below_drewN wr 1)
              have hSB : ∀ o : World, o.heap[C]? = wr.heap[C]? → o.cell? ⟨C, 2, none⟩ = some (.slice ha x.held.length hc) ∧ o.cell? ⟨C, 3, none⟩ = some (.slice ta9 x.told.length tc9) := fun o k1 => ⟨(World.cell?_of_block (w := wr) (a := ⟨C, 2, none⟩) k1).trans m2, (World.cell?_of_block (w := wr) (a := ⟨C, 3, none⟩) k1).trans m3⟩
              have hC9 := msgsB_c (w := wr.drew) (hH.below (hrC.out _ _ _ hqd)) (fun m hm => (okh m hm).2.2.2) (by have := hhl.1; omega)
              refine wp_region_N (fun o => o.cell? ⟨C, 2, none⟩ = some (.slice ha x.held.length hc) ∧ o.cell? ⟨C, 3, none⟩ = some (.slice ta9 x.told.length tc9)) 7 10 rfl (by kernel_rfl) (hSB _ rfl) (fun hSw => ?_)
              refine tk 0 ?_ rfl rfl (by kernel_rfl) (.inl ⟨by rfl, ?_⟩) hSw ?_
              rotate_left
              · rintro w ⟨s0, s1⟩; go_simp; try with_reducible rfl
              simp only [tkp, tkz, tks]
              refine tk 1 ?_ rfl rfl (by kernel_rfl) (.inl ⟨by rfl, ?_⟩) hSw ?_
              rotate_left
              · rintro w ⟨s0, s1⟩; go_simp; try with_reducible rfl
              simp only [tkp, tkz, tks]
              refine tk 2 ?_ rfl rfl (by kernel_rfl) (.inl ⟨by rfl, ?_⟩) hSw ?_
              rotate_left
              · rintro w ⟨s0, s1⟩; go_simp; try with_reducible rfl
              simp only [tkp, tkz, tks]
              refine tk 5 ?_ rfl rfl (by kernel_rfl) (.inl ⟨by rfl, ?_⟩) hSw ?_
              rotate_left
              · rintro w ⟨s0, s1⟩; go_simp; try with_reducible rfl
              simp only [tkp, tkz, tks]
              refine tk 6 ?_ rfl rfl (by kernel_rfl) (.inl ⟨by rfl, ?_⟩) hSw ?_
              rotate_left
              · rintro w ⟨s0, s1⟩; go_simp; try with_reducible rfl
              simp only [tkp, tkz, tks]
              refine N_one' (i := 3) (by kernel_rfl) rfl ?_
              go_wp2_with fail
              refine hC9.mono ?_
              clear hC9
              rintro e w5 ⟨v5, rfl, h5, b5⟩
              have h45 := hqd.call b5
              obtain ⟨ta1, tc1, rfl⟩ := own_form h5
              have hR5 := Row.of_owns h5 (by rw [List.length_map]; have := hhl.1; omega)
              have hA5 := h45.2.2.2.2.1
              have kC5 : w5.heap[C]? = wr.heap[C]? := h45.2.2.2.2.2.trans hq.2.2.2.2.2.symm
              go_wp2_with fail
              refine QK_normal ⟨?_, ?_⟩
              · first | exact fun _ => hSB _ kC5 | exact hSB _ kC5
              refine N_one' (i := 4) (by kernel_rfl) rfl ?_
              go_wp2_with (at_builtin; refine wpList_append_row _ rfl _ _ 81 rfl w0.heap.size 5 i0 _ 1 1 Try.underlying81 hi0 hz0 hz1 hz2 rfl (by decide) (.slice pa cs.length pc) cs.length (cs.map (Value.int .u8)) rfl h45.1 _ _ _ rfl hR5 (by intro u hu; obtain ⟨x, _, rfl⟩ := List.mem_map.1 hu; rfl) (by unfold maxLen; have := hhl.1; omega) (by have := hhl.1; omega) hA5 ?_; intro v' w6 hown' hgrow hat; obtain ⟨ua2, uc2, rfl⟩ := own_form hown')
              have h6 := ByC.app (ds := bMsgs x.held) h45 hown' hgrow hat
              have kC6 : w6.heap[C]? = wr.heap[C]? := h6.2.2.2.2.2.trans hq.2.2.2.2.2.symm
              refine QK_normal ⟨?_, ?_⟩
              · first | exact fun _ => hSB _ kC6 | exact hSB _ kC6
              refine N_rest 7 3 (Nat.le_refl _) rfl (by kernel_rfl) ?_
              simp only [List.drop_succ_cons, List.drop_zero]
              clear h45 hR5 hA5 kC5 hown' hgrow hat h5 b5 hSw kC6
              have hC9 := msgsB_c (w := w6) (hT.below (hrC.out _ _ _ h6)) (fun m hm => (okt m hm).2.2.2) (by have := hhl.2; omega)
              have hcu : cs.length + (bMsgs x.held).length = (cs ++ bMsgs x.held).length := by rw [List.length_append]
              simp only [hcu] at h6 ⊢
              have hlen4 : (cs ++ bMsgs x.held).length ≤ 110581 := by rw [List.length_append]; have := hhl.1; omega
              have hbT := hhl.2
              obtain ⟨d4, hd4⟩ : ∃ d, cs ++ bMsgs x.held = d := ⟨_, rfl⟩
              rw [hd4] at h6 hlen4
              simp only [hd4] at ⊢
              clear hcu
              replace hd4 := Lib.hid hd4
              replace hcs := Lib.hid hcs
              go_wp2_with fail
              refine hC9.mono ?_
              clear hC9
              rintro e w9 ⟨v9, rfl, h9, b9⟩
              have h49 := h6.call b9
              obtain ⟨ta3, tc3, rfl⟩ := own_form h9
              have hR9 := Row.of_owns h9 (by rw [List.length_map]; omega)
              have hA9 := h49.2.2.2.2.1
              go_wp2_with (first | (at_builtin; refine wpList_append_row _ rfl _ _ 81 rfl w0.heap.size 5 i0 _ 1 1 Try.underlying81 hi0 hz0 hz1 hz2 rfl (by decide) (.slice ua2 d4.length uc2) d4.length (d4.map (Value.int .u8)) rfl h49.1 _ _ _ rfl hR9 (by intro u hu; obtain ⟨x, _, rfl⟩ := List.mem_map.1 hu; rfl) (by unfold maxLen; omega) (by omega) hA9 ?_; intro v' w10 hown' hgrow hat; obtain ⟨ua4, uc4, rfl⟩ := own_form hown'))
              have h10 := ByC.app (ds := bMsgs x.told) h49 hown' hgrow hat
              have hall : c7 ++ (X.nodes.take (k + 1)).flatMap bNode = d4 ++ bMsgs x.told := by
                rw [hfe.out, ← hd4.out, ← hcs.out, ← hc9.out]
                unfold bNode
                simp only [List.append_assoc]
              go_roundw
              case rel => exact ⟨k + 1, by omega, by go_num, by rw [hall]; exact h10.out (by have := hs1.out; omega)⟩
              case measure => simp [intOf]; omega
        · have hke : k = X.nodes.length := by omega
          have e1 : decide ((k : Int) < (X.nodes.length : Int)) = false := decide_eq_false (by omega)
          rw [hke, List.take_length] at hp
          clear hke
          have hl8 : (c7 ++ X.nodes.flatMap bNode).length ≤ 84009 := by
            have hal := fmap_len (f := bNode) (l := X.nodes) (c := 21001) (fun x hx => hSh.node x hx)
            have := Nat.mul_le_mul_right 21001 hSh.n
            rw [List.length_append]
            omega
          obtain ⟨c8, hc8⟩ : ∃ c, c7 ++ X.nodes.flatMap bNode = c := ⟨_, rfl⟩
          have hbW2 := hbW.out
          rw [hc8] at hp hl8 hbW2
          clear hc8
          replace hbW2 := Lib.hid hbW2
          go_upto_region 21 with fail
          clear x0 x1 x2
          go_loopw [3, 9] (fun u i wr => ∃ (a : Nat), a ≤ X.wires.length ∧ i = .int .i64 a ∧ ByC w0.heap.size w.heap.size w0 w0 wr u (c8 ++ (X.wires.take a).flatMap (fun r => r.flatMap bMsgs))) (fun _ i _ => X.wires.length - (intOf i).toNat)
          case atStart => exact ⟨0, by omega, rfl, by simp only [List.take_zero, List.flatMap_nil, List.append_nil]; exact hp⟩
          case round =>
            clear hp
            obtain ⟨a, ha, rfl, hp⟩ := hrel
            obtain ⟨_, x0, x1, x2⟩ := hbx.out _ _ _ hp
            by_cases hal : a < X.wires.length
            · obtain ⟨b5, o5, c6, rv, e5, _, r0, hRw⟩ := hw.row hal
              cases e5
              have r0h := Lib.hid r0
              have r0 := ((hrg.out _ _ _ hp).cell (cell_lt r0)).trans r0
              have e2 : decide ((a : Int) < (X.wires.length : Int)) = true := decide_eq_true (by omega)
              have hft2 := bflat_take (fun r : List (List M) => r.flatMap bMsgs) [] hal
              have hmem : X.wires.getD a [] ∈ X.wires := by rw [getD_lt _ _ hal]; exact List.getElem_mem _
              have hr4 := hSh.row _ hmem
              have hrb := hSh.list _ hmem
              have hrk := (okw _ hmem).2
              have hfl := fmap_len (f := fun r : List (List M) => r.flatMap bMsgs) (l := X.wires.take a) (c := 41924) (fun r hr => by
                have h6 := fmap_len (f := bMsgs) (l := r) (c := 10481) (hSh.list r (List.mem_of_mem_take hr))
                have := Nat.mul_le_mul_right 10481 (hSh.row r (List.mem_of_mem_take hr))
                omega)
              have hkl2 : (X.wires.take a).length ≤ 4 := by rw [List.length_take]; have := hSh.w; omega
              obtain ⟨row, hrow⟩ : ∃ r, X.wires.getD a [] = r := ⟨_, rfl⟩
              rw [hrow] at hRw hft2 hr4 hrb hrk
              clear hrow hmem
              obtain ⟨_, ra, rc, rfl, _⟩ := hRw.form
              have hfe : c8 ++ (X.wires.take (a + 1)).flatMap (fun r => r.flatMap bMsgs) = (c8 ++ (X.wires.take a).flatMap (fun r => r.flatMap bMsgs)) ++ row.flatMap bMsgs := by rw [hft2, List.append_assoc]
              have hlen2 : (c8 ++ (X.wires.take a).flatMap (fun r => r.flatMap bMsgs)).length ≤ 300000 := by
                rw [List.length_append]
                have := Nat.mul_le_mul_right 41924 hkl2
                omega
              obtain ⟨d, hd⟩ : ∃ d, c8 ++ (X.wires.take a).flatMap (fun r => r.flatMap bMsgs) = d := ⟨_, rfl⟩
              rw [hd] at hp hlen2 hfe
              clear hd hft2 hfl
              replace hfe := Lib.hid hfe
              go_upto_region 24 with fail
              clear r0 x0 x1 x2
              go_loopw [3, 10] (fun u i wr => ∃ (z : Nat), z ≤ row.length ∧ i = .int .i64 z ∧ ByC w0.heap.size w.heap.size w0 w0 wr u (d ++ (row.take z).flatMap bMsgs)) (fun _ i _ => row.length - (intOf i).toNat)
              case atStart => exact ⟨0, by omega, rfl, by simp only [List.take_zero, List.flatMap_nil, List.append_nil]; exact hp⟩
              case round =>
                clear hp
                obtain ⟨z, hz, rfl, hq⟩ := hrel
                obtain ⟨_, x0, x1, x2⟩ := hbx.out _ _ _ hq
                have r0 := ((hrg.out _ _ _ hq).cell (cell_lt r0h.out)).trans r0h.out
                by_cases hzl : z < row.length
                · obtain ⟨b6, o6, c9, lv, e6, _, t0, hLm⟩ := hRw.at hzl
                  cases e6
                  have t0 := ((hrg.out _ _ _ hq).cell (cell_lt t0)).trans t0
                  have e3 : decide ((z : Int) < (row.length : Int)) = true := decide_eq_true (by omega)
                  have hft3 := bflat_take bMsgs [] hzl
                  have hzm : row.getD z [] ∈ row := by rw [getD_lt _ _ hzl]; exact List.getElem_mem _
                  have hlb := hrb _ hzm
                  have hmk := (hrk _ hzm).2
                  have hfl := fmap_len (f := bMsgs) (l := row.take z) (c := 10481) (fun r hr => hrb r (List.mem_of_mem_take hr))
                  have hkl3 : (row.take z).length ≤ 4 := by rw [List.length_take]; omega
                  obtain ⟨ms, hms⟩ : ∃ r, row.getD z [] = r := ⟨_, rfl⟩
                  rw [hms] at hLm hft3 hlb hmk
                  clear hms hzm
                  obtain ⟨_, ma, mc, rfl, _⟩ := hLm.open
                  have hfe3 : d ++ (row.take (z + 1)).flatMap bMsgs = (d ++ (row.take z).flatMap bMsgs) ++ bMsgs ms := by rw [hft3, List.append_assoc]
                  have hlen3 : (d ++ (row.take z).flatMap bMsgs).length ≤ 400000 := by
                    rw [List.length_append]
                    have := Nat.mul_le_mul_right 10481 hkl3
                    omega
                  obtain ⟨cs, hcs⟩ : ∃ cs, d ++ (row.take z).flatMap bMsgs = cs := ⟨_, rfl⟩
                  rw [hcs] at hq hlen3 hfe3
                  clear hcs hft3 hfl
                  replace hfe3 := Lib.hid hfe3
                  obtain ⟨pa, pc, rfl⟩ := own_form hq.1
                  have hC9 := msgsB_c (w := wr) (hLm.below (hrg.out _ _ _ hq)) (fun m hm => (hmk m hm).2.2.2) (by omega)
                  go_wp2_with fail
                  refine hC9.mono ?_
                  clear hC9
                  rintro e w5 ⟨v5, rfl, h5, b5⟩
                  have h45 := ByC.call hq b5
                  obtain ⟨ta, tc, rfl⟩ := own_form h5
                  have hR5 := Row.of_owns h5 (by rw [List.length_map]; omega)
                  have hA5 := h45.2.2.2.2.1
                  go_wp2_with (first | (at_builtin; refine wpList_append_row _ rfl _ _ 81 rfl w0.heap.size 5 i0 _ 1 1 Try.underlying81 hi0 hz0 hz1 hz2 rfl (by decide) (.slice pa cs.length pc) cs.length (cs.map (Value.int .u8)) rfl h45.1 _ _ _ rfl hR5 (by intro u hu; obtain ⟨x, _, rfl⟩ := List.mem_map.1 hu; rfl) (by unfold maxLen; omega) (by omega) hA5 ?_; intro v' w9 hown' hgrow hat; obtain ⟨ua9, uc9, rfl⟩ := own_form hown'))
                  have q9 := ByC.app (ds := bMsgs ms) h45 hown' hgrow hat
                  clear h45 hR5 hA5 h5 b5 hown' hgrow hat
                  go_roundw
                  case rel => exact ⟨z + 1, by omega, by go_num, by rw [hfe3.out]; exact q9⟩
                  case measure => simp [intOf]; omega
                · have hze : z = row.length := by omega
                  have e3 : decide ((z : Int) < (row.length : Int)) = false := decide_eq_false (by omega)
                  rw [hze, List.take_length, ← hfe.out] at hq
                  clear hze
                  go_wp2_with fail
                  go_roundw
                  case rel => exact ⟨a + 1, by omega, by go_num, hq⟩
                  case measure => simp [intOf]; omega
            · have hae : a = X.wires.length := by omega
              have e2 : decide ((a : Int) < (X.wires.length : Int)) = false := decide_eq_false (by omega)
              have hlw : (c8 ++ X.wires.flatMap (fun r => r.flatMap bMsgs)).length ≤ 1000000 := by
                rw [List.length_append]
                have hfl := fmap_len (f := fun r : List (List M) => r.flatMap bMsgs) (l := X.wires) (c := 41924) (fun r hr => by
                  have h6 := fmap_len (f := bMsgs) (l := r) (c := 10481) (hSh.list r hr)
                  have := Nat.mul_le_mul_right 10481 (hSh.row r hr)
                  omega)
                have := Nat.mul_le_mul_right 41924 hSh.w
                omega
              rw [hae, List.take_length, ← hbW2.out] at hp
              rw [← hbW2.out] at hlw
              clear hae
              have hbF := hrg.out _ _ _ hp
              have ho := hp.1
              obtain ⟨bs, hbs⟩ : ∃ b, bWorld X = b := ⟨_, rfl⟩
              have hne : bs.length ≠ 0 := by
                rw [← hbs]
                unfold bWorld bSmall
                simp
              have hP2 := hP.out
              rw [hbs] at ho hlw hP2
              replace hP2 := Lib.hid hP2
              clear hbs hp hbW hbW2 hP
              obtain ⟨pa, pc, rfl⟩ := own_form ho
              obtain ⟨_, _, _, _, e5, _, hcl⟩ := Row.of_owns ho (by rw [List.length_map]; omega)
              cases e5
              obtain ⟨b5, o5, rfl, hcl2⟩ := hcl hne
              have hconv := run_convert_bytes_arg (P := Try.prog) wr 81 5 Try.underlying81 Try.underlying5 b5 o5 bs.length pc bs rfl (fun i hi => by
                have h5 := hcl2 i (by rw [List.length_map]; exact hi)
                rw [h5, List.getD_eq_getElem?_getD, List.getElem?_map, List.getElem?_eq_getElem hi, getD_lt bs 0 hi]
                rfl) 9 Try.underlying9
              clear hcl hcl2 hne
              go_wp2_with fail
              rw [← hP2.out]
              exact ⟨rfl, hbF⟩
end Go.Proofs.Ytnalakhelicjcaa
