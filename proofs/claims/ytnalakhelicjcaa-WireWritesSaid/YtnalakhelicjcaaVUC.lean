/-
  The document's ear: a byte, three; what is not there is 0.
-/
import Derived.Test.YtnalakhelicjcaaVUB
set_option maxRecDepth 100000
namespace Go.Proofs.Ytnalakhelicjcaa
open Go.RowKit Go.Shelf Go.BigFrame Go.Deep

/-- A reader that never fails. -/
abbrev Ear (α : Type) := List Int → α × List Int
def byteE : Ear Int
  | [] => (0, [])
  | a :: t => (a, t)
def threeE : Ear Int := fun l => (256 * (256 * (byteE l).1 + (byteE (byteE l).2).1) + (byteE (byteE (byteE l).2).2).1, (byteE (byteE (byteE l).2).2).2)
theorem byteE_small {l t : List Int} {n : Int} (h : smallP l = some (n, t)) : byteE l = (n, t) := by
  cases l with
  | nil => cases h
  | cons a u =>
    have h : some (a, u) = some (n, t) := h
    simpa [byteE] using h
theorem threeE_wide {l t : List Int} {n : Int} (h : wideP l = some (n, t)) : threeE l = (n, t) := by
  match l, h with
  | a :: b :: c :: u, h =>
    have h : some (a * 65536 + b * 256 + c, u) = some (n, t) := h
    obtain ⟨rfl, rfl⟩ : a * 65536 + b * 256 + c = n ∧ u = t := by simpa using h
    show (256 * (256 * a + b) + c, u) = _
    rw [show 256 * (256 * a + b) + c = a * 65536 + b * 256 + c by omega]
theorem byteE_octs {l : List Int} (h : octs l) : octs (byteE l).2 ∧ 0 ≤ (byteE l).1 ∧ (byteE l).1 ≤ 255 := by
  cases l with
  | nil => exact ⟨h, by decide, by decide⟩
  | cons a t => exact ⟨fun x hx => h x (List.mem_cons_of_mem _ hx), h a (List.mem_cons_self ..)⟩
/-- The ear in block G; what it has left. -/
def EarAt (w : World) (G : Nat) (l : List Int) : Prop := octs l ∧ BlkIs w G 110 1 ∧ w.cell? ⟨G, 0, none⟩ = some (.string (strOfNums l))
theorem EarAt.lt {w : World} {G : Nat} {l : List Int} (h : EarAt w G l) : G < w.heap.size := h.2.1.lt
theorem EarAt.keep {w w' : World} {G : Nat} {l : List Int} (h : EarAt w G l) (k : w'.heap[G]? = w.heap[G]?) : EarAt w' G l :=
  ⟨h.1, h.2.1.same k, (World.cell?_of_block (w := w) (a := ⟨G, 0, none⟩) k).trans h.2.2⟩
theorem EarAt.put {w : World} {G : Nat} {l t : List Int} (h : EarAt w G l) (ht : octs t) : EarAt (w.setCell ⟨G, 0, none⟩ (.string (strOfNums t))) G t := ⟨ht, h.2.1.setCell, h.2.1.cell_set (by omega)⟩
theorem EarAt.below {w w' : World} {G : Nat} {l : List Int} (h : EarAt w G l) (k : Below w.heap.size w w') : EarAt w' G l := h.keep (k.block G h.lt)
def EaPost {α : Type} (w : World) (G : Nat) (r : α × List Int) (V : World → Value → α → Prop) (e : Ending) (w' : World) : Prop :=
  Save (fun b => b = G) w w' ∧ ∃ v, e = .returned v ∧ V w' v r.1 ∧ EarAt w' G r.2
theorem str_empU (l : List Int) : (strOfNums l).toList.isEmpty = l.isEmpty := by
  rw [ByteArray.toList_eq]
  unfold strOfNums
  cases l <;> rfl
theorem byte_c {w : World} {G : Nat} {l : List Int} (h : EarAt w G l) : Calls Try.prog 59 #[.pointer (some ⟨G, 0, none⟩)] w (EaPost w G (byteE l) (fun _ v x => v = .int .i64 x)) := by
  obtain ⟨ho, hB, h0⟩ := id h
  have hf := hB.frozen 0
  have hl := str_len (l := l)
  have he := str_empU l
  go_enter Try.func59, Try.ntmps59
  cases l with
  | nil =>
    have he : (strOfNums []).toList.isEmpty = true := he
    go_wp2_with fail
    go_ret
    exact ⟨Save.refl _ _, _, rfl, rfl, h⟩
  | cons a t =>
    have he : (strOfNums (a :: t)).toList.isEmpty = false := he
    have h1 := str_at (l := a :: t) (i := 0) (by rw [str_len]; simp) ho
    simp only [List.getElem_cons_zero] at h1
    have hd := str_drop (a :: t) 1
    have hp := h.put (t := t) (octs_drop ho 1)
    have ha := ho a (List.mem_cons_self ..)
    simp only [List.length_cons, List.drop_succ_cons, List.drop_zero] at hl hd
    go_wp2_with fail
    go_ret
    exact ⟨save_cell, _, rfl, rfl, hp⟩
theorem three_c {w : World} {G : Nat} {l : List Int} (h : EarAt w G l) : Calls Try.prog 60 #[.pointer (some ⟨G, 0, none⟩)] w (EaPost w G (threeE l) (fun _ v x => v = .int .i64 x)) := by
  have hC := byte_c h
  have hr : threeE l = (256 * (256 * (byteE l).1 + (byteE (byteE l).2).1) + (byteE (byteE (byteE l).2).2).1, (byteE (byteE (byteE l).2).2).2) := rfl
  have o1 := (byteE_octs h.1).2
  have o2 := (byteE_octs (byteE_octs h.1).1).2
  have o3 := (byteE_octs (byteE_octs (byteE_octs h.1).1).1).2
  obtain ⟨P, hP⟩ : ∃ P, EaPost w G (threeE l) (fun _ v x => v = .int .i64 x) = P := ⟨_, rfl⟩
  rw [hP]
  rw [hr] at hP
  clear hr
  generalize byteE l = p1 at *
  obtain ⟨a, l1⟩ := p1
  dsimp only at hP hC o1 o2 o3
  replace hP := Lib.hid hP
  go_enter Try.func60, Try.ntmps60
  go_wp2_with fail
  refine hC.mono ?_
  clear hC
  rintro e w1 ⟨s1, v1, rfl, rfl, h1⟩
  have hC := byte_c h1
  generalize byteE l1 = p2 at *
  obtain ⟨b, l2⟩ := p2
  dsimp only at hP hC o2 o3
  go_wp2_with fail
  refine hC.mono ?_
  clear hC
  rintro e w2 ⟨s2, v2, rfl, rfl, h2⟩
  have hC := byte_c h2
  generalize byteE l2 = p3 at *
  obtain ⟨c, l3⟩ := p3
  dsimp only at hP hC o3
  go_wp2_with fail
  refine hC.mono ?_
  clear hC
  rintro e w3 ⟨s3, v3, rfl, rfl, h3⟩
  go_wp2_with fail
  rw [← hP.out]
  exact ⟨(s1.trans s2 (fun _ h _ => h)).trans s3 (fun _ h _ => h), _, rfl, rfl, h3⟩
end Go.Proofs.Ytnalakhelicjcaa
set_option maxRecDepth 100000
namespace Go.Proofs.Ytnalakhelicjcaa
open Go.RowKit Go.Shelf Go.BigFrame Go.Deep

theorem threeE_rng {l : List Int} (h : octs l) : 0 ≤ (threeE l).1 ∧ (threeE l).1 < 16777216 := by
  have h1 := byteE_octs h
  have h2 := byteE_octs h1.1
  have h3 := byteE_octs h2.1
  unfold threeE
  dsimp only
  omega
def emsg : Ear M := fun l =>
  ((⟨(byteE l).1, (byteE (byteE l).2).1, (threeE ((byteE (byteE (byteE (byteE l).2).2).2).2.drop (min (byteE (byteE (byteE (byteE l).2).2).2).1 ((byteE (byteE (byteE (byteE l).2).2).2).2.length : Int)).toNat)).1, (byteE (byteE (byteE l).2).2).1 == 1,
    strOfNums ((byteE (byteE (byteE (byteE l).2).2).2).2.take (min (byteE (byteE (byteE (byteE l).2).2).2).1 ((byteE (byteE (byteE (byteE l).2).2).2).2.length : Int)).toNat)⟩ : M),
   (threeE ((byteE (byteE (byteE (byteE l).2).2).2).2.drop (min (byteE (byteE (byteE (byteE l).2).2).2).1 ((byteE (byteE (byteE (byteE l).2).2).2).2.length : Int)).toNat)).2)
def emany {α : Type} (p : Ear α) : Nat → Ear (List α)
  | 0, l => ([], l)
  | n + 1, l => ((emany p n l).1 ++ [(p (emany p n l).2).1], (p (emany p n l).2).2)
def emsgs : Ear (List M) := fun l => emany emsg (byteE l).1.toNat (byteE l).2
theorem emany_len {α : Type} (p : Ear α) : ∀ (n : Nat) (l : List Int), (emany p n l).1.length = n
  | 0, _ => rfl
  | n + 1, l => by
    show ((emany p n l).1 ++ [_]).length = _
    rw [List.length_append, emany_len p n l]
    rfl
theorem emsg_at {l l1 l2 l3 l4 l6 : List Int} {a g z n s : Int} {k : Nat} (e1 : byteE l = (a, l1)) (e2 : byteE l1 = (g, l2)) (e3 : byteE l2 = (z, l3)) (e4 : byteE l3 = (n, l4)) (hk : min n (l4.length : Int) = k) (e5 : threeE (l4.drop k) = (s, l6)) :
    emsg l = (⟨a, g, s, z == 1, strOfNums (l4.take k)⟩, l6) := by
  unfold emsg
  simp only [e1, e2, e3, e4, hk, Int.toNat_natCast, e5]

set_option maxHeartbeats 2000000 in
theorem emsgs_c {w : World} {G : Nat} {l : List Int} (h : EarAt w G l) : Calls Try.prog 61 #[.pointer (some ⟨G, 0, none⟩)] w (EaPost w G (emsgs l) (ListV MEl 33 5 w)) := by
  obtain ⟨P, hP⟩ : ∃ P, EaPost w G (emsgs l) (ListV MEl 33 5 w) = P := ⟨_, rfl⟩
  rw [hP]
  unfold emsgs at hP
  have hol := h.1
  have sv := Save.refl (fun b => b = G) w
  have hGl := h.lt
  obtain ⟨i0, hi0, hz0, hz1, hz2⟩ := info_parts infoCMsg
  replace hP := Lib.hid hP
  go_enter Try.func61, Try.ntmps61
  obtain ⟨p9, e0⟩ : ∃ p, byteE l = p := ⟨_, rfl⟩
  obtain ⟨nn, l1⟩ := p9
  have hb9 := byteE_octs hol
  rw [e0] at hb9
  obtain ⟨hol1, hvnn⟩ := hb9
  dsimp only at hol1 hvnn
  have hC9 := byte_c h
  rw [e0] at hC9
  replace e0 := Lib.hid e0
  go_wp2_with fail
  refine hC9.mono ?_
  clear hC9
  rintro e w1 ⟨s9, v9, rfl, hv9, h1⟩
  obtain rfl : v9 = .int .i64 nn := hv9
  dsimp only at h1
  have sv9 := sv.trans s9 (fun _ h _ => h)
  clear sv
  have sv := sv9
  clear sv9
  obtain ⟨N, rfl⟩ := Int.eq_ofNat_of_zero_le hvnn.1
  clear h s9
  go_upto_region 3 with fail
  go_loopw [3, 4] (fun v i wr => ∃ j : Nat, j ≤ N ∧ i = .int .i64 ((N - j : Nat) : Int) ∧ ListV MEl 33 5 w wr v (emany emsg j l1).1 ∧ EarAt wr G (emany emsg j l1).2 ∧ Save (fun b => b = G) w wr) (fun _ i _ => (intOf i).toNat)
  case atStart => exact ⟨0, by omega, rfl, ⟨fun _ => False, OSl.nil _ _ _ _ _ _, fun _ hb => hb.elim⟩, h1, sv⟩
  case round =>
    clear h1 sv
    obtain ⟨j, hj, rfl, ⟨S, hO, hS⟩, hE, sv⟩ := hrel
    have hxl := emany_len emsg j l1
    have hem : emany emsg (j + 1) l1 = ((emany emsg j l1).1 ++ [(emsg (emany emsg j l1).2).1], (emsg (emany emsg j l1).2).2) := rfl
    by_cases hlt : j < N
    · have e9 : decide (((N - j : Nat) : Int) > 0) = true := decide_eq_true (by omega)
      generalize emany emsg j l1 = p at *
      obtain ⟨xs, t⟩ := p
      dsimp only at hO hE hxl hem
      obtain ⟨a, c, rfl, _, _⟩ := OSl.form hO
      have hx8 : xs.length ≤ 255 := by omega
      replace hxl := Lib.hid hxl
      have hot := hE.1
      obtain ⟨p9, q1⟩ : ∃ p, byteE t = p := ⟨_, rfl⟩
      obtain ⟨ma, t1⟩ := p9
      have hb9 := byteE_octs hot
      rw [q1] at hb9
      obtain ⟨hot1, hvma⟩ := hb9
      dsimp only at hot1 hvma
      have hC9 := byte_c hE
      rw [q1] at hC9
      replace q1 := Lib.hid q1
      go_wp2_with fail
      refine hC9.mono ?_
      clear hC9
      rintro e w2 ⟨s9, v9, rfl, hv9, h2⟩
      obtain rfl : v9 = .int .i64 ma := hv9
      dsimp only at h2
      have sv9 := sv.trans s9 (fun _ h _ => h)
      clear sv
      have sv := sv9
      clear sv9
      have sz2 := s9.size
      have hO2 := OSl.keep MEl.stays hO (w' := w2) (fun b hb => s9.block b (hS b hb).2 (by have := (hS b hb).1; omega))
      have bA := below_a1 w2 (.cells #[.int .i64 ma, .int .i64 0, .int .i64 0, .bool false, .string ⟨#[]⟩] 33)
      have hM3 : BlkIs (w2.alloc (.cells #[.int .i64 ma, .int .i64 0, .int .i64 0, .bool false, .string ⟨#[]⟩] 33)) w2.heap.size 33 5 := ⟨_, heap_alloc_new w2 _, rfl⟩
      have hMb := MsgBox.new w2 ⟨ma, 0, 0, false, ⟨#[]⟩⟩ 33
      have h3 := h2.below bA
      have hO3 := OSl.keep MEl.stays hO2 (w' := w2.alloc (.cells #[.int .i64 ma, .int .i64 0, .int .i64 0, .bool false, .string ⟨#[]⟩] 33)) (fun b hb => bA.block b (Nat.lt_of_lt_of_le (hS b hb).2 sz2))
      have sv3 := sv.then (bA.mono sv.size)
      have hgl2 := h2.lt
      have hwl := sv.size
      clear sv s9 h2 hE hO hO2
      have sv := sv3
      clear sv3
      go_upto_region 6 with fail
      change MsgBox (w2.alloc (.cells #[.int .i64 ma, .int .i64 0, .int .i64 0, .bool false, .string ⟨#[]⟩] 33)) _ _ at hMb
      generalize w2.alloc (.cells #[.int .i64 ma, .int .i64 0, .int .i64 0, .bool false, .string ⟨#[]⟩] 33) = w3 at *
      obtain ⟨C, hC⟩ : ∃ C, w2.heap.size = C := ⟨_, rfl⟩
      have hwrC : wr.heap.size ≤ C := by omega
      simp only [hC] at hM3 hMb hgl2 hwl ⊢
      clear hC bA sz2
      have hCG : C ≠ G := by omega
      obtain ⟨m0, m1', m2, m3, m4⟩ := hMb
      have m1 := m1'
      dsimp only at m0 m1 m2 m3 m4
      have hCw := Lib.hid hwl
      clear m1'
      obtain ⟨p9, q2⟩ : ∃ p, byteE t1 = p := ⟨_, rfl⟩
      obtain ⟨mg, t2⟩ := p9
      have hb9 := byteE_octs hot1
      rw [q2] at hb9
      obtain ⟨hot2, hvmg⟩ := hb9
      dsimp only at hot2 hvmg
      have hC9 := byte_c h3
      rw [q2] at hC9
      replace q2 := Lib.hid q2
      go_wp2_with fail
      refine hC9.mono ?_
      clear hC9
      rintro e w4 ⟨s9, v9, rfl, hv9, h4⟩
      obtain rfl : v9 = .int .i64 mg := hv9
      dsimp only at h4
      have sv9 := sv.trans s9 (fun _ h _ => h)
      clear sv
      have sv := sv9
      clear sv9
      have n0 := (World.cell?_of_block (w := w3) (a := ⟨C, 0, none⟩) (s9.block C hM3.lt hCG)).trans m0
      have n1 := (World.cell?_of_block (w := w3) (a := ⟨C, 1, none⟩) (s9.block C hM3.lt hCG)).trans m1
      have n2 := (World.cell?_of_block (w := w3) (a := ⟨C, 2, none⟩) (s9.block C hM3.lt hCG)).trans m2
      have n3 := (World.cell?_of_block (w := w3) (a := ⟨C, 3, none⟩) (s9.block C hM3.lt hCG)).trans m3
      have n4 := (World.cell?_of_block (w := w3) (a := ⟨C, 4, none⟩) (s9.block C hM3.lt hCG)).trans m4
      have hM4 := hM3.same (s9.block C hM3.lt hCG)
      have hO4 := OSl.keep MEl.stays hO3 (w' := w4) (fun b hb => s9.block b (by have := (hS b hb).2; have := hM3.lt; omega) (by have := (hS b hb).1; omega))
      clear s9 m0 m1 m2 m3 m4 hM3 hO3 h3
      have f9 := hM4.frozen 1
      have sv9 := sv.then (below_setCell (a := ⟨C, 1, none⟩) (Below.refl w.heap.size w4) hCw.out (.int .i64 mg))
      have h5 := h4.keep (w' := w4.setCell ⟨C, 1, none⟩ (.int .i64 mg)) (Go.Deep.blk_setCell_other _ _ _ _ (fun e => hCG e.symm))
      have hM5 := hM4.setCell (a := 1) (u := .int .i64 mg)
      have hO5 := OSl.keep MEl.stays hO4 (w' := w4.setCell ⟨C, 1, none⟩ (.int .i64 mg)) (fun b hb => Go.Deep.blk_setCell_other _ _ _ _ (by have := (hS b hb).2; show b ≠ C; omega))
      have m1 := hM4.cell_set (a := 1) (u := .int .i64 mg) (by omega)
      have m0 := (cell_setCell (u := .int .i64 mg) (a := 1) 0 (by omega)).trans n0
      have m2 := (cell_setCell (u := .int .i64 mg) (a := 1) 2 (by omega)).trans n2
      have m3 := (cell_setCell (u := .int .i64 mg) (a := 1) 3 (by omega)).trans n3
      have m4 := (cell_setCell (u := .int .i64 mg) (a := 1) 4 (by omega)).trans n4
      go_upto_region 7 with fail
      generalize w4.setCell ⟨C, 1, none⟩ (.int .i64 mg) = w5 at *
      clear n0 n1 n2 n3 n4 f9 sv h4 hM4 hO4
      have sv := sv9
      clear sv9
      obtain ⟨p9, q3⟩ : ∃ p, byteE t2 = p := ⟨_, rfl⟩
      obtain ⟨mz, t3⟩ := p9
      have hb9 := byteE_octs hot2
      rw [q3] at hb9
      obtain ⟨hot3, hvmz⟩ := hb9
      dsimp only at hot3 hvmz
      have hC9 := byte_c h5
      rw [q3] at hC9
      replace q3 := Lib.hid q3
      go_wp2_with fail
      refine hC9.mono ?_
      clear hC9
      rintro e w6 ⟨s9, v9, rfl, hv9, h6⟩
      obtain rfl : v9 = .int .i64 mz := hv9
      dsimp only at h6
      have sv9 := sv.trans s9 (fun _ h _ => h)
      clear sv
      have sv := sv9
      clear sv9
      have n0 := (World.cell?_of_block (w := w5) (a := ⟨C, 0, none⟩) (s9.block C hM5.lt hCG)).trans m0
      have n1 := (World.cell?_of_block (w := w5) (a := ⟨C, 1, none⟩) (s9.block C hM5.lt hCG)).trans m1
      have n2 := (World.cell?_of_block (w := w5) (a := ⟨C, 2, none⟩) (s9.block C hM5.lt hCG)).trans m2
      have n3 := (World.cell?_of_block (w := w5) (a := ⟨C, 3, none⟩) (s9.block C hM5.lt hCG)).trans m3
      have n4 := (World.cell?_of_block (w := w5) (a := ⟨C, 4, none⟩) (s9.block C hM5.lt hCG)).trans m4
      have hM6 := hM5.same (s9.block C hM5.lt hCG)
      have hO6 := OSl.keep MEl.stays hO5 (w' := w6) (fun b hb => s9.block b (by have := (hS b hb).2; have := hM5.lt; omega) (by have := (hS b hb).1; omega))
      clear s9 m0 m1 m2 m3 m4 hM5 hO5 h5
      have f9 := hM6.frozen 3
      have sv9 := sv.then (below_setCell (a := ⟨C, 3, none⟩) (Below.refl w.heap.size w6) hCw.out (.bool (mz == 1)))
      have h7 := h6.keep (w' := w6.setCell ⟨C, 3, none⟩ (.bool (mz == 1))) (Go.Deep.blk_setCell_other _ _ _ _ (fun e => hCG e.symm))
      have hM7 := hM6.setCell (a := 3) (u := .bool (mz == 1))
      have hO7 := OSl.keep MEl.stays hO6 (w' := w6.setCell ⟨C, 3, none⟩ (.bool (mz == 1))) (fun b hb => Go.Deep.blk_setCell_other _ _ _ _ (by have := (hS b hb).2; show b ≠ C; omega))
      have m3 := hM6.cell_set (a := 3) (u := .bool (mz == 1)) (by omega)
      have m0 := (cell_setCell (u := .bool (mz == 1)) (a := 3) 0 (by omega)).trans n0
      have m1 := (cell_setCell (u := .bool (mz == 1)) (a := 3) 1 (by omega)).trans n1
      have m2 := (cell_setCell (u := .bool (mz == 1)) (a := 3) 2 (by omega)).trans n2
      have m4 := (cell_setCell (u := .bool (mz == 1)) (a := 3) 4 (by omega)).trans n4
      go_upto_region 8 with fail
      generalize w6.setCell ⟨C, 3, none⟩ (.bool (mz == 1)) = w7 at *
      clear n0 n1 n2 n3 n4 f9 sv h6 hM6 hO6
      have sv := sv9
      clear sv9
      obtain ⟨p9, q4⟩ : ∃ p, byteE t3 = p := ⟨_, rfl⟩
      obtain ⟨mn, t4⟩ := p9
      have hb9 := byteE_octs hot3
      rw [q4] at hb9
      obtain ⟨hot4, hvmn⟩ := hb9
      dsimp only at hot4 hvmn
      have hC9 := byte_c h7
      rw [q4] at hC9
      replace q4 := Lib.hid q4
      go_wp2_with fail
      refine hC9.mono ?_
      clear hC9
      rintro e w8 ⟨s9, v9, rfl, hv9, h8⟩
      obtain rfl : v9 = .int .i64 mn := hv9
      dsimp only at h8
      have sv9 := sv.trans s9 (fun _ h _ => h)
      clear sv
      have sv := sv9
      clear sv9
      have n0 := (World.cell?_of_block (w := w7) (a := ⟨C, 0, none⟩) (s9.block C hM7.lt hCG)).trans m0
      have n1 := (World.cell?_of_block (w := w7) (a := ⟨C, 1, none⟩) (s9.block C hM7.lt hCG)).trans m1
      have n2 := (World.cell?_of_block (w := w7) (a := ⟨C, 2, none⟩) (s9.block C hM7.lt hCG)).trans m2
      have n3 := (World.cell?_of_block (w := w7) (a := ⟨C, 3, none⟩) (s9.block C hM7.lt hCG)).trans m3
      have n4 := (World.cell?_of_block (w := w7) (a := ⟨C, 4, none⟩) (s9.block C hM7.lt hCG)).trans m4
      have hM8 := hM7.same (s9.block C hM7.lt hCG)
      have hO8 := OSl.keep MEl.stays hO7 (w' := w8) (fun b hb => s9.block b (by have := (hS b hb).2; have := hM7.lt; omega) (by have := (hS b hb).1; omega))
      clear s9 m0 m1 m2 m3 m4 hM7 hO7 h7
      obtain ⟨k, hk⟩ := Int.eq_ofNat_of_zero_le (show 0 ≤ min mn (t4.length : Int) by omega)
      have hkl : k ≤ t4.length := by omega
      have hmn : (if (t4.length : Int) < mn then (t4.length : Int) else mn) = (k : Int) := by rw [← hk]; split <;> omega
      have hsl := str_len (l := t4)
      obtain ⟨_, hEB, hEc⟩ := id h8
      replace hk := Lib.hid hk
      have hsx := str_take t4 k
      have hsd := str_drop t4 k
      go_upto_region 10 with fail
      have f9 := hM8.frozen 4
      have sv9 := sv.then (below_setCell (a := ⟨C, 4, none⟩) (Below.refl w.heap.size w8) hCw.out (.string (strOfNums (t4.take k))))
      have h9 := h8.keep (w' := w8.setCell ⟨C, 4, none⟩ (.string (strOfNums (t4.take k)))) (Go.Deep.blk_setCell_other _ _ _ _ (fun e => hCG e.symm))
      have hM9 := hM8.setCell (a := 4) (u := .string (strOfNums (t4.take k)))
      have hO9 := OSl.keep MEl.stays hO8 (w' := w8.setCell ⟨C, 4, none⟩ (.string (strOfNums (t4.take k)))) (fun b hb => Go.Deep.blk_setCell_other _ _ _ _ (by have := (hS b hb).2; show b ≠ C; omega))
      have m4 := hM8.cell_set (a := 4) (u := .string (strOfNums (t4.take k))) (by omega)
      have m0 := (cell_setCell (u := .string (strOfNums (t4.take k))) (a := 4) 0 (by omega)).trans n0
      have m1 := (cell_setCell (u := .string (strOfNums (t4.take k))) (a := 4) 1 (by omega)).trans n1
      have m2 := (cell_setCell (u := .string (strOfNums (t4.take k))) (a := 4) 2 (by omega)).trans n2
      have m3 := (cell_setCell (u := .string (strOfNums (t4.take k))) (a := 4) 3 (by omega)).trans n3
      go_upto_region 11 with fail
      generalize w8.setCell ⟨C, 4, none⟩ (.string (strOfNums (t4.take k))) = w9 at *
      clear n0 n1 n2 n3 n4 f9 sv h8 hM8 hO8
      have sv := sv9
      clear sv9
      obtain ⟨_, hEB, hEc⟩ := id h9
      have hef := hEB.frozen 0
      have h10 := h9.put (octs_drop hot4 k)
      have s9 : Save (fun b => b = G) w9 (w9.setCell ⟨G, 0, none⟩ (.string (strOfNums (t4.drop k)))) := save_cell
      go_upto_region 12 with fail
      generalize w9.setCell ⟨G, 0, none⟩ (.string (strOfNums (t4.drop k))) = w10 at *
      have sv10 := sv.trans s9 (fun _ h _ => h)
      clear sv hEB hEc hef
      have sv := sv10
      clear sv10
      have n0 := (World.cell?_of_block (w := w9) (a := ⟨C, 0, none⟩) (s9.block C hM9.lt hCG)).trans m0
      have n1 := (World.cell?_of_block (w := w9) (a := ⟨C, 1, none⟩) (s9.block C hM9.lt hCG)).trans m1
      have n2 := (World.cell?_of_block (w := w9) (a := ⟨C, 2, none⟩) (s9.block C hM9.lt hCG)).trans m2
      have n3 := (World.cell?_of_block (w := w9) (a := ⟨C, 3, none⟩) (s9.block C hM9.lt hCG)).trans m3
      have n4 := (World.cell?_of_block (w := w9) (a := ⟨C, 4, none⟩) (s9.block C hM9.lt hCG)).trans m4
      have hM10 := hM9.same (s9.block C hM9.lt hCG)
      have hO10 := OSl.keep MEl.stays hO9 (w' := w10) (fun b hb => s9.block b (by have := (hS b hb).2; have := hM9.lt; omega) (by have := (hS b hb).1; omega))
      clear s9 m0 m1 m2 m3 m4 hM9 hO9 h9
      have m0 := n0
      have m1 := n1
      have m2 := n2
      have m3 := n3
      have m4 := n4
      clear n0 n1 n2 n3 n4 hsx hsd hsl hmn
      have hC9 := three_c h10
      obtain ⟨p9, q5⟩ : ∃ p, threeE (t4.drop k) = p := ⟨_, rfl⟩
      obtain ⟨ms, t6⟩ := p9
      rw [q5] at hC9
      have hms := threeE_rng (octs_drop hot4 k)
      rw [q5] at hms
      dsimp only at hms
      have hem2 := emsg_at q1.out q2.out q3.out q4.out hk.out q5
      clear q5
      go_wp2_with fail
      refine hC9.mono ?_
      clear hC9
      rintro e w11 ⟨s9, v9, rfl, hv9, h11⟩
      obtain rfl : v9 = .int .i64 ms := hv9
      dsimp only at h11
      have sv11 := sv.trans s9 (fun _ h _ => h)
      clear sv
      have sv := sv11
      clear sv11
      have n0 := (World.cell?_of_block (w := w10) (a := ⟨C, 0, none⟩) (s9.block C hM10.lt hCG)).trans m0
      have n1 := (World.cell?_of_block (w := w10) (a := ⟨C, 1, none⟩) (s9.block C hM10.lt hCG)).trans m1
      have n2 := (World.cell?_of_block (w := w10) (a := ⟨C, 2, none⟩) (s9.block C hM10.lt hCG)).trans m2
      have n3 := (World.cell?_of_block (w := w10) (a := ⟨C, 3, none⟩) (s9.block C hM10.lt hCG)).trans m3
      have n4 := (World.cell?_of_block (w := w10) (a := ⟨C, 4, none⟩) (s9.block C hM10.lt hCG)).trans m4
      have hM11 := hM10.same (s9.block C hM10.lt hCG)
      have hO11 := OSl.keep MEl.stays hO10 (w' := w11) (fun b hb => s9.block b (by have := (hS b hb).2; have := hM10.lt; omega) (by have := (hS b hb).1; omega))
      clear s9 m0 m1 m2 m3 m4 hM10 hO10 h10
      rw [hem2] at hem
      replace hem2 := Lib.hid hem2
      have f9 := hM11.frozen 2
      have sv9 := sv.then (below_setCell (a := ⟨C, 2, none⟩) (Below.refl w.heap.size w11) hCw.out (.int .i64 ms))
      have h12 := h11.keep (w' := w11.setCell ⟨C, 2, none⟩ (.int .i64 ms)) (Go.Deep.blk_setCell_other _ _ _ _ (fun e => hCG e.symm))
      have hM12 := hM11.setCell (a := 2) (u := .int .i64 ms)
      have hO12 := OSl.keep MEl.stays hO11 (w' := w11.setCell ⟨C, 2, none⟩ (.int .i64 ms)) (fun b hb => Go.Deep.blk_setCell_other _ _ _ _ (by have := (hS b hb).2; show b ≠ C; omega))
      have m2 := hM11.cell_set (a := 2) (u := .int .i64 ms) (by omega)
      have m0 := (cell_setCell (u := .int .i64 ms) (a := 2) 0 (by omega)).trans n0
      have m1 := (cell_setCell (u := .int .i64 ms) (a := 2) 1 (by omega)).trans n1
      have m3 := (cell_setCell (u := .int .i64 ms) (a := 2) 3 (by omega)).trans n3
      have m4 := (cell_setCell (u := .int .i64 ms) (a := 2) 4 (by omega)).trans n4
      go_upto_region 13 with fail
      generalize w11.setCell ⟨C, 2, none⟩ (.int .i64 ms) = w12 at *
      clear n0 n1 n2 n3 n4 f9 sv h11 hM11 hO11
      have sv := sv9
      clear sv9
      replace hem := Lib.hid hem
      have hfit : (M.mk ma mg ms (mz == 1) (strOfNums (t4.take k))).fits := by
        have hk2 := hk.out
        refine ⟨?_, ?_, ?_, ?_⟩
        · unfold I64; dsimp only; omega
        · unfold I64; dsimp only; omega
        · unfold I64; dsimp only; omega
        · dsimp only
          rw [str_len, List.length_take]
          omega
      have hnew : ∀ j u, (M.mk ma mg ms (mz == 1) (strOfNums (t4.take k))).cells[j]? = some u → (w12.alloc (.cells #[.int .i64 ma, .int .i64 mg, .int .i64 ms, .bool (mz == 1), .string (strOfNums (t4.take k))] 33)).cell? ((⟨w12.heap.size, 0, none⟩ : Addr).add j) = some u := cells_new w12 (M.mk ma mg ms (mz == 1) (strOfNums (t4.take k))).cells.toArray 33
      have ba12 := below_a1 w12 (.cells #[.int .i64 ma, .int .i64 mg, .int .i64 ms, .bool (mz == 1), .string (strOfNums (t4.take k))] 33)
      have hO13 := OSl.keep MEl.stays hO12 (w' := w12.alloc (.cells #[.int .i64 ma, .int .i64 mg, .int .i64 ms, .bool (mz == 1), .string (strOfNums (t4.take k))] 33)) (fun b hb => ba12.block b (by have := (hS b hb).2; have := hM12.lt; omega))
      have hCl := hM12.lt
      have hsz := ba12.size
      have hgl := h12.lt
      go_wp2_with (at_builtin; refine wpList_push _ rfl _ _ 24 rfl 33 i0 _ 5 48 Try.underlying24 hi0 hz0 hz1 hz2 rfl (by decide) MEl.stays _ rfl S xs hO13 (fun b hb => by have := (hS b hb).2; omega) ⟨w12.heap.size, 0, none⟩ _ rfl (M.mk ma mg ms (mz == 1) (strOfNums (t4.take k))).cells rfl hnew (by simp [M.cells, Value.oneCell']) (fun _ => False) (M.mk ma mg ms (mz == 1) (strOfNums (t4.take k))) ⟨rfl, hfit⟩ (fun _ h => h.elim) (by omega) (by omega) (by omega) ?_; intro v14 w14 hp; obtain ⟨⟨S14, hO14, hS14⟩, hz14, hL14, hB14, a14, cap14, rfl⟩ := hp)
      go_roundw
      case rel =>
        have hSG : ¬ S G := fun hs => by have := (hS G hs).1; omega
        refine ⟨j + 1, by omega, by rw [show N - (j + 1) = N - j - 1 by omega]; go_num, ?_, ?_, sv.then ((ba12.mono (by have := hCw.out; omega)).trans (hB14 w.heap.size (fun b hb => (hS b hb).1) (by have := hCw.out; omega)))⟩
        · rw [hem.out]
          exact ⟨S14, hO14, fun b hb => ⟨by
            rcases (hS14 b hb).1 with h1 | h1 | h1
            · exact (hS b h1).1
            · exact h1.elim
            · have := hCw.out; omega, (hS14 b hb).2⟩⟩
        · rw [hem.out]
          exact h12.keep ((hL14 G ⟨by omega, hSG⟩).trans (ba12.block G hgl))
      case measure => simp [intOf]; omega
    · obtain rfl : N = j := by omega
      have e9 : decide (((N - N : Nat) : Int) > 0) = false := decide_eq_false (by omega)
      obtain ⟨a, c, rfl, _, _⟩ := OSl.form hO
      have hp9 : P = EaPost w G (emany emsg N l1) (ListV MEl 33 5 w) := by
        rw [← hP.out, e0.out]
        rfl
      replace hp9 := Lib.hid hp9
      go_wp2_with fail
      rw [hp9.out]
      exact ⟨sv, _, rfl, ⟨S, hO, hS⟩, hE⟩
end Go.Proofs.Ytnalakhelicjcaa
set_option maxRecDepth 100000
namespace Go.Proofs.Ytnalakhelicjcaa
open Go.RowKit Go.Shelf Go.BigFrame Go.Deep

/-- A world that grows in box B; the ear in block G; all else lies as it lay in W. -/
def FrW (W w : World) (G B : Nat) (S1 S2 S3 : Nat → Prop) (gv nv wv : Value) (X : Wd) (t : List Int) : Prop :=
  Save (fun b => b = G ∨ b = B) W w ∧ EarAt w G t ∧ OBox w B 40 gv nv wv ∧ OInts w S1 gv X.groups ∧ ONodes w S2 nv X.nodes ∧ OWires true w S3 wv X.wires ∧
  (∀ b, S1 b → W.heap.size ≤ b ∧ b < w.heap.size) ∧ (∀ b, S2 b → W.heap.size ≤ b ∧ b < w.heap.size) ∧ (∀ b, S3 b → W.heap.size ≤ b ∧ b < w.heap.size) ∧ Dis S1 S2 ∧ Dis S1 S3 ∧ Dis S2 S3
/-- A node in box C. -/
def NdBox (w : World) (C : Nat) (c : Int) (lv hv tv : Value) : Prop := BlkIs w C 79 4 ∧ w.cell? ⟨C, 0, none⟩ = some (.int .i64 c) ∧ w.cell? ⟨C, 1, none⟩ = some lv ∧ w.cell? ⟨C, 2, none⟩ = some hv ∧ w.cell? ⟨C, 3, none⟩ = some tv
section
variable {W w w' : World} {G B C : Nat} {S1 S2 S3 T : Nat → Prop} {gv nv wv lv hv tv : Value} {X : Wd} {t t' : List Int} {c : Int}
theorem NdBox.new (w : World) (c : Int) (lv hv tv : Value) : NdBox (w.alloc (.cells #[.int .i64 c, lv, hv, tv] 79)) w.heap.size c lv hv tv := by
  have h := cells_new w #[.int .i64 c, lv, hv, tv] 79
  exact ⟨⟨_, heap_alloc_new w _, rfl⟩, h 0 _ rfl, h 1 _ rfl, h 2 _ rfl, h 3 _ rfl⟩
theorem NdBox.lt (h : NdBox w C c lv hv tv) : C < w.heap.size := h.1.lt
theorem NdBox.keep (h : NdBox w C c lv hv tv) (k : w'.heap[C]? = w.heap[C]?) : NdBox w' C c lv hv tv := by
  obtain ⟨h0, h1, h2, h3, h4⟩ := h
  exact ⟨h0.same k, (World.cell?_of_block (w := w) (a := ⟨C, 0, none⟩) k).trans h1, (World.cell?_of_block (w := w) (a := ⟨C, 1, none⟩) k).trans h2, (World.cell?_of_block (w := w) (a := ⟨C, 2, none⟩) k).trans h3, (World.cell?_of_block (w := w) (a := ⟨C, 3, none⟩) k).trans h4⟩
theorem NdBox.set1 (h : NdBox w C c lv hv tv) (u : Value) : NdBox (w.setCell ⟨C, 1, none⟩ u) C c u hv tv := by
  obtain ⟨h0, h1, h2, h3, h4⟩ := h
  exact ⟨h0.setCell, (cell_setCell 0 (by omega)).trans h1, h0.cell_set (by omega), (cell_setCell 2 (by omega)).trans h3, (cell_setCell 3 (by omega)).trans h4⟩
theorem NdBox.set2 (h : NdBox w C c lv hv tv) (u : Value) : NdBox (w.setCell ⟨C, 2, none⟩ u) C c lv u tv := by
  obtain ⟨h0, h1, h2, h3, h4⟩ := h
  exact ⟨h0.setCell, (cell_setCell 0 (by omega)).trans h1, (cell_setCell 1 (by omega)).trans h2, h0.cell_set (by omega), (cell_setCell 3 (by omega)).trans h4⟩
theorem NdBox.set3 (h : NdBox w C c lv hv tv) (u : Value) : NdBox (w.setCell ⟨C, 3, none⟩ u) C c lv hv u := by
  obtain ⟨h0, h1, h2, h3, h4⟩ := h
  exact ⟨h0.setCell, (cell_setCell 0 (by omega)).trans h1, (cell_setCell 1 (by omega)).trans h2, (cell_setCell 2 (by omega)).trans h3, h0.cell_set (by omega)⟩
theorem FrW.new (hE : EarAt w G t) (hO : OBox w B 40 (.slice none 0 0) (.slice none 0 0) (.slice none 0 0)) : FrW w w G B (fun _ => False) (fun _ => False) (fun _ => False) (.slice none 0 0) (.slice none 0 0) (.slice none 0 0) Wd.none t :=
  ⟨Save.refl _ _, hE, hO, OSl.nil _ _ _ _ _ _, OSl.nil _ _ _ _ _ _, OSl.nil _ _ _ _ _ _, fun _ h => h.elim, fun _ h => h.elim, fun _ h => h.elim, fun _ h => h.elim, fun _ h => h.elim, fun _ h => h.elim⟩
/-- Behind a call that hears, and whatever is laid. -/
theorem FrW.move (h : FrW W w G B S1 S2 S3 gv nv wv X t) (hG : G < W.heap.size) (hB : B < W.heap.size) (hBG : B ≠ G) (s : Save (fun b => b = G) w w') (hE : EarAt w' G t') : FrW W w' G B S1 S2 S3 gv nv wv X t' := by
  obtain ⟨sv, _, hb, h1, h2, h3, k1, k2, k3, d⟩ := h
  have hs := s.size
  have hW := sv.size
  exact ⟨sv.trans s (fun _ h _ => Or.inl h), hE, hb.keep (s.block B (by omega) hBG), h1.keep (fun b hb => s.block b (k1 b hb).2 (by have := (k1 b hb).1; omega)), h2.keep (fun b hb => s.block b (k2 b hb).2 (by have := (k2 b hb).1; omega)), h3.keep (fun b hb => s.block b (k3 b hb).2 (by have := (k3 b hb).1; omega)),
    fun b hb => ⟨(k1 b hb).1, Nat.lt_of_lt_of_le (k1 b hb).2 hs⟩, fun b hb => ⟨(k2 b hb).1, Nat.lt_of_lt_of_le (k2 b hb).2 hs⟩, fun b hb => ⟨(k3 b hb).1, Nat.lt_of_lt_of_le (k3 b hb).2 hs⟩, d⟩
theorem Fr_core {α : Type} {El : ElO α} {e : TypeId} {s j : Nat} {S T : Nat → Prop} {xs : List α} {x : α} {v' : Value} {o : Obj} (sv : Save (fun b => b = G ∨ b = B) W w) (hS : ∀ b, S b → W.heap.size ≤ b ∧ b < w.heap.size) (hB : B < W.heap.size) (hp : Pushed (w.alloc o) El e s S T xs x v' w') :
    Save (fun b => b = G ∨ b = B) W (w'.setCell ⟨B, j, none⟩ v') ∧ (∀ b, b < w.heap.size → ¬ S b → b ≠ B → (w'.setCell ⟨B, j, none⟩ v').heap[b]? = w.heap[b]?) ∧ w.heap.size ≤ w'.heap.size ∧ w'.heap[B]? = w.heap[B]? := by
  obtain ⟨_, hsz, hl, hbl, _⟩ := hp
  have ha : (w.alloc o).heap.size = w.heap.size + 1 := World.size_alloc _ _
  have hW := sv.size
  have hb := hbl W.heap.size (fun b hb => (hS b hb).1) (by omega)
  have hba := below_a1 w o
  have hk : ∀ b, b < w.heap.size → ¬ S b → w'.heap[b]? = w.heap[b]? := fun b h1 h2 => (hl b ⟨by omega, h2⟩).trans (hba.block b h1)
  have s2 := sv.then ((hba.mono hW).trans hb)
  have s3 : Save (fun b => b = B) w' (w'.setCell ⟨B, j, none⟩ v') := ⟨rfl, rfl, rfl, by rw [Go.Deep.nblk_setCell]; exact Nat.le_refl _, fun _ _ hn => Go.Deep.blk_setCell_other _ _ _ _ hn⟩
  exact ⟨s2.trans s3 (fun _ h _ => Or.inr h), fun b h1 h2 h3 => (Go.Deep.blk_setCell_other _ _ _ _ h3).trans (hk b h1 h2), by omega, hk B (by omega) (fun h => by have := (hS B h).1; omega)⟩
theorem FrW.push1 {x : Int} {v' : Value} {o : Obj} (h : FrW W w G B S1 S2 S3 gv nv wv X t) (hG : G < W.heap.size) (hB : B < W.heap.size) (hBG : B ≠ G) (hp : Pushed (w.alloc o) IntEl 3 1 S1 (fun _ => False) X.groups x v' w') :
    ∃ S, FrW W (w'.setCell ⟨B, 0, none⟩ v') G B S S2 S3 v' nv wv ⟨X.groups ++ [x], X.nodes, X.wires⟩ t := by
  obtain ⟨sv, hE, hb, h1, h2, h3, k1, k2, k3, d1, d2, d3⟩ := h
  obtain ⟨c1, c2, c3, c4⟩ := Fr_core (j := 0) sv k1 hB hp
  obtain ⟨⟨S, hO, hSb⟩, _⟩ := hp
  have hW := sv.size
  have hz : (w'.setCell ⟨B, 0, none⟩ v').heap.size = w'.heap.size := Go.Deep.nblk_setCell _ _ _
  have ha : (w.alloc o).heap.size = w.heap.size + 1 := World.size_alloc _ _
  have r : ∀ b, S b → (S1 b ∨ w.heap.size ≤ b) ∧ W.heap.size ≤ b ∧ b < w'.heap.size := fun b hb => by
    obtain ⟨h1, h2⟩ := hSb b hb
    rcases h1 with h | h | h
    · exact ⟨Or.inl h, (k1 b h).1, h2⟩
    · exact h.elim
    · exact ⟨Or.inr (by omega), by omega, h2⟩
  refine ⟨S, c1, hE.keep (c2 G (by omega) (fun h => by have := (k1 G h).1; omega) (fun e => hBG e.symm)), (hb.keep c4).set0 v', OSl.keep IntEl.stays hO (fun b hb => Go.Deep.blk_setCell_other _ _ _ _ (by have := (r b hb).2.1; show b ≠ B; omega)),
    h2.keep (fun b hb => c2 b (k2 b hb).2 (fun h => d1 b h hb) (by have := (k2 b hb).1; omega)), h3.keep (fun b hb => c2 b (k3 b hb).2 (fun h => d2 b h hb) (by have := (k3 b hb).1; omega)), fun b hb => ⟨(r b hb).2.1, by rw [hz]; exact (r b hb).2.2⟩,
    fun b hb => ⟨(k2 b hb).1, by rw [hz]; exact Nat.lt_of_lt_of_le (k2 b hb).2 c3⟩, fun b hb => ⟨(k3 b hb).1, by rw [hz]; exact Nat.lt_of_lt_of_le (k3 b hb).2 c3⟩, fun b h1 h2 => ?_, fun b h1 h2 => ?_, d3⟩
  · rcases (r b h1).1 with h | h
    · exact d1 b h h2
    · have := (k2 b h2).2; omega
  · rcases (r b h1).1 with h | h
    · exact d2 b h h2
    · have := (k3 b h2).2; omega
theorem FrW.push2 {x : N} {v' : Value} {o : Obj} (h : FrW W w G B S1 S2 S3 gv nv wv X t) (hG : G < W.heap.size) (hB : B < W.heap.size) (hBG : B ≠ G) (hT : ∀ b, T b → W.heap.size ≤ b ∧ b < w.heap.size ∧ ¬ S1 b ∧ ¬ S3 b) (hp : Pushed (w.alloc o) ONodeEl 79 4 S2 T X.nodes x v' w') :
    ∃ S, FrW W (w'.setCell ⟨B, 1, none⟩ v') G B S1 S S3 gv v' wv ⟨X.groups, X.nodes ++ [x], X.wires⟩ t := by
  obtain ⟨sv, hE, hb, h1, h2, h3, k1, k2, k3, d1, d2, d3⟩ := h
  obtain ⟨c1, c2, c3, c4⟩ := Fr_core (j := 1) sv k2 hB hp
  obtain ⟨⟨S, hO, hSb⟩, _⟩ := hp
  have hW := sv.size
  have hz : (w'.setCell ⟨B, 1, none⟩ v').heap.size = w'.heap.size := Go.Deep.nblk_setCell _ _ _
  have ha : (w.alloc o).heap.size = w.heap.size + 1 := World.size_alloc _ _
  have r : ∀ b, S b → (S2 b ∨ T b ∨ w.heap.size ≤ b) ∧ W.heap.size ≤ b ∧ b < w'.heap.size := fun b hb => by
    obtain ⟨h1, h2⟩ := hSb b hb
    rcases h1 with h | h | h
    · exact ⟨Or.inl h, (k2 b h).1, h2⟩
    · exact ⟨Or.inr (Or.inl h), (hT b h).1, h2⟩
    · exact ⟨Or.inr (Or.inr (by omega)), by omega, h2⟩
  refine ⟨S, c1, hE.keep (c2 G (by omega) (fun h => by have := (k2 G h).1; omega) (fun e => hBG e.symm)), (hb.keep c4).set1 v', h1.keep (fun b hb => c2 b (k1 b hb).2 (fun h => d1 b hb h) (by have := (k1 b hb).1; omega)),
    OSl.keep ONodeEl.stays hO (fun b hb => Go.Deep.blk_setCell_other _ _ _ _ (by have := (r b hb).2.1; show b ≠ B; omega)), h3.keep (fun b hb => c2 b (k3 b hb).2 (fun h => d3 b h hb) (by have := (k3 b hb).1; omega)), fun b hb => ⟨(k1 b hb).1, by rw [hz]; exact Nat.lt_of_lt_of_le (k1 b hb).2 c3⟩,
    fun b hb => ⟨(r b hb).2.1, by rw [hz]; exact (r b hb).2.2⟩, fun b hb => ⟨(k3 b hb).1, by rw [hz]; exact Nat.lt_of_lt_of_le (k3 b hb).2 c3⟩, fun b h1 h2 => ?_, d2, fun b h1 h2 => ?_⟩
  · rcases (r b h2).1 with h | h | h
    · exact d1 b h1 h
    · exact (hT b h).2.2.1 h1
    · have := (k1 b h1).2; omega
  · rcases (r b h1).1 with h | h | h
    · exact d3 b h h2
    · exact (hT b h).2.2.2 h2
    · have := (k3 b h2).2; omega
theorem FrW.push3 {x : List (List M)} {v' : Value} {o : Obj} (h : FrW W w G B S1 S2 S3 gv nv wv X t) (hG : G < W.heap.size) (hB : B < W.heap.size) (hBG : B ≠ G) (hT : ∀ b, T b → W.heap.size ≤ b ∧ b < w.heap.size ∧ ¬ S1 b ∧ ¬ S2 b) (hp : Pushed (w.alloc o) (OMsgRowsEl true) 86 1 S3 T X.wires x v' w') :
    ∃ S, FrW W (w'.setCell ⟨B, 2, none⟩ v') G B S1 S2 S gv nv v' ⟨X.groups, X.nodes, X.wires ++ [x]⟩ t := by
  obtain ⟨sv, hE, hb, h1, h2, h3, k1, k2, k3, d1, d2, d3⟩ := h
  obtain ⟨c1, c2, c3, c4⟩ := Fr_core (j := 2) sv k3 hB hp
  obtain ⟨⟨S, hO, hSb⟩, _⟩ := hp
  have hW := sv.size
  have hz : (w'.setCell ⟨B, 2, none⟩ v').heap.size = w'.heap.size := Go.Deep.nblk_setCell _ _ _
  have ha : (w.alloc o).heap.size = w.heap.size + 1 := World.size_alloc _ _
  have r : ∀ b, S b → (S3 b ∨ T b ∨ w.heap.size ≤ b) ∧ W.heap.size ≤ b ∧ b < w'.heap.size := fun b hb => by
    obtain ⟨h1, h2⟩ := hSb b hb
    rcases h1 with h | h | h
    · exact ⟨Or.inl h, (k3 b h).1, h2⟩
    · exact ⟨Or.inr (Or.inl h), (hT b h).1, h2⟩
    · exact ⟨Or.inr (Or.inr (by omega)), by omega, h2⟩
  refine ⟨S, c1, hE.keep (c2 G (by omega) (fun h => by have := (k3 G h).1; omega) (fun e => hBG e.symm)), (hb.keep c4).set2 v', h1.keep (fun b hb => c2 b (k1 b hb).2 (fun h => d2 b hb h) (by have := (k1 b hb).1; omega)),
    h2.keep (fun b hb => c2 b (k2 b hb).2 (fun h => d3 b hb h) (by have := (k2 b hb).1; omega)), OSl.keep (OMsgRowsEl.stays true) hO (fun b hb => Go.Deep.blk_setCell_other _ _ _ _ (by have := (r b hb).2.1; show b ≠ B; omega)), fun b hb => ⟨(k1 b hb).1, by rw [hz]; exact Nat.lt_of_lt_of_le (k1 b hb).2 c3⟩,
    fun b hb => ⟨(k2 b hb).1, by rw [hz]; exact Nat.lt_of_lt_of_le (k2 b hb).2 c3⟩, fun b hb => ⟨(r b hb).2.1, by rw [hz]; exact (r b hb).2.2⟩, d1, fun b h1 h2 => ?_, fun b h1 h2 => ?_⟩
  · rcases (r b h2).1 with h | h | h
    · exact d2 b h1 h
    · exact (hT b h).2.2.1 h1
    · have := (k1 b h1).2; omega
  · rcases (r b h2).1 with h | h | h
    · exact d3 b h1 h
    · exact (hT b h).2.2.2 h1
    · have := (k2 b h1).2; omega
end
end Go.Proofs.Ytnalakhelicjcaa
