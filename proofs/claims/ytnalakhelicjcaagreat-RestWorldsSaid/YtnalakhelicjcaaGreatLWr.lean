/-
  log.Write: an act as bytes.
-/
import Derived.Test.YtnalakhelicjcaaGreatKD
import Derived.Test.YtnalakhelicjcaaGreatKM
import Derived.Laws.BytesArg
set_option maxRecDepth 100000
namespace Go.Proofs.YtnalakhelicjcaaGreat
open Go.RowKit Go.Shelf Go.BigFrame

theorem infoCByte : (Tryz.prog.info? 5).map (fun i => (i.zero, i.size, i.bytes)) = some (some (.int .u8 0), 1, 1) := by kernel_rfl
/-- What is written ahead of the body; a number that is no byte. -/
def actNums (x : Ac) : List Int := [x.kind, x.one, x.two, (x.body.size : Int)]
def badB (n : Int) : Bool := decide (n < 0) || decide (255 < n)
def writeE (x : Ac) : Int := if (actNums x).any badB = true then 3 else 0
def writeS (x : Ac) : ByteArray := if (actNums x).any badB = true then ⟨#[]⟩ else strOfNums (actNums x) ++ x.body
theorem wrap8 {n : Int} (h : badB n = false) : IntKind.u8.wrap n = n := by
  simp only [badB, Bool.or_eq_false_iff, decide_eq_false_iff_not] at h
  have e : IntKind.u8.wrap n = n % 256 := by simp [IntKind.wrap, IntKind.signed, IntKind.bits]
  omega
theorem any_at {α : Type} (d : α) {p : α → Bool} {l : List α} {k : Nat} (hk : k < l.length) (h : p (l.getD k d) = true) : l.any p = true := by
  rw [List.any_eq_true]
  exact ⟨_, by rw [getD_lt l d hk]; exact List.getElem_mem _, h⟩
theorem any_no {α : Type} (d : α) {p : α → Bool} {l : List α} (h : ∀ k, k < l.length → p (l.getD k d) = false) : l.any p = false := by
  rw [List.any_eq_false]
  intro x hx
  obtain ⟨i, hi, rfl⟩ := List.mem_iff_getElem.1 hx
  have := h i hi
  rw [getD_lt l d hi] at this
  rw [this]
  simp

set_option maxHeartbeats 1000000 in
theorem Write_c (w : World) {x : Ac} (hx : x.fits) : Calls Tryz.prog 9 #[x.val] w (GivesB (.tuple #[.string (writeS x), .int .i64 (writeE x)]) w) := by
  obtain ⟨P, hP⟩ : ∃ P, GivesB (.tuple #[.string (writeS x), .int .i64 (writeE x)]) w = P := ⟨_, rfl⟩
  rw [hP]
  have hBad := Lib.hid (fun (h : (actNums x).any badB = true) => show writeS x = ⟨#[]⟩ ∧ writeE x = 3 by unfold writeS writeE; rw [if_pos h, if_pos h]; exact ⟨rfl, rfl⟩)
  have hOk := Lib.hid (fun (h : (actNums x).any badB = false) => show writeS x = strOfNums (actNums x) ++ x.body ∧ writeE x = 0 by unfold writeS writeE; rw [h]; exact ⟨rfl, rfl⟩)
  replace hP := Lib.hid hP
  have hA := below_a1 w (.cells #[.int .i64 x.kind, .int .i64 x.one, .int .i64 x.two, .string x.body] 23)
  have hB := AcBox.new w x 23
  have hsz : w.heap.size < (w.alloc (.cells #[.int .i64 x.kind, .int .i64 x.one, .int .i64 x.two, .string x.body] 23)).heap.size := by rw [World.size_alloc]; omega
  obtain ⟨i0, hi0, hz0, hz1, hz2⟩ := info_parts infoCByte
  obtain ⟨f0, f1, f2, f3⟩ := hx
  unfold Ac.val
  go_enter Tryz.func9, Tryz.ntmps9
  go_upto_region 1 with fail
  generalize w.alloc (.cells #[.int .i64 x.kind, .int .i64 x.one, .int .i64 x.two, .string x.body] 23) = wA at *
  obtain ⟨m0, m1, m2, m3⟩ := id hB
  simp only [Nat.zero_add] at m0 m1 m2 m3
  have hL := Ints.lit wA (actNums x) 3 (by unfold actNums; simp only [List.mem_cons, List.not_mem_nil, or_false]; rintro y (rfl | rfl | rfl | rfl) <;> first | assumption | (unfold I64; omega)) (by simp [actNums])
  have bx := below_a1 wA (.cells #[.int .i64 x.kind, .int .i64 x.one, .int .i64 x.two, .int .i64 x.body.size] 3)
  rw [show (actNums x).length = 4 from rfl] at hL
  change Ints (wA.alloc (.cells #[.int .i64 x.kind, .int .i64 x.one, .int .i64 x.two, .int .i64 x.body.size] 3)) _ _ at hL
  have hB2 := hB.below bx hsz
  have b2 := below_trans hA bx
  have hs2 := Nat.lt_of_lt_of_le hsz bx.size
  go_wp2_with fail
  generalize wA.alloc (.cells #[.int .i64 x.kind, .int .i64 x.one, .int .i64 x.two, .int .i64 x.body.size] 3) = w2 at *
  obtain ⟨C, hC⟩ : ∃ C, wA.heap.size = C := ⟨_, rfl⟩
  simp only [hC] at hL ⊢
  clear hC m0 m1 m2 m3 hB bx hsz
  obtain ⟨C2, hC2⟩ : ∃ C, w.heap.size = C := ⟨_, rfl⟩
  rw [hC2] at hB2 hs2
  simp only [hC2] at ⊢
  replace hC2 := Lib.hid hC2
  obtain ⟨l, hl⟩ : ∃ l, actNums x = l := ⟨_, rfl⟩
  have hl4 : l.length = 4 := by rw [← hl]; rfl
  rw [hl] at hL hBad hOk
  clear hl
  replace hl4 := Lib.hid hl4
  go_loopw [4, 18] (fun o i wr => ∃ k : Nat, k ≤ 4 ∧ i = .int .i64 k ∧ Hid (∀ j, j < k → badB (l.getD j 0) = false) ∧ wr.ownsRow w2.heap.size 5 1 o k ((l.take k).map (Value.int .u8)) ∧ Below w2.heap.size w2 wr) (fun _ i _ => 4 - (intOf i).toNat)
  case atStart => exact ⟨0, by omega, rfl, fun j hj => absurd hj (Nat.not_lt_zero _), World.ownsRow_nil _ _ _ _, Below.refl _ _⟩
  case round =>
    obtain ⟨k, hk, rfl, hno, ho, hb⟩ := hrel
    obtain ⟨a4, c4, rfl⟩ := own_form ho
    have hB3 := hB2.below hb hs2
    obtain ⟨m0, m1, m2, m3⟩ := hB3
    simp only [Nat.zero_add] at m0 m1 m2 m3
    have hbw := below_trans b2 hb
    have hsr := hb.size
    by_cases hlt : k < 4
    · obtain ⟨b4, o4, c5, e4, _, q1, hq64⟩ := hL.at (a := k) (by rw [hl4.out]; exact hlt)
      have q1 := (hb.cell (cell_lt q1)).trans q1
      obtain ⟨n, hn⟩ : ∃ n, l.getD k 0 = n := ⟨_, rfl⟩
      rw [hn] at q1 hq64
      have hlen : k < l.length := by rw [hl4.out]; exact hlt
      rw [hl4.out] at e4
      cases e4
      simp only [Nat.zero_add] at q1
      replace hlen := Lib.hid hlen
      cases hbd : badB n
      · have hw8 := wrap8 hbd
        have hbd' := Lib.hid hbd
        simp only [badB, Bool.or_eq_false_iff] at hbd
        obtain ⟨d1, d2⟩ := hbd
        have hn' := Lib.hid hn
        clear hn
        go_wp2_with (at_builtin; refine wpList_append_own _ rfl _ _ 67 rfl w2.heap.size 5 i0 _ 1 1 Tryz.underlying67 hi0 hz0 hz1 hz2 rfl (by decide) _ _ _ rfl (ho.alloc _) ⟨wr.heap.size, 0, none⟩ 1 1 [.int .u8 n] rfl rfl (cells_new _ _ _) (by simp [Value.oneCell']) (by unfold maxLen; omega) (by omega) (by simp; omega) ?_; intro v' w1 hown' hgrow _)
        go_roundw
        case rel =>
          refine ⟨k + 1, by omega, by go_num, fun j hj => ?_, ?_, below_app hb ho (by omega) hgrow⟩
          · rcases Nat.eq_or_lt_of_le (Nat.le_of_lt_succ hj) with e | e
            · subst e; rw [hn'.out]; exact hbd'.out
            · exact hno.out j e
          · rw [show (l.take (k + 1)).map (Value.int .u8) = (l.take k).map (Value.int .u8) ++ [.int .u8 n] by
              rw [← hn'.out, getD_lt l 0 hlen.out, List.take_succ_eq_append_getElem hlen.out, List.map_append]; simp]
            exact hown'
        case measure => simp [intOf]; omega
      · have hany : l.any badB = true := any_at 0 hlen.out (by rw [hn]; exact hbd)
        obtain ⟨e1, e2⟩ := hBad.out hany
        rw [e1, e2] at hP
        clear hany e1 e2 hn
        simp only [badB, Bool.or_eq_true] at hbd
        cases d1 : decide (n < 0)
        · have d2 : decide (255 < n) = true := hbd.resolve_left (by rw [d1]; simp)
          clear hbd
          go_wp2_with fail
          rw [← hP.out]
          exact ⟨rfl, hbw⟩
        · clear hbd
          go_wp2_with fail
          rw [← hP.out]
          exact ⟨rfl, hbw⟩
    · obtain rfl : k = 4 := by omega
      have hany : l.any badB = false := any_no 0 (fun j hj => hno.out j (by rw [← hl4.out]; exact hj))
      obtain ⟨e1, e2⟩ := hOk.out hany
      rw [e1, e2] at hP
      clear hany e1 e2
      obtain ⟨_, _, _, _, e5, _, hcl⟩ := Row.of_owns ho (by simp; omega)
      cases e5
      obtain ⟨b5, o5, rfl, hcl2⟩ := hcl (by decide)
      have hconv := run_convert_bytes_arg (P := Tryz.prog) wr 67 5 Tryz.underlying67 Tryz.underlying5 b5 o5 4 c4 l hl4.out (fun i hi => by
        have h5 := hcl2 i (by omega)
        have hil : i < l.length := by rw [hl4.out]; exact hi
        rw [h5, List.take_of_length_le (by rw [hl4.out]; exact Nat.le_refl _), getD_lt l 0 hil, List.getD_eq_getElem?_getD, List.getElem?_map, List.getElem?_eq_getElem hil]
        rfl) 9 Tryz.underlying9
      clear hcl hcl2
      go_wp2_with fail
      · exfalso
        rename_i h
        have h5 := strOfNums_size l
        rw [hl4.out] at h5
        simp [h5] at h
        omega
      rw [← hP.out]
      exact ⟨rfl, hbw⟩
end Go.Proofs.YtnalakhelicjcaaGreat
