/-
  Put a message into a list.
-/
import Derived.Test.YthclljdkicihpaaM3
import Derived.Test.YthclljdkicihpaaIns
import Derived.Deep.RegionHeld3
set_option maxRecDepth 100000
namespace Go.Proofs.Ythclljdkicihpaa
open Go.RowKit Go.Shelf Go.BigFrame

def putE (ms : List M) (m : M) : Int := if risesB ms = true then if 40 ≤ (ms.length : Int) then 2 else if foundM ms m = true then 1 else 0 else 1
def putM (ms : List M) (m : M) : List M := ms.take (posM ms m) ++ m :: ms.drop (posM ms m)
def putL (ms : List M) (m : M) : List M := if putE ms m = 0 then putM ms m else []
theorem put_rise {ms : List M} {m : M} (h : risesB ms = false) : putE ms m = 1 ∧ putL ms m = [] := by simp [putE, putL, h]
theorem put_many {ms : List M} {m : M} (h : risesB ms = true) (h2 : 40 ≤ (ms.length : Int)) : putE ms m = 2 ∧ putL ms m = [] := by simp [putE, putL, h, h2]
theorem put_is {ms : List M} {m : M} (h : risesB ms = true) (h2 : ¬ 40 ≤ (ms.length : Int)) (h3 : foundM ms m = true) : putE ms m = 1 ∧ putL ms m = [] := by simp [putE, putL, h, h2, h3]
theorem put_ok {ms : List M} {m : M} (h : risesB ms = true) (h2 : ¬ 40 ≤ (ms.length : Int)) (h3 : foundM ms m = false) : putE ms m = 0 ∧ putL ms m = putM ms m := by simp [putE, putL, h, h2, h3]
theorem posM_le (ms : List M) (m : M) : posM ms m ≤ ms.length := by unfold posM; exact (List.takeWhile_sublist _).length_le
theorem Msgs.nil (w : World) : Msgs w (.slice none 0 0) [] := ⟨by simp, by simp, by simp, none, 0, rfl, Nat.le_refl _, fun h => absurd rfl h⟩
theorem flat_take (ms : List M) (k : Nat) : (ms.flatMap M.cells).take (k * 5) = (ms.take k).flatMap M.cells := by
  induction ms generalizing k with
  | nil => simp
  | cons m ms ih =>
    cases k with
    | zero => simp
    | succ k =>
      rw [List.flatMap_cons, List.take_succ_cons, List.flatMap_cons, ← ih]
      rw [List.take_append]
      have e : m.cells.length = 5 := rfl
      rw [e, List.take_of_length_le (by rw [e]; omega), show (k + 1) * 5 - 5 = k * 5 by omega]
theorem flat_drop (ms : List M) (k : Nat) : (ms.flatMap M.cells).drop (k * 5) = (ms.drop k).flatMap M.cells := by
  induction ms generalizing k with
  | nil => simp
  | cons m ms ih =>
    cases k with
    | zero => simp
    | succ k =>
      rw [List.flatMap_cons, List.drop_succ_cons, ← ih]
      rw [List.drop_append]
      have e : m.cells.length = 5 := rfl
      rw [e, List.drop_of_length_le (by rw [e]; omega), show (k + 1) * 5 - 5 = k * 5 by omega, List.nil_append]
theorem putIn_flat (ms : List M) (m : M) (k : Nat) : putIn (ms.flatMap M.cells) (k * 5) m.cells = (ms.take k ++ m :: ms.drop k).flatMap M.cells := by
  rw [putIn, flat_take, flat_drop]
  simp
theorem one_flat (ms : List M) : ∀ u ∈ ms.flatMap M.cells, u.oneCell' = true := by
  intro u hu
  obtain ⟨m, _, hm⟩ := List.mem_flatMap.1 hu
  simp [M.cells] at hm
  rcases hm with rfl | rfl | rfl | rfl | rfl <;> rfl
/-- An own row of messages. -/
def MsgsOwn (w : World) (base : Nat) (v : Value) (ms : List M) : Prop := (∀ m ∈ ms, m.fits) ∧ w.ownsRow base 24 5 v ms.length (ms.flatMap M.cells)
theorem MsgsOwn.msgs {w : World} {base : Nat} {v : Value} {ms : List M} (h : MsgsOwn w base v ms) (hl : ms.length * 40 ≤ 140737488351232) : Msgs w v ms :=
  ⟨h.1, Row.of_owns h.2 (by rw [flat_len]; omega)⟩
def PutPost (w : World) (ms : List M) (m : M) (e : Ending) (w' : World) : Prop :=
  ∃ v', e = .returned (.tuple #[v', .int .i64 (putE ms m)]) ∧ MsgsOwn w' w.heap.size v' (putL ms m) ∧ Below w.heap.size w w'

theorem owns_mono {w : World} {b b' : Nat} {e : TypeId} {s n : Nat} {v : Value} {xs : List Value} (h : w.ownsRow b e s v n xs) (hb : b' ≤ b) : w.ownsRow b' e s v n xs := by
  refine ⟨h.1, ?_⟩
  rcases h.2 with h | ⟨g, cap, cur, h1, h2, h3⟩
  · exact .inl h
  · exact .inr ⟨g, cap, cur, h1, by omega, h3⟩
theorem putM_fits {ms : List M} {m : M} (h : ∀ m ∈ ms, m.fits) (hm : m.fits) : ∀ x ∈ putM ms m, x.fits := by
  intro x hx
  rcases List.mem_append.1 hx with hx | hx
  · exact h x (List.mem_of_mem_take hx)
  · rcases List.mem_cons.1 hx with rfl | hx
    · exact hm
    · exact h x (List.mem_of_mem_drop hx)
theorem putM_len (ms : List M) (m : M) : (putM ms m).length = ms.length + 1 := by
  have := posM_le ms m
  simp [putM]; omega
theorem put_done {w w' : World} {ms : List M} {m : M} {p base : Nat} {v : Value} (hp : p = posM ms m) (hE : putE ms m = 0 ∧ putL ms m = putM ms m) (hf : (∀ m ∈ ms, m.fits) ∧ m.fits)
    (ho : w'.ownsRow base 24 5 v (ms.length + 1) (putIn (ms.flatMap M.cells) (p * 5) m.cells)) (hb : w.heap.size ≤ base) (hw : Below w.heap.size w w') :
    PutPost w ms m (.returned (.tuple #[v, .int .i64 0])) w' := by
  refine ⟨v, by rw [hE.1], ?_, hw⟩
  rw [hE.2]
  refine ⟨putM_fits hf.1 hf.2, ?_⟩
  rw [putM_len, putM, ← hp, ← putIn_flat]
  exact owns_mono ho hb

set_option maxHeartbeats 1000000 in
theorem Put_c {w : World} {v : Value} {ms : List M} {m : M} (h : Msgs w v ms) (hm : m.fits) :
    Calls Try.prog 11 #[v, m.val] w (PutPost w ms m) := by
  have hA := below_a1 w (.cells #[.int .i64 m.src, .int .i64 m.grp, .int .i64 m.stamp, .bool m.null, .string m.body] 24)
  have hM := MsgBox.new w m 24
  have hm' := Lib.hid (And.intro h.1 hm)
  have hR := Rises_c (h.below hA)
  obtain ⟨hl, a, cap, rfl, _, _⟩ := h.open
  unfold M.val
  cases hr : risesB ms
  · rw [hr] at hR
    have hE := Lib.hid (put_rise (m := m) hr)
    clear hr
    go_enter Try.func11, Try.ntmps11
    go_wp2_with fail
    refine hR.mono ?_
    rintro e w2 ⟨rfl, hb⟩
    go_wp2_with fail
    go_ret2
    exact ⟨_, by rw [hE.out.1]; rfl, by rw [hE.out.2]; exact ⟨by simp, World.ownsRow_nil _ _ _ _⟩, below_trans hA hb⟩
  · rw [hr] at hR
    by_cases h40 : 40 ≤ (ms.length : Int)
    · have hE := Lib.hid (put_many (m := m) hr h40)
      clear hr
      go_enter Try.func11, Try.ntmps11
      go_wp2_with fail
      refine hR.mono ?_
      rintro e w2 ⟨rfl, hb⟩
      go_wp2_with fail
      go_ret2
      exact ⟨_, by rw [hE.out.1]; rfl, by rw [hE.out.2]; exact ⟨by simp, World.ownsRow_nil _ _ _ _⟩, below_trans hA hb⟩
    · cases hf : foundM ms m
      · have hE := Lib.hid (put_ok (m := m) hr h40 hf)
        have hr' := Lib.hid hr
        clear hr
        go_enter Try.func11, Try.ntmps11
        go_wp2_with fail
        refine hR.mono ?_
        rintro e w2 ⟨rfl, hb⟩
        have hw2 := below_trans hA hb
        obtain ⟨c0, c1, c2, c3, c4⟩ := hM.below hb (by simp)
        have hS := Seek_c (h.below hw2) m hr'.out
        rw [hf] at hS
        unfold M.val at hS
        go_wp2_with fail
        refine hS.mono ?_
        rintro e w3 ⟨rfl, hb3⟩
        have hmb := cell_lt c0
        dsimp only at hmb
        obtain ⟨d0, d1, d2, d3, d4⟩ := hM.below (hb.trans (hb3.mono hb.size)) (by simp)
        have hw3 := below_trans hw2 hb3
        have hp := posM_le ms m
        obtain ⟨p, hpp⟩ : ∃ p, p = posM ms m := ⟨_, rfl⟩
        rw [← hpp] at hp ⊢
        replace hpp := Lib.hid hpp
        clear c0 c1 c2 c3 c4 hR hS hb3
        go_wp2_with fail
        have hrow : ∀ W, Below w3.heap.size w3 W → Row W (.slice a ms.length cap) ms.length 5 (ms.flatMap M.cells) := fun W hW => (h.below (below_trans hw3 hW)).2
        have hs3 : w.heap.size < w3.heap.size := by have := hw3.size; have := cell_lt d0; simpa using this
        clear h hM hA
        go_region_held3 (fun w' => w'.cell? ⟨w.heap.size, 0, none⟩ = some (.int .i64 m.src) ∧ w'.cell? ⟨w.heap.size, 1, none⟩ = some (.int .i64 m.grp) ∧ w'.cell? ⟨w.heap.size, 2, none⟩ = some (.int .i64 m.stamp) ∧
            w'.cell? ⟨w.heap.size, 3, none⟩ = some (.bool m.null) ∧ w'.cell? ⟨w.heap.size, 4, none⟩ = some (.string m.body))
          (first
            | go_keep
            | (go_split_ands
               refine ⟨?_, ?_, ?_, ?_, ?_⟩ <;> (rw [hb5.cell (by simp; omega)]; first | assumption | (simp; assumption)))
            | (go_split_ands
               refine ⟨?_, ?_, ?_, ?_, ?_⟩ <;> (rw [hb7.cell (by simp; omega)]; first | assumption | (simp; assumption)))
            | (go_split_ands
               refine ⟨?_, ?_, ?_, ?_, ?_⟩ <;> (rw [hb4.cell (by simp; omega)]; first | assumption | (simp; assumption)))
            | (go_split_ands
               refine ⟨?_, ?_, ?_, ?_, ?_⟩ <;> (rw [hb6.cell (by simp; omega)]; first | assumption | (simp; assumption))))
          (first
            | (go_at_call 25; refine (CloneMsg_c (hrow _ (below_drewN w3 1)) (one_flat ms) (by omega)).mono ?_
               rintro e w4 ⟨v4, rfl, ho4, hb4⟩
               have hs4 := hb4.size
               simp at hs4)
            | (go_at_call 25; refine (CloneMsg_c (hrow _ (below_trans (below_drewN w3 1) (below_a1 _ _))) (one_flat ms) (by omega)).mono ?_
               rintro e w6 ⟨v6, rfl, ho6, hb6⟩
               have hs6 := hb6.size
               simp at hs6)
            | (go_at_call 24; refine (Insert_c (i := p) (news := m.cells) (ho4.alloc _) (one_flat ms) hp (by omega) rfl (by simp [M.cells, Value.oneCell']) (heap_alloc_new _ _) (fun e => absurd (ho4.lt _ e).2 (Nat.lt_irrefl _)) (by simp; omega)).mono ?_
               rintro e w5 ⟨v5, rfl, ho5, hb5⟩)
            | (go_at_call 24; refine (Insert_c (i := p) (news := m.cells) ho6 (one_flat ms) hp (by omega) rfl (by simp [M.cells, Value.oneCell']) ((hb6.block _ (by simp)).trans (heap_alloc_new _ _)) (fun e => absurd (ho6.lt _ e).1 (by simp)) (by simp; omega)).mono ?_
               rintro e w7 ⟨v7, rfl, ho7, hb7⟩))
        · go_wp2_with fail
          go_ret2
          exact put_done hpp.out hE.out hm'.out ho5 (by simp; omega) (below_trans hw3 (below_trans (below_drewN w3 1) ((hb4.alloc hb4.size _).trans hb5)))
        · go_wp2_with fail
          go_ret2
          exact put_done hpp.out hE.out hm'.out ho7 (by simp; omega) (below_trans hw3 (below_trans (below_trans (below_drewN w3 1) (below_a1 _ _)) (hb6.trans hb7)))
      · have hE := Lib.hid (put_is (m := m) hr h40 hf)
        have hr' := Lib.hid hr
        clear hr
        go_enter Try.func11, Try.ntmps11
        go_wp2_with fail
        refine hR.mono ?_
        rintro e w2 ⟨rfl, hb⟩
        have hw2 := below_trans hA hb
        obtain ⟨c0, c1, c2, c3, c4⟩ := hM.below hb (by simp)
        have hS := Seek_c (h.below hw2) m hr'.out
        rw [hf] at hS
        unfold M.val at hS
        go_wp2_with fail
        refine hS.mono ?_
        rintro e w3 ⟨rfl, hb3⟩
        go_wp2_with fail
        go_ret2
        exact ⟨_, by rw [hE.out.1]; rfl, by rw [hE.out.2]; exact ⟨by simp, World.ownsRow_nil _ _ _ _⟩, below_trans hw2 hb3⟩
end Go.Proofs.Ythclljdkicihpaa
