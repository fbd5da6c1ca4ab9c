/-
  The glass: so many bytes, a small number, a wide one.
-/
import Derived.Test.YtnalakhelicjcaaWUp
import Derived.Test.YtnalakhelicjcaaWLn
import Derived.Test.YtnalakhelicjcaaWKO
set_option maxRecDepth 100000
namespace Go.Proofs.Ytnalakhelicjcaa
open Go.RowKit Go.Shelf Go.BigFrame Go.Deep

/-- The glass in block G; what it has left. -/
def Glass (w : World) (G : Nat) (l : List Int) : Prop := octs l ∧ BlkIs w G 93 1 ∧ w.cell? ⟨G, 0, none⟩ = some (.string (strOfNums l))
def shortE : PanicEntry := { v := .iface 104 (.agg #[]), recovered := false }
theorem str_take (l : List Int) (k : Nat) : (strOfNums l).extract 0 k = strOfNums (l.take k) := by
  unfold strOfNums
  apply ByteArray.ext
  simp
theorem str_drop (l : List Int) (k : Nat) : (strOfNums l).extract k l.length = strOfNums (l.drop k) := by
  unfold strOfNums
  apply ByteArray.ext
  apply Array.ext'
  simp [List.take_of_length_le]
theorem octs_drop {l : List Int} (h : octs l) (k : Nat) : octs (l.drop k) := fun x hx => h x (List.mem_of_mem_drop hx)
theorem octs_take {l : List Int} (h : octs l) (k : Nat) : octs (l.take k) := fun x hx => h x (List.mem_of_mem_take hx)
theorem Glass.put {w : World} {G : Nat} {l t : List Int} (h : Glass w G l) (ht : octs t) : Glass (w.setCell ⟨G, 0, none⟩ (.string (strOfNums t))) G t :=
  ⟨ht, h.2.1.setCell, h.2.1.cell_set (by omega)⟩
theorem Glass.lt {w : World} {G : Nat} {l : List Int} (h : Glass w G l) : G < w.heap.size := h.2.1.lt
theorem Glass.keep {w w' : World} {G : Nat} {l : List Int} (h : Glass w G l) (k : w'.heap[G]? = w.heap[G]?) : Glass w' G l :=
  ⟨h.1, h.2.1.same k, (World.cell?_of_block (w := w) (a := ⟨G, 0, none⟩) k).trans h.2.2⟩
theorem save_cell {w : World} {G : Nat} {v : Value} : Save (fun b => b = G) w (w.setCell ⟨G, 0, none⟩ v) :=
  ⟨rfl, rfl, rfl, by rw [Go.Deep.nblk_setCell]; exact Nat.le_refl _, fun _ _ hn => Go.Deep.blk_setCell_other _ _ _ _ hn⟩
theorem take_c {w : World} {G : Nat} {l : List Int} (h : Glass w G l) (k : Nat) (hk : k ≤ 255) : Calls Try.prog 82 #[.pointer (some ⟨G, 0, none⟩), .int .i64 k] w (fun e w' =>
    (l.length < k ∧ e = .panicked [shortE] ∧ w' = w) ∨ (k ≤ l.length ∧ e = .returned (.string (strOfNums (l.take k))) ∧ w' = w.setCell ⟨G, 0, none⟩ (.string (strOfNums (l.drop k))))) := by
  obtain ⟨_, hB, h0⟩ := h
  have hf := hB.frozen 0
  have hl := str_len (l := l)
  go_enter Try.func82, Try.ntmps82
  by_cases hlt : l.length < k
  · go_wp2_with fail
    exact ⟨rfl, Or.inl ⟨hlt, rfl, rfl⟩⟩
  · go_wp2_with fail
    go_ret
    exact Or.inr ⟨by omega, by rw [str_take]; rfl, by rw [str_drop]⟩
theorem str_at {l : List Int} {i : Nat} (h : i < (strOfNums l).size) (ho : octs l) : (((strOfNums l)[i]).toNat : Int) = l[i]'(by rwa [str_len] at h) := by
  have h' : i < l.length := by rwa [str_len] at h
  have := ho l[i] (List.getElem_mem _)
  show (((l.map fun n => UInt8.ofNat n.toNat).toArray[i]'(by simpa using h')).toNat : Int) = _
  simp only [List.getElem_toArray, List.getElem_map]
  rw [UInt8.toNat_ofNat_of_lt' (by show _ < 256; omega)]
  omega
/-- What a reader of the program answers. -/
def RdPost {α : Type} (w : World) (G : Nat) (r : Option (α × List Int)) (V : World → Value → α → Prop) (e : Ending) (w' : World) : Prop :=
  Save (fun b => b = G) w w' ∧ ((r = none ∧ e = .panicked [shortE]) ∨ ∃ x t v, r = some (x, t) ∧ e = .returned v ∧ V w' v x ∧ Glass w' G t)
theorem small_c {w : World} {G : Nat} {l : List Int} (h : Glass w G l) : Calls Try.prog 46 #[.pointer (some ⟨G, 0, none⟩)] w (RdPost w G (smallP l) (fun _ v x => v = .int .i64 x ∧ 0 ≤ x ∧ x ≤ 255)) := by
  have hT := take_c h 1 (by omega)
  go_enter Try.func46, Try.ntmps46
  cases l with
  | nil =>
    go_wp2_with fail
    refine hT.mono ?_
    rintro e w1 (⟨_, rfl, rfl⟩ | ⟨h1, _⟩)
    · exact ⟨rfl, Save.refl _ _, Or.inl ⟨rfl, rfl⟩⟩
    · simp at h1
  | cons a t =>
    have ha := h.1 a (List.mem_cons_self ..)
    go_wp2_with fail
    refine hT.mono ?_
    rintro e w1 (⟨h1, _⟩ | ⟨_, rfl, rfl⟩)
    · simp at h1
    have h1 := str_len (l := [a])
    have h2 := str_at (l := [a]) (i := 0) (by rw [str_len]; simp) (octs_take h.1 1)
    simp only [List.take_succ_cons, List.take_zero, List.drop_succ_cons, List.drop_zero, List.length_cons, List.length_nil, Nat.zero_add] at h1 ⊢
    go_wp2_with fail
    go_ret
    refine ⟨save_cell, Or.inr ⟨a, t, _, rfl, rfl, ⟨?_, ha⟩, h.put (octs_drop h.1 1)⟩⟩
    rfl
theorem ofInt64 (a : Nat) (ha : a < 18446744073709551616) : (BitVec.ofInt 64 (a : Int)).toNat = a := by
  rw [BitVec.toNat_ofInt]
  omega
theorem or64 (x k b : Nat) (hb : b < 2 ^ k) (hs : x * 2 ^ k + b < 4611686018427387904) : bits .or .i64 ((x * 2 ^ k : Nat) : Int) (b : Int) = ((x * 2 ^ k + b : Nat) : Int) := by
  show IntKind.i64.wrap ((BitVec.ofInt 64 ((x * 2 ^ k : Nat) : Int) ||| BitVec.ofInt 64 (b : Int)).toNat : Int) = _
  rw [BitVec.toNat_or, ofInt64 _ (by omega), ofInt64 b (by omega), ← Nat.shiftLeft_eq, ← Nat.shiftLeft_add_eq_or_of_lt hb, Nat.shiftLeft_eq]
  exact IntWalk.i64_in _ (by omega)
theorem or_wide {a b c : Int} (ha : 0 ≤ a ∧ a ≤ 255) (hb : 0 ≤ b ∧ b ≤ 255) (hc : 0 ≤ c ∧ c ≤ 255) : bits .or .i64 (bits .or .i64 (a * 65536) (b * 256)) c = a * 65536 + b * 256 + c := by
  obtain ⟨x, rfl⟩ := Int.eq_ofNat_of_zero_le ha.1
  obtain ⟨y, rfl⟩ := Int.eq_ofNat_of_zero_le hb.1
  obtain ⟨z, rfl⟩ := Int.eq_ofNat_of_zero_le hc.1
  have h1 := or64 x 16 (y * 256) (by omega) (by omega)
  have h2 := or64 (x * 256 + y) 8 z (by omega) (by omega)
  simp only [Nat.reducePow] at h1 h2
  have e1 : ((x * 65536 : Nat) : Int) = (x : Int) * 65536 := by omega
  have e2 : ((y * 256 : Nat) : Int) = (y : Int) * 256 := by omega
  have e3 : x * 65536 + y * 256 = (x * 256 + y) * 256 := by omega
  rw [e1, e2] at h1
  rw [h1, e3, h2]
  omega
theorem wideP_short : ∀ {l : List Int}, l.length < 3 → wideP l = none
  | [], _ => rfl
  | [_], _ => rfl
  | [_, _], _ => rfl
  | _ :: _ :: _ :: _, h => absurd h (by simp)
theorem wide_c {w : World} {G : Nat} {l : List Int} (h : Glass w G l) : Calls Try.prog 49 #[.pointer (some ⟨G, 0, none⟩)] w (RdPost w G (wideP l) (fun _ v x => v = .int .i64 x ∧ 0 ≤ x ∧ x < 16777216)) := by
  have hT := take_c h 3 (by omega)
  go_enter Try.func49, Try.ntmps49
  by_cases hl : l.length < 3
  · go_wp2_with fail
    refine hT.mono ?_
    rintro e w1 (⟨_, rfl, rfl⟩ | ⟨h1, _⟩)
    · exact ⟨rfl, Save.refl _ _, Or.inl ⟨wideP_short hl, rfl⟩⟩
    · omega
  · obtain ⟨a, b, c, t, rfl⟩ : ∃ a b c t, l = a :: b :: c :: t := by
      match l, hl with
      | a :: b :: c :: t, _ => exact ⟨a, b, c, t, rfl⟩
      | [], h => exact absurd (by simp) h
      | [_], h => exact absurd (by simp) h
      | [_, _], h => exact absurd (by simp) h
    · have ha := h.1 a (by simp)
      have hb := h.1 b (by simp)
      have hc := h.1 c (by simp)
      go_wp2_with fail
      refine hT.mono ?_
      rintro e w1 (⟨h1, _⟩ | ⟨_, rfl, rfl⟩)
      · simp at h1; omega
      have ho : octs [a, b, c] := octs_take h.1 3
      have h1 := str_len (l := [a, b, c])
      have h2 := str_at (l := [a, b, c]) (i := 0) (by rw [str_len]; simp) ho
      have h3 := str_at (l := [a, b, c]) (i := 1) (by rw [str_len]; simp) ho
      have h4 := str_at (l := [a, b, c]) (i := 2) (by rw [str_len]; simp) ho
      simp only [List.take_succ_cons, List.take_zero, List.drop_succ_cons, List.drop_zero, List.length_cons, List.length_nil, Nat.zero_add, Nat.reduceAdd, List.getElem_cons_zero, List.getElem_cons_succ] at h1 h2 h3 h4 ⊢
      go_wp2_with fail
      go_quiet (fail)
      go_wp2_with fail
      go_ret
      have hn : ((w.setCell ⟨G, 0, none⟩ (.string (strOfNums t))).drewN nq).heap[G]? = (w.setCell ⟨G, 0, none⟩ (.string (strOfNums t))).heap[G]? := rfl
      refine ⟨⟨rfl, rfl, rfl, save_cell.size, save_cell.block⟩, Or.inr ⟨a * 65536 + b * 256 + c, t, _, rfl, rfl, ⟨?_, by omega, by omega⟩, (h.put (octs_drop h.1 3)).keep hn⟩⟩
      rw [or_wide ha hb hc]
      rfl
end Go.Proofs.Ytnalakhelicjcaa
