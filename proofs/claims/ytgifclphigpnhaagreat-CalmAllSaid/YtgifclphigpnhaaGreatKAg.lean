/-
  slices.DeleteFunc, at messages: on a list of the call's own; what is left reads as the messages of which the function does not hold.
  slices.Index and slices.Contains, at messages.
  agree.Common, agree.Ahead: what was told to both; how many were told ahead.
  agree.All: all that was told, in order.
-/
import Derived.Test.YtgifclphigpnhaaGreatKJ
import Derived.Lib.SliceRun
import Derived.Laws.IdiomCopy
import Derived.Test.YtgifclphigpnhaaGreatKM
import Derived.Test.YtgifclphigpnhaaGreatKV
import Derived.Test.YtgifclphigpnhaaGreatKP
import Derived.Test.YtgifclphigpnhaaGreatKL
import Derived.Test.YtgifclphigpnhaaGreatKS2
set_option maxRecDepth 100000
namespace Go.Proofs.YtgifclphigpnhaaGreat
open Go.RowKit Go.Shelf Go.BigFrame

section
variable {P : Program}
theorem mem_zeroCells {z : Array Value} {n : Nat} (h1 : ∀ v ∈ z.toList, v.oneCell' = true) (h0 : 0 < z.size) : ∀ v ∈ (Builtin.zeroCells z n).toList, v.oneCell' = true := by
  intro v hv
  simp only [Builtin.zeroCells, Array.toList_map, List.mem_map] at hv
  obtain ⟨i, _, rfl⟩ := hv
  have hi := Nat.mod_lt i h0
  refine h1 _ ?_
  rw [getElem!_pos z _ hi]
  exact Array.getElem_mem_toList hi
/-- clear, at elements of some cells. -/
theorem run_clear_rows (w : World) (t e : TypeId) (i : TypeInfo) (z : Value) (ht : P.underlying t = some (.slice e)) (hi : P.info? e = some i) (hz : i.zero = some z) (h1 : ∀ v ∈ z.cells.toList, v.oneCell' = true) (h0 : 0 < z.cells.size)
    (b o n c : Nat) (hn : 0 < n) (hc : ∀ j, j < n * z.cells.size → (w.cell? ⟨b, o + j, none⟩).isSome = true) (hf : ∀ j, w.frozen? ⟨b, j, none⟩ = false) :
    ∃ vs : List Value, vs.length = n * z.cells.size ∧ ∀ ty, (Builtin.clear_ #[t] ty #[.slice (some ⟨b, o, none⟩) n c]).run P w = .ok (.tuple #[]) (w.setCells b o vs) := by
  refine ⟨(Builtin.zeroCells z.cells n).toList, by simp [Builtin.zeroCells], fun ty => ?_⟩
  have hl : (Builtin.zeroCells z.cells n).toList.length = n * z.cells.size := by simp [Builtin.zeroCells]
  have hst := run_storeCells_cells (P := P) b o (Builtin.zeroCells z.cells n).toList 0 w (fun j hj => by rw [hl] at hj; simpa using hc j hj) (fun j _ => by simpa using hf _) (mem_zeroCells h1 h0)
  simp only [Nat.add_zero] at hst
  obtain ⟨m, rfl⟩ : ∃ m, n = m + 1 := ⟨n - 1, by omega⟩
  simp [Builtin.clear_, run_underlying ht, zeroValue, typeInfo, hi, hz, hst]
end

/-- While DeleteFunc goes: i messages are kept, up to j they were looked at, from j on nothing is changed. -/
structure DInv (p : M → Bool) (ms cur : List M) (i j : Nat) : Prop where
  len : cur.length = ms.length
  lt : i < j
  le : j ≤ ms.length
  kept : cur.take i = (ms.take j).filter fun m => !p m
  rest : ∀ t, j ≤ t → t < ms.length → cur.getD t M.zero = ms.getD t M.zero
theorem getD_take {ms : List M} {j : Nat} (h : j < ms.length) : ms.take (j + 1) = ms.take j ++ [ms.getD j M.zero] := by
  rw [List.take_add_one, List.getElem?_eq_getElem h, List.getD_eq_getElem?_getD, List.getElem?_eq_getElem h]
  rfl
theorem filt_t {p : M → Bool} {x : M} (h : p x = true) : [x].filter (fun m => !p m) = [] := by simp [h]
theorem filt_f {p : M → Bool} {x : M} (h : p x = false) : [x].filter (fun m => !p m) = [x] := by simp [h]
theorem DInv.skip {p : M → Bool} {ms cur : List M} {i j : Nat} (d : DInv p ms cur i j) (hj : j < ms.length) (h : p (ms.getD j M.zero) = true) : DInv p ms cur i (j + 1) :=
  ⟨d.len, by have := d.lt; omega, hj, by rw [getD_take hj, List.filter_append, ← d.kept, filt_t h, List.append_nil], fun t h1 h2 => d.rest t (by omega) h2⟩
theorem DInv.keep {p : M → Bool} {ms cur : List M} {i j : Nat} (d : DInv p ms cur i j) (hj : j < ms.length) (h : p (ms.getD j M.zero) = false) : DInv p ms (cur.set i (ms.getD j M.zero)) (i + 1) (j + 1) := by
  have h1 := d.lt
  have h2 := d.len
  refine ⟨by rw [List.length_set, h2], by omega, hj, ?_, fun t h3 h4 => ?_⟩
  · rw [getD_take (show i < (cur.set i (ms.getD j M.zero)).length by rw [List.length_set]; omega), List.take_set_of_le (Nat.le_refl _), getD_take hj, List.filter_append, ← d.kept, filt_f h]
    congr 1
    rw [List.getD_eq_getElem?_getD, List.getElem?_set_self (by omega)]
    rfl
  · rw [List.getD_eq_getElem?_getD, List.getElem?_set_ne (by omega), ← List.getD_eq_getElem?_getD]
    exact d.rest t (by omega) h4
theorem DInv.start {p : M → Bool} {ms : List M} {k : Nat} (hk : k < ms.length) (h : p (ms.getD k M.zero) = true) (hb : ∀ j, j < k → p (ms.getD j M.zero) = false) : DInv p ms ms k (k + 1) := by
  refine ⟨rfl, by omega, hk, ?_, fun _ _ _ => rfl⟩
  rw [getD_take hk, List.filter_append, filt_t h, List.append_nil, List.filter_eq_self.2]
  · intro x hx
    obtain ⟨j, hj, rfl⟩ := List.mem_iff_getElem.1 hx
    rw [List.length_take] at hj
    have := hb j (by omega)
    rw [List.getD_eq_getElem?_getD, List.getElem?_eq_getElem (show j < ms.length by omega)] at this
    simpa using this
theorem idxM_is (p : M → Bool) (ms : List M) : (idxM p ms = -1 ∧ (ms.filter fun m => !p m) = ms) ∨ ∃ k, k < ms.length ∧ idxM p ms = (k : Nat) ∧ DInv p ms ms k (k + 1) := by
  by_cases h : ∀ j, j < ms.length → p (ms.getD j M.zero) = false
  · refine Or.inl ⟨idxM_miss h, List.filter_eq_self.2 fun x hx => ?_⟩
    obtain ⟨j, hj, rfl⟩ := List.mem_iff_getElem.1 hx
    have := h j hj
    simpa [hj] using this
  · right
    have hex : ∃ j, j < ms.length ∧ p (ms.getD j M.zero) = true := by
      apply Classical.byContradiction
      intro hn
      exact h fun j hj => by
        cases e : p (ms.getD j M.zero)
        · rfl
        · exact absurd ⟨j, hj, e⟩ hn
    obtain ⟨k, ⟨hk, hp⟩, hmin⟩ : ∃ k, (k < ms.length ∧ p (ms.getD k M.zero) = true) ∧ ∀ j, j < k → ¬ (j < ms.length ∧ p (ms.getD j M.zero) = true) := by
      obtain ⟨j, hj⟩ := hex
      induction j using Nat.strongRecOn with
      | _ j ih =>
        by_cases hs : ∃ i, i < j ∧ (i < ms.length ∧ p (ms.getD i M.zero) = true)
        · obtain ⟨i, hi, h2⟩ := hs
          exact ih i hi h2
        · exact ⟨j, hj, fun i hi h2 => hs ⟨i, hi, h2⟩⟩
    have hb : ∀ j, j < k → p (ms.getD j M.zero) = false := fun j hj => by
      cases e : p (ms.getD j M.zero)
      · rfl
      · exact absurd ⟨by omega, e⟩ (hmin j hj)
    exact ⟨k, hk, idxM_hit hk hp hb, DInv.start hk hp hb⟩

/-- A block of one's own whose first cells are messages. -/
def MRow (w : World) (g cap : Nat) (cur : List M) : Prop := BlkIs w g 56 (cap * 5) ∧ cur.length ≤ cap ∧ cap ≤ maxLen ∧ ∀ k, k < cur.length → MsgAt w g (k * 5) (cur.getD k M.zero)
theorem BlkIs.setCells {b : Nat} {e : TypeId} {n : Nat} : ∀ (vs : List Value) (o : Nat) {w : World}, BlkIs w b e n → BlkIs (w.setCells b o vs) b e n
  | [], _, _, h => h
  | _ :: r, o, _, h => BlkIs.setCells r (o + 1) h.setCell
theorem below_setCells {B b : Nat} {w : World} (hB : B ≤ b) : ∀ (vs : List Value) (o : Nat) {w' : World}, Below B w w' → Below B w (w'.setCells b o vs)
  | [], _, _, h => h
  | _ :: r, o, _, h => below_setCells hB r (o + 1) (below_setCell h hB _)
theorem MRow.lt {w : World} {g cap : Nat} {cur : List M} (h : MRow w g cap cur) : g < w.heap.size := h.1.lt
theorem MsgAt.keep {w w' : World} {b o : Nat} {m : M} (h : MsgAt w b o m) (k : w'.heap[b]? = w.heap[b]?) : MsgAt w' b o m :=
  ⟨(World.cell?_of_block (w := w) (a := ⟨b, o, none⟩) k).trans h.1, (World.cell?_of_block (w := w) (a := ⟨b, o + 1, none⟩) k).trans h.2.1, (World.cell?_of_block (w := w) (a := ⟨b, o + 2, none⟩) k).trans h.2.2.1,
    (World.cell?_of_block (w := w) (a := ⟨b, o + 3, none⟩) k).trans h.2.2.2.1, (World.cell?_of_block (w := w) (a := ⟨b, o + 4, none⟩) k).trans h.2.2.2.2⟩
theorem MRow.keep {w w' : World} {g cap : Nat} {cur : List M} (h : MRow w g cap cur) (k : w'.heap[g]? = w.heap[g]?) : MRow w' g cap cur := ⟨h.1.same k, h.2.1, h.2.2.1, fun j hj => (h.2.2.2 j hj).keep k⟩
/-- A message is stored. -/
def putMsg (w : World) (g o : Nat) (m : M) : World :=
  ((((w.setCell ⟨g, o, none⟩ (.int .i64 m.src)).setCell ⟨g, o + 1, none⟩ (.int .i64 m.grp)).setCell ⟨g, o + 2, none⟩ (.int .i64 m.stamp)).setCell ⟨g, o + 3, none⟩ (.bool m.null)).setCell ⟨g, o + 4, none⟩ (.string m.body)
theorem putMsg_cell {w : World} {g o : Nat} {m : M} {x : Nat} (h : x < o ∨ o + 5 ≤ x) : (putMsg w g o m).cell? ⟨g, x, none⟩ = w.cell? ⟨g, x, none⟩ := by
  unfold putMsg
  rw [cell_setCell x (by omega), cell_setCell x (by omega), cell_setCell x (by omega), cell_setCell x (by omega), cell_setCell x (by omega)]
theorem putMsg_at {w : World} {g o n : Nat} {m : M} {e : TypeId} (h : BlkIs w g e n) (ho : o + 5 ≤ n) : MsgAt (putMsg w g o m) g o m := by
  unfold putMsg
  have h1 := h.setCell (a := o) (u := .int .i64 m.src)
  have h2 := h1.setCell (a := o + 1) (u := .int .i64 m.grp)
  have h3 := h2.setCell (a := o + 2) (u := .int .i64 m.stamp)
  have h4 := h3.setCell (a := o + 3) (u := .bool m.null)
  refine ⟨?_, ?_, ?_, ?_, h4.cell_set (by omega)⟩
  · rw [cell_setCell o (by omega), cell_setCell o (by omega), cell_setCell o (by omega), cell_setCell o (by omega)]
    exact h.cell_set (by omega)
  · rw [cell_setCell _ (by omega), cell_setCell _ (by omega), cell_setCell _ (by omega)]
    exact h1.cell_set (by omega)
  · rw [cell_setCell _ (by omega), cell_setCell _ (by omega)]
    exact h2.cell_set (by omega)
  · rw [cell_setCell _ (by omega)]
    exact h3.cell_set (by omega)
theorem putMsg_blk {w : World} {g o : Nat} {m : M} {e : TypeId} {n : Nat} (h : BlkIs w g e n) : BlkIs (putMsg w g o m) g e n := ((((h.setCell).setCell).setCell).setCell).setCell
theorem putMsg_below {w w' : World} {B g o : Nat} {m : M} (h : Below B w w') (hg : B ≤ g) : Below B w (putMsg w' g o m) :=
  below_setCell (below_setCell (below_setCell (below_setCell (below_setCell h hg _) hg _) hg _) hg _) hg _
theorem MRow.set {w : World} {g cap i : Nat} {cur : List M} (h : MRow w g cap cur) (hi : i < cur.length) (m : M) : MRow (putMsg w g (i * 5) m) g cap (cur.set i m) := by
  obtain ⟨h1, h2, h4, h3⟩ := h
  refine ⟨putMsg_blk h1, by rw [List.length_set]; exact h2, h4, fun k hk => ?_⟩
  rw [List.length_set] at hk
  by_cases e : k = i
  · subst e
    rw [List.getD_eq_getElem?_getD, List.getElem?_set_self hk]
    exact putMsg_at h1 (by omega)
  · rw [List.getD_eq_getElem?_getD, List.getElem?_set_ne (Ne.symm e), ← List.getD_eq_getElem?_getD]
    obtain ⟨c0, c1, c2, c3, c4⟩ := h3 k hk
    exact ⟨(putMsg_cell (by omega)).trans c0, (putMsg_cell (by omega)).trans c1, (putMsg_cell (by omega)).trans c2, (putMsg_cell (by omega)).trans c3, (putMsg_cell (by omega)).trans c4⟩
theorem getD_take_lt {ms : List M} {i k : Nat} (h : k < i) : (ms.take i).getD k M.zero = ms.getD k M.zero := by
  rw [List.getD_eq_getElem?_getD, List.getElem?_take_of_lt h, ← List.getD_eq_getElem?_getD]
theorem MRow.msgs {w : World} {g cap i : Nat} {cur : List M} (hB : BlkIs w g 56 (cap * 5)) (h : ∀ k, k < i → MsgAt w g (k * 5) (cur.getD k M.zero)) (hc : cur.length ≤ cap) (hm : cap ≤ maxLen) (hf : ∀ m ∈ cur, m.fits) (hi : i ≤ cur.length) (hl : cur.length * 40 ≤ 140737488351232) :
    Msgs w (.slice (some ⟨g, 0, none⟩) (cur.take i).length cap) (cur.take i) := by
  have hlt : (cur.take i).length = i := by rw [List.length_take]; omega
  refine OMsgs.msgs (o := false) (S := fun _ => True) (.inr ⟨g, 0, cap, fun _ _ => False, rfl, trivial, by simpa using hB, by omega, hm, fun _ => rfl, by omega, fun k hk => ?_, fun _ _ (h : False) => h.elim, fun _ _ _ (h : False) => h.elim⟩)
  rw [hlt] at hk
  refine ⟨((cur.take i)[k]).cells, rfl, fun j hj => ?_, rfl, hf _ (List.mem_of_mem_take (List.getElem_mem _))⟩
  have e : (cur.take i)[k] = cur.getD k M.zero := by
    rw [← getD_lt (cur.take i) M.zero (by omega), getD_take_lt hk]
  rw [e]
  obtain ⟨c0, c1, c2, c3, c4⟩ := h k hk
  rw [Nat.zero_add]
  match j, hj with
  | 0, _ => exact c0
  | 1, _ => exact c1
  | 2, _ => exact c2
  | 3, _ => exact c3
  | 4, _ => exact c4
theorem MsgsOwn.row {w : World} {base : Nat} {v : Value} {ms : List M} (h : MsgsOwn w base v ms) (hl : ms.length * 40 ≤ 140737488351232) (h0 : ms ≠ []) : ∃ g cap, v = .slice (some ⟨g, 0, none⟩) ms.length cap ∧ base ≤ g ∧ MRow w g cap ms := by
  obtain ⟨g, off, cap, T, rfl, hg, hB, hc, hm, ho, _, hE, _⟩ := (h.own hl).resolve_left (fun ⟨_, _, e, _⟩ => h0 e)
  obtain rfl := ho rfl
  refine ⟨g, cap, rfl, (h.lt g hg).1, by simpa using hB, hc, hm, fun k hk => ?_⟩
  obtain ⟨cs, hcs, hj, e, _⟩ := hE k hk
  subst e
  rw [← getD_lt ms M.zero hk] at hj
  simp only [Nat.zero_add] at hj
  exact ⟨hj 0 (by omega), hj 1 (by omega), hj 2 (by omega), hj 3 (by omega), hj 4 (by omega)⟩
/-- What a function value over messages answers, from a world on, whatever it is handed; the worlds it may be met in. -/
theorem DeleteFunc_c {w0 w : World} {v : Value} {ms : List M} (ho : MsgsOwn w w0.heap.size v ms) (hb0 : Below w0.heap.size w0 w) (hl : ms.length * 40 ≤ 140737488351232) (g : Nat) (lb : Array Value) (p : M → Bool) (hp : PredM Tryz.prog g lb p w0) :
    Calls Tryz.prog 66 #[v, .func (.func g) #[] lb] w fun e w' => ∃ v', e = .returned v' ∧ Msgs w' v' (ms.filter fun m => !p m) ∧ Below w0.heap.size w0 w' := by
  obtain ⟨i0, hi, hz0, hz1, hz2⟩ := info_parts infoCMsg
  have hM := ho.msgs hl
  have hpw : PredM Tryz.prog g lb p w := ⟨hp.1, fun W m h => hp.2 W m (below_trans hb0 h)⟩
  have hI := IndexFuncM_c hM g lb p hpw
  obtain ⟨P, hP⟩ : ∃ P : Ending → World → Prop, (fun e w' => ∃ v', e = .returned v' ∧ Msgs w' v' (ms.filter fun m => !p m) ∧ Below w0.heap.size w0 w') = P := ⟨_, rfl⟩
  rw [hP]
  replace hP := Lib.hid hP
  rcases idxM_is p ms with ⟨hr, hfil⟩ | ⟨k, hk, hr, hD⟩
  · rw [hr] at hI
    obtain ⟨_, a, cap, rfl, _⟩ := hM.open
    rw [hfil] at hP
    replace hfil := Lib.hid hfil
    clear hpw hp
    go_enter Tryz.func66, Tryz.ntmps66
    go_wp2_with fail
    refine hI.mono ?_
    rintro e w1 ⟨rfl, b1⟩
    go_wp2_with fail
    rw [← hP.out]
    exact ⟨_, rfl, hM.below b1, hb0.trans (b1.mono hb0.size)⟩
  · rw [hr] at hI
    obtain ⟨gb, cap, rfl, hgb, hR⟩ := ho.row hl (by intro e; rw [e] at hk; simp at hk)
    have hfit := ho.1
    have heg := hp.1
    have hpH := hp.2
    have hne : (((k : Nat) : Int) == -1) = false := beq_eq_false_iff_ne.2 (by omega)
    replace hpH := Lib.hid hpH
    replace hfit := Lib.hid hfit
    replace hb0 := Lib.hid hb0
    replace hD := Lib.hid hD
    clear hM hpw hp ho hr
    go_enter Tryz.func66, Tryz.ntmps66
    go_wp2_with fail
    refine hI.mono ?_
    rintro e w1 ⟨rfl, b1⟩
    have hR1 := hR.keep (b1.block _ hR.lt)
    have b1 := hb0.out.trans (b1.mono hb0.out.size)
    replace b1 := Lib.hid b1
    replace hR1 := Lib.hid hR1
    clear hI hR hb0
    go_wp2_with fail
    go_loopw [5, 6] (fun s5 s6 wr => ∃ (i j : Nat) (cur : List M), s5 = .int .i64 i ∧ s6 = .int .i64 j ∧ Hid (DInv p ms cur i j) ∧ Hid (∀ m ∈ cur, m.fits) ∧ Hid (MRow wr gb cap cur) ∧ Hid (Below w0.heap.size w0 wr)) (fun _ s6 _ => ms.length - (intOf s6).toNat)
    case atStart => exact ⟨k, k + 1, ms, rfl, by go_num, hD, hfit, hR1, b1⟩
    case round =>
      obtain ⟨i, j, cur, rfl, rfl, hDj, hfj, hRj, hbj⟩ := hrel
      have hd := hDj.out
      have hd1 := hd.lt
      have hd2 := hd.le
      have hd3 := hd.len
      by_cases hlt : j < ms.length
      · have hMj := hRj.out.2.2.2 j (by omega)
        rw [hd.rest j (Nat.le_refl _) hlt] at hMj
        obtain ⟨m, hm⟩ : ∃ m, ms.getD j M.zero = m := ⟨_, rfl⟩
        rw [hm] at hMj
        replace hm := Lib.hid hm
        have hmf : m.fits := by rw [← hm.out]; exact hfit.out _ (getD_mem ms M.zero hlt)
        replace hmf := Lib.hid hmf
        replace hd3 := Lib.hid hd3
        clear hd
        have hB2 := hbj.out.trans ((below_a1 wr (.cells #[.int .i64 m.src, .int .i64 m.grp, .int .i64 m.stamp, .bool m.null, .string m.body] 56)).mono hbj.out.size)
        have hBx := MsgBox.new wr m 56
        have hR2 := hRj.out.keep ((below_a1 wr (.cells #[.int .i64 m.src, .int .i64 m.grp, .int .i64 m.stamp, .bool m.null, .string m.body] 56)).block _ hRj.out.lt)
        have hgl := hRj.out.lt
        have hxl : wr.heap.size < (wr.alloc (.cells #[.int .i64 m.src, .int .i64 m.grp, .int .i64 m.stamp, .bool m.null, .string m.body] 56)).heap.size := by rw [World.size_alloc]; omega
        have hcall := hpH.out _ m hB2
        unfold M.val at hcall
        obtain ⟨m0, m1, m2, m3, m4⟩ := hMj
        replace hR2 := Lib.hid hR2
        replace hB2 := Lib.hid hB2
        clear hRj hbj
        go_upto_region 8 with fail
        generalize wr.alloc (.cells #[.int .i64 m.src, .int .i64 m.grp, .int .i64 m.stamp, .bool m.null, .string m.body] 56) = w2 at *
        obtain ⟨C, hC⟩ : ∃ C, wr.heap.size = C := ⟨_, rfl⟩
        simp only [hC] at hBx hxl hgl ⊢
        clear hC m0 m1 m2 m3 m4
        obtain ⟨x0, x1, x2, x3, x4⟩ := id hBx
        cases hq : p m
        · rw [hq] at hcall
          replace hq := Lib.hid hq
          have hil : i < cur.length := by have := hd3.out; omega
          go_wp2_with fail
          refine hcall.mono ?_
          rintro e w3 ⟨rfl, b3⟩
          have hBz := hBx.below b3 hxl
          have hRz := hR2.out.keep (b3.block _ hR2.out.lt)
          have bz := hB2.out.trans (b3.mono hB2.out.size)
          clear x0 x1 x2 x3 x4
          obtain ⟨x0, x1, x2, x3, x4⟩ := id hBz
          obtain ⟨z0, z1, z2, z3, z4⟩ := hRz.2.2.2 i hil
          have f0 := hRz.1.frozen (i * 5)
          have f1 := hRz.1.frozen (i * 5 + 1)
          have f2 := hRz.1.frozen (i * 5 + 2)
          have f3 := hRz.1.frozen (i * 5 + 3)
          have f4 := hRz.1.frozen (i * 5 + 4)
          replace hRz := Lib.hid hRz
          replace bz := Lib.hid bz
          go_wp2_with fail
          go_roundw
          case rel =>
            exact ⟨i + 1, j + 1, cur.set i m, by go_num, by go_num, Lib.hid (by have := hDj.out.keep hlt (by rw [hm.out]; exact hq.out); rwa [hm.out] at this), Lib.hid (fun x hx => (List.mem_or_eq_of_mem_set hx).elim (hfj.out x) (fun e => e ▸ hmf.out)), Lib.hid (hRz.out.set hil m), Lib.hid (putMsg_below bz.out hgb)⟩
          case measure => simp [intOf]; omega
        · rw [hq] at hcall
          replace hq := Lib.hid hq
          go_wp2_with (go_at_fn g; refine hcall.mono ?_; rintro e w3 ⟨rfl, b3⟩)
          go_roundw
          case rel =>
            exact ⟨i, j + 1, cur, rfl, by go_num, Lib.hid (hDj.out.skip hlt (by rw [hm.out]; exact hq.out)), hfj, Lib.hid (hR2.out.keep (b3.block _ hR2.out.lt)), Lib.hid (hB2.out.trans (b3.mono hB2.out.size))⟩
          case measure => simp [intOf]; omega
      · obtain rfl : j = ms.length := by omega
        have hRr := hRj.out
        have hcells : ∀ t, t < (ms.length - i) * 5 → (wr.cell? ⟨gb, i * 5 + t, none⟩).isSome = true := fun t ht => by
          have hk : i + t / 5 < cur.length := by omega
          obtain ⟨c0, c1, c2, c3, c4⟩ := hRr.2.2.2 (i + t / 5) hk
          have e : i * 5 + t = (i + t / 5) * 5 + t % 5 := by omega
          rw [e]
          have h5 : t % 5 < 5 := Nat.mod_lt _ (by decide)
          match t % 5, h5 with
          | 0, _ => rw [Nat.add_zero, c0]; rfl
          | 1, _ => rw [c1]; rfl
          | 2, _ => rw [c2]; rfl
          | 3, _ => rw [c3]; rfl
          | 4, _ => rw [c4]; rfl
        obtain ⟨vs, hvs, hcl⟩ := run_clear_rows (P := Tryz.prog) wr 45 56 i0 _ Tryz.underlying45 hi hz0 (by simp [Value.cells, Value.oneCell']) (by simp [Value.cells]) gb (i * 5) (ms.length - i) (cap - i) (by omega) hcells (fun j => hRr.1.frozen j)
        have hcc := hRr.2.1
        have hfi : Msgs (wr.setCells gb (i * 5) vs) (.slice (some ⟨gb, 0, none⟩) i cap) (ms.filter fun m => !p m) := by
          have h1 := MRow.msgs (w := wr.setCells gb (i * 5) vs) (i := i) (cap := cap) (cur := cur) (g := gb) (hRr.1.setCells vs _) (fun t ht => by
            obtain ⟨c0, c1, c2, c3, c4⟩ := hRr.2.2.2 t (by omega)
            have ho : ∀ x, x < i * 5 → (wr.setCells gb (i * 5) vs).cell? ⟨gb, x, none⟩ = wr.cell? ⟨gb, x, none⟩ := fun x hx => World.cell?_setCells_out gb vs (i * 5) wr ⟨gb, x, none⟩ (fun _ _ => Or.inl hx)
            exact ⟨(ho _ (by omega)).trans c0, (ho _ (by omega)).trans c1, (ho _ (by omega)).trans c2, (ho _ (by omega)).trans c3, (ho _ (by omega)).trans c4⟩) hcc hRr.2.2.1 hfj.out (by omega) (by omega)
          rw [List.length_take, hd.kept, List.take_length] at h1
          rwa [Nat.min_eq_left (by omega)] at h1
        have hbe : Below w0.heap.size w0 (wr.setCells gb (i * 5) vs) := below_setCells hgb vs _ hbj.out
        have hfb := Lib.hid (And.intro hfi hbe)
        clear hfi hbe hcells hRr hd hDj hfj hRj hbj
        go_wp2_with fail
        rw [← hP.out]
        exact ⟨_, rfl, hfb.out.1, hfb.out.2⟩
end Go.Proofs.YtgifclphigpnhaaGreat

set_option maxRecDepth 100000
namespace Go.Proofs.YtgifclphigpnhaaGreat
open Go.RowKit Go.Shelf Go.BigFrame

theorem IndexM_c {w : World} {v : Value} {ms : List M} (h : Msgs w v ms) (m : M) :
    Calls Tryz.prog 102 #[v, m.val] w (GivesB (.int .i64 (idxM (eqM m) ms)) w) := by
  obtain ⟨hl, a, cap, rfl, _, hc⟩ := h.open
  have hA := below_a1 w (.cells #[.int .i64 m.src, .int .i64 m.grp, .int .i64 m.stamp, .bool m.null, .string m.body] 56)
  have hB := MsgBox.new w m 56
  have hs1 : w.heap.size < (w.alloc (.cells #[.int .i64 m.src, .int .i64 m.grp, .int .i64 m.stamp, .bool m.null, .string m.body] 56)).heap.size := by rw [World.size_alloc]; omega
  replace hc := Lib.hid hc
  have hh := Lib.hid (fun (k : Nat) (hk : k < ms.length) (h1 : eqM m (ms.getD k M.zero) = true) (h2 : ∀ j, j < k → eqM m (ms.getD j M.zero) = false) => idxM_hit (p := eqM m) hk h1 h2)
  have hmi := Lib.hid (fun (h : ∀ j, j < ms.length → eqM m (ms.getD j M.zero) = false) => idxM_miss (p := eqM m) h)
  generalize idxM (eqM m) ms = r at *
  unfold M.val
  go_enter Tryz.func102, Tryz.ntmps102
  go_upto_region 1 with fail
  generalize w.alloc (.cells #[.int .i64 m.src, .int .i64 m.grp, .int .i64 m.stamp, .bool m.null, .string m.body] 56) = w1 at *
  obtain ⟨C, hC⟩ : ∃ C, w.heap.size = C := ⟨_, rfl⟩
  simp only [hC] at hB hs1 ⊢
  replace hC := Lib.hid hC
  go_wp2_with fail
  go_loopw [8] (fun i wr => ∃ k : Nat, k ≤ ms.length ∧ i = .int .i64 k ∧ Hid (∀ j, j < k → eqM m (ms.getD j M.zero) = false) ∧ Below w1.heap.size w1 wr) (fun i _ => ms.length - (intOf i).toNat)
  case atStart => exact ⟨0, by omega, rfl, fun j hj => absurd hj (Nat.not_lt_zero _), Below.refl _ _⟩
  case round =>
    obtain ⟨k, hk, rfl, hAl, hb⟩ := hrel
    by_cases hlt : k < ms.length
    · obtain ⟨bm, off, rfl, hcc⟩ := hc.out (by intro e; subst e; simp at hlt)
      obtain ⟨m0, m1, m2, m3, m4⟩ := ((hcc k hlt).below hA).below hb
      obtain ⟨x0, x1, x2, x3, x4⟩ := hB.below hb hs1
      obtain ⟨x, HM⟩ : ∃ x, ms.getD k M.zero = x := ⟨_, rfl⟩
      rw [HM] at m0 m1 m2 m3 m4
      replace HM := Lib.hid HM
      have heq := eql_msg m x
      clear hcc
      cases hq : eqM m x
      · rw [hq] at heq
        replace hq := Lib.hid hq
        go_wp2_with fail
        go_quiet (fail)
        go_wp2_with fail
        go_roundw
        case rel =>
          refine ⟨k + 1, by omega, by go_num, fun j hj => ?_, below_trans hb (below_drewN wr _)⟩
          by_cases e : j = k
          · subst e; rw [HM.out]; exact hq.out
          · exact hAl.out j (by omega)
        case measure => simp [intOf]; omega
      · rw [hq] at heq
        replace hq := Lib.hid hq
        go_wp2_with fail
        go_quiet (fail)
        go_wp2_with fail
        go_ret
        exact givesB_int (below_trans (below_trans hA hb) (below_drewN wr _)) (hh.out k hlt (by rw [HM.out]; exact hq.out) hAl.out).symm
    · obtain rfl : k = ms.length := by omega
      go_wp2_with fail
      go_ret
      exact givesB_int (below_trans hA hb) (hmi.out hAl.out).symm
theorem ContainsM_c {w : World} {v : Value} {ms : List M} (h : Msgs w v ms) (m : M) :
    Calls Tryz.prog 69 #[v, m.val] w (GivesB (.bool (ms.any (eqM m))) w) := by
  have hA := below_a1 w (.cells #[.int .i64 m.src, .int .i64 m.grp, .int .i64 m.stamp, .bool m.null, .string m.body] 56)
  have hB := MsgBox.new w m 56
  have hI := IndexM_c (h.below hA) m
  have HE := Lib.hid (idxM_any (eqM m) ms)
  generalize idxM (eqM m) ms = r at *
  obtain ⟨_, a, cap, rfl, _⟩ := h.open
  clear h
  unfold M.val at hI ⊢
  go_enter Tryz.func69, Tryz.ntmps69
  go_upto_region 1 with fail
  generalize w.alloc (.cells #[.int .i64 m.src, .int .i64 m.grp, .int .i64 m.stamp, .bool m.null, .string m.body] 56) = w1 at *
  obtain ⟨C, hC⟩ : ∃ C, w.heap.size = C := ⟨_, rfl⟩
  simp only [hC] at hB ⊢
  replace hC := Lib.hid hC
  obtain ⟨x0, x1, x2, x3, x4⟩ := id hB
  go_wp2_with fail
  refine hI.mono ?_
  rintro e w2 ⟨rfl, b2⟩
  go_wp2_with fail
  go_ret
  exact givesB_bool (below_trans hA b2) HE.out
end Go.Proofs.YtgifclphigpnhaaGreat

set_option maxRecDepth 100000
namespace Go.Proofs.YtgifclphigpnhaaGreat
open Go.RowKit Go.Shelf Go.BigFrame

/-- What was told to both of two nodes, in the order of the one. -/
def commonL (x y : N) : List M := x.told.filter fun m => y.told.any (eqM m)
def commonF (X : Wd) (a b : Int) : List M := if moveE X a b = 0 then commonL (X.nodes.getD a.toNat N.zero) (X.nodes.getD b.toNat N.zero) else []
/-- A list of messages and an error are handed back. -/
def LPost (w : World) (l : List M) (r : Int) (e : Ending) (w' : World) : Prop := ∃ v', e = .returned (.tuple #[v', .int .i64 r]) ∧ Msgs w' v' l ∧ Below w.heap.size w w'

theorem common1_c {w : World} {C : Nat} {v : Value} {ms : List M} (hc : w.cell? ⟨C, 0, none⟩ = some v) (h : Msgs w v ms) (m : M) :
    Calls Tryz.prog 68 #[m.val, .pointer (some ⟨C, 0, none⟩)] w (GivesB (.bool (!ms.any (eqM m))) w) := by
  have hA := below_a1 w (.cells #[.int .i64 m.src, .int .i64 m.grp, .int .i64 m.stamp, .bool m.null, .string m.body] 56)
  have hB := MsgBox.new w m 56
  have hI := ContainsM_c (h.below hA) m
  have hc := (hA.cell (p := ⟨C, 0, none⟩) (cell_lt hc)).trans hc
  generalize ms.any (eqM m) = r at *
  obtain ⟨_, a, cap, rfl, _⟩ := h.open
  clear h
  unfold M.val at hI ⊢
  go_enter Tryz.func68, Tryz.ntmps68
  go_upto_region 1 with fail
  generalize w.alloc (.cells #[.int .i64 m.src, .int .i64 m.grp, .int .i64 m.stamp, .bool m.null, .string m.body] 56) = w1 at *
  obtain ⟨D, hD⟩ : ∃ D, w.heap.size = D := ⟨_, rfl⟩
  simp only [hD] at hB ⊢
  replace hD := Lib.hid hD
  obtain ⟨x0, x1, x2, x3, x4⟩ := id hB
  go_wp2_with fail
  refine hI.mono ?_
  rintro e w2 ⟨rfl, b2⟩
  go_wp2_with fail
  go_ret
  exact givesB_bool (below_trans hA b2) rfl
theorem common1_p {w : World} {C : Nat} {v : Value} {ms : List M} (hc : w.cell? ⟨C, 0, none⟩ = some v) (h : Msgs w v ms) : PredM Tryz.prog 68 #[.pointer (some ⟨C, 0, none⟩)] (fun m => !ms.any (eqM m)) w :=
  ⟨enters_of Tryz.func68 (by kernel_rfl) rfl, fun W m hb => common1_c ((hb.cell (p := ⟨C, 0, none⟩) (cell_lt hc)).trans hc) (h.below hb) m⟩

set_option maxHeartbeats 1000000 in
theorem Common_c {w : World} {v : Value} {X : Wd} (h : WorldAt w v X) (a b : Int) (ha64 : I64 a) (hb64 : I64 b) : Calls Tryz.prog 33 #[v, .int .i64 a, .int .i64 b] w (LPost w (commonF X a b) (moveE X a b)) := by
  have hW0 := h
  obtain ⟨gv, nv, wv, rfl, hg, hn, hw⟩ := h
  obtain ⟨hnl, na, ncap, rfl, hnc⟩ := hn.form
  obtain ⟨hwl, wa, wcap, rfl, hwc⟩ := hw.form
  obtain ⟨hgl, ga, gcap, rfl, _⟩ := hg.open
  have hA := below_a1 w (.cells #[.slice ga X.groups.length gcap, .slice na X.nodes.length ncap, .slice wa X.wires.length wcap] 26)
  have hB := OBox.new w 26 (.slice ga X.groups.length gcap) (.slice na X.nodes.length ncap) (.slice wa X.wires.length wcap)
  have hR : commonF X a b = commonF X a b := rfl
  conv at hR => rhs; unfold commonF
  generalize commonF X a b = r at *
  obtain ⟨P, hP⟩ : ∃ P, LPost w r (moveE X a b) = P := ⟨_, rfl⟩
  rw [hP]
  replace hP := Lib.hid hP
  go_enter Tryz.func33, Tryz.ntmps33
  go_upto_region 1 with fail
  generalize w.alloc (.cells #[.slice ga X.groups.length gcap, .slice na X.nodes.length ncap, .slice wa X.wires.length wcap] 26) = wA at *
  obtain ⟨_, b0, b1, b2⟩ := id hB
  have hLt := Ints.lit wA [a, b] 3 (by simp [ha64, hb64]) (by simp)
  have hb0 := below_a1 wA (.cells #[.int .i64 a, .int .i64 b] 3)
  have hE1 := There_c (hW0.below (below_trans hA hb0)) hLt
  rw [thereE_two] at hE1
  simp only [List.length_cons, List.length_nil, Nat.zero_add, Nat.reduceAdd] at hE1
  by_cases he : moveE X a b = 0
  · obtain ⟨hx, ha0, ha1, hbb0, hbb1⟩ := moveE_ok he
    obtain ⟨a, rfl⟩ := Int.eq_ofNat_of_zero_le ha0
    obtain ⟨b, rfl⟩ := Int.eq_ofNat_of_zero_le hbb0
    have ha : a < X.nodes.length := by omega
    have hb : b < X.nodes.length := by omega
    have hq1 := ((right_of hx).node a ha).told.many
    rw [if_pos he, Int.toNat_natCast, Int.toNat_natCast] at hR
    rw [he] at hE1 hP
    replace hR := Lib.hid hR
    clear he ha0 ha1 hbb0 hbb1 hx
    go_wp2_with fail
    refine hE1.mono ?_
    rintro e w1 ⟨rfl, hb1⟩
    have hb1 := below_trans hb0 hb1
    clear b0 b1 b2 hE1 hb0 hLt
    have hB1 := hB.keep (hb1.block _ hB.lt)
    have hA1 := below_trans hA hb1
    obtain ⟨bb, oo, cc, lv, hv, tv, e1, hc1, k0, k1, k2, k3, hk64, hrr, hh, htt⟩ := (hn.below hA1).at hb
    cases e1
    obtain ⟨_, _, _, lv2, hv2, tv2, e1, _, j0, j1, j2, j3, _, _, _, htt2⟩ := (hn.below hA1).at ha
    cases e1
    obtain ⟨_, ta, tcap, rfl, _⟩ := htt.open
    obtain ⟨_, ua, ucap, rfl, _⟩ := htt2.open
    obtain ⟨x, HX⟩ : ∃ x, X.nodes.getD a N.zero = x := ⟨_, rfl⟩
    obtain ⟨y, HY⟩ : ∃ y, X.nodes.getD b N.zero = y := ⟨_, rfl⟩
    rw [HY] at htt k3
    rw [HX] at htt2 j3 hq1
    rw [HX, HY] at hR
    clear HX HY hrr hh k0 k1 k2 j0 j1 j2
    obtain ⟨_, x0, x1, x2⟩ := id hB1
    have bx := below_a1 w1 (.cells #[.slice ta y.told.length tcap] 45)
    have hCx : (w1.alloc (.cells #[.slice ta y.told.length tcap] 45)).cell? ⟨w1.heap.size, 0, none⟩ = some (.slice ta y.told.length tcap) := by simp
    have htt := (htt.below bx)
    have htt2 := htt2.below bx
    have hB2 := hB1.keep (bx.block _ hB1.lt)
    have j3 := (bx.cell (p := ⟨bb, oo + a * 4 + 3, none⟩) (cell_lt j3)).trans j3
    have bx := below_trans hA1 bx
    go_upto_region 5 with fail
    generalize w1.alloc (.cells #[.slice ta y.told.length tcap] 45) = w2 at *
    obtain ⟨C, hC⟩ : ∃ C, w1.heap.size = C := ⟨_, rfl⟩
    simp only [hC] at hCx ⊢
    replace hC := Lib.hid hC
    have hPr := common1_p hCx htt
    have hfl : (x.told.filter fun m => !(!y.told.any (eqM m))) = r := by rw [hR.out]; simp [commonL]
    replace hPr := Lib.hid hPr
    replace hfl := Lib.hid hfl
    have hCl := CloneMsg_c htt2.2 (one_flat _) (by omega)
    clear x0 x1 x2 hB hB1 hA hA1 hb1 hR htt k3
    obtain ⟨_, x0, x1, x2⟩ := id hB2
    go_wp2_with fail
    refine hCl.mono ?_
    rintro e w3 ⟨v3, rfl, ho3, b3⟩
    have hD := DeleteFunc_c (w0 := w2) (ms := x.told) ⟨htt2.1, ho3⟩ b3 (by omega) _ _ _ hPr.out
    obtain ⟨a3, c3, rfl⟩ := own_form ho3
    rw [hfl.out] at hD
    go_wp2_with fail
    refine hD.mono ?_
    rintro e w4 ⟨v4, rfl, hM4, b4⟩
    obtain ⟨_, a4, c4, rfl, _⟩ := hM4.open
    go_wp2_with fail
    rw [← hP.out]
    exact ⟨_, rfl, hM4, below_trans bx b4⟩
  · rw [if_neg he] at hR
    subst hR
    generalize moveE X a b = e0 at *
    have hne : (e0 != 0) = true := by simpa using he
    replace he := Lib.hid he
    go_wp2_with fail
    refine hE1.mono ?_
    rintro e w1 ⟨rfl, hb1⟩
    go_wp2_with fail
    rw [← hP.out]
    exact ⟨_, rfl, Msgs.nil _, below_trans (below_trans hA hb0) hb1⟩

/-- How many were told ahead of a message, and whether it was told. -/
def aheadK (x : N) (m : M) : Int := if 0 < idxM (eqM m) x.told then idxM (eqM m) x.told else 0
def aheadF (X : Wd) (n : Int) (m : M) : Value :=
  if nodeE X n = 0 then .tuple #[.int .i64 (aheadK (X.nodes.getD n.toNat N.zero) m), .bool ((X.nodes.getD n.toNat N.zero).told.any (eqM m)), .int .i64 0] else .tuple #[.int .i64 0, .bool false, .int .i64 (nodeE X n)]

set_option maxHeartbeats 1000000 in
theorem Ahead_c {w : World} {v : Value} {X : Wd} (h : WorldAt w v X) (n : Int) (hn64 : I64 n) (m : M) : Calls Tryz.prog 65 #[v, .int .i64 n, m.val] w (GivesB (aheadF X n m) w) := by
  have hW0 := h
  obtain ⟨gv, nv, wv, rfl, hg, hn, hw⟩ := h
  obtain ⟨hnl, na, ncap, rfl, hnc⟩ := hn.form
  obtain ⟨hwl, wa, wcap, rfl, hwc⟩ := hw.form
  obtain ⟨hgl, ga, gcap, rfl, _⟩ := hg.open
  have hA := below_a1 w (.cells #[.slice ga X.groups.length gcap, .slice na X.nodes.length ncap, .slice wa X.wires.length wcap] 26)
  have hB := OBox.new w 26 (.slice ga X.groups.length gcap) (.slice na X.nodes.length ncap) (.slice wa X.wires.length wcap)
  have hR : aheadF X n m = aheadF X n m := rfl
  conv at hR => rhs; unfold aheadF
  generalize aheadF X n m = r at *
  obtain ⟨P, hP⟩ : ∃ P, GivesB r w = P := ⟨_, rfl⟩
  rw [hP]
  replace hP := Lib.hid hP
  have hsA : (w.alloc (.cells #[.slice ga X.groups.length gcap, .slice na X.nodes.length ncap, .slice wa X.wires.length wcap] 26)).heap.size = w.heap.size + 1 := World.size_alloc _ _
  replace hsA := Lib.hid hsA
  unfold M.val
  go_enter Tryz.func65, Tryz.ntmps65
  go_upto_region 1 with fail
  generalize w.alloc (.cells #[.slice ga X.groups.length gcap, .slice na X.nodes.length ncap, .slice wa X.wires.length wcap] 26) = wA at *
  have hAm := below_a1 wA (.cells #[.int .i64 m.src, .int .i64 m.grp, .int .i64 m.stamp, .bool m.null, .string m.body] 56)
  have hBm := MsgBox.new wA m 56
  have hBl : wA.heap.size < (wA.alloc (.cells #[.int .i64 m.src, .int .i64 m.grp, .int .i64 m.stamp, .bool m.null, .string m.body] 56)).heap.size := by rw [World.size_alloc]; omega
  have hB := hB.keep (hAm.block _ hB.lt)
  have hA := below_trans hA hAm
  generalize wA.alloc (.cells #[.int .i64 m.src, .int .i64 m.grp, .int .i64 m.stamp, .bool m.null, .string m.body] 56) = wB at *
  rw [hsA.out] at hBm hBl
  clear hAm hsA
  obtain ⟨_, b0, b1, b2⟩ := id hB
  have hLt := Ints.lit wB [n] 3 (by simp [hn64]) (by simp)
  have hb0 := below_a1 wB (.cells #[.int .i64 n] 3)
  have hE1 := There_c (hW0.below (below_trans hA hb0)) hLt
  rw [thereE_one] at hE1
  simp only [List.length_cons, List.length_nil, Nat.zero_add] at hE1
  by_cases he : nodeE X n = 0
  · obtain ⟨hx, ha0, ha1⟩ := nodeE_ok he
    obtain ⟨k, rfl⟩ := Int.eq_ofNat_of_zero_le ha0
    have hk : k < X.nodes.length := by omega
    rw [if_pos he, Int.toNat_natCast] at hR
    rw [he] at hE1
    replace hR := Lib.hid hR
    clear he ha0 ha1 hx
    go_wp2_with fail
    refine hE1.mono ?_
    rintro e w1 ⟨rfl, hb1⟩
    have hb1 := below_trans hb0 hb1
    clear b0 b1 b2 hE1 hb0 hLt
    have hB1 := hB.keep (hb1.block _ hB.lt)
    have hM1 := hBm.below hb1 hBl
    have hA1 := below_trans hA hb1
    obtain ⟨bb, oo, cc, lv, hv, tv, e1, hc1, k0, k1, k2, k3, hk64, hrr, hh, htt⟩ := (hn.below hA1).at hk
    cases e1
    obtain ⟨_, ta, tcap, rfl, _⟩ := htt.open
    obtain ⟨x, HX⟩ : ∃ x, X.nodes.getD k N.zero = x := ⟨_, rfl⟩
    rw [HX] at htt k3 hR
    clear HX hrr hh k0 k1 k2
    have hI := fun j => IndexM_c (htt.below (below_drewN w1 j)) m
    have hAn := Lib.hid (idxM_any (eqM m) x.told)
    have hKn : aheadK x m = if 0 < idxM (eqM m) x.told then idxM (eqM m) x.told else 0 := rfl
    generalize idxM (eqM m) x.told = i0 at *
    generalize aheadK x m = kk at *
    replace hKn := Lib.hid hKn
    replace hI := Lib.hid hI
    obtain ⟨_, x0, x1, x2⟩ := id hB1
    obtain ⟨y0, y1, y2, y3, y4⟩ := id hM1
    go_wp2_with fail
    go_still_tail 7, (by kernel_rfl)
    go_wp2_with fail
    refine (hI.out 1).mono ?_
    rintro e w2 ⟨rfl, b2⟩
    have b2 := below_trans (below_drewN w1 1) b2
    go_wp2_with fail
    all_goals
      rw [← hP.out, hR.out, hKn.out, ← hAn.out]
      refine ⟨?_, below_trans hA1 b2⟩
      first
        | rw [if_pos (by omega)]
        | rw [if_neg (by omega)]
  · rw [if_neg he] at hR
    subst hR
    generalize nodeE X n = e0 at *
    have hne : (e0 != 0) = true := by simpa using he
    replace he := Lib.hid he
    go_wp2_with fail
    refine hE1.mono ?_
    rintro e w1 ⟨rfl, hb1⟩
    go_wp2_with fail
    rw [← hP.out]
    exact ⟨rfl, below_trans (below_trans hA hb0) hb1⟩
end Go.Proofs.YtgifclphigpnhaaGreat

set_option maxRecDepth 100000
namespace Go.Proofs.YtgifclphigpnhaaGreat
open Go.RowKit Go.Shelf Go.BigFrame

def allS (o : Option (List M)) (m : M) : Option (List M) :=
  match o with
  | none => none
  | some l => if foundM l m = true then if eqM (l.getD (posM l m) M.zero) m = true then some l else none else some (putM l m)
def allO (ms : List M) : Option (List M) := ms.foldl allS (some [])
def toldL (X : Wd) : List M := X.nodes.flatMap N.told
def allF (X : Wd) : Int × List M := if errX X = 0 then match allO (toldL X) with | some l => (0, l) | none => (1, []) else (errX X, [])
theorem rev_ind {α : Type} {P : List α → Prop} (h0 : P []) (h1 : ∀ l a, P l → P (l ++ [a])) (l : List α) : P l := by
  rw [← l.reverse_reverse]
  induction l.reverse with
  | nil => exact h0
  | cons a t ih => rw [List.reverse_cons]; exact h1 _ a ih
theorem allS_none (ms : List M) : ms.foldl allS none = none := by
  induction ms with
  | nil => rfl
  | cons m ms ih => exact ih
theorem allO_snoc (ms : List M) (m : M) : allO (ms ++ [m]) = allS (allO ms) m := by simp [allO]
theorem allO_none {ms t : List M} (h : allO ms = none) : allO (ms ++ t) = none := by
  unfold allO at h ⊢
  rw [List.foldl_append, h]
  exact allS_none t
theorem allO_ok {ms : List M} : ∀ {l : List M}, allO ms = some l → risesB l = true ∧ l.length ≤ ms.length ∧ ∀ m, m ∈ l → m ∈ ms := by
  refine rev_ind (P := fun ms => ∀ {l : List M}, allO ms = some l → risesB l = true ∧ l.length ≤ ms.length ∧ ∀ m, m ∈ l → m ∈ ms) ?_ ?_ ms
  · intro l h
    cases h; exact ⟨rfl, Nat.le_refl _, fun _ h => h⟩
  · intro ms m ih l h
    rw [allO_snoc] at h
    cases ho : allO ms with
    | none => rw [ho] at h; cases h
    | some l0 =>
      rw [ho] at h
      obtain ⟨h1, h2, h3⟩ := ih ho
      simp only [allS] at h
      rw [List.length_append, List.length_singleton]
      split at h
      · split at h
        · cases h
          exact ⟨h1, by omega, fun x hx => List.mem_append_left _ (h3 x hx)⟩
        · cases h
      · rename_i hf
        cases h
        refine ⟨putM_pair h1 (by simpa using hf), by rw [putM_len]; omega, fun x hx => ?_⟩
        rcases mem_putM.1 hx with rfl | hx
        · simp
        · exact List.mem_append_left _ (h3 x hx)
/-- The first n nodes' lists, and j of the next. -/
def preL (X : Wd) (n j : Nat) : List M := (X.nodes.take n).flatMap N.told ++ (X.nodes.getD n N.zero).told.take j
theorem preL_next {X : Wd} {n j : Nat} (h : j < (X.nodes.getD n N.zero).told.length) : preL X n (j + 1) = preL X n j ++ [(X.nodes.getD n N.zero).told.getD j M.zero] := by
  unfold preL
  rw [getD_take h, List.append_assoc]
theorem preL_node {X : Wd} {n : Nat} (h : n < X.nodes.length) : preL X (n + 1) 0 = preL X n (X.nodes.getD n N.zero).told.length := by
  unfold preL
  rw [List.take_add_one, List.getElem?_eq_getElem h, List.take_length, List.take_zero, List.append_nil, Option.toList_some, List.flatMap_append, getD_lt X.nodes N.zero h]
  simp
theorem preL_end {X : Wd} : preL X X.nodes.length 0 = toldL X := by
  unfold preL toldL
  rw [List.take_length, List.take_zero, List.append_nil]
theorem preL_sub {X : Wd} {n j : Nat} (h : n < X.nodes.length) : ∃ t, toldL X = preL X n j ++ t := by
  refine ⟨(X.nodes.getD n N.zero).told.drop j ++ (X.nodes.drop (n + 1)).flatMap N.told, ?_⟩
  unfold preL toldL
  rw [List.append_assoc, ← List.append_assoc ((X.nodes.getD n N.zero).told.take j), List.take_append_drop, getD_lt X.nodes N.zero h]
  rw [show X.nodes[n].told ++ (X.nodes.drop (n + 1)).flatMap N.told = (X.nodes.drop n).flatMap N.told by rw [List.drop_eq_getElem_cons h, List.flatMap_cons]]
  rw [← List.flatMap_append, List.take_append_drop]
theorem told_len {l : List N} (h : ∀ x ∈ l, x.told.length ≤ 40) : (l.flatMap N.told).length ≤ l.length * 40 := by
  induction l with
  | nil => simp
  | cons x l ih =>
    rw [List.flatMap_cons, List.length_append, List.length_cons]
    have := ih (fun y hy => h y (List.mem_cons_of_mem _ hy))
    have := h x (by simp)
    omega
theorem Right.preL_len {X : Wd} (h : Right X) {n j : Nat} (hn : n < X.nodes.length) : (preL X n j).length ≤ 160 := by
  obtain ⟨t, ht⟩ := preL_sub (j := j) hn
  have h1 : (toldL X).length ≤ X.nodes.length * 40 := told_len fun x hx => by
    obtain ⟨i, hi, rfl⟩ := List.mem_iff_getElem.1 hx
    rw [← getD_lt X.nodes N.zero hi]
    exact (h.node i hi).told.many
  have h2 := gErr_small h.grp
  rw [ht, List.length_append] at h1
  omega
theorem allF_bad {X : Wd} (he : errX X = 0) {n j : Nat} (hn : n < X.nodes.length) (h : allO (preL X n j) = none) : allF X = (1, []) := by
  obtain ⟨t, ht⟩ := preL_sub (j := j) hn
  unfold allF
  rw [if_pos he, ht, allO_none h]
theorem allF_ok {X : Wd} (he : errX X = 0) {l : List M} (h : allO (preL X X.nodes.length 0) = some l) : allF X = (0, l) := by
  rw [preL_end] at h
  unfold allF
  rw [if_pos he, h]
theorem toldL_len {X : Wd} (h : Right X) : (toldL X).length ≤ 160 := by
  have h1 : (toldL X).length ≤ X.nodes.length * 40 := told_len fun x hx => by
    obtain ⟨i, hi, rfl⟩ := List.mem_iff_getElem.1 hx
    rw [← getD_lt X.nodes N.zero hi]
    exact (h.node i hi).told.many
  have h2 := gErr_small h.grp
  omega
theorem preL_le {X : Wd} {n j : Nat} (hn : n < X.nodes.length ∨ (n = X.nodes.length ∧ j = 0)) : ∃ t, toldL X = preL X n j ++ t := by
  rcases hn with h | ⟨rfl, rfl⟩
  · exact preL_sub h
  · exact ⟨[], by rw [preL_end, List.append_nil]⟩
theorem allO_all {X : Wd} (h : Right X) (hf : ∀ m ∈ toldL X, m.fits) {n j : Nat} (hn : n < X.nodes.length ∨ (n = X.nodes.length ∧ j = 0)) {l : List M} (hl : allO (preL X n j) = some l) : risesB l = true ∧ l.length ≤ 160 ∧ ∀ m ∈ l, m.fits := by
  obtain ⟨t, ht⟩ := preL_le hn
  obtain ⟨h1, h2, h3⟩ := allO_ok hl
  have h4 := toldL_len h
  rw [ht, List.length_append] at h4
  exact ⟨h1, by omega, fun m hm => hf m (by rw [ht]; exact List.mem_append_left _ (h3 m hm))⟩
theorem allO_next {X : Wd} {n j : Nat} (h : j < (X.nodes.getD n N.zero).told.length) {l : List M} (hl : allO (preL X n j) = some l) :
    allO (preL X n (j + 1)) = if foundM l ((X.nodes.getD n N.zero).told.getD j M.zero) = true then if eqM (l.getD (posM l ((X.nodes.getD n N.zero).told.getD j M.zero)) M.zero) ((X.nodes.getD n N.zero).told.getD j M.zero) = true then some l else none else some (putM l ((X.nodes.getD n N.zero).told.getD j M.zero)) := by
  rw [preL_next h, allO_snoc, hl]
  rfl
theorem Nodes.told_fits {w : World} {v : Value} {X : Wd} (h : Nodes w v X.nodes) : ∀ m ∈ toldL X, m.fits := by
  intro m hm
  unfold toldL at hm
  obtain ⟨x, hx, hm⟩ := List.mem_flatMap.1 hm
  obtain ⟨i, hi, rfl⟩ := List.mem_iff_getElem.1 hx
  obtain ⟨_, _, _, _, _, _, _, _, _, _, _, _, _, _, _, ht⟩ := h.at hi
  rw [getD_lt X.nodes N.zero hi] at ht
  exact ht.1 m hm
/-- A list of messages of the call's own and an error are handed back. -/
def LOwn (w : World) (l : List M) (r : Int) (e : Ending) (w' : World) : Prop := ∃ v', e = .returned (.tuple #[v', .int .i64 r]) ∧ MsgsOwn w' w.heap.size v' l ∧ Below w.heap.size w w'
theorem LOwn.none {w w' : World} {r : Int} (h : Below w.heap.size w w') : LOwn w [] r (.returned (.tuple #[.slice none 0 0, .int .i64 r])) w' := ⟨_, rfl, ⟨by simp, World.ownsRow_nil _ _ _ _⟩, h⟩

set_option maxHeartbeats 2000000 in
theorem TAll_c {w : World} {v : Value} {X : Wd} (h : WorldAt w v X) : Calls Tryz.prog 30 #[v] w (LOwn w (allF X).2 (allF X).1) := by
  have hW0 := h
  obtain ⟨gv, nv, wv, rfl, hg, hn, hw⟩ := h
  obtain ⟨hnl, na, ncap, rfl, hnc⟩ := hn.form
  obtain ⟨hwl, wa, wcap, rfl, hwc⟩ := hw.form
  obtain ⟨hgl, ga, gcap, rfl, _⟩ := hg.open
  have hA := below_a1 w (.cells #[.slice ga X.groups.length gcap, .slice na X.nodes.length ncap, .slice wa X.wires.length wcap] 26)
  have hB := OBox.new w 26 (.slice ga X.groups.length gcap) (.slice na X.nodes.length ncap) (.slice wa X.wires.length wcap)
  obtain ⟨P, hP⟩ : ∃ P, LOwn w (allF X).2 (allF X).1 = P := ⟨_, rfl⟩
  rw [hP]
  replace hP := Lib.hid hP
  go_enter Tryz.func30, Tryz.ntmps30
  go_upto_region 1 with fail
  generalize w.alloc (.cells #[.slice ga X.groups.length gcap, .slice na X.nodes.length ncap, .slice wa X.wires.length wcap] 26) = wA at *
  have hC := WCheck_c (hW0.below hA)
  obtain ⟨_, b0, b1, b2⟩ := id hB
  by_cases he : errX X = 0
  rotate_left
  · have hF : allF X = (errX X, []) := by unfold allF; rw [if_neg he]
    rw [hF] at hP
    clear hF
    generalize errX X = e0 at *
    have hne : (e0 != 0) = true := by simpa using he
    replace he := Lib.hid he
    go_wp2_with fail
    refine hC.mono ?_
    rintro e w1 ⟨rfl, hb1⟩
    go_wp2_with fail
    rw [← hP.out]
    exact LOwn.none (below_trans hA hb1)
  have hR := right_of he
  have hTf := hn.told_fits
  have hK := Lib.hid (fun n j l hh hl => allO_all hR hTf (n := n) (j := j) (l := l) hh hl)
  have hBad := Lib.hid (fun n j hn h => allF_bad he (n := n) (j := j) hn h)
  have hOk := Lib.hid (fun l h => allF_ok he (l := l) h)
  have hNx := Lib.hid (fun n j h l hl => allO_next (X := X) (n := n) (j := j) h (l := l) hl)
  have hNd := Lib.hid (fun n hn => preL_node (X := X) (n := n) hn)
  rw [he] at hC
  replace he := Lib.hid he
  replace hR := Lib.hid hR
  go_wp2_with fail
  refine hC.mono ?_
  rintro e w1 ⟨rfl, hb1⟩
  have hB := hB.keep (hb1.block _ hB.lt)
  have hA := below_trans hA hb1
  clear b0 b1 b2 hC hb1 hW0
  obtain ⟨_, b0, b1, b2⟩ := id hB
  go_wp2_with fail
  go_loopw [5, 20] (fun o i wr => ∃ n : Nat, n ≤ X.nodes.length ∧ i = .int .i64 n ∧ ∃ l, Hid (allO (preL X n 0) = some l) ∧ wr.ownsRow w.heap.size 56 5 o l.length (l.flatMap M.cells) ∧ Below w.heap.size w wr) (fun _ i _ => X.nodes.length - (intOf i).toNat)
  case atStart => exact ⟨0, by omega, rfl, [], Lib.hid rfl, World.ownsRow_nil _ _ _ _, hA⟩
  case round =>
    clear b0 b1 b2 hB hA
    obtain ⟨n, hn0, rfl, l, hl, ho, hb⟩ := hrel
    obtain ⟨a5, c5, rfl⟩ := own_form ho
    by_cases hlt : n < X.nodes.length
    · obtain ⟨bb, oo, cc, lv, hv, tv, e1, hc1, k0, k1, k2, k3, hk64, hrr, hh, htt⟩ := hn.at hlt
      cases e1
      have k0 := (hb.cell (cell_lt k0)).trans k0
      have k1 := (hb.cell (cell_lt k1)).trans k1
      have k2 := (hb.cell (cell_lt k2)).trans k2
      have k3 := (hb.cell (cell_lt k3)).trans k3
      have hq := (hR.out.node n hlt).told.many
      replace hNx := Lib.hid (hNx.out n)
      have hNd := Lib.hid (hNd.out n hlt)
      obtain ⟨x, HX⟩ : ∃ x, X.nodes.getD n N.zero = x := ⟨_, rfl⟩
      rw [HX] at k0 hrr hh htt hq hNx hNd
      clear HX hk64
      obtain ⟨_, la, lcap, rfl, _⟩ := hrr.form
      obtain ⟨_, ha, hcap, rfl, _⟩ := hh.open
      obtain ⟨_, ta, tcap, rfl, htc, _⟩ := htt.open
      clear hrr hh
      have bx := below_a1 wr (.cells #[.int .i64 x.clock, .slice la x.last.length lcap, .slice ha x.held.length hcap, .slice ta x.told.length tcap] 47)
      have hNb := NBox.new wr x (.slice la x.last.length lcap) (.slice ha x.held.length hcap) (.slice ta x.told.length tcap) 47
      go_upto_region 8 with fail
      have ho2 := owns_below ho bx
      have hb2 := below_trans hb bx
      generalize wr.alloc (.cells #[.int .i64 x.clock, .slice la x.last.length lcap, .slice ha x.held.length hcap, .slice ta x.told.length tcap] 47) = w2 at *
      clear k0 k1 k2 k3 ho hb bx
      obtain ⟨B2, hB2⟩ : ∃ B, wr.heap.size = B := ⟨_, rfl⟩
      simp only [hB2] at hNb ⊢
      clear hB2
      obtain ⟨y0, y1, y2, y3⟩ := hNb
      go_wp2_with fail
      go_loopw [5, 27] (fun o i wr => ∃ j : Nat, j ≤ x.told.length ∧ i = .int .i64 j ∧ ∃ l, Hid (allO (preL X n j) = some l) ∧ wr.ownsRow w.heap.size 56 5 o l.length (l.flatMap M.cells) ∧ Below w.heap.size w wr) (fun _ i _ => x.told.length - (intOf i).toNat)
      case atStart => exact ⟨0, by omega, rfl, l, hl, ho2, hb2⟩
      case round =>
        clear y0 y1 y2 y3 hl ho2 hb2
        obtain ⟨j, hj, rfl, l, hl, ho, hb⟩ := hrel
        obtain ⟨a5, c5, rfl⟩ := own_form ho
        have hBad := hBad.out n (j + 1) hlt
        by_cases hlj : j < x.told.length
        · obtain ⟨hr, h160, hfl⟩ := hK.out _ _ _ (Or.inl hlt) hl.out
          have hNj := hNx.out j hlj l hl.out
          obtain ⟨_, _, _, e1, _, hcc⟩ := (htt.below hb).open
          cases e1
          obtain ⟨bm, om, rfl, hun⟩ := hcc (by intro e; rw [e] at hlj; simp at hlj)
          obtain ⟨m0, m1, m2, m3, m4⟩ := hun j hlj
          have hmf := htt.1 (x.told.getD j M.zero) (getD_mem x.told M.zero hlj)
          obtain ⟨m, HM⟩ : ∃ m, x.told.getD j M.zero = m := ⟨_, rfl⟩
          rw [HM] at m0 m1 m2 m3 m4 hNj hmf
          clear HM hcc hun
          have hMs : Msgs wr (.slice a5 l.length c5) l := MsgsOwn.msgs (base := w.heap.size) ⟨hfl, ho⟩ (by omega)
          have bx := below_a1 wr (.cells #[.int .i64 m.src, .int .i64 m.grp, .int .i64 m.stamp, .bool m.null, .string m.body] 56)
          have hMb := MsgBox.new wr m 56
          have hsz : wr.heap.size < (wr.alloc (.cells #[.int .i64 m.src, .int .i64 m.grp, .int .i64 m.stamp, .bool m.null, .string m.body] 56)).heap.size := by rw [World.size_alloc]; omega
          have hS := Seek_c (hMs.below bx) m hr
          have ho := owns_below ho bx
          have hb := below_trans hb bx
          have hMs := hMs.below bx
          have hple := posM_le l m
          have hfo : foundM l m = true → posM l m < l.length := fun h => by
            unfold foundM at h
            simp only [Bool.and_eq_true, decide_eq_true_eq] at h
            exact h.1
          have hpf : putIn (l.flatMap M.cells) (posM l m * 5) m.cells = (putM l m).flatMap M.cells := putIn_flat l m (posM l m)
          have hpn := putM_len l m
          unfold M.val at hS
          go_upto_region 11 with fail
          generalize wr.alloc (.cells #[.int .i64 m.src, .int .i64 m.grp, .int .i64 m.stamp, .bool m.null, .string m.body] 56) = w3 at *
          obtain ⟨C, hC⟩ : ∃ C, wr.heap.size = C := ⟨_, rfl⟩
          simp only [hC] at hMb hsz ⊢
          clear hC
          obtain ⟨x0, x1, x2, x3, x4⟩ := id hMb
          clear m0 m1 m2 m3 m4 bx
          generalize posM l m = p at *
          generalize putM l m = lp at *
          replace hpf := Lib.hid hpf
          replace hpn := Lib.hid hpn
          replace hNj := Lib.hid hNj
          replace hl := Lib.hid hl
          cases hf : foundM l m
          · rw [hf] at hS
            have hN2 := hNj.out
            rw [hf, if_neg (by simp)] at hN2
            replace hN2 := Lib.hid hN2
            replace hf := Lib.hid hf
            clear hfo hNj hMs
            go_wp2_with fail
            refine hS.mono ?_
            rintro e w4 ⟨rfl, b4⟩
            have ho := owns_below ho b4
            have hb := below_trans hb b4
            have hMb := hMb.below b4 hsz
            clear x0 x1 x2 x3 x4 hS b4
            obtain ⟨x0, x1, x2, x3, x4⟩ := id hMb
            have hIn := Insert_c (i := p) (news := m.cells) (ho.alloc (.cells #[.int .i64 m.src, .int .i64 m.grp, .int .i64 m.stamp, .bool m.null, .string m.body] 56)) (one_flat l) hple (by omega) rfl (by simp [M.cells, Value.oneCell']) (heap_alloc_new _ _) (fun e => absurd (ho.lt _ e).2 (Nat.lt_irrefl _)) (by have := hb.size; rw [World.size_alloc]; omega)
            go_wp2_with fail
            refine hIn.mono ?_
            rintro e w5 ⟨v5, rfl, ho5, b5⟩
            have hb := (below_trans hb (below_a1 w4 (.cells #[.int .i64 m.src, .int .i64 m.grp, .int .i64 m.stamp, .bool m.null, .string m.body] 56))).trans b5
            rw [hpf.out, ← hpn.out] at ho5
            clear hIn x0 x1 x2 x3 x4
            go_wp2_with fail
            go_roundw
            case rel => exact ⟨j + 1, by omega, by go_num, lp, hN2, ho5, hb⟩
            case measure => simp [intOf]; omega
          · have hpl := hfo hf
            rw [hf] at hS
            have hN2 := hNj.out
            rw [hf, if_pos rfl] at hN2
            replace hN2 := Lib.hid hN2
            replace hf := Lib.hid hf
            clear hfo hNj hpf hpn
            go_wp2_with fail
            refine hS.mono ?_
            rintro e w4 ⟨rfl, b4⟩
            have ho := owns_below ho b4
            have hb := below_trans hb b4
            have hMb := hMb.below b4 hsz
            obtain ⟨_, _, _, e1, _, hcc⟩ := (hMs.below b4).open
            cases e1
            obtain ⟨bl, ol, rfl, hun⟩ := hcc (by intro e; rw [e] at hpl; simp at hpl)
            obtain ⟨d0, d1, d2, d3, d4⟩ := hun p hpl
            obtain ⟨d, HD⟩ : ∃ d, l.getD p M.zero = d := ⟨_, rfl⟩
            rw [HD] at d0 d1 d2 d3 d4
            have hN2 := hN2.out
            rw [HD] at hN2
            replace hN2 := Lib.hid hN2
            clear HD hcc hun x0 x1 x2 x3 x4 hS b4 hMs
            obtain ⟨x0, x1, x2, x3, x4⟩ := id hMb
            have hneq := neq_msg d m
            cases hq : eqM d m
            · rw [hq] at hneq
              have hN2 := hN2.out
              rw [hq, if_neg (by simp)] at hN2
              rw [hBad hN2] at hP
              clear hN2
              replace hq := Lib.hid hq
              go_wp2_with fail
              go_quiet (fail)
              go_wp2_with fail
              rw [← hP.out]
              exact LOwn.none (below_trans hb (below_drewN _ _))
            · rw [hq] at hneq
              have hN2 := hN2.out
              rw [hq, if_pos rfl] at hN2
              replace hN2 := Lib.hid hN2
              replace hq := Lib.hid hq
              go_wp2_with fail
              go_quiet (fail)
              go_wp2_with fail
              go_roundw
              case rel => exact ⟨j + 1, by omega, by go_num, l, hN2, owns_below ho (below_drewN _ _), below_trans hb (below_drewN _ _)⟩
              case measure => simp [intOf]; omega
        · obtain rfl : j = x.told.length := by omega
          have hN2 := hNd.out
          rw [← hN2] at hl
          replace hN2 := Lib.hid hN2
          go_wp2_with fail
          go_roundw
          case rel => exact ⟨n + 1, by omega, by go_num, l, hl, ho, hb⟩
          case measure => simp [intOf]; omega
    · obtain rfl : n = X.nodes.length := by omega
      have hF := hOk.out l hl.out
      have hKl := hK.out _ _ _ (Or.inr ⟨rfl, rfl⟩) hl.out
      rw [hF] at hP
      clear hF
      go_wp2_with fail
      rw [← hP.out]
      exact ⟨_, rfl, ⟨hKl.2.2, ho⟩, hb⟩
end Go.Proofs.YtgifclphigpnhaaGreat
