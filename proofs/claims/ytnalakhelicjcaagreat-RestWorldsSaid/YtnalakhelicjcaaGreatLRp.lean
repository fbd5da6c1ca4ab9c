/-
  log.Replay: the acts that a text begins with.
-/
import Derived.Test.YtnalakhelicjcaaGreatLAc
import Derived.Test.YtnalakhelicjcaaGreatKM
import Derived.Test.YtnalakhelicjcaaGreatKS
import Derived.BigQuiet
set_option maxRecDepth 100000
namespace Go.Proofs.YtnalakhelicjcaaGreat
open Go.RowKit Go.Shelf
attribute [local go_sem] Oper.semAt_some

theorem infoCAct : (Tryz.prog.info? 23).map (fun i => (i.zero, i.size, i.bytes)) = some (some (.agg #[.int .i64 0, .int .i64 0, .int .i64 0, .string ByteArray.empty]), 4, 40) := by kernel_rfl
theorem ac_flat (l : List Ac) : (l.flatMap Ac.cells).length = l.length * 4 := by
  induction l with
  | nil => rfl
  | cons x l ih => rw [List.flatMap_cons, List.length_append, ih, List.length_cons]; show 4 + l.length * 4 = _; omega
theorem Acts.of_owns {w : World} {base : Nat} {v : Value} {l : List Ac} (hf : ∀ x ∈ l, x.fits) (h : w.ownsRow base 23 4 v l.length (l.flatMap Ac.cells)) (hl : l.length ≤ 1000) : Acts w v l := by
  have hfl : (l.map Ac.cells).flatten = l.flatMap Ac.cells := by simp [List.flatMap]
  have hr := Row.of_owns h (by rw [ac_flat]; omega)
  refine ⟨l.map Ac.cells, by simp, fun c hc => ?_, by rw [hfl]; exact hr, fun i h1 h2 => ?_⟩
  · obtain ⟨x, _, rfl⟩ := List.mem_map.1 hc
    rfl
  · simp only [List.getElem_map]
    exact ⟨rfl, hf _ (List.getElem_mem _)⟩
/-- Acts, their number and an error are handed back. -/
def RPost (w : World) (l : List Ac) (n r : Int) (e : Ending) (w' : World) : Prop := ∃ v', e = .returned (.tuple #[v', .int .i64 n, .int .i64 r]) ∧ Acts w' v' l ∧ Below w.heap.size w w'
theorem Replay_no (w : World) (t : ByteArray) (ht : ¬ t.size ≤ 4096) : Calls Tryz.prog 11 #[.string t] w (RPost w (replayA t) (replayN t) (replayE t)) := by
  have e1 : replayA t = [] := by unfold replayA replayL; rw [if_neg ht]; rfl
  have e2 : replayN t = 0 := by unfold replayN; rw [if_neg ht]
  have e3 : replayE t = 2 := by unfold replayE; rw [if_neg ht]
  rw [e1, e2, e3]
  have hd : decide ((4096 : Int) < t.size) = true := decide_eq_true (by omega)
  obtain ⟨P, hP⟩ : ∃ P, RPost w [] 0 2 = P := ⟨_, rfl⟩
  rw [hP]
  replace hP := Lib.hid hP
  go_enter Tryz.func11, Tryz.ntmps11
  go_wp2_with fail
  rw [← hP.out]
  exact ⟨_, rfl, Acts.nil w, Below.refl _ _⟩
/-- What holds between two rounds: the acts so far, and what is left. -/
def RpI (w : World) (t : ByteArray) (pre : List (Ac × ByteArray)) (W : World) : Prop :=
  (∃ v, Boxed W w.heap.size 27 v ∧ W.ownsRow (w.heap.size + 3) 23 4 v pre.length ((pre.map (·.1)).flatMap Ac.cells)) ∧ Boxed W (w.heap.size + 1) 9 (.string (leftA t pre)) ∧ pre.length ≤ 80 ∧ Below w.heap.size w W ∧ w.heap.size + 3 ≤ W.heap.size
def RpX (w : World) (t : ByteArray) (c : Code) (pre : List (Ac × ByteArray)) (W : World) : Prop := c = .exit 0 ∧ ∃ p x, pre = p ++ [x] ∧ p.length = 80 ∧ RpI w t p W
def RpA (w : World) (t : ByteArray) (x : Ac × ByteArray) (a : Act) (W : World) : Prop := ∃ Bx, AcBox W Bx 0 x.1 ∧ a = { tmps := #[.string t, undef, .slice none 0 0, .int .i64 0, .int .i64 0, .pointer (some ⟨w.heap.size, 0, none⟩), .pointer (some ⟨w.heap.size + 1, 0, none⟩), .pointer (some ⟨Bx, 0, none⟩), .string x.2, .string t, .int .i64 t.size, .bool false, .string t, .string t, .func (.func 59) #[] #[.pointer (some ⟨w.heap.size + 1 + 1, 0, none⟩)], x.1.val, .string x.2, undef, undef, undef, undef, undef, undef, undef, undef, undef, undef, undef, undef, undef, undef], defers := [] }
theorem boxed_grown {W W' : World} {B : Nat} {T : TypeId} {v : Value} {row : Option Nat} (h : Boxed W B T v) (hg : W.grownBy W' row) (hr : ∀ r, row = some r → ∃ o : Obj, W.heap[r]? = some o ∧ o.isCells = false) : Boxed W' B T v :=
  h.kept hg (fun e => by
    obtain ⟨o, h1, h2⟩ := hr B e.symm
    rw [show W.heap[B]? = _ from h] at h1
    cases h1
    cases h2)
theorem RpI.own (w : World) (t : ByteArray) (B : Nat) (hB : w.heap.size ≤ B) : OwnFrom B (RpI w t) := fun pre W W' row h hg hr => by
  obtain ⟨⟨v, h1, h2⟩, h3, h4, h5, h6⟩ := h
  have hr' : ∀ r, row = some r → ∃ o : Obj, W.heap[r]? = some o ∧ o.isCells = false := fun r e => (hr r e).2
  obtain ⟨v', h7, h8, _⟩ := holdsRow_own (w.heap.size + 3) w.heap.size 27 23 4 (fun pre : List (Ac × ByteArray) => pre.length) (fun pre => (pre.map (·.1)).flatMap Ac.cells) (fun _ _ => True) pre W W' row ⟨v, h1, h2, trivial⟩ hg hr'
  exact ⟨⟨v', h7, h8⟩, boxed_grown h3 hg hr', h4, ownFrom_below (n₀ := w.heap.size) (w₀ := w) (Nat.le_refl _) hB () W W' row h5 hg hr, Nat.le_trans h6 hg.size⟩
theorem RpX.own (w : World) (t : ByteArray) (B : Nat) (hB : w.heap.size ≤ B) (c : Code) : OwnFrom B (RpX w t c) := fun pre W W' row h hg hr => by
  obtain ⟨h0, p, x, h1, h2, h3⟩ := h
  exact ⟨h0, p, x, h1, h2, RpI.own w t B hB p W W' row h3 hg hr⟩
theorem RpA.own (w : World) (t : ByteArray) (B : Nat) (x : Ac × ByteArray) (a : Act) : OwnFrom B (fun (_ : Unit) W => RpA w t x a W) := fun _ W W' row h hg hr => by
  obtain ⟨Bx, ⟨m0, m1, m2, m3⟩, h2⟩ := h
  have hr' : ∀ r, row = some r → ∃ o : Obj, W.heap[r]? = some o ∧ o.isCells = false := fun r e => (hr r e).2
  exact ⟨Bx, ⟨cell_kept m0 hg hr', cell_kept m1 hg hr', cell_kept m2 hg hr', cell_kept m3 hg hr'⟩, h2⟩
theorem RpI.put {w : World} {t : ByteArray} {pre : List (Ac × ByteArray)} {W : World} (h : RpI w t pre W) (v : Value) : RpI w t pre (W.setCell ⟨w.heap.size + 1 + 1, 0, none⟩ v) := by
  obtain ⟨⟨u, h1, h2⟩, h3, h4, h5, h6⟩ := h
  have hg := grownBy_setCell' W (w.heap.size + 1 + 1) v
  refine ⟨⟨u, h1.other (by omega) v, h2.kept hg ?_⟩, h3.other (by omega) v, h4, h5.setCell (p := ⟨w.heap.size + 1 + 1, 0, none⟩) (by simp; omega) v, Nat.le_trans h6 hg.size⟩
  cases ho : u.ownBlock with
  | none => exact .inl rfl
  | some b =>
    refine .inr fun e => ?_
    have := (h2.lt b ho).1
    cases e
    omega

set_option maxHeartbeats 2000000 in
theorem Replay_in (w : World) (t : ByteArray) (ht : t.size ≤ 4096) : CallsIn Fence.wide 9 Tryz.prog 11 #[.string t] w (RPost w (replayA t) (replayN t) (replayE t)) := by
  have hd : decide ((4096 : Int) < t.size) = false := decide_eq_false (by omega)
  obtain ⟨i0, hi0, hz0, hz1, hz2⟩ := info_parts infoCAct
  refine callsIn_of_wp_marks Tryz.func11 rfl trivial ?_ rfl
  simp only [Tryz.ntmps11, List.size_toArray, List.length_cons, List.length_nil, Nat.reduceAdd, Nat.reduceSub, Array.replicate_succ, Array.replicate_zero, List.push_toArray, List.append_toArray, List.nil_append, List.cons_append]
  gi_wp2_with (refine ⟨trivial, ?_⟩; gi_at_call 33; refine (callsIn_wide.2 (acts_c _ _)).mono ?_; rintro e w' ⟨rfl, rfl⟩)
  have bO := Boxed.new w 27 (.slice none 0 0)
  have bS := Boxed.new (w.alloc (.cells #[.slice none 0 0] 27)) 9 (.string t)
  have bB := Boxed.new ((w.alloc (.cells #[.slice none 0 0] 27)).alloc (.cells #[.string t] 9)) 9 (.string t)
  have hA3 : Below w.heap.size w (((w.alloc (.cells #[.slice none 0 0] 27)).alloc (.cells #[.string t] 9)).alloc (.cells #[.string t] 9)) := below_a3 w _ _ _
  have hsz : (((w.alloc (.cells #[.slice none 0 0] 27)).alloc (.cells #[.string t] 9)).alloc (.cells #[.string t] 9)).heap.size = w.heap.size + 3 := by
    rw [World.size_alloc, World.size_alloc, World.size_alloc]
  have h0 : RpI w t [] (((w.alloc (.cells #[.slice none 0 0] 27)).alloc (.cells #[.string t] 9)).alloc (.cells #[.string t] 9)) := by
    refine ⟨⟨_, (bO.alloc _).alloc _, World.ownsRow_nil _ _ _ _⟩, ?_, by simp, hA3, by omega⟩
    have := bS.alloc (.cells #[.string t] 9)
    rw [World.size_alloc] at this
    exact this
  rw [World.size_alloc, World.size_alloc] at bB
  generalize ((w.alloc (.cells #[.slice none 0 0] 27)).alloc (.cells #[.string t] 9)).alloc (.cells #[.string t] 9) = w3 at *
  clear bO bS
  refine rangeFunc_B rfl (by omega) (gf := 59) (lb := #[.pointer (some ⟨w.heap.size + 1 + 1, 0, none⟩)]) rfl trivial (enters_of Tryz.func59 (by kernel_rfl) rfl) (acts_seq 8 (by omega) _ t ht w3 bB) (by omega) (fun _ => rfl)
    (RpI w t) (RpX w t) (RpI.own w t _ (by omega)) (RpX.own w t _ (by omega)) (fun _ _ v h => h.put v) h0 (RpA w t) (RpA.own w t _) ?assign ?body ?done ?stop
  case assign =>
    rintro l pre ⟨⟨k, o, u, bd⟩, rs⟩ W K hsW hI hK
    unfold Ac.val
    gi_wp2
    refine hK _ _ ((KeepsOthers.alloc W _).from _) (Below.heap_alloc W _ _ (by omega)) (RpI.own w t w.heap.size (Nat.le_refl _) pre W _ none hI (World.grownBy_alloc W _ none) (fun r e => by cases e)) ⟨W.heap.size, AcBox.new W ⟨k, o, u, bd⟩ 23, rfl⟩
  case body =>
    rintro l pre ⟨⟨k, o, u, bd⟩, rs⟩ a' W hI ⟨Bx, hM, rfl⟩ hlt
    have hI0 := hI
    obtain ⟨⟨v, hv, hrow⟩, hS, h80, hB, hN⟩ := hI
    obtain ⟨a5, c5, rfl⟩ := own_form hrow
    obtain ⟨m0, m1, m2, m3⟩ := hM
    simp only [Nat.zero_add] at m0 m1 m2 m3
    have hc5 := hv.cell
    have hf5 := hv.frozen
    unfold Ac.val
    by_cases he : pre.length = 80
    · have hq : ((pre.length : Int) == 80) = true := by simp; omega
      replace he := Lib.hid he
      replace hI0 := Lib.hid hI0
      gi_wp2
      exact ⟨(KeepsOthers.refl W).from _, rfl, pre, _, rfl, he.out, hI0.out⟩
    · have hq : ((pre.length : Int) == 80) = false := by simp; omega
      clear hI0
      replace he := Lib.hid he
      gi_wp2_with (gi_at_builtin; refine wpListIn_append_own _ rfl _ _ 27 rfl (w.heap.size + 3) 23 i0 _ 4 40 Tryz.underlying27 hi0 hz0 hz1 hz2 rfl (by decide) _ _ _ rfl (hrow.alloc _) ⟨W.heap.size, 0, none⟩ 1 1 [.int .i64 k, .int .i64 o, .int .i64 u, .string bd] rfl rfl (cells_new _ _ _) (by simp [Value.oneCell']) (by unfold maxLen; omega) (by omega) (by simp; omega) ?_; intro v' w1 hown' hgrow _; obtain ⟨g', cap', rfl⟩ := ownsRow_succ hown'; obtain ⟨hv1, hv2, hr2, hk2, hb2⟩ := collected hv (by decide) hrow (by omega) hN hown' hgrow; have hc1 := hv1.cell; have hf1 := hv1.frozen; have hS2 := (hb2.block _ ⟨by omega, by omega⟩).trans hS; have hc6 := Boxed.cell hS2; have hf6 := Boxed.frozen hS2)
      have hS3 := Boxed.set (.string rs) hS2
      have hg3 := grownBy_setCell' (w1.setCell ⟨w.heap.size, 0, none⟩ (.slice (some ⟨g', 0, none⟩) (pre.length + 1) cap')) (w.heap.size + 1) (.string rs)
      have hlt3 := (hr2.lt g' rfl).1
      refine ⟨(hk2.trans (KeepsOthers.setCell _ _ _)).from _, ?_, ⟨_, hv2.other (by omega) _, ?_⟩, ?_, by rw [List.length_append, List.length_singleton]; have := he.out; omega, ?_, Nat.le_trans hN (Nat.le_trans hb2.size hg3.size)⟩
      · exact (Below.heap_setCell _ ⟨w.heap.size + 1, 0, none⟩ _ _ (by show w.heap.size + 1 + 1 ≠ w.heap.size + 1; omega)).trans (hb2.block (w.heap.size + 1 + 1) ⟨by omega, by omega⟩)
      · have h9 := hr2.kept hg3 (.inr (fun e => by have h : g' = w.heap.size + 1 := Option.some.inj e; omega))
        rw [List.map_append, List.flatMap_append, List.length_append, List.length_singleton]
        simpa [Ac.cells] using h9
      · rw [leftA_snoc]; exact hS3
      · exact (hB.trans (hb2.below (fun k hk => ⟨by omega, by omega⟩))).setCell (p := ⟨w.heap.size + 1, 0, none⟩) (by simp) _
  case done =>
    rintro D ys W hD rfl hI hK
    obtain ⟨⟨v, hv, hrow⟩, hS, h80, hB, hN⟩ := hI
    have hL : replayL t = allA t := by unfold replayL; rw [if_pos ht, List.take_of_length_le h80]
    have hls := leftA_size t.size t (Nat.le_refl _) (allA t) [] (by simp)
    obtain ⟨a5, c5, rfl⟩ := own_form hrow
    have hc5 := hv.cell
    have hc6 := hS.cell
    have hfits : ∀ x ∈ replayA t, x.fits := replayA_fits t
    have hE : replayE t = 0 := by unfold replayE; rw [if_pos ht]
    have hNm : replayN t = (t.size : Int) - (leftA t (replayL t)).size := by unfold replayN; rw [if_pos ht]
    have hRA : replayA t = ((allA t)).map (·.1) := by unfold replayA; rw [hL]
    rw [hRA] at hfits
    rw [hL] at hNm
    generalize leftA t (allA t) = lf at *
    have hw : IntKind.i64.wrap ((t.size : Int) - (lf.size : Int)) = (t.size : Int) - (lf.size : Int) := IntWalk.i64_in _ (by omega)
    have hAc : ∀ W' : World, W'.ownsRow (w.heap.size + 3) 23 4 (.slice a5 ((allA t)).length c5) ((allA t)).length ((((allA t)).map (·.1)).flatMap Ac.cells) → Acts W' (.slice a5 ((allA t)).length c5) (((allA t)).map (·.1)) := fun W' h => Acts.of_owns hfits (by rw [List.length_map]; exact h) (by rw [List.length_map]; omega)
    replace hAc := Lib.hid hAc
    replace hE := Lib.hid hE
    replace hNm := Lib.hid hNm
    replace hRA := Lib.hid hRA
    clear hfits hL hls
    gi_wp2
    refine wpIn_wide.2 ?_
    go_quiet (fail)
    gi_wp2
    refine ⟨by simp, .inl ⟨_, _, rfl, run_takeDeferred hK, ?_⟩⟩
    refine ⟨_, by simp [results, Tryz.f11]; rfl, ?_⟩
    rw [hE.out, hNm.out, hRA.out]
    exact ⟨_, rfl, hAc.out _ (ownsRow_putObj (W := W.drewN nq) (owns_below hrow (below_drewN W nq)) _ hK rfl), (hB.trans (below_drewN W nq |>.mono hB.size)).trans (belowK_b (w := w) (Nat.le_refl _) _ D _ _ (by omega) hK rfl rfl)⟩
  case stop =>
    rintro D c pre W hD ⟨suf, hsuf⟩ ⟨rfl, p, x, rfl, hp, hI⟩ hK
    obtain ⟨⟨v, hv, hrow⟩, hS, h80, hB, hN⟩ := hI
    rw [List.append_assoc] at hsuf
    have hL : replayL t = p := by unfold replayL; rw [if_pos ht, hsuf, ← hp, List.take_left]
    replace hp := Lib.hid hp
    have hls := leftA_size t.size t (Nat.le_refl _) p _ hsuf
    obtain ⟨a5, c5, rfl⟩ := own_form hrow
    have hc5 := hv.cell
    have hc6 := hS.cell
    have hfits : ∀ x ∈ replayA t, x.fits := replayA_fits t
    have hE : replayE t = 0 := by unfold replayE; rw [if_pos ht]
    have hNm : replayN t = (t.size : Int) - (leftA t (replayL t)).size := by unfold replayN; rw [if_pos ht]
    have hRA : replayA t = (p).map (·.1) := by unfold replayA; rw [hL]
    rw [hRA] at hfits
    rw [hL] at hNm
    generalize leftA t p = lf at *
    have hw : IntKind.i64.wrap ((t.size : Int) - (lf.size : Int)) = (t.size : Int) - (lf.size : Int) := IntWalk.i64_in _ (by omega)
    have hAc : ∀ W' : World, W'.ownsRow (w.heap.size + 3) 23 4 (.slice a5 (p).length c5) (p).length (((p).map (·.1)).flatMap Ac.cells) → Acts W' (.slice a5 (p).length c5) ((p).map (·.1)) := fun W' h => Acts.of_owns hfits (by rw [List.length_map]; exact h) (by rw [List.length_map]; omega)
    replace hAc := Lib.hid hAc
    replace hE := Lib.hid hE
    replace hNm := Lib.hid hNm
    replace hRA := Lib.hid hRA
    clear hfits hL hls
    gi_wp2
    refine wpIn_wide.2 ?_
    go_quiet (fail)
    gi_wp2
    refine ⟨by simp, .inl ⟨_, _, rfl, run_takeDeferred hK, ?_⟩⟩
    refine ⟨_, by simp [results, Tryz.f11]; rfl, ?_⟩
    rw [hE.out, hNm.out, hRA.out]
    exact ⟨_, rfl, hAc.out _ (ownsRow_putObj (W := W.drewN nq) (owns_below hrow (below_drewN W nq)) _ hK rfl), (hB.trans (below_drewN W nq |>.mono hB.size)).trans (belowK_b (w := w) (Nat.le_refl _) _ D _ _ (by omega) hK rfl rfl)⟩
theorem Replay_c (w : World) (t : ByteArray) : Calls Tryz.prog 11 #[.string t] w (RPost w (replayA t) (replayN t) (replayE t)) := by
  by_cases ht : t.size ≤ 4096
  · exact callsIn_wide.1 (Replay_in w t ht)
  · exact Replay_no w t ht
end Go.Proofs.YtnalakhelicjcaaGreat
