/-
  A world of the call's own: a message that is held, told, or on its way, a group, a whole node may be laid anew.
-/
import Derived.Test.YtnalakhelicjcaaGreatKC
namespace Go.Proofs.YtnalakhelicjcaaGreat
open Go.RowKit Go.Deep

abbrev put5 (w : World) (g p : Nat) (m : M) : World :=
  ((((w.setCell ⟨g, p, none⟩ (.int .i64 m.src)).setCell ⟨g, p + 1, none⟩ (.int .i64 m.grp)).setCell ⟨g, p + 2, none⟩ (.int .i64 m.stamp)).setCell ⟨g, p + 3, none⟩ (.bool m.null)).setCell ⟨g, p + 4, none⟩ (.string m.body)
theorem put5_far {w : World} {g p : Nat} {m : M} {b : Nat} (h : b ≠ g) : (put5 w g p m).heap[b]? = w.heap[b]? := by
  unfold put5
  rw [Go.Deep.blk_setCell_other _ _ _ _ h, Go.Deep.blk_setCell_other _ _ _ _ h, Go.Deep.blk_setCell_other _ _ _ _ h, Go.Deep.blk_setCell_other _ _ _ _ h, Go.Deep.blk_setCell_other _ _ _ _ h]
theorem put5_size {w : World} {g p : Nat} {m : M} : (put5 w g p m).heap.size = w.heap.size := by
  unfold put5
  rw [Go.Deep.nblk_setCell, Go.Deep.nblk_setCell, Go.Deep.nblk_setCell, Go.Deep.nblk_setCell, Go.Deep.nblk_setCell]
theorem put5_below {w0 w : World} {g p n : Nat} {m : M} (h : Below n w0 w) (hg : n ≤ g) : Below n w0 (put5 w g p m) := by
  unfold put5
  exact below_setCell (below_setCell (below_setCell (below_setCell (below_setCell h hg _) hg _) hg _) hg _) hg _
theorem lies_put5 {S T : Nat → Prop} {w w' : World} {g p : Nat} {m : M} (k : Lies S w w') (h : ∀ b, T b → S b ∧ b ≠ g) : Lies T w (put5 w' g p m) := fun b hb => (put5_far (h b hb).2).trans (k b (h b hb).1)
theorem put5_set {w w' : World} {g p N : Nat} {m m' : M} (hg : w'.heap[g]? = w.heap[g]?) (hb : BlkIs w g 62 N) (hn : p + 5 ≤ N) (hc : ∀ j, j < 5 → w.cell? ⟨g, p + j, none⟩ = m.cells[j]?) : BlkSet w (put5 w' g p m') g p m'.cells := by
  have h0 : BlkSet w w' g p m.cells := BlkSet.same hg (fun j hj => hc j hj)
  have h1 := h0.set hb 0 (by simp [M.cells]) (by simpa [M.cells] using hn) (.int .i64 m'.src)
  have h2 := h1.set hb 1 (by simp [M.cells]) (by simpa [M.cells] using hn) (.int .i64 m'.grp)
  have h3 := h2.set hb 2 (by simp [M.cells]) (by simpa [M.cells] using hn) (.int .i64 m'.stamp)
  have h4 := h3.set hb 3 (by simp [M.cells]) (by simpa [M.cells] using hn) (.bool m'.null)
  have h5 := h4.set hb 4 (by simp [M.cells]) (by simpa [M.cells] using hn) (.string m'.body)
  exact h5

/-- A message of a list of one's own may be laid anew. -/
theorem OMsgs.msg_at {o : Bool} {w : World} {T : Nat → Prop} {v : Value} {ms : List M} (h : OMsgs o w T v ms) {k : Nat} (hk : k < ms.length) :
    ∃ (g off cap : Nat), v = .slice (some ⟨g, off, none⟩) ms.length cap ∧ ms.length ≤ cap ∧ T g ∧ BlkIs w g 62 (off + cap * 5) ∧ (∀ j, j < 5 → ∃ u, w.cell? ⟨g, off + k * 5 + j, none⟩ = some u) ∧
      ∀ w' m, Lies T w w' → M.fits m → OMsgs o (put5 w' g (off + k * 5) m) T v (ms.set k m) := by
  obtain ⟨g, off, cap, T3, cs, f1, f2, f3, f4, f5, f6, f7, ⟨rfl, f8⟩, f9, back3⟩ := OSl.at MEl.stays h hk
  have hle : off + k * 5 + 5 ≤ off + cap * 5 := by
    have : (k + 1) * 5 ≤ cap * 5 := Nat.mul_le_mul_right _ (by omega)
    omega
  refine ⟨g, off, cap, f1, f4, f2, f3, fun j hj => ?_, fun w' m hL hm => ?_⟩
  · rw [f7 j hj]
    exact ⟨_, List.getElem?_eq_getElem (by simpa [M.cells] using hj)⟩
  · have hB := put5_set (m' := m) (hL g f2) f3 hle (fun j hj => f7 j hj)
    exact (back3 _ (fun _ => False) _ m (fun b hb => (put5_far hb.2.1).trans (hL b hb.1)) hB rfl ⟨rfl, hm⟩ (fun _ h => h.elim)).mono (fun b hb => hb.elim id False.elim)
/-- A number of a list of one's own may be laid anew. -/
theorem OInts.int_at {w : World} {T : Nat → Prop} {v : Value} {xs : List Int} (h : OInts w T v xs) {k : Nat} (hk : k < xs.length) :
    ∃ (g cap : Nat) (u : Value), v = .slice (some ⟨g, 0, none⟩) xs.length cap ∧ xs.length ≤ cap ∧ T g ∧ BlkIs w g 3 cap ∧ w.cell? ⟨g, k, none⟩ = some u ∧
      ∀ w' x, Lies T w w' → I64 x → OInts (w'.setCell ⟨g, k, none⟩ (.int .i64 x)) T v (xs.set k x) := by
  obtain ⟨g, off, cap, T3, cs, f1, f2, f3, f4, f5, f6, f7, ⟨rfl, f8⟩, f9, back3⟩ := OSl.at IntEl.stays h hk
  obtain rfl := f5 rfl
  have k1 := f7 0 (by omega)
  simp only [Nat.zero_add, Nat.mul_one, Nat.add_zero] at f3 f7 back3 k1
  refine ⟨g, cap, _, f1, f4, f2, f3, k1, fun w' x hL hx => ?_⟩
  have hB : BlkSet w (w'.setCell ⟨g, k, none⟩ (.int .i64 x)) g k [.int .i64 x] :=
    (BlkSet.same (w := w) (w' := w') (p := k) (cs := [.int .i64 xs[k]]) (hL g f2) (fun j hj => by
      obtain rfl : j = 0 := by simpa using hj
      exact k1)).set f3 0 (by simp) (by simp; omega) _
  exact OSl.mono (back3 _ (fun _ => False) _ x (fun b hb => (Go.Deep.blk_setCell_other _ _ _ _ hb.2.1).trans (hL b hb.1)) hB rfl ⟨rfl, hx⟩ (fun _ h => h.elim)) (fun b hb => hb.elim id False.elim)

def heldPut (X : Wd) (n : Nat) (l : List M) : Wd := { X with nodes := X.nodes.set n { X.nodes.getD n N.zero with held := l } }
def toldPut (X : Wd) (n : Nat) (l : List M) : Wd := { X with nodes := X.nodes.set n { X.nodes.getD n N.zero with told := l } }
section
variable {o : Bool} {w : World} {S : Nat → Prop} {gv nv wv : Value} {X : Wd}
theorem OWd.rheld_at (h : OWd o w S gv nv wv X) {n k : Nat} (hi : n < X.nodes.length) (hk : k < (X.nodes.getD n N.zero).held.length) :
    ∃ (g cap g1 off cap1 : Nat), nv = .slice (some ⟨g, 0, none⟩) X.nodes.length cap ∧ X.nodes.length ≤ cap ∧ S g ∧ g < w.heap.size ∧
      w.cell? ⟨g, n * 4 + 2, none⟩ = some (.slice (some ⟨g1, off, none⟩) (X.nodes.getD n N.zero).held.length cap1) ∧ (X.nodes.getD n N.zero).held.length ≤ cap1 ∧ S g1 ∧ BlkIs w g1 62 (off + cap1 * 5) ∧ (∀ j, j < 5 → ∃ u, w.cell? ⟨g1, off + k * 5 + j, none⟩ = some u) ∧
      ∀ w' m, Lies S w w' → M.fits m → OWd o (put5 w' g1 (off + k * 5) m) S gv nv wv (heldPut X n ((X.nodes.getD n N.zero).held.set k m)) := by
  obtain ⟨g, cap, lv, hv, tv, Tl, Th, Tt, e, hc, hgS, hgl, hgb, c0, c1, c2, c3, hI, hL, hH, hT, sl, sh, st, d1, d2, d3, back⟩ := h.node_at hi
  obtain ⟨g1, off, cap1, e1, hc1, hT1, hb1, hu, back2⟩ := hH.msg_at hk
  subst e1
  refine ⟨g, cap, g1, off, cap1, e, hc, hgS, hgl, c2, hc1, (sh g1 hT1).1, hb1, hu, fun w' m hw' hm => ?_⟩
  have hB : BlkSet w (put5 w' g1 (off + k * 5) m) g (n * 4) [.int .i64 (X.nodes.getD n N.zero).clock, lv, .slice (some ⟨g1, off, none⟩) (X.nodes.getD n N.zero).held.length cap1, tv] :=
    BlkSet.same ((put5_far (fun e => (sh g1 hT1).2 e.symm)).trans (hw' g hgS)) (fun j hj => by
      match j, hj with
      | 0, _ => exact c0
      | 1, _ => exact c1
      | 2, _ => exact c2
      | 3, _ => exact c3)
  have hH2 := back2 w' m (hw'.mono fun c hc => (sh c hc).1) hm
  have := back _ (fun c => Tl c ∨ Th c ∨ Tt c) _ { X.nodes.getD n N.zero with held := (X.nodes.getD n N.zero).held.set k m }
    (lies_put5 hw' fun c hc => ⟨hc.1, fun e => hc.2.2.2.1 (e ▸ hT1)⟩) hB rfl
    ⟨lv, .slice (some ⟨g1, off, none⟩) (X.nodes.getD n N.zero).held.length cap1, tv, Tl, Th, Tt, rfl, hI, hL.keep (lies_put5 hw' fun c hc => ⟨(sl c hc).1, fun e => d1 c hc (e ▸ hT1)⟩), hH2, hT.keep (lies_put5 hw' fun c hc => ⟨(st c hc).1, fun e => d3 g1 hT1 (e ▸ hc)⟩), fun _ h => Or.inl h, fun _ h => Or.inr (Or.inl h), fun _ h => Or.inr (Or.inr h), d1, d2, d3⟩
    (fun c hc => hc.imp id (fun h => h.imp id Or.inl))
  exact this.mono (fun c hc => hc.elim id (fun h => h.elim (fun h => (sl c h).1) (fun h => h.elim (fun h => (sh c h).1) (fun h => (st c h).1))))
theorem OWd.rtold_at (h : OWd o w S gv nv wv X) {n k : Nat} (hi : n < X.nodes.length) (hk : k < (X.nodes.getD n N.zero).told.length) :
    ∃ (g cap g1 off cap1 : Nat), nv = .slice (some ⟨g, 0, none⟩) X.nodes.length cap ∧ X.nodes.length ≤ cap ∧ S g ∧ g < w.heap.size ∧
      w.cell? ⟨g, n * 4 + 3, none⟩ = some (.slice (some ⟨g1, off, none⟩) (X.nodes.getD n N.zero).told.length cap1) ∧ (X.nodes.getD n N.zero).told.length ≤ cap1 ∧ S g1 ∧ BlkIs w g1 62 (off + cap1 * 5) ∧ (∀ j, j < 5 → ∃ u, w.cell? ⟨g1, off + k * 5 + j, none⟩ = some u) ∧
      ∀ w' m, Lies S w w' → M.fits m → OWd o (put5 w' g1 (off + k * 5) m) S gv nv wv (toldPut X n ((X.nodes.getD n N.zero).told.set k m)) := by
  obtain ⟨g, cap, lv, hv, tv, Tl, Th, Tt, e, hc, hgS, hgl, hgb, c0, c1, c2, c3, hI, hL, hH, hT, sl, sh, st, d1, d2, d3, back⟩ := h.node_at hi
  obtain ⟨g1, off, cap1, e1, hc1, hT1, hb1, hu, back2⟩ := hT.msg_at hk
  subst e1
  refine ⟨g, cap, g1, off, cap1, e, hc, hgS, hgl, c3, hc1, (st g1 hT1).1, hb1, hu, fun w' m hw' hm => ?_⟩
  have hB : BlkSet w (put5 w' g1 (off + k * 5) m) g (n * 4) [.int .i64 (X.nodes.getD n N.zero).clock, lv, hv, .slice (some ⟨g1, off, none⟩) (X.nodes.getD n N.zero).told.length cap1] :=
    BlkSet.same ((put5_far (fun e => (st g1 hT1).2 e.symm)).trans (hw' g hgS)) (fun j hj => by
      match j, hj with
      | 0, _ => exact c0
      | 1, _ => exact c1
      | 2, _ => exact c2
      | 3, _ => exact c3)
  have hT2 := back2 w' m (hw'.mono fun c hc => (st c hc).1) hm
  have := back _ (fun c => Tl c ∨ Th c ∨ Tt c) _ { X.nodes.getD n N.zero with told := (X.nodes.getD n N.zero).told.set k m }
    (lies_put5 hw' fun c hc => ⟨hc.1, fun e => hc.2.2.2.2 (e ▸ hT1)⟩) hB rfl
    ⟨lv, hv, .slice (some ⟨g1, off, none⟩) (X.nodes.getD n N.zero).told.length cap1, Tl, Th, Tt, rfl, hI, hL.keep (lies_put5 hw' fun c hc => ⟨(sl c hc).1, fun e => d2 c hc (e ▸ hT1)⟩), hH.keep (lies_put5 hw' fun c hc => ⟨(sh c hc).1, fun e => d3 c hc (e ▸ hT1)⟩), hT2, fun _ h => Or.inl h, fun _ h => Or.inr (Or.inl h), fun _ h => Or.inr (Or.inr h), d1, d2, d3⟩
    (fun c hc => hc.imp id (fun h => h.imp id Or.inl))
  exact this.mono (fun c hc => hc.elim id (fun h => h.elim (fun h => (sl c h).1) (fun h => h.elim (fun h => (sh c h).1) (fun h => (st c h).1))))
/-- A node may be laid as none. -/
theorem OWd.node_zero (h : OWd o w S gv nv wv X) {n : Nat} (hi : n < X.nodes.length) :
    ∃ (g cap : Nat), nv = .slice (some ⟨g, 0, none⟩) X.nodes.length cap ∧ X.nodes.length ≤ cap ∧ S g ∧ g < w.heap.size ∧ BlkIs w g 60 (cap * 4) ∧ (∀ j, j < 4 → ∃ u, w.cell? ⟨g, n * 4 + j, none⟩ = some u) ∧
      ∀ w', Lies S w w' → OWd o ((((w'.setCell ⟨g, n * 4, none⟩ (.int .i64 0)).setCell ⟨g, n * 4 + 1, none⟩ (.slice none 0 0)).setCell ⟨g, n * 4 + 2, none⟩ (.slice none 0 0)).setCell ⟨g, n * 4 + 3, none⟩ (.slice none 0 0)) S gv nv wv { X with nodes := X.nodes.set n N.zero } := by
  obtain ⟨g, cap, lv, hv, tv, Tl, Th, Tt, e, hc, hgS, hgl, hgb, c0, c1, c2, c3, hI, hL, hH, hT, sl, sh, st, d1, d2, d3, back⟩ := h.node_at hi
  have hle : n * 4 + 4 ≤ cap * 4 := by
    have : (n + 1) * 4 ≤ cap * 4 := Nat.mul_le_mul_right _ (by omega)
    omega
  refine ⟨g, cap, e, hc, hgS, hgl, hgb, fun j hj => ?_, fun w' hw' => ?_⟩
  · match j, hj with
    | 0, _ => exact ⟨_, c0⟩
    | 1, _ => exact ⟨_, c1⟩
    | 2, _ => exact ⟨_, c2⟩
    | 3, _ => exact ⟨_, c3⟩
  have h0 : BlkSet w w' g (n * 4) [.int .i64 (X.nodes.getD n N.zero).clock, lv, hv, tv] :=
    BlkSet.same (hw' g hgS) (fun j hj => by
      match j, hj with
      | 0, _ => exact c0
      | 1, _ => exact c1
      | 2, _ => exact c2
      | 3, _ => exact c3)
  have h1 := h0.set hgb 0 (by simp) (by simpa using hle) (.int .i64 0)
  have h2 := h1.set hgb 1 (by simp) (by simpa using hle) (.slice none 0 0)
  have h3 := h2.set hgb 2 (by simp) (by simpa using hle) (.slice none 0 0)
  have h4 := h3.set hgb 3 (by simp) (by simpa using hle) (.slice none 0 0)
  have hfar : ∀ b, b ≠ g → ((((w'.setCell ⟨g, n * 4, none⟩ (.int .i64 0)).setCell ⟨g, n * 4 + 1, none⟩ (.slice none 0 0)).setCell ⟨g, n * 4 + 2, none⟩ (.slice none 0 0)).setCell ⟨g, n * 4 + 3, none⟩ (.slice none 0 0)).heap[b]? = w'.heap[b]? := fun b hb => by
    rw [Go.Deep.blk_setCell_other _ _ _ _ hb, Go.Deep.blk_setCell_other _ _ _ _ hb, Go.Deep.blk_setCell_other _ _ _ _ hb, Go.Deep.blk_setCell_other _ _ _ _ hb]
  have := back _ (fun _ => False) _ N.zero (fun b hb => (hfar b hb.2.1).trans (hw' b hb.1)) h4 rfl
    ⟨.slice none 0 0, .slice none 0 0, .slice none 0 0, fun _ => False, fun _ => False, fun _ => False, rfl, by simp [I64, N.zero], OSl.nil _ _ _ _ _ _, OSl.nil _ _ _ _ _ _, OSl.nil _ _ _ _ _ _, fun _ h => h, fun _ h => h, fun _ h => h, fun _ h => h.elim, fun _ h => h.elim, fun _ h => h.elim⟩
    (fun _ h => h.elim)
  exact this.mono (fun c hc => hc.elim id False.elim)
/-- A message on its way may be laid anew. -/
theorem OWd.wmsg_at (h : OWd o w S gv nv wv X) {a k t : Nat} (hi : a < X.wires.length) (hk : k < (X.wires.getD a []).length) (ht : t < ((X.wires.getD a []).getD k []).length) :
    ∃ (g1 cap1 g2 cap2 g3 off cap3 : Nat), wv = .slice (some ⟨g1, 0, none⟩) X.wires.length cap1 ∧ X.wires.length ≤ cap1 ∧ w.cell? ⟨g1, a, none⟩ = some (.slice (some ⟨g2, 0, none⟩) (X.wires.getD a []).length cap2) ∧ (X.wires.getD a []).length ≤ cap2 ∧
      w.cell? ⟨g2, k, none⟩ = some (.slice (some ⟨g3, off, none⟩) ((X.wires.getD a []).getD k []).length cap3) ∧ ((X.wires.getD a []).getD k []).length ≤ cap3 ∧ S g3 ∧ BlkIs w g3 62 (off + cap3 * 5) ∧ (∀ j, j < 5 → ∃ u, w.cell? ⟨g3, off + t * 5 + j, none⟩ = some u) ∧
      ∀ w' m, Lies S w w' → M.fits m → OWd o (put5 w' g3 (off + t * 5) m) S gv nv wv (wireSet X a k (((X.wires.getD a []).getD k []).set t m)) := by
  obtain ⟨g1, cap1, g2, cap2, u, T2, e1, hc1, hg1S, hg1l, k1, hc2, hg2S, hg2l, hg2b, k2, hU, hT2, hg12, back⟩ := h.wire_at hi hk
  obtain ⟨g3, off, cap3, e3, hc3, hT3, hb3, hu, back2⟩ := hU.msg_at ht
  subst e3
  refine ⟨g1, cap1, g2, cap2, g3, off, cap3, e1, hc1, k1, hc2, k2, hc3, (hT2 g3 hT3).1, hb3, hu, fun w' m hw' hm => ?_⟩
  have hB2 : BlkSet w (put5 w' g3 (off + t * 5) m) g2 k [.slice (some ⟨g3, off, none⟩) ((X.wires.getD a []).getD k []).length cap3] :=
    BlkSet.same ((put5_far (fun e => (hT2 g3 hT3).2.2 e.symm)).trans (hw' g2 hg2S)) (fun j hj => by
      obtain rfl : j = 0 := by simpa using hj
      exact k2)
  have hl3 := back2 w' m (hw'.mono fun c hc => (hT2 c hc).1) hm
  exact (back _ T2 _ _ (fun b hb => (put5_far (fun e => hb.2.2 (by have e' : b = g3 := e; rw [e']; exact hT3))).trans (hw' b hb.1)) hB2 hl3 (fun b hb => Or.inl hb)).mono (fun b hb => hb.elim id (fun h => (hT2 b h).1))
/-- A group may be laid anew. -/
theorem OWd.group_at (h : OWd o w S gv nv wv X) {k : Nat} (hk : k < X.groups.length) :
    ∃ (g cap : Nat) (u : Value), gv = .slice (some ⟨g, 0, none⟩) X.groups.length cap ∧ X.groups.length ≤ cap ∧ S g ∧ BlkIs w g 3 cap ∧ w.cell? ⟨g, k, none⟩ = some u ∧
      ∀ w' x, Lies S w w' → I64 x → OWd o (w'.setCell ⟨g, k, none⟩ (.int .i64 x)) S gv nv wv { X with groups := X.groups.set k x } := by
  obtain ⟨Sg, Sn, Sw, h1, h2, h3, s1, s2, s3, d1, d2, d3⟩ := h
  obtain ⟨g, cap, u, e1, hc, hS, hb, hu, back⟩ := h1.int_at hk
  refine ⟨g, cap, u, e1, hc, s1 g hS, hb, hu, fun w' x hw' hx => ?_⟩
  exact ⟨Sg, Sn, Sw, back w' x (hw'.mono s1) hx, h2.keep (lies_setCell hw' fun c hc => ⟨s2 c hc, fun e => d1 g hS (e ▸ hc)⟩), h3.keep (lies_setCell hw' fun c hc => ⟨s3 c hc, fun e => d2 g hS (e ▸ hc)⟩), s1, s2, s3, d1, d2, d3⟩
end

theorem getD_setR {α : Type} {l : List α} {d v : α} {b n : Nat} (hb : b < l.length) : (l.set b v).getD n d = if n = b then v else l.getD n d := by
  rw [List.getD_eq_getElem?_getD, List.getElem?_set, List.getD_eq_getElem?_getD]
  by_cases h : b = n
  · subst h; simp [hb]
  · rw [if_neg h, if_neg (fun e => h e.symm)]
theorem heldPut_len {X : Wd} {n : Nat} {l : List M} : (heldPut X n l).nodes.length = X.nodes.length := by simp [heldPut]
theorem toldPut_len {X : Wd} {n : Nat} {l : List M} : (toldPut X n l).nodes.length = X.nodes.length := by simp [toldPut]
theorem heldPut_at {X : Wd} {n : Nat} {l : List M} (h : n < X.nodes.length) : ((heldPut X n l).nodes.getD n N.zero).held = l := by simp [heldPut, List.getD_eq_getElem?_getD, h]
theorem toldPut_at {X : Wd} {n : Nat} {l : List M} (h : n < X.nodes.length) : ((toldPut X n l).nodes.getD n N.zero).told = l := by simp [toldPut, List.getD_eq_getElem?_getD, h]
theorem lastSet_at {X : Wd} {n r k : Nat} {v : Int} (h : n < X.nodes.length) : ((lastSet X n r k v).nodes.getD n N.zero).last = (X.nodes.getD n N.zero).last.set r (((X.nodes.getD n N.zero).last.getD r []).set k v) := by simp [lastSet, List.getD_eq_getElem?_getD, h]
theorem wireSet_at {X : Wd} {a k : Nat} {l : List M} (h : a < X.wires.length) : (wireSet X a k l).wires.getD a [] = (X.wires.getD a []).set k l := by simp [wireSet, List.getD_eq_getElem?_getD, h]

/-- A world that came, and is being changed. -/
structure RW (S : Nat → Prop) (w4 w5 wr : World) (gv nv wv : Value) (X Y : Wd) : Prop where
  own : OWd false wr S gv nv wv Y
  g : Y.groups.length = X.groups.length
  n : Y.nodes.length = X.nodes.length
  w : Y.wires.length = X.wires.length
  out : Lies (fun b => ¬ S b) w5 wr
  low : Below w4.heap.size w4 wr
  bot : ∀ b, S b → w4.heap.size ≤ b
namespace RW
variable {S : Nat → Prop} {w4 w5 wr : World} {gv nv wv : Value} {X Y : Wd}
theorem put (h : RW S w4 w5 wr gv nv wv X Y) {g p : Nat} {m : M} {Z : Wd} (hg : S g) (hO : OWd false (put5 wr g p m) S gv nv wv Z) (h1 : Z.groups.length = Y.groups.length) (h2 : Z.nodes.length = Y.nodes.length) (h3 : Z.wires.length = Y.wires.length) : RW S w4 w5 (put5 wr g p m) gv nv wv X Z :=
  ⟨hO, h1.trans h.g, h2.trans h.n, h3.trans h.w, lies_put5 h.out fun _ hb => ⟨hb, fun e => hb (e ▸ hg)⟩, put5_below h.low (h.bot g hg), h.bot⟩
theorem held_at (h : RW S w4 w5 wr gv nv wv X Y) {n k : Nat} (hi : n < X.nodes.length) (hk : k < (Y.nodes.getD n N.zero).held.length) :
    ∃ (g cap g1 off cap1 : Nat), nv = .slice (some ⟨g, 0, none⟩) X.nodes.length cap ∧ wr.cell? ⟨g, n * 4 + 2, none⟩ = some (.slice (some ⟨g1, off, none⟩) (Y.nodes.getD n N.zero).held.length cap1) ∧
      (∀ j, wr.frozen? ⟨g1, j, none⟩ = false) ∧ (∀ j, j < 5 → ∃ u, wr.cell? ⟨g1, off + k * 5 + j, none⟩ = some u) ∧
      ∀ m : M, m.fits → RW S w4 w5 (put5 wr g1 (off + k * 5) m) gv nv wv X (heldPut Y n ((Y.nodes.getD n N.zero).held.set k m)) := by
  obtain ⟨g, cap, g1, off, cap1, e, _, _, _, c2, _, hS1, hb1, hu, back⟩ := h.own.rheld_at (by rw [h.n]; exact hi) hk
  rw [h.n] at e
  exact ⟨g, cap, g1, off, cap1, e, c2, hb1.frozen, hu, fun m hm => h.put hS1 (back wr m (fun _ _ => rfl) hm) rfl heldPut_len rfl⟩
theorem told_at (h : RW S w4 w5 wr gv nv wv X Y) {n k : Nat} (hi : n < X.nodes.length) (hk : k < (Y.nodes.getD n N.zero).told.length) :
    ∃ (g cap g1 off cap1 : Nat), nv = .slice (some ⟨g, 0, none⟩) X.nodes.length cap ∧ wr.cell? ⟨g, n * 4 + 3, none⟩ = some (.slice (some ⟨g1, off, none⟩) (Y.nodes.getD n N.zero).told.length cap1) ∧
      (∀ j, wr.frozen? ⟨g1, j, none⟩ = false) ∧ (∀ j, j < 5 → ∃ u, wr.cell? ⟨g1, off + k * 5 + j, none⟩ = some u) ∧
      ∀ m : M, m.fits → RW S w4 w5 (put5 wr g1 (off + k * 5) m) gv nv wv X (toldPut Y n ((Y.nodes.getD n N.zero).told.set k m)) := by
  obtain ⟨g, cap, g1, off, cap1, e, _, _, _, c2, _, hS1, hb1, hu, back⟩ := h.own.rtold_at (by rw [h.n]; exact hi) hk
  rw [h.n] at e
  exact ⟨g, cap, g1, off, cap1, e, c2, hb1.frozen, hu, fun m hm => h.put hS1 (back wr m (fun _ _ => rfl) hm) rfl toldPut_len rfl⟩
theorem set (h : RW S w4 w5 wr gv nv wv X Y) {g p : Nat} {v : Value} {Z : Wd} (hg : S g) (hO : OWd false (wr.setCell ⟨g, p, none⟩ v) S gv nv wv Z) (h1 : Z.groups.length = Y.groups.length) (h2 : Z.nodes.length = Y.nodes.length) (h3 : Z.wires.length = Y.wires.length) : RW S w4 w5 (wr.setCell ⟨g, p, none⟩ v) gv nv wv X Z :=
  ⟨hO, h1.trans h.g, h2.trans h.n, h3.trans h.w, lies_setCell h.out fun _ hb => ⟨hb, fun e => hb (e ▸ hg)⟩, below_setCell h.low (h.bot g hg) _, h.bot⟩
theorem last_at (h : RW S w4 w5 wr gv nv wv X Y) {n r k : Nat} (hi : n < X.nodes.length) (hr : r < (Y.nodes.getD n N.zero).last.length) (hk : k < ((Y.nodes.getD n N.zero).last.getD r []).length) :
    ∃ (g cap g1 cap1 g2 cap2 : Nat) (u : Value), nv = .slice (some ⟨g, 0, none⟩) X.nodes.length cap ∧ wr.cell? ⟨g, n * 4 + 1, none⟩ = some (.slice (some ⟨g1, 0, none⟩) (Y.nodes.getD n N.zero).last.length cap1) ∧
      wr.cell? ⟨g1, r, none⟩ = some (.slice (some ⟨g2, 0, none⟩) ((Y.nodes.getD n N.zero).last.getD r []).length cap2) ∧ wr.frozen? ⟨g2, k, none⟩ = false ∧ wr.cell? ⟨g2, k, none⟩ = some u ∧
      ∀ v, I64 v → RW S w4 w5 (wr.setCell ⟨g2, k, none⟩ (.int .i64 v)) gv nv wv X (lastSet Y n r k v) := by
  obtain ⟨g, cap, g1, cap1, g2, cap2, e, _, _, _, c1, _, _, _, d1, _, hS2, _, _, _, hb2, u, _, back⟩ := h.own.last_at (by rw [h.n]; exact hi) hr hk
  rw [h.n] at e
  exact ⟨g, cap, g1, cap1, g2, cap2, _, e, c1, d1, hb2.frozen _, u, fun v hv => h.set hS2 (back wr v (fun _ _ => rfl) hv) rfl (by simp [lastSet]) rfl⟩
theorem node_zero (h : RW S w4 w5 wr gv nv wv X Y) {n : Nat} (hi : n < X.nodes.length) :
    ∃ (g cap : Nat), nv = .slice (some ⟨g, 0, none⟩) X.nodes.length cap ∧ (∀ j, wr.frozen? ⟨g, j, none⟩ = false) ∧ (∀ j, j < 4 → ∃ u, wr.cell? ⟨g, n * 4 + j, none⟩ = some u) ∧
      RW S w4 w5 ((((wr.setCell ⟨g, n * 4, none⟩ (.int .i64 0)).setCell ⟨g, n * 4 + 1, none⟩ (.slice none 0 0)).setCell ⟨g, n * 4 + 2, none⟩ (.slice none 0 0)).setCell ⟨g, n * 4 + 3, none⟩ (.slice none 0 0)) gv nv wv X { Y with nodes := Y.nodes.set n N.zero } := by
  obtain ⟨g, cap, e, _, hS, _, hb, hu, back⟩ := h.own.node_zero (by rw [h.n]; exact hi)
  rw [h.n] at e
  have ho : ∀ b, ¬ S b → ¬ S b ∧ b ≠ g := fun _ hb => ⟨hb, fun e => hb (e ▸ hS)⟩
  have hl := h.bot g hS
  exact ⟨g, cap, e, hb.frozen, hu, back wr (fun _ _ => rfl), h.g, by simpa using h.n, h.w,
    lies_setCell (lies_setCell (lies_setCell (lies_setCell h.out ho) ho) ho) ho, below_setCell (below_setCell (below_setCell (below_setCell h.low hl _) hl _) hl _) hl _, h.bot⟩
theorem wmsg_at (h : RW S w4 w5 wr gv nv wv X Y) {a k t : Nat} (hi : a < X.wires.length) (hk : k < (Y.wires.getD a []).length) (ht : t < ((Y.wires.getD a []).getD k []).length) :
    ∃ (g1 cap1 g2 cap2 g3 off cap3 : Nat), wv = .slice (some ⟨g1, 0, none⟩) X.wires.length cap1 ∧ wr.cell? ⟨g1, a, none⟩ = some (.slice (some ⟨g2, 0, none⟩) (Y.wires.getD a []).length cap2) ∧
      wr.cell? ⟨g2, k, none⟩ = some (.slice (some ⟨g3, off, none⟩) ((Y.wires.getD a []).getD k []).length cap3) ∧ (∀ j, wr.frozen? ⟨g3, j, none⟩ = false) ∧ (∀ j, j < 5 → ∃ u, wr.cell? ⟨g3, off + t * 5 + j, none⟩ = some u) ∧
      ∀ m : M, m.fits → RW S w4 w5 (put5 wr g3 (off + t * 5) m) gv nv wv X (wireSet Y a k (((Y.wires.getD a []).getD k []).set t m)) := by
  obtain ⟨g1, cap1, g2, cap2, g3, off, cap3, e, _, c1, _, c2, _, hS3, hb3, hu, back⟩ := h.own.wmsg_at (by rw [h.w]; exact hi) hk ht
  rw [h.w] at e
  exact ⟨g1, cap1, g2, cap2, g3, off, cap3, e, c1, c2, hb3.frozen, hu, fun m hm => h.put hS3 (back wr m (fun _ _ => rfl) hm) rfl rfl (by simp [wireSet])⟩
theorem group_at (h : RW S w4 w5 wr gv nv wv X Y) {k : Nat} (hk : k < X.groups.length) :
    ∃ (g cap : Nat) (u : Value), gv = .slice (some ⟨g, 0, none⟩) X.groups.length cap ∧ wr.frozen? ⟨g, k, none⟩ = false ∧ wr.cell? ⟨g, k, none⟩ = some u ∧
      ∀ v, I64 v → RW S w4 w5 (wr.setCell ⟨g, k, none⟩ (.int .i64 v)) gv nv wv X { Y with groups := Y.groups.set k v } := by
  obtain ⟨g, cap, u, e, _, hS, hb, hu, back⟩ := h.own.group_at (by rw [h.g]; exact hk)
  rw [h.g] at e
  exact ⟨g, cap, u, e, hb.frozen _, hu, fun v hv => h.set hS (back wr v (fun _ _ => rfl) hv) (by simp) rfl rfl⟩
/-- How it reads at a node. -/
theorem node (h : RW S w4 w5 wr gv nv wv X Y) {n : Nat} (hi : n < X.nodes.length) :
    ∃ (g cap : Nat) (la ha ta : Option Addr) (lc hc tc : Nat), nv = .slice (some ⟨g, 0, none⟩) X.nodes.length cap ∧ wr.cell? ⟨g, n * 4 + 1, none⟩ = some (.slice la (Y.nodes.getD n N.zero).last.length lc) ∧
      wr.cell? ⟨g, n * 4 + 2, none⟩ = some (.slice ha (Y.nodes.getD n N.zero).held.length hc) ∧ wr.cell? ⟨g, n * 4 + 3, none⟩ = some (.slice ta (Y.nodes.getD n N.zero).told.length tc) := by
  obtain ⟨g, cap, lv, hv, tv, Tl, Th, Tt, e, hc, hgS, hgl, hgb, c0, c1, c2, c3, hI, hL, hH, hT, _⟩ := h.own.node_at (by rw [h.n]; exact hi)
  rw [h.n] at e
  obtain ⟨_, la, lc, rfl, _⟩ := OIntRows.rows hL |>.form
  obtain ⟨_, ha, hc, rfl, _⟩ := hH.msgs.open
  obtain ⟨_, ta, tc, rfl, _⟩ := hT.msgs.open
  exact ⟨g, cap, la, ha, ta, lc, hc, tc, e, c1, c2, c3⟩
/-- How it reads at a row of a node's table. -/
theorem lrow (h : RW S w4 w5 wr gv nv wv X Y) {n r : Nat} (hi : n < X.nodes.length) (hr : r < (Y.nodes.getD n N.zero).last.length) :
    ∃ (g cap g1 o1 lc : Nat) (ra : Option Addr) (rc : Nat), nv = .slice (some ⟨g, 0, none⟩) X.nodes.length cap ∧ wr.cell? ⟨g, n * 4 + 1, none⟩ = some (.slice (some ⟨g1, o1, none⟩) (Y.nodes.getD n N.zero).last.length lc) ∧
      wr.cell? ⟨g1, o1 + r, none⟩ = some (.slice ra ((Y.nodes.getD n N.zero).last.getD r []).length rc) := by
  obtain ⟨g, cap, lv, hv, tv, Tl, Th, Tt, e, hc, hgS, hgl, hgb, c0, c1, c2, c3, hI, hL, hH, hT, _⟩ := h.own.node_at (by rw [h.n]; exact hi)
  rw [h.n] at e
  obtain ⟨b1, o1, lc, u1, rfl, _, r1, hu1⟩ := (OIntRows.rows hL).at hr
  obtain ⟨_, ra, rc, rfl, _⟩ := hu1.open
  exact ⟨g, cap, b1, o1, lc, ra, rc, e, c1, r1⟩
/-- How it reads at a row of wires. -/
theorem wrow (h : RW S w4 w5 wr gv nv wv X Y) {a : Nat} (hi : a < X.wires.length) :
    ∃ (g o cap : Nat) (ra : Option Addr) (rc : Nat), wv = .slice (some ⟨g, o, none⟩) X.wires.length cap ∧ wr.cell? ⟨g, o + a, none⟩ = some (.slice ra (Y.wires.getD a []).length rc) := by
  obtain ⟨_, _, hw⟩ := h.own.parts
  obtain ⟨bw, ow, cw, u1, e, _, r1, hu1⟩ := hw.row (a := a) (by rw [h.w]; exact hi)
  rw [h.w] at e
  obtain ⟨_, ra, rc, rfl, _⟩ := hu1.form
  exact ⟨bw, ow, cw, ra, rc, e, r1⟩
/-- How it reads at a wire. -/
theorem wire (h : RW S w4 w5 wr gv nv wv X Y) {a k : Nat} (hi : a < X.wires.length) (hk : k < (Y.wires.getD a []).length) :
    ∃ (g o cap g2 o2 rc : Nat) (ma : Option Addr) (mc : Nat), wv = .slice (some ⟨g, o, none⟩) X.wires.length cap ∧ wr.cell? ⟨g, o + a, none⟩ = some (.slice (some ⟨g2, o2, none⟩) (Y.wires.getD a []).length rc) ∧
      wr.cell? ⟨g2, o2 + k, none⟩ = some (.slice ma ((Y.wires.getD a []).getD k []).length mc) := by
  obtain ⟨_, _, hw⟩ := h.own.parts
  obtain ⟨bw, ow, cw, u1, e, _, r1, hu1⟩ := hw.row (a := a) (by rw [h.w]; exact hi)
  rw [h.w] at e
  obtain ⟨b3, o3, c3, v3, rfl, _, s1, hI3⟩ := hu1.at hk
  obtain ⟨_, ma, mc, rfl, _⟩ := hI3.open
  exact ⟨bw, ow, cw, b3, o3, c3, ma, mc, e, r1, s1⟩
/-- How long its lists can be. -/
theorem bnd (h : RW S w4 w5 wr gv nv wv X Y) {n : Nat} (hi : n < X.nodes.length) : (Y.nodes.getD n N.zero).last.length ≤ 140737488351232 ∧ (Y.nodes.getD n N.zero).held.length ≤ 140737488351232 ∧ (Y.nodes.getD n N.zero).told.length ≤ 140737488351232 := by
  obtain ⟨g, cap, lv, hv, tv, Tl, Th, Tt, e, hc, hgS, hgl, hgb, c0, c1, c2, c3, hI, hL, hH, hT, _⟩ := h.own.node_at (by rw [h.n]; exact hi)
  obtain ⟨_, _, _, _, b1⟩ := OSl.form hL
  obtain ⟨_, _, _, _, b2⟩ := OSl.form hH
  obtain ⟨_, _, _, _, b3⟩ := OSl.form hT
  omega
theorem bndr (h : RW S w4 w5 wr gv nv wv X Y) {n r : Nat} (hi : n < X.nodes.length) (hr : r < (Y.nodes.getD n N.zero).last.length) : ((Y.nodes.getD n N.zero).last.getD r []).length ≤ 140737488351232 := by
  obtain ⟨g, cap, lv, hv, tv, Tl, Th, Tt, e, hc, hgS, hgl, hgb, c0, c1, c2, c3, hI, hL, hH, hT, _⟩ := h.own.node_at (by rw [h.n]; exact hi)
  obtain ⟨b1, o1, lc, u1, rfl, _, r1, hu1⟩ := (OIntRows.rows hL).at hr
  have := hu1.2.2.1
  rw [List.length_map] at this
  omega
theorem bndw (h : RW S w4 w5 wr gv nv wv X Y) {a : Nat} (hi : a < X.wires.length) : (Y.wires.getD a []).length ≤ 140737488351232 := by
  obtain ⟨_, _, hw⟩ := h.own.parts
  obtain ⟨bw, ow, cw, u1, e, _, r1, hu1⟩ := hw.row (a := a) (by rw [h.w]; exact hi)
  have := hu1.form.1
  omega
theorem bndl (h : RW S w4 w5 wr gv nv wv X Y) {a k : Nat} (hi : a < X.wires.length) (hk : k < (Y.wires.getD a []).length) : ((Y.wires.getD a []).getD k []).length ≤ 140737488351232 := by
  obtain ⟨_, _, hw⟩ := h.own.parts
  obtain ⟨bw, ow, cw, u1, e, _, r1, hu1⟩ := hw.row (a := a) (by rw [h.w]; exact hi)
  obtain ⟨b3, o3, c3, v3, rfl, _, s1, hI3⟩ := hu1.at hk
  obtain ⟨h1, _⟩ := hI3.open
  omega
end RW
end Go.Proofs.YtnalakhelicjcaaGreat
