/-
  A world of the call's own: a message changed in place; one wire laid for another.
-/
import Derived.Test.YtnalakhelicjcaaGreatKC
namespace Go.Proofs.YtnalakhelicjcaaGreat
open Go.RowKit Go.Deep

section
variable {α : Type} {El : ElO α} {o : Bool} {e : TypeId} {s : Nat} {w : World} {S : Nat → Prop} {v : Value} {xs : List α}
/-- At one of its elements; and how it reads behind whatever was laid there. -/
theorem OSl.atR {El' : World → List Value → α → Prop} (hE : OStays El) (hR : ∀ w T cs x, El w T cs x → El' w cs x) (h : OSl El o e s w S v xs) {i : Nat} (hi : i < xs.length) :
    ∃ (g off cap : Nat) (T : Nat → Prop) (cs : List Value), v = .slice (some ⟨g, off, none⟩) xs.length cap ∧ S g ∧ BlkIs w g e (off + cap * s) ∧ xs.length ≤ cap ∧ (o = true → off = 0) ∧ cs.length = s ∧
      (∀ j, j < s → w.cell? ⟨g, off + i * s + j, none⟩ = cs[j]?) ∧ El w T cs xs[i] ∧ (∀ b, T b → S b ∧ b ≠ g) ∧
      ∀ w' cs' x', Lies (fun b => S b ∧ b ≠ g ∧ ¬ T b) w w' → BlkSet w w' g (off + i * s) cs' → cs'.length = s → El' w' cs' x' → Sl El' s w' v (xs.set i x') := by
  rcases h with ⟨a0, rfl, rfl, ha0⟩ | ⟨g, off, cap, T, h1, h2, h3, h4, h5, h6, h7, h8, h9, h10⟩
  · exact absurd hi (Nat.not_lt_zero _)
  obtain ⟨cs, c1, c2, c3⟩ := h8 i hi
  refine ⟨g, off, cap, T i, cs, h1, h2, h3, h4, h6, c1, c2, c3, h9 i, fun w' cs' x' hL hB hl hX => ?_⟩
  have key : OSl (fun w _ cs x => El' w cs x) false e s w' S v (xs.set i x') := by
    refine .inr ⟨g, off, cap, fun _ _ => False, by simpa using h1, h2, hB.1 _ _ h3, by simpa using h4, h5, fun k => (by cases k), by simpa using h7, fun k hk => ?_, fun _ _ hb => hb.elim, fun _ _ _ hb => hb.elim⟩
    rw [List.length_set] at hk
    by_cases ek : k = i
    · subst ek
      refine ⟨cs', hl, fun j hj => hB.2.2 j (by omega), ?_⟩
      simp only [List.getElem_set_self]
      exact hX
    · obtain ⟨ds, d1, d2, d3⟩ := h8 k hk
      refine ⟨ds, d1, fun j hj => ?_, ?_⟩
      · rw [hB.2.1 _ ?_, d2 j hj]
        rw [hl]
        rcases Nat.lt_or_gt_of_ne ek with e1 | e1
        · left
          have : (k + 1) * s ≤ i * s := Nat.mul_le_mul_right _ e1
          rw [Nat.add_mul] at this
          omega
        · right
          have : (i + 1) * s ≤ k * s := Nat.mul_le_mul_right _ e1
          rw [Nat.add_mul] at this
          omega
      · simp only [List.getElem_set_ne (Ne.symm ek)]
        exact hR _ _ _ _ (hE _ _ _ _ _ d3 (fun b hb => hL b ⟨(h9 k b hb).1, (h9 k b hb).2, fun hc => ek (h10 _ _ _ hb hc)⟩))
  exact key.sl (fun _ _ _ _ h => h)
end
section
variable {o : Bool} {w : World} {S : Nat → Prop} {gv nv wv : Value} {X : Wd}
/-- A message's sender may be set. -/
theorem OWd.src_at (h : OWd o w S gv nv wv X) {a k t : Nat} (hi : a < X.wires.length) (hk : k < (X.wires.getD a []).length) (ht : t < ((X.wires.getD a []).getD k []).length) :
    ∃ (g1 cap1 g2 cap2 g3 off cap3 : Nat), wv = .slice (some ⟨g1, 0, none⟩) X.wires.length cap1 ∧ X.wires.length ≤ cap1 ∧ w.cell? ⟨g1, a, none⟩ = some (.slice (some ⟨g2, 0, none⟩) (X.wires.getD a []).length cap2) ∧ (X.wires.getD a []).length ≤ cap2 ∧
      w.cell? ⟨g2, k, none⟩ = some (.slice (some ⟨g3, off, none⟩) ((X.wires.getD a []).getD k []).length cap3) ∧ ((X.wires.getD a []).getD k []).length ≤ cap3 ∧ S g3 ∧ BlkIs w g3 62 (off + cap3 * 5) ∧
      w.cell? ⟨g3, off + t * 5, none⟩ = some (.int .i64 (((X.wires.getD a []).getD k []).getD t M.zero).src) ∧
      ∀ w' v, Lies S w w' → I64 v → OWd o (w'.setCell ⟨g3, off + t * 5, none⟩ (.int .i64 v)) S gv nv wv (wireSet X a k (((X.wires.getD a []).getD k []).set t { ((X.wires.getD a []).getD k []).getD t M.zero with src := v })) := by
  obtain ⟨g1, cap1, g2, cap2, u, T2, e1, hc1, hg1S, hg1l, k1, hc2, hg2S, hg2l, hg2b, k2, hU, hT2, hg12, back⟩ := h.wire_at hi hk
  obtain ⟨g3, off, cap3, T3, cs, f1, f2, f3, f4, f5, f6, f7, ⟨rfl, f8⟩, f9, back3⟩ := OSl.at MEl.stays hU ht
  subst f1
  rw [getD_lt _ M.zero ht]
  have c0 := f7 0 (by omega)
  simp only [Nat.add_zero] at c0
  refine ⟨g1, cap1, g2, cap2, g3, off, cap3, e1, hc1, k1, hc2, k2, f4, (hT2 g3 f2).1, f3, c0, fun w' v hw' hv => ?_⟩
  have hB3 : BlkSet w (w'.setCell ⟨g3, off + t * 5, none⟩ (.int .i64 v)) g3 (off + t * 5) { ((X.wires.getD a []).getD k [])[t] with src := v }.cells :=
    (BlkSet.same (w := w) (w' := w') (p := off + t * 5) (cs := ((X.wires.getD a []).getD k [])[t].cells) (hw' g3 (hT2 g3 f2).1) (fun j hj => f7 j (by simpa [M.cells] using hj))).set f3 0 (by simp [M.cells]) (by
      have : (t + 1) * 5 ≤ cap3 * 5 := Nat.mul_le_mul_right _ (by omega)
      simp [M.cells]; omega) _
  have hl3 := back3 (w'.setCell ⟨g3, off + t * 5, none⟩ (.int .i64 v)) (fun _ => False) _ { ((X.wires.getD a []).getD k [])[t] with src := v } (fun b hb => (Go.Deep.blk_setCell_other _ _ _ _ hb.2.1).trans (hw' b (hT2 b hb.1).1)) hB3 rfl ⟨rfl, hv, f8.2⟩ (fun _ h => h.elim)
  have hB2 : BlkSet w (w'.setCell ⟨g3, off + t * 5, none⟩ (.int .i64 v)) g2 k [.slice (some ⟨g3, off, none⟩) ((X.wires.getD a []).getD k []).length cap3] :=
    BlkSet.same ((Go.Deep.blk_setCell_other _ _ _ _ (fun e => (hT2 g3 f2).2.2 e.symm)).trans (hw' g2 hg2S)) (fun j hj => by
      obtain rfl : j = 0 := by simpa using hj
      exact k2)
  exact (back _ T2 _ _ (fun b hb => (Go.Deep.blk_setCell_other _ _ _ _ (fun e => hb.2.2 (by have e' : b = g3 := e; rw [e']; exact f2))).trans (hw' b hb.1)) hB2 (OSl.mono hl3 (fun b hb => hb.elim id False.elim)) (fun b hb => Or.inl hb)).mono (fun b hb => hb.elim id (fun h => (hT2 b h).1))
/-- One wire may be laid for another of its row: so it reads. -/
theorem OWd.wire_over (h : OWd o w S gv nv wv X) {a j k : Nat} (hi : a < X.wires.length) (hj : j < (X.wires.getD a []).length) (hk : k < (X.wires.getD a []).length) :
    ∃ (g1 cap1 g2 cap2 : Nat) (u u0 : Value), wv = .slice (some ⟨g1, 0, none⟩) X.wires.length cap1 ∧ X.wires.length ≤ cap1 ∧ w.cell? ⟨g1, a, none⟩ = some (.slice (some ⟨g2, 0, none⟩) (X.wires.getD a []).length cap2) ∧ (X.wires.getD a []).length ≤ cap2 ∧
      S g2 ∧ BlkIs w g2 50 cap2 ∧ w.cell? ⟨g2, j, none⟩ = some u ∧ w.cell? ⟨g2, k, none⟩ = some u0 ∧ Msgs w u ((X.wires.getD a []).getD j []) ∧
      ∀ w', Lies S w w' → WorldAt (w'.setCell ⟨g2, k, none⟩ u) (.agg #[gv, nv, wv]) (wireSet X a k ((X.wires.getD a []).getD j [])) := by
  obtain ⟨Sg, Sn, Sw, h1, h2, h3, s1, s2, s3, d1, d2, d3⟩ := h
  obtain ⟨g1, off, cap1, T1, cs, e1, e2, e3, e4, e5, e6, e7, ⟨r, rfl, e8⟩, e9, back⟩ := OSl.atR (El' := MsgRowsEl) (OMsgRowsEl.stays o) (fun _ _ _ _ ⟨u, e, h⟩ => ⟨u, e, OMsgRows.rows h⟩) h3 hi
  obtain rfl := e5 rfl
  rw [getD_lt X.wires [] hi] at hk hj ⊢
  obtain ⟨g2, off2, cap2, T2, cs2, f1, f2, f3, f4, f5, f6, f7, ⟨u0, rfl, f8⟩, f9, back2⟩ := OSl.atR (El' := MsgsEl) (OMsgsEl.stays o) (fun _ _ _ _ ⟨u, e, h⟩ => ⟨u, e, OMsgs.msgs h⟩) e8 hk
  obtain rfl := f5 rfl
  subst f1
  obtain ⟨g2', off2', cap2', T3, cs3, f1', f2', f3', f4', f5', f6', f7', ⟨u, rfl, f8'⟩, f9', _⟩ := OSl.at (OMsgsEl.stays o) e8 hj
  obtain rfl := f5' rfl
  have e2' := (Value.slice.inj f1').1
  have e3' := (Value.slice.inj f1').2.2
  injection e2' with e2'
  injection e2' with e2'
  subst e3'
  subst e2'
  rw [getD_lt X.wires[a] [] hj]
  have k1 := e7 0 (by omega)
  have k2 := f7 0 (by omega)
  have k3 := f7' 0 (by omega)
  simp only [Nat.zero_add, Nat.mul_one, Nat.add_zero] at e3 e7 back f3 f7 back2 k1 k2 k3
  refine ⟨g1, cap1, g2, cap2, u, u0, e1, e4, k1, f4, s3 g2 (e9 g2 f2).1, f3, k3, k2, f8'.msgs, fun w' hw' => ?_⟩
  have hlo : ∀ b, b ≠ g2 → S b → (w'.setCell ⟨g2, k, none⟩ u).heap[b]? = w.heap[b]? := fun b hb hS => (Go.Deep.blk_setCell_other _ _ _ _ hb).trans (hw' b hS)
  have hB2 : BlkSet w (w'.setCell ⟨g2, k, none⟩ u) g2 k [u] :=
    (BlkSet.same (w := w) (w' := w') (p := k) (cs := [u0]) (hw' g2 (s3 g2 (e9 g2 f2).1)) (fun j hj => by
      obtain rfl : j = 0 := by simpa using hj
      exact k2)).set f3 0 (by simp) (by simp; omega) _
  have hU : OMsgs o (w'.setCell ⟨g2, k, none⟩ u) T3 u X.wires[a][j] := f8'.keep (fun b hb => hlo b (f9' b hb).2 (s3 b (e9 b (f9' b hb).1).1))
  have hrow := back2 _ [u] X.wires[a][j] (fun b hb => hlo b hb.2.1 (s3 b (e9 b hb.1).1)) hB2 rfl ⟨u, rfl, hU.msgs⟩
  have hB1 : BlkSet w (w'.setCell ⟨g2, k, none⟩ u) g1 a [.slice (some ⟨g2, 0, none⟩) X.wires[a].length cap2] :=
    BlkSet.same (hlo g1 (fun e => (e9 g2 f2).2 e.symm) (s3 g1 e2)) (fun j hj => e7 j hj)
  have hwires := back _ [_] _ (fun b hb => hlo b (fun e => hb.2.2 (e ▸ f2)) (s3 b hb.1)) hB1 rfl ⟨_, rfl, hrow⟩
  refine ⟨gv, nv, wv, rfl, ?_, ?_, ?_⟩
  · exact (h1.keep (fun b hb => hlo b (fun e => d2 g2 (e ▸ hb) (e9 g2 f2).1) (s1 b hb))).ints
  · exact (h2.keep (fun b hb => hlo b (fun e => d3 g2 (e ▸ hb) (e9 g2 f2).1) (s2 b hb))).nodes
  · show Wires _ wv _
    rw [show (wireSet X a k X.wires[a][j]).wires = X.wires.set a (X.wires[a].set k X.wires[a][j]) by simp [wireSet, hi]]
    exact hwires
end
end Go.Proofs.YtnalakhelicjcaaGreat
