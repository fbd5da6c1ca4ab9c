/-
  A world of the call's own: other messages laid as what a node holds; reading alone.
  BoundTrue, the plain law: how far it is is not above its clock, nor above what has come of any other member of its groups.
-/
import Derived.Test.YtnalakhelicjcaaGreatKS3
import Derived.Test.YtnalakhelicjcaaGreatKB
namespace Go.Proofs.YtnalakhelicjcaaGreat
open Go.RowKit Go.Deep

def heldSet (X : Wd) (n : Nat) (ms : List M) : Wd := { X with nodes := X.nodes.set n { X.nodes.getD n N.zero with held := ms } }
theorem OWd.held_over {o : Bool} {w : World} {S : Nat → Prop} {gv nv wv : Value} {X : Wd} (h : OWd o w S gv nv wv X) {n : Nat} (hi : n < X.nodes.length) :
    ∃ (g cap : Nat) (u0 : Value), nv = .slice (some ⟨g, 0, none⟩) X.nodes.length cap ∧ X.nodes.length ≤ cap ∧ S g ∧ BlkIs w g 60 (cap * 4) ∧ w.cell? ⟨g, n * 4 + 2, none⟩ = some u0 ∧
      ∀ w' u ms, Lies S w w' → Msgs (w'.setCell ⟨g, n * 4 + 2, none⟩ u) u ms → WorldAt (w'.setCell ⟨g, n * 4 + 2, none⟩ u) (.agg #[gv, nv, wv]) (heldSet X n ms) := by
  obtain ⟨Sg, Sn, Sw, h1, h2, h3, s1, s2, s3, d1, d2, d3⟩ := h
  obtain ⟨g, off, cap, T, cs, e1, e2, e3, e4, e5, e6, e7, ⟨lv, hv, tv, Tl, Th, Tt, rfl, f1, f2, f3, f4, t1, t2, t3, dd⟩, e9, back⟩ :=
    OSl.atR (El' := NodeEl) ONodeEl.stays (fun _ _ _ _ ⟨lv, hv, tv, _, _, _, e, i, a, b, c, _⟩ => ⟨lv, hv, tv, e, i, a.rows, b.msgs, c.msgs⟩) h2 hi
  obtain rfl := e5 rfl
  have k2 := e7 2 (by omega)
  simp only [Nat.zero_add] at e3 e7 back k2
  refine ⟨g, cap, hv, e1, e4, s2 g e2, e3, k2, fun w' u ms hw' hm => ?_⟩
  have hlo : ∀ b, b ≠ g → S b → (w'.setCell ⟨g, n * 4 + 2, none⟩ u).heap[b]? = w.heap[b]? := fun b hb hS => (Go.Deep.blk_setCell_other _ _ _ _ hb).trans (hw' b hS)
  have hB : BlkSet w (w'.setCell ⟨g, n * 4 + 2, none⟩ u) g (n * 4) [.int .i64 X.nodes[n].clock, lv, u, tv] :=
    (BlkSet.same (w := w) (w' := w') (p := n * 4) (cs := [.int .i64 X.nodes[n].clock, lv, hv, tv]) (hw' g (s2 g e2)) (fun j hj => e7 j (by simpa using hj))).set e3 2 (by simp) (by
      have : (n + 1) * 4 ≤ cap * 4 := Nat.mul_le_mul_right _ (by omega)
      simp
      omega) _
  have hrow := back _ _ { X.nodes[n] with held := ms } (fun b hb => hlo b hb.2.1 (s2 b hb.1)) hB rfl
    ⟨lv, u, tv, rfl, f1, (f2.keep (fun b hb => hlo b (e9 b (t1 b hb)).2 (s2 b (e9 b (t1 b hb)).1))).rows, hm, (f4.keep (fun b hb => hlo b (e9 b (t3 b hb)).2 (s2 b (e9 b (t3 b hb)).1))).msgs⟩
  refine ⟨gv, nv, wv, rfl, ?_, ?_, ?_⟩
  · exact (h1.keep (fun b hb => hlo b (fun e => d1 g (e ▸ hb) e2) (s1 b hb))).ints
  · show Nodes _ nv _
    rw [show (heldSet X n ms).nodes = X.nodes.set n { X.nodes[n] with held := ms } by simp [heldSet, hi]]
    exact hrow
  · exact (h3.keep (fun b hb => hlo b (fun e => d3 g e2 (e ▸ hb)) (s3 b hb))).wires
end Go.Proofs.YtnalakhelicjcaaGreat

set_option maxRecDepth 100000
namespace Go.Proofs.YtnalakhelicjcaaGreat
open Go.RowKit

theorem boundS_le (X : Wd) (n g k : Nat) (a : Int) : boundS X n g k a ≤ a := by
  unfold boundS
  split
  · omega
  · exact Int.le_refl _
theorem boundG_anti (X : Wd) (n g : Nat) (a : Int) {m m' : Nat} (h : m ≤ m') : boundG X n g m' a ≤ boundG X n g m a := by
  induction m' with
  | zero => rw [show m = 0 by omega]; exact Int.le_refl _
  | succ m' ih =>
    by_cases e : m = m' + 1
    · rw [e]; exact Int.le_refl _
    · rw [boundG_succ]
      exact Int.le_trans (boundS_le _ _ _ _ _) (ih (by omega))
theorem boundG_le (X : Wd) (n g m : Nat) (a : Int) : boundG X n g m a ≤ a := boundG_anti X n g a (Nat.zero_le m)
theorem boundM_anti (X : Wd) (n : Nat) {m m' : Nat} (h : m ≤ m') : boundM X n m' ≤ boundM X n m := by
  induction m' with
  | zero => rw [show m = 0 by omega]; exact Int.le_refl _
  | succ m' ih =>
    by_cases e : m = m' + 1
    · rw [e]; exact Int.le_refl _
    · rw [boundM_succ]
      exact Int.le_trans (boundG_le _ _ _ _ _) (ih (by omega))
theorem boundX_clock (X : Wd) (n : Nat) : boundX X n ≤ (X.nodes.getD n N.zero).clock := boundM_anti X n (Nat.zero_le _)
theorem boundX_last {X : Wd} {n g k : Nat} (hg : g < X.groups.length) (hk : k < X.nodes.length) (hn : k ≠ n) (h1 : hasB X.groups g n = true) (h2 : hasB X.groups g k = true) :
    boundX X n ≤ ((X.nodes.getD n N.zero).last.getD g []).getD k 0 := by
  have h := boundM_anti X n (show g + 1 ≤ X.groups.length from hg)
  rw [boundM_succ] at h
  have h3 := boundG_anti X n g (boundM X n g) (show k + 1 ≤ X.nodes.length from hk)
  rw [boundG_succ] at h3
  have h4 : boundS X n g k (boundG X n g k (boundM X n g)) ≤ ((X.nodes.getD n N.zero).last.getD g []).getD k 0 := by
    unfold boundS
    rw [if_pos (by simp [hn, h1, h2])]
    omega
  exact Int.le_trans h (Int.le_trans h3 h4)
end Go.Proofs.YtnalakhelicjcaaGreat
