/-
  The program's first world.
  The program begins a world, errors too.
-/
import Derived.Test.YtgifclphigpnhaaBeg
import Derived.Deep.CutRange
import Derived.Test.YtgifclphigpnhaaKD
set_option maxRecDepth 100000
namespace Go.Proofs.Ytgifclphigpnhaa
open Go.RowKit Go.Shelf Go.BigFrame

/-- A row of a table of one's own may be laid anew. -/
theorem OIntRows.row_set {w : World} {S : Nat → Prop} {v : Value} {l : List (List Int)} (h : OIntRows w S v l) {i : Nat} (hi : i < l.length) :
    ∃ (g cap : Nat) (u0 : Value), v = .slice (some ⟨g, 0, none⟩) l.length cap ∧ l.length ≤ cap ∧ S g ∧ BlkIs w g 22 cap ∧ w.cell? ⟨g, i, none⟩ = some u0 ∧
      ∀ (w' : World) T' u r, Lies S w w' → OInts w' T' u r → (∀ b, T' b → ¬ S b) → OIntRows (w'.setCell ⟨g, i, none⟩ u) (fun b => S b ∨ T' b) v (l.set i r) := by
  obtain ⟨g, off, cap, T, cs, e1, e2, e3, e4, e5, e6, e7, ⟨u0, rfl, e8⟩, e9, back⟩ := OSl.at OIntsEl.stays h hi
  obtain rfl := e5 rfl
  have k1 := e7 0 (by omega)
  simp only [Nat.zero_add, Nat.mul_one, Nat.add_zero] at e3 e7 back k1
  refine ⟨g, cap, u0, e1, e4, e2, e3, k1, fun w' T' u r hL hI hT => ?_⟩
  have hB : BlkSet w (w'.setCell ⟨g, i, none⟩ u) g i [u] :=
    (BlkSet.same (w := w) (w' := w') (p := i) (cs := [u0]) (hL g e2) (fun j hj => by
      obtain rfl : j = 0 := by simpa using hj
      exact k1)).set e3 0 (by simp) (by simp; omega) _
  exact back _ T' [u] r (fun b hb => (Go.Deep.blk_setCell_other _ _ _ _ hb.2.1).trans (hL b hb.1)) hB rfl ⟨u, rfl, hI.keep (fun b hb => Go.Deep.blk_setCell_other _ _ _ _ (fun e => hT b hb (e ▸ e2)))⟩ (fun b hb => Or.inr (hT b hb))
/-- A table, its first g rows laid. -/
def rowsL (n m g : Nat) : List (List Int) := List.replicate g (List.replicate n 0) ++ List.replicate (m - g) []
theorem rowsL_len {n m g : Nat} (h : g ≤ m) : (rowsL n m g).length = m := by simp [rowsL]; omega
theorem rowsL_set {n m g : Nat} (h : g < m) : (rowsL n m g).set g (List.replicate n 0) = rowsL n m (g + 1) := by
  unfold rowsL
  rw [List.set_append_right _ _ (by simp), rep_succ, List.append_assoc]
  congr 1
  rw [List.length_replicate, Nat.sub_self, show m - g = (m - (g + 1)) + 1 by omega, List.replicate_succ]
  rfl

end Go.Proofs.Ytgifclphigpnhaa

set_option maxRecDepth 100000
namespace Go.Proofs.Ytgifclphigpnhaa
open Go.RowKit Go.Shelf Go.BigFrame

theorem gErr_small {nodes : Int} {gs : List Int} (hg : gErr nodes gs = 0) : 1 ≤ nodes ∧ nodes ≤ 4 ∧ gs.length ≤ 3 := by
  unfold gErr at hg
  unfold inB at hg
  refine ⟨?_, ?_, ?_⟩ <;> (split at hg <;> first | (split at hg <;> first | (simp at *; omega) | cases hg) | cases hg)
def beginF (nodes : Int) (gs : List Int) : Int × Wd := if gErr nodes gs = 0 then (0, beginX nodes.toNat gs) else (gErr nodes gs, Wd.none)
end Go.Proofs.Ytgifclphigpnhaa
