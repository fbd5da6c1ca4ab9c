/-
  Memory of a call's own lies within the blocks there are.
-/
import Derived.Test.YtnalakhelicjcaaVKW
namespace Go.Proofs.Ytnalakhelicjcaa
open Go.RowKit Go.Deep

def OLt {α : Type} (El : ElO α) : Prop := ∀ w T cs x, El w T cs x → El w (fun b => T b ∧ b < w.heap.size) cs x
theorem OSl.lt {α : Type} {El : ElO α} {o : Bool} {e : TypeId} {s : Nat} {w : World} {S : Nat → Prop} {v : Value} {xs : List α} (hE : OLt El) (h : OSl El o e s w S v xs) : OSl El o e s w (fun b => S b ∧ b < w.heap.size) v xs := by
  rcases h with h | ⟨g, off, cap, T, h1, h2, h3, h4, h5, h6, h7, h8, h9, h10⟩
  · exact .inl h
  · refine .inr ⟨g, off, cap, fun i b => T i b ∧ b < w.heap.size, h1, ⟨h2, h3.lt⟩, h3, h4, h5, h6, h7, fun i hi => ?_, fun i b hb => ⟨⟨(h9 i b hb.1).1, hb.2⟩, (h9 i b hb.1).2⟩, fun i j b hi hj => h10 i j b hi.1 hj.1⟩
    obtain ⟨cs, a, c, d⟩ := h8 i hi
    exact ⟨cs, a, c, hE _ _ _ _ d⟩
theorem IntEl.lt : OLt IntEl := fun _ _ _ _ h => h
theorem MEl.lt : OLt MEl := fun _ _ _ _ h => h
theorem OIntsEl.lt : OLt OIntsEl := fun _ _ _ _ ⟨u, h, h2⟩ => ⟨u, h, OSl.lt IntEl.lt h2⟩
theorem OMsgsEl.lt (o : Bool) : OLt (OMsgsEl o) := fun _ _ _ _ ⟨u, h, h2⟩ => ⟨u, h, OSl.lt MEl.lt h2⟩
theorem OMsgRowsEl.lt (o : Bool) : OLt (OMsgRowsEl o) := fun _ _ _ _ ⟨u, h, h2⟩ => ⟨u, h, OSl.lt (OMsgsEl.lt o) h2⟩
theorem ONodeEl.lt : OLt ONodeEl := fun w _ _ _ ⟨lv, hv, tv, Tl, Th, Tt, h0, h1, h2, h3, h4, a, b, c, d1, d2, d3⟩ =>
  ⟨lv, hv, tv, fun x => Tl x ∧ x < w.heap.size, fun x => Th x ∧ x < w.heap.size, fun x => Tt x ∧ x < w.heap.size, h0, h1, OSl.lt OIntsEl.lt h2, OSl.lt MEl.lt h3, OSl.lt MEl.lt h4,
    fun x h => ⟨a x h.1, h.2⟩, fun x h => ⟨b x h.1, h.2⟩, fun x h => ⟨c x h.1, h.2⟩, fun x h k => d1 x h.1 k.1, fun x h k => d2 x h.1 k.1, fun x h k => d3 x h.1 k.1⟩
theorem OWd.lt {o : Bool} {w : World} {S : Nat → Prop} {gv nv wv : Value} {X : Wd} (h : OWd o w S gv nv wv X) : OWd o w (fun b => S b ∧ b < w.heap.size) gv nv wv X := by
  obtain ⟨Sg, Sn, Sw, h1, h2, h3, a, b, c, d1, d2, d3⟩ := h
  exact ⟨fun x => Sg x ∧ x < w.heap.size, fun x => Sn x ∧ x < w.heap.size, fun x => Sw x ∧ x < w.heap.size, OSl.lt IntEl.lt h1, OSl.lt ONodeEl.lt h2, OSl.lt (OMsgRowsEl.lt o) h3,
    fun x h => ⟨a x h.1, h.2⟩, fun x h => ⟨b x h.1, h.2⟩, fun x h => ⟨c x h.1, h.2⟩, fun x h k => d1 x h.1 k.1, fun x h k => d2 x h.1 k.1, fun x h k => d3 x h.1 k.1⟩
end Go.Proofs.Ytnalakhelicjcaa
