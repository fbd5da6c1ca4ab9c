/-
  The program's sea: what it holds; it is turned, or the error is thrown.
  The program: all wires are drained.
  The program: a round of Nulls.
  The program: what is done to a right world; an error that is thrown is caught.
  The program: drained, a round, calm.
-/
import Derived.Test.YtnalakhelicjcaaVKCa
import Derived.Test.YtnalakhelicjcaaVKV
import Derived.Test.YtnalakhelicjcaaVKR
import Derived.Test.YtnalakhelicjcaaVKL
set_option maxRecDepth 100000
namespace Go.Proofs.Ytnalakhelicjcaa
open Go.RowKit Go.Shelf Go.BigFrame

/-- A box of four: a world, and a number. -/
def SBox (w : World) (b : Nat) (u v x : Value) (c : Int) : Prop :=
  BlkIs w b 123 4 ∧ w.cell? ⟨b, 0, none⟩ = some u ∧ w.cell? ⟨b, 1, none⟩ = some v ∧ w.cell? ⟨b, 2, none⟩ = some x ∧ w.cell? ⟨b, 3, none⟩ = some (.int .i64 c)
theorem SBox.new (w : World) (u v x : Value) (c : Int) : SBox (w.alloc (.cells #[u, v, x, .int .i64 c] 123)) w.heap.size u v x c := by
  refine ⟨⟨_, heap_alloc_new w _, rfl⟩, ?_, ?_, ?_, ?_⟩ <;> simp
theorem SBox.keep {w w' : World} {b : Nat} {u v x : Value} {c : Int} (h : SBox w b u v x c) (k : w'.heap[b]? = w.heap[b]?) : SBox w' b u v x c := by
  obtain ⟨h0, h1, h2, h3, h4⟩ := h
  exact ⟨h0.same k, (World.cell?_of_block (w := w) (a := ⟨b, 0, none⟩) k).trans h1, (World.cell?_of_block (w := w) (a := ⟨b, 1, none⟩) k).trans h2, (World.cell?_of_block (w := w) (a := ⟨b, 2, none⟩) k).trans h3, (World.cell?_of_block (w := w) (a := ⟨b, 3, none⟩) k).trans h4⟩
theorem SBox.lt {w : World} {b : Nat} {u v x : Value} {c : Int} (h : SBox w b u v x c) : b < w.heap.size := h.1.lt
theorem SBox.set0 {w : World} {b : Nat} {u v x : Value} {c : Int} (h : SBox w b u v x c) (u' : Value) : SBox (w.setCell ⟨b, 0, none⟩ u') b u' v x c := by
  obtain ⟨h0, h1, h2, h3, h4⟩ := h
  exact ⟨h0.setCell, h0.cell_set (by omega), (cell_setCell 1 (by omega)).trans h2, (cell_setCell 2 (by omega)).trans h3, (cell_setCell 3 (by omega)).trans h4⟩
theorem SBox.set1 {w : World} {b : Nat} {u v x : Value} {c : Int} (h : SBox w b u v x c) (v' : Value) : SBox (w.setCell ⟨b, 1, none⟩ v') b u v' x c := by
  obtain ⟨h0, h1, h2, h3, h4⟩ := h
  exact ⟨h0.setCell, (cell_setCell 0 (by omega)).trans h1, h0.cell_set (by omega), (cell_setCell 2 (by omega)).trans h3, (cell_setCell 3 (by omega)).trans h4⟩
theorem SBox.set2 {w : World} {b : Nat} {u v x : Value} {c : Int} (h : SBox w b u v x c) (x' : Value) : SBox (w.setCell ⟨b, 2, none⟩ x') b u v x' c := by
  obtain ⟨h0, h1, h2, h3, h4⟩ := h
  exact ⟨h0.setCell, (cell_setCell 0 (by omega)).trans h1, (cell_setCell 1 (by omega)).trans h2, h0.cell_set (by omega), (cell_setCell 3 (by omega)).trans h4⟩
theorem SBox.set3 {w : World} {b : Nat} {u v x : Value} {c : Int} (h : SBox w b u v x c) (c' : Int) : SBox (w.setCell ⟨b, 3, none⟩ (.int .i64 c')) b u v x c' := by
  obtain ⟨h0, h1, h2, h3, h4⟩ := h
  exact ⟨h0.setCell, (cell_setCell 0 (by omega)).trans h1, (cell_setCell 1 (by omega)).trans h2, (cell_setCell 2 (by omega)).trans h3, h0.cell_set (by omega)⟩

/-- The sea at b: the world that was handed in when w was, or (own) one of the call's own. -/
def SeaAt (w wr : World) (b : Nat) (own : Bool) (Y : Wd) (c : Int) : Prop :=
  ∃ gv nv wv, SBox wr b gv nv wv c ∧ Below w.heap.size w wr ∧ w.heap.size ≤ b ∧ ((own = false ∧ Ints w gv Y.groups ∧ Nodes w nv Y.nodes ∧ Wires w wv Y.wires) ∨ ∃ S, OWd false wr S gv nv wv Y ∧ ∀ k, S k → w.heap.size ≤ k ∧ k < wr.heap.size ∧ k ≠ b)
theorem SeaAt.box {w wr : World} {b : Nat} {own : Bool} {Y : Wd} {c : Int} (h : SeaAt w wr b own Y c) :
    ∃ gv nv wv, SBox wr b gv nv wv c ∧ Below w.heap.size w wr ∧ w.heap.size ≤ b ∧ Ints wr gv Y.groups ∧ Nodes wr nv Y.nodes ∧ Wires wr wv Y.wires := by
  obtain ⟨gv, nv, wv, h1, h2, h3, h4⟩ := h
  refine ⟨gv, nv, wv, h1, h2, h3, ?_⟩
  rcases h4 with ⟨_, k1, k2, k3⟩ | ⟨S, k1, _⟩
  · exact ⟨k1.below h2, k2.below h2, k3.below h2⟩
  · exact k1.parts
theorem SeaAt.any {w wr : World} {b : Nat} {own : Bool} {Y : Wd} {c : Int} (h : SeaAt w wr b own Y c) : SeaAt w wr b false Y c := by
  obtain ⟨gv, nv, wv, h1, h2, h3, h4⟩ := h
  exact ⟨gv, nv, wv, h1, h2, h3, h4.imp (fun k => ⟨rfl, k.2⟩) id⟩
theorem SeaAt.trans {w wr w2 : World} {b : Nat} {own : Bool} {Y : Wd} {c : Int} (h : SeaAt w wr b own Y c) (hb : Below wr.heap.size wr w2) : SeaAt w w2 b own Y c := by
  obtain ⟨gv, nv, wv, h1, h2, h3, h4⟩ := h
  refine ⟨gv, nv, wv, h1.keep (hb.block _ h1.lt), below_trans h2 hb, h3, h4.imp id ?_⟩
  rintro ⟨S, k1, k2⟩
  exact ⟨S, k1.keep (fun k hk => hb.block k (k2 k hk).2.1), fun k hk => ⟨(k2 k hk).1, by have := k2 k hk; have := hb.size; omega, (k2 k hk).2.2⟩⟩
theorem SeaAt.came {w wr : World} {b : Nat} {own : Bool} {Y : Wd} {c : Int} (h : SeaAt w wr b own Y c) (c' : Int) : SeaAt w (wr.setCell ⟨b, 3, none⟩ (.int .i64 c')) b own Y c' := by
  obtain ⟨gv, nv, wv, h1, h2, h3, h4⟩ := h
  refine ⟨gv, nv, wv, h1.set3 c', below_setCell h2 h3 _, h3, h4.imp id ?_⟩
  rintro ⟨S, k1, k2⟩
  refine ⟨S, k1.keep (fun k hk => Go.Deep.blk_setCell_other _ _ _ _ (k2 k hk).2.2), fun k hk => ?_⟩
  rw [Go.Deep.nblk_setCell]
  exact k2 k hk
theorem SeaAt.turn {w wr w2 : World} {b : Nat} {own : Bool} {Y Z : Wd} {c : Int} {gv nv wv : Value} {S : Nat → Prop} (h : SeaAt w wr b own Y c) (hb : Below wr.heap.size wr w2) (hO : OWd false w2 S gv nv wv Z) (hS : ∀ k, S k → wr.heap.size ≤ k ∧ k < w2.heap.size) :
    SeaAt w (((w2.setCell ⟨b, 0, none⟩ gv).setCell ⟨b, 1, none⟩ nv).setCell ⟨b, 2, none⟩ wv) b true Z c := by
  obtain ⟨_, _, _, h1, h2, h3, _⟩ := h
  have hl := h1.lt
  have hsz := h2.size
  refine ⟨gv, nv, wv, (((h1.keep (hb.block _ hl)).set0 gv).set1 nv).set2 wv, below_setCell (below_setCell (below_setCell (below_trans h2 hb) h3 _) h3 _) h3 _, h3, .inr ⟨S, hO.keep (fun k hk => ?_), fun k hk => ?_⟩⟩
  · have : k ≠ b := by have := hS k hk; omega
    rw [set3_blk this]
  · rw [set3_size]
    have := hS k hk
    omega

end Go.Proofs.Ytnalakhelicjcaa

set_option maxRecDepth 100000
namespace Go.Proofs.Ytnalakhelicjcaa
open Go.RowKit Go.Shelf Go.BigFrame

/-- What comes of what is done to a sea: it is turned, or the error is thrown. -/
def SeaPost (w : World) (b : Nat) (r : Int × Int × Wd) (e : Ending) (w' : World) : Prop :=
  (r.1 = 0 ∧ e = .returned (.tuple #[]) ∧ SeaAt w w' b true r.2.2 r.2.1) ∨ (r.1 ≠ 0 ∧ e = .panicked [{ v := .iface 120 (.agg #[.int .i64 r.1]), recovered := false }] ∧ Below w.heap.size w w')
theorem SeaPost.ok {w w' : World} {b : Nat} {Y : Wd} {n : Int} (h : SeaAt w w' b true Y n) : SeaPost w b (0, n, Y) (.returned (.tuple #[])) w' := .inl ⟨rfl, rfl, h⟩
theorem SeaPost.bad {w w' : World} {b : Nat} {e n : Int} {Y : Wd} (he : e ≠ 0) (h : Below w.heap.size w w') : SeaPost w b (e, n, Y) (.panicked [{ v := .iface 120 (.agg #[.int .i64 e]), recovered := false }]) w' := .inr ⟨he, rfl, h⟩

end Go.Proofs.Ytnalakhelicjcaa

set_option maxRecDepth 100000
namespace Go.Proofs.Ytnalakhelicjcaa
open Go.RowKit Go.Shelf Go.BigFrame

theorem Ints.set3 {w : World} {v : Value} {xs : List Int} {b : Nat} {x y z : Value} (h : Ints w v xs) (hb : ∀ k, v.ownBlock = some k → k ≠ b) : Ints (((w.setCell ⟨b, 0, none⟩ x).setCell ⟨b, 1, none⟩ y).setCell ⟨b, 2, none⟩ z) v xs := by
  refine h.keep (S := fun k => k ≠ b) ⟨rfl, rfl, rfl, by rw [set3_size]; exact Nat.le_refl _, fun k hk => ?_⟩ (fun _ k hk => hb k hk)
  rw [set3_blk hk]

end Go.Proofs.Ytnalakhelicjcaa

set_option maxRecDepth 100000
namespace Go.Proofs.Ytnalakhelicjcaa
open Go.RowKit Go.Shelf Go.BigFrame

/-- A box of one is as it was. -/
theorem Boxed.keep3 {w w' : World} {b : Nat} {t : TypeId} {v : Value} (h : Boxed w b t v) (hb : w'.heap[b]? = w.heap[b]?) : Boxed w' b t v := hb.trans h
/-- The boxes of the results, behind B: a world, a number, an error. -/
structure ResV (w : World) (B : Nat) (u v x : Value) (n e : Int) : Prop where
  out : OBox w (B + 1) 40 u v x
  n : Boxed w (B + 2) 3 (.int .i64 n)
  e : Boxed w (B + 3) 26 (.int .i64 e)
section
variable {w w' : World} {B k : Nat} {u v x : Value} {n e : Int}
theorem ResV.trans (h : ResV w B u v x n e) (hb : Below k w w') (hk : B + 4 ≤ k) : ResV w' B u v x n e :=
  ⟨h.out.keep (hb.block _ (by omega)), Boxed.keep3 h.n (hb.block _ (by omega)), Boxed.keep3 h.e (hb.block _ (by omega))⟩
theorem ResV.keep (h : ResV w B u v x n e) (hb : ∀ k : Nat, w'.heap[k]? = w.heap[k]?) : ResV w' B u v x n e :=
  ⟨h.out.keep (hb _), Boxed.keep3 h.n (hb _), Boxed.keep3 h.e (hb _)⟩
theorem ResV.drew (h : ResV w B u v x n e) : ResV w.drew B u v x n e := h.keep (fun _ => rfl)
theorem ResV.size (h : ResV w B u v x n e) : B + 4 ≤ w.heap.size := h.e.lt
theorem ResV.put (h : ResV w B u v x n e) (u' v' x' : Value) (n' e' : Int) :
    ResV (((((w.setCell ⟨B + 1, 0, none⟩ u').setCell ⟨B + 1, 1, none⟩ v').setCell ⟨B + 1, 2, none⟩ x').setCell ⟨B + 2, 0, none⟩ (.int .i64 n')).setCell ⟨B + 3, 0, none⟩ (.int .i64 e')) B u' v' x' n' e' := by
  obtain ⟨h1, h2, h3⟩ := h
  refine ⟨(((h1.set0 u').set1 v').set2 x').keep ?_, ?_, ?_⟩
  · rw [Go.Deep.blk_setCell_other _ _ _ _ (by show B + 1 ≠ B + 3; omega), Go.Deep.blk_setCell_other _ _ _ _ (by show B + 1 ≠ B + 2; omega)]
  · refine Boxed.keep3 (Boxed.set (.int .i64 n') (Boxed.keep3 h2 (w' := ((w.setCell ⟨B + 1, 0, none⟩ u').setCell ⟨B + 1, 1, none⟩ v').setCell ⟨B + 1, 2, none⟩ x') ?_)) (Go.Deep.blk_setCell_other _ _ _ _ (by show B + 2 ≠ B + 3; omega))
    rw [set3_blk (by show B + 2 ≠ B + 1; omega)]
  · refine Boxed.set (.int .i64 e') (Boxed.keep3 h3 ?_)
    rw [Go.Deep.blk_setCell_other _ _ _ _ (by show B + 3 ≠ B + 2; omega), Go.Deep.blk_setCell_other _ _ _ _ (by show B + 3 ≠ B + 1; omega), Go.Deep.blk_setCell_other _ _ _ _ (by show B + 3 ≠ B + 1; omega), Go.Deep.blk_setCell_other _ _ _ _ (by show B + 3 ≠ B + 1; omega)]
end

/-- What is left to be done at a function's end hangs on its temporaries by its results alone. -/
theorem Leaves.congr {P : Program} {fn : Func} {t t' : Array Value} {R : Ending → World → Prop} (h : results fn t = results fn t') : ∀ {ds : List Deferred} {u : FrameMode} {w : World}, Leaves P fn t R ds u w → Leaves P fn t' R ds u w
  | [], .returning, w, ⟨v, h1, h2⟩ => ⟨v, by rw [← h]; exact h1, h2⟩
  | [], .panicking _, _, h1 => h1
  | [], .run, _, h1 => h1
  | d :: ds, u, w, ⟨h1, fv, cap, f, args, h2, h3, h4⟩ => ⟨h1, fv, cap, f, args, h2, h3, h4.mono fun e u' w' k => by
      cases e with
      | returned v => exact Leaves.congr h k
      | panicked c => exact Leaves.congr h k
      | outgrown => exact k⟩
end Go.Proofs.Ytnalakhelicjcaa

set_option maxRecDepth 100000
namespace Go.Proofs.Ytnalakhelicjcaa
open Go.RowKit Go.Shelf Go.BigFrame

end Go.Proofs.Ytnalakhelicjcaa
