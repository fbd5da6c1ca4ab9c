/-
  Worlds, the document's answer: a message is cast, errors too.
  Worlds, the document's answer: a message comes.
  Worlds, the document's answer: a message comes, errors too.
  Acts, and what is done, in plain words.
  Worlds, the document's answer: an act is done.
  Worlds, the document's answer: acts, one behind the other.
-/
import Derived.Test.YtnalakhelicjcaaYCast
import Derived.Test.YtnalakhelicjcaaYKC
import Derived.StillTailTactics
import Derived.Test.YtnalakhelicjcaaYKE
import Derived.Test.YtnalakhelicjcaaYBeg
set_option maxRecDepth 100000
namespace Go.Proofs.Ytnalakhelicjcaa
open Go.RowKit Go.Shelf Go.BigFrame

def castF (X : Wd) (n g : Int) (null : Bool) (body : ByteArray) : Int × Wd := if errX X = 0 then castR X n g null body else (errX X, Wd.none)

end Go.Proofs.Ytnalakhelicjcaa

set_option maxRecDepth 100000
namespace Go.Proofs.Ytnalakhelicjcaa
open Go.RowKit Go.Shelf Go.BigFrame

/-- What lies beside the world of one's own while a message comes: the box of the world, the box of what comes, the message. -/
def MvSt (w wr : World) (B C : Nat) (S : Nat → Prop) (gv nv wv : Value) (m : M) : Prop :=
  OBox wr B 40 gv nv wv ∧ OBox wr (w.heap.size + 1) 40 (.slice none 0 0) (.slice none 0 0) (.slice none 0 0) ∧ MsgBox wr C m ∧ Below w.heap.size w wr ∧ ∀ c, S c → w.heap.size + 2 ≤ c ∧ c < wr.heap.size ∧ c ≠ B ∧ c ≠ C
theorem MvSt.set {w wr : World} {B C : Nat} {S : Nat → Prop} {gv nv wv : Value} {m : M} (h : MvSt w wr B C S gv nv wv m) {g : Nat} (hg : S g) (a : Nat) (v : Value) : MvSt w (wr.setCell ⟨g, a, none⟩ v) B C S gv nv wv m := by
  obtain ⟨h1, h2, h3, h4, h5⟩ := h
  have hs := h5 g hg
  refine ⟨h1.keep (Go.Deep.blk_setCell_other _ _ _ _ (fun e => hs.2.2.1 e.symm)), h2.keep (Go.Deep.blk_setCell_other _ _ _ _ (by show w.heap.size + 1 ≠ g; omega)), h3.keep (Go.Deep.blk_setCell_other _ _ _ _ (fun e => hs.2.2.2 e.symm)), below_setCell h4 (by show w.heap.size ≤ g; omega) _, fun c hc => ?_⟩
  rw [Go.Deep.nblk_setCell]
  exact h5 c hc
theorem MvSt.drew {w wr : World} {B C : Nat} {S : Nat → Prop} {gv nv wv : Value} {m : M} (h : MvSt w wr B C S gv nv wv m) : MvSt w wr.drew B C S gv nv wv m :=
  ⟨h.1.keep rfl, h.2.1.keep rfl, h.2.2.1.keep rfl, below_drew h.2.2.2.1, h.2.2.2.2⟩
theorem clockSet_getD {X : Wd} {n : Nat} (hn : n < X.nodes.length) (v : Int) : (clockSet X n v).nodes.getD n N.zero = { X.nodes.getD n N.zero with clock := v } := by
  rw [getD_lt _ N.zero (by simpa [clockSet] using hn)]
  simp [clockSet]
theorem comeW_eq {X : Wd} {a b : Nat} {m : M} {l : List M} (hb : b < X.nodes.length) : comeW X a b m l =
    lastSet (clockSet (wireSet X a b l) b (max (X.nodes.getD b N.zero).clock m.stamp)) b m.grp.toNat a (max (((X.nodes.getD b N.zero).last.getD m.grp.toNat []).getD a 0) m.stamp) := by
  unfold lastSet
  rw [clockSet_getD (X := wireSet X a b l) hb]
  simp [comeW, clockSet, wireSet]

end Go.Proofs.Ytnalakhelicjcaa

set_option maxRecDepth 100000
namespace Go.Proofs.Ytnalakhelicjcaa
open Go.RowKit Go.Shelf Go.BigFrame

def moveF (X : Wd) (a b : Int) : Int × Wd := if moveE X a b = 0 then moveR X a.toNat b.toNat else (moveE X a b, Wd.none)
theorem moveE_ok {X : Wd} {a b : Int} (h : moveE X a b = 0) : errX X = 0 ∧ 0 ≤ a ∧ a < X.nodes.length ∧ 0 ≤ b ∧ b < X.nodes.length := by
  unfold moveE at h
  split at h
  · rename_i ha
    have h1 := nodeE_ok ha
    have h2 := nodeE_ok h
    omega
  · rename_i ha
    exact absurd h ha

end Go.Proofs.Ytnalakhelicjcaa

set_option maxRecDepth 100000
namespace Go.Proofs.Ytnalakhelicjcaa
open Go.RowKit Go.Shelf Go.BigFrame

structure Ac where
  kind : Int
  one : Int
  two : Int
  body : ByteArray
def Ac.val (x : Ac) : Value := .agg #[.int .i64 x.kind, .int .i64 x.one, .int .i64 x.two, .string x.body]
def Ac.cells (x : Ac) : List Value := [.int .i64 x.kind, .int .i64 x.one, .int .i64 x.two, .string x.body]
def Ac.fits (x : Ac) : Prop := I64 x.kind ∧ I64 x.one ∧ I64 x.two ∧ x.body.size ≤ 140737488351232
def Ac.zero : Ac := ⟨0, 0, 0, ByteArray.empty⟩
def AcEl (_ : World) (cs : List Value) (x : Ac) : Prop := cs = x.cells ∧ x.fits
def Acts (w : World) (v : Value) (l : List Ac) : Prop := Sl AcEl 4 w v l
theorem AcEl.stays : Stays AcEl := fun _ _ _ _ h _ => h
theorem Acts.below {w w' : World} {v : Value} {l : List Ac} (h : Acts w v l) (hb : Below w.heap.size w w') : Acts w' v l := Sl.below AcEl.stays h hb
theorem Acts.form {w : World} {v : Value} {l : List Ac} (h : Acts w v l) : l.length * 32 ≤ 140737488351232 ∧ ∃ a cap, v = .slice a l.length cap ∧ l.length ≤ cap := by
  obtain ⟨h1, a, cap, h2, h3, _⟩ := Sl.open h
  exact ⟨by omega, a, cap, h2, h3⟩
def AcBox (w : World) (b o : Nat) (x : Ac) : Prop := w.cell? ⟨b, o, none⟩ = some (.int .i64 x.kind) ∧ w.cell? ⟨b, o + 1, none⟩ = some (.int .i64 x.one) ∧ w.cell? ⟨b, o + 2, none⟩ = some (.int .i64 x.two) ∧ w.cell? ⟨b, o + 3, none⟩ = some (.string x.body)
theorem AcBox.below {w w' : World} {b o B : Nat} {x : Ac} (h : AcBox w b o x) (hb : Below B w w') (hB : b < B) : AcBox w' b o x := by
  obtain ⟨h0, h1, h2, h3⟩ := h
  exact ⟨(hb.cell (p := ⟨b, o, none⟩) hB).trans h0, (hb.cell (p := ⟨b, o + 1, none⟩) hB).trans h1, (hb.cell (p := ⟨b, o + 2, none⟩) hB).trans h2, (hb.cell (p := ⟨b, o + 3, none⟩) hB).trans h3⟩
theorem AcBox.new (w : World) (x : Ac) (t : TypeId) : AcBox (w.alloc (.cells #[.int .i64 x.kind, .int .i64 x.one, .int .i64 x.two, .string x.body] t)) w.heap.size 0 x := by
  unfold AcBox
  simp
theorem Acts.at {w : World} {v : Value} {l : List Ac} (h : Acts w v l) {k : Nat} (hk : k < l.length) :
    ∃ b off cap, v = .slice (some ⟨b, off, none⟩) l.length cap ∧ l.length ≤ cap ∧ AcBox w b (off + k * 4) (l.getD k Ac.zero) ∧ (l.getD k Ac.zero).fits := by
  obtain ⟨h1, ad, cap, h2, h3, h4⟩ := Sl.open h
  obtain ⟨b, off, rfl, hc⟩ := h4 (by intro e; subst e; simp at hk)
  obtain ⟨cs, _, ⟨rfl, hf⟩, hj⟩ := hc k hk
  rw [getD_lt l Ac.zero hk]
  exact ⟨b, off, cap, h2, h3, ⟨hj 0 (by omega), hj 1 (by omega), hj 2 (by omega), hj 3 (by omega)⟩, hf⟩

/-- A wire is emptied: an error, how many, the world. -/
def wireN (a b : Nat) : Nat → Wd → Int → Int × Int × Wd
  | 0, X, c => (0, c, X)
  | f + 1, X, c => if (wireL X a b).length = 0 then (0, c, X) else if (moveR X a b).1 = 0 then wireN a b f (moveR X a b).2 (c + 1) else ((moveR X a b).1, 0, Wd.none)
def wireR (X : Wd) (a b : Nat) : Int × Int × Wd := wireN a b (wireL X a b).length X 0
def drainS (a b : Nat) (r : Int × Int × Wd) : Int × Int × Wd :=
  if r.1 = 0 then if (wireR r.2.2 a b).1 = 0 then (0, r.2.1 + (wireR r.2.2 a b).2.1, (wireR r.2.2 a b).2.2) else ((wireR r.2.2 a b).1, 0, Wd.none) else r
def drainR (X : Wd) : Int × Int × Wd := (List.range X.nodes.length).foldl (fun r a => (List.range X.nodes.length).foldl (fun r b => drainS a b r) r) (0, 0, X)
def roundS (n g : Nat) (r : Int × Wd) : Int × Wd := if r.1 = 0 then if hasB r.2.groups g n = true then castR r.2 n g true ByteArray.empty else r else r
def roundC (X : Wd) : Int × Wd := (List.range X.nodes.length).foldl (fun r n => (List.range X.groups.length).foldl (fun r g => roundS n g r) r) (0, X)
def roundR (X : Wd) : Int × Int × Wd := if (roundC X).1 = 0 then drainR (roundC X).2 else ((roundC X).1, 0, Wd.none)
def calmN : Nat → Int × Int × Wd → Int × Int × Wd
  | 0, r => r
  | k + 1, r => if r.1 = 0 then calmN k (roundR r.2.2) else r
def calmR (X : Wd) : Int × Wd := if (calmN 4 (drainR X)).1 = 0 then (0, (calmN 4 (drainR X)).2.2) else ((calmN 4 (drainR X)).1, Wd.none)
def calmF (X : Wd) : Int × Wd := if errX X = 0 then calmR X else (errX X, Wd.none)
/-- J1: an act is done. -/
def doF (X : Wd) (x : Ac) : Int × Wd :=
  if x.kind = 1 then castF X x.one x.two false x.body else if x.kind = 2 then castF X x.one x.two true ByteArray.empty else if x.kind = 3 then moveF X x.one x.two else if x.kind = 4 then calmF X else (6, Wd.none)
def doneS (X : Wd) (x : Ac) : Wd := if (doF X x).1 = 0 then (doF X x).2 else X
def doneF (X : Wd) (l : List Ac) : Wd := l.foldl doneS X
theorem doneF_succ {X : Wd} {l : List Ac} {k : Nat} (hk : k < l.length) : doneF X (l.take (k + 1)) = doneS (doneF X (l.take k)) (l.getD k Ac.zero) := by
  unfold doneF
  rw [getD_lt l Ac.zero hk, List.take_succ_eq_append_getElem hk, List.foldl_append]
  rfl
end Go.Proofs.Ytnalakhelicjcaa

set_option maxRecDepth 100000
namespace Go.Proofs.Ytnalakhelicjcaa
open Go.RowKit Go.Shelf Go.BigFrame

end Go.Proofs.Ytnalakhelicjcaa

set_option maxRecDepth 100000
namespace Go.Proofs.Ytnalakhelicjcaa
open Go.RowKit Go.Shelf Go.BigFrame

/-- While acts are done: the world so far, in box B; the box of what comes. -/
def DoneR (w wr : World) (B : Nat) (Y : Wd) : Prop :=
  ∃ (gv nv wv : Value) (S : Nat → Prop), OWd false wr S gv nv wv Y ∧ OBox wr B 40 gv nv wv ∧ OBox wr w.heap.size 40 (.slice none 0 0) (.slice none 0 0) (.slice none 0 0) ∧ Below w.heap.size w wr ∧ ∀ c, S c → w.heap.size + 1 ≤ c ∧ c < wr.heap.size ∧ c ≠ B
theorem DoneR.trans {w wr w2 : World} {B : Nat} {Y : Wd} (h : DoneR w wr B Y) (hb : Below wr.heap.size wr w2) : DoneR w w2 B Y := by
  obtain ⟨gv, nv, wv, S, h1, h2, h3, h4, h5⟩ := h
  have := h3.lt
  have := hb.size
  exact ⟨gv, nv, wv, S, h1.keep (fun c hc => hb.block c (h5 c hc).2.1), h2.keep (hb.block _ h2.lt), h3.keep (hb.block _ h3.lt), h4.trans (hb.mono (by omega)), fun c hc => by have := h5 c hc; omega⟩
theorem DoneR.next {w wr w2 : World} {B : Nat} {Y Z : Wd} {gv nv wv : Value} {S : Nat → Prop} (h : DoneR w wr B Y) (hB : w.heap.size < B) (hb : Below wr.heap.size wr w2) (hO : OWd false w2 S gv nv wv Z) (hS : ∀ c, S c → wr.heap.size ≤ c ∧ c < w2.heap.size) :
    DoneR w (((w2.setCell ⟨B, 0, none⟩ gv).setCell ⟨B, 1, none⟩ nv).setCell ⟨B, 2, none⟩ wv) B Z := by
  obtain ⟨_, _, _, _, h1, h2, h3, h4, h5⟩ := h
  have hl := h2.lt
  have hl3 := h3.lt
  have hsz := hb.size
  have key : ∀ c : Nat, c ≠ B → (((w2.setCell ⟨B, 0, none⟩ gv).setCell ⟨B, 1, none⟩ nv).setCell ⟨B, 2, none⟩ wv).heap[c]? = w2.heap[c]? := fun c hc => by
    rw [set3_blk (by show c ≠ B; exact hc)]
  refine ⟨gv, nv, wv, S, hO.keep (fun c hc => key c (by have := hS c hc; omega)), (((h2.keep (hb.block _ hl)).set0 gv).set1 nv).set2 wv, (h3.keep (hb.block _ hl3)).keep (key _ (by omega)), ?_, fun c hc => ?_⟩
  · exact set3_below (h4.trans (hb.mono (by omega))) (by omega)
  · rw [set3_size]
    have := hS c hc
    omega

end Go.Proofs.Ytnalakhelicjcaa
