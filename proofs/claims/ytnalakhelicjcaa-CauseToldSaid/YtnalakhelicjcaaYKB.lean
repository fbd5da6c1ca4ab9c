/-
  Worlds, the document's answer: how far a node is; what is ready.
  Worlds, the document's answer: what is ready.
  Worlds, the document's answer: a node is told what is ready.
  Worlds, the document's answer: a node holds a message.
  Right worlds, in plain words; casting, in plain words.
-/
import Derived.Test.YtnalakhelicjcaaYKW
import Derived.Test.YtnalakhelicjcaaYKO
import Derived.Deep.CutRange
import Derived.Deep.RegionHeld3
set_option maxRecDepth 100000
namespace Go.Proofs.Ytnalakhelicjcaa
open Go.RowKit Go.Shelf Go.BigFrame

def boundS (X : Wd) (n g k : Nat) (a : Int) : Int := if (k != n && hasB X.groups g n && hasB X.groups g k) = true then min a (((X.nodes.getD n N.zero).last.getD g []).getD k 0) else a
def boundG (X : Wd) (n g : Nat) (m : Nat) (a : Int) : Int := (List.range m).foldl (fun a k => boundS X n g k a) a
def boundM (X : Wd) (n : Nat) (m : Nat) : Int := (List.range m).foldl (fun a g => boundG X n g X.nodes.length a) (X.nodes.getD n N.zero).clock
def boundX (X : Wd) (n : Nat) : Int := boundM X n X.groups.length
theorem boundG_succ (X : Wd) (n g m : Nat) (a : Int) : boundG X n g (m + 1) a = boundS X n g m (boundG X n g m a) := by simp [boundG, List.range_succ]
theorem boundM_succ (X : Wd) (n m : Nat) : boundM X n (m + 1) = boundG X n m X.nodes.length (boundM X n m) := by simp [boundM, List.range_succ]
theorem boundS_eq (X : Wd) (n g k : Nat) (a s : Int) (h : ((X.nodes.getD n N.zero).last.getD g []).getD k 0 = s) :
    (k = n ∧ boundS X n g k a = a) ∨ (k ≠ n ∧ hasB X.groups g n = false ∧ boundS X n g k a = a) ∨ (k ≠ n ∧ hasB X.groups g n = true ∧ hasB X.groups g k = false ∧ boundS X n g k a = a) ∨
    (k ≠ n ∧ hasB X.groups g n = true ∧ hasB X.groups g k = true ∧ boundS X n g k a = min a s) := by
  subst h
  unfold boundS
  by_cases e : k = n
  · exact Or.inl ⟨e, if_neg (by simp [e])⟩
  · cases h1 : hasB X.groups g n
    · exact Or.inr (Or.inl ⟨e, rfl, if_neg (by simp)⟩)
    · cases h2 : hasB X.groups g k
      · exact Or.inr (Or.inr (Or.inl ⟨e, rfl, rfl, if_neg (by simp)⟩))
      · exact Or.inr (Or.inr (Or.inr ⟨e, rfl, rfl, if_pos (by simp [e])⟩))
/-- What a node has heard is a table, as it must be. -/
def TabN (X : Wd) (n : Nat) : Prop := (X.nodes.getD n N.zero).last.length = X.groups.length ∧ ∀ r ∈ (X.nodes.getD n N.zero).last, r.length = X.nodes.length

end Go.Proofs.Ytnalakhelicjcaa

set_option maxRecDepth 100000
namespace Go.Proofs.Ytnalakhelicjcaa
open Go.RowKit Go.Shelf Go.BigFrame

def readyL (ms : List M) (far : Int) : List M := ms.filter fun m => decide (m.stamp ≤ far)
def readyX (X : Wd) (n : Nat) : List M := readyL (X.nodes.getD n N.zero).held (boundX X n)
end Go.Proofs.Ytnalakhelicjcaa

set_option maxRecDepth 100000
namespace Go.Proofs.Ytnalakhelicjcaa
open Go.RowKit Go.Shelf Go.BigFrame

/-- All but the blocks of S is as it was. -/
structure Within (S : Nat → Prop) (w w' : World) : Prop where
  os : w'.os = w.os
  tape : w'.tape = w.tape
  output : w'.output = w.output
  size : w.heap.size ≤ w'.heap.size
  lies : ∀ c, c < w.heap.size → ¬ S c → w'.heap[c]? = w.heap[c]?
theorem Within.below {S : Nat → Prop} {w w' : World} (h : Within S w w') {B : Nat} (hB : B ≤ w.heap.size) (hS : ∀ c, S c → B ≤ c) : Below B w w' :=
  ⟨h.os, h.tape, h.output, h.size, fun k hk => h.lies k (by omega) (fun hs => by have := hS k hs; omega)⟩
theorem Within.of_below {S : Nat → Prop} {w w' : World} (h : Below w.heap.size w w') : Within S w w' := ⟨h.os, h.tape, h.output, h.size, fun c hc _ => h.block c hc⟩
theorem Within.trans {S T : Nat → Prop} {a b c : World} (h : Within S a b) (k : Within T b c) (hT : ∀ x, T x → S x ∨ a.heap.size ≤ x) : Within S a c :=
  ⟨k.os.trans h.os, k.tape.trans h.tape, k.output.trans h.output, Nat.le_trans h.size k.size, fun x hx hs => (k.lies x (Nat.lt_of_lt_of_le hx h.size) (fun ht => (hT x ht).elim hs (fun hle => by omega))).trans (h.lies x hx hs)⟩
theorem Within.setCell {S : Nat → Prop} {w w' : World} (h : Within S w w') {a : Addr} (ha : S a.block) (v : Value) : Within S w (w'.setCell a v) :=
  ⟨h.os, h.tape, h.output, by rw [Go.Deep.nblk_setCell]; exact h.size, fun c hc hs => (Go.Deep.blk_setCell_other _ _ _ _ (fun e => hs (by rw [e]; exact ha))).trans (h.lies c hc hs)⟩

def tellL (X : Wd) (n : Nat) : List M := (X.nodes.getD n N.zero).told ++ readyX X n
def tellE (X : Wd) (n : Nat) : Int := if 40 < (tellL X n).length then 2 else if risesB (tellL X n) = true then 0 else 1
def tellW (X : Wd) (n : Nat) : Wd := { X with nodes := X.nodes.set n { X.nodes.getD n N.zero with told := tellL X n, held := (X.nodes.getD n N.zero).held.drop (readyX X n).length } }
/-- What comes of telling: how many, which error; the world is then X', if there is none. -/
def ActPost (o : Bool) (w : World) (S : Nat → Prop) (gv nv wv : Value) (X : Wd) (r : Value) (X' : Wd) (ok : Prop) (e : Ending) (w' : World) : Prop :=
  e = .returned r ∧ Within S w w' ∧ (ok → ∃ S', OWd o w' S' gv nv wv X' ∧ ∀ c, S' c → (S c ∨ w.heap.size ≤ c) ∧ c < w'.heap.size) ∧ (¬ ok → OWd o w' S gv nv wv X)

theorem row_slice {w : World} {a : Addr} {cap : Nat} {ms : List M} (h : Msgs w (.slice (some a) ms.length cap) ms) (hs : a.spot = none) {k : Nat} (hk : k < ms.length) : Row w (.slice (some ⟨a.block, a.off + k * 5, none⟩) (ms.length - k) (cap - k)) (ms.length - k) 5 ((ms.drop k).flatMap M.cells) := by
  obtain ⟨h1, h2, a', cap', e, h3, h4⟩ := h.2
  cases e
  obtain ⟨b, off, e2, hc⟩ := h4 (by omega)
  cases e2
  refine ⟨by rw [flat_len, List.length_drop], by rw [flat_len, List.length_drop]; rw [flat_len] at h2; omega, _, _, rfl, by omega, fun _ => ⟨_, _, rfl, fun j hj => ?_⟩⟩
  rw [flat_len, List.length_drop] at hj
  have := hc (k * 5 + j) (by rw [flat_len]; omega)
  rw [show off + k * 5 + j = off + (k * 5 + j) by omega, this, ← flat_drop, List.getD_eq_getElem?_getD, List.getD_eq_getElem?_getD, List.getElem?_drop]
theorem row_none (w : World) (a : Option Addr) (cap : Nat) : Row w (.slice a 0 cap) 0 5 [] := ⟨rfl, by simp, a, cap, rfl, Nat.zero_le _, fun h => absurd rfl h⟩

end Go.Proofs.Ytnalakhelicjcaa

set_option maxRecDepth 100000
namespace Go.Proofs.Ytnalakhelicjcaa
open Go.RowKit Go.Shelf Go.BigFrame

def holdW (X : Wd) (n : Nat) (m : M) : Wd := { X with nodes := X.nodes.set n { X.nodes.getD n N.zero with held := putL (X.nodes.getD n N.zero).held m } }

end Go.Proofs.Ytnalakhelicjcaa

set_option maxRecDepth 100000
namespace Go.Proofs.Ytnalakhelicjcaa
open Go.RowKit Go.Shelf Go.BigFrame

/-- What the walks need of a right world. -/
structure Fit (X : Wd) : Prop where
  nodes : X.nodes.length ≤ 4
  groups : X.groups.length ≤ 3
  wires : X.wires.length = X.nodes.length
  rows : ∀ r ∈ X.wires, r.length = X.nodes.length
  tabs : ∀ x ∈ X.nodes, x.last.length = X.groups.length ∧ ∀ r ∈ x.last, r.length = X.nodes.length
  lists : ∀ x ∈ X.nodes, x.held.length ≤ 40 ∧ x.told.length ≤ 40
  wl : ∀ r ∈ X.wires, ∀ l ∈ r, l.length ≤ 40
  clocks : ∀ x ∈ X.nodes, 0 ≤ x.clock ∧ x.clock ≤ 1048576
theorem Fit.small {X : Wd} (h : Fit X) : Small X :=
  ⟨by have := h.groups; omega, by have := h.nodes; omega, by have := h.nodes; have := h.wires; omega,
    fun x hx => ⟨by have := (h.tabs x hx).1; have := h.groups; omega, fun r hr => by have := (h.tabs x hx).2 r hr; have := h.nodes; omega, by have := h.lists x hx; omega, by have := h.lists x hx; omega⟩,
    fun r hr => ⟨by have := h.rows r hr; have := h.nodes; omega, fun l hl => by have := h.wl r hr l hl; omega⟩⟩
theorem getD_mem {α : Type} (l : List α) (d : α) {i : Nat} (h : i < l.length) : l.getD i d ∈ l := by rw [getD_lt l d h]; exact List.getElem_mem _
theorem Fit.tab {X : Wd} (h : Fit X) {n : Nat} (hn : n < X.nodes.length) : TabN X n := h.tabs _ (getD_mem _ _ hn)
theorem Fit.row {X : Wd} (h : Fit X) {n : Nat} (hn : n < X.nodes.length) : (X.wires.getD n []).length = X.nodes.length := h.rows _ (getD_mem _ _ (by rw [h.wires]; exact hn))
theorem Fit.wire {X : Wd} (h : Fit X) {n k : Nat} (hn : n < X.nodes.length) (hk : k < X.nodes.length) : ((X.wires.getD n []).getD k []).length ≤ 40 :=
  h.wl _ (getD_mem _ _ (by rw [h.wires]; exact hn)) _ (getD_mem _ _ (by rw [h.row hn]; exact hk))

theorem errX_fit {X : Wd} (h : errX X = 0) : Fit X := by
  have hg : gErr X.nodes.length X.groups = 0 := by
    rcases Classical.em (gErr X.nodes.length X.groups = 0) with e | e
    · exact e
    · rw [errX_g e] at h; exact absurd h e
  have hm : manyX X = false := by
    cases hm : manyX X
    · rfl
    · rw [errX_2 hg hm] at h; cases h
  have hf : fineX X = true := by
    cases hf : fineX X
    · rw [errX_1 hg hm hf] at h; cases h
    · rfl
  simp only [fineX, Bool.and_eq_true, decide_eq_true_eq, range_all_iff] at hf
  obtain ⟨⟨hw, hr⟩, hww⟩ := hf
  simp only [manyX, Bool.or_eq_false_iff] at hm
  obtain ⟨hm1, hm2⟩ := hm
  have hgg : X.nodes.length ≤ 4 ∧ X.groups.length ≤ 3 := by
    unfold gErr at hg
    unfold inB at hg
    constructor <;> (split at hg <;> first | (split at hg <;> first | (simp at *; omega) | cases hg) | cases hg)
  have hnode : ∀ n, n < X.nodes.length → nodeFineB X n = true ∧ (X.wires.getD n []).length = X.nodes.length := fun n hn => by
    have := hr n hn
    simp only [fineR, Bool.and_eq_true, decide_eq_true_eq] at this
    exact ⟨this.2, this.1⟩
  have hmn : ∀ n, n < X.nodes.length → manyN (X.nodes.getD n N.zero) = false := fun n hn => by
    cases h0 : manyN (X.nodes.getD n N.zero)
    · rfl
    · rw [range_any_t (p := fun n => manyN (X.nodes.getD n N.zero)) hn h0] at hm1; cases hm1
  have hmr : ∀ n, n < X.wires.length → manyR (X.wires.getD n []) = false := fun n hn => by
    cases h0 : manyR (X.wires.getD n [])
    · rfl
    · rw [range_any_t (p := fun n => manyR (X.wires.getD n [])) hn h0] at hm2; cases hm2
  have ix : ∀ {α : Type} {l : List α} (d : α) {x : α}, x ∈ l → ∃ i, i < l.length ∧ l.getD i d = x := fun {α l} d x hx => by
    obtain ⟨i, hi, rfl⟩ := List.mem_iff_getElem.1 hx
    exact ⟨i, hi, getD_lt l d hi⟩
  refine ⟨hgg.1, hgg.2, hw, fun r hr' => ?_, fun x hx => ?_, fun x hx => ?_, fun r hr' l hl => ?_, fun x hx => ?_⟩
  · obtain ⟨i, hi, rfl⟩ := ix [] hr'
    exact (hnode i (by omega)).2
  · obtain ⟨i, hi, rfl⟩ := ix N.zero hx
    have := (hnode i hi).1
    simp only [nodeFineB, nodeOkB, lastFineB, Bool.and_eq_true, decide_eq_true_eq, range_all_iff] at this
    obtain ⟨⟨_, hl, hr2⟩, _⟩ := this
    refine ⟨hl, fun r hr' => ?_⟩
    obtain ⟨j, hj, rfl⟩ := ix [] hr'
    have := hr2 j hj
    simp only [rowFineB, Bool.and_eq_true, decide_eq_true_eq] at this
    exact this.1
  · obtain ⟨i, hi, rfl⟩ := ix N.zero hx
    have := hmn i hi
    simp only [manyN, Bool.or_eq_false_iff, decide_eq_false_iff_not] at this
    omega
  · obtain ⟨i, hi, rfl⟩ := ix [] hr'
    obtain ⟨j, hj, rfl⟩ := ix [] hl
    have := hmr i hi
    rcases Nat.lt_or_ge 40 ((X.wires.getD i []).getD j []).length with h4 | h4
    · rw [manyR, range_any_t (p := fun b => decide (40 < ((X.wires.getD i []).getD b []).length)) hj (decide_eq_true h4)] at this; cases this
    · exact h4
  · obtain ⟨i, hi, rfl⟩ := ix N.zero hx
    have := (hnode i hi).1
    simp only [nodeFineB, nodeOkB, inB, Bool.and_eq_true, decide_eq_true_eq] at this
    exact this.1.1

def wireL (X : Wd) (n k : Nat) : List M := (X.wires.getD n []).getD k []
def wirePut (X : Wd) (n k : Nat) (l : List M) : Wd := { X with wires := X.wires.set n ((X.wires.getD n []).set k l) }
def castStep (X : Wd) (n : Nat) (g : Int) (k : Nat) (m : M) : Int × Wd :=
  if (k == n || !hasB X.groups g k) = true then (0, X)
  else if (wireL X n k).length = 40 then (2, X)
  else if 0 < (wireL X n k).length ∧ m.stamp ≤ ((wireL X n k).getD ((wireL X n k).length - 1) M.zero).stamp then (1, X)
  else (0, wirePut X n k (wireL X n k ++ [m]))
def castW (X : Wd) (n : Nat) (g : Int) (m : M) : Nat → Int × Wd
  | 0 => (0, X)
  | k + 1 => if (castW X n g m k).1 = 0 then castStep (castW X n g m k).2 n g k m else castW X n g m k
def clockUp (X : Wd) (n : Nat) : Wd := { X with nodes := X.nodes.set n { X.nodes.getD n N.zero with clock := (X.nodes.getD n N.zero).clock + 1 } }
/-- F1: what comes behind the wires. -/
def castEnd (X : Wd) (n : Nat) (m : M) : Int × Wd :=
  let e := if m.null = true then 0 else putE (X.nodes.getD n N.zero).held m
  let Y := if m.null = true then X else holdW X n m
  if e ≠ 0 then (e, Wd.none) else if tellE Y n ≠ 0 then (tellE Y n, Wd.none) else (0, tellW Y n)
def castR (X : Wd) (n : Int) (g : Int) (null : Bool) (body : ByteArray) : Int × Wd :=
  if (inB n 0 (X.nodes.length - 1) && inB g 0 (X.groups.length - 1)) = true then
    if hasB X.groups g n = true then
      if 8 < (body.size : Int) then (1, Wd.none)
      else if (X.nodes.getD n.toNat N.zero).clock = 1048576 then (3, Wd.none)
      else
        let m : M := ⟨n, g, (X.nodes.getD n.toNat N.zero).clock + 1, null, body⟩
        let r := castW (clockUp X n.toNat) n.toNat g m X.nodes.length
        if r.1 = 0 then castEnd r.2 n.toNat m else (r.1, Wd.none)
    else (5, Wd.none)
  else (4, Wd.none)
theorem mem_set {α : Type} {l : List α} {i : Nat} {x y : α} (h : y ∈ l.set i x) : y ∈ l ∨ y = x := List.mem_or_eq_of_mem_set h
theorem wirePut_fit {X : Wd} (h : Fit X) {n k : Nat} (hn : n < X.nodes.length) {l : List M} (hl : l.length ≤ 40) : Fit (wirePut X n k l) := by
  have hrow := h.row hn
  have hmr := getD_mem X.wires [] (i := n) (by rw [h.wires]; exact hn)
  refine ⟨h.nodes, h.groups, by simpa [wirePut] using h.wires, fun r hr => ?_, h.tabs, h.lists, fun r hr q hq => ?_, h.clocks⟩
  · rcases mem_set hr with h' | rfl
    · exact h.rows r h'
    · rw [List.length_set]; exact hrow
  · rcases mem_set hr with h' | rfl
    · exact h.wl r h' q hq
    · rcases mem_set hq with h' | rfl
      · exact h.wl _ hmr q h'
      · exact hl
theorem castStep_fit {X : Wd} (h : Fit X) {n k : Nat} {g : Int} {m : M} (hn : n < X.nodes.length) (hk : k < X.nodes.length) : Fit (castStep X n g k m).2 ∧ (castStep X n g k m).2.nodes = X.nodes ∧ (castStep X n g k m).2.groups = X.groups := by
  unfold castStep
  split
  · exact ⟨h, rfl, rfl⟩
  · split
    · exact ⟨h, rfl, rfl⟩
    · split
      · exact ⟨h, rfl, rfl⟩
      · refine ⟨wirePut_fit h hn ?_, rfl, rfl⟩
        have h0 : (wireL X n k).length ≤ 40 := h.wire hn hk
        have h1 : ¬ (wireL X n k).length = 40 := by assumption
        rw [List.length_append]
        show (wireL X n k).length + 1 ≤ 40
        omega
theorem clockUp_fit {X : Wd} (h : Fit X) {n : Nat} (hn : n < X.nodes.length) (hc : (X.nodes.getD n N.zero).clock ≠ 1048576) : Fit (clockUp X n) := by
  have hm := getD_mem X.nodes N.zero hn
  have hl : (clockUp X n).nodes.length = X.nodes.length := by simp [clockUp]
  refine ⟨by rw [hl]; exact h.nodes, h.groups, by rw [hl]; exact h.wires, fun r hr => by rw [hl]; exact h.rows r hr, fun x hx => ?_, fun x hx => ?_, h.wl, fun x hx => ?_⟩
  · rcases mem_set hx with h' | rfl
    · rw [hl]; exact h.tabs x h'
    · rw [hl]; exact (h.tabs (X.nodes.getD n N.zero) hm :)
  · rcases mem_set hx with h' | rfl
    · exact h.lists x h'
    · exact (h.lists (X.nodes.getD n N.zero) hm :)
  · rcases mem_set hx with h' | rfl
    · exact h.clocks x h'
    · have := h.clocks (X.nodes.getD n N.zero) hm
      show 0 ≤ (X.nodes.getD n N.zero).clock + 1 ∧ (X.nodes.getD n N.zero).clock + 1 ≤ 1048576
      omega
theorem castW_fit {X : Wd} (h : Fit X) {n : Nat} {g : Int} {m : M} (hn : n < X.nodes.length) : ∀ {k : Nat}, k ≤ X.nodes.length → Fit (castW X n g m k).2 ∧ (castW X n g m k).2.nodes = X.nodes ∧ (castW X n g m k).2.groups = X.groups
  | 0, _ => ⟨h, rfl, rfl⟩
  | k + 1, hk => by
    obtain ⟨h1, h2, h3⟩ := castW_fit h hn (g := g) (m := m) (k := k) (by omega)
    unfold castW
    split
    · obtain ⟨h4, h5, h6⟩ := castStep_fit h1 (g := g) (m := m) (n := n) (k := k) (by rw [h2]; exact hn) (by rw [h2]; exact hk)
      exact ⟨h4, h5.trans h2, h6.trans h3⟩
    · exact ⟨h1, h2, h3⟩
end Go.Proofs.Ytnalakhelicjcaa
