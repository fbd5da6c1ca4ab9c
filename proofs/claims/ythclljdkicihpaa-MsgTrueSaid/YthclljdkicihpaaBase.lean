/-
  Words for what lies in memory: a slice that reads as a list of cells, of integers; nothing of a program.
-/
import Derived.WalkKit
import Derived.Handy
import Derived.Lib.Hide
import Derived.KernelRfl
import Derived.BigQuiet
import Derived.WalkLawsBesides
namespace Go.Proofs.Ythclljdkicihpaa
open Go.RowKit

/-- An int of 64 bits. -/
def I64 (n : Int) : Prop := -9223372036854775808 ≤ n ∧ n ≤ 9223372036854775807

/-- The slice v holds n elements of s cells each: these cells. -/
def Row (w : World) (v : Value) (n s : Nat) (cs : List Value) : Prop :=
  cs.length = n * s ∧ cs.length * 8 ≤ 140737488351232 ∧ ∃ a cap, v = .slice a n cap ∧ n ≤ cap ∧
    (n ≠ 0 → ∃ b off, a = some ⟨b, off, none⟩ ∧ ∀ k, k < cs.length → w.cell? ⟨b, off + k, none⟩ = some (cs.getD k undef))

theorem cell_lt {w : World} {a : Addr} {v : Value} (h : w.cell? a = some v) : a.block < w.heap.size := World.block_lt_of_cell? w a h

theorem Row.below {w w' : World} {v : Value} {n s : Nat} {cs : List Value} (h : Row w v n s cs) (hb : Below w.heap.size w w') : Row w' v n s cs := by
  obtain ⟨h1, h2, a, cap, h3, h4, h5⟩ := h
  refine ⟨h1, h2, a, cap, h3, h4, fun hn => ?_⟩
  obtain ⟨b, off, ha, hc⟩ := h5 hn
  exact ⟨b, off, ha, fun k hk => (hb.cell (p := ⟨b, off + k, none⟩) (cell_lt (hc k hk))).trans (hc k hk)⟩

theorem below_trans {a b c : World} (h : Below a.heap.size a b) (k : Below b.heap.size b c) : Below a.heap.size a c := h.trans (k.mono h.size)

theorem below_drewN (w : World) (n : Nat) : Below w.heap.size w (w.drewN n) := ⟨rfl, rfl, rfl, Nat.le_refl _, fun _ _ => rfl⟩

/-- A slice of ints. -/
def Ints (w : World) (v : Value) (xs : List Int) : Prop := (∀ x ∈ xs, I64 x) ∧ Row w v xs.length 1 (xs.map (Value.int .i64))

theorem Ints.below {w w' : World} {v : Value} {xs : List Int} (h : Ints w v xs) (hb : Below w.heap.size w w') : Ints w' v xs := ⟨h.1, h.2.below hb⟩

/-- Open: the slice's shape; its cells, if there are any. -/
theorem Ints.open {w : World} {v : Value} {xs : List Int} (h : Ints w v xs) :
    xs.length * 8 ≤ 140737488351232 ∧ ∃ a cap, v = .slice a xs.length cap ∧ xs.length ≤ cap ∧
      (xs ≠ [] → ∃ b off, a = some ⟨b, off, none⟩ ∧ ∀ k, k < xs.length → w.cell? ⟨b, off + k, none⟩ = some (.int .i64 (xs.getD k 0))) := by
  obtain ⟨_, h1, h2, a, cap, h3, h4, h5⟩ := h
  refine ⟨by simpa using h2, a, cap, h3, h4, fun hn => ?_⟩
  obtain ⟨b, off, ha, hc⟩ := h5 (by simpa using hn)
  refine ⟨b, off, ha, fun k hk => ?_⟩
  have := hc k (by simpa using hk)
  simpa [hk] using this

theorem ret_bool {a b : Bool} (h : a = b) : Ending.returned (.bool a) = .returned (.bool b) := by rw [h]
theorem ret_int {k : IntKind} {a b : Int} (h : a = b) : Ending.returned (.int k a) = .returned (.int k b) := by rw [h]
theorem ret_val {a b : Value} (h : a = b) : Ending.returned a = .returned b := by rw [h]
/-- What a function that only reads comes to: this value, some draws. -/
def Drew (w w' : World) : Prop := ∃ m, w' = w.drewN m
theorem Drew.refl (w : World) : Drew w w := ⟨0, rfl⟩
theorem Drew.drewN {w w' : World} (h : Drew w w') (n : Nat) : Drew w (w'.drewN n) := by
  obtain ⟨m, rfl⟩ := h
  exact ⟨m + n, by rw [World.drewN_drewN]⟩
theorem Drew.trans {a b c : World} (h : Drew a b) (k : Drew b c) : Drew a c := by
  obtain ⟨n, rfl⟩ := k
  exact h.drewN n
theorem Drew.below {w w' : World} (h : Drew w w') : Below w.heap.size w w' := by
  obtain ⟨m, rfl⟩ := h
  exact below_drewN w m
theorem Drew.cell {w w' : World} (h : Drew w w') (a : Addr) : w'.cell? a = w.cell? a := by
  obtain ⟨m, rfl⟩ := h
  rfl
def Gives (v : Value) (w : World) (e : Ending) (w' : World) : Prop := e = .returned v ∧ Drew w w'
theorem gives_drew {v u : Value} {w w' : World} (hd : Drew w w') (h : u = v) : Gives v w (.returned u) w' := ⟨by rw [h], hd⟩
/-- A contract that leaves the world alone, inside a region that draws its order. -/
theorem quiet_w {P : Program} {f : FuncId} {args : Array Value} {w : World} {n : Nat} {v : Value}
    (h : Calls P f args (w.drewN n) fun e w' => e = .returned v ∧ w.drewN n = w') : Calls P f args (w.drewN n) fun e w'' => e = .returned v ∧ ∃ m, w'' = w.drewN m :=
  h.mono fun _ _ ⟨he, hm⟩ => ⟨he, n, hm.symm⟩
theorem quiet_g {P : Program} {f : FuncId} {args : Array Value} {w : World} {n : Nat} {v : Value}
    (h : Calls P f args (w.drewN n) (Gives v (w.drewN n))) : Calls P f args (w.drewN n) fun e w'' => e = .returned v ∧ ∃ m, w'' = w.drewN m :=
  h.mono fun _ _ ⟨he, m, hm⟩ => ⟨he, n + m, by rw [hm, World.drewN_drewN]⟩
theorem Row.drewN {w : World} {v : Value} {n s : Nat} {cs : List Value} (h : Row w v n s cs) (m : Nat) : Row (w.drewN m) v n s cs := h.below (below_drewN w m)
theorem Ints.drewN {w : World} {v : Value} {xs : List Int} (h : Ints w v xs) (m : Nat) : Ints (w.drewN m) v xs := h.below (below_drewN w m)
theorem Drew.belowTo {B : Nat} {a w w' : World} (d : Drew w w') (h : Below B a w) : Below B a w' := by
  obtain ⟨m, rfl⟩ := d
  exact h.trans ⟨rfl, rfl, rfl, Nat.le_refl _, fun _ _ => rfl⟩
/-- What a function that makes memory comes to: this value; nothing that lay has turned. -/
def GivesB (v : Value) (w : World) (e : Ending) (w' : World) : Prop := e = .returned v ∧ Below w.heap.size w w'
theorem givesB_bool {a b : Bool} {w w' : World} (hd : Below w.heap.size w w') (h : a = b) : GivesB (.bool b) w (.returned (.bool a)) w' := ⟨by rw [h], hd⟩
theorem givesB_int {k : IntKind} {a b : Int} {w w' : World} (hd : Below w.heap.size w w') (h : a = b) : GivesB (.int k b) w (.returned (.int k a)) w' := ⟨by rw [h], hd⟩
theorem gives_bool {a b : Bool} {w w' : World} (hd : Drew w w') (h : a = b) : Gives (.bool b) w (.returned (.bool a)) w' := ⟨by rw [h], hd⟩
theorem gives_int {k : IntKind} {a b : Int} {w w' : World} (hd : Drew w w') (h : a = b) : Gives (.int k b) w (.returned (.int k a)) w' := ⟨by rw [h], hd⟩

/-- The blocks of S are as they were. -/
structure Keep (S : Nat → Prop) (w w' : World) : Prop where
  os : w'.os = w.os
  tape : w'.tape = w.tape
  output : w'.output = w.output
  size : w.heap.size ≤ w'.heap.size
  block : ∀ k, S k → w'.heap[k]? = w.heap[k]?
theorem Keep.refl (S : Nat → Prop) (w : World) : Keep S w w := ⟨rfl, rfl, rfl, Nat.le_refl _, fun _ _ => rfl⟩
theorem Keep.trans {S : Nat → Prop} {a b c : World} (h : Keep S a b) (k : Keep S b c) : Keep S a c :=
  ⟨k.os.trans h.os, k.tape.trans h.tape, k.output.trans h.output, Nat.le_trans h.size k.size, fun i hi => (k.block i hi).trans (h.block i hi)⟩
theorem Keep.of_below {S : Nat → Prop} {B : Nat} {a b : World} (h : Below B a b) (hS : ∀ k, S k → k < B) : Keep S a b :=
  ⟨h.os, h.tape, h.output, h.size, fun k hk => h.block k (hS k hk)⟩
theorem Keep.cell {S : Nat → Prop} {w w' : World} (h : Keep S w w') {p : Addr} (hp : S p.block) : w'.cell? p = w.cell? p := World.cell?_of_block (w := w) (h.block p.block hp)

theorem Row.keep {S : Nat → Prop} {w w' : World} {v : Value} {n s : Nat} {cs : List Value} (h : Row w v n s cs) (hk : Keep S w w') (hS : n ≠ 0 → ∀ b, v.ownBlock = some b → S b) : Row w' v n s cs := by
  obtain ⟨h1, h2, a, cap, rfl, h4, h5⟩ := h
  refine ⟨h1, h2, a, cap, rfl, h4, fun hn => ?_⟩
  obtain ⟨b, off, rfl, hc⟩ := h5 hn
  exact ⟨b, off, rfl, fun k hk' => (hk.cell (p := ⟨b, off + k, none⟩) (hS hn b rfl)).trans (hc k hk')⟩
theorem Row.blk {w : World} {v : Value} {n s : Nat} {cs : List Value} (h : Row w v n s cs) (hs : 0 < s) (hn : n ≠ 0) : ∀ b, v.ownBlock = some b → b < w.heap.size := by
  obtain ⟨h1, h2, a, cap, rfl, h4, h5⟩ := h
  obtain ⟨b, off, rfl, hc⟩ := h5 hn
  intro b' hb
  cases hb
  exact cell_lt (hc 0 (by rw [h1]; exact Nat.mul_pos (by omega) hs))
theorem Ints.keep {S : Nat → Prop} {w w' : World} {v : Value} {xs : List Int} (h : Ints w v xs) (hk : Keep S w w') (hS : xs ≠ [] → ∀ b, v.ownBlock = some b → S b) : Ints w' v xs :=
  ⟨h.1, h.2.keep hk (fun hn => hS (by intro e; subst e; exact hn rfl))⟩
theorem Ints.blk {w : World} {v : Value} {xs : List Int} (h : Ints w v xs) (hx : xs ≠ []) : ∀ b, v.ownBlock = some b → b < w.heap.size :=
  h.2.blk (by omega) (by simpa using hx)

/-- A slice literal of ints, newly laid. -/
theorem Ints.lit (w : World) (xs : List Int) (e : TypeId) (hx : ∀ x ∈ xs, I64 x) (hl : xs.length * 8 ≤ 140737488351232) :
    Ints (w.alloc (.cells (xs.map (Value.int .i64)).toArray e)) (.slice (some ⟨w.heap.size, 0, none⟩) xs.length xs.length) xs := by
  refine ⟨hx, by simp, by simpa using hl, _, _, rfl, Nat.le_refl _, fun _ => ⟨w.heap.size, 0, rfl, fun k hk => ?_⟩⟩
  have hk' : k < xs.length := by simpa using hk
  rw [Nat.zero_add, cell_of_row _ w.heap.size k _ e (0, 0) (heap_alloc_new w _)]
  simp [hk']
/-- What the call owns reads as a row. -/
theorem Row.of_owns {w : World} {base : Nat} {e : TypeId} {s n : Nat} {v : Value} {cs : List Value} (h : w.ownsRow base e s v n cs) (hl : cs.length * 8 ≤ 140737488351232) : Row w v n s cs := by
  refine ⟨h.1, hl, ?_⟩
  rcases h.2 with ⟨rfl, rfl⟩ | ⟨g, cap, cur, rfl, hb, hg, hn, hm, hs, ht⟩
  · exact ⟨none, 0, rfl, Nat.le_refl _, fun hn => absurd rfl hn⟩
  · refine ⟨_, _, rfl, hn, fun _ => ⟨g, 0, rfl, fun k hk => ?_⟩⟩
    rw [Nat.zero_add, h.cellAt k (by rw [← h.1]; exact hk)]
    simp [hk]
theorem Keep.below {S : Nat → Prop} {B : Nat} {a b : World} (h : Keep S a b) (hS : ∀ k, k < B → S k) : Below B a b := ⟨h.os, h.tape, h.output, h.size, fun k hk => h.block k (hS k hk)⟩

/-- A world in which all that lies in w lies as it does. -/
structure Over (w : World) where
  x : World
  h : Below w.heap.size w x
instance (w : World) : Nonempty (Over w) := ⟨⟨w, Below.refl _ _⟩⟩
theorem Over.cell? {w : World} (o : Over w) {a : Addr} (h : a.block < w.heap.size) : o.x.cell? a = w.cell? a := o.h.cell h
theorem Over.frozen? {w : World} (o : Over w) {a : Addr} (h : a.block < w.heap.size) : o.x.frozen? a = w.frozen? a := o.h.frozen h
attribute [go_sem] Over.cell? Over.frozen?
/-- A region that draws its order, whose operations read, and whose callees make memory of their own: one walk in the text's order. -/
theorem wp_region_over {P : Program} {id : Nat} {Q : Exit → Act → World → Prop} {a : Act} {w : World} {l : List Oper} (hm : P.follows .mixedOrders = true) (hB : Region.lexB .any l.toArray = true)
    (h : wpQuiet P l.toArray (fun w' => ∃ o : Over w, w' = o.x) (fun a' => ∀ w', (∃ o : Over w, w' = o.x) → Q .normal a' w') l a) : (Code.region id l.toArray true).wp P Q a w :=
  wp_region_quiet (C := fun w' => ∃ o : Over w, w' = o.x) hm hB ⟨⟨_, below_drewN w 1⟩, rfl⟩ (by simpa using h)
theorem over_c {P : Program} {f : FuncId} {args : Array Value} {w : World} {o : Over w} {v : Value}
    (h : Calls P f args o.x (GivesB v o.x)) : Calls P f args o.x fun e w'' => e = .returned v ∧ ∃ o' : Over w, w'' = o'.x :=
  h.mono fun _ w'' ⟨he, hb⟩ => ⟨he, ⟨w'', o.h.trans (hb.mono o.h.size)⟩, rfl⟩
theorem Gives.b {v : Value} {w : World} {e : Ending} {w' : World} (h : Gives v w e w') : GivesB v w e w' := ⟨h.1, h.2.below⟩
theorem over_g {P : Program} {f : FuncId} {args : Array Value} {w : World} {o : Over w} {v : Value}
    (h : Calls P f args o.x (Gives v o.x)) : Calls P f args o.x fun e w'' => e = .returned v ∧ ∃ o' : Over w, w'' = o'.x :=
  over_c (h.mono fun _ _ => Gives.b)
theorem over_w {P : Program} {f : FuncId} {args : Array Value} {w : World} {o : Over w} {v : Value}
    (h : Calls P f args o.x fun e w' => e = .returned v ∧ o.x = w') : Calls P f args o.x fun e w'' => e = .returned v ∧ ∃ o' : Over w, w'' = o'.x :=
  h.mono fun _ _ ⟨he, hw⟩ => ⟨he, o, hw.symm⟩
theorem Ints.nil (w : World) : Ints w (.slice none 0 0) [] := ⟨by simp, by simp, by simp, none, 0, rfl, Nat.le_refl _, fun h => absurd rfl h⟩

theorem below_a1 (w : World) (o : Obj) : Below w.heap.size w (w.alloc o) := (Below.refl _ w).alloc (Nat.le_refl _) _
theorem below_a2 (w : World) (o p : Obj) : Below w.heap.size w ((w.alloc o).alloc p) := (below_a1 w o).alloc (by rw [World.size_alloc]; omega) _
theorem below_a3 (w : World) (o p q : Obj) : Below w.heap.size w (((w.alloc o).alloc p).alloc q) := (below_a2 w o p).alloc (by rw [World.size_alloc, World.size_alloc]; omega) _
theorem below_a4 (w : World) (o p q r : Obj) : Below w.heap.size w ((((w.alloc o).alloc p).alloc q).alloc r) := (below_a3 w o p q).alloc (by rw [World.size_alloc, World.size_alloc, World.size_alloc]; omega) _
end Go.Proofs.Ythclljdkicihpaa
