/-
  Words for what lies in memory: a slice that reads as a list of cells, of integers; nothing of a program.
  Groups in plain words: what the program and the document compute.
  Messages in plain words.
  Worlds in plain words; a slice of anything; how a world reads.
  Memory that a call itself has made: slices of slices, each piece in blocks of its own; what a store leaves.
  A region that draws its order: its first operations read, or call what makes memory of its own; what is left comes in one order. Nothing of a program.
  slices.Clone at the element types that the program uses: a new row of the same cells.
-/
import Derived.WalkKit
import Derived.Handy
import Derived.Lib.Hide
import Derived.KernelRfl
import Derived.BigQuiet
import Derived.WalkLawsBesides
import Derived.Laws.OwnMore
import Derived.Deep.Heap
import Derived.StillTailTactics
import Derived.Test.YtnalakhelicjcaaGreatDoorProg
import Derived.Lib.SliceRun
namespace Go.Proofs.YtnalakhelicjcaaGreatDoor
open Go.RowKit
def I64 (n:Int):Prop:=-9223372036854775808 ≤ n ∧ n ≤ 9223372036854775807
def Row (w:World) (v:Value) (n s:Nat) (cs:List Value):Prop:=
 cs.length = n * s ∧ cs.length * 8 ≤ 140737488351232 ∧ ∃ a cap,v = .slice a n cap ∧ n ≤ cap ∧
  (n ≠ 0 → ∃ b off,a = some ⟨b,off,none⟩ ∧ ∀ k,k < cs.length → w.cell? ⟨b,off + k,none⟩ = some (cs.getD k undef))
theorem cell_lt {w:World} {a:Addr} {v:Value} (h:w.cell? a = some v):a.block < w.heap.size:=World.block_lt_of_cell? w a h
theorem Row.below {w w':World} {v:Value} {n s:Nat} {cs:List Value} (h:Row w v n s cs) (hb:Below w.heap.size w w'):Row w' v n s cs:=by
 obtain ⟨h1,h2,a,cap,h3,h4,h5⟩:=h
 refine ⟨h1,h2,a,cap,h3,h4,fun hn=>?_⟩
 obtain ⟨b,off,ha,hc⟩:=h5 hn
 exact ⟨b,off,ha,fun k hk=>(hb.cell (p:=⟨b,off + k,none⟩) (cell_lt (hc k hk))).trans (hc k hk)⟩
theorem below_trans {a b c:World} (h:Below a.heap.size a b) (k:Below b.heap.size b c):Below a.heap.size a c:=h.trans (k.mono h.size)
theorem below_drewN (w:World) (n:Nat):Below w.heap.size w (w.drewN n):=⟨rfl,rfl,rfl,Nat.le_refl _,fun _ _=>rfl⟩
def Ints (w:World) (v:Value) (xs:List Int):Prop:=(∀ x ∈ xs,I64 x) ∧ Row w v xs.length 1 (xs.map (Value.int .i64))
theorem Ints.below {w w':World} {v:Value} {xs:List Int} (h:Ints w v xs) (hb:Below w.heap.size w w'):Ints w' v xs:=⟨h.1,h.2.below hb⟩
theorem Ints.open {w:World} {v:Value} {xs:List Int} (h:Ints w v xs) :
  xs.length * 8 ≤ 140737488351232 ∧ ∃ a cap,v = .slice a xs.length cap ∧ xs.length ≤ cap ∧
   (xs ≠ [] → ∃ b off,a = some ⟨b,off,none⟩ ∧ ∀ k,k < xs.length → w.cell? ⟨b,off + k,none⟩ = some (.int .i64 (xs.getD k 0))):=by
 obtain ⟨_,h1,h2,a,cap,h3,h4,h5⟩:=h
 refine ⟨by simpa using h2,a,cap,h3,h4,fun hn=>?_⟩
 obtain ⟨b,off,ha,hc⟩:=h5 (by simpa using hn)
 refine ⟨b,off,ha,fun k hk=>?_⟩
 have:=hc k (by simpa using hk)
 simpa [hk] using this
theorem ret_bool {a b:Bool} (h:a = b):Ending.returned (.bool a) = .returned (.bool b):=by rw [h]
theorem ret_int {k:IntKind} {a b:Int} (h:a = b):Ending.returned (.int k a) = .returned (.int k b):=by rw [h]
theorem ret_val {a b:Value} (h:a = b):Ending.returned a = .returned b:=by rw [h]
def Drew (w w':World):Prop:=∃ m,w' = w.drewN m
theorem Drew.refl (w:World):Drew w w:=⟨0,rfl⟩
theorem Drew.drewN {w w':World} (h:Drew w w') (n:Nat):Drew w (w'.drewN n):=by
 obtain ⟨m,rfl⟩:=h
 exact ⟨m + n,by rw [World.drewN_drewN]⟩
theorem Drew.trans {a b c:World} (h:Drew a b) (k:Drew b c):Drew a c:=by
 obtain ⟨n,rfl⟩:=k
 exact h.drewN n
theorem Drew.below {w w':World} (h:Drew w w'):Below w.heap.size w w':=by
 obtain ⟨m,rfl⟩:=h
 exact below_drewN w m
theorem Drew.cell {w w':World} (h:Drew w w') (a:Addr):w'.cell? a = w.cell? a:=by
 obtain ⟨m,rfl⟩:=h
 rfl
def Gives (v:Value) (w:World) (e:Ending) (w':World):Prop:=e = .returned v ∧ Drew w w'
theorem gives_drew {v u:Value} {w w':World} (hd:Drew w w') (h:u = v):Gives v w (.returned u) w':=⟨by rw [h],hd⟩
theorem quiet_w {P:Program} {f:FuncId} {args:Array Value} {w:World} {n:Nat} {v:Value}
  (h:Calls P f args (w.drewN n) fun e w'=>e = .returned v ∧ w.drewN n = w'):Calls P f args (w.drewN n) fun e w''=>e = .returned v ∧ ∃ m,w'' = w.drewN m:=
 h.mono fun _ _ ⟨he,hm⟩=>⟨he,n,hm.symm⟩
theorem Row.drewN {w:World} {v:Value} {n s:Nat} {cs:List Value} (h:Row w v n s cs) (m:Nat):Row (w.drewN m) v n s cs:=h.below (below_drewN w m)
theorem Ints.drewN {w:World} {v:Value} {xs:List Int} (h:Ints w v xs) (m:Nat):Ints (w.drewN m) v xs:=h.below (below_drewN w m)
theorem Drew.belowTo {B:Nat} {a w w':World} (d:Drew w w') (h:Below B a w):Below B a w':=by
 obtain ⟨m,rfl⟩:=d
 exact h.trans ⟨rfl,rfl,rfl,Nat.le_refl _,fun _ _=>rfl⟩
def GivesB (v:Value) (w:World) (e:Ending) (w':World):Prop:=e = .returned v ∧ Below w.heap.size w w'
theorem givesB_bool {a b:Bool} {w w':World} (hd:Below w.heap.size w w') (h:a = b):GivesB (.bool b) w (.returned (.bool a)) w':=⟨by rw [h],hd⟩
theorem givesB_int {k:IntKind} {a b:Int} {w w':World} (hd:Below w.heap.size w w') (h:a = b):GivesB (.int k b) w (.returned (.int k a)) w':=⟨by rw [h],hd⟩
theorem gives_bool {a b:Bool} {w w':World} (hd:Drew w w') (h:a = b):Gives (.bool b) w (.returned (.bool a)) w':=⟨by rw [h],hd⟩
structure Keep (S:Nat → Prop) (w w':World):Prop where
 os:w'.os = w.os
 tape:w'.tape = w.tape
 output:w'.output = w.output
 size:w.heap.size ≤ w'.heap.size
 block:∀ k,S k → w'.heap[k]? = w.heap[k]?
theorem Keep.refl (S:Nat → Prop) (w:World):Keep S w w:=⟨rfl,rfl,rfl,Nat.le_refl _,fun _ _=>rfl⟩
theorem Keep.trans {S:Nat → Prop} {a b c:World} (h:Keep S a b) (k:Keep S b c):Keep S a c:=
 ⟨k.os.trans h.os,k.tape.trans h.tape,k.output.trans h.output,Nat.le_trans h.size k.size,fun i hi=>(k.block i hi).trans (h.block i hi)⟩
theorem Keep.of_below {S:Nat → Prop} {B:Nat} {a b:World} (h:Below B a b) (hS:∀ k,S k → k < B):Keep S a b:=
 ⟨h.os,h.tape,h.output,h.size,fun k hk=>h.block k (hS k hk)⟩
theorem Keep.cell {S:Nat → Prop} {w w':World} (h:Keep S w w') {p:Addr} (hp:S p.block):w'.cell? p = w.cell? p:=World.cell?_of_block (w:=w) (h.block p.block hp)
theorem Row.keep {S:Nat → Prop} {w w':World} {v:Value} {n s:Nat} {cs:List Value} (h:Row w v n s cs) (hk:Keep S w w') (hS:n ≠ 0 → ∀ b,v.ownBlock = some b → S b):Row w' v n s cs:=by
 obtain ⟨h1,h2,a,cap,rfl,h4,h5⟩:=h
 refine ⟨h1,h2,a,cap,rfl,h4,fun hn=>?_⟩
 obtain ⟨b,off,rfl,hc⟩:=h5 hn
 exact ⟨b,off,rfl,fun k hk'=>(hk.cell (p:=⟨b,off + k,none⟩) (hS hn b rfl)).trans (hc k hk')⟩
theorem Row.blk {w:World} {v:Value} {n s:Nat} {cs:List Value} (h:Row w v n s cs) (hs:0 < s) (hn:n ≠ 0):∀ b,v.ownBlock = some b → b < w.heap.size:=by
 obtain ⟨h1,h2,a,cap,rfl,h4,h5⟩:=h
 obtain ⟨b,off,rfl,hc⟩:=h5 hn
 intro b' hb
 cases hb
 exact cell_lt (hc 0 (by rw [h1];exact Nat.mul_pos (by omega) hs))
theorem Ints.keep {S:Nat → Prop} {w w':World} {v:Value} {xs:List Int} (h:Ints w v xs) (hk:Keep S w w') (hS:xs ≠ [] → ∀ b,v.ownBlock = some b → S b):Ints w' v xs:=
 ⟨h.1,h.2.keep hk (fun hn=>hS (by intro e;subst e;exact hn rfl))⟩
theorem Ints.blk {w:World} {v:Value} {xs:List Int} (h:Ints w v xs) (hx:xs ≠ []):∀ b,v.ownBlock = some b → b < w.heap.size:=
 h.2.blk (by omega) (by simpa using hx)
theorem Ints.lit (w:World) (xs:List Int) (e:TypeId) (hx:∀ x ∈ xs,I64 x) (hl:xs.length * 8 ≤ 140737488351232) :
  Ints (w.alloc (.cells (xs.map (Value.int .i64)).toArray e)) (.slice (some ⟨w.heap.size,0,none⟩) xs.length xs.length) xs:=by
 refine ⟨hx,by simp,by simpa using hl,_,_,rfl,Nat.le_refl _,fun _=>⟨w.heap.size,0,rfl,fun k hk=>?_⟩⟩
 have hk':k < xs.length:=by simpa using hk
 rw [Nat.zero_add,cell_of_row _ w.heap.size k _ e (0,0) (heap_alloc_new w _)]
 simp [hk']
theorem Row.of_owns {w:World} {base:Nat} {e:TypeId} {s n:Nat} {v:Value} {cs:List Value} (h:w.ownsRow base e s v n cs) (hl:cs.length * 8 ≤ 140737488351232):Row w v n s cs:=by
 refine ⟨h.1,hl, ?_⟩
 rcases h.2 with ⟨rfl,rfl⟩ | ⟨g,cap,cur,rfl,hb,hg,hn,hm,hs,ht⟩
 ·exact ⟨none,0,rfl,Nat.le_refl _,fun hn=>absurd rfl hn⟩
 ·refine ⟨_,_,rfl,hn,fun _=>⟨g,0,rfl,fun k hk=>?_⟩⟩
  rw [Nat.zero_add,h.cellAt k (by rw [← h.1];exact hk)]
  simp [hk]
theorem Keep.below {S:Nat → Prop} {B:Nat} {a b:World} (h:Keep S a b) (hS:∀ k,k < B → S k):Below B a b:=⟨h.os,h.tape,h.output,h.size,fun k hk=>h.block k (hS k hk)⟩
structure Over (w:World) where
 x:World
 h:Below w.heap.size w x
instance (w:World):Nonempty (Over w):=⟨⟨w,Below.refl _ _⟩⟩
theorem Over.cell? {w:World} (o:Over w) {a:Addr} (h:a.block < w.heap.size):o.x.cell? a = w.cell? a:=o.h.cell h
theorem Over.frozen? {w:World} (o:Over w) {a:Addr} (h:a.block < w.heap.size):o.x.frozen? a = w.frozen? a:=o.h.frozen h
attribute [go_sem] Over.cell? Over.frozen?
theorem wp_region_over {P:Program} {id:Nat} {Q:Exit → Act → World → Prop} {a:Act} {w:World} {l:List Oper} (hm:P.follows .mixedOrders = true) (hB:Region.lexB .any l.toArray = true)
  (h:wpQuiet P l.toArray (fun w'=>∃ o:Over w,w' = o.x) (fun a'=>∀ w',(∃ o:Over w,w' = o.x) → Q .normal a' w') l a):(Code.region id l.toArray true).wp P Q a w:=
 wp_region_quiet (C:=fun w'=>∃ o:Over w,w' = o.x) hm hB ⟨⟨_,below_drewN w 1⟩,rfl⟩ (by simpa using h)
theorem over_c {P:Program} {f:FuncId} {args:Array Value} {w:World} {o:Over w} {v:Value}
  (h:Calls P f args o.x (GivesB v o.x)):Calls P f args o.x fun e w''=>e = .returned v ∧ ∃ o':Over w,w'' = o'.x:=
 h.mono fun _ w'' ⟨he,hb⟩=>⟨he,⟨w'',o.h.trans (hb.mono o.h.size)⟩,rfl⟩
theorem Gives.b {v:Value} {w:World} {e:Ending} {w':World} (h:Gives v w e w'):GivesB v w e w':=⟨h.1,h.2.below⟩
theorem over_w {P:Program} {f:FuncId} {args:Array Value} {w:World} {o:Over w} {v:Value}
  (h:Calls P f args o.x fun e w'=>e = .returned v ∧ o.x = w'):Calls P f args o.x fun e w''=>e = .returned v ∧ ∃ o':Over w,w'' = o'.x:=
 h.mono fun _ _ ⟨he,hw⟩=>⟨he,o,hw.symm⟩
theorem Ints.nil (w:World):Ints w (.slice none 0 0) []:=⟨by simp,by simp,by simp,none,0,rfl,Nat.le_refl _,fun h=>absurd rfl h⟩
theorem below_a1 (w:World) (o:Obj):Below w.heap.size w (w.alloc o):=(Below.refl _ w).alloc (Nat.le_refl _) _
theorem below_a2 (w:World) (o p:Obj):Below w.heap.size w ((w.alloc o).alloc p):=(below_a1 w o).alloc (by rw [World.size_alloc];omega) _
theorem below_a3 (w:World) (o p q:Obj):Below w.heap.size w (((w.alloc o).alloc p).alloc q):=(below_a2 w o p).alloc (by rw [World.size_alloc,World.size_alloc];omega) _
end Go.Proofs.YtnalakhelicjcaaGreatDoor
namespace Go.Proofs.YtnalakhelicjcaaGreatDoor
open Go.RowKit
def inB (n lo hi:Int):Bool:=decide (lo ≤ n) && decide (n ≤ hi)
theorem inB_t {n lo hi:Int} (h:inB n lo hi = true):lo ≤ n ∧ n ≤ hi:=by simpa [inB] using h
theorem inB_f {n lo hi:Int} (h:¬ inB n lo hi = true):n < lo ∨ hi < n:=by simp [inB] at h;omega
theorem inB_mk {n lo hi:Int} (h:lo ≤ n) (h':n ≤ hi):inB n lo hi = true:=by simp [inB,h,h']
theorem inB_no {n lo hi:Int} (h:n < lo ∨ hi < n):inB n lo hi = false:=by simp [inB];omega
def hasB (xs:List Int) (g n:Int):Bool:=
 decide (0 ≤ g) && decide (g < xs.length) && decide (0 ≤ n) && decide (n < 4) && (bits BinOp.and IntKind.i64 (xs.getD g.toNat 0 / 2 ^ n.toNat) 1 == 1)
theorem hasB_in {xs:List Int} {g n:Int} (h1:0 ≤ g) (h2:g < xs.length) (h3:0 ≤ n) (h4:n < 4) :
  hasB xs g n = (bits BinOp.and IntKind.i64 (xs.getD g.toNat 0 / 2 ^ n.toNat) 1 == 1):=by simp [hasB, *]
theorem hasB_out {xs:List Int} {g n:Int} (h:g < 0 ∨ xs.length ≤ g ∨ n < 0 ∨ 4 ≤ n):hasB xs g n = false:=by
 unfold hasB
 rcases h with h | h | h | h
 ·rw [decide_eq_false (by omega:¬ 0 ≤ g)];simp
 ·rw [decide_eq_false (by omega:¬ g < xs.length)];simp
 ·rw [decide_eq_false (by omega:¬ 0 ≤ n)];simp
 ·rw [decide_eq_false (by omega:¬ n < 4)];simp
def pow2 (n:Int):Int:=((2 ^ n.toNat:Nat):Int)
theorem pow2_bd {n:Int} (h:n ≤ 4):1 ≤ pow2 n ∧ pow2 n ≤ 16:=by
 unfold pow2
 have h1:2 ^ n.toNat ≤ 2 ^ 4:=Nat.pow_le_pow_right (by omega) (by omega)
 have h2:0 < 2 ^ n.toNat:=Nat.two_pow_pos _
 omega
theorem wrap_pow2 {n:Int} (h0:0 ≤ n) (h:n ≤ 4):wrap64 (2 ^ n.toNat) = pow2 n:=by
 have:n = 0 ∨ n = 1 ∨ n = 2 ∨ n = 3 ∨ n = 4:=by omega
 rcases this with rfl | rfl | rfl | rfl | rfl <;> simp [wrap64,pow2]
def gAll (nodes:Int) (xs:List Int):Bool:=xs.all fun x=>inB x 1 (pow2 nodes - 1)
theorem getD_lt {α:Type} (xs:List α) (d:α) {k:Nat} (hk:k < xs.length):xs.getD k d = xs[k]:=by simp [hk]
theorem gAll_take {nodes:Int} {xs:List Int} {k:Nat} (hk:k < xs.length):gAll nodes (xs.take (k + 1)) = (gAll nodes (xs.take k) && inB (xs.getD k 0) 1 (pow2 nodes - 1)):=by
 rw [List.take_succ_eq_append_getElem hk,getD_lt xs 0 hk]
 unfold gAll
 rw [List.all_append]
 simp
theorem gAll_no {nodes:Int} {xs:List Int} {k:Nat} (hk:k < xs.length) (h:inB (xs.getD k 0) 1 (pow2 nodes - 1) = false):gAll nodes xs = false:=by
 rw [← Bool.not_eq_true]
 intro hh
 have:=List.all_eq_true.1 hh xs[k] (List.getElem_mem hk)
 rw [getD_lt xs 0 hk] at h
 rw [h] at this
 cases this
def gErr (nodes:Int) (xs:List Int):Int:=
 if inB nodes 1 4 = false then 3 else if inB xs.length 1 3 = false then 2 else if gAll nodes xs = false then 1 else 0
theorem inB_ge {x p:Int} (h:1 ≤ x):decide (p ≤ x) = !inB x 1 (p - 1):=by
 by_cases hp:p ≤ x
 ·rw [inB_no (Or.inr (by omega)),decide_eq_true hp];rfl
 ·rw [inB_mk h (by omega),decide_eq_false hp];rfl
theorem gErr_any {nodes:Int} {xs:List Int} (h1:inB nodes 1 4 = true) (h2:inB xs.length 1 3 = true) :
  gErr nodes xs = if xs.any (fun x=>!inB x 1 (pow2 nodes - 1)) = true then 1 else 0:=by
 rw [← List.not_all_eq_any_not]
 change _ = if (!gAll nodes xs) = true then 1 else 0
 cases h:gAll nodes xs <;> simp [gErr,h1,h2,h]
theorem gErr_zero {nodes:Int} {xs:List Int} (h:gErr nodes xs = 0):inB nodes 1 4 = true ∧ inB xs.length 1 3 = true ∧ gAll nodes xs = true:=by
 unfold gErr at h
 cases h1:inB nodes 1 4
 ·rw [h1] at h;simp at h
 ·cases h2:inB (xs.length:Int) 1 3
  ·rw [h1,h2] at h;simp at h
  ·cases h3:gAll nodes xs
   ·rw [h1,h2,h3] at h;simp at h
   ·exact ⟨rfl,rfl,rfl⟩
end Go.Proofs.YtnalakhelicjcaaGreatDoor
namespace Go.Proofs.YtnalakhelicjcaaGreatDoor
open Go.RowKit
structure M where
 src:Int
 grp:Int
 stamp:Int
 null:Bool
 body:ByteArray
def M.val (m:M):Value:=.agg #[.int .i64 m.src, .int .i64 m.grp, .int .i64 m.stamp, .bool m.null, .string m.body]
def M.cells (m:M):List Value:=[.int .i64 m.src, .int .i64 m.grp, .int .i64 m.stamp, .bool m.null, .string m.body]
def M.fits (m:M):Prop:=I64 m.src ∧ I64 m.grp ∧ I64 m.stamp ∧ m.body.size ≤ 140737488351232
def cmpI (a b:Int):Int:=if a < b then -1 else if b < a then 1 else 0
def orI (x y:Int):Int:=if x = 0 then y else x
def ordM (a b:M):Int:=orI (cmpI a.stamp b.stamp) (cmpI a.src b.src)
def lessM (a b:M):Bool:=decide (a.stamp < b.stamp) || decide (a.stamp = b.stamp) && decide (a.src < b.src)
theorem ordM_lt (a b:M):decide (ordM a b < 0) = lessM a b:=by
 unfold ordM lessM orI cmpI
 by_cases h1:a.stamp < b.stamp
 ·simp [h1]
 ·by_cases h2:b.stamp < a.stamp
  ·simp [h1,h2];omega
  ·have:a.stamp = b.stamp:=by omega
   by_cases h3:a.src < b.src <;> by_cases h4:b.src < a.src <;> simp [this,h3,h4]
theorem ordM_ge (a b:M):decide (0 ≤ ordM a b) = !lessM a b:=by
 rw [← ordM_lt]
 by_cases h:ordM a b < 0
 ·rw [decide_eq_true h,decide_eq_false (by omega)];rfl
 ·rw [decide_eq_false h,decide_eq_true (by omega)];rfl
def Msgs (w:World) (v:Value) (ms:List M):Prop:=(∀ m ∈ ms,m.fits) ∧ Row w v ms.length 5 (ms.flatMap M.cells)
def MsgAt (w:World) (b o:Nat) (m:M):Prop:=
 w.cell? ⟨b,o,none⟩ = some (.int .i64 m.src) ∧ w.cell? ⟨b,o + 1,none⟩ = some (.int .i64 m.grp) ∧ w.cell? ⟨b,o + 2,none⟩ = some (.int .i64 m.stamp) ∧
  w.cell? ⟨b,o + 3,none⟩ = some (.bool m.null) ∧ w.cell? ⟨b,o + 4,none⟩ = some (.string m.body)
theorem Msgs.below {w w':World} {v:Value} {xs:List M} (h:Msgs w v xs) (hb:Below w.heap.size w w'):Msgs w' v xs:=⟨h.1,h.2.below hb⟩
theorem flat_len (ms:List M):(ms.flatMap M.cells).length = ms.length * 5:=by
 induction ms with
 | nil=>rfl
 | cons m ms ih=>rw [List.flatMap_cons,List.length_append,ih,List.length_cons];simp [M.cells];omega
theorem flat_at (d:M):∀ (ms:List M) (k j:Nat),k < ms.length → j < 5 → (ms.flatMap M.cells)[k * 5 + j]? = (ms.getD k d).cells[j]?
 | m :: ms,0,j,_,hj=>by
  rw [List.flatMap_cons,List.getElem?_append_left (by simp [M.cells];omega)]
  simp
 | m :: ms,k + 1,j,hk,hj=>by
  rw [List.flatMap_cons,List.getElem?_append_right (by simp [M.cells];omega)]
  have e:(k + 1) * 5 + j - m.cells.length = k * 5 + j:=by simp [M.cells];omega
  rw [e,flat_at d ms k j (by simpa using hk) hj]
  simp
 | [],_,_,h,_=>absurd h (Nat.not_lt_zero _)
def M.zero:M:=⟨0,0,0,false,ByteArray.empty⟩
theorem Msgs.open {w:World} {v:Value} {ms:List M} (h:Msgs w v ms) :
  ms.length * 40 ≤ 140737488351232 ∧ ∃ a cap,v = .slice a ms.length cap ∧ ms.length ≤ cap ∧
   (ms ≠ [] → ∃ b off,a = some ⟨b,off,none⟩ ∧ ∀ k,k < ms.length → MsgAt w b (off + k * 5) (ms.getD k M.zero)):=by
 obtain ⟨_,h1,h2,a,cap,h3,h4,h5⟩:=h
 refine ⟨by omega,a,cap,h3,h4,fun hn=>?_⟩
 obtain ⟨b,off,ha,hc⟩:=h5 (by simpa using hn)
 refine ⟨b,off,ha,fun k hk=>?_⟩
 have key:∀ j,j < 5 → w.cell? ⟨b,off + k * 5 + j,none⟩ = (ms.getD k M.zero).cells[j]?:=by
  intro j hj
  have h6:=hc (k * 5 + j) (by rw [flat_len];omega)
  have h7:=flat_at M.zero ms k j hk hj
  rw [Nat.add_assoc,h6, ← h7,List.getD_eq_getElem?_getD]
  have hlt:k * 5 + j < (ms.flatMap M.cells).length:=by rw [flat_len];omega
  rw [List.getElem?_eq_getElem hlt]
  rfl
 exact ⟨key 0 (by omega),key 1 (by omega),key 2 (by omega),key 3 (by omega),key 4 (by omega)⟩
theorem MsgAt.below {w w':World} {b o:Nat} {m:M} (h:MsgAt w b o m) (hb:Below w.heap.size w w'):MsgAt w' b o m:=by
 obtain ⟨h0,h1,h2,h3,h4⟩:=h
 have hl:=cell_lt h0
 exact ⟨(hb.cell (p:=⟨b,o,none⟩) hl).trans h0,(hb.cell (p:=⟨b,o + 1,none⟩) hl).trans h1,(hb.cell (p:=⟨b,o + 2,none⟩) hl).trans h2,(hb.cell (p:=⟨b,o + 3,none⟩) hl).trans h3,(hb.cell (p:=⟨b,o + 4,none⟩) hl).trans h4⟩
def risesB:List M → Bool
 | a :: b :: l=>lessM a b && risesB (b :: l)
 | _=>true
theorem risesB_take:∀ {ms:List M} {j:Nat},j + 1 < ms.length → risesB (ms.take (j + 1 + 1)) = (risesB (ms.take (j + 1)) && lessM (ms.getD j M.zero) (ms.getD (j + 1) M.zero))
 | a :: b :: l,0,_=>by simp [risesB]
 | a :: b :: l,j + 1,h=>by
  have ih:=risesB_take (ms:=b :: l) (j:=j) (by simpa using h)
  simp only [List.take_succ_cons,risesB] at ih ⊢
  rw [ih]
  simp [Bool.and_assoc]
 | [],_,h=>absurd h (Nat.not_lt_zero _)
 | [_],_,h=>by simp at h
theorem risesB_no {ms:List M} {n:Nat} (h:risesB (ms.take n) = false):risesB ms = false:=by
 induction ms generalizing n with
 | nil=>simp [risesB] at h
 | cons a ms ih =>
  cases ms with
  | nil=>cases n <;> simp [risesB] at h
  | cons b l =>
   cases n with
   | zero=>simp [risesB] at h
   | succ n =>
    cases n with
    | zero=>simp [risesB] at h
    | succ n =>
     simp only [List.take_succ_cons,risesB,Bool.and_eq_false_iff] at h ⊢
     rcases h with h | h
     ·exact Or.inl h
     ·exact Or.inr (ih (n:=n + 1) (by simpa using h))
def inRange (nodes:Int) (xs:List Int) (m:M):Prop:=0 ≤ m.src ∧ m.src < nodes ∧ 0 ≤ m.grp ∧ m.grp < xs.length ∧ 1 ≤ m.stamp ∧ m.stamp ≤ 1048576
instance (nodes:Int) (xs:List Int) (m:M):Decidable (inRange nodes xs m):=by unfold inRange;infer_instance
def rightE (nodes:Int) (xs:List Int) (m:M):Int:=
 if inRange nodes xs m then
  if hasB xs m.grp m.src = true then if 8 < (m.body.size:Int) then 1 else if m.null = true ∧ m.body.toList.isEmpty = false then 1 else 0 else 5
 else 3
def msgE (nodes:Int) (xs:List Int) (m:M):Int:=if gErr nodes xs = 0 then rightE nodes xs m else gErr nodes xs
theorem rightE_3 {n:Int} {xs:List Int} {m:M} (h:¬ inRange n xs m):rightE n xs m = 3:=by rw [rightE,if_neg h]
theorem rightE_5 {n:Int} {xs:List Int} {m:M} (h:inRange n xs m) (hh:hasB xs m.grp m.src = false):rightE n xs m = 5:=by rw [rightE,if_pos h,if_neg (by rw [hh];simp)]
theorem rightE_1a {n:Int} {xs:List Int} {m:M} (h:inRange n xs m) (hh:hasB xs m.grp m.src = true) (hb:8 < (m.body.size:Int)):rightE n xs m = 1:=by
 rw [rightE,if_pos h,if_pos hh,if_pos hb]
theorem rightE_1b {n:Int} {xs:List Int} {m:M} (h:inRange n xs m) (hh:hasB xs m.grp m.src = true) (hb:¬ 8 < (m.body.size:Int)) (hn:m.null = true) (he:m.body.toList.isEmpty = false):rightE n xs m = 1:=by
 rw [rightE,if_pos h,if_pos hh,if_neg hb,if_pos ⟨hn,he⟩]
theorem rightE_0a {n:Int} {xs:List Int} {m:M} (h:inRange n xs m) (hh:hasB xs m.grp m.src = true) (hb:¬ 8 < (m.body.size:Int)) (hn:m.null = false):rightE n xs m = 0:=by
 rw [rightE,if_pos h,if_pos hh,if_neg hb,if_neg (by rw [hn];simp)]
theorem rightE_0b {n:Int} {xs:List Int} {m:M} (h:inRange n xs m) (hh:hasB xs m.grp m.src = true) (hb:¬ 8 < (m.body.size:Int)) (he:m.body.toList.isEmpty = true):rightE n xs m = 0:=by
 rw [rightE,if_pos h,if_pos hh,if_neg hb,if_neg (by rw [he];simp)]
def MsgBox (w:World) (b:Nat) (m:M):Prop:=
 w.cell? ⟨b,0,none⟩ = some (.int .i64 m.src) ∧ w.cell? ⟨b,1,none⟩ = some (.int .i64 m.grp) ∧ w.cell? ⟨b,2,none⟩ = some (.int .i64 m.stamp) ∧
  w.cell? ⟨b,3,none⟩ = some (.bool m.null) ∧ w.cell? ⟨b,4,none⟩ = some (.string m.body)
theorem MsgBox.new (w:World) (m:M) (t:TypeId):MsgBox (w.alloc (.cells #[.int .i64 m.src, .int .i64 m.grp, .int .i64 m.stamp, .bool m.null, .string m.body] t)) w.heap.size m:=by
 unfold MsgBox
 simp
theorem MsgBox.below {w w':World} {b B:Nat} {m:M} (h:MsgBox w b m) (hb:Below B w w') (hB:b < B):MsgBox w' b m:=by
 obtain ⟨h0,h1,h2,h3,h4⟩:=h
 exact ⟨(hb.cell (p:=⟨b,0,none⟩) hB).trans h0,(hb.cell (p:=⟨b,1,none⟩) hB).trans h1,(hb.cell (p:=⟨b,2,none⟩) hB).trans h2,(hb.cell (p:=⟨b,3,none⟩) hB).trans h3,(hb.cell (p:=⟨b,4,none⟩) hB).trans h4⟩
theorem rightE_cases (n:Int) (xs:List Int) (m:M):(¬ inRange n xs m → rightE n xs m = 3) ∧ (inRange n xs m →
  (hasB xs m.grp m.src = false → rightE n xs m = 5) ∧ (hasB xs m.grp m.src = true →
   (8 < (m.body.size:Int) → rightE n xs m = 1) ∧ (¬ 8 < (m.body.size:Int) →
    (m.null = false → rightE n xs m = 0) ∧ (m.null = true → m.body.toList.isEmpty = false → rightE n xs m = 1) ∧ (m.body.toList.isEmpty = true → rightE n xs m = 0)))):=
 ⟨rightE_3,fun h=>⟨rightE_5 h,fun hh=>⟨rightE_1a h hh,fun hb=>⟨rightE_0a h hh hb,fun a b=>rightE_1b h hh hb a b,rightE_0b h hh hb⟩⟩⟩⟩
end Go.Proofs.YtnalakhelicjcaaGreatDoor
namespace Go.Proofs.YtnalakhelicjcaaGreatDoor
open Go.RowKit
structure N where
 clock:Int
 last:List (List Int)
 held:List M
 told:List M
structure Wd where
 groups:List Int
 nodes:List N
 wires:List (List (List M))
def N.zero:N:=⟨0,[],[],[]⟩
def Wd.none:Wd:=⟨[],[],[]⟩
def Sl {α:Type} (El:World → List Value → α → Prop) (s:Nat) (w:World) (v:Value) (xs:List α):Prop:=
 ∃ css:List (List Value),css.length = xs.length ∧ (∀ cs ∈ css,cs.length = s) ∧ Row w v xs.length s css.flatten ∧ ∀ i (h1:i < css.length) (h2:i < xs.length),El w css[i] xs[i]
def Stays {α:Type} (El:World → List Value → α → Prop):Prop:=∀ w w' cs x,El w cs x → Below w.heap.size w w' → El w' cs x
theorem Sl.below {α:Type} {El:World → List Value → α → Prop} {s:Nat} {w w':World} {v:Value} {xs:List α} (hE:Stays El) (h:Sl El s w v xs) (hb:Below w.heap.size w w'):Sl El s w' v xs:=by
 obtain ⟨css,h1,h2,h3,h4⟩:=h
 exact ⟨css,h1,h2,h3.below hb,fun i a b=>hE w w' _ _ (h4 i a b) hb⟩
theorem flat_getL {s:Nat}:∀ {css:List (List Value)},(∀ cs ∈ css,cs.length = s) → ∀ k j (hk:k < css.length),j < s → css.flatten[k * s + j]? = css[k][j]?
 | [],_,k,j,hk,_=>absurd hk (Nat.not_lt_zero _)
 | c :: css,h,0,j,_,hj=>by
  have hc:c.length = s:=h c (by simp)
  rw [List.flatten_cons,List.getElem?_append_left (by omega)]
  simp
 | c :: css,h,k + 1,j,hk,hj=>by
  have hc:c.length = s:=h c (by simp)
  have e:(k + 1) * s + j = s + (k * s + j):=by rw [Nat.add_mul];omega
  rw [List.flatten_cons,List.getElem?_append_right (by omega),hc,e,Nat.add_sub_cancel_left,flat_getL (fun cs hcs=>h cs (by simp [hcs])) k j (by simpa using hk) hj]
  rfl
theorem flat_lenL {s:Nat}:∀ {css:List (List Value)},(∀ cs ∈ css,cs.length = s) → css.flatten.length = css.length * s
 | [],_=>by simp
 | c :: css,h=>by
  rw [List.flatten_cons,List.length_append,h c (by simp),flat_lenL (fun cs hcs=>h cs (by simp [hcs])),List.length_cons,Nat.add_mul];omega
theorem Sl.open {α:Type} {El:World → List Value → α → Prop} {s:Nat} {w:World} {v:Value} {xs:List α} (h:Sl El s w v xs) :
  xs.length * s * 8 ≤ 140737488351232 ∧ ∃ a cap,v = .slice a xs.length cap ∧ xs.length ≤ cap ∧
   (xs ≠ [] → ∃ b off,a = some ⟨b,off,none⟩ ∧ ∀ k (hk:k < xs.length),∃ cs,cs.length = s ∧ El w cs xs[k] ∧ ∀ j,j < s → w.cell? ⟨b,off + k * s + j,none⟩ = cs[j]?):=by
 obtain ⟨css,h1,h2,⟨h3,h4,a,cap,h5,h6,h7⟩,h8⟩:=h
 have hfl:=flat_lenL h2
 refine ⟨by rw [← h1, ← hfl];exact h4,a,cap,h5,h6,fun hn=>?_⟩
 obtain ⟨b,off,ha,hc⟩:=h7 (by simpa using hn)
 refine ⟨b,off,ha,fun k hk=>⟨css[k]'(by omega),h2 _ (List.getElem_mem _),h8 k (by omega) hk,fun j hj=>?_⟩⟩
 have hkl:k < css.length:=by omega
 have hle:(k + 1) * s ≤ css.length * s:=Nat.mul_le_mul_right _ hkl
 have hlt:k * s + j < css.flatten.length:=by rw [hfl];rw [Nat.add_mul] at hle;omega
 have h9:=hc (k * s + j) hlt
 have h10:=flat_getL h2 k j hkl hj
 rw [Nat.add_assoc,h9, ← h10,List.getD_eq_getElem?_getD,List.getElem?_eq_getElem hlt]
 rfl
def IntsEl (w:World) (cs:List Value) (xs:List Int):Prop:=∃ u,cs = [u] ∧ Ints w u xs
def MsgsEl (w:World) (cs:List Value) (ms:List M):Prop:=∃ u,cs = [u] ∧ Msgs w u ms
def IntRows (w:World) (v:Value) (l:List (List Int)):Prop:=Sl IntsEl 1 w v l
def MsgRows (w:World) (v:Value) (l:List (List M)):Prop:=Sl MsgsEl 1 w v l
def MsgRowsEl (w:World) (cs:List Value) (l:List (List M)):Prop:=∃ u,cs = [u] ∧ MsgRows w u l
def Wires (w:World) (v:Value) (l:List (List (List M))):Prop:=Sl MsgRowsEl 1 w v l
def NodeEl (w:World) (cs:List Value) (n:N):Prop:=∃ lv hv tv,cs = [.int .i64 n.clock,lv,hv,tv] ∧ I64 n.clock ∧ IntRows w lv n.last ∧ Msgs w hv n.held ∧ Msgs w tv n.told
def Nodes (w:World) (v:Value) (l:List N):Prop:=Sl NodeEl 4 w v l
def WorldAt (w:World) (v:Value) (W:Wd):Prop:=∃ gv nv wv,v = .agg #[gv,nv,wv] ∧ Ints w gv W.groups ∧ Nodes w nv W.nodes ∧ Wires w wv W.wires
theorem IntsEl.stays:Stays IntsEl:=fun _ _ _ _ ⟨u,h,h2⟩ hb=>⟨u,h,h2.below hb⟩
theorem MsgsEl.stays:Stays MsgsEl:=fun _ _ _ _ ⟨u,h,h2⟩ hb=>⟨u,h,h2.below hb⟩
theorem IntRows.below {w w':World} {v:Value} {l:List (List Int)} (h:IntRows w v l) (hb:Below w.heap.size w w'):IntRows w' v l:=Sl.below IntsEl.stays h hb
theorem MsgRows.below {w w':World} {v:Value} {l:List (List M)} (h:MsgRows w v l) (hb:Below w.heap.size w w'):MsgRows w' v l:=Sl.below MsgsEl.stays h hb
theorem MsgRowsEl.stays:Stays MsgRowsEl:=fun _ _ _ _ ⟨u,h,h2⟩ hb=>⟨u,h,h2.below hb⟩
theorem Wires.below {w w':World} {v:Value} {l:List (List (List M))} (h:Wires w v l) (hb:Below w.heap.size w w'):Wires w' v l:=Sl.below MsgRowsEl.stays h hb
theorem NodeEl.stays:Stays NodeEl:=fun _ _ _ _ ⟨lv,hv,tv,h,h0,h1,h2,h3⟩ hb=>⟨lv,hv,tv,h,h0,h1.below hb,h2.below hb,h3.below hb⟩
theorem Nodes.below {w w':World} {v:Value} {l:List N} (h:Nodes w v l) (hb:Below w.heap.size w w'):Nodes w' v l:=Sl.below NodeEl.stays h hb
theorem WorldAt.below {w w':World} {v:Value} {W:Wd} (h:WorldAt w v W) (hb:Below w.heap.size w w'):WorldAt w' v W:=by
 obtain ⟨g,n,x,h0,h1,h2,h3⟩:=h
 exact ⟨g,n,x,h0,h1.below hb,h2.below hb,h3.below hb⟩
end Go.Proofs.YtnalakhelicjcaaGreatDoor
namespace Go.Proofs.YtnalakhelicjcaaGreatDoor
open Go.RowKit Go.Deep
def BlkIs (w:World) (b:Nat) (e:TypeId) (n:Nat):Prop:=∃ cur,w.heap[b]? = some (.cells cur e (0,0)) ∧ cur.size = n
theorem BlkIs.lt {w:World} {b:Nat} {e:TypeId} {n:Nat} (h:BlkIs w b e n):b < w.heap.size:=by
 obtain ⟨cur,h,_⟩:=h
 exact (Array.getElem?_eq_some_iff.1 h).1
theorem BlkIs.same {w w':World} {b:Nat} {e:TypeId} {n:Nat} (h:BlkIs w b e n) (hb:w'.heap[b]? = w.heap[b]?):BlkIs w' b e n:=by
 obtain ⟨cur,h,hn⟩:=h
 exact ⟨cur,hb.trans h,hn⟩
theorem BlkIs.frozen {w:World} {b:Nat} {e:TypeId} {n:Nat} (h:BlkIs w b e n) (a:Nat):w.frozen? ⟨b,a,none⟩ = false:=by
 obtain ⟨cur,h,_⟩:=h
 simp [World.frozen?,h]
def BlkSet (w w':World) (b p:Nat) (cs:List Value):Prop:=
 (∀ e n,BlkIs w b e n → BlkIs w' b e n) ∧ (∀ a,(a < p ∨ p + cs.length ≤ a) → w'.cell? ⟨b,a,none⟩ = w.cell? ⟨b,a,none⟩) ∧ ∀ j,j < cs.length → w'.cell? ⟨b,p + j,none⟩ = cs[j]?
theorem BlkSet.same {w w':World} {b p:Nat} {cs:List Value} (h:w'.heap[b]? = w.heap[b]?) (hc:∀ j,j < cs.length → w.cell? ⟨b,p + j,none⟩ = cs[j]?):BlkSet w w' b p cs:=
 ⟨fun _ _ k=>k.same h,fun _ _=>World.cell?_of_block (w:=w) h,fun j hj=>(World.cell?_of_block (w:=w) (a:=⟨b,p + j,none⟩) h).trans (hc j hj)⟩
theorem BlkSet.far {w w1 w2:World} {b p:Nat} {cs:List Value} (h:BlkSet w w1 b p cs) (hb:w2.heap[b]? = w1.heap[b]?):BlkSet w w2 b p cs:=
 ⟨fun _ _ k=>(h.1 _ _ k).same hb,fun a ha=>(World.cell?_of_block (w:=w1) (a:=⟨b,a,none⟩) hb).trans (h.2.1 a ha),fun j hj=>(World.cell?_of_block (w:=w1) (a:=⟨b,p + j,none⟩) hb).trans (h.2.2 j hj)⟩
theorem cell_setCell {w:World} {b a:Nat} {u:Value} (x:Nat) (hx:x ≠ a):(w.setCell ⟨b,a,none⟩ u).cell? ⟨b,x,none⟩ = w.cell? ⟨b,x,none⟩:=by
 simp only [World.cell?,World.setCell,Array.getElem?_modify,if_pos]
 cases w.heap[b]? with
 | none=>rfl
 | some o =>
  cases o with
  | cells c e f=>simp [Ne.symm hx]
  | _=>rfl
theorem BlkIs.setCell {w:World} {b a:Nat} {u:Value} {e:TypeId} {n:Nat} (h:BlkIs w b e n):BlkIs (w.setCell ⟨b,a,none⟩ u) b e n:=by
 obtain ⟨cur,h,hn⟩:=h
 exact ⟨cur.setIfInBounds a u,by simp [World.setCell,Array.getElem?_modify,h],by simpa using hn⟩
theorem BlkIs.cell_set {w:World} {b a:Nat} {u:Value} {e:TypeId} {n:Nat} (h:BlkIs w b e n) (ha:a < n):(w.setCell ⟨b,a,none⟩ u).cell? ⟨b,a,none⟩ = some u:=by
 obtain ⟨cur,h,hn⟩:=h
 simp [World.setCell,World.cell?,Array.getElem?_modify,h,hn,ha]
theorem BlkSet.set {w w1:World} {b p:Nat} {cs:List Value} {e:TypeId} {n:Nat} (h:BlkSet w w1 b p cs) (hi:BlkIs w b e n) (j:Nat) (hj:j < cs.length) (hn:p + cs.length ≤ n) (u:Value) :
  BlkSet w (w1.setCell ⟨b,p + j,none⟩ u) b p (cs.set j u):=by
 refine ⟨fun _ _ k=>(h.1 _ _ k).setCell,fun a ha=>?_,fun k hk=>?_⟩
 ·rw [List.length_set] at ha
  rw [cell_setCell a (by omega)]
  exact h.2.1 a ha
 ·rw [List.length_set] at hk
  by_cases e:k = j
  ·subst e
   rw [(h.1 _ _ hi).cell_set (by omega)]
   simp [hk]
  ·rw [cell_setCell _ (by omega),h.2.2 k hk,List.getElem?_set_ne (Ne.symm e)]
def Dis (A B:Nat → Prop):Prop:=∀ b,A b → ¬ B b
theorem Dis.symm {A B:Nat → Prop} (h:Dis A B):Dis B A:=fun b hb ha=>h b ha hb
theorem Dis.mono {A B A' B':Nat → Prop} (h:Dis A B) (ha:∀ b,A' b → A b) (hb:∀ b,B' b → B b):Dis A' B':=fun b h1 h2=>h b (ha b h1) (hb b h2)
def Lies (S:Nat → Prop) (w w':World):Prop:=∀ b,S b → w'.heap[b]? = w.heap[b]?
theorem Lies.mono {S T:Nat → Prop} {w w':World} (h:Lies S w w') (k:∀ b,T b → S b):Lies T w w':=fun b hb=>h b (k b hb)
abbrev ElO (α:Type):=World → (Nat → Prop) → List Value → α → Prop
def OStays {α:Type} (El:ElO α):Prop:=∀ w w' T cs x,El w T cs x → Lies T w w' → El w' T cs x
def OSl {α:Type} (El:ElO α) (o:Bool) (e:TypeId) (s:Nat) (w:World) (S:Nat → Prop) (v:Value) (xs:List α):Prop:=
 (∃ a0,v = .slice a0 0 0 ∧ xs = [] ∧ (o = true → a0 = none)) ∨
 ∃ (g off cap:Nat) (T:Nat → Nat → Prop),v = .slice (some ⟨g,off,none⟩) xs.length cap ∧ S g ∧ BlkIs w g e (off + cap * s) ∧ xs.length ≤ cap ∧ cap ≤ maxLen ∧ (o = true → off = 0) ∧ xs.length * s * 8 ≤ 140737488351232 ∧
  (∀ i (h:i < xs.length),∃ cs,cs.length = s ∧ (∀ j,j < s → w.cell? ⟨g,off + i * s + j,none⟩ = cs[j]?) ∧ El w (T i) cs xs[i]) ∧
  (∀ i b,T i b → S b ∧ b ≠ g) ∧ ∀ i j b,T i b → T j b → i = j
section
variable {α:Type} {El:ElO α} {o:Bool} {e:TypeId} {s:Nat} {w w':World} {S S':Nat → Prop} {v:Value} {xs:List α}
theorem OSl.nil (El:ElO α) (o:Bool) (e:TypeId) (s:Nat) (w:World) (S:Nat → Prop):OSl El o e s w S (.slice none 0 0) []:=.inl ⟨none,rfl,rfl,fun _=>rfl⟩
theorem OSl.mono (h:OSl El o e s w S v xs) (hS:∀ b,S b → S' b):OSl El o e s w S' v xs:=by
 rcases h with h | ⟨g,off,cap,T,h1,h2,h3,h4,h5,h6,h7,h8,h9,h10⟩
 ·exact .inl h
 ·exact .inr ⟨g,off,cap,T,h1,hS _ h2,h3,h4,h5,h6,h7,h8,fun i b hb=>⟨hS _ (h9 i b hb).1,(h9 i b hb).2⟩,h10⟩
theorem OSl.keep (hE:OStays El) (h:OSl El o e s w S v xs) (hS:Lies S w w'):OSl El o e s w' S v xs:=by
 rcases h with h | ⟨g,off,cap,T,h1,h2,h3,h4,h5,h6,h7,h8,h9,h10⟩
 ·exact .inl h
 ·refine .inr ⟨g,off,cap,T,h1,h2,h3.same (hS g h2),h4,h5,h6,h7,fun i hi=>?_,h9,h10⟩
  obtain ⟨cs,c1,c2,c3⟩:=h8 i hi
  exact ⟨cs,c1,fun j hj=>(World.cell?_of_block (w:=w) (a:=⟨g,off + i * s + j,none⟩) (hS g h2)).trans (c2 j hj),hE _ _ _ _ _ c3 (fun b hb=>hS b (h9 i b hb).1)⟩
theorem OSl.any (h:OSl El o e s w S v xs):OSl El false e s w S v xs:=by
 rcases h with h | ⟨g,off,cap,T,h1,h2,h3,h4,h5,h6,h7⟩
 ·obtain ⟨a0,e1,e2,_⟩:=h
  exact .inl ⟨a0,e1,e2,fun k=>by cases k⟩
 ·exact .inr ⟨g,off,cap,T,h1,h2,h3,h4,h5,fun k=>(by cases k),h7⟩
theorem OSl.form (h:OSl El o e s w S v xs):∃ a cap,v = .slice a xs.length cap ∧ xs.length ≤ cap ∧ xs.length * s * 8 ≤ 140737488351232:=by
 rcases h with ⟨a0,rfl,rfl,ha0⟩ | ⟨g,off,cap,T,h1,h2,h3,h4,h5,h6,h7,_⟩
 ·exact ⟨a0,0,rfl,Nat.le_refl _,by simp⟩
 ·exact ⟨_,cap,h1,h4,h7⟩
theorem OSl.sl {El':World → List Value → α → Prop} (hE:∀ w T cs x,El w T cs x → El' w cs x) (h:OSl El o e s w S v xs):Sl El' s w v xs:=by
 rcases h with ⟨a0,rfl,rfl,ha0⟩ | ⟨g,off,cap,T,rfl,h2,h3,h4,h5,h6,h7,h8,_,_⟩
 ·exact ⟨[],rfl,by simp,⟨by simp,by simp,a0,0,rfl,Nat.le_refl _,fun h=>absurd rfl h⟩,fun i h1 _=>absurd h1 (Nat.not_lt_zero _)⟩
 ·obtain ⟨css,hl,hp⟩:∃ css:List (List Value),css.length = xs.length ∧ ∀ i (h:i < css.length),css[i].length = s ∧ (∀ j,j < s → w.cell? ⟨g,off + i * s + j,none⟩ = css[i][j]?) ∧ ∀ h:i < xs.length,El' w css[i] xs[i]:=by
   have:∀ n,n ≤ xs.length → ∃ css:List (List Value),css.length = n ∧ ∀ i (h:i < css.length),css[i].length = s ∧ (∀ j,j < s → w.cell? ⟨g,off + i * s + j,none⟩ = css[i][j]?) ∧ ∀ h:i < xs.length,El' w css[i] xs[i]:=by
    intro n
    induction n with
    | zero=>exact fun _=>⟨[],rfl,fun i h=>absurd h (Nat.not_lt_zero _)⟩
    | succ n ih =>
     intro hn
     obtain ⟨css,c1,c2⟩:=ih (by omega)
     obtain ⟨cs,d1,d2,d3⟩:=h8 n (by omega)
     refine ⟨css ++ [cs],by simp [c1],fun i hi=>?_⟩
     by_cases e:i < css.length
     ·rw [List.getElem_append_left e];exact c2 i e
     ·obtain rfl:i = css.length:=by simp at hi;omega
      simp only [List.getElem_concat_length]
      subst c1
      exact ⟨d1,d2,fun _=>hE _ _ _ _ d3⟩
   exact this _ (Nat.le_refl _)
  have hs:∀ cs ∈ css,cs.length = s:=fun cs hc=>by
   obtain ⟨i,hi,rfl⟩:=List.mem_iff_getElem.1 hc
   exact (hp i hi).1
  have hfl:=flat_lenL hs
  refine ⟨css,hl,hs,⟨by rw [hfl,hl],by rw [hfl,hl];exact h7,_,cap,rfl,h4,fun hn=>⟨g,off,rfl,fun k hk=>?_⟩⟩,fun i h1 h2=>(hp i h1).2.2 h2⟩
  rw [hfl] at hk
  have hs0:0 < s:=by
   rcases Nat.eq_zero_or_pos s with e | e
   ·subst e;simp at hk
   ·exact e
  have hq:k / s < css.length:=by rw [Nat.div_lt_iff_lt_mul hs0];exact hk
  have hm:k % s < s:=Nat.mod_lt _ hs0
  have hk2:k / s * s + k % s = k:=by rw [Nat.mul_comm];exact Nat.div_add_mod k s
  have c:=(hp (k / s) hq).2.1 (k % s) hm
  rw [Nat.add_assoc,hk2] at c
  rw [c, ← flat_getL hs _ _ hq hm,hk2,List.getD_eq_getElem?_getD,List.getElem?_eq_getElem (by rw [hfl];exact hk)]
  rfl
theorem OSl.at (hE:OStays El) (h:OSl El o e s w S v xs) {i:Nat} (hi:i < xs.length) :
  ∃ (g off cap:Nat) (T:Nat → Prop) (cs:List Value),v = .slice (some ⟨g,off,none⟩) xs.length cap ∧ S g ∧ BlkIs w g e (off + cap * s) ∧ xs.length ≤ cap ∧ (o = true → off = 0) ∧ cs.length = s ∧
   (∀ j,j < s → w.cell? ⟨g,off + i * s + j,none⟩ = cs[j]?) ∧ El w T cs xs[i] ∧ (∀ b,T b → S b ∧ b ≠ g) ∧
   ∀ w' T' cs' x',Lies (fun b=>S b ∧ b ≠ g ∧ ¬ T b) w w' → BlkSet w w' g (off + i * s) cs' → cs'.length = s → El w' T' cs' x' → (∀ b,T' b → T b ∨ ¬ S b) →
    OSl El o e s w' (fun b=>S b ∨ T' b) v (xs.set i x'):=by
 rcases h with ⟨a0,rfl,rfl,ha0⟩ | ⟨g,off,cap,T,h1,h2,h3,h4,h5,h6,h7,h8,h9,h10⟩
 ·exact absurd hi (Nat.not_lt_zero _)
 obtain ⟨cs,c1,c2,c3⟩:=h8 i hi
 refine ⟨g,off,cap,T i,cs,h1,h2,h3,h4,h6,c1,c2,c3,h9 i,fun w' T' cs' x' hL hB hl hX hT=>?_⟩
 refine .inr ⟨g,off,cap,fun j=>if j = i then T' else T j,by simpa using h1,Or.inl h2,hB.1 _ _ h3,by simpa using h4,h5,h6,by simpa using h7,fun k hk=>?_,fun k b hb=>?_,fun j k b hb hb2=>?_⟩
 ·rw [List.length_set] at hk
  by_cases e:k = i
  ·subst e
   refine ⟨cs',hl,fun j hj=>hB.2.2 j (by omega), ?_⟩
   simp only [if_true,List.getElem_set_self]
   exact hX
  ·obtain ⟨ds,d1,d2,d3⟩:=h8 k hk
   refine ⟨ds,d1,fun j hj=>?_, ?_⟩
   ·rw [hB.2.1 _ ?_,d2 j hj]
    rw [hl]
    rcases Nat.lt_or_gt_of_ne e with e | e
    ·left
     have:(k + 1) * s ≤ i * s:=Nat.mul_le_mul_right _ e
     rw [Nat.add_mul] at this
     omega
    ·right
     have:(i + 1) * s ≤ k * s:=Nat.mul_le_mul_right _ e
     rw [Nat.add_mul] at this
     omega
   ·simp only [if_neg e,List.getElem_set_ne (Ne.symm e)]
    exact hE _ _ _ _ _ d3 (fun b hb=>hL b ⟨(h9 k b hb).1,(h9 k b hb).2,fun hc=>e (h10 _ _ _ hb hc)⟩)
 ·by_cases e:k = i
  ·simp only [if_pos e] at hb
   refine ⟨Or.inr hb,fun hg=>?_⟩
   subst hg
   rcases hT _ hb with h | h
   ·exact (h9 i _ h).2 rfl
   ·exact h h2
  ·simp only [if_neg e] at hb
   exact ⟨Or.inl (h9 k b hb).1,(h9 k b hb).2⟩
 ·by_cases e1:j = i <;> by_cases e2:k = i
  ·rw [e1,e2]
  ·simp only [if_pos e1] at hb
   simp only [if_neg e2] at hb2
   rcases hT _ hb with h | h
   ·exact absurd (h10 _ _ _ h hb2).symm e2
   ·exact absurd (h9 _ _ hb2).1 h
  ·simp only [if_neg e1] at hb
   simp only [if_pos e2] at hb2
   rcases hT _ hb2 with h | h
   ·exact absurd (h10 _ _ _ hb h) e1
   ·exact absurd (h9 _ _ hb).1 h
  ·simp only [if_neg e1] at hb
   simp only [if_neg e2] at hb2
   exact h10 _ _ _ hb hb2
theorem OSl.owns {base:Nat} (hE:OStays El) (h:OSl El true e s w S v xs) (hb:∀ b,S b → base ≤ b) :
  ∃ cl,w.ownsRow base e s v xs.length cl ∧ cl.length = xs.length * s ∧
   ∀ (w':World) g' cap' T' news x,w'.ownsRow base e s (.slice (some ⟨g',0,none⟩) (xs.length + 1) cap') (xs.length + 1) (cl ++ news) → news.length = s → (xs.length + 1) * s * 8 ≤ 140737488351232 → (v.ownBlock = some g' ∨ ¬ S g') →
    Lies (fun b=>S b ∧ some b ≠ v.ownBlock) w w' → El w' T' news x → (∀ b,T' b → ¬ S b ∧ b ≠ g') →
    OSl El true e s w' (fun b=>S b ∨ b = g' ∨ T' b) (.slice (some ⟨g',0,none⟩) (xs.length + 1) cap') (xs ++ [x]):=by
 have last:∀ (w':World) g' cap' cl,w'.ownsRow base e s (.slice (some ⟨g',0,none⟩) (xs.length + 1) cap') (xs.length + 1) cl →
   BlkIs w' g' e (0 + cap' * s) ∧ xs.length + 1 ≤ cap' ∧ cap' ≤ maxLen ∧ ∀ j,j < (xs.length + 1) * s → w'.cell? ⟨g',j,none⟩ = cl[j]?:=by
  intro w' g' cap' cl hown
  refine ⟨?_, ?_⟩ <;> have hc:=hown.cellAt
  ·rcases hown.2 with ⟨h,_⟩ | ⟨g,cap,cur,hv,_,hg,hn,hm,hs,_⟩
   ·cases h
   ·cases hv
    exact ⟨cur,hg,by rw [hs,Nat.zero_add]⟩
  ·rcases hown.2 with ⟨h,_⟩ | ⟨g,cap,cur,hv,_,hg,hn,hm,hs,_⟩
   ·cases h
   ·cases hv
    exact ⟨hn,hm,hc⟩
 rcases h with ⟨a0,rfl,rfl,ha0⟩ | ⟨g,off,cap,T,rfl,h2,h3,h4,h5,h6,h7,h8,h9,h10⟩
 ·obtain rfl:=ha0 rfl
  refine ⟨[],World.ownsRow_nil _ _ _ _,by simp,fun w' g' cap' T' news x hown hnl h7 hg hL hX hT=>?_⟩
  obtain ⟨b1,b2,b3,b4⟩:=last _ _ _ _ hown
  refine .inr ⟨g',0,cap',fun i b=>i = 0 ∧ T' b,rfl,Or.inr (Or.inl rfl),b1,b2,b3,fun _=>rfl,h7,fun i hi=>?_,fun i b hb=>⟨Or.inr (Or.inr hb.2),(hT b hb.2).2⟩,fun i j b h1 h2=>h1.1.trans h2.1.symm⟩
  obtain rfl:i = 0:=by simpa using hi
  refine ⟨news,hnl,fun j hj=>?_,by simpa using hX⟩
  have:=b4 j (by simpa using hj)
  simpa using this
 ·have h6:off = 0:=h6 rfl
  subst h6
  obtain ⟨cur,hcur,hcs⟩:=h3
  rw [Nat.zero_add] at hcs
  have hle:xs.length * s ≤ cap * s:=Nat.mul_le_mul_right _ h4
  have hcl:(cur.toList.take (xs.length * s)).length = xs.length * s:=by
   have hcl0:cur.toList.length = cap * s:=by simpa using hcs
   rw [List.length_take,hcl0];exact Nat.min_eq_left hle
  refine ⟨cur.toList.take (xs.length * s),⟨hcl, .inr ⟨g,cap,cur,rfl,hb g h2,hcur,h4,h5,hcs,rfl⟩⟩,hcl,fun w' g' cap' T' news x hown hnl h7' hg hL hX hT=>?_⟩
  obtain ⟨b1,b2,b3,b4⟩:=last _ _ _ _ hown
  refine .inr ⟨g',0,cap',fun i=>if i < xs.length then T i else if i = xs.length then T' else fun _=>False,by simp,Or.inr (Or.inl rfl),b1,by simpa using b2,b3,fun _=>rfl,by simpa using h7',fun i hi=>?_,fun i b hb=>?_,fun i j b h1 h2=>?_⟩
  ·simp only [List.length_append,List.length_cons,List.length_nil,Nat.zero_add] at hi
   have hmul:(i + 1) * s ≤ (xs.length + 1) * s:=Nat.mul_le_mul_right _ (by omega)
   rw [Nat.add_mul] at hmul
   by_cases hlt:i < xs.length
   ·obtain ⟨cs,c1,c2,c3⟩:=h8 i hlt
    have hmul2:(i + 1) * s ≤ xs.length * s:=Nat.mul_le_mul_right _ hlt
    rw [Nat.add_mul] at hmul2
    refine ⟨cs,c1,fun j hj=>?_, ?_⟩
    ·rw [Nat.zero_add,b4 _ (by omega),List.getElem?_append_left (by rw [hcl];omega)]
     rw [← c2 j hj,Nat.zero_add,cell_of_row w g _ cur e (0,0) hcur]
     rw [List.getElem?_take,if_pos (by omega)]
     simp
    ·simp only [if_pos hlt,List.getElem_append_left hlt]
     refine hE _ _ _ _ _ c3 (fun b hb=>hL b ⟨(h9 i b hb).1,fun he=>?_⟩)
     have:b = g:=by simpa [Value.ownBlock] using he
     exact (h9 i b hb).2 this
   ·obtain rfl:i = xs.length:=by omega
    refine ⟨news,hnl,fun j hj=>?_, ?_⟩
    ·rw [Nat.zero_add,b4 _ (by omega),List.getElem?_append_right (by rw [hcl];omega),hcl]
     congr 1;omega
    ·simp only [Nat.lt_irrefl,if_false,if_true,List.getElem_concat_length]
     exact hX
  ·by_cases e:i < xs.length
   ·simp only [if_pos e] at hb
    refine ⟨Or.inl (h9 i b hb).1,fun he=>?_⟩
    subst he
    rcases hg with hg | hg
    ·have:g = b:=by simpa [Value.ownBlock] using hg
     exact (h9 i b hb).2 this.symm
    ·exact hg (h9 i b hb).1
   ·by_cases e2:i = xs.length
    ·simp only [if_neg e,if_pos e2] at hb
     exact ⟨Or.inr (Or.inr hb),(hT b hb).2⟩
    ·simp only [if_neg e,if_neg e2] at hb
  ·by_cases e1:i < xs.length <;> by_cases e2:j < xs.length
   ·simp only [if_pos e1] at h1
    simp only [if_pos e2] at h2
    exact h10 _ _ _ h1 h2
   ·simp only [if_pos e1] at h1
    by_cases e3:j = xs.length
    ·simp only [if_neg e2,if_pos e3] at h2
     exact absurd (h9 i b h1).1 (hT b h2).1
    ·simp only [if_neg e2,if_neg e3] at h2
   ·simp only [if_pos e2] at h2
    by_cases e3:i = xs.length
    ·simp only [if_neg e1,if_pos e3] at h1
     exact absurd (h9 j b h2).1 (hT b h1).1
    ·simp only [if_neg e1,if_neg e3] at h1
   ·by_cases e3:i = xs.length <;> by_cases e4:j = xs.length
    ·omega
    ·simp only [if_neg e2,if_neg e4] at h2
    ·simp only [if_neg e1,if_neg e3] at h1
    ·simp only [if_neg e2,if_neg e4] at h2
theorem OSl.of_owns {base:Nat} {cl:List Value} (hown:w.ownsRow base e s v xs.length cl) (hl:xs.length * s * 8 ≤ 140737488351232)
  (h:∀ i (h:i < xs.length),El w (fun _=>False) ((cl.drop (i * s)).take s) xs[i]):OSl El true e s w (fun b=>v.ownBlock = some b) v xs:=by
 have hcl:=hown.1
 rcases hown.2 with ⟨h1,h2⟩ | ⟨g,cap,cur,rfl,_,hg,hn,hm,hs,ht⟩
 ·exact .inl ⟨none,h1,List.eq_nil_of_length_eq_zero h2,fun _=>rfl⟩
 ·refine .inr ⟨g,0,cap,fun _ _=>False,rfl,rfl,⟨cur,hg,by rw [Nat.zero_add,hs]⟩,hn,hm,fun _=>rfl,hl,fun i hi=>⟨_, ?_,fun j hj=>?_,h i hi⟩,fun _ _ h=>h.elim,fun _ _ _ h=>h.elim⟩
  ·have hmul:(i + 1) * s ≤ xs.length * s:=Nat.mul_le_mul_right _ hi
   rw [Nat.add_mul] at hmul
   rw [List.length_take,List.length_drop,hcl];omega
  ·have hmul:(i + 1) * s ≤ xs.length * s:=Nat.mul_le_mul_right _ hi
   rw [Nat.add_mul] at hmul
   rw [Nat.zero_add,hown.cellAt _ (by omega),List.getElem?_take,if_pos hj,List.getElem?_drop]
end
end Go.Proofs.YtnalakhelicjcaaGreatDoor
namespace Go.Proofs.YtnalakhelicjcaaGreatDoor
open Go.RowKit
section
variable {P:Program} {ops:Array Oper} {md:Region.Mode} {C:World → Prop}
def wpAnyLQ (P:Program) (md:Region.Mode) (ops:Array Oper) (C:World → Prop) (n:Nat) (L:Array Bool → Act → Prop):Nat → Array Bool → Act → Prop
 | 0,listed,a=>L listed a
 | f + 1,listed,a =>
  Region.ready md ops listed ≠ [] ∧ ∀ i ∈ Region.ready md ops listed,i < n ∧ qOp P ops C i (wpAnyLQ P md ops C n L f (listed.setIfInBounds i true)) a
theorem wpAny_of_headQ {n g:Nat} {L:Array Bool → Act → Prop} {Q':Exit → Act → World → Prop} (hL:∀ listed a w,C w → L listed a → wpAny P md ops Q' g listed a w) :
  ∀ (f:Nat) (listed:Array Bool) (a:Act) (w:World),C w → wpAnyLQ P md ops C n L f listed a → wpAny P md ops Q' (f + g) listed a w
 | 0,listed,a,w,hw,h=>by rw [Nat.zero_add];exact hL _ _ _ hw h
 | f + 1,listed,a,w,hw,h=>by
  rw [show f + 1 + g = (f + g) + 1 by omega]
  exact ⟨fun h0=>absurd h0 h.1,fun i hi=>wpOp_of_qOp hw (fun a' w' hw' h'=>wpAny_of_headQ hL f _ a' w' hw' h') (h.2 i hi).2⟩
theorem wpAnyLQ_first {n i:Nat} {oi:Oper} {v:Value} {L:Array Bool → Act → Prop} (hi:ops[i]? = some oi) (hsel:∀ (j:Nat) (o:Oper) cs b,ops[j]? = some o → o.op ≠ .select cs b)
  (hs:Region.sinkB md ops n = true) (hc:Region.chainB md ops n = true) (hn:n < ops.size) (hin:i < n)
  (hdone:∀ listed a,L listed a → ∀ j ∈ Region.ready md ops listed,n ≤ j) :
  ∀ (f:Nat) (listed:Array Bool) (a:Act),HeadInv md ops n listed →
   (∀ j oj,ops[j]? = some oj → j ≠ i → listed.getD j true = false → (∀ e ∈ oj.after,Region.binds md e = true → e.on ≠ i) → oi.apart ops oj = true) →
   i ∈ Region.ready md ops listed → YieldsIn P ops C oi v a →
   wpAnyLQ P md ops C n L f (listed.setIfInBounds i true) (a.put oi.dst v) → wpAnyLQ P md ops C n L (f + 1) listed a:=by
 intro f
 induction f with
 | zero =>
  intro listed a inv _ hr hy H
  have hun:=(mem_ready.1 hr).1
  refine ⟨fun h=>(by rw [h] at hr;cases hr),fun j hj=>?_⟩
  have hjn:j < n:=by
   rcases Nat.lt_or_ge j n with h | h
   ·exact h
   ·exact absurd hj (tail_waits hs hc hn inv _ i rfl hin hun j h)
  refine ⟨hjn, ?_⟩
  by_cases hji:j = i
  ·subst hji;exact hy.qOp hi H
  ·have:=hdone _ _ H j (ready_mono hj hji)
   omega
 | succ f ih =>
  intro listed a inv hfree hr hy H
  have hun:=(mem_ready.1 hr).1
  refine ⟨fun h=>(by rw [h] at hr;cases hr),fun j hj=>?_⟩
  have hjn:j < n:=by
   rcases Nat.lt_or_ge j n with h | h
   ·exact h
   ·exact absurd hj (tail_waits hs hc hn inv _ i rfl hin hun j h)
  refine ⟨hjn, ?_⟩
  by_cases hji:j = i
  ·subst hji;exact hy.qOp hi H
  ·have h1:=(H.2 j (ready_mono hj hji)).2
   obtain ⟨hjun,oj,hoj,hall⟩:=mem_ready.1 hj
   have hnot:∀ e ∈ oj.after,Region.binds md e = true → e.on ≠ i:=fun e he hb heq=>by
    have h1:=hall e he hb
    rw [heq,getD_both hun] at h1
    cases h1
   have h2:=qOp_put hoj (hfree j oj hoj hji hjun hnot) (fun cs b=>hsel i oi cs b hi) (fun cs b=>hsel j oj cs b hoj) hy h1
   have hfree':∀ k ok,ops[k]? = some ok → k ≠ i → (listed.setIfInBounds j true).getD k true = false →
     (∀ e ∈ ok.after,Region.binds md e = true → e.on ≠ i) → oi.apart ops ok = true:=fun k ok hk hki hun hno=>by
    refine hfree k ok hk hki ?_ hno
    by_cases hjk:j = k
    ·subst hjk;exact hjun
    ·rw [getD_set_ne true hjk] at hun;exact hun
   refine qOp_mono (fun a' h3=>ih (listed.setIfInBounds j true) a' (inv.set hj hjn) hfree' (ready_mono hr (Ne.symm hji)) h3.1 ?_) h2
   rw [Array.setIfInBounds_comm _ _ hji]
   exact h3.2
theorem wpAnyLQ_lex {n g:Nat} {Lq:Act → Prop} (hsel:Region.noSelect ops = true) (hs:Region.sinkB md ops n = true) (hc:Region.chainB md ops n = true) (hn:n < ops.size) :
  ∀ (l:List Oper) (k:Nat) (listed:Array Bool) (a:Act),(∀ j,j < l.length → l[j]? = ops[k + j]?) → k + l.length = n → HeadInv md ops n listed →
  Region.lexHead md ops g l.length k listed = true → wpQuiet P ops C Lq l a →
  wpAnyLQ P md ops C n (fun listed' a'=>Region.seqB md ops g n listed' = true ∧ Lq a') l.length listed a
 | [],k,listed,a,_,hk,_,hB,h=>by
  have:k = n:=by simpa using hk
  subst this
  exact ⟨by simpa [Region.lexHead] using hB,h⟩
 | o :: l,k,listed,a,hl,hk,inv,hB,h=>by
  have h0:ops[k]? = some o:=by simpa using (hl 0 (by simp)).symm
  simp only [List.length_cons,Region.lexHead,Bool.and_eq_true] at hB
  obtain ⟨⟨hr,hf⟩,hB'⟩:=hB
  have hkn:k < n:=by simp only [List.length_cons] at hk;omega
  have hr':k ∈ Region.ready md ops listed:=by simpa using hr
  have hst:qOp P ops C k (wpQuiet P ops C Lq l) a:=by unfold qOp;simp only [h0];exact h
  obtain ⟨v,hy,hK⟩:=yieldsIn_of_qOp h0 hst
  exact wpAnyLQ_first h0 (Region.noSelect_spec hsel) hs hc hn hkn (fun listed' a' hL=>seqB_ready hL.1) l.length listed a inv (Region.free_spec h0 hf) hr' hy
   (wpAnyLQ_lex hsel hs hc hn l (k + 1) _ _ (fun j hj=>by have:=hl (j + 1) (by simp;omega);simpa [Nat.add_assoc,Nat.add_comm 1 j] using this) (by simp only [List.length_cons] at hk;omega) (inv.set hr' hkn) hB' hK)
theorem wp_region_quiet_tail {id:Nat} {Q:Exit → Act → World → Prop} {a:Act} {w:World} {l:List Oper} (n:Nat) (hm:P.follows .mixedOrders = true) (hB:Region.lexTailB .any l.toArray n = true)
  (hC:C { w with drawn:=w.drawn + 1 })
  (h:wpQuiet P l.toArray C (fun a'=>∀ w',C w' → wpList P l.toArray Q (l.drop n) a' w') (l.take n) a):(Code.region id l.toArray true).wp P Q a w:=by
 simp only [Region.lexTailB,Bool.and_eq_true,decide_eq_true_eq] at hB
 obtain ⟨⟨⟨⟨hsel,hn⟩,hs⟩,hc⟩,hlex⟩:=hB
 have hn':n < l.length:=by simpa using hn
 have htl:(l.take n).length = n:=by simp;omega
 have hdl:(l.drop n).length = l.toArray.size - n:=by simp
 have inv0:HeadInv .any l.toArray n (Array.replicate l.toArray.size false):=
  ⟨by simp,fun j oj _ hl=>(by rw [getD_replicate_false] at hl;cases hl),fun t _ ht=>getD_in (by simpa using ht) (getD_replicate_false _ _)⟩
 have H:=wpAnyLQ_lex (md:=.any) (g:=l.toArray.size - n) hsel hs hc hn (l.take n) 0 _ a (fun j hj=>by
  have hj':j < n:=by rw [htl] at hj;exact hj
  simp [hj']) (by simpa using htl) inv0 (by rw [htl];exact hlex) h
 refine wp_region_any hm ?_
 have:=wpAny_of_headQ (Q':=Q) (g:=l.toArray.size - n) (fun listed a' w' hw' hL=>by
  have:=wpAny_of_seq (md:=.any) (Q':=Q) (l.drop n) n listed a' w' (fun j=>by simp [List.getElem?_drop]) (by rw [hdl];exact hL.1) (hL.2 w' hw')
  rwa [hdl] at this) _ _ _ _ hC H
 rw [htl,show n + (l.toArray.size - n) = l.toArray.size by omega] at this
 exact this
end
theorem wp_region_over_tail {P:Program} {id:Nat} {Q:Exit → Act → World → Prop} {a:Act} {w:World} {l:List Oper} (n:Nat) (hm:P.follows .mixedOrders = true) (hB:Region.lexTailB .any l.toArray n = true)
  (h:wpQuiet P l.toArray (fun w'=>∃ o:Over w,w' = o.x) (fun a'=>∀ w',(∃ o:Over w,w' = o.x) → wpList P l.toArray Q (l.drop n) a' w') (l.take n) a):(Code.region id l.toArray true).wp P Q a w:=
 wp_region_quiet_tail (C:=fun w'=>∃ o:Over w,w' = o.x) n hm hB ⟨⟨_,below_drewN w 1⟩,rfl⟩ h
end Go.Proofs.YtnalakhelicjcaaGreatDoor
namespace Go.Proofs.YtnalakhelicjcaaGreatDoor
open Go.RowKit
theorem row_news {w:World} {n s c:Nat} {ad:Addr} {cs:List Value} (h:Row w (.slice (some ad) n c) n s cs):∀ j u,cs[j]? = some u → w.cell? (ad.add j) = some u:=by
 intro j u hj
 obtain ⟨h1,_,a,cap,e,_,hc⟩:=h
 have hjl:j < cs.length:=(List.getElem?_eq_some_iff.1 hj).1
 obtain ⟨b,off,ha,hcc⟩:=hc (by rintro rfl;simp at h1;subst h1;simp at hjl)
 simp only [Value.slice.injEq] at e
 obtain ⟨e,_,_⟩:=e
 rw [← e] at ha
 cases ha
 have:=hcc j hjl
 rw [List.getD_eq_getElem?_getD,hj] at this
 unfold Addr.add
 split
 ·rename_i h0;subst h0;simpa using this
 ·simpa using this
theorem infoCMsg:(Tryz.prog.info? 96).map (fun i=>(i.zero,i.size,i.bytes)) = some (some (.agg #[.int .i64 0, .int .i64 0, .int .i64 0, .bool false, .string ByteArray.empty]),5,48):=by kernel_rfl
set_option maxHeartbeats 400000 in
theorem CloneMsg_c {w:World} {v:Value} {n:Nat} {cs:List Value} (h:Row w v n 5 cs) (h1:∀ u ∈ cs,u.oneCell' = true) (hn:n * 48 ≤ 140737488355328) :
  Calls Tryz.prog 145 #[v] w fun e w'=>∃ v',e = .returned v' ∧ w'.ownsRow w.heap.size 96 5 v' n cs ∧ Below w.heap.size w w':=by
 obtain ⟨i0,hi,hz0,hz1,hz2⟩:=info_parts infoCMsg
 have hl:=h.1
 obtain ⟨_,hb8,a,cap,rfl,hcap,hcc⟩:=h
 have hnil:=fun w=>Lib.run_eql_slice_nil (P:=Tryz.prog) w 63 96 a n cap 0 0 Tryz.underlying63
 cases a with
 | none =>
  have hn0:n = 0:=by
   rcases Nat.eq_zero_or_pos n with h0 | h0
   ·exact h0
   ·obtain ⟨b,off,e,_⟩:=hcc (by omega);cases e
  subst hn0
  obtain rfl:cs = []:=List.eq_nil_of_length_eq_zero (by simpa using hl)
  simp only [Option.isNone_none] at hnil
  clear hcc h1
  go_enter Tryz.func145,Tryz.ntmps145
  go_wp2_with fail
  go_ret
  exact ⟨_,rfl,World.ownsRow_nil _ _ _ _,Below.refl _ _⟩
 | some ad =>
  simp only [Option.isNone_some] at hnil
  have hnews:=row_news (s:=5) ⟨hl,hb8,some ad,cap,rfl,hcap,hcc⟩
  have hnews2:∀ j u,cs[j]? = some u → (w.alloc (.cells #[] 96)).cell? (ad.add j) = some u:=fun j u hj=>by
   rw [(below_a1 w (.cells #[] 96)).cell (p:=ad.add j) (cell_lt (hnews j u hj))]
   exact hnews j u hj
  have hown:=World.ownsRow_made (base:=w.heap.size) (e:=96) (size:=5) w #[] 0 (Nat.le_refl _) (by simp [maxLen]) (by simp)
  replace hnews2:=Lib.hid hnews2
  replace h1:=Lib.hid h1
  clear hnews hcc
  go_enter Tryz.func145,Tryz.ntmps145
  go_wp2_with (at_builtin;refine wpList_append_own _ rfl _ _ 63 rfl w.heap.size 96 i0 _ 5 48 Tryz.underlying63 hi hz0 hz1 hz2 rfl (by decide) _ _ _ rfl hown ad n cap cs rfl hl hnews2.out h1.out (by unfold maxLen;omega) (by omega) (by simp) ?_;intro v' w1 hown' hgrow _)
  go_ret
  refine ⟨_,rfl, ?_, ?_⟩
  ·simpa using hown'
  ·exact (below_a1 w _).grown hgrow (by simp) (fun k e=>by have:=(hown.lt k e).1;omega)
theorem infoCInt:(Tryz.prog.info? 3).map (fun i=>(i.zero,i.size,i.bytes)) = some (some (.int .i64 0),1,8):=by kernel_rfl
set_option maxHeartbeats 400000 in
theorem CloneInt_c {w:World} {v:Value} {n:Nat} {cs:List Value} (h:Row w v n 1 cs) (h1:∀ u ∈ cs,u.oneCell' = true) (hn:n * 8 ≤ 140737488355328) :
  Calls Tryz.prog 27 #[v] w fun e w'=>∃ v',e = .returned v' ∧ w'.ownsRow w.heap.size 3 1 v' n cs ∧ Below w.heap.size w w':=by
 obtain ⟨i0,hi,hz0,hz1,hz2⟩:=info_parts infoCInt
 have hl:=h.1
 obtain ⟨_,hb8,a,cap,rfl,hcap,hcc⟩:=h
 have hnil:=fun w=>Lib.run_eql_slice_nil (P:=Tryz.prog) w 22 3 a n cap 0 0 Tryz.underlying22
 cases a with
 | none =>
  have hn0:n = 0:=by
   rcases Nat.eq_zero_or_pos n with h0 | h0
   ·exact h0
   ·obtain ⟨b,off,e,_⟩:=hcc (by omega);cases e
  subst hn0
  obtain rfl:cs = []:=List.eq_nil_of_length_eq_zero (by simpa using hl)
  simp only [Option.isNone_none] at hnil
  clear hcc h1
  go_enter Tryz.func27,Tryz.ntmps27
  go_wp2_with fail
  go_ret
  exact ⟨_,rfl,World.ownsRow_nil _ _ _ _,Below.refl _ _⟩
 | some ad =>
  simp only [Option.isNone_some] at hnil
  have hnews:=row_news (s:=1) ⟨hl,hb8,some ad,cap,rfl,hcap,hcc⟩
  have hnews2:∀ j u,cs[j]? = some u → (w.alloc (.cells #[] 3)).cell? (ad.add j) = some u:=fun j u hj=>by
   rw [(below_a1 w (.cells #[] 3)).cell (p:=ad.add j) (cell_lt (hnews j u hj))]
   exact hnews j u hj
  have hown:=World.ownsRow_made (base:=w.heap.size) (e:=3) (size:=1) w #[] 0 (Nat.le_refl _) (by simp [maxLen]) (by simp)
  replace hnews2:=Lib.hid hnews2
  replace h1:=Lib.hid h1
  clear hnews hcc
  go_enter Tryz.func27,Tryz.ntmps27
  go_wp2_with (at_builtin;refine wpList_append_own _ rfl _ _ 22 rfl w.heap.size 3 i0 _ 1 8 Tryz.underlying22 hi hz0 hz1 hz2 rfl (by decide) _ _ _ rfl hown ad n cap cs rfl hl hnews2.out h1.out (by unfold maxLen;omega) (by omega) (by simp) ?_;intro v' w1 hown' hgrow _)
  go_ret
  refine ⟨_,rfl, ?_, ?_⟩
  ·simpa using hown'
  ·exact (below_a1 w _).grown hgrow (by simp) (fun k e=>by have:=(hown.lt k e).1;omega)
theorem infoCNode:(Tryz.prog.info? 65).map (fun i=>(i.zero,i.size,i.bytes)) = some (some (.agg #[.int .i64 0, .slice none 0 0, .slice none 0 0, .slice none 0 0]),4,80):=by kernel_rfl
set_option maxHeartbeats 400000 in
theorem CloneNode_c {w:World} {v:Value} {n:Nat} {cs:List Value} (h:Row w v n 4 cs) (h1:∀ u ∈ cs,u.oneCell' = true) (hn:n * 80 ≤ 140737488355328) :
  Calls Tryz.prog 143 #[v] w fun e w'=>∃ v',e = .returned v' ∧ w'.ownsRow w.heap.size 65 4 v' n cs ∧ Below w.heap.size w w':=by
 obtain ⟨i0,hi,hz0,hz1,hz2⟩:=info_parts infoCNode
 have hl:=h.1
 obtain ⟨_,hb8,a,cap,rfl,hcap,hcc⟩:=h
 have hnil:=fun w=>Lib.run_eql_slice_nil (P:=Tryz.prog) w 32 65 a n cap 0 0 Tryz.underlying32
 cases a with
 | none =>
  have hn0:n = 0:=by
   rcases Nat.eq_zero_or_pos n with h0 | h0
   ·exact h0
   ·obtain ⟨b,off,e,_⟩:=hcc (by omega);cases e
  subst hn0
  obtain rfl:cs = []:=List.eq_nil_of_length_eq_zero (by simpa using hl)
  simp only [Option.isNone_none] at hnil
  clear hcc h1
  go_enter Tryz.func143,Tryz.ntmps143
  go_wp2_with fail
  go_ret
  exact ⟨_,rfl,World.ownsRow_nil _ _ _ _,Below.refl _ _⟩
 | some ad =>
  simp only [Option.isNone_some] at hnil
  have hnews:=row_news (s:=4) ⟨hl,hb8,some ad,cap,rfl,hcap,hcc⟩
  have hnews2:∀ j u,cs[j]? = some u → (w.alloc (.cells #[] 65)).cell? (ad.add j) = some u:=fun j u hj=>by
   rw [(below_a1 w (.cells #[] 65)).cell (p:=ad.add j) (cell_lt (hnews j u hj))]
   exact hnews j u hj
  have hown:=World.ownsRow_made (base:=w.heap.size) (e:=65) (size:=4) w #[] 0 (Nat.le_refl _) (by simp [maxLen]) (by simp)
  replace hnews2:=Lib.hid hnews2
  replace h1:=Lib.hid h1
  clear hnews hcc
  go_enter Tryz.func143,Tryz.ntmps143
  go_wp2_with (at_builtin;refine wpList_append_own _ rfl _ _ 32 rfl w.heap.size 65 i0 _ 4 80 Tryz.underlying32 hi hz0 hz1 hz2 rfl (by decide) _ _ _ rfl hown ad n cap cs rfl hl hnews2.out h1.out (by unfold maxLen;omega) (by omega) (by simp) ?_;intro v' w1 hown' hgrow _)
  go_ret
  refine ⟨_,rfl, ?_, ?_⟩
  ·simpa using hown'
  ·exact (below_a1 w _).grown hgrow (by simp) (fun k e=>by have:=(hown.lt k e).1;omega)
theorem infoCIntRow:(Tryz.prog.info? 22).map (fun i=>(i.zero,i.size,i.bytes)) = some (some (.slice none 0 0),1,24):=by kernel_rfl
set_option maxHeartbeats 400000 in
theorem CloneIntRow_c {w:World} {v:Value} {n:Nat} {cs:List Value} (h:Row w v n 1 cs) (h1:∀ u ∈ cs,u.oneCell' = true) (hn:n * 24 ≤ 140737488355328) :
  Calls Tryz.prog 146 #[v] w fun e w'=>∃ v',e = .returned v' ∧ w'.ownsRow w.heap.size 22 1 v' n cs ∧ Below w.heap.size w w':=by
 obtain ⟨i0,hi,hz0,hz1,hz2⟩:=info_parts infoCIntRow
 have hl:=h.1
 obtain ⟨_,hb8,a,cap,rfl,hcap,hcc⟩:=h
 have hnil:=fun w=>Lib.run_eql_slice_nil (P:=Tryz.prog) w 62 22 a n cap 0 0 Tryz.underlying62
 cases a with
 | none =>
  have hn0:n = 0:=by
   rcases Nat.eq_zero_or_pos n with h0 | h0
   ·exact h0
   ·obtain ⟨b,off,e,_⟩:=hcc (by omega);cases e
  subst hn0
  obtain rfl:cs = []:=List.eq_nil_of_length_eq_zero (by simpa using hl)
  simp only [Option.isNone_none] at hnil
  clear hcc h1
  go_enter Tryz.func146,Tryz.ntmps146
  go_wp2_with fail
  go_ret
  exact ⟨_,rfl,World.ownsRow_nil _ _ _ _,Below.refl _ _⟩
 | some ad =>
  simp only [Option.isNone_some] at hnil
  have hnews:=row_news (s:=1) ⟨hl,hb8,some ad,cap,rfl,hcap,hcc⟩
  have hnews2:∀ j u,cs[j]? = some u → (w.alloc (.cells #[] 22)).cell? (ad.add j) = some u:=fun j u hj=>by
   rw [(below_a1 w (.cells #[] 22)).cell (p:=ad.add j) (cell_lt (hnews j u hj))]
   exact hnews j u hj
  have hown:=World.ownsRow_made (base:=w.heap.size) (e:=22) (size:=1) w #[] 0 (Nat.le_refl _) (by simp [maxLen]) (by simp)
  replace hnews2:=Lib.hid hnews2
  replace h1:=Lib.hid h1
  clear hnews hcc
  go_enter Tryz.func146,Tryz.ntmps146
  go_wp2_with (at_builtin;refine wpList_append_own _ rfl _ _ 62 rfl w.heap.size 22 i0 _ 1 24 Tryz.underlying62 hi hz0 hz1 hz2 rfl (by decide) _ _ _ rfl hown ad n cap cs rfl hl hnews2.out h1.out (by unfold maxLen;omega) (by omega) (by simp) ?_;intro v' w1 hown' hgrow _)
  go_ret
  refine ⟨_,rfl, ?_, ?_⟩
  ·simpa using hown'
  ·exact (below_a1 w _).grown hgrow (by simp) (fun k e=>by have:=(hown.lt k e).1;omega)
theorem infoCMsgRow:(Tryz.prog.info? 63).map (fun i=>(i.zero,i.size,i.bytes)) = some (some (.slice none 0 0),1,24):=by kernel_rfl
set_option maxHeartbeats 400000 in
theorem CloneMsgRow_c {w:World} {v:Value} {n:Nat} {cs:List Value} (h:Row w v n 1 cs) (h1:∀ u ∈ cs,u.oneCell' = true) (hn:n * 24 ≤ 140737488355328) :
  Calls Tryz.prog 147 #[v] w fun e w'=>∃ v',e = .returned v' ∧ w'.ownsRow w.heap.size 63 1 v' n cs ∧ Below w.heap.size w w':=by
 obtain ⟨i0,hi,hz0,hz1,hz2⟩:=info_parts infoCMsgRow
 have hl:=h.1
 obtain ⟨_,hb8,a,cap,rfl,hcap,hcc⟩:=h
 have hnil:=fun w=>Lib.run_eql_slice_nil (P:=Tryz.prog) w 66 63 a n cap 0 0 Tryz.underlying66
 cases a with
 | none =>
  have hn0:n = 0:=by
   rcases Nat.eq_zero_or_pos n with h0 | h0
   ·exact h0
   ·obtain ⟨b,off,e,_⟩:=hcc (by omega);cases e
  subst hn0
  obtain rfl:cs = []:=List.eq_nil_of_length_eq_zero (by simpa using hl)
  simp only [Option.isNone_none] at hnil
  clear hcc h1
  go_enter Tryz.func147,Tryz.ntmps147
  go_wp2_with fail
  go_ret
  exact ⟨_,rfl,World.ownsRow_nil _ _ _ _,Below.refl _ _⟩
 | some ad =>
  simp only [Option.isNone_some] at hnil
  have hnews:=row_news (s:=1) ⟨hl,hb8,some ad,cap,rfl,hcap,hcc⟩
  have hnews2:∀ j u,cs[j]? = some u → (w.alloc (.cells #[] 63)).cell? (ad.add j) = some u:=fun j u hj=>by
   rw [(below_a1 w (.cells #[] 63)).cell (p:=ad.add j) (cell_lt (hnews j u hj))]
   exact hnews j u hj
  have hown:=World.ownsRow_made (base:=w.heap.size) (e:=63) (size:=1) w #[] 0 (Nat.le_refl _) (by simp [maxLen]) (by simp)
  replace hnews2:=Lib.hid hnews2
  replace h1:=Lib.hid h1
  clear hnews hcc
  go_enter Tryz.func147,Tryz.ntmps147
  go_wp2_with (at_builtin;refine wpList_append_own _ rfl _ _ 66 rfl w.heap.size 63 i0 _ 1 24 Tryz.underlying66 hi hz0 hz1 hz2 rfl (by decide) _ _ _ rfl hown ad n cap cs rfl hl hnews2.out h1.out (by unfold maxLen;omega) (by omega) (by simp) ?_;intro v' w1 hown' hgrow _)
  go_ret
  refine ⟨_,rfl, ?_, ?_⟩
  ·simpa using hown'
  ·exact (below_a1 w _).grown hgrow (by simp) (fun k e=>by have:=(hown.lt k e).1;omega)
theorem infoCMsgRows:(Tryz.prog.info? 66).map (fun i=>(i.zero,i.size,i.bytes)) = some (some (.slice none 0 0),1,24):=by kernel_rfl
set_option maxHeartbeats 400000 in
theorem CloneMsgRows_c {w:World} {v:Value} {n:Nat} {cs:List Value} (h:Row w v n 1 cs) (h1:∀ u ∈ cs,u.oneCell' = true) (hn:n * 24 ≤ 140737488355328) :
  Calls Tryz.prog 144 #[v] w fun e w'=>∃ v',e = .returned v' ∧ w'.ownsRow w.heap.size 66 1 v' n cs ∧ Below w.heap.size w w':=by
 obtain ⟨i0,hi,hz0,hz1,hz2⟩:=info_parts infoCMsgRows
 have hl:=h.1
 obtain ⟨_,hb8,a,cap,rfl,hcap,hcc⟩:=h
 have hnil:=fun w=>Lib.run_eql_slice_nil (P:=Tryz.prog) w 33 66 a n cap 0 0 Tryz.underlying33
 cases a with
 | none =>
  have hn0:n = 0:=by
   rcases Nat.eq_zero_or_pos n with h0 | h0
   ·exact h0
   ·obtain ⟨b,off,e,_⟩:=hcc (by omega);cases e
  subst hn0
  obtain rfl:cs = []:=List.eq_nil_of_length_eq_zero (by simpa using hl)
  simp only [Option.isNone_none] at hnil
  clear hcc h1
  go_enter Tryz.func144,Tryz.ntmps144
  go_wp2_with fail
  go_ret
  exact ⟨_,rfl,World.ownsRow_nil _ _ _ _,Below.refl _ _⟩
 | some ad =>
  simp only [Option.isNone_some] at hnil
  have hnews:=row_news (s:=1) ⟨hl,hb8,some ad,cap,rfl,hcap,hcc⟩
  have hnews2:∀ j u,cs[j]? = some u → (w.alloc (.cells #[] 66)).cell? (ad.add j) = some u:=fun j u hj=>by
   rw [(below_a1 w (.cells #[] 66)).cell (p:=ad.add j) (cell_lt (hnews j u hj))]
   exact hnews j u hj
  have hown:=World.ownsRow_made (base:=w.heap.size) (e:=66) (size:=1) w #[] 0 (Nat.le_refl _) (by simp [maxLen]) (by simp)
  replace hnews2:=Lib.hid hnews2
  replace h1:=Lib.hid h1
  clear hnews hcc
  go_enter Tryz.func144,Tryz.ntmps144
  go_wp2_with (at_builtin;refine wpList_append_own _ rfl _ _ 33 rfl w.heap.size 66 i0 _ 1 24 Tryz.underlying33 hi hz0 hz1 hz2 rfl (by decide) _ _ _ rfl hown ad n cap cs rfl hl hnews2.out h1.out (by unfold maxLen;omega) (by omega) (by simp) ?_;intro v' w1 hown' hgrow _)
  go_ret
  refine ⟨_,rfl, ?_, ?_⟩
  ·simpa using hown'
  ·exact (below_a1 w _).grown hgrow (by simp) (fun k e=>by have:=(hown.lt k e).1;omega)
end Go.Proofs.YtnalakhelicjcaaGreatDoor
