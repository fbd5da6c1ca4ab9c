/-
  Worlds as bytes, in plain words: what is written, what is read, and that these are each other's ways back.
-/
import Derived.Test.YtnalakhelicjcaaVKB
import Derived.Laws.BytesArg
import Derived.Test.YtnalakhelicjcaaVLn
import Derived.Test.YtnalakhelicjcaaVKO
import Derived.Test.YtnalakhelicjcaaVKA
import Derived.Test.YtnalakhelicjcaaVKW
set_option maxRecDepth 100000
namespace Go.Proofs.Ytnalakhelicjcaa
open Go.RowKit

/-- Bytes, as numbers. -/
def octs (l : List Int) : Prop := ∀ x ∈ l, 0 ≤ x ∧ x ≤ 255
def numsOf (s : ByteArray) : List Int := s.data.toList.map fun b => (b.toNat : Int)
theorem numsOf_octs (s : ByteArray) : octs (numsOf s) := fun x hx => by
  obtain ⟨b, _, rfl⟩ := List.mem_map.1 hx
  have := b.toNat_lt
  omega
theorem numsOf_len (s : ByteArray) : (numsOf s).length = s.size := by
  unfold numsOf
  rw [List.length_map, Array.length_toList]
  rfl
theorem str_nums (s : ByteArray) : strOfNums (numsOf s) = s := by
  unfold strOfNums numsOf
  rw [List.map_map]
  have e : ((fun n : Int => UInt8.ofNat n.toNat) ∘ fun b : UInt8 => (b.toNat : Int)) = id := by
    funext b
    simp
  rw [e, List.map_id]
theorem nums_str {l : List Int} (h : octs l) : numsOf (strOfNums l) = l := by
  unfold strOfNums numsOf
  rw [List.toList_toArray, List.map_map]
  refine (List.map_congr_left fun x hx => ?_).trans (List.map_id l)
  have := h x hx
  show ((UInt8.ofNat x.toNat).toNat : Int) = x
  rw [UInt8.toNat_ofNat_of_lt' (by show x.toNat < 256; omega)]
  omega
theorem str_len {l : List Int} : (strOfNums l).size = l.length := by
  show ((l.map _).toArray).size = _
  simp
theorem octs_app {a b : List Int} : octs (a ++ b) ↔ octs a ∧ octs b :=
  ⟨fun h => ⟨fun x hx => h x (List.mem_append_left _ hx), fun x hx => h x (List.mem_append_right _ hx)⟩, fun h x hx => (List.mem_append.1 hx).elim (h.1 x) (h.2 x)⟩

/-- What is written. -/
def bSmall (n : Int) : List Int := [n % 256]
def bWide (n : Int) : List Int := [n / 65536 % 256, n / 256 % 256, n % 256]
def bMsg (m : M) : List Int := bSmall m.src ++ (bSmall m.grp ++ (bSmall (if m.null = true then 1 else 0) ++ (bSmall m.body.size ++ (numsOf m.body ++ bWide m.stamp))))
def bMsgs (l : List M) : List Int := bSmall l.length ++ l.flatMap bMsg
def bNode (x : N) : List Int := bWide x.clock ++ (x.last.flatMap (fun r => r.flatMap bWide) ++ (bMsgs x.held ++ bMsgs x.told))
def bWorld (X : Wd) : List Int := bSmall X.groups.length ++ (X.groups.flatMap bSmall ++ (bSmall X.nodes.length ++ (X.nodes.flatMap bNode ++ X.wires.flatMap (fun r => r.flatMap bMsgs))))

/-- A reader: what it has read, and what is left; or none. -/
abbrev Rdr (α : Type) := List Int → Option (α × List Int)
def bindR {α β : Type} (p : Rdr α) (f : α → Rdr β) : Rdr β := fun l => match p l with
  | none => none
  | some (x, t) => f x t
def pureR {α : Type} (x : α) : Rdr α := fun l => some (x, l)
def failR {α : Type} : Rdr α := fun _ => none
def takeP (n : Nat) : Rdr (List Int) := fun l => if l.length < n then none else some (l.take n, l.drop n)
def smallP : Rdr Int
  | [] => none
  | a :: t => some (a, t)
def wideP : Rdr Int
  | a :: b :: c :: t => some (a * 65536 + b * 256 + c, t)
  | _ => none
def manyP {α : Type} (p : Rdr α) : Nat → Rdr (List α)
  | 0 => pureR []
  | n + 1 => bindR (manyP p n) fun xs => bindR p fun x => pureR (xs ++ [x])
def msgP : Rdr M := bindR smallP fun a => bindR smallP fun g => bindR smallP fun z => if 1 < z then failR else bindR smallP fun n => bindR (takeP n.toNat) fun b => bindR wideP fun s => pureR ⟨a, g, s, z == 1, strOfNums b⟩
def msgsP : Rdr (List M) := bindR smallP fun n => manyP msgP n.toNat
def nodeP (G K : Nat) : Rdr N := bindR wideP fun c => bindR (manyP (manyP wideP K) G) fun r => bindR msgsP fun h => bindR msgsP fun t => pureR ⟨c, r, h, t⟩
def worldP : Rdr Wd := bindR smallP fun g => bindR (manyP smallP g.toNat) fun gs => bindR smallP fun k => bindR (manyP (nodeP gs.length k.toNat) k.toNat) fun ns => bindR (manyP (manyP msgsP k.toNat) k.toNat) fun ws => pureR ⟨gs, ns, ws⟩
def readP (l : List Int) : Option Wd := match worldP l with
  | some (X, []) => if errX X = 0 then some X else none
  | _ => none

theorem bindR_some {α β : Type} {p : Rdr α} {f : α → Rdr β} {l t : List Int} {x : α} (h : p l = some (x, t)) : bindR p f l = f x t := by
  unfold bindR
  rw [h]
theorem bindR_inv {α β : Type} {p : Rdr α} {f : α → Rdr β} {l t : List Int} {y : β} (h : bindR p f l = some (y, t)) : ∃ x u, p l = some (x, u) ∧ f x u = some (y, t) := by
  unfold bindR at h
  split at h
  · cases h
  · rename_i x u e
    exact ⟨x, u, e, h⟩
theorem pureR_inv {α : Type} {x y : α} {l t : List Int} (h : pureR x l = some (y, t)) : x = y ∧ l = t := by
  unfold pureR at h
  simpa using h

/-- A reader is the way back of what writes. -/
structure Rds {α : Type} (p : Rdr α) (b : α → List Int) (ok : α → Prop) : Prop where
  fwd : ∀ x t, ok x → p (b x ++ t) = some (x, t)
  back : ∀ l x t, octs l → p l = some (x, t) → l = b x ++ t
theorem Rds.small : Rds smallP bSmall (fun n => 0 ≤ n ∧ n ≤ 255) where
  fwd := fun x t h => by
    show smallP ([x % 256] ++ t) = _
    rw [Int.emod_eq_of_lt h.1 (by omega)]
    rfl
  back := fun l x t ho h => by
    cases l with
    | nil => cases h
    | cons a u =>
      have h : some (a, u) = some (x, t) := h
      obtain ⟨rfl, rfl⟩ : a = x ∧ u = t := by simpa using h
      have := ho a (List.mem_cons_self ..)
      show _ = [a % 256] ++ u
      rw [Int.emod_eq_of_lt this.1 (by omega)]
      rfl
theorem Rds.wide : Rds wideP bWide (fun n => 0 ≤ n ∧ n < 16777216) where
  fwd := fun x t h => by
    show some (x / 65536 % 256 * 65536 + x / 256 % 256 * 256 + x % 256, t) = some (x, t)
    have e : x / 65536 % 256 * 65536 + x / 256 % 256 * 256 + x % 256 = x := by omega
    rw [e]
  back := fun l x t ho h => by
    match l, h with
    | a :: b :: c :: u, h =>
      have h : some (a * 65536 + b * 256 + c, u) = some (x, t) := h
      obtain ⟨rfl, rfl⟩ : a * 65536 + b * 256 + c = x ∧ u = t := by simpa using h
      have h1 := ho a (by simp)
      have h2 := ho b (by simp)
      have h3 := ho c (by simp)
      show _ = [_, _, _] ++ u
      have e1 : (a * 65536 + b * 256 + c) / 65536 % 256 = a := by omega
      have e2 : (a * 65536 + b * 256 + c) / 256 % 256 = b := by omega
      have e3 : (a * 65536 + b * 256 + c) % 256 = c := by omega
      rw [e1, e2, e3]
      rfl
theorem Rds.many_fwd {α : Type} {p : Rdr α} {b : α → List Int} {ok : α → Prop} (h : Rds p b ok) : ∀ (n : Nat) (xs : List α) (t : List Int), xs.length = n → (∀ x ∈ xs, ok x) → manyP p n (xs.flatMap b ++ t) = some (xs, t)
  | 0, xs, t, hl, _ => by
    obtain rfl := List.eq_nil_of_length_eq_zero hl
    rfl
  | n + 1, xs, t, hl, hx => by
    rcases List.eq_nil_or_concat xs with rfl | ⟨ys, y, rfl⟩
    · simp at hl
    · have h1 := Rds.many_fwd h n ys (b y ++ t) (by simpa using hl) (fun x hx' => hx x (by simp [hx']))
      have e : (ys.concat y).flatMap b ++ t = ys.flatMap b ++ (b y ++ t) := by simp
      rw [e, manyP, bindR_some h1, bindR_some (h.fwd y t (hx y (by simp)))]
      simp [pureR]
theorem Rds.many_back {α : Type} {p : Rdr α} {b : α → List Int} {ok : α → Prop} (h : Rds p b ok) : ∀ (n : Nat) (l : List Int) (xs : List α) (t : List Int), octs l → manyP p n l = some (xs, t) → l = xs.flatMap b ++ t ∧ xs.length = n
  | 0, l, xs, t, _, e => by
    obtain ⟨rfl, rfl⟩ := pureR_inv e
    exact ⟨rfl, rfl⟩
  | n + 1, l, xs, t, ho, e => by
    obtain ⟨ys, u, h1, h2⟩ := bindR_inv e
    obtain ⟨y, v, h3, h4⟩ := bindR_inv h2
    obtain ⟨rfl, rfl⟩ := pureR_inv h4
    obtain ⟨rfl, hl⟩ := Rds.many_back h n l ys u ho h1
    have h5 := h.back u y v (octs_app.1 ho).2 h3
    rw [h5]
    simp [hl]
theorem take_fwd {s : List Int} (t : List Int) : takeP s.length (s ++ t) = some (s, t) := by
  unfold takeP
  rw [if_neg (by simp)]
  simp
theorem take_back {n : Nat} {l s t : List Int} (h : takeP n l = some (s, t)) : l = s ++ t ∧ s.length = n := by
  unfold takeP at h
  split at h
  · cases h
  · rename_i hn
    obtain ⟨rfl, rfl⟩ : l.take n = s ∧ l.drop n = t := by simpa using h
    exact ⟨(List.take_append_drop n l).symm, by rw [List.length_take]; omega⟩
def okM (m : M) : Prop := (0 ≤ m.src ∧ m.src ≤ 255) ∧ (0 ≤ m.grp ∧ m.grp ≤ 255) ∧ m.body.size ≤ 255 ∧ 0 ≤ m.stamp ∧ m.stamp < 16777216
theorem Rds.msg : Rds msgP bMsg okM where
  fwd := fun m t h => by
    obtain ⟨h1, h2, h3, h4⟩ := h
    unfold bMsg
    simp only [List.append_assoc]
    unfold msgP
    rw [bindR_some (Rds.small.fwd _ _ h1), bindR_some (Rds.small.fwd _ _ h2), bindR_some (Rds.small.fwd _ _ (by split <;> omega)), if_neg (by split <;> omega), bindR_some (Rds.small.fwd _ _ (by omega)), Int.toNat_natCast, ← numsOf_len, bindR_some (take_fwd _), bindR_some (Rds.wide.fwd _ _ h4), str_nums]
    obtain ⟨a, g, s, z, b⟩ := m
    cases z <;> rfl
  back := fun l m t ho h => by
    obtain ⟨a, l1, e1, h⟩ := bindR_inv h
    obtain ⟨g, l2, e2, h⟩ := bindR_inv h
    obtain ⟨z, l3, e3, h⟩ := bindR_inv h
    have k1 := Rds.small.back _ _ _ ho e1
    rw [k1] at ho
    have o1 := (octs_app.1 ho).2
    have k2 := Rds.small.back _ _ _ o1 e2
    rw [k2] at o1
    have o2 := (octs_app.1 o1).2
    have k3 := Rds.small.back _ _ _ o2 e3
    have hz : 0 ≤ z := by
      have h5 : ∀ x ∈ l2, 0 ≤ x := fun x hx => (o2 x hx).1
      cases l2 with
      | nil => cases e3
      | cons c u =>
        have e3 : some (c, u) = some (z, l3) := e3
        obtain ⟨rfl, rfl⟩ : c = z ∧ u = l3 := by simpa using e3
        exact h5 c (List.mem_cons_self ..)
    rw [k3] at o2
    have o3 := (octs_app.1 o2).2
    split at h
    · cases h
    · rename_i hz1
      obtain ⟨n, l4, e4, h⟩ := bindR_inv h
      have k4 := Rds.small.back _ _ _ o3 e4
      have hn : 0 ≤ n ∧ n ≤ 255 := by
        cases l3 with
        | nil => cases e4
        | cons c u =>
          have e4 : some (c, u) = some (n, l4) := e4
          obtain ⟨rfl, rfl⟩ : c = n ∧ u = l4 := by simpa using e4
          exact o3 c (List.mem_cons_self ..)
      rw [k4] at o3
      have o4 := (octs_app.1 o3).2
      obtain ⟨b, l5, e5, h⟩ := bindR_inv h
      obtain ⟨k5, hb⟩ := take_back e5
      rw [k5] at o4
      obtain ⟨s, l6, e6, h⟩ := bindR_inv h
      have k6 := Rds.wide.back _ _ _ (octs_app.1 o4).2 e6
      obtain ⟨rfl, rfl⟩ := pureR_inv h
      unfold bMsg
      simp only [List.append_assoc]
      rw [nums_str (octs_app.1 o4).1, str_len, hb, k1, k2, k3, k4, k5, k6]
      have ez : (if (z == 1) = true then (1 : Int) else 0) = z := by
        by_cases e : z = 1
        · simp [e]
        · have : z = 0 := by omega
          simp [this]
      have en : ((n.toNat : Nat) : Int) = n := by omega
      rw [ez, en]
def okL (l : List M) : Prop := l.length ≤ 255 ∧ ∀ m ∈ l, okM m
theorem small_at {l t : List Int} {n : Int} (ho : octs l) (h : smallP l = some (n, t)) : 0 ≤ n ∧ n ≤ 255 := by
  cases l with
  | nil => cases h
  | cons c u =>
    have h : some (c, u) = some (n, t) := h
    obtain ⟨rfl, rfl⟩ : c = n ∧ u = t := by simpa using h
    exact ho c (List.mem_cons_self ..)
theorem Rds.msgs : Rds msgsP bMsgs okL where
  fwd := fun l t h => by
    unfold bMsgs
    simp only [List.append_assoc]
    unfold msgsP
    rw [bindR_some (Rds.small.fwd _ _ (by have := h.1; omega)), Int.toNat_natCast]
    exact Rds.msg.many_fwd _ _ _ rfl h.2
  back := fun l x t ho h => by
    obtain ⟨n, l1, e1, h⟩ := bindR_inv h
    have k1 := Rds.small.back _ _ _ ho e1
    have hn := small_at ho e1
    rw [k1] at ho
    obtain ⟨k2, hl⟩ := Rds.msg.many_back _ _ _ _ (octs_app.1 ho).2 h
    unfold bMsgs
    rw [List.append_assoc, hl, k1, k2]
    have en : ((n.toNat : Nat) : Int) = n := by omega
    rw [en]
theorem Rds.rows {α : Type} {p : Rdr α} {b : α → List Int} {ok : α → Prop} (h : Rds p b ok) (K : Nat) : Rds (manyP p K) (fun r => r.flatMap b) (fun r => r.length = K ∧ ∀ x ∈ r, ok x) where
  fwd := fun _ _ hr => h.many_fwd _ _ _ hr.1 hr.2
  back := fun _ _ _ ho e => (h.many_back _ _ _ _ ho e).1
def okW (n : Int) : Prop := 0 ≤ n ∧ n < 16777216
def okN (G K : Nat) (x : N) : Prop := okW x.clock ∧ (x.last.length = G ∧ ∀ r ∈ x.last, r.length = K ∧ ∀ n ∈ r, okW n) ∧ okL x.held ∧ okL x.told
theorem Rds.node (G K : Nat) : Rds (nodeP G K) bNode (okN G K) where
  fwd := fun x t h => by
    obtain ⟨h1, h2, h3, h4⟩ := h
    unfold bNode
    simp only [List.append_assoc]
    unfold nodeP
    rw [bindR_some (Rds.wide.fwd _ _ h1), bindR_some (((Rds.wide.rows K).rows G).fwd _ _ h2), bindR_some (Rds.msgs.fwd _ _ h3), bindR_some (Rds.msgs.fwd _ _ h4)]
    rfl
  back := fun l x t ho h => by
    obtain ⟨c, l1, e1, h⟩ := bindR_inv h
    obtain ⟨r, l2, e2, h⟩ := bindR_inv h
    obtain ⟨a, l3, e3, h⟩ := bindR_inv h
    obtain ⟨b, l4, e4, h⟩ := bindR_inv h
    obtain ⟨rfl, rfl⟩ := pureR_inv h
    have k1 := Rds.wide.back _ _ _ ho e1
    rw [k1] at ho
    have o1 := (octs_app.1 ho).2
    have k2 := ((Rds.wide.rows K).rows G).back _ _ _ o1 e2
    rw [k2] at o1
    have o2 := (octs_app.1 o1).2
    have k3 := Rds.msgs.back _ _ _ o2 e3
    rw [k3] at o2
    have k4 := Rds.msgs.back _ _ _ (octs_app.1 o2).2 e4
    unfold bNode
    simp only [List.append_assoc]
    rw [k1, k2, k3, k4]
def okX (X : Wd) : Prop := (X.groups.length ≤ 255 ∧ ∀ g ∈ X.groups, 0 ≤ g ∧ g ≤ 255) ∧ X.nodes.length ≤ 255 ∧ (∀ x ∈ X.nodes, okN X.groups.length X.nodes.length x) ∧ X.wires.length = X.nodes.length ∧ ∀ r ∈ X.wires, r.length = X.nodes.length ∧ ∀ l ∈ r, okL l
theorem Rds.world : Rds worldP bWorld okX where
  fwd := fun X t h => by
    obtain ⟨h1, h2, h3, h4, h5⟩ := h
    unfold bWorld
    simp only [List.append_assoc]
    unfold worldP
    rw [bindR_some (Rds.small.fwd _ _ (by omega)), Int.toNat_natCast, bindR_some (Rds.small.many_fwd _ _ _ rfl h1.2), bindR_some (Rds.small.fwd _ _ (by omega)), Int.toNat_natCast,
      bindR_some ((Rds.node _ _).many_fwd _ _ _ rfl h3), bindR_some ((Rds.msgs.rows _).many_fwd _ _ _ h4 h5)]
    rfl
  back := fun l X t ho h => by
    obtain ⟨g, l1, e1, h⟩ := bindR_inv h
    obtain ⟨gs, l2, e2, h⟩ := bindR_inv h
    obtain ⟨k, l3, e3, h⟩ := bindR_inv h
    obtain ⟨ns, l4, e4, h⟩ := bindR_inv h
    obtain ⟨ws, l5, e5, h⟩ := bindR_inv h
    obtain ⟨rfl, rfl⟩ := pureR_inv h
    have hg := small_at ho e1
    have k1 := Rds.small.back _ _ _ ho e1
    rw [k1] at ho
    have o1 := (octs_app.1 ho).2
    obtain ⟨k2, n2⟩ := Rds.small.many_back _ _ _ _ o1 e2
    rw [k2] at o1
    have o2 := (octs_app.1 o1).2
    have hk := small_at o2 e3
    have k3 := Rds.small.back _ _ _ o2 e3
    rw [k3] at o2
    have o3 := (octs_app.1 o2).2
    obtain ⟨k4, n4⟩ := (Rds.node _ _).many_back _ _ _ _ o3 e4
    rw [k4] at o3
    obtain ⟨k5, _⟩ := (Rds.msgs.rows _).many_back _ _ _ _ (octs_app.1 o3).2 e5
    unfold bWorld
    simp only [List.append_assoc]
    rw [n2, n4, k1, k2, k3, k4, k5]
    have eg : ((g.toNat : Nat) : Int) = g := by omega
    have ek : ((k.toNat : Nat) : Int) = k := by omega
    rw [eg, ek]
end Go.Proofs.Ytnalakhelicjcaa
set_option maxRecDepth 100000
namespace Go.Proofs.Ytnalakhelicjcaa
open Go.RowKit Go.Shelf Go.BigFrame Go.Deep

/-- The glass in block G; what it has left. -/
def Glass (w : World) (G : Nat) (l : List Int) : Prop := octs l ∧ BlkIs w G 93 1 ∧ w.cell? ⟨G, 0, none⟩ = some (.string (strOfNums l))
def shortE : PanicEntry := { v := .iface 104 (.agg #[]), recovered := false }
theorem str_take (l : List Int) (k : Nat) : (strOfNums l).extract 0 k = strOfNums (l.take k) := by
  unfold strOfNums
  apply ByteArray.ext
  simp
theorem str_drop (l : List Int) (k : Nat) : (strOfNums l).extract k l.length = strOfNums (l.drop k) := by
  unfold strOfNums
  apply ByteArray.ext
  apply Array.ext'
  simp [List.take_of_length_le]
theorem octs_drop {l : List Int} (h : octs l) (k : Nat) : octs (l.drop k) := fun x hx => h x (List.mem_of_mem_drop hx)
theorem octs_take {l : List Int} (h : octs l) (k : Nat) : octs (l.take k) := fun x hx => h x (List.mem_of_mem_take hx)
theorem Glass.put {w : World} {G : Nat} {l t : List Int} (h : Glass w G l) (ht : octs t) : Glass (w.setCell ⟨G, 0, none⟩ (.string (strOfNums t))) G t :=
  ⟨ht, h.2.1.setCell, h.2.1.cell_set (by omega)⟩
theorem Glass.lt {w : World} {G : Nat} {l : List Int} (h : Glass w G l) : G < w.heap.size := h.2.1.lt
theorem Glass.keep {w w' : World} {G : Nat} {l : List Int} (h : Glass w G l) (k : w'.heap[G]? = w.heap[G]?) : Glass w' G l :=
  ⟨h.1, h.2.1.same k, (World.cell?_of_block (w := w) (a := ⟨G, 0, none⟩) k).trans h.2.2⟩
theorem save_cell {w : World} {G : Nat} {v : Value} : Save (fun b => b = G) w (w.setCell ⟨G, 0, none⟩ v) :=
  ⟨rfl, rfl, rfl, by rw [Go.Deep.nblk_setCell]; exact Nat.le_refl _, fun _ _ hn => Go.Deep.blk_setCell_other _ _ _ _ hn⟩
theorem take_c {w : World} {G : Nat} {l : List Int} (h : Glass w G l) (k : Nat) (hk : k ≤ 255) : Calls Try.prog 82 #[.pointer (some ⟨G, 0, none⟩), .int .i64 k] w (fun e w' =>
    (l.length < k ∧ e = .panicked [shortE] ∧ w' = w) ∨ (k ≤ l.length ∧ e = .returned (.string (strOfNums (l.take k))) ∧ w' = w.setCell ⟨G, 0, none⟩ (.string (strOfNums (l.drop k))))) := by
  obtain ⟨_, hB, h0⟩ := h
  have hf := hB.frozen 0
  have hl := str_len (l := l)
  go_enter Try.func82, Try.ntmps82
  by_cases hlt : l.length < k
  · go_wp2_with fail
    exact ⟨rfl, Or.inl ⟨hlt, rfl, rfl⟩⟩
  · go_wp2_with fail
    go_ret
    exact Or.inr ⟨by omega, by rw [str_take]; rfl, by rw [str_drop]⟩
theorem str_at {l : List Int} {i : Nat} (h : i < (strOfNums l).size) (ho : octs l) : (((strOfNums l)[i]).toNat : Int) = l[i]'(by rwa [str_len] at h) := by
  have h' : i < l.length := by rwa [str_len] at h
  have := ho l[i] (List.getElem_mem _)
  show (((l.map fun n => UInt8.ofNat n.toNat).toArray[i]'(by simpa using h')).toNat : Int) = _
  simp only [List.getElem_toArray, List.getElem_map]
  rw [UInt8.toNat_ofNat_of_lt' (by show _ < 256; omega)]
  omega
/-- What a reader of the program answers. -/
def RdPost {α : Type} (w : World) (G : Nat) (r : Option (α × List Int)) (V : World → Value → α → Prop) (e : Ending) (w' : World) : Prop :=
  Save (fun b => b = G) w w' ∧ ((r = none ∧ e = .panicked [shortE]) ∨ ∃ x t v, r = some (x, t) ∧ e = .returned v ∧ V w' v x ∧ Glass w' G t)
theorem small_c {w : World} {G : Nat} {l : List Int} (h : Glass w G l) : Calls Try.prog 46 #[.pointer (some ⟨G, 0, none⟩)] w (RdPost w G (smallP l) (fun _ v x => v = .int .i64 x ∧ 0 ≤ x ∧ x ≤ 255)) := by
  have hT := take_c h 1 (by omega)
  go_enter Try.func46, Try.ntmps46
  cases l with
  | nil =>
    go_wp2_with fail
    refine hT.mono ?_
    rintro e w1 (⟨_, rfl, rfl⟩ | ⟨h1, _⟩)
    · exact ⟨rfl, Save.refl _ _, Or.inl ⟨rfl, rfl⟩⟩
    · simp at h1
  | cons a t =>
    have ha := h.1 a (List.mem_cons_self ..)
    go_wp2_with fail
    refine hT.mono ?_
    rintro e w1 (⟨h1, _⟩ | ⟨_, rfl, rfl⟩)
    · simp at h1
    have h1 := str_len (l := [a])
    have h2 := str_at (l := [a]) (i := 0) (by rw [str_len]; simp) (octs_take h.1 1)
    simp only [List.take_succ_cons, List.take_zero, List.drop_succ_cons, List.drop_zero, List.length_cons, List.length_nil, Nat.zero_add] at h1 ⊢
    go_wp2_with fail
    go_ret
    refine ⟨save_cell, Or.inr ⟨a, t, _, rfl, rfl, ⟨?_, ha⟩, h.put (octs_drop h.1 1)⟩⟩
    rfl
theorem ofInt64 (a : Nat) (ha : a < 18446744073709551616) : (BitVec.ofInt 64 (a : Int)).toNat = a := by
  rw [BitVec.toNat_ofInt]
  omega
theorem or64 (x k b : Nat) (hb : b < 2 ^ k) (hs : x * 2 ^ k + b < 4611686018427387904) : bits .or .i64 ((x * 2 ^ k : Nat) : Int) (b : Int) = ((x * 2 ^ k + b : Nat) : Int) := by
  show IntKind.i64.wrap ((BitVec.ofInt 64 ((x * 2 ^ k : Nat) : Int) ||| BitVec.ofInt 64 (b : Int)).toNat : Int) = _
  rw [BitVec.toNat_or, ofInt64 _ (by omega), ofInt64 b (by omega), ← Nat.shiftLeft_eq, ← Nat.shiftLeft_add_eq_or_of_lt hb, Nat.shiftLeft_eq]
  exact IntWalk.i64_in _ (by omega)
theorem or_wide {a b c : Int} (ha : 0 ≤ a ∧ a ≤ 255) (hb : 0 ≤ b ∧ b ≤ 255) (hc : 0 ≤ c ∧ c ≤ 255) : bits .or .i64 (bits .or .i64 (a * 65536) (b * 256)) c = a * 65536 + b * 256 + c := by
  obtain ⟨x, rfl⟩ := Int.eq_ofNat_of_zero_le ha.1
  obtain ⟨y, rfl⟩ := Int.eq_ofNat_of_zero_le hb.1
  obtain ⟨z, rfl⟩ := Int.eq_ofNat_of_zero_le hc.1
  have h1 := or64 x 16 (y * 256) (by omega) (by omega)
  have h2 := or64 (x * 256 + y) 8 z (by omega) (by omega)
  simp only [Nat.reducePow] at h1 h2
  have e1 : ((x * 65536 : Nat) : Int) = (x : Int) * 65536 := by omega
  have e2 : ((y * 256 : Nat) : Int) = (y : Int) * 256 := by omega
  have e3 : x * 65536 + y * 256 = (x * 256 + y) * 256 := by omega
  rw [e1, e2] at h1
  rw [h1, e3, h2]
  omega
theorem wideP_short : ∀ {l : List Int}, l.length < 3 → wideP l = none
  | [], _ => rfl
  | [_], _ => rfl
  | [_, _], _ => rfl
  | _ :: _ :: _ :: _, h => absurd h (by simp)
theorem wide_c {w : World} {G : Nat} {l : List Int} (h : Glass w G l) : Calls Try.prog 49 #[.pointer (some ⟨G, 0, none⟩)] w (RdPost w G (wideP l) (fun _ v x => v = .int .i64 x ∧ 0 ≤ x ∧ x < 16777216)) := by
  have hT := take_c h 3 (by omega)
  go_enter Try.func49, Try.ntmps49
  by_cases hl : l.length < 3
  · go_wp2_with fail
    refine hT.mono ?_
    rintro e w1 (⟨_, rfl, rfl⟩ | ⟨h1, _⟩)
    · exact ⟨rfl, Save.refl _ _, Or.inl ⟨wideP_short hl, rfl⟩⟩
    · omega
  · obtain ⟨a, b, c, t, rfl⟩ : ∃ a b c t, l = a :: b :: c :: t := by
      match l, hl with
      | a :: b :: c :: t, _ => exact ⟨a, b, c, t, rfl⟩
      | [], h => exact absurd (by simp) h
      | [_], h => exact absurd (by simp) h
      | [_, _], h => exact absurd (by simp) h
    · have ha := h.1 a (by simp)
      have hb := h.1 b (by simp)
      have hc := h.1 c (by simp)
      go_wp2_with fail
      refine hT.mono ?_
      rintro e w1 (⟨h1, _⟩ | ⟨_, rfl, rfl⟩)
      · simp at h1; omega
      have ho : octs [a, b, c] := octs_take h.1 3
      have h1 := str_len (l := [a, b, c])
      have h2 := str_at (l := [a, b, c]) (i := 0) (by rw [str_len]; simp) ho
      have h3 := str_at (l := [a, b, c]) (i := 1) (by rw [str_len]; simp) ho
      have h4 := str_at (l := [a, b, c]) (i := 2) (by rw [str_len]; simp) ho
      simp only [List.take_succ_cons, List.take_zero, List.drop_succ_cons, List.drop_zero, List.length_cons, List.length_nil, Nat.zero_add, Nat.reduceAdd, List.getElem_cons_zero, List.getElem_cons_succ] at h1 h2 h3 h4 ⊢
      go_wp2_with fail
      go_quiet (fail)
      go_wp2_with fail
      go_ret
      have hn : ((w.setCell ⟨G, 0, none⟩ (.string (strOfNums t))).drewN nq).heap[G]? = (w.setCell ⟨G, 0, none⟩ (.string (strOfNums t))).heap[G]? := rfl
      refine ⟨⟨rfl, rfl, rfl, save_cell.size, save_cell.block⟩, Or.inr ⟨a * 65536 + b * 256 + c, t, _, rfl, rfl, ⟨?_, by omega, by omega⟩, (h.put (octs_drop h.1 3)).keep hn⟩⟩
      rw [or_wide ha hb hc]
      rfl
end Go.Proofs.Ytnalakhelicjcaa
set_option maxRecDepth 100000
namespace Go.Proofs.Ytnalakhelicjcaa
open Go.RowKit Go.Shelf Go.BigFrame Go.Deep

/-- A value of its own: its blocks are new. -/
def ElV {α : Type} (El : ElO α) (mk : List Value → Value) (w w' : World) (v : Value) (x : α) : Prop := ∃ T cs, v = mk cs ∧ El w' T cs x ∧ ∀ b, T b → w.heap.size ≤ b ∧ b < w'.heap.size
def one1 (cs : List Value) : Value := cs.getD 0 undef
def oneA (cs : List Value) : Value := .agg cs.toArray
def ListV {α : Type} (El : ElO α) (e : TypeId) (s : Nat) (w w' : World) (v : Value) (xs : List α) : Prop := ∃ S, OSl El true e s w' S v xs ∧ ∀ b, S b → w.heap.size ≤ b ∧ b < w'.heap.size
/-- What a function value reads, wherever the glass stands and else all lies as it lay in w. -/
def OneC {α : Type} (g : Nat) (la : Array Value) (G : Nat) (w : World) (p : Rdr α) (V : World → World → Value → α → Prop) : Prop :=
  (∀ args w, (callFunc g args).run Try.prog w = .ok (.enter g args) w) ∧ ∀ W l, Glass W G l → Save (fun b => b = G) w W → Calls Try.prog g la W (RdPost W G (p l) (V W))
theorem manyP_none {α : Type} {p : Rdr α} {l : List Int} {k : Nat} (h : manyP p k l = none) : ∀ n, k ≤ n → manyP p n l = none
  | 0, hn => by
    obtain rfl : k = 0 := by omega
    exact h
  | n + 1, hn => by
    by_cases e : k = n + 1
    · subst e; exact h
    · have := manyP_none h n (by omega)
      rw [manyP, bindR, this]
theorem manyP_len {α : Type} {p : Rdr α} {l t : List Int} : ∀ {n : Nat} {xs : List α}, manyP p n l = some (xs, t) → xs.length = n
  | 0, xs, h => by
    obtain ⟨rfl, _⟩ := pureR_inv h
    rfl
  | n + 1, xs, h => by
    obtain ⟨ys, u, h1, h2⟩ := bindR_inv h
    obtain ⟨y, v, h3, h4⟩ := bindR_inv h2
    obtain ⟨rfl, rfl⟩ := pureR_inv h4
    simp [manyP_len h1]
theorem manyP_succ {α : Type} {p : Rdr α} {l t : List Int} {n : Nat} {xs : List α} (h : manyP p n l = some (xs, t)) : manyP p (n + 1) l = match p t with
    | none => none
    | some (x, u) => some (xs ++ [x], u) := by
  rw [manyP, bindR_some h]
  unfold bindR pureR
  rfl
theorem Save.then {S : Nat → Prop} {w w1 w2 : World} (h : Save S w w1) (k : Below w.heap.size w1 w2) : Save S w w2 :=
  ⟨k.os.trans h.os, k.tape.trans h.tape, k.output.trans h.output, Nat.le_trans h.size k.size, fun b hb hn => (k.block b hb).trans (h.block b hb hn)⟩
set_option maxHeartbeats 1000000 in
theorem list_int_c {w : World} {G : Nat} {l : List Int} (h : Glass w G l) {n : Nat} (hn : n ≤ 255) {g : Nat} {fa fb : Array Value} {p : Rdr _} (h1 : OneC g (fa ++ fb) G w p (ElV IntEl one1)) :
    Calls Try.prog 45 #[.int .i64 n, .func (.func g) fa fb] w (RdPost w G (manyP p n l) (ListV IntEl 3 1 w)) := by
  obtain ⟨eg, hp⟩ := h1
  obtain ⟨i0, hi0, hz0, hz1, hz2⟩ := info_parts infoCInt
  obtain ⟨P, hP⟩ : ∃ P, RdPost w G (manyP p n l) (ListV IntEl 3 1 w) = P := ⟨_, rfl⟩
  rw [hP]
  have hGl := h.lt
  replace hP := Lib.hid hP
  replace hp := Lib.hid hp
  go_enter Try.func45, Try.ntmps45
  go_upto_region 3 with fail
  go_loopw [5, 7] (fun v i wr => ∃ k xs t, k ≤ n ∧ i = .int .i64 (k : Nat) ∧ Hid (manyP p k l = some (xs, t)) ∧ ListV IntEl 3 1 w wr v xs ∧ Glass wr G t ∧ Save (fun b => b = G) w wr) (fun _ i _ => n - (intOf i).toNat)
  case atStart => exact ⟨0, [], l, by omega, rfl, Lib.hid rfl, ⟨fun _ => False, OSl.nil _ _ _ _ _ _, fun _ hb => hb.elim⟩, h, Save.refl _ _⟩
  case round =>
    clear h
    obtain ⟨k, xs, t, hk, rfl, hm, ⟨S, hO, hS⟩, hG, hv⟩ := hrel
    have hxl := manyP_len hm.out
    by_cases hlt : k < n
    · have e1 : decide ((k : Int) < (n : Int)) = true := decide_eq_true (by omega)
      have hC := hp.out wr t hG hv
      have hms := manyP_succ hm.out
      obtain ⟨a, c, rfl, _, _⟩ := OSl.form hO
      have hx8 : xs.length ≤ 255 := by omega
      replace hms := Lib.hid hms
      replace hxl := Lib.hid hxl
      go_wp2_with (first
        | (go_at_fn g; refine hC.mono ?_; rintro e w1 ⟨hv1, hr⟩; rcases hr with ⟨hr, rfl⟩ | ⟨x, u, v, hr, rfl, ⟨T, cs, rfl, hE, hT⟩, hG1⟩; all_goals (try (obtain ⟨rfl, hi⟩ := hE)); all_goals (try simp only [one1, List.getD_cons_zero]))
        | (at_builtin; have hE2 := IntEl.stays w1 (w1.alloc (.cells #[.int .i64 x] 3)) T _ x ⟨rfl, hi⟩ (fun b hb => (below_a1 w1 (.cells #[.int .i64 x] 3)).block b (hT b hb).2); have hO2 := OSl.keep IntEl.stays hO (w' := w1.alloc (.cells #[.int .i64 x] 3)) (fun b hb => ((below_a1 w1 (.cells #[.int .i64 x] 3)).block b (Nat.lt_of_lt_of_le (hS b hb).2 hv1.size)).trans (hv1.block b (hS b hb).2 (fun e => by have h9 := (hS b hb).1; rw [e] at h9; omega))); refine wpList_push _ rfl _ _ 22 rfl 3 i0 _ 1 8 Try.underlying22 hi0 hz0 hz1 hz2 rfl (by decide) IntEl.stays _ rfl S xs hO2 (fun b hb => Nat.lt_of_lt_of_le (hS b hb).2 (Nat.le_trans hv1.size (below_a1 w1 _).size)) ⟨w1.heap.size, 0, none⟩ _ rfl [.int .i64 x] rfl (cells_new _ _ _) (by simp [Value.oneCell']) T x hE2 (fun b hb => ⟨fun hs => by have := (hS b hs).2; have := (hT b hb).1; omega, Nat.lt_of_lt_of_le (hT b hb).2 (below_a1 w1 _).size⟩) (by omega) (by omega) (by omega) ?_; intro v3 w3 hp3; obtain ⟨⟨S3, hO3, hS3⟩, hz3, hL3, hB3, a3, cap3, rfl⟩ := hp3))
      · refine ⟨rfl, ?_⟩
        rw [← hP.out]
        have e := hms.out
        rw [hr] at e
        exact ⟨hv.trans hv1 (fun _ h _ => h), Or.inl ⟨manyP_none e n (by omega), rfl⟩⟩
      · go_roundw
        case rel =>
          have e := hms.out
          rw [hr] at e
          have hs1 := hv1.size
          have hs0 := hv.size
          have hsa := (below_a1 w1 (.cells #[.int .i64 x] 3)).size
          have hSG : ¬ S G := fun hs => by have := (hS G hs).1; omega
          refine ⟨k + 1, xs ++ [x], u, by omega, by go_num, Lib.hid e, ⟨S3, hO3, fun b hb => ⟨?_, (hS3 b hb).2⟩⟩, hG1.keep ((hL3 G ⟨by omega, hSG⟩).trans ((below_a1 w1 (.cells #[.int .i64 x] 3)).block G hG1.lt)), (hv.trans hv1 (fun _ h _ => h)).then (((below_a1 w1 (.cells #[.int .i64 x] 3)).mono (by omega)).trans (hB3 w.heap.size (fun b hb => (hS b hb).1) (by omega)))⟩
          rcases (hS3 b hb).1 with h1 | h1 | h1
          · exact (hS b h1).1
          · have := (hT b h1).1; omega
          · omega
        case measure => simp [intOf]; omega
    · have hke : k = n := by omega
      have e1 : decide ((k : Int) < (n : Int)) = false := decide_eq_false (by omega)
      go_wp2_with fail
      rw [← hP.out]
      rw [hke] at hm
      exact ⟨hv, Or.inr ⟨xs, t, _, hm.out, rfl, ⟨S, hO, hS⟩, hG⟩⟩
set_option maxHeartbeats 1000000 in
theorem list_ints_c {w : World} {G : Nat} {l : List Int} (h : Glass w G l) {n : Nat} (hn : n ≤ 255) {g : Nat} {fa fb : Array Value} {p : Rdr _} (h1 : OneC g (fa ++ fb) G w p (ElV OIntsEl one1)) :
    Calls Try.prog 50 #[.int .i64 n, .func (.func g) fa fb] w (RdPost w G (manyP p n l) (ListV OIntsEl 22 1 w)) := by
  obtain ⟨eg, hp⟩ := h1
  obtain ⟨i0, hi0, hz0, hz1, hz2⟩ := info_parts infoCIntRow
  obtain ⟨P, hP⟩ : ∃ P, RdPost w G (manyP p n l) (ListV OIntsEl 22 1 w) = P := ⟨_, rfl⟩
  rw [hP]
  have hGl := h.lt
  replace hP := Lib.hid hP
  replace hp := Lib.hid hp
  go_enter Try.func50, Try.ntmps50
  go_upto_region 3 with fail
  go_loopw [5, 7] (fun v i wr => ∃ k xs t, k ≤ n ∧ i = .int .i64 (k : Nat) ∧ Hid (manyP p k l = some (xs, t)) ∧ ListV OIntsEl 22 1 w wr v xs ∧ Glass wr G t ∧ Save (fun b => b = G) w wr) (fun _ i _ => n - (intOf i).toNat)
  case atStart => exact ⟨0, [], l, by omega, rfl, Lib.hid rfl, ⟨fun _ => False, OSl.nil _ _ _ _ _ _, fun _ hb => hb.elim⟩, h, Save.refl _ _⟩
  case round =>
    clear h
    obtain ⟨k, xs, t, hk, rfl, hm, ⟨S, hO, hS⟩, hG, hv⟩ := hrel
    have hxl := manyP_len hm.out
    by_cases hlt : k < n
    · have e1 : decide ((k : Int) < (n : Int)) = true := decide_eq_true (by omega)
      have hC := hp.out wr t hG hv
      have hms := manyP_succ hm.out
      obtain ⟨a, c, rfl, _, _⟩ := OSl.form hO
      have hx8 : xs.length ≤ 255 := by omega
      replace hms := Lib.hid hms
      replace hxl := Lib.hid hxl
      go_wp2_with (first
        | (go_at_fn g; refine hC.mono ?_; rintro e w1 ⟨hv1, hr⟩; rcases hr with ⟨hr, rfl⟩ | ⟨x, u, v, hr, rfl, ⟨T, cs, rfl, hE, hT⟩, hG1⟩; all_goals (try (obtain ⟨u9, rfl, hu⟩ := hE; obtain ⟨a9, c9, rfl, _, _⟩ := OSl.form hu)); all_goals (try simp only [one1, List.getD_cons_zero]))
        | (at_builtin; have hE2 := OIntsEl.stays w1 (w1.alloc (.cells #[.slice a9 x.length c9] 22)) T _ x ⟨_, rfl, hu⟩ (fun b hb => (below_a1 w1 (.cells #[.slice a9 x.length c9] 22)).block b (hT b hb).2); have hO2 := OSl.keep OIntsEl.stays hO (w' := w1.alloc (.cells #[.slice a9 x.length c9] 22)) (fun b hb => ((below_a1 w1 (.cells #[.slice a9 x.length c9] 22)).block b (Nat.lt_of_lt_of_le (hS b hb).2 hv1.size)).trans (hv1.block b (hS b hb).2 (fun e => by have h9 := (hS b hb).1; rw [e] at h9; omega))); refine wpList_push _ rfl _ _ 77 rfl 22 i0 _ 1 24 Try.underlying77 hi0 hz0 hz1 hz2 rfl (by decide) OIntsEl.stays _ rfl S xs hO2 (fun b hb => Nat.lt_of_lt_of_le (hS b hb).2 (Nat.le_trans hv1.size (below_a1 w1 _).size)) ⟨w1.heap.size, 0, none⟩ _ rfl [.slice a9 x.length c9] rfl (cells_new _ _ _) (by simp [Value.oneCell']) T x hE2 (fun b hb => ⟨fun hs => by have := (hS b hs).2; have := (hT b hb).1; omega, Nat.lt_of_lt_of_le (hT b hb).2 (below_a1 w1 _).size⟩) (by omega) (by omega) (by omega) ?_; intro v3 w3 hp3; obtain ⟨⟨S3, hO3, hS3⟩, hz3, hL3, hB3, a3, cap3, rfl⟩ := hp3))
      · refine ⟨rfl, ?_⟩
        rw [← hP.out]
        have e := hms.out
        rw [hr] at e
        exact ⟨hv.trans hv1 (fun _ h _ => h), Or.inl ⟨manyP_none e n (by omega), rfl⟩⟩
      · go_roundw
        case rel =>
          have e := hms.out
          rw [hr] at e
          have hs1 := hv1.size
          have hs0 := hv.size
          have hsa := (below_a1 w1 (.cells #[.slice a9 x.length c9] 22)).size
          have hSG : ¬ S G := fun hs => by have := (hS G hs).1; omega
          refine ⟨k + 1, xs ++ [x], u, by omega, by go_num, Lib.hid e, ⟨S3, hO3, fun b hb => ⟨?_, (hS3 b hb).2⟩⟩, hG1.keep ((hL3 G ⟨by omega, hSG⟩).trans ((below_a1 w1 (.cells #[.slice a9 x.length c9] 22)).block G hG1.lt)), (hv.trans hv1 (fun _ h _ => h)).then (((below_a1 w1 (.cells #[.slice a9 x.length c9] 22)).mono (by omega)).trans (hB3 w.heap.size (fun b hb => (hS b hb).1) (by omega)))⟩
          rcases (hS3 b hb).1 with h1 | h1 | h1
          · exact (hS b h1).1
          · have := (hT b h1).1; omega
          · omega
        case measure => simp [intOf]; omega
    · have hke : k = n := by omega
      have e1 : decide ((k : Int) < (n : Int)) = false := decide_eq_false (by omega)
      go_wp2_with fail
      rw [← hP.out]
      rw [hke] at hm
      exact ⟨hv, Or.inr ⟨xs, t, _, hm.out, rfl, ⟨S, hO, hS⟩, hG⟩⟩
set_option maxHeartbeats 1000000 in
theorem list_msg_c {w : World} {G : Nat} {l : List Int} (h : Glass w G l) {n : Nat} (hn : n ≤ 255) {g : Nat} {fa fb : Array Value} {p : Rdr _} (h1 : OneC g (fa ++ fb) G w p (ElV MEl oneA)) :
    Calls Try.prog 83 #[.int .i64 n, .func (.func g) fa fb] w (RdPost w G (manyP p n l) (ListV MEl 33 5 w)) := by
  obtain ⟨eg, hp⟩ := h1
  obtain ⟨i0, hi0, hz0, hz1, hz2⟩ := info_parts infoCMsg
  obtain ⟨P, hP⟩ : ∃ P, RdPost w G (manyP p n l) (ListV MEl 33 5 w) = P := ⟨_, rfl⟩
  rw [hP]
  have hGl := h.lt
  replace hP := Lib.hid hP
  replace hp := Lib.hid hp
  go_enter Try.func83, Try.ntmps83
  go_upto_region 3 with fail
  go_loopw [5, 7] (fun v i wr => ∃ k xs t, k ≤ n ∧ i = .int .i64 (k : Nat) ∧ Hid (manyP p k l = some (xs, t)) ∧ ListV MEl 33 5 w wr v xs ∧ Glass wr G t ∧ Save (fun b => b = G) w wr) (fun _ i _ => n - (intOf i).toNat)
  case atStart => exact ⟨0, [], l, by omega, rfl, Lib.hid rfl, ⟨fun _ => False, OSl.nil _ _ _ _ _ _, fun _ hb => hb.elim⟩, h, Save.refl _ _⟩
  case round =>
    clear h
    obtain ⟨k, xs, t, hk, rfl, hm, ⟨S, hO, hS⟩, hG, hv⟩ := hrel
    have hxl := manyP_len hm.out
    by_cases hlt : k < n
    · have e1 : decide ((k : Int) < (n : Int)) = true := decide_eq_true (by omega)
      have hC := hp.out wr t hG hv
      have hms := manyP_succ hm.out
      obtain ⟨a, c, rfl, _, _⟩ := OSl.form hO
      have hx8 : xs.length ≤ 255 := by omega
      replace hms := Lib.hid hms
      replace hxl := Lib.hid hxl
      go_wp2_with (first
        | (go_at_fn g; refine hC.mono ?_; rintro e w1 ⟨hv1, hr⟩; rcases hr with ⟨hr, rfl⟩ | ⟨x, u, v, hr, rfl, ⟨T, cs, rfl, hE, hT⟩, hG1⟩; all_goals (try (obtain ⟨rfl, hi⟩ := hE)); all_goals (try simp only [oneA, M.cells]))
        | (at_builtin; have hE2 := MEl.stays w1 (w1.alloc (.cells #[.int .i64 x.src, .int .i64 x.grp, .int .i64 x.stamp, .bool x.null, .string x.body] 33)) T _ x ⟨rfl, hi⟩ (fun b hb => (below_a1 w1 (.cells #[.int .i64 x.src, .int .i64 x.grp, .int .i64 x.stamp, .bool x.null, .string x.body] 33)).block b (hT b hb).2); have hO2 := OSl.keep MEl.stays hO (w' := w1.alloc (.cells #[.int .i64 x.src, .int .i64 x.grp, .int .i64 x.stamp, .bool x.null, .string x.body] 33)) (fun b hb => ((below_a1 w1 (.cells #[.int .i64 x.src, .int .i64 x.grp, .int .i64 x.stamp, .bool x.null, .string x.body] 33)).block b (Nat.lt_of_lt_of_le (hS b hb).2 hv1.size)).trans (hv1.block b (hS b hb).2 (fun e => by have h9 := (hS b hb).1; rw [e] at h9; omega))); refine wpList_push _ rfl _ _ 24 rfl 33 i0 _ 5 48 Try.underlying24 hi0 hz0 hz1 hz2 rfl (by decide) MEl.stays _ rfl S xs hO2 (fun b hb => Nat.lt_of_lt_of_le (hS b hb).2 (Nat.le_trans hv1.size (below_a1 w1 _).size)) ⟨w1.heap.size, 0, none⟩ _ rfl x.cells rfl (cells_new _ _ _) (by simp [M.cells, Value.oneCell']) T x hE2 (fun b hb => ⟨fun hs => by have := (hS b hs).2; have := (hT b hb).1; omega, Nat.lt_of_lt_of_le (hT b hb).2 (below_a1 w1 _).size⟩) (by omega) (by omega) (by omega) ?_; intro v3 w3 hp3; obtain ⟨⟨S3, hO3, hS3⟩, hz3, hL3, hB3, a3, cap3, rfl⟩ := hp3))
      · refine ⟨rfl, ?_⟩
        rw [← hP.out]
        have e := hms.out
        rw [hr] at e
        exact ⟨hv.trans hv1 (fun _ h _ => h), Or.inl ⟨manyP_none e n (by omega), rfl⟩⟩
      · go_roundw
        case rel =>
          have e := hms.out
          rw [hr] at e
          have hs1 := hv1.size
          have hs0 := hv.size
          have hsa := (below_a1 w1 (.cells #[.int .i64 x.src, .int .i64 x.grp, .int .i64 x.stamp, .bool x.null, .string x.body] 33)).size
          have hSG : ¬ S G := fun hs => by have := (hS G hs).1; omega
          refine ⟨k + 1, xs ++ [x], u, by omega, by go_num, Lib.hid e, ⟨S3, hO3, fun b hb => ⟨?_, (hS3 b hb).2⟩⟩, hG1.keep ((hL3 G ⟨by omega, hSG⟩).trans ((below_a1 w1 (.cells #[.int .i64 x.src, .int .i64 x.grp, .int .i64 x.stamp, .bool x.null, .string x.body] 33)).block G hG1.lt)), (hv.trans hv1 (fun _ h _ => h)).then (((below_a1 w1 (.cells #[.int .i64 x.src, .int .i64 x.grp, .int .i64 x.stamp, .bool x.null, .string x.body] 33)).mono (by omega)).trans (hB3 w.heap.size (fun b hb => (hS b hb).1) (by omega)))⟩
          rcases (hS3 b hb).1 with h1 | h1 | h1
          · exact (hS b h1).1
          · have := (hT b h1).1; omega
          · omega
        case measure => simp [intOf]; omega
    · have hke : k = n := by omega
      have e1 : decide ((k : Int) < (n : Int)) = false := decide_eq_false (by omega)
      go_wp2_with fail
      rw [← hP.out]
      rw [hke] at hm
      exact ⟨hv, Or.inr ⟨xs, t, _, hm.out, rfl, ⟨S, hO, hS⟩, hG⟩⟩
set_option maxHeartbeats 1000000 in
theorem list_msgs_c {w : World} {G : Nat} {l : List Int} (h : Glass w G l) {n : Nat} (hn : n ≤ 255) {g : Nat} {fa fb : Array Value} {p : Rdr _} (h1 : OneC g (fa ++ fb) G w p (ElV (OMsgsEl true) one1)) :
    Calls Try.prog 55 #[.int .i64 n, .func (.func g) fa fb] w (RdPost w G (manyP p n l) (ListV (OMsgsEl true) 24 1 w)) := by
  obtain ⟨eg, hp⟩ := h1
  obtain ⟨i0, hi0, hz0, hz1, hz2⟩ := info_parts infoCMsgRow
  obtain ⟨P, hP⟩ : ∃ P, RdPost w G (manyP p n l) (ListV (OMsgsEl true) 24 1 w) = P := ⟨_, rfl⟩
  rw [hP]
  have hGl := h.lt
  replace hP := Lib.hid hP
  replace hp := Lib.hid hp
  go_enter Try.func55, Try.ntmps55
  go_upto_region 3 with fail
  go_loopw [5, 7] (fun v i wr => ∃ k xs t, k ≤ n ∧ i = .int .i64 (k : Nat) ∧ Hid (manyP p k l = some (xs, t)) ∧ ListV (OMsgsEl true) 24 1 w wr v xs ∧ Glass wr G t ∧ Save (fun b => b = G) w wr) (fun _ i _ => n - (intOf i).toNat)
  case atStart => exact ⟨0, [], l, by omega, rfl, Lib.hid rfl, ⟨fun _ => False, OSl.nil _ _ _ _ _ _, fun _ hb => hb.elim⟩, h, Save.refl _ _⟩
  case round =>
    clear h
    obtain ⟨k, xs, t, hk, rfl, hm, ⟨S, hO, hS⟩, hG, hv⟩ := hrel
    have hxl := manyP_len hm.out
    by_cases hlt : k < n
    · have e1 : decide ((k : Int) < (n : Int)) = true := decide_eq_true (by omega)
      have hC := hp.out wr t hG hv
      have hms := manyP_succ hm.out
      obtain ⟨a, c, rfl, _, _⟩ := OSl.form hO
      have hx8 : xs.length ≤ 255 := by omega
      replace hms := Lib.hid hms
      replace hxl := Lib.hid hxl
      go_wp2_with (first
        | (go_at_fn g; refine hC.mono ?_; rintro e w1 ⟨hv1, hr⟩; rcases hr with ⟨hr, rfl⟩ | ⟨x, u, v, hr, rfl, ⟨T, cs, rfl, hE, hT⟩, hG1⟩; all_goals (try (obtain ⟨u9, rfl, hu⟩ := hE; obtain ⟨a9, c9, rfl, _, _⟩ := OSl.form hu)); all_goals (try simp only [one1, List.getD_cons_zero]))
        | (at_builtin; have hE2 := (OMsgsEl.stays true) w1 (w1.alloc (.cells #[.slice a9 x.length c9] 24)) T _ x ⟨_, rfl, hu⟩ (fun b hb => (below_a1 w1 (.cells #[.slice a9 x.length c9] 24)).block b (hT b hb).2); have hO2 := OSl.keep (OMsgsEl.stays true) hO (w' := w1.alloc (.cells #[.slice a9 x.length c9] 24)) (fun b hb => ((below_a1 w1 (.cells #[.slice a9 x.length c9] 24)).block b (Nat.lt_of_lt_of_le (hS b hb).2 hv1.size)).trans (hv1.block b (hS b hb).2 (fun e => by have h9 := (hS b hb).1; rw [e] at h9; omega))); refine wpList_push _ rfl _ _ 86 rfl 24 i0 _ 1 24 Try.underlying86 hi0 hz0 hz1 hz2 rfl (by decide) (OMsgsEl.stays true) _ rfl S xs hO2 (fun b hb => Nat.lt_of_lt_of_le (hS b hb).2 (Nat.le_trans hv1.size (below_a1 w1 _).size)) ⟨w1.heap.size, 0, none⟩ _ rfl [.slice a9 x.length c9] rfl (cells_new _ _ _) (by simp [Value.oneCell']) T x hE2 (fun b hb => ⟨fun hs => by have := (hS b hs).2; have := (hT b hb).1; omega, Nat.lt_of_lt_of_le (hT b hb).2 (below_a1 w1 _).size⟩) (by omega) (by omega) (by omega) ?_; intro v3 w3 hp3; obtain ⟨⟨S3, hO3, hS3⟩, hz3, hL3, hB3, a3, cap3, rfl⟩ := hp3))
      · refine ⟨rfl, ?_⟩
        rw [← hP.out]
        have e := hms.out
        rw [hr] at e
        exact ⟨hv.trans hv1 (fun _ h _ => h), Or.inl ⟨manyP_none e n (by omega), rfl⟩⟩
      · go_roundw
        case rel =>
          have e := hms.out
          rw [hr] at e
          have hs1 := hv1.size
          have hs0 := hv.size
          have hsa := (below_a1 w1 (.cells #[.slice a9 x.length c9] 24)).size
          have hSG : ¬ S G := fun hs => by have := (hS G hs).1; omega
          refine ⟨k + 1, xs ++ [x], u, by omega, by go_num, Lib.hid e, ⟨S3, hO3, fun b hb => ⟨?_, (hS3 b hb).2⟩⟩, hG1.keep ((hL3 G ⟨by omega, hSG⟩).trans ((below_a1 w1 (.cells #[.slice a9 x.length c9] 24)).block G hG1.lt)), (hv.trans hv1 (fun _ h _ => h)).then (((below_a1 w1 (.cells #[.slice a9 x.length c9] 24)).mono (by omega)).trans (hB3 w.heap.size (fun b hb => (hS b hb).1) (by omega)))⟩
          rcases (hS3 b hb).1 with h1 | h1 | h1
          · exact (hS b h1).1
          · have := (hT b h1).1; omega
          · omega
        case measure => simp [intOf]; omega
    · have hke : k = n := by omega
      have e1 : decide ((k : Int) < (n : Int)) = false := decide_eq_false (by omega)
      go_wp2_with fail
      rw [← hP.out]
      rw [hke] at hm
      exact ⟨hv, Or.inr ⟨xs, t, _, hm.out, rfl, ⟨S, hO, hS⟩, hG⟩⟩
set_option maxHeartbeats 1000000 in
theorem list_rows_c {w : World} {G : Nat} {l : List Int} (h : Glass w G l) {n : Nat} (hn : n ≤ 255) {g : Nat} {fa fb : Array Value} {p : Rdr _} (h1 : OneC g (fa ++ fb) G w p (ElV (OMsgRowsEl true) one1)) :
    Calls Try.prog 53 #[.int .i64 n, .func (.func g) fa fb] w (RdPost w G (manyP p n l) (ListV (OMsgRowsEl true) 86 1 w)) := by
  obtain ⟨eg, hp⟩ := h1
  obtain ⟨i0, hi0, hz0, hz1, hz2⟩ := info_parts infoCMsgRows
  obtain ⟨P, hP⟩ : ∃ P, RdPost w G (manyP p n l) (ListV (OMsgRowsEl true) 86 1 w) = P := ⟨_, rfl⟩
  rw [hP]
  have hGl := h.lt
  replace hP := Lib.hid hP
  replace hp := Lib.hid hp
  go_enter Try.func53, Try.ntmps53
  go_upto_region 3 with fail
  go_loopw [5, 7] (fun v i wr => ∃ k xs t, k ≤ n ∧ i = .int .i64 (k : Nat) ∧ Hid (manyP p k l = some (xs, t)) ∧ ListV (OMsgRowsEl true) 86 1 w wr v xs ∧ Glass wr G t ∧ Save (fun b => b = G) w wr) (fun _ i _ => n - (intOf i).toNat)
  case atStart => exact ⟨0, [], l, by omega, rfl, Lib.hid rfl, ⟨fun _ => False, OSl.nil _ _ _ _ _ _, fun _ hb => hb.elim⟩, h, Save.refl _ _⟩
  case round =>
    clear h
    obtain ⟨k, xs, t, hk, rfl, hm, ⟨S, hO, hS⟩, hG, hv⟩ := hrel
    have hxl := manyP_len hm.out
    by_cases hlt : k < n
    · have e1 : decide ((k : Int) < (n : Int)) = true := decide_eq_true (by omega)
      have hC := hp.out wr t hG hv
      have hms := manyP_succ hm.out
      obtain ⟨a, c, rfl, _, _⟩ := OSl.form hO
      have hx8 : xs.length ≤ 255 := by omega
      replace hms := Lib.hid hms
      replace hxl := Lib.hid hxl
      go_wp2_with (first
        | (go_at_fn g; refine hC.mono ?_; rintro e w1 ⟨hv1, hr⟩; rcases hr with ⟨hr, rfl⟩ | ⟨x, u, v, hr, rfl, ⟨T, cs, rfl, hE, hT⟩, hG1⟩; all_goals (try (obtain ⟨u9, rfl, hu⟩ := hE; obtain ⟨a9, c9, rfl, _, _⟩ := OSl.form hu)); all_goals (try simp only [one1, List.getD_cons_zero]))
        | (at_builtin; have hE2 := (OMsgRowsEl.stays true) w1 (w1.alloc (.cells #[.slice a9 x.length c9] 86)) T _ x ⟨_, rfl, hu⟩ (fun b hb => (below_a1 w1 (.cells #[.slice a9 x.length c9] 86)).block b (hT b hb).2); have hO2 := OSl.keep (OMsgRowsEl.stays true) hO (w' := w1.alloc (.cells #[.slice a9 x.length c9] 86)) (fun b hb => ((below_a1 w1 (.cells #[.slice a9 x.length c9] 86)).block b (Nat.lt_of_lt_of_le (hS b hb).2 hv1.size)).trans (hv1.block b (hS b hb).2 (fun e => by have h9 := (hS b hb).1; rw [e] at h9; omega))); refine wpList_push _ rfl _ _ 38 rfl 86 i0 _ 1 24 Try.underlying38 hi0 hz0 hz1 hz2 rfl (by decide) (OMsgRowsEl.stays true) _ rfl S xs hO2 (fun b hb => Nat.lt_of_lt_of_le (hS b hb).2 (Nat.le_trans hv1.size (below_a1 w1 _).size)) ⟨w1.heap.size, 0, none⟩ _ rfl [.slice a9 x.length c9] rfl (cells_new _ _ _) (by simp [Value.oneCell']) T x hE2 (fun b hb => ⟨fun hs => by have := (hS b hs).2; have := (hT b hb).1; omega, Nat.lt_of_lt_of_le (hT b hb).2 (below_a1 w1 _).size⟩) (by omega) (by omega) (by omega) ?_; intro v3 w3 hp3; obtain ⟨⟨S3, hO3, hS3⟩, hz3, hL3, hB3, a3, cap3, rfl⟩ := hp3))
      · refine ⟨rfl, ?_⟩
        rw [← hP.out]
        have e := hms.out
        rw [hr] at e
        exact ⟨hv.trans hv1 (fun _ h _ => h), Or.inl ⟨manyP_none e n (by omega), rfl⟩⟩
      · go_roundw
        case rel =>
          have e := hms.out
          rw [hr] at e
          have hs1 := hv1.size
          have hs0 := hv.size
          have hsa := (below_a1 w1 (.cells #[.slice a9 x.length c9] 86)).size
          have hSG : ¬ S G := fun hs => by have := (hS G hs).1; omega
          refine ⟨k + 1, xs ++ [x], u, by omega, by go_num, Lib.hid e, ⟨S3, hO3, fun b hb => ⟨?_, (hS3 b hb).2⟩⟩, hG1.keep ((hL3 G ⟨by omega, hSG⟩).trans ((below_a1 w1 (.cells #[.slice a9 x.length c9] 86)).block G hG1.lt)), (hv.trans hv1 (fun _ h _ => h)).then (((below_a1 w1 (.cells #[.slice a9 x.length c9] 86)).mono (by omega)).trans (hB3 w.heap.size (fun b hb => (hS b hb).1) (by omega)))⟩
          rcases (hS3 b hb).1 with h1 | h1 | h1
          · exact (hS b h1).1
          · have := (hT b h1).1; omega
          · omega
        case measure => simp [intOf]; omega
    · have hke : k = n := by omega
      have e1 : decide ((k : Int) < (n : Int)) = false := decide_eq_false (by omega)
      go_wp2_with fail
      rw [← hP.out]
      rw [hke] at hm
      exact ⟨hv, Or.inr ⟨xs, t, _, hm.out, rfl, ⟨S, hO, hS⟩, hG⟩⟩
set_option maxHeartbeats 1000000 in
theorem list_node_c {w : World} {G : Nat} {l : List Int} (h : Glass w G l) {n : Nat} (hn : n ≤ 255) {g : Nat} {fa fb : Array Value} {p : Rdr _} (h1 : OneC g (fa ++ fb) G w p (ElV ONodeEl oneA)) :
    Calls Try.prog 47 #[.int .i64 n, .func (.func g) fa fb] w (RdPost w G (manyP p n l) (ListV ONodeEl 79 4 w)) := by
  obtain ⟨eg, hp⟩ := h1
  obtain ⟨i0, hi0, hz0, hz1, hz2⟩ := info_parts infoCNode
  obtain ⟨P, hP⟩ : ∃ P, RdPost w G (manyP p n l) (ListV ONodeEl 79 4 w) = P := ⟨_, rfl⟩
  rw [hP]
  have hGl := h.lt
  replace hP := Lib.hid hP
  replace hp := Lib.hid hp
  go_enter Try.func47, Try.ntmps47
  go_upto_region 3 with fail
  go_loopw [5, 7] (fun v i wr => ∃ k xs t, k ≤ n ∧ i = .int .i64 (k : Nat) ∧ Hid (manyP p k l = some (xs, t)) ∧ ListV ONodeEl 79 4 w wr v xs ∧ Glass wr G t ∧ Save (fun b => b = G) w wr) (fun _ i _ => n - (intOf i).toNat)
  case atStart => exact ⟨0, [], l, by omega, rfl, Lib.hid rfl, ⟨fun _ => False, OSl.nil _ _ _ _ _ _, fun _ hb => hb.elim⟩, h, Save.refl _ _⟩
  case round =>
    clear h
    obtain ⟨k, xs, t, hk, rfl, hm, ⟨S, hO, hS⟩, hG, hv⟩ := hrel
    have hxl := manyP_len hm.out
    by_cases hlt : k < n
    · have e1 : decide ((k : Int) < (n : Int)) = true := decide_eq_true (by omega)
      have hC := hp.out wr t hG hv
      have hms := manyP_succ hm.out
      obtain ⟨a, c, rfl, _, _⟩ := OSl.form hO
      have hx8 : xs.length ≤ 255 := by omega
      replace hms := Lib.hid hms
      replace hxl := Lib.hid hxl
      go_wp2_with (first
        | (go_at_fn g; refine hC.mono ?_; rintro e w1 ⟨hv1, hr⟩; rcases hr with ⟨hr, rfl⟩ | ⟨x, u, v, hr, rfl, ⟨T, cs, rfl, hE, hT⟩, hG1⟩; all_goals (try (obtain ⟨lv, gv, tv, Tl, Th, Tt, rfl, h64, hl9, hh9, ht9, hd9⟩ := hE; obtain ⟨la, lc, rfl, _, _⟩ := OSl.form hl9; obtain ⟨ha, hc, rfl, _, _⟩ := OSl.form hh9; obtain ⟨ta, tc, rfl, _, _⟩ := OSl.form ht9)); all_goals (try simp only [oneA]))
        | (at_builtin; have hE2 := ONodeEl.stays w1 (w1.alloc (.cells #[.int .i64 x.clock, .slice la x.last.length lc, .slice ha x.held.length hc, .slice ta x.told.length tc] 79)) T _ x ⟨_, _, _, Tl, Th, Tt, rfl, h64, hl9, hh9, ht9, hd9⟩ (fun b hb => (below_a1 w1 (.cells #[.int .i64 x.clock, .slice la x.last.length lc, .slice ha x.held.length hc, .slice ta x.told.length tc] 79)).block b (hT b hb).2); have hO2 := OSl.keep ONodeEl.stays hO (w' := w1.alloc (.cells #[.int .i64 x.clock, .slice la x.last.length lc, .slice ha x.held.length hc, .slice ta x.told.length tc] 79)) (fun b hb => ((below_a1 w1 (.cells #[.int .i64 x.clock, .slice la x.last.length lc, .slice ha x.held.length hc, .slice ta x.told.length tc] 79)).block b (Nat.lt_of_lt_of_le (hS b hb).2 hv1.size)).trans (hv1.block b (hS b hb).2 (fun e => by have h9 := (hS b hb).1; rw [e] at h9; omega))); refine wpList_push _ rfl _ _ 37 rfl 79 i0 _ 4 80 Try.underlying37 hi0 hz0 hz1 hz2 rfl (by decide) ONodeEl.stays _ rfl S xs hO2 (fun b hb => Nat.lt_of_lt_of_le (hS b hb).2 (Nat.le_trans hv1.size (below_a1 w1 _).size)) ⟨w1.heap.size, 0, none⟩ _ rfl [.int .i64 x.clock, .slice la x.last.length lc, .slice ha x.held.length hc, .slice ta x.told.length tc] rfl (cells_new _ _ _) (by simp [Value.oneCell']) T x hE2 (fun b hb => ⟨fun hs => by have := (hS b hs).2; have := (hT b hb).1; omega, Nat.lt_of_lt_of_le (hT b hb).2 (below_a1 w1 _).size⟩) (by omega) (by omega) (by omega) ?_; intro v3 w3 hp3; obtain ⟨⟨S3, hO3, hS3⟩, hz3, hL3, hB3, a3, cap3, rfl⟩ := hp3))
      · refine ⟨rfl, ?_⟩
        rw [← hP.out]
        have e := hms.out
        rw [hr] at e
        exact ⟨hv.trans hv1 (fun _ h _ => h), Or.inl ⟨manyP_none e n (by omega), rfl⟩⟩
      · go_roundw
        case rel =>
          have e := hms.out
          rw [hr] at e
          have hs1 := hv1.size
          have hs0 := hv.size
          have hsa := (below_a1 w1 (.cells #[.int .i64 x.clock, .slice la x.last.length lc, .slice ha x.held.length hc, .slice ta x.told.length tc] 79)).size
          have hSG : ¬ S G := fun hs => by have := (hS G hs).1; omega
          refine ⟨k + 1, xs ++ [x], u, by omega, by go_num, Lib.hid e, ⟨S3, hO3, fun b hb => ⟨?_, (hS3 b hb).2⟩⟩, hG1.keep ((hL3 G ⟨by omega, hSG⟩).trans ((below_a1 w1 (.cells #[.int .i64 x.clock, .slice la x.last.length lc, .slice ha x.held.length hc, .slice ta x.told.length tc] 79)).block G hG1.lt)), (hv.trans hv1 (fun _ h _ => h)).then (((below_a1 w1 (.cells #[.int .i64 x.clock, .slice la x.last.length lc, .slice ha x.held.length hc, .slice ta x.told.length tc] 79)).mono (by omega)).trans (hB3 w.heap.size (fun b hb => (hS b hb).1) (by omega)))⟩
          rcases (hS3 b hb).1 with h1 | h1 | h1
          · exact (hS b h1).1
          · have := (hT b h1).1; omega
          · omega
        case measure => simp [intOf]; omega
    · have hke : k = n := by omega
      have e1 : decide ((k : Int) < (n : Int)) = false := decide_eq_false (by omega)
      go_wp2_with fail
      rw [← hP.out]
      rw [hke] at hm
      exact ⟨hv, Or.inr ⟨xs, t, _, hm.out, rfl, ⟨S, hO, hS⟩, hG⟩⟩
end Go.Proofs.Ytnalakhelicjcaa
