/-
  Worlds as bytes, in plain words: what is written, what is read, and that these are each other's ways back.
-/
import Derived.Test.YtnalakhelicjcaaWKB
import Derived.Laws.BytesArg
set_option maxRecDepth 100000
namespace Go.Proofs.Ytnalakhelicjcaa
open Go.RowKit

/-- Bytes, as numbers. -/
def octs (l : List Int) : Prop := ∀ x ∈ l, 0 ≤ x ∧ x ≤ 255
def numsOf (s : ByteArray) : List Int := s.data.toList.map fun b => (b.toNat : Int)
theorem numsOf_octs (s : ByteArray) : octs (numsOf s) := fun x hx => by
  obtain ⟨b, _, rfl⟩ := List.mem_map.1 hx
  have := b.toNat_lt
  omega
theorem numsOf_len (s : ByteArray) : (numsOf s).length = s.size := by
  unfold numsOf
  rw [List.length_map, Array.length_toList]
  rfl
theorem str_nums (s : ByteArray) : strOfNums (numsOf s) = s := by
  unfold strOfNums numsOf
  rw [List.map_map]
  have e : ((fun n : Int => UInt8.ofNat n.toNat) ∘ fun b : UInt8 => (b.toNat : Int)) = id := by
    funext b
    simp
  rw [e, List.map_id]
theorem nums_str {l : List Int} (h : octs l) : numsOf (strOfNums l) = l := by
  unfold strOfNums numsOf
  rw [List.toList_toArray, List.map_map]
  refine (List.map_congr_left fun x hx => ?_).trans (List.map_id l)
  have := h x hx
  show ((UInt8.ofNat x.toNat).toNat : Int) = x
  rw [UInt8.toNat_ofNat_of_lt' (by show x.toNat < 256; omega)]
  omega
theorem str_len {l : List Int} : (strOfNums l).size = l.length := by
  show ((l.map _).toArray).size = _
  simp
theorem octs_app {a b : List Int} : octs (a ++ b) ↔ octs a ∧ octs b :=
  ⟨fun h => ⟨fun x hx => h x (List.mem_append_left _ hx), fun x hx => h x (List.mem_append_right _ hx)⟩, fun h x hx => (List.mem_append.1 hx).elim (h.1 x) (h.2 x)⟩

/-- What is written. -/
def bSmall (n : Int) : List Int := [n % 256]
def bWide (n : Int) : List Int := [n / 65536 % 256, n / 256 % 256, n % 256]
def bMsg (m : M) : List Int := bSmall m.src ++ (bSmall m.grp ++ (bSmall (if m.null = true then 1 else 0) ++ (bSmall m.body.size ++ (numsOf m.body ++ bWide m.stamp))))
def bMsgs (l : List M) : List Int := bSmall l.length ++ l.flatMap bMsg
def bNode (x : N) : List Int := bWide x.clock ++ (x.last.flatMap (fun r => r.flatMap bWide) ++ (bMsgs x.held ++ bMsgs x.told))
def bWorld (X : Wd) : List Int := bSmall X.groups.length ++ (X.groups.flatMap bSmall ++ (bSmall X.nodes.length ++ (X.nodes.flatMap bNode ++ X.wires.flatMap (fun r => r.flatMap bMsgs))))

/-- A reader: what it has read, and what is left; or none. -/
abbrev Rdr (α : Type) := List Int → Option (α × List Int)
def bindR {α β : Type} (p : Rdr α) (f : α → Rdr β) : Rdr β := fun l => match p l with
  | none => none
  | some (x, t) => f x t
def pureR {α : Type} (x : α) : Rdr α := fun l => some (x, l)
def failR {α : Type} : Rdr α := fun _ => none
def takeP (n : Nat) : Rdr (List Int) := fun l => if l.length < n then none else some (l.take n, l.drop n)
def smallP : Rdr Int
  | [] => none
  | a :: t => some (a, t)
def wideP : Rdr Int
  | a :: b :: c :: t => some (a * 65536 + b * 256 + c, t)
  | _ => none
def manyP {α : Type} (p : Rdr α) : Nat → Rdr (List α)
  | 0 => pureR []
  | n + 1 => bindR (manyP p n) fun xs => bindR p fun x => pureR (xs ++ [x])
def msgP : Rdr M := bindR smallP fun a => bindR smallP fun g => bindR smallP fun z => if 1 < z then failR else bindR smallP fun n => bindR (takeP n.toNat) fun b => bindR wideP fun s => pureR ⟨a, g, s, z == 1, strOfNums b⟩
def msgsP : Rdr (List M) := bindR smallP fun n => manyP msgP n.toNat
def nodeP (G K : Nat) : Rdr N := bindR wideP fun c => bindR (manyP (manyP wideP K) G) fun r => bindR msgsP fun h => bindR msgsP fun t => pureR ⟨c, r, h, t⟩
def worldP : Rdr Wd := bindR smallP fun g => bindR (manyP smallP g.toNat) fun gs => bindR smallP fun k => bindR (manyP (nodeP gs.length k.toNat) k.toNat) fun ns => bindR (manyP (manyP msgsP k.toNat) k.toNat) fun ws => pureR ⟨gs, ns, ws⟩
def readP (l : List Int) : Option Wd := match worldP l with
  | some (X, []) => if errX X = 0 then some X else none
  | _ => none

theorem bindR_some {α β : Type} {p : Rdr α} {f : α → Rdr β} {l t : List Int} {x : α} (h : p l = some (x, t)) : bindR p f l = f x t := by
  unfold bindR
  rw [h]
theorem bindR_inv {α β : Type} {p : Rdr α} {f : α → Rdr β} {l t : List Int} {y : β} (h : bindR p f l = some (y, t)) : ∃ x u, p l = some (x, u) ∧ f x u = some (y, t) := by
  unfold bindR at h
  split at h
  · cases h
  · rename_i x u e
    exact ⟨x, u, e, h⟩
theorem pureR_inv {α : Type} {x y : α} {l t : List Int} (h : pureR x l = some (y, t)) : x = y ∧ l = t := by
  unfold pureR at h
  simpa using h

/-- A reader is the way back of what writes. -/
structure Rds {α : Type} (p : Rdr α) (b : α → List Int) (ok : α → Prop) : Prop where
  fwd : ∀ x t, ok x → p (b x ++ t) = some (x, t)
  back : ∀ l x t, octs l → p l = some (x, t) → l = b x ++ t
theorem Rds.small : Rds smallP bSmall (fun n => 0 ≤ n ∧ n ≤ 255) where
  fwd := fun x t h => by
    show smallP ([x % 256] ++ t) = _
    rw [Int.emod_eq_of_lt h.1 (by omega)]
    rfl
  back := fun l x t ho h => by
    cases l with
    | nil => cases h
    | cons a u =>
      have h : some (a, u) = some (x, t) := h
      obtain ⟨rfl, rfl⟩ : a = x ∧ u = t := by simpa using h
      have := ho a (List.mem_cons_self ..)
      show _ = [a % 256] ++ u
      rw [Int.emod_eq_of_lt this.1 (by omega)]
      rfl
theorem Rds.wide : Rds wideP bWide (fun n => 0 ≤ n ∧ n < 16777216) where
  fwd := fun x t h => by
    show some (x / 65536 % 256 * 65536 + x / 256 % 256 * 256 + x % 256, t) = some (x, t)
    have e : x / 65536 % 256 * 65536 + x / 256 % 256 * 256 + x % 256 = x := by omega
    rw [e]
  back := fun l x t ho h => by
    match l, h with
    | a :: b :: c :: u, h =>
      have h : some (a * 65536 + b * 256 + c, u) = some (x, t) := h
      obtain ⟨rfl, rfl⟩ : a * 65536 + b * 256 + c = x ∧ u = t := by simpa using h
      have h1 := ho a (by simp)
      have h2 := ho b (by simp)
      have h3 := ho c (by simp)
      show _ = [_, _, _] ++ u
      have e1 : (a * 65536 + b * 256 + c) / 65536 % 256 = a := by omega
      have e2 : (a * 65536 + b * 256 + c) / 256 % 256 = b := by omega
      have e3 : (a * 65536 + b * 256 + c) % 256 = c := by omega
      rw [e1, e2, e3]
      rfl
theorem Rds.many_fwd {α : Type} {p : Rdr α} {b : α → List Int} {ok : α → Prop} (h : Rds p b ok) : ∀ (n : Nat) (xs : List α) (t : List Int), xs.length = n → (∀ x ∈ xs, ok x) → manyP p n (xs.flatMap b ++ t) = some (xs, t)
  | 0, xs, t, hl, _ => by
    obtain rfl := List.eq_nil_of_length_eq_zero hl
    rfl
  | n + 1, xs, t, hl, hx => by
    rcases List.eq_nil_or_concat xs with rfl | ⟨ys, y, rfl⟩
    · simp at hl
    · have h1 := Rds.many_fwd h n ys (b y ++ t) (by simpa using hl) (fun x hx' => hx x (by simp [hx']))
      have e : (ys.concat y).flatMap b ++ t = ys.flatMap b ++ (b y ++ t) := by simp
      rw [e, manyP, bindR_some h1, bindR_some (h.fwd y t (hx y (by simp)))]
      simp [pureR]
theorem Rds.many_back {α : Type} {p : Rdr α} {b : α → List Int} {ok : α → Prop} (h : Rds p b ok) : ∀ (n : Nat) (l : List Int) (xs : List α) (t : List Int), octs l → manyP p n l = some (xs, t) → l = xs.flatMap b ++ t ∧ xs.length = n
  | 0, l, xs, t, _, e => by
    obtain ⟨rfl, rfl⟩ := pureR_inv e
    exact ⟨rfl, rfl⟩
  | n + 1, l, xs, t, ho, e => by
    obtain ⟨ys, u, h1, h2⟩ := bindR_inv e
    obtain ⟨y, v, h3, h4⟩ := bindR_inv h2
    obtain ⟨rfl, rfl⟩ := pureR_inv h4
    obtain ⟨rfl, hl⟩ := Rds.many_back h n l ys u ho h1
    have h5 := h.back u y v (octs_app.1 ho).2 h3
    rw [h5]
    simp [hl]
theorem take_fwd {s : List Int} (t : List Int) : takeP s.length (s ++ t) = some (s, t) := by
  unfold takeP
  rw [if_neg (by simp)]
  simp
theorem take_back {n : Nat} {l s t : List Int} (h : takeP n l = some (s, t)) : l = s ++ t ∧ s.length = n := by
  unfold takeP at h
  split at h
  · cases h
  · rename_i hn
    obtain ⟨rfl, rfl⟩ : l.take n = s ∧ l.drop n = t := by simpa using h
    exact ⟨(List.take_append_drop n l).symm, by rw [List.length_take]; omega⟩
def okM (m : M) : Prop := (0 ≤ m.src ∧ m.src ≤ 255) ∧ (0 ≤ m.grp ∧ m.grp ≤ 255) ∧ m.body.size ≤ 255 ∧ 0 ≤ m.stamp ∧ m.stamp < 16777216
theorem Rds.msg : Rds msgP bMsg okM where
  fwd := fun m t h => by
    obtain ⟨h1, h2, h3, h4⟩ := h
    unfold bMsg
    simp only [List.append_assoc]
    unfold msgP
    rw [bindR_some (Rds.small.fwd _ _ h1), bindR_some (Rds.small.fwd _ _ h2), bindR_some (Rds.small.fwd _ _ (by split <;> omega)), if_neg (by split <;> omega), bindR_some (Rds.small.fwd _ _ (by omega)), Int.toNat_natCast, ← numsOf_len, bindR_some (take_fwd _), bindR_some (Rds.wide.fwd _ _ h4), str_nums]
    obtain ⟨a, g, s, z, b⟩ := m
    cases z <;> rfl
  back := fun l m t ho h => by
    obtain ⟨a, l1, e1, h⟩ := bindR_inv h
    obtain ⟨g, l2, e2, h⟩ := bindR_inv h
    obtain ⟨z, l3, e3, h⟩ := bindR_inv h
    have k1 := Rds.small.back _ _ _ ho e1
    rw [k1] at ho
    have o1 := (octs_app.1 ho).2
    have k2 := Rds.small.back _ _ _ o1 e2
    rw [k2] at o1
    have o2 := (octs_app.1 o1).2
    have k3 := Rds.small.back _ _ _ o2 e3
    have hz : 0 ≤ z := by
      have h5 : ∀ x ∈ l2, 0 ≤ x := fun x hx => (o2 x hx).1
      cases l2 with
      | nil => cases e3
      | cons c u =>
        have e3 : some (c, u) = some (z, l3) := e3
        obtain ⟨rfl, rfl⟩ : c = z ∧ u = l3 := by simpa using e3
        exact h5 c (List.mem_cons_self ..)
    rw [k3] at o2
    have o3 := (octs_app.1 o2).2
    split at h
    · cases h
    · rename_i hz1
      obtain ⟨n, l4, e4, h⟩ := bindR_inv h
      have k4 := Rds.small.back _ _ _ o3 e4
      have hn : 0 ≤ n ∧ n ≤ 255 := by
        cases l3 with
        | nil => cases e4
        | cons c u =>
          have e4 : some (c, u) = some (n, l4) := e4
          obtain ⟨rfl, rfl⟩ : c = n ∧ u = l4 := by simpa using e4
          exact o3 c (List.mem_cons_self ..)
      rw [k4] at o3
      have o4 := (octs_app.1 o3).2
      obtain ⟨b, l5, e5, h⟩ := bindR_inv h
      obtain ⟨k5, hb⟩ := take_back e5
      rw [k5] at o4
      obtain ⟨s, l6, e6, h⟩ := bindR_inv h
      have k6 := Rds.wide.back _ _ _ (octs_app.1 o4).2 e6
      obtain ⟨rfl, rfl⟩ := pureR_inv h
      unfold bMsg
      simp only [List.append_assoc]
      rw [nums_str (octs_app.1 o4).1, str_len, hb, k1, k2, k3, k4, k5, k6]
      have ez : (if (z == 1) = true then (1 : Int) else 0) = z := by
        by_cases e : z = 1
        · simp [e]
        · have : z = 0 := by omega
          simp [this]
      have en : ((n.toNat : Nat) : Int) = n := by omega
      rw [ez, en]
def okL (l : List M) : Prop := l.length ≤ 255 ∧ ∀ m ∈ l, okM m
theorem small_at {l t : List Int} {n : Int} (ho : octs l) (h : smallP l = some (n, t)) : 0 ≤ n ∧ n ≤ 255 := by
  cases l with
  | nil => cases h
  | cons c u =>
    have h : some (c, u) = some (n, t) := h
    obtain ⟨rfl, rfl⟩ : c = n ∧ u = t := by simpa using h
    exact ho c (List.mem_cons_self ..)
theorem Rds.msgs : Rds msgsP bMsgs okL where
  fwd := fun l t h => by
    unfold bMsgs
    simp only [List.append_assoc]
    unfold msgsP
    rw [bindR_some (Rds.small.fwd _ _ (by have := h.1; omega)), Int.toNat_natCast]
    exact Rds.msg.many_fwd _ _ _ rfl h.2
  back := fun l x t ho h => by
    obtain ⟨n, l1, e1, h⟩ := bindR_inv h
    have k1 := Rds.small.back _ _ _ ho e1
    have hn := small_at ho e1
    rw [k1] at ho
    obtain ⟨k2, hl⟩ := Rds.msg.many_back _ _ _ _ (octs_app.1 ho).2 h
    unfold bMsgs
    rw [List.append_assoc, hl, k1, k2]
    have en : ((n.toNat : Nat) : Int) = n := by omega
    rw [en]
theorem Rds.rows {α : Type} {p : Rdr α} {b : α → List Int} {ok : α → Prop} (h : Rds p b ok) (K : Nat) : Rds (manyP p K) (fun r => r.flatMap b) (fun r => r.length = K ∧ ∀ x ∈ r, ok x) where
  fwd := fun _ _ hr => h.many_fwd _ _ _ hr.1 hr.2
  back := fun _ _ _ ho e => (h.many_back _ _ _ _ ho e).1
def okW (n : Int) : Prop := 0 ≤ n ∧ n < 16777216
def okN (G K : Nat) (x : N) : Prop := okW x.clock ∧ (x.last.length = G ∧ ∀ r ∈ x.last, r.length = K ∧ ∀ n ∈ r, okW n) ∧ okL x.held ∧ okL x.told
theorem Rds.node (G K : Nat) : Rds (nodeP G K) bNode (okN G K) where
  fwd := fun x t h => by
    obtain ⟨h1, h2, h3, h4⟩ := h
    unfold bNode
    simp only [List.append_assoc]
    unfold nodeP
    rw [bindR_some (Rds.wide.fwd _ _ h1), bindR_some (((Rds.wide.rows K).rows G).fwd _ _ h2), bindR_some (Rds.msgs.fwd _ _ h3), bindR_some (Rds.msgs.fwd _ _ h4)]
    rfl
  back := fun l x t ho h => by
    obtain ⟨c, l1, e1, h⟩ := bindR_inv h
    obtain ⟨r, l2, e2, h⟩ := bindR_inv h
    obtain ⟨a, l3, e3, h⟩ := bindR_inv h
    obtain ⟨b, l4, e4, h⟩ := bindR_inv h
    obtain ⟨rfl, rfl⟩ := pureR_inv h
    have k1 := Rds.wide.back _ _ _ ho e1
    rw [k1] at ho
    have o1 := (octs_app.1 ho).2
    have k2 := ((Rds.wide.rows K).rows G).back _ _ _ o1 e2
    rw [k2] at o1
    have o2 := (octs_app.1 o1).2
    have k3 := Rds.msgs.back _ _ _ o2 e3
    rw [k3] at o2
    have k4 := Rds.msgs.back _ _ _ (octs_app.1 o2).2 e4
    unfold bNode
    simp only [List.append_assoc]
    rw [k1, k2, k3, k4]
def okX (X : Wd) : Prop := (X.groups.length ≤ 255 ∧ ∀ g ∈ X.groups, 0 ≤ g ∧ g ≤ 255) ∧ X.nodes.length ≤ 255 ∧ (∀ x ∈ X.nodes, okN X.groups.length X.nodes.length x) ∧ X.wires.length = X.nodes.length ∧ ∀ r ∈ X.wires, r.length = X.nodes.length ∧ ∀ l ∈ r, okL l
theorem Rds.world : Rds worldP bWorld okX where
  fwd := fun X t h => by
    obtain ⟨h1, h2, h3, h4, h5⟩ := h
    unfold bWorld
    simp only [List.append_assoc]
    unfold worldP
    rw [bindR_some (Rds.small.fwd _ _ (by omega)), Int.toNat_natCast, bindR_some (Rds.small.many_fwd _ _ _ rfl h1.2), bindR_some (Rds.small.fwd _ _ (by omega)), Int.toNat_natCast,
      bindR_some ((Rds.node _ _).many_fwd _ _ _ rfl h3), bindR_some ((Rds.msgs.rows _).many_fwd _ _ _ h4 h5)]
    rfl
  back := fun l X t ho h => by
    obtain ⟨g, l1, e1, h⟩ := bindR_inv h
    obtain ⟨gs, l2, e2, h⟩ := bindR_inv h
    obtain ⟨k, l3, e3, h⟩ := bindR_inv h
    obtain ⟨ns, l4, e4, h⟩ := bindR_inv h
    obtain ⟨ws, l5, e5, h⟩ := bindR_inv h
    obtain ⟨rfl, rfl⟩ := pureR_inv h
    have hg := small_at ho e1
    have k1 := Rds.small.back _ _ _ ho e1
    rw [k1] at ho
    have o1 := (octs_app.1 ho).2
    obtain ⟨k2, n2⟩ := Rds.small.many_back _ _ _ _ o1 e2
    rw [k2] at o1
    have o2 := (octs_app.1 o1).2
    have hk := small_at o2 e3
    have k3 := Rds.small.back _ _ _ o2 e3
    rw [k3] at o2
    have o3 := (octs_app.1 o2).2
    obtain ⟨k4, n4⟩ := (Rds.node _ _).many_back _ _ _ _ o3 e4
    rw [k4] at o3
    obtain ⟨k5, _⟩ := (Rds.msgs.rows _).many_back _ _ _ _ (octs_app.1 o3).2 e5
    unfold bWorld
    simp only [List.append_assoc]
    rw [n2, n4, k1, k2, k3, k4, k5]
    have eg : ((g.toNat : Nat) : Int) = g := by omega
    have ek : ((k.toNat : Nat) : Int) = k := by omega
    rw [eg, ek]
end Go.Proofs.Ytnalakhelicjcaa
