/-
  A log, in plain words: by positions; what was written is read again; a log that is cut, a log with an act more.
-/
import Derived.Test.YtnalakhelicjcaaGreatLAp
import Derived.Test.YtnalakhelicjcaaGreatLWr
set_option maxRecDepth 100000
namespace Go.Proofs.YtnalakhelicjcaaGreat
open Go.RowKit

theorem bt_ext (s : ByteArray) (k : Nat) : bt s k = ((s.data.toList.getD k 0).toNat : Int) := by
  unfold bt
  split
  · rename_i h
    rw [List.getD_eq_getElem?_getD, List.getElem?_eq_getElem (by simpa using h)]
    rfl
  · rename_i h
    rw [List.getD_eq_getElem?_getD, List.getElem?_eq_none (by simpa using h)]
    rfl
theorem ext_list (s : ByteArray) (a b : Nat) : (s.extract a b).data.toList = (s.data.toList.drop a).take (b - a) := by
  rw [ByteArray.data_extract, Array.toList_extract]
theorem ba_ext {s t : ByteArray} (h : s.data.toList = t.data.toList) : s = t := by
  cases s; cases t
  simp only [ByteArray.mk.injEq]
  exact Array.toList_inj.1 h
theorem ba_size (s : ByteArray) : s.size = s.data.toList.length := rfl
/-- What is behind position a. -/
def subA (t : ByteArray) (a : Nat) : ByteArray := t.extract a t.size
theorem subA_list (t : ByteArray) (a : Nat) : (subA t a).data.toList = t.data.toList.drop a := by
  unfold subA
  rw [ext_list, List.take_of_length_le (by rw [List.length_drop, ba_size]; exact Nat.le_refl _)]
theorem subA_size (t : ByteArray) (a : Nat) : (subA t a).size = t.size - a := by rw [ba_size, subA_list, List.length_drop, ← ba_size]
theorem subA_zero (t : ByteArray) : subA t 0 = t := ba_ext (by rw [subA_list, List.drop_zero])
theorem subA_bt (t : ByteArray) (a k : Nat) : bt (subA t a) k = bt t (a + k) := by
  rw [bt_ext, bt_ext, subA_list, List.getD_eq_getElem?_getD, List.getD_eq_getElem?_getD, List.getElem?_drop]
theorem subA_sub (t : ByteArray) (a b : Nat) : (subA t a).extract b (subA t a).size = subA t (a + b) := by
  refine ba_ext ?_
  rw [show (subA t a).extract b (subA t a).size = subA (subA t a) b from rfl, subA_list, subA_list, subA_list, List.drop_drop]
theorem subA_ext (t : ByteArray) (a i j : Nat) : (subA t a).extract i j = t.extract (a + i) (a + j) := by
  refine ba_ext ?_
  rw [ext_list, ext_list, subA_list, List.drop_drop]
  congr 1
  omega
theorem subA_head (t : ByteArray) (a : Nat) : headA (subA t a) = ⟨bt t a, bt t (a + 1), bt t (a + 2), t.extract (a + 4) (a + endA (subA t a))⟩ ∧ restA (subA t a) = subA t (a + endA (subA t a)) := by
  unfold headA restA
  rw [subA_bt, subA_bt, subA_bt, subA_ext, subA_sub]
  exact ⟨rfl, rfl⟩
theorem leftA_end {t : ByteArray} {l : List (Ac × ByteArray)} {a : Nat} (ha : a ≤ t.size) (h : leftA t l = subA t a) : (t.size : Int) - (leftA t l).size = a := by
  rw [h, subA_size]
  omega
/-- Where the acts end: eighty, or no more. -/
theorem replay_end {t : ByteArray} (ht : t.size ≤ 4096) {pre : List (Ac × ByteArray)} {a : Nat} (ha : a ≤ t.size) (h : allA t = pre ++ allA (subA t a)) (hl : leftA t pre = subA t a) (hp : pre.length ≤ 80) (he : pre.length = 80 ∨ okA (subA t a) = false) :
    replayA t = pre.map (·.1) ∧ replayN t = a ∧ replayE t = 0 := by
  have hr : replayL t = pre := by
    unfold replayL
    rw [if_pos ht, h]
    rcases he with he | he
    · rw [← he, List.take_left]
    · rw [allA_no he, List.append_nil, List.take_of_length_le hp]
  refine ⟨by unfold replayA; rw [hr], ?_, by unfold replayE; rw [if_pos ht]⟩
  unfold replayN
  rw [if_pos ht, hr]
  exact leftA_end ha hl

/-- What was written begins with the act. -/
theorem nums_bt {l : List Int} {k : Nat} {r : ByteArray} (hk : k < l.length) (h0 : badB (l.getD k 0) = false) : bt (strOfNums l ++ r) k = l.getD k 0 := by
  simp only [badB, Bool.or_eq_false_iff, decide_eq_false_iff_not] at h0
  rw [bt_ext, ByteArray.data_append, Array.toList_append, strOfNums_data, List.getD_eq_getElem?_getD, List.getElem?_append_left (by simpa using hk), List.getElem?_map, List.getElem?_eq_getElem hk, getD_lt l 0 hk]
  rw [getD_lt l 0 hk] at h0
  simp only [Option.map_some, Option.getD_some]
  rw [UInt8.toNat_ofNat']
  omega
theorem write_ok {x : Ac} (h : writeE x = 0) : (∀ k, k < 4 → badB ((actNums x).getD k 0) = false) ∧ writeS x = strOfNums (actNums x) ++ x.body := by
  have h2 : (actNums x).any badB = false := by
    unfold writeE at h
    cases ha : (actNums x).any badB
    · rfl
    · rw [ha, if_pos rfl] at h; cases h
  refine ⟨fun k hk => ?_, by unfold writeS; rw [h2]; rfl⟩
  rw [List.any_eq_false] at h2
  have := h2 _ (getD_mem (actNums x) 0 hk)
  simpa using this
theorem write_size {x : Ac} (h : writeE x = 0) : (writeS x).size = 4 + x.body.size := by
  rw [(write_ok h).2, ByteArray.size_append, strOfNums_size]
  rfl
theorem write_bts {x : Ac} (h : writeE x = 0) (r : ByteArray) : bt (writeS x ++ r) 0 = x.kind ∧ bt (writeS x ++ r) 1 = x.one ∧ bt (writeS x ++ r) 2 = x.two ∧ bt (writeS x ++ r) 3 = x.body.size := by
  obtain ⟨h1, h2⟩ := write_ok h
  rw [h2, ByteArray.append_assoc]
  exact ⟨nums_bt (l := actNums x) (k := 0) (by decide : 0 < 4) (h1 0 (by omega)), nums_bt (l := actNums x) (k := 1) (by decide : 1 < 4) (h1 1 (by omega)), nums_bt (l := actNums x) (k := 2) (by decide : 2 < 4) (h1 2 (by omega)), nums_bt (l := actNums x) (k := 3) (by decide : 3 < 4) (h1 3 (by omega))⟩
theorem allA_write {x : Ac} (h : writeE x = 0) (r : ByteArray) : allA (writeS x ++ r) = (x, r) :: allA r := by
  obtain ⟨b0, b1, b2, b3⟩ := write_bts h r
  have hs := write_size h
  have he : endA (writeS x ++ r) = 4 + x.body.size := by unfold endA; rw [b3]; omega
  have hok : okA (writeS x ++ r) = true := okA_iff.2 ⟨by rw [ByteArray.size_append, hs]; omega, by rw [he, ByteArray.size_append, hs]; omega⟩
  have hr : restA (writeS x ++ r) = r := by
    refine ba_ext ?_
    rw [show restA (writeS x ++ r) = subA (writeS x ++ r) (endA (writeS x ++ r)) from rfl, subA_list, he, ByteArray.data_append, Array.toList_append, ← hs, ba_size, List.drop_left]
  have hh : headA (writeS x ++ r) = x := by
    unfold headA
    rw [b0, b1, b2, he]
    have hb : (writeS x ++ r).extract 4 (4 + x.body.size) = x.body := by
      refine ba_ext ?_
      rw [ext_list, ByteArray.data_append, Array.toList_append, (write_ok h).2, ByteArray.data_append, Array.toList_append, List.append_assoc, List.drop_append_of_le_length (by rw [strOfNums_data]; simp [actNums])]
      rw [List.drop_of_length_le (by rw [strOfNums_data]; simp [actNums]), List.nil_append, Nat.add_sub_cancel_left, ba_size, List.take_left]
    rw [hb]
  rw [allA_ok hok, hh, hr]
/-- The acts of a text, without what is behind each. -/
def actsA (t : ByteArray) : List Ac := (allA t).map (·.1)
theorem actsA_write {x : Ac} (h : writeE x = 0) (r : ByteArray) : actsA (writeS x ++ r) = x :: actsA r := by unfold actsA; rw [allA_write h]; rfl
theorem actsA_short {x : Ac} (h : writeE x = 0) {k : Nat} (hk : k < (writeS x).size) (r : ByteArray) : actsA ((writeS x ++ r).extract 0 k) = [] := by
  obtain ⟨_, _, _, b3⟩ := write_bts h r
  have hs := write_size h
  have hl : ((writeS x ++ r).extract 0 k).data.toList = (writeS x ++ r).data.toList.take k := by rw [ext_list, List.drop_zero, Nat.sub_zero]
  have hz : ((writeS x ++ r).extract 0 k).size = k := by
    rw [ba_size, hl, List.length_take, ← ba_size, ByteArray.size_append]
    omega
  have hno : okA ((writeS x ++ r).extract 0 k) = false := by
    rw [Bool.eq_false_iff]
    intro h2
    obtain ⟨h3, h4⟩ := okA_iff.1 h2
    rw [hz] at h3 h4
    have hb : bt ((writeS x ++ r).extract 0 k) 3 = bt (writeS x ++ r) 3 := by
      rw [bt_ext, bt_ext, hl, List.getD_eq_getElem?_getD, List.getD_eq_getElem?_getD, List.getElem?_take_of_lt (by omega)]
    unfold endA at h4
    rw [hb, b3] at h4
    omega
  unfold actsA
  rw [allA_no hno]
  rfl
/-- Acts, one behind the other, as bytes; how many of them are whole up to k. -/
def catA : List Ac → ByteArray
  | [] => ⟨#[]⟩
  | x :: l => writeS x ++ catA l
def wholeA : Nat → List Ac → Nat
  | _, [] => 0
  | k, x :: l => if (writeS x).size ≤ k then 1 + wholeA (k - (writeS x).size) l else 0
theorem actsA_empty : actsA ⟨#[]⟩ = [] := rfl
theorem actsA_cut : ∀ (l : List Ac) (k : Nat), (∀ x ∈ l, writeE x = 0) → actsA ((catA l).extract 0 k) = l.take (wholeA k l)
  | [], k, _ => by
    have e : (catA []).extract 0 k = ⟨#[]⟩ := ba_ext (by rw [ext_list]; simp [catA])
    rw [e, actsA_empty]
    simp [wholeA]
  | x :: l, k, h => by
    have hx := h x (by simp)
    unfold wholeA catA
    by_cases hk : (writeS x).size ≤ k
    · rw [if_pos hk]
      have e : (writeS x ++ catA l).extract 0 k = writeS x ++ (catA l).extract 0 (k - (writeS x).size) := by
        refine ba_ext ?_
        rw [ext_list, ByteArray.data_append, ByteArray.data_append, Array.toList_append, Array.toList_append, ext_list, List.drop_zero, List.drop_zero, Nat.sub_zero, Nat.sub_zero, List.take_append, ba_size, List.take_of_length_le (by rw [← ba_size]; exact hk)]
      rw [e, actsA_write hx, actsA_cut l _ (fun y hy => h y (List.mem_cons_of_mem _ hy)), Nat.add_comm, List.take_succ_cons]
    · rw [if_neg hk, actsA_short hx (by omega), List.take_zero]
/-- An act more behind a text that is whole. -/
theorem ba_empty {s : ByteArray} (h : s.size = 0) : s = ⟨#[]⟩ := ba_ext (List.eq_nil_of_length_eq_zero (l := s.data.toList) h)
theorem actsA_more : ∀ (f : Nat) (t b : ByteArray), t.size ≤ f → (leftA t (allA t)).size = 0 → actsA (t ++ b) = actsA t ++ actsA b
  | f, t, b, hf, h => by
    cases ho : okA t
    · rw [allA_no ho] at h
      have e := ba_empty (s := t) h
      have e2 : t ++ b = b := by rw [e]; exact ba_ext (by rw [ByteArray.data_append, Array.toList_append]; simp)
      rw [e2]
      unfold actsA
      rw [allA_no ho]
      rfl
    · obtain ⟨h4, he⟩ := okA_iff.1 ho
      have hr := restA_size ho
      cases f with
      | zero => omega
      | succ f =>
        have hb : ∀ k, k < t.size → bt (t ++ b) k = bt t k := fun k hk => by
          rw [bt_ext, bt_ext, ByteArray.data_append, Array.toList_append, List.getD_eq_getElem?_getD, List.getD_eq_getElem?_getD, List.getElem?_append_left (by rw [← ba_size]; exact hk)]
        have hee : endA (t ++ b) = endA t := by unfold endA; rw [hb 3 (by omega)]
        have hok : okA (t ++ b) = true := okA_iff.2 ⟨by rw [ByteArray.size_append]; omega, by rw [hee, ByteArray.size_append]; omega⟩
        have hrr : restA (t ++ b) = restA t ++ b := by
          refine ba_ext ?_
          rw [show restA (t ++ b) = subA (t ++ b) (endA (t ++ b)) from rfl, subA_list, hee, ByteArray.data_append, ByteArray.data_append, Array.toList_append, Array.toList_append, show restA t = subA t (endA t) from rfl, subA_list, List.drop_append_of_le_length (by rw [← ba_size]; exact he)]
        have hhh : headA (t ++ b) = headA t := by
          unfold headA
          rw [hb 0 (by omega), hb 1 (by omega), hb 2 (by omega), hee]
          have : (t ++ b).extract 4 (endA t) = t.extract 4 (endA t) := by
            refine ba_ext ?_
            rw [ext_list, ext_list, ByteArray.data_append, Array.toList_append, List.drop_append_of_le_length (by rw [← ba_size]; omega), List.take_append_of_le_length (by rw [List.length_drop, ← ba_size]; omega)]
          rw [this]
        have hl : leftA t (allA t) = leftA (restA t) (allA (restA t)) := by
          rw [allA_ok ho]
          unfold leftA
          rw [List.map_cons, List.getLastD_cons]
        rw [hl] at h
        have ih := actsA_more f (restA t) b (by omega) h
        unfold actsA at ih ⊢
        rw [allA_ok hok, allA_ok ho, hhh, hrr, List.map_cons, List.map_cons, List.cons_append, ih]
end Go.Proofs.YtnalakhelicjcaaGreat
