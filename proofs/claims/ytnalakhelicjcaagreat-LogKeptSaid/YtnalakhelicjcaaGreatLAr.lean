/-
  Recover, in plain words: a log that is cut; a log with an act more.
-/
import Derived.Test.YtnalakhelicjcaaGreatLAq
import Derived.Test.YtnalakhelicjcaaGreatLRc
import Derived.Test.YtnalakhelicjcaaGreatIz
set_option maxRecDepth 100000
namespace Go.Proofs.YtnalakhelicjcaaGreat
open Go.RowKit

theorem doneF_snoc (X : Wd) (l : List Ac) (x : Ac) : doneF X (l ++ [x]) = doneS (doneF X l) x := by
  unfold doneF
  rw [List.foldl_append]
  rfl
theorem replayA_acts {t : ByteArray} (h : t.size ≤ 4096) : replayA t = (actsA t).take 80 := by
  unfold replayA replayL actsA
  rw [if_pos h, List.map_take]
theorem replayE_ok {t : ByteArray} : replayE t = 0 ↔ t.size ≤ 4096 := by
  unfold replayE
  split
  · exact ⟨fun _ => ‹_›, fun _ => rfl⟩
  · exact ⟨fun h => (by cases h), fun h => absurd h ‹_›⟩
theorem recF_ok {nodes : Int} {gs : List Int} {t : ByteArray} (h : (recF nodes gs t).1 = 0) : gErr nodes gs = 0 ∧ t.size ≤ 4096 ∧ recF nodes gs t = (0, ((replayA t).length : Int), doneF (beginX nodes.toNat gs) (replayA t)) := by
  unfold recF at h ⊢
  by_cases hg : gErr nodes gs = 0
  · rw [if_pos hg] at h ⊢
    by_cases hr : replayE t = 0
    · rw [if_pos hr]
      exact ⟨hg, replayE_ok.1 hr, rfl⟩
    · rw [if_neg hr] at h
      exact absurd h hr
  · rw [if_neg hg] at h
    exact absurd h hg
theorem recF_mk {nodes : Int} {gs : List Int} {t : ByteArray} (hg : gErr nodes gs = 0) (ht : t.size ≤ 4096) : recF nodes gs t = (0, ((replayA t).length : Int), doneF (beginX nodes.toNat gs) (replayA t)) := by
  unfold recF
  rw [if_pos hg, if_pos (replayE_ok.2 ht)]
theorem recF_more {nodes : Int} {gs : List Int} {t : ByteArray} {x : Ac} (h1 : (recF nodes gs t).1 = 0) (h2 : writeE x = 0) (h3 : replayN t = t.size) (h4 : (replayA t).length < 80) (h5 : t.size + (writeS x).size ≤ 4096) :
    recF nodes gs (t ++ writeS x) = (0, (recF nodes gs t).2.1 + 1, doneS (recF nodes gs t).2.2 x) := by
  obtain ⟨hg, ht, hr⟩ := recF_ok h1
  have hA := replayA_acts ht
  have hlt : (actsA t).length < 80 := by
    rw [hA, List.length_take] at h4
    omega
  have hA2 : replayA t = actsA t := by rw [hA, List.take_of_length_le (by omega)]
  have hl : replayL t = allA t := by
    unfold replayL
    rw [if_pos ht, List.take_of_length_le (by unfold actsA at hlt; rw [List.length_map] at hlt; omega)]
  have hz : (leftA t (allA t)).size = 0 := by
    unfold replayN at h3
    rw [if_pos ht, hl] at h3
    omega
  have hb : actsA (writeS x) = [x] := by
    have e : writeS x = writeS x ++ ⟨#[]⟩ := ba_ext (by rw [ByteArray.data_append, Array.toList_append]; simp)
    rw [e, actsA_write h2, actsA_empty]
  have hm := actsA_more t.size t (writeS x) (Nat.le_refl _) hz
  rw [hb] at hm
  have ht2 : (t ++ writeS x).size ≤ 4096 := by rw [ByteArray.size_append]; exact h5
  have hA3 : replayA (t ++ writeS x) = replayA t ++ [x] := by
    rw [replayA_acts ht2, hm, hA2, List.take_of_length_le (by rw [List.length_append, List.length_singleton]; omega)]
  rw [recF_mk hg ht2, hr, hA3, doneF_snoc, List.length_append, List.length_singleton]
  rfl
theorem wholeA_le : ∀ (l : List Ac) (k : Nat), wholeA k l ≤ l.length
  | [], _ => Nat.le_refl _
  | x :: l, k => by
    unfold wholeA
    rw [List.length_cons]
    split
    · have := wholeA_le l (k - (writeS x).size)
      omega
    · omega
theorem catA_cons_take (x : Ac) (l : List Ac) (i : Nat) : (catA ((x :: l).take (i + 1))).size = (writeS x).size + (catA (l.take i)).size := by
  rw [List.take_succ_cons, catA, ByteArray.size_append]
theorem wholeA_iff : ∀ (l : List Ac) (k i : Nat), i < l.length → ((catA (l.take (i + 1))).size ≤ k ↔ i < wholeA k l)
  | [], _, i, h => absurd h (Nat.not_lt_zero _)
  | x :: l, k, i, h => by
    rw [catA_cons_take]
    unfold wholeA
    by_cases hk : (writeS x).size ≤ k
    · rw [if_pos hk]
      cases i with
      | zero =>
        have : (catA (l.take 0)).size = 0 := rfl
        omega
      | succ i =>
        rw [List.length_cons] at h
        have := wholeA_iff l (k - (writeS x).size) i (by omega)
        omega
    · rw [if_neg hk]
      omega
theorem catA_snoc (l : List Ac) (x : Ac) : catA (l ++ [x]) = catA l ++ writeS x := by
  induction l with
  | nil =>
    show writeS x ++ ⟨#[]⟩ = ⟨#[]⟩ ++ writeS x
    exact ba_ext (by rw [ByteArray.data_append, ByteArray.data_append, Array.toList_append, Array.toList_append]; simp)
  | cons y l ih =>
    show writeS y ++ catA (l ++ [x]) = writeS y ++ catA l ++ writeS x
    rw [ih, ByteArray.append_assoc]
theorem catA_next {l : List Ac} {k : Nat} (h : k < l.length) : catA (l.take (k + 1)) = catA (l.take k) ++ writeS (l.getD k Ac.zero) := by
  rw [List.take_succ_eq_append_getElem h, getD_lt l Ac.zero h, catA_snoc]
theorem recF_cut {nodes : Int} {gs : List Int} {l : List Ac} {k : Nat} (hg : gErr nodes gs = 0) (hl : l.length ≤ 40) (hw : ∀ x ∈ l, writeE x = 0) (hs : (catA l).size ≤ 4096) :
    recF nodes gs ((catA l).extract 0 k) = (0, ((wholeA k l : Nat) : Int), doneF (beginX nodes.toNat gs) (l.take (wholeA k l))) ∧ errX (doneF (beginX nodes.toNat gs) (l.take (wholeA k l))) = 0 := by
  have hle := wholeA_le l k
  have hz : ((catA l).extract 0 k).size ≤ 4096 := by rw [ByteArray.size_extract]; omega
  have hA : replayA ((catA l).extract 0 k) = l.take (wholeA k l) := by
    rw [replayA_acts hz, actsA_cut l k hw, List.take_of_length_le (by rw [List.length_take]; omega)]
  refine ⟨?_, ?_⟩
  · rw [recF_mk hg hz, hA, List.length_take, Nat.min_eq_left hle]
  · obtain ⟨n, rfl⟩ := Int.eq_ofNat_of_zero_le (show 0 ≤ nodes by have := gErr_small hg; omega)
    rw [Int.toNat_natCast]
    exact (doneF_reach hg (by rw [List.length_take]; omega)).1.inv.right.err
end Go.Proofs.YtnalakhelicjcaaGreat
