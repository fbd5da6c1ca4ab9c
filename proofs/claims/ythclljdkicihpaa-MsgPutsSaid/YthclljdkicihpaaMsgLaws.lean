/-
  The laws of messages, walked.
-/
import Derived.Test.YthclljdkicihpaaLM
namespace Go.Proofs.Ythclljdkicihpaa
open Go.RowKit Go.Shelf Go.BigFrame

set_option maxHeartbeats 1000000 in
theorem MsgTells_walk_of (w : World) {n : Int} {v va vb : Value} {xs : List Int} {a b : M} (_ : I64 n) (h1 : Ints w v xs) (ha : a.fits ∧ va = a.val) (hb : b.fits ∧ vb = b.val) :
    Calls Try.prog 3 #[.int .i64 n, v, va, vb] w (GivesB (.bool true) w) := by
  obtain ⟨_, rfl⟩ := ha
  obtain ⟨_, rfl⟩ := hb
  have hA := below_a2 w (.cells #[.int .i64 a.src, .int .i64 a.grp, .int .i64 a.stamp, .bool a.null, .string a.body] 24) (.cells #[.int .i64 b.src, .int .i64 b.grp, .int .i64 b.stamp, .bool b.null, .string b.body] 24)
  have hI := h1.below hA
  have hMa := (MsgBox.new w a 24).below (below_a1 (w.alloc (.cells #[.int .i64 a.src, .int .i64 a.grp, .int .i64 a.stamp, .bool a.null, .string a.body] 24)) (.cells #[.int .i64 b.src, .int .i64 b.grp, .int .i64 b.stamp, .bool b.null, .string b.body] 24)) (by simp)
  have hMb := MsgBox.new (w.alloc (.cells #[.int .i64 a.src, .int .i64 a.grp, .int .i64 a.stamp, .bool a.null, .string a.body] 24)) b 24
  have hs : w.heap.size + 2 ≤ ((w.alloc (.cells #[.int .i64 a.src, .int .i64 a.grp, .int .i64 a.stamp, .bool a.null, .string a.body] 24)).alloc (.cells #[.int .i64 b.src, .int .i64 b.grp, .int .i64 b.stamp, .bool b.null, .string b.body] 24)).heap.size := by simp
  have hc1 := fun (o : World) (h : Ints o v xs) => MCheck_c h n a
  have hc2 := fun (o : World) (h : Ints o v xs) => MsgError_c h n a
  have hc3 := fun (o : World) => Less_c o a b
  have hc4 := fun (o : World) => LessOf_c o a b
  unfold M.val at *
  go_enter Try.func3, Try.ntmps3
  go_wp2_with fail
  simp only [World.size_alloc] at hMb
  generalize hW : (w.alloc (.cells #[.int .i64 a.src, .int .i64 a.grp, .int .i64 a.stamp, .bool a.null, .string a.body] 24)).alloc (.cells #[.int .i64 b.src, .int .i64 b.grp, .int .i64 b.stamp, .bool b.null, .string b.body] 24) = W at *
  clear hW
  obtain ⟨c0, c1, c2, c3, c4⟩ := hMa
  obtain ⟨d0, d1, d2, d3, d4⟩ := hMb
  have hs1 : w.heap.size < W.heap.size := by omega
  have hs2 : w.heap.size + 1 < W.heap.size := by omega
  refine wp_region_over (by kernel_rfl) (by kernel_rfl) ?_
  repeat (go_big_quiet_step (first | exact over_c (msgBegun_c _) | exact over_c (hc1 _ (hI.below (Over.h _))) | exact over_c (hc2 _ (hI.below (Over.h _))) | exact over_c (hc3 _) | exact over_c (hc4 _)))
  refine wpQuiet_nil ?_
  rintro w2 ⟨⟨_, hb2⟩, rfl⟩
  go_wp2_with fail
  go_ret
  exact givesB_bool (hA.trans (hb2.mono (by omega))) rfl

set_option maxHeartbeats 1000000 in
theorem MsgPuts_walk_of (w : World) {v vm : Value} {ms : List M} {m : M} (h : Msgs w v ms) (hm : m.fits ∧ vm = m.val) :
    Calls Try.prog 4 #[v, vm] w (GivesB (.bool true) w) := by
  obtain ⟨hm, rfl⟩ := hm
  have hA := below_a1 w (.cells #[.int .i64 m.src, .int .i64 m.grp, .int .i64 m.stamp, .bool m.null, .string m.body] 24)
  have hM := MsgBox.new w m 24
  have hl := h.open.1
  have hP := Put_c (h.below hA) hm
  have hlen : (putL ms m).length * 40 ≤ 140737488351232 := by
    unfold putL
    split
    · rename_i he
      rw [putM_len]
      by_cases h4 : 40 ≤ (ms.length : Int)
      · cases hr : risesB ms
        · rw [(put_rise hr).1] at he; cases he
        · rw [(put_many hr h4).1] at he; cases he
      · omega
    · simp
  unfold M.val at *
  go_enter Try.func4, Try.ntmps4
  go_wp2_with fail
  refine hP.mono ?_
  rintro e w2 ⟨v2, rfl, ho2, hb2⟩
  have hw2 := below_trans hA hb2
  obtain ⟨c0, c1, c2, c3, c4⟩ := hM.below hb2 (by simp)
  have hP2 := PutOf_c (h.below hw2) hm
  unfold M.val at *
  go_wp2_with fail
  refine hP2.mono ?_
  rintro e w3 ⟨v3, rfl, ho3, hb3⟩
  go_wp2_with fail
  refine (msgBegun_c _).mono ?_
  rintro e w4 ⟨rfl, hb4⟩
  have hS := SameMsgs_c ((ho2.msgs hlen).below (below_trans hb3 hb4)) ((ho3.msgs hlen).below hb4)
  rw [sameMs_iff.2 rfl] at hS
  go_wp2_with fail
  refine hS.mono ?_
  rintro e w5 ⟨rfl, hd⟩
  go_wp2_with fail
  go_ret
  exact givesB_bool (below_trans (below_trans (below_trans hw2 hb3) hb4) hd.below) rfl
end Go.Proofs.Ythclljdkicihpaa
