/-
  slices.Clone at the element types that the program uses: a new row of the same cells.
-/
import Derived.Test.YthclljdkicihpaaBase
import Derived.Test.YthclljdkicihpaaProg
import Derived.Lib.SliceRun
namespace Go.Proofs.Ythclljdkicihpaa
open Go.RowKit
theorem row_news {w : World} {n s c : Nat} {ad : Addr} {cs : List Value} (h : Row w (.slice (some ad) n c) n s cs) : ∀ j u, cs[j]? = some u → w.cell? (ad.add j) = some u := by
  intro j u hj
  obtain ⟨h1, _, a, cap, e, _, hc⟩ := h
  have hjl : j < cs.length := (List.getElem?_eq_some_iff.1 hj).1
  obtain ⟨b, off, ha, hcc⟩ := hc (by rintro rfl; simp at h1; subst h1; simp at hjl)
  simp only [Value.slice.injEq] at e
  obtain ⟨e, _, _⟩ := e
  rw [← e] at ha
  cases ha
  have := hcc j hjl
  rw [List.getD_eq_getElem?_getD, hj] at this
  unfold Addr.add
  split
  · rename_i h0; subst h0; simpa using this
  · simpa using this

theorem infoCMsg : (Try.prog.info? 24).map (fun i => (i.zero, i.size, i.bytes)) = some (some (.agg #[.int .i64 0, .int .i64 0, .int .i64 0, .bool false, .string ByteArray.empty]), 5, 48) := by kernel_rfl
set_option maxHeartbeats 400000 in
theorem CloneMsg_c {w : World} {v : Value} {n : Nat} {cs : List Value} (h : Row w v n 5 cs) (h1 : ∀ u ∈ cs, u.oneCell' = true) (hn : n * 48 ≤ 140737488355328) :
    Calls Try.prog 25 #[v] w fun e w' => ∃ v', e = .returned v' ∧ w'.ownsRow w.heap.size 24 5 v' n cs ∧ Below w.heap.size w w' := by
  obtain ⟨i0, hi, hz0, hz1, hz2⟩ := info_parts infoCMsg
  have hl := h.1
  obtain ⟨_, hb8, a, cap, rfl, hcap, hcc⟩ := h
  have hnil := fun w => Lib.run_eql_slice_nil (P := Try.prog) w 30 24 a n cap 0 0 Try.underlying30
  cases a with
  | none =>
    have hn0 : n = 0 := by
      rcases Nat.eq_zero_or_pos n with h0 | h0
      · exact h0
      · obtain ⟨b, off, e, _⟩ := hcc (by omega); cases e
    subst hn0
    obtain rfl : cs = [] := List.eq_nil_of_length_eq_zero (by simpa using hl)
    simp only [Option.isNone_none] at hnil
    clear hcc h1
    go_enter Try.func25, Try.ntmps25
    go_wp2_with fail
    go_ret
    exact ⟨_, rfl, World.ownsRow_nil _ _ _ _, Below.refl _ _⟩
  | some ad =>
    simp only [Option.isNone_some] at hnil
    have hnews := row_news (s := 5) ⟨hl, hb8, some ad, cap, rfl, hcap, hcc⟩
    have hnews2 : ∀ j u, cs[j]? = some u → (w.alloc (.cells #[] 24)).cell? (ad.add j) = some u := fun j u hj => by
      rw [(below_a1 w (.cells #[] 24)).cell (p := ad.add j) (cell_lt (hnews j u hj))]
      exact hnews j u hj
    have hown := World.ownsRow_made (base := w.heap.size) (e := 24) (size := 5) w #[] 0 (Nat.le_refl _) (by simp [maxLen]) (by simp)
    replace hnews2 := Lib.hid hnews2
    replace h1 := Lib.hid h1
    clear hnews hcc
    go_enter Try.func25, Try.ntmps25
    go_wp2_with (at_builtin; refine wpList_append_own _ rfl _ _ 30 rfl w.heap.size 24 i0 _ 5 48 Try.underlying30 hi hz0 hz1 hz2 rfl (by decide) _ _ _ rfl hown ad n cap cs rfl hl hnews2.out h1.out (by unfold maxLen; omega) (by omega) (by simp) ?_; intro v' w1 hown' hgrow _)
    go_ret
    refine ⟨_, rfl, ?_, ?_⟩
    · simpa using hown'
    · exact (below_a1 w _).grown hgrow (by simp) (fun k e => by have := (hown.lt k e).1; omega)






end Go.Proofs.Ythclljdkicihpaa
