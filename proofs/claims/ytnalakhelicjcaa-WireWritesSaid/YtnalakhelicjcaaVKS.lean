/-
  Acts of the laws; three nodes, two groups, acts done.
  Messages, acts of the laws, newly laid.
-/
import Derived.Test.YtnalakhelicjcaaVKD
import Derived.Test.YtnalakhelicjcaaVKG
set_option maxRecDepth 100000
namespace Go.Proofs.Ytnalakhelicjcaa
open Go.RowKit Go.Shelf Go.BigFrame

theorem act_c (w : World) (k a b : Int) (s : ByteArray) : Calls Try.prog 24 #[.int .i64 k, .int .i64 a, .int .i64 b, .string s] w (GivesB (Ac.val ⟨k, a, b, s⟩) w) := by
  go_enter Try.func24, Try.ntmps24
  go_wp2_with fail
  refine bodyPost_ret (v := Ac.val ⟨k, a, b, s⟩) ?_ rfl ⟨rfl, below_a1 _ _⟩
  simp [results, Try.f24, Ac.val]
  go_simp
/-- One act, newly laid. -/
theorem Acts.lit (w : World) (l : List Ac) (hf : ∀ x ∈ l, x.fits) (hl : l.length * 32 ≤ 140737488351232) (cs : Array Value) (hcs : cs.toList = l.flatMap Ac.cells) :
    Acts (w.alloc (.cells cs 36)) (.slice (some ⟨w.heap.size, 0, none⟩) l.length l.length) l := by
  have hfl : ∀ l : List Ac, (l.map Ac.cells).flatten = l.flatMap Ac.cells := fun l => by simp [List.flatMap]
  have hln : (l.flatMap Ac.cells).length = l.length * 4 := by
    clear hf hl hcs
    induction l with
    | nil => rfl
    | cons a l ih => rw [List.flatMap_cons, List.length_append, ih]; simp [Ac.cells]; omega
  refine ⟨l.map Ac.cells, by simp, fun c hc => ?_, ⟨by rw [hfl, hln], by rw [hfl, hln]; omega, _, _, rfl, Nat.le_refl _, fun _ => ⟨w.heap.size, 0, rfl, fun k hk => ?_⟩⟩, fun i h1 h2 => ?_⟩
  · obtain ⟨x, _, rfl⟩ := List.mem_map.1 hc
    rfl
  · rw [hfl] at hk ⊢
    rw [Nat.zero_add, cell_of_row _ w.heap.size k cs 36 (0, 0) (heap_alloc_new w _)]
    rw [← hcs] at hk ⊢
    simp at hk
    simp [hk]
  · simp only [List.getElem_map]
    exact ⟨rfl, hf _ (List.getElem_mem _)⟩
theorem begin_c {w : World} {av : Value} {acts : List Ac} (ha : Acts w av acts) (hC : ∀ x ∈ acts, x.kind = 4 → ∀ X v o, WorldAt o v X → Calls Try.prog 117 #[v] o (WPost o (calmF X))) :
    Calls Try.prog 56 #[av] w (OPost w (doneF (beginX 3 [3, 6]) acts)) := by
  have hA := below_a1 w (.cells #[.slice none 0 0, .slice none 0 0, .slice none 0 0] 40)
  have hRb := OBox.new w 40 (.slice none 0 0) (.slice none 0 0) (.slice none 0 0)
  obtain ⟨_, aa, acap, rfl, _⟩ := ha.form
  obtain ⟨P, hP⟩ : ∃ P, OPost w (doneF (beginX 3 [3, 6]) acts) = P := ⟨_, rfl⟩
  rw [hP]
  replace hP := Lib.hid hP
  have hD := fun o gv (h : Below w.heap.size w o) (hg : Ints o gv [3, 6]) => DoneOf_c (n := 3) hg (by omega) (by simp) (ha.below h) hC
  replace hD := Lib.hid hD
  generalize doneF (beginX 3 [3, 6]) acts = X at *
  go_enter Try.func56, Try.ntmps56
  go_upto_region 1 with fail
  generalize w.alloc (.cells #[.slice none 0 0, .slice none 0 0, .slice none 0 0] 40) = wA at *
  have hRl := hRb.lt
  go_wp2_with fail
  refine (two_c _).mono ?_
  rintro e w1 ⟨v1, rfl, i1, hb1⟩
  have hA1 := below_trans hA hb1
  have hR1 := hRb.keep (hb1.block _ hRl)
  have hDo := hD.out w1 v1 hA1 i1
  clear hD
  go_wp2_with fail
  refine hDo.mono ?_
  rintro e w2 ⟨gv2, nv2, wv2, S2, rfl, hO2, hS2, hb2⟩
  obtain ⟨pg, pn, pw⟩ := hO2.parts
  obtain ⟨_, ga2, gcap2, rfl, _⟩ := pg.open
  obtain ⟨_, na2, ncap2, rfl, _⟩ := pn.form
  obtain ⟨_, wa2, wcap2, rfl, _⟩ := pw.form
  clear pg pn pw
  have hR2 := hR1.keep (hb2.block _ hR1.lt)
  have hlt2 := hR1.lt
  have hf0 := hR2.1.frozen 0
  have hf1 := hR2.1.frozen 1
  have hf2 := hR2.1.frozen 2
  have hbF := below_trans hA1 hb2
  replace hS2 := Lib.hid hS2
  obtain ⟨_, z0, z1, z2⟩ := id hR2
  obtain ⟨f0, f1, f2⟩ := hR2.put3 (.slice ga2 X.groups.length gcap2) (.slice na2 X.nodes.length ncap2) (.slice wa2 X.wires.length wcap2)
  go_wp2_with ((with_reducible refine bodyPost_ret (v := .agg #[.slice ga2 X.groups.length gcap2, .slice na2 X.nodes.length ncap2, .slice wa2 X.wires.length wcap2]) ?_ rfl ?_); (focus (simp [results, Try.f56]; go_simp)))
  rw [← hP.out]
  refine ⟨_, _, _, S2, rfl, hO2.keep (fun c hc => ?_), fun c hc => ?_, set3_below hbF (by omega)⟩
  · have h := (hS2.out c hc).1
    rw [set3_blk (by show c ≠ w.heap.size; omega)]
  · have h := hS2.out c hc
    rw [set3_size]
    exact ⟨by omega, h.2⟩
end Go.Proofs.Ytnalakhelicjcaa

set_option maxRecDepth 100000
namespace Go.Proofs.Ytnalakhelicjcaa
open Go.RowKit Go.Shelf Go.BigFrame

theorem Acts.nil (w : World) : Acts w (.slice none 0 0) [] := ⟨[], rfl, by simp, ⟨by simp, by simp, none, 0, rfl, Nat.le_refl _, fun h => absurd rfl h⟩, fun i h => absurd h (Nat.not_lt_zero _)⟩
theorem Msgs.lit (w : World) (ms : List M) (hf : ∀ m ∈ ms, m.fits) (hl : ms.length ≤ 100) (cs : Array Value) (hc : cs = (ms.flatMap M.cells).toArray) :
    Msgs (w.alloc (.cells cs 33)) (.slice (some ⟨w.heap.size, 0, none⟩) ms.length ms.length) ms := by
  subst hc
  have h := World.ownsRow_lit (base := 0) (e := 33) (size := 5) w (ms.flatMap M.cells).toArray ms.length (Nat.zero_le _) (by unfold maxLen; omega) (by rw [List.size_toArray, flat_len])
  exact MsgsOwn.msgs ⟨hf, by simpa using h⟩ (by omega)
end Go.Proofs.Ytnalakhelicjcaa
