/-
  The program: how many are ready; how far is a node, errors too.
-/
import Derived.Test.YtafmpcaneeplpaaAt
import Derived.Test.YtafmpcaneeplpaaKJ
import Derived.Test.YtafmpcaneeplpaaKE
set_option maxRecDepth 100000
namespace Go.Proofs.Ytafmpcaneeplpaa
open Go.RowKit Go.Shelf Go.BigFrame

def overB (far : Int) (m : M) : Bool := decide (m.stamp > far)
def cntX (X : Wd) (n : Nat) : Nat := (X.nodes.getD n N.zero).held.findIdx (overB (boundX X n))
theorem idx_cases (p : M → Bool) (xs : List M) : (idxM p xs < 0 ∧ xs.findIdx p = xs.length) ∨ (0 ≤ idxM p xs ∧ idxM p xs = (xs.findIdx p : Nat)) := by
  unfold idxM
  rw [List.findIdx?_eq_guard_findIdx_lt]
  by_cases h : xs.findIdx p < xs.length
  · exact .inr (by simp [Option.guard, h])
  · have := List.findIdx_le_length (p := p) (xs := xs)
    exact .inl ⟨by simp [Option.guard, h], by omega⟩
theorem overM_c {w : World} {B : Nat} {far : Int} (m : M) (hB : w.cell? ⟨B, 0, none⟩ = some (.int .i64 far)) : Calls Try.prog 85 #[m.val, .pointer (some ⟨B, 0, none⟩)] w (GivesB (.bool (overB far m)) w) := by
  unfold M.val
  have hM := MsgBox.new w m 48
  have hA := below_a1 w (.cells #[.int .i64 m.src, .int .i64 m.grp, .int .i64 m.stamp, .bool m.null, .string m.body] 48)
  have hB' := cell_alloc_l (.cells #[.int .i64 m.src, .int .i64 m.grp, .int .i64 m.stamp, .bool m.null, .string m.body] 48) hB
  go_enter Try.func85, Try.ntmps85
  go_wp2_with fail
  go_ret
  exact givesB_bool hA rfl
theorem overM_p {w : World} {B : Nat} {far : Int} (hB : w.cell? ⟨B, 0, none⟩ = some (.int .i64 far)) : PredM Try.prog 85 #[.pointer (some ⟨B, 0, none⟩)] (overB far) w :=
  ⟨enters_of Try.func85 (by kernel_rfl) rfl, fun W m hb => overM_c m ((hb.cell (p := ⟨B, 0, none⟩) (cell_lt hB)).trans hB)⟩

theorem Count_c {w : World} {v : Value} {X : Wd} (h : WorldAt w v X) {n : Nat} (hn1 : n < X.nodes.length) (ht : TabN X n) : Calls Try.prog 59 #[v, .int .i64 n] w (GivesB (.int .i64 (cntX X n : Nat)) w) := by
  obtain ⟨gv, nv, wv, rfl, hg, hn, hw⟩ := h
  obtain ⟨hnl, _⟩ := hn.form
  obtain ⟨hwl, wa, wcap, rfl, hwc⟩ := hw.form
  obtain ⟨hgl, ga, gcap, rfl, _⟩ := hg.open
  obtain ⟨b1, o1, c1, lv, hv, tv, rfl, hc1, k0, k1, k2, k3, hcl, hr, hh, htt⟩ := hn.at hn1
  obtain ⟨hhl, ha, hcap, rfl, _⟩ := hh.open
  have hA := below_a1 w (.cells #[.slice ga X.groups.length gcap, .slice (some ⟨b1, o1, none⟩) X.nodes.length c1, .slice wa X.wires.length wcap] 26)
  have hB := WBox.new w (.slice ga X.groups.length gcap) (.slice (some ⟨b1, o1, none⟩) X.nodes.length c1) (.slice wa X.wires.length wcap) 26
  have hC := At_c (w := w.alloc (.cells #[.slice ga X.groups.length gcap, .slice (some ⟨b1, o1, none⟩) X.nodes.length c1, .slice wa X.wires.length wcap] 26)) ⟨_, _, _, rfl, hg.below hA, hn.below hA, hw.below hA⟩ hn1 ht
  have hR : cntX X n = (X.nodes.getD n N.zero).held.findIdx (overB (boundX X n)) := rfl
  have hcs := idx_cases (overB (boundX X n)) (X.nodes.getD n N.zero).held
  rw [← hR] at hcs
  clear hR
  generalize cntX X n = r at *
  generalize boundX X n = far at *
  obtain ⟨x, HX⟩ : ∃ x, X.nodes.getD n N.zero = x := ⟨_, rfl⟩
  simp only [HX] at *
  clear HX
  go_enter Try.func59, Try.ntmps59
  go_wp2_with fail
  refine hC.mono ?_
  rintro e w1 ⟨rfl, hb⟩
  have hw1 := below_trans hA hb
  have hw2 := below_trans hw1 (below_a1 w1 (.cells #[.int .i64 far] 3))
  obtain ⟨x0, x1, x2⟩ := hB.below (below_trans hb (below_a1 w1 (.cells #[.int .i64 far] 3))) (by rw [World.size_alloc]; omega)
  have k2' := (hw2.cell (p := ⟨b1, o1 + n * 4 + 2, none⟩) (cell_lt k2)).trans k2
  have hD := IndexFuncM_c (hh.below hw2) 85 #[.pointer (some ⟨w1.heap.size, 0, none⟩)] (overB far) (overM_p (cell_new_l w1 (.int .i64 far) 3).1)
  generalize idxM (overB far) x.held = q at *
  rcases hcs with ⟨hq, hv⟩ | ⟨hq, hv⟩
  · replace hv := Lib.hid hv
    go_wp2_with fail
    refine hD.mono ?_
    rintro e w3 ⟨rfl, hb3⟩
    have k3' := (hb3.cell (p := ⟨b1, o1 + n * 4 + 2, none⟩) (cell_lt k2')).trans k2'
    have x3 := (hb3.cell (p := ⟨w.heap.size, 1, none⟩) (cell_lt x1)).trans x1
    go_wp2_with fail
    go_ret
    exact givesB_int (below_trans hw2 hb3) (by rw [hv.out])
  · replace hv := Lib.hid hv
    have hq' : ¬ q < 0 := by omega
    clear hq
    go_wp2_with fail
    refine hD.mono ?_
    rintro e w3 ⟨rfl, hb3⟩
    go_wp2_with fail
    go_ret
    exact givesB_int (below_trans hw2 hb3) hv.out

set_option maxHeartbeats 1000000 in
theorem BOf_c {w : World} {v : Value} {X : Wd} (h : WorldAt w v X) (n : Int) (hn64 : I64 n) :
    Calls Try.prog 22 #[v, .int .i64 n] w (GivesB (.tuple #[.int .i64 (boundR X n), .int .i64 (nodeE X n)]) w) := by
  obtain ⟨gv, nv, wv, rfl, hg, hn, hw⟩ := h
  obtain ⟨hnl, na, ncap, rfl, hnc⟩ := hn.form
  obtain ⟨hwl, wa, wcap, rfl, hwc⟩ := hw.form
  obtain ⟨hgl, ga, gcap, rfl, _⟩ := hg.open
  have hA := below_a2 w (.cells #[.slice ga X.groups.length gcap, .slice na X.nodes.length ncap, .slice wa X.wires.length wcap] 26) (.cells #[.int .i64 n] 3)
  have hB := (WBox.new w (.slice ga X.groups.length gcap) (.slice na X.nodes.length ncap) (.slice wa X.wires.length wcap) 26).below (below_a1 _ (.cells #[.int .i64 n] 3)) (by rw [World.size_alloc]; omega)
  have hL := Ints.lit (w.alloc (.cells #[.slice ga X.groups.length gcap, .slice na X.nodes.length ncap, .slice wa X.wires.length wcap] 26)) [n] 3 (by simp [hn64]) (by simp)
  rw [World.size_alloc] at hL
  have hE1 := There_c (w := (w.alloc (.cells #[.slice ga X.groups.length gcap, .slice na X.nodes.length ncap, .slice wa X.wires.length wcap] 26)).alloc (.cells #[.int .i64 n] 3)) ⟨_, _, _, rfl, hg.below hA, hn.below hA, hw.below hA⟩ hL
  rw [thereE_one] at hE1
  simp only [List.length_cons, List.length_nil, Nat.zero_add] at hE1
  have hsz : ((w.alloc (.cells #[.slice ga X.groups.length gcap, .slice na X.nodes.length ncap, .slice wa X.wires.length wcap] 26)).alloc (.cells #[.int .i64 n] 3)).heap.size = w.heap.size + 1 + 1 := by rw [World.size_alloc, World.size_alloc]
  by_cases he : nodeE X n = 0
  · obtain ⟨hx, h0, h1⟩ := nodeE_ok he
    have hfit := errX_fit hx
    obtain ⟨k, rfl⟩ := Int.eq_ofNat_of_zero_le h0
    have hk : k < X.nodes.length := by omega
    have hC := fun o (h : Below w.heap.size w o) => At_c (w := o) ⟨_, _, _, rfl, hg.below h, hn.below h, hw.below h⟩ hk (hfit.tab hk)
    have hr : boundR X (k : Int) = boundX X k := by rw [boundR, if_pos he, Int.toNat_natCast]
    rw [hr, he]
    rw [he] at hE1
    clear he hr hfit hx
    generalize boundX X k = r at *
    go_enter Try.func22, Try.ntmps22
    go_wp2_with fail
    refine hE1.mono ?_
    rintro e w1 ⟨rfl, hb⟩
    obtain ⟨x0, x1, x2⟩ := hB.below hb (by rw [hsz]; omega)
    go_wp2_with fail
    refine (hC _ (below_trans hA hb)).mono ?_
    rintro e w2 ⟨rfl, hb2⟩
    go_wp2_with fail
    go_ret2
    exact ⟨rfl, below_trans (below_trans hA hb) hb2⟩
  · have hr : boundR X n = 0 := if_neg he
    rw [hr]
    clear hr
    generalize nodeE X n = e0 at *
    have hne : (e0 != 0) = true := by simpa using he
    replace he := Lib.hid he
    go_enter Try.func22, Try.ntmps22
    go_wp2_with fail
    refine hE1.mono ?_
    rintro e w1 ⟨rfl, hb⟩
    go_wp2_with fail
    go_ret2
    exact ⟨rfl, below_trans hA hb⟩
end Go.Proofs.Ytafmpcaneeplpaa
