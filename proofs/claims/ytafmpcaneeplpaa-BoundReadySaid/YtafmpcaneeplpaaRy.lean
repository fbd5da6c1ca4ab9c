/-
  The program: what is ready of a node, errors too.
-/
import Derived.Test.YtafmpcaneeplpaaCt
import Derived.Test.YtafmpcaneeplpaaKE
set_option maxRecDepth 100000
namespace Go.Proofs.Ytafmpcaneeplpaa
open Go.RowKit Go.Shelf Go.BigFrame

theorem rises_le : ∀ {m : M} {ms : List M}, risesB (m :: ms) = true → ∀ y ∈ ms, m.stamp ≤ y.stamp
  | _, [], _ => by simp
  | m, a :: l, h => by
    simp only [risesB, Bool.and_eq_true] at h
    have h1 : m.stamp ≤ a.stamp := by
      have := h.1
      simp only [lessM, Bool.or_eq_true, Bool.and_eq_true, decide_eq_true_eq] at this
      omega
    intro y hy
    rcases List.mem_cons.1 hy with rfl | hy
    · exact h1
    · have := rises_le h.2 y hy
      omega
theorem rises_tail {m : M} {ms : List M} (h : risesB (m :: ms) = true) : risesB ms = true := by
  cases ms with
  | nil => rfl
  | cons a l =>
    simp only [risesB, Bool.and_eq_true] at h
    exact h.2
theorem readyL_take {far : Int} : ∀ {ms : List M}, risesB ms = true → readyL ms far = ms.take (ms.findIdx (overB far))
  | [], _ => rfl
  | m :: l, h => by
    have ih := readyL_take (far := far) (rises_tail h)
    unfold readyL at ih ⊢
    by_cases hm : m.stamp ≤ far
    · have h1 : overB far m = false := by simp [overB]; omega
      rw [List.filter_cons_of_pos (by simpa using hm), ih, List.findIdx_cons, h1]
      rfl
    · have h1 : overB far m = true := by simp [overB]; omega
      rw [List.findIdx_cons, h1, List.filter_eq_nil_iff.2]
      · rfl
      · intro y hy
        rcases List.mem_cons.1 hy with rfl | hy
        · simpa using hm
        · have := rises_le h y hy
          simp
          omega
theorem errX_rises {X : Wd} (h : errX X = 0) {k : Nat} (hk : k < X.nodes.length) : risesB (X.nodes.getD k N.zero).held = true := by
  have hg : gErr X.nodes.length X.groups = 0 := by
    rcases Classical.em (gErr X.nodes.length X.groups = 0) with e | e
    · exact e
    · rw [errX_g e] at h; exact absurd h e
  have hm : manyX X = false := by
    cases hm : manyX X
    · rfl
    · rw [errX_2 hg hm] at h; cases h
  have hf : fineX X = true := by
    cases hf : fineX X
    · rw [errX_1 hg hm hf] at h; cases h
    · rfl
  simp only [fineX, Bool.and_eq_true, decide_eq_true_eq, range_all_iff] at hf
  have := hf.1.2 k hk
  simp only [fineR, nodeFineB, nodeOkB, Bool.and_eq_true] at this
  exact this.2.2.1.1.1.1.1
theorem readyX_take {X : Wd} (h : errX X = 0) {k : Nat} (hk : k < X.nodes.length) : readyX X k = (X.nodes.getD k N.zero).held.take (cntX X k) := readyL_take (errX_rises h hk)

theorem Msgs.take {w : World} {a : Option Addr} {n cap : Nat} {ms : List M} (h : Msgs w (.slice a n cap) ms) {k : Nat} (hk : k ≤ ms.length) : Row w (.slice a k cap) k 5 ((ms.take k).flatMap M.cells) := by
  obtain ⟨_, h1, h2, a', cap', h3, h4, h5⟩ := h
  cases h3
  rw [flat_len] at h2
  refine ⟨by rw [flat_len, List.length_take]; omega, by rw [flat_len, List.length_take]; omega, a, cap, rfl, by omega, fun hn => ?_⟩
  obtain ⟨b, off, ha, hc⟩ := h5 (by omega)
  refine ⟨b, off, ha, fun j hj => ?_⟩
  rw [← flat_take] at hj ⊢
  rw [List.length_take] at hj
  rw [hc j (by omega), List.getD_eq_getElem?_getD, List.getD_eq_getElem?_getD, List.getElem?_take, if_pos (by omega)]

set_option maxHeartbeats 2000000 in
theorem BReady_c {w : World} {v : Value} {X : Wd} (h : WorldAt w v X) (n : Int) (hn64 : I64 n) :
    Calls Try.prog 25 #[v, .int .i64 n] w (fun e w' => ∃ v', e = .returned (.tuple #[v', .int .i64 (nodeE X n)]) ∧ MsgsOwn w' w.heap.size v' (readyR X n) ∧ Below w.heap.size w w') := by
  obtain ⟨gv, nv, wv, rfl, hg, hn, hw⟩ := h
  obtain ⟨hnl, na, ncap, rfl, hnc⟩ := hn.form
  obtain ⟨hwl, wa, wcap, rfl, hwc⟩ := hw.form
  obtain ⟨hgl, ga, gcap, rfl, _⟩ := hg.open
  have hA := below_a2 w (.cells #[.slice ga X.groups.length gcap, .slice na X.nodes.length ncap, .slice wa X.wires.length wcap] 26) (.cells #[.int .i64 n] 3)
  have hB := (WBox.new w (.slice ga X.groups.length gcap) (.slice na X.nodes.length ncap) (.slice wa X.wires.length wcap) 26).below (below_a1 _ (.cells #[.int .i64 n] 3)) (by rw [World.size_alloc]; omega)
  have hL := Ints.lit (w.alloc (.cells #[.slice ga X.groups.length gcap, .slice na X.nodes.length ncap, .slice wa X.wires.length wcap] 26)) [n] 3 (by simp [hn64]) (by simp)
  rw [World.size_alloc] at hL
  have hE1 := There_c (w := (w.alloc (.cells #[.slice ga X.groups.length gcap, .slice na X.nodes.length ncap, .slice wa X.wires.length wcap] 26)).alloc (.cells #[.int .i64 n] 3)) ⟨_, _, _, rfl, hg.below hA, hn.below hA, hw.below hA⟩ hL
  rw [thereE_one] at hE1
  simp only [List.length_cons, List.length_nil, Nat.zero_add] at hE1
  have hsz : ((w.alloc (.cells #[.slice ga X.groups.length gcap, .slice na X.nodes.length ncap, .slice wa X.wires.length wcap] 26)).alloc (.cells #[.int .i64 n] 3)).heap.size = w.heap.size + 1 + 1 := by rw [World.size_alloc, World.size_alloc]
  by_cases he : nodeE X n = 0
  · obtain ⟨hx, h0, h1⟩ := nodeE_ok he
    have hfit := errX_fit hx
    obtain ⟨k, rfl⟩ := Int.eq_ofNat_of_zero_le h0
    have hk : k < X.nodes.length := by omega
    have hC := fun o (h : Below w.heap.size w o) => Count_c (w := o) ⟨_, _, _, rfl, hg.below h, hn.below h, hw.below h⟩ hk (hfit.tab hk)
    have hr : readyR X (k : Int) = (X.nodes.getD k N.zero).held.take (cntX X k) := by rw [readyR, if_pos he, Int.toNat_natCast, readyX_take hx hk]
    have hcl : cntX X k ≤ (X.nodes.getD k N.zero).held.length := List.findIdx_le_length
    have hll := (hfit.lists _ (getD_mem X.nodes N.zero hk)).1
    obtain ⟨b1, o1, c1, lv, hv, tv, e1, hc1, k0, k1, k2, k3, _, hrr, hh, htt⟩ := hn.at hk
    cases e1
    rw [hr, he]
    rw [he] at hE1
    clear he hr hfit hx hrr htt
    generalize cntX X k = r at *
    obtain ⟨x, HX⟩ : ∃ x, X.nodes.getD k N.zero = x := ⟨_, rfl⟩
    simp only [HX] at *
    clear HX
    obtain ⟨hhl, ha, hcap, rfl, hhc, _⟩ := hh.open
    go_enter Try.func25, Try.ntmps25
    go_wp2_with fail
    refine hE1.mono ?_
    rintro e w1 ⟨rfl, hb⟩
    have hw1 := below_trans hA hb
    obtain ⟨x0, x1, x2⟩ := hB.below hb (by rw [hsz]; omega)
    go_upto_region 4 with fail
    have hSB : ∀ W, Below w1.heap.size w1 W → W.cell? ⟨w.heap.size, 0, none⟩ = some (.slice ga X.groups.length gcap) ∧ W.cell? ⟨w.heap.size, 1, none⟩ = some (.slice (some ⟨b1, o1, none⟩) X.nodes.length ncap) ∧ W.cell? ⟨w.heap.size, 2, none⟩ = some (.slice wa X.wires.length wcap) ∧ W.cell? ⟨b1, o1 + k * 4 + 2, none⟩ = some (.slice ha x.held.length hcap) :=
      fun W h => ⟨(h.cell (p := ⟨w.heap.size, 0, none⟩) (cell_lt x0)).trans x0, (h.cell (p := ⟨w.heap.size, 1, none⟩) (cell_lt x1)).trans x1, (h.cell (p := ⟨w.heap.size, 2, none⟩) (cell_lt x2)).trans x2, ((below_trans hw1 h).cell (p := ⟨b1, o1 + k * 4 + 2, none⟩) (cell_lt k2)).trans k2⟩
    refine wp_region_N (fun w' => w'.cell? ⟨w.heap.size, 0, none⟩ = some (.slice ga X.groups.length gcap) ∧ w'.cell? ⟨w.heap.size, 1, none⟩ = some (.slice (some ⟨b1, o1, none⟩) X.nodes.length ncap) ∧ w'.cell? ⟨w.heap.size, 2, none⟩ = some (.slice wa X.wires.length wcap) ∧ w'.cell? ⟨b1, o1 + k * 4 + 2, none⟩ = some (.slice ha x.held.length hcap)) 9 13 rfl (by kernel_rfl) (hSB _ (below_drewN w1 1)) (fun hSw => ?_)
    refine N_take' (i := 0) (v := ?_) rfl rfl (by kernel_rfl) (fun _ _ _ h => h) (Or.inl ⟨by rfl, ?_⟩) hSw ?_
    rotate_left
    · intro w hSw
      obtain ⟨s0, s1, s2, s3⟩ := hSw
      go_simp
      try with_reducible rfl
    simp only [Act.put, List.setIfInBounds_toArray, List.set_cons_zero, List.set_cons_succ]
    refine N_take' (i := 1) (v := ?_) rfl rfl (by kernel_rfl) (fun _ _ _ h => h) (Or.inl ⟨by rfl, ?_⟩) hSw ?_
    rotate_left
    · intro w hSw
      obtain ⟨s0, s1, s2, s3⟩ := hSw
      go_simp
      try with_reducible rfl
    simp only [Act.put, List.setIfInBounds_toArray, List.set_cons_zero, List.set_cons_succ]
    refine N_take' (i := 2) (v := ?_) rfl rfl (by kernel_rfl) (fun _ _ _ h => h) (Or.inl ⟨by rfl, ?_⟩) hSw ?_
    rotate_left
    · intro w hSw
      obtain ⟨s0, s1, s2, s3⟩ := hSw
      go_simp
      try with_reducible rfl
    simp only [Act.put, List.setIfInBounds_toArray, List.set_cons_zero, List.set_cons_succ]
    refine N_take' (i := 3) (v := ?_) rfl rfl (by kernel_rfl) (fun _ _ _ h => h) (Or.inl ⟨by rfl, ?_⟩) hSw ?_
    rotate_left
    · intro w hSw
      obtain ⟨s0, s1, s2, s3⟩ := hSw
      go_simp
      try with_reducible rfl
    simp only [Act.put, List.setIfInBounds_toArray, List.set_cons_zero, List.set_cons_succ]
    refine N_take' (i := 4) (v := ?_) rfl rfl (by kernel_rfl) (fun _ _ _ h => h) (Or.inl ⟨by rfl, ?_⟩) hSw ?_
    rotate_left
    · intro w hSw
      obtain ⟨s0, s1, s2, s3⟩ := hSw
      go_simp
      try with_reducible rfl
    simp only [Act.put, List.setIfInBounds_toArray, List.set_cons_zero, List.set_cons_succ]
    refine N_take' (i := 5) (v := ?_) rfl rfl (by kernel_rfl) (fun _ _ _ h => h) (Or.inl ⟨by rfl, ?_⟩) hSw ?_
    rotate_left
    · intro w hSw
      obtain ⟨s0, s1, s2, s3⟩ := hSw
      go_simp
      try with_reducible rfl
    simp only [Act.put, List.setIfInBounds_toArray, List.set_cons_zero, List.set_cons_succ]
    refine N_take' (i := 6) (v := ?_) rfl rfl (by kernel_rfl) (fun _ _ _ h => h) (Or.inl ⟨by rfl, ?_⟩) hSw ?_
    rotate_left
    · intro w hSw
      obtain ⟨s0, s1, s2, s3⟩ := hSw
      go_simp
      try with_reducible rfl
    simp only [Act.put, List.setIfInBounds_toArray, List.set_cons_zero, List.set_cons_succ]
    refine N_take' (i := 7) (v := ?_) rfl rfl (by kernel_rfl) (fun _ _ _ h => h) (Or.inl ⟨by rfl, ?_⟩) hSw ?_
    rotate_left
    · intro w hSw
      obtain ⟨s0, s1, s2, s3⟩ := hSw
      go_simp
      try with_reducible rfl
    simp only [Act.put, List.setIfInBounds_toArray, List.set_cons_zero, List.set_cons_succ]
    refine N_one' (i := 8) (by kernel_rfl) rfl ?_
    go_wp2_with fail
    refine (hC _ (below_trans hw1 (below_drewN w1 1))).mono ?_
    rintro e w2 ⟨rfl, hb2⟩
    have hb12 : Below w1.heap.size w1 w2 := below_trans (below_drewN w1 1) hb2
    go_wp2_with fail
    refine QK_normal ⟨?_, ?_⟩
    · first | exact fun _ => hSB _ hb12 | exact hSB _ hb12
    refine N_rest 9 4 (Nat.le_refl _) rfl (by kernel_rfl) ?_
    simp only [List.drop_succ_cons, List.drop_zero]
    have hRow := (hh.below (below_trans hw1 hb12)).take hcl
    go_wp2_with (go_at_call 58; refine (CloneMsg_c hRow (one_flat _) (by omega)).mono ?_; rintro e w3 ⟨v3, rfl, ho3, hb3⟩; obtain ⟨a3, c3, rfl⟩ := own_form ho3)
    go_ret2
    have hw2 := below_trans hw1 hb12
    refine ⟨_, rfl, ⟨fun m hm => hh.1 m (List.mem_of_mem_take hm), ?_⟩, below_trans hw2 hb3⟩
    rw [List.length_take, Nat.min_eq_left hcl]
    exact owns_mono ho3 hw2.size
  · have hr : readyR X n = [] := if_neg he
    rw [hr]
    clear hr
    generalize nodeE X n = e0 at *
    have hne : (e0 != 0) = true := by simpa using he
    replace he := Lib.hid he
    go_enter Try.func25, Try.ntmps25
    go_wp2_with fail
    refine hE1.mono ?_
    rintro e w1 ⟨rfl, hb⟩
    go_wp2_with fail
    go_ret2
    exact ⟨_, rfl, ⟨by simp, World.ownsRow_nil _ _ _ _⟩, below_trans hA hb⟩
end Go.Proofs.Ytafmpcaneeplpaa
