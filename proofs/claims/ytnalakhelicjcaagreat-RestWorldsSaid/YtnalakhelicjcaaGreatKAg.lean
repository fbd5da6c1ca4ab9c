/-
  slices.Index and slices.Contains, at messages.
  agree.All: all that was told, in order.
-/
import Derived.Test.YtnalakhelicjcaaGreatKJ
import Derived.Test.YtnalakhelicjcaaGreatKM
import Derived.Test.YtnalakhelicjcaaGreatKP
import Derived.Test.YtnalakhelicjcaaGreatKL
import Derived.Test.YtnalakhelicjcaaGreatKS2
set_option maxRecDepth 100000
namespace Go.Proofs.YtnalakhelicjcaaGreat
open Go.RowKit Go.Shelf Go.BigFrame

theorem IndexM_c {w : World} {v : Value} {ms : List M} (h : Msgs w v ms) (m : M) :
    Calls Tryz.prog 74 #[v, m.val] w (GivesB (.int .i64 (idxM (eqM m) ms)) w) := by
  obtain ⟨hl, a, cap, rfl, _, hc⟩ := h.open
  have hA := below_a1 w (.cells #[.int .i64 m.src, .int .i64 m.grp, .int .i64 m.stamp, .bool m.null, .string m.body] 62)
  have hB := MsgBox.new w m 62
  have hs1 : w.heap.size < (w.alloc (.cells #[.int .i64 m.src, .int .i64 m.grp, .int .i64 m.stamp, .bool m.null, .string m.body] 62)).heap.size := by rw [World.size_alloc]; omega
  replace hc := Lib.hid hc
  have hh := Lib.hid (fun (k : Nat) (hk : k < ms.length) (h1 : eqM m (ms.getD k M.zero) = true) (h2 : ∀ j, j < k → eqM m (ms.getD j M.zero) = false) => idxM_hit (p := eqM m) hk h1 h2)
  have hmi := Lib.hid (fun (h : ∀ j, j < ms.length → eqM m (ms.getD j M.zero) = false) => idxM_miss (p := eqM m) h)
  generalize idxM (eqM m) ms = r at *
  unfold M.val
  go_enter Tryz.func74, Tryz.ntmps74
  go_upto_region 1 with fail
  generalize w.alloc (.cells #[.int .i64 m.src, .int .i64 m.grp, .int .i64 m.stamp, .bool m.null, .string m.body] 62) = w1 at *
  obtain ⟨C, hC⟩ : ∃ C, w.heap.size = C := ⟨_, rfl⟩
  simp only [hC] at hB hs1 ⊢
  replace hC := Lib.hid hC
  go_wp2_with fail
  go_loopw [8] (fun i wr => ∃ k : Nat, k ≤ ms.length ∧ i = .int .i64 k ∧ Hid (∀ j, j < k → eqM m (ms.getD j M.zero) = false) ∧ Below w1.heap.size w1 wr) (fun i _ => ms.length - (intOf i).toNat)
  case atStart => exact ⟨0, by omega, rfl, fun j hj => absurd hj (Nat.not_lt_zero _), Below.refl _ _⟩
  case round =>
    obtain ⟨k, hk, rfl, hAl, hb⟩ := hrel
    by_cases hlt : k < ms.length
    · obtain ⟨bm, off, rfl, hcc⟩ := hc.out (by intro e; subst e; simp at hlt)
      obtain ⟨m0, m1, m2, m3, m4⟩ := ((hcc k hlt).below hA).below hb
      obtain ⟨x0, x1, x2, x3, x4⟩ := hB.below hb hs1
      obtain ⟨x, HM⟩ : ∃ x, ms.getD k M.zero = x := ⟨_, rfl⟩
      rw [HM] at m0 m1 m2 m3 m4
      replace HM := Lib.hid HM
      have heq := eql_msg m x
      clear hcc
      cases hq : eqM m x
      · rw [hq] at heq
        replace hq := Lib.hid hq
        go_wp2_with fail
        go_quiet (fail)
        go_wp2_with fail
        go_roundw
        case rel =>
          refine ⟨k + 1, by omega, by go_num, fun j hj => ?_, below_trans hb (below_drewN wr _)⟩
          by_cases e : j = k
          · subst e; rw [HM.out]; exact hq.out
          · exact hAl.out j (by omega)
        case measure => simp [intOf]; omega
      · rw [hq] at heq
        replace hq := Lib.hid hq
        go_wp2_with fail
        go_quiet (fail)
        go_wp2_with fail
        go_ret
        exact givesB_int (below_trans (below_trans hA hb) (below_drewN wr _)) (hh.out k hlt (by rw [HM.out]; exact hq.out) hAl.out).symm
    · obtain rfl : k = ms.length := by omega
      go_wp2_with fail
      go_ret
      exact givesB_int (below_trans hA hb) (hmi.out hAl.out).symm
end Go.Proofs.YtnalakhelicjcaaGreat

set_option maxRecDepth 100000
namespace Go.Proofs.YtnalakhelicjcaaGreat
open Go.RowKit Go.Shelf Go.BigFrame

def allS (o : Option (List M)) (m : M) : Option (List M) :=
  match o with
  | none => none
  | some l => if foundM l m = true then if eqM (l.getD (posM l m) M.zero) m = true then some l else none else some (putM l m)
def allO (ms : List M) : Option (List M) := ms.foldl allS (some [])
def toldL (X : Wd) : List M := X.nodes.flatMap N.told
def allF (X : Wd) : Int × List M := if errX X = 0 then match allO (toldL X) with | some l => (0, l) | none => (1, []) else (errX X, [])
theorem rev_ind {α : Type} {P : List α → Prop} (h0 : P []) (h1 : ∀ l a, P l → P (l ++ [a])) (l : List α) : P l := by
  rw [← l.reverse_reverse]
  induction l.reverse with
  | nil => exact h0
  | cons a t ih => rw [List.reverse_cons]; exact h1 _ a ih
theorem allS_none (ms : List M) : ms.foldl allS none = none := by
  induction ms with
  | nil => rfl
  | cons m ms ih => exact ih
theorem allO_snoc (ms : List M) (m : M) : allO (ms ++ [m]) = allS (allO ms) m := by simp [allO]
theorem allO_none {ms t : List M} (h : allO ms = none) : allO (ms ++ t) = none := by
  unfold allO at h ⊢
  rw [List.foldl_append, h]
  exact allS_none t
theorem allO_ok {ms : List M} : ∀ {l : List M}, allO ms = some l → risesB l = true ∧ l.length ≤ ms.length ∧ ∀ m, m ∈ l → m ∈ ms := by
  refine rev_ind (P := fun ms => ∀ {l : List M}, allO ms = some l → risesB l = true ∧ l.length ≤ ms.length ∧ ∀ m, m ∈ l → m ∈ ms) ?_ ?_ ms
  · intro l h
    cases h; exact ⟨rfl, Nat.le_refl _, fun _ h => h⟩
  · intro ms m ih l h
    rw [allO_snoc] at h
    cases ho : allO ms with
    | none => rw [ho] at h; cases h
    | some l0 =>
      rw [ho] at h
      obtain ⟨h1, h2, h3⟩ := ih ho
      simp only [allS] at h
      rw [List.length_append, List.length_singleton]
      split at h
      · split at h
        · cases h
          exact ⟨h1, by omega, fun x hx => List.mem_append_left _ (h3 x hx)⟩
        · cases h
      · rename_i hf
        cases h
        refine ⟨putM_pair h1 (by simpa using hf), by rw [putM_len]; omega, fun x hx => ?_⟩
        rcases mem_putM.1 hx with rfl | hx
        · simp
        · exact List.mem_append_left _ (h3 x hx)
/-- The first n nodes' lists, and j of the next. -/
def preL (X : Wd) (n j : Nat) : List M := (X.nodes.take n).flatMap N.told ++ (X.nodes.getD n N.zero).told.take j
theorem take_snoc {ms : List M} {j : Nat} (h : j < ms.length) : ms.take (j + 1) = ms.take j ++ [ms.getD j M.zero] := by
  rw [List.take_succ_eq_append_getElem h, getD_lt ms M.zero h]
theorem preL_next {X : Wd} {n j : Nat} (h : j < (X.nodes.getD n N.zero).told.length) : preL X n (j + 1) = preL X n j ++ [(X.nodes.getD n N.zero).told.getD j M.zero] := by
  unfold preL
  rw [take_snoc h, List.append_assoc]
theorem preL_node {X : Wd} {n : Nat} (h : n < X.nodes.length) : preL X (n + 1) 0 = preL X n (X.nodes.getD n N.zero).told.length := by
  unfold preL
  rw [List.take_add_one, List.getElem?_eq_getElem h, List.take_length, List.take_zero, List.append_nil, Option.toList_some, List.flatMap_append, getD_lt X.nodes N.zero h]
  simp
theorem preL_end {X : Wd} : preL X X.nodes.length 0 = toldL X := by
  unfold preL toldL
  rw [List.take_length, List.take_zero, List.append_nil]
theorem preL_sub {X : Wd} {n j : Nat} (h : n < X.nodes.length) : ∃ t, toldL X = preL X n j ++ t := by
  refine ⟨(X.nodes.getD n N.zero).told.drop j ++ (X.nodes.drop (n + 1)).flatMap N.told, ?_⟩
  unfold preL toldL
  rw [List.append_assoc, ← List.append_assoc ((X.nodes.getD n N.zero).told.take j), List.take_append_drop, getD_lt X.nodes N.zero h]
  rw [show X.nodes[n].told ++ (X.nodes.drop (n + 1)).flatMap N.told = (X.nodes.drop n).flatMap N.told by rw [List.drop_eq_getElem_cons h, List.flatMap_cons]]
  rw [← List.flatMap_append, List.take_append_drop]
theorem told_len {l : List N} (h : ∀ x ∈ l, x.told.length ≤ 40) : (l.flatMap N.told).length ≤ l.length * 40 := by
  induction l with
  | nil => simp
  | cons x l ih =>
    rw [List.flatMap_cons, List.length_append, List.length_cons]
    have := ih (fun y hy => h y (List.mem_cons_of_mem _ hy))
    have := h x (by simp)
    omega
theorem Right.preL_len {X : Wd} (h : Right X) {n j : Nat} (hn : n < X.nodes.length) : (preL X n j).length ≤ 160 := by
  obtain ⟨t, ht⟩ := preL_sub (j := j) hn
  have h1 : (toldL X).length ≤ X.nodes.length * 40 := told_len fun x hx => by
    obtain ⟨i, hi, rfl⟩ := List.mem_iff_getElem.1 hx
    rw [← getD_lt X.nodes N.zero hi]
    exact (h.node i hi).told.many
  have h2 := gErr_small h.grp
  rw [ht, List.length_append] at h1
  omega
theorem allF_bad {X : Wd} (he : errX X = 0) {n j : Nat} (hn : n < X.nodes.length) (h : allO (preL X n j) = none) : allF X = (1, []) := by
  obtain ⟨t, ht⟩ := preL_sub (j := j) hn
  unfold allF
  rw [if_pos he, ht, allO_none h]
theorem allF_ok {X : Wd} (he : errX X = 0) {l : List M} (h : allO (preL X X.nodes.length 0) = some l) : allF X = (0, l) := by
  rw [preL_end] at h
  unfold allF
  rw [if_pos he, h]
theorem toldL_len {X : Wd} (h : Right X) : (toldL X).length ≤ 160 := by
  have h1 : (toldL X).length ≤ X.nodes.length * 40 := told_len fun x hx => by
    obtain ⟨i, hi, rfl⟩ := List.mem_iff_getElem.1 hx
    rw [← getD_lt X.nodes N.zero hi]
    exact (h.node i hi).told.many
  have h2 := gErr_small h.grp
  omega
theorem preL_le {X : Wd} {n j : Nat} (hn : n < X.nodes.length ∨ (n = X.nodes.length ∧ j = 0)) : ∃ t, toldL X = preL X n j ++ t := by
  rcases hn with h | ⟨rfl, rfl⟩
  · exact preL_sub h
  · exact ⟨[], by rw [preL_end, List.append_nil]⟩
theorem allO_all {X : Wd} (h : Right X) (hf : ∀ m ∈ toldL X, m.fits) {n j : Nat} (hn : n < X.nodes.length ∨ (n = X.nodes.length ∧ j = 0)) {l : List M} (hl : allO (preL X n j) = some l) : risesB l = true ∧ l.length ≤ 160 ∧ ∀ m ∈ l, m.fits := by
  obtain ⟨t, ht⟩ := preL_le hn
  obtain ⟨h1, h2, h3⟩ := allO_ok hl
  have h4 := toldL_len h
  rw [ht, List.length_append] at h4
  exact ⟨h1, by omega, fun m hm => hf m (by rw [ht]; exact List.mem_append_left _ (h3 m hm))⟩
theorem allO_next {X : Wd} {n j : Nat} (h : j < (X.nodes.getD n N.zero).told.length) {l : List M} (hl : allO (preL X n j) = some l) :
    allO (preL X n (j + 1)) = if foundM l ((X.nodes.getD n N.zero).told.getD j M.zero) = true then if eqM (l.getD (posM l ((X.nodes.getD n N.zero).told.getD j M.zero)) M.zero) ((X.nodes.getD n N.zero).told.getD j M.zero) = true then some l else none else some (putM l ((X.nodes.getD n N.zero).told.getD j M.zero)) := by
  rw [preL_next h, allO_snoc, hl]
  rfl
theorem Nodes.told_fits {w : World} {v : Value} {X : Wd} (h : Nodes w v X.nodes) : ∀ m ∈ toldL X, m.fits := by
  intro m hm
  unfold toldL at hm
  obtain ⟨x, hx, hm⟩ := List.mem_flatMap.1 hm
  obtain ⟨i, hi, rfl⟩ := List.mem_iff_getElem.1 hx
  obtain ⟨_, _, _, _, _, _, _, _, _, _, _, _, _, _, _, ht⟩ := h.at hi
  rw [getD_lt X.nodes N.zero hi] at ht
  exact ht.1 m hm
/-- A list of messages of the call's own and an error are handed back. -/
def LOwn (w : World) (l : List M) (r : Int) (e : Ending) (w' : World) : Prop := ∃ v', e = .returned (.tuple #[v', .int .i64 r]) ∧ MsgsOwn w' w.heap.size v' l ∧ Below w.heap.size w w'
theorem LOwn.none {w w' : World} {r : Int} (h : Below w.heap.size w w') : LOwn w [] r (.returned (.tuple #[.slice none 0 0, .int .i64 r])) w' := ⟨_, rfl, ⟨by simp, World.ownsRow_nil _ _ _ _⟩, h⟩

set_option maxHeartbeats 2000000 in
theorem TAll_c {w : World} {v : Value} {X : Wd} (h : WorldAt w v X) : Calls Tryz.prog 29 #[v] w (LOwn w (allF X).2 (allF X).1) := by
  have hW0 := h
  obtain ⟨gv, nv, wv, rfl, hg, hn, hw⟩ := h
  obtain ⟨hnl, na, ncap, rfl, hnc⟩ := hn.form
  obtain ⟨hwl, wa, wcap, rfl, hwc⟩ := hw.form
  obtain ⟨hgl, ga, gcap, rfl, _⟩ := hg.open
  have hA := below_a1 w (.cells #[.slice ga X.groups.length gcap, .slice na X.nodes.length ncap, .slice wa X.wires.length wcap] 37)
  have hB := OBox.new w 37 (.slice ga X.groups.length gcap) (.slice na X.nodes.length ncap) (.slice wa X.wires.length wcap)
  obtain ⟨P, hP⟩ : ∃ P, LOwn w (allF X).2 (allF X).1 = P := ⟨_, rfl⟩
  rw [hP]
  replace hP := Lib.hid hP
  go_enter Tryz.func29, Tryz.ntmps29
  go_upto_region 1 with fail
  generalize w.alloc (.cells #[.slice ga X.groups.length gcap, .slice na X.nodes.length ncap, .slice wa X.wires.length wcap] 37) = wA at *
  have hC := WCheck_c (hW0.below hA)
  obtain ⟨_, b0, b1, b2⟩ := id hB
  by_cases he : errX X = 0
  rotate_left
  · have hF : allF X = (errX X, []) := by unfold allF; rw [if_neg he]
    rw [hF] at hP
    clear hF
    generalize errX X = e0 at *
    have hne : (e0 != 0) = true := by simpa using he
    replace he := Lib.hid he
    go_wp2_with fail
    refine hC.mono ?_
    rintro e w1 ⟨rfl, hb1⟩
    go_wp2_with fail
    rw [← hP.out]
    exact LOwn.none (below_trans hA hb1)
  have hR := right_of he
  have hTf := hn.told_fits
  have hK := Lib.hid (fun n j l hh hl => allO_all hR hTf (n := n) (j := j) (l := l) hh hl)
  have hBad := Lib.hid (fun n j hn h => allF_bad he (n := n) (j := j) hn h)
  have hOk := Lib.hid (fun l h => allF_ok he (l := l) h)
  have hNx := Lib.hid (fun n j h l hl => allO_next (X := X) (n := n) (j := j) h (l := l) hl)
  have hNd := Lib.hid (fun n hn => preL_node (X := X) (n := n) hn)
  rw [he] at hC
  replace he := Lib.hid he
  replace hR := Lib.hid hR
  go_wp2_with fail
  refine hC.mono ?_
  rintro e w1 ⟨rfl, hb1⟩
  have hB := hB.keep (hb1.block _ hB.lt)
  have hA := below_trans hA hb1
  clear b0 b1 b2 hC hb1 hW0
  obtain ⟨_, b0, b1, b2⟩ := id hB
  go_wp2_with fail
  go_loopw [5, 20] (fun o i wr => ∃ n : Nat, n ≤ X.nodes.length ∧ i = .int .i64 n ∧ ∃ l, Hid (allO (preL X n 0) = some l) ∧ wr.ownsRow w.heap.size 62 5 o l.length (l.flatMap M.cells) ∧ Below w.heap.size w wr) (fun _ i _ => X.nodes.length - (intOf i).toNat)
  case atStart => exact ⟨0, by omega, rfl, [], Lib.hid rfl, World.ownsRow_nil _ _ _ _, hA⟩
  case round =>
    clear b0 b1 b2 hB hA
    obtain ⟨n, hn0, rfl, l, hl, ho, hb⟩ := hrel
    obtain ⟨a5, c5, rfl⟩ := own_form ho
    by_cases hlt : n < X.nodes.length
    · obtain ⟨bb, oo, cc, lv, hv, tv, e1, hc1, k0, k1, k2, k3, hk64, hrr, hh, htt⟩ := hn.at hlt
      cases e1
      have k0 := (hb.cell (cell_lt k0)).trans k0
      have k1 := (hb.cell (cell_lt k1)).trans k1
      have k2 := (hb.cell (cell_lt k2)).trans k2
      have k3 := (hb.cell (cell_lt k3)).trans k3
      have hq := (hR.out.node n hlt).told.many
      replace hNx := Lib.hid (hNx.out n)
      have hNd := Lib.hid (hNd.out n hlt)
      obtain ⟨x, HX⟩ : ∃ x, X.nodes.getD n N.zero = x := ⟨_, rfl⟩
      rw [HX] at k0 hrr hh htt hq hNx hNd
      clear HX hk64
      obtain ⟨_, la, lcap, rfl, _⟩ := hrr.form
      obtain ⟨_, ha, hcap, rfl, _⟩ := hh.open
      obtain ⟨_, ta, tcap, rfl, htc, _⟩ := htt.open
      clear hrr hh
      have bx := below_a1 wr (.cells #[.int .i64 x.clock, .slice la x.last.length lcap, .slice ha x.held.length hcap, .slice ta x.told.length tcap] 60)
      have hNb := NBox.new wr x (.slice la x.last.length lcap) (.slice ha x.held.length hcap) (.slice ta x.told.length tcap) 60
      go_upto_region 8 with fail
      have ho2 := owns_below ho bx
      have hb2 := below_trans hb bx
      generalize wr.alloc (.cells #[.int .i64 x.clock, .slice la x.last.length lcap, .slice ha x.held.length hcap, .slice ta x.told.length tcap] 60) = w2 at *
      clear k0 k1 k2 k3 ho hb bx
      obtain ⟨B2, hB2⟩ : ∃ B, wr.heap.size = B := ⟨_, rfl⟩
      simp only [hB2] at hNb ⊢
      clear hB2
      obtain ⟨y0, y1, y2, y3⟩ := hNb
      go_wp2_with fail
      go_loopw [5, 27] (fun o i wr => ∃ j : Nat, j ≤ x.told.length ∧ i = .int .i64 j ∧ ∃ l, Hid (allO (preL X n j) = some l) ∧ wr.ownsRow w.heap.size 62 5 o l.length (l.flatMap M.cells) ∧ Below w.heap.size w wr) (fun _ i _ => x.told.length - (intOf i).toNat)
      case atStart => exact ⟨0, by omega, rfl, l, hl, ho2, hb2⟩
      case round =>
        clear y0 y1 y2 y3 hl ho2 hb2
        obtain ⟨j, hj, rfl, l, hl, ho, hb⟩ := hrel
        obtain ⟨a5, c5, rfl⟩ := own_form ho
        have hBad := hBad.out n (j + 1) hlt
        by_cases hlj : j < x.told.length
        · obtain ⟨hr, h160, hfl⟩ := hK.out _ _ _ (Or.inl hlt) hl.out
          have hNj := hNx.out j hlj l hl.out
          obtain ⟨_, _, _, e1, _, hcc⟩ := (htt.below hb).open
          cases e1
          obtain ⟨bm, om, rfl, hun⟩ := hcc (by intro e; rw [e] at hlj; simp at hlj)
          obtain ⟨m0, m1, m2, m3, m4⟩ := hun j hlj
          have hmf := htt.1 (x.told.getD j M.zero) (getD_mem x.told M.zero hlj)
          obtain ⟨m, HM⟩ : ∃ m, x.told.getD j M.zero = m := ⟨_, rfl⟩
          rw [HM] at m0 m1 m2 m3 m4 hNj hmf
          clear HM hcc hun
          have hMs : Msgs wr (.slice a5 l.length c5) l := MsgsOwn.msgs (base := w.heap.size) ⟨hfl, ho⟩ (by omega)
          have bx := below_a1 wr (.cells #[.int .i64 m.src, .int .i64 m.grp, .int .i64 m.stamp, .bool m.null, .string m.body] 62)
          have hMb := MsgBox.new wr m 62
          have hsz : wr.heap.size < (wr.alloc (.cells #[.int .i64 m.src, .int .i64 m.grp, .int .i64 m.stamp, .bool m.null, .string m.body] 62)).heap.size := by rw [World.size_alloc]; omega
          have hS := Seek_c (hMs.below bx) m hr
          have ho := owns_below ho bx
          have hb := below_trans hb bx
          have hMs := hMs.below bx
          have hple := posM_le l m
          have hfo : foundM l m = true → posM l m < l.length := fun h => by
            unfold foundM at h
            simp only [Bool.and_eq_true, decide_eq_true_eq] at h
            exact h.1
          have hpf : putIn (l.flatMap M.cells) (posM l m * 5) m.cells = (putM l m).flatMap M.cells := putIn_flat l m (posM l m)
          have hpn := putM_len l m
          unfold M.val at hS
          go_upto_region 11 with fail
          generalize wr.alloc (.cells #[.int .i64 m.src, .int .i64 m.grp, .int .i64 m.stamp, .bool m.null, .string m.body] 62) = w3 at *
          obtain ⟨C, hC⟩ : ∃ C, wr.heap.size = C := ⟨_, rfl⟩
          simp only [hC] at hMb hsz ⊢
          clear hC
          obtain ⟨x0, x1, x2, x3, x4⟩ := id hMb
          clear m0 m1 m2 m3 m4 bx
          generalize posM l m = p at *
          generalize putM l m = lp at *
          replace hpf := Lib.hid hpf
          replace hpn := Lib.hid hpn
          replace hNj := Lib.hid hNj
          replace hl := Lib.hid hl
          cases hf : foundM l m
          · rw [hf] at hS
            have hN2 := hNj.out
            rw [hf, if_neg (by simp)] at hN2
            replace hN2 := Lib.hid hN2
            replace hf := Lib.hid hf
            clear hfo hNj hMs
            go_wp2_with fail
            refine hS.mono ?_
            rintro e w4 ⟨rfl, b4⟩
            have ho := owns_below ho b4
            have hb := below_trans hb b4
            have hMb := hMb.below b4 hsz
            clear x0 x1 x2 x3 x4 hS b4
            obtain ⟨x0, x1, x2, x3, x4⟩ := id hMb
            have hIn := Insert_c (i := p) (news := m.cells) (ho.alloc (.cells #[.int .i64 m.src, .int .i64 m.grp, .int .i64 m.stamp, .bool m.null, .string m.body] 62)) (one_flat l) hple (by omega) rfl (by simp [M.cells, Value.oneCell']) (heap_alloc_new _ _) (fun e => absurd (ho.lt _ e).2 (Nat.lt_irrefl _)) (by have := hb.size; rw [World.size_alloc]; omega)
            go_wp2_with fail
            refine hIn.mono ?_
            rintro e w5 ⟨v5, rfl, ho5, b5⟩
            have hb := (below_trans hb (below_a1 w4 (.cells #[.int .i64 m.src, .int .i64 m.grp, .int .i64 m.stamp, .bool m.null, .string m.body] 62))).trans b5
            rw [hpf.out, ← hpn.out] at ho5
            clear hIn x0 x1 x2 x3 x4
            go_wp2_with fail
            go_roundw
            case rel => exact ⟨j + 1, by omega, by go_num, lp, hN2, ho5, hb⟩
            case measure => simp [intOf]; omega
          · have hpl := hfo hf
            rw [hf] at hS
            have hN2 := hNj.out
            rw [hf, if_pos rfl] at hN2
            replace hN2 := Lib.hid hN2
            replace hf := Lib.hid hf
            clear hfo hNj hpf hpn
            go_wp2_with fail
            refine hS.mono ?_
            rintro e w4 ⟨rfl, b4⟩
            have ho := owns_below ho b4
            have hb := below_trans hb b4
            have hMb := hMb.below b4 hsz
            obtain ⟨_, _, _, e1, _, hcc⟩ := (hMs.below b4).open
            cases e1
            obtain ⟨bl, ol, rfl, hun⟩ := hcc (by intro e; rw [e] at hpl; simp at hpl)
            obtain ⟨d0, d1, d2, d3, d4⟩ := hun p hpl
            obtain ⟨d, HD⟩ : ∃ d, l.getD p M.zero = d := ⟨_, rfl⟩
            rw [HD] at d0 d1 d2 d3 d4
            have hN2 := hN2.out
            rw [HD] at hN2
            replace hN2 := Lib.hid hN2
            clear HD hcc hun x0 x1 x2 x3 x4 hS b4 hMs
            obtain ⟨x0, x1, x2, x3, x4⟩ := id hMb
            have hneq := neq_msg d m
            cases hq : eqM d m
            · rw [hq] at hneq
              have hN2 := hN2.out
              rw [hq, if_neg (by simp)] at hN2
              rw [hBad hN2] at hP
              clear hN2
              replace hq := Lib.hid hq
              go_wp2_with fail
              go_quiet (fail)
              go_wp2_with fail
              rw [← hP.out]
              exact LOwn.none (below_trans hb (below_drewN _ _))
            · rw [hq] at hneq
              have hN2 := hN2.out
              rw [hq, if_pos rfl] at hN2
              replace hN2 := Lib.hid hN2
              replace hq := Lib.hid hq
              go_wp2_with fail
              go_quiet (fail)
              go_wp2_with fail
              go_roundw
              case rel => exact ⟨j + 1, by omega, by go_num, l, hN2, owns_below ho (below_drewN _ _), below_trans hb (below_drewN _ _)⟩
              case measure => simp [intOf]; omega
        · obtain rfl : j = x.told.length := by omega
          have hN2 := hNd.out
          rw [← hN2] at hl
          replace hN2 := Lib.hid hN2
          go_wp2_with fail
          go_roundw
          case rel => exact ⟨n + 1, by omega, by go_num, l, hl, ho, hb⟩
          case measure => simp [intOf]; omega
    · obtain rfl : n = X.nodes.length := by omega
      have hF := hOk.out l hl.out
      have hKl := hK.out _ _ _ (Or.inr ⟨rfl, rfl⟩) hl.out
      rw [hF] at hP
      clear hF
      go_wp2_with fail
      rw [← hP.out]
      exact ⟨_, rfl, ⟨hKl.2.2, ho⟩, hb⟩
end Go.Proofs.YtnalakhelicjcaaGreat
