/-
  The program: how far a node is.
-/
import Derived.Test.YtafmpcaneeplpaaGB
import Derived.Test.YtafmpcaneeplpaaTh
import Derived.Test.YtafmpcaneeplpaaKB
set_option maxRecDepth 100000
namespace Go.Proofs.Ytafmpcaneeplpaa
open Go.RowKit Go.Shelf Go.BigFrame
attribute [local go_sem] Oper.semAt_some

theorem boundG_miss {X : Wd} {n g m : Nat} {a : Int} (h : hasB X.groups g n = false) : boundG X n g m a = a := by
  induction m with
  | zero => rfl
  | succ m ih =>
    rw [boundG_succ, ih]
    unfold boundS
    rw [if_neg (by simp [h])]
def accB (X : Wd) (n : Nat) (l : List (BothB X.groups [(n : Int)])) : Int := l.foldl (fun a g => boundG X n g.1 X.nodes.length a) (X.nodes.getD n N.zero).clock
theorem accB_nil (X : Wd) (n : Nat) : accB X n [] = (X.nodes.getD n N.zero).clock := rfl
theorem accB_snoc (X : Wd) (n : Nat) (l : List (BothB X.groups [(n : Int)])) (g : BothB X.groups [(n : Int)]) : accB X n (l ++ [g]) = boundG X n g.1 X.nodes.length (accB X n l) := by
  unfold accB
  rw [List.foldl_append]
  rfl
theorem both_fold (X : Wd) (n m L : Nat) (c : Int) : (both X.groups [(n : Int)] m).foldl (fun a (g : Int) => boundG X n g.toNat L a) c = (List.range m).foldl (fun a g => boundG X n g L a) c := by
  induction m with
  | zero => rfl
  | succ m ih =>
    rw [List.range_succ, List.foldl_append, ← ih]
    cases h : ([(n : Int)].any fun x => !hasB X.groups (m : Int) x)
    · rw [both_hit h, List.foldl_append]
      rfl
    · rw [both_miss h]
      have h' : hasB X.groups (m : Int) n = false := by simpa using h
      simp only [List.foldl_cons, List.foldl_nil]
      rw [boundG_miss h']
theorem accB_end {X : Wd} {n : Nat} {l : List (BothB X.groups [(n : Int)])} (h : l.map (fun y => ((y.1 : Nat) : Int)) = both X.groups [(n : Int)] X.groups.length) : accB X n l = boundX X n := by
  unfold boundX boundM
  rw [← both_fold, ← h, List.foldl_map]
  rfl
theorem bothB_has {xs : List Int} {n : Nat} (g : BothB xs [(n : Int)]) : hasB xs (g.1 : Int) (n : Int) = true := by
  have := g.2.2
  simpa using this

theorem keep_setCell {S : Nat → Prop} {W : World} {b : Nat} (off : Nat) (v : Value) (hb : ¬ S b) : Keep S W (W.setCell ⟨b, off, none⟩ v) := by
  have hg := grownBy_setCell' W b v
  have hs := KeepsWalks.setCell W ⟨b, off, none⟩ v
  refine ⟨rfl, rfl, rfl, hs.size, fun k hk => Below.heap_setCell W ⟨b, off, none⟩ v k (fun e => hb (by rw [← (show k = b from e)]; exact hk))⟩

set_option maxHeartbeats 2000000 in
theorem At_in {w : World} {gv nv wv : Value} {X : Wd} (hg : Ints w gv X.groups) (hn : Nodes w nv X.nodes) {n : Nat} (hn1 : n < X.nodes.length) (ht : TabN X n) :
    CallsIn Fence.wide 9 Try.prog 55 #[.agg #[gv, nv, wv], .int .i64 n] w fun e w' => e = .returned (.int .i64 (boundX X n)) ∧ Below w.heap.size w w' := by
  obtain ⟨hnl, _⟩ := hn.form
  obtain ⟨hgl, ga, gcap, rfl, _⟩ := hg.open
  obtain ⟨b1, o1, c1, lv, hv, tv, rfl, hc1, k0, k1, k2, k3, hcl, hr, hh, htt⟩ := hn.at hn1
  obtain ⟨hrl, la, lcap, rfl, hlc⟩ := hr.form
  obtain ⟨_, ha, hcap, rfl, _⟩ := hh.open
  obtain ⟨_, ta, tcap, rfl, _⟩ := htt.open
  have hn64 : I64 (n : Int) := by unfold I64; omega
  have hSS := Lib.hid (fun g k a s => boundS_eq X n g k a s)
  have hGS := Lib.hid (fun g m a => boundG_succ X n g m a)
  have htl := ht.1
  replace ht := Lib.hid ht.2
  have hAcc0 := Lib.hid (accB_nil X n)
  have hAccS := Lib.hid (accB_snoc X n)
  have hAccE := Lib.hid (fun l h => accB_end (X := X) (n := n) (l := l) h)
  obtain ⟨acc, hac⟩ : ∃ acc, accB X n = acc := ⟨_, rfl⟩
  rw [hac] at hAcc0 hAccS hAccE
  clear hac
  obtain ⟨x, HX⟩ : ∃ x, X.nodes.getD n N.zero = x := ⟨_, rfl⟩
  simp only [HX] at *
  clear HX
  have hkb := cell_lt k0
  dsimp only at hkb
  have htle : x.last.length ≤ X.groups.length ∧ X.groups.length ≤ x.last.length := ⟨by omega, by omega⟩
  clear htl
  refine callsIn_of_wp_marks Try.func55 rfl trivial ?_ rfl
  simp only [Try.ntmps55, List.size_toArray, List.length_cons, List.length_nil, Nat.reduceAdd, Nat.reduceSub, Array.replicate_succ, Array.replicate_zero, List.push_toArray, List.append_toArray, List.nil_append, List.cons_append]
  gi_wp2_with (refine ⟨trivial, ?_⟩; gi_at_call 83; refine (callsIn_wide.2 (Both_c _ _ _ _ _ _ _)).mono ?_; rintro e w' ⟨rfl, rfl⟩)
  have hA3 := below_a2 w (.cells #[.slice ga X.groups.length gcap, .slice (some ⟨b1, o1, none⟩) X.nodes.length c1, wv] 26) (.cells #[.int .i64 n] 3)
  have hB0 := (WBox.new w (.slice ga X.groups.length gcap) (.slice (some ⟨b1, o1, none⟩) X.nodes.length c1) wv 26).1
  have hB0' := cell_alloc_l (.cells #[.int .i64 x.clock, .slice la x.last.length lcap, .slice ha x.held.length hcap, .slice ta x.told.length tcap] 45) (cell_alloc_l (.cells #[.int .i64 n] 3) hB0)
  have hn0 := cell_alloc_l (.cells #[.int .i64 x.clock, .slice la x.last.length lcap, .slice ha x.held.length hcap, .slice ta x.told.length tcap] 45) (cell_new_l (w.alloc (.cells #[.slice ga X.groups.length gcap, .slice (some ⟨b1, o1, none⟩) X.nodes.length c1, wv] 26)) (.int .i64 n) 3).1
  have hNb := NBox.new ((w.alloc (.cells #[.slice ga X.groups.length gcap, .slice (some ⟨b1, o1, none⟩) X.nodes.length c1, wv] 26)).alloc (.cells #[.int .i64 n] 3)) x (.slice la x.last.length lcap) (.slice ha x.held.length hcap) (.slice ta x.told.length tcap) 45
  obtain ⟨_, y1, _, _⟩ := hNb
  have hwx := hA3.trans (((Below.refl _ _).alloc (Nat.le_refl _) (.cells #[.int .i64 x.clock, .slice la x.last.length lcap, .slice ha x.held.length hcap, .slice ta x.told.length tcap] 45)).mono (by rw [World.size_alloc, World.size_alloc]; omega))
  have hsz : (((w.alloc (.cells #[.slice ga X.groups.length gcap, .slice (some ⟨b1, o1, none⟩) X.nodes.length c1, wv] 26)).alloc (.cells #[.int .i64 n] 3)).alloc (.cells #[.int .i64 x.clock, .slice la x.last.length lcap, .slice ha x.held.length hcap, .slice ta x.told.length tcap] 45)).heap.size = w.heap.size + 1 + 1 + 1 := by
    rw [World.size_alloc, World.size_alloc, World.size_alloc]
  simp only [World.size_alloc] at y1 hn0
  generalize ((w.alloc (.cells #[.slice ga X.groups.length gcap, .slice (some ⟨b1, o1, none⟩) X.nodes.length c1, wv] 26)).alloc (.cells #[.int .i64 n] 3)).alloc (.cells #[.int .i64 x.clock, .slice la x.last.length lcap, .slice ha x.held.length hcap, .slice ta x.told.length tcap] 45) = wx at *
  clear hA3 hB0
  have hgx := hg.below hwx
  have hns : Ints ((wx.alloc (.cells #[.int .i64 x.clock] 3)).alloc (.cells #[.int .i64 n] 3)) (.slice (some ⟨wx.heap.size + 1, 0, none⟩) 1 1) [(n : Int)] := by
    have h := Ints.lit (wx.alloc (.cells #[.int .i64 x.clock] 3)) [(n : Int)] 3 (by simp [hn64]) (by simp)
    rw [World.size_alloc] at h
    exact h
  have hst := both_still (o1 := .cells #[.int .i64 x.clock] 3) (o2 := .cells #[.int .i64 n] 3) (ns := [(n : Int)]) (t := 22) hgx hns (fun b off e _ => by cases e; omega)
  have c0 := cell_new_l wx (.int .i64 x.clock) 3
  have hBx : Below wx.heap.size wx ((((wx.alloc (.cells #[.int .i64 x.clock] 3)).alloc (.cells #[.int .i64 n] 3)).alloc (.cells #[.slice ga X.groups.length gcap] 22)).alloc (.cells #[.slice (some ⟨wx.heap.size + 1, 0, none⟩) 1 1] 22)) :=
    ((((Below.refl _ wx).alloc (Nat.le_refl _) _).alloc (by simp) _).alloc (by simp; omega) _).alloc (by simp; omega) _
  have hB0w := hwx.trans (hBx.mono (by omega))
  rw [hsz] at hst c0 hBx hB0w
  simp only [List.length_cons, List.length_nil, Nat.zero_add] at hst
  refine wpIn_rangeFunc_ownG rfl (by omega) (gf := 104) (lb := #[.pointer (some ⟨w.heap.size + 1 + 1 + 1 + 1 + 1, 0, none⟩), .pointer (some ⟨w.heap.size + 1 + 1 + 1 + 1 + 1 + 1, 0, none⟩)]) rfl trivial (enters_of Try.func104 (by kernel_rfl) rfl)
    (both_stopsB 8 (by omega) _ _ (fun k => k < w.heap.size + 1 + 1 + 1 + 4 ∧ k ≠ w.heap.size + 1 + 1 + 1) ga (some ⟨w.heap.size + 1 + 1 + 1 + 1, 0, none⟩) gcap 1 X.groups [(n : Int)] _ (fun k hk => by simp [hsz]; omega) (fun W W' hW => hst W W' (hW.mono (by simp [hsz])))) keepK_t (keepK_b (fun k hk => by simp [hsz]; omega)) (Below.refl _ _) (fun _ => rfl)
    (fun pre W => (W.cell? ⟨w.heap.size + 1 + 1 + 1, 0, none⟩ = some (.int .i64 (acc pre)) ∧ W.frozen? ⟨w.heap.size + 1 + 1 + 1, 0, none⟩ = false ∧ W.cell? ⟨w.heap.size, 0, none⟩ = some (.slice ga X.groups.length gcap) ∧ W.cell? ⟨w.heap.size + 1, 0, none⟩ = some (.int .i64 n) ∧
      W.cell? ⟨w.heap.size + 1 + 1, 1, none⟩ = some (.slice la x.last.length lcap)) ∧ (Below w.heap.size w W ∧ w.heap.size + 1 + 1 + 1 + 4 ≤ W.heap.size))
    (fun _ _ _ => False)
    (OwnFrom.and (Own.from (fun s A B row hs hg hr => ⟨cell_kept hs.1 hg hr, (frozen_kept hs.1 hg hr).trans hs.2.1, cell_kept hs.2.2.1 hg hr, cell_kept hs.2.2.2.1 hg hr, cell_kept hs.2.2.2.2 hg hr⟩) _) (OwnFrom.and (ownFrom_below (Nat.le_refl _) (by simp [hsz]; omega)) (fun s A B row hs hg _ => Nat.le_trans hs hg.size)))
    (fun _ _ _ _ _ hs _ _ => hs)
    ⟨⟨by rw [hAcc0.out]; exact cell_alloc_l _ (cell_alloc_l _ (cell_alloc_l _ c0.1)), frozen_alloc_l _ (cell_alloc_l _ (cell_alloc_l _ c0.1)) (frozen_alloc_l _ (cell_alloc_l _ c0.1) (frozen_alloc_l _ c0.1 c0.2)), cell_alloc_l _ (cell_alloc_l _ (cell_alloc_l _ (cell_alloc_l _ hB0'))), cell_alloc_l _ (cell_alloc_l _ (cell_alloc_l _ (cell_alloc_l _ hn0))), cell_alloc_l _ (cell_alloc_l _ (cell_alloc_l _ (cell_alloc_l _ y1)))⟩, hB0w, by simp [hsz]⟩
    ?act ?assign ?body ?done ?stop
  case assign =>
    intro l z W K hK
    gi_wp2
    exact hK
  case body =>
    rintro l pre z W ⟨⟨a1, a2, a3, a4, a5⟩, hB, hN⟩ hlt
    have hgn := bothB_has z
    have hAz := Lib.hid (hAccS.out pre z)
    obtain ⟨g, hgl1, hgm⟩ := z
    dsimp only at hgn
    obtain ⟨b2, o2, c2, u, e2, _, r1, hu⟩ := hr.at (show g < x.last.length by omega)
    cases e2
    obtain ⟨row, HR⟩ : ∃ row, x.last.getD g [] = row := ⟨_, rfl⟩
    have hrl2 : row.length = X.nodes.length := ht.out row (by rw [← HR, getD_lt x.last [] (show g < x.last.length by omega)]; exact List.getElem_mem _)
    have hrle : row.length ≤ X.nodes.length ∧ X.nodes.length ≤ row.length := ⟨by omega, by omega⟩
    rw [HR] at hu
    obtain ⟨_, ua, ucap, rfl, _⟩ := hu.open
    have r1 := (hB.cell (p := ⟨b2, o2 + g, none⟩) (cell_lt r1)).trans r1
    gi_wp2_with fail
    gi_loopw [29] (fun i wr => ∃ k : Nat, k ≤ X.nodes.length ∧ i = .int .i64 k ∧ KeepsOthers W wr ∧ Keep (fun k => k < w.heap.size + 1 + 1 + 1 + 4 ∧ k ≠ w.heap.size + 1 + 1 + 1) W wr ∧ wr.cell? ⟨w.heap.size + 1 + 1 + 1, 0, none⟩ = some (.int .i64 (boundG X n g k (acc pre))) ∧ wr.frozen? ⟨w.heap.size + 1 + 1 + 1, 0, none⟩ = false) (fun i _ => X.nodes.length - (intOf i).toNat)
    case atStart => exact ⟨0, Nat.zero_le _, rfl, KeepsOthers.refl _, Keep.refl _ _, a1, a2⟩
    case round =>
      obtain ⟨k, hkn, rfl, hko, hkp, d1, d2⟩ := hrel
      have e3 := (hkp.cell (p := ⟨w.heap.size, 0, none⟩) ⟨by dsimp only; omega, by dsimp only; omega⟩).trans a3
      have e4 := (hkp.cell (p := ⟨w.heap.size + 1, 0, none⟩) ⟨by dsimp only; omega, by dsimp only; omega⟩).trans a4
      have hBr := hB.trans (hkp.below (B := w.heap.size) (fun k hk => ⟨by omega, by omega⟩))
      by_cases hlk : k < X.nodes.length
      · obtain ⟨b3, o3, c3, e3', _, q1, hq64⟩ := hu.at (show k < row.length by omega)
        cases e3'
        obtain ⟨s, HS⟩ : ∃ s, row.getD k 0 = s := ⟨_, rfl⟩
        rw [HS] at q1
        have hcase := hSS.out g k (boundG X n g k (acc pre)) s (by rw [HR, HS])
        have q1 := (hBr.cell (p := ⟨b3, o3 + k, none⟩) (cell_lt q1)).trans q1
        have hH2 := Has_c (hg.below hBr) g k
        have hgs := Lib.hid (hGS.out g k (acc pre))
        rcases hcase with ⟨e, hv⟩ | ⟨e, h1, hv⟩ | ⟨e, h1, h2, hv⟩ | ⟨e, h1, h2, hv⟩
        · have hb : ((k : Int) != (n : Int)) = false := by simp; omega
          replace hv := Lib.hid hv
          clear e
          gi_wp2_with fail
          refine ⟨trivial, ?_⟩
          gi_wp2
          go_roundw
          case rel => exact ⟨k + 1, by omega, by go_num, hko, hkp, by rw [hgs.out, hv.out]; exact d1, d2⟩
          case measure => simp [intOf]; omega
        · rw [hgn] at h1
          cases h1
        · have hb : ((k : Int) != (n : Int)) = true := by simp; omega
          replace hv := Lib.hid hv
          rw [h2] at hH2
          clear e h1 h2
          gi_wp2_with (refine ⟨trivial, ?_⟩; gi_at_call 28; refine (callsIn_wide.2 hH2).mono ?_; rintro e w' ⟨rfl, rfl⟩)
          go_roundw
          case rel => exact ⟨k + 1, by omega, by go_num, hko, hkp, by rw [hgs.out, hv.out]; exact d1, d2⟩
          case measure => simp [intOf]; omega
        · have hb : ((k : Int) != (n : Int)) = true := by simp; omega
          replace hv := Lib.hid hv
          rw [h2] at hH2
          clear e h1 h2
          gi_wp2_with (refine ⟨trivial, ?_⟩; gi_at_call 28; refine (callsIn_wide.2 hH2).mono ?_; rintro e w' ⟨rfl, rfl⟩)
          go_roundw
          case rel => exact ⟨k + 1, by omega, by go_num, hko.trans (KeepsOthers.setCell _ _ _), hkp.trans (keep_setCell _ _ (fun h => h.2 rfl)), by rw [hgs.out, hv.out, World.cell?_setCell_same' _ _ _ (by rw [d1]; rfl)]; congr 2; split <;> omega, by simpa using d2⟩
          case measure => simp [intOf]; omega
      · obtain rfl : k = X.nodes.length := by omega
        gi_wp2_with fail
        exact ⟨hko.from _, hkp, ⟨d1.trans (congrArg (fun q => some (Value.int .i64 q)) hAz.out.symm), d2, e3, e4, (hkp.cell (p := ⟨w.heap.size + 1 + 1, 1, none⟩) ⟨by dsimp only; omega, by dsimp only; omega⟩).trans a5⟩, hBr, Nat.le_trans hN hkp.size⟩
  case done =>
    rintro D ys W hD hys ⟨⟨a1, a2, a3, a4, a5⟩, hB, hN⟩ hK
    rw [hAccE.out _ hys] at a1
    clear hys
    simp only [World.size_alloc, hsz] at hD
    gi_wp2
    refine ⟨by simp, .inl ⟨_, _, rfl, run_takeDeferred hK, ?_⟩⟩
    exact ⟨_, results_tmp rfl _ _ _, rfl, hB.trans (belowK_b (w := w) (Nat.le_refl _) W D _ _ (by omega) hK rfl rfl)⟩
  case stop =>
    rintro D c pre W _ _ h _
    exact h.elim

theorem At_c {w : World} {v : Value} {X : Wd} (h : WorldAt w v X) {n : Nat} (hn1 : n < X.nodes.length) (ht : TabN X n) : Calls Try.prog 55 #[v, .int .i64 n] w (GivesB (.int .i64 (boundX X n)) w) := by
  obtain ⟨gv, nv, wv, rfl, hg, hn, hw⟩ := h
  exact callsIn_wide.1 (At_in hg hn hn1 ht)

end Go.Proofs.Ytafmpcaneeplpaa
