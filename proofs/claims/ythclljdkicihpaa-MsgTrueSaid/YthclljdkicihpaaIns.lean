/-
  Put a message into a row of one's own: slices.Insert, at messages, of one.
-/
import Derived.Test.YthclljdkicihpaaM2
import Derived.Test.YthclljdkicihpaaClone
import Derived.StillTailTactics
import Derived.Lib.AppendZerosOnto
import Derived.Lib.Overlaps
import Derived.Laws.OwnMore
import Derived.Laws.Externs
set_option maxRecDepth 100000
namespace Go.Proofs.Ythclljdkicihpaa
open Go.RowKit Go.Shelf Go.Lib
section
variable {P : Program}
/-- copy, at elements of some cells. -/
theorem run_copy_rowN (w : World) (dT sT ty elem : TypeId) (s g o dLen dCap : Nat) (a : Addr) (sLen sCap : Nat) (cur : Array Value) (t : TypeId) (cs : List Value)
    (hu : P.underlying dT = some (.slice elem)) (hs : (P.info? elem).map (·.size) = some s)
    (hg : w.heap[g]? = some (.cells cur t (0, 0))) (hn : cs.length = Nat.min sLen dLen * s)
    (hsrc : ∀ j v, cs[j]? = some v → w.cell? (a.add j) = some v) (hfit : o + cs.length ≤ cur.size) (h1 : ∀ v ∈ cs, v.oneCell' = true) :
    (Builtin.copy_ #[dT, sT] ty #[.slice (some ⟨g, o, none⟩) dLen dCap, .slice (some a) sLen sCap]).run P w =
      .ok (goInt (Nat.min sLen dLen)) (w.setRow g (cur.toList.take o ++ cs ++ cur.toList.drop (o + cs.length)).toArray) := by
  have hl := run_loadCells_list (P := P) w a cs hsrc
  have hst := run_storeCells_at P g o t cs 0 cur w hg (by simpa using hfit) h1
  cases hq : P.info? elem with
  | none => simp [hq] at hs
  | some i =>
    have hi : i.size = s := by simpa [hq] using hs
    simp [Builtin.copy_, run_underlying hu, Builtin.lenOf, Builtin.firstCells, sizeOf, typeInfo, hq, hi, ← hn, hl, hst]
theorem wp_copy_runM (w : World) {o : Oper} {a : Act} {K : Act → World → Prop} {Q : Exit → Act → World → Prop} (d s : Operand) (t t' : TypeId)
    (ho : o.op = .call { callee := .builtin .copy, args := #[d, s], argTypes := #[t, t'] }) (v u : Value) (hd : a.eval d = v) (hs : a.eval s = u) {v' : Value} {w' : World}
    (hr : (Builtin.copy_ #[t, t'] o.type #[v, u]).run P w = .ok v' w') (h : K (a.put o.dst v') w') : o.wp P a w K Q := by
  unfold Oper.wp execOp
  simp only [ho, resolve, invoke, builtin, Sem.run_bind, Sem.run_pure, Result.andThen_ok, List.map_toArray, List.map_cons, List.map_nil, hd, hs, hr]
  exact h
theorem wpList_copy_runM (w : World) {ops : Array Oper} {rest : List Oper} {o : Oper} {a : Act} {Q : Exit → Act → World → Prop} (hgd : o.guard = none) (d s : Operand) (t t' : TypeId)
    (ho : o.op = .call { callee := .builtin .copy, args := #[d, s], argTypes := #[t, t'] }) (v u : Value) (hd : a.eval d = v) (hs : a.eval s = u) {v' : Value} {w' : World}
    (hr : (Builtin.copy_ #[t, t'] o.type #[v, u]).run P w = .ok v' w') (h : wpList P ops Q rest (a.put o.dst v') w') : wpList P ops Q (o :: rest) a w :=
  wpList_plain hgd fun _ hK => wp_copy_runM w d s t t' ho v u hd hs hr (hK _ _ h)
end

theorem Addr.add0 (g o j : Nat) : (⟨g, o, none⟩ : Addr).add j = ⟨g, o + j, none⟩ := by unfold Addr.add; split <;> simp_all

/-- One is put between. -/
def putIn (cs : List Value) (k : Nat) (news : List Value) : List Value := cs.take k ++ news ++ cs.drop k

theorem shift_laws {cur cs news : List Value} {a k N : Nat} (hk : news.length = k) (hN : cs.length = N) (hc : cur.take N = cs) (ha : a ≤ N) (hf : N + k ≤ cur.length) :
    (cur.take (a + k) ++ cs.drop a ++ cur.drop (a + k + (cs.drop a).length)).length = cur.length ∧
    ((cur.take (a + k) ++ cs.drop a ++ cur.drop (a + k + (cs.drop a).length)).take a ++ news ++ (cur.take (a + k) ++ cs.drop a ++ cur.drop (a + k + (cs.drop a).length)).drop (a + news.length)).length = cur.length ∧
    ((cur.take (a + k) ++ cs.drop a ++ cur.drop (a + k + (cs.drop a).length)).take a ++ news ++ (cur.take (a + k) ++ cs.drop a ++ cur.drop (a + k + (cs.drop a).length)).drop (a + news.length)).take (N + k) = putIn cs a news := by
  have h1 : (cur.take (a + k)).length = a + k := by rw [List.length_take]; omega
  have h2 : (cs.drop a).length = N - a := by rw [List.length_drop]; omega
  have h3 : (cur.take (a + k) ++ cs.drop a ++ cur.drop (a + k + (cs.drop a).length)).length = cur.length := by
    simp only [List.length_append, h1, h2, List.length_drop]; omega
  have h4 : (cur.take (a + k) ++ cs.drop a ++ cur.drop (a + k + (cs.drop a).length)).take a = cs.take a := by
    rw [List.append_assoc, List.take_append_of_le_length (by omega), List.take_take, ← hc, List.take_take]
    congr 1; omega
  have h5 : (cur.take (a + k) ++ cs.drop a ++ cur.drop (a + k + (cs.drop a).length)).drop (a + news.length) = cs.drop a ++ cur.drop (a + k + (cs.drop a).length) := by
    rw [List.append_assoc, List.drop_append_of_le_length (by omega), List.drop_of_length_le (by omega), List.nil_append]
  refine ⟨h3, ?_, ?_⟩
  · rw [h4, h5]
    simp only [List.length_append, List.length_take, List.length_drop]; omega
  · rw [h4, h5, ← List.append_assoc, List.take_append_of_le_length (by simp only [List.length_append, List.length_take, List.length_drop]; omega), List.take_of_length_le (by simp only [List.length_append, List.length_take, List.length_drop]; omega)]
    rfl

set_option maxHeartbeats 2000000 in
theorem Insert_c {w : World} {base n i vb : Nat} {v : Value} {cs news : List Value} (hown : w.ownsRow base 24 5 v n cs) (h1 : ∀ u ∈ cs, u.oneCell' = true) (hi : i ≤ n) (hn : n ≤ 100)
    (hl : news.length = 5) (h2 : ∀ u ∈ news, u.oneCell' = true) (hvb : w.heap[vb]? = some (.cells news.toArray 24 (0, 0))) (hne : v.ownBlock ≠ some vb) (hb : base ≤ w.heap.size) :
    Calls Try.prog 24 #[v, .int .i64 i, .slice (some ⟨vb, 0, none⟩) 1 1] w fun e w' =>
      ∃ v', e = .returned v' ∧ w'.ownsRow base 24 5 v' (n + 1) (putIn cs (i * 5) news) ∧ Below base w w' := by
  obtain ⟨i0, hi0, hz0, hz1, hz2⟩ := info_parts infoCMsg
  have hlc := hown.1
  have hnews : ∀ j u, news[j]? = some u → w.cell? ((⟨vb, 0, none⟩ : Addr).add j) = some u := fun j u hj => by
    rw [Addr.add0, cell_of_row w vb (0 + j) _ _ _ hvb]
    simpa using hj
  have hnewsH := Lib.hid hnews
  have h2H := Lib.hid h2
  have h1H := Lib.hid h1
  by_cases hin : i = n
  · subst hin
    have hput : putIn cs (i * 5) news = cs ++ news := by
      rw [putIn, ← hlc, List.take_length, List.drop_length, List.append_nil]
    rw [hput]
    have hform : v = .slice none 0 0 ∧ i = 0 ∨ ∃ g cap, v = .slice (some ⟨g, 0, none⟩) i cap ∧ i ≤ cap ∧ cap ≤ maxLen := by
      rcases hown.2 with ⟨h, h'⟩ | ⟨g, cap, _, h, _, _, hc, hm, _⟩
      · exact .inl ⟨h, h'⟩
      · exact .inr ⟨g, cap, h, hc, hm⟩
    clear hnews h2 h1 hput hvb
    rcases hform with ⟨rfl, rfl⟩ | ⟨g, cap, rfl, hcap, hmax⟩
    · go_enter Try.func24, Try.ntmps24
      go_wp2_with (at_builtin; refine wpList_append_own _ rfl _ _ 30 rfl base 24 i0 _ 5 48 Try.underlying30 hi0 hz0 hz1 hz2 rfl (by decide) _ _ _ rfl hown ⟨vb, 0, none⟩ 1 1 news rfl hl hnewsH.out h2H.out (by unfold maxLen; omega) (by omega) hb ?_; intro v' w1 hown' hgrow _)
      go_ret
      exact ⟨_, rfl, hown', (Below.refl _ w).grown hgrow hb (fun k e => (hown.lt k e).1)⟩
    · have hmax : cap ≤ 9223372036854775807 := by unfold maxLen at hmax; omega
      go_enter Try.func24, Try.ntmps24
      go_wp2_with (at_builtin; refine wpList_append_own _ rfl _ _ 30 rfl base 24 i0 _ 5 48 Try.underlying30 hi0 hz0 hz1 hz2 rfl (by decide) _ _ _ rfl hown ⟨vb, 0, none⟩ 1 1 news rfl hl hnewsH.out h2H.out (by unfold maxLen; omega) (by omega) hb ?_; intro v' w1 hown' hgrow _)
      all_goals (go_ret; exact ⟨_, rfl, hown', (Below.refl _ w).grown hgrow hb (fun k e => (hown.lt k e).1)⟩)
  · have hlt : i < n := by omega
    obtain ⟨g, cap, cur, rfl, hbg, hg, hcap, hmax, hcur, htake⟩ : ∃ g cap cur, v = .slice (some ⟨g, 0, none⟩) n cap ∧ base ≤ g ∧ w.heap[g]? = some (.cells cur 24 (0, 0)) ∧ n ≤ cap ∧ cap ≤ maxLen ∧ cur.size = cap * 5 ∧ cur.toList.take (n * 5) = cs := by
      rcases hown.2 with ⟨_, h'⟩ | h
      · omega
      · exact h
    have hgne : g ≠ vb := by intro e; subst e; exact hne rfl
    have hmax : cap ≤ 9223372036854775807 := by unfold maxLen at hmax; omega
    by_cases hroom : n + 1 ≤ cap
    · have c1 : ¬ cap = i := by omega
      have c2 : ¬ cap = i + 1 := by omega
      have hov : ∀ lb cb, (callFunc 34 #[.slice (some ⟨vb, 0, none⟩) 1 1, .slice (some ⟨g, (i + 1) * 5, none⟩) lb cb]).run Try.prog w = .ok (.value (.bool false)) w := fun lb cb => by
        rw [run_callFunc_extern Try.func34 (by kernel_rfl) (by kernel_rfl) (by kernel_rfl) (e := Extern.SlicesOverlaps.overlaps #[30, 30] #[4]) (by kernel_rfl),
          Lib.run_overlaps_apart w 30 4 24 Try.underlying30 5 (fun w => by simp [sizeOf, typeInfo, hi0, hz1]) ⟨vb, 0, none⟩ ⟨g, (i + 1) * 5, none⟩ 1 1 lb cb (Ne.symm hgne) 24 24 5 (cap * 5) (by simp [World.shape?, hvb, hl]) (by simp [World.shape?, hg, hcur]) (by omega) (by simp [World.frozen?, hvb]) (by simp [World.frozen?, hvb])]
        rfl
      have hw1 : IntKind.i64.wrap ((i : Int) + 1) = (i : Int) + 1 := by rw [IntKind.wrap_i64]; omega
      have hb1 : (0 : Int) ≤ (i : Int) + 1 := by omega
      have htn : ((i : Int) + 1).toNat = i + 1 := by omega
      have hb3 : (i : Int) ≤ (n : Int) + 1 := by omega
      have hin' : i ≤ n := by omega
      go_enter Try.func24, Try.ntmps24
      go_wp2_with (simp only [hov])
      go_still_tail 8, (by kernel_rfl)
      obtain ⟨l1, l2, l3⟩ := shift_laws (cur := cur.toList) (cs := cs) (news := news) (a := i * 5) hl hlc htake (by omega) (by rw [Array.length_toList]; omega)
      rw [show i * 5 + 5 = (i + 1) * 5 by omega] at l1 l2 l3
      obtain ⟨R1, hR1⟩ : ∃ R1, R1 = cur.toList.take ((i + 1) * 5) ++ cs.drop (i * 5) ++ cur.toList.drop ((i + 1) * 5 + (cs.drop (i * 5)).length) := ⟨_, rfl⟩
      rw [← hR1] at l1 l2 l3
      have hcp1 : ∀ (W : World), W.heap = w.heap → ∀ ty dc sc, (Builtin.copy_ #[30, 30] ty #[.slice (some ⟨g, (i + 1) * 5, none⟩) (n - i) dc, .slice (some ⟨g, i * 5, none⟩) (n + 1 - i) sc]).run Try.prog W = .ok (goInt (Nat.min (n + 1 - i) (n - i))) (W.setRow g R1.toArray) := fun W hW ty dc sc => by
        have hWg : W.heap[g]? = some (.cells cur 24 (0, 0)) := by rw [hW]; exact hg
        rw [hR1]
        refine run_copy_rowN W _ _ ty 24 5 g ((i + 1) * 5) (n - i) dc ⟨g, i * 5, none⟩ (n + 1 - i) sc cur 24 (cs.drop (i * 5)) Try.underlying30 (by simp [hi0, hz1]) hWg (by rw [List.length_drop, hlc]; simp only [Nat.min_def]; split <;> omega) ?_ (by rw [List.length_drop]; omega) (fun v hv => h1 v (List.mem_of_mem_drop hv))
        intro j v hj
        rw [Addr.add0, cell_of_row W g _ _ _ _ hWg]
        rw [List.getElem?_drop, ← htake, List.getElem?_take] at hj
        split at hj
        · simpa using hj
        · cases hj
      have hcp2 : ∀ (W : World), W.heap = (w.setRow g R1.toArray).heap → ∀ ty dc, (Builtin.copy_ #[30, 30] ty #[.slice (some ⟨g, i * 5, none⟩) (n + 1 - i) dc, .slice (some ⟨vb, 0, none⟩) 1 1]).run Try.prog W = .ok (goInt (Nat.min 1 (n + 1 - i))) (W.setRow g (R1.take (i * 5) ++ news ++ R1.drop (i * 5 + news.length)).toArray) := fun W hW ty dc => by
        have hWg : W.heap[g]? = some (.cells R1.toArray 24 (0, 0)) := by rw [hW]; exact setRow_heap w g cur _ _ _ hg
        have hWv : W.heap[vb]? = some (.cells news.toArray 24 (0, 0)) := by rw [hW, setRow_other w g vb _ (Ne.symm hgne)]; exact hvb
        refine run_copy_rowN W _ _ ty 24 5 g (i * 5) (n + 1 - i) dc ⟨vb, 0, none⟩ 1 1 R1.toArray 24 news Try.underlying30 (by simp [hi0, hz1]) hWg (by rw [hl]; simp only [Nat.min_def]; split <;> omega) ?_ (by simp [l1]; omega) h2
        intro j v hj
        rw [Addr.add0, cell_of_row W vb _ _ _ _ hWv]
        simpa using hj
      clear hR1
      obtain ⟨R2, hR2⟩ : ∃ R2, R2 = R1.take (i * 5) ++ news ++ R1.drop (i * 5 + news.length) := ⟨_, rfl⟩
      rw [← hR2] at l2 l3 hcp2
      clear hR2
      refine wpList_copy_runM _ rfl _ _ 30 30 rfl (.slice (some ⟨g, (i + 1) * 5, none⟩) (n - i) (cap - (i + 1))) (.slice (some ⟨g, i * 5, none⟩) (n + 1 - i) (cap - i)) rfl rfl (hcp1 { w with drawn := w.drawn + 1 } rfl _ _ _) ?_
      have hown3 : (({ w with drawn := w.drawn + 1 } : World).setRow g R1.toArray |>.setRow g R2.toArray).ownsRow base 24 5 (.slice (some ⟨g, 0, none⟩) (n + 1) cap) (n + 1) (putIn cs (i * 5) news) := by
        refine ⟨?_, .inr ⟨g, cap, R2.toArray, rfl, hbg, setRow_heap _ g R1.toArray _ _ _ (setRow_heap _ g cur _ _ _ hg), hroom, by unfold maxLen; omega, by simp [l2, hcur], ?_⟩⟩
        · simp only [putIn, List.length_append, List.length_take, List.length_drop]; omega
        · rw [← l3]; congr 1; omega
      have hbel : Below base w (({ w with drawn := w.drawn + 1 } : World).setRow g R1.toArray |>.setRow g R2.toArray) :=
        ⟨rfl, rfl, rfl, by simp, fun k hk => by rw [setRow_other _ g k _ (by omega), setRow_other _ g k _ (by omega)]⟩
      replace hown3 := Lib.hid hown3
      go_wp2_with (refine wpList_copy_runM _ rfl _ _ 30 30 rfl (.slice (some ⟨g, i * 5, none⟩) (n + 1 - i) (cap - i)) (.slice (some ⟨vb, 0, none⟩) 1 1) rfl rfl (hcp2 (({ w with drawn := w.drawn + 1 } : World).setRow g R1.toArray) rfl _ _) ?_)
      go_ret
      exact ⟨_, rfl, hown3.out, hbel⟩
    · have hkk : (n : Int) + 1 - (i : Int) = ((n + 1 - i : Nat) : Int) := by omega
      have hik : i + (n + 1 - i) = n + 1 := by omega
      have hold : (Builtin.firstCells i0.size i (.slice (some ⟨g, 0, none⟩) i cap)).run Try.prog w.drew = .ok (cs.take (i * 5)).toArray w.drew := by
        rw [hz1]
        exact run_firstCells_some w.drew 5 i ⟨g, 0, none⟩ i cap (cs.take (i * 5)) (by rw [List.length_take]; omega) (fun j v hj => by
          rw [List.getElem?_take] at hj
          split at hj
          · exact hown.cells rfl j v hj
          · cases hj)
      obtain ⟨G, hG⟩ : ∃ G, G = grownCap w (n + 1) cap 24 := ⟨_, rfl⟩
      have hGn : n + 1 ≤ G := by rw [hG]; exact grownCap_ge w _ _ _
      have hG63 : G ≤ maxLen := by rw [hG]; exact grownCap_le_maxLen w (n + 1) cap 24 (by unfold maxLen; omega)
      have hG63' : G ≤ 9223372036854775807 := by unfold maxLen at hG63; omega
      obtain ⟨Z, hZ⟩ : ∃ Z : Value, i0.zero = some Z ∧ Z.cells.size = 5 := ⟨_, hz0, rfl⟩
      obtain ⟨ROW, hROW⟩ : ∃ ROW : Array Value, ROW = (cs.take (i * 5)).toArray ++ Builtin.zeroCells Z.cells (n + 1 - i) ++ Builtin.zeroCells Z.cells (G - (n + 1)) := ⟨_, rfl⟩
      have hrz : ∀ ty, (Builtin.append_ #[30, 3] ty #[.slice (some ⟨g, 0, none⟩) i cap, .int .i64 ((n : Int) + 1 - (i : Int))]).run Try.prog w =
          .ok (.slice (some ⟨w.heap.size, 0, none⟩) (n + 1) G) (w.drew.alloc (.cells ROW 24)) := fun ty => by
        have h := Lib.run_append_grow_zeros w 30 3 ty 24 i0 Z .i64 .i64 Try.underlying30 Try.underlying3 hi0 hZ.1 (some ⟨g, 0, none⟩) i cap (cs.take (i * 5)) hold (n + 1 - i) (by omega) (by omega) (by omega) (by omega) (by rw [hz2]; omega) (by rw [hz2, hik]; exact growslice_fits (by omega) (by omega))
        rw [hik] at h
        rw [hkk, hROW, hG]
        exact h
      have hRl : ROW.size = G * 5 := by
        rw [hROW]
        simp [Builtin.zeroCells, hZ.2]
        omega
      have hRt : ROW.toList.take (i * 5) = cs.take (i * 5) := by
        rw [hROW]
        simp only [Array.toList_append, List.append_assoc]
        rw [List.take_append_of_le_length (by simp; omega), List.take_of_length_le (by simp; omega)]
      clear hROW hold
      have hvl : vb < w.heap.size := (Array.getElem?_eq_some_iff.1 hvb).1
      have hgl : g < w.heap.size := (Array.getElem?_eq_some_iff.1 hg).1
      -- what comes: R1 with the message, R2 with the rest
      obtain ⟨R1, hR1⟩ : ∃ R1, R1 = ROW.toList.take (i * 5) ++ news ++ ROW.toList.drop (i * 5 + news.length) := ⟨_, rfl⟩
      have r1 : R1.length = G * 5 := by rw [hR1]; simp only [List.length_append, List.length_take, List.length_drop, Array.length_toList]; omega
      have r2 : R1.take ((i + 1) * 5) = cs.take (i * 5) ++ news := by
        rw [hR1, hRt, List.take_append_of_le_length (by simp only [List.length_append, List.length_take]; omega), List.take_of_length_le (by simp only [List.length_append, List.length_take]; omega)]
      have hcp1 : ∀ (W : World), W.heap = (w.alloc (.cells ROW 24)).heap → ∀ ty dc, (Builtin.copy_ #[30, 30] ty #[.slice (some ⟨w.heap.size, i * 5, none⟩) (n + 1 - i) dc, .slice (some ⟨vb, 0, none⟩) 1 1]).run Try.prog W = .ok (goInt (Nat.min 1 (n + 1 - i))) (W.setRow w.heap.size R1.toArray) := fun W hW ty dc => by
        have hWg : W.heap[w.heap.size]? = some (.cells ROW 24 (0, 0)) := by rw [hW]; exact heap_alloc_new w _
        have hWv : W.heap[vb]? = some (.cells news.toArray 24 (0, 0)) := by rw [hW, heap_alloc_old w _ hvl]; exact hvb
        rw [hR1]
        refine run_copy_rowN W _ _ ty 24 5 w.heap.size (i * 5) (n + 1 - i) dc ⟨vb, 0, none⟩ 1 1 ROW 24 news Try.underlying30 (by simp [hi0, hz1]) hWg (by rw [hl]; simp only [Nat.min_def]; split <;> omega) ?_ (by omega) h2
        intro j v hj
        rw [Addr.add0, cell_of_row W vb _ _ _ _ hWv]
        simpa using hj
      obtain ⟨R2, hR2⟩ : ∃ R2, R2 = R1.take ((i + 1) * 5) ++ cs.drop (i * 5) ++ R1.drop ((i + 1) * 5 + (cs.drop (i * 5)).length) := ⟨_, rfl⟩
      have hcp2 : ∀ (W : World), W.heap = ((w.alloc (.cells ROW 24)).setRow w.heap.size R1.toArray).heap → ∀ ty dc sc, (Builtin.copy_ #[30, 30] ty #[.slice (some ⟨w.heap.size, (i + 1) * 5, none⟩) (n - i) dc, .slice (some ⟨g, i * 5, none⟩) (n - i) sc]).run Try.prog W = .ok (goInt (Nat.min (n - i) (n - i))) (W.setRow w.heap.size R2.toArray) := fun W hW ty dc sc => by
        have hWg : W.heap[w.heap.size]? = some (.cells R1.toArray 24 (0, 0)) := by rw [hW]; exact setRow_heap _ _ ROW _ _ _ (heap_alloc_new w _)
        have hWo : W.heap[g]? = some (.cells cur 24 (0, 0)) := by rw [hW, setRow_other _ _ g _ (by omega), heap_alloc_old w _ hgl]; exact hg
        rw [hR2]
        refine run_copy_rowN W _ _ ty 24 5 w.heap.size ((i + 1) * 5) (n - i) dc ⟨g, i * 5, none⟩ (n - i) sc R1.toArray 24 (cs.drop (i * 5)) Try.underlying30 (by simp [hi0, hz1]) hWg (by rw [List.length_drop, hlc]; simp only [Nat.min_def]; split <;> omega) ?_ (by rw [List.length_drop]; simp only [List.size_toArray]; omega) (fun v hv => h1 v (List.mem_of_mem_drop hv))
        intro j v hj
        rw [Addr.add0, cell_of_row W g _ _ _ _ hWo]
        rw [List.getElem?_drop, ← htake, List.getElem?_take] at hj
        split at hj
        · simpa using hj
        · cases hj
      have r3 : R2.length = G * 5 := by rw [hR2]; simp only [List.length_append, List.length_take, List.length_drop]; omega
      have r4 : R2.take ((n + 1) * 5) = putIn cs (i * 5) news := by
        rw [hR2, r2, putIn, List.take_append_of_le_length (by simp only [List.length_append, List.length_take, List.length_drop]; omega), List.take_of_length_le (by simp only [List.length_append, List.length_take, List.length_drop]; omega)]
      clear hR1 hR2 r2
      have hown3 : ∀ W : World, W.heap = (((w.alloc (.cells ROW 24)).setRow w.heap.size R1.toArray).setRow w.heap.size R2.toArray).heap → W.ownsRow base 24 5 (.slice (some ⟨w.heap.size, 0, none⟩) (n + 1) G) (n + 1) (putIn cs (i * 5) news) := fun W hW => by
        refine ⟨?_, .inr ⟨w.heap.size, G, R2.toArray, rfl, hb, by rw [hW]; exact setRow_heap _ _ R1.toArray _ _ _ (setRow_heap _ _ ROW _ _ _ (heap_alloc_new w _)), hGn, hG63, by simp [r3], by simpa using r4⟩⟩
        simp only [putIn, List.length_append, List.length_take, List.length_drop]; omega
      have c1 : ¬ G = i := by omega
      have c2 : ¬ G = i + 1 := by omega
      have c3 : ¬ cap = i := by omega
      have hw1 : IntKind.i64.wrap ((i : Int) + 1) = (i : Int) + 1 := by rw [IntKind.wrap_i64]; omega
      have hb1 : (0 : Int) ≤ (i : Int) + 1 := by omega
      have htn : ((i : Int) + 1).toNat = i + 1 := by omega
      have hb3 : (i : Int) ≤ (n : Int) + 1 := by omega
      have hin' : i ≤ n := by omega
      have hgt : (cap : Int) < (n : Int) + 1 := by omega
      clear hG hkk hik
      go_enter Try.func24, Try.ntmps24
      go_wp2_with (first
        | (at_builtin; refine Lib.wpList_append_run _ rfl _ _ _ _ rfl _ _ rfl rfl _ _ (hrz _) ?_)
        | (refine wpList_copy_runM _ rfl _ _ 30 30 rfl (.slice (some ⟨w.heap.size, i * 5, none⟩) (n + 1 - i) (G - i)) (.slice (some ⟨vb, 0, none⟩) 1 1) rfl rfl (hcp1 (w.alloc (.cells ROW 24)).drew rfl _ _) ?_))
      go_still_tail 8, (by kernel_rfl)
      refine wpList_copy_runM _ rfl _ _ 30 30 rfl (.slice (some ⟨w.heap.size, (i + 1) * 5, none⟩) (n - i) (G - (i + 1))) (.slice (some ⟨g, i * 5, none⟩) (n - i) (cap - i)) rfl rfl (hcp2 ((w.alloc (.cells ROW 24)).drew.setRow w.heap.size R1.toArray).drew rfl _ _ _) ?_
      go_wp2_with fail
      go_ret
      refine ⟨_, rfl, hown3 _ rfl, rfl, rfl, rfl, by simp, fun k hk => ?_⟩
      show (((w.alloc (.cells ROW 24)).setRow w.heap.size R1.toArray).setRow w.heap.size R2.toArray).heap[k]? = _
      rw [setRow_other _ _ k _ (by omega), setRow_other _ _ k _ (by omega), heap_alloc_old w _ (by omega)]
end Go.Proofs.Ythclljdkicihpaa
