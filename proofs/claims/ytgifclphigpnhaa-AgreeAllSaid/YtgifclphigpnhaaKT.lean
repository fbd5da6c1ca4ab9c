/-
  Groups: the loop over all groups that have these nodes, and who goes round it: Of, Share.
  The program: is a world right, and are there such nodes?
  The program: how far a node is.
  The program: how many are ready; how far is a node, errors too.
  The program: what is ready of a node, errors too.
-/
import Derived.RangeFuncNested
import Derived.RangeFuncBound
import Derived.RangeFuncCalls
import Derived.RangeFuncLeaves
import Derived.RangeFuncBox
import Derived.Shelf.Abstract
import Derived.Shelf.RegionOpen
import Derived.OwnWalkIn
import Derived.TacticsInMore
import Derived.LoopNIn
import Derived.LoopIn
import Derived.Maps.AppendAt
import Derived.Test.YtgifclphigpnhaaKG
import Derived.Test.YtgifclphigpnhaaKL
import Derived.Test.YtgifclphigpnhaaKB
import Derived.Test.YtgifclphigpnhaaKJ
import Derived.Test.YtgifclphigpnhaaKE
namespace Go.Proofs.Ytgifclphigpnhaa
open Go.RowKit Go.Shelf
attribute [local go_sem] Oper.semAt_some
theorem cell_new_l (W : World) (v : Value) (t : TypeId) : (W.alloc (.cells #[v] t)).cell? ⟨W.heap.size, 0, none⟩ = some v ∧ (W.alloc (.cells #[v] t)).frozen? ⟨W.heap.size, 0, none⟩ = false :=
  ⟨(Boxed.new W t v).cell, (Boxed.new W t v).frozen⟩
theorem cell_alloc_l {W : World} {a : Addr} {v : Value} (o : Obj) (h : W.cell? a = some v) : (W.alloc o).cell? a = some v := cell_kept h (World.grownBy_alloc W o none) (fun r e => by cases e)
theorem frozen_alloc_l {W : World} {a : Addr} {v : Value} (o : Obj) (h : W.cell? a = some v) (hf : W.frozen? a = false) : (W.alloc o).frozen? a = false :=
  (frozen_kept h (World.grownBy_alloc W o none) (fun r e => by cases e)).trans hf

/-- The groups up to k that have all of ns. -/
def both (xs ns : List Int) (k : Nat) : List Int := ((List.range k).filter fun (j : Nat) => !ns.any fun n => !hasB xs (j : Int) n).map fun (j : Nat) => (j : Int)
theorem both_zero (xs ns : List Int) : both xs ns 0 = [] := rfl
theorem both_hit {xs ns : List Int} {k : Nat} (h : (ns.any fun n => !hasB xs (k : Int) n) = false) : both xs ns (k + 1) = both xs ns k ++ [(k : Int)] := by
  simp [both, List.range_succ, List.filter_append, h]
theorem both_miss {xs ns : List Int} {k : Nat} (h : (ns.any fun n => !hasB xs (k : Int) n) = true) : both xs ns (k + 1) = both xs ns k := by
  simp [both, List.range_succ, List.filter_append, h]
theorem both_len (xs ns : List Int) (k : Nat) : (both xs ns k).length ≤ k := by
  unfold both
  rw [List.length_map]
  exact Nat.le_trans (List.length_filter_le _ _) (by simp)

theorem both_take {xs ns : List Int} {k n : Nat} (h : k ≤ n) : ∃ r, both xs ns n = both xs ns k ++ r := by
  induction n with
  | zero => exact ⟨[], by rw [show k = 0 by omega]; simp⟩
  | succ n ih =>
    by_cases e : k = n + 1
    · exact ⟨[], by rw [e]; simp⟩
    · obtain ⟨r, hr⟩ := ih (by omega)
      cases hb : (ns.any fun x => !hasB xs (n : Int) x)
      · exact ⟨r ++ [(n : Int)], by rw [both_hit hb, hr, List.append_assoc]⟩
      · exact ⟨r, by rw [both_miss hb, hr]⟩
theorem both_mem {xs ns : List Int} {k : Nat} {x : Int} (h : x ∈ both xs ns k) : 0 ≤ x ∧ x < k := by
  simp only [both, List.mem_map, List.mem_filter, List.mem_range] at h
  obtain ⟨j, ⟨hj, _⟩, rfl⟩ := h
  omega
theorem abides_step {β : Type} {B : Nat} {J : β → World → Prop} (hJ : AbidesFrom B J) {s : β} {W W' : World} (h : J s W) (hb : Below W.heap.size W W') : J s W' :=
  hJ s W W' none h ⟨hb.os, hb.tape, hb.output, hb.size, fun k hk _ => hb.block k hk⟩ (fun r e => by cases e)

/-- A group that has all of ns. -/
def BothB (xs ns : List Int) : Type := { k : Nat // k < xs.length ∧ (ns.any fun n => !hasB xs (k : Int) n) = false }
theorem keepK_t {S : Nat → Prop} {A B C : World} (h : Keep S A B) (k : Keep S B C) : Keep S A C := h.trans k
theorem keepK_b {S : Nat → Prop} {w : World} (hS : ∀ k, S k → k < w.heap.size) (W : World) (l : Nat) (o o' : Obj) (hl : w.heap.size ≤ l) (_ : W.heap[l]? = some o) (_ : o.isCells = false) (_ : o.isWalk = false) : Keep S W (W.putObj l o') := by
  have hg := grownBy_putObj' W l o'
  exact ⟨hg.os, hg.tape, hg.output, hg.size, fun k hk => by
    by_cases h : k < W.heap.size
    · exact hg.block k h (fun e => by
        have e' : k = l := Option.some.inj e
        have := hS k hk
        omega)
    · have h1 : (W.putObj l o').heap.size = W.heap.size := by simp [World.putObj]
      rw [Array.getElem?_eq_none (by omega), Array.getElem?_eq_none (by omega)]⟩

/-- The two boxes of Both, and what it was handed, behind a box of the caller's own that may turn. -/
theorem both_still {w : World} {a2 : Option Addr} {a : Option Addr} {cap cap2 : Nat} {xs ns : List Int} {o1 o2 : Obj} {t : TypeId}
    (h : Ints w (.slice a xs.length cap) xs) (h2 : Ints ((w.alloc o1).alloc o2) (.slice a2 ns.length cap2) ns) (hne : ∀ b off, a2 = some ⟨b, off, none⟩ → ns ≠ [] → b ≠ w.heap.size) :
    ∀ W W', Below (w.heap.size + 4) ((((w.alloc o1).alloc o2).alloc (.cells #[.slice a xs.length cap] t)).alloc (.cells #[.slice a2 ns.length cap2] t)) W →
      Keep (fun k => k < w.heap.size + 4 ∧ k ≠ w.heap.size) W W' → Ints W' (.slice a xs.length cap) xs ∧ Ints W' (.slice a2 ns.length cap2) ns ∧
      W'.cell? ⟨w.heap.size + 1 + 1, 0, none⟩ = some (.slice a xs.length cap) ∧ W'.cell? ⟨w.heap.size + 1 + 1 + 1, 0, none⟩ = some (.slice a2 ns.length cap2) := by
  intro W W' hW hk
  have e1 : Below w.heap.size w ((w.alloc o1).alloc o2) := ((Below.refl _ w).alloc (Nat.le_refl _) _).alloc (by simp) _
  have e2 : Below (w.heap.size + 2) ((w.alloc o1).alloc o2) ((((w.alloc o1).alloc o2).alloc (.cells #[.slice a xs.length cap] t)).alloc (.cells #[.slice a2 ns.length cap2] t)) :=
    ((Below.refl _ _).alloc (by simp) _).alloc (by simp) _
  have e3 := e2.trans (hW.mono (by omega))
  refine ⟨((h.below e1).below (e3.mono (by simp))).keep hk (fun hx b hb => ?_), (h2.below (e3.mono (by simp))).keep hk (fun hx b hb => ?_), ?_, ?_⟩
  · have := h.blk hx b hb
    exact ⟨by omega, by omega⟩
  · have := h2.blk hx b hb
    simp at this
    have hb' : ∃ off, a2 = some ⟨b, off, none⟩ := by
      obtain ⟨_, _, _, _, e, _, hh⟩ := h2.2
      cases e
      obtain ⟨b', off, e, _⟩ := hh (by simpa using hx)
      subst e
      cases hb
      exact ⟨off, rfl⟩
    obtain ⟨off, ha⟩ := hb'
    exact ⟨by omega, hne b off ha hx⟩
  · rw [hk.cell (p := ⟨w.heap.size + 1 + 1, 0, none⟩) ⟨by simp, by simp; omega⟩, hW.cell (p := ⟨w.heap.size + 1 + 1, 0, none⟩) (by simp)]
    have c1 := cell_new_l ((w.alloc o1).alloc o2) (.slice a xs.length cap) t
    simp only [World.size_alloc] at c1
    exact cell_alloc_l _ c1.1
  · rw [hk.cell (p := ⟨w.heap.size + 1 + 1 + 1, 0, none⟩) ⟨by simp, by simp; omega⟩, hW.cell (p := ⟨w.heap.size + 1 + 1 + 1, 0, none⟩) (by simp)]
    have c1 := cell_new_l (((w.alloc o1).alloc o2).alloc (.cells #[.slice a xs.length cap] t)) (.slice a2 ns.length cap2) t
    simp only [World.size_alloc] at c1
    exact c1.1

theorem ownsRow_le {w : World} {b b' : Nat} {e : TypeId} {s n : Nat} {v : Value} {cs : List Value} (h : w.ownsRow b e s v n cs) (hb : b' ≤ b) : w.ownsRow b' e s v n cs := by
  refine ⟨h.1, ?_⟩
  rcases h.2 with hn | ⟨g, cap, cur, hv, hg, r⟩
  · exact .inl hn
  · exact .inr ⟨g, cap, cur, hv, Nat.le_trans hb hg, r⟩

/-- An append onto a boxed slice of the call's own, in the body of a range over a function. -/
theorem collected {W w1 : World} {N B : Nat} {t e : TypeId} {size : Nat} {v v' : Value} {k m : Nat} {xs ys : List Value} {tmp : Obj}
    (hv : Boxed W B t v) (hte : t ≠ e) (hrow : W.ownsRow N e size v k xs) (hB : B < N) (hN : N ≤ W.heap.size)
    (hown' : w1.ownsRow N e size v' (k + m) ys) (hgrow : (W.alloc tmp).grownBy w1 v.ownBlock) :
    Boxed w1 B t v ∧ Boxed (w1.setCell ⟨B, 0, none⟩ v') B t v' ∧ (w1.setCell ⟨B, 0, none⟩ v').ownsRow N e size v' (k + m) ys ∧ KeepsOthers W (w1.setCell ⟨B, 0, none⟩ v') ∧
      Keep (fun k => k < N ∧ k ≠ B) W (w1.setCell ⟨B, 0, none⟩ v') := by
  obtain ⟨h1, h2, _, h4, _⟩ := hv.appended (n₀ := 0) hte (ownsRow_le hrow (Nat.zero_le _)) (Nat.zero_le _) (Nat.zero_le _) (ownsRow_le hown' (Nat.zero_le _)) hgrow
  have hg := grownBy_setCell' w1 B v'
  refine ⟨h1, h2, hown'.kept hg ?_, h4, ⟨by rw [hg.os, hgrow.os]; rfl, by rw [hg.tape, hgrow.tape]; rfl, by rw [hg.output, hgrow.output]; rfl, ?_, fun j hj => ?_⟩⟩
  · cases ho : v'.ownBlock with
    | none => exact .inl rfl
    | some b =>
      refine .inr fun e => ?_
      have := (hown'.lt b ho).1
      cases e
      omega
  · have := hgrow.size
    rw [World.size_alloc] at this
    exact Nat.le_trans (by omega) hg.size
  · obtain ⟨hj1, hj2⟩ := hj
    rw [hg.block j (by have := hgrow.size; rw [World.size_alloc] at this; omega) (fun e => hj2 (Option.some.inj e)),
      hgrow.block j (by rw [World.size_alloc]; omega) (fun e => by have := (hrow.lt j e.symm).1; omega), heap_alloc_old _ _ _ (by omega)]

theorem Try.info3 : (Try.prog.info? 3).map (fun i => (i.zero, i.size, i.bytes)) = some (some (.int .i64 0), 1, 8) := by kernel_rfl

theorem both_i64 {xs ns : List Int} {n : Nat} (hn : n * 8 ≤ 140737488351232) : ∀ x ∈ both xs ns n, I64 x := by
  intro x hx
  have := both_mem hx
  unfold I64
  omega

end Go.Proofs.Ytgifclphigpnhaa

set_option maxRecDepth 100000
namespace Go.Proofs.Ytgifclphigpnhaa
open Go.RowKit Go.Shelf Go.BigFrame

def hereB (X : Wd) (n : Int) : Bool := inB n 0 ((X.nodes.length : Int) - 1)
def thereE (X : Wd) (ns : List Int) : Int := if errX X = 0 then if ns.all (hereB X) = true then 0 else 4 else errX X
theorem thereE_one (X : Wd) (n : Int) : thereE X [n] = nodeE X n := by
  unfold thereE nodeE hereB
  simp
theorem hereB_iff {X : Wd} {n : Int} : hereB X n = true ↔ 0 ≤ n ∧ n < X.nodes.length := by
  unfold hereB inB
  simp
  omega
theorem There_c {w : World} {v nv : Value} {X : Wd} {ns : List Int} (h : WorldAt w v X) (hns : Ints w nv ns) : Calls Try.prog 13 #[v, nv] w (GivesB (.int .i64 (thereE X ns)) w) := by
  have hW0 := h
  obtain ⟨gv, nv', wv, rfl, hg, hn, hw⟩ := h
  obtain ⟨_, na, ncap, rfl, _⟩ := hn.form
  obtain ⟨_, ga, gcap, rfl, _⟩ := hg.open
  obtain ⟨_, wa, wcap, rfl, _⟩ := hw.form
  have hnl := hn.form.1
  clear hg hn hw
  obtain ⟨hsl, sa, scap, rfl, hsc, hc⟩ := hns.open
  replace hc := Lib.hid hc
  have hA := below_a1 w (.cells #[.slice ga X.groups.length gcap, .slice na X.nodes.length ncap, .slice wa X.wires.length wcap] 26)
  have hB := WBox.new w (.slice ga X.groups.length gcap) (.slice na X.nodes.length ncap) (.slice wa X.wires.length wcap) 26
  obtain ⟨P, hP⟩ : ∃ P, GivesB (.int .i64 (thereE X ns)) w = P := ⟨_, rfl⟩
  rw [hP]
  unfold thereE at hP
  have hC := WCheck_c (hW0.below hA)
  obtain ⟨e0, he0⟩ : ∃ e0, errX X = e0 := ⟨_, rfl⟩
  rw [he0] at hC hP
  clear he0
  go_enter Try.func13, Try.ntmps13
  go_upto_region 1 with fail
  generalize w.alloc (.cells #[.slice ga X.groups.length gcap, .slice na X.nodes.length ncap, .slice wa X.wires.length wcap] 26) = w1 at *
  have hBl := cell_lt hB.1
  dsimp only at hBl
  obtain ⟨x0, x1, x2⟩ := id hB
  by_cases hz : e0 = 0
  · rw [if_pos hz] at hP
    subst hz
    replace hP := Lib.hid hP
    go_wp2_with fail
    refine hC.mono ?_
    rintro e w2 ⟨rfl, hb2⟩
    have hw2 := below_trans hA hb2
    clear x0 x1 x2
    obtain ⟨x0, x1, x2⟩ := hB.below hb2 hBl
    go_wp2_with fail
    go_loop [15] (fun i => ∃ k : Nat, k ≤ ns.length ∧ i = .int .i64 k ∧ Hid ((ns.take k).all (hereB X) = true)) (fun i => ns.length - (intOf i).toNat)
    case atStart => exact ⟨0, by omega, rfl, rfl⟩
    case round =>
      obtain ⟨k, hk, rfl, hg⟩ := hrel
      by_cases hlt : k < ns.length
      · obtain ⟨b, off, rfl, hcc⟩ := hc.out (by intro e; subst e; simp at hlt)
        have hck := (hw2.cell (p := ⟨b, off + k, none⟩) (cell_lt (hcc k hlt))).trans (hcc k hlt)
        have ht := all_take (p := hereB X) (d := 0) hlt
        obtain ⟨n, hnk⟩ : ∃ n, ns.getD k 0 = n := ⟨_, rfl⟩
        rw [hnk] at hck ht
        clear hnk
        by_cases hh : 0 ≤ n ∧ n < X.nodes.length
        · obtain ⟨h1, h2⟩ := hh
          have ha := Lib.hid (ht.2 hg.out (hereB_iff.2 ⟨h1, h2⟩))
          clear ht
          go_wp2_with fail
          go_round
          case rel => exact ⟨k + 1, by omega, by go_num, ha.out⟩
          case measure => simp [intOf]; omega
        · have hf : hereB X n = false := by
            cases hq : hereB X n
            · rfl
            · exact absurd (hereB_iff.1 hq) hh
          have ha := Lib.hid (ht.1 hf)
          clear ht hf
          by_cases h1 : n < 0
          · clear hh
            go_wp2_with fail
            rw [← hP.out, if_neg (by rw [ha.out]; simp)]
            exact ⟨rfl, hw2⟩
          · have h2 : (X.nodes.length : Int) ≤ n := by omega
            have h3 : 0 ≤ n := by omega
            clear hh h1
            go_wp2_with fail
            rw [← hP.out, if_neg (by rw [ha.out]; simp)]
            exact ⟨rfl, hw2⟩
      · obtain rfl : k = ns.length := by omega
        have ha := hg.out
        rw [List.take_length] at ha
        replace ha := Lib.hid ha
        go_wp2_with fail
        rw [← hP.out, if_pos ha.out]
        exact ⟨rfl, hw2⟩
  · rw [if_neg hz] at hP
    have hne : (e0 != 0) = true := by simpa using hz
    replace hz := Lib.hid hz
    replace hP := Lib.hid hP
    go_wp2_with fail
    refine hC.mono ?_
    rintro e w2 ⟨rfl, hb2⟩
    go_wp2_with fail
    rw [← hP.out]
    exact ⟨rfl, below_trans hA hb2⟩
end Go.Proofs.Ytgifclphigpnhaa

set_option maxRecDepth 100000
namespace Go.Proofs.Ytgifclphigpnhaa
open Go.RowKit Go.Shelf Go.BigFrame
attribute [local go_sem] Oper.semAt_some

theorem boundG_miss {X : Wd} {n g m : Nat} {a : Int} (h : hasB X.groups g n = false) : boundG X n g m a = a := by
  induction m with
  | zero => rfl
  | succ m ih =>
    rw [boundG_succ, ih]
    unfold boundS
    rw [if_neg (by simp [h])]
def accB (X : Wd) (n : Nat) (l : List (BothB X.groups [(n : Int)])) : Int := l.foldl (fun a g => boundG X n g.1 X.nodes.length a) (X.nodes.getD n N.zero).clock
theorem accB_nil (X : Wd) (n : Nat) : accB X n [] = (X.nodes.getD n N.zero).clock := rfl
theorem accB_snoc (X : Wd) (n : Nat) (l : List (BothB X.groups [(n : Int)])) (g : BothB X.groups [(n : Int)]) : accB X n (l ++ [g]) = boundG X n g.1 X.nodes.length (accB X n l) := by
  unfold accB
  rw [List.foldl_append]
  rfl
theorem both_fold (X : Wd) (n m L : Nat) (c : Int) : (both X.groups [(n : Int)] m).foldl (fun a (g : Int) => boundG X n g.toNat L a) c = (List.range m).foldl (fun a g => boundG X n g L a) c := by
  induction m with
  | zero => rfl
  | succ m ih =>
    rw [List.range_succ, List.foldl_append, ← ih]
    cases h : ([(n : Int)].any fun x => !hasB X.groups (m : Int) x)
    · rw [both_hit h, List.foldl_append]
      rfl
    · rw [both_miss h]
      have h' : hasB X.groups (m : Int) n = false := by simpa using h
      simp only [List.foldl_cons, List.foldl_nil]
      rw [boundG_miss h']
theorem accB_end {X : Wd} {n : Nat} {l : List (BothB X.groups [(n : Int)])} (h : l.map (fun y => ((y.1 : Nat) : Int)) = both X.groups [(n : Int)] X.groups.length) : accB X n l = boundX X n := by
  unfold boundX boundM
  rw [← both_fold, ← h, List.foldl_map]
  rfl
theorem bothB_has {xs : List Int} {n : Nat} (g : BothB xs [(n : Int)]) : hasB xs (g.1 : Int) (n : Int) = true := by
  have := g.2.2
  simpa using this

theorem keep_setCell {S : Nat → Prop} {W : World} {b : Nat} (off : Nat) (v : Value) (hb : ¬ S b) : Keep S W (W.setCell ⟨b, off, none⟩ v) := by
  have hg := grownBy_setCell' W b v
  have hs := KeepsWalks.setCell W ⟨b, off, none⟩ v
  refine ⟨rfl, rfl, rfl, hs.size, fun k hk => Below.heap_setCell W ⟨b, off, none⟩ v k (fun e => hb (by rw [← (show k = b from e)]; exact hk))⟩

end Go.Proofs.Ytgifclphigpnhaa

set_option maxRecDepth 100000
namespace Go.Proofs.Ytgifclphigpnhaa
open Go.RowKit Go.Shelf Go.BigFrame

def overB (far : Int) (m : M) : Bool := decide (m.stamp > far)
def cntX (X : Wd) (n : Nat) : Nat := (X.nodes.getD n N.zero).held.findIdx (overB (boundX X n))
theorem idx_cases (p : M → Bool) (xs : List M) : (idxM p xs < 0 ∧ xs.findIdx p = xs.length) ∨ (0 ≤ idxM p xs ∧ idxM p xs = (xs.findIdx p : Nat)) := by
  unfold idxM
  rw [List.findIdx?_eq_guard_findIdx_lt]
  by_cases h : xs.findIdx p < xs.length
  · exact .inr (by simp [Option.guard, h])
  · have := List.findIdx_le_length (p := p) (xs := xs)
    exact .inl ⟨by simp [Option.guard, h], by omega⟩
end Go.Proofs.Ytgifclphigpnhaa

set_option maxRecDepth 100000
namespace Go.Proofs.Ytgifclphigpnhaa
open Go.RowKit Go.Shelf Go.BigFrame

theorem rises_le : ∀ {m : M} {ms : List M}, risesB (m :: ms) = true → ∀ y ∈ ms, m.stamp ≤ y.stamp
  | _, [], _ => by simp
  | m, a :: l, h => by
    simp only [risesB, Bool.and_eq_true] at h
    have h1 : m.stamp ≤ a.stamp := by
      have := h.1
      simp only [lessM, Bool.or_eq_true, Bool.and_eq_true, decide_eq_true_eq] at this
      omega
    intro y hy
    rcases List.mem_cons.1 hy with rfl | hy
    · exact h1
    · have := rises_le h.2 y hy
      omega
theorem rises_tail {m : M} {ms : List M} (h : risesB (m :: ms) = true) : risesB ms = true := by
  cases ms with
  | nil => rfl
  | cons a l =>
    simp only [risesB, Bool.and_eq_true] at h
    exact h.2
theorem readyL_take {far : Int} : ∀ {ms : List M}, risesB ms = true → readyL ms far = ms.take (ms.findIdx (overB far))
  | [], _ => rfl
  | m :: l, h => by
    have ih := readyL_take (far := far) (rises_tail h)
    unfold readyL at ih ⊢
    by_cases hm : m.stamp ≤ far
    · have h1 : overB far m = false := by simp [overB]; omega
      rw [List.filter_cons_of_pos (by simpa using hm), ih, List.findIdx_cons, h1]
      rfl
    · have h1 : overB far m = true := by simp [overB]; omega
      rw [List.findIdx_cons, h1, List.filter_eq_nil_iff.2]
      · rfl
      · intro y hy
        rcases List.mem_cons.1 hy with rfl | hy
        · simpa using hm
        · have := rises_le h y hy
          simp
          omega
theorem errX_rises {X : Wd} (h : errX X = 0) {k : Nat} (hk : k < X.nodes.length) : risesB (X.nodes.getD k N.zero).held = true := by
  have hg : gErr X.nodes.length X.groups = 0 := by
    rcases Classical.em (gErr X.nodes.length X.groups = 0) with e | e
    · exact e
    · rw [errX_g e] at h; exact absurd h e
  have hm : manyX X = false := by
    cases hm : manyX X
    · rfl
    · rw [errX_2 hg hm] at h; cases h
  have hf : fineX X = true := by
    cases hf : fineX X
    · rw [errX_1 hg hm hf] at h; cases h
    · rfl
  simp only [fineX, Bool.and_eq_true, decide_eq_true_eq, range_all_iff] at hf
  have := hf.1.2 k hk
  simp only [fineR, nodeFineB, nodeOkB, Bool.and_eq_true] at this
  exact this.2.2.1.1.1.1.1
theorem readyX_take {X : Wd} (h : errX X = 0) {k : Nat} (hk : k < X.nodes.length) : readyX X k = (X.nodes.getD k N.zero).held.take (cntX X k) := readyL_take (errX_rises h hk)

theorem Msgs.take {w : World} {a : Option Addr} {n cap : Nat} {ms : List M} (h : Msgs w (.slice a n cap) ms) {k : Nat} (hk : k ≤ ms.length) : Row w (.slice a k cap) k 5 ((ms.take k).flatMap M.cells) := by
  obtain ⟨_, h1, h2, a', cap', h3, h4, h5⟩ := h
  cases h3
  rw [flat_len] at h2
  refine ⟨by rw [flat_len, List.length_take]; omega, by rw [flat_len, List.length_take]; omega, a, cap, rfl, by omega, fun hn => ?_⟩
  obtain ⟨b, off, ha, hc⟩ := h5 (by omega)
  refine ⟨b, off, ha, fun j hj => ?_⟩
  rw [← flat_take] at hj ⊢
  rw [List.length_take] at hj
  rw [hc j (by omega), List.getD_eq_getElem?_getD, List.getD_eq_getElem?_getD, List.getElem?_take, if_pos (by omega)]

/-- A beginning of a list of messages. -/
theorem Msgs.takes {w : World} {a : Option Addr} {n cap : Nat} {ms : List M} (h : Msgs w (.slice a n cap) ms) {k : Nat} (hk : k ≤ ms.length) : Msgs w (.slice a k cap) (ms.take k) := by
  refine ⟨fun m hm => h.1 m (List.mem_of_mem_take hm), ?_⟩
  have := h.take hk
  rwa [List.length_take, Nat.min_eq_left hk]
theorem cnt_over {X : Wd} {m : Nat} (h : cntX X m < (X.nodes.getD m N.zero).held.length) : boundX X m < ((X.nodes.getD m N.zero).held.getD (cntX X m) M.zero).stamp := by
  have h1 := List.findIdx_getElem (p := overB (boundX X m)) (xs := (X.nodes.getD m N.zero).held) (w := h)
  rw [getD_lt _ M.zero h]
  simpa [overB, cntX] using h1
theorem cnt_under {X : Wd} {m i : Nat} (h : i < cntX X m) : (((X.nodes.getD m N.zero).held.take (cntX X m)).getD i M.zero).stamp ≤ boundX X m := by
  have hl : cntX X m ≤ (X.nodes.getD m N.zero).held.length := List.findIdx_le_length
  have h1 := List.not_of_lt_findIdx (p := overB (boundX X m)) (xs := (X.nodes.getD m N.zero).held) (i := i) h
  rw [getD_lt _ M.zero (by rw [List.length_take]; omega), List.getElem_take]
  simpa [overB] using h1

end Go.Proofs.Ytgifclphigpnhaa
