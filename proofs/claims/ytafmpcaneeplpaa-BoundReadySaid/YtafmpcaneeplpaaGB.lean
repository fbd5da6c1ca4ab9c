/-
  Groups: the loop over all groups that have these nodes, and who goes round it: Of, Share.
-/
import Derived.RangeFuncNested
import Derived.RangeFuncBound
import Derived.RangeFuncCalls
import Derived.RangeFuncLeaves
import Derived.RangeFuncBox
import Derived.Shelf.Abstract
import Derived.Shelf.RegionOpen
import Derived.OwnWalkIn
import Derived.TacticsInMore
import Derived.LoopNIn
import Derived.LoopIn
import Derived.Maps.AppendAt
import Derived.Test.YtafmpcaneeplpaaKG
namespace Go.Proofs.Ytafmpcaneeplpaa
open Go.RowKit Go.Shelf
attribute [local go_sem] Oper.semAt_some
theorem cell_new_l (W : World) (v : Value) (t : TypeId) : (W.alloc (.cells #[v] t)).cell? ⟨W.heap.size, 0, none⟩ = some v ∧ (W.alloc (.cells #[v] t)).frozen? ⟨W.heap.size, 0, none⟩ = false :=
  ⟨(Boxed.new W t v).cell, (Boxed.new W t v).frozen⟩
theorem cell_alloc_l {W : World} {a : Addr} {v : Value} (o : Obj) (h : W.cell? a = some v) : (W.alloc o).cell? a = some v := cell_kept h (World.grownBy_alloc W o none) (fun r e => by cases e)
theorem frozen_alloc_l {W : World} {a : Addr} {v : Value} (o : Obj) (h : W.cell? a = some v) (hf : W.frozen? a = false) : (W.alloc o).frozen? a = false :=
  (frozen_kept h (World.grownBy_alloc W o none) (fun r e => by cases e)).trans hf

theorem BothIn_c (w : World) (B G : Nat) (v : Value) (xs : List Int) (x : Int) (g : Int) (h : Ints w v xs)
    (hB : w.cell? ⟨B, 0, none⟩ = some v) (hG : w.cell? ⟨G, 0, none⟩ = some (.int .i64 g)) :
    Calls Try.prog 105 #[.int .i64 x, .pointer (some ⟨B, 0, none⟩), .pointer (some ⟨G, 0, none⟩)] w (Gives (.bool (!hasB xs g x)) w) := by
  have hcon := Has_c h g x
  obtain ⟨_, a, cap, rfl, _⟩ := h.open
  go_enter Try.func105, Try.ntmps105
  go_wp2_with (go_at_call 28; refine hcon.mono ?_; rintro e w' ⟨rfl, rfl⟩)
  go_ret
  exact gives_bool (Drew.refl _) rfl

theorem Both_c (w : World) (a a2 : Option Addr) (n n2 c c2 : Nat) :
    Calls Try.prog 83 #[.slice a n c, .slice a2 n2 c2] w fun e w' => e = .returned (.func (.func 104) #[] #[.pointer (some ⟨w.heap.size, 0, none⟩), .pointer (some ⟨w.heap.size + 1, 0, none⟩)]) ∧
      w' = (w.alloc (.cells #[.slice a n c] 22)).alloc (.cells #[.slice a2 n2 c2] 22) := by
  go_enter Try.func83, Try.ntmps83
  go_wp2
  go_ret
  exact ⟨rfl, rfl⟩

/-- The groups up to k that have all of ns. -/
def both (xs ns : List Int) (k : Nat) : List Int := ((List.range k).filter fun (j : Nat) => !ns.any fun n => !hasB xs (j : Int) n).map fun (j : Nat) => (j : Int)
theorem both_zero (xs ns : List Int) : both xs ns 0 = [] := rfl
theorem both_hit {xs ns : List Int} {k : Nat} (h : (ns.any fun n => !hasB xs (k : Int) n) = false) : both xs ns (k + 1) = both xs ns k ++ [(k : Int)] := by
  simp [both, List.range_succ, List.filter_append, h]
theorem both_miss {xs ns : List Int} {k : Nat} (h : (ns.any fun n => !hasB xs (k : Int) n) = true) : both xs ns (k + 1) = both xs ns k := by
  simp [both, List.range_succ, List.filter_append, h]
theorem both_len (xs ns : List Int) (k : Nat) : (both xs ns k).length ≤ k := by
  unfold both
  rw [List.length_map]
  exact Nat.le_trans (List.length_filter_le _ _) (by simp)

theorem both_take {xs ns : List Int} {k n : Nat} (h : k ≤ n) : ∃ r, both xs ns n = both xs ns k ++ r := by
  induction n with
  | zero => exact ⟨[], by rw [show k = 0 by omega]; simp⟩
  | succ n ih =>
    by_cases e : k = n + 1
    · exact ⟨[], by rw [e]; simp⟩
    · obtain ⟨r, hr⟩ := ih (by omega)
      cases hb : (ns.any fun x => !hasB xs (n : Int) x)
      · exact ⟨r ++ [(n : Int)], by rw [both_hit hb, hr, List.append_assoc]⟩
      · exact ⟨r, by rw [both_miss hb, hr]⟩
theorem both_mem {xs ns : List Int} {k : Nat} {x : Int} (h : x ∈ both xs ns k) : 0 ≤ x ∧ x < k := by
  simp only [both, List.mem_map, List.mem_filter, List.mem_range] at h
  obtain ⟨j, ⟨hj, _⟩, rfl⟩ := h
  omega
theorem abides_step {β : Type} {B : Nat} {J : β → World → Prop} (hJ : AbidesFrom B J) {s : β} {W W' : World} (h : J s W) (hb : Below W.heap.size W W') : J s W' :=
  hJ s W W' none h ⟨hb.os, hb.tape, hb.output, hb.size, fun k hk _ => hb.block k hk⟩ (fun r e => by cases e)

set_option maxRecDepth 100000 in
set_option maxHeartbeats 1000000 in
theorem Both1_in (n : Nat) (hn : 1 ≤ n) (l B1 B2 : Nat) (S : Nat → Prop) (a a2 : Option Addr) (cap cap2 : Nat) (xs ns : List Int) (J Jx : List Int → World → Prop)
    (W : World) (hJ : AbidesFrom W.heap.size J) (hS : ∀ k, S k → k < W.heap.size)
    (hst : ∀ W', Keep S W W' → Ints W' (.slice a xs.length cap) xs ∧ Ints W' (.slice a2 ns.length cap2) ns ∧
      W'.cell? ⟨B1, 0, none⟩ = some (.slice a xs.length cap) ∧ W'.cell? ⟨B2, 0, none⟩ = some (.slice a2 ns.length cap2))
    (hY : ∀ (k : Nat) W, k < xs.length → (ns.any fun n => !hasB xs (k : Int) n) = false → J (both xs ns k) W → YieldAt Fence.wide (n - 1) Try.prog l #[.int .i64 (k : Int)] W fun e W' =>
      (e = .returned (.bool true) ∧ J (both xs ns k ++ [(k : Int)]) W' ∧ Keep S W W') ∨ (e = .returned (.bool false) ∧ Jx (both xs ns k ++ [(k : Int)]) W'))
    (h0 : J [] W) :
    CallsIn Fence.wide n Try.prog 104 #[.func (.yield l) #[] #[], .pointer (some ⟨B1, 0, none⟩), .pointer (some ⟨B2, 0, none⟩)] W fun e W' => (∃ v, e = .returned v) ∧
      ((∃ ys, ys = both xs ns xs.length ∧ J ys W') ∨ (∃ pre, (∃ k, k ≤ xs.length ∧ pre = both xs ns k) ∧ Jx pre W')) := by
  obtain ⟨hI1, _, hB1, _⟩ := hst W (Keep.refl _ _)
  have hlen := hI1.open.1
  have eg : ∀ args w, (callFunc 105 args).run Try.prog w = .ok (.enter 105 args) w := enters_of Try.func105 (by kernel_rfl) rfl
  have egH := Lib.hid eg
  clear eg hI1
  refine callsIn_of_wp Try.func104 rfl trivial ?_ rfl
  simp only [Try.ntmps104, List.size_toArray, List.length_cons, List.length_nil, Nat.reduceAdd, Nat.reduceSub, Array.replicate_succ, Array.replicate_zero, List.push_toArray, List.append_toArray, List.nil_append, List.cons_append]
  gi_wp2
  clear hB1
  gi_loopw [7] (fun i wr => ∃ k : Nat, k ≤ xs.length ∧ i = .int .i64 k ∧ J (both xs ns k) wr ∧ Keep S W wr) (fun i _ => xs.length - (intOf i).toNat)
  case atStart => exact ⟨0, Nat.zero_le _, rfl, h0, Keep.refl _ _⟩
  case round =>
    obtain ⟨k, hk, rfl, hJs, hkp⟩ := hrel
    by_cases hlt : k < xs.length
    · obtain ⟨hI1, hI2, hB1, hB2⟩ := hst wr hkp
      have hS' : ∀ k, S k → k < wr.heap.size := fun k hk => Nat.lt_of_lt_of_le (hS k hk) hkp.size
      have hYk := Lib.hid (fun W => hY k W hlt)
      have hA : Below wr.heap.size wr (wr.alloc (.cells #[.int .i64 (k : Int)] 3)) := (Below.refl _ wr).alloc (Nat.le_refl _) _
      have hG : (wr.alloc (.cells #[.int .i64 (k : Int)] 3)).cell? ⟨wr.heap.size, 0, none⟩ = some (.int .i64 k) := by simp
      have hB1' := (hA.cell (p := ⟨B1, 0, none⟩) (cell_lt hB1)).trans hB1
      have hB2' := (hA.cell (p := ⟨B2, 0, none⟩) (cell_lt hB2)).trans hB2
      have hcon := ContainsFuncI_c (hI2.below hA) 105 #[.pointer (some ⟨B1, 0, none⟩), .pointer (some ⟨wr.heap.size, 0, none⟩)] (fun x => !hasB xs k x)
        ⟨egH.out, fun W' x hd => BothIn_c W' B1 _ _ xs x k ((hI1.below hA).below hd.below) ((hd.cell _).trans hB1') ((hd.cell _).trans hG)⟩
      have hit := Lib.hid (@both_hit xs ns k)
      have miss := Lib.hid (@both_miss xs ns k)
      generalize (ns.any fun x => !hasB xs k x) = r at hcon hit miss hYk
      cases r
      · gi_wp2_with (refine ⟨trivial, ?_⟩; gi_at_call 72; refine (callsIn_wide.2 hcon).mono ?_; rintro e w' ⟨rfl, hd'⟩; have hGw := (hd'.cell _).trans hG; obtain ⟨fn, tmps, assign, body, hy, hR⟩ := hYk.out w' rfl (abides_step hJ hJs (hd'.belowTo hA)))
        refine hR.mono ?_
        rintro e W3 (⟨rfl, hJ3, hk3⟩ | ⟨rfl, hJx3⟩)
        · gi_wp2
          go_roundw
          case rel => exact ⟨k + 1, by omega, by go_num, by rw [hit.out trivial]; exact hJ3, (hkp.trans (Keep.of_below (hd'.belowTo hA) hS')).trans hk3⟩
          case measure => simp [intOf]; omega
        · gi_wp2
          refine bodyPost_ret (results_none rfl _ _ _) rfl ?_
          exact ⟨⟨_, rfl⟩, .inr ⟨_, ⟨k + 1, by omega, (hit.out trivial).symm⟩, hJx3⟩⟩
      · gi_wp2_with (refine ⟨trivial, ?_⟩; gi_at_call 72; refine (callsIn_wide.2 hcon).mono ?_; rintro e w' ⟨rfl, hd'⟩)
        refine ⟨fun _ h => (by cases h), ?_⟩
        gi_wp2
        go_roundw
        case rel => exact ⟨k + 1, by omega, by go_num, by rw [miss.out trivial]; exact abides_step hJ hJs (hd'.belowTo hA), hkp.trans (Keep.of_below (hd'.belowTo hA) hS')⟩
        case measure => simp [intOf]; omega
    · obtain rfl : k = xs.length := by omega
      gi_wp2
      go_end0
      exact ⟨⟨_, rfl⟩, .inl ⟨_, rfl, hJs⟩⟩

/-- Both's value, called in whatever later world. -/
theorem both_stops (n : Nat) (hn : 1 ≤ n) (B1 B2 : Nat) (S : Nat → Prop) (a a2 : Option Addr) (cap cap2 : Nat) (xs ns : List Int) (w : World) (hS : ∀ k, S k → k < w.heap.size)
    (hst : ∀ W W', Below w.heap.size w W → Keep S W W' → Ints W' (.slice a xs.length cap) xs ∧ Ints W' (.slice a2 ns.length cap2) ns ∧
      W'.cell? ⟨B1, 0, none⟩ = some (.slice a xs.length cap) ∧ W'.cell? ⟨B2, 0, none⟩ = some (.slice a2 ns.length cap2)) :
    SeqStopsK Fence.wide n Try.prog 104 #[.pointer (some ⟨B1, 0, none⟩), .pointer (some ⟨B2, 0, none⟩)] (fun x : Int => #[Value.int .i64 x]) (Keep S) (fun ys => ys = both xs ns xs.length) (fun pre => ∃ k, k ≤ xs.length ∧ pre = both xs ns k) xs.length w :=
  fun l J Jx W hW hJ _ hY h0 => Both1_in n hn l B1 B2 S a a2 cap cap2 xs ns J Jx W hJ (fun k hk => Nat.lt_of_lt_of_le (hS k hk) hW.size) (fun W' h => hst W W' hW h) (fun _ W1 hk _ hj => hY _ _ W1 hj (Nat.lt_of_le_of_lt (both_len _ _ _) hk)) h0

/-- A group that has all of ns. -/
def BothB (xs ns : List Int) : Type := { k : Nat // k < xs.length ∧ (ns.any fun n => !hasB xs (k : Int) n) = false }
theorem both_stopsB (n : Nat) (hn : 1 ≤ n) (B1 B2 : Nat) (S : Nat → Prop) (a a2 : Option Addr) (cap cap2 : Nat) (xs ns : List Int) (w : World) (hS : ∀ k, S k → k < w.heap.size)
    (hst : ∀ W W', Below w.heap.size w W → Keep S W W' → Ints W' (.slice a xs.length cap) xs ∧ Ints W' (.slice a2 ns.length cap2) ns ∧
      W'.cell? ⟨B1, 0, none⟩ = some (.slice a xs.length cap) ∧ W'.cell? ⟨B2, 0, none⟩ = some (.slice a2 ns.length cap2)) :
    SeqStopsK Fence.wide n Try.prog 104 #[.pointer (some ⟨B1, 0, none⟩), .pointer (some ⟨B2, 0, none⟩)] (fun x : BothB xs ns => #[Value.int .i64 (x.1 : Int)]) (Keep S) (fun ys => ys.map (fun y => ((y.1 : Nat) : Int)) = both xs ns xs.length) (fun _ => True) xs.length w := by
  intro l J Jx W hW hJ _ hY h0
  refine (Both1_in n hn l B1 B2 S a a2 cap cap2 xs ns (fun l W => ∃ l' : List (BothB xs ns), l'.map (fun y => ((y.1 : Nat) : Int)) = l ∧ J l' W) (fun l W => ∃ l' : List (BothB xs ns), l'.map (fun y => ((y.1 : Nat) : Int)) = l ∧ Jx l' W) W
    (fun s A B row hs hg hr => by obtain ⟨l', e, h⟩ := hs; exact ⟨l', e, hJ l' A B row h hg hr⟩) (fun k hk => Nat.lt_of_lt_of_le (hS k hk) hW.size) (fun W' h => hst W W' hW h) ?_ ⟨[], rfl, h0⟩).mono ?_
  · rintro k W1 hk hm ⟨l', e, hj⟩
    have hl : l'.length < xs.length := by
      have := both_len xs ns k
      rw [← e, List.length_map] at this
      omega
    obtain ⟨fn, tmps, assign, body, hy, hR⟩ := hY l' ⟨k, hk, hm⟩ W1 hj hl
    refine ⟨fn, tmps, assign, body, hy, hR.mono ?_⟩
    rintro e' W' (⟨h1, h2, h3⟩ | ⟨h1, h2⟩)
    · exact .inl ⟨h1, ⟨_, by rw [List.map_append, e]; rfl, h2⟩, h3⟩
    · exact .inr ⟨h1, ⟨_, by rw [List.map_append, e]; rfl, h2⟩⟩
  · rintro e W' ⟨hv, ⟨ys, rfl, l', e', hj⟩ | ⟨pre, _, l', _, hj⟩⟩
    · exact ⟨hv, .inl ⟨l', e', hj⟩⟩
    · exact ⟨hv, .inr ⟨l', trivial, hj⟩⟩
theorem keepK_t {S : Nat → Prop} {A B C : World} (h : Keep S A B) (k : Keep S B C) : Keep S A C := h.trans k
theorem keepK_b {S : Nat → Prop} {w : World} (hS : ∀ k, S k → k < w.heap.size) (W : World) (l : Nat) (o o' : Obj) (hl : w.heap.size ≤ l) (_ : W.heap[l]? = some o) (_ : o.isCells = false) (_ : o.isWalk = false) : Keep S W (W.putObj l o') := by
  have hg := grownBy_putObj' W l o'
  exact ⟨hg.os, hg.tape, hg.output, hg.size, fun k hk => by
    by_cases h : k < W.heap.size
    · exact hg.block k h (fun e => by
        have e' : k = l := Option.some.inj e
        have := hS k hk
        omega)
    · have h1 : (W.putObj l o').heap.size = W.heap.size := by simp [World.putObj]
      rw [Array.getElem?_eq_none (by omega), Array.getElem?_eq_none (by omega)]⟩

/-- The two boxes of Both, and what it was handed, behind a box of the caller's own that may turn. -/
theorem both_still {w : World} {a2 : Option Addr} {a : Option Addr} {cap cap2 : Nat} {xs ns : List Int} {o1 o2 : Obj} {t : TypeId}
    (h : Ints w (.slice a xs.length cap) xs) (h2 : Ints ((w.alloc o1).alloc o2) (.slice a2 ns.length cap2) ns) (hne : ∀ b off, a2 = some ⟨b, off, none⟩ → ns ≠ [] → b ≠ w.heap.size) :
    ∀ W W', Below (w.heap.size + 4) ((((w.alloc o1).alloc o2).alloc (.cells #[.slice a xs.length cap] t)).alloc (.cells #[.slice a2 ns.length cap2] t)) W →
      Keep (fun k => k < w.heap.size + 4 ∧ k ≠ w.heap.size) W W' → Ints W' (.slice a xs.length cap) xs ∧ Ints W' (.slice a2 ns.length cap2) ns ∧
      W'.cell? ⟨w.heap.size + 1 + 1, 0, none⟩ = some (.slice a xs.length cap) ∧ W'.cell? ⟨w.heap.size + 1 + 1 + 1, 0, none⟩ = some (.slice a2 ns.length cap2) := by
  intro W W' hW hk
  have e1 : Below w.heap.size w ((w.alloc o1).alloc o2) := ((Below.refl _ w).alloc (Nat.le_refl _) _).alloc (by simp) _
  have e2 : Below (w.heap.size + 2) ((w.alloc o1).alloc o2) ((((w.alloc o1).alloc o2).alloc (.cells #[.slice a xs.length cap] t)).alloc (.cells #[.slice a2 ns.length cap2] t)) :=
    ((Below.refl _ _).alloc (by simp) _).alloc (by simp) _
  have e3 := e2.trans (hW.mono (by omega))
  refine ⟨((h.below e1).below (e3.mono (by simp))).keep hk (fun hx b hb => ?_), (h2.below (e3.mono (by simp))).keep hk (fun hx b hb => ?_), ?_, ?_⟩
  · have := h.blk hx b hb
    exact ⟨by omega, by omega⟩
  · have := h2.blk hx b hb
    simp at this
    have hb' : ∃ off, a2 = some ⟨b, off, none⟩ := by
      obtain ⟨_, _, _, _, e, _, hh⟩ := h2.2
      cases e
      obtain ⟨b', off, e, _⟩ := hh (by simpa using hx)
      subst e
      cases hb
      exact ⟨off, rfl⟩
    obtain ⟨off, ha⟩ := hb'
    exact ⟨by omega, hne b off ha hx⟩
  · rw [hk.cell (p := ⟨w.heap.size + 1 + 1, 0, none⟩) ⟨by simp, by simp; omega⟩, hW.cell (p := ⟨w.heap.size + 1 + 1, 0, none⟩) (by simp)]
    have c1 := cell_new_l ((w.alloc o1).alloc o2) (.slice a xs.length cap) t
    simp only [World.size_alloc] at c1
    exact cell_alloc_l _ c1.1
  · rw [hk.cell (p := ⟨w.heap.size + 1 + 1 + 1, 0, none⟩) ⟨by simp, by simp; omega⟩, hW.cell (p := ⟨w.heap.size + 1 + 1 + 1, 0, none⟩) (by simp)]
    have c1 := cell_new_l (((w.alloc o1).alloc o2).alloc (.cells #[.slice a xs.length cap] t)) (.slice a2 ns.length cap2) t
    simp only [World.size_alloc] at c1
    exact c1.1

theorem ownsRow_le {w : World} {b b' : Nat} {e : TypeId} {s n : Nat} {v : Value} {cs : List Value} (h : w.ownsRow b e s v n cs) (hb : b' ≤ b) : w.ownsRow b' e s v n cs := by
  refine ⟨h.1, ?_⟩
  rcases h.2 with hn | ⟨g, cap, cur, hv, hg, r⟩
  · exact .inl hn
  · exact .inr ⟨g, cap, cur, hv, Nat.le_trans hb hg, r⟩

/-- An append onto a boxed slice of the call's own, in the body of a range over a function. -/
theorem collected {W w1 : World} {N B : Nat} {t e : TypeId} {size : Nat} {v v' : Value} {k m : Nat} {xs ys : List Value} {tmp : Obj}
    (hv : Boxed W B t v) (hte : t ≠ e) (hrow : W.ownsRow N e size v k xs) (hB : B < N) (hN : N ≤ W.heap.size)
    (hown' : w1.ownsRow N e size v' (k + m) ys) (hgrow : (W.alloc tmp).grownBy w1 v.ownBlock) :
    Boxed w1 B t v ∧ Boxed (w1.setCell ⟨B, 0, none⟩ v') B t v' ∧ (w1.setCell ⟨B, 0, none⟩ v').ownsRow N e size v' (k + m) ys ∧ KeepsOthers W (w1.setCell ⟨B, 0, none⟩ v') ∧
      Keep (fun k => k < N ∧ k ≠ B) W (w1.setCell ⟨B, 0, none⟩ v') := by
  obtain ⟨h1, h2, _, h4, _⟩ := hv.appended (n₀ := 0) hte (ownsRow_le hrow (Nat.zero_le _)) (Nat.zero_le _) (Nat.zero_le _) (ownsRow_le hown' (Nat.zero_le _)) hgrow
  have hg := grownBy_setCell' w1 B v'
  refine ⟨h1, h2, hown'.kept hg ?_, h4, ⟨by rw [hg.os, hgrow.os]; rfl, by rw [hg.tape, hgrow.tape]; rfl, by rw [hg.output, hgrow.output]; rfl, ?_, fun j hj => ?_⟩⟩
  · cases ho : v'.ownBlock with
    | none => exact .inl rfl
    | some b =>
      refine .inr fun e => ?_
      have := (hown'.lt b ho).1
      cases e
      omega
  · have := hgrow.size
    rw [World.size_alloc] at this
    exact Nat.le_trans (by omega) hg.size
  · obtain ⟨hj1, hj2⟩ := hj
    rw [hg.block j (by have := hgrow.size; rw [World.size_alloc] at this; omega) (fun e => hj2 (Option.some.inj e)),
      hgrow.block j (by rw [World.size_alloc]; omega) (fun e => by have := (hrow.lt j e.symm).1; omega), heap_alloc_old _ _ _ (by omega)]

theorem Try.info3 : (Try.prog.info? 3).map (fun i => (i.zero, i.size, i.bytes)) = some (some (.int .i64 0), 1, 8) := by kernel_rfl

theorem both_i64 {xs ns : List Int} {n : Nat} (hn : n * 8 ≤ 140737488351232) : ∀ x ∈ both xs ns n, I64 x := by
  intro x hx
  have := both_mem hx
  unfold I64
  omega

end Go.Proofs.Ytafmpcaneeplpaa
