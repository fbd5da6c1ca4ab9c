/-
  A world of the call's own: other messages laid as what a node holds; reading alone.
  BoundTrue, the plain law: how far it is is not above its clock, nor above what has come of any other member of its groups.
  Bound: what must be in any case.
-/
import Derived.Test.YtgifclphigpnhaaGreatKS3
import Derived.Test.YtgifclphigpnhaaGreatKB
import Derived.Test.YtgifclphigpnhaaGreatKT
import Derived.Test.YtgifclphigpnhaaGreatKS
namespace Go.Proofs.YtgifclphigpnhaaGreat
open Go.RowKit Go.Deep

def heldSet (X : Wd) (n : Nat) (ms : List M) : Wd := { X with nodes := X.nodes.set n { X.nodes.getD n N.zero with held := ms } }
theorem OWd.held_over {o : Bool} {w : World} {S : Nat → Prop} {gv nv wv : Value} {X : Wd} (h : OWd o w S gv nv wv X) {n : Nat} (hi : n < X.nodes.length) :
    ∃ (g cap : Nat) (u0 : Value), nv = .slice (some ⟨g, 0, none⟩) X.nodes.length cap ∧ X.nodes.length ≤ cap ∧ S g ∧ BlkIs w g 47 (cap * 4) ∧ w.cell? ⟨g, n * 4 + 2, none⟩ = some u0 ∧
      ∀ w' u ms, Lies S w w' → Msgs (w'.setCell ⟨g, n * 4 + 2, none⟩ u) u ms → WorldAt (w'.setCell ⟨g, n * 4 + 2, none⟩ u) (.agg #[gv, nv, wv]) (heldSet X n ms) := by
  obtain ⟨Sg, Sn, Sw, h1, h2, h3, s1, s2, s3, d1, d2, d3⟩ := h
  obtain ⟨g, off, cap, T, cs, e1, e2, e3, e4, e5, e6, e7, ⟨lv, hv, tv, Tl, Th, Tt, rfl, f1, f2, f3, f4, t1, t2, t3, dd⟩, e9, back⟩ :=
    OSl.atR (El' := NodeEl) ONodeEl.stays (fun _ _ _ _ ⟨lv, hv, tv, _, _, _, e, i, a, b, c, _⟩ => ⟨lv, hv, tv, e, i, a.rows, b.msgs, c.msgs⟩) h2 hi
  obtain rfl := e5 rfl
  have k2 := e7 2 (by omega)
  simp only [Nat.zero_add] at e3 e7 back k2
  refine ⟨g, cap, hv, e1, e4, s2 g e2, e3, k2, fun w' u ms hw' hm => ?_⟩
  have hlo : ∀ b, b ≠ g → S b → (w'.setCell ⟨g, n * 4 + 2, none⟩ u).heap[b]? = w.heap[b]? := fun b hb hS => (Go.Deep.blk_setCell_other _ _ _ _ hb).trans (hw' b hS)
  have hB : BlkSet w (w'.setCell ⟨g, n * 4 + 2, none⟩ u) g (n * 4) [.int .i64 X.nodes[n].clock, lv, u, tv] :=
    (BlkSet.same (w := w) (w' := w') (p := n * 4) (cs := [.int .i64 X.nodes[n].clock, lv, hv, tv]) (hw' g (s2 g e2)) (fun j hj => e7 j (by simpa using hj))).set e3 2 (by simp) (by
      have : (n + 1) * 4 ≤ cap * 4 := Nat.mul_le_mul_right _ (by omega)
      simp
      omega) _
  have hrow := back _ _ { X.nodes[n] with held := ms } (fun b hb => hlo b hb.2.1 (s2 b hb.1)) hB rfl
    ⟨lv, u, tv, rfl, f1, (f2.keep (fun b hb => hlo b (e9 b (t1 b hb)).2 (s2 b (e9 b (t1 b hb)).1))).rows, hm, (f4.keep (fun b hb => hlo b (e9 b (t3 b hb)).2 (s2 b (e9 b (t3 b hb)).1))).msgs⟩
  refine ⟨gv, nv, wv, rfl, ?_, ?_, ?_⟩
  · exact (h1.keep (fun b hb => hlo b (fun e => d1 g (e ▸ hb) e2) (s1 b hb))).ints
  · show Nodes _ nv _
    rw [show (heldSet X n ms).nodes = X.nodes.set n { X.nodes[n] with held := ms } by simp [heldSet, hi]]
    exact hrow
  · exact (h3.keep (fun b hb => hlo b (fun e => d3 g e2 (e ▸ hb)) (s3 b hb))).wires
end Go.Proofs.YtgifclphigpnhaaGreat

set_option maxRecDepth 100000
namespace Go.Proofs.YtgifclphigpnhaaGreat
open Go.RowKit

theorem boundS_le (X : Wd) (n g k : Nat) (a : Int) : boundS X n g k a ≤ a := by
  unfold boundS
  split
  · omega
  · exact Int.le_refl _
theorem boundG_anti (X : Wd) (n g : Nat) (a : Int) {m m' : Nat} (h : m ≤ m') : boundG X n g m' a ≤ boundG X n g m a := by
  induction m' with
  | zero => rw [show m = 0 by omega]; exact Int.le_refl _
  | succ m' ih =>
    by_cases e : m = m' + 1
    · rw [e]; exact Int.le_refl _
    · rw [boundG_succ]
      exact Int.le_trans (boundS_le _ _ _ _ _) (ih (by omega))
theorem boundG_le (X : Wd) (n g m : Nat) (a : Int) : boundG X n g m a ≤ a := boundG_anti X n g a (Nat.zero_le m)
theorem boundM_anti (X : Wd) (n : Nat) {m m' : Nat} (h : m ≤ m') : boundM X n m' ≤ boundM X n m := by
  induction m' with
  | zero => rw [show m = 0 by omega]; exact Int.le_refl _
  | succ m' ih =>
    by_cases e : m = m' + 1
    · rw [e]; exact Int.le_refl _
    · rw [boundM_succ]
      exact Int.le_trans (boundG_le _ _ _ _ _) (ih (by omega))
theorem boundX_clock (X : Wd) (n : Nat) : boundX X n ≤ (X.nodes.getD n N.zero).clock := boundM_anti X n (Nat.zero_le _)
theorem boundX_last {X : Wd} {n g k : Nat} (hg : g < X.groups.length) (hk : k < X.nodes.length) (hn : k ≠ n) (h1 : hasB X.groups g n = true) (h2 : hasB X.groups g k = true) :
    boundX X n ≤ ((X.nodes.getD n N.zero).last.getD g []).getD k 0 := by
  have h := boundM_anti X n (show g + 1 ≤ X.groups.length from hg)
  rw [boundM_succ] at h
  have h3 := boundG_anti X n g (boundM X n g) (show k + 1 ≤ X.nodes.length from hk)
  rw [boundG_succ] at h3
  have h4 : boundS X n g k (boundG X n g k (boundM X n g)) ≤ ((X.nodes.getD n N.zero).last.getD g []).getD k 0 := by
    unfold boundS
    rw [if_pos (by simp [hn, h1, h2])]
    omega
  exact Int.le_trans h (Int.le_trans h3 h4)
end Go.Proofs.YtgifclphigpnhaaGreat

set_option maxRecDepth 100000
namespace Go.Proofs.YtgifclphigpnhaaGreat
open Go.RowKit Go.Shelf Go.BigFrame

def aM01 : Ac := ⟨3, 0, 1, ⟨#[]⟩⟩
def aN21 : Ac := ⟨2, 2, 1, ⟨#[]⟩⟩
def aM21 : Ac := ⟨3, 2, 1, ⟨#[]⟩⟩
def XP : Wd := doneF (beginX 3 [3, 6]) [aA, aM01, aN21, aN21]
def XQ : Wd := doneF (beginX 3 [3, 6]) [aA, aN21, aM21]
def mB2 : M := ⟨0, 0, 2, false, ⟨#[98]⟩⟩
def XQ1 : Wd := lastSet XQ 1 0 0 1
def XQ2 : Wd := heldSet XQ1 1 [mA1, mB2]
theorem XP_b : nodeE XP 1 = 0 ∧ boundR XP 1 = 0 := by decide +kernel
theorem XQ_b : nodeE XQ 1 = 0 ∧ boundR XQ 1 = 0 := by decide +kernel
theorem XQ1_b : nodeE XQ1 1 = 0 ∧ boundR XQ1 1 = 1 ∧ nodeE XQ1 3 = 4 ∧ boundR XQ1 3 = 0 := by decide +kernel
theorem XQ2_b : nodeE XQ2 1 = 0 := by decide +kernel
theorem XQ2_r : readyR XQ2 1 = [mA1] := by kernel_rfl
theorem XQ_n : XQ.nodes.length = 3 ∧ XQ.wires.length = 3 ∧ XQ.groups.length = 2 ∧ (XQ.nodes.getD 1 N.zero).last.length = 2 ∧ ((XQ.nodes.getD 1 N.zero).last.getD 0 []).length = 3 := by decide +kernel

theorem XQ1_n : XQ1.nodes.length = 3 ∧ XQ1.wires.length = 3 ∧ XQ1.groups.length = 2 := by decide +kernel

set_option maxHeartbeats 4000000 in
theorem boundBegun_c (w : World) : Calls Tryz.prog 26 #[] w (GivesB (.bool true) w) := by
  obtain ⟨P, hP⟩ : ∃ P, GivesB (.bool true) w = P := ⟨_, rfl⟩
  rw [hP]
  replace hP := Lib.hid hP
  go_enter Tryz.func26, Tryz.ntmps26
  go_wp2_with fail
  refine (act_c _ 1 0 0 ⟨#[97]⟩).mono ?_
  rintro e wa1 ⟨rfl, ba1⟩
  go_wp2_with fail
  refine (act_c _ 3 0 1 ⟨#[]⟩).mono ?_
  rintro e wa2 ⟨rfl, ba2⟩
  go_wp2_with fail
  refine (act_c _ 2 2 1 ⟨#[]⟩).mono ?_
  rintro e wa3 ⟨rfl, ba3⟩
  go_wp2_with fail
  refine (act_c _ 2 2 1 ⟨#[]⟩).mono ?_
  rintro e wa4 ⟨rfl, ba4⟩
  unfold Ac.val
  have ba := below_trans ba1 (below_trans ba2 (below_trans ba3 ba4))
  clear ba1 ba2 ba3 ba4
  have hl := Acts.lit wa4 [aA, aM01, aN21, aN21] (by simp [Ac.fits, I64, aA, aM01, aN21]; decide) (by simp) #[.int .i64 1, .int .i64 0, .int .i64 0, .string ⟨#[97]⟩, .int .i64 3, .int .i64 0, .int .i64 1, .string ⟨#[]⟩, .int .i64 2, .int .i64 2, .int .i64 1, .string ⟨#[]⟩, .int .i64 2, .int .i64 2, .int .i64 1, .string ⟨#[]⟩] rfl
  have hBg := begin_c hl (fun x hx h => by simp at hx; rcases hx with rfl | rfl | rfl <;> cases h)
  rw [show doneF (beginX 3 [3, 6]) [aA, aM01, aN21, aN21] = XP from rfl] at hBg
  simp only [List.length_cons, List.length_nil, Nat.zero_add, Nat.reduceAdd] at hBg
  go_wp2_with fail
  refine hBg.mono ?_
  rintro e w1 ⟨gv1, nv1, wv1, S1, rfl, hO1, hS1, hb1⟩
  have b1 := below_trans (below_trans ba (below_a1 _ _)) hb1
  obtain ⟨pg, pn, pw⟩ := hO1.parts
  obtain ⟨_, ga1, gcap1, rfl, _⟩ := pg.open
  obtain ⟨_, na1, ncap1, rfl, _⟩ := pn.form
  obtain ⟨_, wa1', wcap1, rfl, _⟩ := pw.form
  clear pg pn pw hBg hl ba hb1 hS1
  have hR1 := OBox.new w1 26 (.slice ga1 XP.groups.length gcap1) (.slice na1 XP.nodes.length ncap1) (.slice wa1' XP.wires.length wcap1)
  have hW1 := hO1.world.below (below_a1 w1 (.cells #[.slice ga1 XP.groups.length gcap1, .slice na1 XP.nodes.length ncap1, .slice wa1' XP.wires.length wcap1] 26))
  have b2 := below_trans b1 (below_a1 w1 (.cells #[.slice ga1 XP.groups.length gcap1, .slice na1 XP.nodes.length ncap1, .slice wa1' XP.wires.length wcap1] 26))
  have hlo1 := b1.size
  clear hO1
  have hQ := BOf_c hW1 1 (by simp [I64])
  rw [XP_b.1, XP_b.2] at hQ
  go_upto_region 2 with fail
  generalize w1.alloc (.cells #[.slice ga1 XP.groups.length gcap1, .slice na1 XP.nodes.length ncap1, .slice wa1' XP.wires.length wcap1] 26) = w2 at *
  obtain ⟨B, hB⟩ : ∃ B, w1.heap.size = B := ⟨_, rfl⟩
  simp only [hB] at hR1 hlo1 ⊢
  clear hB b1 hW1
  obtain ⟨_, r0, r1, r2⟩ := id hR1
  go_wp2_with fail
  refine hQ.mono ?_
  rintro e w3 ⟨rfl, b3⟩
  clear hQ r0 r1 r2
  have hR3 := hR1.keep (b3.block _ hR1.lt)
  have b3 := below_trans b2 b3
  clear hR1 b2
  go_upto_region 3 with fail
  go_wp2_with fail
  refine (act_c _ 1 0 0 ⟨#[97]⟩).mono ?_
  rintro e wa1 ⟨rfl, ba1⟩
  go_wp2_with fail
  refine (act_c _ 2 2 1 ⟨#[]⟩).mono ?_
  rintro e wa2 ⟨rfl, ba2⟩
  go_wp2_with fail
  refine (act_c _ 3 2 1 ⟨#[]⟩).mono ?_
  rintro e wa3 ⟨rfl, ba3⟩
  unfold Ac.val
  have ba := below_trans ba1 (below_trans ba2 ba3)
  clear ba1 ba2 ba3
  have hl := Acts.lit wa3 [aA, aN21, aM21] (by simp [Ac.fits, I64, aA, aM21, aN21]; decide) (by simp) #[.int .i64 1, .int .i64 0, .int .i64 0, .string ⟨#[97]⟩, .int .i64 2, .int .i64 2, .int .i64 1, .string ⟨#[]⟩, .int .i64 3, .int .i64 2, .int .i64 1, .string ⟨#[]⟩] rfl
  have hBg := begin_c hl (fun x hx h => by simp at hx; rcases hx with rfl | rfl | rfl <;> cases h)
  rw [show doneF (beginX 3 [3, 6]) [aA, aN21, aM21] = XQ from rfl] at hBg
  simp only [List.length_cons, List.length_nil, Nat.zero_add, Nat.reduceAdd] at hBg
  go_wp2_with fail
  refine hBg.mono ?_
  rintro e w5 ⟨gv5, nv5, wv5, S5, rfl, hO5, hS5, hb5⟩
  have bx := below_trans (below_trans ba (below_a1 _ _)) hb5
  have hlo5 : ∀ c, S5 c → w3.heap.size ≤ c ∧ c < w5.heap.size := fun c hc => ⟨Nat.le_trans (below_trans ba (below_a1 wa3 _)).size (hS5 c hc).1, (hS5 c hc).2⟩
  have b5 := below_trans b3 bx
  have hR5 := hR3.keep (bx.block _ hR3.lt)
  have hB3 := hR3.lt
  obtain ⟨pg, pn, pw⟩ := hO5.parts
  obtain ⟨_, ga5, gcap5, e1, _⟩ := pg.open
  obtain ⟨_, na5, ncap5, e2, _⟩ := pn.form
  obtain ⟨_, wa5, wcap5, e3, _⟩ := pw.form
  rw [XQ_n.2.2.1] at e1
  rw [XQ_n.1] at e2
  rw [XQ_n.2.1] at e3
  subst e1 e2 e3
  clear pg pn pw hBg hl ba hb5 hS5 bx b3 hR3
  obtain ⟨hf0, hf1, hf2, z0, z1, z2⟩ := hR5.all
  have hF := ((hR5.set0 (.slice ga5 2 gcap5)).set1 (.slice na5 3 ncap5)).set2 (.slice wa5 3 wcap5)
  have hK : ∀ c, S5 c → (((w5.setCell ⟨B, 0, none⟩ (.slice ga5 2 gcap5)).setCell ⟨B, 1, none⟩ (.slice na5 3 ncap5)).setCell ⟨B, 2, none⟩ (.slice wa5 3 wcap5)).heap[c]? = w5.heap[c]? := fun c hc => by
    have h := (hlo5 c hc).1
    rw [set3_blk (by show c ≠ B; omega)]
  have hO6 := hO5.keep hK
  have b6 := below_setCell (a := ⟨B, 2, none⟩) (below_setCell (a := ⟨B, 1, none⟩) (below_setCell (a := ⟨B, 0, none⟩) b5 hlo1 (.slice ga5 2 gcap5)) hlo1 (.slice na5 3 ncap5)) hlo1 (.slice wa5 3 wcap5)
  replace hK := Lib.hid hK
  replace b6 := Lib.hid b6
  replace hlo5 := Lib.hid hlo5
  go_upto_region 4 with fail
  have hsz6 : (((w5.setCell ⟨B, 0, none⟩ (.slice ga5 2 gcap5)).setCell ⟨B, 1, none⟩ (.slice na5 3 ncap5)).setCell ⟨B, 2, none⟩ (.slice wa5 3 wcap5)).heap.size = w5.heap.size := by
    rw [set3_size]
  have b6 := b6.out
  generalize ((w5.setCell ⟨B, 0, none⟩ (.slice ga5 2 gcap5)).setCell ⟨B, 1, none⟩ (.slice na5 3 ncap5)).setCell ⟨B, 2, none⟩ (.slice wa5 3 wcap5) = w6 at *
  rw [← hsz6] at hlo5
  clear hK hO5 b5 hR5 hf0 hf1 hf2 z0 z1 z2 hsz6
  have hQ := BOf_c hO6.world 1 (by simp [I64])
  rw [XQ_b.1, XQ_b.2] at hQ
  obtain ⟨_, r0, r1, r2⟩ := id hF
  go_wp2_with fail
  refine hQ.mono ?_
  rintro e w7 ⟨rfl, b7⟩
  clear hQ r0 r1 r2
  have hR7 := hF.keep (b7.block _ hF.lt)
  have hO7 := hO6.keep (fun c hc => b7.block c (hlo5.out c hc).2)
  have hlo7 : ∀ c, S5 c → w3.heap.size ≤ c ∧ c < w7.heap.size := fun c hc => ⟨(hlo5.out c hc).1, Nat.lt_of_lt_of_le (hlo5.out c hc).2 b7.size⟩
  have b7 := below_trans b6 b7
  clear hF hO6 hlo5 b6
  obtain ⟨g, cap, g1, cap1, g2, cap2, e1, _, _, gl, k1, c1, _, g1l, k2, c2, g2S, g2l, _, _, g2b, k3, _, hset⟩ := hO7.last_at (n := 1) (r := 0) (k := 0) (by rw [XQ_n.1]; omega) (by rw [XQ_n.2.2.2.1]; omega) (by rw [XQ_n.2.2.2.2]; omega)
  rw [XQ_n.1] at e1
  cases e1
  simp only [Nat.one_mul, Nat.reduceAdd] at k1
  rw [XQ_n.2.2.2.1] at k1 c1
  rw [XQ_n.2.2.2.2] at k2 c2
  have hf := g2b.frozen 0
  have hx : OWd false (w7.setCell ⟨g2, 0, none⟩ (.int .i64 1)) S5 _ _ _ XQ1 := (hset w7 1 (fun _ _ => rfl) (by simp [I64])).any
  have hg2 := hlo7 g2 g2S
  have b8 := below_setCell (a := ⟨g2, 0, none⟩) b7 (by show w.heap.size ≤ g2; omega) (.int .i64 1)
  have hR8 := hR7.keep (w' := w7.setCell ⟨g2, 0, none⟩ (.int .i64 1)) (Go.Deep.blk_setCell_other _ _ _ _ (by show B ≠ g2; omega))
  have hsz8 : (w7.setCell ⟨g2, 0, none⟩ (.int .i64 1)).heap.size = w7.heap.size := Go.Deep.nblk_setCell _ _ _
  obtain ⟨_, r0, r1, r2⟩ := id hR7
  replace hset := Lib.hid hset
  replace hlo7 := Lib.hid hlo7
  replace hg2 := Lib.hid hg2
  replace b8 := Lib.hid b8
  replace hsz8 := Lib.hid hsz8
  go_upto_region 6 with fail
  have b8 := b8.out
  have hsz8 := hsz8.out
  generalize w7.setCell ⟨g2, 0, none⟩ (.int .i64 1) = w8 at *
  rw [← hsz8] at hlo7
  clear hset r0 r1 r2 hR7 hO7 b7 hsz8 hg2 k1 k2 k3 c1 c2 g2S g2l g1l gl g2b hf
  have hQ := BOf_c hx.world 1 (by simp [I64])
  rw [XQ1_b.1, XQ1_b.2.1] at hQ
  obtain ⟨_, r0, r1, r2⟩ := id hR8
  go_wp2_with fail
  refine hQ.mono ?_
  rintro e w9 ⟨rfl, b9⟩
  clear hQ r0 r1 r2
  have hR9 := hR8.keep (b9.block _ hR8.lt)
  have hO9 := hx.keep (fun c hc => b9.block c (hlo7.out c hc).2)
  have hlo9 : ∀ c, S5 c → w3.heap.size ≤ c ∧ c < w9.heap.size := fun c hc => ⟨(hlo7.out c hc).1, Nat.lt_of_lt_of_le (hlo7.out c hc).2 b9.size⟩
  have b9 := below_trans b8 b9
  clear hR8 hx hlo7 b8
  go_upto_region 7 with fail
  have hQ := BOf_c hO9.world 3 (by simp [I64])
  rw [XQ1_b.2.2.1, XQ1_b.2.2.2] at hQ
  obtain ⟨_, r0, r1, r2⟩ := id hR9
  go_wp2_with fail
  refine hQ.mono ?_
  rintro e w10 ⟨rfl, b10⟩
  clear hQ r0 r1 r2
  have hR10 := hR9.keep (b10.block _ hR9.lt)
  have hO10 := hO9.keep (fun c hc => b10.block c (hlo9 c hc).2)
  have hlo10 : ∀ c, S5 c → w3.heap.size ≤ c ∧ c < w10.heap.size := fun c hc => ⟨(hlo9 c hc).1, Nat.lt_of_lt_of_le (hlo9 c hc).2 b10.size⟩
  have b10 := below_trans b9 b10
  clear hR9 hO9 hlo9 b9
  go_upto_region 8 with fail
  obtain ⟨g', cap', u0, e1, hcp, gS, gB, ku, hov⟩ := hO10.held_over (n := 1) (by show 1 < XQ1.nodes.length; rw [XQ1_n.1]; omega)
  rw [XQ1_n.1] at e1 hcp
  cases e1
  simp only [Nat.one_mul, Nat.reduceAdd] at ku hov
  have hg := hlo10 g gS
  obtain ⟨_, r0, r1, r2⟩ := id hR10
  have hBl := hR10.lt
  have hSB : ∀ W, Below w10.heap.size w10 W → W.cell? ⟨B, 0, none⟩ = some (.slice ga5 2 gcap5) ∧ W.cell? ⟨B, 1, none⟩ = some (.slice (some ⟨g, 0, none⟩) 3 ncap5) :=
    fun W h => ⟨(h.cell (p := ⟨B, 0, none⟩) hBl).trans r0, (h.cell (p := ⟨B, 1, none⟩) hBl).trans r1⟩
  replace hov := Lib.hid hov
  replace hlo10 := Lib.hid hlo10
  clear r0 r2
  refine wp_region_N (fun w' => w'.cell? ⟨B, 0, none⟩ = some (.slice ga5 2 gcap5) ∧ w'.cell? ⟨B, 1, none⟩ = some (.slice (some ⟨g, 0, none⟩) 3 ncap5)) 5 8 rfl (by kernel_rfl) (hSB _ (below_drewN w10 1)) (fun hSw => ?_)
  refine tk 0 ?_ rfl rfl (by kernel_rfl) (.inl ⟨by rfl, ?_⟩) hSw ?_
  rotate_left
  · rintro w ⟨s0, s1⟩; go_simp; try with_reducible rfl
  simp only [tkp, tkz, tks]
  refine tk 1 ?_ rfl rfl (by kernel_rfl) (.inl ⟨by rfl, ?_⟩) hSw ?_
  rotate_left
  · rintro w ⟨s0, s1⟩; go_simp; try with_reducible rfl
  simp only [tkp, tkz, tks]
  refine N_one' (i := 2) (by kernel_rfl) rfl ?_
  go_wp2_with fail
  refine (say_c _ 0 0 1 ⟨#[97]⟩).mono ?_
  rintro e w11 ⟨rfl, b11⟩
  have b11 := below_trans (below_drewN w10 1) b11
  go_wp2_with fail
  refine QK_normal ⟨?_, ?_⟩
  · first | exact fun _ => hSB _ b11 | exact hSB _ b11
  refine N_one' (i := 3) (by kernel_rfl) rfl ?_
  go_wp2_with fail
  refine (say_c _ 0 0 2 ⟨#[98]⟩).mono ?_
  rintro e w12 ⟨rfl, b12⟩
  have b12 := below_trans b11 b12
  go_wp2_with fail
  refine QK_normal ⟨?_, ?_⟩
  · first | exact fun _ => hSB _ b12 | exact hSB _ b12
  refine N_one' (i := 4) (by kernel_rfl) rfl ?_
  unfold M.val
  go_wp2_with fail
  refine QK_normal ⟨?_, ?_⟩
  · first | exact fun _ => hSB _ (below_trans b12 (below_a1 _ _)) | exact hSB _ (below_trans b12 (below_a1 _ _))
  have hM13 := Msgs.lit w12 [mA1, mB2] (by simp [M.fits, I64, mA1, mB2]; decide) (by simp) #[.int .i64 0, .int .i64 0, .int .i64 1, .bool false, .string ⟨#[97]⟩, .int .i64 0, .int .i64 0, .int .i64 2, .bool false, .string ⟨#[98]⟩] rfl
  have b13 := below_trans b12 (below_a1 w12 (.cells #[.int .i64 0, .int .i64 0, .int .i64 1, .bool false, .string ⟨#[97]⟩, .int .i64 0, .int .i64 0, .int .i64 2, .bool false, .string ⟨#[98]⟩] 56))
  have hgN : w12.heap.size ≠ g := by have := b12.size; omega
  simp only [List.length_cons, List.length_nil, Nat.zero_add, Nat.reduceAdd] at hM13
  refine N_rest 5 3 (Nat.le_refl _) rfl (by kernel_rfl) ?_
  simp only [List.drop_succ_cons, List.drop_zero]
  generalize w12.alloc (.cells #[.int .i64 0, .int .i64 0, .int .i64 1, .bool false, .string ⟨#[97]⟩, .int .i64 0, .int .i64 0, .int .i64 2, .bool false, .string ⟨#[98]⟩] 56) = w13 at *
  obtain ⟨C, hC⟩ : ∃ C, w12.heap.size = C := ⟨_, rfl⟩
  simp only [hC] at hM13 hgN ⊢
  have ku := (b13.cell (p := ⟨g, 6, none⟩) hg.2).trans ku
  have hf := (gB.same (b13.block g hg.2)).frozen 6
  have hW14 := hov.out w13 (.slice (some ⟨C, 0, none⟩) 2 2) [mA1, mB2] (fun c hc => b13.block c (hlo10.out c hc).2) ⟨hM13.1, hM13.2.keep (keep_setCell (S := fun b => b ≠ g) 6 _ (fun h => h rfl)) (fun _ b hb => by cases hb; exact hgN)⟩
  rw [show heldSet XQ1 1 [mA1, mB2] = XQ2 from rfl] at hW14
  have b14 := below_setCell (a := ⟨g, 6, none⟩) (below_trans b10 b13) (by show w.heap.size ≤ g; omega) (.slice (some ⟨C, 0, none⟩) 2 2)
  have hR14 := (hR10.keep (b13.block _ hBl)).keep (w' := w13.setCell ⟨g, 6, none⟩ (.slice (some ⟨C, 0, none⟩) 2 2)) (Go.Deep.blk_setCell_other _ _ _ _ (by show B ≠ g; omega))
  clear hov hSB hM13 hC b11 b12 b13 hlo10 gB gS hO10 b10 r1 hSw
  replace hW14 := Lib.hid hW14
  replace b14 := Lib.hid b14
  go_upto_region 9 with fail
  have b14 := b14.out
  have hW14 := hW14.out
  generalize w13.setCell ⟨g, 6, none⟩ (.slice (some ⟨C, 0, none⟩) 2 2) = w14 at *
  have hQ := BReady_c hW14 1 (by simp [I64])
  rw [XQ2_b, XQ2_r] at hQ
  obtain ⟨_, r0, r1, r2⟩ := id hR14
  go_wp2_with fail
  refine hQ.mono ?_
  rintro e w15 ⟨v15, rfl, ho15, b15⟩
  have hM15 := ho15.msgs (by simp)
  obtain ⟨_, a15, c15, rfl, hcc, hm⟩ := hM15.open
  obtain ⟨D, off, rfl, hm2⟩ := hm (by simp)
  obtain ⟨m0, m1, m2, m3, m4⟩ := hm2 0 (by simp)
  simp only [Nat.zero_mul, Nat.add_zero, List.getD_cons_zero, mA1, List.length_cons, List.length_nil, Nat.zero_add] at m0 m1 m2 m3 m4 hcc ⊢
  have b15 := below_trans b14 b15
  clear r0 r1 r2 hQ hM15 hm hm2 ho15 hW14 b14 hR14 ku hf
  go_upto_region 10 with fail
  have hSB : ∀ W, Below w15.heap.size w15 W → W.cell? ⟨D, off, none⟩ = some (.int .i64 0) ∧ W.cell? ⟨D, off + 1, none⟩ = some (.int .i64 0) ∧ W.cell? ⟨D, off + 2, none⟩ = some (.int .i64 1) ∧ W.cell? ⟨D, off + 3, none⟩ = some (.bool false) ∧ W.cell? ⟨D, off + 4, none⟩ = some (.string ⟨#[97]⟩) :=
    fun W h => ⟨(h.cell (p := ⟨D, off, none⟩) (cell_lt m0)).trans m0, (h.cell (p := ⟨D, off + 1, none⟩) (cell_lt m1)).trans m1, (h.cell (p := ⟨D, off + 2, none⟩) (cell_lt m2)).trans m2, (h.cell (p := ⟨D, off + 3, none⟩) (cell_lt m3)).trans m3, (h.cell (p := ⟨D, off + 4, none⟩) (cell_lt m4)).trans m4⟩
  clear m0 m1 m2 m3 m4
  refine wp_region_N (fun w' => w'.cell? ⟨D, off, none⟩ = some (.int .i64 0) ∧ w'.cell? ⟨D, off + 1, none⟩ = some (.int .i64 0) ∧ w'.cell? ⟨D, off + 2, none⟩ = some (.int .i64 1) ∧ w'.cell? ⟨D, off + 3, none⟩ = some (.bool false) ∧ w'.cell? ⟨D, off + 4, none⟩ = some (.string ⟨#[97]⟩)) 40 43 rfl (by kernel_rfl) (hSB _ (below_drewN w15 1)) (fun hSw => ?_)
  refine tk 0 ?_ rfl rfl (by kernel_rfl) (.inl ⟨by rfl, ?_⟩) hSw ?_
  rotate_left
  · rintro w ⟨s0, s1, s2, s3, s4⟩; go_simp; try with_reducible rfl
  simp only [tkp, tkz, tks]
  refine tk 1 ?_ rfl rfl (by kernel_rfl) (.inl ⟨by rfl, ?_⟩) hSw ?_
  rotate_left
  · rintro w ⟨s0, s1, s2, s3, s4⟩; go_simp; try with_reducible rfl
  simp only [tkp, tkz, tks]
  refine tk 2 ?_ rfl rfl (by kernel_rfl) (.inl ⟨by rfl, ?_⟩) hSw ?_
  rotate_left
  · rintro w ⟨s0, s1, s2, s3, s4⟩; go_simp; try with_reducible rfl
  simp only [tkp, tkz, tks]
  refine tk 3 ?_ rfl rfl (by kernel_rfl) (.inl ⟨by rfl, ?_⟩) hSw ?_
  rotate_left
  · rintro w ⟨s0, s1, s2, s3, s4⟩; go_simp; try with_reducible rfl
  simp only [tkp, tkz, tks]
  refine tk 4 ?_ rfl rfl (by kernel_rfl) (.inl ⟨by rfl, ?_⟩) hSw ?_
  rotate_left
  · rintro w ⟨s0, s1, s2, s3, s4⟩; go_simp; try with_reducible rfl
  simp only [tkp, tkz, tks]
  refine tk 5 ?_ rfl rfl (by kernel_rfl) (.inl ⟨by rfl, ?_⟩) hSw ?_
  rotate_left
  · rintro w ⟨s0, s1, s2, s3, s4⟩; go_simp; try with_reducible rfl
  simp only [tkp, tkz, tks]
  refine tk 6 ?_ rfl rfl (by kernel_rfl) (.inl ⟨by rfl, ?_⟩) hSw ?_
  rotate_left
  · rintro w ⟨s0, s1, s2, s3, s4⟩; go_simp; try with_reducible rfl
  simp only [tkp, tkz, tks]
  refine tk 7 ?_ rfl rfl (by kernel_rfl) (.inl ⟨by rfl, ?_⟩) hSw ?_
  rotate_left
  · rintro w ⟨s0, s1, s2, s3, s4⟩; go_simp; try with_reducible rfl
  simp only [tkp, tkz, tks]
  refine tk 8 ?_ rfl rfl (by kernel_rfl) (.inl ⟨by rfl, ?_⟩) hSw ?_
  rotate_left
  · rintro w ⟨s0, s1, s2, s3, s4⟩; go_simp; try with_reducible rfl
  simp only [tkp, tkz, tks]
  refine tk 9 ?_ rfl rfl (by kernel_rfl) (.inl ⟨by rfl, ?_⟩) hSw ?_
  rotate_left
  · rintro w ⟨s0, s1, s2, s3, s4⟩; go_simp; try with_reducible rfl
  simp only [tkp, tkz, tks]
  refine tk 10 ?_ rfl rfl (by kernel_rfl) (.inl ⟨by rfl, ?_⟩) hSw ?_
  rotate_left
  · rintro w ⟨s0, s1, s2, s3, s4⟩; go_simp; try with_reducible rfl
  simp only [tkp, tkz, tks]
  refine tk 11 ?_ rfl rfl (by kernel_rfl) (.inl ⟨by rfl, ?_⟩) hSw ?_
  rotate_left
  · rintro w ⟨s0, s1, s2, s3, s4⟩; go_simp; try with_reducible rfl
  simp only [tkp, tkz, tks]
  refine tk 12 ?_ rfl rfl (by kernel_rfl) (.inl ⟨by rfl, ?_⟩) hSw ?_
  rotate_left
  · rintro w ⟨s0, s1, s2, s3, s4⟩; go_simp; try with_reducible rfl
  simp only [tkp, tkz, tks]
  refine tk 13 ?_ rfl rfl (by kernel_rfl) (.inl ⟨by rfl, ?_⟩) hSw ?_
  rotate_left
  · rintro w ⟨s0, s1, s2, s3, s4⟩; go_simp; try with_reducible rfl
  simp only [tkp, tkz, tks]
  refine tk 14 ?_ rfl rfl (by kernel_rfl) (.inl ⟨by rfl, ?_⟩) hSw ?_
  rotate_left
  · rintro w ⟨s0, s1, s2, s3, s4⟩; go_simp; try with_reducible rfl
  simp only [tkp, tkz, tks]
  refine tk 15 ?_ rfl rfl (by kernel_rfl) (.inl ⟨by rfl, ?_⟩) hSw ?_
  rotate_left
  · rintro w ⟨s0, s1, s2, s3, s4⟩; go_simp; try with_reducible rfl
  simp only [tkp, tkz, tks]
  refine tk 16 ?_ rfl rfl (by kernel_rfl) (.inl ⟨by rfl, ?_⟩) hSw ?_
  rotate_left
  · rintro w ⟨s0, s1, s2, s3, s4⟩; go_simp; try with_reducible rfl
  simp only [tkp, tkz, tks]
  refine tk 17 ?_ rfl rfl (by kernel_rfl) (.inl ⟨by rfl, ?_⟩) hSw ?_
  rotate_left
  · rintro w ⟨s0, s1, s2, s3, s4⟩; go_simp; try with_reducible rfl
  simp only [tkp, tkz, tks]
  refine tk 18 ?_ rfl rfl (by kernel_rfl) (.inl ⟨by rfl, ?_⟩) hSw ?_
  rotate_left
  · rintro w ⟨s0, s1, s2, s3, s4⟩; go_simp; try with_reducible rfl
  simp only [tkp, tkz, tks]
  refine tk 19 ?_ rfl rfl (by kernel_rfl) (.inl ⟨by rfl, ?_⟩) hSw ?_
  rotate_left
  · rintro w ⟨s0, s1, s2, s3, s4⟩; go_simp; try with_reducible rfl
  simp only [tkp, tkz, tks]
  refine tk 20 ?_ rfl rfl (by kernel_rfl) (.inl ⟨by rfl, ?_⟩) hSw ?_
  rotate_left
  · rintro w ⟨s0, s1, s2, s3, s4⟩; go_simp; try with_reducible rfl
  simp only [tkp, tkz, tks]
  refine tk 21 ?_ rfl rfl (by kernel_rfl) (.inl ⟨by rfl, ?_⟩) hSw ?_
  rotate_left
  · rintro w ⟨s0, s1, s2, s3, s4⟩; go_simp; try with_reducible rfl
  simp only [tkp, tkz, tks]
  refine tk 22 ?_ rfl rfl (by kernel_rfl) (.inl ⟨by rfl, ?_⟩) hSw ?_
  rotate_left
  · rintro w ⟨s0, s1, s2, s3, s4⟩; go_simp; try with_reducible rfl
  simp only [tkp, tkz, tks]
  refine tk 23 ?_ rfl rfl (by kernel_rfl) (.inl ⟨by rfl, ?_⟩) hSw ?_
  rotate_left
  · rintro w ⟨s0, s1, s2, s3, s4⟩; go_simp; try with_reducible rfl
  simp only [tkp, tkz, tks]
  refine tk 24 ?_ rfl rfl (by kernel_rfl) (.inl ⟨by rfl, ?_⟩) hSw ?_
  rotate_left
  · rintro w ⟨s0, s1, s2, s3, s4⟩; go_simp; try with_reducible rfl
  simp only [tkp, tkz, tks]
  refine tk 25 ?_ rfl rfl (by kernel_rfl) (.inl ⟨by rfl, ?_⟩) hSw ?_
  rotate_left
  · rintro w ⟨s0, s1, s2, s3, s4⟩; go_simp; try with_reducible rfl
  simp only [tkp, tkz, tks]
  refine tk 26 ?_ rfl rfl (by kernel_rfl) (.inl ⟨by rfl, ?_⟩) hSw ?_
  rotate_left
  · rintro w ⟨s0, s1, s2, s3, s4⟩; go_simp; try with_reducible rfl
  simp only [tkp, tkz, tks]
  refine tk 27 ?_ rfl rfl (by kernel_rfl) (.inl ⟨by rfl, ?_⟩) hSw ?_
  rotate_left
  · rintro w ⟨s0, s1, s2, s3, s4⟩; go_simp; try with_reducible rfl
  simp only [tkp, tkz, tks]
  refine tk 28 ?_ rfl rfl (by kernel_rfl) (.inl ⟨by rfl, ?_⟩) hSw ?_
  rotate_left
  · rintro w ⟨s0, s1, s2, s3, s4⟩; go_simp; try with_reducible rfl
  simp only [tkp, tkz, tks]
  refine tk 29 ?_ rfl rfl (by kernel_rfl) (.inl ⟨by rfl, ?_⟩) hSw ?_
  rotate_left
  · rintro w ⟨s0, s1, s2, s3, s4⟩; go_simp; try with_reducible rfl
  simp only [tkp, tkz, tks]
  refine tk 30 ?_ rfl rfl (by kernel_rfl) (.inl ⟨by rfl, ?_⟩) hSw ?_
  rotate_left
  · rintro w ⟨s0, s1, s2, s3, s4⟩; go_simp; try with_reducible rfl
  simp only [tkp, tkz, tks]
  refine tk 31 ?_ rfl rfl (by kernel_rfl) (.inl ⟨by rfl, ?_⟩) hSw ?_
  rotate_left
  · rintro w ⟨s0, s1, s2, s3, s4⟩; go_simp; try with_reducible rfl
  simp only [tkp, tkz, tks]
  refine tk 32 ?_ rfl rfl (by kernel_rfl) (.inl ⟨by rfl, ?_⟩) hSw ?_
  rotate_left
  · rintro w ⟨s0, s1, s2, s3, s4⟩; go_simp; try with_reducible rfl
  simp only [tkp, tkz, tks]
  refine tk 33 ?_ rfl rfl (by kernel_rfl) (.inl ⟨by rfl, ?_⟩) hSw ?_
  rotate_left
  · rintro w ⟨s0, s1, s2, s3, s4⟩; go_simp; try with_reducible rfl
  simp only [tkp, tkz, tks]
  refine tk 34 ?_ rfl rfl (by kernel_rfl) (.inl ⟨by rfl, ?_⟩) hSw ?_
  rotate_left
  · rintro w ⟨s0, s1, s2, s3, s4⟩; go_simp; try with_reducible rfl
  simp only [tkp, tkz, tks]
  refine tk 35 ?_ rfl rfl (by kernel_rfl) (.inl ⟨by rfl, ?_⟩) hSw ?_
  rotate_left
  · rintro w ⟨s0, s1, s2, s3, s4⟩; go_simp; try with_reducible rfl
  simp only [tkp, tkz, tks]
  refine tk 36 ?_ rfl rfl (by kernel_rfl) (.inl ⟨by rfl, ?_⟩) hSw ?_
  rotate_left
  · rintro w ⟨s0, s1, s2, s3, s4⟩; go_simp; try with_reducible rfl
  simp only [tkp, tkz, tks]
  refine tk 37 ?_ rfl rfl (by kernel_rfl) (.inl ⟨by rfl, ?_⟩) hSw ?_
  rotate_left
  · rintro w ⟨s0, s1, s2, s3, s4⟩; go_simp; try with_reducible rfl
  simp only [tkp, tkz, tks]
  refine tk 38 ?_ rfl rfl (by kernel_rfl) (.inl ⟨by rfl, ?_⟩) hSw ?_
  rotate_left
  · rintro w ⟨s0, s1, s2, s3, s4⟩; go_simp; try with_reducible rfl
  simp only [tkp, tkz, tks]
  refine N_one' (i := 39) (by kernel_rfl) rfl ?_
  go_wp2_with fail
  refine (say_c _ 0 0 1 ⟨#[97]⟩).mono ?_
  rintro e w16 ⟨rfl, b16⟩
  have b16 := below_trans (below_drewN w15 1) b16
  go_wp2_with fail
  refine QK_normal ⟨?_, ?_⟩
  · first | exact fun _ => hSB _ b16 | exact hSB _ b16
  refine N_rest 40 3 (by omega) rfl (by kernel_rfl) ?_
  simp only [List.drop_succ_cons, List.drop_zero]
  unfold M.val
  go_wp2_with fail
  rw [← hP.out]
  exact ⟨rfl, below_trans b15 b16⟩
end Go.Proofs.YtgifclphigpnhaaGreat
