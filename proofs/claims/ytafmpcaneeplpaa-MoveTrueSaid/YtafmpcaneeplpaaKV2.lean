/-
  Move: what must be in any case.
  MoveOnes, MoveWires: One and Wire answer just what the document says.
-/
import Derived.Test.YtafmpcaneeplpaaKR2
import Derived.Test.YtafmpcaneeplpaaKV
set_option maxRecDepth 100000
namespace Go.Proofs.Ytafmpcaneeplpaa
open Go.RowKit Go.Shelf Go.BigFrame

def aN00 : Ac := ⟨2, 0, 0, ⟨#[]⟩⟩
def XA2 : Wd := doneF (beginX 3 [3, 6]) [aA, aN00]
def XM1 : Wd := (moveF XA 0 1).2
def XM2 : Wd := (wireF XA2 0 1).2.2
theorem XM_1 : (moveF XA 0 1).1 = 0 := by decide +kernel
theorem XM_2 : (moveF XB0 0 1).1 = 7 := by decide +kernel
theorem XM_3 : (wireF XA2 0 1).1 = 0 ∧ (wireF XA2 0 1).2.1 = 2 := by decide +kernel
theorem XM_4 : (moveF XB0 0 3).1 = 4 := by decide +kernel
theorem XM1_n : XM1.nodes.length = 3 ∧ (XM1.nodes.getD 1 N.zero).clock = 1 ∧ (XM1.nodes.getD 1 N.zero).held.length = 1 ∧ (XM1.nodes.getD 1 N.zero).last.length = 2 ∧ ((XM1.nodes.getD 1 N.zero).last.getD 0 []).length = 3 ∧ ((XM1.nodes.getD 1 N.zero).last.getD 0 []).getD 0 0 = 1 := by decide +kernel
theorem XM2_n : XM2.nodes.length = 3 ∧ (XM2.nodes.getD 1 N.zero).clock = 2 := by decide +kernel

set_option maxHeartbeats 4000000 in
theorem moveBegun_c (w : World) : Calls Try.prog 39 #[] w (GivesB (.bool true) w) := by
  obtain ⟨P, hP⟩ : ∃ P, GivesB (.bool true) w = P := ⟨_, rfl⟩
  rw [hP]
  replace hP := Lib.hid hP
  go_enter Try.func39, Try.ntmps39
  go_wp2_with fail
  refine (act_c _ 1 0 0 ⟨#[97]⟩).mono ?_
  rintro e va1 ⟨rfl, ba1⟩
  unfold Ac.val
  have hl := Acts.lit va1 [aA] (by simp [Ac.fits, I64, aA]; decide) (by simp) #[.int .i64 1, .int .i64 0, .int .i64 0, .string ⟨#[97]⟩] rfl
  have hBg := begin_c hl (fun x hx h => by simp at hx; subst hx; cases h)
  rw [show doneF (beginX 3 [3, 6]) [aA] = XA from rfl] at hBg
  simp only [List.length_cons, List.length_nil, Nat.zero_add] at hBg
  have ba := below_trans ba1 (below_a1 va1 (.cells #[.int .i64 1, .int .i64 0, .int .i64 0, .string ⟨#[97]⟩] 64))
  go_wp2_with fail
  refine hBg.mono ?_
  rintro e w1 ⟨gv1, nv1, wv1, S1, rfl, hO1, hS1, b1⟩
  obtain ⟨pg, pn, pw⟩ := hO1.parts
  obtain ⟨_, ga1, gcap1, rfl, _⟩ := pg.open
  obtain ⟨_, na1, ncap1, rfl, _⟩ := pn.form
  obtain ⟨_, wa1, wcap1, rfl, _⟩ := pw.form
  clear pg pn pw
  have b1 := below_trans ba b1
  have hWB := hO1.world
  clear hBg hl ba ba1
  go_wp2_with fail
  refine (One_c hWB 0 1 (by simp [I64]) (by simp [I64])).mono ?_
  rintro e w2 ⟨gv2, nv2, wv2, S2, rfl, hO2, hS2, b2⟩
  obtain ⟨pg, pn, pw⟩ := hO2.parts
  obtain ⟨_, ga2, gcap2, rfl, _⟩ := pg.open
  obtain ⟨_, na2, ncap2, rfl, _⟩ := pn.form
  obtain ⟨_, wa2, wcap2, rfl, _⟩ := pw.form
  clear pg pn pw
  have hWC := hO2.world
  rw [XM_1]
  rw [show (moveF XA 0 1).2 = XM1 from rfl, XM1_n.1] at hWC ⊢
  have b2 := below_trans b1 b2
  have hR2 := OBox.new w2 26 (.slice ga2 XM1.groups.length gcap2) (.slice na2 3 ncap2) (.slice wa2 XM1.wires.length wcap2)
  have bx := below_a1 w2 (.cells #[.slice ga2 XM1.groups.length gcap2, .slice na2 3 ncap2, .slice wa2 XM1.wires.length wcap2] 26)
  go_upto_region 2 with fail
  generalize w2.alloc (.cells #[.slice ga2 XM1.groups.length gcap2, .slice na2 3 ncap2, .slice wa2 XM1.wires.length wcap2] 26) = w3 at *
  have hWC := hWC.below bx
  have b3 := below_trans b2 bx
  obtain ⟨B1, hB1⟩ : ∃ B, w2.heap.size = B := ⟨_, rfl⟩
  simp only [hB1] at hR2 ⊢
  clear hB1 hO1 hO2 hS1 hS2 b1 b2 bx hWB
  go_wp2_with fail
  refine (begin_c (Acts.nil _) (by simp)).mono ?_
  rintro e w4 ⟨gv4, nv4, wv4, S4, rfl, hO4, hS4, b4⟩
  obtain ⟨pg, pn, pw⟩ := hO4.parts
  obtain ⟨_, ga4, gcap4, rfl, _⟩ := pg.open
  obtain ⟨_, na4, ncap4, rfl, _⟩ := pn.form
  obtain ⟨_, wa4, wcap4, rfl, _⟩ := pw.form
  clear pg pn pw
  have hWB := hO4.world
  rw [show doneF (beginX 3 [3, 6]) [] = XB0 from rfl] at hWB ⊢
  go_wp2_with fail
  refine (One_c hWB 0 1 (by simp [I64]) (by simp [I64])).mono ?_
  rintro e w5 ⟨gv5, nv5, wv5, S5, rfl, hO5, hS5, b5⟩
  obtain ⟨pg, pn, pw⟩ := hO5.parts
  obtain ⟨_, ga5, gcap5, rfl, _⟩ := pg.open
  obtain ⟨_, na5, ncap5, rfl, _⟩ := pn.form
  obtain ⟨_, wa5, wcap5, rfl, _⟩ := pw.form
  clear pg pn pw
  rw [XM_2]
  have hb := below_trans (below_trans b4 b5) (below_a1 w5 (.cells #[.slice ga5 (moveF XB0 0 1).2.groups.length gcap5, .slice na5 (moveF XB0 0 1).2.nodes.length ncap5, .slice wa5 (moveF XB0 0 1).2.wires.length wcap5] 26))
  go_upto_region 3 with fail
  generalize w5.alloc (.cells #[.slice ga5 (moveF XB0 0 1).2.groups.length gcap5, .slice na5 (moveF XB0 0 1).2.nodes.length ncap5, .slice wa5 (moveF XB0 0 1).2.wires.length wcap5] 26) = w6 at *
  have hWC := hWC.below hb
  have hR2 := hR2.keep (hb.block _ hR2.lt)
  have b6 := below_trans b3 hb
  clear hO4 hO5 hS4 hS5 b4 b5 hWB hb b3
  go_wp2_with fail
  refine (act_c _ 1 0 0 ⟨#[97]⟩).mono ?_
  rintro e va1 ⟨rfl, ba1⟩
  go_wp2_with fail
  refine (act_c _ 2 0 0 ⟨#[]⟩).mono ?_
  rintro e va2 ⟨rfl, ba2⟩
  unfold Ac.val
  have hl := Acts.lit va2 [aA, aN00] (by simp [Ac.fits, I64, aA, aN00]; decide) (by simp) #[.int .i64 1, .int .i64 0, .int .i64 0, .string ⟨#[97]⟩, .int .i64 2, .int .i64 0, .int .i64 0, .string ⟨#[]⟩] rfl
  have hBg := begin_c hl (fun x hx h => by simp at hx; rcases hx with rfl | rfl <;> cases h)
  rw [show doneF (beginX 3 [3, 6]) [aA, aN00] = XA2 from rfl] at hBg
  simp only [List.length_cons, List.length_nil, Nat.zero_add, Nat.reduceAdd] at hBg
  have ba := below_trans (below_trans ba1 ba2) (below_a1 va2 (.cells #[.int .i64 1, .int .i64 0, .int .i64 0, .string ⟨#[97]⟩, .int .i64 2, .int .i64 0, .int .i64 0, .string ⟨#[]⟩] 64))
  go_wp2_with fail
  refine hBg.mono ?_
  rintro e w7 ⟨gv7, nv7, wv7, S7, rfl, hO7, hS7, b7⟩
  obtain ⟨pg, pn, pw⟩ := hO7.parts
  obtain ⟨_, ga7, gcap7, rfl, _⟩ := pg.open
  obtain ⟨_, na7, ncap7, rfl, _⟩ := pn.form
  obtain ⟨_, wa7, wcap7, rfl, _⟩ := pw.form
  clear pg pn pw
  have b7 := below_trans ba b7
  have hWB := hO7.world
  clear hBg hl ba ba1 ba2
  go_wp2_with fail
  refine (Wire_c hWB 0 1 (by simp [I64]) (by simp [I64])).mono ?_
  rintro e w8 ⟨gv8, nv8, wv8, S8, rfl, hO8, hS8, b8⟩
  obtain ⟨pg, pn, pw⟩ := hO8.parts
  obtain ⟨_, ga8, gcap8, rfl, _⟩ := pg.open
  obtain ⟨_, na8, ncap8, rfl, _⟩ := pn.form
  obtain ⟨_, wa8, wcap8, rfl, _⟩ := pw.form
  clear pg pn pw
  have hWD := hO8.world
  rw [XM_3.1, XM_3.2]
  rw [show (wireF XA2 0 1).2.2 = XM2 from rfl, XM2_n.1] at hWD ⊢
  have hR4 := OBox.new w8 26 (.slice ga8 XM2.groups.length gcap8) (.slice na8 3 ncap8) (.slice wa8 XM2.wires.length wcap8)
  have bx := below_a1 w8 (.cells #[.slice ga8 XM2.groups.length gcap8, .slice na8 3 ncap8, .slice wa8 XM2.wires.length wcap8] 26)
  go_upto_region 4 with fail
  generalize w8.alloc (.cells #[.slice ga8 XM2.groups.length gcap8, .slice na8 3 ncap8, .slice wa8 XM2.wires.length wcap8] 26) = w9 at *
  have hWD := hWD.below bx
  have hb := below_trans (below_trans b7 b8) bx
  have hWC := hWC.below hb
  have hR2 := hR2.keep (hb.block _ hR2.lt)
  have b9 := below_trans b6 hb
  obtain ⟨B2, hB2⟩ : ∃ B, w8.heap.size = B := ⟨_, rfl⟩
  simp only [hB2] at hR4 ⊢
  clear hB2 hO7 hO8 hS7 hS8 b7 b8 bx hWB hb b6
  go_wp2_with fail
  refine (begin_c (Acts.nil _) (by simp)).mono ?_
  rintro e w10 ⟨gv10, nv10, wv10, S10, rfl, hO10, hS10, b10⟩
  obtain ⟨pg, pn, pw⟩ := hO10.parts
  obtain ⟨_, ga10, gcap10, rfl, _⟩ := pg.open
  obtain ⟨_, na10, ncap10, rfl, _⟩ := pn.form
  obtain ⟨_, wa10, wcap10, rfl, _⟩ := pw.form
  clear pg pn pw
  have hWB := hO10.world
  rw [show doneF (beginX 3 [3, 6]) [] = XB0 from rfl] at hWB ⊢
  go_wp2_with fail
  refine (One_c hWB 0 3 (by simp [I64]) (by simp [I64])).mono ?_
  rintro e w11 ⟨gv11, nv11, wv11, S11, rfl, hO11, hS11, b11⟩
  obtain ⟨pg, pn, pw⟩ := hO11.parts
  obtain ⟨_, ga11, gcap11, rfl, _⟩ := pg.open
  obtain ⟨_, na11, ncap11, rfl, _⟩ := pn.form
  obtain ⟨_, wa11, wcap11, rfl, _⟩ := pw.form
  clear pg pn pw
  rw [XM_4]
  have hb := below_trans (below_trans b10 b11) (below_a1 w11 (.cells #[.slice ga11 (moveF XB0 0 3).2.groups.length gcap11, .slice na11 (moveF XB0 0 3).2.nodes.length ncap11, .slice wa11 (moveF XB0 0 3).2.wires.length wcap11] 26))
  replace hWC := hWC.below hb
  replace hWD := hWD.below hb
  replace hR2 := hR2.keep (hb.block _ hR2.lt)
  replace hR4 := hR4.keep (hb.block _ hR4.lt)
  have bz := below_trans b9 hb
  clear hO10 hO11 hS10 hS11 b10 b11 hWB hb
  obtain ⟨_, r0, r1, r2⟩ := hR2
  obtain ⟨_, s0, s1, s2⟩ := hR4
  obtain ⟨_, _, _, e0, _, pn, _⟩ := hWC
  cases e0
  obtain ⟨bn, on, cn, lv, hv, tv, e1, hcn, kn0, kn1, kn2, kn3, _, hln, hhn, htn⟩ := pn.at (n := 1) (by rw [XM1_n.1]; omega)
  rw [XM1_n.1] at e1
  cases e1
  rw [XM1_n.2.1] at kn0
  obtain ⟨_, ha, hcap, rfl, _⟩ := hhn.open
  rw [XM1_n.2.2.1] at kn2
  obtain ⟨lb, lo, lc, u, rfl, _, kl, hrl⟩ := hln.at (a := 0) (by rw [XM1_n.2.2.2.1]; omega)
  rw [XM1_n.2.2.2.1] at kn1
  obtain ⟨_, ra, rcap, rfl, _, hrc⟩ := hrl.open
  obtain ⟨rb, ro, rfl, hrd⟩ := hrc (by intro e; have := XM1_n.2.2.2.2.1; rw [e] at this; simp at this)
  have kr := hrd 0 (by rw [XM1_n.2.2.2.2.1]; omega)
  rw [XM1_n.2.2.2.2.2] at kr
  rw [XM1_n.2.2.2.2.1] at kl
  obtain ⟨_, _, _, e0, _, pn', _⟩ := hWD
  cases e0
  obtain ⟨bn', on', cn', lv', hv', tv', e1, hcn', jn0, _⟩ := pn'.at (n := 1) (by rw [XM2_n.1]; omega)
  rw [XM2_n.1] at e1
  cases e1
  rw [XM2_n.2] at jn0
  clear hrc hrd hrl hln hhn htn pn pn' kn3
  simp only [Nat.one_mul, Nat.add_zero] at kn0 kn1 kn2 kl kr jn0
  go_wp2_with fail
  rw [← hP.out]
  exact ⟨rfl, bz⟩
end Go.Proofs.Ytafmpcaneeplpaa

set_option maxRecDepth 100000
namespace Go.Proofs.Ytafmpcaneeplpaa
open Go.RowKit Go.Shelf Go.BigFrame

set_option maxHeartbeats 1000000 in
theorem MoveOnes_walk_of (w : World) {v : Value} {X : Wd} {a b : Int} (hW : WorldAt w v X) (ha64 : I64 a) (hb64 : I64 b) :
    Calls Try.prog 12 #[v, .int .i64 a, .int .i64 b] w (GivesB (.bool true) w) := by
  have hW0 := hW
  obtain ⟨gv, nv, wv, rfl, hg, hn, hw⟩ := hW
  obtain ⟨_, na, ncap, rfl, _⟩ := hn.form
  obtain ⟨_, ga, gcap, rfl, _⟩ := hg.open
  obtain ⟨_, wa, wcap, rfl, _⟩ := hw.form
  clear hg hn hw
  have hB := OBox.new w 26 (.slice ga X.groups.length gcap) (.slice na X.nodes.length ncap) (.slice wa X.wires.length wcap)
  have b1 := below_a1 w (.cells #[.slice ga X.groups.length gcap, .slice na X.nodes.length ncap, .slice wa X.wires.length wcap] 26)
  have hP1 := One_c (hW0.below b1) a b ha64 hb64
  have hP2 := fun o (h : Below w.heap.size w o) => MoveOf_c (hW0.below h) a b
  generalize moveF X a b = r at *
  replace hP2 := Lib.hid hP2
  go_enter Try.func12, Try.ntmps12
  go_upto_region 1 with fail
  generalize w.alloc (.cells #[.slice ga X.groups.length gcap, .slice na X.nodes.length ncap, .slice wa X.wires.length wcap] 26) = w1 at *
  obtain ⟨_, x0, x1, x2⟩ := id hB
  go_wp2_with fail
  refine hP1.mono ?_
  rintro e w2 ⟨gv2, nv2, wv2, S2, rfl, hO2, hS2, b2⟩
  obtain ⟨pg, pn, pw⟩ := hO2.parts
  obtain ⟨_, ga2, gcap2, rfl, _⟩ := pg.open
  obtain ⟨_, na2, ncap2, rfl, _⟩ := pn.form
  obtain ⟨_, wa2, wcap2, rfl, _⟩ := pw.form
  clear pg pn pw
  have hR2 := OBox.new w2 26 (.slice ga2 r.2.groups.length gcap2) (.slice na2 r.2.nodes.length ncap2) (.slice wa2 r.2.wires.length wcap2)
  have bx2 := below_a1 w2 (.cells #[.slice ga2 r.2.groups.length gcap2, .slice na2 r.2.nodes.length ncap2, .slice wa2 r.2.wires.length wcap2] 26)
  have hW2 := hO2.world.below bx2
  go_upto_region 2 with fail
  generalize w2.alloc (.cells #[.slice ga2 r.2.groups.length gcap2, .slice na2 r.2.nodes.length ncap2, .slice wa2 r.2.wires.length wcap2] 26) = w3 at *
  obtain ⟨B2, hB2⟩ : ∃ B, w2.heap.size = B := ⟨_, rfl⟩
  simp only [hB2] at hR2 ⊢
  clear hB2 x0 x1 x2
  have b23 := below_trans b2 bx2
  have hB3 := hB.keep (b23.block _ hB.lt)
  have b3 := below_trans b1 b23
  clear hO2 hS2 b23 bx2 b2 hB b1 hP1
  obtain ⟨_, x0, x1, x2⟩ := id hB3
  go_wp2_with fail
  refine (hP2.out w3 b3).mono ?_
  rintro e w4 ⟨gv4, nv4, wv4, S4, rfl, hO4, hS4, b4⟩
  obtain ⟨pg, pn, pw⟩ := hO4.parts
  obtain ⟨_, ga4, gcap4, rfl, _⟩ := pg.open
  obtain ⟨_, na4, ncap4, rfl, _⟩ := pn.form
  obtain ⟨_, wa4, wcap4, rfl, _⟩ := pw.form
  clear pg pn pw
  have hR4 := OBox.new w4 26 (.slice ga4 r.2.groups.length gcap4) (.slice na4 r.2.nodes.length ncap4) (.slice wa4 r.2.wires.length wcap4)
  have bx4 := below_a1 w4 (.cells #[.slice ga4 r.2.groups.length gcap4, .slice na4 r.2.nodes.length ncap4, .slice wa4 r.2.wires.length wcap4] 26)
  have hW4 := hO4.world.below bx4
  clear x0 x1 x2
  go_upto_region 3 with fail
  generalize w4.alloc (.cells #[.slice ga4 r.2.groups.length gcap4, .slice na4 r.2.nodes.length ncap4, .slice wa4 r.2.wires.length wcap4] 26) = w5 at *
  obtain ⟨B4, hB4⟩ : ∃ B, w4.heap.size = B := ⟨_, rfl⟩
  simp only [hB4] at hR4 ⊢
  clear hB4
  have b45 := below_trans b4 bx4
  have hR3 := hR2.keep (b45.block _ hR2.lt)
  have hW3 := hW2.below b45
  have b5 := below_trans b3 b45
  clear hO4 hS4 b45 bx4 b4 hR2 hW2 hP2
  go_wp2_with fail
  refine (moveBegun_c w5).mono ?_
  rintro e w6 ⟨rfl, b6⟩
  have hR6 := hR3.keep (b6.block _ hR3.lt)
  have hR7 := hR4.keep (b6.block _ hR4.lt)
  have hS := SameWorlds_c (hW3.below b6) (hW4.below b6)
  obtain ⟨_, r0, r1, r2⟩ := id hR6
  obtain ⟨_, s0, s1, s2⟩ := id hR7
  go_wp2_with fail
  refine hS.mono ?_
  rintro e w8 ⟨rfl, b8⟩
  go_wp2_with fail
  go_ret
  exact ⟨ret_bool (by simp), below_trans (below_trans b5 b6) b8⟩

set_option maxHeartbeats 1000000 in
theorem MoveWires_walk_of (w : World) {v : Value} {X : Wd} {a b : Int} (hW : WorldAt w v X) (ha64 : I64 a) (hb64 : I64 b) :
    Calls Try.prog 13 #[v, .int .i64 a, .int .i64 b] w (GivesB (.bool true) w) := by
  have hW0 := hW
  obtain ⟨gv, nv, wv, rfl, hg, hn, hw⟩ := hW
  obtain ⟨_, na, ncap, rfl, _⟩ := hn.form
  obtain ⟨_, ga, gcap, rfl, _⟩ := hg.open
  obtain ⟨_, wa, wcap, rfl, _⟩ := hw.form
  clear hg hn hw
  have hB := OBox.new w 26 (.slice ga X.groups.length gcap) (.slice na X.nodes.length ncap) (.slice wa X.wires.length wcap)
  have b1 := below_a1 w (.cells #[.slice ga X.groups.length gcap, .slice na X.nodes.length ncap, .slice wa X.wires.length wcap] 26)
  have hP1 := Wire_c (hW0.below b1) a b ha64 hb64
  have hP2 := fun o (h : Below w.heap.size w o) => WireOf_c (hW0.below h) a b
  generalize wireF X a b = r at *
  replace hP2 := Lib.hid hP2
  go_enter Try.func13, Try.ntmps13
  go_upto_region 1 with fail
  generalize w.alloc (.cells #[.slice ga X.groups.length gcap, .slice na X.nodes.length ncap, .slice wa X.wires.length wcap] 26) = w1 at *
  obtain ⟨_, x0, x1, x2⟩ := id hB
  go_wp2_with fail
  refine hP1.mono ?_
  rintro e w2 ⟨gv2, nv2, wv2, S2, rfl, hO2, hS2, b2⟩
  obtain ⟨pg, pn, pw⟩ := hO2.parts
  obtain ⟨_, ga2, gcap2, rfl, _⟩ := pg.open
  obtain ⟨_, na2, ncap2, rfl, _⟩ := pn.form
  obtain ⟨_, wa2, wcap2, rfl, _⟩ := pw.form
  clear pg pn pw
  have hR2 := OBox.new w2 26 (.slice ga2 r.2.2.groups.length gcap2) (.slice na2 r.2.2.nodes.length ncap2) (.slice wa2 r.2.2.wires.length wcap2)
  have bx2 := below_a1 w2 (.cells #[.slice ga2 r.2.2.groups.length gcap2, .slice na2 r.2.2.nodes.length ncap2, .slice wa2 r.2.2.wires.length wcap2] 26)
  have hW2 := hO2.world.below bx2
  go_upto_region 2 with fail
  generalize w2.alloc (.cells #[.slice ga2 r.2.2.groups.length gcap2, .slice na2 r.2.2.nodes.length ncap2, .slice wa2 r.2.2.wires.length wcap2] 26) = w3 at *
  obtain ⟨B2, hB2⟩ : ∃ B, w2.heap.size = B := ⟨_, rfl⟩
  simp only [hB2] at hR2 ⊢
  clear hB2 x0 x1 x2
  have b23 := below_trans b2 bx2
  have hB3 := hB.keep (b23.block _ hB.lt)
  have b3 := below_trans b1 b23
  clear hO2 hS2 b23 bx2 b2 hB b1 hP1
  obtain ⟨_, x0, x1, x2⟩ := id hB3
  go_wp2_with fail
  refine (hP2.out w3 b3).mono ?_
  rintro e w4 ⟨gv4, nv4, wv4, S4, rfl, hO4, hS4, b4⟩
  obtain ⟨pg, pn, pw⟩ := hO4.parts
  obtain ⟨_, ga4, gcap4, rfl, _⟩ := pg.open
  obtain ⟨_, na4, ncap4, rfl, _⟩ := pn.form
  obtain ⟨_, wa4, wcap4, rfl, _⟩ := pw.form
  clear pg pn pw
  have hR4 := OBox.new w4 26 (.slice ga4 r.2.2.groups.length gcap4) (.slice na4 r.2.2.nodes.length ncap4) (.slice wa4 r.2.2.wires.length wcap4)
  have bx4 := below_a1 w4 (.cells #[.slice ga4 r.2.2.groups.length gcap4, .slice na4 r.2.2.nodes.length ncap4, .slice wa4 r.2.2.wires.length wcap4] 26)
  have hW4 := hO4.world.below bx4
  clear x0 x1 x2
  go_upto_region 3 with fail
  generalize w4.alloc (.cells #[.slice ga4 r.2.2.groups.length gcap4, .slice na4 r.2.2.nodes.length ncap4, .slice wa4 r.2.2.wires.length wcap4] 26) = w5 at *
  obtain ⟨B4, hB4⟩ : ∃ B, w4.heap.size = B := ⟨_, rfl⟩
  simp only [hB4] at hR4 ⊢
  clear hB4
  have b45 := below_trans b4 bx4
  have hR3 := hR2.keep (b45.block _ hR2.lt)
  have hW3 := hW2.below b45
  have b5 := below_trans b3 b45
  clear hO4 hS4 b45 bx4 b4 hR2 hW2 hP2
  go_wp2_with fail
  refine (moveBegun_c w5).mono ?_
  rintro e w6 ⟨rfl, b6⟩
  have hR6 := hR3.keep (b6.block _ hR3.lt)
  have hR7 := hR4.keep (b6.block _ hR4.lt)
  have hS := SameWorlds_c (hW3.below b6) (hW4.below b6)
  obtain ⟨_, r0, r1, r2⟩ := id hR6
  obtain ⟨_, s0, s1, s2⟩ := id hR7
  go_wp2_with fail
  refine hS.mono ?_
  rintro e w8 ⟨rfl, b8⟩
  go_wp2_with fail
  go_ret
  exact ⟨ret_bool (by simp), below_trans (below_trans b5 b6) b8⟩
end Go.Proofs.Ytafmpcaneeplpaa
