/-
  Cast: what must be in any case.
  CastSends, CastNulls: Send and Null answer just what the document says.
-/
import Derived.Test.YtafmpcaneeplpaaKR
import Derived.Test.YtafmpcaneeplpaaWBg
set_option maxRecDepth 100000
namespace Go.Proofs.Ytafmpcaneeplpaa
open Go.RowKit Go.Shelf Go.BigFrame

theorem Acts.nil (w : World) : Acts w (.slice none 0 0) [] := ⟨[], rfl, by simp, ⟨by simp, by simp, none, 0, rfl, Nat.le_refl _, fun h => absurd rfl h⟩, fun i h => absurd h (Nat.not_lt_zero _)⟩
def XB0 : Wd := doneF (beginX 3 [3, 6]) []
def XC1 : Wd := (castF XB0 1 0 false ⟨#[104, 105]⟩).2
def XC2 : Wd := (castF XC1 1 1 true ByteArray.empty).2
theorem XC_1 : (castF XB0 1 0 false ⟨#[104, 105]⟩).1 = 0 := by decide +kernel
theorem XC_2 : (castF XC1 1 1 true ByteArray.empty).1 = 0 := by decide +kernel
theorem XC_3 : (castF XB0 0 1 false ⟨#[104, 105]⟩).1 = 5 := by decide +kernel
theorem XC_4 : (castF XB0 0 2 false ⟨#[104, 105]⟩).1 = 4 := by decide +kernel
theorem XC_5 : (castF XB0 1 0 false ⟨#[49, 50, 51, 52, 53, 54, 55, 56, 57]⟩).1 = 1 := by decide +kernel
theorem XC1_n : XC1.nodes.length = 3 ∧ (XC1.nodes.getD 1 N.zero).clock = 1 ∧ (XC1.nodes.getD 1 N.zero).held.length = 1 ∧ XC1.wires.length = 3 ∧ (XC1.wires.getD 1 []).length = 3 ∧ ((XC1.wires.getD 1 []).getD 0 []).length = 1 ∧ ((XC1.wires.getD 1 []).getD 2 []).length = 0 := by decide +kernel
theorem XC2_n : XC2.wires.length = 3 ∧ (XC2.wires.getD 1 []).length = 3 ∧ ((XC2.wires.getD 1 []).getD 2 []).length = 1 ∧ (((XC2.wires.getD 1 []).getD 2 []).getD 0 M.zero).null = true ∧ (((XC2.wires.getD 1 []).getD 2 []).getD 0 M.zero).stamp = 2 := by decide +kernel

set_option maxHeartbeats 4000000 in
theorem castBegun_c (w : World) : Calls Try.prog 34 #[] w (GivesB (.bool true) w) := by
  obtain ⟨P, hP⟩ : ∃ P, GivesB (.bool true) w = P := ⟨_, rfl⟩
  rw [hP]
  replace hP := Lib.hid hP
  go_enter Try.func34, Try.ntmps34
  go_wp2_with fail
  refine (begin_c (Acts.nil _) (by simp)).mono ?_
  rintro e w1 ⟨gv1, nv1, wv1, S1, rfl, hO1, hS1, b1⟩
  obtain ⟨pg, pn, pw⟩ := hO1.parts
  obtain ⟨_, ga1, gcap1, rfl, _⟩ := pg.open
  obtain ⟨_, na1, ncap1, rfl, _⟩ := pn.form
  obtain ⟨_, wa1, wcap1, rfl, _⟩ := pw.form
  clear pg pn pw
  have hWB := hO1.world
  rw [show doneF (beginX 3 [3, 6]) [] = XB0 from rfl] at hWB ⊢
  go_wp2_with fail
  refine (Send_c hWB 1 0 ⟨#[104, 105]⟩ (by simp [I64]) (by simp [I64]) (by decide)).mono ?_
  rintro e w2 ⟨gv2, nv2, wv2, S2, rfl, hO2, hS2, b2⟩
  obtain ⟨pg, pn, pw⟩ := hO2.parts
  obtain ⟨_, ga2, gcap2, rfl, _⟩ := pg.open
  obtain ⟨_, na2, ncap2, rfl, _⟩ := pn.form
  obtain ⟨_, wa2, wcap2, rfl, _⟩ := pw.form
  clear pg pn pw
  have hWC := hO2.world
  rw [XC_1]
  rw [show (castF XB0 1 0 false ⟨#[104, 105]⟩).2 = XC1 from rfl, XC1_n.1, XC1_n.2.2.2.1] at hWC ⊢
  have b2 := below_trans b1 b2
  have hR2 := OBox.new w2 26 (.slice ga2 XC1.groups.length gcap2) (.slice na2 3 ncap2) (.slice wa2 3 wcap2)
  have bx := below_a1 w2 (.cells #[.slice ga2 XC1.groups.length gcap2, .slice na2 3 ncap2, .slice wa2 3 wcap2] 26)
  go_upto_region 2 with fail
  generalize w2.alloc (.cells #[.slice ga2 XC1.groups.length gcap2, .slice na2 3 ncap2, .slice wa2 3 wcap2] 26) = w3 at *
  have hWC := hWC.below bx
  have b3 := below_trans b2 bx
  obtain ⟨B1, hB1⟩ : ∃ B, w2.heap.size = B := ⟨_, rfl⟩
  simp only [hB1] at hR2 ⊢
  clear hB1 hO1 hO2 hS1 hS2 b1 b2 bx hWB
  obtain ⟨_, r0, r1, r2⟩ := id hR2
  go_wp2_with fail
  refine (Null_c hWC 1 1 (by simp [I64]) (by simp [I64])).mono ?_
  rintro e w4 ⟨gv4, nv4, wv4, S4, rfl, hO4, hS4, b4⟩
  obtain ⟨pg, pn, pw⟩ := hO4.parts
  obtain ⟨_, ga4, gcap4, rfl, _⟩ := pg.open
  obtain ⟨_, na4, ncap4, rfl, _⟩ := pn.form
  obtain ⟨_, wa4, wcap4, rfl, _⟩ := pw.form
  clear pg pn pw
  have hWD := hO4.world
  rw [XC_2]
  rw [show (castF XC1 1 1 true ByteArray.empty).2 = XC2 from rfl, XC2_n.1] at hWD ⊢
  have hR4 := OBox.new w4 26 (.slice ga4 XC2.groups.length gcap4) (.slice na4 XC2.nodes.length ncap4) (.slice wa4 3 wcap4)
  have bx := below_a1 w4 (.cells #[.slice ga4 XC2.groups.length gcap4, .slice na4 XC2.nodes.length ncap4, .slice wa4 3 wcap4] 26)
  clear r0 r1 r2
  go_upto_region 3 with fail
  generalize w4.alloc (.cells #[.slice ga4 XC2.groups.length gcap4, .slice na4 XC2.nodes.length ncap4, .slice wa4 3 wcap4] 26) = w5 at *
  have b45 := below_trans b4 bx
  have hWC := hWC.below b45
  have hWD := hWD.below bx
  have hR2 := hR2.keep (b45.block _ hR2.lt)
  have b5 := below_trans b3 b45
  obtain ⟨B2, hB2⟩ : ∃ B, w4.heap.size = B := ⟨_, rfl⟩
  simp only [hB2] at hR4 ⊢
  clear hB2 hO4 hS4 b4 bx b45 b3
  go_wp2_with fail
  refine (begin_c (Acts.nil _) (by simp)).mono ?_
  rintro e w6 ⟨gv6, nv6, wv6, S6, rfl, hO6, hS6, b6⟩
  obtain ⟨pg, pn, pw⟩ := hO6.parts
  obtain ⟨_, ga6, gcap6, rfl, _⟩ := pg.open
  obtain ⟨_, na6, ncap6, rfl, _⟩ := pn.form
  obtain ⟨_, wa6, wcap6, rfl, _⟩ := pw.form
  clear pg pn pw
  have hWB := hO6.world
  rw [show doneF (beginX 3 [3, 6]) [] = XB0 from rfl] at hWB ⊢
  go_wp2_with fail
  refine (Send_c hWB 0 1 ⟨#[104, 105]⟩ (by simp [I64]) (by simp [I64]) (by decide)).mono ?_
  rintro e w7 ⟨gv7, nv7, wv7, S7, rfl, hO7, hS7, b7⟩
  obtain ⟨pg, pn, pw⟩ := hO7.parts
  obtain ⟨_, ga7, gcap7, rfl, _⟩ := pg.open
  obtain ⟨_, na7, ncap7, rfl, _⟩ := pn.form
  obtain ⟨_, wa7, wcap7, rfl, _⟩ := pw.form
  clear pg pn pw
  rw [XC_3]
  have hb := below_trans (below_trans b6 b7) (below_a1 w7 (.cells #[.slice ga7 (castF XB0 0 1 false ⟨#[104, 105]⟩).snd.groups.length gcap7, .slice na7 (castF XB0 0 1 false ⟨#[104, 105]⟩).snd.nodes.length ncap7, .slice wa7 (castF XB0 0 1 false ⟨#[104, 105]⟩).snd.wires.length wcap7] 26))
  go_upto_region 4 with fail
  generalize w7.alloc (.cells #[.slice ga7 (castF XB0 0 1 false ⟨#[104, 105]⟩).snd.groups.length gcap7, .slice na7 (castF XB0 0 1 false ⟨#[104, 105]⟩).snd.nodes.length ncap7, .slice wa7 (castF XB0 0 1 false ⟨#[104, 105]⟩).snd.wires.length wcap7] 26) = w8 at *
  have hWC := hWC.below hb
  have hWD := hWD.below hb
  have hR2 := hR2.keep (hb.block _ hR2.lt)
  have hR4 := hR4.keep (hb.block _ hR4.lt)
  have b8 := below_trans b5 hb
  clear hO6 hO7 hS6 hS7 b6 b7 hWB hb
  go_wp2_with fail
  refine (begin_c (Acts.nil _) (by simp)).mono ?_
  rintro e w9 ⟨gv9, nv9, wv9, S9, rfl, hO9, hS9, b9⟩
  obtain ⟨pg, pn, pw⟩ := hO9.parts
  obtain ⟨_, ga9, gcap9, rfl, _⟩ := pg.open
  obtain ⟨_, na9, ncap9, rfl, _⟩ := pn.form
  obtain ⟨_, wa9, wcap9, rfl, _⟩ := pw.form
  clear pg pn pw
  have hWB := hO9.world
  rw [show doneF (beginX 3 [3, 6]) [] = XB0 from rfl] at hWB ⊢
  go_wp2_with fail
  refine (Send_c hWB 0 2 ⟨#[104, 105]⟩ (by simp [I64]) (by simp [I64]) (by decide)).mono ?_
  rintro e w10 ⟨gv10, nv10, wv10, S10, rfl, hO10, hS10, b10⟩
  obtain ⟨pg, pn, pw⟩ := hO10.parts
  obtain ⟨_, ga10, gcap10, rfl, _⟩ := pg.open
  obtain ⟨_, na10, ncap10, rfl, _⟩ := pn.form
  obtain ⟨_, wa10, wcap10, rfl, _⟩ := pw.form
  clear pg pn pw
  rw [XC_4]
  have hb := below_trans (below_trans b9 b10) (below_a1 w10 (.cells #[.slice ga10 (castF XB0 0 2 false ⟨#[104, 105]⟩).snd.groups.length gcap10, .slice na10 (castF XB0 0 2 false ⟨#[104, 105]⟩).snd.nodes.length ncap10, .slice wa10 (castF XB0 0 2 false ⟨#[104, 105]⟩).snd.wires.length wcap10] 26))
  go_upto_region 5 with fail
  generalize w10.alloc (.cells #[.slice ga10 (castF XB0 0 2 false ⟨#[104, 105]⟩).snd.groups.length gcap10, .slice na10 (castF XB0 0 2 false ⟨#[104, 105]⟩).snd.nodes.length ncap10, .slice wa10 (castF XB0 0 2 false ⟨#[104, 105]⟩).snd.wires.length wcap10] 26) = w11 at *
  have hWC := hWC.below hb
  have hWD := hWD.below hb
  have hR2 := hR2.keep (hb.block _ hR2.lt)
  have hR4 := hR4.keep (hb.block _ hR4.lt)
  have b11 := below_trans b8 hb
  clear hO9 hO10 hS9 hS10 b9 b10 hWB hb
  go_wp2_with fail
  refine (begin_c (Acts.nil _) (by simp)).mono ?_
  rintro e w12 ⟨gv12, nv12, wv12, S12, rfl, hO12, hS12, b12⟩
  obtain ⟨pg, pn, pw⟩ := hO12.parts
  obtain ⟨_, ga12, gcap12, rfl, _⟩ := pg.open
  obtain ⟨_, na12, ncap12, rfl, _⟩ := pn.form
  obtain ⟨_, wa12, wcap12, rfl, _⟩ := pw.form
  clear pg pn pw
  have hWB := hO12.world
  rw [show doneF (beginX 3 [3, 6]) [] = XB0 from rfl] at hWB ⊢
  go_wp2_with fail
  refine (Send_c hWB 1 0 ⟨#[49, 50, 51, 52, 53, 54, 55, 56, 57]⟩ (by simp [I64]) (by simp [I64]) (by decide)).mono ?_
  rintro e w13 ⟨gv13, nv13, wv13, S13, rfl, hO13, hS13, b13⟩
  obtain ⟨pg, pn, pw⟩ := hO13.parts
  obtain ⟨_, ga13, gcap13, rfl, _⟩ := pg.open
  obtain ⟨_, na13, ncap13, rfl, _⟩ := pn.form
  obtain ⟨_, wa13, wcap13, rfl, _⟩ := pw.form
  clear pg pn pw
  rw [XC_5]
  have hb := below_trans (below_trans b12 b13) (below_a1 w13 (.cells #[.slice ga13 (castF XB0 1 0 false ⟨#[49, 50, 51, 52, 53, 54, 55, 56, 57]⟩).snd.groups.length gcap13, .slice na13 (castF XB0 1 0 false ⟨#[49, 50, 51, 52, 53, 54, 55, 56, 57]⟩).snd.nodes.length ncap13, .slice wa13 (castF XB0 1 0 false ⟨#[49, 50, 51, 52, 53, 54, 55, 56, 57]⟩).snd.wires.length wcap13] 26))
  replace hWC := hWC.below hb
  replace hWD := hWD.below hb
  replace hR2 := hR2.keep (hb.block _ hR2.lt)
  replace hR4 := hR4.keep (hb.block _ hR4.lt)
  have bz := below_trans b11 hb
  clear hO12 hO13 hS12 hS13 b12 b13 hWB hb
  obtain ⟨_, r0, r1, r2⟩ := hR2
  obtain ⟨_, s0, s1, s2⟩ := hR4
  obtain ⟨_, _, _, e0, _, pn, pw⟩ := hWC
  cases e0
  obtain ⟨bn, on, cn, lv, hv, tv, e1, hcn, kn0, _, kn2, kn3, _, _, hhn, htn⟩ := pn.at (n := 1) (by rw [XC1_n.1]; omega)
  rw [XC1_n.1] at e1
  cases e1
  rw [XC1_n.2.1] at kn0
  obtain ⟨_, ha, hcap, rfl, _⟩ := hhn.open
  rw [XC1_n.2.2.1] at kn2
  obtain ⟨wb, wo, wc, u, e1, _, kw, hrw⟩ := pw.row (a := 1) (by rw [XC1_n.2.2.2.1]; omega)
  rw [XC1_n.2.2.2.1] at e1
  cases e1
  obtain ⟨rb, ro, rc, u0, rfl, _, kr0, hm0⟩ := hrw.at (a := 0) (by rw [XC1_n.2.2.2.2.1]; omega)
  obtain ⟨_, _, _, u2, e1, _, kr2, hm2⟩ := hrw.at (a := 2) (by rw [XC1_n.2.2.2.2.1]; omega)
  cases e1
  rw [XC1_n.2.2.2.2.1] at kw
  obtain ⟨_, ma0, mc0, rfl, _⟩ := hm0.open
  obtain ⟨_, ma2, mc2, rfl, _⟩ := hm2.open
  rw [XC1_n.2.2.2.2.2.1] at kr0
  rw [XC1_n.2.2.2.2.2.2] at kr2
  obtain ⟨_, _, _, e0, _, _, pw'⟩ := hWD
  cases e0
  obtain ⟨yb, yo, yc, u', e1, _, ky, hry⟩ := pw'.row (a := 1) (by rw [XC2_n.1]; omega)
  rw [XC2_n.1] at e1
  cases e1
  obtain ⟨zb, zo, zc, u3, rfl, _, kz, hm3⟩ := hry.at (a := 2) (by rw [XC2_n.2.1]; omega)
  rw [XC2_n.2.1] at ky
  obtain ⟨_, ma3, mc3, rfl, _, hm4⟩ := hm3.open
  obtain ⟨ub, uo, rfl, hm5⟩ := hm4 (by intro e; have := XC2_n.2.2.1; rw [e] at this; simp at this)
  obtain ⟨_, _, f3, f4, _⟩ := hm5 0 (by rw [XC2_n.2.2.1]; omega)
  rw [XC2_n.2.2.1] at kz
  rw [XC2_n.2.2.2.1] at f4
  rw [XC2_n.2.2.2.2] at f3
  clear hm0 hm2 hm3 hm4 hm5 hrw hry pn pw pw' hhn htn kn3
  simp only [Nat.one_mul, Nat.zero_mul, Nat.add_zero] at kn0 kn2 f3 f4 kr0
  go_wp2_with fail
  rw [← hP.out]
  exact ⟨rfl, bz⟩
end Go.Proofs.Ytafmpcaneeplpaa

set_option maxRecDepth 100000
namespace Go.Proofs.Ytafmpcaneeplpaa
open Go.RowKit Go.Shelf Go.BigFrame

set_option maxHeartbeats 1000000 in
theorem CastSends_walk_of (w : World) {v : Value} {X : Wd} {n g : Int} {body : ByteArray} (hW : WorldAt w v X) (hn64 : I64 n) (hg64 : I64 g) (hbd : body.size ≤ 140737488351232) :
    Calls Try.prog 9 #[v, .int .i64 n, .int .i64 g, .string body] w (GivesB (.bool true) w) := by
  have hW0 := hW
  obtain ⟨gv, nv, wv, rfl, hg, hn, hw⟩ := hW
  obtain ⟨_, na, ncap, rfl, _⟩ := hn.form
  obtain ⟨_, ga, gcap, rfl, _⟩ := hg.open
  obtain ⟨_, wa, wcap, rfl, _⟩ := hw.form
  clear hg hn hw
  have hB := OBox.new w 26 (.slice ga X.groups.length gcap) (.slice na X.nodes.length ncap) (.slice wa X.wires.length wcap)
  have b1 := below_a1 w (.cells #[.slice ga X.groups.length gcap, .slice na X.nodes.length ncap, .slice wa X.wires.length wcap] 26)
  have hP1 := Send_c (hW0.below b1) n g body hn64 hg64 hbd
  have hP2 := fun o (h : Below w.heap.size w o) => CastOf_c (hW0.below h) n g false body hbd
  generalize castF X n g false body = r at *
  replace hP2 := Lib.hid hP2
  go_enter Try.func9, Try.ntmps9
  go_upto_region 1 with fail
  generalize w.alloc (.cells #[.slice ga X.groups.length gcap, .slice na X.nodes.length ncap, .slice wa X.wires.length wcap] 26) = w1 at *
  obtain ⟨_, x0, x1, x2⟩ := id hB
  go_wp2_with fail
  refine hP1.mono ?_
  rintro e w2 ⟨gv2, nv2, wv2, S2, rfl, hO2, hS2, b2⟩
  obtain ⟨pg, pn, pw⟩ := hO2.parts
  obtain ⟨_, ga2, gcap2, rfl, _⟩ := pg.open
  obtain ⟨_, na2, ncap2, rfl, _⟩ := pn.form
  obtain ⟨_, wa2, wcap2, rfl, _⟩ := pw.form
  clear pg pn pw
  have hR2 := OBox.new w2 26 (.slice ga2 r.2.groups.length gcap2) (.slice na2 r.2.nodes.length ncap2) (.slice wa2 r.2.wires.length wcap2)
  have bx2 := below_a1 w2 (.cells #[.slice ga2 r.2.groups.length gcap2, .slice na2 r.2.nodes.length ncap2, .slice wa2 r.2.wires.length wcap2] 26)
  have hW2 := hO2.world.below bx2
  go_upto_region 2 with fail
  generalize w2.alloc (.cells #[.slice ga2 r.2.groups.length gcap2, .slice na2 r.2.nodes.length ncap2, .slice wa2 r.2.wires.length wcap2] 26) = w3 at *
  obtain ⟨B2, hB2⟩ : ∃ B, w2.heap.size = B := ⟨_, rfl⟩
  simp only [hB2] at hR2 ⊢
  clear hB2 x0 x1 x2
  have b23 := below_trans b2 bx2
  have hB3 := hB.keep (b23.block _ hB.lt)
  have b3 := below_trans b1 b23
  clear hO2 hS2 b23 bx2 b2 hB b1 hP1
  obtain ⟨_, x0, x1, x2⟩ := id hB3
  go_wp2_with fail
  refine (hP2.out w3 b3).mono ?_
  rintro e w4 ⟨gv4, nv4, wv4, S4, rfl, hO4, hS4, b4⟩
  obtain ⟨pg, pn, pw⟩ := hO4.parts
  obtain ⟨_, ga4, gcap4, rfl, _⟩ := pg.open
  obtain ⟨_, na4, ncap4, rfl, _⟩ := pn.form
  obtain ⟨_, wa4, wcap4, rfl, _⟩ := pw.form
  clear pg pn pw
  have hR4 := OBox.new w4 26 (.slice ga4 r.2.groups.length gcap4) (.slice na4 r.2.nodes.length ncap4) (.slice wa4 r.2.wires.length wcap4)
  have bx4 := below_a1 w4 (.cells #[.slice ga4 r.2.groups.length gcap4, .slice na4 r.2.nodes.length ncap4, .slice wa4 r.2.wires.length wcap4] 26)
  have hW4 := hO4.world.below bx4
  clear x0 x1 x2
  go_upto_region 3 with fail
  generalize w4.alloc (.cells #[.slice ga4 r.2.groups.length gcap4, .slice na4 r.2.nodes.length ncap4, .slice wa4 r.2.wires.length wcap4] 26) = w5 at *
  obtain ⟨B4, hB4⟩ : ∃ B, w4.heap.size = B := ⟨_, rfl⟩
  simp only [hB4] at hR4 ⊢
  clear hB4
  have b45 := below_trans b4 bx4
  have hR3 := hR2.keep (b45.block _ hR2.lt)
  have hW3 := hW2.below b45
  have b5 := below_trans b3 b45
  clear hO4 hS4 b45 bx4 b4 hR2 hW2 hP2
  go_wp2_with fail
  refine (castBegun_c w5).mono ?_
  rintro e w6 ⟨rfl, b6⟩
  have hR6 := hR3.keep (b6.block _ hR3.lt)
  have hR7 := hR4.keep (b6.block _ hR4.lt)
  have hS := SameWorlds_c (hW3.below b6) (hW4.below b6)
  obtain ⟨_, r0, r1, r2⟩ := id hR6
  obtain ⟨_, s0, s1, s2⟩ := id hR7
  go_wp2_with fail
  refine hS.mono ?_
  rintro e w8 ⟨rfl, b8⟩
  go_wp2_with fail
  go_ret
  exact ⟨ret_bool (by simp), below_trans (below_trans b5 b6) b8⟩

set_option maxHeartbeats 1000000 in
theorem CastNulls_walk_of (w : World) {v : Value} {X : Wd} {n g : Int} (hW : WorldAt w v X) (hn64 : I64 n) (hg64 : I64 g) :
    Calls Try.prog 10 #[v, .int .i64 n, .int .i64 g] w (GivesB (.bool true) w) := by
  have hW0 := hW
  obtain ⟨gv, nv, wv, rfl, hg, hn, hw⟩ := hW
  obtain ⟨_, na, ncap, rfl, _⟩ := hn.form
  obtain ⟨_, ga, gcap, rfl, _⟩ := hg.open
  obtain ⟨_, wa, wcap, rfl, _⟩ := hw.form
  clear hg hn hw
  have hB := OBox.new w 26 (.slice ga X.groups.length gcap) (.slice na X.nodes.length ncap) (.slice wa X.wires.length wcap)
  have b1 := below_a1 w (.cells #[.slice ga X.groups.length gcap, .slice na X.nodes.length ncap, .slice wa X.wires.length wcap] 26)
  have hP1 := Null_c (hW0.below b1) n g hn64 hg64
  have hP2 := fun o (h : Below w.heap.size w o) => CastOf_c (hW0.below h) n g true ByteArray.empty (by decide)
  generalize castF X n g true ByteArray.empty = r at *
  replace hP2 := Lib.hid hP2
  go_enter Try.func10, Try.ntmps10
  go_upto_region 1 with fail
  generalize w.alloc (.cells #[.slice ga X.groups.length gcap, .slice na X.nodes.length ncap, .slice wa X.wires.length wcap] 26) = w1 at *
  obtain ⟨_, x0, x1, x2⟩ := id hB
  go_wp2_with fail
  refine hP1.mono ?_
  rintro e w2 ⟨gv2, nv2, wv2, S2, rfl, hO2, hS2, b2⟩
  obtain ⟨pg, pn, pw⟩ := hO2.parts
  obtain ⟨_, ga2, gcap2, rfl, _⟩ := pg.open
  obtain ⟨_, na2, ncap2, rfl, _⟩ := pn.form
  obtain ⟨_, wa2, wcap2, rfl, _⟩ := pw.form
  clear pg pn pw
  have hR2 := OBox.new w2 26 (.slice ga2 r.2.groups.length gcap2) (.slice na2 r.2.nodes.length ncap2) (.slice wa2 r.2.wires.length wcap2)
  have bx2 := below_a1 w2 (.cells #[.slice ga2 r.2.groups.length gcap2, .slice na2 r.2.nodes.length ncap2, .slice wa2 r.2.wires.length wcap2] 26)
  have hW2 := hO2.world.below bx2
  go_upto_region 2 with fail
  generalize w2.alloc (.cells #[.slice ga2 r.2.groups.length gcap2, .slice na2 r.2.nodes.length ncap2, .slice wa2 r.2.wires.length wcap2] 26) = w3 at *
  obtain ⟨B2, hB2⟩ : ∃ B, w2.heap.size = B := ⟨_, rfl⟩
  simp only [hB2] at hR2 ⊢
  clear hB2 x0 x1 x2
  have b23 := below_trans b2 bx2
  have hB3 := hB.keep (b23.block _ hB.lt)
  have b3 := below_trans b1 b23
  clear hO2 hS2 b23 bx2 b2 hB b1 hP1
  obtain ⟨_, x0, x1, x2⟩ := id hB3
  go_wp2_with fail
  refine (hP2.out w3 b3).mono ?_
  rintro e w4 ⟨gv4, nv4, wv4, S4, rfl, hO4, hS4, b4⟩
  obtain ⟨pg, pn, pw⟩ := hO4.parts
  obtain ⟨_, ga4, gcap4, rfl, _⟩ := pg.open
  obtain ⟨_, na4, ncap4, rfl, _⟩ := pn.form
  obtain ⟨_, wa4, wcap4, rfl, _⟩ := pw.form
  clear pg pn pw
  have hR4 := OBox.new w4 26 (.slice ga4 r.2.groups.length gcap4) (.slice na4 r.2.nodes.length ncap4) (.slice wa4 r.2.wires.length wcap4)
  have bx4 := below_a1 w4 (.cells #[.slice ga4 r.2.groups.length gcap4, .slice na4 r.2.nodes.length ncap4, .slice wa4 r.2.wires.length wcap4] 26)
  have hW4 := hO4.world.below bx4
  clear x0 x1 x2
  go_upto_region 3 with fail
  generalize w4.alloc (.cells #[.slice ga4 r.2.groups.length gcap4, .slice na4 r.2.nodes.length ncap4, .slice wa4 r.2.wires.length wcap4] 26) = w5 at *
  obtain ⟨B4, hB4⟩ : ∃ B, w4.heap.size = B := ⟨_, rfl⟩
  simp only [hB4] at hR4 ⊢
  clear hB4
  have b45 := below_trans b4 bx4
  have hR3 := hR2.keep (b45.block _ hR2.lt)
  have hW3 := hW2.below b45
  have b5 := below_trans b3 b45
  clear hO4 hS4 b45 bx4 b4 hR2 hW2 hP2
  go_wp2_with fail
  refine (castBegun_c w5).mono ?_
  rintro e w6 ⟨rfl, b6⟩
  have hR6 := hR3.keep (b6.block _ hR3.lt)
  have hR7 := hR4.keep (b6.block _ hR4.lt)
  have hS := SameWorlds_c (hW3.below b6) (hW4.below b6)
  obtain ⟨_, r0, r1, r2⟩ := id hR6
  obtain ⟨_, s0, s1, s2⟩ := id hR7
  go_wp2_with fail
  refine hS.mono ?_
  rintro e w8 ⟨rfl, b8⟩
  go_wp2_with fail
  go_ret
  exact ⟨ret_bool (by simp), below_trans (below_trans b5 b6) b8⟩
end Go.Proofs.Ytafmpcaneeplpaa
