/-
  Log: what must be in any case.
-/
import Derived.Test.YtnalakhelicjcaaGreatLWr
import Derived.Test.YtnalakhelicjcaaGreatLRc
import Derived.Test.YtnalakhelicjcaaGreatKCc
import Derived.Test.YtnalakhelicjcaaGreatKS
set_option maxRecDepth 100000
namespace Go.Proofs.YtnalakhelicjcaaGreat
open Go.RowKit Go.Shelf Go.BigFrame

def aL1 : Ac := ⟨1, 0, 0, ⟨#[104, 105]⟩⟩
def aL2 : Ac := ⟨3, 0, 1, ⟨#[]⟩⟩
def aL3 : Ac := ⟨1, 256, 0, ⟨#[]⟩⟩
def aL0 : Ac := ⟨0, 0, 0, ⟨#[]⟩⟩
def sL1 : ByteArray := writeS aL1
def sL2 : ByteArray := writeS aL2
def XL : Wd := (recF 3 [3, 6] (sL1 ++ sL2)).2.2
theorem XL_1 : writeE aL1 = 0 ∧ writeE aL2 = 0 ∧ writeE aL3 = 3 := by decide +kernel
theorem XL_2 : sL1.size = 6 ∧ sL2.size = 4 := by decide +kernel
theorem XL_3 : (replayA (sL1 ++ sL2 ++ ⟨#[1]⟩)).length = 2 ∧ replayN (sL1 ++ sL2 ++ ⟨#[1]⟩) = 10 ∧ replayE (sL1 ++ sL2 ++ ⟨#[1]⟩) = 0 := by decide +kernel
theorem XL_4 : (recF 3 [3, 6] (sL1 ++ sL2)).1 = 0 ∧ (recF 3 [3, 6] (sL1 ++ sL2)).2.1 = 2 := by decide +kernel
theorem XL_n : XL.nodes.length = 3 := by decide +kernel
theorem XL_h : (XL.nodes.getD 1 N.zero).held.length = 1 := by decide +kernel
theorem XL_5 : (doF (doneF (beginX 3 [3, 6]) []) aL0).1 = 6 := by decide +kernel

set_option maxHeartbeats 4000000 in
theorem logBegun_c (w : World) : Calls Tryz.prog 13 #[] w (GivesB (.bool true) w) := by
  obtain ⟨P, hP⟩ : ∃ P, GivesB (.bool true) w = P := ⟨_, rfl⟩
  rw [hP]
  replace hP := Lib.hid hP
  have hW1 := fun o => Write_c o (x := aL1) (by simp [Ac.fits, I64, aL1]; decide)
  have hW2 := fun o => Write_c o (x := aL2) (by simp [Ac.fits, I64, aL2]; decide)
  have hW3 := fun o => Write_c o (x := aL3) (by simp [Ac.fits, I64, aL3]; decide)
  rw [XL_1.1, show writeS aL1 = sL1 from rfl] at hW1
  rw [XL_1.2.1, show writeS aL2 = sL2 from rfl] at hW2
  rw [XL_1.2.2] at hW3
  have hRp := fun o => Replay_c o (sL1 ++ sL2 ++ ⟨#[1]⟩)
  have hRc := fun (o : World) gv (h : Ints o gv [3, 6]) => Recover_c h 3 (sL1 ++ sL2)
  have hRl := XL_3.1
  rw [XL_3.2.1, XL_3.2.2] at hRp
  unfold WPost3 at hRc
  rw [XL_4.1, XL_4.2] at hRc
  obtain ⟨hz1, hz2⟩ := XL_2
  have hXd : (recF 3 [3, 6] (sL1 ++ sL2)).2.2 = XL := rfl
  rw [hXd] at hRc
  clear hXd
  generalize sL1 = s1 at *
  generalize sL2 = s2 at *
  generalize replayA (s1 ++ s2 ++ ⟨#[1]⟩) = ra at *
  generalize writeS aL3 = s3 at *
  unfold Ac.val at hW1 hW2 hW3
  replace hW1 := Lib.hid hW1
  replace hW2 := Lib.hid hW2
  replace hW3 := Lib.hid hW3
  replace hRp := Lib.hid hRp
  replace hRc := Lib.hid hRc
  have hz12 : (s1 ++ s2).size = 10 := by rw [ByteArray.size_append, hz1, hz2]
  go_enter Tryz.func13, Tryz.ntmps13
  go_wp2_with fail
  refine (act_c _ 1 0 0 ⟨#[104, 105]⟩).mono ?_
  rintro e w1 ⟨rfl, b1⟩
  unfold Ac.val
  go_wp2_with fail
  refine (hW1.out _).mono ?_
  rintro e w2 ⟨rfl, b2⟩
  have b2 := below_trans b1 b2
  go_wp2_with fail
  refine (act_c _ 3 0 1 ⟨#[]⟩).mono ?_
  rintro e w3 ⟨rfl, b3⟩
  have b3 := below_trans b2 b3
  unfold Ac.val
  go_wp2_with fail
  refine (hW2.out _).mono ?_
  rintro e w4 ⟨rfl, b4⟩
  have b4 := below_trans b3 b4
  go_wp2_with fail
  refine (hRp.out _).mono ?_
  rintro e w5 ⟨av, rfl, hAc, b5⟩
  obtain ⟨_, aa, acap, rfl, _⟩ := hAc.form
  rw [hRl]
  clear hAc
  have b5 := below_trans b4 b5
  go_wp2_with fail
  refine (two_c _).mono ?_
  rintro e w6 ⟨tv, rfl, hTw, b6⟩
  have b6 := below_trans b5 b6
  have hRc := hRc.out _ _ hTw
  obtain ⟨_, ta, tcap, rfl, _⟩ := hTw.open
  clear hTw
  go_wp2_with fail
  refine hRc.mono ?_
  rintro e w7 ⟨gv7, nv7, wv7, S7, rfl, hO7, hS7, b7⟩
  obtain ⟨pg, pn, pw⟩ := hO7.parts
  obtain ⟨_, ga7, gcap7, rfl, _⟩ := pg.open
  obtain ⟨_, na7, ncap7, rfl, _⟩ := pn.form
  obtain ⟨_, wa7, wcap7, rfl, _⟩ := pw.form
  clear pg pn pw
  have hW7 := hO7.world
  rw [XL_n] at hW7 ⊢
  have hR7 := OBox.new w7 37 (.slice ga7 XL.groups.length gcap7) (.slice na7 3 ncap7) (.slice wa7 XL.wires.length wcap7)
  have bx := below_a1 w7 (.cells #[.slice ga7 XL.groups.length gcap7, .slice na7 3 ncap7, .slice wa7 XL.wires.length wcap7] 37)
  have hW8 := hW7.below bx
  have b8 := below_trans b6 (below_trans b7 bx)
  clear hO7 hS7 b7 bx b6 hW7 hRc
  go_upto_region 5 with fail
  obtain ⟨B7, hB7⟩ : ∃ B, w7.heap.size = B := ⟨_, rfl⟩
  simp only [hB7] at hR7 ⊢
  clear hB7
  generalize w7.alloc (.cells #[.slice ga7 XL.groups.length gcap7, .slice na7 3 ncap7, .slice wa7 XL.wires.length wcap7] 37) = w8 at *
  go_wp2_with fail
  refine (act_c _ 1 256 0 ⟨#[]⟩).mono ?_
  rintro e w9 ⟨rfl, b9⟩
  unfold Ac.val
  go_wp2_with fail
  refine (hW3.out _).mono ?_
  rintro e w10 ⟨rfl, b10⟩
  have b10 := below_trans b9 b10
  have hBg := begin_c (Acts.nil w10) (fun _ hx => absurd hx (by simp))
  go_wp2_with fail
  refine hBg.mono ?_
  rintro e w11 ⟨gv11, nv11, wv11, S11, rfl, hO11, hS11, b11⟩
  obtain ⟨pg, pn, pw⟩ := hO11.parts
  obtain ⟨_, ga11, gcap11, rfl, _⟩ := pg.open
  obtain ⟨_, na11, ncap11, rfl, _⟩ := pn.form
  obtain ⟨_, wa11, wcap11, rfl, _⟩ := pw.form
  clear pg pn pw
  have hDo := Do_c hO11.world (x := aL0) (by simp [Ac.fits, I64, aL0]; decide)
  obtain ⟨r, hr⟩ : ∃ r, doF (doneF (beginX 3 [3, 6]) []) aL0 = r := ⟨_, rfl⟩
  have hr6 : r.1 = 6 := by rw [← hr]; exact XL_5
  rw [hr] at hDo
  obtain ⟨Y, hY⟩ : ∃ Y, doneF (beginX 3 [3, 6]) [] = Y := ⟨_, rfl⟩
  rw [hY] at hDo
  simp only [hY] at ⊢
  clear hr hY hO11 hS11 hBg
  have b11 := below_trans b10 b11
  unfold Ac.val WPost at hDo
  rw [hr6] at hDo
  change Calls _ _ #[_, .agg #[.int .i64 0, .int .i64 0, .int .i64 0, .string ⟨#[]⟩]] _ _ at hDo
  go_wp2_with fail
  refine hDo.mono ?_
  rintro e w12 ⟨gv12, nv12, wv12, S12, rfl, hO12, hS12, b12⟩
  obtain ⟨pg, pn, pw⟩ := hO12.parts
  obtain ⟨_, ga12, gcap12, rfl, _⟩ := pg.open
  obtain ⟨_, na12, ncap12, rfl, _⟩ := pn.form
  obtain ⟨_, wa12, wcap12, rfl, _⟩ := pw.form
  clear pg pn pw
  have b13 := below_trans (below_trans b11 b12) (below_a1 w12 (.cells #[.slice ga12 r.2.groups.length gcap12, .slice na12 r.2.nodes.length ncap12, .slice wa12 r.2.wires.length wcap12] 37))
  clear hO12 hS12 hDo b12
  have hR8 := hR7.keep (b13.block _ hR7.lt)
  have hW9 := hW8.below b13
  clear hR7 hW8
  obtain ⟨_, _, _, e0, _, pn, _⟩ := hW9
  cases e0
  obtain ⟨bn, on, cn, lv, hv, tv, e1, hcn, kn0, kn1, kn2, kn3, _, hln, hhn, htn⟩ := pn.at (n := 1) (by rw [XL_n]; omega)
  rw [XL_n] at e1
  cases e1
  obtain ⟨_, ha, hcap, rfl, _⟩ := hhn.open
  rw [XL_h] at kn2
  clear hhn htn hln pn
  obtain ⟨_, x0, x1, x2⟩ := hR8
  go_upto_region 7 with fail
  generalize w12.alloc (.cells #[.slice ga12 r.2.groups.length gcap12, .slice na12 r.2.nodes.length ncap12, .slice wa12 r.2.wires.length wcap12] 37) = w13 at *
  go_wp2_with fail
  rw [← hP.out]
  exact ⟨rfl, below_trans b8 b13⟩
end Go.Proofs.YtnalakhelicjcaaGreat
