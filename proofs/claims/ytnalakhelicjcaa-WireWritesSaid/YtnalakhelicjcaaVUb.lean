/-
  Wire: what must be in any case.
-/
import Derived.Test.YtnalakhelicjcaaVUx
import Derived.Test.YtnalakhelicjcaaVUr
import Derived.Test.YtnalakhelicjcaaVKS
import Derived.Test.YtnalakhelicjcaaVSW
set_option maxRecDepth 100000
namespace Go.Proofs.Ytnalakhelicjcaa
open Go.RowKit Go.Shelf Go.BigFrame Go.Deep

theorem octs_small (n : Int) : octs (bSmall n) := fun x hx => by
  obtain rfl : x = n % 256 := by simpa [bSmall] using hx
  omega
theorem octs_wide (n : Int) : octs (bWide n) := fun x hx => by
  have h : x = n / 65536 % 256 ∨ x = n / 256 % 256 ∨ x = n % 256 := by simpa [bWide] using hx
  omega
theorem octs_flat {α : Type} {f : α → List Int} {l : List α} (h : ∀ a ∈ l, octs (f a)) : octs (l.flatMap f) := fun x hx => by
  obtain ⟨a, ha, hx⟩ := List.mem_flatMap.1 hx
  exact h a ha x hx
theorem octs_msgs (l : List M) : octs (bMsgs l) := octs_app.2 ⟨octs_small _, octs_flat fun _ _ => octs_app.2 ⟨octs_small _, octs_app.2 ⟨octs_small _, octs_app.2 ⟨octs_small _, octs_app.2 ⟨octs_small _, octs_app.2 ⟨numsOf_octs _, octs_wide _⟩⟩⟩⟩⟩⟩
theorem octs_world (X : Wd) : octs (bWorld X) :=
  octs_app.2 ⟨octs_small _, octs_app.2 ⟨octs_flat fun _ _ => octs_small _, octs_app.2 ⟨octs_small _, octs_app.2 ⟨octs_flat fun _ _ => octs_app.2 ⟨octs_wide _, octs_app.2 ⟨octs_flat fun _ _ => octs_flat fun _ _ => octs_wide _, octs_app.2 ⟨octs_msgs _, octs_msgs _⟩⟩⟩, octs_flat fun _ _ => octs_flat fun _ _ => octs_msgs _⟩⟩⟩⟩
theorem numsOf_app (a b : ByteArray) : numsOf (a ++ b) = numsOf a ++ numsOf b := by
  unfold numsOf
  rw [ByteArray.data_append]
  simp
theorem readW_back {X : Wd} (h : errX X = 0) (hl : (bWorld X).length ≤ 4096) : readW (bWorld X) = (0, X) := by
  have h1 := Rds.world.fwd X [] (right_ok h)
  rw [List.append_nil] at h1
  exact readW_ok (by omega) h1 h
theorem readW_more {X : Wd} (h : errX X = 0) {t : List Int} (ht : t ≠ []) (hl : (bWorld X ++ t).length ≤ 4096) : readW (bWorld X ++ t) = (1, Wd.none) :=
  readW_left (by omega) (Rds.world.fwd X t (right_ok h)) ht
def aW1 : Ac := ⟨1, 0, 0, ⟨#[97]⟩⟩
def XW1 : Wd := doneF (beginX 3 [3, 6]) [aW1]
theorem XW1_e : errX XW1 = 0 := by decide +kernel
theorem XW1_l : (bWorld XW1).length = 98 := by decide +kernel
theorem XW1_0 : errX Wd.none = 3 := by decide +kernel

set_option maxHeartbeats 4000000 in
theorem wireBegun_c (w : World) : Calls Try.prog 17 #[] w (GivesB (.bool true) w) := by
  obtain ⟨P, hP⟩ : ∃ P, GivesB (.bool true) w = P := ⟨_, rfl⟩
  rw [hP]
  replace hP := Lib.hid hP
  have hBg := fun (o : World) av (h : Acts o av [aW1]) => begin_c h (fun x hx h4 => by
    obtain rfl : x = aW1 := by simpa using hx
    exact absurd h4 (by decide))
  rw [show doneF (beginX 3 [3, 6]) [aW1] = XW1 from rfl] at hBg
  have hWr := fun (o : World) v (h : WorldAt o v XW1) => Write_c h
  have hs : writeW XW1 = strOfNums (bWorld XW1) := by unfold writeW; rw [if_pos XW1_e]
  have hnb : numsOf (strOfNums (bWorld XW1)) = bWorld XW1 := nums_str (octs_world XW1)
  have hR1 := fun o => Read_c o (strOfNums (bWorld XW1))
  have hR2 := fun o => Read_c o (strOfNums (bWorld XW1) ++ ⟨#[120]⟩)
  rw [hnb, readW_back XW1_e (by rw [XW1_l]; decide)] at hR1
  rw [numsOf_app, hnb, readW_more XW1_e (by decide) (by rw [List.length_append, XW1_l]; decide)] at hR2
  have hsz : (strOfNums (bWorld XW1)).size = 98 := by rw [str_len, XW1_l]
  rw [hs, XW1_e] at hWr
  have hW0 := fun (o : World) => Write_c (w := o) (v := .agg #[.slice none 0 0, .slice none 0 0, .slice none 0 0]) (X := Wd.none) (OWd.world (OWd.empty _ _ _ : OWd false o (fun _ => False) (.slice none 0 0) (.slice none 0 0) (.slice none 0 0) Wd.none))
  rw [XW1_0] at hW0
  have hAc := fun (o : World) => Acts.lit o [aW1] (by
    intro x hx
    obtain rfl : x = aW1 := by simpa using hx
    refine ⟨?_, ?_, ?_, ?_⟩ <;> simp [I64, aW1] <;> decide) (by simp) #[.int .i64 1, .int .i64 0, .int .i64 0, .string ⟨#[97]⟩] rfl
  unfold WPost at hR1 hR2
  generalize strOfNums (bWorld XW1) = s at *
  generalize writeW Wd.none = s0 at *
  generalize XW1 = X at *
  clear hs hnb
  replace hBg := Lib.hid hBg
  replace hWr := Lib.hid hWr
  replace hR1 := Lib.hid hR1
  replace hR2 := Lib.hid hR2
  replace hW0 := Lib.hid hW0
  replace hAc := Lib.hid hAc
  go_enter Try.func17, Try.ntmps17
  go_wp2_with fail
  refine (act_c _ 1 0 0 ⟨#[97]⟩).mono ?_
  rintro e w1 ⟨rfl, b1⟩
  unfold Ac.val
  have hA1 := hAc.out w1
  have bl := below_a1 w1 (.cells #[.int .i64 1, .int .i64 0, .int .i64 0, .string ⟨#[97]⟩] 36)
  have hB1 := hBg.out _ _ hA1
  change Calls _ _ #[.slice _ 1 1] (w1.alloc (.cells #[.int .i64 1, .int .i64 0, .int .i64 0, .string ⟨#[97]⟩] 36)) _ at hB1
  go_wp2_with fail
  refine hB1.mono ?_
  clear hB1 hA1
  rintro e w2 ⟨gv, nv, wv, S, rfl, hO, _, b2⟩
  have b2 := below_trans (below_trans b1 bl) b2
  have hW1 := hWr.out w2 _ hO.world
  clear hO bl b1
  go_wp2_with fail
  refine hW1.mono ?_
  clear hW1
  rintro e w3 ⟨rfl, b3⟩
  have b3 := below_trans b2 b3
  clear b2
  go_wp2_with fail
  refine (hR1.out w3).mono ?_
  rintro e w4 ⟨gv4, nv4, wv4, S4, rfl, hO4, hS4, b4⟩
  obtain ⟨pg, pn, pw⟩ := hO4.parts
  obtain ⟨_, ga4, gcap4, rfl, _⟩ := pg.open
  obtain ⟨_, na4, ncap4, rfl, _⟩ := pn.form
  obtain ⟨_, wa4, wcap4, rfl, _⟩ := pw.form
  clear pg pn pw
  have hR4 := OBox.new w4 40 (.slice ga4 X.groups.length gcap4) (.slice na4 X.nodes.length ncap4) (.slice wa4 X.wires.length wcap4)
  have bx4 := below_a1 w4 (.cells #[.slice ga4 X.groups.length gcap4, .slice na4 X.nodes.length ncap4, .slice wa4 X.wires.length wcap4] 40)
  have hW4 := hO4.world.below bx4
  go_upto_region 3 with fail
  generalize w4.alloc (.cells #[.slice ga4 X.groups.length gcap4, .slice na4 X.nodes.length ncap4, .slice wa4 X.wires.length wcap4] 40) = w5 at *
  obtain ⟨E, hE⟩ : ∃ E, w4.heap.size = E := ⟨_, rfl⟩
  have b5 := below_trans (below_trans b3 b4) bx4
  simp only [hE] at hR4 ⊢
  clear hE b3 b4 bx4 hO4 hS4 hR1
  go_wp2_with fail
  refine (hR2.out w5).mono ?_
  rintro e w6 ⟨gv6, nv6, wv6, S6, rfl, hO6, _, b6⟩
  obtain ⟨pg, pn, pw⟩ := hO6.parts
  obtain ⟨_, ga6, gcap6, rfl, _⟩ := pg.open
  obtain ⟨_, na6, ncap6, rfl, _⟩ := pn.form
  obtain ⟨_, wa6, wcap6, rfl, _⟩ := pw.form
  clear pg pn pw hO6 hR2
  have hR6 := hR4.keep (b6.block E hR4.lt)
  have hW6 := hW4.below b6
  have b6 := below_trans b5 b6
  clear hR4 hW4 b5
  have bx6 := below_a1 w6 (.cells #[.slice ga6 Wd.none.groups.length gcap6, .slice na6 Wd.none.nodes.length ncap6, .slice wa6 Wd.none.wires.length wcap6] 40)
  go_upto_region 4 with fail
  generalize w6.alloc (.cells #[.slice ga6 Wd.none.groups.length gcap6, .slice na6 Wd.none.nodes.length ncap6, .slice wa6 Wd.none.wires.length wcap6] 40) = w7 at *
  have hR7 := hR6.keep (bx6.block E hR6.lt)
  have hW7 := hW6.below bx6
  have b7 := below_trans b6 bx6
  clear hR6 hW6 b6 bx6
  go_wp2_with fail
  refine (hW0.out w7).mono ?_
  clear hW0
  rintro e w8 ⟨rfl, b8⟩
  have hR8 := hR7.keep (b8.block E hR7.lt)
  have hW8 := hW7.below b8
  have b8 := below_trans b7 b8
  clear hR7 hW7 b7
  go_upto_region 5 with fail
  obtain ⟨_, x0, x1, x2⟩ := id hR8
  have hEl := hR8.lt
  have hSB : ∀ o, Below w8.heap.size w8 o → o.cell? ⟨E, 0, none⟩ = some (.slice ga4 X.groups.length gcap4) ∧ o.cell? ⟨E, 1, none⟩ = some (.slice na4 X.nodes.length ncap4) ∧ o.cell? ⟨E, 2, none⟩ = some (.slice wa4 X.wires.length wcap4) := fun o k =>
    ⟨(k.cell (cell_lt x0)).trans x0, (k.cell (cell_lt x1)).trans x1, (k.cell (cell_lt x2)).trans x2⟩
  have hsz' : ((s.size : Int) == 98) = true := by rw [hsz]; rfl
  refine wp_region_N (fun o => o.cell? ⟨E, 0, none⟩ = some (.slice ga4 X.groups.length gcap4) ∧ o.cell? ⟨E, 1, none⟩ = some (.slice na4 X.nodes.length ncap4) ∧ o.cell? ⟨E, 2, none⟩ = some (.slice wa4 X.wires.length wcap4)) 24 27 rfl (by kernel_rfl) (hSB _ (below_drewN w8 1)) (fun hSw => ?_)
  refine tk 0 ?_ rfl rfl (by kernel_rfl) (.inl ⟨by rfl, ?_⟩) hSw ?_
  rotate_left
  · rintro w ⟨s0, s1, s2⟩; go_simp; try with_reducible rfl
  simp only [tkp, tkz, tks]
  refine tk 1 ?_ rfl rfl (by kernel_rfl) (.inl ⟨by rfl, ?_⟩) hSw ?_
  rotate_left
  · rintro w ⟨s0, s1, s2⟩; go_simp; try with_reducible rfl
  simp only [tkp, tkz, tks]
  refine tk 2 ?_ rfl rfl (by kernel_rfl) (.inl ⟨by rfl, ?_⟩) hSw ?_
  rotate_left
  · rintro w ⟨s0, s1, s2⟩; go_simp; try with_reducible rfl
  simp only [tkp, tkz, tks]
  refine tk 3 ?_ rfl rfl (by kernel_rfl) (.inl ⟨by rfl, ?_⟩) hSw ?_
  rotate_left
  · rintro w ⟨s0, s1, s2⟩; go_simp; try with_reducible rfl
  simp only [tkp, tkz, tks]
  refine tk 4 ?_ rfl rfl (by kernel_rfl) (.inl ⟨by rfl, ?_⟩) hSw ?_
  rotate_left
  · rintro w ⟨s0, s1, s2⟩; go_simp; try with_reducible rfl
  simp only [tkp, tkz, tks]
  refine tk 5 ?_ rfl rfl (by kernel_rfl) (.inl ⟨by rfl, ?_⟩) hSw ?_
  rotate_left
  · rintro w ⟨s0, s1, s2⟩; go_simp; try with_reducible rfl
  simp only [tkp, tkz, tks]
  refine tk 6 ?_ rfl rfl (by kernel_rfl) (.inl ⟨by rfl, ?_⟩) hSw ?_
  rotate_left
  · rintro w ⟨s0, s1, s2⟩; go_simp; try with_reducible rfl
  simp only [tkp, tkz, tks]
  refine tk 7 ?_ rfl rfl (by kernel_rfl) (.inl ⟨by rfl, ?_⟩) hSw ?_
  rotate_left
  · rintro w ⟨s0, s1, s2⟩; go_simp; try with_reducible rfl
  simp only [tkp, tkz, tks]
  refine tk 8 ?_ rfl rfl (by kernel_rfl) (.inl ⟨by rfl, ?_⟩) hSw ?_
  rotate_left
  · rintro w ⟨s0, s1, s2⟩; go_simp; try with_reducible rfl
  simp only [tkp, tkz, tks]
  refine tk 9 ?_ rfl rfl (by kernel_rfl) (.inl ⟨by rfl, ?_⟩) hSw ?_
  rotate_left
  · rintro w ⟨s0, s1, s2⟩; go_simp; try with_reducible rfl
  simp only [tkp, tkz, tks]
  refine tk 10 ?_ rfl rfl (by kernel_rfl) (.inl ⟨by rfl, ?_⟩) hSw ?_
  rotate_left
  · rintro w ⟨s0, s1, s2⟩; go_simp; try with_reducible rfl
  simp only [tkp, tkz, tks]
  refine tk 11 ?_ rfl rfl (by kernel_rfl) (.inl ⟨by rfl, ?_⟩) hSw ?_
  rotate_left
  · rintro w ⟨s0, s1, s2⟩; go_simp; try with_reducible rfl
  simp only [tkp, tkz, tks]
  refine tk 12 ?_ rfl rfl (by kernel_rfl) (.inl ⟨by rfl, ?_⟩) hSw ?_
  rotate_left
  · rintro w ⟨s0, s1, s2⟩; go_simp; try with_reducible rfl
  simp only [tkp, tkz, tks]
  refine tk 13 ?_ rfl rfl (by kernel_rfl) (.inl ⟨by rfl, ?_⟩) hSw ?_
  rotate_left
  · rintro w ⟨s0, s1, s2⟩; go_simp; try with_reducible rfl
  simp only [tkp, tkz, tks]
  refine tk 14 ?_ rfl rfl (by kernel_rfl) (.inl ⟨by rfl, ?_⟩) hSw ?_
  rotate_left
  · rintro w ⟨s0, s1, s2⟩; go_simp; try with_reducible rfl
  simp only [tkp, tkz, tks]
  refine tk 15 ?_ rfl rfl (by kernel_rfl) (.inl ⟨by rfl, ?_⟩) hSw ?_
  rotate_left
  · rintro w ⟨s0, s1, s2⟩; go_simp; try with_reducible rfl
  simp only [tkp, tkz, tks]
  refine tk 16 ?_ rfl rfl (by kernel_rfl) (.inl ⟨by rfl, ?_⟩) hSw ?_
  rotate_left
  · rintro w ⟨s0, s1, s2⟩; go_simp; try with_reducible rfl
  simp only [tkp, tkz, tks]
  refine tk 17 ?_ rfl rfl (by kernel_rfl) (.inl ⟨by rfl, ?_⟩) hSw ?_
  rotate_left
  · rintro w ⟨s0, s1, s2⟩; go_simp; try with_reducible rfl
  simp only [tkp, tkz, tks]
  refine tk 18 ?_ rfl rfl (by kernel_rfl) (.inl ⟨by rfl, ?_⟩) hSw ?_
  rotate_left
  · rintro w ⟨s0, s1, s2⟩; go_simp; try with_reducible rfl
  simp only [tkp, tkz, tks]
  refine tk 19 ?_ rfl rfl (by kernel_rfl) (.inl ⟨by rfl, ?_⟩) hSw ?_
  rotate_left
  · rintro w ⟨s0, s1, s2⟩; go_simp; try with_reducible rfl
  simp only [tkp, tkz, tks]
  refine tk 20 ?_ rfl rfl (by kernel_rfl) (.inl ⟨by rfl, ?_⟩) hSw ?_
  rotate_left
  · rintro w ⟨s0, s1, s2⟩; go_simp; try with_reducible rfl
  simp only [tkp, tkz, tks]
  refine N_one' (i := 21) (by kernel_rfl) rfl ?_
  go_wp2_with fail
  refine (act_c _ 1 0 0 ⟨#[97]⟩).mono ?_
  rintro e w9 ⟨rfl, b9⟩
  unfold Ac.val
  have b9 := below_trans (below_drewN w8 1) b9
  go_wp2_with fail
  refine QK_normal ⟨?_, ?_⟩
  · first | exact fun _ => hSB _ b9 | exact hSB _ b9
  have hA1 := hAc.out w9
  have bl := below_a1 w9 (.cells #[.int .i64 1, .int .i64 0, .int .i64 0, .string ⟨#[97]⟩] 36)
  have b10 := below_trans b9 bl
  refine N_one' (i := 22) (by kernel_rfl) rfl ?_
  go_wp2_with fail
  refine QK_normal ⟨?_, ?_⟩
  · first | exact fun _ => hSB _ b10 | exact hSB _ b10
  have hB1 := hBg.out _ _ hA1
  change Calls _ _ #[.slice _ 1 1] (w9.alloc (.cells #[.int .i64 1, .int .i64 0, .int .i64 0, .string ⟨#[97]⟩] 36)) _ at hB1
  refine N_one' (i := 23) (by kernel_rfl) rfl ?_
  go_wp2_with fail
  refine hB1.mono ?_
  clear hB1 hA1
  rintro e w11 ⟨gv, nv, wv, S, rfl, hO, _, b11⟩
  have b11 := below_trans b10 b11
  go_wp2_with fail
  refine QK_normal ⟨?_, ?_⟩
  · first | exact fun _ => hSB _ b11 | exact hSB _ b11
  refine N_rest 24 3 (Nat.le_refl _) rfl (by kernel_rfl) ?_
  simp only [List.drop_succ_cons, List.drop_zero]
  have hSm := SameWorlds_c (hW8.below b11) hO.world
  clear hSB hSw
  go_wp2_with fail
  refine hSm.mono ?_
  rintro e w12 ⟨rfl, b12⟩
  go_wp2_with fail
  rw [← hP.out]
  exact ⟨ret_bool (by simp), below_trans (below_trans b8 b11) b12⟩
end Go.Proofs.Ytnalakhelicjcaa
