/-
  Worlds, the document's answer: a message is cast, errors too.
  Worlds, the document's answer: a message comes.
  Worlds, the document's answer: a message comes, errors too.
  Acts, and what is done, in plain words.
  Worlds, the document's answer: an act is done.
  Worlds, the document's answer: acts, one behind the other.
-/
import Derived.Test.YtnalakhelicjcaaVCast
import Derived.Test.YtnalakhelicjcaaVKC
import Derived.StillTailTactics
import Derived.Test.YtnalakhelicjcaaVKE
import Derived.Test.YtnalakhelicjcaaVBeg
set_option maxRecDepth 100000
namespace Go.Proofs.Ytnalakhelicjcaa
open Go.RowKit Go.Shelf Go.BigFrame

def castF (X : Wd) (n g : Int) (null : Bool) (body : ByteArray) : Int × Wd := if errX X = 0 then castR X n g null body else (errX X, Wd.none)

theorem CastOf_c {w : World} {v : Value} {X : Wd} (h : WorldAt w v X) (n g : Int) (null : Bool) (body : ByteArray) (hbody : body.size ≤ 140737488351232) :
    Calls Try.prog 115 #[v, .int .i64 n, .int .i64 g, .bool null, .string body] w (WPost w (castF X n g null body)) := by
  obtain ⟨gv, nv, wv, rfl, hg, hn, hw⟩ := h
  obtain ⟨hnl, na, ncap, rfl, hnc⟩ := hn.form
  obtain ⟨hwl, wa, wcap, rfl, hwc⟩ := hw.form
  obtain ⟨hgl, ga, gcap, rfl, _⟩ := hg.open
  have hA := below_a2 w (.cells #[.slice ga X.groups.length gcap, .slice na X.nodes.length ncap, .slice wa X.wires.length wcap] 40) (.cells #[.slice none 0 0, .slice none 0 0, .slice none 0 0] 40)
  have hB := (OBox.new w 40 (.slice ga X.groups.length gcap) (.slice na X.nodes.length ncap) (.slice wa X.wires.length wcap)).keep (Go.Deep.blk_alloc_lt _ (.cells #[.slice none 0 0, .slice none 0 0, .slice none 0 0] 40) _ (by rw [World.size_alloc]; omega))
  have hRb := OBox.new (w.alloc (.cells #[.slice ga X.groups.length gcap, .slice na X.nodes.length ncap, .slice wa X.wires.length wcap] 40)) 40 (.slice none 0 0) (.slice none 0 0) (.slice none 0 0)
  have hsA : ((w.alloc (.cells #[.slice ga X.groups.length gcap, .slice na X.nodes.length ncap, .slice wa X.wires.length wcap] 40)).alloc (.cells #[.slice none 0 0, .slice none 0 0, .slice none 0 0] 40)).heap.size = w.heap.size + 2 := by rw [World.size_alloc, World.size_alloc]
  rw [World.size_alloc] at hRb
  have hR : castF X n g null body = castF X n g null body := rfl
  conv at hR => rhs; unfold castF
  generalize castF X n g null body = r at *
  have hE1 := fun o (h : Below w.heap.size w o) => WorldError_c (w := o) ⟨_, _, _, rfl, hg.below h, hn.below h, hw.below h⟩
  go_enter Try.func115, Try.ntmps115
  go_upto_region 1 with fail
  generalize (w.alloc (.cells #[.slice ga X.groups.length gcap, .slice na X.nodes.length ncap, .slice wa X.wires.length wcap] 40)).alloc (.cells #[.slice none 0 0, .slice none 0 0, .slice none 0 0] 40) = wA at *
  obtain ⟨hBi, b0, b1, b2⟩ := hB
  replace hE1 := hE1 wA hA
  by_cases he : errX X = 0
  · have hC := fun o (h : Below w.heap.size w o) => cast_c (hg.below h) (hn.below h) (hw.below h) (errX_fit he) n g null body hbody
    have hr := hR
    rw [if_pos he] at hr
    rw [he] at hE1
    clear he hR
    subst hr
    generalize castR X n g null body = r at *
    go_wp2_with fail
    refine hE1.mono ?_
    rintro e w1 ⟨rfl, hb⟩
    have hR1 := hRb.keep (hb.block _ (by omega))
    obtain ⟨x0, x1, x2⟩ : w1.cell? ⟨w.heap.size, 0, none⟩ = _ ∧ w1.cell? ⟨w.heap.size, 1, none⟩ = _ ∧ w1.cell? ⟨w.heap.size, 2, none⟩ = _ := ⟨(hb.cell (by show w.heap.size < _; omega)).trans b0, (hb.cell (by show w.heap.size < _; omega)).trans b1, (hb.cell (by show w.heap.size < _; omega)).trans b2⟩
    go_wp2_with fail
    refine (hC _ (below_trans hA hb)).mono ?_
    rintro e w2 ⟨gv2, nv2, wv2, S2, rfl, hO2, hS2, hb2⟩
    obtain ⟨pg, pn, pw⟩ := hO2.parts
    obtain ⟨_, ga2, gcap2, rfl, _⟩ := pg.open
    obtain ⟨_, na2, ncap2, rfl, _⟩ := pn.form
    obtain ⟨_, wa2, wcap2, rfl, _⟩ := pw.form
    clear pg pn pw
    have hR2 := hR1.keep (hb2.block _ hR1.lt)
    obtain ⟨hf0, hf1, hf2, z0, z1, z2⟩ := hR2.all
    go_wp2_with fail
    obtain ⟨f0, f1, f2⟩ := hR2.put3 (.slice ga2 r.2.groups.length gcap2) (.slice na2 r.2.nodes.length ncap2) (.slice wa2 r.2.wires.length wcap2)
    refine bodyPost_ret (v := .tuple #[.agg #[.slice ga2 r.2.groups.length gcap2, .slice na2 r.2.nodes.length ncap2, .slice wa2 r.2.wires.length wcap2], .int .i64 r.1]) ?_ rfl ?_
    · simp [results, Try.f115]
      go_simp
    · have hs1 := hb.size
      have hbF := below_trans (below_trans hA hb) hb2
      refine ⟨_, _, _, S2, rfl, hO2.keep (fun c hc => ?_), fun c hc => ?_, set3_below hbF (by omega)⟩
      · have h := (hS2 c hc).1
        rw [set3_blk (by show c ≠ w.heap.size + 1; omega)]
      · have h := hS2 c hc
        rw [set3_size]
        exact ⟨by omega, h.2⟩
  · have hr := hR
    rw [if_neg he] at hr
    subst hr
    generalize errX X = e0 at *
    have hne : (e0 != 0) = true := by simpa using he
    replace he := Lib.hid he
    clear hR
    go_wp2_with fail
    refine hE1.mono ?_
    rintro e w1 ⟨rfl, hb⟩
    have hR1 := hRb.keep (hb.block _ (by omega))
    obtain ⟨hf0, hf1, hf2, z0, z1, z2⟩ := hR1.all
    go_wp2_with fail
    obtain ⟨f0, f1, f2⟩ := hR1.put3 (.slice none 0 0) (.slice none 0 0) (.slice none 0 0)
    refine bodyPost_ret (v := .tuple #[.agg #[.slice none 0 0, .slice none 0 0, .slice none 0 0], .int .i64 e0]) ?_ rfl (WPost.none (set3_below (below_trans hA hb) (by omega)))
    simp [results, Try.f115]
    go_simp
end Go.Proofs.Ytnalakhelicjcaa

set_option maxRecDepth 100000
namespace Go.Proofs.Ytnalakhelicjcaa
open Go.RowKit Go.Shelf Go.BigFrame

/-- What lies beside the world of one's own while a message comes: the box of the world, the box of what comes, the message. -/
def MvSt (w wr : World) (B C : Nat) (S : Nat → Prop) (gv nv wv : Value) (m : M) : Prop :=
  OBox wr B 40 gv nv wv ∧ OBox wr (w.heap.size + 1) 40 (.slice none 0 0) (.slice none 0 0) (.slice none 0 0) ∧ MsgBox wr C m ∧ Below w.heap.size w wr ∧ ∀ c, S c → w.heap.size + 2 ≤ c ∧ c < wr.heap.size ∧ c ≠ B ∧ c ≠ C
theorem MvSt.set {w wr : World} {B C : Nat} {S : Nat → Prop} {gv nv wv : Value} {m : M} (h : MvSt w wr B C S gv nv wv m) {g : Nat} (hg : S g) (a : Nat) (v : Value) : MvSt w (wr.setCell ⟨g, a, none⟩ v) B C S gv nv wv m := by
  obtain ⟨h1, h2, h3, h4, h5⟩ := h
  have hs := h5 g hg
  refine ⟨h1.keep (Go.Deep.blk_setCell_other _ _ _ _ (fun e => hs.2.2.1 e.symm)), h2.keep (Go.Deep.blk_setCell_other _ _ _ _ (by show w.heap.size + 1 ≠ g; omega)), h3.keep (Go.Deep.blk_setCell_other _ _ _ _ (fun e => hs.2.2.2 e.symm)), below_setCell h4 (by show w.heap.size ≤ g; omega) _, fun c hc => ?_⟩
  rw [Go.Deep.nblk_setCell]
  exact h5 c hc
theorem MvSt.drew {w wr : World} {B C : Nat} {S : Nat → Prop} {gv nv wv : Value} {m : M} (h : MvSt w wr B C S gv nv wv m) : MvSt w wr.drew B C S gv nv wv m :=
  ⟨h.1.keep rfl, h.2.1.keep rfl, h.2.2.1.keep rfl, below_drew h.2.2.2.1, h.2.2.2.2⟩
theorem clockSet_getD {X : Wd} {n : Nat} (hn : n < X.nodes.length) (v : Int) : (clockSet X n v).nodes.getD n N.zero = { X.nodes.getD n N.zero with clock := v } := by
  rw [getD_lt _ N.zero (by simpa [clockSet] using hn)]
  simp [clockSet]
theorem comeW_eq {X : Wd} {a b : Nat} {m : M} {l : List M} (hb : b < X.nodes.length) : comeW X a b m l =
    lastSet (clockSet (wireSet X a b l) b (max (X.nodes.getD b N.zero).clock m.stamp)) b m.grp.toNat a (max (((X.nodes.getD b N.zero).last.getD m.grp.toNat []).getD a 0) m.stamp) := by
  unfold lastSet
  rw [clockSet_getD (X := wireSet X a b l) hb]
  simp [comeW, clockSet, wireSet]

set_option maxHeartbeats 8000000 in
theorem move_c {w : World} {gv nv wv : Value} {X : Wd} (hg : Ints w gv X.groups) (hn : Nodes w nv X.nodes) (hw : Wires w wv X.wires) (hX : Fit X) (hFa : Fares X) {a b : Nat} (ha : a < X.nodes.length) (hb : b < X.nodes.length) :
    Calls Try.prog 128 #[.agg #[gv, nv, wv], .int .i64 a, .int .i64 b] w (WPost w (moveR X a b)) := by
  obtain ⟨hnl, na, ncap, rfl, hnc⟩ := hn.form
  obtain ⟨hwl, _⟩ := hw.form
  obtain ⟨hgl, ga, gcap, rfl, _⟩ := hg.open
  have hrowl := hX.row ha
  have hwX := hX.wires
  obtain ⟨bw, ow, wcap, u1, rfl, hwc, r1, hu1⟩ := hw.row (show a < X.wires.length by omega)
  obtain ⟨bx, ox, xcap, u2, rfl, hxc, r2, hu2⟩ := hu1.at (show b < (X.wires.getD a []).length by rw [hrowl]; exact hb)
  obtain ⟨hul, ua, ucap, rfl, huc, _⟩ := hu2.open
  have hA := below_a2 w (.cells #[.slice ga X.groups.length gcap, .slice na X.nodes.length ncap, .slice (some ⟨bw, ow, none⟩) X.wires.length wcap] 40) (.cells #[.slice none 0 0, .slice none 0 0, .slice none 0 0] 40)
  have hB := (OBox.new w 40 (.slice ga X.groups.length gcap) (.slice na X.nodes.length ncap) (.slice (some ⟨bw, ow, none⟩) X.wires.length wcap)).keep (Go.Deep.blk_alloc_lt _ (.cells #[.slice none 0 0, .slice none 0 0, .slice none 0 0] 40) _ (by rw [World.size_alloc]; omega))
  have hRb := OBox.new (w.alloc (.cells #[.slice ga X.groups.length gcap, .slice na X.nodes.length ncap, .slice (some ⟨bw, ow, none⟩) X.wires.length wcap] 40)) 40 (.slice none 0 0) (.slice none 0 0) (.slice none 0 0)
  have hsA : ((w.alloc (.cells #[.slice ga X.groups.length gcap, .slice na X.nodes.length ncap, .slice (some ⟨bw, ow, none⟩) X.wires.length wcap] 40)).alloc (.cells #[.slice none 0 0, .slice none 0 0, .slice none 0 0] 40)).heap.size = w.heap.size + 2 := by rw [World.size_alloc, World.size_alloc]
  rw [World.size_alloc] at hRb
  have hR : moveR X a b = if (wireL X a b).length = 0 then (7, Wd.none) else castEnd (comeW X a b ((wireL X a b).getD 0 M.zero) ((wireL X a b).drop 1)) b ((wireL X a b).getD 0 M.zero) := rfl
  generalize moveR X a b = r at *
  obtain ⟨P, hP⟩ : ∃ P, WPost w r = P := ⟨_, rfl⟩
  rw [hP]
  replace hP := Lib.hid hP
  have hwlen : b < (X.wires.getD a []).length := by rw [hrowl]; exact hb
  have hwi : a < X.wires.length := by omega
  obtain ⟨l, hl⟩ : ∃ l, wireL X a b = l := ⟨_, rfl⟩
  have hl' : (X.wires.getD a []).getD b [] = l := hl
  rw [hl'] at r2 hul huc
  rw [hl] at hR
  clear hl hu2 hu1
  obtain ⟨rl, hrl⟩ : ∃ rl, (X.wires.getD a []).length = rl := ⟨_, rfl⟩
  rw [hrl] at r1 hxc hwlen
  replace hrl := Lib.hid hrl
  replace hl' := Lib.hid hl'
  replace hrowl := Lib.hid hrowl
  replace hwX := Lib.hid hwX
  replace hX := Lib.hid hX
  replace hFa := Lib.hid hFa
  cases l with
  | nil =>
    rw [if_pos (show ([] : List M).length = 0 from rfl)] at hR
    subst hR
    replace hsA := Lib.hid hsA
    simp only [List.length_nil] at r2
    go_enter Try.func128, Try.ntmps128
    go_upto_region 1 with fail
    generalize (w.alloc (.cells #[.slice ga X.groups.length gcap, .slice na X.nodes.length ncap, .slice (some ⟨bw, ow, none⟩) X.wires.length wcap] 40)).alloc (.cells #[.slice none 0 0, .slice none 0 0, .slice none 0 0] 40) = wA at *
    have r1 := (hA.cell (p := ⟨bw, ow + a, none⟩) (cell_lt r1)).trans r1
    have r2 := (hA.cell (p := ⟨bx, ox + b, none⟩) (cell_lt r2)).trans r2
    obtain ⟨hBi, b0, b1, b2⟩ := hB
    have hf0 := hRb.1.frozen 0
    have hf1 := hRb.1.frozen 1
    have hf2 := hRb.1.frozen 2
    have hRK := hRb
    obtain ⟨_, z0, z1, z2⟩ := hRb
    obtain ⟨f0, f1, f2⟩ := hRK.put3 (.slice none 0 0) (.slice none 0 0) (.slice none 0 0)
    go_wp2_with ((with_reducible refine bodyPost_ret (v := .tuple #[.agg #[.slice none 0 0, .slice none 0 0, .slice none 0 0], .int .i64 7]) ?_ rfl ?_); (focus (simp [results, Try.f128]; go_simp)))
    rw [← hP.out]
    exact WPost.none (set3_below hA (by omega))
  | cons m l =>
    rw [if_neg (by simp)] at hR
    simp only [List.getD_cons_zero, List.drop_succ_cons, List.drop_zero] at hR
    simp only [List.length_cons] at r2 hul huc
    replace hR := Lib.hid hR
    go_enter Try.func128, Try.ntmps128
    go_upto_region 1 with fail
    generalize (w.alloc (.cells #[.slice ga X.groups.length gcap, .slice na X.nodes.length ncap, .slice (some ⟨bw, ow, none⟩) X.wires.length wcap] 40)).alloc (.cells #[.slice none 0 0, .slice none 0 0, .slice none 0 0] 40) = wA at *
    have r1 := (hA.cell (p := ⟨bw, ow + a, none⟩) (cell_lt r1)).trans r1
    have r2 := (hA.cell (p := ⟨bx, ox + b, none⟩) (cell_lt r2)).trans r2
    have hOwn := OwnWorld_c (hg.below hA) (hn.below hA) (hw.below hA) hX.out.small
    obtain ⟨hBi, b0, b1, b2⟩ := hB
    go_wp2_with fail
    refine hOwn.mono ?_
    rintro e w1 ⟨gv1, nv1, wv1, S1, rfl, hO1, hS1, hb1⟩
    obtain ⟨pg, pn, pw⟩ := hO1.parts
    obtain ⟨_, ga1, gcap1, rfl, _⟩ := pg.open
    obtain ⟨_, na1, ncap1, rfl, _⟩ := pn.form
    obtain ⟨_, wa1, wcap1, rfl, _⟩ := pw.form
    clear pg pn pw hOwn r1 r2
    have hsA2 : wA.heap.size ≤ w1.heap.size := hb1.size
    have hRK1 := hRb.keep (hb1.block _ hRb.lt)
    have hA1 := below_trans hA hb1
    have hOB := OBox.new w1 40 (.slice ga1 X.groups.length gcap1) (.slice na1 X.nodes.length ncap1) (.slice wa1 X.wires.length wcap1)
    have hbB := below_a1 w1 (.cells #[.slice ga1 X.groups.length gcap1, .slice na1 X.nodes.length ncap1, .slice wa1 X.wires.length wcap1] 40)
    have hsB : (w1.alloc (.cells #[.slice ga1 X.groups.length gcap1, .slice na1 X.nodes.length ncap1, .slice wa1 X.wires.length wcap1] 40)).heap.size = w1.heap.size + 1 := World.size_alloc _ _
    clear b0 b1 b2 hBi hRb
    go_upto_region 4 with fail
    generalize w1.alloc (.cells #[.slice ga1 X.groups.length gcap1, .slice na1 X.nodes.length ncap1, .slice wa1 X.wires.length wcap1] 40) = wB at *
    have hO2 := (hO1.keep (w' := wB) (fun c hc => hbB.block c (hS1 c hc).2)).any
    have hRK2 := hRK1.keep (hbB.block _ hRK1.lt)
    have hA2 := below_trans hA1 hbB
    clear hO1 hA1 hbB hb1 hRK1 hA
    obtain ⟨g1, cap1, g2, cap2, bm, off, mcap, e1, hc1, hg1S, hg1l, k1, hc2, hg2S, hg2l, hg12, hg2b, k2, hm1, hm2, hmc, hmf, hset⟩ := hO2.wire_tail hwi (by rw [hrl.out]; exact hwlen) hl'.out
    cases e1
    rw [hrl.out] at k1 hc2
    have m0 : wB.cell? ⟨bm, off, none⟩ = some (.int .i64 m.src) := hmc 0 (by omega)
    have m1 : wB.cell? ⟨bm, off + 1, none⟩ = some (.int .i64 m.grp) := hmc 1 (by omega)
    have m2 : wB.cell? ⟨bm, off + 2, none⟩ = some (.int .i64 m.stamp) := hmc 2 (by omega)
    have m3 : wB.cell? ⟨bm, off + 3, none⟩ = some (.bool m.null) := hmc 3 (by omega)
    have m4 : wB.cell? ⟨bm, off + 4, none⟩ = some (.string m.body) := hmc 4 (by omega)
    replace hmc := Lib.hid hmc
    replace hset := Lib.hid hset
    have hOBK := hOB
    obtain ⟨_, o0, o1, o2⟩ := hOB
    replace hsB := Lib.hid hsB
    go_upto_region 5 with fail
    have hMB := MsgBox.new wB m 33
    have hbC := below_a1 wB (.cells #[.int .i64 m.src, .int .i64 m.grp, .int .i64 m.stamp, .bool m.null, .string m.body] 33)
    have hsC : (wB.alloc (.cells #[.int .i64 m.src, .int .i64 m.grp, .int .i64 m.stamp, .bool m.null, .string m.body] 33)).heap.size = wB.heap.size + 1 := World.size_alloc _ _
    generalize wB.alloc (.cells #[.int .i64 m.src, .int .i64 m.grp, .int .i64 m.stamp, .bool m.null, .string m.body] 33) = wC at *
    have o0 := (hbC.cell (p := ⟨w1.heap.size, 0, none⟩) (cell_lt o0)).trans o0
    have o1 := (hbC.cell (p := ⟨w1.heap.size, 1, none⟩) (cell_lt o1)).trans o1
    have o2 := (hbC.cell (p := ⟨w1.heap.size, 2, none⟩) (cell_lt o2)).trans o2
    have k1 := (hbC.cell (p := ⟨g1, a, none⟩) hg1l).trans k1
    have k2 := (hbC.cell (p := ⟨g2, b, none⟩) hg2l).trans k2
    clear m0 m1 m2 m3 m4
    obtain ⟨m0, m1, m2, m3, m4⟩ := hMB
    have hOBK := hOBK.keep (hbC.block _ hOBK.lt)
    have hRK3 := hRK2.keep (hbC.block _ hRK2.lt)
    have hA3 := below_trans hA2 hbC
    have hlC : Lies S1 wB wC := fun c hc => hbC.block c (by have := hS1 c hc; have := hsB.out; omega)
    have hg2b' := hg2b.same (hbC.block g2 hg2l)
    have hf2 := hg2b'.frozen b
    have hg2C : g2 < wC.heap.size := by omega
    replace hsC := Lib.hid hsC
    clear hO2 hA2 hRK2 hbC
    have hml : (1 : Int) ≤ (l.length : Int) + 1 := by omega
    obtain ⟨ta, hta⟩ : ∃ ta, tailA bm off mcap = ta := ⟨_, rfl⟩
    have hta2 : (if mcap = 1 then some ⟨bm, off, none⟩ else some ⟨bm, off + 5, none⟩) = ta := hta
    replace hta := Lib.hid hta
    go_still_tail 16, (by kernel_rfl)
    go_upto_region 6 with fail
    have hO3 : OWd false ((wC.setCell ⟨g2, b, none⟩ (.slice ta l.length (mcap - 1))).drew) S1 (.slice ga1 X.groups.length gcap1) (.slice na1 X.nodes.length ncap1) (.slice (some ⟨g1, 0, none⟩) X.wires.length wcap1) (wireSet X a b l) := by
      have := hset.out wC hlC
      unfold tailV at this
      rw [hta.out] at this
      exact this.keep (fun _ _ => rfl)
    have hMS : MvSt w ((wC.setCell ⟨g2, b, none⟩ (.slice ta l.length (mcap - 1))).drew) w1.heap.size wB.heap.size S1 (.slice ga1 X.groups.length gcap1) (.slice na1 X.nodes.length ncap1) (.slice (some ⟨g1, 0, none⟩) X.wires.length wcap1) m :=
      (MvSt.set ⟨hOBK, hRK3, ⟨m0, m1, m2, m3, m4⟩, hA3, fun c hc => by have := hS1 c hc; have := hsB.out; have := hsC.out; omega⟩ hg2S b _).drew
    generalize (wC.setCell ⟨g2, b, none⟩ (.slice ta l.length (mcap - 1))).drew = wD at *
    have hwlen2 := hwlen
    replace hwlen2 := Lib.hid hwlen2
    clear hset hlC hOBK hRK3 m0 m1 m2 m3 m4 hA3 o0 o1 o2 k1 k2 hg2b hg2b' hf2 hta hta2 hml hg1S hg1l hg2S hg2l hg2C hmc hc2 hc1 hg12 hm1 hm2 r1 r2 hwlen hxc
    obtain ⟨C, hC⟩ : ∃ C, wB.heap.size = C := ⟨_, rfl⟩
    simp only [hC] at hMS ⊢
    clear hC hsB hsC
    obtain ⟨gn, nc, e1, hnc2, hgnS, hgnl, hgnb, c0, hI, hset⟩ := hO3.clock_at (n := b) hb
    cases e1
    obtain ⟨ck, hck⟩ : ∃ ck, ((wireSet X a b l).nodes.getD b N.zero).clock = ck := ⟨_, rfl⟩
    rw [hck] at c0 hI
    replace hset := Lib.hid hset
    replace hck := Lib.hid hck
    have hst : I64 m.stamp := hmf.2.2.1
    obtain ⟨⟨_, o0, o1, o2⟩, _, ⟨m0, m1, m2, m3, m4⟩, _, hlt⟩ := id hMS
    replace hlt := Lib.hid hlt
    have hfz := hgnb.frozen (b * 4)
    go_upto_region 7 with fail
    go_still_tail 10, (by kernel_rfl)
    go_upto_region 8 with fail
    have hmx : (if ck < m.stamp then m.stamp else ck) = max ck m.stamp := by omega
    rw [hmx]
    clear hmx
    have hmxI : I64 (max ck m.stamp) := by unfold I64 at *; omega
    have hO4 := (hset.out wD _ (fun _ _ => rfl) hmxI).keep (w' := (wD.setCell ⟨gn, b * 4, none⟩ (.int .i64 (max ck m.stamp))).drew) (fun _ _ => rfl)
    rw [← hck.out] at hO4
    have hMS4 := (hMS.set hgnS (b * 4) (.int .i64 (max ck m.stamp))).drew
    have hgnS2 := hgnS
    rw [hck.out] at hO4
    generalize (wD.setCell ⟨gn, b * 4, none⟩ (.int .i64 (max ck m.stamp))).drew = wE at *
    have hck2 : max ck m.stamp = max (X.nodes.getD b N.zero).clock m.stamp := by rw [← hck.out]; rfl
    rw [hck2] at hO4
    clear hck2 hset hck c0 hI hmxI hfz hgnb o0 o1 o2 m0 m1 m2 m3 m4 hMS hO3 hgnl hgnS
    have hY := clockSet_getD (X := wireSet X a b l) (n := b) hb (max (X.nodes.getD b N.zero).clock m.stamp)
    have hYl : ((clockSet (wireSet X a b l) b (max (X.nodes.getD b N.zero).clock m.stamp)).nodes.getD b N.zero).last = (X.nodes.getD b N.zero).last := by rw [hY]; rfl
    clear hY
    have hgr := hFa.out _ (getD_mem X.wires [] hwi) _ (getD_mem _ [] (by rw [hrl.out]; exact hwlen2.out)) m (by rw [hl'.out]; exact List.mem_cons_self ..)
    obtain ⟨q, hq⟩ := Int.eq_ofNat_of_zero_le hgr.1
    have htab := hX.out.tab hb
    have hqg : q < (X.nodes.getD b N.zero).last.length := by rw [htab.1]; have := hgr.2.1; omega
    have hrow2 : ((X.nodes.getD b N.zero).last.getD q []).length = X.nodes.length := htab.2 _ (getD_mem _ [] hqg)
    obtain ⟨gn', nc', g3, cap3, g4, cap4, e1, _, _, _, c1, hc3, hg3S, hg3l, k3, hc4, hg4S, hg4l, _, _, hg4b, k4, hI4, hset⟩ := hO4.last_at (n := b) (r := q) (k := a) (by simpa [clockSet, wireSet] using hb) (by rw [hYl]; exact hqg) (by rw [hYl, hrow2]; exact ha)
    have e2 := (Value.slice.inj e1).1
    injection e2 with e2
    injection e2 with e2
    subst e2
    clear e1
    rw [hYl] at c1 hc3 k3 hc4 k4 hI4
    rw [hrow2] at k3 hc4
    obtain ⟨lw, hlw⟩ : ∃ lw, ((X.nodes.getD b N.zero).last.getD q []).getD a 0 = lw := ⟨_, rfl⟩
    rw [hlw] at k4 hI4
    obtain ⟨ll, hll⟩ : ∃ ll, (X.nodes.getD b N.zero).last.length = ll := ⟨_, rfl⟩
    rw [hll] at c1 hc3 hqg
    replace hset := Lib.hid hset
    replace hlw := Lib.hid hlw
    replace hll := Lib.hid hll
    replace hYl := Lib.hid hYl
    replace hgr := Lib.hid hgr
    replace htab := Lib.hid htab
    replace hrow2 := Lib.hid hrow2
    obtain ⟨⟨_, o0, o1, o2⟩, _, ⟨m0, m1, m2, m3, m4⟩, _, hlt⟩ := id hMS4
    replace hlt := Lib.hid hlt
    rw [hq] at m1
    replace hq := Lib.hid hq
    have hfz := hg4b.frozen a
    go_still_tail 24, (by kernel_rfl)
    go_upto_region 9 with fail
    have hmx : (if lw < m.stamp then m.stamp else lw) = max lw m.stamp := by omega
    rw [hmx]
    clear hmx
    have hmxI : I64 (max lw m.stamp) := by unfold I64 at *; omega
    have hO5 := (hset.out wE _ (fun _ _ => rfl) hmxI).keep (w' := (wE.setCell ⟨g4, a, none⟩ (.int .i64 (max lw m.stamp))).drew) (fun _ _ => rfl)
    have hMS5 := (hMS4.set hg4S a (.int .i64 (max lw m.stamp))).drew
    generalize (wE.setCell ⟨g4, a, none⟩ (.int .i64 (max lw m.stamp))).drew = wF at *
    have hcome := comeW_eq (X := X) (a := a) (b := b) (m := m) (l := l) hb
    have hqt : m.grp.toNat = q := by rw [hq.out]; rfl
    rw [hqt, hlw.out] at hcome
    rw [← hcome] at hO5
    obtain ⟨hFZ, hFaZ⟩ := comeW_fit hX.out hFa.out ha hb hl'.out
    have hZl : (comeW X a b m l).nodes.length = X.nodes.length := by simp [comeW]
    generalize comeW X a b m l = Z at *
    clear hset hlw hll hYl hgr htab hrow2 hq hqt c1 k3 k4 hI4 hfz hg4b o0 o1 o2 m0 m1 m2 m3 m4 hMS4 hO4 hmxI hcome hg3S hg3l hg4S hg4l hc3 hc4 hqg hgnS2
    have hbZ : b < Z.nodes.length := by rw [hZl]; exact hb
    replace hZl := Lib.hid hZl
    have htZ := hFZ.tab hbZ
    have hlZ := hFZ.lists _ (getD_mem Z.nodes N.zero hbZ)
    replace hFZ := Lib.hid hFZ
    replace hFaZ := Lib.hid hFaZ
    replace htZ := Lib.hid htZ
    clear hlt
    have hnb := hb
    obtain ⟨hQ, hRb, hMB, hb, hS⟩ := hMS5
    obtain ⟨_, o0, o1, o2⟩ := id hQ
    obtain ⟨m0, m1, m2, m3, m4⟩ := hMB
    have hnY := hbZ
    have hlY := hlZ
    have htY := htZ
    have hO := hO5
    clear hbZ hlZ htZ hO5
    cases hnull : m.null
    · have hr1 := hR.out.trans (castEnd_hold hnull)
      rw [hnull] at m3
      replace hnull := Lib.hid hnull
      have hH := hold_c (b := w1.heap.size) hQ hO (fun c hc => (hS c hc).2.1) hnY (by have := hlY.1; omega) hmf
      unfold M.val at hH
      rw [hnull.out] at hH
      obtain ⟨e0, he0⟩ : ∃ e0, putE (Z.nodes.getD b N.zero).held m = e0 := ⟨_, rfl⟩
      rw [he0] at hH hr1
      replace he0 := Lib.hid he0
      replace hr1 := Lib.hid hr1
      go_wp2_with fail
      refine hH.mono ?_
      rintro e w2 ⟨rfl, hwi, hok, hno⟩
      clear hH
      have hlw : ∀ c, c < w.heap.size + 2 ∨ c = w1.heap.size → w2.heap[c]? = wF.heap[c]? := fun c hc => hwi.lies c (by have := hQ.lt; have := hRb.lt; omega) (fun h => by have := hS c h; omega)
      have hQ2 := hQ.keep (hlw _ (Or.inr rfl))
      have hR2 := hRb.keep (hlw _ (Or.inl (by omega)))
      have hb2 : Below w.heap.size w w2 := hb.trans (hwi.below (by have := hRb.lt; omega) (fun c hc => by have := hS c hc; omega))
      replace hlw := Lib.hid hlw
      by_cases hz0 : e0 = 0
      · subst hz0
        obtain ⟨S2, hO2, hSo2⟩ := hok rfl
        have hS2 : ∀ c, S2 c → w.heap.size + 2 ≤ c ∧ c < w2.heap.size ∧ c ≠ w1.heap.size := fun c hc => by
          have h := hSo2 c hc
          refine ⟨?_, h.2, ?_⟩
          · rcases h.1 with h' | h'
            · exact (hS c h').1
            · have := hRb.lt; omega
          · rcases h.1 with h' | h'
            · exact (hS c h').2.2.1
            · have := hQ.lt; omega
        have hr2 := hr1.out
        rw [if_neg (by simp)] at hr2
        obtain ⟨hh1, hh2⟩ := holdW_at (m := m) hnY
        have hpl := putL_le (Z.nodes.getD b N.zero).held m
        have hnY2 : b < (holdW Z b m).nodes.length := by rw [hh1]; exact hnY
        have htY2 := holdW_tab (m := m) hnY htY.out
        have hlY2 : ((holdW Z b m).nodes.getD b N.zero).held.length ≤ 1000 ∧ ((holdW Z b m).nodes.getD b N.zero).told.length ≤ 1000 := by rw [hh2]; exact ⟨by show (putL _ m).length ≤ 1000; omega, by show (Z.nodes.getD b N.zero).told.length ≤ 1000; omega⟩
        clear hok hno hh1 hh2 hpl hwi hSo2
        replace hS := Lib.hid hS
        generalize holdW Z b m = Y2 at *
        have hT := tell_c (b := w1.heap.size) hQ2 hO2 (fun c hc => (hS2 c hc).2.1) hnY2 htY2 hlY2
        obtain ⟨k1', hk1'⟩ : ∃ k1' : Int, (if tellE Y2 b = 0 then ((readyX Y2 b).length : Int) else 0) = k1' := ⟨_, rfl⟩
        rw [hk1'] at hT
        clear hk1'
        obtain ⟨e1, he1⟩ : ∃ e1, tellE Y2 b = e1 := ⟨_, rfl⟩
        rw [he1] at hT hr2
        clear he1
        replace hr2 := Lib.hid hr2
        go_wp2_with fail
        refine hT.mono ?_
        rintro e w3 ⟨rfl, hwi3, hok3, hno3⟩
        clear hT
        have hlow : ∀ c, c < w.heap.size + 2 ∨ c = w1.heap.size → w3.heap[c]? = w2.heap[c]? := fun c hc => hwi3.lies c (by have := hQ2.lt; have := hR2.lt; omega) (fun h => by have := hS2 c h; omega)
        have hQ3 := hQ2.keep (hlow _ (Or.inr rfl))
        have hR3 := hR2.keep (hlow _ (Or.inl (by omega)))
        have hb3 : Below w.heap.size w w3 := hb2.trans (hwi3.below (by have := hR2.lt; omega) (fun c hc => by have := hS2 c hc; omega))
        replace hlow := Lib.hid hlow
        by_cases hz : e1 = 0
        · subst hz
          have hr0 := hr2.out
          rw [if_neg (by simp)] at hr0
          obtain ⟨S3, hO3, hS3⟩ := hok3 rfl
          subst hr0
          clear hok3 hno3 hwi3
          have hlo3 : ∀ c, S3 c → w.heap.size + 2 ≤ c := fun c hc => by
            rcases (hS3 c hc).1 with h | h
            · exact (hS2 c h).1
            · have := hR2.lt; omega
          replace hlo3 := Lib.hid hlo3
          replace hS3 := Lib.hid hS3
          replace hS2 := Lib.hid hS2
          have hQ3K := hQ3
          have hf0 := hR3.1.frozen 0
          have hf1 := hR3.1.frozen 1
          have hf2 := hR3.1.frozen 2
          have hR3K := hR3
          obtain ⟨_, z0, z1, z2⟩ := hR3
          obtain ⟨_, y0, y1, y2⟩ := hQ3
          obtain ⟨f0, f1, f2⟩ := hR3K.put3 (.slice ga1 X.groups.length gcap1) (.slice (some ⟨gn, 0, none⟩) X.nodes.length ncap1) (.slice (some ⟨g1, 0, none⟩) X.wires.length wcap1)
          go_wp2_with ((with_reducible refine bodyPost_ret (v := .tuple #[.agg #[.slice ga1 X.groups.length gcap1, .slice (some ⟨gn, 0, none⟩) X.nodes.length ncap1, .slice (some ⟨g1, 0, none⟩) X.wires.length wcap1], .int .i64 0]) ?_ rfl ?_); (focus (simp [results, Try.f128]; go_simp)))
          · rw [← hP.out]
            refine ⟨_, _, _, S3, rfl, (hO3.keep (fun c hc => ?_)).any, fun c hc => ?_, set3_below hb3 (by omega)⟩
            · have h := hlo3.out c hc
              rw [set3_blk (by show c ≠ w.heap.size + 1; omega)]
            · have h := hlo3.out c hc
              rw [set3_size]
              exact ⟨by omega, (hS3.out c hc).2⟩
        · have hr0 := hr2.out
          rw [if_pos hz] at hr0
          subst hr0
          have hne : (e1 != 0) = true := by simpa using hz
          replace hz := Lib.hid hz
          clear hok3 hno3 hwi3
          replace hS2 := Lib.hid hS2
          have hf0 := hR3.1.frozen 0
          have hf1 := hR3.1.frozen 1
          have hf2 := hR3.1.frozen 2
          have hRX := hR3
          obtain ⟨_, z0, z1, z2⟩ := hRX
          obtain ⟨f0, f1, f2⟩ := hR3.put3 (.slice none 0 0) (.slice none 0 0) (.slice none 0 0)
          go_wp2_with ((with_reducible refine bodyPost_ret (v := .tuple #[.agg #[.slice none 0 0, .slice none 0 0, .slice none 0 0], .int .i64 e1]) ?_ rfl ?_); (focus (simp [results, Try.f128]; go_simp)))
          rw [← hP.out]
          exact WPost.none (set3_below hb3 (by omega))
      · have hr2 := hr1.out
        rw [if_pos hz0] at hr2
        subst hr2
        have hne : (e0 != 0) = true := by simpa using hz0
        replace hz0 := Lib.hid hz0
        clear hok hno hwi
        replace hS := Lib.hid hS
        have hf0 := hR2.1.frozen 0
        have hf1 := hR2.1.frozen 1
        have hf2 := hR2.1.frozen 2
        have hRX := hR2
        obtain ⟨_, z0, z1, z2⟩ := hRX
        obtain ⟨f0, f1, f2⟩ := hR2.put3 (.slice none 0 0) (.slice none 0 0) (.slice none 0 0)
        go_wp2_with ((with_reducible refine bodyPost_ret (v := .tuple #[.agg #[.slice none 0 0, .slice none 0 0, .slice none 0 0], .int .i64 e0]) ?_ rfl ?_); (focus (simp [results, Try.f128]; go_simp)))
        rw [← hP.out]
        exact WPost.none (set3_below hb2 (by omega))
    · have hr2 := hR.out.trans (castEnd_null hnull)
      rw [hnull] at m3
      replace hnull := Lib.hid hnull
      have hQ2 := hQ
      have hR2 := hRb
      have hb2 := hb
      have hO2 := hO
      have hS2 := hS
      clear hS
      have hnY2 := hnY
      have htY2 := htY.out
      have hlY2 : (Z.nodes.getD b N.zero).held.length ≤ 1000 ∧ (Z.nodes.getD b N.zero).told.length ≤ 1000 := by omega
      have hT := tell_c (b := w1.heap.size) hQ2 hO2 (fun c hc => (hS2 c hc).2.1) hnY2 htY2 hlY2
      obtain ⟨k1', hk1'⟩ : ∃ k1' : Int, (if tellE Z b = 0 then ((readyX Z b).length : Int) else 0) = k1' := ⟨_, rfl⟩
      rw [hk1'] at hT
      clear hk1'
      obtain ⟨e1, he1⟩ : ∃ e1, tellE Z b = e1 := ⟨_, rfl⟩
      rw [he1] at hT hr2
      clear he1
      replace hr2 := Lib.hid hr2
      go_wp2_with fail
      refine hT.mono ?_
      rintro e w3 ⟨rfl, hwi3, hok3, hno3⟩
      clear hT
      have hlow : ∀ c, c < w.heap.size + 2 ∨ c = w1.heap.size → w3.heap[c]? = wF.heap[c]? := fun c hc => hwi3.lies c (by have := hQ2.lt; have := hR2.lt; omega) (fun h => by have := hS2 c h; omega)
      have hQ3 := hQ2.keep (hlow _ (Or.inr rfl))
      have hR3 := hR2.keep (hlow _ (Or.inl (by omega)))
      have hb3 : Below w.heap.size w w3 := hb2.trans (hwi3.below (by have := hR2.lt; omega) (fun c hc => by have := hS2 c hc; omega))
      replace hlow := Lib.hid hlow
      by_cases hz : e1 = 0
      · subst hz
        have hr0 := hr2.out
        rw [if_neg (by simp)] at hr0
        obtain ⟨S3, hO3, hS3⟩ := hok3 rfl
        subst hr0
        clear hok3 hno3 hwi3
        have hlo3 : ∀ c, S3 c → w.heap.size + 2 ≤ c := fun c hc => by
          rcases (hS3 c hc).1 with h | h
          · exact (hS2 c h).1
          · have := hR2.lt; omega
        replace hlo3 := Lib.hid hlo3
        replace hS3 := Lib.hid hS3
        replace hS2 := Lib.hid hS2
        have hQ3K := hQ3
        have hf0 := hR3.1.frozen 0
        have hf1 := hR3.1.frozen 1
        have hf2 := hR3.1.frozen 2
        have hR3K := hR3
        obtain ⟨_, z0, z1, z2⟩ := hR3
        obtain ⟨_, y0, y1, y2⟩ := hQ3
        obtain ⟨f0, f1, f2⟩ := hR3K.put3 (.slice ga1 X.groups.length gcap1) (.slice (some ⟨gn, 0, none⟩) X.nodes.length ncap1) (.slice (some ⟨g1, 0, none⟩) X.wires.length wcap1)
        go_wp2_with ((with_reducible refine bodyPost_ret (v := .tuple #[.agg #[.slice ga1 X.groups.length gcap1, .slice (some ⟨gn, 0, none⟩) X.nodes.length ncap1, .slice (some ⟨g1, 0, none⟩) X.wires.length wcap1], .int .i64 0]) ?_ rfl ?_); (focus (simp [results, Try.f128]; go_simp)))
        · rw [← hP.out]
          refine ⟨_, _, _, S3, rfl, (hO3.keep (fun c hc => ?_)).any, fun c hc => ?_, set3_below hb3 (by omega)⟩
          · have h := hlo3.out c hc
            rw [set3_blk (by show c ≠ w.heap.size + 1; omega)]
          · have h := hlo3.out c hc
            rw [set3_size]
            exact ⟨by omega, (hS3.out c hc).2⟩
      · have hr0 := hr2.out
        rw [if_pos hz] at hr0
        subst hr0
        have hne : (e1 != 0) = true := by simpa using hz
        replace hz := Lib.hid hz
        clear hok3 hno3 hwi3
        replace hS2 := Lib.hid hS2
        have hf0 := hR3.1.frozen 0
        have hf1 := hR3.1.frozen 1
        have hf2 := hR3.1.frozen 2
        have hRX := hR3
        obtain ⟨_, z0, z1, z2⟩ := hRX
        obtain ⟨f0, f1, f2⟩ := hR3.put3 (.slice none 0 0) (.slice none 0 0) (.slice none 0 0)
        go_wp2_with ((with_reducible refine bodyPost_ret (v := .tuple #[.agg #[.slice none 0 0, .slice none 0 0, .slice none 0 0], .int .i64 e1]) ?_ rfl ?_); (focus (simp [results, Try.f128]; go_simp)))
        rw [← hP.out]
        exact WPost.none (set3_below hb3 (by omega))
end Go.Proofs.Ytnalakhelicjcaa

set_option maxRecDepth 100000
namespace Go.Proofs.Ytnalakhelicjcaa
open Go.RowKit Go.Shelf Go.BigFrame

def moveF (X : Wd) (a b : Int) : Int × Wd := if moveE X a b = 0 then moveR X a.toNat b.toNat else (moveE X a b, Wd.none)
theorem moveE_ok {X : Wd} {a b : Int} (h : moveE X a b = 0) : errX X = 0 ∧ 0 ≤ a ∧ a < X.nodes.length ∧ 0 ≤ b ∧ b < X.nodes.length := by
  unfold moveE at h
  split at h
  · rename_i ha
    have h1 := nodeE_ok ha
    have h2 := nodeE_ok h
    omega
  · rename_i ha
    exact absurd h ha

theorem MoveOf_c {w : World} {v : Value} {X : Wd} (h : WorldAt w v X) (a b : Int) :
    Calls Try.prog 116 #[v, .int .i64 a, .int .i64 b] w (WPost w (moveF X a b)) := by
  obtain ⟨gv, nv, wv, rfl, hg, hn, hw⟩ := h
  obtain ⟨hnl, na, ncap, rfl, hnc⟩ := hn.form
  obtain ⟨hwl, wa, wcap, rfl, hwc⟩ := hw.form
  obtain ⟨hgl, ga, gcap, rfl, _⟩ := hg.open
  have hA := below_a2 w (.cells #[.slice ga X.groups.length gcap, .slice na X.nodes.length ncap, .slice wa X.wires.length wcap] 40) (.cells #[.slice none 0 0, .slice none 0 0, .slice none 0 0] 40)
  have hB := (OBox.new w 40 (.slice ga X.groups.length gcap) (.slice na X.nodes.length ncap) (.slice wa X.wires.length wcap)).keep (Go.Deep.blk_alloc_lt _ (.cells #[.slice none 0 0, .slice none 0 0, .slice none 0 0] 40) _ (by rw [World.size_alloc]; omega))
  have hRb := OBox.new (w.alloc (.cells #[.slice ga X.groups.length gcap, .slice na X.nodes.length ncap, .slice wa X.wires.length wcap] 40)) 40 (.slice none 0 0) (.slice none 0 0) (.slice none 0 0)
  have hsA : ((w.alloc (.cells #[.slice ga X.groups.length gcap, .slice na X.nodes.length ncap, .slice wa X.wires.length wcap] 40)).alloc (.cells #[.slice none 0 0, .slice none 0 0, .slice none 0 0] 40)).heap.size = w.heap.size + 2 := by rw [World.size_alloc, World.size_alloc]
  rw [World.size_alloc] at hRb
  have hR : moveF X a b = moveF X a b := rfl
  conv at hR => rhs; unfold moveF
  generalize moveF X a b = r at *
  obtain ⟨P, hP⟩ : ∃ P, WPost w r = P := ⟨_, rfl⟩
  rw [hP]
  replace hP := Lib.hid hP
  have hE1 := fun o (h : Below w.heap.size w o) => MoveError_c (w := o) ⟨_, _, _, rfl, hg.below h, hn.below h, hw.below h⟩ a b
  go_enter Try.func116, Try.ntmps116
  go_upto_region 1 with fail
  generalize (w.alloc (.cells #[.slice ga X.groups.length gcap, .slice na X.nodes.length ncap, .slice wa X.wires.length wcap] 40)).alloc (.cells #[.slice none 0 0, .slice none 0 0, .slice none 0 0] 40) = wA at *
  obtain ⟨hBi, b0, b1, b2⟩ := hB
  replace hE1 := hE1 wA hA
  by_cases he : moveE X a b = 0
  · obtain ⟨hx, ha0, ha1, hb0, hb1⟩ := moveE_ok he
    obtain ⟨a, rfl⟩ := Int.eq_ofNat_of_zero_le ha0
    obtain ⟨b, rfl⟩ := Int.eq_ofNat_of_zero_le hb0
    have hC := fun o (h : Below w.heap.size w o) => move_c (hg.below h) (hn.below h) (hw.below h) (errX_fit hx) (errX_fares hx) (a := a) (b := b) (by omega) (by omega)
    have hr := hR
    simp only [Int.toNat_natCast] at hr
    rw [if_pos he] at hr
    rw [he] at hE1
    clear he hR
    subst hr
    generalize moveR X a b = r at *
    go_wp2_with fail
    refine hE1.mono ?_
    rintro e w1 ⟨rfl, hb⟩
    have hR1 := hRb.keep (hb.block _ (by omega))
    obtain ⟨x0, x1, x2⟩ : w1.cell? ⟨w.heap.size, 0, none⟩ = _ ∧ w1.cell? ⟨w.heap.size, 1, none⟩ = _ ∧ w1.cell? ⟨w.heap.size, 2, none⟩ = _ := ⟨(hb.cell (by show w.heap.size < _; omega)).trans b0, (hb.cell (by show w.heap.size < _; omega)).trans b1, (hb.cell (by show w.heap.size < _; omega)).trans b2⟩
    go_wp2_with fail
    refine (hC _ (below_trans hA hb)).mono ?_
    rintro e w2 ⟨gv2, nv2, wv2, S2, rfl, hO2, hS2, hb2⟩
    obtain ⟨pg, pn, pw⟩ := hO2.parts
    obtain ⟨_, ga2, gcap2, rfl, _⟩ := pg.open
    obtain ⟨_, na2, ncap2, rfl, _⟩ := pn.form
    obtain ⟨_, wa2, wcap2, rfl, _⟩ := pw.form
    clear pg pn pw
    have hR2 := hR1.keep (hb2.block _ hR1.lt)
    obtain ⟨hf0, hf1, hf2, z0, z1, z2⟩ := hR2.all
    obtain ⟨f0, f1, f2⟩ := hR2.put3 (.slice ga2 r.2.groups.length gcap2) (.slice na2 r.2.nodes.length ncap2) (.slice wa2 r.2.wires.length wcap2)
    go_wp2_with ((with_reducible refine bodyPost_ret (v := .tuple #[.agg #[.slice ga2 r.2.groups.length gcap2, .slice na2 r.2.nodes.length ncap2, .slice wa2 r.2.wires.length wcap2], .int .i64 r.1]) ?_ rfl ?_); (focus (simp [results, Try.f116]; go_simp)))
    · rw [← hP.out]
      have hs1 := hb.size
      have hbF := below_trans (below_trans hA hb) hb2
      refine ⟨_, _, _, S2, rfl, hO2.keep (fun c hc => ?_), fun c hc => ?_, set3_below hbF (by omega)⟩
      · have h := (hS2 c hc).1
        rw [set3_blk (by show c ≠ w.heap.size + 1; omega)]
      · have h := hS2 c hc
        rw [set3_size]
        exact ⟨by omega, h.2⟩
  · have hr := hR
    rw [if_neg he] at hr
    subst hr
    generalize moveE X a b = e0 at *
    have hne : (e0 != 0) = true := by simpa using he
    replace he := Lib.hid he
    clear hR
    go_wp2_with fail
    refine hE1.mono ?_
    rintro e w1 ⟨rfl, hb⟩
    have hR1 := hRb.keep (hb.block _ (by omega))
    obtain ⟨hf0, hf1, hf2, z0, z1, z2⟩ := hR1.all
    obtain ⟨f0, f1, f2⟩ := hR1.put3 (.slice none 0 0) (.slice none 0 0) (.slice none 0 0)
    go_wp2_with ((with_reducible refine bodyPost_ret (v := .tuple #[.agg #[.slice none 0 0, .slice none 0 0, .slice none 0 0], .int .i64 e0]) ?_ rfl ?_); (focus (simp [results, Try.f116]; go_simp)))
    rw [← hP.out]
    exact WPost.none (set3_below (below_trans hA hb) (by omega))
end Go.Proofs.Ytnalakhelicjcaa

set_option maxRecDepth 100000
namespace Go.Proofs.Ytnalakhelicjcaa
open Go.RowKit Go.Shelf Go.BigFrame

structure Ac where
  kind : Int
  one : Int
  two : Int
  body : ByteArray
def Ac.val (x : Ac) : Value := .agg #[.int .i64 x.kind, .int .i64 x.one, .int .i64 x.two, .string x.body]
def Ac.cells (x : Ac) : List Value := [.int .i64 x.kind, .int .i64 x.one, .int .i64 x.two, .string x.body]
def Ac.fits (x : Ac) : Prop := I64 x.kind ∧ I64 x.one ∧ I64 x.two ∧ x.body.size ≤ 140737488351232
def Ac.zero : Ac := ⟨0, 0, 0, ByteArray.empty⟩
def AcEl (_ : World) (cs : List Value) (x : Ac) : Prop := cs = x.cells ∧ x.fits
def Acts (w : World) (v : Value) (l : List Ac) : Prop := Sl AcEl 4 w v l
theorem AcEl.stays : Stays AcEl := fun _ _ _ _ h _ => h
theorem Acts.below {w w' : World} {v : Value} {l : List Ac} (h : Acts w v l) (hb : Below w.heap.size w w') : Acts w' v l := Sl.below AcEl.stays h hb
theorem Acts.form {w : World} {v : Value} {l : List Ac} (h : Acts w v l) : l.length * 32 ≤ 140737488351232 ∧ ∃ a cap, v = .slice a l.length cap ∧ l.length ≤ cap := by
  obtain ⟨h1, a, cap, h2, h3, _⟩ := Sl.open h
  exact ⟨by omega, a, cap, h2, h3⟩
def AcBox (w : World) (b o : Nat) (x : Ac) : Prop := w.cell? ⟨b, o, none⟩ = some (.int .i64 x.kind) ∧ w.cell? ⟨b, o + 1, none⟩ = some (.int .i64 x.one) ∧ w.cell? ⟨b, o + 2, none⟩ = some (.int .i64 x.two) ∧ w.cell? ⟨b, o + 3, none⟩ = some (.string x.body)
theorem AcBox.below {w w' : World} {b o B : Nat} {x : Ac} (h : AcBox w b o x) (hb : Below B w w') (hB : b < B) : AcBox w' b o x := by
  obtain ⟨h0, h1, h2, h3⟩ := h
  exact ⟨(hb.cell (p := ⟨b, o, none⟩) hB).trans h0, (hb.cell (p := ⟨b, o + 1, none⟩) hB).trans h1, (hb.cell (p := ⟨b, o + 2, none⟩) hB).trans h2, (hb.cell (p := ⟨b, o + 3, none⟩) hB).trans h3⟩
theorem AcBox.new (w : World) (x : Ac) (t : TypeId) : AcBox (w.alloc (.cells #[.int .i64 x.kind, .int .i64 x.one, .int .i64 x.two, .string x.body] t)) w.heap.size 0 x := by
  unfold AcBox
  simp
theorem Acts.at {w : World} {v : Value} {l : List Ac} (h : Acts w v l) {k : Nat} (hk : k < l.length) :
    ∃ b off cap, v = .slice (some ⟨b, off, none⟩) l.length cap ∧ l.length ≤ cap ∧ AcBox w b (off + k * 4) (l.getD k Ac.zero) ∧ (l.getD k Ac.zero).fits := by
  obtain ⟨h1, ad, cap, h2, h3, h4⟩ := Sl.open h
  obtain ⟨b, off, rfl, hc⟩ := h4 (by intro e; subst e; simp at hk)
  obtain ⟨cs, _, ⟨rfl, hf⟩, hj⟩ := hc k hk
  rw [getD_lt l Ac.zero hk]
  exact ⟨b, off, cap, h2, h3, ⟨hj 0 (by omega), hj 1 (by omega), hj 2 (by omega), hj 3 (by omega)⟩, hf⟩

/-- A wire is emptied: an error, how many, the world. -/
def wireN (a b : Nat) : Nat → Wd → Int → Int × Int × Wd
  | 0, X, c => (0, c, X)
  | f + 1, X, c => if (wireL X a b).length = 0 then (0, c, X) else if (moveR X a b).1 = 0 then wireN a b f (moveR X a b).2 (c + 1) else ((moveR X a b).1, 0, Wd.none)
def wireR (X : Wd) (a b : Nat) : Int × Int × Wd := wireN a b (wireL X a b).length X 0
def drainS (a b : Nat) (r : Int × Int × Wd) : Int × Int × Wd :=
  if r.1 = 0 then if (wireR r.2.2 a b).1 = 0 then (0, r.2.1 + (wireR r.2.2 a b).2.1, (wireR r.2.2 a b).2.2) else ((wireR r.2.2 a b).1, 0, Wd.none) else r
def drainR (X : Wd) : Int × Int × Wd := (List.range X.nodes.length).foldl (fun r a => (List.range X.nodes.length).foldl (fun r b => drainS a b r) r) (0, 0, X)
def roundS (n g : Nat) (r : Int × Wd) : Int × Wd := if r.1 = 0 then if hasB r.2.groups g n = true then castR r.2 n g true ByteArray.empty else r else r
def roundC (X : Wd) : Int × Wd := (List.range X.nodes.length).foldl (fun r n => (List.range X.groups.length).foldl (fun r g => roundS n g r) r) (0, X)
def roundR (X : Wd) : Int × Int × Wd := if (roundC X).1 = 0 then drainR (roundC X).2 else ((roundC X).1, 0, Wd.none)
def calmN : Nat → Int × Int × Wd → Int × Int × Wd
  | 0, r => r
  | k + 1, r => if r.1 = 0 then calmN k (roundR r.2.2) else r
def calmR (X : Wd) : Int × Wd := if (calmN 4 (drainR X)).1 = 0 then (0, (calmN 4 (drainR X)).2.2) else ((calmN 4 (drainR X)).1, Wd.none)
def calmF (X : Wd) : Int × Wd := if errX X = 0 then calmR X else (errX X, Wd.none)
/-- J1: an act is done. -/
def doF (X : Wd) (x : Ac) : Int × Wd :=
  if x.kind = 1 then castF X x.one x.two false x.body else if x.kind = 2 then castF X x.one x.two true ByteArray.empty else if x.kind = 3 then moveF X x.one x.two else if x.kind = 4 then calmF X else (6, Wd.none)
def doneS (X : Wd) (x : Ac) : Wd := if (doF X x).1 = 0 then (doF X x).2 else X
def doneF (X : Wd) (l : List Ac) : Wd := l.foldl doneS X
theorem doneF_succ {X : Wd} {l : List Ac} {k : Nat} (hk : k < l.length) : doneF X (l.take (k + 1)) = doneS (doneF X (l.take k)) (l.getD k Ac.zero) := by
  unfold doneF
  rw [getD_lt l Ac.zero hk, List.take_succ_eq_append_getElem hk, List.foldl_append]
  rfl
end Go.Proofs.Ytnalakhelicjcaa

set_option maxRecDepth 100000
namespace Go.Proofs.Ytnalakhelicjcaa
open Go.RowKit Go.Shelf Go.BigFrame

theorem DoOf_c {w : World} {v : Value} {X : Wd} (h : WorldAt w v X) {x : Ac} (hx : x.fits) (hC : x.kind = 4 → ∀ o, WorldAt o v X → Calls Try.prog 117 #[v] o (WPost o (calmF X))) :
    Calls Try.prog 99 #[v, x.val] w (WPost w (doF X x)) := by
  have hW0 := h
  obtain ⟨gv, nv, wv, rfl, hg, hn, hw⟩ := h
  obtain ⟨hnl, na, ncap, rfl, hnc⟩ := hn.form
  obtain ⟨hwl, wa, wcap, rfl, hwc⟩ := hw.form
  obtain ⟨hgl, ga, gcap, rfl, _⟩ := hg.open
  clear hg hn hw
  obtain ⟨w1, hw1⟩ : ∃ w1, w1 = w.alloc (.cells #[.slice ga X.groups.length gcap, .slice na X.nodes.length ncap, .slice wa X.wires.length wcap] 40) := ⟨_, rfl⟩
  obtain ⟨w2, hw2⟩ : ∃ w2, w2 = w1.alloc (.cells #[.int .i64 x.kind, .int .i64 x.one, .int .i64 x.two, .string x.body] 36) := ⟨_, rfl⟩
  obtain ⟨w3, hw3⟩ : ∃ w3, w3 = w2.alloc (.cells #[.slice none 0 0, .slice none 0 0, .slice none 0 0] 40) := ⟨_, rfl⟩
  have hB1 : WBox w1 w.heap.size _ _ _ := hw1 ▸ WBox.new w (.slice ga X.groups.length gcap) (.slice na X.nodes.length ncap) (.slice wa X.wires.length wcap) 40
  have hA1 : Below w.heap.size w w1 := hw1 ▸ below_a1 w _
  have hs1 : w1.heap.size = w.heap.size + 1 := by rw [hw1, World.size_alloc]
  have hM2 : AcBox w2 (w.heap.size + 1) 0 x := by rw [← hs1]; exact hw2 ▸ AcBox.new w1 x 36
  have hb2 : Below w1.heap.size w1 w2 := hw2 ▸ below_a1 w1 _
  have hs2 : w2.heap.size = w.heap.size + 2 := by rw [hw2, World.size_alloc, hs1]
  have hRb : OBox w3 (w.heap.size + 2) 40 (.slice none 0 0) (.slice none 0 0) (.slice none 0 0) := by rw [← hs2]; exact hw3 ▸ OBox.new w2 40 _ _ _
  have hb3 : Below w2.heap.size w2 w3 := hw3 ▸ below_a1 w2 _
  have hB3 := (hB1.below hb2 (by omega)).below hb3 (by omega)
  have hM3 := hM2.below hb3 (by omega)
  have hA3 := below_trans (below_trans hA1 hb2) hb3
  have hW3 := hW0.below hA3
  have hE := Lib.hid (show w3 = ((w.alloc (.cells #[.slice ga X.groups.length gcap, .slice na X.nodes.length ncap, .slice wa X.wires.length wcap] 40)).alloc (.cells #[.int .i64 x.kind, .int .i64 x.one, .int .i64 x.two, .string x.body] 36)).alloc (.cells #[.slice none 0 0, .slice none 0 0, .slice none 0 0] 40) by rw [hw3, hw2, hw1])
  clear hw1 hw2 hw3 hB1 hb2 hM2 hb3 hs1 hs2 hA1 hW0
  obtain ⟨P, hP⟩ : ∃ P, WPost w (doF X x) = P := ⟨_, rfl⟩
  rw [hP]
  unfold doF at hP
  replace hP := Lib.hid hP
  obtain ⟨m0, m1, m2, m3⟩ := hM3
  simp only [Nat.zero_add] at m0 m1 m2 m3
  obtain ⟨b0, b1, b2⟩ := hB3
  unfold Ac.val
  go_enter Try.func99, Try.ntmps99
  go_upto_region 1 with fail
  rw [← hE.out]
  clear hE
  by_cases h1 : x.kind = 1
  · have hP := hP.out
    rw [if_pos h1] at hP
    have hK := CastOf_c hW3 x.one x.two false x.body hx.2.2.2
    rw [h1] at m0
    clear h1
    generalize castF X x.one x.two false x.body = r at *
    replace hP := Lib.hid hP
    go_wp2_with fail
    refine (hK).mono ?_
    rintro e w2 ⟨gv2, nv2, wv2, S2, rfl, hO2, hS2, hb2⟩
    obtain ⟨pg, pn, pw⟩ := hO2.parts
    obtain ⟨_, ga2, gcap2, rfl, _⟩ := pg.open
    obtain ⟨_, na2, ncap2, rfl, _⟩ := pn.form
    obtain ⟨_, wa2, wcap2, rfl, _⟩ := pw.form
    clear pg pn pw
    have hR2 := hRb.keep (hb2.block _ hRb.lt)
    have hlt2 := hRb.lt
    have hbF := below_trans hA3 hb2
    replace hS2 := Lib.hid hS2
    obtain ⟨hf0, hf1, hf2, z0, z1, z2⟩ := hR2.all
    obtain ⟨f0, f1, f2⟩ := hR2.put3 (.slice ga2 r.2.groups.length gcap2) (.slice na2 r.2.nodes.length ncap2) (.slice wa2 r.2.wires.length wcap2)
    go_wp2_with ((with_reducible refine bodyPost_ret (v := .tuple #[.agg #[.slice ga2 r.2.groups.length gcap2, .slice na2 r.2.nodes.length ncap2, .slice wa2 r.2.wires.length wcap2], .int .i64 r.1]) ?_ rfl ?_); (focus (simp [results, Try.f99]; go_simp)))
    rw [← hP.out]
    exact WPost.fin hO2 hS2.out hlt2 (by omega) hbF rfl
  by_cases h2 : x.kind = 2
  · have hP := hP.out
    rw [if_neg h1, if_pos h2] at hP
    have hK := CastOf_c hW3 x.one x.two true ByteArray.empty (by simp)
    rw [h2] at m0
    clear h1 h2
    generalize castF X x.one x.two true ByteArray.empty = r at *
    replace hP := Lib.hid hP
    go_wp2_with fail
    refine (hK).mono ?_
    rintro e w2 ⟨gv2, nv2, wv2, S2, rfl, hO2, hS2, hb2⟩
    obtain ⟨pg, pn, pw⟩ := hO2.parts
    obtain ⟨_, ga2, gcap2, rfl, _⟩ := pg.open
    obtain ⟨_, na2, ncap2, rfl, _⟩ := pn.form
    obtain ⟨_, wa2, wcap2, rfl, _⟩ := pw.form
    clear pg pn pw
    have hR2 := hRb.keep (hb2.block _ hRb.lt)
    have hlt2 := hRb.lt
    have hbF := below_trans hA3 hb2
    replace hS2 := Lib.hid hS2
    obtain ⟨hf0, hf1, hf2, z0, z1, z2⟩ := hR2.all
    obtain ⟨f0, f1, f2⟩ := hR2.put3 (.slice ga2 r.2.groups.length gcap2) (.slice na2 r.2.nodes.length ncap2) (.slice wa2 r.2.wires.length wcap2)
    go_wp2_with ((with_reducible refine bodyPost_ret (v := .tuple #[.agg #[.slice ga2 r.2.groups.length gcap2, .slice na2 r.2.nodes.length ncap2, .slice wa2 r.2.wires.length wcap2], .int .i64 r.1]) ?_ rfl ?_); (focus (simp [results, Try.f99]; go_simp)))
    rw [← hP.out]
    exact WPost.fin hO2 hS2.out hlt2 (by omega) hbF rfl
  by_cases h3 : x.kind = 3
  · have hP := hP.out
    rw [if_neg h1, if_neg h2, if_pos h3] at hP
    have hK := MoveOf_c hW3 x.one x.two
    rw [h3] at m0
    clear h1 h2 h3
    generalize moveF X x.one x.two = r at *
    replace hP := Lib.hid hP
    go_wp2_with fail
    refine (hK).mono ?_
    rintro e w2 ⟨gv2, nv2, wv2, S2, rfl, hO2, hS2, hb2⟩
    obtain ⟨pg, pn, pw⟩ := hO2.parts
    obtain ⟨_, ga2, gcap2, rfl, _⟩ := pg.open
    obtain ⟨_, na2, ncap2, rfl, _⟩ := pn.form
    obtain ⟨_, wa2, wcap2, rfl, _⟩ := pw.form
    clear pg pn pw
    have hR2 := hRb.keep (hb2.block _ hRb.lt)
    have hlt2 := hRb.lt
    have hbF := below_trans hA3 hb2
    replace hS2 := Lib.hid hS2
    obtain ⟨hf0, hf1, hf2, z0, z1, z2⟩ := hR2.all
    obtain ⟨f0, f1, f2⟩ := hR2.put3 (.slice ga2 r.2.groups.length gcap2) (.slice na2 r.2.nodes.length ncap2) (.slice wa2 r.2.wires.length wcap2)
    go_wp2_with ((with_reducible refine bodyPost_ret (v := .tuple #[.agg #[.slice ga2 r.2.groups.length gcap2, .slice na2 r.2.nodes.length ncap2, .slice wa2 r.2.wires.length wcap2], .int .i64 r.1]) ?_ rfl ?_); (focus (simp [results, Try.f99]; go_simp)))
    rw [← hP.out]
    exact WPost.fin hO2 hS2.out hlt2 (by omega) hbF rfl
  by_cases h4 : x.kind = 4
  · have hP := hP.out
    rw [if_neg h1, if_neg h2, if_neg h3, if_pos h4] at hP
    have hK := hC h4 w3 hW3
    rw [h4] at m0
    clear h1 h2 h3 h4 hC
    generalize calmF X = r at *
    replace hP := Lib.hid hP
    go_wp2_with fail
    refine (hK).mono ?_
    rintro e w2 ⟨gv2, nv2, wv2, S2, rfl, hO2, hS2, hb2⟩
    obtain ⟨pg, pn, pw⟩ := hO2.parts
    obtain ⟨_, ga2, gcap2, rfl, _⟩ := pg.open
    obtain ⟨_, na2, ncap2, rfl, _⟩ := pn.form
    obtain ⟨_, wa2, wcap2, rfl, _⟩ := pw.form
    clear pg pn pw
    have hR2 := hRb.keep (hb2.block _ hRb.lt)
    have hlt2 := hRb.lt
    have hbF := below_trans hA3 hb2
    replace hS2 := Lib.hid hS2
    obtain ⟨hf0, hf1, hf2, z0, z1, z2⟩ := hR2.all
    obtain ⟨f0, f1, f2⟩ := hR2.put3 (.slice ga2 r.2.groups.length gcap2) (.slice na2 r.2.nodes.length ncap2) (.slice wa2 r.2.wires.length wcap2)
    go_wp2_with ((with_reducible refine bodyPost_ret (v := .tuple #[.agg #[.slice ga2 r.2.groups.length gcap2, .slice na2 r.2.nodes.length ncap2, .slice wa2 r.2.wires.length wcap2], .int .i64 r.1]) ?_ rfl ?_); (focus (simp [results, Try.f99]; go_simp)))
    rw [← hP.out]
    exact WPost.fin hO2 hS2.out hlt2 (by omega) hbF rfl
  · have hP := hP.out
    rw [if_neg h1, if_neg h2, if_neg h3, if_neg h4] at hP
    have q1 : (x.kind == 1) = false := by simpa using h1
    have q2 : (x.kind == 2) = false := by simpa using h2
    have q3 : (x.kind == 3) = false := by simpa using h3
    have q4 : (x.kind == 4) = false := by simpa using h4
    clear h1 h2 h3 h4 hC
    replace hP := Lib.hid hP
    obtain ⟨hf0, hf1, hf2, z0, z1, z2⟩ := hRb.all
    obtain ⟨f0, f1, f2⟩ := hRb.put3 (.slice none 0 0) (.slice none 0 0) (.slice none 0 0)
    go_wp2_with ((with_reducible refine bodyPost_ret (v := .tuple #[.agg #[.slice none 0 0, .slice none 0 0, .slice none 0 0], .int .i64 6]) ?_ rfl ?_); (focus (simp [results, Try.f99]; go_simp)))
    rw [← hP.out]
    exact WPost.none (set3_below hA3 (by omega))
end Go.Proofs.Ytnalakhelicjcaa

set_option maxRecDepth 100000
namespace Go.Proofs.Ytnalakhelicjcaa
open Go.RowKit Go.Shelf Go.BigFrame

/-- What is handed back: a world of the call's own, whose wires may begin within their blocks. -/
def OPost (w : World) (X : Wd) (e : Ending) (w' : World) : Prop :=
  ∃ (gv nv wv : Value) (S : Nat → Prop), e = .returned (.agg #[gv, nv, wv]) ∧ OWd false w' S gv nv wv X ∧ (∀ b, S b → w.heap.size ≤ b ∧ b < w'.heap.size) ∧ Below w.heap.size w w'
/-- While acts are done: the world so far, in box B; the box of what comes. -/
def DoneR (w wr : World) (B : Nat) (Y : Wd) : Prop :=
  ∃ (gv nv wv : Value) (S : Nat → Prop), OWd false wr S gv nv wv Y ∧ OBox wr B 40 gv nv wv ∧ OBox wr w.heap.size 40 (.slice none 0 0) (.slice none 0 0) (.slice none 0 0) ∧ Below w.heap.size w wr ∧ ∀ c, S c → w.heap.size + 1 ≤ c ∧ c < wr.heap.size ∧ c ≠ B
theorem DoneR.trans {w wr w2 : World} {B : Nat} {Y : Wd} (h : DoneR w wr B Y) (hb : Below wr.heap.size wr w2) : DoneR w w2 B Y := by
  obtain ⟨gv, nv, wv, S, h1, h2, h3, h4, h5⟩ := h
  have := h3.lt
  have := hb.size
  exact ⟨gv, nv, wv, S, h1.keep (fun c hc => hb.block c (h5 c hc).2.1), h2.keep (hb.block _ h2.lt), h3.keep (hb.block _ h3.lt), h4.trans (hb.mono (by omega)), fun c hc => by have := h5 c hc; omega⟩
theorem DoneR.next {w wr w2 : World} {B : Nat} {Y Z : Wd} {gv nv wv : Value} {S : Nat → Prop} (h : DoneR w wr B Y) (hB : w.heap.size < B) (hb : Below wr.heap.size wr w2) (hO : OWd false w2 S gv nv wv Z) (hS : ∀ c, S c → wr.heap.size ≤ c ∧ c < w2.heap.size) :
    DoneR w (((w2.setCell ⟨B, 0, none⟩ gv).setCell ⟨B, 1, none⟩ nv).setCell ⟨B, 2, none⟩ wv) B Z := by
  obtain ⟨_, _, _, _, h1, h2, h3, h4, h5⟩ := h
  have hl := h2.lt
  have hl3 := h3.lt
  have hsz := hb.size
  have key : ∀ c : Nat, c ≠ B → (((w2.setCell ⟨B, 0, none⟩ gv).setCell ⟨B, 1, none⟩ nv).setCell ⟨B, 2, none⟩ wv).heap[c]? = w2.heap[c]? := fun c hc => by
    rw [set3_blk (by show c ≠ B; exact hc)]
  refine ⟨gv, nv, wv, S, hO.keep (fun c hc => key c (by have := hS c hc; omega)), (((h2.keep (hb.block _ hl)).set0 gv).set1 nv).set2 wv, (h3.keep (hb.block _ hl3)).keep (key _ (by omega)), ?_, fun c hc => ?_⟩
  · exact set3_below (h4.trans (hb.mono (by omega))) (by omega)
  · rw [set3_size]
    have := hS c hc
    omega

set_option maxHeartbeats 2000000 in
theorem DoneOf_c {w : World} {gv av : Value} {gs : List Int} {acts : List Ac} (hg : Ints w gv gs) {n : Nat} (hn : n ≤ 1000) (hgs : gs.length ≤ 1000) (ha : Acts w av acts)
    (hC : ∀ x ∈ acts, x.kind = 4 → ∀ X v o, WorldAt o v X → Calls Try.prog 117 #[v] o (WPost o (calmF X))) :
    Calls Try.prog 85 #[.int .i64 n, gv, av] w (OPost w (doneF (beginX n gs) acts)) := by
  obtain ⟨hal, aa, acap, rfl, hac⟩ := ha.form
  have hA := below_a1 w (.cells #[.slice none 0 0, .slice none 0 0, .slice none 0 0] 40)
  have hRb := OBox.new w 40 (.slice none 0 0) (.slice none 0 0) (.slice none 0 0)
  have hsA : (w.alloc (.cells #[.slice none 0 0, .slice none 0 0, .slice none 0 0] 40)).heap.size = w.heap.size + 1 := World.size_alloc _ _
  have hSu := Lib.hid (fun k (hk : k < acts.length) => doneF_succ (X := beginX n gs) hk)
  have hB := fun o (h : Below w.heap.size w o) => BeginOf_c (hg.below h) hn hgs
  obtain ⟨P, hP⟩ : ∃ P, OPost w (doneF (beginX n gs) acts) = P := ⟨_, rfl⟩
  rw [hP]
  replace hP := Lib.hid hP
  have hC := Lib.hid hC
  generalize beginX n gs = X0 at *
  go_enter Try.func85, Try.ntmps85
  go_upto_region 1 with fail
  generalize w.alloc (.cells #[.slice none 0 0, .slice none 0 0, .slice none 0 0] 40) = wA at *
  replace hB := hB wA hA
  go_wp2_with fail
  refine hB.mono ?_
  rintro e w1 ⟨gv1, nv1, wv1, S1, rfl, hO1, hS1, hb1⟩
  obtain ⟨pg, pn, pw⟩ := hO1.parts
  obtain ⟨_, ga1, gcap1, rfl, _⟩ := pg.open
  obtain ⟨_, na1, ncap1, rfl, _⟩ := pn.form
  obtain ⟨_, wa1, wcap1, rfl, _⟩ := pw.form
  clear pg pn pw
  have hR1 := hRb.keep (hb1.block _ hRb.lt)
  have hA1 := below_trans hA hb1
  have hs1 := hb1.size
  have hD : DoneR w (w1.alloc (.cells #[.slice ga1 X0.groups.length gcap1, .slice na1 X0.nodes.length ncap1, .slice wa1 X0.wires.length wcap1] 40)) w1.heap.size X0 :=
    ⟨_, _, _, S1, (hO1.keep (fun c hc => Go.Deep.blk_alloc_lt _ _ _ (hS1 c hc).2)).any, OBox.new w1 _ _ _ _, hR1.keep (Go.Deep.blk_alloc_lt _ _ _ hR1.lt), below_trans hA1 (below_a1 _ _), fun c hc => by have := hS1 c hc; rw [World.size_alloc]; omega⟩
  have hBw : w.heap.size < w1.heap.size := by omega
  obtain ⟨B, hB'⟩ : ∃ B, w1.heap.size = B := ⟨_, rfl⟩
  go_upto_region 2 with fail
  rw [hB'] at hD hBw
  replace hB' := Lib.hid hB'
  generalize w1.alloc (.cells #[.slice ga1 X0.groups.length gcap1, .slice na1 X0.nodes.length ncap1, .slice wa1 X0.wires.length wcap1] 40) = wB at *
  clear hO1 hS1 hb1 hR1 hA1 hs1 hRb hA hsA
  go_wp2_with fail
  go_loopw [8] (fun i wr => ∃ k : Nat, k ≤ acts.length ∧ i = .int .i64 k ∧ DoneR w wr B (doneF X0 (acts.take k))) (fun i _ => acts.length - (intOf i).toNat)
  case atStart => exact ⟨0, by omega, rfl, hD⟩
  case round =>
    clear hD
    obtain ⟨k, hk, rfl, hD⟩ := hrel
    obtain ⟨gv, nv, wv, S, hO, hBx, hRx, hbw, hS⟩ := id hD
    obtain ⟨pg, pn, pw⟩ := hO.parts
    obtain ⟨_, ga, gcap, rfl, _⟩ := pg.open
    obtain ⟨_, na, ncap, rfl, _⟩ := pn.form
    obtain ⟨_, wa, wcap, rfl, _⟩ := pw.form
    clear pg pn pw
    replace hS := Lib.hid hS
    by_cases hlt : k < acts.length
    · obtain ⟨ab, ao, acap', e, _, hbox, hfit⟩ := (ha.below hbw).at hlt
      cases e
      obtain ⟨x, hx⟩ : ∃ x, acts.getD k Ac.zero = x := ⟨_, rfl⟩
      have hxm : x ∈ acts := by rw [← hx, getD_lt acts Ac.zero hlt]; exact List.getElem_mem _
      have hsu := hSu.out k hlt
      rw [hx] at hbox hfit hsu
      clear hx
      have hDo := fun o (h : Below wr.heap.size wr o) => DoOf_c (hO.world.below h) hfit (fun h4 o' ho' => hC.out x hxm h4 _ _ o' ho')
      generalize doneF X0 (acts.take k) = Y at *
      unfold Ac.val at hDo
      replace hsu := Lib.hid hsu
      obtain ⟨r, hrd⟩ : ∃ r, doF Y x = r := ⟨_, rfl⟩
      rw [hrd] at hDo
      replace hrd := Lib.hid hrd
      obtain ⟨a0, a1, a2, a3⟩ := hbox
      obtain ⟨_, o0, o1, o2⟩ := id hBx
      have hab := cell_lt a0
      have hlB := cell_lt o0
      dsimp only at hab hlB
      have hSB : ∀ w', Below wr.heap.size wr w' → w'.cell? ⟨B, 0, none⟩ = some (.slice ga Y.groups.length gcap) ∧ w'.cell? ⟨B, 1, none⟩ = some (.slice na Y.nodes.length ncap) ∧ w'.cell? ⟨B, 2, none⟩ = some (.slice wa Y.wires.length wcap) ∧ w'.cell? ⟨ab, ao + k * 4, none⟩ = some (.int .i64 x.kind) ∧ w'.cell? ⟨ab, ao + k * 4 + 1, none⟩ = some (.int .i64 x.one) ∧ w'.cell? ⟨ab, ao + k * 4 + 2, none⟩ = some (.int .i64 x.two) ∧ w'.cell? ⟨ab, ao + k * 4 + 3, none⟩ = some (.string x.body) :=
        fun w' h => ⟨(h.cell (p := ⟨B, 0, none⟩) hlB).trans o0, (h.cell (p := ⟨B, 1, none⟩) hlB).trans o1, (h.cell (p := ⟨B, 2, none⟩) hlB).trans o2, (h.cell (p := ⟨ab, ao + k * 4, none⟩) hab).trans a0, (h.cell (p := ⟨ab, ao + k * 4 + 1, none⟩) hab).trans a1, (h.cell (p := ⟨ab, ao + k * 4 + 2, none⟩) hab).trans a2, (h.cell (p := ⟨ab, ao + k * 4 + 3, none⟩) hab).trans a3⟩
      replace hSB := Lib.hid hSB
      replace hDo := Lib.hid hDo
      have hbd : Below wr.heap.size wr wr.drew := below_drew (Below.refl _ wr)
      replace hbd := Lib.hid hbd
      go_upto_region 5 with fail
      refine wp_region_N (fun w' => w'.cell? ⟨B, 0, none⟩ = some (.slice ga Y.groups.length gcap) ∧ w'.cell? ⟨B, 1, none⟩ = some (.slice na Y.nodes.length ncap) ∧ w'.cell? ⟨B, 2, none⟩ = some (.slice wa Y.wires.length wcap) ∧ w'.cell? ⟨ab, ao + k * 4, none⟩ = some (.int .i64 x.kind) ∧ w'.cell? ⟨ab, ao + k * 4 + 1, none⟩ = some (.int .i64 x.one) ∧ w'.cell? ⟨ab, ao + k * 4 + 2, none⟩ = some (.int .i64 x.two) ∧ w'.cell? ⟨ab, ao + k * 4 + 3, none⟩ = some (.string x.body)) 11 12 rfl (by kernel_rfl) (hSB.out _ hbd.out) (fun hSw => ?_)
      refine tk 0 ?_ rfl rfl (by kernel_rfl) (.inl ⟨by rfl, ?_⟩) hSw ?_
      rotate_left
      · rintro w ⟨hsw1, hsw2, hsw3, hsw4, hsw5, hsw6, hsw7⟩; go_simp; try with_reducible rfl
      simp only [tkp, tkz, tks]
      refine tk 1 ?_ rfl rfl (by kernel_rfl) (.inl ⟨by rfl, ?_⟩) hSw ?_
      rotate_left
      · rintro w ⟨hsw1, hsw2, hsw3, hsw4, hsw5, hsw6, hsw7⟩; go_simp; try with_reducible rfl
      simp only [tkp, tkz, tks]
      refine tk 2 ?_ rfl rfl (by kernel_rfl) (.inl ⟨by rfl, ?_⟩) hSw ?_
      rotate_left
      · rintro w ⟨hsw1, hsw2, hsw3, hsw4, hsw5, hsw6, hsw7⟩; go_simp; try with_reducible rfl
      simp only [tkp, tkz, tks]
      refine tk 3 ?_ rfl rfl (by kernel_rfl) (.inl ⟨by rfl, ?_⟩) hSw ?_
      rotate_left
      · rintro w ⟨hsw1, hsw2, hsw3, hsw4, hsw5, hsw6, hsw7⟩; go_simp; try with_reducible rfl
      simp only [tkp, tkz, tks]
      refine tk 4 ?_ rfl rfl (by kernel_rfl) (.inl ⟨by rfl, ?_⟩) hSw ?_
      rotate_left
      · rintro w ⟨hsw1, hsw2, hsw3, hsw4, hsw5, hsw6, hsw7⟩; go_simp; try with_reducible rfl
      simp only [tkp, tkz, tks]
      refine N_two' (i := 5) (j := 9) (by kernel_rfl) rfl rfl ?_ ?_
      · go_wp2_with fail
        refine (hDo.out _ hbd.out).mono ?_
        rintro e w5 ⟨gv5, nv5, wv5, S5, rfl, hO5, hS5, hb5⟩
        replace hb5 := hbd.out.trans hb5
        obtain ⟨pg, pn, pw⟩ := hO5.parts
        obtain ⟨_, ga5, gcap5, rfl, _⟩ := pg.open
        obtain ⟨_, na5, ncap5, rfl, _⟩ := pn.form
        obtain ⟨_, wa5, wcap5, rfl, _⟩ := pw.form
        clear pg pn pw
        replace hS5 := Lib.hid hS5
        go_wp2_with fail
        have hSw5 := hSB.out w5 hb5
        refine QK_normal ⟨?_, ?_⟩
        · first | exact fun _ => hSw5 | exact hSw5
        refine tk 6 ?_ rfl rfl (by kernel_rfl) (.inl ⟨by rfl, ?_⟩) hSw5 ?_
        rotate_left
        · rintro w ⟨hsw1, hsw2, hsw3, hsw4, hsw5, hsw6, hsw7⟩; go_simp; try with_reducible rfl
        simp only [tkp, tkz, tks]
        refine tk 7 ?_ rfl rfl (by kernel_rfl) (.inl ⟨by rfl, ?_⟩) hSw5 ?_
        rotate_left
        · rintro w ⟨hsw1, hsw2, hsw3, hsw4, hsw5, hsw6, hsw7⟩; go_simp; try with_reducible rfl
        simp only [tkp, tkz, tks]
        refine tk 8 ?_ rfl rfl (by kernel_rfl) (.inl ⟨by rfl, ?_⟩) hSw5 ?_
        rotate_left
        · rintro w ⟨hsw1, hsw2, hsw3, hsw4, hsw5, hsw6, hsw7⟩; go_simp; try with_reducible rfl
        simp only [tkp, tkz, tks]
        refine N_one' (i := 9) (by kernel_rfl) rfl ?_
        go_wp2_with fail
        have hSw6 := hSB.out _ (below_trans hb5 (below_a1 w5 (.cells #[.slice none 0 0, .slice none 0 0, .slice none 0 0] 40)))
        refine QK_normal ⟨?_, ?_⟩
        · first | exact fun _ => hSw6 | exact hSw6
        refine N_one' (i := 10) (by kernel_rfl) rfl ?_
        have hF := ((OBox.new w5 40 (.slice none 0 0) (.slice none 0 0) (.slice none 0 0)))
        have hf0 := hF.1.frozen 0
        have hf1 := hF.1.frozen 1
        have hf2 := hF.1.frozen 2
        go_wp2_with fail
        have hb6 := below_trans hb5 (below_a1 w5 (.cells #[.slice ga5 r.2.groups.length gcap5, .slice na5 r.2.nodes.length ncap5, .slice wa5 r.2.wires.length wcap5] 40))
        have hq := WBox.new w5 (.slice ga5 r.2.groups.length gcap5) (.slice na5 r.2.nodes.length ncap5) (.slice wa5 r.2.wires.length wcap5) 40
        have hO6 := hO5.keep (w' := w5.alloc (.cells #[.slice ga5 r.2.groups.length gcap5, .slice na5 r.2.nodes.length ncap5, .slice wa5 r.2.wires.length wcap5] 40)) (fun c hc => Go.Deep.blk_alloc_lt _ _ _ (hS5.out c hc).2)
        have hS6 : ∀ c, S5 c → wr.heap.size ≤ c ∧ c < (w5.alloc (.cells #[.slice ga5 r.2.groups.length gcap5, .slice na5 r.2.nodes.length ncap5, .slice wa5 r.2.wires.length wcap5] 40)).heap.size := fun c hc => by have h := hS5.out c hc; rw [World.size_alloc]; exact ⟨h.1, by omega⟩
        have hSw7 := hSB.out _ hb6
        refine QK_normal ⟨?_, ?_⟩
        · first | exact fun _ => hSw7 | exact hSw7
        clear hF hf0 hf1 hf2 hSw5 hSw6 hSw7 hSw hO5 hb5
        refine N_rest 11 1 (Nat.le_refl _) rfl (by kernel_rfl) ?_
        simp only [List.drop_succ_cons, List.drop_zero]
        generalize w5.alloc (.cells #[.slice ga5 r.2.groups.length gcap5, .slice na5 r.2.nodes.length ncap5, .slice wa5 r.2.wires.length wcap5] 40) = w6 at *
        go_upto_region 6 with fail
        have hBx6 := hBx.keep (hb6.block _ hBx.lt)
        have hg0 := hBx6.1.frozen 0
        have hg1 := hBx6.1.frozen 1
        have hg2 := hBx6.1.frozen 2
        obtain ⟨q0, q1, q2⟩ := hq
        obtain ⟨_, d0, d1, d2⟩ := id hBx6
        by_cases he : r.1 = 0
        · have hs2 : doneS Y x = r.2 := by unfold doneS; rw [hrd.out, if_pos he]
          have hN := hD.next hBw hb6 hO6 hS6
          have het : (r.1 == 0) = true := by simp [he]
          replace he := Lib.hid he
          replace hs2 := Lib.hid hs2
          replace hN := Lib.hid hN
          replace hS6 := Lib.hid hS6
          go_wp2_with fail
          go_roundw
          case rel => exact ⟨k + 1, by omega, by go_num, by rw [hsu.out, hs2.out]; exact hN.out⟩
          case measure => simp [intOf]; omega
        · have hs2 : doneS Y x = Y := by unfold doneS; rw [hrd.out, if_neg he]
          have hN := hD.trans hb6
          have het : (r.1 == 0) = false := by simpa using he
          replace he := Lib.hid he
          replace hs2 := Lib.hid hs2
          replace hN := Lib.hid hN
          replace hS6 := Lib.hid hS6
          go_wp2_with fail
          go_roundw
          case rel => exact ⟨k + 1, by omega, by go_num, by rw [hsu.out, hs2.out]; exact hN.out⟩
          case measure => simp [intOf]; omega
      · go_wp2_with fail
        have hbn : Below wr.heap.size wr ((wr.alloc (.cells #[.slice none 0 0, .slice none 0 0, .slice none 0 0] 40)).drew) := below_drew (below_a1 wr _)
        have hSw4 := hSB.out _ hbn
        refine QK_normal ⟨?_, ?_⟩
        · first | exact fun _ => hSw4 | exact hSw4
        refine N_one' (i := 5) (by kernel_rfl) rfl ?_
        have hCb : OBox ((wr.alloc (.cells #[.slice none 0 0, .slice none 0 0, .slice none 0 0] 40)).drew) wr.heap.size 40 (.slice none 0 0) (.slice none 0 0) (.slice none 0 0) := OBox.new wr _ _ _ _
        go_wp2_with fail
        refine (hDo.out _ hbn).mono ?_
        rintro e w5 ⟨gv5, nv5, wv5, S5, rfl, hO5, hS5, hb5⟩
        obtain ⟨pg, pn, pw⟩ := hO5.parts
        obtain ⟨_, ga5, gcap5, rfl, _⟩ := pg.open
        obtain ⟨_, na5, ncap5, rfl, _⟩ := pn.form
        obtain ⟨_, wa5, wcap5, rfl, _⟩ := pw.form
        clear pg pn pw
        have hC5 := hCb.keep (hb5.block _ hCb.lt)
        have hS5' : ∀ c, S5 c → wr.heap.size < c ∧ c < w5.heap.size := fun c hc => by
          have h := hS5 c hc
          have h2 : ((wr.alloc (.cells #[.slice none 0 0, .slice none 0 0, .slice none 0 0] 40)).drew).heap.size = wr.heap.size + 1 := World.size_alloc _ _
          rw [h2] at h
          exact ⟨h.1, h.2⟩
        replace hb5 := below_trans hbn hb5
        clear hS5 hCb
        replace hS5' := Lib.hid hS5'
        go_wp2_with fail
        have hSw5 := hSB.out w5 hb5
        refine QK_normal ⟨?_, ?_⟩
        · first | exact fun _ => hSw5 | exact hSw5
        refine tk 6 ?_ rfl rfl (by kernel_rfl) (.inl ⟨by rfl, ?_⟩) hSw5 ?_
        rotate_left
        · rintro w ⟨hsw1, hsw2, hsw3, hsw4, hsw5, hsw6, hsw7⟩; go_simp; try with_reducible rfl
        simp only [tkp, tkz, tks]
        refine tk 7 ?_ rfl rfl (by kernel_rfl) (.inl ⟨by rfl, ?_⟩) hSw5 ?_
        rotate_left
        · rintro w ⟨hsw1, hsw2, hsw3, hsw4, hsw5, hsw6, hsw7⟩; go_simp; try with_reducible rfl
        simp only [tkp, tkz, tks]
        refine tk 8 ?_ rfl rfl (by kernel_rfl) (.inl ⟨by rfl, ?_⟩) hSw5 ?_
        rotate_left
        · rintro w ⟨hsw1, hsw2, hsw3, hsw4, hsw5, hsw6, hsw7⟩; go_simp; try with_reducible rfl
        simp only [tkp, tkz, tks]
        refine N_one' (i := 10) (by kernel_rfl) rfl ?_
        obtain ⟨_, y0, y1, y2⟩ := id hC5
        have hf0 := hC5.1.frozen 0
        have hf1 := hC5.1.frozen 1
        have hf2 := hC5.1.frozen 2
        go_wp2_with fail
        have hwk : ∀ c, c ≠ wr.heap.size → (((w5.setCell ⟨wr.heap.size, 0, none⟩ (.slice ga5 r.2.groups.length gcap5)).setCell ⟨wr.heap.size, 1, none⟩ (.slice na5 r.2.nodes.length ncap5)).setCell ⟨wr.heap.size, 2, none⟩ (.slice wa5 r.2.wires.length wcap5)).heap[c]? = w5.heap[c]? := fun c hc => by
          rw [set3_blk (by show c ≠ wr.heap.size; exact hc)]
        have hb6 : Below wr.heap.size wr (((w5.setCell ⟨wr.heap.size, 0, none⟩ (.slice ga5 r.2.groups.length gcap5)).setCell ⟨wr.heap.size, 1, none⟩ (.slice na5 r.2.nodes.length ncap5)).setCell ⟨wr.heap.size, 2, none⟩ (.slice wa5 r.2.wires.length wcap5)) :=
          set3_below hb5 (by omega)
        have hq := (((hC5.set0 (.slice ga5 r.2.groups.length gcap5)).set1 (.slice na5 r.2.nodes.length ncap5)).set2 (.slice wa5 r.2.wires.length wcap5)).2
        have hO6 := hO5.keep (w' := (((w5.setCell ⟨wr.heap.size, 0, none⟩ (.slice ga5 r.2.groups.length gcap5)).setCell ⟨wr.heap.size, 1, none⟩ (.slice na5 r.2.nodes.length ncap5)).setCell ⟨wr.heap.size, 2, none⟩ (.slice wa5 r.2.wires.length wcap5))) (fun c hc => hwk c (by have := hS5'.out c hc; omega))
        have hS6 : ∀ c, S5 c → wr.heap.size ≤ c ∧ c < (((w5.setCell ⟨wr.heap.size, 0, none⟩ (.slice ga5 r.2.groups.length gcap5)).setCell ⟨wr.heap.size, 1, none⟩ (.slice na5 r.2.nodes.length ncap5)).setCell ⟨wr.heap.size, 2, none⟩ (.slice wa5 r.2.wires.length wcap5)).heap.size := fun c hc => by
          have h := hS5'.out c hc
          rw [set3_size]
          exact ⟨by omega, h.2⟩
        have hSw7 := hSB.out _ hb6
        refine QK_normal ⟨?_, ?_⟩
        · first | exact fun _ => hSw7 | exact hSw7
        clear y0 y1 y2 hf0 hf1 hf2 hSw4 hSw5 hSw7 hSw hO5 hb5 hwk hC5 hbn
        refine N_rest 11 1 (Nat.le_refl _) rfl (by kernel_rfl) ?_
        simp only [List.drop_succ_cons, List.drop_zero]
        generalize (((w5.setCell ⟨wr.heap.size, 0, none⟩ (.slice ga5 r.2.groups.length gcap5)).setCell ⟨wr.heap.size, 1, none⟩ (.slice na5 r.2.nodes.length ncap5)).setCell ⟨wr.heap.size, 2, none⟩ (.slice wa5 r.2.wires.length wcap5)) = w6 at *
        go_upto_region 6 with fail
        have hBx6 := hBx.keep (hb6.block _ hBx.lt)
        have hg0 := hBx6.1.frozen 0
        have hg1 := hBx6.1.frozen 1
        have hg2 := hBx6.1.frozen 2
        obtain ⟨q0, q1, q2⟩ := hq
        obtain ⟨_, d0, d1, d2⟩ := id hBx6
        by_cases he : r.1 = 0
        · have hs2 : doneS Y x = r.2 := by unfold doneS; rw [hrd.out, if_pos he]
          have hN := hD.next hBw hb6 hO6 hS6
          have het : (r.1 == 0) = true := by simp [he]
          replace he := Lib.hid he
          replace hs2 := Lib.hid hs2
          replace hN := Lib.hid hN
          replace hS6 := Lib.hid hS6
          go_wp2_with fail
          go_roundw
          case rel => exact ⟨k + 1, by omega, by go_num, by rw [hsu.out, hs2.out]; exact hN.out⟩
          case measure => simp [intOf]; omega
        · have hs2 : doneS Y x = Y := by unfold doneS; rw [hrd.out, if_neg he]
          have hN := hD.trans hb6
          have het : (r.1 == 0) = false := by simpa using he
          replace he := Lib.hid he
          replace hs2 := Lib.hid hs2
          replace hN := Lib.hid hN
          replace hS6 := Lib.hid hS6
          go_wp2_with fail
          go_roundw
          case rel => exact ⟨k + 1, by omega, by go_num, by rw [hsu.out, hs2.out]; exact hN.out⟩
          case measure => simp [intOf]; omega
    · obtain rfl : k = acts.length := by omega
      rw [List.take_length] at hD hO hBx
      have hf0 := hRx.1.frozen 0
      have hf1 := hRx.1.frozen 1
      have hf2 := hRx.1.frozen 2
      obtain ⟨_, o0, o1, o2⟩ := id hBx
      obtain ⟨_, z0, z1, z2⟩ := id hRx
      generalize doneF X0 acts = Y at *
      obtain ⟨f0, f1, f2⟩ := hRx.put3 (.slice ga Y.groups.length gcap) (.slice na Y.nodes.length ncap) (.slice wa Y.wires.length wcap)
      clear hD
      go_wp2_with ((with_reducible refine bodyPost_ret (v := .agg #[.slice ga Y.groups.length gcap, .slice na Y.nodes.length ncap, .slice wa Y.wires.length wcap]) ?_ rfl ?_); (focus (simp [results, Try.f85]; go_simp)))
      rw [← hP.out]
      refine ⟨_, _, _, S, rfl, hO.keep (fun c hc => ?_), fun c hc => ?_, set3_below hbw (by omega)⟩
      · have h := (hS.out c hc).1
        rw [set3_blk (by show c ≠ w.heap.size; omega)]
      · have h := hS.out c hc
        rw [set3_size]
        exact ⟨by omega, h.2.1⟩
end Go.Proofs.Ytnalakhelicjcaa
