/-
  The program: is a world right, and are there such nodes?
-/
import Derived.Test.YtafmpcaneeplpaaKL
set_option maxRecDepth 100000
namespace Go.Proofs.Ytafmpcaneeplpaa
open Go.RowKit Go.Shelf Go.BigFrame

def hereB (X : Wd) (n : Int) : Bool := inB n 0 ((X.nodes.length : Int) - 1)
def thereE (X : Wd) (ns : List Int) : Int := if errX X = 0 then if ns.all (hereB X) = true then 0 else 4 else errX X
theorem thereE_one (X : Wd) (n : Int) : thereE X [n] = nodeE X n := by
  unfold thereE nodeE hereB
  simp
theorem hereB_iff {X : Wd} {n : Int} : hereB X n = true ↔ 0 ≤ n ∧ n < X.nodes.length := by
  unfold hereB inB
  simp
  omega
theorem There_c {w : World} {v nv : Value} {X : Wd} {ns : List Int} (h : WorldAt w v X) (hns : Ints w nv ns) : Calls Try.prog 54 #[v, nv] w (GivesB (.int .i64 (thereE X ns)) w) := by
  have hW0 := h
  obtain ⟨gv, nv', wv, rfl, hg, hn, hw⟩ := h
  obtain ⟨_, na, ncap, rfl, _⟩ := hn.form
  obtain ⟨_, ga, gcap, rfl, _⟩ := hg.open
  obtain ⟨_, wa, wcap, rfl, _⟩ := hw.form
  have hnl := hn.form.1
  clear hg hn hw
  obtain ⟨hsl, sa, scap, rfl, hsc, hc⟩ := hns.open
  replace hc := Lib.hid hc
  have hA := below_a1 w (.cells #[.slice ga X.groups.length gcap, .slice na X.nodes.length ncap, .slice wa X.wires.length wcap] 26)
  have hB := WBox.new w (.slice ga X.groups.length gcap) (.slice na X.nodes.length ncap) (.slice wa X.wires.length wcap) 26
  obtain ⟨P, hP⟩ : ∃ P, GivesB (.int .i64 (thereE X ns)) w = P := ⟨_, rfl⟩
  rw [hP]
  unfold thereE at hP
  have hC := WCheck_c (hW0.below hA)
  obtain ⟨e0, he0⟩ : ∃ e0, errX X = e0 := ⟨_, rfl⟩
  rw [he0] at hC hP
  clear he0
  go_enter Try.func54, Try.ntmps54
  go_upto_region 1 with fail
  generalize w.alloc (.cells #[.slice ga X.groups.length gcap, .slice na X.nodes.length ncap, .slice wa X.wires.length wcap] 26) = w1 at *
  have hBl := cell_lt hB.1
  dsimp only at hBl
  obtain ⟨x0, x1, x2⟩ := id hB
  by_cases hz : e0 = 0
  · rw [if_pos hz] at hP
    subst hz
    replace hP := Lib.hid hP
    go_wp2_with fail
    refine hC.mono ?_
    rintro e w2 ⟨rfl, hb2⟩
    have hw2 := below_trans hA hb2
    clear x0 x1 x2
    obtain ⟨x0, x1, x2⟩ := hB.below hb2 hBl
    go_wp2_with fail
    go_loop [15] (fun i => ∃ k : Nat, k ≤ ns.length ∧ i = .int .i64 k ∧ Hid ((ns.take k).all (hereB X) = true)) (fun i => ns.length - (intOf i).toNat)
    case atStart => exact ⟨0, by omega, rfl, rfl⟩
    case round =>
      obtain ⟨k, hk, rfl, hg⟩ := hrel
      by_cases hlt : k < ns.length
      · obtain ⟨b, off, rfl, hcc⟩ := hc.out (by intro e; subst e; simp at hlt)
        have hck := (hw2.cell (p := ⟨b, off + k, none⟩) (cell_lt (hcc k hlt))).trans (hcc k hlt)
        have ht := all_take (p := hereB X) (d := 0) hlt
        obtain ⟨n, hnk⟩ : ∃ n, ns.getD k 0 = n := ⟨_, rfl⟩
        rw [hnk] at hck ht
        clear hnk
        by_cases hh : 0 ≤ n ∧ n < X.nodes.length
        · obtain ⟨h1, h2⟩ := hh
          have ha := Lib.hid (ht.2 hg.out (hereB_iff.2 ⟨h1, h2⟩))
          clear ht
          go_wp2_with fail
          go_round
          case rel => exact ⟨k + 1, by omega, by go_num, ha.out⟩
          case measure => simp [intOf]; omega
        · have hf : hereB X n = false := by
            cases hq : hereB X n
            · rfl
            · exact absurd (hereB_iff.1 hq) hh
          have ha := Lib.hid (ht.1 hf)
          clear ht hf
          by_cases h1 : n < 0
          · clear hh
            go_wp2_with fail
            rw [← hP.out, if_neg (by rw [ha.out]; simp)]
            exact ⟨rfl, hw2⟩
          · have h2 : (X.nodes.length : Int) ≤ n := by omega
            have h3 : 0 ≤ n := by omega
            clear hh h1
            go_wp2_with fail
            rw [← hP.out, if_neg (by rw [ha.out]; simp)]
            exact ⟨rfl, hw2⟩
      · obtain rfl : k = ns.length := by omega
        have ha := hg.out
        rw [List.take_length] at ha
        replace ha := Lib.hid ha
        go_wp2_with fail
        rw [← hP.out, if_pos ha.out]
        exact ⟨rfl, hw2⟩
  · rw [if_neg hz] at hP
    have hne : (e0 != 0) = true := by simpa using hz
    replace hz := Lib.hid hz
    replace hP := Lib.hid hP
    go_wp2_with fail
    refine hC.mono ?_
    rintro e w2 ⟨rfl, hb2⟩
    go_wp2_with fail
    rw [← hP.out]
    exact ⟨rfl, below_trans hA hb2⟩
end Go.Proofs.Ytafmpcaneeplpaa
