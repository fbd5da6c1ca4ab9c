/-
  LogReplays: Write and Replay answer just what the document says.
-/
import Derived.Test.YtnalakhelicjcaaGreatLRr
import Derived.Test.YtnalakhelicjcaaGreatLgB
set_option maxRecDepth 100000
namespace Go.Proofs.YtnalakhelicjcaaGreat
open Go.RowKit Go.Shelf Go.BigFrame

set_option maxHeartbeats 1000000 in
theorem LogReplays_walk_of (w : World) {xv : Value} {x : Ac} {t : ByteArray} (hx : x.fits ∧ xv = x.val) (_hts : t.size ≤ 140737488351232) :
    Calls Tryz.prog 3 #[xv, .string t] w (GivesB (.bool true) w) := by
  obtain ⟨hxf, rfl⟩ := hx
  have hA := AcBox.new w x 23
  have b0 := below_a1 w (.cells #[.int .i64 x.kind, .int .i64 x.one, .int .i64 x.two, .string x.body] 23)
  have hl0 : w.heap.size < (w.alloc (.cells #[.int .i64 x.kind, .int .i64 x.one, .int .i64 x.two, .string x.body] 23)).heap.size := by rw [World.size_alloc]; omega
  have hW := fun o => Write_c o hxf
  have hB := fun o => ActBytes_c o hxf
  have hR := fun o => Replay_c o t
  have hO := fun o => ReplayOf_c o t
  generalize writeS x = s at *
  generalize writeE x = e0 at *
  generalize replayA t = l at *
  generalize replayN t = n at *
  generalize replayE t = u at *
  unfold Ac.val at hW hB ⊢
  replace hW := Lib.hid hW
  replace hB := Lib.hid hB
  replace hR := Lib.hid hR
  replace hO := Lib.hid hO
  go_enter Tryz.func3, Tryz.ntmps3
  go_upto_region 1 with fail
  generalize w.alloc (.cells #[.int .i64 x.kind, .int .i64 x.one, .int .i64 x.two, .string x.body] 23) = w1 at *
  obtain ⟨m0, m1, m2, m3⟩ := id hA
  simp only [Nat.zero_add] at m0 m1 m2 m3
  go_wp2_with fail
  refine (hW.out _).mono ?_
  rintro e w2 ⟨rfl, b2⟩
  have hA2 := hA.below b2 hl0
  have b2' := below_trans b0 b2
  clear m0 m1 m2 m3
  obtain ⟨m0, m1, m2, m3⟩ := id hA2
  simp only [Nat.zero_add] at m0 m1 m2 m3
  go_wp2_with fail
  refine (hB.out _).mono ?_
  rintro e w3 ⟨rfl, b3⟩
  have b3' := below_trans b2' b3
  clear m0 m1 m2 m3 hA hA2 hl0
  go_wp2_with fail
  refine (hR.out _).mono ?_
  rintro e w4 ⟨v4, rfl, hL4, b4⟩
  obtain ⟨_, a4, c4, rfl, _⟩ := hL4.form
  have b4' := below_trans b3' b4
  go_wp2_with fail
  refine (hO.out _).mono ?_
  rintro e w5 ⟨v5, rfl, hL5, b5⟩
  obtain ⟨_, a5, c5, rfl, _⟩ := hL5.form
  have b5' := below_trans b4' b5
  have hL4 := hL4.below b5
  go_wp2_with fail
  refine (logBegun_c w5).mono ?_
  rintro e w6 ⟨rfl, b6⟩
  have hS := SameActs_c (hL4.below b6) (hL5.below b6)
  go_wp2_with fail
  refine hS.mono ?_
  rintro e w7 ⟨rfl, b7⟩
  go_wp2_with fail
  go_ret
  exact ⟨ret_bool (by simp), below_trans (below_trans b5' b6) b7⟩
end Go.Proofs.YtnalakhelicjcaaGreat
