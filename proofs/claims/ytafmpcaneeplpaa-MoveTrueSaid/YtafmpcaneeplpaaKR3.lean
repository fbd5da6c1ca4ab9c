/-
  Sending, the plain law: what comes is right; the message is behind all on each other member's wire, and nowhere else.
  A drawn region whose operations behind the first calls only read: from there on one walk in the text's order.
  CastTrue, without the document's answer.
-/
import Derived.Test.YtafmpcaneeplpaaKP
import Derived.Test.YtafmpcaneeplpaaKD
import Derived.Test.YtafmpcaneeplpaaKN
import Derived.Deep.QuietTactic
import Derived.BigQuiet
import Derived.Test.YtafmpcaneeplpaaKR2
import Derived.Test.YtafmpcaneeplpaaKL
import Derived.Deep.CutRange
set_option maxRecDepth 100000
namespace Go.Proofs.Ytafmpcaneeplpaa
open Go.RowKit

/-- What a wire holds when k nodes have been asked. -/
def castL (X : Wd) (n : Nat) (g : Int) (m : M) (k a b : Nat) : List M := if a = n ∧ b < k ∧ (b == n || !hasB X.groups g b) = false then wireL X a b ++ [m] else wireL X a b
/-- A message that may be put onto the wires of node n. -/
structure CastR (X : Wd) (n : Nat) (g : Int) (m : M) : Prop where
  at_ : n < X.nodes.length
  src : m.src = (n : Int)
  grp : m.grp = g
  fine : msgE X.nodes.length X.groups m = 0
theorem castStep_ok {X Y Z : Wd} {n k : Nat} {g : Int} {m : M} (hc : CastR X n g m) (hR : Right Y) (hn : Y.nodes = X.nodes) (hg : Y.groups = X.groups) (hk : k < X.nodes.length) (hs : castStep Y n g k m = (0, Z)) :
    Right Z ∧ Z.nodes = X.nodes ∧ Z.groups = X.groups ∧ ∀ a b, wireL Z a b = if a = n ∧ b = k ∧ (k == n || !hasB X.groups g k) = false then wireL Y a b ++ [m] else wireL Y a b := by
  unfold castStep at hs
  rw [hg] at hs
  split at hs
  · rename_i h1
    cases hs
    exact ⟨hR, hn, hg, fun a b => by rw [if_neg (by rw [h1]; simp)]⟩
  rename_i h1
  split at hs
  · cases hs
  rename_i h2
  split at hs
  · cases hs
  rename_i h3
  have e : Z = wirePut Y n k (wireL Y n k ++ [m]) := by cases hs; rfl
  clear hs
  subst e
  have h1 : (k == n || !hasB X.groups g k) = false := by simpa using h1
  have hnY : n < Y.nodes.length := by rw [hn]; exact hc.at_
  have hkY : k < Y.nodes.length := by rw [hn]; exact hk
  have hW := hR.wire n k hnY hkY
  have hne : n ≠ k := by
    intro e
    subst e
    simp at h1
  have hb : hasB X.groups g k = true := by
    cases h : hasB X.groups g k
    · rw [h] at h1; simp at h1
    · rfl
  have hl : WireR Y.nodes.length Y.groups n k (wireL Y n k ++ [m]) := by
    refine ⟨fun x hx => ?_, ?_, fun x hx => ?_, Or.inl hne, ?_⟩
    · rcases List.mem_append.1 hx with hx | hx
      · exact hW.src x hx
      · rw [List.mem_singleton.1 hx]; exact hc.src
    · rw [List.pairwise_append]
      refine ⟨hW.rise, by simp, fun x hx y hy => ?_⟩
      rw [List.mem_singleton.1 hy]
      obtain ⟨i, hi, rfl⟩ := List.mem_iff_getElem.1 hx
      have h3' : (wireL Y n k)[(wireL Y n k).length - 1].stamp < m.stamp := by
        rw [← getD_lt _ M.zero]
        have := fun h => h3 ⟨by omega, h⟩
        omega
      rcases Nat.lt_or_ge i ((wireL Y n k).length - 1) with h | h
      · have := List.pairwise_iff_getElem.1 hW.rise i ((wireL Y n k).length - 1) hi (by omega) h
        omega
      · have e : i = (wireL Y n k).length - 1 := by omega
        subst e
        exact h3'
    · rcases List.mem_append.1 hx with hx | hx
      · exact hW.fine x hx
      · rw [List.mem_singleton.1 hx, hn, hg]; exact ⟨hc.fine, by rw [hc.grp]; exact hb⟩
    · have := hW.many
      rw [List.length_append]
      simp only [List.length_singleton]
      omega
  refine ⟨hR.setWire hnY hkY hl, hn, hg, fun a b => ?_⟩
  by_cases e : n = a ∧ k = b
  · obtain ⟨rfl, rfl⟩ := e
    rw [wirePut_at (by rw [hR.nw]; exact hnY) (by rw [hR.row n hnY]; exact hkY), if_pos ⟨rfl, rfl, h1⟩]
  · rw [wirePut_ne e, if_neg (fun h => e ⟨h.1.symm, h.2.1.symm⟩)]
theorem castW_ok {X : Wd} {n : Nat} {g : Int} {m : M} (hc : CastR X n g m) (hR : Right X) : ∀ (k : Nat) (Y : Wd), k ≤ X.nodes.length → castW X n g m k = (0, Y) →
    Right Y ∧ Y.nodes = X.nodes ∧ Y.groups = X.groups ∧ ∀ a b, wireL Y a b = castL X n g m k a b
  | 0, Y, _, h => by
    cases h
    exact ⟨hR, rfl, rfl, fun a b => by unfold castL; rw [if_neg (by omega)]⟩
  | k + 1, Z, hk, h => by
    unfold castW at h
    obtain ⟨Y, hY⟩ : ∃ Y, castW X n g m k = (0, Y) := by
      split at h
      · rename_i h0
        exact ⟨(castW X n g m k).2, Prod.ext h0 rfl⟩
      · rename_i h0
        rw [h] at h0
        exact absurd rfl h0
    rw [hY] at h
    simp only [if_pos] at h
    obtain ⟨r1, r2, r3, r4⟩ := castW_ok hc hR k Y (by omega) hY
    obtain ⟨s1, s2, s3, s4⟩ := castStep_ok hc r1 r2 r3 (by omega) h
    refine ⟨s1, s2, s3, fun a b => ?_⟩
    rw [s4, r4]
    unfold castL
    by_cases h1 : a = n ∧ b = k ∧ (k == n || !hasB X.groups g k) = false
    · obtain ⟨rfl, rfl, h1⟩ := h1
      rw [if_pos ⟨rfl, rfl, h1⟩, if_neg (by omega), if_pos ⟨rfl, by omega, h1⟩]
    · rw [if_neg h1]
      by_cases h2 : a = n ∧ b < k ∧ (b == n || !hasB X.groups g b) = false
      · rw [if_pos h2, if_pos ⟨h2.1, by omega, h2.2.2⟩]
      · rw [if_neg h2, if_neg]
        rintro ⟨h3, h4, h5⟩
        rcases Nat.lt_or_ge b k with h | h
        · exact h2 ⟨h3, h, h5⟩
        · obtain rfl : b = k := by omega
          exact h1 ⟨h3, rfl, h5⟩

theorem clockUp_set (X : Wd) (n : Nat) : clockUp X n = nodeSet X n { X.nodes.getD n N.zero with clock := (X.nodes.getD n N.zero).clock + 1 } := rfl
theorem holdW_set (X : Wd) (n : Nat) (m : M) : holdW X n m = nodeSet X n { X.nodes.getD n N.zero with held := putL (X.nodes.getD n N.zero).held m } := rfl
theorem wireL_nodeSet (X : Wd) (n : Nat) (x : N) (a b : Nat) : wireL (nodeSet X n x) a b = wireL X a b := rfl

/-- What it means that a message was sent. -/
structure Sent (X : Wd) (n : Nat) (g : Int) (body : ByteArray) (Y : Wd) : Prop where
  right : Right Y
  len : Y.nodes.length = X.nodes.length
  clock : (Y.nodes.getD n N.zero).clock = (X.nodes.getD n N.zero).clock + 1
  wires : ∀ a b, a < X.nodes.length → b < X.nodes.length → wireL Y a b = if (decide (a = n) && decide (b ≠ n) && hasB X.groups g b) = true then wireL X a b ++ [⟨n, g, (X.nodes.getD n N.zero).clock + 1, false, body⟩] else wireL X a b
  count : (Y.nodes.getD n N.zero).held.length + (Y.nodes.getD n N.zero).told.length = (X.nodes.getD n N.zero).held.length + (X.nodes.getD n N.zero).told.length + 1
theorem castF_ok {X : Wd} {n g : Int} {body : ByteArray} (h : (castF X n g false body).1 = 0) : ∃ k : Nat, n = (k : Int) ∧ k < X.nodes.length ∧ Right X ∧ Sent X k g body (castF X n g false body).2 := by
  unfold castF at h ⊢
  split at h
  rotate_left
  · rename_i h0
    exact absurd h h0
  rename_i hx
  rw [if_pos hx]
  have hR := right_of hx
  unfold castR at h ⊢
  split at h
  rotate_left
  · cases h
  rename_i h1
  rw [if_pos h1]
  split at h
  rotate_left
  · cases h
  rename_i h2
  rw [if_pos h2]
  split at h
  · cases h
  rename_i h3
  rw [if_neg h3]
  split at h
  · cases h
  rename_i h4
  rw [if_neg h4]
  simp only [inB, Bool.and_eq_true, decide_eq_true_eq] at h1
  obtain ⟨k, rfl⟩ := Int.eq_ofNat_of_zero_le h1.1.1
  rw [Int.toNat_natCast] at h h4 ⊢
  have hk : k < X.nodes.length := by omega
  have hNk := hR.node k hk
  have hU : Right (clockUp X k) := by
    rw [clockUp_set]
    refine hR.setNode hk ⟨?_, hNk.len, hNk.rows, hNk.cells, hNk.held, hNk.told⟩
    have := hNk.clock
    show 0 ≤ (X.nodes.getD k N.zero).clock + 1 ∧ (X.nodes.getD k N.zero).clock + 1 ≤ 1048576
    omega
  have hUl : (clockUp X k).nodes.length = X.nodes.length := by rw [clockUp_set, nodeSet_len]
  have hUn : (clockUp X k).nodes.getD k N.zero = { X.nodes.getD k N.zero with clock := (X.nodes.getD k N.zero).clock + 1 } := by rw [clockUp_set, nodeSet_at hk]
  obtain ⟨m, hm⟩ : ∃ m : M, m = ⟨(k : Int), g, (X.nodes.getD k N.zero).clock + 1, false, body⟩ := ⟨_, rfl⟩
  have hC : CastR (clockUp X k) k g m := by
    refine ⟨by rw [hUl]; exact hk, by rw [hm], by rw [hm], ?_⟩
    rw [hUl, show (clockUp X k).groups = X.groups from rfl]
    unfold msgE
    rw [if_pos hR.grp, hm]
    have := hNk.clock
    refine rightE_0a ⟨?_, ?_, ?_, ?_, ?_, ?_⟩ h2 h3 rfl
    · show (0 : Int) ≤ k; omega
    · show (k : Int) < _; omega
    · show 0 ≤ g; omega
    · show g < _; omega
    · show 1 ≤ (X.nodes.getD k N.zero).clock + 1; omega
    · show (X.nodes.getD k N.zero).clock + 1 ≤ 1048576; omega
  simp only [← hm] at h ⊢
  split at h
  rotate_left
  · rename_i h5
    exact absurd h h5
  rename_i h5
  rw [if_pos h5]
  obtain ⟨Y, hY⟩ : ∃ Y, castW (clockUp X k) k g m X.nodes.length = (0, Y) := ⟨_, Prod.ext h5 rfl⟩
  obtain ⟨r1, r2, r3, r4⟩ := castW_ok hC hU X.nodes.length Y (by rw [hUl]; exact Nat.le_refl _) hY
  rw [hY] at h ⊢
  dsimp only at h ⊢
  have hYl : Y.nodes.length = X.nodes.length := by rw [r2, hUl]
  have hYk : k < Y.nodes.length := by rw [hYl]; exact hk
  have hnull : m.null = false := by rw [hm]
  rw [castEnd_hold hnull] at h ⊢
  split at h
  · rename_i h6
    exact absurd h h6
  rename_i h6
  rw [if_neg h6]
  split at h
  · rename_i h7
    exact absurd h h7
  rename_i h7
  rw [if_neg h7]
  have h6 : putE (Y.nodes.getD k N.zero).held m = 0 := by simpa using h6
  have h7 : tellE (holdW Y k m) k = 0 := by simpa using h7
  have hNY := r1.node k hYk
  have hHl : (holdW Y k m).nodes.length = Y.nodes.length := by rw [holdW_set, nodeSet_len]
  have hself : hasB Y.groups m.grp k = true := by rw [r3, hC.grp]; exact h2
  have hH : Right (holdW Y k m) := by
    rw [holdW_set]
    refine r1.setNode hYk ⟨hNY.clock, hNY.len, hNY.rows, hNY.cells, putL_right hNY.held h6 ⟨hnull, ?_, hself⟩, hNY.told⟩
    have := hC.fine
    rw [hUl] at this
    rw [hYl, r3]
    exact this
  have hHk : k < (holdW Y k m).nodes.length := by rw [hHl]; exact hYk
  have hT := tellW_right hH hHk h7
  refine ⟨k, rfl, hk, hR, hT, ?_, ?_, fun a b ha hb => ?_, ?_⟩
  · show (tellW (holdW Y k m) k).nodes.length = _
    rw [tellW_set, nodeSet_len, hHl, hYl]
  · show ((tellW (holdW Y k m) k).nodes.getD k N.zero).clock = _
    rw [tellW_at hHk]
    show ((holdW Y k m).nodes.getD k N.zero).clock = _
    rw [(holdW_at hYk).2]
    show (Y.nodes.getD k N.zero).clock = _
    rw [r2, hUn]
  · show wireL Y a b = _
    rw [r4]
    unfold castL
    rw [← hm]
    show (if a = k ∧ b < X.nodes.length ∧ (b == k || !hasB X.groups g b) = false then wireL X a b ++ [m] else wireL X a b) = _
    congr 1
    simp [hb]
    rw [and_assoc]
  · show ((tellW (holdW Y k m) k).nodes.getD k N.zero).held.length + ((tellW (holdW Y k m) k).nodes.getD k N.zero).told.length = _
    have := congrArg List.length (tell_all hH hHk)
    rw [List.length_append, List.length_append] at this
    have e1 : ((holdW Y k m).nodes.getD k N.zero).told.length = (X.nodes.getD k N.zero).told.length := by
      rw [(holdW_at hYk).2]
      show (Y.nodes.getD k N.zero).told.length = _
      rw [r2, hUn]
    have e2 : ((holdW Y k m).nodes.getD k N.zero).held.length = (X.nodes.getD k N.zero).held.length + 1 := by
      rw [(holdW_at hYk).2]
      show (putL (Y.nodes.getD k N.zero).held m).length = _
      rw [(putE_zero h6).2.2.2, putM_len, r2, hUn]
    omega
end Go.Proofs.Ytafmpcaneeplpaa

set_option maxRecDepth 100000
namespace Go.Proofs.Ytafmpcaneeplpaa
open Go.RowKit Go.Shelf Go.BigFrame

section
variable {P : Program} {md : Region.Mode} {Q : Exit → Act → World → Prop}
theorem N_quiet {l : List Oper} (k f : Nat) {m : Nat} {listed : Array Bool} {a : Act} {w : World} (hf : l.length - k = f) (hs : Region.noSelect l.toArray = true) (hB : Region.lexFrom md l.toArray f k listed = true)
    (h : wpQuiet P l.toArray (fun w' => ∃ n, w' = w.drewN n) (fun a' => ∀ w', (∃ n, w' = w.drewN n) → Q .normal a' w') (l.drop k) a) : wpAnyN P md l.toArray Q (fun _ => True) m f listed a w := by
  have hl : (l.drop k).length = f := by simp [hf]
  have := wpAnyQ_lex (C := fun w' => ∃ n, w' = w.drewN n) (md := md) (P := P) hs (l.drop k) k listed a (fun j => by simp [List.getElem?_drop]) (by rw [hl]; exact hB) h
  rw [hl] at this
  exact N_of_wpAny _ _ _ _ (wpAny_of_quiet (Q := fun a' => ∀ w', (∃ n, w' = w.drewN n) → Q .normal a' w') (fun _ w' hw' h => h w' hw') _ _ _ _ ⟨0, rfl⟩ this)
end
end Go.Proofs.Ytafmpcaneeplpaa

set_option maxRecDepth 100000
namespace Go.Proofs.Ytafmpcaneeplpaa
open Go.RowKit Go.Shelf Go.BigFrame

set_option maxHeartbeats 2000000 in
theorem CastTrue_walk_of (w : World) {v : Value} {X : Wd} {n g : Int} {body : ByteArray} (hW : WorldAt w v X) (hn64 : I64 n) (hg64 : I64 g) (hbd : body.size ≤ 140737488351232) :
    Calls Try.prog 11 #[v, .int .i64 n, .int .i64 g, .string body] w (GivesB (.bool true) w) := by
  have hW0 := hW
  obtain ⟨gv, nv, wv, rfl, hg, hn, hw⟩ := hW
  obtain ⟨_, na, ncap, rfl, _⟩ := hn.form
  obtain ⟨_, ga, gcap, rfl, _⟩ := hg.open
  obtain ⟨_, wa, wcap, rfl, _⟩ := hw.form
  have hB := OBox.new w 26 (.slice ga X.groups.length gcap) (.slice na X.nodes.length ncap) (.slice wa X.wires.length wcap)
  have b1 := below_a1 w (.cells #[.slice ga X.groups.length gcap, .slice na X.nodes.length ncap, .slice wa X.wires.length wcap] 26)
  have hP1 := Send_c (hW0.below b1) n g body hn64 hg64 hbd
  obtain ⟨r, hr⟩ : ∃ r, castF X n g false body = r := ⟨_, rfl⟩
  rw [hr] at hP1
  go_enter Try.func11, Try.ntmps11
  go_upto_region 1 with fail
  generalize w.alloc (.cells #[.slice ga X.groups.length gcap, .slice na X.nodes.length ncap, .slice wa X.wires.length wcap] 26) = w1 at *
  obtain ⟨_, x0, x1, x2⟩ := id hB
  go_wp2_with fail
  refine hP1.mono ?_
  rintro e w2 ⟨gv2, nv2, wv2, S2, rfl, hO2, hS2, b2⟩
  obtain ⟨pg, pn, pw⟩ := hO2.parts
  obtain ⟨_, ga2, gcap2, rfl, _⟩ := pg.open
  obtain ⟨_, na2, ncap2, rfl, _⟩ := pn.form
  obtain ⟨_, wa2, wcap2, rfl, _⟩ := pw.form
  clear pg pn pw
  have hR2 := OBox.new w2 26 (.slice ga2 r.2.groups.length gcap2) (.slice na2 r.2.nodes.length ncap2) (.slice wa2 r.2.wires.length wcap2)
  have bx2 := below_a1 w2 (.cells #[.slice ga2 r.2.groups.length gcap2, .slice na2 r.2.nodes.length ncap2, .slice wa2 r.2.wires.length wcap2] 26)
  have hW2 := hO2.world.below bx2
  clear x0 x1 x2
  have b23 := below_trans b2 bx2
  have hB3 := hB.keep (b23.block _ hB.lt)
  have b3 := below_trans b1 b23
  by_cases he : r.1 = 0
  rotate_left
  · have hne : (r.1 != 0) = true := by simpa using he
    replace he := Lib.hid he
    go_upto_region 3 with fail
    generalize w2.alloc (.cells #[.slice ga2 r.2.groups.length gcap2, .slice na2 r.2.nodes.length ncap2, .slice wa2 r.2.wires.length wcap2] 26) = w3 at *
    go_wp2_with fail
    refine (castBegun_c w3).mono ?_
    rintro e w4 ⟨rfl, b4⟩
    go_wp2_with fail
    go_ret
    exact ⟨ret_bool (by simp), below_trans b3 b4⟩
  obtain ⟨k, rfl, hk, hRt, hS⟩ := castF_ok (by rw [hr]; exact he)
  rw [hr] at hS
  have hrr : r = (0, r.2) := Prod.ext he rfl
  generalize r.2 = Y at *
  subst hrr
  have hXe := hRt.err
  have hYe := hS.right.err
  have hYl := hS.len
  have hYw := hS.right.nw
  have hXw := hRt.nw
  have hYc := hS.clock
  have hYk := hS.count
  clear hr hP1 b2 bx2 b23 he
  dsimp only at *
  rw [hYl] at hR2 hW2 hB3 b3 hYw
  rw [hYw] at hR2 hW2 hB3 b3
  rw [hXw] at hB hB3
  go_upto_region 2 with fail
  rw [hYl, hYw]
  generalize w2.alloc (.cells #[.slice ga2 Y.groups.length gcap2, .slice na2 X.nodes.length ncap2, .slice wa2 X.nodes.length wcap2] 26) = w3 at *
  obtain ⟨B2, hB2⟩ : ∃ B, w2.heap.size = B := ⟨_, rfl⟩
  simp only [hB2] at hR2 ⊢
  clear hB2 hO2 hS2 hB b1
  rw [hXw] at hW0
  have hC := WorldError_c (hW0.below b3)
  rw [hXe] at hC
  obtain ⟨_, x0, x1, x2⟩ := id hB3
  go_wp2_with fail
  refine hC.mono ?_
  rintro e w4 ⟨rfl, b4⟩
  clear x0 x1 x2 hC
  have hB4 := hB3.keep (b4.block _ hB3.lt)
  have hR4 := hR2.keep (b4.block _ hR2.lt)
  have hW4 := hW2.below b4
  have b4 := below_trans b3 b4
  clear hB3 hR2 hW2 b3
  obtain ⟨_, x0, x1, x2⟩ := id hB4
  have hkn : decide ((k : Int) < 0) = false := by simp
  have hkl : decide (X.nodes.length ≤ k) = false := by simp; omega
  go_upto_region 4 with fail
  have hC := WCheck_c hW4
  rw [hYe] at hC
  obtain ⟨_, y0, y1, y2⟩ := id hR4
  have bd := below_drewN w4 1
  refine wp_region_N (fun _ => True) 0 28 rfl (by kernel_rfl) trivial (fun _ => ?_)
  refine N_one' (i := 0) (by kernel_rfl) rfl ?_
  go_wp2_with fail
  refine QK_normal ⟨fun _ => trivial, ?_⟩
  refine N_one' (i := 1) (by kernel_rfl) rfl ?_
  have hC := WCheck_c (hW4.below bd)
  rw [hYe] at hC
  go_wp2_with fail
  refine hC.mono ?_
  rintro e w5 ⟨rfl, b5⟩
  go_wp2_with fail
  refine QK_normal ⟨fun _ => trivial, ?_⟩
  have b5 := below_trans bd b5
  clear x0 x1 x2 y0 y1 y2 hC bd
  have hB5 := hB4.keep (b5.block _ hB4.lt)
  have hR5 := hR4.keep (b5.block _ hR4.lt)
  have hW5 := hW4.below b5
  have b5 := below_trans b4 b5
  clear hB4 hR4 hW4 b4
  obtain ⟨_, _, _, e1, _, hnY, _⟩ := id hW5
  cases e1
  obtain ⟨b0, o0, c0, lv, hv, tv, e1, hc1, k0, k1, k2, k3, hk64, _, hh, htt⟩ := (hn.below b5).at hk
  cases e1
  obtain ⟨_, ha, hcap, rfl, _⟩ := hh.open
  obtain ⟨_, ta, tcap, rfl, _⟩ := htt.open
  obtain ⟨d0, p0, f0, lv2, hv2, tv2, e1, hf1, j0, j1, j2, j3, hj64, _, hh2, htt2⟩ := hnY.at (n := k) (by rw [hYl]; exact hk)
  rw [hYl] at e1
  cases e1
  obtain ⟨_, hb, hbcap, rfl, _⟩ := hh2.open
  obtain ⟨_, tb, tbcap, rfl, _⟩ := htt2.open
  clear hh htt hh2 htt2 hnY
  rw [hYc] at j0 hj64
  obtain ⟨_, x0, x1, x2⟩ := id hB5
  obtain ⟨_, y0, y1, y2⟩ := id hR5
  obtain ⟨x, HX⟩ : ∃ x, X.nodes.getD k N.zero = x := ⟨_, rfl⟩
  obtain ⟨y, HY⟩ : ∃ y, Y.nodes.getD k N.zero = y := ⟨_, rfl⟩
  have hSw := hS.wires
  have hmx1 := (hRt.node k hk).held.many
  have hmx2 := (hRt.node k hk).told.many
  have hmy1 := (hS.right.node k (by rw [hYl]; exact hk)).held.many
  have hmy2 := (hS.right.node k (by rw [hYl]; exact hk)).told.many
  simp only [HX, HY] at *
  clear HX HY
  have hw64 : IntKind.i64.wrap (x.clock + 1) = x.clock + 1 := IntWalk.i64_in _ hj64
  refine N_quiet 2 26 rfl (by kernel_rfl) (by kernel_rfl) ?_
  simp only [List.drop_succ_cons, List.drop_zero]
  repeat (go_big_quiet_step (fail))
  refine wpQuiet_nil ?_
  intro _ hw'
  obtain ⟨nq, hw''⟩ := hw'
  subst hw''
  go_upto_region 6 with fail
  clear x0 x1 x2 y0 y1 y2
  have bq := below_drewN w5 nq
  have hB6 := hB5.keep (bq.block _ hB5.lt)
  have hR6 := hR5.keep (bq.block _ hR5.lt)
  have hW6 := hW5.below bq
  have hj0 := cell_lt j0
  have hk0 := cell_lt k0
  dsimp only at hj0 hk0
  have j0 := (bq.cell (p := ⟨d0, p0 + k * 4, none⟩) hj0).trans j0
  have j2 := (bq.cell (p := ⟨d0, p0 + k * 4 + 2, none⟩) hj0).trans j2
  have j3 := (bq.cell (p := ⟨d0, p0 + k * 4 + 3, none⟩) hj0).trans j3
  have k2 := (bq.cell (p := ⟨b0, o0 + k * 4 + 2, none⟩) hk0).trans k2
  have k3 := (bq.cell (p := ⟨b0, o0 + k * 4 + 3, none⟩) hk0).trans k3
  have b6 := below_trans b5 bq
  clear bq b5 hB5 hR5 hW5 k0 k1 j1
  generalize w5.drewN nq = w6 at *
  obtain ⟨_, y0, y1, y2⟩ := id hR6
  go_wp2_with fail
  refine (say_c _ k g (x.clock + 1) body).mono ?_
  rintro e w7 ⟨rfl, b7⟩
  unfold M.val
  have hm := Msgs.lit w7 [⟨k, g, x.clock + 1, false, body⟩] (by intro q hq; rw [List.mem_singleton.1 hq]; exact ⟨hn64, hg64, hj64, hbd⟩) (by simp) #[.int .i64 k, .int .i64 g, .int .i64 (x.clock + 1), .bool false, .string body] rfl
  have bq := below_trans b7 (below_a1 w7 (.cells #[.int .i64 k, .int .i64 g, .int .i64 (x.clock + 1), .bool false, .string body] 48))
  go_upto_region 7 with fail
  generalize w7.alloc (.cells #[.int .i64 k, .int .i64 g, .int .i64 (x.clock + 1), .bool false, .string body] 48) = w8 at *
  obtain ⟨C, hC⟩ : ∃ C, w7.heap.size = C := ⟨_, rfl⟩
  simp only [hC] at hm ⊢
  clear hC y0 y1 y2 b7
  have hB8 := hB6.keep (bq.block _ hB6.lt)
  have hR8 := hR6.keep (bq.block _ hR6.lt)
  have hW8 := hW6.below bq
  have j2 := (bq.cell (p := ⟨d0, p0 + k * 4 + 2, none⟩) (cell_lt j2)).trans j2
  have j3 := (bq.cell (p := ⟨d0, p0 + k * 4 + 3, none⟩) (cell_lt j3)).trans j3
  have k2 := (bq.cell (p := ⟨b0, o0 + k * 4 + 2, none⟩) (cell_lt k2)).trans k2
  have k3 := (bq.cell (p := ⟨b0, o0 + k * 4 + 3, none⟩) (cell_lt k3)).trans k3
  have b8 := below_trans b6 bq
  clear bq b6 hB6 hR6 hW6 j0
  obtain ⟨_, _, _, e1, _, hmc⟩ := hm.open
  cases e1
  obtain ⟨_, _, e1, hmz⟩ := hmc (by simp)
  cases e1
  have hmz := hmz 0 (by simp)
  clear hmc
  obtain ⟨i0, hi0, hz0, hz1, hz2⟩ := info_parts infoCMsg
  obtain ⟨_, _, _, e1, hgX, hnX, hwX⟩ := id (hW0.below b8)
  cases e1
  obtain ⟨_, _, _, e1, hgY, hnY, hwY⟩ := id hW8
  cases e1
  clear hW0 hW8 hg hn hw hnX hnY hgY
  go_wp2_with fail
  go_loopw [12] (fun i wr => ∃ a : Nat, a ≤ X.nodes.length ∧ i = .int .i64 a ∧ Below w8.heap.size w8 wr) (fun i _ => X.nodes.length - (intOf i).toNat)
  case atStart => exact ⟨0, by omega, rfl, Below.refl _ w8⟩
  case round =>
    obtain ⟨a, ha0, rfl, hb⟩ := hrel
    have hBr := hB8.keep (hb.block _ hB8.lt)
    have hRr := hR8.keep (hb.block _ hR8.lt)
    obtain ⟨_, x0, x1, x2⟩ := id hBr
    obtain ⟨_, y0, y1, y2⟩ := id hRr
    by_cases hlt : a < X.nodes.length
    · obtain ⟨b1, o1, c1, u1, e1, _, k4, hr1⟩ := (hwX.below hb).row (a := a) (by rw [hXw]; exact hlt)
      rw [hXw] at e1
      cases e1
      obtain ⟨b2, o2, c2, u2, e1, _, k5, hr2⟩ := (hwY.below hb).row (a := a) (by rw [hYw]; exact hlt)
      rw [hYw] at e1
      cases e1
      have hlX := hRt.row a hlt
      have hlY := hS.right.row a (by rw [hYl]; exact hlt)
      rw [hYl] at hlY
      obtain ⟨_, a1, cap1, rfl, _⟩ := hr1.form
      obtain ⟨_, a2, cap2, rfl, _⟩ := hr2.form
      rw [hlX] at k4 hr1
      rw [hlY] at k5 hr2
      obtain ⟨wo, hwo⟩ : ∃ wo : World, wo = wr := ⟨_, rfl⟩
      subst hwo
      have hbK := Lib.hid hb
      go_wp2_with fail
      go_loopw [13] (fun i wr => ∃ b : Nat, b ≤ X.nodes.length ∧ i = .int .i64 b ∧ Below wo.heap.size wo wr) (fun i _ => X.nodes.length - (intOf i).toNat)
      case atStart => exact ⟨0, by omega, rfl, Below.refl _ wo⟩
      case round =>
        obtain ⟨b, hb0, rfl, hb⟩ := hrel
        clear x0 x1 x2 y0 y1 y2
        have hs0 := hb.size
        have hBr := hBr.keep (hb.block _ hBr.lt)
        have hRr := hRr.keep (hb.block _ hRr.lt)
        obtain ⟨_, x0, x1, x2⟩ := id hBr
        obtain ⟨_, y0, y1, y2⟩ := id hRr
        have k4 := (hb.cell (p := ⟨b1, o1 + a, none⟩) (cell_lt k4)).trans k4
        have k5 := (hb.cell (p := ⟨b2, o2 + a, none⟩) (cell_lt k5)).trans k5
        by_cases hltb : b < X.nodes.length
        · obtain ⟨b3, o3, c3, v3, e3, _, s1, hI3⟩ := (hr1.below hb).at (a := b) (by rw [hlX]; exact hltb)
          rw [hlX] at e3
          cases e3
          obtain ⟨b4, o4, c4, v4, e4, _, s2, hI4⟩ := (hr2.below hb).at (a := b) (by rw [hlY]; exact hltb)
          rw [hlY] at e4
          cases e4
          have hm40 := (hRt.wire a b hlt hltb).many
          have hsw := hSw a b hlt hltb
          unfold wireL at hm40 hsw
          obtain ⟨l, HL⟩ : ∃ l, (X.wires.getD a []).getD b [] = l := ⟨_, rfl⟩
          obtain ⟨l2, HL2⟩ : ∃ l, (Y.wires.getD a []).getD b [] = l := ⟨_, rfl⟩
          rw [HL] at hI3 hm40 hsw
          rw [HL2] at hI4 hsw
          clear HL HL2
          obtain ⟨_, a3, cap3, rfl, _⟩ := hI3.open
          obtain ⟨_, a4, cap4, rfl, _⟩ := hI4.open
          have bz := below_a1 wr (.cells #[] 48)
          have x2b := (bz.cell (p := ⟨w.heap.size, 2, none⟩) (cell_lt x2)).trans x2
          have k4b := (bz.cell (p := ⟨b1, o1 + a, none⟩) (cell_lt k4)).trans k4
          have s1b := (bz.cell (p := ⟨b3, o3 + b, none⟩) (cell_lt s1)).trans s1
          go_upto_region 14 with (at_builtin; refine wpList_append_row _ rfl _ _ 39 rfl wr.heap.size 48 i0 _ 5 48 Try.underlying39 hi0 hz0 hz1 hz2 rfl (by decide) (.slice (some ⟨wr.heap.size, 0, none⟩) 0 0) 0 [] rfl (World.ownsRow_made _ #[] 0 (Nat.le_refl _) (by simp [maxLen]) (by simp)) _ _ _ rfl (hI3.below bz).2 (one_flat _) (by unfold maxLen; omega) (by omega) (by rw [World.size_alloc]; omega) ?_; intro vc wc hownc hgrowc hatc; simp only [Nat.zero_add, List.nil_append] at hownc; obtain ⟨ac, cc, rfl⟩ := own_form hownc)
          have bc : Below wr.heap.size wr wc := bz.trans (below_row hgrowc (fun k hk => by cases hk; exact Nat.le_refl _) (by rw [World.size_alloc]; omega))
          clear bz hgrowc hatc x2b k4b s1b x1 x2 y0 y1
          have b9 := below_trans (below_trans hbK.out hb) bc
          have hHas := Has_c (hgX.below b9) g b
          have hKeep : ∀ W, Below wr.heap.size wr W → W.cell? ⟨B2, 2, none⟩ = some (.slice (some ⟨b2, o2, none⟩) X.nodes.length wcap2) ∧ W.cell? ⟨b2, o2 + a, none⟩ = some (.slice (some ⟨b4, o4, none⟩) X.nodes.length cap2) ∧ W.cell? ⟨b4, o4 + b, none⟩ = some (.slice a4 l2.length cap4) ∧ Msgs W (.slice a4 l2.length cap4) l2 :=
            fun W h => ⟨(h.cell (p := ⟨B2, 2, none⟩) (cell_lt y2)).trans y2, (h.cell (p := ⟨b2, o2 + a, none⟩) (cell_lt k5)).trans k5, (h.cell (p := ⟨b4, o4 + b, none⟩) (cell_lt s2)).trans s2, hI4.below h⟩
          replace hKeep := Lib.hid hKeep
          have x0 := (bc.cell (p := ⟨w.heap.size, 0, none⟩) (cell_lt x0)).trans x0
          have y2 := (bc.cell (p := ⟨B2, 2, none⟩) (cell_lt y2)).trans y2
          have k5 := (bc.cell (p := ⟨b2, o2 + a, none⟩) (cell_lt k5)).trans k5
          have s2 := (bc.cell (p := ⟨b4, o4 + b, none⟩) (cell_lt s2)).trans s2
          have hI4 := hI4.below bc
          have hA : MsgsOwn wc wr.heap.size (.slice ac l.length cc) l := ⟨hI3.1, hownc⟩
          clear s1 k4 hI3
          by_cases h1 : a = k
          · have h1b : ((a : Int) == (k : Int)) = true := by simp [h1]
            by_cases h2 : b = k
            · have h2b : ((b : Int) != (k : Int)) = false := by simp [h2]
              have e : l2 = l := by rw [hsw, if_neg (by simp [h1, h2])]
              subst e
              clear h1 h2 hsw
              go_upto_region 16 with fail
              have hS9 := SameMsgs_c hI4 (hA.msgs (by omega))
              rw [sameMs_self] at hS9
              go_wp2_with fail
              refine hS9.mono ?_
              rintro e w9 ⟨rfl, d9⟩
              have bz9 := below_trans (below_trans hb bc) d9.below
              go_wp2_with fail
              go_roundw
              case rel => exact ⟨b + 1, by omega, by go_num, bz9⟩
              case measure => simp [intOf]; omega
            · have h2b : ((b : Int) != (k : Int)) = true := by simp; omega
              replace h1 := Lib.hid h1
              go_wp2_with fail
              refine hHas.mono ?_
              rintro e w' ⟨rfl, hw'⟩
              subst hw'
              cases h3 : hasB X.groups g b
              · skip
                have e : l2 = l := by rw [hsw, if_neg (by simp [h1.out, h2, h3])]
                subst e
                clear h1 h2 h3 hsw
                go_upto_region 16 with fail
                have hS9 := SameMsgs_c hI4 (hA.msgs (by omega))
                rw [sameMs_self] at hS9
                go_wp2_with fail
                refine hS9.mono ?_
                rintro e w9 ⟨rfl, d9⟩
                have bz9 := below_trans (below_trans hb bc) d9.below
                go_wp2_with fail
                go_roundw
                case rel => exact ⟨b + 1, by omega, by go_num, bz9⟩
                case measure => simp [intOf]; omega
              · have e : l2 = l ++ [⟨k, g, x.clock + 1, false, body⟩] := by rw [hsw, if_pos (by simp [h1.out, h2, h3])]
                subst e
                clear hsw h1 h2 h3
                obtain ⟨z0, z1, z2, z3, z4⟩ := hmz
                simp only [Nat.zero_mul, Nat.zero_add, List.getD_cons_zero] at z0 z1 z2 z3 z4
                have z0 := (b9.cell (p := ⟨C, 0, none⟩) (cell_lt z0)).trans z0
                have z1 := (b9.cell (p := ⟨C, 1, none⟩) (cell_lt z1)).trans z1
                have z2 := (b9.cell (p := ⟨C, 2, none⟩) (cell_lt z2)).trans z2
                have z3 := (b9.cell (p := ⟨C, 3, none⟩) (cell_lt z3)).trans z3
                have z4 := (b9.cell (p := ⟨C, 4, none⟩) (cell_lt z4)).trans z4
                have hcw := bc.size
                have bl := below_a1 wc (.cells #[.int .i64 k, .int .i64 g, .int .i64 (x.clock + 1), .bool false, .string body] 48)
                have hlit := Msgs.lit wc [⟨k, g, x.clock + 1, false, body⟩] (by intro q hq; rw [List.mem_singleton.1 hq]; exact ⟨hn64, hg64, hj64, hbd⟩) (by simp) #[.int .i64 k, .int .i64 g, .int .i64 (x.clock + 1), .bool false, .string body] rfl
                have hown2 := hownc.alloc (.cells #[.int .i64 k, .int .i64 g, .int .i64 (x.clock + 1), .bool false, .string body] 48)
                go_upto_region 16 with (at_builtin; refine wpList_append_row _ rfl _ _ 39 rfl wr.heap.size 48 i0 _ 5 48 Try.underlying39 hi0 hz0 hz1 hz2 rfl (by decide) _ _ _ rfl hown2 _ _ _ rfl hlit.2 (one_flat _) (by simp; unfold maxLen; omega) (by simp; omega) (by rw [World.size_alloc]; omega) ?_; intro vd wd hownd hgrowd hatd; rw [← List.flatMap_append] at hownd; obtain ⟨ad, cd, rfl⟩ := own_form hownd)
                have bd : Below wr.heap.size wr wd := (bc.alloc hcw _).trans (below_row hgrowd (fun k hk => (hownc.lt k hk).1) (by rw [World.size_alloc]; omega))
                have hA2 : MsgsOwn wd wr.heap.size (.slice ad (l.length + 1) cd) (l ++ [⟨k, g, x.clock + 1, false, body⟩]) := ⟨fun q hq => (List.mem_append.1 hq).elim (hA.1 q) (fun h => by rw [List.mem_singleton.1 h]; exact ⟨hn64, hg64, hj64, hbd⟩), by simpa using hownd⟩
                obtain ⟨y2d, k5d, s2d, hI4d⟩ := hKeep.out wd bd
                simp only [List.length_append, List.length_singleton] at s2d hI4d
                clear hgrowd hatd hown2 hlit bl z0 z1 z2 z3 z4 x0 y2 k5 s2 hI4 hA hownc
                have hS9 := SameMsgs_c hI4d (hA2.msgs (by simp; omega))
                rw [sameMs_self] at hS9
                go_wp2_with fail
                refine hS9.mono ?_
                rintro e w9 ⟨rfl, d9⟩
                have bz9 := below_trans (below_trans hb bd) d9.below
                go_wp2_with fail
                go_roundw
                case rel => exact ⟨b + 1, by omega, by go_num, bz9⟩
                case measure => simp [intOf]; omega
          · have h1b : ((a : Int) == (k : Int)) = false := by simp; omega
            have e : l2 = l := by rw [hsw, if_neg (by simp [h1])]
            subst e
            clear h1 hsw
            go_upto_region 16 with fail
            have hS9 := SameMsgs_c hI4 (hA.msgs (by omega))
            rw [sameMs_self] at hS9
            go_wp2_with fail
            refine hS9.mono ?_
            rintro e w9 ⟨rfl, d9⟩
            have bz9 := below_trans (below_trans hb bc) d9.below
            go_wp2_with fail
            go_roundw
            case rel => exact ⟨b + 1, by omega, by go_num, bz9⟩
            case measure => simp [intOf]; omega
        · obtain rfl : b = X.nodes.length := by omega
          go_wp2_with fail
          go_roundw
          case rel => exact ⟨a + 1, by omega, by go_num, below_trans hbK.out hb⟩
          case measure => simp [intOf]; omega
    · obtain rfl : a = X.nodes.length := by omega
      have q1 : IntKind.i64.wrap ((y.held.length : Int) + (y.told.length : Int)) = (y.held.length : Int) + (y.told.length : Int) := IntWalk.i64_in _ (by omega)
      have q2 : IntKind.i64.wrap ((x.held.length : Int) + (x.told.length : Int)) = (x.held.length : Int) + (x.told.length : Int) := IntWalk.i64_in _ (by omega)
      have q3 : IntKind.i64.wrap ((x.held.length : Int) + (x.told.length : Int) + 1) = (x.held.length : Int) + (x.told.length : Int) + 1 := IntWalk.i64_in _ (by omega)
      have q4 : ((y.held.length : Int) + (y.told.length : Int) == (x.held.length : Int) + (x.told.length : Int) + 1) = true := by simp; omega
      clear hmx1 hmx2 hmy1 hmy2 hYk
      have j2 := (hb.cell (p := ⟨d0, p0 + k * 4 + 2, none⟩) (cell_lt j2)).trans j2
      have j3 := (hb.cell (p := ⟨d0, p0 + k * 4 + 3, none⟩) (cell_lt j3)).trans j3
      have k2 := (hb.cell (p := ⟨b0, o0 + k * 4 + 2, none⟩) (cell_lt k2)).trans k2
      have k3 := (hb.cell (p := ⟨b0, o0 + k * 4 + 3, none⟩) (cell_lt k3)).trans k3
      go_wp2_with fail
      clear x0 x1 x2 y0 y1 y2
      have bd := below_drewN wr 1
      refine wp_region_N (fun _ => True) 0 36 rfl (by kernel_rfl) trivial (fun _ => ?_)
      refine N_one' (i := 0) (by kernel_rfl) rfl ?_
      go_wp2_with fail
      refine (castBegun_c _).mono ?_
      rintro e w9 ⟨rfl, b9⟩
      go_wp2_with fail
      refine QK_normal ⟨fun _ => trivial, ?_⟩
      refine N_one' (i := 1) (by kernel_rfl) rfl ?_
      go_wp2_with fail
      refine QK_normal ⟨fun _ => trivial, ?_⟩
      have bz := below_trans bd b9
      have j2 := (bz.cell (p := ⟨d0, p0 + k * 4 + 2, none⟩) (cell_lt j2)).trans j2
      have j3 := (bz.cell (p := ⟨d0, p0 + k * 4 + 3, none⟩) (cell_lt j3)).trans j3
      have k2 := (bz.cell (p := ⟨b0, o0 + k * 4 + 2, none⟩) (cell_lt k2)).trans k2
      have k3 := (bz.cell (p := ⟨b0, o0 + k * 4 + 3, none⟩) (cell_lt k3)).trans k3
      have hBz := hBr.keep (bz.block _ hBr.lt)
      have hRz := hRr.keep (bz.block _ hRr.lt)
      have bz := below_trans (below_trans b8 hb) bz
      clear bd b9 hBr hRr
      obtain ⟨_, x0, x1, x2⟩ := id hBz
      obtain ⟨_, y0, y1, y2⟩ := id hRz
      refine N_quiet 2 34 rfl (by kernel_rfl) (by kernel_rfl) ?_
      simp only [List.drop_succ_cons, List.drop_zero]
      repeat (go_big_quiet_step (fail))
      refine wpQuiet_nil ?_
      intro _ hw'
      obtain ⟨nq, hw''⟩ := hw'
      subst hw''
      go_wp2_with fail
      go_ret
      exact ⟨ret_bool (by simp), below_trans bz (below_drewN _ _)⟩
end Go.Proofs.Ytafmpcaneeplpaa
