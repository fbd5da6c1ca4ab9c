/-
  The laws of groups, walked.
-/
import Derived.Test.YtkbdnbipjepcaaaGR
namespace Go.Proofs.Ytkbdnbipjepcaaa
open Go.RowKit Go.Shelf

set_option maxHeartbeats 400000 in
theorem GroupsTells_walk (w : World) (v : Value) (nodes g n : Int) (xs : List Int) (h : Ints w v xs) :
    Calls Try.prog 3 #[.int .i64 nodes, v, .int .i64 g, .int .i64 n] w (GivesB (.bool true) w) := by
  go_enter Try.func3, Try.ntmps3
  go_wp2_with fail
  refine (groupsBegun_c _).mono ?_
  rintro e1 w1 ⟨rfl, b1⟩
  have h1 := h.below b1
  have hc := Check_c h1 nodes
  generalize hr : gErr nodes xs = r at hc
  have HR := Lib.hid hr
  clear hr
  go_wp2_with fail
  refine hc.mono ?_
  rintro e2 w2 ⟨rfl, b2⟩
  have h2 := h1.below b2
  have hc2 := GroupsError_c h2 nodes
  rw [HR.out] at hc2
  clear hc
  go_wp2_with fail
  refine hc2.mono ?_
  rintro e3 w3 ⟨rfl, d3⟩
  have h3 := h2.below d3.below
  clear hc2
  have hc3 := Has_c h3 g n
  have hc4 := HasOf_c h3 g n
  generalize hasB xs g n = r2 at hc3 hc4
  go_wp2_with fail
  refine hc3.mono ?_
  rintro e4 w4 ⟨rfl, rfl⟩
  clear hc3
  go_wp2_with fail
  refine hc4.mono ?_
  rintro e5 w5 ⟨rfl, rfl⟩
  go_wp2_with fail
  go_ret
  exact givesB_bool (below_trans b1 (below_trans b2 d3.below)) (by simp)
theorem GroupsTells_walk_of (w : World) {v : Value} {nodes g n : Int} {xs : List Int} (_ : I64 nodes) (h : Ints w v xs) (_ : I64 g) (_ : I64 n) :
    Calls Try.prog 3 #[.int .i64 nodes, v, .int .i64 g, .int .i64 n] w (GivesB (.bool true) w) := GroupsTells_walk w v nodes g n xs h
set_option maxHeartbeats 400000 in
theorem GroupsOf_walk_of (w : World) {v : Value} {xs : List Int} {x y : Int} (h : Ints w v xs) (hx : I64 x) (hy : I64 y) :
    Calls Try.prog 4 #[v, .int .i64 x, .int .i64 y] w (GivesB (.bool true) w) := by
  have hl := h.open.1
  go_enter Try.func4, Try.ntmps4
  go_wp2_with fail
  refine (groupsBegun_c _).mono ?_
  rintro e1 w1 ⟨rfl, b1⟩
  have h1 := h.below b1
  go_wp2_with fail
  refine (Of_c h1 x hx).mono ?_
  rintro e2 w2 ⟨v2, rfl, i2, b2⟩
  have h2 := h1.below b2
  go_wp2_with fail
  refine (GroupsOf_c h2 x).mono ?_
  rintro e3 w3 ⟨v3, rfl, o3, b3⟩
  have i3 : Ints w3 v3 (both xs [x] xs.length) := ⟨both_i64 hl, Row.of_owns o3 (by have := both_len xs [x] xs.length; rw [List.length_map]; omega)⟩
  clear o3
  have h3 := h2.below b3
  have hs := SameInts_c (i2.below b3) i3
  rw [decide_eq_true rfl] at hs
  go_wp2_with fail
  refine hs.mono ?_
  rintro e4 w4 ⟨rfl, d4⟩
  clear hs
  have h4 := h3.below d4.below
  have hc := Share_c h4 x y hx hy
  generalize hr : (!(both xs [x, y] xs.length).isEmpty) = r at hc
  have HR := Lib.hid hr
  clear hr
  go_wp2_with fail
  refine hc.mono ?_
  rintro e5 w5 ⟨rfl, b5⟩
  clear hc
  have hc := ShareOf_c (h4.below b5) x y
  rw [HR.out] at hc
  go_wp2_with fail
  refine hc.mono ?_
  rintro e6 w6 ⟨rfl, rfl⟩
  go_wp2_with fail
  go_ret
  exact givesB_bool (below_trans b1 (below_trans b2 (below_trans b3 (below_trans d4.below b5)))) (by simp)
theorem both_sat {xs ns : List Int} {k : Nat} {x : Int} : x ∈ both xs ns k ↔ 0 ≤ x ∧ x < k ∧ (ns.any fun n => !hasB xs x n) = false := by
  simp only [both, List.mem_map, List.mem_filter, List.mem_range]
  constructor
  · rintro ⟨j, ⟨hj, hs⟩, rfl⟩
    exact ⟨by omega, by omega, by simpa using hs⟩
  · rintro ⟨h0, h1, h2⟩
    refine ⟨x.toNat, ⟨by omega, ?_⟩, by omega⟩
    rw [show ((x.toNat : Nat) : Int) = x by omega, h2]
    rfl
theorem both_rises {xs ns : List Int} {n : Nat} : (both xs ns n).Pairwise (· < ·) := by
  unfold both
  rw [List.pairwise_map]
  exact (List.pairwise_lt_range.filter _).imp (fun h => by omega)
theorem rises_get {l : List Int} (h : l.Pairwise (· < ·)) {k : Nat} (hk : k + 1 < l.length) : l.getD k 0 < l.getD (k + 1) 0 := by
  rw [getD_lt l 0 (by omega), getD_lt l 0 hk]
  exact List.pairwise_iff_getElem.1 h k (k + 1) _ _ (by omega)

/-- Is one of the one's one of the other's? -/
def anyIn (A B : List Int) : Bool := A.any fun p => B.any fun q => p == q
theorem getD_mem {α : Type} {l : List α} {d : α} {k : Nat} (h : k < l.length) : l.getD k d ∈ l := by rw [getD_lt l d h]; exact List.getElem_mem h
theorem anyIn_take {X Y : List Int} {k : Nat} (h : k < X.length) : anyIn (X.take (k + 1)) Y = (anyIn (X.take k) Y || Y.any fun q => X.getD k 0 == q) := by
  rw [List.take_succ_eq_append_getElem h, getD_lt X 0 h]
  unfold anyIn
  rw [List.any_append]
  simp
theorem any_take {α : Type} {l : List α} {f : α → Bool} {d : α} {k : Nat} {a : Bool} (h : k < l.length) : (a || (l.take (k + 1)).any f) = ((a || (l.take k).any f) || f (l.getD k d)) := by
  rw [List.take_succ_eq_append_getElem h, getD_lt l d h, List.any_append]
  simp [Bool.or_assoc]
theorem anyIn_iff {A B : List Int} : anyIn A B = true ↔ ∃ z, z ∈ A ∧ z ∈ B := by
  unfold anyIn
  simp only [List.any_eq_true, beq_iff_eq]
  constructor
  · rintro ⟨p, hp, q, hq, rfl⟩; exact ⟨p, hp, hq⟩
  · rintro ⟨z, ha, hb⟩; exact ⟨z, ha, z, hb, rfl⟩
theorem anyIn_comm {A B : List Int} : anyIn A B = anyIn B A := by
  rw [Bool.eq_iff_iff, anyIn_iff, anyIn_iff]
  exact ⟨fun ⟨z, a, b⟩ => ⟨z, b, a⟩, fun ⟨z, a, b⟩ => ⟨z, b, a⟩⟩
theorem anyIn_self {A : List Int} : anyIn A A = decide (0 < (A.length : Int)) := by
  rw [Bool.eq_iff_iff, anyIn_iff]
  cases A with
  | nil => simp
  | cons a A => simp
theorem share_any {xs X Y : List Int} {x y : Int} (HX : ∀ z, z ∈ X ↔ 0 ≤ z ∧ z < xs.length ∧ hasB xs z x = true) (HY : ∀ z, z ∈ Y ↔ 0 ≤ z ∧ z < xs.length ∧ hasB xs z y = true) :
    (!(both xs [x, y] xs.length).isEmpty) = anyIn X Y := by
  rw [Bool.eq_iff_iff, anyIn_iff]
  have hs := fun z => both_sat (xs := xs) (ns := [x, y]) (k := xs.length) (x := z)
  constructor
  · intro h
    cases hb : both xs [x, y] xs.length with
    | nil => rw [hb] at h; simp at h
    | cons z r =>
      have := (hs z).1 (by rw [hb]; simp)
      simp at this
      exact ⟨z, (HX z).2 ⟨this.1, this.2.1, this.2.2.1⟩, (HY z).2 ⟨this.1, this.2.1, this.2.2.2⟩⟩
  · rintro ⟨z, h1, h2⟩
    have h1 := (HX z).1 h1
    have h2 := (HY z).1 h2
    have := (hs z).2 ⟨h1.1, h1.2.1, by simp [h1.2.2, h2.2.2]⟩
    cases hb : both xs [x, y] xs.length with
    | nil => rw [hb] at this; simp at this
    | cons => rfl
set_option maxHeartbeats 1000000 in
theorem GroupsTrue_walk_of (w : World) {v : Value} {xs : List Int} {x y : Int} (h : Ints w v xs) (hx : I64 x) (hy : I64 y) :
    Calls Try.prog 5 #[v, .int .i64 x, .int .i64 y] w (GivesB (.bool true) w) := by
  have hl := h.open.1
  go_enter Try.func5, Try.ntmps5
  go_wp2_with fail
  refine (Of_c h x hx).mono ?_
  rintro e2 w2 ⟨v2, rfl, i2, b2⟩
  have h2 := h.below b2
  go_wp2_with fail
  refine (Of_c h2 y hy).mono ?_
  rintro e3 w3 ⟨v3, rfl, i3, b3⟩
  have h3 := h2.below b3
  have i2 := i2.below b3
  have hb := below_trans b2 b3
  clear h2 b2 b3 h
  obtain ⟨l2, a2, cap2, rfl, _, c2⟩ := i2.open
  obtain ⟨l3, a3, cap3, rfl, _, c3⟩ := i3.open
  replace c2 := Lib.hid c2
  replace c3 := Lib.hid c3
  have HX : ∀ z, z ∈ both xs [x] xs.length ↔ 0 ≤ z ∧ z < xs.length ∧ hasB xs z x = true := fun z => by rw [both_sat]; simp
  have HY : ∀ z, z ∈ both xs [y] xs.length ↔ 0 ≤ z ∧ z < xs.length ∧ hasB xs z y = true := fun z => by rw [both_sat]; simp
  have HR := both_rises (xs := xs) (ns := [x]) (n := xs.length)
  clear i2 i3
  generalize both xs [x] xs.length = X at *
  generalize both xs [y] xs.length = Y at *
  replace HX := Lib.hid HX
  replace HY := Lib.hid HY
  replace HR := Lib.hid HR
  go_wp2_with fail
  go_loopw [9, 10, 11] (fun r i _ wr => ∃ k : Nat, k ≤ X.length ∧ i = .int .i64 k ∧ r = .bool (anyIn (X.take k) Y) ∧ Drew w3 wr) (fun _ i _ _ => X.length - (intOf i).toNat)
  case atStart => exact ⟨0, by omega, rfl, rfl, Drew.refl _⟩
  case round =>
    obtain ⟨k, hk, rfl, rfl, hd⟩ := hrel
    by_cases hlt : k < X.length
    · obtain ⟨b, off, rfl, hc2⟩ := c2.out (by intro e; subst e; simp at hlt)
      have hv := (hd.cell _).trans (hc2 k hlt)
      have hmem := (HX.out _).1 (getD_mem (d := 0) hlt)
      have hacc := Lib.hid (anyIn_take (X := X) (Y := Y) hlt)
      have hcon := fun n => Has_c ((h3.below hd.below).drewN n) (X.getD k 0) x
      rw [hmem.2.2] at hcon
      have hprev : 0 < k → ∃ p, w3.cell? ⟨b, off + (k - 1), none⟩ = some (.int .i64 p) ∧ p < X.getD k 0 := fun h0 => by
        refine ⟨X.getD (k - 1) 0, hc2 (k - 1) (by omega), ?_⟩
        have := rises_get HR.out (k := k - 1) (by omega)
        rwa [show k - 1 + 1 = k by omega] at this
      generalize X.getD k 0 = p at hv hacc hcon hprev
      clear hmem hc2 c2
      generalize anyIn (X.take k) Y = A at hacc
      by_cases h0 : 0 < k
      case' pos =>
        obtain ⟨j, rfl⟩ : ∃ j, k = j + 1 := ⟨k - 1, by omega⟩
        obtain ⟨q, hq, hqp⟩ := hprev h0
        have hq := (hd.cell _).trans hq
        simp only [Nat.add_sub_cancel] at hq
        have hd0 : decide (0 < (↑(j + 1) : Int)) = true := decide_eq_true (by omega)
        have hdd : decide (p ≤ q) = false := by simp; omega
        clear hprev
        go_wp2_with fail
        go_quiet ((go_at_call 9; exact quiet_w (hcon _)))
        go_wp2_with fail
        clear hdd hd0 hq hqp
      case' neg =>
        have hd0 : decide (0 < (k : Int)) = false := by simp; omega
        clear hprev
        go_wp2_with fail
        go_quiet ((go_at_call 9; exact quiet_w (hcon _)))
        go_wp2_with fail
        clear hd0
      all_goals
        have hd1 := hd.drewN nq
        generalize wr.drewN nq = wi at hd1
        go_loopw [9, 11] (fun r i wr' => ∃ j : Nat, j ≤ Y.length ∧ i = .int .i64 j ∧ r = .bool (A || (Y.take j).any fun q => p == q) ∧ Drew w3 wr') (fun _ i _ => Y.length - (intOf i).toNat)
        case atStart => exact ⟨0, by omega, rfl, by simp, hd1⟩
        case round =>
          obtain ⟨j2, hj, rfl, rfl, hd2⟩ := hrel
          by_cases hlt2 : j2 < Y.length
          · obtain ⟨b3, off3, rfl, hc3⟩ := c3.out (by intro e; subst e; simp at hlt2)
            have hv3 := (hd2.cell _).trans (hc3 j2 hlt2)
            have hvx := (hd2.cell _).trans ((hd.cell _).symm.trans hv)
            have hs := Lib.hid (any_take (l := Y) (f := fun q => p == q) (d := 0) (a := A) hlt2)
            clear hc3 c3
            generalize Y.getD j2 0 = q at hv3 hs
            generalize (A || (Y.take j2).any fun q => p == q) = r at hs
            cases r
            · cases he : (p == q)
              all_goals
                have HE := Lib.hid he
                rw [he] at hs
                go_wp2_with fail
                go_quiet (fail)
                go_wp2_with fail
                go_roundw
                case rel => exact ⟨j2 + 1, by omega, by go_num, by rw [hs.out]; rfl, hd2.drewN _⟩
                case measure => simp [intOf]; omega
            · go_wp2_with fail
              go_quiet (fail)
              go_wp2_with fail
              go_roundw
              case rel => exact ⟨j2 + 1, by omega, by go_num, by rw [hs.out]; rfl, hd2.drewN _⟩
              case measure => simp [intOf]; omega
          · obtain rfl : j2 = Y.length := by omega
            rw [List.take_length]
            go_wp2_with fail
            go_roundw
            case rel => first | exact ⟨k + 1, by omega, by go_num, by rw [hacc.out], hd2⟩ | exact ⟨j + 1 + 1, by omega, by go_num, by rw [hacc.out], hd2⟩
            case measure => simp [intOf]; omega
    · obtain rfl : k = X.length := by omega
      rw [List.take_length]
      have h4 := h3.below hd.below
      have hb4 := below_trans hb hd.below
      have hsh1 : (!(both xs [x, y] xs.length).isEmpty) = anyIn X Y := share_any HX.out HY.out
      have hsh2 : (!(both xs [y, x] xs.length).isEmpty) = anyIn X Y := by rw [share_any HY.out HX.out, anyIn_comm]
      have hsh3 : (!(both xs [x, x] xs.length).isEmpty) = decide (0 < (X.length : Int)) := by rw [share_any HX.out HX.out, anyIn_self]
      clear c2 c3 HX HY HR h3 hb hd
      go_wp2_with fail
      refine (groupsBegun_c _).mono ?_
      rintro e5 w5 ⟨rfl, b5⟩
      have hc := Share_c (h4.below b5) x y hx hy
      rw [hsh1] at hc
      go_wp2_with fail
      refine hc.mono ?_
      rintro e6 w6 ⟨rfl, b6⟩
      clear hc hsh1
      have hc := Share_c ((h4.below b5).below b6) y x hy hx
      rw [hsh2] at hc
      clear hsh2
      generalize anyIn X Y = A at hc ⊢
      go_wp2_with fail
      refine hc.mono ?_
      rintro e7 w7 ⟨rfl, b7⟩
      clear hc
      have hc := Share_c (((h4.below b5).below b6).below b7) x x hx hx
      rw [hsh3] at hc
      clear hsh3
      go_wp2_with fail
      refine hc.mono ?_
      rintro e8 w8 ⟨rfl, b8⟩
      clear hc
      go_wp2_with fail
      go_ret
      exact givesB_bool (below_trans hb4 (below_trans b5 (below_trans b6 (below_trans b7 b8)))) (by simp)
end Go.Proofs.Ytkbdnbipjepcaaa
