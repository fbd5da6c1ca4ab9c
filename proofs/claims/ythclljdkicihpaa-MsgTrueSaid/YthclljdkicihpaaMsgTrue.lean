/-
  The law MsgTrue, walked.
-/
import Derived.Test.YthclljdkicihpaaLM
import Derived.Deep.AppendLies
import Derived.Deep.RegionHeld3
import Derived.Deep.CutRange
namespace Go.Proofs.Ythclljdkicihpaa
open Go.RowKit Go.Shelf Go.BigFrame

theorem posM_spec : ∀ (ms : List M) (m : M), (∀ t, t < posM ms m → lessM (ms.getD t M.zero) m = true) ∧ (posM ms m < ms.length → lessM (ms.getD (posM ms m) M.zero) m = false)
  | [], m => ⟨fun t ht => absurd ht (Nat.not_lt_zero _), fun h => absurd h (Nat.not_lt_zero _)⟩
  | a :: ms, m => by
    cases h : lessM a m
    · have e : posM (a :: ms) m = 0 := by simp [posM, h]
      rw [e]
      exact ⟨fun t ht => absurd ht (Nat.not_lt_zero _), fun _ => by simpa using h⟩
    · have e : posM (a :: ms) m = posM ms m + 1 := by simp [posM, h]
      obtain ⟨h1, h2⟩ := posM_spec ms m
      rw [e]
      refine ⟨fun t ht => ?_, fun hl => by simpa using h2 (by simpa using hl)⟩
      cases t with
      | zero => simpa using h
      | succ t => simpa using h1 t (by omega)
theorem putM_lo {ms : List M} {m : M} {t : Nat} (h : t < posM ms m) : (putM ms m).getD t M.zero = ms.getD t M.zero := by
  have := posM_le ms m
  simp only [putM, List.getD_eq_getElem?_getD]
  rw [List.getElem?_append_left (by rw [List.length_take]; omega), List.getElem?_take, if_pos h]
theorem putM_at (ms : List M) (m : M) : (putM ms m).getD (posM ms m) M.zero = m := by
  have := posM_le ms m
  simp only [putM, List.getD_eq_getElem?_getD]
  rw [List.getElem?_append_right (by rw [List.length_take]; omega), List.length_take, Nat.min_eq_left this, Nat.sub_self]
  rfl
theorem putM_hi {ms : List M} {m : M} {t : Nat} (h : posM ms m ≤ t) : (putM ms m).getD (t + 1) M.zero = ms.getD t M.zero := by
  have := posM_le ms m
  simp only [putM, List.getD_eq_getElem?_getD]
  rw [List.getElem?_append_right (by rw [List.length_take]; omega), List.length_take, Nat.min_eq_left this, show t + 1 - posM ms m = t - posM ms m + 1 by omega, List.getElem?_cons_succ, List.getElem?_drop]
  congr 3; omega
theorem putM_rise {ms : List M} {m : M} (hr : risesB ms = true) (hf : foundM ms m = false) {k : Nat} (hk : k < ms.length) :
    lessM ((putM ms m).getD k M.zero) ((putM ms m).getD (k + 1) M.zero) = true := by
  obtain ⟨h1, h2⟩ := posM_spec ms m
  rcases Nat.lt_trichotomy k (posM ms m) with h | h | h
  · rw [putM_lo h]
    rcases Nat.lt_or_ge (k + 1) (posM ms m) with h' | h'
    · rw [putM_lo h']; exact rises_lt hr (Nat.lt_succ_self k) (by have := posM_le ms m; omega)
    · have e : k + 1 = posM ms m := by omega
      rw [e, putM_at]; exact h1 k h
  · subst h
    have h3 := h2 hk
    rw [putM_at, putM_hi (Nat.le_refl _)]
    rw [foundM, decide_eq_true hk, Bool.true_and, ordM_zero h3] at hf
    simpa using hf
  · obtain ⟨j, rfl⟩ : ∃ j, k = j + 1 := ⟨k - 1, by omega⟩
    rw [putM_hi (by omega), putM_hi (by omega)]
    exact rises_lt hr (Nat.lt_succ_self j) (by omega)
theorem lessM_self (a : M) : lessM a a = false := by simp [lessM]
theorem putM_ne {ms : List M} {m : M} {t : Nat} (h : t < posM ms m) : eqM ((putM ms m).getD t M.zero) m = false := by
  rw [putM_lo h, ← Bool.not_eq_true, eqM_iff]
  intro e
  have := (posM_spec ms m).1 t h
  rw [e, lessM_self] at this
  cases this
theorem rest_flat (ms : List M) (m : M) : ((putM ms m).take (posM ms m)).flatMap M.cells ++ ((putM ms m).drop (posM ms m + 1)).flatMap M.cells = ms.flatMap M.cells := by
  have := posM_le ms m
  rw [← List.flatMap_append]
  congr 1
  unfold putM
  rw [List.take_append_of_le_length (by rw [List.length_take]; omega), List.take_of_length_le (by rw [List.length_take]; omega), List.drop_append, List.length_take, Nat.min_eq_left this]
  rw [List.drop_of_length_le (by rw [List.length_take]; omega), show posM ms m + 1 - posM ms m = 1 by omega]
  simp
theorem less_same (a b : M) : ((a.stamp == b.stamp) && (a.src == b.src)) = !(lessM a b || lessM b a) := by
  have h : ∀ x y : Bool, (x = true ↔ y = true) → x = y := by decide
  refine h _ _ ?_
  simp [lessM]
  omega
theorem put_zero {ms : List M} {m : M} (h : putE ms m = 0) : risesB ms = true ∧ (ms.length : Int) < 40 ∧ foundM ms m = false ∧ putL ms m = putM ms m := by
  cases hr : risesB ms
  · rw [(put_rise hr).1] at h; cases h
  · by_cases h4 : 40 ≤ (ms.length : Int)
    · rw [(put_many hr h4).1] at h; cases h
    · cases hf : foundM ms m
      · exact ⟨rfl, by omega, rfl, (put_ok hr h4 hf).2⟩
      · rw [(put_is hr h4 hf).1] at h; cases h
theorem msgs_takes {w : World} {b off cap : Nat} {ms : List M} (h : Msgs w (.slice (some ⟨b, off, none⟩) ms.length cap) ms) (k : Nat) :
    ∀ j u, ((ms.take k).flatMap M.cells)[j]? = some u → w.cell? ((⟨b, off, none⟩ : Addr).add j) = some u := by
  intro j u hj
  rw [← flat_take, List.getElem?_take] at hj
  split at hj
  · exact row_news h.2 _ u hj
  · cases hj
theorem below_grown_alloc {w w' : World} {o : Obj} (hg : (w.drew.alloc o).grownBy w' (some w.heap.size)) : Below w.heap.size w w' :=
  ⟨hg.os, hg.tape, hg.output, by have := hg.size; simp at this; omega, fun k hk => (hg.block k (by simp; omega) (by simp; omega)).trans (heap_alloc_old w.drew _ hk)⟩
theorem step_append_own {P : Program} {w : World} {ops : Array Oper} {o : Oper} {a : Act} {K : Act → World → Prop} {Q : Exit → Act → World → Prop} {E : Prop} (hgd : o.guard = none) (s x : Operand) (t : TypeId)
    (ho : o.op = .call { callee := .builtin .append, args := #[s, x], argTypes := #[t, t] })
    (base : Nat) (e : TypeId) (i : TypeInfo) (z : Value) (size bytes : Nat) (ht : P.underlying t = some (.slice e)) (hi : P.info? e = some i) (hz : i.zero = some z)
    (hsize : i.size = size) (hby : i.bytes = bytes) (hzs : z.cells.size = size) (hsz : 0 < size)
    (v : Value) (n : Nat) (xs : List Value) (hs : a.eval s = v) (hown : w.ownsRow base e size v n xs)
    (ad : Addr) (m c : Nat) (news : List Value) (hx : a.eval x = .slice (some ad) m c) (hl : news.length = m * size) (hnews : ∀ j u, news[j]? = some u → w.cell? (ad.add j) = some u) (h1 : ∀ u ∈ news, u.oneCell' = true)
    (h63 : n + m ≤ maxLen) (hbytes : (n + m) * bytes ≤ 140737488355328) (hbase : base ≤ w.heap.size)
    (h : ∀ v' w', w'.ownsRow base e size v' (n + m) (xs ++ news) → w.grownBy w' v.ownBlock → (v' = .slice none 0 0 ↔ v = .slice none 0 0 ∧ m = 0) → K (a.put o.dst v') w') :
    if Region.wanted o (yielded ops a.tmps) = true then Oper.wp P o a w K Q else E := by
  have hw : Region.wanted o (yielded ops a.tmps) = true := by simp [Region.wanted, hgd]
  rw [if_pos hw]
  exact wp_append_own w s x t ho base e i z size bytes ht hi hz hsize hby hzs hsz v n xs hs hown ad m c news hx hl hnews h1 h63 hbytes hbase h
/-- The three boxes. -/
def Three (w W : World) (a b c : M) : Prop := MsgBox W w.heap.size a ∧ MsgBox W (w.heap.size + 1) b ∧ MsgBox W (w.heap.size + 1 + 1) c ∧ w.heap.size + 3 ≤ W.heap.size
theorem Three.below {w W W' : World} {a b c : M} (h : Three w W a b c) (hb : Below W.heap.size W W') : Three w W' a b c := by
  obtain ⟨h1, h2, h3, h4⟩ := h
  have := hb.size
  exact ⟨h1.below hb (by omega), h2.below hb (by omega), h3.below hb (by omega), by omega⟩
theorem less_abc (a b c : M) (hab : lessM a b = true) : lessM b a = false ∧ (lessM b c = true → lessM a c = true) := by
  refine ⟨?_, lessM_trans hab⟩
  rw [← Bool.not_eq_true]
  intro h
  have := lessM_trans hab h
  rw [lessM_self] at this
  cases this

set_option maxHeartbeats 8000000 in
theorem MsgTrue_walk_of (w : World) {va vb vc v : Value} {a b c : M} {ms : List M} (ha : a.fits ∧ va = a.val) (hb : b.fits ∧ vb = b.val) (hc : c.fits ∧ vc = c.val) (h : Msgs w v ms) :
    Calls Try.prog 5 #[va, vb, vc, v] w (GivesB (.bool true) w) := by
  obtain ⟨hfa, rfl⟩ := ha
  obtain ⟨_, rfl⟩ := hb
  obtain ⟨_, rfl⟩ := hc
  have hA := below_a3 w (.cells #[.int .i64 a.src, .int .i64 a.grp, .int .i64 a.stamp, .bool a.null, .string a.body] 24) (.cells #[.int .i64 b.src, .int .i64 b.grp, .int .i64 b.stamp, .bool b.null, .string b.body] 24) (.cells #[.int .i64 c.src, .int .i64 c.grp, .int .i64 c.stamp, .bool c.null, .string c.body] 24)
  have hT : ∀ W, W = ((w.alloc (.cells #[.int .i64 a.src, .int .i64 a.grp, .int .i64 a.stamp, .bool a.null, .string a.body] 24)).alloc (.cells #[.int .i64 b.src, .int .i64 b.grp, .int .i64 b.stamp, .bool b.null, .string b.body] 24)).alloc (.cells #[.int .i64 c.src, .int .i64 c.grp, .int .i64 c.stamp, .bool c.null, .string c.body] 24) → Three w W a b c := by
    rintro W rfl
    have := (MsgBox.new w a 24).below (below_a2 _ (.cells #[.int .i64 b.src, .int .i64 b.grp, .int .i64 b.stamp, .bool b.null, .string b.body] 24) (.cells #[.int .i64 c.src, .int .i64 c.grp, .int .i64 c.stamp, .bool c.null, .string c.body] 24)) (by simp)
    have h2 := (MsgBox.new (w.alloc (.cells #[.int .i64 a.src, .int .i64 a.grp, .int .i64 a.stamp, .bool a.null, .string a.body] 24)) b 24).below (below_a1 _ (.cells #[.int .i64 c.src, .int .i64 c.grp, .int .i64 c.stamp, .bool c.null, .string c.body] 24)) (by simp)
    have h3 := MsgBox.new ((w.alloc (.cells #[.int .i64 a.src, .int .i64 a.grp, .int .i64 a.stamp, .bool a.null, .string a.body] 24)).alloc (.cells #[.int .i64 b.src, .int .i64 b.grp, .int .i64 b.stamp, .bool b.null, .string b.body] 24)) c 24
    simp only [World.size_alloc] at h2 h3
    exact ⟨this, h2, h3, by simp⟩
  have laa := fun (o : World) => Less_c o a a
  have lab := fun (o : World) => Less_c o a b
  have lba := fun (o : World) => Less_c o b a
  have lbc := fun (o : World) => Less_c o b c
  have lac := fun (o : World) => Less_c o a c
  rw [lessM_self] at laa
  have hsame := less_same a b
  unfold M.val at *
  go_enter Try.func5, Try.ntmps5
  go_upto_region 1 with fail
  generalize hW : ((w.alloc (.cells #[.int .i64 a.src, .int .i64 a.grp, .int .i64 a.stamp, .bool a.null, .string a.body] 24)).alloc (.cells #[.int .i64 b.src, .int .i64 b.grp, .int .i64 b.stamp, .bool b.null, .string b.body] 24)).alloc (.cells #[.int .i64 c.src, .int .i64 c.grp, .int .i64 c.stamp, .bool c.null, .string c.body] 24) = W at *
  replace hT := hT W rfl
  clear hW
  obtain ⟨⟨a0, a1, a2, a3, a4⟩, ⟨b0, b1, b2, b3, b4⟩, ⟨c0, c1, c2, c3, c4⟩, hs⟩ := id hT
  replace hsame := Lib.hid hsame
  obtain ⟨sm, hsm⟩ : ∃ sm, sm = !(lessM a b || lessM b a) := ⟨_, rfl⟩
  replace hsm := Lib.hid hsm
  go_cut [9] from 15 to 26 (fun s wx => s = .bool sm ∧ wx = W)
  case first =>
    clear laa lab lba lbc lac hT
    cases h1 : (a.stamp == b.stamp)
    · go_wp2_with fail
      go_meet
      case rel => exact ⟨by rw [hsm.out, ← hsame.out, h1]; rfl, rfl⟩
    · cases h2 : (a.src == b.src)
      all_goals
        go_wp2_with fail
        go_meet
      all_goals exact ⟨by rw [hsm.out, ← hsame.out, h1, h2]; rfl, rfl⟩
  case rest =>
    obtain ⟨rfl, rfl⟩ := hcut
    clear hsame
    go_upto_region 2 with fail
    go_cut [67] from 27 to 66 (fun t wx => t = .bool false ∧ Three w wx a b c ∧ Below w.heap.size w wx)
    case first =>
      clear h hfa
      cases sm
      · cases hab : lessM a b
        · have hba : lessM b a = true := by
            have := hsm.out
            rw [hab] at this
            simpa using this.symm
          rw [hab] at lab
          rw [hba] at lba
          clear hab hba hsm lbc lac
          go_wp2_with (go_at_call 9; (first | refine (laa _).mono ?_ | refine (lab _).mono ?_ | refine (lba _).mono ?_ | refine (lbc _).mono ?_ | refine (lac _).mono ?_); rintro e w' ⟨rfl, hbb⟩; replace hA := below_trans hA hbb; replace hT := hT.below hbb; clear hbb a0 a1 a2 a3 a4 b0 b1 b2 b3 b4 c0 c1 c2 c3 c4 hs; obtain ⟨⟨a0, a1, a2, a3, a4⟩, ⟨b0, b1, b2, b3, b4⟩, ⟨c0, c1, c2, c3, c4⟩, hs⟩ := id hT)
          go_meet
          case rel => exact ⟨rfl, hT, hA⟩
        · obtain ⟨hba, habc⟩ := less_abc a b c hab
          rw [hab] at lab
          rw [hba] at lba
          clear hab hba hsm
          cases hbc : lessM b c
          · rw [hbc] at lbc
            clear lac hbc habc
            go_wp2_with (go_at_call 9; (first | refine (laa _).mono ?_ | refine (lab _).mono ?_ | refine (lba _).mono ?_ | refine (lbc _).mono ?_ | refine (lac _).mono ?_); rintro e w' ⟨rfl, hbb⟩; replace hA := below_trans hA hbb; replace hT := hT.below hbb; clear hbb a0 a1 a2 a3 a4 b0 b1 b2 b3 b4 c0 c1 c2 c3 c4 hs; obtain ⟨⟨a0, a1, a2, a3, a4⟩, ⟨b0, b1, b2, b3, b4⟩, ⟨c0, c1, c2, c3, c4⟩, hs⟩ := id hT)
            go_meet
            case rel => exact ⟨rfl, hT, hA⟩
          · rw [hbc] at lbc
            rw [habc hbc] at lac
            clear hbc habc
            go_wp2_with (go_at_call 9; (first | refine (laa _).mono ?_ | refine (lab _).mono ?_ | refine (lba _).mono ?_ | refine (lbc _).mono ?_ | refine (lac _).mono ?_); rintro e w' ⟨rfl, hbb⟩; replace hA := below_trans hA hbb; replace hT := hT.below hbb; clear hbb a0 a1 a2 a3 a4 b0 b1 b2 b3 b4 c0 c1 c2 c3 c4 hs; obtain ⟨⟨a0, a1, a2, a3, a4⟩, ⟨b0, b1, b2, b3, b4⟩, ⟨c0, c1, c2, c3, c4⟩, hs⟩ := id hT)
            go_meet
            case rel => exact ⟨rfl, hT, hA⟩
      · have hn : lessM a b = false ∧ lessM b a = false := by
          have := hsm.out
          simpa using this.symm
        rw [hn.1] at lab
        rw [hn.2] at lba
        clear hn hsm lbc lac
        go_wp2_with (go_at_call 9; (first | refine (laa _).mono ?_ | refine (lab _).mono ?_ | refine (lba _).mono ?_ | refine (lbc _).mono ?_ | refine (lac _).mono ?_); rintro e w' ⟨rfl, hbb⟩; replace hA := below_trans hA hbb; replace hT := hT.below hbb; clear hbb a0 a1 a2 a3 a4 b0 b1 b2 b3 b4 c0 c1 c2 c3 c4 hs; obtain ⟨⟨a0, a1, a2, a3, a4⟩, ⟨b0, b1, b2, b3, b4⟩, ⟨c0, c1, c2, c3, c4⟩, hs⟩ := id hT)
        go_meet
        case rel => exact ⟨rfl, hT, hA⟩
    case rest =>
      obtain ⟨rfl, hT, hA⟩ := hcut
      clear laa lab lba lbc lac a0 a1 a2 a3 a4 b0 b1 b2 b3 b4 c0 c1 c2 c3 c4
      have hP := Put_c (h.below hA) hfa
      unfold M.val at hP
      obtain ⟨⟨a0, a1, a2, a3, a4⟩, _⟩ := id hT
      obtain ⟨hl, av, capv, rfl, _, _⟩ := h.open
      by_cases hz : putE ms a = 0
      · have hz2 := put_zero hz
        have hE := Lib.hid hz2
        clear hz2
        unfold PutPost at hP
        rw [hz, hE.out.2.2.2] at hP
        clear hz
        have hp := posM_le ms a
        have hne := fun t => @putM_ne ms a t
        have hat := putM_at ms a
        have hrise := fun k => @putM_rise ms a hE.out.1 hE.out.2.2.1 k
        have hrest := rest_flat ms a
        have hXl := putM_len ms a
        have hml := hE.out.2.1
        generalize putM ms a = X at hP hne hat hrise hrest hXl
        have hX1 : ms.length + 1 ≤ X.length := by omega
        have hX2 : X.length ≤ ms.length + 1 := by omega
        clear hXl
        generalize posM ms a = p at hp hne hat hrest
        replace hne := Lib.hid hne
        replace hat := Lib.hid hat
        replace hrise := Lib.hid hrise
        replace hrest := Lib.hid hrest
        clear hE
        go_wp2_with fail
        refine hP.mono ?_
        rintro e w2 ⟨v2, rfl, ho2, hb2⟩
        have hX := ho2.msgs (by omega)
        obtain ⟨_, ad, cap, rfl, hcap, hc⟩ := hX.open
        obtain ⟨xb, off, rfl, hcc⟩ := hc (by intro e; rw [e] at hX1; simp at hX1)
        clear hc hP
        replace hA := below_trans hA hb2
        have hT2 := hT.below hb2
        clear a0 a1 a2 a3 a4
        go_wp2_with fail
        go_loopw [12] (fun i wr => ∃ k : Nat, k ≤ p ∧ i = .int .i64 k ∧ Below w2.heap.size w2 wr) (fun i _ => p - (intOf i).toNat)
        case atStart => exact ⟨0, by omega, rfl, Below.refl _ _⟩
        case round =>
          obtain ⟨k, hk, rfl, hb3⟩ := hrel
          obtain ⟨⟨a0, a1, a2, a3, a4⟩, _⟩ := hT2.below hb3
          obtain ⟨d, hd⟩ : ∃ d, X.getD k M.zero = d := ⟨_, rfl⟩
          obtain ⟨d0, d1, d2, d3, d4⟩ := (hcc k (by omega)).below hb3
          rw [hd] at d0 d1 d2 d3 d4
          have hltN : k < X.length := by omega
          have hlt' : decide ((k : Int) < (X.length : Int)) = true := decide_eq_true (by omega)
          have hneq := neq_msg d a
          have hab := cell_lt a0
          have hdb := cell_lt d0
          dsimp only at hab hdb
          by_cases hlt : k < p
          · rw [show eqM d a = false by rw [← hd]; exact hne.out k hlt] at hneq
            replace hd := Lib.hid hd
            go_wp2_with fail
            refine wp_region_over (by kernel_rfl) (by kernel_rfl) ?_
            repeat (go_big_quiet_step (fail))
            refine wpQuiet_nil ?_
            rintro w4 ⟨⟨_, hb4⟩, rfl⟩
            go_wp2_with fail
            go_roundw
            case rel => exact ⟨k + 1, by omega, by go_num, hb3.trans (hb4.mono hb3.size)⟩
            case measure => simp [intOf]; omega
          · obtain rfl : k = p := by omega
            rw [show eqM d a = true by rw [← hd, hat.out]; exact eqM_iff.2 rfl] at hneq
            replace hd := Lib.hid hd
            have hq1 : ((k : Int) == (X.length : Int)) = false := by simp; omega
            have hq2 : ((X.length : Int) != (ms.length : Int) + 1) = false := by simp; omega
            go_wp2_with fail
            refine wp_region_over (by kernel_rfl) (by kernel_rfl) ?_
            repeat (go_big_quiet_step (fail))
            refine wpQuiet_nil ?_
            rintro w4 ⟨⟨_, hb4⟩, rfl⟩
            have hw4 := below_trans hA (hb3.trans (hb4.mono hb3.size))
            have hX4 := hX.below (hb3.trans (hb4.mono hb3.size))
            have hn1 := msgs_takes hX4 k
            have hn2 := msgs_news hX4 (k + 1)
            have hkc : ¬ cap = k := by omega
            have hxb : xb < w4.heap.size := by have := hb4.size; omega
            obtain ⟨i0, hi0, hz0, hz1, hz2⟩ := info_parts infoCMsg
            have hown0 := World.ownsRow_made (base := w4.heap.size) (e := 24) (size := 5) w4 #[] 0 (Nat.le_refl _) (by simp [maxLen]) (by simp)
            have hl1 : ((X.take k).flatMap M.cells).length = k * 5 := by rw [flat_len, List.length_take]; omega
            have hl2 : ((X.drop (k + 1)).flatMap M.cells).length = (X.length - (k + 1)) * 5 := by rw [flat_len, List.length_drop]
            replace hn1 := Lib.hid hn1
            replace hn2 := Lib.hid hn2
            replace hl1 := Lib.hid hl1
            replace hl2 := Lib.hid hl2
            replace hown0 := Lib.hid hown0
            go_wp2_with fail
            have g0 := (hb4.cell (p := ⟨xb, off + k * 5, none⟩) hdb).trans d0
            have := World.new_ne w4 _ g0
            have f1 : (0 : Int) ≤ (k : Int) := by omega
            have f2 : (k : Int) ≤ (cap : Int) := by omega
            have f2' : k ≤ cap := by omega
            have f3 : IntKind.i64.wrap ((k : Int) + 1) = (k : Int) + 1 := by rw [IntKind.wrap_i64]; omega
            have f4 : (0 : Int) ≤ (k : Int) + 1 := by omega
            have f5 : (k : Int) + 1 ≤ (X.length : Int) := by omega
            have f6 : ((k : Int) + 1).toNat = k + 1 := by omega
            have f7 : k + 1 ≤ X.length := by omega
            have f8 : (X.length : Int) ≤ (cap : Int) := by omega
            go_cut [13] from 103 to 112 (fun r wx => wx.ownsRow w4.heap.size 24 5 r ms.length (ms.flatMap M.cells) ∧ Below w4.heap.size w4 wx)
            case first =>
              clear hX4 hcc ho2 hX hT hT2 hrise hlt' hlt a0 a1 a2 a3 a4 d0 d1 d2 d3 d4 hneq hq1 hq2
              by_cases hk1 : cap = k + 1
              · clear f2 f2'
                subst hk1
                have f9 : (k : Int) ≤ ((k + 1 : Nat) : Int) := by omega
                have f10 : (k : Int) ≤ (k : Int) + 1 := by omega
                have f11 : k ≤ k + 1 := by omega
                have hd0 : X.drop (k + 1) = [] := List.drop_of_length_le (by omega)
                go_region_held3 (fun w' => w'.cell? ⟨xb, off + k * 5, none⟩ = some (.int .i64 d.src))
                (first | go_keep | (rw [hb6.cell (by exact hxb)]; exact g0) | (rw [hb5.cell (by exact hxb)]; exact g0))
              (first
                  | (refine step_append_own (by rfl) _ _ 30 (by rfl) w4.heap.size 24 i0 _ 5 48 Try.underlying30 hi0 hz0 hz1 hz2 rfl (by decide) (.slice (some ⟨w4.heap.size, 0, none⟩) 0 0) 0 [] (by rfl) (World.ownsRow_made _ #[] 0 (Nat.le_refl _) (by simp [maxLen]) (by simp)) ⟨xb, off, none⟩ k _ ((X.take k).flatMap M.cells) (by rfl) hl1.out (fun j u hj => (World.cell?_of_block (heap_alloc_old _ _ (cell_lt (hn1.out j u hj)))).trans (hn1.out j u hj)) (one_flat _) (by unfold maxLen; omega) (by omega) (by simp) ?_
                     intro v5 w5 hown5 hgrow5 _
                     have hb5 := below_grown_alloc hgrow5
                     have hs5 := hb5.size)
                  | (refine step_append_own (by rfl) _ _ 30 (by rfl) w4.heap.size 24 i0 _ 5 48 Try.underlying30 hi0 hz0 hz1 hz2 rfl (by decide) v5 (0 + k) ([] ++ (X.take k).flatMap M.cells) (by rfl) hown5 _ _ _ ((X.drop (k + 1)).flatMap M.cells) (by rfl) (by rw [hd0, List.flatMap_nil, List.length_nil]) (fun j u hj => by rw [hd0, List.flatMap_nil] at hj; simp at hj) (one_flat _) (by unfold maxLen; omega) (by omega) (by omega) ?_
                     intro v6 w6 hown6 hgrow6 _
                     have hb6 := hb5.grown hgrow6 hs5 (fun q e => (hown5.lt q e).1)))
                go_wp2_with fail
                go_meet
                case rel => exact ⟨by rw [show ms.length = 0 + k + 0 by omega, ← hrest.out]; exact hown6, hb6⟩
              · go_region_held3 (fun w' => w'.cell? ⟨xb, off + k * 5, none⟩ = some (.int .i64 d.src))
                (first | go_keep | (rw [hb6.cell (by exact hxb)]; exact g0) | (rw [hb5.cell (by exact hxb)]; exact g0))
              (first
                  | (refine step_append_own (by rfl) _ _ 30 (by rfl) w4.heap.size 24 i0 _ 5 48 Try.underlying30 hi0 hz0 hz1 hz2 rfl (by decide) (.slice (some ⟨w4.heap.size, 0, none⟩) 0 0) 0 [] (by rfl) (World.ownsRow_made _ #[] 0 (Nat.le_refl _) (by simp [maxLen]) (by simp)) ⟨xb, off, none⟩ k cap ((X.take k).flatMap M.cells) (by rfl) hl1.out (fun j u hj => (World.cell?_of_block (heap_alloc_old _ _ (cell_lt (hn1.out j u hj)))).trans (hn1.out j u hj)) (one_flat _) (by unfold maxLen; omega) (by omega) (by simp) ?_
                     intro v5 w5 hown5 hgrow5 _
                     have hb5 := below_grown_alloc hgrow5
                     have hs5 := hb5.size)
                  | (refine step_append_own (by rfl) _ _ 30 (by rfl) w4.heap.size 24 i0 _ 5 48 Try.underlying30 hi0 hz0 hz1 hz2 rfl (by decide) v5 (0 + k) ([] ++ (X.take k).flatMap M.cells) (by rfl) hown5 ⟨xb, off + (k + 1) * 5, none⟩ (X.length - (k + 1)) (cap - (k + 1)) ((X.drop (k + 1)).flatMap M.cells) (by rfl) hl2.out (fun j u hj => (hb5.cell (cell_lt (hn2.out j u hj))).trans (hn2.out j u hj)) (one_flat _) (by unfold maxLen; omega) (by omega) (by omega) ?_
                     intro v6 w6 hown6 hgrow6 _
                     have hb6 := hb5.grown hgrow6 hs5 (fun q e => (hown5.lt q e).1)))
                go_wp2_with fail
                go_meet
                case rel => exact ⟨by rw [show ms.length = 0 + k + (X.length - (k + 1)) by omega, ← hrest.out]; exact hown6, hb6⟩
            case rest =>
              obtain ⟨hownR, hbR⟩ := hcut
              have hR := MsgsOwn.msgs ⟨h.1, hownR⟩ hl
              have hwR := below_trans hw4 hbR
              have hXR := hX4.below hbR
              obtain ⟨_, adR, capR, eR, _, hcR⟩ := hXR.open
              obtain ⟨xb', off', eR', hccR⟩ := hcR (by intro e; rw [e] at hX1; simp at hX1)
              rw [eR'] at eR
              injection eR with eR1
              injection eR1 with eR2
              injection eR2 with eR3 eR4
              subst eR3 eR4
              clear hX4 hcc ho2 hX hT hT2 a0 a1 a2 a3 a4 d0 d1 d2 d3 d4 hneq hq1 hq2 hcR hlt' hlt hltN hn1 hn2 hl1 hl2 hown0 f1 f2 f2' f3 f4 f5 f6 f7 f8
              go_wp2_with fail
              go_loopw [14] (fun i wr => ∃ q : Nat, i = .int .i64 (q + 1 : Nat) ∧ q ≤ ms.length ∧ Below wc.heap.size wc wr) (fun i _ => X.length - (intOf i).toNat)
              case atStart => exact ⟨0, rfl, by omega, Below.refl _ _⟩
              case round =>
                obtain ⟨q, rfl, hq, hb7⟩ := hrel
                by_cases hlt : q + 1 < X.length
                · obtain ⟨m0, m1, m2, m3, m4⟩ := (hccR (q + 1) hlt).below hb7
                  obtain ⟨p0, p1, p2, p3, p4⟩ := (hccR q (by omega)).below hb7
                  have hr2 := hrise.out q (by omega)
                  generalize X.getD (q + 1) M.zero = m at m0 m1 m2 m3 m4 hr2
                  generalize X.getD q M.zero = p at p0 p1 p2 p3 p4 hr2
                  have hblt := cell_lt m0
                  dsimp only at hblt
                  have hLess := fun o => Less_c o p m
                  rw [hr2] at hLess
                  unfold M.val at hLess
                  go_wp2_with fail
                  refine wp_region_over (by kernel_rfl) (by kernel_rfl) ?_
                  repeat (go_big_quiet_step (exact over_c (hLess _)))
                  refine wpQuiet_nil ?_
                  rintro w8 ⟨⟨_, hb8⟩, rfl⟩
                  go_wp2_with fail
                  go_roundw
                  case rel => exact ⟨q + 1, by go_num, by omega, hb7.trans (hb8.mono hb7.size)⟩
                  case measure => simp [intOf]; omega
                · have hS := fun (W : World) (hW : Below wr.heap.size wr W) => SameMsgs_c (hR.below (hb7.trans (hW.mono hb7.size))) (h.below (below_trans hwR (hb7.trans (hW.mono hb7.size))))
                  rw [sameMs_iff.2 rfl] at hS
                  go_wp2_with fail
                  refine (msgBegun_c _).mono ?_
                  rintro e w8 ⟨rfl, hb8⟩
                  go_wp2_with fail
                  refine (hS _ hb8).mono ?_
                  rintro e w9 ⟨rfl, hd9⟩
                  go_wp2_with fail
                  go_ret
                  exact givesB_bool (below_trans (below_trans hwR (hb7.trans (hb8.mono hb7.size))) hd9.below) rfl
      · have hz2 : (putE ms a != 0) = true := by simpa using hz
        clear hz
        go_wp2_with fail
        refine hP.mono ?_
        rintro e w2 ⟨v2, rfl, ho2, hb2⟩
        go_wp2_with fail
        refine (msgBegun_c _).mono ?_
        rintro e w3 ⟨rfl, hb3⟩
        go_wp2_with fail
        go_ret
        exact givesB_bool (below_trans (below_trans hA hb2) hb3) rfl
end Go.Proofs.Ythclljdkicihpaa
