/-
  Write: a right world as bytes.
-/
import Derived.Test.YtnalakhelicjcaaVUD
import Derived.Test.YtnalakhelicjcaaVUo
import Derived.Test.YtnalakhelicjcaaVKL
set_option maxRecDepth 100000
namespace Go.Proofs.Ytnalakhelicjcaa
open Go.RowKit Go.Shelf Go.BigFrame Go.Deep

def writeW (X : Wd) : ByteArray := if errX X = 0 then strOfNums (bWorld X) else ⟨#[]⟩
theorem PenOn.under {w w0 wr W : World} {Q : Nat} {u : Value} {bs : List Int} (h : PenOn w0 Q (.slice none 0 0) wr u bs) (h0 : Below w.heap.size w w0) (hQ : w.heap.size ≤ Q) (k : Save (PenB Q u) wr W) : Below w.heap.size w W := by
  obtain ⟨_, h2, h3⟩ := h
  have hs := h0.size
  refine ⟨k.os.trans (h3.os.trans h0.os), k.tape.trans (h3.tape.trans h0.tape), k.output.trans (h3.output.trans h0.output), Nat.le_trans hs (Nat.le_trans h3.size k.size), fun b hb => (k.block b (Nat.lt_of_lt_of_le hb (Nat.le_trans hs h3.size)) (fun e => ?_)).trans ((h3.block b (Nat.lt_of_lt_of_le hb hs) (fun e => ?_)).trans (h0.block b hb))⟩
  · rcases e with e | e
    · omega
    · rcases h2 b e with e | e
      · cases e
      · omega
  · rcases e with e | e
    · omega
    · cases e
/-- A lone number's pen. -/
theorem pen_small1 {w : World} {Q : Nat} {v : Value} {bs : List Int} (h : PenAt w Q v bs) {a : Int} (ha : I64 a) (hb : bs.length ≤ 900000) :
    Calls Try.prog 37 #[.pointer (some ⟨Q, 0, none⟩), .slice (some ⟨w.heap.size, 0, none⟩) 1 1] (w.alloc (.cells #[.int .i64 a] 3)) (PenPost w Q v (bs ++ bSmall a)) := by
  have h1 := pen_small_lit h [a] (fun x hx => by simp at hx; subst hx; exact ha) (by simp) (by simp; omega)
  rw [show [a].flatMap bSmall = bSmall a by simp] at h1
  exact h1
theorem pen_wide1 {w : World} {Q : Nat} {v : Value} {bs : List Int} (h : PenAt w Q v bs) {a : Int} (ha : I64 a) (hb : bs.length ≤ 900000) :
    Calls Try.prog 38 #[.pointer (some ⟨Q, 0, none⟩), .slice (some ⟨w.heap.size, 0, none⟩) 1 1] (w.alloc (.cells #[.int .i64 a] 3)) (PenPost w Q v (bs ++ bWide a)) := by
  have h1 := pen_wide_lit h [a] (fun x hx => by simp at hx; subst hx; exact ha) (by simp) (by simp; omega)
  rw [show [a].flatMap bWide = bWide a by simp] at h1
  exact h1

set_option maxHeartbeats 4000000 in
theorem Write_c {w : World} {v : Value} {X : Wd} (hW : WorldAt w v X) : Calls Try.prog 13 #[v] w (GivesB (.tuple #[.string (writeW X), .int .i64 (errX X)]) w) := by
  have hC := fun o (k : Below w.heap.size w o) => WCheck_c (hW.below k)
  have hOk := @right_short X
  obtain ⟨e0, he0⟩ : ∃ e, errX X = e := ⟨_, rfl⟩
  have hS : writeW X = if e0 = 0 then strOfNums (bWorld X) else ⟨#[]⟩ := by rw [← he0]; rfl
  rw [he0] at hC hOk ⊢
  obtain ⟨s0, hs0⟩ : ∃ s, writeW X = s := ⟨_, rfl⟩
  rw [hs0] at hS ⊢
  obtain ⟨P, hP⟩ : ∃ P, GivesB (.tuple #[.string s0, .int .i64 e0]) w = P := ⟨_, rfl⟩
  rw [hP]
  replace hP := Lib.hid hP
  replace hS := Lib.hid hS
  replace hOk := Lib.hid hOk
  clear hs0 he0
  obtain ⟨gv, nv, wv, rfl, hg, hn, hw⟩ := hW
  obtain ⟨_, ga, gcap, rfl, _⟩ := hg.open
  obtain ⟨_, na, ncap, rfl, _⟩ := hn.form
  obtain ⟨_, wa, wcap, rfl, _⟩ := hw.form
  have hB := OBox.new w 40 (.slice ga X.groups.length gcap) (.slice na X.nodes.length ncap) (.slice wa X.wires.length wcap)
  have bA := below_a1 w (.cells #[.slice ga X.groups.length gcap, .slice na X.nodes.length ncap, .slice wa X.wires.length wcap] 40)
  go_enter Try.func13, Try.ntmps13
  go_upto_region 1 with fail
  generalize w.alloc (.cells #[.slice ga X.groups.length gcap, .slice na X.nodes.length ncap, .slice wa X.wires.length wcap] 40) = w1 at *
  obtain ⟨B, hBe⟩ : ∃ B, w.heap.size = B := ⟨_, rfl⟩
  have hC := hC w1 bA
  simp only [hBe] at hB ⊢
  replace hBe := Lib.hid hBe
  obtain ⟨_, x0, x1, x2⟩ := id hB
  go_wp2_with fail
  refine hC.mono ?_
  clear hC
  rintro e w2 ⟨rfl, b12⟩
  have b2 := below_trans bA b12
  have hB2 := hB.keep (b12.block B hB.lt)
  clear x0 x1 x2
  by_cases h0 : e0 = 0
  rotate_left
  · have q0 : (e0 != 0) = true := by simpa using h0
    have e1 := hS.out
    rw [if_neg h0] at e1
    replace h0 := Lib.hid h0
    replace e1 := Lib.hid e1
    go_wp2_with fail
    rw [← hP.out, e1.out]
    exact ⟨rfl, b2⟩
  have q0 : (e0 != 0) = false := by simpa using h0
  have hSh := hOk.out h0
  have hS' := hS.out
  rw [if_pos h0] at hS'
  replace hS' := Lib.hid hS'
  replace h0 := Lib.hid h0
  clear hS hOk
  have bP := below_a1 w2 (.cells #[.slice none 0 0] 83)
  have hPb : BlkIs (w2.alloc (.cells #[.slice none 0 0] 83)) w2.heap.size 83 1 := ⟨_, heap_alloc_new w2 _, rfl⟩
  have hPc := cells_new w2 #[.slice none 0 0] 83 0 _ rfl
  go_upto_region 5 with fail
  generalize w2.alloc (.cells #[.slice none 0 0] 83) = w0 at *
  obtain ⟨Q, hQe⟩ : ∃ Q, w2.heap.size = Q := ⟨_, rfl⟩
  replace hPc : w0.cell? ⟨w2.heap.size, 0, none⟩ = some (.slice none 0 0) := hPc
  have hBl := hB2.lt
  have hBQ := b2.size
  have hrd : ∀ {wr : World} {u : Value} {bs : List Int}, PenOn w0 w2.heap.size (.slice none 0 0) wr u bs → ∀ W, Save (PenB w2.heap.size u) wr W → Below w2.heap.size w2 W := fun h W k => h.under bP (Nat.le_refl _) k
  have hrg : ∀ {wr : World} {u : Value} {bs : List Int}, PenOn w0 w2.heap.size (.slice none 0 0) wr u bs → ∀ W, Save (PenB w2.heap.size u) wr W → Below w.heap.size w W := fun h W k => b2.trans ((hrd h W k).mono hBQ)
  have hp0 : PenOn w0 w2.heap.size (.slice none 0 0) w0 (.slice none 0 0) [] := PenOn.refl ⟨hPb, hPc, World.ownsRow_nil _ _ _ _⟩
  simp only [hQe] at hPb hPc hBl hBQ hrd hp0 ⊢
  have hrg : ∀ {wr : World} {u : Value} {bs : List Int}, PenOn w0 Q (.slice none 0 0) wr u bs → ∀ W, Save (PenB Q u) wr W → Below w.heap.size w W := fun h W k => hrg (by rw [hQe]; exact h) W (by rw [hQe]; exact k)
  clear bP hPb hPc hB b12 bA
  replace hQe := Lib.hid hQe
  have hx0 := hB2.keep ((hrd hp0 _ (Save.refl _ _)).block B hBl)
  obtain ⟨_, x0, x1, x2⟩ := id hx0
  have hC9 := pen_small1 hp0.1 (a := (X.groups.length : Int)) (by unfold I64; have := hSh.g; omega) (by simp)
  go_wp2_with fail
  refine hC9.mono ?_
  clear hC9 x0 x1 x2
  rintro e w5 ⟨rfl, u5, hp9⟩
  have hp5 := hp0.trans hp9
  have b5 := hrd hp5 _ (Save.refl _ _)
  have hx5 := hB2.keep (b5.block B hBl)
  obtain ⟨_, x0, x1, x2⟩ := id hx5
  have hC9 := pen_small_c hp5.1 (fun W hW => hg.below (hrg hp5 W hW)) (by have := hSh.g; simp [bSmall]; omega)
  go_wp2_with fail
  refine hC9.mono ?_
  clear hC9 x0 x1 x2
  rintro e w6 ⟨rfl, u6, hp9⟩
  have hp6 := hp5.trans hp9
  have b6 := hrd hp6 _ (Save.refl _ _)
  have hx6 := hB2.keep (b6.block B hBl)
  obtain ⟨_, x0, x1, x2⟩ := id hx6
  have hl6 : ([] ++ bSmall (X.groups.length : Int) ++ X.groups.flatMap bSmall).length ≤ 4 := by
    have := fmap_len (f := bSmall) (l := X.groups) (c := 1) (fun _ _ => Nat.le_refl _)
    have := hSh.g
    simp only [List.length_append, List.length_nil]
    have e : (bSmall (X.groups.length : Int)).length = 1 := rfl
    omega
  have hC9 := pen_small1 hp6.1 (a := (X.nodes.length : Int)) (by unfold I64; have := hSh.n; omega) (by omega)
  go_wp2_with fail
  refine hC9.mono ?_
  clear hC9 x0 x1 x2
  rintro e w7 ⟨rfl, u7, hp9⟩
  have hp7 := hp6.trans hp9
  have b7 := hrd hp7 _ (Save.refl _ _)
  have hx7 := hB2.keep (b7.block B hBl)
  obtain ⟨_, x0, x1, x2⟩ := id hx7
  obtain ⟨c7, hc7⟩ : ∃ c, [] ++ bSmall (X.groups.length : Int) ++ X.groups.flatMap bSmall ++ bSmall (X.nodes.length : Int) = c := ⟨_, rfl⟩
  have hl7 : c7.length ≤ 5 := by
    rw [← hc7, List.length_append]
    have e : (bSmall (X.nodes.length : Int)).length = 1 := rfl
    omega
  rw [hc7] at hp7
  replace hc7 := Lib.hid hc7
  clear hl6 hp5 hp6 hp9 b5 b6 hx5 hx6
  go_upto_region 9 with fail
  go_loopw [40] (fun i wr => ∃ (k : Nat) (u : Value), k ≤ X.nodes.length ∧ i = .int .i64 k ∧ PenOn w0 Q (.slice none 0 0) wr u (c7 ++ (X.nodes.take k).flatMap bNode)) (fun i _ => X.nodes.length - (intOf i).toNat)
  case atStart => exact ⟨0, u7, by omega, rfl, by simpa using hp7⟩
  case round =>
    clear hp7 hx7 b7 x0 x1 x2
    obtain ⟨k, u, hk, rfl, hp⟩ := hrel
    have hbw := hrd hp _ (Save.refl _ _)
    by_cases hlt : k < X.nodes.length
    · obtain ⟨b4, o4, c5, lv, hv, tv, e4, _, k0, k1, k2, k3, hi64, hL, hH, hT⟩ := hn.at hlt
      cases e4
      have bwr := hrg hp _ (Save.refl _ _)
      have k0 := (bwr.cell (cell_lt k0)).trans k0
      have k1 := (bwr.cell (cell_lt k1)).trans k1
      have k2 := (bwr.cell (cell_lt k2)).trans k2
      have k3 := (bwr.cell (cell_lt k3)).trans k3
      have e1 : decide ((k : Int) < (X.nodes.length : Int)) = true := decide_eq_true (by omega)
      have hft := bflat_take bNode N.zero hlt
      have hmem : X.nodes.getD k N.zero ∈ X.nodes := by rw [getD_lt _ _ hlt]; exact List.getElem_mem _
      have hnl := hSh.node _ hmem
      have htb := hSh.tab _ hmem
      have hhl := hSh.held _ hmem
      have hal := fmap_len (f := bNode) (l := X.nodes.take k) (c := 21001) (fun x hx => hSh.node x (List.mem_of_mem_take hx))
      have hn4 := hSh.n
      have hkl : (X.nodes.take k).length ≤ 4 := by rw [List.length_take]; omega
      obtain ⟨x, hx⟩ : ∃ x, X.nodes.getD k N.zero = x := ⟨_, rfl⟩
      rw [hx] at k0 hi64 hL hH hT hft hnl htb hhl
      clear hx hmem
      have hfe : c7 ++ (X.nodes.take (k + 1)).flatMap bNode = (c7 ++ (X.nodes.take k).flatMap bNode) ++ bNode x := by rw [hft, List.append_assoc]
      have hcl : (c7 ++ (X.nodes.take k).flatMap bNode).length ≤ 100000 := by
        rw [List.length_append]
        have := Nat.mul_le_mul_right 21001 hkl
        omega
      obtain ⟨cs, hcs⟩ : ∃ cs, c7 ++ (X.nodes.take k).flatMap bNode = cs := ⟨_, rfl⟩
      rw [hcs] at hp hcl hfe
      clear hcs hft hal
      replace hfe := Lib.hid hfe
      obtain ⟨_, la, lc, rfl, _⟩ := hL.form
      obtain ⟨_, ha, hc, rfl, _⟩ := hH.open
      obtain ⟨_, ta, tc, rfl, _⟩ := hT.open
      have hQl := hp.1.1.lt
      have hol := hp.1.2.2.lt
      have hNb := NBox.new wr x (.slice la x.last.length lc) (.slice ha x.held.length hc) (.slice ta x.told.length tc) 79
      have hpa := hp.1.alloc (.cells #[.int .i64 x.clock, .slice la x.last.length lc, .slice ha x.held.length hc, .slice ta x.told.length tc] 79)
      have hba := below_a1 wr (.cells #[.int .i64 x.clock, .slice la x.last.length lc, .slice ha x.held.length hc, .slice ta x.told.length tc] 79)
      have hsz : (wr.alloc (.cells #[.int .i64 x.clock, .slice la x.last.length lc, .slice ha x.held.length hc, .slice ta x.told.length tc] 79)).heap.size = wr.heap.size + 1 := World.size_alloc _ _
      have hpre : ∀ {w9 : World} {v9 : Value} {b9 : List Int}, PenOn (wr.alloc (.cells #[.int .i64 x.clock, .slice la x.last.length lc, .slice ha x.held.length hc, .slice ta x.told.length tc] 79)) Q u w9 v9 b9 → PenOn w0 Q (.slice none 0 0) w9 v9 b9 := fun h => hp.trans h.pre
      have hCo : ¬ u.ownBlock = some wr.heap.size := fun e => by have := (hol _ e).2; omega
      replace hsz := Lib.hid hsz
      go_upto_region 11 with fail
      generalize wr.alloc (.cells #[.int .i64 x.clock, .slice la x.last.length lc, .slice ha x.held.length hc, .slice ta x.told.length tc] 79) = w8 at *
      obtain ⟨C, hC⟩ : ∃ C, wr.heap.size = C := ⟨_, rfl⟩
      have hCl : C < w8.heap.size := by have := hsz.out; omega
      simp only [hC] at hNb hCo hQl ⊢
      clear hC k0 k1 k2 k3 hba bwr hbw
      have hCQ : C ≠ Q := by omega
      obtain ⟨n0, n1, n2, n3⟩ := id hNb
      have hC9 := pen_wide1 hpa (a := x.clock) hi64 (by omega)
      go_wp2_with fail
      refine hC9.mono ?_
      clear hC9
      rintro e w9 ⟨rfl, u9, hq9⟩
      have hl9 : (cs ++ bWide x.clock).length ≤ 100010 := by
        rw [List.length_append]
        have e : (bWide x.clock).length = 3 := rfl
        omega
      obtain ⟨c9, hc9⟩ : ∃ c, cs ++ bWide x.clock = c := ⟨_, rfl⟩
      rw [hc9] at hq9 hl9
      replace hc9 := Lib.hid hc9
      have hN9 : ∀ (w' : World) (v' : Value) (b' : List Int), PenOn w8 Q u w' v' b' → NBox w' C x (.slice la x.last.length lc) (.slice ha x.held.length hc) (.slice ta x.told.length tc) := fun _ _ _ h => by
        have e := h.keep hCl hCQ hCo
        exact ⟨(World.cell?_of_block (w := w8) (a := ⟨C, 0, none⟩) e).trans n0, (World.cell?_of_block (w := w8) (a := ⟨C, 1, none⟩) e).trans n1, (World.cell?_of_block (w := w8) (a := ⟨C, 2, none⟩) e).trans n2, (World.cell?_of_block (w := w8) (a := ⟨C, 3, none⟩) e).trans n3⟩
      obtain ⟨_, m1, _, _⟩ := hN9 _ _ _ hq9
      replace hN9 := Lib.hid hN9
      clear n0 n1 n2 n3
      go_upto_region 13 with fail
      clear m1
      go_loopw [52] (fun i wr => ∃ (j : Nat) (u' : Value), j ≤ x.last.length ∧ i = .int .i64 j ∧ PenOn w8 Q u wr u' (c9 ++ (x.last.take j).flatMap (fun r => r.flatMap bWide))) (fun i _ => x.last.length - (intOf i).toNat)
      case atStart => exact ⟨0, u9, by omega, rfl, by simpa using hq9⟩
      case round =>
        obtain ⟨j, u', hj, rfl, hq⟩ := hrel
        by_cases hjl : j < x.last.length
        · obtain ⟨b5, o5, c6, rv, e5, _, r0, hRw⟩ := hL.at hjl
          cases e5
          have r0 := ((hrg (hpre hq) _ (Save.refl _ _)).cell (cell_lt r0)).trans r0
          have e2 : decide ((j : Int) < (x.last.length : Int)) = true := decide_eq_true (by omega)
          have hft2 := bflat_take (fun r : List Int => r.flatMap bWide) [] hjl
          have hrl4 := htb.2 (x.last.getD j []) (by rw [getD_lt _ _ hjl]; exact List.getElem_mem _)
          have hal := fmap_len (f := fun r : List Int => r.flatMap bWide) (l := x.last.take j) (c := 12) (fun r hr => by
            have h6 := fmap_len (f := bWide) (l := r) (c := 3) (fun _ _ => Nat.le_refl _)
            have := htb.2 r (List.mem_of_mem_take hr)
            omega)
          have hkl2 : (x.last.take j).length ≤ 3 := by rw [List.length_take]; have := htb.1; omega
          obtain ⟨row, hrow⟩ : ∃ r, x.last.getD j [] = r := ⟨_, rfl⟩
          rw [hrow] at hRw hft2 hrl4
          clear hrow
          obtain ⟨_, ra, rc, rfl, _⟩ := hRw.open
          have hfe2 : c9 ++ (x.last.take (j + 1)).flatMap (fun r => r.flatMap bWide) = (c9 ++ (x.last.take j).flatMap (fun r => r.flatMap bWide)) ++ row.flatMap bWide := by rw [hft2, List.append_assoc]
          have hlen2 : (c9 ++ (x.last.take j).flatMap (fun r => r.flatMap bWide)).length ≤ 100100 := by
            rw [List.length_append]
            have := Nat.mul_le_mul_right 12 hkl2
            omega
          have hC9 := pen_wide_c hq.1 (fun W hW => hRw.below (hrg (hpre hq) W hW)) (by omega)
          replace hfe2 := Lib.hid hfe2
          clear hft2 hal
          go_wp2_with fail
          refine hC9.mono ?_
          clear hC9
          rintro e w10 ⟨rfl, u10, hq10⟩
          go_wp2_with fail
          go_roundw
          case rel => exact ⟨j + 1, u10, by omega, by go_num, by rw [hfe2.out]; exact hq.trans hq10⟩
          case measure => simp [intOf]; omega
        · have hje : j = x.last.length := by omega
          have e2 : decide ((j : Int) < (x.last.length : Int)) = false := decide_eq_false (by omega)
          rw [hje, List.take_length] at hq
          clear hq9 hje
          have hlen2 : (c9 ++ x.last.flatMap (fun r => r.flatMap bWide)).length ≤ 100100 := by
            have hal := fmap_len (f := fun r : List Int => r.flatMap bWide) (l := x.last) (c := 12) (fun r hr => by
              have h6 := fmap_len (f := bWide) (l := r) (c := 3) (fun _ _ => Nat.le_refl _)
              have := htb.2 r hr
              omega)
            have := htb.1
            rw [List.length_append]
            omega
          obtain ⟨_, _, m2, _⟩ := hN9.out _ _ _ hq
          have hC9 := pen_msgs_c hq.1 (fun W hW => hH.below (hrg (hpre hq) W hW)) (by have := hhl.1; omega)
          go_wp2_with fail
          refine hC9.mono ?_
          clear hC9 m2
          rintro e w10 ⟨rfl, u10, hq10⟩
          have hqA := hq.trans hq10
          obtain ⟨_, _, _, m3⟩ := hN9.out _ _ _ hqA
          have hC9 := pen_msgs_c hqA.1 (fun W hW => hT.below (hrg (hpre hqA) W hW)) (by rw [List.length_append]; have := hhl.1; have := hhl.2; omega)
          go_wp2_with fail
          refine hC9.mono ?_
          clear hC9 m3
          rintro e w11 ⟨rfl, u11, hq11⟩
          have hqB := hpre (hqA.trans hq11)
          have he : c9 ++ x.last.flatMap (fun r => r.flatMap bWide) ++ bMsgs x.held ++ bMsgs x.told = cs ++ bNode x := by
            rw [← hc9.out]
            unfold bNode
            simp only [List.append_assoc]
          rw [he, ← hfe.out] at hqB
          replace he := Lib.hid he
          go_wp2_with fail
          go_roundw
          case rel => exact ⟨k + 1, u11, by omega, by go_num, hqB⟩
          case measure => simp [intOf]; omega
    · have hke : k = X.nodes.length := by omega
      have e1 : decide ((k : Int) < (X.nodes.length : Int)) = false := decide_eq_false (by omega)
      rw [hke, List.take_length] at hp
      clear hke
      have hxN := hB2.keep (hbw.block B hBl)
      obtain ⟨_, x0, x1, x2⟩ := id hxN
      have hl8 : (c7 ++ X.nodes.flatMap bNode).length ≤ 100000 := by
        have hal := fmap_len (f := bNode) (l := X.nodes) (c := 21001) hSh.node
        have hn4 := hSh.n
        rw [List.length_append]
        have := Nat.mul_le_mul_right 21001 hn4
        omega
      obtain ⟨c8, hc8⟩ : ∃ c, c7 ++ X.nodes.flatMap bNode = c := ⟨_, rfl⟩
      rw [hc8] at hp hl8
      replace hc8 := Lib.hid hc8
      go_upto_region 21 with fail
      clear x0 x1 x2 hxN hbw
      go_loopw [72] (fun i wr => ∃ (k : Nat) (u : Value), k ≤ X.wires.length ∧ i = .int .i64 k ∧ PenOn w0 Q (.slice none 0 0) wr u (c8 ++ (X.wires.take k).flatMap (fun r => r.flatMap bMsgs))) (fun i _ => X.wires.length - (intOf i).toNat)
      case atStart => exact ⟨0, u, by omega, rfl, by simpa using hp⟩
      case round =>
        clear hp
        obtain ⟨a, u, ha, rfl, hp⟩ := hrel
        by_cases hal : a < X.wires.length
        · obtain ⟨b5, o5, c6, rv, e5, _, r0, hRw⟩ := hw.row hal
          cases e5
          have r0 := ((hrg hp _ (Save.refl _ _)).cell (cell_lt r0)).trans r0
          have e2 : decide ((a : Int) < (X.wires.length : Int)) = true := decide_eq_true (by omega)
          have hft2 := bflat_take (fun r : List (List M) => r.flatMap bMsgs) [] hal
          have hmem : X.wires.getD a [] ∈ X.wires := by rw [getD_lt _ _ hal]; exact List.getElem_mem _
          have hr4 := hSh.row _ hmem
          have hrb := hSh.list _ hmem
          have hfl := fmap_len (f := fun r : List (List M) => r.flatMap bMsgs) (l := X.wires.take a) (c := 41924) (fun r hr => by
            have h6 := fmap_len (f := bMsgs) (l := r) (c := 10481) (hSh.list r (List.mem_of_mem_take hr))
            have := Nat.mul_le_mul_right 10481 (hSh.row r (List.mem_of_mem_take hr))
            omega)
          have hkl2 : (X.wires.take a).length ≤ 4 := by rw [List.length_take]; have := hSh.w; omega
          obtain ⟨row, hrow⟩ : ∃ r, X.wires.getD a [] = r := ⟨_, rfl⟩
          rw [hrow] at hRw hft2 hr4 hrb
          clear hrow hmem
          obtain ⟨_, ra, rc, rfl, _⟩ := hRw.form
          have hfe : c8 ++ (X.wires.take (a + 1)).flatMap (fun r => r.flatMap bMsgs) = (c8 ++ (X.wires.take a).flatMap (fun r => r.flatMap bMsgs)) ++ row.flatMap bMsgs := by rw [hft2, List.append_assoc]
          have hlen2 : (c8 ++ (X.wires.take a).flatMap (fun r => r.flatMap bMsgs)).length ≤ 300000 := by
            rw [List.length_append]
            have := Nat.mul_le_mul_right 41924 hkl2
            omega
          obtain ⟨cs, hcs⟩ : ∃ cs, c8 ++ (X.wires.take a).flatMap (fun r => r.flatMap bMsgs) = cs := ⟨_, rfl⟩
          rw [hcs] at hp hlen2 hfe
          clear hcs hft2 hfl
          replace hfe := Lib.hid hfe
          obtain ⟨wo, rfl⟩ : ∃ wo : World, wo = wr := ⟨_, rfl⟩
          go_upto_region 24 with fail
          clear r0
          go_loopw [78] (fun i wr => ∃ (j : Nat) (u' : Value), j ≤ row.length ∧ i = .int .i64 j ∧ PenOn w0 Q (.slice none 0 0) wr u' (cs ++ (row.take j).flatMap bMsgs)) (fun i _ => row.length - (intOf i).toNat)
          case atStart => exact ⟨0, u, by omega, rfl, by simpa using hp⟩
          case round =>
            clear hp
            obtain ⟨j, u', hj, rfl, hq⟩ := hrel
            by_cases hjl : j < row.length
            · obtain ⟨b6, o6, c9, lv, e6, _, t0, hLm⟩ := hRw.at hjl
              cases e6
              have t0 := ((hrg hq _ (Save.refl _ _)).cell (cell_lt t0)).trans t0
              have e3 : decide ((j : Int) < (row.length : Int)) = true := decide_eq_true (by omega)
              have hft3 := bflat_take bMsgs [] hjl
              have hlb := hrb (row.getD j []) (by rw [getD_lt _ _ hjl]; exact List.getElem_mem _)
              have hfl := fmap_len (f := bMsgs) (l := row.take j) (c := 10481) (fun r hr => hrb r (List.mem_of_mem_take hr))
              have hkl3 : (row.take j).length ≤ 4 := by rw [List.length_take]; omega
              obtain ⟨ms, hms⟩ : ∃ r, row.getD j [] = r := ⟨_, rfl⟩
              rw [hms] at hLm hft3 hlb
              clear hms
              obtain ⟨_, ma, mc, rfl, _⟩ := hLm.open
              have hfe3 : cs ++ (row.take (j + 1)).flatMap bMsgs = (cs ++ (row.take j).flatMap bMsgs) ++ bMsgs ms := by rw [hft3, List.append_assoc]
              have hC9 := pen_msgs_c hq.1 (fun W hW => hLm.below (hrg hq W hW)) (by
                rw [List.length_append]
                have := Nat.mul_le_mul_right 10481 hkl3
                omega)
              replace hfe3 := Lib.hid hfe3
              clear hft3 hfl
              go_wp2_with fail
              refine hC9.mono ?_
              clear hC9
              rintro e w10 ⟨rfl, u10, hq10⟩
              go_wp2_with fail
              go_roundw
              case rel => exact ⟨j + 1, u10, by omega, by go_num, by rw [hfe3.out]; exact hq.trans hq10⟩
              case measure => simp [intOf]; omega
            · have hje : j = row.length := by omega
              have e3 : decide ((j : Int) < (row.length : Int)) = false := decide_eq_false (by omega)
              rw [hje, List.take_length, ← hfe.out] at hq
              clear hje
              go_wp2_with fail
              go_roundw
              case rel => exact ⟨a + 1, u', by omega, by go_num, hq⟩
              case measure => simp [intOf]; omega
        · have hae : a = X.wires.length := by omega
          have e2 : decide ((a : Int) < (X.wires.length : Int)) = false := decide_eq_false (by omega)
          rw [hae, List.take_length] at hp
          clear hae
          have hall : c8 ++ X.wires.flatMap (fun r => r.flatMap bMsgs) = bWorld X := by
            rw [← hc8.out, ← hc7.out]
            unfold bWorld
            simp only [List.append_assoc, List.nil_append]
          rw [hall] at hp
          have hlw : (bWorld X).length ≤ 1000000 := by
            rw [← hall, List.length_append]
            have hfl := fmap_len (f := fun r : List (List M) => r.flatMap bMsgs) (l := X.wires) (c := 41924) (fun r hr => by
              have h6 := fmap_len (f := bMsgs) (l := r) (c := 10481) (hSh.list r hr)
              have := Nat.mul_le_mul_right 10481 (hSh.row r hr)
              omega)
            have := Nat.mul_le_mul_right 41924 hSh.w
            omega
          clear hall
          have hbF := hrg hp _ (Save.refl _ _)
          obtain ⟨hB0, hc, ho⟩ := id hp.1
          obtain ⟨bs, hbs⟩ : ∃ b, bWorld X = b := ⟨_, rfl⟩
          have hne : bs.length ≠ 0 := by
            rw [← hbs]
            unfold bWorld bSmall
            simp
          rw [hbs] at ho hlw hS'
          clear hbs
          obtain ⟨pa, pc, rfl⟩ := own_form ho
          obtain ⟨_, _, _, _, e5, _, hcl⟩ := Row.of_owns ho (by rw [List.length_map]; omega)
          cases e5
          obtain ⟨b5, o5, rfl, hcl2⟩ := hcl hne
          have hconv := run_convert_bytes_arg (P := Try.prog) wr 81 5 Try.underlying81 Try.underlying5 b5 o5 bs.length pc bs rfl (fun i hi => by
            have h5 := hcl2 i (by rw [List.length_map]; exact hi)
            rw [h5, List.getD_eq_getElem?_getD, List.getElem?_map, List.getElem?_eq_getElem hi, getD_lt bs 0 hi]
            rfl) 9 Try.underlying9
          clear hcl hcl2 hne
          go_wp2_with fail
          rw [← hP.out, hS'.out, h0.out]
          exact ⟨rfl, hbF⟩
end Go.Proofs.Ytnalakhelicjcaa
