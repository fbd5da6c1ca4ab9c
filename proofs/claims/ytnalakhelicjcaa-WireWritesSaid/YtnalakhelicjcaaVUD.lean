/-
  The pen: small numbers, wide ones, messages.
-/
import Derived.Test.YtnalakhelicjcaaVUB
import Derived.Test.YtnalakhelicjcaaVKO
import Derived.Lib.AppendStr
import Derived.Test.YtnalakhelicjcaaVKN
set_option maxRecDepth 100000
namespace Go.Proofs.Ytnalakhelicjcaa
open Go.RowKit Go.Shelf Go.BigFrame Go.Deep

theorem infoCByteP : (Try.prog.info? 5).map (fun i => (i.zero, i.size, i.bytes)) = some (some (.int .u8 0), 1, 1) := by kernel_rfl
theorem Row.lit (w : World) (e : TypeId) (cs : List Value) (hc : cs.length * 8 ≤ 140737488351232) : Row (w.alloc (.cells cs.toArray e)) (.slice (some ⟨w.heap.size, 0, none⟩) cs.length cs.length) cs.length 1 cs := by
  refine ⟨by omega, hc, _, _, rfl, Nat.le_refl _, fun _ => ⟨w.heap.size, 0, rfl, fun k hk => ?_⟩⟩
  have h := cells_new w cs.toArray e k (cs.getD k undef) (by simp [List.getD_eq_getElem?_getD, hk])
  have e : (⟨w.heap.size, 0, none⟩ : Addr).add k = ⟨w.heap.size, 0 + k, none⟩ := by
    unfold Addr.add
    split
    · simp_all
    · rfl
  rw [← e]
  exact h
section
variable {P : Program} (w : World)
/-- Where the bytes lie behind an append of a string. -/
theorem run_append_str (base : Nat) (t u ty e : TypeId) (i : TypeInfo) (ht : P.underlying t = some (.slice e)) (hu : P.underlying u = some .string) (hi : P.info? e = some i) (hz : i.zero = some (.int .u8 0)) (hsize : i.size = 1) (hby : i.bytes = 1)
    (v : Value) (n : Nat) (xs : List Value) (hown : w.ownsRow base e 1 v n xs) (s : ByteArray) (h63 : n + s.size ≤ 1000000000) (hbase : base ≤ w.heap.size) :
    ∃ v' w', (Builtin.append_ #[t, u] ty #[v, .string s]).run P w = .ok v' w' ∧ w'.ownsRow base e 1 v' (n + s.size) (xs ++ Lib.strCells s) ∧ w.grownBy w' v.ownBlock ∧ (v'.ownBlock = v.ownBlock ∨ v'.ownBlock = some w.heap.size) := by
  have hm : n + s.size ≤ maxLen := by unfold maxLen; omega
  obtain ⟨v', w', hr, h1, h2, h3⟩ := Lib.run_append_own_string (P := P) w base t u ty e i ht hu hi hz hsize hby v n xs hown s hm (by omega) hbase
  refine ⟨v', w', hr, h1, h2, ?_⟩
  rcases hown.2 with ⟨rfl, rfl⟩ | ⟨g, cap, cur, rfl, hbg, hg, hnc, hcm, hcs, htake⟩
  · by_cases h0 : s.size = 0
    · exact Or.inl (by rw [h3.2 ⟨rfl, h0⟩])
    · have k := run_append_nil_string (P := P) w t u ty e i (.int .u8 0) ht hu hi hz s (by omega) (by omega) (by rw [hby]; omega)
      rw [hr] at k
      injection k with k1 k2
      exact Or.inr (by rw [k1]; rfl)
  · by_cases hroom : n + s.size ≤ cap
    · have k := Lib.run_append_room_string (P := P) w t u ty e i ht hu hi hsize g n cap cur hg s hroom (by omega)
      rw [hr] at k
      injection k with k1 k2
      exact Or.inl (by rw [k1]; rfl)
    · have k := Lib.run_append_grow_string (P := P) w t u ty e i (.int .u8 0) ht hu hi hz ⟨g, 0, none⟩ n cap xs (by rw [hsize]; simpa using hown.1) (hown.cells (g := g) rfl) s (by omega) (by omega) (by rw [hby]; exact growslice_fits (by omega) (by omega))
      rw [hr] at k
      injection k with k1 k2
      exact Or.inr (by rw [k1]; rfl)
theorem wpList_append_str {ops : Array Oper} {rest : List Oper} {o : Oper} {a : Act} {Q : Exit → Act → World → Prop} (hgd : o.guard = none) (s0 x0 : Operand) (t u : TypeId)
    (ho : o.op = .call { callee := .builtin .append, args := #[s0, x0], argTypes := #[t, u] })
    (base : Nat) (e : TypeId) (i : TypeInfo) (ht : P.underlying t = some (.slice e)) (hu : P.underlying u = some .string) (hi : P.info? e = some i) (hz : i.zero = some (.int .u8 0)) (hsize : i.size = 1) (hby : i.bytes = 1)
    (v : Value) (n : Nat) (xs : List Value) (hs : a.eval s0 = v) (hown : w.ownsRow base e 1 v n xs) (s : ByteArray) (hx : a.eval x0 = .string s) (h63 : n + s.size ≤ 1000000000) (hbase : base ≤ w.heap.size)
    (h : ∀ v' w', w'.ownsRow base e 1 v' (n + s.size) (xs ++ Lib.strCells s) → w.grownBy w' v.ownBlock → (v'.ownBlock = v.ownBlock ∨ v'.ownBlock = some w.heap.size) → wpList P ops Q rest (a.put o.dst v') w') : wpList P ops Q (o :: rest) a w := by
  refine wpList_plain hgd fun _ hK => ?_
  obtain ⟨v', w', hr, h2, h3, h4⟩ := run_append_str (P := P) w base t u o.type e i ht hu hi hz hsize hby v n xs hown s h63 hbase
  unfold Oper.wp execOp
  simp only [ho, resolve, invoke, builtin, Sem.run_bind, Sem.run_pure, Result.andThen_ok, List.map_toArray, List.map_cons, List.map_nil, hs, hx, hr]
  exact hK _ _ (h v' w' h2 h3 h4)
end
/-- The pen in block Q; its bytes lie in v. -/
def PenAt (w : World) (Q : Nat) (v : Value) (bs : List Int) : Prop :=
  BlkIs w Q 83 1 ∧ w.cell? ⟨Q, 0, none⟩ = some v ∧ w.ownsRow (Q + 1) 5 1 v bs.length (bs.map (Value.int .u8))
/-- What the pen may write on. -/
def PenB (Q : Nat) (v : Value) (b : Nat) : Prop := b = Q ∨ v.ownBlock = some b
def PenOn (w : World) (Q : Nat) (v : Value) (w' : World) (v' : Value) (bs : List Int) : Prop :=
  PenAt w' Q v' bs ∧ (∀ b, v'.ownBlock = some b → v.ownBlock = some b ∨ w.heap.size ≤ b) ∧ Save (PenB Q v) w w'
theorem PenOn.refl {w : World} {Q : Nat} {v : Value} {bs : List Int} (h : PenAt w Q v bs) : PenOn w Q v w v bs := ⟨h, fun _ hb => Or.inl hb, Save.refl _ _⟩
theorem PenOn.trans {w w1 w2 : World} {Q : Nat} {v v1 v2 : Value} {bs bs2 : List Int} (h : PenOn w Q v w1 v1 bs) (k : PenOn w1 Q v1 w2 v2 bs2) : PenOn w Q v w2 v2 bs2 := by
  obtain ⟨_, h2, h3⟩ := h
  obtain ⟨k1, k2, k3⟩ := k
  refine ⟨k1, fun b hb => ?_, h3.trans k3 (fun b hb hlt => ?_)⟩
  · rcases k2 b hb with h4 | h4
    · exact h2 b h4
    · exact Or.inr (Nat.le_trans h3.size h4)
  · rcases hb with h4 | h4
    · exact Or.inl h4
    · exact (h2 b h4).elim Or.inr (fun h5 => by omega)
/-- One append, and the store. -/
theorem PenAt.put {w w1 : World} {Q : Nat} {v v' : Value} {bs cs : List Int} (h : PenAt w Q v bs) (ho : w1.ownsRow (Q + 1) 5 1 v' (bs ++ cs).length ((bs ++ cs).map (Value.int .u8))) (hk : Save (fun b => v.ownBlock = some b) w w1)
    (hn : ∀ b, v'.ownBlock = some b → v.ownBlock = some b ∨ w.heap.size ≤ b) : PenOn w Q v (w1.setCell ⟨Q, 0, none⟩ v') v' (bs ++ cs) := by
  obtain ⟨h1, _, h3⟩ := h
  have hq : ¬ v.ownBlock = some Q := fun e => by have := (h3.lt Q e).1; omega
  have h4 := h1.same (hk.block Q h1.lt hq)
  refine ⟨⟨h4.setCell, h4.cell_set (by omega), ?_⟩, hn, ⟨hk.os, hk.tape, hk.output, by rw [Go.Deep.nblk_setCell]; exact hk.size, fun b hb hn => (Go.Deep.blk_setCell_other _ _ _ _ (fun e => hn (Or.inl e))).trans (hk.block b hb (fun e => hn (Or.inr e)))⟩⟩
  rcases ho with ⟨e, h5 | ⟨g, cap, cur, e1, e2, e3, e4⟩⟩
  · exact ⟨e, Or.inl h5⟩
  · exact ⟨e, Or.inr ⟨g, cap, cur, e1, e2, (Go.Deep.blk_setCell_other _ _ _ _ (by show g ≠ Q; omega)).trans e3, e4⟩⟩
def PenPost (w : World) (Q : Nat) (v : Value) (bs : List Int) (e : Ending) (w' : World) : Prop := e = .returned (.tuple #[]) ∧ ∃ v', PenOn w Q v w' v' bs

theorem save_app {w w1 : World} {o : Obj} {r : Option Nat} (h : (w.alloc o).grownBy w1 r) : Save (fun b => r = some b) w w1 :=
  ⟨h.os, h.tape, h.output, Nat.le_trans (by rw [World.size_alloc]; omega) h.size, fun b hb hn => (h.block b (by rw [World.size_alloc]; omega) (fun e => hn e.symm)).trans (Go.Deep.blk_alloc_lt _ _ _ hb)⟩
theorem bflat_take {α β : Type} (f : α → List β) {l : List α} {k : Nat} (d : α) (h : k < l.length) : (l.take (k + 1)).flatMap f = (l.take k).flatMap f ++ f (l.getD k d) := by
  rw [List.take_succ_eq_append_getElem h, List.flatMap_append, getD_lt l d h]
  simp
theorem bflat_len {α β : Type} {f : α → List β} {c : Nat} : ∀ {l : List α}, (∀ x ∈ l, (f x).length ≤ c) → (l.flatMap f).length ≤ l.length * c
  | [], _ => by simp
  | a :: l, h => by
    have h1 := h a (List.mem_cons_self ..)
    have h2 := bflat_len (l := l) (fun x hx => h x (List.mem_cons_of_mem _ hx))
    rw [List.flatMap_cons, List.length_append, List.length_cons, Nat.add_mul]
    omega
theorem bflat_take_len {α β : Type} {f : α → List β} {c k : Nat} {l : List α} (h : ∀ x ∈ l, (f x).length ≤ c) : ((l.take k).flatMap f).length ≤ l.length * c := by
  refine Nat.le_trans (bflat_len (l := l.take k) (fun x hx => h x (List.mem_of_mem_take hx))) (Nat.mul_le_mul_right _ ?_)
  rw [List.length_take]
  omega

set_option maxHeartbeats 1000000 in
theorem pen_small_c {w : World} {Q : Nat} {v lv : Value} {bs l : List Int} (h : PenAt w Q v bs) (hl : ∀ W, Save (PenB Q v) w W → Ints W lv l) (hb : bs.length + l.length * 1 ≤ 1000000) :
    Calls Try.prog 37 #[.pointer (some ⟨Q, 0, none⟩), lv] w (PenPost w Q v (bs ++ l.flatMap bSmall)) := by
  obtain ⟨hll, la, lcap, rfl, _⟩ := (hl w (Save.refl _ _)).open
  obtain ⟨i0, hi0, hz0, hz1, hz2⟩ := info_parts infoCByteP
  obtain ⟨P, hP⟩ : ∃ P, PenPost w Q v (bs ++ l.flatMap bSmall) = P := ⟨_, rfl⟩
  rw [hP]
  replace hP := Lib.hid hP
  replace hl := Lib.hid hl
  have hbl : ∀ k, (bs ++ (l.take k).flatMap bSmall).length ≤ 1000000 := fun k => by
    have := bflat_take_len (f := bSmall) (k := k) (l := l) (c := 1) (fun x _ => Nat.le_refl _)
    rw [List.length_append]
    omega
  go_enter Try.func37, Try.ntmps37
  go_upto_region 1 with fail
  go_loopw [8] (fun i wr => ∃ (k : Nat) (u : Value), k ≤ l.length ∧ i = .int .i64 k ∧ PenOn w Q v wr u (bs ++ (l.take k).flatMap bSmall)) (fun i _ => l.length - (intOf i).toNat)
  case atStart => exact ⟨0, v, by omega, rfl, by simpa using PenOn.refl h⟩
  case round =>
    clear h
    obtain ⟨k, u, hk, rfl, hp⟩ := hrel
    by_cases hlt : k < l.length
    · obtain ⟨b4, o4, c5, e4, _, q1, hq64⟩ := (hl.out wr hp.2.2).at (a := k) hlt
      cases e4
      have e1 : decide ((k : Int) < (l.length : Int)) = true := decide_eq_true (by omega)
      have hft := bflat_take bSmall (0 : Int) hlt
      obtain ⟨n, hn⟩ : ∃ n, l.getD k 0 = n := ⟨_, rfl⟩
      rw [hn] at q1 hq64 hft
      clear hn
      have hcl := hbl k
      have hfe : bs ++ (l.take (k + 1)).flatMap bSmall = (bs ++ (l.take k).flatMap bSmall) ++ [n % 256] := by rw [hft, List.append_assoc]; rfl
      obtain ⟨cs, hcs⟩ : ∃ cs, bs ++ (l.take k).flatMap bSmall = cs := ⟨_, rfl⟩
      rw [hcs] at hp hcl hfe
      clear hcs hft
      replace hfe := Lib.hid hfe
      obtain ⟨hB, hc, ho⟩ := id hp.1
      have hf := hB.frozen 0
      obtain ⟨pa, pc, rfl⟩ := own_form ho
      have hR : Row (wr.alloc (.cells #[.int .u8 (n % 256)] 5)) (.slice (some ⟨wr.heap.size, 0, none⟩) 1 1) 1 1 [.int .u8 (n % 256)] := Row.lit wr 5 [.int .u8 (n % 256)] (by simp)
      have hQl := hB.lt
      go_wp2_with (at_builtin; refine wpList_append_row _ rfl _ _ 81 rfl (Q + 1) 5 i0 _ 1 1 Try.underlying81 hi0 hz0 hz1 hz2 rfl (by decide) (.slice pa cs.length pc) cs.length (cs.map (Value.int .u8)) rfl (ho.alloc _) _ _ _ rfl hR (by simp [Value.oneCell']) (by unfold maxLen; omega) (by omega) (by rw [World.size_alloc]; omega) ?_; intro v' w1 hown' hgrow hat; obtain ⟨qa, qc, rfl⟩ := own_form hown'; have hq := (save_app hgrow).block Q hQl (fun e => by have := (ho.lt Q e).1; omega); have fq := (hB.same hq).frozen 0; have cq := (World.cell?_of_block (w := wr) (a := ⟨Q, 0, none⟩) hq).trans hc)
      go_roundw
      case rel =>
        refine ⟨k + 1, .slice qa (cs.length + 1) qc, by omega, by go_num, ?_⟩
        rw [hfe.out]
        exact hp.trans (PenAt.put hp.1 (by simpa using hown') (save_app hgrow) (fun b hb => hat.elim (fun e => Or.inl (e ▸ hb)) (fun e => Or.inr (by rw [e] at hb; cases hb; rw [World.size_alloc]; omega))))
      case measure => simp [intOf]; omega
    · have hke : k = l.length := by omega
      have e1 : decide ((k : Int) < (l.length : Int)) = false := decide_eq_false (by omega)
      rw [hke, List.take_length] at hp
      go_wp2_with fail
      refine bodyPost_end (v := .tuple #[]) (by simp [results, Try.f37]) rfl ?_
      rw [← hP.out]
      exact ⟨rfl, _, hp⟩

set_option maxHeartbeats 1000000 in
theorem pen_wide_c {w : World} {Q : Nat} {v lv : Value} {bs l : List Int} (h : PenAt w Q v bs) (hl : ∀ W, Save (PenB Q v) w W → Ints W lv l) (hb : bs.length + l.length * 3 ≤ 1000000) :
    Calls Try.prog 38 #[.pointer (some ⟨Q, 0, none⟩), lv] w (PenPost w Q v (bs ++ l.flatMap bWide)) := by
  obtain ⟨hll, la, lcap, rfl, _⟩ := (hl w (Save.refl _ _)).open
  obtain ⟨i0, hi0, hz0, hz1, hz2⟩ := info_parts infoCByteP
  obtain ⟨P, hP⟩ : ∃ P, PenPost w Q v (bs ++ l.flatMap bWide) = P := ⟨_, rfl⟩
  rw [hP]
  replace hP := Lib.hid hP
  replace hl := Lib.hid hl
  have hbl : ∀ k, (bs ++ (l.take k).flatMap bWide).length ≤ 1000000 := fun k => by
    have := bflat_take_len (f := bWide) (k := k) (l := l) (c := 3) (fun x _ => Nat.le_refl _)
    rw [List.length_append]
    omega
  go_enter Try.func38, Try.ntmps38
  go_upto_region 1 with fail
  go_loopw [8] (fun i wr => ∃ (k : Nat) (u : Value), k ≤ l.length ∧ i = .int .i64 k ∧ PenOn w Q v wr u (bs ++ (l.take k).flatMap bWide)) (fun i _ => l.length - (intOf i).toNat)
  case atStart => exact ⟨0, v, by omega, rfl, by simpa using PenOn.refl h⟩
  case round =>
    clear h
    obtain ⟨k, u, hk, rfl, hp⟩ := hrel
    by_cases hlt : k < l.length
    · obtain ⟨b4, o4, c5, e4, _, q1, hq64⟩ := (hl.out wr hp.2.2).at (a := k) hlt
      cases e4
      have e1 : decide ((k : Int) < (l.length : Int)) = true := decide_eq_true (by omega)
      have hft := bflat_take bWide (0 : Int) hlt
      obtain ⟨n, hn⟩ : ∃ n, l.getD k 0 = n := ⟨_, rfl⟩
      rw [hn] at q1 hq64 hft
      clear hn
      have hcl := hbl k
      have hfe : bs ++ (l.take (k + 1)).flatMap bWide = (bs ++ (l.take k).flatMap bWide) ++ [n / 65536 % 256, n / 256 % 256, n % 256] := by rw [hft, List.append_assoc]; rfl
      obtain ⟨cs, hcs⟩ : ∃ cs, bs ++ (l.take k).flatMap bWide = cs := ⟨_, rfl⟩
      rw [hcs] at hp hcl hfe
      clear hcs hft
      replace hfe := Lib.hid hfe
      obtain ⟨hB, hc, ho⟩ := id hp.1
      have hf := hB.frozen 0
      obtain ⟨pa, pc, rfl⟩ := own_form ho
      have hR : Row (wr.alloc (.cells #[.int .u8 (n / 65536 % 256), .int .u8 (n / 256 % 256), .int .u8 (n % 256)] 5)) (.slice (some ⟨wr.heap.size, 0, none⟩) 3 3) 3 1 [.int .u8 (n / 65536 % 256), .int .u8 (n / 256 % 256), .int .u8 (n % 256)] := Row.lit wr 5 [.int .u8 (n / 65536 % 256), .int .u8 (n / 256 % 256), .int .u8 (n % 256)] (by simp)
      have hQl := hB.lt
      go_wp2_with (at_builtin; refine wpList_append_row _ rfl _ _ 81 rfl (Q + 1) 5 i0 _ 1 1 Try.underlying81 hi0 hz0 hz1 hz2 rfl (by decide) (.slice pa cs.length pc) cs.length (cs.map (Value.int .u8)) rfl (ho.alloc _) _ _ _ rfl hR (by simp [Value.oneCell']) (by unfold maxLen; omega) (by omega) (by rw [World.size_alloc]; omega) ?_; intro v' w1 hown' hgrow hat; obtain ⟨qa, qc, rfl⟩ := own_form hown'; have hq := (save_app hgrow).block Q hQl (fun e => by have := (ho.lt Q e).1; omega); have fq := (hB.same hq).frozen 0; have cq := (World.cell?_of_block (w := wr) (a := ⟨Q, 0, none⟩) hq).trans hc)
      go_roundw
      case rel =>
        refine ⟨k + 1, .slice qa (cs.length + 3) qc, by omega, by go_num, ?_⟩
        rw [hfe.out]
        exact hp.trans (PenAt.put hp.1 (by simpa using hown') (save_app hgrow) (fun b hb => hat.elim (fun e => Or.inl (e ▸ hb)) (fun e => Or.inr (by rw [e] at hb; cases hb; rw [World.size_alloc]; omega))))
      case measure => simp [intOf]; omega
    · have hke : k = l.length := by omega
      have e1 : decide ((k : Int) < (l.length : Int)) = false := decide_eq_false (by omega)
      rw [hke, List.take_length] at hp
      go_wp2_with fail
      refine bodyPost_end (v := .tuple #[]) (by simp [results, Try.f38]) rfl ?_
      rw [← hP.out]
      exact ⟨rfl, _, hp⟩
end Go.Proofs.Ytnalakhelicjcaa
set_option maxRecDepth 100000
namespace Go.Proofs.Ytnalakhelicjcaa
open Go.RowKit Go.Shelf Go.BigFrame Go.Deep

theorem Ints.blkL {w w' : World} {g o n c : Nat} {xs : List Int} (h : Ints w (.slice (some ⟨g, o, none⟩) n c) xs) (k : w'.heap[g]? = w.heap[g]?) : Ints w' (.slice (some ⟨g, o, none⟩) n c) xs := by
  obtain ⟨h0, h1, h2, a, cap, e, h3, h4⟩ := h
  refine ⟨h0, h1, h2, a, cap, e, h3, fun hn => ?_⟩
  obtain ⟨b, off, rfl, h5⟩ := h4 hn
  cases e
  exact ⟨_, _, rfl, fun j hj => (World.cell?_of_block (w := w) (a := ⟨g, o + j, none⟩) k).trans (h5 j hj)⟩
theorem PenAt.alloc {w : World} {Q : Nat} {v : Value} {bs : List Int} (h : PenAt w Q v bs) (o : Obj) : PenAt (w.alloc o) Q v bs :=
  ⟨h.1.same (Go.Deep.blk_alloc_lt _ _ _ h.1.lt), (World.cell?_of_block (Go.Deep.blk_alloc_lt w o Q h.1.lt)).trans h.2.1, h.2.2.alloc o⟩
theorem PenOn.pre {w w' : World} {Q : Nat} {v v' : Value} {bs : List Int} {o : Obj} (h : PenOn (w.alloc o) Q v w' v' bs) : PenOn w Q v w' v' bs := by
  obtain ⟨h1, h2, h3⟩ := h
  exact ⟨h1, fun b hb => (h2 b hb).imp id (fun e => by rw [World.size_alloc] at e; omega), ⟨h3.os, h3.tape, h3.output, Nat.le_trans (by rw [World.size_alloc]; omega) h3.size, fun b hb hn => (h3.block b (by rw [World.size_alloc]; omega) hn).trans (Go.Deep.blk_alloc_lt _ _ _ hb)⟩⟩
theorem pen_small_lit {w : World} {Q : Nat} {v : Value} {bs : List Int} (h : PenAt w Q v bs) (xs : List Int) (hx : ∀ x ∈ xs, I64 x) (hl : xs.length ≤ 1000) (hb : bs.length + xs.length * 1 ≤ 1000000) :
    Calls Try.prog 37 #[.pointer (some ⟨Q, 0, none⟩), .slice (some ⟨w.heap.size, 0, none⟩) xs.length xs.length] (w.alloc (.cells (xs.map (Value.int .i64)).toArray 3)) (PenPost w Q v (bs ++ xs.flatMap bSmall)) := by
  have hL := Ints.lit w xs 3 hx (by omega)
  have hQ := h.1.lt
  refine (pen_small_c (h.alloc _) (fun W hW => hL.blkL (hW.block w.heap.size (by rw [World.size_alloc]; omega) (fun e => ?_))) hb).mono fun e w' ⟨he, v', hv⟩ => ⟨he, v', hv.pre⟩
  rcases e with e | e
  · omega
  · have := (h.2.2.lt _ e).2
    omega
theorem pen_wide_lit {w : World} {Q : Nat} {v : Value} {bs : List Int} (h : PenAt w Q v bs) (xs : List Int) (hx : ∀ x ∈ xs, I64 x) (hl : xs.length ≤ 1000) (hb : bs.length + xs.length * 3 ≤ 1000000) :
    Calls Try.prog 38 #[.pointer (some ⟨Q, 0, none⟩), .slice (some ⟨w.heap.size, 0, none⟩) xs.length xs.length] (w.alloc (.cells (xs.map (Value.int .i64)).toArray 3)) (PenPost w Q v (bs ++ xs.flatMap bWide)) := by
  have hL := Ints.lit w xs 3 hx (by omega)
  have hQ := h.1.lt
  refine (pen_wide_c (h.alloc _) (fun W hW => hL.blkL (hW.block w.heap.size (by rw [World.size_alloc]; omega) (fun e => ?_))) hb).mono fun e w' ⟨he, v', hv⟩ => ⟨he, v', hv.pre⟩
  rcases e with e | e
  · omega
  · have := (h.2.2.lt _ e).2
    omega
theorem PenOn.keep {w w' : World} {Q C : Nat} {v v' : Value} {bs : List Int} (h : PenOn w Q v w' v' bs) (hC : C < w.heap.size) (hQ : C ≠ Q) (hv : ¬ v.ownBlock = some C) : w'.heap[C]? = w.heap[C]? :=
  h.2.2.block C hC (fun e => e.elim hQ hv)
theorem save_drew {w w1 : World} {r : Option Nat} (h : w.drew.grownBy w1 r) : Save (fun b => r = some b) w w1 := ⟨h.os, h.tape, h.output, h.size, fun b hb hn => h.block b hb (fun e => hn e.symm)⟩
theorem owns_drewU {w : World} {b : Nat} {e : TypeId} {s n : Nat} {v : Value} {xs : List Value} (h : w.ownsRow b e s v n xs) : w.drew.ownsRow b e s v n xs := h
theorem strCells_nums (s : ByteArray) : Lib.strCells s = (numsOf s).map (Value.int .u8) := by
  unfold Lib.strCells numsOf
  rw [List.map_map]
  rfl
theorem bMsg_len (m : M) : (bMsg m).length = 7 + m.body.size := by
  unfold bMsg bSmall bWide
  simp only [List.length_append, List.length_cons, List.length_nil, numsOf_len]
  omega

set_option maxHeartbeats 2000000 in
theorem pen_msgs_c {w : World} {Q : Nat} {v mv : Value} {bs : List Int} {l : List M} (h : PenAt w Q v bs) (hm : ∀ W, Save (PenB Q v) w W → Msgs W mv l) (hb : bs.length + (bMsgs l).length ≤ 1000000) :
    Calls Try.prog 39 #[.pointer (some ⟨Q, 0, none⟩), mv] w (PenPost w Q v (bs ++ bMsgs l)) := by
  obtain ⟨hll, la, lcap, rfl, _⟩ := (hm w (Save.refl _ _)).open
  obtain ⟨i0, hi0, hz0, hz1, hz2⟩ := info_parts infoCByteP
  obtain ⟨P, hP⟩ : ∃ P, PenPost w Q v (bs ++ bMsgs l) = P := ⟨_, rfl⟩
  rw [hP]
  replace hP := Lib.hid hP
  replace hm := Lib.hid hm
  unfold bMsgs at hb
  rw [List.length_append] at hb
  have hb1 : (bSmall l.length).length = 1 := rfl
  rw [hb1] at hb
  have hC1 := pen_small_lit h [(l.length : Int)] (fun x hx => by simp at hx; subst hx; unfold I64; omega) (by simp) (by simp; omega)
  change Calls _ _ #[_, .slice _ 1 1] (w.alloc (.cells #[.int .i64 (l.length : Int)] 3)) _ at hC1
  go_enter Try.func39, Try.ntmps39
  go_wp2_with fail
  refine hC1.mono ?_
  clear hC1
  rintro e w1 ⟨rfl, u1, hp1⟩
  have hp1 := hp1
  rw [show [(l.length : Int)].flatMap bSmall = bSmall l.length by simp] at hp1
  go_upto_region 2 with fail
  go_loopw [14] (fun i wr => ∃ (k : Nat) (u : Value), k ≤ l.length ∧ i = .int .i64 k ∧ PenOn w Q v wr u (bs ++ (bSmall l.length ++ (l.take k).flatMap bMsg))) (fun i _ => l.length - (intOf i).toNat)
  case atStart => exact ⟨0, u1, by omega, rfl, by simpa using hp1⟩
  case round =>
    clear h hp1
    obtain ⟨k, u, hk, rfl, hp⟩ := hrel
    by_cases hlt : k < l.length
    · have hM := hm.out wr hp.2.2
      obtain ⟨_, _, _, e4, _, hcc⟩ := hM.open
      cases e4
      obtain ⟨b4, o4, rfl, hun⟩ := hcc (by intro e; subst e; simp at hlt)
      obtain ⟨d0, d1, d2, d3, d4⟩ := hun k hlt
      have e1 : decide ((k : Int) < (l.length : Int)) = true := decide_eq_true (by omega)
      have hft := bflat_take bMsg M.zero hlt
      have hfit : (l.getD k M.zero).fits := hM.1 _ (by rw [getD_lt l _ hlt]; exact List.getElem_mem _)
      have hfl : ((l.take k).flatMap bMsg).length + (bMsg (l.getD k M.zero)).length ≤ (l.flatMap bMsg).length := by
        have h1 : ((l.take (k + 1)).flatMap bMsg).length ≤ (l.flatMap bMsg).length := by
          conv => rhs; rw [← List.take_append_drop (k + 1) l, List.flatMap_append, List.length_append]
          omega
        rw [hft, List.length_append] at h1
        exact h1
      obtain ⟨m, hmd⟩ : ∃ m, l.getD k M.zero = m := ⟨_, rfl⟩
      rw [hmd] at d0 d1 d2 d3 d4 hft hfit hfl
      clear hmd hun hcc hM
      rw [bMsg_len] at hfl
      have hfe : bs ++ (bSmall l.length ++ (l.take (k + 1)).flatMap bMsg) = (bs ++ (bSmall l.length ++ (l.take k).flatMap bMsg)) ++ bMsg m := by rw [hft, List.append_assoc, List.append_assoc]
      have hcl : (bs ++ (bSmall l.length ++ (l.take k).flatMap bMsg)).length + (7 + m.body.size) ≤ 1000000 := by
        rw [List.length_append, List.length_append]
        omega
      obtain ⟨cs, hcs⟩ : ∃ cs, bs ++ (bSmall l.length ++ (l.take k).flatMap bMsg) = cs := ⟨_, rfl⟩
      rw [hcs] at hp hcl hfe
      clear hcs hft hfl
      replace hfe := Lib.hid hfe
      have hQl := hp.1.1.lt
      have hol := hp.1.2.2.lt
      have bA := below_a1 wr (.cells #[.int .i64 m.src, .int .i64 m.grp, .int .i64 m.stamp, .bool m.null, .string m.body] 33)
      have hMb := MsgBox.new wr m 33
      have hpa := hp.1.alloc (.cells #[.int .i64 m.src, .int .i64 m.grp, .int .i64 m.stamp, .bool m.null, .string m.body] 33)
      have hsz : (wr.alloc (.cells #[.int .i64 m.src, .int .i64 m.grp, .int .i64 m.stamp, .bool m.null, .string m.body] 33)).heap.size = wr.heap.size + 1 := World.size_alloc _ _
      have hrel : ∀ {w9 : World} {v9 : Value} {b9 : List Int}, PenOn (wr.alloc (.cells #[.int .i64 m.src, .int .i64 m.grp, .int .i64 m.stamp, .bool m.null, .string m.body] 33)) Q u w9 v9 b9 → PenOn w Q v w9 v9 b9 := fun h => hp.trans h.pre
      have hCo : ¬ u.ownBlock = some wr.heap.size := fun e => by have := (hol _ e).2; omega
      replace hsz := Lib.hid hsz
      go_upto_region 5 with fail
      generalize wr.alloc (.cells #[.int .i64 m.src, .int .i64 m.grp, .int .i64 m.stamp, .bool m.null, .string m.body] 33) = w2 at *
      obtain ⟨C, hC⟩ : ∃ C, wr.heap.size = C := ⟨_, rfl⟩
      have hCl : C < w2.heap.size := by have := hsz.out; omega
      simp only [hC] at hMb hCo hQl ⊢
      clear hC d0 d1 d2 d3 d4 bA
      have hCQ : C ≠ Q := by omega
      obtain ⟨m0, m1, m2, m3, m4⟩ := id hMb
      cases hz : m.null
      · rw [hz] at m3
        replace hz := Lib.hid hz
        have hC1 := pen_small_lit hpa [m.src, m.grp, 0, (m.body.size : Int)] (fun x hx => by
          obtain ⟨f0, f1, f2, f3⟩ := hfit
          simp only [List.mem_cons, List.not_mem_nil, or_false] at hx
          rcases hx with rfl | rfl | rfl | rfl
          · exact f0
          · exact f1
          · unfold I64; omega
          · unfold I64; omega) (by simp) (by simp; omega)
        change Calls _ _ #[_, .slice _ 4 4] (w2.alloc (.cells #[.int .i64 m.src, .int .i64 m.grp, .int .i64 0, .int .i64 (m.body.size : Int)] 3)) _ at hC1
        go_wp2_with fail
        refine hC1.mono ?_
        clear hC1
        rintro e w3 ⟨rfl, u3, hp3⟩
        have hk3 := hp3.keep hCl hCQ hCo
        have hs3 := hp3.2.2.size
        have hCo3 : ¬ u3.ownBlock = some C := fun e => (hp3.2.1 C e).elim hCo (fun h => by omega)
        have m4' := (World.cell?_of_block (w := w2) (a := ⟨C, 4, none⟩) hk3).trans m4
        have m2' := (World.cell?_of_block (w := w2) (a := ⟨C, 2, none⟩) hk3).trans m2
        obtain ⟨c3, hc3⟩ : ∃ c, cs ++ [m.src, m.grp, 0, (m.body.size : Int)].flatMap bSmall = c := ⟨_, rfl⟩
        have hc3l : c3.length = cs.length + 4 := by rw [← hc3, List.length_append]; rfl
        rw [hc3] at hp3
        replace hc3 := Lib.hid hc3
        have hc3m : c3.length + m.body.size + 3 ≤ 1000000 := by omega
        replace hc3l := Lib.hid hc3l
        obtain ⟨hB, hc, ho⟩ := id hp3.1
        have hQ3 := hB.lt
        obtain ⟨pa, pc, rfl⟩ := own_form ho
        go_upto_region 8 with fail
        have hSB : ∀ o : World, o.heap[Q]? = w3.heap[Q]? → o.heap[C]? = w3.heap[C]? → o.cell? ⟨Q, 0, none⟩ = some (.slice pa c3.length pc) ∧ o.cell? ⟨C, 4, none⟩ = some (.string m.body) := fun o k1 k2 => ⟨(World.cell?_of_block (w := w3) (a := ⟨Q, 0, none⟩) k1).trans hc, (World.cell?_of_block (w := w3) (a := ⟨C, 4, none⟩) k2).trans m4'⟩
        refine wp_region_N (fun o => o.cell? ⟨Q, 0, none⟩ = some (.slice pa c3.length pc) ∧ o.cell? ⟨C, 4, none⟩ = some (.string m.body)) 8 11 rfl (by kernel_rfl) (hSB _ rfl rfl) (fun hSw => ?_)
        refine tk 0 ?_ rfl rfl (by kernel_rfl) (.inl ⟨by rfl, ?_⟩) hSw ?_
        rotate_left
        · rintro w ⟨s0, s1⟩; go_simp; try with_reducible rfl
        simp only [tkp, tkz, tks]
        refine tk 1 ?_ rfl rfl (by kernel_rfl) (.inl ⟨by rfl, ?_⟩) hSw ?_
        rotate_left
        · rintro w ⟨s0, s1⟩; go_simp; try with_reducible rfl
        simp only [tkp, tkz, tks]
        refine tk 2 ?_ rfl rfl (by kernel_rfl) (.inl ⟨by rfl, ?_⟩) hSw ?_
        rotate_left
        · rintro w ⟨s0, s1⟩; go_simp; try with_reducible rfl
        simp only [tkp, tkz, tks]
        refine tk 3 ?_ rfl rfl (by kernel_rfl) (.inl ⟨by rfl, ?_⟩) hSw ?_
        rotate_left
        · rintro w ⟨s0, s1⟩; go_simp; try with_reducible rfl
        simp only [tkp, tkz, tks]
        refine tk 4 ?_ rfl rfl (by kernel_rfl) (.inl ⟨by rfl, ?_⟩) hSw ?_
        rotate_left
        · rintro w ⟨s0, s1⟩; go_simp; try with_reducible rfl
        simp only [tkp, tkz, tks]
        refine tk 5 ?_ rfl rfl (by kernel_rfl) (.inl ⟨by rfl, ?_⟩) hSw ?_
        rotate_left
        · rintro w ⟨s0, s1⟩; go_simp; try with_reducible rfl
        simp only [tkp, tkz, tks]
        refine tk 6 ?_ rfl rfl (by kernel_rfl) (.inl ⟨by rfl, ?_⟩) hSw ?_
        rotate_left
        · rintro w ⟨s0, s1⟩; go_simp; try with_reducible rfl
        simp only [tkp, tkz, tks]
        refine N_one' (i := 7) (by kernel_rfl) rfl ?_
        go_wp2_with (at_builtin; refine wpList_append_str _ rfl _ _ 81 9 rfl (Q + 1) 5 i0 Try.underlying81 Try.underlying9 hi0 hz0 hz1 hz2 (.slice pa c3.length pc) c3.length (c3.map (Value.int .u8)) rfl (owns_drewU ho) m.body rfl (by omega) hQ3 ?_; intro v4 w4 hown4 hgrow4 hat4; obtain ⟨qa, qc, rfl⟩ := own_form hown4)
        have s4 := save_drew hgrow4
        have hq4 := s4.block Q hQ3 (fun e => by have := (ho.lt Q e).1; omega)
        have hcC := s4.block C (by omega) hCo3
        refine QK_normal ⟨?_, ?_⟩
        · first | exact fun _ => hSB _ hq4 hcC | exact hSB _ hq4 hcC
        refine N_rest 8 3 (Nat.le_refl _) rfl (by kernel_rfl) ?_
        simp only [List.drop_succ_cons, List.drop_zero]
        have fq := (hB.same hq4).frozen 0
        have cq := (hSB w4 hq4 hcC).1
        have hp4 := PenAt.put hp3.1 (w1 := w4) (v' := .slice qa (c3.length + m.body.size) qc) (cs := numsOf m.body) (by rw [strCells_nums] at hown4; simpa [numsOf_len] using hown4) s4 (fun b hb => hat4.elim (fun e => Or.inl (e ▸ hb)) (fun e => Or.inr (by rw [e] at hb; cases hb; exact Nat.le_refl _)))
        have m2'' := (World.cell?_of_block (w := w4) (a := ⟨C, 2, none⟩) (Go.Deep.blk_setCell_other w4 ⟨Q, 0, none⟩ (.slice qa (c3.length + m.body.size) qc) C hCQ)).trans ((World.cell?_of_block (w := w3) (a := ⟨C, 2, none⟩) hcC).trans m2')
        clear hSB hSw
        go_upto_region 9 with fail
        generalize w4.setCell ⟨Q, 0, none⟩ (.slice qa (c3.length + m.body.size) qc) = w5 at *
        have hC2 := pen_wide_lit hp4.1 [m.stamp] (fun x hx => by simp at hx; subst hx; exact hfit.2.2.1) (by simp) (by simp [numsOf_len]; omega)
        change Calls _ _ #[_, .slice _ 1 1] (w5.alloc (.cells #[.int .i64 m.stamp] 3)) _ at hC2
        go_wp2_with fail
        refine hC2.mono ?_
        clear hC2
        rintro e w6 ⟨rfl, u6, hp6⟩
        go_wp2_with fail
        go_roundw
        case rel =>
          refine ⟨k + 1, u6, by omega, by go_num, ?_⟩
          have e := hrel (hp3.trans (hp4.trans hp6))
          have e2 : c3 ++ numsOf m.body ++ [m.stamp].flatMap bWide = cs ++ bMsg m := by
            rw [← hc3.out]
            unfold bMsg
            rw [hz.out]
            simp
          rw [e2, ← hfe.out] at e
          exact e
        case measure => simp [intOf]; omega
      · rw [hz] at m3
        replace hz := Lib.hid hz
        have hC1 := pen_small_lit hpa [m.src, m.grp, 1, (m.body.size : Int)] (fun x hx => by
          obtain ⟨f0, f1, f2, f3⟩ := hfit
          simp only [List.mem_cons, List.not_mem_nil, or_false] at hx
          rcases hx with rfl | rfl | rfl | rfl
          · exact f0
          · exact f1
          · unfold I64; omega
          · unfold I64; omega) (by simp) (by simp; omega)
        change Calls _ _ #[_, .slice _ 4 4] (w2.alloc (.cells #[.int .i64 m.src, .int .i64 m.grp, .int .i64 1, .int .i64 (m.body.size : Int)] 3)) _ at hC1
        go_wp2_with fail
        refine hC1.mono ?_
        clear hC1
        rintro e w3 ⟨rfl, u3, hp3⟩
        have hk3 := hp3.keep hCl hCQ hCo
        have hs3 := hp3.2.2.size
        have hCo3 : ¬ u3.ownBlock = some C := fun e => (hp3.2.1 C e).elim hCo (fun h => by omega)
        have m4' := (World.cell?_of_block (w := w2) (a := ⟨C, 4, none⟩) hk3).trans m4
        have m2' := (World.cell?_of_block (w := w2) (a := ⟨C, 2, none⟩) hk3).trans m2
        obtain ⟨c3, hc3⟩ : ∃ c, cs ++ [m.src, m.grp, 1, (m.body.size : Int)].flatMap bSmall = c := ⟨_, rfl⟩
        have hc3l : c3.length = cs.length + 4 := by rw [← hc3, List.length_append]; rfl
        rw [hc3] at hp3
        replace hc3 := Lib.hid hc3
        have hc3m : c3.length + m.body.size + 3 ≤ 1000000 := by omega
        replace hc3l := Lib.hid hc3l
        obtain ⟨hB, hc, ho⟩ := id hp3.1
        have hQ3 := hB.lt
        obtain ⟨pa, pc, rfl⟩ := own_form ho
        go_upto_region 8 with fail
        have hSB : ∀ o : World, o.heap[Q]? = w3.heap[Q]? → o.heap[C]? = w3.heap[C]? → o.cell? ⟨Q, 0, none⟩ = some (.slice pa c3.length pc) ∧ o.cell? ⟨C, 4, none⟩ = some (.string m.body) := fun o k1 k2 => ⟨(World.cell?_of_block (w := w3) (a := ⟨Q, 0, none⟩) k1).trans hc, (World.cell?_of_block (w := w3) (a := ⟨C, 4, none⟩) k2).trans m4'⟩
        refine wp_region_N (fun o => o.cell? ⟨Q, 0, none⟩ = some (.slice pa c3.length pc) ∧ o.cell? ⟨C, 4, none⟩ = some (.string m.body)) 8 11 rfl (by kernel_rfl) (hSB _ rfl rfl) (fun hSw => ?_)
        refine tk 0 ?_ rfl rfl (by kernel_rfl) (.inl ⟨by rfl, ?_⟩) hSw ?_
        rotate_left
        · rintro w ⟨s0, s1⟩; go_simp; try with_reducible rfl
        simp only [tkp, tkz, tks]
        refine tk 1 ?_ rfl rfl (by kernel_rfl) (.inl ⟨by rfl, ?_⟩) hSw ?_
        rotate_left
        · rintro w ⟨s0, s1⟩; go_simp; try with_reducible rfl
        simp only [tkp, tkz, tks]
        refine tk 2 ?_ rfl rfl (by kernel_rfl) (.inl ⟨by rfl, ?_⟩) hSw ?_
        rotate_left
        · rintro w ⟨s0, s1⟩; go_simp; try with_reducible rfl
        simp only [tkp, tkz, tks]
        refine tk 3 ?_ rfl rfl (by kernel_rfl) (.inl ⟨by rfl, ?_⟩) hSw ?_
        rotate_left
        · rintro w ⟨s0, s1⟩; go_simp; try with_reducible rfl
        simp only [tkp, tkz, tks]
        refine tk 4 ?_ rfl rfl (by kernel_rfl) (.inl ⟨by rfl, ?_⟩) hSw ?_
        rotate_left
        · rintro w ⟨s0, s1⟩; go_simp; try with_reducible rfl
        simp only [tkp, tkz, tks]
        refine tk 5 ?_ rfl rfl (by kernel_rfl) (.inl ⟨by rfl, ?_⟩) hSw ?_
        rotate_left
        · rintro w ⟨s0, s1⟩; go_simp; try with_reducible rfl
        simp only [tkp, tkz, tks]
        refine tk 6 ?_ rfl rfl (by kernel_rfl) (.inl ⟨by rfl, ?_⟩) hSw ?_
        rotate_left
        · rintro w ⟨s0, s1⟩; go_simp; try with_reducible rfl
        simp only [tkp, tkz, tks]
        refine N_one' (i := 7) (by kernel_rfl) rfl ?_
        go_wp2_with (at_builtin; refine wpList_append_str _ rfl _ _ 81 9 rfl (Q + 1) 5 i0 Try.underlying81 Try.underlying9 hi0 hz0 hz1 hz2 (.slice pa c3.length pc) c3.length (c3.map (Value.int .u8)) rfl (owns_drewU ho) m.body rfl (by omega) hQ3 ?_; intro v4 w4 hown4 hgrow4 hat4; obtain ⟨qa, qc, rfl⟩ := own_form hown4)
        have s4 := save_drew hgrow4
        have hq4 := s4.block Q hQ3 (fun e => by have := (ho.lt Q e).1; omega)
        have hcC := s4.block C (by omega) hCo3
        refine QK_normal ⟨?_, ?_⟩
        · first | exact fun _ => hSB _ hq4 hcC | exact hSB _ hq4 hcC
        refine N_rest 8 3 (Nat.le_refl _) rfl (by kernel_rfl) ?_
        simp only [List.drop_succ_cons, List.drop_zero]
        have fq := (hB.same hq4).frozen 0
        have cq := (hSB w4 hq4 hcC).1
        have hp4 := PenAt.put hp3.1 (w1 := w4) (v' := .slice qa (c3.length + m.body.size) qc) (cs := numsOf m.body) (by rw [strCells_nums] at hown4; simpa [numsOf_len] using hown4) s4 (fun b hb => hat4.elim (fun e => Or.inl (e ▸ hb)) (fun e => Or.inr (by rw [e] at hb; cases hb; exact Nat.le_refl _)))
        have m2'' := (World.cell?_of_block (w := w4) (a := ⟨C, 2, none⟩) (Go.Deep.blk_setCell_other w4 ⟨Q, 0, none⟩ (.slice qa (c3.length + m.body.size) qc) C hCQ)).trans ((World.cell?_of_block (w := w3) (a := ⟨C, 2, none⟩) hcC).trans m2')
        clear hSB hSw
        go_upto_region 9 with fail
        generalize w4.setCell ⟨Q, 0, none⟩ (.slice qa (c3.length + m.body.size) qc) = w5 at *
        have hC2 := pen_wide_lit hp4.1 [m.stamp] (fun x hx => by simp at hx; subst hx; exact hfit.2.2.1) (by simp) (by simp [numsOf_len]; omega)
        change Calls _ _ #[_, .slice _ 1 1] (w5.alloc (.cells #[.int .i64 m.stamp] 3)) _ at hC2
        go_wp2_with fail
        refine hC2.mono ?_
        clear hC2
        rintro e w6 ⟨rfl, u6, hp6⟩
        go_wp2_with fail
        go_roundw
        case rel =>
          refine ⟨k + 1, u6, by omega, by go_num, ?_⟩
          have e := hrel (hp3.trans (hp4.trans hp6))
          have e2 : c3 ++ numsOf m.body ++ [m.stamp].flatMap bWide = cs ++ bMsg m := by
            rw [← hc3.out]
            unfold bMsg
            rw [hz.out]
            simp
          rw [e2, ← hfe.out] at e
          exact e
        case measure => simp [intOf]; omega
    · have hke : k = l.length := by omega
      have e1 : decide ((k : Int) < (l.length : Int)) = false := decide_eq_false (by omega)
      rw [hke, List.take_length] at hp
      go_wp2_with fail
      refine bodyPost_end (v := .tuple #[]) (by simp [results, Try.f39]) rfl ?_
      rw [← hP.out]
      exact ⟨rfl, _, hp⟩
end Go.Proofs.Ytnalakhelicjcaa
