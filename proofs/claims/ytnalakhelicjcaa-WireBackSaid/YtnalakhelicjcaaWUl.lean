/-
  Lists of so many things that are read.
-/
import Derived.Test.YtnalakhelicjcaaWUg
import Derived.Test.YtnalakhelicjcaaWKA
import Derived.Test.YtnalakhelicjcaaWKW
set_option maxRecDepth 100000
namespace Go.Proofs.Ytnalakhelicjcaa
open Go.RowKit Go.Shelf Go.BigFrame Go.Deep

/-- A value of its own: its blocks are new. -/
def ElV {α : Type} (El : ElO α) (mk : List Value → Value) (w w' : World) (v : Value) (x : α) : Prop := ∃ T cs, v = mk cs ∧ El w' T cs x ∧ ∀ b, T b → w.heap.size ≤ b ∧ b < w'.heap.size
def one1 (cs : List Value) : Value := cs.getD 0 undef
def oneA (cs : List Value) : Value := .agg cs.toArray
def ListV {α : Type} (El : ElO α) (e : TypeId) (s : Nat) (w w' : World) (v : Value) (xs : List α) : Prop := ∃ S, OSl El true e s w' S v xs ∧ ∀ b, S b → w.heap.size ≤ b ∧ b < w'.heap.size
/-- What a function value reads, wherever the glass stands and else all lies as it lay in w. -/
def OneC {α : Type} (g : Nat) (la : Array Value) (G : Nat) (w : World) (p : Rdr α) (V : World → World → Value → α → Prop) : Prop :=
  (∀ args w, (callFunc g args).run Try.prog w = .ok (.enter g args) w) ∧ ∀ W l, Glass W G l → Save (fun b => b = G) w W → Calls Try.prog g la W (RdPost W G (p l) (V W))
theorem manyP_none {α : Type} {p : Rdr α} {l : List Int} {k : Nat} (h : manyP p k l = none) : ∀ n, k ≤ n → manyP p n l = none
  | 0, hn => by
    obtain rfl : k = 0 := by omega
    exact h
  | n + 1, hn => by
    by_cases e : k = n + 1
    · subst e; exact h
    · have := manyP_none h n (by omega)
      rw [manyP, bindR, this]
theorem manyP_len {α : Type} {p : Rdr α} {l t : List Int} : ∀ {n : Nat} {xs : List α}, manyP p n l = some (xs, t) → xs.length = n
  | 0, xs, h => by
    obtain ⟨rfl, _⟩ := pureR_inv h
    rfl
  | n + 1, xs, h => by
    obtain ⟨ys, u, h1, h2⟩ := bindR_inv h
    obtain ⟨y, v, h3, h4⟩ := bindR_inv h2
    obtain ⟨rfl, rfl⟩ := pureR_inv h4
    simp [manyP_len h1]
theorem manyP_succ {α : Type} {p : Rdr α} {l t : List Int} {n : Nat} {xs : List α} (h : manyP p n l = some (xs, t)) : manyP p (n + 1) l = match p t with
    | none => none
    | some (x, u) => some (xs ++ [x], u) := by
  rw [manyP, bindR_some h]
  unfold bindR pureR
  rfl
theorem Save.then {S : Nat → Prop} {w w1 w2 : World} (h : Save S w w1) (k : Below w.heap.size w1 w2) : Save S w w2 :=
  ⟨k.os.trans h.os, k.tape.trans h.tape, k.output.trans h.output, Nat.le_trans h.size k.size, fun b hb hn => (k.block b hb).trans (h.block b hb hn)⟩
set_option maxHeartbeats 1000000 in
theorem list_int_c {w : World} {G : Nat} {l : List Int} (h : Glass w G l) {n : Nat} (hn : n ≤ 255) {g : Nat} {fa fb : Array Value} {p : Rdr _} (h1 : OneC g (fa ++ fb) G w p (ElV IntEl one1)) :
    Calls Try.prog 45 #[.int .i64 n, .func (.func g) fa fb] w (RdPost w G (manyP p n l) (ListV IntEl 3 1 w)) := by
  obtain ⟨eg, hp⟩ := h1
  obtain ⟨i0, hi0, hz0, hz1, hz2⟩ := info_parts infoCInt
  obtain ⟨P, hP⟩ : ∃ P, RdPost w G (manyP p n l) (ListV IntEl 3 1 w) = P := ⟨_, rfl⟩
  rw [hP]
  have hGl := h.lt
  replace hP := Lib.hid hP
  replace hp := Lib.hid hp
  go_enter Try.func45, Try.ntmps45
  go_upto_region 3 with fail
  go_loopw [5, 7] (fun v i wr => ∃ k xs t, k ≤ n ∧ i = .int .i64 (k : Nat) ∧ Hid (manyP p k l = some (xs, t)) ∧ ListV IntEl 3 1 w wr v xs ∧ Glass wr G t ∧ Save (fun b => b = G) w wr) (fun _ i _ => n - (intOf i).toNat)
  case atStart => exact ⟨0, [], l, by omega, rfl, Lib.hid rfl, ⟨fun _ => False, OSl.nil _ _ _ _ _ _, fun _ hb => hb.elim⟩, h, Save.refl _ _⟩
  case round =>
    clear h
    obtain ⟨k, xs, t, hk, rfl, hm, ⟨S, hO, hS⟩, hG, hv⟩ := hrel
    have hxl := manyP_len hm.out
    by_cases hlt : k < n
    · have e1 : decide ((k : Int) < (n : Int)) = true := decide_eq_true (by omega)
      have hC := hp.out wr t hG hv
      have hms := manyP_succ hm.out
      obtain ⟨a, c, rfl, _, _⟩ := OSl.form hO
      have hx8 : xs.length ≤ 255 := by omega
      replace hms := Lib.hid hms
      replace hxl := Lib.hid hxl
      go_wp2_with (first
        | (go_at_fn g; refine hC.mono ?_; rintro e w1 ⟨hv1, hr⟩; rcases hr with ⟨hr, rfl⟩ | ⟨x, u, v, hr, rfl, ⟨T, cs, rfl, hE, hT⟩, hG1⟩; all_goals (try (obtain ⟨rfl, hi⟩ := hE)); all_goals (try simp only [one1, List.getD_cons_zero]))
        | (at_builtin; have hE2 := IntEl.stays w1 (w1.alloc (.cells #[.int .i64 x] 3)) T _ x ⟨rfl, hi⟩ (fun b hb => (below_a1 w1 (.cells #[.int .i64 x] 3)).block b (hT b hb).2); have hO2 := OSl.keep IntEl.stays hO (w' := w1.alloc (.cells #[.int .i64 x] 3)) (fun b hb => ((below_a1 w1 (.cells #[.int .i64 x] 3)).block b (Nat.lt_of_lt_of_le (hS b hb).2 hv1.size)).trans (hv1.block b (hS b hb).2 (fun e => by have h9 := (hS b hb).1; rw [e] at h9; omega))); refine wpList_push _ rfl _ _ 22 rfl 3 i0 _ 1 8 Try.underlying22 hi0 hz0 hz1 hz2 rfl (by decide) IntEl.stays _ rfl S xs hO2 (fun b hb => Nat.lt_of_lt_of_le (hS b hb).2 (Nat.le_trans hv1.size (below_a1 w1 _).size)) ⟨w1.heap.size, 0, none⟩ _ rfl [.int .i64 x] rfl (cells_new _ _ _) (by simp [Value.oneCell']) T x hE2 (fun b hb => ⟨fun hs => by have := (hS b hs).2; have := (hT b hb).1; omega, Nat.lt_of_lt_of_le (hT b hb).2 (below_a1 w1 _).size⟩) (by omega) (by omega) (by omega) ?_; intro v3 w3 hp3; obtain ⟨⟨S3, hO3, hS3⟩, hz3, hL3, hB3, a3, cap3, rfl⟩ := hp3))
      · refine ⟨rfl, ?_⟩
        rw [← hP.out]
        have e := hms.out
        rw [hr] at e
        exact ⟨hv.trans hv1 (fun _ h _ => h), Or.inl ⟨manyP_none e n (by omega), rfl⟩⟩
      · go_roundw
        case rel =>
          have e := hms.out
          rw [hr] at e
          have hs1 := hv1.size
          have hs0 := hv.size
          have hsa := (below_a1 w1 (.cells #[.int .i64 x] 3)).size
          have hSG : ¬ S G := fun hs => by have := (hS G hs).1; omega
          refine ⟨k + 1, xs ++ [x], u, by omega, by go_num, Lib.hid e, ⟨S3, hO3, fun b hb => ⟨?_, (hS3 b hb).2⟩⟩, hG1.keep ((hL3 G ⟨by omega, hSG⟩).trans ((below_a1 w1 (.cells #[.int .i64 x] 3)).block G hG1.lt)), (hv.trans hv1 (fun _ h _ => h)).then (((below_a1 w1 (.cells #[.int .i64 x] 3)).mono (by omega)).trans (hB3 w.heap.size (fun b hb => (hS b hb).1) (by omega)))⟩
          rcases (hS3 b hb).1 with h1 | h1 | h1
          · exact (hS b h1).1
          · have := (hT b h1).1; omega
          · omega
        case measure => simp [intOf]; omega
    · have hke : k = n := by omega
      have e1 : decide ((k : Int) < (n : Int)) = false := decide_eq_false (by omega)
      go_wp2_with fail
      rw [← hP.out]
      rw [hke] at hm
      exact ⟨hv, Or.inr ⟨xs, t, _, hm.out, rfl, ⟨S, hO, hS⟩, hG⟩⟩
set_option maxHeartbeats 1000000 in
theorem list_ints_c {w : World} {G : Nat} {l : List Int} (h : Glass w G l) {n : Nat} (hn : n ≤ 255) {g : Nat} {fa fb : Array Value} {p : Rdr _} (h1 : OneC g (fa ++ fb) G w p (ElV OIntsEl one1)) :
    Calls Try.prog 50 #[.int .i64 n, .func (.func g) fa fb] w (RdPost w G (manyP p n l) (ListV OIntsEl 22 1 w)) := by
  obtain ⟨eg, hp⟩ := h1
  obtain ⟨i0, hi0, hz0, hz1, hz2⟩ := info_parts infoCIntRow
  obtain ⟨P, hP⟩ : ∃ P, RdPost w G (manyP p n l) (ListV OIntsEl 22 1 w) = P := ⟨_, rfl⟩
  rw [hP]
  have hGl := h.lt
  replace hP := Lib.hid hP
  replace hp := Lib.hid hp
  go_enter Try.func50, Try.ntmps50
  go_upto_region 3 with fail
  go_loopw [5, 7] (fun v i wr => ∃ k xs t, k ≤ n ∧ i = .int .i64 (k : Nat) ∧ Hid (manyP p k l = some (xs, t)) ∧ ListV OIntsEl 22 1 w wr v xs ∧ Glass wr G t ∧ Save (fun b => b = G) w wr) (fun _ i _ => n - (intOf i).toNat)
  case atStart => exact ⟨0, [], l, by omega, rfl, Lib.hid rfl, ⟨fun _ => False, OSl.nil _ _ _ _ _ _, fun _ hb => hb.elim⟩, h, Save.refl _ _⟩
  case round =>
    clear h
    obtain ⟨k, xs, t, hk, rfl, hm, ⟨S, hO, hS⟩, hG, hv⟩ := hrel
    have hxl := manyP_len hm.out
    by_cases hlt : k < n
    · have e1 : decide ((k : Int) < (n : Int)) = true := decide_eq_true (by omega)
      have hC := hp.out wr t hG hv
      have hms := manyP_succ hm.out
      obtain ⟨a, c, rfl, _, _⟩ := OSl.form hO
      have hx8 : xs.length ≤ 255 := by omega
      replace hms := Lib.hid hms
      replace hxl := Lib.hid hxl
      go_wp2_with (first
        | (go_at_fn g; refine hC.mono ?_; rintro e w1 ⟨hv1, hr⟩; rcases hr with ⟨hr, rfl⟩ | ⟨x, u, v, hr, rfl, ⟨T, cs, rfl, hE, hT⟩, hG1⟩; all_goals (try (obtain ⟨u9, rfl, hu⟩ := hE; obtain ⟨a9, c9, rfl, _, _⟩ := OSl.form hu)); all_goals (try simp only [one1, List.getD_cons_zero]))
        | (at_builtin; have hE2 := OIntsEl.stays w1 (w1.alloc (.cells #[.slice a9 x.length c9] 22)) T _ x ⟨_, rfl, hu⟩ (fun b hb => (below_a1 w1 (.cells #[.slice a9 x.length c9] 22)).block b (hT b hb).2); have hO2 := OSl.keep OIntsEl.stays hO (w' := w1.alloc (.cells #[.slice a9 x.length c9] 22)) (fun b hb => ((below_a1 w1 (.cells #[.slice a9 x.length c9] 22)).block b (Nat.lt_of_lt_of_le (hS b hb).2 hv1.size)).trans (hv1.block b (hS b hb).2 (fun e => by have h9 := (hS b hb).1; rw [e] at h9; omega))); refine wpList_push _ rfl _ _ 77 rfl 22 i0 _ 1 24 Try.underlying77 hi0 hz0 hz1 hz2 rfl (by decide) OIntsEl.stays _ rfl S xs hO2 (fun b hb => Nat.lt_of_lt_of_le (hS b hb).2 (Nat.le_trans hv1.size (below_a1 w1 _).size)) ⟨w1.heap.size, 0, none⟩ _ rfl [.slice a9 x.length c9] rfl (cells_new _ _ _) (by simp [Value.oneCell']) T x hE2 (fun b hb => ⟨fun hs => by have := (hS b hs).2; have := (hT b hb).1; omega, Nat.lt_of_lt_of_le (hT b hb).2 (below_a1 w1 _).size⟩) (by omega) (by omega) (by omega) ?_; intro v3 w3 hp3; obtain ⟨⟨S3, hO3, hS3⟩, hz3, hL3, hB3, a3, cap3, rfl⟩ := hp3))
      · refine ⟨rfl, ?_⟩
        rw [← hP.out]
        have e := hms.out
        rw [hr] at e
        exact ⟨hv.trans hv1 (fun _ h _ => h), Or.inl ⟨manyP_none e n (by omega), rfl⟩⟩
      · go_roundw
        case rel =>
          have e := hms.out
          rw [hr] at e
          have hs1 := hv1.size
          have hs0 := hv.size
          have hsa := (below_a1 w1 (.cells #[.slice a9 x.length c9] 22)).size
          have hSG : ¬ S G := fun hs => by have := (hS G hs).1; omega
          refine ⟨k + 1, xs ++ [x], u, by omega, by go_num, Lib.hid e, ⟨S3, hO3, fun b hb => ⟨?_, (hS3 b hb).2⟩⟩, hG1.keep ((hL3 G ⟨by omega, hSG⟩).trans ((below_a1 w1 (.cells #[.slice a9 x.length c9] 22)).block G hG1.lt)), (hv.trans hv1 (fun _ h _ => h)).then (((below_a1 w1 (.cells #[.slice a9 x.length c9] 22)).mono (by omega)).trans (hB3 w.heap.size (fun b hb => (hS b hb).1) (by omega)))⟩
          rcases (hS3 b hb).1 with h1 | h1 | h1
          · exact (hS b h1).1
          · have := (hT b h1).1; omega
          · omega
        case measure => simp [intOf]; omega
    · have hke : k = n := by omega
      have e1 : decide ((k : Int) < (n : Int)) = false := decide_eq_false (by omega)
      go_wp2_with fail
      rw [← hP.out]
      rw [hke] at hm
      exact ⟨hv, Or.inr ⟨xs, t, _, hm.out, rfl, ⟨S, hO, hS⟩, hG⟩⟩
set_option maxHeartbeats 1000000 in
theorem list_msg_c {w : World} {G : Nat} {l : List Int} (h : Glass w G l) {n : Nat} (hn : n ≤ 255) {g : Nat} {fa fb : Array Value} {p : Rdr _} (h1 : OneC g (fa ++ fb) G w p (ElV MEl oneA)) :
    Calls Try.prog 83 #[.int .i64 n, .func (.func g) fa fb] w (RdPost w G (manyP p n l) (ListV MEl 33 5 w)) := by
  obtain ⟨eg, hp⟩ := h1
  obtain ⟨i0, hi0, hz0, hz1, hz2⟩ := info_parts infoCMsg
  obtain ⟨P, hP⟩ : ∃ P, RdPost w G (manyP p n l) (ListV MEl 33 5 w) = P := ⟨_, rfl⟩
  rw [hP]
  have hGl := h.lt
  replace hP := Lib.hid hP
  replace hp := Lib.hid hp
  go_enter Try.func83, Try.ntmps83
  go_upto_region 3 with fail
  go_loopw [5, 7] (fun v i wr => ∃ k xs t, k ≤ n ∧ i = .int .i64 (k : Nat) ∧ Hid (manyP p k l = some (xs, t)) ∧ ListV MEl 33 5 w wr v xs ∧ Glass wr G t ∧ Save (fun b => b = G) w wr) (fun _ i _ => n - (intOf i).toNat)
  case atStart => exact ⟨0, [], l, by omega, rfl, Lib.hid rfl, ⟨fun _ => False, OSl.nil _ _ _ _ _ _, fun _ hb => hb.elim⟩, h, Save.refl _ _⟩
  case round =>
    clear h
    obtain ⟨k, xs, t, hk, rfl, hm, ⟨S, hO, hS⟩, hG, hv⟩ := hrel
    have hxl := manyP_len hm.out
    by_cases hlt : k < n
    · have e1 : decide ((k : Int) < (n : Int)) = true := decide_eq_true (by omega)
      have hC := hp.out wr t hG hv
      have hms := manyP_succ hm.out
      obtain ⟨a, c, rfl, _, _⟩ := OSl.form hO
      have hx8 : xs.length ≤ 255 := by omega
      replace hms := Lib.hid hms
      replace hxl := Lib.hid hxl
      go_wp2_with (first
        | (go_at_fn g; refine hC.mono ?_; rintro e w1 ⟨hv1, hr⟩; rcases hr with ⟨hr, rfl⟩ | ⟨x, u, v, hr, rfl, ⟨T, cs, rfl, hE, hT⟩, hG1⟩; all_goals (try (obtain ⟨rfl, hi⟩ := hE)); all_goals (try simp only [oneA, M.cells]))
        | (at_builtin; have hE2 := MEl.stays w1 (w1.alloc (.cells #[.int .i64 x.src, .int .i64 x.grp, .int .i64 x.stamp, .bool x.null, .string x.body] 33)) T _ x ⟨rfl, hi⟩ (fun b hb => (below_a1 w1 (.cells #[.int .i64 x.src, .int .i64 x.grp, .int .i64 x.stamp, .bool x.null, .string x.body] 33)).block b (hT b hb).2); have hO2 := OSl.keep MEl.stays hO (w' := w1.alloc (.cells #[.int .i64 x.src, .int .i64 x.grp, .int .i64 x.stamp, .bool x.null, .string x.body] 33)) (fun b hb => ((below_a1 w1 (.cells #[.int .i64 x.src, .int .i64 x.grp, .int .i64 x.stamp, .bool x.null, .string x.body] 33)).block b (Nat.lt_of_lt_of_le (hS b hb).2 hv1.size)).trans (hv1.block b (hS b hb).2 (fun e => by have h9 := (hS b hb).1; rw [e] at h9; omega))); refine wpList_push _ rfl _ _ 24 rfl 33 i0 _ 5 48 Try.underlying24 hi0 hz0 hz1 hz2 rfl (by decide) MEl.stays _ rfl S xs hO2 (fun b hb => Nat.lt_of_lt_of_le (hS b hb).2 (Nat.le_trans hv1.size (below_a1 w1 _).size)) ⟨w1.heap.size, 0, none⟩ _ rfl x.cells rfl (cells_new _ _ _) (by simp [M.cells, Value.oneCell']) T x hE2 (fun b hb => ⟨fun hs => by have := (hS b hs).2; have := (hT b hb).1; omega, Nat.lt_of_lt_of_le (hT b hb).2 (below_a1 w1 _).size⟩) (by omega) (by omega) (by omega) ?_; intro v3 w3 hp3; obtain ⟨⟨S3, hO3, hS3⟩, hz3, hL3, hB3, a3, cap3, rfl⟩ := hp3))
      · refine ⟨rfl, ?_⟩
        rw [← hP.out]
        have e := hms.out
        rw [hr] at e
        exact ⟨hv.trans hv1 (fun _ h _ => h), Or.inl ⟨manyP_none e n (by omega), rfl⟩⟩
      · go_roundw
        case rel =>
          have e := hms.out
          rw [hr] at e
          have hs1 := hv1.size
          have hs0 := hv.size
          have hsa := (below_a1 w1 (.cells #[.int .i64 x.src, .int .i64 x.grp, .int .i64 x.stamp, .bool x.null, .string x.body] 33)).size
          have hSG : ¬ S G := fun hs => by have := (hS G hs).1; omega
          refine ⟨k + 1, xs ++ [x], u, by omega, by go_num, Lib.hid e, ⟨S3, hO3, fun b hb => ⟨?_, (hS3 b hb).2⟩⟩, hG1.keep ((hL3 G ⟨by omega, hSG⟩).trans ((below_a1 w1 (.cells #[.int .i64 x.src, .int .i64 x.grp, .int .i64 x.stamp, .bool x.null, .string x.body] 33)).block G hG1.lt)), (hv.trans hv1 (fun _ h _ => h)).then (((below_a1 w1 (.cells #[.int .i64 x.src, .int .i64 x.grp, .int .i64 x.stamp, .bool x.null, .string x.body] 33)).mono (by omega)).trans (hB3 w.heap.size (fun b hb => (hS b hb).1) (by omega)))⟩
          rcases (hS3 b hb).1 with h1 | h1 | h1
          · exact (hS b h1).1
          · have := (hT b h1).1; omega
          · omega
        case measure => simp [intOf]; omega
    · have hke : k = n := by omega
      have e1 : decide ((k : Int) < (n : Int)) = false := decide_eq_false (by omega)
      go_wp2_with fail
      rw [← hP.out]
      rw [hke] at hm
      exact ⟨hv, Or.inr ⟨xs, t, _, hm.out, rfl, ⟨S, hO, hS⟩, hG⟩⟩
set_option maxHeartbeats 1000000 in
theorem list_msgs_c {w : World} {G : Nat} {l : List Int} (h : Glass w G l) {n : Nat} (hn : n ≤ 255) {g : Nat} {fa fb : Array Value} {p : Rdr _} (h1 : OneC g (fa ++ fb) G w p (ElV (OMsgsEl true) one1)) :
    Calls Try.prog 55 #[.int .i64 n, .func (.func g) fa fb] w (RdPost w G (manyP p n l) (ListV (OMsgsEl true) 24 1 w)) := by
  obtain ⟨eg, hp⟩ := h1
  obtain ⟨i0, hi0, hz0, hz1, hz2⟩ := info_parts infoCMsgRow
  obtain ⟨P, hP⟩ : ∃ P, RdPost w G (manyP p n l) (ListV (OMsgsEl true) 24 1 w) = P := ⟨_, rfl⟩
  rw [hP]
  have hGl := h.lt
  replace hP := Lib.hid hP
  replace hp := Lib.hid hp
  go_enter Try.func55, Try.ntmps55
  go_upto_region 3 with fail
  go_loopw [5, 7] (fun v i wr => ∃ k xs t, k ≤ n ∧ i = .int .i64 (k : Nat) ∧ Hid (manyP p k l = some (xs, t)) ∧ ListV (OMsgsEl true) 24 1 w wr v xs ∧ Glass wr G t ∧ Save (fun b => b = G) w wr) (fun _ i _ => n - (intOf i).toNat)
  case atStart => exact ⟨0, [], l, by omega, rfl, Lib.hid rfl, ⟨fun _ => False, OSl.nil _ _ _ _ _ _, fun _ hb => hb.elim⟩, h, Save.refl _ _⟩
  case round =>
    clear h
    obtain ⟨k, xs, t, hk, rfl, hm, ⟨S, hO, hS⟩, hG, hv⟩ := hrel
    have hxl := manyP_len hm.out
    by_cases hlt : k < n
    · have e1 : decide ((k : Int) < (n : Int)) = true := decide_eq_true (by omega)
      have hC := hp.out wr t hG hv
      have hms := manyP_succ hm.out
      obtain ⟨a, c, rfl, _, _⟩ := OSl.form hO
      have hx8 : xs.length ≤ 255 := by omega
      replace hms := Lib.hid hms
      replace hxl := Lib.hid hxl
      go_wp2_with (first
        | (go_at_fn g; refine hC.mono ?_; rintro e w1 ⟨hv1, hr⟩; rcases hr with ⟨hr, rfl⟩ | ⟨x, u, v, hr, rfl, ⟨T, cs, rfl, hE, hT⟩, hG1⟩; all_goals (try (obtain ⟨u9, rfl, hu⟩ := hE; obtain ⟨a9, c9, rfl, _, _⟩ := OSl.form hu)); all_goals (try simp only [one1, List.getD_cons_zero]))
        | (at_builtin; have hE2 := (OMsgsEl.stays true) w1 (w1.alloc (.cells #[.slice a9 x.length c9] 24)) T _ x ⟨_, rfl, hu⟩ (fun b hb => (below_a1 w1 (.cells #[.slice a9 x.length c9] 24)).block b (hT b hb).2); have hO2 := OSl.keep (OMsgsEl.stays true) hO (w' := w1.alloc (.cells #[.slice a9 x.length c9] 24)) (fun b hb => ((below_a1 w1 (.cells #[.slice a9 x.length c9] 24)).block b (Nat.lt_of_lt_of_le (hS b hb).2 hv1.size)).trans (hv1.block b (hS b hb).2 (fun e => by have h9 := (hS b hb).1; rw [e] at h9; omega))); refine wpList_push _ rfl _ _ 86 rfl 24 i0 _ 1 24 Try.underlying86 hi0 hz0 hz1 hz2 rfl (by decide) (OMsgsEl.stays true) _ rfl S xs hO2 (fun b hb => Nat.lt_of_lt_of_le (hS b hb).2 (Nat.le_trans hv1.size (below_a1 w1 _).size)) ⟨w1.heap.size, 0, none⟩ _ rfl [.slice a9 x.length c9] rfl (cells_new _ _ _) (by simp [Value.oneCell']) T x hE2 (fun b hb => ⟨fun hs => by have := (hS b hs).2; have := (hT b hb).1; omega, Nat.lt_of_lt_of_le (hT b hb).2 (below_a1 w1 _).size⟩) (by omega) (by omega) (by omega) ?_; intro v3 w3 hp3; obtain ⟨⟨S3, hO3, hS3⟩, hz3, hL3, hB3, a3, cap3, rfl⟩ := hp3))
      · refine ⟨rfl, ?_⟩
        rw [← hP.out]
        have e := hms.out
        rw [hr] at e
        exact ⟨hv.trans hv1 (fun _ h _ => h), Or.inl ⟨manyP_none e n (by omega), rfl⟩⟩
      · go_roundw
        case rel =>
          have e := hms.out
          rw [hr] at e
          have hs1 := hv1.size
          have hs0 := hv.size
          have hsa := (below_a1 w1 (.cells #[.slice a9 x.length c9] 24)).size
          have hSG : ¬ S G := fun hs => by have := (hS G hs).1; omega
          refine ⟨k + 1, xs ++ [x], u, by omega, by go_num, Lib.hid e, ⟨S3, hO3, fun b hb => ⟨?_, (hS3 b hb).2⟩⟩, hG1.keep ((hL3 G ⟨by omega, hSG⟩).trans ((below_a1 w1 (.cells #[.slice a9 x.length c9] 24)).block G hG1.lt)), (hv.trans hv1 (fun _ h _ => h)).then (((below_a1 w1 (.cells #[.slice a9 x.length c9] 24)).mono (by omega)).trans (hB3 w.heap.size (fun b hb => (hS b hb).1) (by omega)))⟩
          rcases (hS3 b hb).1 with h1 | h1 | h1
          · exact (hS b h1).1
          · have := (hT b h1).1; omega
          · omega
        case measure => simp [intOf]; omega
    · have hke : k = n := by omega
      have e1 : decide ((k : Int) < (n : Int)) = false := decide_eq_false (by omega)
      go_wp2_with fail
      rw [← hP.out]
      rw [hke] at hm
      exact ⟨hv, Or.inr ⟨xs, t, _, hm.out, rfl, ⟨S, hO, hS⟩, hG⟩⟩
set_option maxHeartbeats 1000000 in
theorem list_rows_c {w : World} {G : Nat} {l : List Int} (h : Glass w G l) {n : Nat} (hn : n ≤ 255) {g : Nat} {fa fb : Array Value} {p : Rdr _} (h1 : OneC g (fa ++ fb) G w p (ElV (OMsgRowsEl true) one1)) :
    Calls Try.prog 53 #[.int .i64 n, .func (.func g) fa fb] w (RdPost w G (manyP p n l) (ListV (OMsgRowsEl true) 86 1 w)) := by
  obtain ⟨eg, hp⟩ := h1
  obtain ⟨i0, hi0, hz0, hz1, hz2⟩ := info_parts infoCMsgRows
  obtain ⟨P, hP⟩ : ∃ P, RdPost w G (manyP p n l) (ListV (OMsgRowsEl true) 86 1 w) = P := ⟨_, rfl⟩
  rw [hP]
  have hGl := h.lt
  replace hP := Lib.hid hP
  replace hp := Lib.hid hp
  go_enter Try.func53, Try.ntmps53
  go_upto_region 3 with fail
  go_loopw [5, 7] (fun v i wr => ∃ k xs t, k ≤ n ∧ i = .int .i64 (k : Nat) ∧ Hid (manyP p k l = some (xs, t)) ∧ ListV (OMsgRowsEl true) 86 1 w wr v xs ∧ Glass wr G t ∧ Save (fun b => b = G) w wr) (fun _ i _ => n - (intOf i).toNat)
  case atStart => exact ⟨0, [], l, by omega, rfl, Lib.hid rfl, ⟨fun _ => False, OSl.nil _ _ _ _ _ _, fun _ hb => hb.elim⟩, h, Save.refl _ _⟩
  case round =>
    clear h
    obtain ⟨k, xs, t, hk, rfl, hm, ⟨S, hO, hS⟩, hG, hv⟩ := hrel
    have hxl := manyP_len hm.out
    by_cases hlt : k < n
    · have e1 : decide ((k : Int) < (n : Int)) = true := decide_eq_true (by omega)
      have hC := hp.out wr t hG hv
      have hms := manyP_succ hm.out
      obtain ⟨a, c, rfl, _, _⟩ := OSl.form hO
      have hx8 : xs.length ≤ 255 := by omega
      replace hms := Lib.hid hms
      replace hxl := Lib.hid hxl
      go_wp2_with (first
        | (go_at_fn g; refine hC.mono ?_; rintro e w1 ⟨hv1, hr⟩; rcases hr with ⟨hr, rfl⟩ | ⟨x, u, v, hr, rfl, ⟨T, cs, rfl, hE, hT⟩, hG1⟩; all_goals (try (obtain ⟨u9, rfl, hu⟩ := hE; obtain ⟨a9, c9, rfl, _, _⟩ := OSl.form hu)); all_goals (try simp only [one1, List.getD_cons_zero]))
        | (at_builtin; have hE2 := (OMsgRowsEl.stays true) w1 (w1.alloc (.cells #[.slice a9 x.length c9] 86)) T _ x ⟨_, rfl, hu⟩ (fun b hb => (below_a1 w1 (.cells #[.slice a9 x.length c9] 86)).block b (hT b hb).2); have hO2 := OSl.keep (OMsgRowsEl.stays true) hO (w' := w1.alloc (.cells #[.slice a9 x.length c9] 86)) (fun b hb => ((below_a1 w1 (.cells #[.slice a9 x.length c9] 86)).block b (Nat.lt_of_lt_of_le (hS b hb).2 hv1.size)).trans (hv1.block b (hS b hb).2 (fun e => by have h9 := (hS b hb).1; rw [e] at h9; omega))); refine wpList_push _ rfl _ _ 38 rfl 86 i0 _ 1 24 Try.underlying38 hi0 hz0 hz1 hz2 rfl (by decide) (OMsgRowsEl.stays true) _ rfl S xs hO2 (fun b hb => Nat.lt_of_lt_of_le (hS b hb).2 (Nat.le_trans hv1.size (below_a1 w1 _).size)) ⟨w1.heap.size, 0, none⟩ _ rfl [.slice a9 x.length c9] rfl (cells_new _ _ _) (by simp [Value.oneCell']) T x hE2 (fun b hb => ⟨fun hs => by have := (hS b hs).2; have := (hT b hb).1; omega, Nat.lt_of_lt_of_le (hT b hb).2 (below_a1 w1 _).size⟩) (by omega) (by omega) (by omega) ?_; intro v3 w3 hp3; obtain ⟨⟨S3, hO3, hS3⟩, hz3, hL3, hB3, a3, cap3, rfl⟩ := hp3))
      · refine ⟨rfl, ?_⟩
        rw [← hP.out]
        have e := hms.out
        rw [hr] at e
        exact ⟨hv.trans hv1 (fun _ h _ => h), Or.inl ⟨manyP_none e n (by omega), rfl⟩⟩
      · go_roundw
        case rel =>
          have e := hms.out
          rw [hr] at e
          have hs1 := hv1.size
          have hs0 := hv.size
          have hsa := (below_a1 w1 (.cells #[.slice a9 x.length c9] 86)).size
          have hSG : ¬ S G := fun hs => by have := (hS G hs).1; omega
          refine ⟨k + 1, xs ++ [x], u, by omega, by go_num, Lib.hid e, ⟨S3, hO3, fun b hb => ⟨?_, (hS3 b hb).2⟩⟩, hG1.keep ((hL3 G ⟨by omega, hSG⟩).trans ((below_a1 w1 (.cells #[.slice a9 x.length c9] 86)).block G hG1.lt)), (hv.trans hv1 (fun _ h _ => h)).then (((below_a1 w1 (.cells #[.slice a9 x.length c9] 86)).mono (by omega)).trans (hB3 w.heap.size (fun b hb => (hS b hb).1) (by omega)))⟩
          rcases (hS3 b hb).1 with h1 | h1 | h1
          · exact (hS b h1).1
          · have := (hT b h1).1; omega
          · omega
        case measure => simp [intOf]; omega
    · have hke : k = n := by omega
      have e1 : decide ((k : Int) < (n : Int)) = false := decide_eq_false (by omega)
      go_wp2_with fail
      rw [← hP.out]
      rw [hke] at hm
      exact ⟨hv, Or.inr ⟨xs, t, _, hm.out, rfl, ⟨S, hO, hS⟩, hG⟩⟩
set_option maxHeartbeats 1000000 in
theorem list_node_c {w : World} {G : Nat} {l : List Int} (h : Glass w G l) {n : Nat} (hn : n ≤ 255) {g : Nat} {fa fb : Array Value} {p : Rdr _} (h1 : OneC g (fa ++ fb) G w p (ElV ONodeEl oneA)) :
    Calls Try.prog 47 #[.int .i64 n, .func (.func g) fa fb] w (RdPost w G (manyP p n l) (ListV ONodeEl 79 4 w)) := by
  obtain ⟨eg, hp⟩ := h1
  obtain ⟨i0, hi0, hz0, hz1, hz2⟩ := info_parts infoCNode
  obtain ⟨P, hP⟩ : ∃ P, RdPost w G (manyP p n l) (ListV ONodeEl 79 4 w) = P := ⟨_, rfl⟩
  rw [hP]
  have hGl := h.lt
  replace hP := Lib.hid hP
  replace hp := Lib.hid hp
  go_enter Try.func47, Try.ntmps47
  go_upto_region 3 with fail
  go_loopw [5, 7] (fun v i wr => ∃ k xs t, k ≤ n ∧ i = .int .i64 (k : Nat) ∧ Hid (manyP p k l = some (xs, t)) ∧ ListV ONodeEl 79 4 w wr v xs ∧ Glass wr G t ∧ Save (fun b => b = G) w wr) (fun _ i _ => n - (intOf i).toNat)
  case atStart => exact ⟨0, [], l, by omega, rfl, Lib.hid rfl, ⟨fun _ => False, OSl.nil _ _ _ _ _ _, fun _ hb => hb.elim⟩, h, Save.refl _ _⟩
  case round =>
    clear h
    obtain ⟨k, xs, t, hk, rfl, hm, ⟨S, hO, hS⟩, hG, hv⟩ := hrel
    have hxl := manyP_len hm.out
    by_cases hlt : k < n
    · have e1 : decide ((k : Int) < (n : Int)) = true := decide_eq_true (by omega)
      have hC := hp.out wr t hG hv
      have hms := manyP_succ hm.out
      obtain ⟨a, c, rfl, _, _⟩ := OSl.form hO
      have hx8 : xs.length ≤ 255 := by omega
      replace hms := Lib.hid hms
      replace hxl := Lib.hid hxl
      go_wp2_with (first
        | (go_at_fn g; refine hC.mono ?_; rintro e w1 ⟨hv1, hr⟩; rcases hr with ⟨hr, rfl⟩ | ⟨x, u, v, hr, rfl, ⟨T, cs, rfl, hE, hT⟩, hG1⟩; all_goals (try (obtain ⟨lv, gv, tv, Tl, Th, Tt, rfl, h64, hl9, hh9, ht9, hd9⟩ := hE; obtain ⟨la, lc, rfl, _, _⟩ := OSl.form hl9; obtain ⟨ha, hc, rfl, _, _⟩ := OSl.form hh9; obtain ⟨ta, tc, rfl, _, _⟩ := OSl.form ht9)); all_goals (try simp only [oneA]))
        | (at_builtin; have hE2 := ONodeEl.stays w1 (w1.alloc (.cells #[.int .i64 x.clock, .slice la x.last.length lc, .slice ha x.held.length hc, .slice ta x.told.length tc] 79)) T _ x ⟨_, _, _, Tl, Th, Tt, rfl, h64, hl9, hh9, ht9, hd9⟩ (fun b hb => (below_a1 w1 (.cells #[.int .i64 x.clock, .slice la x.last.length lc, .slice ha x.held.length hc, .slice ta x.told.length tc] 79)).block b (hT b hb).2); have hO2 := OSl.keep ONodeEl.stays hO (w' := w1.alloc (.cells #[.int .i64 x.clock, .slice la x.last.length lc, .slice ha x.held.length hc, .slice ta x.told.length tc] 79)) (fun b hb => ((below_a1 w1 (.cells #[.int .i64 x.clock, .slice la x.last.length lc, .slice ha x.held.length hc, .slice ta x.told.length tc] 79)).block b (Nat.lt_of_lt_of_le (hS b hb).2 hv1.size)).trans (hv1.block b (hS b hb).2 (fun e => by have h9 := (hS b hb).1; rw [e] at h9; omega))); refine wpList_push _ rfl _ _ 37 rfl 79 i0 _ 4 80 Try.underlying37 hi0 hz0 hz1 hz2 rfl (by decide) ONodeEl.stays _ rfl S xs hO2 (fun b hb => Nat.lt_of_lt_of_le (hS b hb).2 (Nat.le_trans hv1.size (below_a1 w1 _).size)) ⟨w1.heap.size, 0, none⟩ _ rfl [.int .i64 x.clock, .slice la x.last.length lc, .slice ha x.held.length hc, .slice ta x.told.length tc] rfl (cells_new _ _ _) (by simp [Value.oneCell']) T x hE2 (fun b hb => ⟨fun hs => by have := (hS b hs).2; have := (hT b hb).1; omega, Nat.lt_of_lt_of_le (hT b hb).2 (below_a1 w1 _).size⟩) (by omega) (by omega) (by omega) ?_; intro v3 w3 hp3; obtain ⟨⟨S3, hO3, hS3⟩, hz3, hL3, hB3, a3, cap3, rfl⟩ := hp3))
      · refine ⟨rfl, ?_⟩
        rw [← hP.out]
        have e := hms.out
        rw [hr] at e
        exact ⟨hv.trans hv1 (fun _ h _ => h), Or.inl ⟨manyP_none e n (by omega), rfl⟩⟩
      · go_roundw
        case rel =>
          have e := hms.out
          rw [hr] at e
          have hs1 := hv1.size
          have hs0 := hv.size
          have hsa := (below_a1 w1 (.cells #[.int .i64 x.clock, .slice la x.last.length lc, .slice ha x.held.length hc, .slice ta x.told.length tc] 79)).size
          have hSG : ¬ S G := fun hs => by have := (hS G hs).1; omega
          refine ⟨k + 1, xs ++ [x], u, by omega, by go_num, Lib.hid e, ⟨S3, hO3, fun b hb => ⟨?_, (hS3 b hb).2⟩⟩, hG1.keep ((hL3 G ⟨by omega, hSG⟩).trans ((below_a1 w1 (.cells #[.int .i64 x.clock, .slice la x.last.length lc, .slice ha x.held.length hc, .slice ta x.told.length tc] 79)).block G hG1.lt)), (hv.trans hv1 (fun _ h _ => h)).then (((below_a1 w1 (.cells #[.int .i64 x.clock, .slice la x.last.length lc, .slice ha x.held.length hc, .slice ta x.told.length tc] 79)).mono (by omega)).trans (hB3 w.heap.size (fun b hb => (hS b hb).1) (by omega)))⟩
          rcases (hS3 b hb).1 with h1 | h1 | h1
          · exact (hS b h1).1
          · have := (hT b h1).1; omega
          · omega
        case measure => simp [intOf]; omega
    · have hke : k = n := by omega
      have e1 : decide ((k : Int) < (n : Int)) = false := decide_eq_false (by omega)
      go_wp2_with fail
      rw [← hP.out]
      rw [hke] at hm
      exact ⟨hv, Or.inr ⟨xs, t, _, hm.out, rfl, ⟨S, hO, hS⟩, hG⟩⟩
end Go.Proofs.Ytnalakhelicjcaa
