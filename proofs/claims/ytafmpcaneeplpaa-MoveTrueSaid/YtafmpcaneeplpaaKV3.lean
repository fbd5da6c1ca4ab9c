/-
  A node and a wire of a world of one's own are set to others' cells: how the world reads then.
  What has come is laid back: the world is the old one. And: what is left of a drawn region only reads.
  MoveTrue, without the document's answer.
-/
import Derived.Test.YtafmpcaneeplpaaKW
import Derived.Test.YtafmpcaneeplpaaKC
import Derived.Test.YtafmpcaneeplpaaKN
import Derived.Test.YtafmpcaneeplpaaKV
import Derived.Test.YtafmpcaneeplpaaKV2
import Derived.Test.YtafmpcaneeplpaaKL
import Derived.Deep.CutRange
set_option maxRecDepth 100000
namespace Go.Proofs.Ytafmpcaneeplpaa
open Go.RowKit Go.Shelf Go.BigFrame

def NodeX (wz : World) : ElO N := fun w T cs x => ONodeEl w T cs x ∨ NodeEl wz cs x
theorem NodeX.stays (wz : World) : OStays (NodeX wz) := fun _ _ _ _ _ h k => h.imp (fun h => ONodeEl.stays _ _ _ _ _ h k) id
def MsgsX (o : Bool) (wz : World) : ElO (List M) := fun w T cs x => OMsgsEl o w T cs x ∨ MsgsEl wz cs x
theorem MsgsX.stays (o : Bool) (wz : World) : OStays (MsgsX o wz) := fun _ _ _ _ _ h k => h.imp (fun h => OMsgsEl.stays o _ _ _ _ _ h k) id
def RowX (o : Bool) (wz : World) : ElO (List (List M)) := fun w T cs l => ∃ u, cs = [u] ∧ OSl (MsgsX o wz) true 39 1 w T u l
theorem RowX.stays (o : Bool) (wz : World) : OStays (RowX o wz) := fun _ _ _ _ _ ⟨u, h, h2⟩ k => ⟨u, h, OSl.keep (MsgsX.stays o wz) h2 k⟩

theorem Sl.at_map {α : Type} {El El2 : World → List Value → α → Prop} {s : Nat} {w : World} {v : Value} {l : List α} (hE : ∀ cs x, El w cs x → El2 w cs x) (h : Sl El s w v l) : Sl El2 s w v l := by
  obtain ⟨css, h1, h2, h3, h4⟩ := h
  exact ⟨css, h1, h2, h3, fun i a b => hE _ _ (h4 i a b)⟩

theorem OWd.put_back {o : Bool} {w : World} {S : Nat → Prop} {gv nv wv : Value} {Y : Wd} (h : OWd o w S gv nv wv Y) {n a k : Nat} (hn : n < Y.nodes.length) (ha : a < Y.wires.length) (hk : k < (Y.wires.getD a []).length) :
    ∃ (g cap g1 cap1 g2 cap2 : Nat), nv = .slice (some ⟨g, 0, none⟩) Y.nodes.length cap ∧ Y.nodes.length ≤ cap ∧ S g ∧ BlkIs w g 45 (cap * 4) ∧
      wv = .slice (some ⟨g1, 0, none⟩) Y.wires.length cap1 ∧ Y.wires.length ≤ cap1 ∧ S g1 ∧ w.cell? ⟨g1, a, none⟩ = some (.slice (some ⟨g2, 0, none⟩) (Y.wires.getD a []).length cap2) ∧ (Y.wires.getD a []).length ≤ cap2 ∧ S g2 ∧ BlkIs w g2 39 cap2 ∧
      g ≠ g1 ∧ g ≠ g2 ∧ g1 ≠ g2 ∧
      ∀ wz cs x u l, Lies (fun b => S b ∧ b ≠ g ∧ b ≠ g2) w wz → BlkSet w wz g (n * 4) cs → cs.length = 4 → NodeEl wz cs x → BlkSet w wz g2 k [u] → Msgs wz u l →
        WorldAt wz (.agg #[gv, nv, wv]) { Y with nodes := Y.nodes.set n x, wires := Y.wires.set a ((Y.wires.getD a []).set k l) } := by
  obtain ⟨Sg, Sn, Sw, h1, h2, h3, s1, s2, s3, d1, d2, d3⟩ := h
  obtain ⟨g, off, cap, T, cs0, e1, e2, e3, e4, e5, _⟩ := OSl.at ONodeEl.stays h2 hn
  obtain rfl := e5 rfl
  obtain ⟨g1, off1, cap1, T1, cs1, f1, f2, f3, f4, f5, f6, f7, ⟨r, rfl, f8⟩, f9, _⟩ := OSl.at (OMsgRowsEl.stays o) h3 ha
  obtain rfl := f5 rfl
  rw [getD_lt Y.wires [] ha] at hk ⊢
  obtain ⟨g2, off2, cap2, T2, cs2, k1, k2, k3, k4, k5, k6, k7, k8, k9, _⟩ := OSl.at (OMsgsEl.stays o) f8 hk
  obtain rfl := k5 rfl
  subst k1
  have c1 := f7 0 (by omega)
  simp only [Nat.zero_add, Nat.mul_one, Nat.add_zero] at e3 k3 c1
  have hgw : ¬ Sw g := d3 g e2
  have hg2 : Sw g2 := (f9 g2 k2).1
  have n1 : g ≠ g1 := fun e => hgw (e ▸ f2)
  have n2 : g ≠ g2 := fun e => hgw (e ▸ hg2)
  have n3 : g1 ≠ g2 := fun e => (f9 g2 k2).2 e.symm
  refine ⟨g, cap, g1, cap1, g2, cap2, e1, e4, s2 g e2, e3, f1, f4, s3 g1 f2, c1, k4, s3 g2 hg2, k3, n1, n2, n3, fun wz cs x u l hL hB hl hX hB2 hU => ?_⟩
  refine ⟨gv, nv, wv, rfl, (h1.keep (hL.mono fun b hb => ⟨s1 b hb, fun e => d1 b hb (e ▸ e2), fun e => d2 b hb (e ▸ hg2)⟩)).ints, ?_, ?_⟩
  · have h2x : OSl (NodeX wz) true 45 4 w Sn nv Y.nodes := OSl.map (fun _ _ _ h => Or.inl h) h2
    obtain ⟨g', off', cap', T', cs', e1', e2', e3', _, _, _, _, _, e9', back⟩ := OSl.at (NodeX.stays wz) h2x hn
    rw [e1] at e1'
    have e := (Value.slice.inj e1').1
    injection e with e
    injection e with ea eb
    subst ea
    subst eb
    simp only [Nat.zero_add] at back
    have := back wz (fun _ => False) cs x (hL.mono fun b hb => ⟨s2 b hb.1, hb.2.1, fun e => d3 b hb.1 (e ▸ hg2)⟩) hB hl (Or.inr hX) (fun _ h => h.elim)
    exact Sl.at_map (fun cs x h => h.elim id id) (OSl.sl (El' := fun w cs x => NodeEl w cs x ∨ NodeEl wz cs x) (fun w' T cs x h => h.imp (fun h => by
      obtain ⟨lv, hv, tv, _, _, _, e, h0, h1, h2, h3, _⟩ := h
      exact ⟨lv, hv, tv, e, h0, OIntRows.rows h1, OMsgs.msgs h2, OMsgs.msgs h3⟩) id) this)
  · have h3x : OSl (RowX o wz) true 57 1 w Sw (.slice (some ⟨g1, 0, none⟩) Y.wires.length cap1) Y.wires := by
      rw [← f1]
      exact OSl.map (fun _ _ _ ⟨u, e, h⟩ => ⟨u, e, OSl.map (fun _ _ _ h => Or.inl h) h⟩) h3
    obtain ⟨g1', off1', cap1', T1', cs1', f1', f2', f3', f4', f5', f6', f7', ⟨r', hr', f8'⟩, f9', back⟩ := OSl.at (RowX.stays o wz) h3x ha
    obtain rfl := f5' rfl
    have e := (Value.slice.inj f1').1
    injection e with e
    injection e with ea _
    subst ea
    have c1' := f7' 0 (by omega)
    rw [hr'] at c1'
    simp only [Nat.zero_add, Nat.mul_one, Nat.add_zero] at c1' back f7'
    rw [c1] at c1'
    have hrv : .slice (some ⟨g2, 0, none⟩) Y.wires[a].length cap2 = r' := by simpa using c1'
    subst hrv
    obtain ⟨g2', off2', cap2', T2', cs2', k1', k2', k3', k4', k5', k6', k7', _, k9', back2⟩ := OSl.at (MsgsX.stays o wz) f8' hk
    obtain rfl := k5' rfl
    have e := (Value.slice.inj k1').1
    injection e with e
    injection e with ea _
    subst ea
    simp only [Nat.zero_add, Nat.mul_one] at back2
    have hrow := back2 wz (fun _ => False) [u] l (hL.mono fun b hb => ⟨s3 b (f9' b hb.1).1, fun e => hgw (e ▸ (f9' b hb.1).1), hb.2.1⟩) hB2 rfl (Or.inr ⟨u, rfl, hU⟩) (fun _ h => h.elim)
    have hg1 : wz.heap[g1]? = w.heap[g1]? := hL g1 ⟨s3 g1 f2, Ne.symm n1, n3⟩
    have := back wz (fun b => T1' b ∨ False) [_] _ (hL.mono fun b hb => ⟨s3 b hb.1, fun e => hgw (e ▸ hb.1), fun e => hb.2.2 (e ▸ k2')⟩) (BlkSet.same hg1 (fun j hj => by
      have := f7' j (by simpa using hj)
      rw [hr'] at this
      exact this)) rfl ⟨_, rfl, hrow⟩ (fun b hb => hb.elim Or.inl (fun h => h.elim))
    rw [f1]
    exact Sl.at_map (fun cs x ⟨u, e, h⟩ => ⟨u, e, Sl.at_map (fun cs x h => h.elim id id) h⟩) (OSl.sl (El' := fun w cs x => ∃ u, cs = [u] ∧ Sl (fun w cs x => MsgsEl w cs x ∨ MsgsEl wz cs x) 1 w u x)
      (fun w' T cs x ⟨u, e, h⟩ => ⟨u, e, OSl.sl (El' := fun w cs x => MsgsEl w cs x ∨ MsgsEl wz cs x) (fun w' T cs x h => h.imp (fun ⟨u, e, h⟩ => ⟨u, e, OMsgs.msgs h⟩) id) h⟩) this)
end Go.Proofs.Ytafmpcaneeplpaa

set_option maxRecDepth 100000
namespace Go.Proofs.Ytafmpcaneeplpaa
open Go.RowKit Go.Shelf Go.BigFrame

theorem list_ext_getD {α : Type} (d : α) {l l' : List α} (h : l.length = l'.length) (k : ∀ i, i < l.length → l.getD i d = l'.getD i d) : l = l' := by
  apply List.ext_getElem h
  intro i h1 h2
  have := k i h1
  rwa [getD_lt l d h1, getD_lt l' d h2] at this
theorem Moved.back {X Y : Wd} {a b : Nat} {m : M} (h : Moved X a b m Y) (hX : Right X) (ha : a < X.nodes.length) (hb : b < X.nodes.length) :
    ({ Y with nodes := Y.nodes.set b (X.nodes.getD b N.zero), wires := Y.wires.set a ((Y.wires.getD a []).set b (wireL X a b)) } : Wd) = X := by
  have hw : a < X.wires.length := by rw [hX.nw]; exact ha
  have e1 : Y.nodes.set b (X.nodes.getD b N.zero) = X.nodes := by
    refine list_ext_getD N.zero (by rw [List.length_set, h.len]) (fun i hi => ?_)
    by_cases e : b = i
    · subst e
      rw [getD_set_eq _ _ _ (by rw [h.len]; exact hb)]
    · rw [getD_set_ne' _ _ _ e]
      exact h.others i (Ne.symm e)
  have e2 : Y.wires.set a ((Y.wires.getD a []).set b (wireL X a b)) = X.wires := by
    rw [h.wires, getD_set_eq _ _ _ hw, List.set_set, List.set_set]
    refine list_ext_getD [] (by rw [List.length_set]) (fun i hi => ?_)
    by_cases e : a = i
    · subst e
      rw [getD_set_eq _ _ _ hw]
      refine list_ext_getD [] (by rw [List.length_set]) (fun j hj => ?_)
      by_cases e2 : b = j
      · subst e2
        rw [getD_set_eq _ _ _ (by rw [hX.row a ha]; exact hb)]
        rfl
      · rw [getD_set_ne' _ _ _ e2]
    · rw [getD_set_ne' _ _ _ e]
  rw [e1, e2, h.groups]

theorem Msgs.tail {w : World} {b off cap : Nat} {m : M} {l : List M} (h : Msgs w (.slice (some ⟨b, off, none⟩) (l.length + 1) cap) (m :: l)) : Msgs w (tailV b off l.length cap) l := by
  have := h.drops (k := 1) (by simp)
  have e : (⟨b, off, none⟩ : Addr).add (1 * 5) = ⟨b, off + 5, none⟩ := by
    unfold Addr.add
    split
    · rename_i h0; cases h0
    · rfl
  rw [Option.map_some, e] at this
  exact this

section
variable {P : Program} {md : Region.Mode} {ops : Array Oper} {Q' : Exit → Act → World → Prop} {C S : World → Prop} {n : Nat}
theorem wpAnyN_of_quiet {Q : Act → Prop} (hS : ∀ w, C w → S w) (hQ : ∀ a w, C w → Q a → Q' .normal a w) : ∀ (fuel : Nat) (listed : Array Bool) (a : Act) (w : World), C w →
    wpAnyQ P md ops C Q fuel listed a → wpAnyN P md ops Q' S n fuel listed a w
  | 0, _, _, _, hw, h => ⟨h.1, hQ _ _ hw h.2⟩
  | fuel + 1, _, _, _, hw, h => ⟨fun h0 => hQ _ _ hw (h.1 h0), fun i hi => wpOp_of_qOp hw (fun a' w' hw' hk => ⟨fun _ => hS w' hw', wpAnyN_of_quiet hS hQ fuel _ a' w' hw' hk⟩) (h.2 i hi)⟩
/-- What is left of a drawn region only reads; the facts S stand through draws. -/
theorem N_quietS {l : List Oper} (k f : Nat) {listed : Array Bool} {a : Act} {w : World} (hf : l.length - k = f) (hs : Region.noSelect l.toArray = true) (hB : Region.lexFrom md l.toArray f k listed = true) (hS : ∀ j, S (w.drewN j))
    (h : wpQuiet P l.toArray (fun w' => ∃ n, w' = w.drewN n) (fun a' => ∀ w', (∃ n, w' = w.drewN n) → Q' .normal a' w') (l.drop k) a) : wpAnyN P md l.toArray Q' S n f listed a w := by
  have hl : (l.drop k).length = f := by simp [hf]
  have := wpAnyQ_lex (C := fun w' => ∃ n, w' = w.drewN n) (md := md) (P := P) hs (l.drop k) k listed a (fun j => by simp [List.getElem?_drop]) (by rw [hl]; exact hB) h
  rw [hl] at this
  exact wpAnyN_of_quiet (Q := fun a' => ∀ w', (∃ n, w' = w.drewN n) → Q' .normal a' w') (fun w' ⟨j, e⟩ => e ▸ hS j) (fun _ w' hw' h => h w' hw') _ _ _ _ ⟨0, rfl⟩ this
end
end Go.Proofs.Ytafmpcaneeplpaa

set_option maxRecDepth 100000
namespace Go.Proofs.Ytafmpcaneeplpaa
open Go.RowKit Go.Shelf Go.BigFrame

set_option maxHeartbeats 2000000 in
theorem MoveTrue_walk_of (w : World) {v : Value} {X : Wd} {a b : Int} (hW : WorldAt w v X) (ha64 : I64 a) (hb64 : I64 b) :
    Calls Try.prog 14 #[v, .int .i64 a, .int .i64 b] w (GivesB (.bool true) w) := by
  have hW0 := hW
  obtain ⟨gv, nv, wv, rfl, hg, hn, hw⟩ := hW
  obtain ⟨_, na, ncap, rfl, _⟩ := hn.form
  obtain ⟨_, ga, gcap, rfl, _⟩ := hg.open
  obtain ⟨_, wa, wcap, rfl, _⟩ := hw.form
  have hB := OBox.new w 26 (.slice ga X.groups.length gcap) (.slice na X.nodes.length ncap) (.slice wa X.wires.length wcap)
  have b1 := below_a1 w (.cells #[.slice ga X.groups.length gcap, .slice na X.nodes.length ncap, .slice wa X.wires.length wcap] 26)
  have hP1 := One_c (hW0.below b1) a b ha64 hb64
  obtain ⟨r, hr⟩ : ∃ r, moveF X a b = r := ⟨_, rfl⟩
  rw [hr] at hP1
  go_enter Try.func14, Try.ntmps14
  go_upto_region 1 with fail
  generalize w.alloc (.cells #[.slice ga X.groups.length gcap, .slice na X.nodes.length ncap, .slice wa X.wires.length wcap] 26) = w1 at *
  obtain ⟨_, x0, x1, x2⟩ := id hB
  go_wp2_with fail
  refine hP1.mono ?_
  rintro e w2 ⟨gv2, nv2, wv2, S2, rfl, hO2, hS2, b2⟩
  obtain ⟨pg, pn, pw⟩ := hO2.parts
  obtain ⟨_, ga2, gcap2, rfl, _⟩ := pg.open
  obtain ⟨_, na2, ncap2, rfl, _⟩ := pn.form
  obtain ⟨_, wa2, wcap2, rfl, _⟩ := pw.form
  clear pg pn pw
  have hR2 := OBox.new w2 26 (.slice ga2 r.2.groups.length gcap2) (.slice na2 r.2.nodes.length ncap2) (.slice wa2 r.2.wires.length wcap2)
  have bx2 := below_a1 w2 (.cells #[.slice ga2 r.2.groups.length gcap2, .slice na2 r.2.nodes.length ncap2, .slice wa2 r.2.wires.length wcap2] 26)
  have hW2 := hO2.world.below bx2
  clear x0 x1 x2
  have b23 := below_trans b2 bx2
  have hB3 := hB.keep (b23.block _ hB.lt)
  have b3 := below_trans b1 b23
  by_cases he : r.1 = 0
  rotate_left
  · have hne : (r.1 != 0) = true := by simpa using he
    replace he := Lib.hid he
    go_upto_region 3 with fail
    generalize w2.alloc (.cells #[.slice ga2 r.2.groups.length gcap2, .slice na2 r.2.nodes.length ncap2, .slice wa2 r.2.wires.length wcap2] 26) = w3 at *
    go_wp2_with fail
    refine (moveBegun_c w3).mono ?_
    rintro e w4 ⟨rfl, b4⟩
    go_wp2_with fail
    go_ret
    exact ⟨ret_bool (by simp), below_trans b3 b4⟩
  have hE : moveE X a b = 0 := by
    rcases Classical.em (moveE X a b = 0) with e | e
    · exact e
    · unfold moveF at hr
      rw [if_neg e] at hr
      subst hr
      exact absurd he e
  obtain ⟨hXe, ha0, ha1, hb0, hb1⟩ := moveE_ok hE
  obtain ⟨a, rfl⟩ := Int.eq_ofNat_of_zero_le ha0
  obtain ⟨b, rfl⟩ := Int.eq_ofNat_of_zero_le hb0
  have ha : a < X.nodes.length := by omega
  have hb : b < X.nodes.length := by omega
  have hRt := right_of hXe
  unfold moveF at hr
  rw [if_pos hE, Int.toNat_natCast, Int.toNat_natCast] at hr
  obtain ⟨m, l, hml, hMv⟩ := moveR_ok hRt ha hb (by rw [hr]; exact he)
  rw [hr] at hMv
  have hrr : r = (0, r.2) := Prod.ext he rfl
  generalize r.2 = Y at *
  subst hrr
  have hYe := hMv.right.err
  have hYl := hMv.len
  have hYw := hMv.right.nw
  have hXw := hRt.nw
  clear hr hP1 b2 bx2 b23 he hE ha0 ha1 hb0 hb1
  dsimp only at *
  rw [hYl] at hR2 hW2 hB3 b3 hYw hO2
  rw [hYw] at hR2 hW2 hB3 b3 hO2
  rw [hXw] at hB hB3 hW0
  go_upto_region 2 with fail
  rw [hYl, hYw]
  have hbx := below_a1 w2 (.cells #[.slice ga2 Y.groups.length gcap2, .slice na2 X.nodes.length ncap2, .slice wa2 X.nodes.length wcap2] 26)
  generalize w2.alloc (.cells #[.slice ga2 Y.groups.length gcap2, .slice na2 X.nodes.length ncap2, .slice wa2 X.nodes.length wcap2] 26) = w3 at *
  have hO3 := hO2.keep (w' := w3) (fun c hc => hbx.block c (hS2 c hc).2)
  have hS3 : ∀ c, S2 c → w.heap.size ≤ c ∧ c < w3.heap.size ∧ c ≠ w2.heap.size ∧ c ≠ w.heap.size := fun c hc => by
    have h := hS2 c hc; have := hbx.size; have := hB.lt; have := b1.size; omega
  obtain ⟨B2, hB2⟩ : ∃ B, w2.heap.size = B := ⟨_, rfl⟩
  simp only [hB2] at hR2 hS3 ⊢
  clear hB2 hO2 hS2 hB b1 hbx
  replace hS3 := Lib.hid hS3
  have hC := WorldError_c (hW0.below b3)
  rw [hXe] at hC
  obtain ⟨_, x0, x1, x2⟩ := id hB3
  go_wp2_with fail
  refine hC.mono ?_
  rintro e w4 ⟨rfl, b4⟩
  clear x0 x1 x2 hC
  have hB4 := hB3.keep (b4.block _ hB3.lt)
  have hR4 := hR2.keep (b4.block _ hR2.lt)
  have hW4 := hW2.below b4
  have hO4 := hO3.keep (w' := w4) (fun c hc => b4.block c (hS3.out c hc).2.1)
  have hS4 : ∀ c, S2 c → w.heap.size ≤ c ∧ c < w4.heap.size ∧ c ≠ B2 ∧ c ≠ w.heap.size := fun c hc => by have := hS3.out c hc; have := b4.size; omega
  replace hS4 := Lib.hid hS4
  have b4 := below_trans b3 b4
  clear hB3 hR2 hW2 b3 hO3 hS3
  obtain ⟨bw, ow, cw, u1, e1, _, r1, hu1⟩ := (hw.below b4).row (a := a) (by rw [hXw]; exact ha)
  cases e1
  obtain ⟨bx, ox, cx, u2, rfl, _, r2, hu2⟩ := hu1.at (a := b) (by rw [hRt.row a ha]; exact hb)
  rw [hRt.row a ha] at r1
  change Msgs w4 u2 (wireL X a b) at hu2
  rw [hml] at hu2
  obtain ⟨_, ua, cu, rfl, hcu, hum⟩ := hu2.open
  obtain ⟨bm, om, rfl, hun⟩ := hum (by simp)
  have hm0 := hun 0 (by simp)
  simp only [Nat.zero_mul, Nat.add_zero, List.getD_cons_zero] at hm0
  simp only [List.length_cons] at r2 hcu
  obtain ⟨_, x0, x1, x2⟩ := id hB4
  have hk1 : decide ((a : Int) < 0) = false := by simp
  have hk2 : decide (X.nodes.length ≤ a) = false := by simp; omega
  have hk3 : decide ((b : Int) < 0) = false := by simp
  have hk4 : decide (X.nodes.length ≤ b) = false := by simp; omega
  have hk5 : (((l.length : Int) + 1) == 0) = false := beq_eq_false_iff_ne.2 (by omega)
  clear hum hun
  go_upto_region 4 with fail
  have hC := WCheck_c hW4
  rw [hYe] at hC
  obtain ⟨_, y0, y1, y2⟩ := id hR4
  go_wp2_with fail
  refine hC.mono ?_
  rintro e w5 ⟨rfl, b5⟩
  clear x0 x1 x2 y0 y1 y2 hC
  have hB5 := hB4.keep (b5.block _ hB4.lt)
  have hR5 := hR4.keep (b5.block _ hR4.lt)
  have hW5 := hW4.below b5
  have hO5 := hO4.keep (w' := w5) (fun c hc => b5.block c (hS4.out c hc).2.1)
  have hS5 : ∀ c, S2 c → w.heap.size ≤ c ∧ c < w5.heap.size ∧ c ≠ B2 ∧ c ≠ w.heap.size := fun c hc => by have := hS4.out c hc; have := b5.size; omega
  replace hS5 := Lib.hid hS5
  have r1 := (b5.cell (p := ⟨bw, ow + a, none⟩) (cell_lt r1)).trans r1
  have r2 := (b5.cell (p := ⟨bx, ox + b, none⟩) (cell_lt r2)).trans r2
  have hu5 := hu2.below b5
  have b6 := below_trans b4 b5
  clear hB4 hR4 hW4 hO4 hS4 hu1 hu2 b4 b5
  have hmL := hu5.open.2
  obtain ⟨_, _, e1, _, hmc⟩ := hmL
  cases e1
  obtain ⟨_, _, e1, hmd⟩ := hmc (by simp)
  cases e1
  have hm0 := hmd 0 (by simp)
  simp only [Nat.zero_mul, Nat.add_zero, List.getD_cons_zero] at hm0
  obtain ⟨m0, m1, m2, m3, m4⟩ := hm0
  clear hmc hmd
  obtain ⟨_, x0, x1, x2⟩ := id hB5
  obtain ⟨_, y0, y1, y2⟩ := id hR5
  go_upto_region 6 with fail
  go_upto_region 7 with fail
  have hMB := MBox.new w5 m
  have bq := below_a1 w5 (.cells #[.int .i64 m.src, .int .i64 m.grp, .int .i64 m.stamp, .bool m.null, .string m.body] 48)
  generalize w5.alloc (.cells #[.int .i64 m.src, .int .i64 m.grp, .int .i64 m.stamp, .bool m.null, .string m.body] 48) = wM at *
  obtain ⟨C, hC⟩ : ∃ C, w5.heap.size = C := ⟨_, rfl⟩
  simp only [hC] at hMB ⊢
  have hC5 : ∀ c, S2 c → c ≠ C := fun c hc => by have := hS5.out c hc; omega
  replace hC5 := Lib.hid hC5
  clear hC x0 x1 x2 y0 y1 y2 m0 m1 m2 m3 m4
  have hBM := hB5.keep (bq.block _ hB5.lt)
  have hRM := hR5.keep (bq.block _ hR5.lt)
  have hWM := hW5.below bq
  have hOM := hO5.keep (w' := wM) (fun c hc => bq.block c (hS5.out c hc).2.1)
  have hSM : ∀ c, S2 c → w.heap.size ≤ c ∧ c < wM.heap.size ∧ c ≠ B2 ∧ c ≠ w.heap.size := fun c hc => by have := hS5.out c hc; have := bq.size; omega
  replace hSM := Lib.hid hSM
  have r1 := (bq.cell (p := ⟨bw, ow + a, none⟩) (cell_lt r1)).trans r1
  have r2 := (bq.cell (p := ⟨bx, ox + b, none⟩) (cell_lt r2)).trans r2
  have huM := hu5.below bq
  have bM := below_trans b6 bq
  clear hB5 hR5 hW5 hO5 hS5 hu5 bq b6
  obtain ⟨_, _, _, e1, _, hnY, _⟩ := id hWM
  cases e1
  obtain ⟨b0, o0, c0, lv, hv, tv, e1, hc1, k0, k1, k2, k3, hk64, hrr, hh, htt⟩ := hn.at hb
  cases e1
  obtain ⟨_, la, lcap, rfl, _⟩ := hrr.form
  obtain ⟨_, ha', hcap, rfl, _⟩ := hh.open
  obtain ⟨_, ta, tcap, rfl, _⟩ := htt.open
  have k0 := (bM.cell (p := ⟨b0, o0 + b * 4, none⟩) (cell_lt k0)).trans k0
  have k1 := (bM.cell (p := ⟨b0, o0 + b * 4 + 1, none⟩) (cell_lt k1)).trans k1
  have k2 := (bM.cell (p := ⟨b0, o0 + b * 4 + 2, none⟩) (cell_lt k2)).trans k2
  have k3 := (bM.cell (p := ⟨b0, o0 + b * 4 + 3, none⟩) (cell_lt k3)).trans k3
  obtain ⟨d0, p0, f0, lv, hv, tv, e1, hf1, j0, j1, j2, j3, hj64, hrr2, hh2, htt2⟩ := hnY.at (n := b) (by rw [hYl]; exact hb)
  rw [hYl] at e1
  cases e1
  obtain ⟨_, lb, lbcap, rfl, _⟩ := hrr2.form
  obtain ⟨_, hb', hbcap, rfl, _⟩ := hh2.open
  obtain ⟨_, tb, tbcap, rfl, _⟩ := htt2.open
  clear hrr2 hh2 htt2 hnY
  have hmx := hRt.node b hb
  have hmy := hMv.right.node b (by rw [hYl]; exact hb)
  have hq1 := hmx.held.many
  have hq2 := hmx.told.many
  have hq3 := hmy.held.many
  have hq4 := hmy.told.many
  have hct := hMv.count
  have hck := hMv.clock
  clear hmx hmy
  have hback := hMv.back hRt ha hb
  obtain ⟨x, HX⟩ : ∃ x, X.nodes.getD b N.zero = x := ⟨_, rfl⟩
  obtain ⟨y, HY⟩ : ∃ y, Y.nodes.getD b N.zero = y := ⟨_, rfl⟩
  simp only [HX, HY] at *
  clear HX HY
  replace hct := Lib.hid hct
  replace hck := Lib.hid hck
  replace hback := Lib.hid hback
  have hBl := hBM.lt
  have hRl := hRM.lt
  have hl0 := cell_lt k0
  have hl1 := cell_lt j0
  dsimp only at hl0 hl1
  obtain ⟨_, x0, x1, x2⟩ := id hBM
  obtain ⟨_, y0, y1, y2⟩ := id hRM
  have hSB : ∀ W, Below wM.heap.size wM W → W.cell? ⟨w.heap.size, 1, none⟩ = some (.slice (some ⟨b0, o0, none⟩) X.nodes.length ncap) ∧ W.cell? ⟨B2, 1, none⟩ = some (.slice (some ⟨d0, p0, none⟩) X.nodes.length ncap2) ∧
      W.cell? ⟨b0, o0 + b * 4, none⟩ = some (.int .i64 x.clock) ∧ W.cell? ⟨b0, o0 + b * 4 + 1, none⟩ = some (.slice la x.last.length lcap) ∧ W.cell? ⟨b0, o0 + b * 4 + 2, none⟩ = some (.slice ha' x.held.length hcap) ∧ W.cell? ⟨b0, o0 + b * 4 + 3, none⟩ = some (.slice ta x.told.length tcap) ∧
      W.cell? ⟨d0, p0 + b * 4, none⟩ = some (.int .i64 y.clock) ∧ W.cell? ⟨d0, p0 + b * 4 + 1, none⟩ = some (.slice lb y.last.length lbcap) ∧ W.cell? ⟨d0, p0 + b * 4 + 2, none⟩ = some (.slice hb' y.held.length hbcap) ∧ W.cell? ⟨d0, p0 + b * 4 + 3, none⟩ = some (.slice tb y.told.length tbcap) :=
    fun W h => ⟨(h.cell (p := ⟨w.heap.size, 1, none⟩) hBl).trans x1, (h.cell (p := ⟨B2, 1, none⟩) hRl).trans y1, (h.cell (p := ⟨b0, o0 + b * 4, none⟩) hl0).trans k0, (h.cell (p := ⟨b0, o0 + b * 4 + 1, none⟩) hl0).trans k1, (h.cell (p := ⟨b0, o0 + b * 4 + 2, none⟩) hl0).trans k2, (h.cell (p := ⟨b0, o0 + b * 4 + 3, none⟩) hl0).trans k3,
      (h.cell (p := ⟨d0, p0 + b * 4, none⟩) hl1).trans j0, (h.cell (p := ⟨d0, p0 + b * 4 + 1, none⟩) hl1).trans j1, (h.cell (p := ⟨d0, p0 + b * 4 + 2, none⟩) hl1).trans j2, (h.cell (p := ⟨d0, p0 + b * 4 + 3, none⟩) hl1).trans j3⟩
  clear x0 x1 x2 y0 y1 y2 k0 k1 k2 k3 j0 j1 j2 j3
  go_cut [10, 11] from 88 to 97 (fun p q wx => ∃ B8 B9 : Nat, p = .pointer (some ⟨B8, 0, none⟩) ∧ q = .pointer (some ⟨B9, 0, none⟩) ∧ NBox wx B8 x (.slice la x.last.length lcap) (.slice ha' x.held.length hcap) (.slice ta x.told.length tcap) ∧ NBox wx B9 y (.slice lb y.last.length lbcap) (.slice hb' y.held.length hbcap) (.slice tb y.told.length tbcap) ∧ Below wM.heap.size wM wx)
  case first =>
    refine wp_region_N (fun W => W.cell? ⟨w.heap.size, 1, none⟩ = some (.slice (some ⟨b0, o0, none⟩) X.nodes.length ncap) ∧ W.cell? ⟨B2, 1, none⟩ = some (.slice (some ⟨d0, p0, none⟩) X.nodes.length ncap2) ∧
      W.cell? ⟨b0, o0 + b * 4, none⟩ = some (.int .i64 x.clock) ∧ W.cell? ⟨b0, o0 + b * 4 + 1, none⟩ = some (.slice la x.last.length lcap) ∧ W.cell? ⟨b0, o0 + b * 4 + 2, none⟩ = some (.slice ha' x.held.length hcap) ∧ W.cell? ⟨b0, o0 + b * 4 + 3, none⟩ = some (.slice ta x.told.length tcap) ∧
      W.cell? ⟨d0, p0 + b * 4, none⟩ = some (.int .i64 y.clock) ∧ W.cell? ⟨d0, p0 + b * 4 + 1, none⟩ = some (.slice lb y.last.length lbcap) ∧ W.cell? ⟨d0, p0 + b * 4 + 2, none⟩ = some (.slice hb' y.held.length hbcap) ∧ W.cell? ⟨d0, p0 + b * 4 + 3, none⟩ = some (.slice tb y.told.length tbcap)) 13 14 rfl (by kernel_rfl) (hSB _ (below_drewN wM 1)) (fun hSw => ?_)
    refine N_take' (i := 0) (v := ?_) rfl rfl (by kernel_rfl) (fun _ _ _ h => h) (Or.inl ⟨by rfl, ?_⟩) hSw ?_
    rotate_left
    · intro w hSw
      obtain ⟨s0, s1, s2, s3, s4, s5, s6, s7, s8, s9⟩ := hSw
      go_simp
      try with_reducible rfl
    simp only [Act.put, List.setIfInBounds_toArray, List.set_cons_zero, List.set_cons_succ]
    refine N_take' (i := 1) (v := ?_) rfl rfl (by kernel_rfl) (fun _ _ _ h => h) (Or.inl ⟨by rfl, ?_⟩) hSw ?_
    rotate_left
    · intro w hSw
      obtain ⟨s0, s1, s2, s3, s4, s5, s6, s7, s8, s9⟩ := hSw
      go_simp
      try with_reducible rfl
    simp only [Act.put, List.setIfInBounds_toArray, List.set_cons_zero, List.set_cons_succ]
    refine N_take' (i := 2) (v := ?_) rfl rfl (by kernel_rfl) (fun _ _ _ h => h) (Or.inl ⟨by rfl, ?_⟩) hSw ?_
    rotate_left
    · intro w hSw
      obtain ⟨s0, s1, s2, s3, s4, s5, s6, s7, s8, s9⟩ := hSw
      go_simp
      try with_reducible rfl
    simp only [Act.put, List.setIfInBounds_toArray, List.set_cons_zero, List.set_cons_succ]
    refine N_take' (i := 3) (v := ?_) rfl rfl (by kernel_rfl) (fun _ _ _ h => h) (Or.inl ⟨by rfl, ?_⟩) hSw ?_
    rotate_left
    · intro w hSw
      obtain ⟨s0, s1, s2, s3, s4, s5, s6, s7, s8, s9⟩ := hSw
      go_simp
      try with_reducible rfl
    simp only [Act.put, List.setIfInBounds_toArray, List.set_cons_zero, List.set_cons_succ]
    refine N_take' (i := 4) (v := ?_) rfl rfl (by kernel_rfl) (fun _ _ _ h => h) (Or.inl ⟨by rfl, ?_⟩) hSw ?_
    rotate_left
    · intro w hSw
      obtain ⟨s0, s1, s2, s3, s4, s5, s6, s7, s8, s9⟩ := hSw
      go_simp
      try with_reducible rfl
    simp only [Act.put, List.setIfInBounds_toArray, List.set_cons_zero, List.set_cons_succ]
    refine N_take' (i := 5) (v := ?_) rfl rfl (by kernel_rfl) (fun _ _ _ h => h) (Or.inl ⟨by rfl, ?_⟩) hSw ?_
    rotate_left
    · intro w hSw
      obtain ⟨s0, s1, s2, s3, s4, s5, s6, s7, s8, s9⟩ := hSw
      go_simp
      try with_reducible rfl
    simp only [Act.put, List.setIfInBounds_toArray, List.set_cons_zero, List.set_cons_succ]
    refine N_take' (i := 6) (v := ?_) rfl rfl (by kernel_rfl) (fun _ _ _ h => h) (Or.inl ⟨by rfl, ?_⟩) hSw ?_
    rotate_left
    · intro w hSw
      obtain ⟨s0, s1, s2, s3, s4, s5, s6, s7, s8, s9⟩ := hSw
      go_simp
      try with_reducible rfl
    simp only [Act.put, List.setIfInBounds_toArray, List.set_cons_zero, List.set_cons_succ]
    refine N_take' (i := 7) (v := ?_) rfl rfl (by kernel_rfl) (fun _ _ _ h => h) (Or.inl ⟨by rfl, ?_⟩) hSw ?_
    rotate_left
    · intro w hSw
      obtain ⟨s0, s1, s2, s3, s4, s5, s6, s7, s8, s9⟩ := hSw
      go_simp
      try with_reducible rfl
    simp only [Act.put, List.setIfInBounds_toArray, List.set_cons_zero, List.set_cons_succ]
    refine N_take' (i := 8) (v := ?_) rfl rfl (by kernel_rfl) (fun _ _ _ h => h) (Or.inl ⟨by rfl, ?_⟩) hSw ?_
    rotate_left
    · intro w hSw
      obtain ⟨s0, s1, s2, s3, s4, s5, s6, s7, s8, s9⟩ := hSw
      go_simp
      try with_reducible rfl
    simp only [Act.put, List.setIfInBounds_toArray, List.set_cons_zero, List.set_cons_succ]
    refine N_take' (i := 9) (v := ?_) rfl rfl (by kernel_rfl) (fun _ _ _ h => h) (Or.inl ⟨by rfl, ?_⟩) hSw ?_
    rotate_left
    · intro w hSw
      obtain ⟨s0, s1, s2, s3, s4, s5, s6, s7, s8, s9⟩ := hSw
      go_simp
      try with_reducible rfl
    simp only [Act.put, List.setIfInBounds_toArray, List.set_cons_zero, List.set_cons_succ]
    have hz := below_drewN wM 1
    refine N_two' (i := 10) (j := 11) (by kernel_rfl) rfl rfl ?_ ?_
    · skip
      go_wp2_with fail
      refine QK_normal ⟨?_, ?_⟩
      · exact fun _ => hSB _ (below_trans hz (below_a1 _ _))
      refine N_one' (i := 11) (by kernel_rfl) rfl ?_
      go_wp2_with fail
      refine QK_normal ⟨?_, ?_⟩
      · exact fun _ => hSB _ (below_trans hz (below_a2 _ _ _))
      refine N_one' (i := 12) (by kernel_rfl) rfl ?_
      go_wp2_with fail
      refine QK_normal ⟨?_, ?_⟩
      · exact fun _ => hSB _ (below_trans hz (below_a2 _ _ _))
      refine N_rest 13 1 (Nat.le_refl _) rfl (by kernel_rfl) ?_
      simp only [List.drop_succ_cons, List.drop_zero]
      go_wp2_with fail
      go_meet
      case rel => exact ⟨_, _, rfl, rfl, by unfold NBox; refine ⟨?_, ?_, ?_, ?_⟩ <;> simp, by unfold NBox; refine ⟨?_, ?_, ?_, ?_⟩ <;> simp, below_trans hz (below_a2 _ _ _)⟩
    · skip
      go_wp2_with fail
      refine QK_normal ⟨?_, ?_⟩
      · exact fun _ => hSB _ (below_trans hz (below_a1 _ _))
      refine N_one' (i := 10) (by kernel_rfl) rfl ?_
      go_wp2_with fail
      refine QK_normal ⟨?_, ?_⟩
      · exact fun _ => hSB _ (below_trans hz (below_a2 _ _ _))
      refine N_one' (i := 12) (by kernel_rfl) rfl ?_
      go_wp2_with fail
      refine QK_normal ⟨?_, ?_⟩
      · exact fun _ => hSB _ (below_trans hz (below_a2 _ _ _))
      refine N_rest 13 1 (Nat.le_refl _) rfl (by kernel_rfl) ?_
      simp only [List.drop_succ_cons, List.drop_zero]
      go_wp2_with fail
      go_meet
      case rel => exact ⟨_, _, rfl, rfl, by unfold NBox; refine ⟨?_, ?_, ?_, ?_⟩ <;> simp, by unfold NBox; refine ⟨?_, ?_, ?_, ?_⟩ <;> simp, below_trans hz (below_a2 _ _ _)⟩
  case rest =>
    obtain ⟨B8, B9, rfl, rfl, hN8, hN9, b7⟩ := hcut
    clear hSB hl0 hl1 hBl hRl
    have hBc := hBM.keep (b7.block _ hBM.lt)
    have hRc := hRM.keep (b7.block _ hRM.lt)
    have hMBc := hMB.keep (b7.block _ hMB.lt)
    have hWc := hWM.below b7
    have huC := huM.below b7
    have r1 := (b7.cell (p := ⟨bw, ow + a, none⟩) (cell_lt r1)).trans r1
    have r2 := (b7.cell (p := ⟨bx, ox + b, none⟩) (cell_lt r2)).trans r2
    have hOc := hOM.keep (w' := wc) (fun c hc => b7.block c (hSM.out c hc).2.1)
    have hSc : ∀ c, S2 c → w.heap.size ≤ c ∧ c < wc.heap.size ∧ c ≠ B2 ∧ c ≠ w.heap.size := fun c hc => by
      have := hSM.out c hc; have := b7.size; omega
    replace hSc := Lib.hid hSc
    have bc := below_trans bM b7
    obtain ⟨_, _, _, e1, _, _, hwY⟩ := id hWc
    cases e1
    have hYwl : wireL Y a b = l := by
      show (Y.wires.getD a []).getD b [] = l
      rw [hMv.wires, getD_set_eq _ _ _ (by rw [hXw]; exact ha), getD_set_eq _ _ _ (by rw [hRt.row a ha]; exact hb), hml]
      rfl
    have hYrow : (Y.wires.getD a []).length = X.nodes.length := by rw [hMv.right.row a (by rw [hYl]; exact ha), hYl]
    obtain ⟨bw2, ow2, cw2, u3, e1, _, t1, hu3⟩ := hwY.row (a := a) (by rw [hYw]; exact ha)
    rw [hYw] at e1
    cases e1
    obtain ⟨bx2, ox2, cx2, u4, rfl, _, t2, hl2⟩ := hu3.at (a := b) (by rw [hYrow]; exact hb)
    rw [hYrow] at t1
    change Msgs wc u4 (wireL Y a b) at hl2
    rw [hYwl] at hl2
    obtain ⟨_, ua2, cu2, rfl, _⟩ := hl2.open
    clear hwY hu3
    obtain ⟨_, x0, x1, x2⟩ := id hBc
    obtain ⟨_, y0, y1, y2⟩ := id hRc
    have hSC : ∀ W, Below wc.heap.size wc W → W.cell? ⟨B2, 2, none⟩ = some (.slice (some ⟨bw2, ow2, none⟩) X.nodes.length wcap2) ∧ W.cell? ⟨bw2, ow2 + a, none⟩ = some (.slice (some ⟨bx2, ox2, none⟩) X.nodes.length cx2) ∧ W.cell? ⟨bx2, ox2 + b, none⟩ = some (.slice ua2 l.length cu2) ∧
      W.cell? ⟨w.heap.size, 2, none⟩ = some (.slice (some ⟨bw, ow, none⟩) X.nodes.length wcap) ∧ W.cell? ⟨bw, ow + a, none⟩ = some (.slice (some ⟨bx, ox, none⟩) X.nodes.length cx) ∧ W.cell? ⟨bx, ox + b, none⟩ = some (.slice (some ⟨bm, om, none⟩) (l.length + 1) cu) :=
      fun W h => ⟨(h.cell (p := ⟨B2, 2, none⟩) (cell_lt y2)).trans y2, (h.cell (p := ⟨bw2, ow2 + a, none⟩) (cell_lt t1)).trans t1, (h.cell (p := ⟨bx2, ox2 + b, none⟩) (cell_lt t2)).trans t2, (h.cell (p := ⟨w.heap.size, 2, none⟩) (cell_lt x2)).trans x2, (h.cell (p := ⟨bw, ow + a, none⟩) (cell_lt r1)).trans r1, (h.cell (p := ⟨bx, ox + b, none⟩) (cell_lt r2)).trans r2⟩
    have hml1 : (1 : Int) ≤ (l.length : Int) + 1 := by omega
    obtain ⟨ta', hta⟩ : ∃ ta, tailA bm om cu = ta := ⟨_, rfl⟩
    have hta2 : (if cu = 1 then some ⟨bm, om, none⟩ else some ⟨bm, om + 5, none⟩) = ta' := hta
    clear hBM hRM hMB hWM huM hOM hSM hC5 bM b7 x0 x1 x2 y0 y1 y2
    cases hnull : m.null
    · skip
      have q1 : IntKind.i64.wrap ((y.held.length : Int) + (y.told.length : Int)) = (y.held.length : Int) + (y.told.length : Int) := IntWalk.i64_in _ (by omega)
      have q2 : IntKind.i64.wrap ((x.held.length : Int) + (x.told.length : Int)) = (x.held.length : Int) + (x.told.length : Int) := IntWalk.i64_in _ (by omega)
      have q3 : IntKind.i64.wrap ((x.held.length : Int) + (x.told.length : Int) + 1) = (x.held.length : Int) + (x.told.length : Int) + 1 := IntWalk.i64_in _ (by omega)
      have q4 : ((y.held.length : Int) + (y.told.length : Int) != (x.held.length : Int) + (x.told.length : Int) + 1) = false := by
        have := hct.out
        rw [hnull] at this
        simp at this ⊢
        omega
      have q5 : decide (y.clock < x.clock) = false := by have := hck.out; simp; omega
      have q6 : decide (y.clock < m.stamp) = false := by have := hck.out; simp; omega
      replace hnull := Lib.hid hnull
      clear hq1 hq2 hq3 hq4
      obtain ⟨_, mm0, mm1, mm2, mm3, mm4⟩ := id hMBc
      rw [hnull.out] at mm3
      go_upto_region 11 with fail
      clear mm0 mm1 mm2 mm3 mm4
      refine wp_region_N (fun W => W.cell? ⟨B2, 2, none⟩ = some (.slice (some ⟨bw2, ow2, none⟩) X.nodes.length wcap2) ∧ W.cell? ⟨bw2, ow2 + a, none⟩ = some (.slice (some ⟨bx2, ox2, none⟩) X.nodes.length cx2) ∧ W.cell? ⟨bx2, ox2 + b, none⟩ = some (.slice ua2 l.length cu2) ∧
        W.cell? ⟨w.heap.size, 2, none⟩ = some (.slice (some ⟨bw, ow, none⟩) X.nodes.length wcap) ∧ W.cell? ⟨bw, ow + a, none⟩ = some (.slice (some ⟨bx, ox, none⟩) X.nodes.length cx) ∧ W.cell? ⟨bx, ox + b, none⟩ = some (.slice (some ⟨bm, om, none⟩) (l.length + 1) cu)) 50 52 rfl (by kernel_rfl) (hSC _ (below_drewN wc 1)) (fun hSw => ?_)
      refine N_take' (i := 0) (v := ?_) rfl rfl (by kernel_rfl) (fun _ _ _ h => h) (Or.inl ⟨by rfl, ?_⟩) hSw ?_
      rotate_left
      · intro w hSw
        obtain ⟨s0, s1, s2, s3, s4, s5⟩ := hSw
        go_simp
        try with_reducible rfl
      simp only [Act.put, List.setIfInBounds_toArray, List.set_cons_zero, List.set_cons_succ]
      refine N_take' (i := 1) (v := ?_) rfl rfl (by kernel_rfl) (fun _ _ _ h => h) (Or.inl ⟨by rfl, ?_⟩) hSw ?_
      rotate_left
      · intro w hSw
        obtain ⟨s0, s1, s2, s3, s4, s5⟩ := hSw
        go_simp
        try with_reducible rfl
      simp only [Act.put, List.setIfInBounds_toArray, List.set_cons_zero, List.set_cons_succ]
      refine N_take' (i := 2) (v := ?_) rfl rfl (by kernel_rfl) (fun _ _ _ h => h) (Or.inl ⟨by rfl, ?_⟩) hSw ?_
      rotate_left
      · intro w hSw
        obtain ⟨s0, s1, s2, s3, s4, s5⟩ := hSw
        go_simp
        try with_reducible rfl
      simp only [Act.put, List.setIfInBounds_toArray, List.set_cons_zero, List.set_cons_succ]
      refine N_take' (i := 3) (v := ?_) rfl rfl (by kernel_rfl) (fun _ _ _ h => h) (Or.inl ⟨by rfl, ?_⟩) hSw ?_
      rotate_left
      · intro w hSw
        obtain ⟨s0, s1, s2, s3, s4, s5⟩ := hSw
        go_simp
        try with_reducible rfl
      simp only [Act.put, List.setIfInBounds_toArray, List.set_cons_zero, List.set_cons_succ]
      refine N_take' (i := 4) (v := ?_) rfl rfl (by kernel_rfl) (fun _ _ _ h => h) (Or.inl ⟨by rfl, ?_⟩) hSw ?_
      rotate_left
      · intro w hSw
        obtain ⟨s0, s1, s2, s3, s4, s5⟩ := hSw
        go_simp
        try with_reducible rfl
      simp only [Act.put, List.setIfInBounds_toArray, List.set_cons_zero, List.set_cons_succ]
      refine N_take' (i := 5) (v := ?_) rfl rfl (by kernel_rfl) (fun _ _ _ h => h) (Or.inl ⟨by rfl, ?_⟩) hSw ?_
      rotate_left
      · intro w hSw
        obtain ⟨s0, s1, s2, s3, s4, s5⟩ := hSw
        go_simp
        try with_reducible rfl
      simp only [Act.put, List.setIfInBounds_toArray, List.set_cons_zero, List.set_cons_succ]
      refine N_take' (i := 6) (v := ?_) rfl rfl (by kernel_rfl) (fun _ _ _ h => h) (Or.inl ⟨by rfl, ?_⟩) hSw ?_
      rotate_left
      · intro w hSw
        obtain ⟨s0, s1, s2, s3, s4, s5⟩ := hSw
        go_simp
        try with_reducible rfl
      simp only [Act.put, List.setIfInBounds_toArray, List.set_cons_zero, List.set_cons_succ]
      refine N_take' (i := 7) (v := ?_) rfl rfl (by kernel_rfl) (fun _ _ _ h => h) (Or.inl ⟨by rfl, ?_⟩) hSw ?_
      rotate_left
      · intro w hSw
        obtain ⟨s0, s1, s2, s3, s4, s5⟩ := hSw
        go_simp
        try with_reducible rfl
      simp only [Act.put, List.setIfInBounds_toArray, List.set_cons_zero, List.set_cons_succ]
      refine N_take' (i := 8) (v := ?_) rfl rfl (by kernel_rfl) (fun _ _ _ h => h) (Or.inl ⟨by rfl, ?_⟩) hSw ?_
      rotate_left
      · intro w hSw
        obtain ⟨s0, s1, s2, s3, s4, s5⟩ := hSw
        go_simp
        try with_reducible rfl
      simp only [Act.put, List.setIfInBounds_toArray, List.set_cons_zero, List.set_cons_succ]
      refine N_take' (i := 9) (v := ?_) rfl rfl (by kernel_rfl) (fun _ _ _ h => h) (Or.inl ⟨by rfl, ?_⟩) hSw ?_
      rotate_left
      · intro w hSw
        obtain ⟨s0, s1, s2, s3, s4, s5⟩ := hSw
        go_simp
        try with_reducible rfl
      simp only [Act.put, List.setIfInBounds_toArray, List.set_cons_zero, List.set_cons_succ]
      refine N_take' (i := 10) (v := ?_) rfl rfl (by kernel_rfl) (fun _ _ _ h => h) (Or.inl ⟨by rfl, ?_⟩) hSw ?_
      rotate_left
      · intro w hSw
        obtain ⟨s0, s1, s2, s3, s4, s5⟩ := hSw
        go_simp
        try with_reducible rfl
      simp only [Act.put, List.setIfInBounds_toArray, List.set_cons_zero, List.set_cons_succ]
      refine N_take' (i := 11) (v := ?_) rfl rfl (by kernel_rfl) (fun _ _ _ h => h) (Or.inl ⟨by rfl, ?_⟩) hSw ?_
      rotate_left
      · intro w hSw
        obtain ⟨s0, s1, s2, s3, s4, s5⟩ := hSw
        go_simp
        try with_reducible rfl
      simp only [Act.put, List.setIfInBounds_toArray, List.set_cons_zero, List.set_cons_succ]
      refine N_take' (i := 12) (v := ?_) rfl rfl (by kernel_rfl) (fun _ _ _ h => h) (Or.inl ⟨by rfl, ?_⟩) hSw ?_
      rotate_left
      · intro w hSw
        obtain ⟨s0, s1, s2, s3, s4, s5⟩ := hSw
        go_simp
        try with_reducible rfl
      simp only [Act.put, List.setIfInBounds_toArray, List.set_cons_zero, List.set_cons_succ]
      refine N_take' (i := 13) (v := ?_) rfl rfl (by kernel_rfl) (fun _ _ _ h => h) (Or.inl ⟨by rfl, ?_⟩) hSw ?_
      rotate_left
      · intro w hSw
        obtain ⟨s0, s1, s2, s3, s4, s5⟩ := hSw
        go_simp
        try with_reducible rfl
      simp only [Act.put, List.setIfInBounds_toArray, List.set_cons_zero, List.set_cons_succ]
      refine N_take' (i := 14) (v := ?_) rfl rfl (by kernel_rfl) (fun _ _ _ h => h) (Or.inl ⟨by rfl, ?_⟩) hSw ?_
      rotate_left
      · intro w hSw
        obtain ⟨s0, s1, s2, s3, s4, s5⟩ := hSw
        go_simp
        try with_reducible rfl
      simp only [Act.put, List.setIfInBounds_toArray, List.set_cons_zero, List.set_cons_succ]
      refine N_take' (i := 15) (v := ?_) rfl rfl (by kernel_rfl) (fun _ _ _ h => h) (Or.inl ⟨by rfl, ?_⟩) hSw ?_
      rotate_left
      · intro w hSw
        obtain ⟨s0, s1, s2, s3, s4, s5⟩ := hSw
        go_simp
        try with_reducible rfl
      simp only [Act.put, List.setIfInBounds_toArray, List.set_cons_zero, List.set_cons_succ]
      refine N_take' (i := 16) (v := ?_) rfl rfl (by kernel_rfl) (fun _ _ _ h => h) (Or.inl ⟨by rfl, ?_⟩) hSw ?_
      rotate_left
      · intro w hSw
        obtain ⟨s0, s1, s2, s3, s4, s5⟩ := hSw
        go_simp
        try with_reducible rfl
      simp only [Act.put, List.setIfInBounds_toArray, List.set_cons_zero, List.set_cons_succ]
      have hz := below_drewN wc 1
      have hS9 := SameMsgs_c (hl2.below hz) (huC.tail.below hz)
      unfold tailV at hS9
      rw [hta, sameMs_self] at hS9
      refine N_one' (i := 17) (by kernel_rfl) rfl ?_
      go_wp2_with fail
      refine hS9.mono ?_
      rintro e w9 ⟨rfl, d9⟩
      have b9 := below_trans hz d9.below
      go_wp2_with fail
      refine QK_normal ⟨?_, ?_⟩
      · first | exact fun _ => hSC _ b9 | exact hSC _ b9
      have hN8z := hN8.below b9 (cell_lt hN8.1)
      have hN9z := hN9.below b9 (cell_lt hN9.1)
      have hMBz := hMBc.keep (b9.block _ hMBc.lt)
      obtain ⟨z0, z1, z2, z3⟩ := id hN9z
      obtain ⟨v0, v1, v2, v3⟩ := id hN8z
      obtain ⟨_, mm0, mm1, mm2, mm3, mm4⟩ := id hMBz
      refine N_quietS 18 34 rfl (by kernel_rfl) (by kernel_rfl) (fun j => hSC _ (below_trans b9 (below_drewN w9 j))) ?_
      simp only [List.drop_succ_cons, List.drop_zero]
      repeat (go_big_quiet_step (fail))
      refine wpQuiet_nil ?_
      intro _ hw'
      obtain ⟨nq, hw''⟩ := hw'
      subst hw''
      go_upto_region 13 with fail
      have bE := below_trans b9 (below_drewN w9 nq)
      have hE1 := hSC _ bE
      clear z0 z1 z2 z3 mm0 mm1 mm2 mm3 mm4 v0 v1 v2 v3 hSw hSC hS9 hz d9 b9 q1 q2 q3 q4 q5 q6 hN9z hMBz t1 t2 r1 r2
      have hN8z := hN8z.below (below_drewN w9 nq) (cell_lt hN8z.1)
      generalize w9.drewN nq = wE at *
      obtain ⟨s0, s1, s2, s3, s4, s5⟩ := hE1
      have hBE := hBc.keep (bE.block _ hBc.lt)
      have hRE := hRc.keep (bE.block _ hRc.lt)
      have huE := huC.below bE
      have hOE := hOc.keep (w' := wE) (fun c hc => bE.block c (hSc.out c hc).2.1)
      have hSE : ∀ c, S2 c → w.heap.size ≤ c ∧ c < wE.heap.size ∧ c ≠ B2 ∧ c ≠ w.heap.size := fun c hc => by
        have := hSc.out c hc; have := bE.size; omega
      replace hSE := Lib.hid hSE
      have bF := below_trans bc bE
      clear hN8 hN9 hBc hRc hMBc hWc huC hOc hSc bE bc hl2
      obtain ⟨g, cap', g1, cap1', g2, cap2', e1, hcA, hgS, hgB, e2, _, _, k1, hcC, hg2S, hg2B, hn1, hn2, hn3, hput⟩ := hOE.put_back (n := b) (a := a) (k := b) (by rw [hYl]; exact hb) (by rw [hYw]; exact ha) (by rw [hYrow]; exact hb)
      rw [hYl] at e1 hcA
      cases e1
      rw [hYw] at e2
      cases e2
      rw [hYrow] at k1 hcC
      simp only [Nat.zero_add] at s1
      rw [k1] at s1
      cases s1
      obtain ⟨gA, capA, lvA, hvA, tvA, _, _, _, eA, _, _, _, _, cA0, cA1, cA2, cA3, _⟩ := hOE.node_at (n := b) (by rw [hYl]; exact hb)
      rw [hYl] at eA
      cases eA
      replace hput := Lib.hid hput
      obtain ⟨v0, v1, v2, v3⟩ := id hN8z
      obtain ⟨_, y0, y1, y2⟩ := id hRE
      have hf0 := hgB.frozen (b * 4)
      have hf1 := hgB.frozen (b * 4 + 1)
      have hf2 := hgB.frozen (b * 4 + 2)
      have hf3 := hgB.frozen (b * 4 + 3)
      go_upto_region 14 with fail
      have hd := hSE.out d0 hgS
      have hd2 := hSE.out bx2 hg2S
      have hSetF := ((((BlkSet.same (w := wE) (w' := wE) (p := b * 4) (cs := [.int .i64 (Y.nodes.getD b N.zero).clock, lvA, hvA, tvA]) rfl (fun j hj => by
        match j, hj with
        | 0, _ => exact cA0
        | 1, _ => exact cA1
        | 2, _ => exact cA2
        | 3, _ => exact cA3)).set hgB 0 (by simp) (by simp; omega) (.int .i64 x.clock)).set hgB 1 (by simp) (by simp; omega) (.slice la x.last.length lcap)).set hgB 2 (by simp) (by simp; omega) (.slice ha' x.held.length hcap)).set hgB 3 (by simp) (by simp; omega) (.slice ta x.told.length tcap)
      simp only [List.set_cons_zero, List.set_cons_succ, Nat.add_zero] at hSetF
      have kF : ∀ c, c ≠ d0 → ((((wE.setCell ⟨d0, b * 4, none⟩ (.int .i64 x.clock)).setCell ⟨d0, b * 4 + 1, none⟩ (.slice la x.last.length lcap)).setCell ⟨d0, b * 4 + 2, none⟩ (.slice ha' x.held.length hcap)).setCell ⟨d0, b * 4 + 3, none⟩ (.slice ta x.told.length tcap)).heap[c]? = wE.heap[c]? := fun c hc => by
        rw [Go.Deep.blk_setCell_other _ _ _ _ hc, Go.Deep.blk_setCell_other _ _ _ _ hc, Go.Deep.blk_setCell_other _ _ _ _ hc, Go.Deep.blk_setCell_other _ _ _ _ hc]
      have bG : Below w.heap.size w ((((wE.setCell ⟨d0, b * 4, none⟩ (.int .i64 x.clock)).setCell ⟨d0, b * 4 + 1, none⟩ (.slice la x.last.length lcap)).setCell ⟨d0, b * 4 + 2, none⟩ (.slice ha' x.held.length hcap)).setCell ⟨d0, b * 4 + 3, none⟩ (.slice ta x.told.length tcap)) :=
        below_setCell (below_setCell (below_setCell (below_setCell bF hd.1 _) hd.1 _) hd.1 _) hd.1 _
      generalize (((wE.setCell ⟨d0, b * 4, none⟩ (.int .i64 x.clock)).setCell ⟨d0, b * 4 + 1, none⟩ (.slice la x.last.length lcap)).setCell ⟨d0, b * 4 + 2, none⟩ (.slice ha' x.held.length hcap)).setCell ⟨d0, b * 4 + 3, none⟩ (.slice ta x.told.length tcap) = wF at *
      have hBF := hBE.keep (kF _ (Ne.symm hd.2.2.2))
      have hRF := hRE.keep (kF _ (Ne.symm hd.2.2.1))
      have k1F := (World.cell?_of_block (w := wE) (w' := wF) (a := ⟨bw2, a, none⟩) (kF _ (Ne.symm hn1))).trans k1
      have s2F := (World.cell?_of_block (w := wE) (w' := wF) (a := ⟨bx2, 0 + b, none⟩) (kF _ (Ne.symm hn2))).trans s2
      have hg2F := hg2B.same (kF _ (Ne.symm hn2))
      have hf2 := hg2F.frozen b
      have hS2F : BlkSet wE wF bx2 b [.slice ua2 l.length cu2] := BlkSet.same (kF _ (Ne.symm hn2)) (fun j hj => by
        obtain rfl : j = 0 := by simpa using hj
        simpa using s2)
      replace hS2F := Lib.hid hS2F
      replace hSetF := Lib.hid hSetF
      clear v0 v1 v2 v3 y0 y1 y2 hf0 hf1 hf3 cA0 cA1 cA2 cA3 s0 s2 s3 s4 s5 k1 hN8z hBE hRE huE hgB
      obtain ⟨bw', ow', cw', u', e3, _, R1, hu'⟩ := hw.row (a := a) (by rw [hXw]; exact ha)
      rw [hXw] at e3
      cases e3
      obtain ⟨bx', ox', cx', u2', rfl, _, R2, hu2'⟩ := hu'.at (a := b) (by rw [hRt.row a ha]; exact hb)
      rw [hRt.row a ha] at R1
      obtain ⟨_, uz, ucz, rfl, _⟩ := hu2'.open
      have R1 := (bG.cell (p := ⟨bw, ow + a, none⟩) (cell_lt R1)).trans R1
      have R2 := (bG.cell (p := ⟨bx', ox' + b, none⟩) (cell_lt R2)).trans R2
      simp only [Nat.zero_add] at s2F
      obtain ⟨_, x0, x1, x2⟩ := id hBF
      obtain ⟨_, y0, y1, y2⟩ := id hRF
      obtain ⟨LL, hLL⟩ : ∃ LL, ((X.wires.getD a []).getD b []).length = LL := ⟨_, rfl⟩
      rw [hLL] at R2 hu2'
      replace hLL := Lib.hid hLL
      go_still_tail 15, (by kernel_rfl)
      go_upto_region 15 with fail
      have hSet2 := (hS2F.out.set hg2B 0 (by simp) (by simp; omega) (.slice uz LL ucz)).far (w2 := (wF.setCell ⟨bx2, b, none⟩ (.slice uz LL ucz)).drew) rfl
      have hSet1 := hSetF.out.far (w2 := (wF.setCell ⟨bx2, b, none⟩ (.slice uz LL ucz)).drew) (Go.Deep.blk_setCell_other wF ⟨bx2, b, none⟩ _ _ hn2)
      have bH : Below w.heap.size w ((wF.setCell ⟨bx2, b, none⟩ (.slice uz LL ucz)).drew) := below_drew (below_setCell bG hd2.1 _)
      have hFin := hput.out ((wF.setCell ⟨bx2, b, none⟩ (.slice uz LL ucz)).drew) _ x (.slice uz LL ucz) ((X.wires.getD a []).getD b []) (fun c hc => (Go.Deep.blk_setCell_other wF ⟨bx2, b, none⟩ _ _ hc.2.2).trans (kF c hc.2.1)) hSet1 rfl ⟨_, _, _, rfl, hk64, hrr.below bH, hh.below bH, htt.below bH⟩ hSet2 (by have := hu2'.below bH; exact this)
      have hbk := hback.out
      unfold wireL at hbk
      rw [hbk] at hFin
      have hBG := hBF.keep (w' := (wF.setCell ⟨bx2, b, none⟩ (.slice uz LL ucz)).drew) (Go.Deep.blk_setCell_other wF ⟨bx2, b, none⟩ _ _ (Ne.symm hd2.2.2.2))
      have hRG := hRF.keep (w' := (wF.setCell ⟨bx2, b, none⟩ (.slice uz LL ucz)).drew) (Go.Deep.blk_setCell_other wF ⟨bx2, b, none⟩ _ _ (Ne.symm hd2.2.2.1))
      clear hput hSet1 hSet2 hS2F hSetF hbk hback x0 x1 x2 y0 y1 y2 R1 R2 hu2' hu' k1F s2F hg2F hf2 kF hBF hRF bG
      generalize (wF.setCell ⟨bx2, b, none⟩ (.slice uz LL ucz)).drew = wG at *
      go_wp2_with fail
      refine (moveBegun_c wG).mono ?_
      rintro e w10 ⟨rfl, b10⟩
      have hBz := hBG.keep (b10.block _ hBG.lt)
      have hRz := hRG.keep (b10.block _ hRG.lt)
      have hSz := SameWorlds_c (hFin.below b10) (hW0.below (below_trans bH b10))
      obtain ⟨_, x0, x1, x2⟩ := id hBz
      obtain ⟨_, y0, y1, y2⟩ := id hRz
      go_wp2_with fail
      refine hSz.mono ?_
      rintro e w11 ⟨rfl, b11⟩
      go_wp2_with fail
      go_ret
      exact ⟨ret_bool (by simp), below_trans (below_trans bH b10) b11⟩
    · skip
      have q1 : IntKind.i64.wrap ((y.held.length : Int) + (y.told.length : Int)) = (y.held.length : Int) + (y.told.length : Int) := IntWalk.i64_in _ (by omega)
      have q2 : IntKind.i64.wrap ((x.held.length : Int) + (x.told.length : Int)) = (x.held.length : Int) + (x.told.length : Int) := IntWalk.i64_in _ (by omega)
      have q3 : IntKind.i64.wrap ((x.held.length : Int) + (x.told.length : Int) + 0) = (x.held.length : Int) + (x.told.length : Int) + 0 := IntWalk.i64_in _ (by omega)
      have q4 : ((y.held.length : Int) + (y.told.length : Int) != (x.held.length : Int) + (x.told.length : Int) + 0) = false := by
        have := hct.out
        rw [hnull] at this
        simp at this ⊢
        omega
      have q5 : decide (y.clock < x.clock) = false := by have := hck.out; simp; omega
      have q6 : decide (y.clock < m.stamp) = false := by have := hck.out; simp; omega
      replace hnull := Lib.hid hnull
      clear hq1 hq2 hq3 hq4
      obtain ⟨_, mm0, mm1, mm2, mm3, mm4⟩ := id hMBc
      rw [hnull.out] at mm3
      go_upto_region 11 with fail
      clear mm0 mm1 mm2 mm3 mm4
      refine wp_region_N (fun W => W.cell? ⟨B2, 2, none⟩ = some (.slice (some ⟨bw2, ow2, none⟩) X.nodes.length wcap2) ∧ W.cell? ⟨bw2, ow2 + a, none⟩ = some (.slice (some ⟨bx2, ox2, none⟩) X.nodes.length cx2) ∧ W.cell? ⟨bx2, ox2 + b, none⟩ = some (.slice ua2 l.length cu2) ∧
        W.cell? ⟨w.heap.size, 2, none⟩ = some (.slice (some ⟨bw, ow, none⟩) X.nodes.length wcap) ∧ W.cell? ⟨bw, ow + a, none⟩ = some (.slice (some ⟨bx, ox, none⟩) X.nodes.length cx) ∧ W.cell? ⟨bx, ox + b, none⟩ = some (.slice (some ⟨bm, om, none⟩) (l.length + 1) cu)) 50 52 rfl (by kernel_rfl) (hSC _ (below_drewN wc 1)) (fun hSw => ?_)
      refine N_take' (i := 0) (v := ?_) rfl rfl (by kernel_rfl) (fun _ _ _ h => h) (Or.inl ⟨by rfl, ?_⟩) hSw ?_
      rotate_left
      · intro w hSw
        obtain ⟨s0, s1, s2, s3, s4, s5⟩ := hSw
        go_simp
        try with_reducible rfl
      simp only [Act.put, List.setIfInBounds_toArray, List.set_cons_zero, List.set_cons_succ]
      refine N_take' (i := 1) (v := ?_) rfl rfl (by kernel_rfl) (fun _ _ _ h => h) (Or.inl ⟨by rfl, ?_⟩) hSw ?_
      rotate_left
      · intro w hSw
        obtain ⟨s0, s1, s2, s3, s4, s5⟩ := hSw
        go_simp
        try with_reducible rfl
      simp only [Act.put, List.setIfInBounds_toArray, List.set_cons_zero, List.set_cons_succ]
      refine N_take' (i := 2) (v := ?_) rfl rfl (by kernel_rfl) (fun _ _ _ h => h) (Or.inl ⟨by rfl, ?_⟩) hSw ?_
      rotate_left
      · intro w hSw
        obtain ⟨s0, s1, s2, s3, s4, s5⟩ := hSw
        go_simp
        try with_reducible rfl
      simp only [Act.put, List.setIfInBounds_toArray, List.set_cons_zero, List.set_cons_succ]
      refine N_take' (i := 3) (v := ?_) rfl rfl (by kernel_rfl) (fun _ _ _ h => h) (Or.inl ⟨by rfl, ?_⟩) hSw ?_
      rotate_left
      · intro w hSw
        obtain ⟨s0, s1, s2, s3, s4, s5⟩ := hSw
        go_simp
        try with_reducible rfl
      simp only [Act.put, List.setIfInBounds_toArray, List.set_cons_zero, List.set_cons_succ]
      refine N_take' (i := 4) (v := ?_) rfl rfl (by kernel_rfl) (fun _ _ _ h => h) (Or.inl ⟨by rfl, ?_⟩) hSw ?_
      rotate_left
      · intro w hSw
        obtain ⟨s0, s1, s2, s3, s4, s5⟩ := hSw
        go_simp
        try with_reducible rfl
      simp only [Act.put, List.setIfInBounds_toArray, List.set_cons_zero, List.set_cons_succ]
      refine N_take' (i := 5) (v := ?_) rfl rfl (by kernel_rfl) (fun _ _ _ h => h) (Or.inl ⟨by rfl, ?_⟩) hSw ?_
      rotate_left
      · intro w hSw
        obtain ⟨s0, s1, s2, s3, s4, s5⟩ := hSw
        go_simp
        try with_reducible rfl
      simp only [Act.put, List.setIfInBounds_toArray, List.set_cons_zero, List.set_cons_succ]
      refine N_take' (i := 6) (v := ?_) rfl rfl (by kernel_rfl) (fun _ _ _ h => h) (Or.inl ⟨by rfl, ?_⟩) hSw ?_
      rotate_left
      · intro w hSw
        obtain ⟨s0, s1, s2, s3, s4, s5⟩ := hSw
        go_simp
        try with_reducible rfl
      simp only [Act.put, List.setIfInBounds_toArray, List.set_cons_zero, List.set_cons_succ]
      refine N_take' (i := 7) (v := ?_) rfl rfl (by kernel_rfl) (fun _ _ _ h => h) (Or.inl ⟨by rfl, ?_⟩) hSw ?_
      rotate_left
      · intro w hSw
        obtain ⟨s0, s1, s2, s3, s4, s5⟩ := hSw
        go_simp
        try with_reducible rfl
      simp only [Act.put, List.setIfInBounds_toArray, List.set_cons_zero, List.set_cons_succ]
      refine N_take' (i := 8) (v := ?_) rfl rfl (by kernel_rfl) (fun _ _ _ h => h) (Or.inl ⟨by rfl, ?_⟩) hSw ?_
      rotate_left
      · intro w hSw
        obtain ⟨s0, s1, s2, s3, s4, s5⟩ := hSw
        go_simp
        try with_reducible rfl
      simp only [Act.put, List.setIfInBounds_toArray, List.set_cons_zero, List.set_cons_succ]
      refine N_take' (i := 9) (v := ?_) rfl rfl (by kernel_rfl) (fun _ _ _ h => h) (Or.inl ⟨by rfl, ?_⟩) hSw ?_
      rotate_left
      · intro w hSw
        obtain ⟨s0, s1, s2, s3, s4, s5⟩ := hSw
        go_simp
        try with_reducible rfl
      simp only [Act.put, List.setIfInBounds_toArray, List.set_cons_zero, List.set_cons_succ]
      refine N_take' (i := 10) (v := ?_) rfl rfl (by kernel_rfl) (fun _ _ _ h => h) (Or.inl ⟨by rfl, ?_⟩) hSw ?_
      rotate_left
      · intro w hSw
        obtain ⟨s0, s1, s2, s3, s4, s5⟩ := hSw
        go_simp
        try with_reducible rfl
      simp only [Act.put, List.setIfInBounds_toArray, List.set_cons_zero, List.set_cons_succ]
      refine N_take' (i := 11) (v := ?_) rfl rfl (by kernel_rfl) (fun _ _ _ h => h) (Or.inl ⟨by rfl, ?_⟩) hSw ?_
      rotate_left
      · intro w hSw
        obtain ⟨s0, s1, s2, s3, s4, s5⟩ := hSw
        go_simp
        try with_reducible rfl
      simp only [Act.put, List.setIfInBounds_toArray, List.set_cons_zero, List.set_cons_succ]
      refine N_take' (i := 12) (v := ?_) rfl rfl (by kernel_rfl) (fun _ _ _ h => h) (Or.inl ⟨by rfl, ?_⟩) hSw ?_
      rotate_left
      · intro w hSw
        obtain ⟨s0, s1, s2, s3, s4, s5⟩ := hSw
        go_simp
        try with_reducible rfl
      simp only [Act.put, List.setIfInBounds_toArray, List.set_cons_zero, List.set_cons_succ]
      refine N_take' (i := 13) (v := ?_) rfl rfl (by kernel_rfl) (fun _ _ _ h => h) (Or.inl ⟨by rfl, ?_⟩) hSw ?_
      rotate_left
      · intro w hSw
        obtain ⟨s0, s1, s2, s3, s4, s5⟩ := hSw
        go_simp
        try with_reducible rfl
      simp only [Act.put, List.setIfInBounds_toArray, List.set_cons_zero, List.set_cons_succ]
      refine N_take' (i := 14) (v := ?_) rfl rfl (by kernel_rfl) (fun _ _ _ h => h) (Or.inl ⟨by rfl, ?_⟩) hSw ?_
      rotate_left
      · intro w hSw
        obtain ⟨s0, s1, s2, s3, s4, s5⟩ := hSw
        go_simp
        try with_reducible rfl
      simp only [Act.put, List.setIfInBounds_toArray, List.set_cons_zero, List.set_cons_succ]
      refine N_take' (i := 15) (v := ?_) rfl rfl (by kernel_rfl) (fun _ _ _ h => h) (Or.inl ⟨by rfl, ?_⟩) hSw ?_
      rotate_left
      · intro w hSw
        obtain ⟨s0, s1, s2, s3, s4, s5⟩ := hSw
        go_simp
        try with_reducible rfl
      simp only [Act.put, List.setIfInBounds_toArray, List.set_cons_zero, List.set_cons_succ]
      refine N_take' (i := 16) (v := ?_) rfl rfl (by kernel_rfl) (fun _ _ _ h => h) (Or.inl ⟨by rfl, ?_⟩) hSw ?_
      rotate_left
      · intro w hSw
        obtain ⟨s0, s1, s2, s3, s4, s5⟩ := hSw
        go_simp
        try with_reducible rfl
      simp only [Act.put, List.setIfInBounds_toArray, List.set_cons_zero, List.set_cons_succ]
      have hz := below_drewN wc 1
      have hS9 := SameMsgs_c (hl2.below hz) (huC.tail.below hz)
      unfold tailV at hS9
      rw [hta, sameMs_self] at hS9
      refine N_one' (i := 17) (by kernel_rfl) rfl ?_
      go_wp2_with fail
      refine hS9.mono ?_
      rintro e w9 ⟨rfl, d9⟩
      have b9 := below_trans hz d9.below
      go_wp2_with fail
      refine QK_normal ⟨?_, ?_⟩
      · first | exact fun _ => hSC _ b9 | exact hSC _ b9
      have hN8z := hN8.below b9 (cell_lt hN8.1)
      have hN9z := hN9.below b9 (cell_lt hN9.1)
      have hMBz := hMBc.keep (b9.block _ hMBc.lt)
      obtain ⟨z0, z1, z2, z3⟩ := id hN9z
      obtain ⟨v0, v1, v2, v3⟩ := id hN8z
      obtain ⟨_, mm0, mm1, mm2, mm3, mm4⟩ := id hMBz
      refine N_quietS 18 34 rfl (by kernel_rfl) (by kernel_rfl) (fun j => hSC _ (below_trans b9 (below_drewN w9 j))) ?_
      simp only [List.drop_succ_cons, List.drop_zero]
      repeat (go_big_quiet_step (fail))
      refine wpQuiet_nil ?_
      intro _ hw'
      obtain ⟨nq, hw''⟩ := hw'
      subst hw''
      go_upto_region 13 with fail
      have bE := below_trans b9 (below_drewN w9 nq)
      have hE1 := hSC _ bE
      clear z0 z1 z2 z3 mm0 mm1 mm2 mm3 mm4 v0 v1 v2 v3 hSw hSC hS9 hz d9 b9 q1 q2 q3 q4 q5 q6 hN9z hMBz t1 t2 r1 r2
      have hN8z := hN8z.below (below_drewN w9 nq) (cell_lt hN8z.1)
      generalize w9.drewN nq = wE at *
      obtain ⟨s0, s1, s2, s3, s4, s5⟩ := hE1
      have hBE := hBc.keep (bE.block _ hBc.lt)
      have hRE := hRc.keep (bE.block _ hRc.lt)
      have huE := huC.below bE
      have hOE := hOc.keep (w' := wE) (fun c hc => bE.block c (hSc.out c hc).2.1)
      have hSE : ∀ c, S2 c → w.heap.size ≤ c ∧ c < wE.heap.size ∧ c ≠ B2 ∧ c ≠ w.heap.size := fun c hc => by
        have := hSc.out c hc; have := bE.size; omega
      replace hSE := Lib.hid hSE
      have bF := below_trans bc bE
      clear hN8 hN9 hBc hRc hMBc hWc huC hOc hSc bE bc hl2
      obtain ⟨g, cap', g1, cap1', g2, cap2', e1, hcA, hgS, hgB, e2, _, _, k1, hcC, hg2S, hg2B, hn1, hn2, hn3, hput⟩ := hOE.put_back (n := b) (a := a) (k := b) (by rw [hYl]; exact hb) (by rw [hYw]; exact ha) (by rw [hYrow]; exact hb)
      rw [hYl] at e1 hcA
      cases e1
      rw [hYw] at e2
      cases e2
      rw [hYrow] at k1 hcC
      simp only [Nat.zero_add] at s1
      rw [k1] at s1
      cases s1
      obtain ⟨gA, capA, lvA, hvA, tvA, _, _, _, eA, _, _, _, _, cA0, cA1, cA2, cA3, _⟩ := hOE.node_at (n := b) (by rw [hYl]; exact hb)
      rw [hYl] at eA
      cases eA
      replace hput := Lib.hid hput
      obtain ⟨v0, v1, v2, v3⟩ := id hN8z
      obtain ⟨_, y0, y1, y2⟩ := id hRE
      have hf0 := hgB.frozen (b * 4)
      have hf1 := hgB.frozen (b * 4 + 1)
      have hf2 := hgB.frozen (b * 4 + 2)
      have hf3 := hgB.frozen (b * 4 + 3)
      go_upto_region 14 with fail
      have hd := hSE.out d0 hgS
      have hd2 := hSE.out bx2 hg2S
      have hSetF := ((((BlkSet.same (w := wE) (w' := wE) (p := b * 4) (cs := [.int .i64 (Y.nodes.getD b N.zero).clock, lvA, hvA, tvA]) rfl (fun j hj => by
        match j, hj with
        | 0, _ => exact cA0
        | 1, _ => exact cA1
        | 2, _ => exact cA2
        | 3, _ => exact cA3)).set hgB 0 (by simp) (by simp; omega) (.int .i64 x.clock)).set hgB 1 (by simp) (by simp; omega) (.slice la x.last.length lcap)).set hgB 2 (by simp) (by simp; omega) (.slice ha' x.held.length hcap)).set hgB 3 (by simp) (by simp; omega) (.slice ta x.told.length tcap)
      simp only [List.set_cons_zero, List.set_cons_succ, Nat.add_zero] at hSetF
      have kF : ∀ c, c ≠ d0 → ((((wE.setCell ⟨d0, b * 4, none⟩ (.int .i64 x.clock)).setCell ⟨d0, b * 4 + 1, none⟩ (.slice la x.last.length lcap)).setCell ⟨d0, b * 4 + 2, none⟩ (.slice ha' x.held.length hcap)).setCell ⟨d0, b * 4 + 3, none⟩ (.slice ta x.told.length tcap)).heap[c]? = wE.heap[c]? := fun c hc => by
        rw [Go.Deep.blk_setCell_other _ _ _ _ hc, Go.Deep.blk_setCell_other _ _ _ _ hc, Go.Deep.blk_setCell_other _ _ _ _ hc, Go.Deep.blk_setCell_other _ _ _ _ hc]
      have bG : Below w.heap.size w ((((wE.setCell ⟨d0, b * 4, none⟩ (.int .i64 x.clock)).setCell ⟨d0, b * 4 + 1, none⟩ (.slice la x.last.length lcap)).setCell ⟨d0, b * 4 + 2, none⟩ (.slice ha' x.held.length hcap)).setCell ⟨d0, b * 4 + 3, none⟩ (.slice ta x.told.length tcap)) :=
        below_setCell (below_setCell (below_setCell (below_setCell bF hd.1 _) hd.1 _) hd.1 _) hd.1 _
      generalize (((wE.setCell ⟨d0, b * 4, none⟩ (.int .i64 x.clock)).setCell ⟨d0, b * 4 + 1, none⟩ (.slice la x.last.length lcap)).setCell ⟨d0, b * 4 + 2, none⟩ (.slice ha' x.held.length hcap)).setCell ⟨d0, b * 4 + 3, none⟩ (.slice ta x.told.length tcap) = wF at *
      have hBF := hBE.keep (kF _ (Ne.symm hd.2.2.2))
      have hRF := hRE.keep (kF _ (Ne.symm hd.2.2.1))
      have k1F := (World.cell?_of_block (w := wE) (w' := wF) (a := ⟨bw2, a, none⟩) (kF _ (Ne.symm hn1))).trans k1
      have s2F := (World.cell?_of_block (w := wE) (w' := wF) (a := ⟨bx2, 0 + b, none⟩) (kF _ (Ne.symm hn2))).trans s2
      have hg2F := hg2B.same (kF _ (Ne.symm hn2))
      have hf2 := hg2F.frozen b
      have hS2F : BlkSet wE wF bx2 b [.slice ua2 l.length cu2] := BlkSet.same (kF _ (Ne.symm hn2)) (fun j hj => by
        obtain rfl : j = 0 := by simpa using hj
        simpa using s2)
      replace hS2F := Lib.hid hS2F
      replace hSetF := Lib.hid hSetF
      clear v0 v1 v2 v3 y0 y1 y2 hf0 hf1 hf3 cA0 cA1 cA2 cA3 s0 s2 s3 s4 s5 k1 hN8z hBE hRE huE hgB
      obtain ⟨bw', ow', cw', u', e3, _, R1, hu'⟩ := hw.row (a := a) (by rw [hXw]; exact ha)
      rw [hXw] at e3
      cases e3
      obtain ⟨bx', ox', cx', u2', rfl, _, R2, hu2'⟩ := hu'.at (a := b) (by rw [hRt.row a ha]; exact hb)
      rw [hRt.row a ha] at R1
      obtain ⟨_, uz, ucz, rfl, _⟩ := hu2'.open
      have R1 := (bG.cell (p := ⟨bw, ow + a, none⟩) (cell_lt R1)).trans R1
      have R2 := (bG.cell (p := ⟨bx', ox' + b, none⟩) (cell_lt R2)).trans R2
      simp only [Nat.zero_add] at s2F
      obtain ⟨_, x0, x1, x2⟩ := id hBF
      obtain ⟨_, y0, y1, y2⟩ := id hRF
      obtain ⟨LL, hLL⟩ : ∃ LL, ((X.wires.getD a []).getD b []).length = LL := ⟨_, rfl⟩
      rw [hLL] at R2 hu2'
      replace hLL := Lib.hid hLL
      go_still_tail 15, (by kernel_rfl)
      go_upto_region 15 with fail
      have hSet2 := (hS2F.out.set hg2B 0 (by simp) (by simp; omega) (.slice uz LL ucz)).far (w2 := (wF.setCell ⟨bx2, b, none⟩ (.slice uz LL ucz)).drew) rfl
      have hSet1 := hSetF.out.far (w2 := (wF.setCell ⟨bx2, b, none⟩ (.slice uz LL ucz)).drew) (Go.Deep.blk_setCell_other wF ⟨bx2, b, none⟩ _ _ hn2)
      have bH : Below w.heap.size w ((wF.setCell ⟨bx2, b, none⟩ (.slice uz LL ucz)).drew) := below_drew (below_setCell bG hd2.1 _)
      have hFin := hput.out ((wF.setCell ⟨bx2, b, none⟩ (.slice uz LL ucz)).drew) _ x (.slice uz LL ucz) ((X.wires.getD a []).getD b []) (fun c hc => (Go.Deep.blk_setCell_other wF ⟨bx2, b, none⟩ _ _ hc.2.2).trans (kF c hc.2.1)) hSet1 rfl ⟨_, _, _, rfl, hk64, hrr.below bH, hh.below bH, htt.below bH⟩ hSet2 (by have := hu2'.below bH; exact this)
      have hbk := hback.out
      unfold wireL at hbk
      rw [hbk] at hFin
      have hBG := hBF.keep (w' := (wF.setCell ⟨bx2, b, none⟩ (.slice uz LL ucz)).drew) (Go.Deep.blk_setCell_other wF ⟨bx2, b, none⟩ _ _ (Ne.symm hd2.2.2.2))
      have hRG := hRF.keep (w' := (wF.setCell ⟨bx2, b, none⟩ (.slice uz LL ucz)).drew) (Go.Deep.blk_setCell_other wF ⟨bx2, b, none⟩ _ _ (Ne.symm hd2.2.2.1))
      clear hput hSet1 hSet2 hS2F hSetF hbk hback x0 x1 x2 y0 y1 y2 R1 R2 hu2' hu' k1F s2F hg2F hf2 kF hBF hRF bG
      generalize (wF.setCell ⟨bx2, b, none⟩ (.slice uz LL ucz)).drew = wG at *
      go_wp2_with fail
      refine (moveBegun_c wG).mono ?_
      rintro e w10 ⟨rfl, b10⟩
      have hBz := hBG.keep (b10.block _ hBG.lt)
      have hRz := hRG.keep (b10.block _ hRG.lt)
      have hSz := SameWorlds_c (hFin.below b10) (hW0.below (below_trans bH b10))
      obtain ⟨_, x0, x1, x2⟩ := id hBz
      obtain ⟨_, y0, y1, y2⟩ := id hRz
      go_wp2_with fail
      refine hSz.mono ?_
      rintro e w11 ⟨rfl, b11⟩
      go_wp2_with fail
      go_ret
      exact ⟨ret_bool (by simp), below_trans (below_trans bH b10) b11⟩
end Go.Proofs.Ytafmpcaneeplpaa
