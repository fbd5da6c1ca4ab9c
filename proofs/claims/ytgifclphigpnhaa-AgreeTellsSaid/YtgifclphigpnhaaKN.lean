/-
  slices.Grow of nothing, slices.Concat of lists of messages: a new row of all of them.
  The program: a node of a world of one's own is told what is ready.
  A slice of the call's own, of which the first k elements are own already, and the others still another's.
  A region that draws its order among calls that make memory of their own: whichever comes first, what comes of each is told once; loads taken where some operations have come up already. Nothing of a program.
  The program: a world of its own.
-/
import Derived.Test.YtgifclphigpnhaaKW
import Derived.Test.YtgifclphigpnhaaKO
import Derived.Test.YtgifclphigpnhaaKA
import Derived.Lib.AppendZerosOnto
import Derived.Test.YtgifclphigpnhaaKT
import Derived.Test.YtgifclphigpnhaaKB
import Derived.Test.YtgifclphigpnhaaKS3
set_option maxRecDepth 100000
namespace Go.Proofs.Ytgifclphigpnhaa
open Go.RowKit Go.Shelf Go.BigFrame

/-- All of the first k lists. -/
def catL (l : List (List M)) (k : Nat) : List M := (l.take k).flatten
def catN (l : List (List M)) (k : Nat) : Nat := (catL l k).length
theorem catL_succ (l : List (List M)) {k : Nat} (hk : k < l.length) : catL l (k + 1) = catL l k ++ l.getD k [] := by
  unfold catL
  rw [List.take_succ_eq_append_getElem hk, List.flatten_append, getD_lt l [] hk]; simp
theorem catN_succ (l : List (List M)) {k : Nat} (hk : k < l.length) : catN l (k + 1) = catN l k + (l.getD k []).length := by
  unfold catN
  rw [catL_succ l hk, List.length_append]
theorem catN_le (l : List (List M)) (k : Nat) : catN l k ≤ l.flatten.length := by
  unfold catN catL
  conv => rhs; rw [← List.take_append_drop k l, List.flatten_append, List.length_append]
  omega
theorem catL_all (l : List (List M)) : catL l l.length = l.flatten := by
  unfold catL
  rw [List.take_length]
theorem Msgs.fitsL {w : World} {v : Value} {l : List (List M)} (h : MsgRows w v l) : ∀ m ∈ l.flatten, m.fits := by
  intro m hm
  obtain ⟨r, hr, hm⟩ := List.mem_flatten.1 hm
  obtain ⟨i, hi, rfl⟩ := List.mem_iff_getElem.1 hr
  obtain ⟨_, _, _, u, _, _, _, hu⟩ := h.at hi
  rw [getD_lt l [] hi] at hu
  exact hu.1 m hm

end Go.Proofs.Ytgifclphigpnhaa

set_option maxRecDepth 100000
namespace Go.Proofs.Ytgifclphigpnhaa
open Go.RowKit Go.Shelf Go.BigFrame

/-- Of a node both lists may be set: to lists of the call's own. -/
theorem OWd.two_at {o : Bool} {w : World} {S : Nat → Prop} {gv nv wv : Value} {X : Wd} (hW : OWd o w S gv nv wv X) (hSl : ∀ c, S c → c < w.heap.size) {n : Nat} (hn1 : n < X.nodes.length) :
    ∃ (g cap : Nat) (lv hv tv : Value), nv = .slice (some ⟨g, 0, none⟩) X.nodes.length cap ∧ X.nodes.length ≤ cap ∧ S g ∧ g < w.heap.size ∧ BlkIs w g 43 (cap * 4) ∧
      w.cell? ⟨g, n * 4, none⟩ = some (.int .i64 (X.nodes.getD n N.zero).clock) ∧ w.cell? ⟨g, n * 4 + 1, none⟩ = some lv ∧ w.cell? ⟨g, n * 4 + 2, none⟩ = some hv ∧ w.cell? ⟨g, n * 4 + 3, none⟩ = some tv ∧
      Msgs w hv (X.nodes.getD n N.zero).held ∧ Msgs w tv (X.nodes.getD n N.zero).told ∧
      ∀ w7 v4 v7 tl hl, Below w.heap.size w w7 → MsgsOwn w7 w.heap.size v4 tl → MsgsOwn w7 w.heap.size v7 hl → (∀ k, v4.ownBlock = some k → v7.ownBlock ≠ some k) → tl.length ≤ 100000 → hl.length ≤ 100000 →
        Within S w ((w7.setCell ⟨g, n * 4 + 3, none⟩ v4).setCell ⟨g, n * 4 + 2, none⟩ v7) ∧
        ∃ S', OWd o ((w7.setCell ⟨g, n * 4 + 3, none⟩ v4).setCell ⟨g, n * 4 + 2, none⟩ v7) S' gv nv wv { X with nodes := X.nodes.set n { X.nodes.getD n N.zero with told := tl, held := hl } } ∧
          ∀ c, S' c → (S c ∨ w.heap.size ≤ c) ∧ c < ((w7.setCell ⟨g, n * 4 + 3, none⟩ v4).setCell ⟨g, n * 4 + 2, none⟩ v7).heap.size := by
  obtain ⟨g, ncap, lv, hv, tv, Tl, Th, Tt, rfl, hnc, hgS, hgl2, hgb, c0, c1, c2, c3, hI, hLo, hHo, hTo, sl, sh, st, d1, d2, d3, back⟩ := hW.node_at hn1
  refine ⟨g, ncap, lv, hv, tv, rfl, hnc, hgS, hgl2, hgb, c0, c1, c2, c3, hHo.msgs, hTo.msgs, fun w7 v4 v7 tl hl hb h4 h7 hne hl4 hl7 => ?_⟩
  have hs7 := hb.size
  generalize hwF : (w7.setCell ⟨g, n * 4 + 3, none⟩ v4).setCell ⟨g, n * 4 + 2, none⟩ v7 = wF
  have lF : ∀ c, c ≠ g → wF.heap[c]? = w7.heap[c]? := fun c hc => by rw [← hwF]; exact (Go.Deep.blk_setCell_other _ _ _ _ hc).trans (Go.Deep.blk_setCell_other _ _ _ _ hc)
  have oF : ∀ c, c < w.heap.size → c ≠ g → wF.heap[c]? = w.heap[c]? := fun c hc hg => (lF c hg).trans (hb.block c hc)
  have hsF : wF.heap.size = w7.heap.size := by rw [← hwF, Go.Deep.nblk_setCell, Go.Deep.nblk_setCell]
  have hwFi : Within S w wF := by
    rw [← hwF]
    exact ((Within.of_below hb).setCell (a := ⟨g, n * 4 + 3, none⟩) hgS _).setCell (a := ⟨g, n * 4 + 2, none⟩) hgS _
  have hB : BlkSet w wF g (n * 4) [.int .i64 (X.nodes.getD n N.zero).clock, lv, v7, v4] := by
    rw [← hwF]
    exact ((BlkSet.same (w' := w7) (cs := [.int .i64 (X.nodes.getD n N.zero).clock, lv, hv, tv]) (hb.block g hgl2) (fun j hj => by
        match j, hj with
        | 0, _ => exact c0
        | 1, _ => exact c1
        | 2, _ => exact c2
        | 3, _ => exact c3)).set hgb 3 (by simp) (by simp; omega) v4).set hgb 2 (by simp) (by simp; omega) v7
  have k4 := fun k (hk : v4.ownBlock = some k) => h4.lt k hk
  have k7 := fun k (hk : v7.ownBlock = some k) => h7.lt k hk
  have o4 : OMsgs true wF (fun c => v4.ownBlock = some c) v4 tl := (MsgsOwn.own h4 (by omega)).keep (fun c hc => lF c (by have := k4 c hc; omega))
  have o7 : OMsgs true wF (fun c => v7.ownBlock = some c) v7 hl := (MsgsOwn.own h7 (by omega)).keep (fun c hc => lF c (by have := k7 c hc; omega))
  have hX : ONodeEl wF (fun c => Tl c ∨ v7.ownBlock = some c ∨ v4.ownBlock = some c) [.int .i64 (X.nodes.getD n N.zero).clock, lv, v7, v4] { X.nodes.getD n N.zero with told := tl, held := hl } := by
    refine ⟨lv, _, _, Tl, _, _, rfl, hI, hLo.keep (fun c hc => oF c (hSl c (sl c hc).1) (sl c hc).2), o7, o4, fun _ h => Or.inl h, fun _ h => Or.inr (Or.inl h), fun _ h => Or.inr (Or.inr h), fun c h1 h2 => ?_, fun c h1 h2 => ?_, fun c h1 h2 => hne c h2 h1⟩
    · have := k7 c h2; have := hSl c (sl c h1).1; omega
    · have := k4 c h2; have := hSl c (sl c h1).1; omega
  have := back _ _ _ _ (fun c hc => oF c (hSl c hc.1) hc.2.1) hB rfl hX (fun c hc => by
    rcases hc with h | h | h
    · exact Or.inl h
    · exact Or.inr (Or.inr (Or.inr (fun hs => by have := k7 c h; have := hSl c hs; omega)))
    · exact Or.inr (Or.inr (Or.inr (fun hs => by have := k4 c h; have := hSl c hs; omega))))
  refine ⟨hwFi, _, this, fun c hc => ?_⟩
  rw [hsF]
  rcases hc with h | h | h | h
  · exact ⟨Or.inl h, by have := hSl c h; omega⟩
  · exact ⟨Or.inl (sl c h).1, by have := hSl c (sl c h).1; omega⟩
  · exact ⟨Or.inr (k7 c h).1, (k7 c h).2⟩
  · exact ⟨Or.inr (k4 c h).1, (k4 c h).2⟩

theorem readyX_len {X : Wd} {n : Nat} (h : risesB (X.nodes.getD n N.zero).held = true) : readyX X n = (X.nodes.getD n N.zero).held.take (cntX X n) ∧ (readyX X n).length = cntX X n := by
  have h1 : readyX X n = (X.nodes.getD n N.zero).held.take (cntX X n) := readyL_take h
  refine ⟨h1, ?_⟩
  have : cntX X n ≤ (X.nodes.getD n N.zero).held.length := List.findIdx_le_length
  rw [h1, List.length_take]; omega
/-- A literal of two slices of messages, newly laid. -/
theorem MsgRows.two {w' : World} {a b : Value} {x y : List M} (h1 : Msgs w' a x) (h2 : Msgs w' b y) {B : Nat} (k0 : w'.cell? ⟨B, 0, none⟩ = some a) (k1 : w'.cell? ⟨B, 1, none⟩ = some b) : MsgRows w' (.slice (some ⟨B, 0, none⟩) 2 2) [x, y] := by
  refine ⟨[[a], [b]], rfl, by simp, ⟨rfl, by simp, _, _, rfl, by simp, fun _ => ⟨B, 0, rfl, fun k hk => ?_⟩⟩, fun i h1' h2' => ?_⟩
  · match k, hk with
    | 0, _ => exact k0
    | 1, _ => exact k1
  · match i, h1' with
    | 0, _ => exact ⟨a, rfl, h1⟩
    | 1, _ => exact ⟨b, rfl, h2⟩
/-- What is left of a list of messages behind its beginning. -/
theorem Msgs.drops {w : World} {a : Option Addr} {n cap : Nat} {ms : List M} (h : Msgs w (.slice a n cap) ms) {k : Nat} (hk : k ≤ ms.length) :
    Msgs w (.slice (if cap = k then a else Option.map (fun x => x.add (k * 5)) a) (n - k) (cap - k)) (ms.drop k) := by
  refine ⟨fun m hm => h.1 m (List.mem_of_mem_drop hm), ?_⟩
  obtain ⟨h1, h2, a', cap', e, h3, h4⟩ := h.2
  cases e
  rw [List.length_drop]
  rcases Nat.lt_or_ge k ms.length with hlt | hge
  · have hck : ¬ cap = k := by omega
    obtain ⟨b, off, e2, hc⟩ := h4 (by omega)
    subst e2
    rw [if_neg hck]
    have := row_slice h rfl hlt
    have e : (⟨b, off, none⟩ : Addr).add (k * 5) = ⟨b, off + k * 5, none⟩ := by
      unfold Addr.add
      split
      · rename_i h0; rw [h0]; rfl
      · rfl
    simp only [Option.map_some, e]
    exact this
  · obtain rfl : k = ms.length := by omega
    rw [Nat.sub_self, List.drop_length]
    exact row_none _ _ _

end Go.Proofs.Ytgifclphigpnhaa

namespace Go.Proofs.Ytgifclphigpnhaa
open Go.RowKit

section
variable {α : Type} {El : World → List Value → α → Prop} {OEl : ElO α} {w0 w : World} {xs : List α} {k : Nat}
/-- An element: own, or another's. -/
def Mix (w0 : World) (El : World → List Value → α → Prop) (OEl : ElO α) : ElO (Bool × α) := fun w T cs x => (x.1 = true → OEl w T cs x.2) ∧ (x.1 = false → El w0 cs x.2)
theorem Mix.stays (h : OStays OEl) : OStays (Mix w0 El OEl) := fun w w' T cs x hx hl => ⟨fun e => h w w' T cs x.2 (hx.1 e) hl, hx.2⟩
/-- The first k are own. -/
def mixL (k : Nat) (xs : List α) : List (Bool × α) := xs.mapIdx fun i x => (decide (i < k), x)
theorem mixL_len : (mixL k xs).length = xs.length := by simp [mixL]
theorem mixL_get {i : Nat} (h : i < (mixL k xs).length) : (mixL k xs)[i] = (decide (i < k), xs[i]'(by simpa [mixL] using h)) := by simp [mixL]
theorem mixL_set (h : k < xs.length) : (mixL k xs).set k (true, xs[k]) = mixL (k + 1) xs := by
  apply List.ext_getElem
  · rw [List.length_set, mixL_len, mixL_len]
  · intro i h1 h2
    rw [List.getElem_set, mixL_get, mixL_get]
    by_cases e : k = i
    · subst e; simp
    · rw [if_neg e]
      have : decide (i < k) = decide (i < k + 1) := by rw [decide_eq_decide]; omega
      rw [this]
theorem flat_slice {s : Nat} {css : List (List Value)} (h : ∀ cs ∈ css, cs.length = s) {i : Nat} (hi : i < css.length) : (css.flatten.drop (i * s)).take s = css[i] := by
  have hl : css[i].length = s := h _ (List.getElem_mem _)
  have hfl := flat_lenL h
  have hm : (i + 1) * s ≤ css.length * s := Nat.mul_le_mul_right _ hi
  rw [Nat.add_mul] at hm
  apply List.ext_getElem?
  intro j
  rw [List.getElem?_take]
  by_cases hj : j < s
  · rw [if_pos hj, List.getElem?_drop, flat_getL h i j hi hj]
  · rw [if_neg hj, List.getElem?_eq_none (by omega)]
/-- A copy of a slice: none of its elements is own yet. -/
theorem Sl.clone {s : Nat} {v : Value} (h : Sl El s w0 v xs) (hone : ∀ w cs x, El w cs x → ∀ u ∈ cs, u.oneCell' = true) :
    ∃ cs, Row w0 v xs.length s cs ∧ (∀ u ∈ cs, u.oneCell' = true) ∧ ∀ (w' : World) base e v', w'.ownsRow base e s v' xs.length cs → OSl (Mix w0 El OEl) true e s w' (fun b => v'.ownBlock = some b) v' (mixL 0 xs) := by
  obtain ⟨css, h1, h2, h3, h4⟩ := h
  have hl : xs.length * s * 8 ≤ 140737488351232 := by have := h3.2.1; rw [flat_lenL h2, h1] at this; exact this
  refine ⟨css.flatten, h3, fun u hu => ?_, fun w' base e v' ho => ?_⟩
  · obtain ⟨cs, hcs, hu⟩ := List.mem_flatten.1 hu
    obtain ⟨i, hi, rfl⟩ := List.mem_iff_getElem.1 hcs
    exact hone _ _ _ (h4 i hi (by omega)) u hu
  · have := OSl.of_owns (El := Mix w0 El OEl) (base := base) (e := e) (s := s) (w := w') (v := v') (xs := mixL 0 xs) (cl := css.flatten) (by rw [mixL_len]; exact ho) (by rw [mixL_len]; exact hl) (fun i hi => ?_)
    · exact this
    · rw [mixL_get, flat_slice h2 (by rw [mixL_len] at hi; omega)]
      exact ⟨fun e => by simp at e, fun _ => h4 i _ _⟩
theorem OSl.unmix {o : Bool} {e : TypeId} {s : Nat} {S : Nat → Prop} {v : Value} (h : OSl (Mix w0 El OEl) o e s w S v (mixL xs.length xs)) : OSl OEl o e s w S v xs := by
  rcases h with ⟨a0, h1, h2, h3⟩ | ⟨g, off, cap, T, h1, h2, h3, h4, h5, h6, h7, h8, h9, h10⟩
  · refine .inl ⟨a0, h1, ?_, h3⟩
    have := congrArg List.length h2
    rw [mixL_len] at this
    exact List.eq_nil_of_length_eq_zero this
  · rw [mixL_len] at h1 h4 h7
    refine .inr ⟨g, off, cap, T, h1, h2, h3, h4, h5, h6, h7, fun i hi => ?_, h9, h10⟩
    obtain ⟨cs, c1, c2, c3⟩ := h8 i (by rw [mixL_len]; exact hi)
    rw [mixL_get] at c3
    exact ⟨cs, c1, c2, c3.1 (by simpa using hi)⟩
/-- At the first that is not own: how it reads; and the way on, behind whatever was done to make it own. -/
theorem OSl.mix_at {o : Bool} {e : TypeId} {s : Nat} {S : Nat → Prop} {v : Value} (hE : OStays OEl) (h : OSl (Mix w0 El OEl) o e s w S v (mixL k xs)) (hk : k < xs.length) :
    ∃ (g off cap : Nat) (cs : List Value), v = .slice (some ⟨g, off, none⟩) xs.length cap ∧ S g ∧ BlkIs w g e (off + cap * s) ∧ xs.length ≤ cap ∧ (o = true → off = 0) ∧ cs.length = s ∧
      (∀ j, j < s → w.cell? ⟨g, off + k * s + j, none⟩ = cs[j]?) ∧ El w0 cs xs[k] ∧
      ∀ w' T' cs', Lies (fun b => S b ∧ b ≠ g) w w' → BlkSet w w' g (off + k * s) cs' → cs'.length = s → OEl w' T' cs' xs[k] → (∀ b, T' b → ¬ S b) →
        OSl (Mix w0 El OEl) o e s w' (fun b => S b ∨ T' b) v (mixL (k + 1) xs) := by
  obtain ⟨g, off, cap, T, cs, e1, e2, e3, e4, e5, e6, e7, e8, e9, back⟩ := OSl.at (Mix.stays hE) h (i := k) (by rw [mixL_len]; exact hk)
  rw [mixL_len] at e1 e4
  rw [mixL_get] at e8
  refine ⟨g, off, cap, cs, e1, e2, e3, e4, e5, e6, e7, e8.2 (by simp), fun w' T' cs' hL hB hl hX hT => ?_⟩
  have := back w' T' cs' (true, xs[k]) (hL.mono fun b hb => ⟨hb.1, hb.2.1⟩) hB hl ⟨fun _ => hX, fun e => by cases e⟩ (fun b hb => Or.inr (hT b hb))
  rwa [mixL_set hk] at this
end

theorem ints_one {w : World} {v : Value} {l : List Int} (h : Ints w v l) : v.oneCell' = true := by obtain ⟨_, a, cap, rfl, _⟩ := h.open; rfl
theorem msgs_one {w : World} {v : Value} {l : List M} (h : Msgs w v l) : v.oneCell' = true := by obtain ⟨_, a, cap, rfl, _⟩ := h.open; rfl
theorem IntsEl.one : ∀ w cs x, IntsEl w cs x → ∀ u ∈ cs, u.oneCell' = true := by
  rintro w cs x ⟨u, rfl, h⟩ v hv
  obtain rfl : v = u := by simpa using hv
  exact ints_one h
theorem MsgsEl.one : ∀ w cs x, MsgsEl w cs x → ∀ u ∈ cs, u.oneCell' = true := by
  rintro w cs x ⟨u, rfl, h⟩ v hv
  obtain rfl : v = u := by simpa using hv
  exact msgs_one h
theorem MsgRowsEl.one : ∀ w cs x, MsgRowsEl w cs x → ∀ u ∈ cs, u.oneCell' = true := by
  rintro w cs x ⟨u, rfl, h⟩ v hv
  obtain rfl : v = u := by simpa using hv
  obtain ⟨_, a, cap, rfl, _⟩ := h.form
  rfl
theorem NodeEl.one : ∀ w cs x, NodeEl w cs x → ∀ u ∈ cs, u.oneCell' = true := by
  rintro w cs x ⟨lv, hv, tv, rfl, _, h1, h2, h3⟩ u hu
  obtain ⟨_, a, cap, rfl, _⟩ := h1.form
  simp only [List.mem_cons, List.not_mem_nil, or_false] at hu
  rcases hu with rfl | rfl | rfl | rfl
  · rfl
  · rfl
  · exact msgs_one h2
  · exact msgs_one h3
/-- The words for the four. -/
abbrev XInts (w0 : World) : ElO (Bool × List Int) := Mix w0 IntsEl OIntsEl
abbrev XMsgs (w0 : World) : ElO (Bool × List M) := Mix w0 MsgsEl (OMsgsEl true)
abbrev XRows (w0 : World) : ElO (Bool × List (List M)) := Mix w0 MsgRowsEl (OMsgRowsEl true)
abbrev XNodes (w0 : World) : ElO (Bool × N) := Mix w0 NodeEl ONodeEl
end Go.Proofs.Ytgifclphigpnhaa

namespace Go.Proofs.Ytgifclphigpnhaa
open Go.RowKit
section
variable {P : Program} {ops : Array Oper} {Q : Exit → Act → World → Prop} {md : Region.Mode} {S : World → Prop} {n : Nat}

theorem N_of_wpAny {m : Nat} : ∀ (fuel : Nat) (listed : Array Bool) (a : Act) (w : World), wpAny P md ops Q fuel listed a w → wpAnyN P md ops Q (fun _ => True) m fuel listed a w
  | 0, _, _, _, h => h
  | fuel + 1, _, _, _, h => ⟨h.1, fun i hi => wpOp_mono (fun a' w' h' => ⟨fun _ => trivial, N_of_wpAny fuel _ a' w' h'⟩) (h.2 i hi)⟩
/-- From a walk that asks nothing of memory to one that does. -/
theorem N_shift {m : Nat} {S' : World → Prop} (n' : Nat) {fuel : Nat} {listed : Array Bool} {a : Act} {w : World} (h : wpAnyN P md ops Q S' n' fuel listed a w) : wpAnyN P md ops Q (fun _ => True) m fuel listed a w :=
  N_of_wpAny _ _ _ _ (wpAny_of_N _ _ _ _ h)

def sinkR (md : Region.Mode) (ops : Array Oper) (n : Nat) (L : Array Bool) : Bool :=
  (List.range n).all fun i => L.getD i false || (List.range (n + 1)).any fun j => decide (i < j) && Region.waitsFor md ops j i
theorem tail_waitsR {L listed : Array Bool} (hs : sinkR md ops n L = true) (hsub : ∀ i, L.getD i false = true → listed.getD i false = true) (hc : Region.chainB md ops n = true) (hn : n < ops.size) (inv : HeadInv md ops n listed) :
    ∀ (d i : Nat), n - i = d → i < n → listed.getD i true = false → ∀ t, n ≤ t → t ∉ Region.ready md ops listed := by
  intro d
  induction d using Nat.strongRecOn with
  | _ d ih =>
    intro i hd hi hun t ht hr
    obtain ⟨_, ot, hot, hall⟩ := mem_ready.1 hr
    have htlt : t < ops.size := (Array.getElem?_eq_some_iff.1 hot).1
    by_cases htn : t = n
    · subst htn
      have h1 := List.all_eq_true.1 hs i (List.mem_range.2 hi)
      rcases Bool.or_eq_true_iff.1 h1 with h1 | h1
      · have := hsub i h1
        rw [getD_both hun] at this
        cases this
      obtain ⟨j, hj, hj2⟩ := List.any_eq_true.1 h1
      simp only [Bool.and_eq_true, decide_eq_true_eq] at hj2
      obtain ⟨oj, hoj, e, he, hb, hon⟩ := Region.waitsFor_spec hj2.2
      have hjle : j ≤ t := by have := List.mem_range.1 hj; omega
      by_cases hjt : j = t
      · subst hjt
        have : oj = ot := Option.some.inj (hoj.symm.trans hot)
        subst this
        have h2 := hall e he hb
        rw [hon, getD_both hun] at h2
        cases h2
      · cases hl : listed.getD j false with
        | true =>
          have h2 := inv.closed j oj hoj hl e he hb
          rw [hon, getD_both hun] at h2
          cases h2
        | false =>
          have hjs : j < listed.size := by rw [inv.size]; omega
          exact ih (t - j) (by omega) j rfl (by omega) (getD_in hjs hl) t (Nat.le_refl _) hr
    · have h1 := List.all_eq_true.1 hc t (List.mem_range.2 htlt)
      simp only [Bool.or_eq_true, decide_eq_true_eq] at h1
      rcases h1 with h1 | h1
      · omega
      · obtain ⟨o', ho', e, he, hb, hon⟩ := Region.waitsFor_spec h1
        have : o' = ot := Option.some.inj (ho'.symm.trans hot)
        subst this
        have h2 := hall e he hb
        rw [hon, getD_both (inv.tail (t - 1) (by omega) (by omega))] at h2
        cases h2
theorem wpAnyN_firstR {L : Array Bool} {i : Nat} {oi : Oper} {v : Value} (hi : ops[i]? = some oi) (hsel : ∀ (j : Nat) (o : Oper) cs b, ops[j]? = some o → o.op ≠ .select cs b)
    (hs : sinkR md ops n L = true) (hc : Region.chainB md ops n = true) (hn : n < ops.size) (hin : i < n)
    (hQ : ∀ c a w, Q (.panic c) (a.put oi.dst v) w → Q (.panic c) a w) :
    ∀ (fuel : Nat) (listed : Array Bool) (a : Act) (w : World), HeadInv md ops n listed → (∀ i, L.getD i false = true → listed.getD i false = true) →
      (∀ j oj, ops[j]? = some oj → j ≠ i → listed.getD j true = false → (∀ e ∈ oj.after, Region.binds md e = true → e.on ≠ i) → oi.apart ops oj = true) →
      i ∈ Region.ready md ops listed → YieldsIf P ops S oi v a → S w →
      wpAnyN P md ops Q S n fuel (listed.setIfInBounds i true) (a.put oi.dst v) w → wpAnyN P md ops Q S n (fuel + 1) listed a w := by
  intro fuel
  induction fuel with
  | zero =>
    intro listed a w _ _ _ hr hy hS H
    refine ⟨fun h => (by rw [h] at hr; cases hr), fun j hj => ?_⟩
    by_cases hji : j = i
    · subst hji; exact hy.wpOp hi hS ⟨fun _ => hS, H⟩
    · have := ready_mono hj hji
      rw [H.1] at this
      cases this
  | succ fuel ih =>
    intro listed a w inv hsub hfree hr hy hS H
    have hun := (mem_ready.1 hr).1
    refine ⟨fun h => (by rw [h] at hr; cases hr), fun j hj => ?_⟩
    by_cases hji : j = i
    · subst hji; exact hy.wpOp hi hS ⟨fun _ => hS, H⟩
    · have hjn : j < n := by
        rcases Nat.lt_or_ge j n with h | h
        · exact h
        · exact absurd hj (tail_waitsR hs hsub hc hn inv _ i rfl hin hun j h)
      have h1 := H.2 j (ready_mono hj hji)
      obtain ⟨hjun, oj, hoj, hall⟩ := mem_ready.1 hj
      have hnot : ∀ e ∈ oj.after, Region.binds md e = true → e.on ≠ i := fun e he hb heq => by
        have h1 := hall e he hb
        rw [heq, getD_both hun] at h1
        cases h1
      have h2 := wpOp_putIf hoj (hfree j oj hoj hji hjun hnot) (fun cs b => hsel i oi cs b hi) (fun cs b => hsel j oj cs b hoj) hQ hy h1
      have hfree' : ∀ k ok, ops[k]? = some ok → k ≠ i → (listed.setIfInBounds j true).getD k true = false →
          (∀ e ∈ ok.after, Region.binds md e = true → e.on ≠ i) → oi.apart ops ok = true := fun k ok hk hki hun hno => by
        refine hfree k ok hk hki ?_ hno
        by_cases hjk : j = k
        · subst hjk; exact hjun
        · rw [getD_set_ne true hjk] at hun; exact hun
      refine wpOp_mono (fun a' w' h3 => ⟨fun _ => h3.2.1 hjn, ih (listed.setIfInBounds j true) a' w' (inv.set hj hjn) (fun q hq => getD_set_true (hsub q hq)) hfree' (ready_mono hr (Ne.symm hji)) h3.1 (h3.2.1 hjn) ?_⟩) h2
      rw [Array.setIfInBounds_comm _ _ hji]
      exact h3.2.2
def takeRB (md : Region.Mode) (ops : Array Oper) (n : Nat) (listed : Array Bool) (i : Nat) : Bool :=
  Region.noSelect ops && Region.free md ops listed i && (Region.ready md ops listed).contains i && decide (i < n) && sinkR md ops n listed && Region.chainB md ops n && decide (n < ops.size) && invB md ops n listed
/-- A take, where the operations that may come up late have come up already. -/
theorem N_takeR {l : List Oper} {i : Nat} {oi : Oper} {d : Option Tmp} {v : Value} {fuel : Nat} {listed : Array Bool} {a : Act} {w : World} (hi : l[i]? = some oi) (hd : oi.dst = d) (hB : takeRB md l.toArray n listed i = true)
    (hQ : ∀ c a w, Q (.panic c) (a.put d v) w → Q (.panic c) a w) (hy : YieldsIf P l.toArray S oi v a) (hS : S w)
    (h : wpAnyN P md l.toArray Q S n fuel (listed.setIfInBounds i true) (a.put d v) w) : wpAnyN P md l.toArray Q S n (fuel + 1) listed a w := by
  subst hd
  have hi' : l.toArray[i]? = some oi := by simpa using hi
  simp only [takeRB, Bool.and_eq_true, decide_eq_true_eq] at hB
  obtain ⟨⟨⟨⟨⟨⟨⟨b1, b2⟩, b3⟩, b4⟩, b5⟩, b6⟩, b7⟩, b8⟩ := hB
  exact wpAnyN_firstR (L := listed) hi' (Region.noSelect_spec b1) b5 b6 b7 b4 hQ fuel listed a w (invB_spec b8) (fun _ h => h) (Region.free_spec hi' b2) (by simpa using b3) hy hS h

/-- The call of a function, the arguments known. -/
def Enters (P : Program) (o : Oper) (a : Act) (f : FuncId) (args : Array Value) : Prop := ∀ w : World, (execOp a.eval o).run P w = .ok (.enter f args) w
/-- A value's block is new. -/
def InNew (w w' : World) (v : Value) : Prop := ∀ b, v.ownBlock = some b → w.heap.size ≤ b ∧ b < w'.heap.size
/-- Two values lie in two blocks. -/
def Off (v u : Value) : Prop := ∀ b, v.ownBlock = some b → u.ownBlock ≠ some b
/-- What comes of a call. -/
def Makes (P : Program) (I : World → Prop) (R : Value → World → Prop) (f : FuncId) (args : Array Value) : Prop :=
  ∀ w, I w → Calls P f args w fun e w' => ∃ v, e = .returned v ∧ I w' ∧ Below w.heap.size w w' ∧ R v w' ∧ InNew w w' v
/-- What is so stays so while what lay stays. -/
def Lasts (R : Value → World → Prop) : Prop := ∀ v w w', R v w → Below w.heap.size w w' → R v w'
theorem InNew.late {a b c : World} {v : Value} (h : InNew b c v) (k : Below a.heap.size a b) : InNew a c v := fun x hx => ⟨Nat.le_trans k.size (h x hx).1, (h x hx).2⟩
theorem InNew.early {a b c : World} {v : Value} (h : InNew a b v) (k : Below b.heap.size b c) : InNew a c v := fun x hx => ⟨(h x hx).1, Nat.lt_of_lt_of_le (h x hx).2 k.size⟩
theorem InNew.off {a b c : World} {v u : Value} (h : InNew a b v) (k : InNew b c u) : Off v u := fun x hx hy => by have := (h x hx).2; have := (k x hy).1; omega
theorem Off.symm {v u : Value} (h : Off v u) : Off u v := fun x hx hy => h x hy hx

theorem Enters.put {o : Oper} {a : Act} {f : FuncId} {args : Array Value} {d : Option Tmp} {v : Value} (h : Enters P o a f args) (hs : ∀ cs b, o.op ≠ .select cs b) (hd : ∀ t, d = some t → t ∉ o.looksAt ops) : Enters P o (a.put d v) f args := by
  intro w
  rw [execOp_put o hs a d v hd]
  exact h w
theorem wpOp_enter {i : Nat} {o : Oper} {a : Act} {w : World} {K : Act → World → Prop} {f : FuncId} {args : Array Value} (ho : ops[i]? = some o) (hg : o.guard = none) (h : Enters P o a f args)
    {R : Value → World → Prop} (hc : Calls P f args w fun e w' => ∃ v, e = .returned v ∧ R v w') (hK : ∀ v w', R v w' → K (a.put o.dst v) w') : wpOp P ops Q i K a w := by
  unfold wpOp
  simp only [ho]
  have hw : Region.wanted o (yielded ops a.tmps) = true := by simp [Region.wanted, hg]
  rw [if_pos hw]
  refine .inl ?_
  unfold Oper.wp
  rw [h w]
  simp only [Oper.upon]
  exact Calls.mono hc fun e w' ⟨v, he, hv⟩ => by subst he; exact hK v w' hv

def callsB1 (md : Region.Mode) (ops : Array Oper) (listed : Array Bool) (i : Nat) : Bool := Region.ready md ops listed == [i]
theorem N_call1 {i : Nat} {oi : Oper} {fi : FuncId} {ai : Array Value} {fuel : Nat} {listed : Array Bool} {a : Act} {w : World} {I : World → Prop} {Ri : Value → World → Prop}
    (hi : ops[i]? = some oi) (gi : oi.guard = none) (hB : callsB1 md ops listed i = true) (hS : ∀ w, I w → S w) (hI : I w) (ei : Enters P oi a fi ai) (mi : Makes P I Ri fi ai)
    (h : ∀ vi w', I w' → Below w.heap.size w w' → Ri vi w' → InNew w w' vi → wpAnyN P md ops Q S n fuel (listed.setIfInBounds i true) (a.put oi.dst vi) w') : wpAnyN P md ops Q S n (fuel + 1) listed a w := by
  have hr : Region.ready md ops listed = [i] := by simpa [callsB1] using hB
  refine ⟨fun h0 => (by rw [hr] at h0; cases h0), fun x hx => ?_⟩
  rw [hr] at hx
  obtain rfl : x = i := by simpa using hx
  exact wpOp_enter hi gi ei (mi w hI) fun v w' ⟨h1, h2, h3, h4⟩ => ⟨fun _ => hS _ h1, h v w' h1 h2 h3 h4⟩

def callsB2 (md : Region.Mode) (ops : Array Oper) (listed : Array Bool) (i j : Nat) : Bool :=
  Region.ready md ops listed == [i, j] && callsB1 md ops (listed.setIfInBounds i true) j && callsB1 md ops (listed.setIfInBounds j true) i && decide (i ≠ j) && Region.noSelect ops &&
    (match ops[i]?, ops[j]? with
     | some x, some y => x.apart ops y
     | _, _ => false)
theorem N_call2 {i j : Nat} {oi oj : Oper} {fi fj : FuncId} {ai aj : Array Value} {fuel : Nat} {listed : Array Bool} {a : Act} {w : World} {I : World → Prop} {Ri Rj : Value → World → Prop}
    (hi : ops[i]? = some oi) (hj : ops[j]? = some oj) (gi : oi.guard = none) (gj : oj.guard = none) (hB : callsB2 md ops listed i j = true) (hS : ∀ w, I w → S w) (hI : I w) (li : Lasts Ri) (lj : Lasts Rj)
    (ei : Enters P oi a fi ai) (mi : Makes P I Ri fi ai) (ej : Enters P oj a fj aj) (mj : Makes P I Rj fj aj)
    (h : ∀ vi vj w', I w' → Below w.heap.size w w' → Ri vi w' ∧ InNew w w' vi → Rj vj w' ∧ InNew w w' vj → Off vi vj → wpAnyN P md ops Q S n fuel ((listed.setIfInBounds i true).setIfInBounds j true) ((a.put oi.dst vi).put oj.dst vj) w') : wpAnyN P md ops Q S n (fuel + 1 + 1) listed a w := by
  simp only [callsB2, Bool.and_eq_true, decide_eq_true_eq, hi, hj] at hB
  obtain ⟨⟨⟨⟨⟨b1, b2⟩, b3⟩, b4⟩, b5⟩, b6⟩ := hB
  have hr : Region.ready md ops listed = [i, j] := by simpa using b1
  have hsel := Region.noSelect_spec b5
  obtain ⟨p1, p2, p3⟩ := Oper.apart_spec b6
  have hc : (listed.setIfInBounds j true).setIfInBounds i true = (listed.setIfInBounds i true).setIfInBounds j true := Array.setIfInBounds_comm _ _ (Ne.symm b4)
  refine ⟨fun h0 => (by rw [hr] at h0; cases h0), fun x hx => ?_⟩
  rw [hr] at hx
  rcases List.mem_cons.1 hx with rfl | hx
  · exact wpOp_enter hi gi ei (mi w hI) fun v w' ⟨h1, h2, h3, h4⟩ => ⟨fun _ => hS _ h1,
      N_call1 hj gj b2 hS h1 (ej.put (fun cs b => hsel _ _ cs b hj) p1) mj fun u w'' k1 k2 k3 k4 => h v u w'' k1 (below_trans h2 k2) ⟨li _ _ _ h3 k2, h4.early k2⟩ ⟨k3, k4.late h2⟩ (h4.off k4)⟩
  · obtain rfl : x = j := by simpa using hx
    exact wpOp_enter hj gj ej (mj w hI) fun v w' ⟨h1, h2, h3, h4⟩ => ⟨fun _ => hS _ h1,
      N_call1 hi gi b3 hS h1 (ei.put (fun cs b => hsel _ _ cs b hi) p3) mi fun u w'' k1 k2 k3 k4 => by
        rw [hc, ← Act.put_comm a u v p2]
        exact h u v w'' k1 (below_trans h2 k2) ⟨k3, k4.late h2⟩ ⟨lj _ _ _ h3 k2, h4.early k2⟩ (h4.off k4).symm⟩

def callsB3 (md : Region.Mode) (ops : Array Oper) (listed : Array Bool) (i j k : Nat) : Bool :=
  Region.ready md ops listed == [i, j, k] && callsB2 md ops (listed.setIfInBounds i true) j k && callsB2 md ops (listed.setIfInBounds j true) i k && callsB2 md ops (listed.setIfInBounds k true) i j && decide (i ≠ j ∧ i ≠ k ∧ j ≠ k)
theorem callsB2_apart {listed : Array Bool} {i j : Nat} {oi oj : Oper} (hB : callsB2 md ops listed i j = true) (hi : ops[i]? = some oi) (hj : ops[j]? = some oj) :
    (∀ (j : Nat) (o : Oper) cs b, ops[j]? = some o → o.op ≠ .select cs b) ∧ (∀ d, oi.dst = some d → d ∉ oj.looksAt ops) ∧ (∀ d, oi.dst = some d → oj.dst ≠ some d) ∧ (∀ d, oj.dst = some d → d ∉ oi.looksAt ops) := by
  simp only [callsB2, Bool.and_eq_true, hi, hj] at hB
  exact ⟨Region.noSelect_spec hB.1.2, Oper.apart_spec hB.2⟩
theorem N_call3 {i j k : Nat} {oi oj ok : Oper} {fi fj fk : FuncId} {ai aj ak : Array Value} {fuel : Nat} {listed : Array Bool} {a : Act} {w : World} {I : World → Prop} {Ri Rj Rk : Value → World → Prop}
    (hi : ops[i]? = some oi) (hj : ops[j]? = some oj) (hk : ops[k]? = some ok) (gi : oi.guard = none) (gj : oj.guard = none) (gk : ok.guard = none) (hB : callsB3 md ops listed i j k = true) (hS : ∀ w, I w → S w) (hI : I w)
    (li : Lasts Ri) (lj : Lasts Rj) (lk : Lasts Rk)
    (ei : Enters P oi a fi ai) (mi : Makes P I Ri fi ai) (ej : Enters P oj a fj aj) (mj : Makes P I Rj fj aj) (ek : Enters P ok a fk ak) (mk : Makes P I Rk fk ak)
    (h : ∀ vi vj vk w', I w' → Below w.heap.size w w' → Ri vi w' ∧ InNew w w' vi → Rj vj w' ∧ InNew w w' vj → Rk vk w' ∧ InNew w w' vk → Off vi vj ∧ Off vi vk ∧ Off vj vk →
      wpAnyN P md ops Q S n fuel (((listed.setIfInBounds i true).setIfInBounds j true).setIfInBounds k true) (((a.put oi.dst vi).put oj.dst vj).put ok.dst vk) w') :
    wpAnyN P md ops Q S n (fuel + 1 + 1 + 1) listed a w := by
  simp only [callsB3, Bool.and_eq_true, decide_eq_true_eq] at hB
  obtain ⟨⟨⟨⟨b1, b2⟩, b3⟩, b4⟩, e1, e2, e3⟩ := hB
  have hr : Region.ready md ops listed = [i, j, k] := by simpa using b1
  obtain ⟨hsel, q1, q2, q3⟩ := callsB2_apart b4 hi hj
  obtain ⟨_, r1, r2, r3⟩ := callsB2_apart b3 hi hk
  obtain ⟨_, s1, s2, s3⟩ := callsB2_apart b2 hj hk
  have cji : (listed.setIfInBounds j true).setIfInBounds i true = (listed.setIfInBounds i true).setIfInBounds j true := Array.setIfInBounds_comm _ _ (Ne.symm e1)
  have cki : (listed.setIfInBounds k true).setIfInBounds i true = (listed.setIfInBounds i true).setIfInBounds k true := Array.setIfInBounds_comm _ _ (Ne.symm e2)
  refine ⟨fun h0 => (by rw [hr] at h0; cases h0), fun x hx => ?_⟩
  rw [hr] at hx
  rcases List.mem_cons.1 hx with rfl | hx
  · exact wpOp_enter hi gi ei (mi w hI) fun v w' ⟨h1, h2, h3, h4⟩ => ⟨fun _ => hS _ h1,
      N_call2 hj hk gj gk b2 hS h1 lj lk (ej.put (fun cs b => hsel _ _ cs b hj) q1) mj (ek.put (fun cs b => hsel _ _ cs b hk) r1) mk fun u x w'' k1 k2 k3 k4 k5 =>
        h v u x w'' k1 (below_trans h2 k2) ⟨li _ _ _ h3 k2, h4.early k2⟩ ⟨k3.1, k3.2.late h2⟩ ⟨k4.1, k4.2.late h2⟩ ⟨h4.off k3.2, h4.off k4.2, k5⟩⟩
  rcases List.mem_cons.1 hx with rfl | hx
  · exact wpOp_enter hj gj ej (mj w hI) fun v w' ⟨h1, h2, h3, h4⟩ => ⟨fun _ => hS _ h1,
      N_call2 hi hk gi gk b3 hS h1 li lk (ei.put (fun cs b => hsel _ _ cs b hi) q3) mi (ek.put (fun cs b => hsel _ _ cs b hk) s1) mk fun u x w'' k1 k2 k3 k4 k5 => by
        rw [cji, ← Act.put_comm a u v q2]
        exact h u v x w'' k1 (below_trans h2 k2) ⟨k3.1, k3.2.late h2⟩ ⟨lj _ _ _ h3 k2, h4.early k2⟩ ⟨k4.1, k4.2.late h2⟩ ⟨(h4.off k3.2).symm, k5, h4.off k4.2⟩⟩
  · obtain rfl : x = k := by simpa using hx
    exact wpOp_enter hk gk ek (mk w hI) fun v w' ⟨h1, h2, h3, h4⟩ => ⟨fun _ => hS _ h1,
      N_call2 hi hj gi gj b4 hS h1 li lj (ei.put (fun cs b => hsel _ _ cs b hi) r3) mi (ej.put (fun cs b => hsel _ _ cs b hj) s3) mj fun u x w'' k1 k2 k3 k4 k5 => by
        rw [cki, Array.setIfInBounds_comm _ _ (Ne.symm e3), ← Act.put_comm a u v r2, ← Act.put_comm _ x v s2]
        exact h u x v w'' k1 (below_trans h2 k2) ⟨k3.1, k3.2.late h2⟩ ⟨k4.1, k4.2.late h2⟩ ⟨lk _ _ _ h3 k2, h4.early k2⟩ ⟨k5, (h4.off k3.2).symm, (h4.off k4.2).symm⟩⟩
theorem N_call1' {l : List Oper} {i : Nat} {oi : Oper} {fi : FuncId} {ai : Array Value} {fuel : Nat} {listed : Array Bool} {a : Act} {w : World} {I : World → Prop} {Ri : Value → World → Prop}
    (hi : l[i]? = some oi) (gi : oi.guard = none) (hB : callsB1 md l.toArray listed i = true) (hS : ∀ w, I w → S w) (hI : I w) (ei : Enters P oi a fi ai) (mi : Makes P I Ri fi ai)
    (h : ∀ vi w', I w' → Below w.heap.size w w' → Ri vi w' → InNew w w' vi → wpAnyN P md l.toArray Q S n fuel (listed.setIfInBounds i true) (a.put oi.dst vi) w') : wpAnyN P md l.toArray Q S n (fuel + 1) listed a w :=
  N_call1 (by simpa using hi) gi hB hS hI ei mi h
theorem N_call2' {l : List Oper} {i j : Nat} {oi oj : Oper} {fi fj : FuncId} {ai aj : Array Value} {fuel : Nat} {listed : Array Bool} {a : Act} {w : World} {I : World → Prop} {Ri Rj : Value → World → Prop}
    (hi : l[i]? = some oi) (hj : l[j]? = some oj) (gi : oi.guard = none) (gj : oj.guard = none) (hB : callsB2 md l.toArray listed i j = true) (hS : ∀ w, I w → S w) (hI : I w) (li : Lasts Ri) (lj : Lasts Rj)
    (ei : Enters P oi a fi ai) (mi : Makes P I Ri fi ai) (ej : Enters P oj a fj aj) (mj : Makes P I Rj fj aj)
    (h : ∀ vi vj w', I w' → Below w.heap.size w w' → Ri vi w' ∧ InNew w w' vi → Rj vj w' ∧ InNew w w' vj → Off vi vj → wpAnyN P md l.toArray Q S n fuel ((listed.setIfInBounds i true).setIfInBounds j true) ((a.put oi.dst vi).put oj.dst vj) w') : wpAnyN P md l.toArray Q S n (fuel + 1 + 1) listed a w :=
  N_call2 (by simpa using hi) (by simpa using hj) gi gj hB hS hI li lj ei mi ej mj h
theorem N_call3' {l : List Oper} {i j k : Nat} {oi oj ok : Oper} {fi fj fk : FuncId} {ai aj ak : Array Value} {fuel : Nat} {listed : Array Bool} {a : Act} {w : World} {I : World → Prop} {Ri Rj Rk : Value → World → Prop}
    (hi : l[i]? = some oi) (hj : l[j]? = some oj) (hk : l[k]? = some ok) (gi : oi.guard = none) (gj : oj.guard = none) (gk : ok.guard = none) (hB : callsB3 md l.toArray listed i j k = true) (hS : ∀ w, I w → S w) (hI : I w)
    (li : Lasts Ri) (lj : Lasts Rj) (lk : Lasts Rk)
    (ei : Enters P oi a fi ai) (mi : Makes P I Ri fi ai) (ej : Enters P oj a fj aj) (mj : Makes P I Rj fj aj) (ek : Enters P ok a fk ak) (mk : Makes P I Rk fk ak)
    (h : ∀ vi vj vk w', I w' → Below w.heap.size w w' → Ri vi w' ∧ InNew w w' vi → Rj vj w' ∧ InNew w w' vj → Rk vk w' ∧ InNew w w' vk → Off vi vj ∧ Off vi vk ∧ Off vj vk →
      wpAnyN P md l.toArray Q S n fuel (((listed.setIfInBounds i true).setIfInBounds j true).setIfInBounds k true) (((a.put oi.dst vi).put oj.dst vj).put ok.dst vk) w') :
    wpAnyN P md l.toArray Q S n (fuel + 1 + 1 + 1) listed a w :=
  N_call3 (by simpa using hi) (by simpa using hj) (by simpa using hk) gi gj gk hB hS hI li lj lk ei mi ej mj ek mk h
end
end Go.Proofs.Ytgifclphigpnhaa

set_option maxRecDepth 100000
namespace Go.Proofs.Ytgifclphigpnhaa
open Go.RowKit Go.Shelf Go.BigFrame

theorem owns_in {w w' : World} {e : TypeId} {s n : Nat} {v : Value} {cs : List Value} (h : w'.ownsRow w.heap.size e s v n cs) : InNew w w' v := h.lt
theorem owns_lasts {b : Nat} {e : TypeId} {s n : Nat} {cs : List Value} : Lasts (fun v w => w.ownsRow b e s v n cs) := fun _ _ _ h k => owns_below h k

end Go.Proofs.Ytgifclphigpnhaa
