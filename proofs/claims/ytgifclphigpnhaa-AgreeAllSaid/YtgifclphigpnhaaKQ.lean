/-
  The program: a node of a world of one's own holds a message, and is told what is ready.
  A world of the call's own: one message more on a wire.
-/
import Derived.Test.YtgifclphigpnhaaKP
import Derived.Test.YtgifclphigpnhaaKN
import Derived.Test.YtgifclphigpnhaaKB
import Derived.Test.YtgifclphigpnhaaKC
set_option maxRecDepth 100000
namespace Go.Proofs.Ytgifclphigpnhaa
open Go.RowKit Go.Shelf Go.BigFrame

/-- What comes: an error; the world, if there is none. -/
def HoldPost (o : Bool) (w : World) (S : Nat → Prop) (gv nv wv : Value) (r : Int × Wd) (e : Ending) (w' : World) : Prop :=
  e = .returned (.int .i64 r.1) ∧ Within S w w' ∧ (r.1 = 0 → ∃ S', OWd o w' S' gv nv wv r.2 ∧ ∀ c, S' c → (S c ∨ w.heap.size ≤ c) ∧ c < w'.heap.size)

/-- A node's held list may be set: to one of the call's own. -/
theorem OWd.held_at {o : Bool} {w : World} {S : Nat → Prop} {gv nv wv : Value} {X : Wd} (hW : OWd o w S gv nv wv X) (hSl : ∀ c, S c → c < w.heap.size) {n : Nat} (hn1 : n < X.nodes.length) :
    ∃ (g cap : Nat) (hv : Value), nv = .slice (some ⟨g, 0, none⟩) X.nodes.length cap ∧ X.nodes.length ≤ cap ∧ S g ∧ g < w.heap.size ∧ BlkIs w g 43 (cap * 4) ∧ w.cell? ⟨g, n * 4 + 2, none⟩ = some hv ∧
      Msgs w hv (X.nodes.getD n N.zero).held ∧
      ∀ w7 v7 hl, Below w.heap.size w w7 → MsgsOwn w7 w.heap.size v7 hl → hl.length ≤ 100000 →
        Within S w (w7.setCell ⟨g, n * 4 + 2, none⟩ v7) ∧
        ∃ S', OWd o (w7.setCell ⟨g, n * 4 + 2, none⟩ v7) S' gv nv wv { X with nodes := X.nodes.set n { X.nodes.getD n N.zero with held := hl } } ∧
          ∀ c, S' c → (S c ∨ w.heap.size ≤ c) ∧ c < (w7.setCell ⟨g, n * 4 + 2, none⟩ v7).heap.size := by
  obtain ⟨g, ncap, lv, hv, tv, Tl, Th, Tt, rfl, hnc, hgS, hgl2, hgb, c0, c1, c2, c3, hI, hLo, hHo, hTo, sl, sh, st, d1, d2, d3, back⟩ := hW.node_at hn1
  refine ⟨g, ncap, hv, rfl, hnc, hgS, hgl2, hgb, c2, hHo.msgs, fun w7 v7 hl hb h7 hl7 => ?_⟩
  have hs7 := hb.size
  generalize hwF : w7.setCell ⟨g, n * 4 + 2, none⟩ v7 = wF
  have lF : ∀ c, c ≠ g → wF.heap[c]? = w7.heap[c]? := fun c hc => by rw [← hwF]; exact Go.Deep.blk_setCell_other _ _ _ _ hc
  have oF : ∀ c, c < w.heap.size → c ≠ g → wF.heap[c]? = w.heap[c]? := fun c hc hg => (lF c hg).trans (hb.block c hc)
  have hsF : wF.heap.size = w7.heap.size := by rw [← hwF, Go.Deep.nblk_setCell]
  have hwFi : Within S w wF := by
    rw [← hwF]
    exact (Within.of_below hb).setCell (a := ⟨g, n * 4 + 2, none⟩) hgS _
  have hB : BlkSet w wF g (n * 4) [.int .i64 (X.nodes.getD n N.zero).clock, lv, v7, tv] := by
    rw [← hwF]
    exact (BlkSet.same (w' := w7) (cs := [.int .i64 (X.nodes.getD n N.zero).clock, lv, hv, tv]) (hb.block g hgl2) (fun j hj => by
        match j, hj with
        | 0, _ => exact c0
        | 1, _ => exact c1
        | 2, _ => exact c2
        | 3, _ => exact c3)).set hgb 2 (by simp) (by simp; omega) v7
  have k7 := fun k (hk : v7.ownBlock = some k) => h7.lt k hk
  have o7 : OMsgs true wF (fun c => v7.ownBlock = some c) v7 hl := (MsgsOwn.own h7 (by omega)).keep (fun c hc => lF c (by have := k7 c hc; omega))
  have hX : ONodeEl wF (fun c => Tl c ∨ v7.ownBlock = some c ∨ Tt c) [.int .i64 (X.nodes.getD n N.zero).clock, lv, v7, tv] { X.nodes.getD n N.zero with held := hl } := by
    refine ⟨lv, _, _, Tl, _, Tt, rfl, hI, hLo.keep (fun c hc => oF c (hSl c (sl c hc).1) (sl c hc).2), o7, hTo.keep (fun c hc => oF c (hSl c (st c hc).1) (st c hc).2), fun _ h => Or.inl h, fun _ h => Or.inr (Or.inl h), fun _ h => Or.inr (Or.inr h), fun c h1 h2 => ?_, d2, fun c h1 h2 => ?_⟩
    · have := k7 c h2; have := hSl c (sl c h1).1; omega
    · have := k7 c h1; have := hSl c (st c h2).1; omega
  have := back _ _ _ _ (fun c hc => oF c (hSl c hc.1) hc.2.1) hB rfl hX (fun c hc => by
    rcases hc with h | h | h
    · exact Or.inl h
    · exact Or.inr (Or.inr (Or.inr (fun hs => by have := k7 c h; have := hSl c hs; omega)))
    · exact Or.inr (Or.inr (Or.inl h)))
  refine ⟨hwFi, _, this, fun c hc => ?_⟩
  rw [hsF]
  rcases hc with h | h | h | h
  · exact ⟨Or.inl h, by have := hSl c h; omega⟩
  · exact ⟨Or.inl (sl c h).1, by have := hSl c (sl c h).1; omega⟩
  · exact ⟨Or.inr (k7 c h).1, (k7 c h).2⟩
  · exact ⟨Or.inl (st c h).1, by have := hSl c (st c h).1; omega⟩

end Go.Proofs.Ytgifclphigpnhaa

set_option maxRecDepth 100000
namespace Go.Proofs.Ytgifclphigpnhaa
open Go.RowKit Go.Shelf Go.BigFrame

/-- A wire of a world of one's own: it reads; and one message more may be appended, and laid there. -/
theorem OWd.wire_push {w : World} {S : Nat → Prop} {gv nv wv : Value} {Y : Wd} (hW : OWd true w S gv nv wv Y) (hSl : ∀ c, S c → c < w.heap.size) {a k : Nat} (ha : a < Y.wires.length) (hk : k < (Y.wires.getD a []).length) (hl40 : (wireL Y a k).length ≤ 1000) :
    ∃ (g1 cap1 g2 cap2 : Nat) (ua : Option Addr) (uc : Nat), wv = .slice (some ⟨g1, 0, none⟩) Y.wires.length cap1 ∧ Y.wires.length ≤ cap1 ∧ S g1 ∧ w.cell? ⟨g1, a, none⟩ = some (.slice (some ⟨g2, 0, none⟩) (Y.wires.getD a []).length cap2) ∧ (Y.wires.getD a []).length ≤ cap2 ∧ S g2 ∧ BlkIs w g2 29 cap2 ∧
      w.cell? ⟨g2, k, none⟩ = some (.slice ua (wireL Y a k).length uc) ∧ Msgs w (.slice ua (wireL Y a k).length uc) (wireL Y a k) ∧
      ∀ (wq : World) (m : M) (B : Nat), m.fits → Below w.heap.size w wq → w.heap.size ≤ B → (∀ j u, m.cells[j]? = some u → wq.cell? ((⟨B, 0, none⟩ : Addr).add j) = some u) →
        ∃ (v9 : Value) (w9 : World) (a9 : Option Addr) (c9 : Nat), (∀ ty, (Builtin.append_ #[29, 29] ty #[.slice ua (wireL Y a k).length uc, .slice (some ⟨B, 0, none⟩) 1 1]).run Try.prog wq = .ok v9 w9) ∧ v9 = .slice a9 ((wireL Y a k).length + 1) c9 ∧ w9.frozen? ⟨g2, k, none⟩ = false ∧ w9.cell? ⟨g2, k, none⟩ = some (.slice ua (wireL Y a k).length uc) ∧ Within S w w9 ∧
          Within S w (w9.setCell ⟨g2, k, none⟩ v9) ∧ ∃ S9, OWd true (w9.setCell ⟨g2, k, none⟩ v9) S9 gv nv wv (wirePut Y a k (wireL Y a k ++ [m])) ∧ ∀ c, S9 c → (S c ∨ w.heap.size ≤ c) ∧ c < (w9.setCell ⟨g2, k, none⟩ v9).heap.size := by
  obtain ⟨g1, cap1, g2, cap2, u, T2, e1, h1, hg1S, hg1l, k1, hc2, hg2S, hg2l, hg2b, k2, hU, hT2, hg12, back⟩ := hW.wire_at (a := a) (k := k) ha hk
  have hUf : OMsgs true w T2 u (wireL Y a k) := hU
  obtain ⟨ua, uc, rfl, huc, _⟩ := OSl.form hUf
  refine ⟨g1, cap1, g2, cap2, ua, uc, e1, h1, hg1S, k1, hc2, hg2S, hg2b, k2, hUf.msgs, fun wq m B hm hb hB hcell => ?_⟩
  obtain ⟨i0, hi0, hz0, hz1, hz2⟩ := info_parts infoCMsg
  have hqs := hb.size
  have hTl : ∀ c, T2 c → c < w.heap.size := fun c hc => hSl c (hT2 c hc).1
  have hUq : OMsgs true wq T2 (.slice ua (wireL Y a k).length uc) (wireL Y a k) := hUf.keep (fun c hc => hb.block c (hTl c hc))
  obtain ⟨v9, w9, hr, hp⟩ := run_push (P := Try.prog) wq 29 0 28 i0 _ 5 48 Try.underlying29 hi0 hz0 hz1 hz2 rfl (by decide) MEl.stays _ T2 (wireL Y a k) hUq (fun c hc => by have := hTl c hc; omega) ⟨B, 0, none⟩ 1 m.cells rfl hcell (by simp [M.cells, Value.oneCell'])
    (fun _ => False) m ⟨rfl, hm⟩ (fun _ h => h.elim) (by omega) (by omega) (by omega)
  have hp9 := hp
  obtain ⟨⟨S8, h8, h8b⟩, hs9, hl9, hb9, a9, c9, rfl⟩ := hp
  have hk9 : ∀ c, c < w.heap.size → ¬ T2 c → w9.heap[c]? = w.heap[c]? := fun c hc hn => (hl9 c ⟨by omega, hn⟩).trans (hb.block c hc)
  have hg2n : ¬ T2 g2 := fun h => (hT2 g2 h).2.2 rfl
  have h29 := hk9 g2 hg2l hg2n
  have hW9 : Within S w w9 := by
    have hB0 := hb9 0 (fun _ _ => Nat.zero_le _) (Nat.zero_le _)
    refine ⟨hB0.os.trans hb.os, hB0.tape.trans hb.tape, hB0.output.trans hb.output, by omega, fun c hc hs => hk9 c hc (fun h => hs (hT2 c h).1)⟩
  have hWF := hW9.setCell (a := ⟨g2, k, none⟩) hg2S (.slice a9 ((wireL Y a k).length + 1) c9)
  refine ⟨_, w9, a9, c9, fun ty => hr, rfl, (hg2b.same h29).frozen k, (World.cell?_of_block (w := w) (a := ⟨g2, k, none⟩) h29).trans k2, hW9, hWF, ?_⟩
  have hwF : (w9.setCell ⟨g2, k, none⟩ (.slice a9 ((wireL Y a k).length + 1) c9)).heap.size = w9.heap.size := Go.Deep.nblk_setCell _ _ _
  have hS8 : ∀ c, S8 c → (T2 c ∨ w.heap.size ≤ c) ∧ c < w9.heap.size := fun c hc => by
    obtain ⟨h, h2⟩ := h8b c hc
    refine ⟨?_, h2⟩
    rcases h with h | h | h
    · exact Or.inl h
    · exact h.elim
    · exact Or.inr (by omega)
  have hkF : ∀ c, c < w.heap.size → ¬ T2 c → c ≠ g2 → (w9.setCell ⟨g2, k, none⟩ (.slice a9 ((wireL Y a k).length + 1) c9)).heap[c]? = w.heap[c]? := fun c hc hn hg => (Go.Deep.blk_setCell_other _ _ _ _ hg).trans (hk9 c hc hn)
  refine ⟨_, back _ S8 _ (wireL Y a k ++ [m]) (fun c hc => hkF c (hSl c hc.1) hc.2.2 hc.2.1) ((BlkSet.same (cs := [.slice ua (wireL Y a k).length uc]) h29 (fun j hj => ?_)).set hg2b 0 (by simp) (by simp; omega) _) (OMsgs.keep h8 (fun c hc => Go.Deep.blk_setCell_other _ _ _ _ ?_)) (fun c hc => ?_), fun c hc => ?_⟩
  · obtain rfl : j = 0 := by simpa using hj
    exact k2
  · show c ≠ g2
    rcases (hS8 c hc).1 with h | h
    · exact (hT2 c h).2.2
    · omega
  · rcases (hS8 c hc).1 with h | h
    · exact Or.inl h
    · exact Or.inr (fun hs => by have := hSl c hs; omega)
  · rw [hwF]
    rcases hc with h | h
    · exact ⟨Or.inl h, by have := hSl c h; omega⟩
    · refine ⟨?_, (hS8 c h).2⟩
      rcases (hS8 c h).1 with h' | h'
      · exact Or.inl (hT2 c h').1
      · exact Or.inr h'
end Go.Proofs.Ytgifclphigpnhaa
