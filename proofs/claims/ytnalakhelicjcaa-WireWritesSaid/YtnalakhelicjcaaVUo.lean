/-
  A right world can be written, and is not long.
-/
import Derived.Test.YtnalakhelicjcaaVUA
import Derived.Test.YtnalakhelicjcaaVKP
import Derived.Test.YtnalakhelicjcaaVKS2
set_option maxRecDepth 100000
namespace Go.Proofs.Ytnalakhelicjcaa
open Go.RowKit

theorem okM_of {K : Int} {gs : List Int} {m : M} (hk : gErr K gs = 0) (h : msgE K gs m = 0) : okM m := by
  have h1 := gErr_small hk
  unfold msgE at h
  rw [if_pos hk] at h
  unfold rightE at h
  split at h
  · rename_i hi
    obtain ⟨a1, a2, a3, a4, a5, a6⟩ := hi
    split at h
    · split at h
      · cases h
      · exact ⟨⟨a1, by omega⟩, ⟨a3, by omega⟩, by omega, by omega, by omega⟩
    · cases h
  · cases h
theorem right_ok {X : Wd} (h : errX X = 0) : okX X := by
  have hr := right_iff.1 h
  have hg := gErr_small hr.grp
  have hgs : ∀ g ∈ X.groups, 0 ≤ g ∧ g ≤ 255 := fun g hg' => by
    have h2 := hr.grp
    unfold gErr at h2
    split at h2
    · cases h2
    split at h2
    · cases h2
    split at h2
    · cases h2
    rename_i h3
    have h4 : gAll X.nodes.length X.groups = true := by simpa using h3
    have h5 := List.all_eq_true.1 h4 g hg'
    unfold inB at h5
    have h6 : (1 : Int) ≤ g ∧ g ≤ pow2 (X.nodes.length : Int) - 1 := by simpa using h5
    have h7 : pow2 (X.nodes.length : Int) ≤ 16 := by
      have : X.nodes.length = 0 ∨ X.nodes.length = 1 ∨ X.nodes.length = 2 ∨ X.nodes.length = 3 ∨ X.nodes.length = 4 := by omega
      rcases this with e | e | e | e | e <;> rw [e] <;> decide
    omega
  have hl : ∀ {n : Nat} {l : List M}, ListR X.nodes.length X.groups n l → okL l := fun hL => ⟨by have := hL.many; omega, fun m hm => okM_of hr.grp (hL.fine m hm).2.1⟩
  refine ⟨⟨by omega, hgs⟩, by omega, fun x hx => ?_, hr.nw, fun r hr' => ?_⟩
  · obtain ⟨n, hn, rfl⟩ := List.mem_iff_getElem.1 hx
    have hN := hr.node n hn
    rw [getD_lt _ _ hn] at hN
    refine ⟨⟨hN.clock.1, by have := hN.clock.2; omega⟩, ⟨hN.len, fun r hr' => ?_⟩, hl hN.held, hl hN.told⟩
    obtain ⟨g, hg', rfl⟩ := List.mem_iff_getElem.1 hr'
    have hg2 : g < X.groups.length := by rw [← hN.len]; exact hg'
    have h1 := hN.rows g hg2
    rw [getD_lt _ _ hg'] at h1
    refine ⟨h1, fun c hc => ?_⟩
    obtain ⟨k, hk, rfl⟩ := List.mem_iff_getElem.1 hc
    have h2 := (hN.cells g k hg2 (by rw [← h1]; exact hk)).1
    rw [getD_lt _ [] hg', getD_lt _ _ hk] at h2
    exact ⟨h2.1, by have := h2.2; omega⟩
  · obtain ⟨a, ha, rfl⟩ := List.mem_iff_getElem.1 hr'
    have ha2 : a < X.nodes.length := by rw [← hr.nw]; exact ha
    have h1 := hr.row a ha2
    rw [getD_lt _ _ ha] at h1
    refine ⟨h1, fun l hl' => ?_⟩
    obtain ⟨b, hb, rfl⟩ := List.mem_iff_getElem.1 hl'
    have hW := hr.wire a b ha2 (by rw [← h1]; exact hb)
    unfold wireL at hW
    rw [getD_lt _ _ ha, getD_lt _ _ hb] at hW
    exact ⟨by have := hW.many; omega, fun m hm => okM_of hr.grp (hW.fine m hm).1⟩
theorem fmap_len {α β : Type} {f : α → List β} {c : Nat} : ∀ {l : List α}, (∀ x ∈ l, (f x).length ≤ c) → (l.flatMap f).length ≤ l.length * c
  | [], _ => by simp
  | a :: l, h => by
    have h1 := h a (List.mem_cons_self ..)
    have h2 := fmap_len (l := l) (fun x hx => h x (List.mem_cons_of_mem _ hx))
    rw [List.flatMap_cons, List.length_append, List.length_cons, Nat.add_mul]
    omega
theorem bMsgs_len {l : List M} (h : l.length ≤ 40) (hm : ∀ m ∈ l, m.body.size ≤ 255) : (bMsgs l).length ≤ 10481 := by
  have h1 := fmap_len (f := bMsg) (l := l) (c := 262) (fun m hm' => by
    have := hm m hm'
    unfold bMsg bSmall bWide
    simp only [List.length_append, List.length_cons, List.length_nil, numsOf_len]
    omega)
  unfold bMsgs bSmall
  rw [List.length_append, List.length_cons, List.length_nil]
  omega
/-- The lengths of what is written. -/
structure Short (X : Wd) : Prop where
  g : X.groups.length ≤ 3
  n : X.nodes.length ≤ 4
  w : X.wires.length ≤ 4
  node : ∀ x ∈ X.nodes, (bNode x).length ≤ 21001
  row : ∀ r ∈ X.wires, r.length ≤ 4
  list : ∀ r ∈ X.wires, ∀ l ∈ r, (bMsgs l).length ≤ 10481
  tab : ∀ x ∈ X.nodes, x.last.length ≤ 3 ∧ ∀ r ∈ x.last, r.length ≤ 4
  held : ∀ x ∈ X.nodes, (bMsgs x.held).length ≤ 10481 ∧ (bMsgs x.told).length ≤ 10481
theorem right_short {X : Wd} (h : errX X = 0) : Short X := by
  have hF := errX_fit h
  obtain ⟨h1, h2, h3, h4, h5⟩ := right_ok h
  have hL : ∀ x ∈ X.nodes, (bMsgs x.held).length ≤ 10481 ∧ (bMsgs x.told).length ≤ 10481 := fun x hx =>
    ⟨bMsgs_len (hF.lists x hx).1 (fun m hm => ((h3 x hx).2.2.1.2 m hm).2.2.1), bMsgs_len (hF.lists x hx).2 (fun m hm => ((h3 x hx).2.2.2.2 m hm).2.2.1)⟩
  have hT : ∀ x ∈ X.nodes, x.last.length ≤ 3 ∧ ∀ r ∈ x.last, r.length ≤ 4 := fun x hx => ⟨by have := (hF.tabs x hx).1; have := hF.groups; omega, fun r hr => by have := (hF.tabs x hx).2 r hr; have := hF.nodes; omega⟩
  refine ⟨hF.groups, hF.nodes, by have := hF.wires; have := hF.nodes; omega, fun x hx => ?_, fun r hr => by have := hF.rows r hr; have := hF.nodes; omega, fun r hr l hl => bMsgs_len (hF.wl r hr l hl) (fun m hm => (((h5 r hr).2 l hl).2 m hm).2.2.1), hT, hL⟩
  have a1 := fmap_len (f := fun r : List Int => r.flatMap bWide) (l := x.last) (c := 12) (fun r hr => by
    have h6 := fmap_len (f := bWide) (l := r) (c := 3) (fun _ _ => Nat.le_refl _)
    have := (hT x hx).2 r hr
    omega)
  have a2 := (hT x hx).1
  have a3 := hL x hx
  unfold bNode
  simp only [List.length_append]
  have a4 : (bWide x.clock).length = 3 := rfl
  omega
end Go.Proofs.Ytnalakhelicjcaa
