/-
  What the document's ear makes of bytes: the same as what is read, wherever something is read.
-/
import Derived.Test.YtnalakhelicjcaaVUC
import Derived.Test.YtnalakhelicjcaaVUb
set_option maxRecDepth 100000
namespace Go.Proofs.Ytnalakhelicjcaa
open Go.RowKit Go.Shelf Go.BigFrame Go.Deep

def enode (G K : Nat) : Ear N := fun l =>
  (⟨(threeE l).1, (emany (emany threeE K) G (threeE l).2).1, (emsgs (emany (emany threeE K) G (threeE l).2).2).1, (emsgs (emsgs (emany (emany threeE K) G (threeE l).2).2).2).1⟩, (emsgs (emsgs (emany (emany threeE K) G (threeE l).2).2).2).2)
theorem enode_at {G K : Nat} {l l1 l2 l3 l4 : List Int} {c : Int} {r : List (List Int)} {h t : List M} (e1 : threeE l = (c, l1)) (e2 : emany (emany threeE K) G l1 = (r, l2)) (e3 : emsgs l2 = (h, l3)) (e4 : emsgs l3 = (t, l4)) : enode G K l = (⟨c, r, h, t⟩, l4) := by
  unfold enode
  simp only [e1, e2, e3, e4]
def eworld : Ear Wd := fun l =>
  (⟨(emany byteE (byteE l).1.toNat (byteE l).2).1,
    (emany (enode (byteE l).1.toNat (byteE (emany byteE (byteE l).1.toNat (byteE l).2).2).1.toNat) (byteE (emany byteE (byteE l).1.toNat (byteE l).2).2).1.toNat (byteE (emany byteE (byteE l).1.toNat (byteE l).2).2).2).1,
    (emany (emany emsgs (byteE (emany byteE (byteE l).1.toNat (byteE l).2).2).1.toNat) (byteE (emany byteE (byteE l).1.toNat (byteE l).2).2).1.toNat (emany (enode (byteE l).1.toNat (byteE (emany byteE (byteE l).1.toNat (byteE l).2).2).1.toNat) (byteE (emany byteE (byteE l).1.toNat (byteE l).2).2).1.toNat (byteE (emany byteE (byteE l).1.toNat (byteE l).2).2).2).2).1⟩,
   (emany (emany emsgs (byteE (emany byteE (byteE l).1.toNat (byteE l).2).2).1.toNat) (byteE (emany byteE (byteE l).1.toNat (byteE l).2).2).1.toNat (emany (enode (byteE l).1.toNat (byteE (emany byteE (byteE l).1.toNat (byteE l).2).2).1.toNat) (byteE (emany byteE (byteE l).1.toNat (byteE l).2).2).1.toNat (byteE (emany byteE (byteE l).1.toNat (byteE l).2).2).2).2).2)
theorem eworld_at {l l1 l2 l3 l4 l5 : List Int} {g k : Int} {gs : List Int} {ns : List N} {ws : List (List (List M))} {G K : Nat} (e1 : byteE l = (g, l1)) (hg : g.toNat = G) (e2 : emany byteE G l1 = (gs, l2)) (e3 : byteE l2 = (k, l3)) (hk : k.toNat = K) (e4 : emany (enode G K) K l3 = (ns, l4)) (e5 : emany (emany emsgs K) K l4 = (ws, l5)) : eworld l = (⟨gs, ns, ws⟩, l5) := by
  unfold eworld
  simp only [e1, hg, e2, e3, hk, e4, e5]
/-- Where the reader reads, the ear hears the same. -/
def Hears {α : Type} (p : Rdr α) (e : Ear α) : Prop := ∀ l x t, p l = some (x, t) → e l = (x, t)
theorem Hears.many {α : Type} {p : Rdr α} {e : Ear α} (h : Hears p e) : ∀ n, Hears (manyP p n) (emany e n)
  | 0, l, x, t, hp => by
    obtain ⟨rfl, rfl⟩ := pureR_inv hp
    rfl
  | n + 1, l, x, t, hp => by
    obtain ⟨ys, u, h1, h2⟩ := bindR_inv hp
    obtain ⟨y, v, h3, h4⟩ := bindR_inv h2
    obtain ⟨rfl, rfl⟩ := pureR_inv h4
    have k1 := Hears.many h n l ys u h1
    have k2 := h u y v h3
    unfold emany
    rw [k1, k2]
theorem Hears.msg : Hears msgP emsg := fun l m t h => by
  obtain ⟨a, l1, e1, h⟩ := bindR_inv h
  obtain ⟨g, l2, e2, h⟩ := bindR_inv h
  obtain ⟨z, l3, e3, h⟩ := bindR_inv h
  split at h
  · cases h
  obtain ⟨n, l4, e4, h⟩ := bindR_inv h
  obtain ⟨b, l5, e5, h⟩ := bindR_inv h
  obtain ⟨s, l6, e6, h⟩ := bindR_inv h
  obtain ⟨rfl, rfl⟩ := pureR_inv h
  unfold takeP at e5
  split at e5
  · cases e5
  rename_i hn
  obtain ⟨rfl, rfl⟩ : l4.take n.toNat = b ∧ l4.drop n.toNat = l5 := by simpa using e5
  have hmin : (min n (l4.length : Int)).toNat = n.toNat := by omega
  unfold emsg
  simp only [byteE_small e1, byteE_small e2, byteE_small e3, byteE_small e4, hmin, threeE_wide e6]
theorem Hears.msgs : Hears msgsP emsgs := fun l x t h => by
  obtain ⟨n, l1, e1, h⟩ := bindR_inv h
  unfold emsgs
  rw [byteE_small e1]
  exact Hears.msg.many _ _ _ _ h
theorem Hears.node (G K : Nat) : Hears (nodeP G K) (enode G K) := fun l x t h => by
  obtain ⟨c, l1, e1, h⟩ := bindR_inv h
  obtain ⟨r, l2, e2, h⟩ := bindR_inv h
  obtain ⟨hh, l3, e3, h⟩ := bindR_inv h
  obtain ⟨tt, l4, e4, h⟩ := bindR_inv h
  obtain ⟨rfl, rfl⟩ := pureR_inv h
  exact enode_at (threeE_wide e1) ((Hears.many (Hears.many (fun _ _ _ => threeE_wide) K) G) _ _ _ e2) (Hears.msgs _ _ _ e3) (Hears.msgs _ _ _ e4)
theorem Hears.world : Hears worldP eworld := fun l x t h => by
  obtain ⟨g, l1, e1, h⟩ := bindR_inv h
  obtain ⟨gs, l2, e2, h⟩ := bindR_inv h
  obtain ⟨k, l3, e3, h⟩ := bindR_inv h
  obtain ⟨ns, l4, e4, h⟩ := bindR_inv h
  obtain ⟨ws, l5, e5, h⟩ := bindR_inv h
  obtain ⟨rfl, rfl⟩ := pureR_inv h
  rw [manyP_len e2] at e4
  exact eworld_at (byteE_small e1) rfl (Hears.many (fun _ _ _ => byteE_small) _ _ _ _ e2) (byteE_small e3) rfl (Hears.many (Hears.node _ _) _ _ _ _ e4) (Hears.many (Hears.many Hears.msgs _) _ _ _ _ e5)
/-- What WorldFrom answers. -/
def refW (l : List Int) : Bool × Wd := if errX (eworld l).1 = 0 ∧ bWorld (eworld l).1 = l then (true, (eworld l).1) else (false, Wd.none)
theorem refW_yes {l : List Int} (h : errX (eworld l).1 = 0) (h2 : bWorld (eworld l).1 = l) : refW l = (true, (eworld l).1) := if_pos ⟨h, h2⟩
theorem refW_no {l : List Int} (h : ¬ (errX (eworld l).1 = 0 ∧ bWorld (eworld l).1 = l)) : refW l = (false, Wd.none) := if_neg h
/-- What is read is what the document says. -/
theorem readW_ref {l : List Int} (ho : octs l) (h : l.length ≤ 4096) : readW l = (if (refW l).1 = true then 0 else 1, (refW l).2) := by
  by_cases hX : errX (eworld l).1 = 0 ∧ bWorld (eworld l).1 = l
  · rw [refW_yes hX.1 hX.2]
    have h1 := readW_back hX.1 (by rw [hX.2]; exact h)
    rw [hX.2] at h1
    rw [h1]
    rfl
  · rw [refW_no hX]
    show readW l = (1, Wd.none)
    cases hw : worldP l with
    | none => exact readW_none (by omega) hw
    | some p =>
      obtain ⟨X, t⟩ := p
      cases t with
      | cons a t => exact readW_left (by omega) hw (by simp)
      | nil =>
        have h3 := Hears.world _ _ _ hw
        have h4 := Rds.world.back l X [] ho hw
        rw [List.append_nil] at h4
        rw [h3] at hX
        refine readW_wrong (by omega) hw fun he => hX ⟨he, h4.symm⟩
end Go.Proofs.Ytnalakhelicjcaa
