/-
  What comes of acts: a world of the call's own, and an error; what is put onto a wire.
  Moving, in plain words.
  A world of the call's own: what the store of one cell leaves of it.
-/
import Derived.Test.YtnalakhelicjcaaGreatDoorZKB
import Derived.Test.YtnalakhelicjcaaGreatDoorZOwn
import Derived.Deep.CutRange
import Derived.Test.YtnalakhelicjcaaGreatDoorZKO
import Derived.Test.YtnalakhelicjcaaGreatDoorZKW
set_option maxRecDepth 100000
namespace Go.Proofs.YtnalakhelicjcaaGreatDoor
open Go.RowKit Go.Shelf Go.BigFrame
def WPost (w:World) (r:Int × Wd) (e:Ending) (w':World):Prop:=
 ∃ (gv nv wv:Value) (S:Nat → Prop),e = .returned (.tuple #[.agg #[gv,nv,wv], .int .i64 r.1]) ∧ OWd false w' S gv nv wv r.2 ∧ (∀ b,S b → w.heap.size ≤ b ∧ b < w'.heap.size) ∧ Below w.heap.size w w'
theorem WPost.none {w w':World} {e:Int} (h:Below w.heap.size w w'):WPost w (e,Wd.none) (.returned (.tuple #[.agg #[.slice none 0 0, .slice none 0 0, .slice none 0 0], .int .i64 e])) w':=
 ⟨_,_,_,fun _=>False,rfl,OWd.empty _ _ _,fun _ h=>h.elim,h⟩
theorem WPost.fin {w w2:World} {r:Int × Wd} {o:Bool} {B k:Nat} {gv nv wv:Value} {S:Nat → Prop} (hO:OWd o w2 S gv nv wv r.2) (hS:∀ c,S c → k ≤ c ∧ c < w2.heap.size) (hB:B < k) (hw:w.heap.size ≤ B) (hb:Below w.heap.size w w2) {e:Int} (he:e = r.1) :
  WPost w r (.returned (.tuple #[.agg #[gv,nv,wv], .int .i64 e])) (((w2.setCell ⟨B,0,Option.none⟩ gv).setCell ⟨B,1,Option.none⟩ nv).setCell ⟨B,2,Option.none⟩ wv):=
 ⟨gv,nv,wv,S,by rw [he],OWd.any (hO.keep fun c hc=>set3_blk (by have:=hS c hc;omega)),fun c hc=>by rw [set3_size];have:=hS c hc;omega,set3_below hb hw⟩
theorem castW_stop {X:Wd} {n:Nat} {g:Int} {m:M} {k:Nat} (h:(castW X n g m k).1 ≠ 0):∀ d,castW X n g m (k + d) = castW X n g m k
 | 0=>rfl
 | d + 1=>by
  have ih:=castW_stop h d
  show (if (castW X n g m (k + d)).1 = 0 then _ else castW X n g m (k + d)) = _
  rw [ih,if_neg h]
theorem castW_next {X Y:Wd} {n:Nat} {g:Int} {m:M} {k:Nat} (h:castW X n g m k = (0,Y)):castW X n g m (k + 1) = castStep Y n g k m:=by
 show (if (castW X n g m k).1 = 0 then castStep (castW X n g m k).2 n g k m else castW X n g m k) = _
 rw [h,if_pos rfl]
theorem castStep_skip {Y:Wd} {n k:Nat} {g:Int} {m:M} (h:(k == n || !hasB Y.groups g k) = true):castStep Y n g k m = (0,Y):=by rw [castStep,if_pos h]
theorem castStep_40 {Y:Wd} {n k:Nat} {g:Int} {m:M} (h:(k == n || !hasB Y.groups g k) = false) (h2:(wireL Y n k).length = 40):castStep Y n g k m = (2,Y):=by rw [castStep,if_neg (by rw [h];simp),if_pos h2]
theorem castStep_1 {Y:Wd} {n k:Nat} {g:Int} {m:M} (h:(k == n || !hasB Y.groups g k) = false) (h2:¬ (wireL Y n k).length = 40) (h3:0 < (wireL Y n k).length ∧ m.stamp ≤ ((wireL Y n k).getD ((wireL Y n k).length - 1) M.zero).stamp) :
  castStep Y n g k m = (1,Y):=by rw [castStep,if_neg (by rw [h];simp),if_neg h2,if_pos h3]
theorem castStep_put {Y:Wd} {n k:Nat} {g:Int} {m:M} (h:(k == n || !hasB Y.groups g k) = false) (h2:¬ (wireL Y n k).length = 40) (h3:¬ (0 < (wireL Y n k).length ∧ m.stamp ≤ ((wireL Y n k).getD ((wireL Y n k).length - 1) M.zero).stamp)) :
  castStep Y n g k m = (0,wirePut Y n k (wireL Y n k ++ [m])):=by rw [castStep,if_neg (by rw [h];simp),if_neg h2,if_neg h3]
theorem cast_put {wr wq w9 W:World} {S T2:Nat → Prop} {gv nv wv u:Value} {Zf:List M → Wd} {l:List M} {m:M} {a9:Option Addr} {c9 k g1 g2 cap2:Nat} {t:TypeId}
  (hS:∀ c,S c → c < wr.heap.size) (hT2:∀ b,T2 b → S b ∧ b ≠ g1 ∧ b ≠ g2)
  (back:∀ w' T' u' ms',Lies (fun b=>S b ∧ b ≠ g2 ∧ ¬ T2 b) wr w' → BlkSet wr w' g2 k [u'] → OMsgs true w' T' u' ms' → (∀ b,T' b → T2 b ∨ ¬ S b) → OWd true w' (fun b=>S b ∨ T' b) gv nv wv (Zf ms'))
  (hp9:Pushed W MEl 96 5 T2 (fun _=>False) l m (.slice a9 (l.length + 1) c9) w9) (hsW:W.heap.size = wq.heap.size + 1) (hqs:wq.heap.size = wr.heap.size)
  (hkF:∀ c:Nat,c < wq.heap.size → ¬ T2 c → c ≠ g2 → (w9.setCell ⟨g2,k,none⟩ (.slice a9 (l.length + 1) c9)).heap[c]? = wr.heap[c]?) (hg2b:BlkIs wr g2 t cap2) (hgb:w9.heap[g2]? = wr.heap[g2]?) (k2:wr.cell? ⟨g2,k,none⟩ = some u) (hk:k < cap2) (hg2:S g2) :
  ∃ S9,OWd true (w9.setCell ⟨g2,k,none⟩ (.slice a9 (l.length + 1) c9)) S9 gv nv wv (Zf (l ++ [m])) ∧ ∀ c,S9 c → (S c ∨ wr.heap.size ≤ c) ∧ c < w9.heap.size:=by
 obtain ⟨⟨S8,h8,h8b⟩,hs9,_⟩:=hp9
 rw [hsW] at hs9
 have hg2l:=hS g2 hg2
 have hS8:∀ c,S8 c → (T2 c ∨ c = wr.heap.size + 1 ∨ c = wr.heap.size) ∧ c < w9.heap.size:=fun c hc=>by
  obtain ⟨h,h2⟩:=h8b c hc
  rw [hsW] at h
  refine ⟨?_,h2⟩
  rcases h with h | h | h
  ·exact Or.inl h
  ·exact h.elim
  ·exact Or.inr (Or.inl (by omega))
 refine ⟨fun c=>S c ∨ S8 c,back _ S8 _ (l ++ [m]) (fun c hc=>hkF c (by have:=hS c hc.1;omega) hc.2.2 hc.2.1) ((BlkSet.same (cs:=[u]) hgb (fun j hj=>?_)).set hg2b 0 (by simp) (by simp;omega) _) (OMsgs.keep h8 (fun c hc=>Go.Deep.blk_setCell_other _ _ _ _ ?_)) (fun c hc=>?_),fun c hc=>?_⟩
 ·obtain rfl:j = 0:=by simpa using hj
  exact k2
 ·show c ≠ g2
  rcases (hS8 c hc).1 with h | h | h
  ·exact (hT2 c h).2.2
  ·omega
  ·omega
 ·rcases (hS8 c hc).1 with h | h | h
  ·exact Or.inl h
  ·exact Or.inr (fun hs=>by have:=hS c hs;omega)
  ·exact Or.inr (fun hs=>by have:=hS c hs;omega)
 ·rcases hc with h | h
  ·exact ⟨Or.inl h,by have:=hS c h;omega⟩
  ·refine ⟨?_,(hS8 c h).2⟩
   rcases (hS8 c h).1 with h' | h' | h'
   ·exact Or.inl (hT2 c h').1
   ·exact Or.inr (by omega)
   ·exact Or.inr (by omega)
theorem castEnd_null {X:Wd} {n:Nat} {m:M} (h:m.null = true):castEnd X n m = if tellE X n ≠ 0 then (tellE X n,Wd.none) else (0,tellW X n):=by simp [castEnd,h]
theorem castEnd_hold {X:Wd} {n:Nat} {m:M} (h:m.null = false):castEnd X n m = if putE (X.nodes.getD n N.zero).held m ≠ 0 then (putE (X.nodes.getD n N.zero).held m,Wd.none) else
  if tellE (holdW X n m) n ≠ 0 then (tellE (holdW X n m) n,Wd.none) else (0,tellW (holdW X n m) n):=by
 unfold castEnd
 rw [h]
 rfl
theorem holdW_at {X:Wd} {n:Nat} {m:M} (hn:n < X.nodes.length):(holdW X n m).nodes.length = X.nodes.length ∧ (holdW X n m).nodes.getD n N.zero = { X.nodes.getD n N.zero with held:=putL (X.nodes.getD n N.zero).held m }:=by
 refine ⟨by simp [holdW], ?_⟩
 rw [getD_lt _ N.zero (by simpa [holdW] using hn)]
 simp [holdW]
theorem putL_le (ms:List M) (m:M):(putL ms m).length ≤ ms.length + 1:=by
 unfold putL
 split
 ·rw [putM_len];exact Nat.le_refl _
 ·simp
theorem holdW_tab {X:Wd} {n:Nat} {m:M} (hn:n < X.nodes.length) (h:TabN X n):TabN (holdW X n m) n:=by
 unfold TabN
 rw [(holdW_at hn).2,(holdW_at hn).1]
 exact h
end Go.Proofs.YtnalakhelicjcaaGreatDoor
set_option maxRecDepth 100000
namespace Go.Proofs.YtnalakhelicjcaaGreatDoor
open Go.RowKit Go.Shelf Go.BigFrame
def Fares (X:Wd):Prop:=∀ r ∈ X.wires,∀ l ∈ r,∀ m ∈ l,0 ≤ m.grp ∧ m.grp < X.groups.length ∧ 0 ≤ m.stamp ∧ m.stamp ≤ 1048576
theorem msgE_in {nodes:Int} {gs:List Int} {m:M} (h:msgE nodes gs m = 0):0 ≤ m.grp ∧ m.grp < gs.length ∧ 0 ≤ m.stamp ∧ m.stamp ≤ 1048576:=by
 unfold msgE at h
 split at h
 ·unfold rightE at h
  split at h
  ·rename_i hi
   obtain ⟨_,_,h1,h2,h3,h4⟩:=hi
   exact ⟨h1,h2,by omega,h4⟩
  ·cases h
 ·rename_i hg
  exact absurd h hg
theorem errX_fares {X:Wd} (h:errX X = 0):Fares X:=by
 have hg:gErr X.nodes.length X.groups = 0:=by
  rcases Classical.em (gErr X.nodes.length X.groups = 0) with e | e
  ·exact e
  ·rw [errX_g e] at h;exact absurd h e
 have hm:manyX X = false:=by
  cases hm:manyX X
  ·rfl
  ·rw [errX_2 hg hm] at h;cases h
 have hf:fineX X = true:=by
  cases hf:fineX X
  ·rw [errX_1 hg hm hf] at h;cases h
  ·rfl
 have hF:=errX_fit h
 simp only [fineX,Bool.and_eq_true,decide_eq_true_eq,range_all_iff] at hf
 obtain ⟨⟨hw,hr⟩,hww⟩:=hf
 have ix:∀ {α:Type} {l:List α} (d:α) {x:α},x ∈ l → ∃ i,i < l.length ∧ l.getD i d = x:=fun {α l} d x hx=>by
  obtain ⟨i,hi,rfl⟩:=List.mem_iff_getElem.1 hx
  exact ⟨i,hi,getD_lt l d hi⟩
 intro r hr' l hl m hm'
 obtain ⟨i,hi,rfl⟩:=ix [] hr'
 obtain ⟨j,hj,rfl⟩:=ix [] hl
 have h1:=hww i (by omega)
 unfold fineW at h1
 rw [range_all_iff] at h1
 have h2:=h1 j (by have:=hF.row (n:=i) (by omega);omega)
 simp only [wireFineB,Bool.and_eq_true,listFineB,List.all_eq_true] at h2
 have h3:=h2.1.2 m hm'
 simp only [fineM,Bool.and_eq_true,beq_iff_eq] at h3
 exact msgE_in h3.1
def comeW (X:Wd) (a b:Nat) (m:M) (l:List M):Wd:=
 { X with wires:=X.wires.set a ((X.wires.getD a []).set b l),nodes:=X.nodes.set b { X.nodes.getD b N.zero with clock:=max (X.nodes.getD b N.zero).clock m.stamp,last:=(X.nodes.getD b N.zero).last.set m.grp.toNat (((X.nodes.getD b N.zero).last.getD m.grp.toNat []).set a (max (((X.nodes.getD b N.zero).last.getD m.grp.toNat []).getD a 0) m.stamp)) } }
def moveR (X:Wd) (a b:Nat):Int × Wd:=
 if (wireL X a b).length = 0 then (7,Wd.none) else castEnd (comeW X a b ((wireL X a b).getD 0 M.zero) ((wireL X a b).drop 1)) b ((wireL X a b).getD 0 M.zero)
theorem comeW_fit {X:Wd} (h:Fit X) (hf:Fares X) {a b:Nat} (ha:a < X.nodes.length) (hb:b < X.nodes.length) {m:M} {l:List M} (hm:wireL X a b = m :: l):Fit (comeW X a b m l) ∧ Fares (comeW X a b m l):=by
 have hN:(comeW X a b m l).nodes.length = X.nodes.length:=by simp [comeW]
 have hrow:=h.row ha
 have hmr:=getD_mem X.wires [] (i:=a) (by rw [h.wires];exact ha)
 have hmw:wireL X a b ∈ X.wires.getD a []:=getD_mem _ [] (by rw [hrow];exact hb)
 have hmn:=getD_mem X.nodes N.zero hb
 have hms:=hf _ hmr _ hmw m (by rw [hm];exact List.mem_cons_self ..)
 have hl:l.length ≤ 40:=by
  have:=h.wl _ hmr _ hmw
  rw [hm,List.length_cons] at this
  omega
 refine ⟨⟨by rw [hN];exact h.nodes,h.groups,by rw [hN];simpa [comeW] using h.wires,fun r hr=>?_,fun x hx=>?_,fun x hx=>?_,fun r hr q hq=>?_,fun x hx=>?_⟩,fun r hr q hq y hy=>?_⟩
 ·rw [hN]
  rcases mem_set hr with h' | rfl
  ·exact h.rows r h'
  ·rw [List.length_set];exact hrow
 ·rw [hN]
  rcases mem_set hx with h' | rfl
  ·exact h.tabs x h'
  ·have ht:=h.tabs _ hmn
   refine ⟨by simpa [comeW] using ht.1,fun r hr=>?_⟩
   rcases mem_set hr with h' | rfl
   ·exact ht.2 r h'
   ·rw [List.length_set]
    exact ht.2 _ (getD_mem _ [] (by rw [ht.1];omega))
 ·rcases mem_set hx with h' | rfl
  ·exact h.lists x h'
  ·exact (h.lists _ hmn :)
 ·rcases mem_set hr with h' | rfl
  ·exact h.wl r h' q hq
  ·rcases mem_set hq with h' | rfl
   ·exact h.wl _ hmr q h'
   ·exact hl
 ·rcases mem_set hx with h' | rfl
  ·exact h.clocks x h'
  ·have:=h.clocks _ hmn
   show 0 ≤ max (X.nodes.getD b N.zero).clock m.stamp ∧ max (X.nodes.getD b N.zero).clock m.stamp ≤ 1048576
   omega
 ·rcases mem_set hr with h' | rfl
  ·exact hf r h' q hq y hy
  ·rcases mem_set hq with h' | rfl
   ·exact hf _ hmr q h' y hy
   ·exact hf _ hmr _ hmw y (by rw [hm];exact List.mem_cons_of_mem _ hy)
end Go.Proofs.YtnalakhelicjcaaGreatDoor
namespace Go.Proofs.YtnalakhelicjcaaGreatDoor
open Go.RowKit Go.Deep
def clockSet (X:Wd) (n:Nat) (v:Int):Wd:={ X with nodes:=X.nodes.set n { X.nodes.getD n N.zero with clock:=v } }
def lastSet (X:Wd) (n r k:Nat) (v:Int):Wd:={ X with nodes:=X.nodes.set n { X.nodes.getD n N.zero with last:=(X.nodes.getD n N.zero).last.set r (((X.nodes.getD n N.zero).last.getD r []).set k v) } }
def wireSet (X:Wd) (a k:Nat) (l:List M):Wd:={ X with wires:=X.wires.set a ((X.wires.getD a []).set k l) }
theorem lies_setCell {S T:Nat → Prop} {w w':World} {g a:Nat} {v:Value} (k:Lies S w w') (h:∀ b,T b → S b ∧ b ≠ g):Lies T w (w'.setCell ⟨g,a,none⟩ v):=fun b hb=>(Go.Deep.blk_setCell_other _ _ _ _ (h b hb).2).trans (k b (h b hb).1)
theorem MsgBox.keep {w w':World} {b:Nat} {m:M} (h:MsgBox w b m) (k:w'.heap[b]? = w.heap[b]?):MsgBox w' b m:=by
 obtain ⟨h0,h1,h2,h3,h4⟩:=h
 exact ⟨(World.cell?_of_block (w:=w) (a:=⟨b,0,none⟩) k).trans h0,(World.cell?_of_block (w:=w) (a:=⟨b,1,none⟩) k).trans h1,(World.cell?_of_block (w:=w) (a:=⟨b,2,none⟩) k).trans h2,(World.cell?_of_block (w:=w) (a:=⟨b,3,none⟩) k).trans h3,(World.cell?_of_block (w:=w) (a:=⟨b,4,none⟩) k).trans h4⟩
section
variable {o:Bool} {w:World} {S:Nat → Prop} {gv nv wv:Value} {X:Wd}
theorem OWd.clock_at (h:OWd o w S gv nv wv X) {n:Nat} (hi:n < X.nodes.length) :
  ∃ (g cap:Nat),nv = .slice (some ⟨g,0,none⟩) X.nodes.length cap ∧ X.nodes.length ≤ cap ∧ S g ∧ g < w.heap.size ∧ BlkIs w g 65 (cap * 4) ∧
   w.cell? ⟨g,n * 4,none⟩ = some (.int .i64 (X.nodes.getD n N.zero).clock) ∧ I64 (X.nodes.getD n N.zero).clock ∧
   ∀ w' v,Lies S w w' → I64 v → OWd o (w'.setCell ⟨g,n * 4,none⟩ (.int .i64 v)) S gv nv wv (clockSet X n v):=by
 obtain ⟨g,cap,lv,hv,tv,Tl,Th,Tt,e,hc,hgS,hgl,hgb,c0,c1,c2,c3,hI,hL,hH,hT,sl,sh,st,d1,d2,d3,back⟩:=h.node_at hi
 refine ⟨g,cap,e,hc,hgS,hgl,hgb,c0,hI,fun w' v hw' hv64=>?_⟩
 have hB:BlkSet w (w'.setCell ⟨g,n * 4,none⟩ (.int .i64 v)) g (n * 4) [.int .i64 v,lv,hv,tv]:=
  (BlkSet.same (w:=w) (w':=w') (cs:=[.int .i64 (X.nodes.getD n N.zero).clock,lv,hv,tv]) (hw' g hgS) (fun j hj=>by
   match j,hj with
   | 0,_=>exact c0
   | 1,_=>exact c1
   | 2,_=>exact c2
   | 3,_=>exact c3)).set hgb 0 (by simp) (by simp;omega) _
 have:=back _ (fun c=>Tl c ∨ Th c ∨ Tt c) _ { X.nodes.getD n N.zero with clock:=v } (lies_setCell hw' fun c hc=>⟨hc.1,hc.2.1⟩) hB rfl
  ⟨lv,hv,tv,Tl,Th,Tt,rfl,hv64,hL.keep (lies_setCell hw' sl),hH.keep (lies_setCell hw' sh),hT.keep (lies_setCell hw' st),fun _ h=>Or.inl h,fun _ h=>Or.inr (Or.inl h),fun _ h=>Or.inr (Or.inr h),d1,d2,d3⟩
  (fun c hc=>hc.imp id (fun h=>h.imp id Or.inl))
 exact this.mono (fun c hc=>hc.elim id (fun h=>h.elim (fun h=>(sl c h).1) (fun h=>h.elim (fun h=>(sh c h).1) (fun h=>(st c h).1))))
theorem OWd.last_at (h:OWd o w S gv nv wv X) {n r k:Nat} (hi:n < X.nodes.length) (hr:r < (X.nodes.getD n N.zero).last.length) (hk:k < ((X.nodes.getD n N.zero).last.getD r []).length) :
  ∃ (g cap g1 cap1 g2 cap2:Nat),nv = .slice (some ⟨g,0,none⟩) X.nodes.length cap ∧ X.nodes.length ≤ cap ∧ S g ∧ g < w.heap.size ∧
   w.cell? ⟨g,n * 4 + 1,none⟩ = some (.slice (some ⟨g1,0,none⟩) (X.nodes.getD n N.zero).last.length cap1) ∧ (X.nodes.getD n N.zero).last.length ≤ cap1 ∧ S g1 ∧ g1 < w.heap.size ∧
   w.cell? ⟨g1,r,none⟩ = some (.slice (some ⟨g2,0,none⟩) ((X.nodes.getD n N.zero).last.getD r []).length cap2) ∧ ((X.nodes.getD n N.zero).last.getD r []).length ≤ cap2 ∧ S g2 ∧ g2 < w.heap.size ∧ g2 ≠ g ∧ g2 ≠ g1 ∧ BlkIs w g2 3 cap2 ∧
   w.cell? ⟨g2,k,none⟩ = some (.int .i64 (((X.nodes.getD n N.zero).last.getD r []).getD k 0)) ∧ I64 (((X.nodes.getD n N.zero).last.getD r []).getD k 0) ∧
   ∀ w' v,Lies S w w' → I64 v → OWd o (w'.setCell ⟨g2,k,none⟩ (.int .i64 v)) S gv nv wv (lastSet X n r k v):=by
 obtain ⟨g,cap,lv,hv,tv,Tl,Th,Tt,e,hc,hgS,hgl,hgb,c0,c1,c2,c3,hI,hL,hH,hT,sl,sh,st,d1,d2,d3,back⟩:=h.node_at hi
 obtain ⟨g1,cap1,g2,cap2,e1,hc1,hT1,hg1,k1,hc2,hT2,hg2,hb2,k2,hI2,hne,back2⟩:=hL.cell_at hr hk
 subst e1
 refine ⟨g,cap,g1,cap1,g2,cap2,e,hc,hgS,hgl,c1,hc1,(sl g1 hT1).1,hg1,k1,hc2,(sl g2 hT2).1,hg2,(sl g2 hT2).2,fun e=>hne e.symm,hb2,k2,hI2,fun w' v hw' hv64=>?_⟩
 have hB2:BlkSet w (w'.setCell ⟨g2,k,none⟩ (.int .i64 v)) g2 k [.int .i64 v]:=
  (BlkSet.same (w:=w) (w':=w') (p:=k) (cs:=[.int .i64 (((X.nodes.getD n N.zero).last.getD r []).getD k 0)]) (hw' g2 (sl g2 hT2).1) (fun j hj=>by
   obtain rfl:j = 0:=by simpa using hj
   exact k2)).set hb2 0 (by simp) (by simp;omega) _
 have hB:BlkSet w (w'.setCell ⟨g2,k,none⟩ (.int .i64 v)) g (n * 4) [.int .i64 (X.nodes.getD n N.zero).clock, .slice (some ⟨g1,0,none⟩) (X.nodes.getD n N.zero).last.length cap1,hv,tv]:=
  BlkSet.same ((Go.Deep.blk_setCell_other _ _ _ _ (fun e=>(sl g2 hT2).2 e.symm)).trans (hw' g hgS)) (fun j hj=>by
   match j,hj with
   | 0,_=>exact c0
   | 1,_=>exact c1
   | 2,_=>exact c2
   | 3,_=>exact c3)
 have hL2:=back2 _ v (lies_setCell hw' fun c hc=>⟨(sl c hc.1).1,hc.2⟩) hB2 hv64
 have:=back _ (fun c=>Tl c ∨ Th c ∨ Tt c) _ { X.nodes.getD n N.zero with last:=(X.nodes.getD n N.zero).last.set r (((X.nodes.getD n N.zero).last.getD r []).set k v) }
  (lies_setCell hw' fun c hc=>⟨hc.1,fun e=>hc.2.2.1 (e ▸ hT2)⟩) hB rfl
  ⟨_,hv,tv,Tl,Th,Tt,rfl,hI,hL2,hH.keep (lies_setCell hw' fun c hc=>⟨(sh c hc).1,fun e=>d1 g2 hT2 (e ▸ hc)⟩),hT.keep (lies_setCell hw' fun c hc=>⟨(st c hc).1,fun e=>d2 g2 hT2 (e ▸ hc)⟩),fun _ h=>Or.inl h,fun _ h=>Or.inr (Or.inl h),fun _ h=>Or.inr (Or.inr h),d1,d2,d3⟩
  (fun c hc=>hc.imp id (fun h=>h.imp id Or.inl))
 exact this.mono (fun c hc=>hc.elim id (fun h=>h.elim (fun h=>(sl c h).1) (fun h=>h.elim (fun h=>(sh c h).1) (fun h=>(st c h).1))))
def tailA (b off cap:Nat):Option Addr:=if cap = 1 then some ⟨b,off,none⟩ else some ⟨b,off + 5,none⟩
def tailV (b off n cap:Nat):Value:=.slice (tailA b off cap) n (cap - 1)
theorem OMsgs.tail {T:Nat → Prop} {u:Value} {m:M} {l:List M} (h:OMsgs o w T u (m :: l)) :
  ∃ b off cap,u = .slice (some ⟨b,off,none⟩) (l.length + 1) cap ∧ l.length + 1 ≤ cap ∧ cap ≤ maxLen ∧ (∀ j,j < 5 → w.cell? ⟨b,off + j,none⟩ = m.cells[j]?) ∧ m.fits ∧ OMsgs false w T (tailV b off l.length cap) l:=by
 have hm:=(OMsgs.msgs h).1
 rcases h with ⟨a0,_,h,_⟩ | ⟨g,off,cap,T',h1,h2,h3,h4,h5,h6,h7,h8,h9,h10⟩
 ·cases h
 rw [List.length_cons] at h1 h4 h7
 obtain ⟨cs,c1,c2,c3,c4⟩:=h8 0 (by simp)
 subst c3
 refine ⟨g,off,cap,h1,h4,h5,fun j hj=>by simpa using c2 j hj,c4, ?_⟩
 unfold tailV tailA
 by_cases hc:cap = 1
 ·rw [if_pos hc]
  obtain rfl:l = []:=List.eq_nil_of_length_eq_zero (by omega)
  subst hc
  exact .inl ⟨_,rfl,rfl,fun k=>by cases k⟩
 ·rw [if_neg hc]
  refine .inr ⟨g,off + 5,cap - 1,fun i=>T' (i + 1),rfl,h2, ?_,by omega,by omega,(fun k=>by cases k),by omega,fun i hi=>?_,fun i b hb=>h9 _ b hb,fun i j b hi hj=>Nat.succ.inj (h10 _ _ b hi hj)⟩
  ·have:off + 5 + (cap - 1) * 5 = off + cap * 5:=by omega
   rw [this]
   exact h3
  ·obtain ⟨cs,c1,c2,c3⟩:=h8 (i + 1) (by simpa using hi)
   exact ⟨cs,c1,fun j hj=>by rw [show off + 5 + i * 5 + j = off + (i + 1) * 5 + j by omega];exact c2 j hj,by simpa using c3⟩
theorem OWd.wire_tail (h:OWd false w S gv nv wv X) {a k:Nat} (hi:a < X.wires.length) (hk:k < (X.wires.getD a []).length) {m:M} {l:List M} (hl:(X.wires.getD a []).getD k [] = m :: l) :
  ∃ (g1 cap1 g2 cap2 b off cap:Nat),wv = .slice (some ⟨g1,0,none⟩) X.wires.length cap1 ∧ X.wires.length ≤ cap1 ∧ S g1 ∧ g1 < w.heap.size ∧
   w.cell? ⟨g1,a,none⟩ = some (.slice (some ⟨g2,0,none⟩) (X.wires.getD a []).length cap2) ∧ (X.wires.getD a []).length ≤ cap2 ∧ S g2 ∧ g2 < w.heap.size ∧ g1 ≠ g2 ∧ BlkIs w g2 63 cap2 ∧
   w.cell? ⟨g2,k,none⟩ = some (.slice (some ⟨b,off,none⟩) (l.length + 1) cap) ∧ l.length + 1 ≤ cap ∧ cap ≤ maxLen ∧ (∀ j,j < 5 → w.cell? ⟨b,off + j,none⟩ = m.cells[j]?) ∧ m.fits ∧
   ∀ w',Lies S w w' → OWd false (w'.setCell ⟨g2,k,none⟩ (tailV b off l.length cap)) S gv nv wv (wireSet X a k l):=by
 obtain ⟨g1,cap1,g2,cap2,u,T2,e1,hc1,hg1S,hg1l,k1,hc2,hg2S,hg2l,hg2b,k2,hU,hT2,hg12,back⟩:=h.wire_at hi hk
 rw [hl] at hU
 obtain ⟨b,off,cap,rfl,h1,h2,h3,h4,h5⟩:=hU.tail
 refine ⟨g1,cap1,g2,cap2,b,off,cap,e1,hc1,hg1S,hg1l,k1,hc2,hg2S,hg2l,hg12,hg2b,k2,h1,h2,h3,h4,fun w' hw'=>?_⟩
 have hB:BlkSet w (w'.setCell ⟨g2,k,none⟩ (tailV b off l.length cap)) g2 k [tailV b off l.length cap]:=
  (BlkSet.same (w:=w) (w':=w') (p:=k) (cs:=[.slice (some ⟨b,off,none⟩) (l.length + 1) cap]) (hw' g2 hg2S) (fun j hj=>by
   obtain rfl:j = 0:=by simpa using hj
   exact k2)).set hg2b 0 (by simp) (by simp;omega) _
 exact (back _ T2 _ l (lies_setCell hw' fun c hc=>⟨hc.1,hc.2.1⟩) hB (h5.keep (lies_setCell hw' fun c hc=>⟨(hT2 c hc).1,(hT2 c hc).2.2⟩)) (fun c hc=>Or.inl hc)).mono (fun c hc=>hc.elim id (fun h=>(hT2 c h).1))
end
end Go.Proofs.YtnalakhelicjcaaGreatDoor
