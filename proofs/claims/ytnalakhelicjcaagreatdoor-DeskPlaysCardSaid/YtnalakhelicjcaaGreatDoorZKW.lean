/-
  A world of the call's own: how it reads; at one of its nodes, at one of its wires; what a store leaves.
  Worlds, the document's answer: is all fine?
  Worlds, the document's answer: is a node, is a wire fine?
  Worlds, the document's answer: is a node fine?
  Worlds, the document's answer: is a world right, which error has it?
-/
import Derived.Test.YtnalakhelicjcaaGreatDoorZKA
import Derived.Test.YtnalakhelicjcaaGreatDoorZKM
import Derived.Test.YtnalakhelicjcaaGreatDoorZKG
namespace Go.Proofs.YtnalakhelicjcaaGreatDoor
open Go.RowKit Go.Deep
def IntEl:ElO Int:=fun _ _ cs x=>cs = [.int .i64 x] ∧ I64 x
def MEl:ElO M:=fun _ _ cs m=>cs = m.cells ∧ m.fits
def OInts (w:World) (S:Nat → Prop) (v:Value) (xs:List Int):Prop:=OSl IntEl true 3 1 w S v xs
def OMsgs (o:Bool) (w:World) (S:Nat → Prop) (v:Value) (ms:List M):Prop:=OSl MEl o 96 5 w S v ms
def OIntsEl:ElO (List Int):=fun w T cs xs=>∃ u,cs = [u] ∧ OInts w T u xs
def OMsgsEl (o:Bool):ElO (List M):=fun w T cs ms=>∃ u,cs = [u] ∧ OMsgs o w T u ms
def OIntRows (w:World) (S:Nat → Prop) (v:Value) (l:List (List Int)):Prop:=OSl OIntsEl true 22 1 w S v l
def OMsgRows (o:Bool) (w:World) (S:Nat → Prop) (v:Value) (l:List (List M)):Prop:=OSl (OMsgsEl o) true 63 1 w S v l
def OMsgRowsEl (o:Bool):ElO (List (List M)):=fun w T cs l=>∃ u,cs = [u] ∧ OMsgRows o w T u l
def OWires (o:Bool) (w:World) (S:Nat → Prop) (v:Value) (l:List (List (List M))):Prop:=OSl (OMsgRowsEl o) true 66 1 w S v l
def ONodeEl:ElO N:=fun w T cs n=>∃ (lv hv tv:Value) (Tl Th Tt:Nat → Prop),cs = [.int .i64 n.clock,lv,hv,tv] ∧ I64 n.clock ∧ OIntRows w Tl lv n.last ∧ OMsgs true w Th hv n.held ∧ OMsgs true w Tt tv n.told ∧
 (∀ b,Tl b → T b) ∧ (∀ b,Th b → T b) ∧ (∀ b,Tt b → T b) ∧ Dis Tl Th ∧ Dis Tl Tt ∧ Dis Th Tt
def ONodes (w:World) (S:Nat → Prop) (v:Value) (l:List N):Prop:=OSl ONodeEl true 65 4 w S v l
def OWd (o:Bool) (w:World) (S:Nat → Prop) (gv nv wv:Value) (X:Wd):Prop:=
 ∃ (Sg Sn Sw:Nat → Prop),OInts w Sg gv X.groups ∧ ONodes w Sn nv X.nodes ∧ OWires o w Sw wv X.wires ∧ (∀ b,Sg b → S b) ∧ (∀ b,Sn b → S b) ∧ (∀ b,Sw b → S b) ∧ Dis Sg Sn ∧ Dis Sg Sw ∧ Dis Sn Sw
theorem IntEl.stays:OStays IntEl:=fun _ _ _ _ _ h _=>h
theorem MEl.stays:OStays MEl:=fun _ _ _ _ _ h _=>h
theorem OInts.keep {w w':World} {S:Nat → Prop} {v:Value} {xs:List Int} (h:OInts w S v xs) (k:Lies S w w'):OInts w' S v xs:=OSl.keep IntEl.stays h k
theorem OMsgs.keep {o:Bool} {w w':World} {S:Nat → Prop} {v:Value} {xs:List M} (h:OMsgs o w S v xs) (k:Lies S w w'):OMsgs o w' S v xs:=OSl.keep MEl.stays h k
theorem OIntsEl.stays:OStays OIntsEl:=fun _ _ _ _ _ ⟨u,h,h2⟩ k=>⟨u,h,h2.keep k⟩
theorem OMsgsEl.stays (o:Bool):OStays (OMsgsEl o):=fun _ _ _ _ _ ⟨u,h,h2⟩ k=>⟨u,h,h2.keep k⟩
theorem OIntRows.keep {w w':World} {S:Nat → Prop} {v:Value} {l:List (List Int)} (h:OIntRows w S v l) (k:Lies S w w'):OIntRows w' S v l:=OSl.keep OIntsEl.stays h k
theorem OMsgRows.keep {o:Bool} {w w':World} {S:Nat → Prop} {v:Value} {l:List (List M)} (h:OMsgRows o w S v l) (k:Lies S w w'):OMsgRows o w' S v l:=OSl.keep (OMsgsEl.stays o) h k
theorem OMsgRowsEl.stays (o:Bool):OStays (OMsgRowsEl o):=fun _ _ _ _ _ ⟨u,h,h2⟩ k=>⟨u,h,h2.keep k⟩
theorem OWires.keep {o:Bool} {w w':World} {S:Nat → Prop} {v:Value} {l:List (List (List M))} (h:OWires o w S v l) (k:Lies S w w'):OWires o w' S v l:=OSl.keep (OMsgRowsEl.stays o) h k
theorem ONodeEl.stays:OStays ONodeEl:=fun _ _ _ _ _ ⟨lv,hv,tv,Tl,Th,Tt,h0,h1,h2,h3,h4,a,b,c,d⟩ k =>
 ⟨lv,hv,tv,Tl,Th,Tt,h0,h1,h2.keep (k.mono a),h3.keep (k.mono b),h4.keep (k.mono c),a,b,c,d⟩
theorem ONodes.keep {w w':World} {S:Nat → Prop} {v:Value} {l:List N} (h:ONodes w S v l) (k:Lies S w w'):ONodes w' S v l:=OSl.keep ONodeEl.stays h k
theorem OWd.keep {o:Bool} {w w':World} {S:Nat → Prop} {gv nv wv:Value} {X:Wd} (h:OWd o w S gv nv wv X) (k:Lies S w w'):OWd o w' S gv nv wv X:=by
 obtain ⟨Sg,Sn,Sw,h1,h2,h3,a,b,c,d⟩:=h
 exact ⟨Sg,Sn,Sw,h1.keep (k.mono a),h2.keep (k.mono b),h3.keep (k.mono c),a,b,c,d⟩
theorem OWd.mono {o:Bool} {w:World} {S S':Nat → Prop} {gv nv wv:Value} {X:Wd} (h:OWd o w S gv nv wv X) (k:∀ b,S b → S' b):OWd o w S' gv nv wv X:=by
 obtain ⟨Sg,Sn,Sw,h1,h2,h3,a,b,c,d⟩:=h
 exact ⟨Sg,Sn,Sw,h1,h2,h3,fun x y=>k x (a x y),fun x y=>k x (b x y),fun x y=>k x (c x y),d⟩
theorem OWd.empty (w:World) (S:Nat → Prop) (o:Bool):OWd o w S (.slice none 0 0) (.slice none 0 0) (.slice none 0 0) Wd.none:=
 ⟨fun _=>False,fun _=>False,fun _=>False,OSl.nil _ _ _ _ _ _,OSl.nil _ _ _ _ _ _,OSl.nil _ _ _ _ _ _,fun _ h=>h.elim,fun _ h=>h.elim,fun _ h=>h.elim,fun _ h=>h.elim,fun _ h=>h.elim,fun _ h=>h.elim⟩
theorem OMsgs.any {o:Bool} {w:World} {S:Nat → Prop} {v:Value} {ms:List M} (h:OMsgs o w S v ms):OMsgs false w S v ms:=OSl.any h
theorem OSl.map {α:Type} {El El2:ElO α} {o:Bool} {e:TypeId} {s:Nat} {w:World} {S:Nat → Prop} {v:Value} {xs:List α} (hE:∀ T cs x,El w T cs x → El2 w T cs x) (h:OSl El o e s w S v xs):OSl El2 o e s w S v xs:=by
 rcases h with h | ⟨g,off,cap,T,h1,h2,h3,h4,h5,h6,h7,h8,h9⟩
 ·exact .inl h
 ·refine .inr ⟨g,off,cap,T,h1,h2,h3,h4,h5,h6,h7,fun i hi=>?_,h9⟩
  obtain ⟨cs,a,b,c⟩:=h8 i hi
  exact ⟨cs,a,b,hE _ _ _ c⟩
theorem OWires.any {o:Bool} {w:World} {S:Nat → Prop} {v:Value} {l:List (List (List M))} (h:OWires o w S v l):OWires false w S v l:=
 OSl.map (fun _ _ _ ⟨u,e,h⟩=>⟨u,e,OSl.map (fun _ _ _ ⟨u,e,h⟩=>⟨u,e,OMsgs.any h⟩) h⟩) h
theorem OWd.any {o:Bool} {w:World} {S:Nat → Prop} {gv nv wv:Value} {X:Wd} (h:OWd o w S gv nv wv X):OWd false w S gv nv wv X:=by
 obtain ⟨Sg,Sn,Sw,h1,h2,h3,k⟩:=h
 exact ⟨Sg,Sn,Sw,h1,h2,h3.any,k⟩
theorem OInts.ints {w:World} {S:Nat → Prop} {v:Value} {xs:List Int} (h:OInts w S v xs):Ints w v xs:=by
 obtain ⟨css,hl,hs,hr,he⟩:=OSl.sl (El':=fun _ cs x=>cs = [.int .i64 x] ∧ I64 x) (fun _ _ _ _ h=>h) h
 have e:css.flatten = xs.map (Value.int .i64):=by
  have e':css = xs.map (fun x=>[Value.int .i64 x]):=by
   apply List.ext_getElem (by simpa using hl)
   intro i h1 h2
   rw [(he i h1 (by simpa using h2)).1]
   simp
  rw [e']
  clear e' he hr hs hl h css
  induction xs with
  | nil=>rfl
  | cons x xs ih=>simp [ih]
 rw [e] at hr
 refine ⟨fun x hx=>?_,hr⟩
 obtain ⟨i,hi,rfl⟩:=List.mem_iff_getElem.1 hx
 exact (he i (by omega) hi).2
theorem OMsgs.msgs {o:Bool} {w:World} {S:Nat → Prop} {v:Value} {ms:List M} (h:OMsgs o w S v ms):Msgs w v ms:=by
 obtain ⟨css,hl,hs,hr,he⟩:=OSl.sl (El':=fun _ cs m=>cs = M.cells m ∧ m.fits) (fun _ _ _ _ h=>h) h
 have e:css.flatten = ms.flatMap M.cells:=by
  have e':css = ms.map M.cells:=by
   apply List.ext_getElem (by simpa using hl)
   intro i h1 h2
   rw [(he i h1 (by simpa using h2)).1]
   simp
  rw [e',List.flatMap]
 rw [e] at hr
 refine ⟨fun m hm=>?_,hr⟩
 obtain ⟨i,hi,rfl⟩:=List.mem_iff_getElem.1 hm
 exact (he i (by omega) hi).2
theorem OIntRows.rows {w:World} {S:Nat → Prop} {v:Value} {l:List (List Int)} (h:OIntRows w S v l):IntRows w v l:=OSl.sl (fun _ _ _ _ ⟨u,e,h⟩=>⟨u,e,OInts.ints h⟩) h
theorem OMsgRows.rows {o:Bool} {w:World} {S:Nat → Prop} {v:Value} {l:List (List M)} (h:OMsgRows o w S v l):MsgRows w v l:=OSl.sl (fun _ _ _ _ ⟨u,e,h⟩=>⟨u,e,OMsgs.msgs h⟩) h
theorem OWires.wires {o:Bool} {w:World} {S:Nat → Prop} {v:Value} {l:List (List (List M))} (h:OWires o w S v l):Wires w v l:=OSl.sl (fun _ _ _ _ ⟨u,e,h⟩=>⟨u,e,OMsgRows.rows h⟩) h
theorem ONodes.nodes {w:World} {S:Nat → Prop} {v:Value} {l:List N} (h:ONodes w S v l):Nodes w v l:=
 OSl.sl (fun _ _ _ _ ⟨lv,hv,tv,_,_,_,e,h0,h1,h2,h3,_⟩=>⟨lv,hv,tv,e,h0,OIntRows.rows h1,OMsgs.msgs h2,OMsgs.msgs h3⟩) h
theorem OWd.parts {o:Bool} {w:World} {S:Nat → Prop} {gv nv wv:Value} {X:Wd} (h:OWd o w S gv nv wv X):Ints w gv X.groups ∧ Nodes w nv X.nodes ∧ Wires w wv X.wires:=by
 obtain ⟨Sg,Sn,Sw,h1,h2,h3,_⟩:=h
 exact ⟨h1.ints,h2.nodes,h3.wires⟩
theorem OWd.world {o:Bool} {w:World} {S:Nat → Prop} {gv nv wv:Value} {X:Wd} (h:OWd o w S gv nv wv X):WorldAt w (.agg #[gv,nv,wv]) X:=by
 obtain ⟨h1,h2,h3⟩:=h.parts
 exact ⟨gv,nv,wv,rfl,h1,h2,h3⟩
theorem OMsgs.own {o:Bool} {w:World} {S:Nat → Prop} {v:Value} {ms:List M} {base:Nat} (h:OMsgs o w S v ms) (ho:o = true) (hb:∀ b,S b → base ≤ b):MsgsOwn w base v ms:=by
 subst ho
 have hm:=h.msgs
 refine ⟨hm.1, ?_⟩
 obtain ⟨cl,h1,h2,_⟩:=OSl.owns MEl.stays h hb
 have e:cl = ms.flatMap M.cells:=by
  have hr:=Row.of_owns h1 (by obtain ⟨_,_,_,_,h3⟩:=h.form;omega)
  obtain ⟨a1,a2,a,cap,rfl,a3,a4⟩:=hr
  obtain ⟨b1,b2,a',cap',e,b3,b4⟩:=hm.2
  cases e
  rcases Nat.eq_zero_or_pos ms.length with h0 | h0
  ·obtain rfl:=List.eq_nil_of_length_eq_zero h0
   simpa using h2
  ·obtain ⟨b,off,rfl,c1⟩:=a4 (by omega)
   obtain ⟨b',off',e,c2⟩:=b4 (by omega)
   cases e
   apply List.ext_getElem (by rw [b1,a1])
   intro k k1 k2
   have:=(c1 k k1).symm.trans (c2 k k2)
   rw [List.getD_eq_getElem?_getD,List.getD_eq_getElem?_getD,List.getElem?_eq_getElem k1,List.getElem?_eq_getElem k2] at this
   simpa using this
 rw [← e]
 exact h1
theorem MsgsOwn.own {w:World} {base:Nat} {v:Value} {ms:List M} (h:MsgsOwn w base v ms) (hl:ms.length * 40 ≤ 140737488351232):OMsgs true w (fun b=>v.ownBlock = some b) v ms:=by
 refine OSl.of_owns h.2 (by omega) (fun i hi=>⟨?_,h.1 _ (List.getElem_mem _)⟩)
 rw [flat_drop,List.drop_eq_getElem_cons hi,List.flatMap_cons]
 exact List.take_left' (by rfl)
theorem MsgsOwn.lt {w:World} {base:Nat} {v:Value} {ms:List M} (h:MsgsOwn w base v ms):∀ b,v.ownBlock = some b → base ≤ b ∧ b < w.heap.size:=h.2.lt
section
variable {o:Bool} {w:World} {S:Nat → Prop} {gv nv wv:Value} {X:Wd}
theorem OWd.node_at (h:OWd o w S gv nv wv X) {n:Nat} (hi:n < X.nodes.length) :
  ∃ (g cap:Nat) (lv hv tv:Value) (Tl Th Tt:Nat → Prop),nv = .slice (some ⟨g,0,none⟩) X.nodes.length cap ∧ X.nodes.length ≤ cap ∧ S g ∧ g < w.heap.size ∧ BlkIs w g 65 (cap * 4) ∧
   w.cell? ⟨g,n * 4,none⟩ = some (.int .i64 (X.nodes.getD n N.zero).clock) ∧ w.cell? ⟨g,n * 4 + 1,none⟩ = some lv ∧ w.cell? ⟨g,n * 4 + 2,none⟩ = some hv ∧ w.cell? ⟨g,n * 4 + 3,none⟩ = some tv ∧
   I64 (X.nodes.getD n N.zero).clock ∧ OIntRows w Tl lv (X.nodes.getD n N.zero).last ∧ OMsgs true w Th hv (X.nodes.getD n N.zero).held ∧ OMsgs true w Tt tv (X.nodes.getD n N.zero).told ∧
   (∀ b,Tl b → S b ∧ b ≠ g) ∧ (∀ b,Th b → S b ∧ b ≠ g) ∧ (∀ b,Tt b → S b ∧ b ≠ g) ∧ Dis Tl Th ∧ Dis Tl Tt ∧ Dis Th Tt ∧
   ∀ w' T' cs' x',Lies (fun b=>S b ∧ b ≠ g ∧ ¬ Tl b ∧ ¬ Th b ∧ ¬ Tt b) w w' → BlkSet w w' g (n * 4) cs' → cs'.length = 4 → ONodeEl w' T' cs' x' → (∀ b,T' b → Tl b ∨ Th b ∨ Tt b ∨ ¬ S b) →
    OWd o w' (fun b=>S b ∨ T' b) gv nv wv { X with nodes:=X.nodes.set n x' }:=by
 obtain ⟨Sg,Sn,Sw,h1,h2,h3,s1,s2,s3,d1,d2,d3⟩:=h
 obtain ⟨g,off,cap,T,cs,e1,e2,e3,e4,e5,e6,e7,e8,e9,back⟩:=OSl.at ONodeEl.stays h2 hi
 obtain rfl:=e5 rfl
 obtain ⟨lv,hv,tv,Tl,Th,Tt,rfl,f1,f2,f3,f4,t1,t2,t3,dd⟩:=e8
 rw [getD_lt X.nodes N.zero hi]
 simp only [Nat.zero_add] at e3 e7 back
 have k0:=e7 0 (by omega)
 have k1:=e7 1 (by omega)
 have k2:=e7 2 (by omega)
 have k3:=e7 3 (by omega)
 refine ⟨g,cap,lv,hv,tv,Tl,Th,Tt,e1,e4,s2 g e2,e3.lt,e3,k0,k1,k2,k3,f1,f2,f3,f4,fun b hb=>⟨s2 b (e9 b (t1 b hb)).1,(e9 b (t1 b hb)).2⟩,fun b hb=>⟨s2 b (e9 b (t2 b hb)).1,(e9 b (t2 b hb)).2⟩,
  fun b hb=>⟨s2 b (e9 b (t3 b hb)).1,(e9 b (t3 b hb)).2⟩,dd.1,dd.2.1,dd.2.2,fun w' T' cs' x' hL hB hl hX hT=>?_⟩
 have hTT:∀ b,Tl b ∨ Th b ∨ Tt b → T b:=fun b hb=>hb.elim (t1 b) (fun h=>h.elim (t2 b) (t3 b))
 refine ⟨Sg,fun b=>Sn b ∨ T' b,Sw,h1.keep (hL.mono fun b hb=>⟨s1 b hb, ?_⟩),back w' T' cs' x' (hL.mono fun b hb=>⟨s2 b hb.1,hb.2.1,fun h=>hb.2.2 (t1 b h),fun h=>hb.2.2 (t2 b h),fun h=>hb.2.2 (t3 b h)⟩) hB hl hX (fun b hb=>?_),h3.keep (hL.mono fun b hb=>⟨s3 b hb, ?_⟩),
  fun b hb=>Or.inl (s1 b hb),fun b hb=>hb.imp (s2 b) id,fun b hb=>Or.inl (s3 b hb),fun b hb hc=>?_,d2,fun b hb hc=>?_⟩
 ·have hn:¬ Sn b:=fun h=>d1 b hb h
  exact ⟨fun e=>hn (e ▸ e2),fun h=>hn (e9 b (t1 b h)).1,fun h=>hn (e9 b (t2 b h)).1,fun h=>hn (e9 b (t3 b h)).1⟩
 ·rcases hT b hb with h | h | h | h
  ·exact Or.inl (t1 b h)
  ·exact Or.inl (t2 b h)
  ·exact Or.inl (t3 b h)
  ·exact Or.inr fun k=>h (s2 b k)
 ·have hn:¬ Sn b:=fun h=>d3 b h hb
  exact ⟨fun e=>hn (e ▸ e2),fun h=>hn (e9 b (t1 b h)).1,fun h=>hn (e9 b (t2 b h)).1,fun h=>hn (e9 b (t3 b h)).1⟩
 ·rcases hc with hc | hc
  ·exact d1 b hb hc
  ·rcases hT b hc with h | h | h | h
   ·exact d1 b hb (e9 b (t1 b h)).1
   ·exact d1 b hb (e9 b (t2 b h)).1
   ·exact d1 b hb (e9 b (t3 b h)).1
   ·exact h (s1 b hb)
 ·rcases hb with hb | hb
  ·exact d3 b hb hc
  ·rcases hT b hb with h | h | h | h
   ·exact d3 b (e9 b (t1 b h)).1 hc
   ·exact d3 b (e9 b (t2 b h)).1 hc
   ·exact d3 b (e9 b (t3 b h)).1 hc
   ·exact h (s3 b hc)
theorem OWd.wire_at (h:OWd o w S gv nv wv X) {a k:Nat} (hi:a < X.wires.length) (hk:k < (X.wires.getD a []).length) :
  ∃ (g1 cap1 g2 cap2:Nat) (u:Value) (T2:Nat → Prop),wv = .slice (some ⟨g1,0,none⟩) X.wires.length cap1 ∧ X.wires.length ≤ cap1 ∧ S g1 ∧ g1 < w.heap.size ∧
   w.cell? ⟨g1,a,none⟩ = some (.slice (some ⟨g2,0,none⟩) (X.wires.getD a []).length cap2) ∧ (X.wires.getD a []).length ≤ cap2 ∧ S g2 ∧ g2 < w.heap.size ∧ BlkIs w g2 63 cap2 ∧ w.cell? ⟨g2,k,none⟩ = some u ∧
   OMsgs o w T2 u ((X.wires.getD a []).getD k []) ∧ (∀ b,T2 b → S b ∧ b ≠ g1 ∧ b ≠ g2) ∧ g1 ≠ g2 ∧
   ∀ w' T' u' ms',Lies (fun b=>S b ∧ b ≠ g2 ∧ ¬ T2 b) w w' → BlkSet w w' g2 k [u'] → OMsgs o w' T' u' ms' → (∀ b,T' b → T2 b ∨ ¬ S b) →
    OWd o w' (fun b=>S b ∨ T' b) gv nv wv { X with wires:=X.wires.set a ((X.wires.getD a []).set k ms') }:=by
 obtain ⟨Sg,Sn,Sw,h1,h2,h3,s1,s2,s3,d1,d2,d3⟩:=h
 obtain ⟨g1,off,cap1,T1,cs,e1,e2,e3,e4,e5,e6,e7,⟨r,rfl,e8⟩,e9,back⟩:=OSl.at (OMsgRowsEl.stays o) h3 hi
 obtain rfl:=e5 rfl
 rw [getD_lt X.wires [] hi] at hk ⊢
 obtain ⟨g2,off2,cap2,T2,cs2,f1,f2,f3,f4,f5,f6,f7,⟨u,rfl,f8⟩,f9,back2⟩:=OSl.at (OMsgsEl.stays o) e8 hk
 obtain rfl:=f5 rfl
 subst f1
 rw [getD_lt X.wires[a] [] hk]
 have k1:=e7 0 (by omega)
 have k2:=f7 0 (by omega)
 simp only [Nat.zero_add,Nat.mul_one,Nat.add_zero] at e3 e7 back f3 f7 back2 k1 k2
 refine ⟨g1,cap1,g2,cap2,u,T2,e1,e4,s3 g1 e2,e3.lt,k1,f4,s3 g2 (e9 g2 f2).1,f3.lt,f3,k2,f8,fun b hb=>⟨s3 b (e9 b (f9 b hb).1).1,(e9 b (f9 b hb).1).2,(f9 b hb).2⟩,fun e=>(e9 g2 f2).2 e.symm,fun w' T' u' ms' hL hB hX hT=>?_⟩
 have hT1:∀ b,T' b → T2 b ∨ ¬ T1 b:=fun b hb=>(hT b hb).imp id (fun h k=>h (s3 b (e9 b k).1))
 have hrow:=back2 w' T' [u'] ms' (hL.mono fun b hb=>⟨s3 b (e9 b hb.1).1,hb.2⟩) hB rfl ⟨u',rfl,hX⟩ hT1
 have hg1:w'.heap[g1]? = w.heap[g1]?:=hL g1 ⟨s3 g1 e2,fun e=>(e9 g2 f2).2 e.symm,fun h=>(e9 g1 (f9 g1 h).1).2 rfl⟩
 refine ⟨Sg,Sn,fun b=>Sw b ∨ (T1 b ∨ T' b),h1.keep (hL.mono fun b hb=>⟨s1 b hb, ?_⟩),h2.keep (hL.mono fun b hb=>⟨s2 b hb, ?_⟩),
  back w' (fun b=>T1 b ∨ T' b) [_] _ (hL.mono fun b hb=>⟨s3 b hb.1,fun e=>hb.2.2 (e ▸ f2),fun h=>hb.2.2 (f9 b h).1⟩) (BlkSet.same hg1 (fun j hj=>e7 j hj)) rfl ⟨_,rfl,hrow⟩ (fun b hb=>?_),
  fun b hb=>Or.inl (s1 b hb),fun b hb=>Or.inl (s2 b hb),fun b hb=>?_,d1,fun b hb hc=>?_,fun b hb hc=>?_⟩
 ·have hn:¬ Sw b:=fun h=>d2 b hb h
  exact ⟨fun e=>hn (e9 b (e ▸ f2)).1,fun h=>hn (e9 b (f9 b h).1).1⟩
 ·have hn:¬ Sw b:=fun h=>d3 b hb h
  exact ⟨fun e=>hn (e9 b (e ▸ f2)).1,fun h=>hn (e9 b (f9 b h).1).1⟩
 ·rcases hb with h | h
  ·exact Or.inl h
  ·exact (hT b h).imp (fun k=>(f9 b k).1) (fun h k=>h (s3 b k))
 ·rcases hb with hb | hb | hb
  ·exact Or.inl (s3 b hb)
  ·exact Or.inl (s3 b (e9 b hb).1)
  ·exact Or.inr hb
 ·rcases hc with hc | hc | hc
  ·exact d2 b hb hc
  ·exact d2 b hb (e9 b hc).1
  ·rcases hT b hc with h | h
   ·exact d2 b hb (e9 b (f9 b h).1).1
   ·exact h (s1 b hb)
 ·rcases hc with hc | hc | hc
  ·exact d3 b hb hc
  ·exact d3 b hb (e9 b hc).1
  ·rcases hT b hc with h | h
   ·exact d3 b hb (e9 b (f9 b h).1).1
   ·exact h (s2 b hb)
end
theorem OIntRows.cell_at {w:World} {T:Nat → Prop} {v:Value} {l:List (List Int)} (h:OIntRows w T v l) {a k:Nat} (hi:a < l.length) (hk:k < (l.getD a []).length) :
  ∃ (g1 cap1 g2 cap2:Nat),v = .slice (some ⟨g1,0,none⟩) l.length cap1 ∧ l.length ≤ cap1 ∧ T g1 ∧ g1 < w.heap.size ∧ w.cell? ⟨g1,a,none⟩ = some (.slice (some ⟨g2,0,none⟩) (l.getD a []).length cap2) ∧ (l.getD a []).length ≤ cap2 ∧ T g2 ∧ g2 < w.heap.size ∧
   BlkIs w g2 3 cap2 ∧ w.cell? ⟨g2,k,none⟩ = some (.int .i64 ((l.getD a []).getD k 0)) ∧ I64 ((l.getD a []).getD k 0) ∧ g1 ≠ g2 ∧
   ∀ w' x,Lies (fun b=>T b ∧ b ≠ g2) w w' → BlkSet w w' g2 k [.int .i64 x] → I64 x → OIntRows w' T v (l.set a ((l.getD a []).set k x)):=by
 obtain ⟨g1,off,cap1,T1,cs,e1,e2,e3,e4,e5,e6,e7,⟨r,rfl,e8⟩,e9,back⟩:=OSl.at OIntsEl.stays h hi
 obtain rfl:=e5 rfl
 rw [getD_lt l [] hi] at hk ⊢
 obtain ⟨g2,off2,cap2,T2,cs2,f1,f2,f3,f4,f5,f6,f7,⟨rfl,f8⟩,f9,back2⟩:=OSl.at IntEl.stays e8 hk
 obtain rfl:=f5 rfl
 subst f1
 rw [getD_lt l[a] 0 hk]
 have k1:=e7 0 (by omega)
 have k2:=f7 0 (by omega)
 simp only [Nat.zero_add,Nat.mul_one,Nat.add_zero] at e3 e7 back f3 f7 back2 k1 k2
 refine ⟨g1,cap1,g2,cap2,e1,e4,e2,e3.lt,k1,f4,(e9 g2 f2).1,f3.lt,f3,k2,f8,fun e=>(e9 g2 f2).2 e.symm,fun w' x hL hB hX=>?_⟩
 have hrow:=back2 w' (fun _=>False) [.int .i64 x] x (hL.mono fun b hb=>⟨(e9 b hb.1).1,hb.2.1⟩) hB rfl ⟨rfl,hX⟩ (fun _ h=>h.elim)
 have hg1:w'.heap[g1]? = w.heap[g1]?:=hL g1 ⟨e2,fun e=>(e9 g2 f2).2 e.symm⟩
 refine OSl.mono (back w' T1 [_] _ (hL.mono fun b hb=>⟨hb.1,fun e=>hb.2.2 (e ▸ f2)⟩) (BlkSet.same hg1 (fun j hj=>e7 j hj)) rfl ⟨_,rfl,OSl.mono hrow (fun b hb=>hb.elim id False.elim)⟩ (fun b hb=>Or.inl hb)) (fun b hb=>hb.elim id (fun h=>(e9 b h).1))
end Go.Proofs.YtnalakhelicjcaaGreatDoor
set_option maxRecDepth 100000
namespace Go.Proofs.YtnalakhelicjcaaGreatDoor
open Go.RowKit Go.Shelf Go.BigFrame
theorem all_take {α:Type} {p:α → Bool} {xs:List α} {d:α} {k:Nat} (hk:k < xs.length) :
  (p (xs.getD k d) = false → xs.all p = false) ∧ ((xs.take k).all p = true → p (xs.getD k d) = true → (xs.take (k + 1)).all p = true):=by
 rw [getD_lt xs d hk]
 refine ⟨fun h=>?_,fun h h2=>?_⟩
 ·rw [← Bool.not_eq_true,List.all_eq_true]
  intro h3
  rw [h3 _ (List.getElem_mem hk)] at h
  cases h
 ·rw [List.take_succ_eq_append_getElem hk,List.all_append,h]
  simp [h2]
def noNullB (ms:List M):Bool:=ms.all fun m=>!m.null
theorem noNull_c {w:World} {v:Value} {ms:List M} (h:Msgs w v ms):Calls Tryz.prog 109 #[v] w (Gives (.bool (noNullB ms)) w):=by
 obtain ⟨hl,a,cap,rfl,_,hc⟩:=h.open
 replace hc:=Lib.hid hc
 go_enter Tryz.func109,Tryz.ntmps109
 go_wp2_with fail
 go_loopw [3] (fun i wr=>∃ k:Nat,k ≤ ms.length ∧ i = .int .i64 k ∧ noNullB (ms.take k) = true ∧ Drew w wr) (fun i _=>ms.length - (intOf i).toNat)
 case atStart=>exact ⟨0,by omega,rfl,rfl,Drew.refl _⟩
 case round =>
  obtain ⟨k,hk,rfl,hg,hd⟩:=hrel
  replace hg:=Lib.hid hg
  by_cases hlt:k < ms.length
  ·obtain ⟨b,off,rfl,hcc⟩:=hc.out (by intro e;subst e;simp at hlt)
   obtain ⟨_,_,_,m3,_⟩:=(hcc k hlt).below hd.below
   have ht:=Lib.hid (all_take (p:=fun m=>!m.null) (d:=M.zero) hlt)
   generalize ms.getD k M.zero = m at m3 ht
   obtain ⟨src,grp,stamp,null,body⟩:=m
   cases null
   ·go_wp2_with fail
    go_roundw
    case rel=>exact ⟨k + 1,by omega,by go_num,ht.out.2 hg.out rfl,hd⟩
    case measure=>simp [intOf];omega
   ·go_wp2_with fail
    go_ret
    exact gives_bool hd (ht.out.1 rfl).symm
  ·obtain rfl:k = ms.length:=by omega
   have hg:=hg.out
   rw [List.take_length] at hg
   replace hg:=Lib.hid hg
   go_wp2_with fail
   go_ret
   exact gives_bool hd hg.out.symm
def WBox (w:World) (b:Nat) (gv nv wv:Value):Prop:=w.cell? ⟨b,0,none⟩ = some gv ∧ w.cell? ⟨b,1,none⟩ = some nv ∧ w.cell? ⟨b,2,none⟩ = some wv
theorem WBox.new (w:World) (gv nv wv:Value) (t:TypeId):WBox (w.alloc (.cells #[gv,nv,wv] t)) w.heap.size gv nv wv:=by
 unfold WBox
 simp
theorem WBox.below {w w':World} {b B:Nat} {gv nv wv:Value} (h:WBox w b gv nv wv) (hb:Below B w w') (hB:b < B):WBox w' b gv nv wv:=by
 obtain ⟨h0,h1,h2⟩:=h
 exact ⟨(hb.cell (p:=⟨b,0,none⟩) hB).trans h0,(hb.cell (p:=⟨b,1,none⟩) hB).trans h1,(hb.cell (p:=⟨b,2,none⟩) hB).trans h2⟩
def fineM (nodes:Int) (gs:List Int) (n:Int) (m:M):Bool:=(msgE nodes gs m == 0) && hasB gs m.grp n
def listFineB (nodes:Int) (gs:List Int) (ms:List M) (n:Int):Bool:=ms.all (fineM nodes gs n)
set_option maxHeartbeats 1000000 in
theorem listFine_c {w:World} {gv nv wv v:Value} {X:Wd} {ms:List M} (hg:Ints w gv X.groups) (hn:Nodes w nv X.nodes) (h:Msgs w v ms) (n:Int) :
  Calls Tryz.prog 110 #[.agg #[gv,nv,wv],v, .int .i64 n] w (GivesB (.bool (listFineB X.nodes.length X.groups ms n)) w):=by
 obtain ⟨hl,a,cap,rfl,_,hc⟩:=h.open
 obtain ⟨hnl,na,ncap,rfl,_,_⟩:=Sl.open hn
 replace hc:=Lib.hid hc
 have hA:=below_a1 w (.cells #[gv, .slice na X.nodes.length ncap,wv] 35)
 have hB:=WBox.new w gv (.slice na X.nodes.length ncap) wv 35
 go_enter Tryz.func110,Tryz.ntmps110
 go_wp2_with fail
 go_loopw [7] (fun i wr=>∃ k:Nat,k ≤ ms.length ∧ i = .int .i64 k ∧ listFineB X.nodes.length X.groups (ms.take k) n = true ∧ Below (w.heap.size + 1) (w.alloc (.cells #[gv, .slice na X.nodes.length ncap,wv] 35)) wr) (fun i _=>ms.length - (intOf i).toNat)
 case atStart=>exact ⟨0,by omega,rfl,rfl,Below.refl _ _⟩
 case round =>
  obtain ⟨k,hk,rfl,hgo,hb⟩:=hrel
  replace hgo:=Lib.hid hgo
  obtain ⟨b0,b1,b2⟩:=hB.below hb (by omega)
  have hmb:=cell_lt b0
  dsimp only at hmb
  have hw:=hA.trans (hb.mono (by omega))
  by_cases hlt:k < ms.length
  ·obtain ⟨b,off,rfl,hcc⟩:=hc.out (by intro e;subst e;simp at hlt)
   obtain ⟨m0,m1,m2,m3,m4⟩:=(hcc k hlt).below hw
   have ht:=Lib.hid (all_take (p:=fineM X.nodes.length X.groups n) (d:=M.zero) hlt)
   generalize ms.getD k M.zero = m at m0 m1 m2 m3 m4 ht
   have hblt:=cell_lt m0
   dsimp only at hblt
   have hgI:=hg.below hw
   have hE:=fun (o:World) (h:Ints o gv X.groups)=>MsgError_c h X.nodes.length m
   have hH:=fun (o:World) (h:Ints o gv X.groups)=>HasOf_c h m.grp n
   unfold M.val at hE
   cases he:(msgE X.nodes.length X.groups m == 0)
   ·have he2:(msgE X.nodes.length X.groups m != 0) = true:=by simpa using he
    replace he:=Lib.hid he
    go_wp2_with fail
    refine wp_region_over (by kernel_rfl) (by kernel_rfl) ?_
    repeat (go_big_quiet_step (first | exact over_c (hE _ (hgI.below (Over.h _))) | exact over_w (hH _ (hgI.below (Over.h _)))))
    refine wpQuiet_nil ?_
    rintro w2 ⟨⟨_,hb2⟩,rfl⟩
    go_wp2_with fail
    go_ret
    exact givesB_bool (below_trans hw hb2) (ht.out.1 (by rw [fineM,he.out];rfl)).symm
   ·have he2:(msgE X.nodes.length X.groups m != 0) = false:=by simpa using he
    replace he:=Lib.hid he
    cases hh:hasB X.groups m.grp n
    ·rw [hh] at hH
     replace hh:=Lib.hid hh
     go_wp2_with fail
     refine wp_region_over (by kernel_rfl) (by kernel_rfl) ?_
     repeat (go_big_quiet_step (first | exact over_c (hE _ (hgI.below (Over.h _))) | exact over_w (hH _ (hgI.below (Over.h _)))))
     refine wpQuiet_nil ?_
     rintro w2 ⟨⟨_,hb2⟩,rfl⟩
     go_wp2_with fail
     go_ret
     exact givesB_bool (below_trans hw hb2) (ht.out.1 (by rw [fineM,he.out,hh.out];rfl)).symm
    ·rw [hh] at hH
     replace hh:=Lib.hid hh
     go_wp2_with fail
     refine wp_region_over (by kernel_rfl) (by kernel_rfl) ?_
     repeat (go_big_quiet_step (first | exact over_c (hE _ (hgI.below (Over.h _))) | exact over_w (hH _ (hgI.below (Over.h _)))))
     refine wpQuiet_nil ?_
     rintro w2 ⟨⟨_,hb2⟩,rfl⟩
     go_wp2_with fail
     go_roundw
     case rel=>exact ⟨k + 1,by omega,by go_num,ht.out.2 hgo.out (by rw [fineM,he.out,hh.out];rfl),hb.trans (hb2.mono (by omega))⟩
     case measure=>simp [intOf];omega
  ·obtain rfl:k = ms.length:=by omega
   have hgo:=hgo.out
   rw [List.take_length] at hgo
   replace hgo:=Lib.hid hgo
   go_wp2_with fail
   go_ret
   exact givesB_bool hw hgo.out.symm
end Go.Proofs.YtnalakhelicjcaaGreatDoor
set_option maxRecDepth 100000
namespace Go.Proofs.YtnalakhelicjcaaGreatDoor
open Go.RowKit Go.Shelf Go.BigFrame
theorem range_all_t {n:Nat} {p:Nat → Bool} (h:∀ t,t < n → p t = true):(List.range n).all p = true:=by
 rw [List.all_eq_true]
 exact fun t ht=>h t (List.mem_range.1 ht)
theorem range_all_f {n t:Nat} {p:Nat → Bool} (ht:t < n) (h:p t = false):(List.range n).all p = false:=by
 rw [← Bool.not_eq_true,List.all_eq_true]
 intro h2
 rw [h2 t (List.mem_range.2 ht)] at h
 cases h
theorem range_all_iff {n:Nat} {p:Nat → Bool}:(List.range n).all p = true ↔ ∀ t,t < n → p t = true:=by
 rw [List.all_eq_true]
 exact ⟨fun h t ht=>h t (List.mem_range.2 ht),fun h t ht=>h t (List.mem_range.1 ht)⟩
section
variable {w:World} {v:Value}
theorem Wires.form {l:List (List (List M))} (h:Wires w v l):l.length * 8 ≤ 140737488351232 ∧ ∃ a cap,v = .slice a l.length cap ∧ l.length ≤ cap:=by
 obtain ⟨h1,a,cap,h2,h3,_⟩:=Sl.open h
 exact ⟨by omega,a,cap,h2,h3⟩
theorem Nodes.form {l:List N} (h:Nodes w v l):l.length * 32 ≤ 140737488351232 ∧ ∃ a cap,v = .slice a l.length cap ∧ l.length ≤ cap:=by
 obtain ⟨h1,a,cap,h2,h3,_⟩:=Sl.open h
 exact ⟨by omega,a,cap,h2,h3⟩
theorem IntRows.form {l:List (List Int)} (h:IntRows w v l):l.length * 8 ≤ 140737488351232 ∧ ∃ a cap,v = .slice a l.length cap ∧ l.length ≤ cap:=by
 obtain ⟨h1,a,cap,h2,h3,_⟩:=Sl.open h
 exact ⟨by omega,a,cap,h2,h3⟩
theorem MsgRows.form {l:List (List M)} (h:MsgRows w v l):l.length * 8 ≤ 140737488351232 ∧ ∃ a cap,v = .slice a l.length cap ∧ l.length ≤ cap:=by
 obtain ⟨h1,a,cap,h2,h3,_⟩:=Sl.open h
 exact ⟨by omega,a,cap,h2,h3⟩
theorem Wires.row {l:List (List (List M))} (h:Wires w v l) {a:Nat} (ha:a < l.length) :
  ∃ b1 o1 c1 u,v = .slice (some ⟨b1,o1,none⟩) l.length c1 ∧ l.length ≤ c1 ∧ w.cell? ⟨b1,o1 + a,none⟩ = some u ∧ MsgRows w u (l.getD a []):=by
 obtain ⟨h1,ad,cap,h2,h3,h4⟩:=Sl.open h
 obtain ⟨b,off,rfl,hc⟩:=h4 (by intro e;subst e;simp at ha)
 obtain ⟨cs,_,⟨u,rfl,hu⟩,hj⟩:=hc a ha
 refine ⟨b,off,cap,u,h2,h3,by simpa using hj 0 (by omega),by rw [getD_lt l [] ha];exact hu⟩
theorem MsgRows.at {l:List (List M)} (h:MsgRows w v l) {a:Nat} (ha:a < l.length) :
  ∃ b1 o1 c1 u,v = .slice (some ⟨b1,o1,none⟩) l.length c1 ∧ l.length ≤ c1 ∧ w.cell? ⟨b1,o1 + a,none⟩ = some u ∧ Msgs w u (l.getD a []):=by
 obtain ⟨h1,ad,cap,h2,h3,h4⟩:=Sl.open h
 obtain ⟨b,off,rfl,hc⟩:=h4 (by intro e;subst e;simp at ha)
 obtain ⟨cs,_,⟨u,rfl,hu⟩,hj⟩:=hc a ha
 refine ⟨b,off,cap,u,h2,h3,by simpa using hj 0 (by omega),by rw [getD_lt l [] ha];exact hu⟩
theorem IntRows.at {l:List (List Int)} (h:IntRows w v l) {a:Nat} (ha:a < l.length) :
  ∃ b1 o1 c1 u,v = .slice (some ⟨b1,o1,none⟩) l.length c1 ∧ l.length ≤ c1 ∧ w.cell? ⟨b1,o1 + a,none⟩ = some u ∧ Ints w u (l.getD a []):=by
 obtain ⟨h1,ad,cap,h2,h3,h4⟩:=Sl.open h
 obtain ⟨b,off,rfl,hc⟩:=h4 (by intro e;subst e;simp at ha)
 obtain ⟨cs,_,⟨u,rfl,hu⟩,hj⟩:=hc a ha
 refine ⟨b,off,cap,u,h2,h3,by simpa using hj 0 (by omega),by rw [getD_lt l [] ha];exact hu⟩
theorem Ints.at {xs:List Int} (h:Ints w v xs) {a:Nat} (ha:a < xs.length) :
  ∃ b1 o1 c1,v = .slice (some ⟨b1,o1,none⟩) xs.length c1 ∧ xs.length ≤ c1 ∧ w.cell? ⟨b1,o1 + a,none⟩ = some (.int .i64 (xs.getD a 0)) ∧ I64 (xs.getD a 0):=by
 obtain ⟨h1,ad,cap,h2,h3,h4⟩:=h.open
 obtain ⟨b,off,rfl,hc⟩:=h4 (by intro e;subst e;simp at ha)
 exact ⟨b,off,cap,h2,h3,hc a ha,by rw [getD_lt xs 0 ha];exact h.1 _ (List.getElem_mem _)⟩
theorem Nodes.at {l:List N} (h:Nodes w v l) {n:Nat} (hn:n < l.length) :
  ∃ b1 o1 c1 lv hv tv,v = .slice (some ⟨b1,o1,none⟩) l.length c1 ∧ l.length ≤ c1 ∧ w.cell? ⟨b1,o1 + n * 4,none⟩ = some (.int .i64 (l.getD n N.zero).clock) ∧ w.cell? ⟨b1,o1 + n * 4 + 1,none⟩ = some lv ∧
   w.cell? ⟨b1,o1 + n * 4 + 2,none⟩ = some hv ∧ w.cell? ⟨b1,o1 + n * 4 + 3,none⟩ = some tv ∧ I64 (l.getD n N.zero).clock ∧ IntRows w lv (l.getD n N.zero).last ∧ Msgs w hv (l.getD n N.zero).held ∧ Msgs w tv (l.getD n N.zero).told:=by
 obtain ⟨h1,ad,cap,h2,h3,h4⟩:=Sl.open h
 obtain ⟨b,off,rfl,hc⟩:=h4 (by intro e;subst e;simp at hn)
 obtain ⟨cs,_,⟨lv,hv,tv,rfl,h0,k1,k2,k3⟩,hj⟩:=hc n hn
 rw [getD_lt l N.zero hn]
 exact ⟨b,off,cap,lv,hv,tv,h2,h3,hj 0 (by omega),hj 1 (by omega),hj 2 (by omega),hj 3 (by omega),h0,k1,k2,k3⟩
end
def NBox (w:World) (b:Nat) (x:N) (lv hv tv:Value):Prop:=w.cell? ⟨b,0,none⟩ = some (.int .i64 x.clock) ∧ w.cell? ⟨b,1,none⟩ = some lv ∧ w.cell? ⟨b,2,none⟩ = some hv ∧ w.cell? ⟨b,3,none⟩ = some tv
theorem NBox.new (w:World) (x:N) (lv hv tv:Value) (t:TypeId):NBox (w.alloc (.cells #[.int .i64 x.clock,lv,hv,tv] t)) w.heap.size x lv hv tv:=by
 unfold NBox
 simp
theorem NBox.below {w w':World} {b B:Nat} {x:N} {lv hv tv:Value} (h:NBox w b x lv hv tv) (hb:Below B w w') (hB:b < B):NBox w' b x lv hv tv:=by
 obtain ⟨h0,h1,h2,h3⟩:=h
 exact ⟨(hb.cell (p:=⟨b,0,none⟩) hB).trans h0,(hb.cell (p:=⟨b,1,none⟩) hB).trans h1,(hb.cell (p:=⟨b,2,none⟩) hB).trans h2,(hb.cell (p:=⟨b,3,none⟩) hB).trans h3⟩
def wireOrdB (a:Int) (ms:List M):Bool:=(List.range ms.length).all fun t=>(ms.getD t M.zero).src == a && (t == 0 || decide ((ms.getD (t - 1) M.zero).stamp < (ms.getD t M.zero).stamp))
def wireFineB (X:Wd) (a b:Nat):Bool:=
 wireOrdB a ((X.wires.getD a []).getD b []) && listFineB X.nodes.length X.groups ((X.wires.getD a []).getD b []) b && (a != b || ((X.wires.getD a []).getD b []).isEmpty)
set_option maxHeartbeats 1000000 in
theorem wireFine_c {w:World} {gv nv wv:Value} {X:Wd} (hg:Ints w gv X.groups) (hn:Nodes w nv X.nodes) (hw:Wires w wv X.wires) {a b:Nat} (ha:a < X.wires.length) (hb:b < (X.wires.getD a []).length) :
  Calls Tryz.prog 86 #[.agg #[gv,nv,wv], .int .i64 a, .int .i64 b] w (GivesB (.bool (wireFineB X a b)) w):=by
 obtain ⟨hwl,_⟩:=hw.form
 obtain ⟨b1,o1,c1,u,rfl,hc1,k1,hu⟩:=hw.row ha
 obtain ⟨hul,_⟩:=hu.form
 obtain ⟨b2,o2,c2,v,rfl,hc2,k2,hv⟩:=hu.at hb
 obtain ⟨hl,ad,cap,rfl,_,hc⟩:=hv.open
 have hA:=below_a1 w (.cells #[gv,nv, .slice (some ⟨b1,o1,none⟩) X.wires.length c1] 35)
 have hB:=WBox.new w gv nv (.slice (some ⟨b1,o1,none⟩) X.wires.length c1) 35
 have hL:=listFine_c (hg.below hA) (hn.below hA) (hv.below hA) b (wv:=.slice (some ⟨b1,o1,none⟩) X.wires.length c1)
 have hF:∀ x,wireFineB X a b = x ↔ (wireOrdB a ((X.wires.getD a []).getD b []) && listFineB X.nodes.length X.groups ((X.wires.getD a []).getD b []) b && (a != b || ((X.wires.getD a []).getD b []).isEmpty)) = x:=fun x=>Iff.rfl
 have hO:∀ t,wireOrdB a t = (List.range t.length).all fun j=>(t.getD j M.zero).src == a && (j == 0 || decide ((t.getD (j - 1) M.zero).stamp < (t.getD j M.zero).stamp)):=fun t=>rfl
 generalize X.wires.getD a [] = row at *
 generalize row.getD b [] = ms at *
 generalize wireFineB X a b = r at *
 have hF:=Lib.hid hF
 have hO:=Lib.hid (hO ms)
 have hk1:=cell_lt k1
 have hk2:=cell_lt k2
 dsimp only at hk1 hk2
 replace hc:=Lib.hid hc
 go_enter Tryz.func86,Tryz.ntmps86
 go_wp2_with fail
 go_loopw [8] (fun i wr=>∃ k:Nat,k ≤ ms.length ∧ i = .int .i64 k ∧ Hid (∀ t,t < k → ((ms.getD t M.zero).src == (a:Int) && (t == 0 || decide ((ms.getD (t - 1) M.zero).stamp < (ms.getD t M.zero).stamp))) = true) ∧ Drew (w.alloc (.cells #[gv,nv, .slice (some ⟨b1,o1,none⟩) X.wires.length c1] 35)) wr) (fun i _=>ms.length - (intOf i).toNat)
 case atStart=>exact ⟨0,by omega,rfl,fun t ht=>absurd ht (Nat.not_lt_zero _),Drew.refl _⟩
 case round =>
  obtain ⟨k,hk,rfl,hgo,hd⟩:=hrel
  by_cases hlt:k < ms.length
  ·obtain ⟨bm,off,rfl,hcc⟩:=hc.out (by intro e;subst e;simp at hlt)
   have hm:=(hcc k hlt).below (below_trans hA hd.below)
   obtain ⟨m,HM⟩:∃ m,ms.getD k M.zero = m:=⟨_,rfl⟩
   rw [HM] at hm
   replace HM:=Lib.hid HM
   obtain ⟨m0,m1,m2,m3,m4⟩:=hm
   by_cases hs:m.src = a
   ·have hsb:(m.src != (a:Int)) = false:=by simp [hs]
    replace hs:=Lib.hid hs
    cases k with
    | zero =>
     rw [Nat.zero_mul,Nat.add_zero] at m0 m1 m2 m3 m4
     go_wp2_with fail
     go_quiet (fail)
     go_wp2_with fail
     go_roundw
     case rel=>exact ⟨1,by omega,by go_num,fun t ht=>by obtain rfl:t = 0:=by omega
                                                        rw [HM.out,hs.out];simp,hd.drewN _⟩
     case measure=>simp [intOf];omega
    | succ j =>
     have hp:=(hcc j (by omega)).below (below_trans hA hd.below)
     obtain ⟨p,HP⟩:∃ p,ms.getD j M.zero = p:=⟨_,rfl⟩
     rw [HP] at hp
     replace HP:=Lib.hid HP
     obtain ⟨p0,p1,p2,p3,p4⟩:=hp
     by_cases hst:p.stamp < m.stamp
     ·have hsd:decide (m.stamp ≤ p.stamp) = false:=decide_eq_false (by omega)
      go_wp2_with fail
      go_quiet (fail)
      go_wp2_with fail
      go_roundw
      case rel =>
       refine ⟨j + 1 + 1,by omega,by go_num,fun t ht=>?_,hd.drewN _⟩
       rcases Nat.eq_or_lt_of_le (Nat.le_of_lt_succ ht) with e | e
       ·subst e
        rw [HM.out,hs.out,Nat.add_sub_cancel,HP.out,decide_eq_true hst];simp
       ·exact hgo.out t e
      case measure=>simp [intOf];omega
     ·have hsd:decide (m.stamp ≤ p.stamp) = true:=decide_eq_true (by omega)
      go_wp2_with fail
      go_quiet (fail)
      go_wp2_with fail
      go_ret
      refine givesB_bool (below_trans hA (hd.drewN _).below) ?_
      refine ((hF.out _).2 ?_).symm
      rw [hO.out,range_all_f hlt (by rw [HM.out,Nat.add_sub_cancel,HP.out,decide_eq_false (by omega)];simp)];rfl
   ·have hsb:(m.src != (a:Int)) = true:=by simp [hs]
    replace hs:=Lib.hid hs
    go_wp2_with fail
    go_quiet (fail)
    go_wp2_with fail
    go_ret
    refine givesB_bool (below_trans hA (hd.drewN _).below) ?_
    refine ((hF.out _).2 ?_).symm
    rw [hO.out,range_all_f hlt (by rw [HM.out];simp [hs.out])];rfl
  ·obtain rfl:k = ms.length:=by omega
   have hO2:=Lib.hid (hO.out.trans (range_all_t hgo.out))
   have hw1:=below_trans hA hd.below
   have hL:=listFine_c (hg.below hw1) (hn.below hw1) (hv.below hw1) b (wv:=.slice (some ⟨b1,o1,none⟩) X.wires.length c1)
   obtain ⟨c0,c1',c2'⟩:=hB.below hd.below (by simp)
   cases hlf:listFineB X.nodes.length X.groups ms b
   ·rw [hlf] at hL
    replace hlf:=Lib.hid hlf
    go_wp2_with fail
    refine hL.mono ?_
    rintro e w2 ⟨rfl,hb2⟩
    go_wp2_with fail
    go_ret
    refine givesB_bool (below_trans hw1 hb2) ?_
    refine ((hF.out _).2 ?_).symm
    rw [hO2.out,hlf.out];rfl
   ·rw [hlf] at hL
    replace hlf:=Lib.hid hlf
    by_cases hab:a = b
    ·have hab1:((a:Int) != (b:Int)) = false:=by simp [hab]
     have hab2:=Lib.hid hab
     by_cases he:ms.length = 0
     ·have he1:((ms.length:Int) == 0) = true:=by simp [he]
      have he2:=Lib.hid he
      clear he hab
      go_wp2_with fail
      refine hL.mono ?_
      rintro e w2 ⟨rfl,hb2⟩
      go_wp2_with fail
      go_ret
      refine givesB_bool (below_trans hw1 hb2) ?_
      refine ((hF.out _).2 ?_).symm
      rw [hO2.out,hlf.out,List.eq_nil_of_length_eq_zero he2.out];simp
     ·have he1:((ms.length:Int) == 0) = false:=by simpa using he
      have he2:=Lib.hid he
      clear he hab
      go_wp2_with fail
      refine hL.mono ?_
      rintro e w2 ⟨rfl,hb2⟩
      go_wp2_with fail
      go_ret
      refine givesB_bool (below_trans hw1 hb2) ?_
      refine ((hF.out _).2 ?_).symm
      rw [hO2.out,hlf.out,hab2.out]
      have:=he2.out
      cases ms with
      | nil=>simp at this
      | cons x xs=>simp
    ·have hab1:((a:Int) != (b:Int)) = true:=by simp;omega
     have hab2:=Lib.hid hab
     clear hab
     go_wp2_with fail
     refine hL.mono ?_
     rintro e w2 ⟨rfl,hb2⟩
     go_wp2_with fail
     go_ret
     refine givesB_bool (below_trans hw1 hb2) ?_
     refine ((hF.out _).2 ?_).symm
     rw [hO2.out,hlf.out]
     simp [hab2.out]
end Go.Proofs.YtnalakhelicjcaaGreatDoor
set_option maxRecDepth 100000
namespace Go.Proofs.YtnalakhelicjcaaGreatDoor
open Go.RowKit Go.Shelf Go.BigFrame
def cellFineB (X:Wd) (n g k:Nat) (s:Int):Bool:=inB s 0 1048576 && ((hasB X.groups g n && hasB X.groups g k) || s == 0)
def rowFineB (X:Wd) (n g:Nat) (row:List Int):Bool:=decide (row.length = X.nodes.length) && (List.range row.length).all fun k=>cellFineB X n g k (row.getD k 0)
def lastFineB (X:Wd) (n:Nat) (l:List (List Int)):Bool:=decide (l.length = X.groups.length) && (List.range l.length).all fun g=>rowFineB X n g (l.getD g [])
def nodeOkB (X:Wd) (n:Nat) (x:N):Bool:=
 inB x.clock 0 1048576 && lastFineB X n x.last && (risesB x.held && risesB x.told && noNullB x.held && noNullB x.told && listFineB X.nodes.length X.groups x.held n && listFineB X.nodes.length X.groups x.told n)
def nodeFineB (X:Wd) (n:Nat):Bool:=nodeOkB X n (X.nodes.getD n N.zero)
theorem cell_cases (X:Wd) (n g k:Nat) (s:Int) :
  (hasB X.groups g n = false ∧ inB s 0 1048576 = false ∧ cellFineB X n g k s = false) ∨ (hasB X.groups g n = false ∧ inB s 0 1048576 = true ∧ (s != 0) = true ∧ cellFineB X n g k s = false) ∨
  (hasB X.groups g n = false ∧ inB s 0 1048576 = true ∧ (s != 0) = false ∧ cellFineB X n g k s = true) ∨ (hasB X.groups g n = true ∧ hasB X.groups g k = false ∧ inB s 0 1048576 = false ∧ cellFineB X n g k s = false) ∨
  (hasB X.groups g n = true ∧ hasB X.groups g k = false ∧ inB s 0 1048576 = true ∧ (s != 0) = true ∧ cellFineB X n g k s = false) ∨
  (hasB X.groups g n = true ∧ hasB X.groups g k = false ∧ inB s 0 1048576 = true ∧ (s != 0) = false ∧ cellFineB X n g k s = true) ∨
  (hasB X.groups g n = true ∧ hasB X.groups g k = true ∧ inB s 0 1048576 = false ∧ cellFineB X n g k s = false) ∨ (hasB X.groups g n = true ∧ hasB X.groups g k = true ∧ inB s 0 1048576 = true ∧ cellFineB X n g k s = true):=by
 unfold cellFineB
 have hz:(s == 0) = !(s != 0):=by simp [bne]
 rw [hz]
 generalize hasB X.groups g n = a
 generalize hasB X.groups g k = b
 generalize inB s 0 1048576 = c
 generalize (s != 0) = d
 revert a b c d
 decide
theorem and6 (a1 a2 a3 a4 a5 a6:Bool):let v:=a1 && a2 && a3 && a4 && a5 && a6
  (a1 = false ∧ v = false) ∨ (a1 = true ∧ a2 = false ∧ v = false) ∨ (a1 = true ∧ a2 = true ∧ a3 = false ∧ v = false) ∨ (a1 = true ∧ a2 = true ∧ a3 = true ∧ a4 = false ∧ v = false) ∨
  (a1 = true ∧ a2 = true ∧ a3 = true ∧ a4 = true ∧ a5 = false ∧ v = false) ∨ (a1 = true ∧ a2 = true ∧ a3 = true ∧ a4 = true ∧ a5 = true ∧ a6 = false ∧ v = false) ∨
  (a1 = true ∧ a2 = true ∧ a3 = true ∧ a4 = true ∧ a5 = true ∧ a6 = true ∧ v = true):=by
 revert a1 a2 a3 a4 a5 a6
 decide
set_option maxHeartbeats 8000000 in
theorem nodeFine_c {w:World} {gv nv wv:Value} {X:Wd} (hg:Ints w gv X.groups) (hn:Nodes w nv X.nodes) {n:Nat} (hn1:n < X.nodes.length) :
  Calls Tryz.prog 85 #[.agg #[gv,nv,wv], .int .i64 n] w (GivesB (.bool (nodeFineB X n)) w):=by
 obtain ⟨hnl,_⟩:=hn.form
 obtain ⟨hgl,ga,gcap,rfl,_⟩:=hg.open
 obtain ⟨b1,o1,c1,lv,hv,tv,rfl,hc1,k0,k1,k2,k3,hcl,hr,hh,ht⟩:=hn.at hn1
 obtain ⟨hrl,la,lcap,rfl,hlc⟩:=hr.form
 obtain ⟨hhl,ha,hcap,rfl,_⟩:=hh.open
 obtain ⟨htl,ta,tcap,rfl,_⟩:=ht.open
 unfold nodeFineB
 generalize X.nodes.getD n N.zero = x at *
 have hA:=below_a2 w (.cells #[.slice ga X.groups.length gcap, .slice (some ⟨b1,o1,none⟩) X.nodes.length c1,wv] 35) (.cells #[.int .i64 x.clock, .slice la x.last.length lcap, .slice ha x.held.length hcap, .slice ta x.told.length tcap] 65)
 have hB0:=WBox.new w (.slice ga X.groups.length gcap) (.slice (some ⟨b1,o1,none⟩) X.nodes.length c1) wv 35
 have hNb:=NBox.new (w.alloc (.cells #[.slice ga X.groups.length gcap, .slice (some ⟨b1,o1,none⟩) X.nodes.length c1,wv] 35)) x (.slice la x.last.length lcap) (.slice ha x.held.length hcap) (.slice ta x.told.length tcap) 65
 have hB:=hB0.below (below_a1 _ (.cells #[.int .i64 x.clock, .slice la x.last.length lcap, .slice ha x.held.length hcap, .slice ta x.told.length tcap] 65)) (by simp)
 simp only [World.size_alloc] at hNb
 clear hB0
 have hF:∀ r,nodeOkB X n x = r ↔ (inB x.clock 0 1048576 && lastFineB X n x.last && (risesB x.held && risesB x.told && noNullB x.held && noNullB x.told && listFineB X.nodes.length X.groups x.held n && listFineB X.nodes.length X.groups x.told n)) = r:=fun r=>Iff.rfl
 generalize nodeOkB X n x = r at *
 replace hF:=Lib.hid hF
 have hkb:=cell_lt k0
 dsimp only at hkb
 have hW:=fun o=>within_c o x.clock 0 1048576
 cases hin:inB x.clock 0 1048576
 ·rw [hin] at hW
  replace hin:=Lib.hid hin
  go_enter Tryz.func85,Tryz.ntmps85
  go_wp2_with (go_at_call 39;refine (hW _).mono ?_;rintro e w' ⟨rfl,rfl⟩)
  go_ret
  exact givesB_bool hA ((hF.out _).2 (by rw [hin.out];rfl)).symm
 rw [hin] at hW
 replace hin:=Lib.hid hin
 by_cases hlen:x.last.length = X.groups.length
 rotate_left
 ·have hl1:((x.last.length:Int) != (X.groups.length:Int)) = true:=by simp;omega
  replace hlen:=Lib.hid hlen
  go_enter Tryz.func85,Tryz.ntmps85
  go_wp2_with (go_at_call 39;refine (hW _).mono ?_;rintro e w' ⟨rfl,rfl⟩)
  go_ret
  exact givesB_bool hA ((hF.out _).2 (by rw [lastFineB,decide_eq_false hlen.out];simp)).symm
 have hl1:((x.last.length:Int) != (X.groups.length:Int)) = false:=by simp;omega
 replace hlen:=Lib.hid hlen
 go_enter Tryz.func85,Tryz.ntmps85
 go_wp2_with (go_at_call 39;refine (hW _).mono ?_;rintro e w' ⟨rfl,rfl⟩)
 have hsz:((w.alloc (.cells #[.slice ga X.groups.length gcap, .slice (some ⟨b1,o1,none⟩) X.nodes.length c1,wv] 35)).alloc (.cells #[.int .i64 x.clock, .slice la x.last.length lcap, .slice ha x.held.length hcap, .slice ta x.told.length tcap] 65)).heap.size = w.heap.size + 2:=by rw [World.size_alloc,World.size_alloc]
 generalize hwA:((w.alloc (.cells #[.slice ga X.groups.length gcap, .slice (some ⟨b1,o1,none⟩) X.nodes.length c1,wv] 35)).alloc (.cells #[.int .i64 x.clock, .slice la x.last.length lcap, .slice ha x.held.length hcap, .slice ta x.told.length tcap] 65)) = wA at *
 clear hwA k0 k1 k2 k3
 have hkp:∀ o,Below wA.heap.size wA o → Below w.heap.size w o ∧ NBox o (w.heap.size + 1) x (.slice la x.last.length lcap) (.slice ha x.held.length hcap) (.slice ta x.told.length tcap) ∧ WBox o w.heap.size (.slice ga X.groups.length gcap) (.slice (some ⟨b1,o1,none⟩) X.nodes.length c1) wv:=
  fun o h=>⟨below_trans hA h,hNb.below h (by rw [hsz];omega),hB.below h (by rw [hsz];omega)⟩
 replace hkp:=Lib.hid hkp
 clear hA hNb hB
 go_loopw [6] (fun i wr=>∃ g:Nat,g ≤ x.last.length ∧ i = .int .i64 g ∧ Hid (∀ t,t < g → rowFineB X n t (x.last.getD t []) = true) ∧ Drew wA wr) (fun i _=>x.last.length - (intOf i).toNat)
 case atStart=>exact ⟨0,by omega,rfl,fun t ht=>absurd ht (Nat.not_lt_zero _),Drew.refl _⟩
 case round =>
  obtain ⟨g,hgn,rfl,hgo,hd⟩:=hrel
  have hbw:=hd.below
  obtain ⟨hw1,⟨n0,n1,n2,n3⟩,w0,w1,w2⟩:=hkp.out _ hbw
  by_cases hlt:g < x.last.length
  ·obtain ⟨b2,o2,c2,u,e2,hc2,r1,hu⟩:=hr.at hlt
   cases e2
   obtain ⟨hul,ua,ucap,rfl,_⟩:=hu.open
   have hrow:∀ q,rowFineB X n g (x.last.getD g []) = q ↔ (decide ((x.last.getD g []).length = X.nodes.length) && (List.range (x.last.getD g []).length).all fun k=>cellFineB X n g k ((x.last.getD g []).getD k 0)) = q:=fun q=>Iff.rfl
   obtain ⟨row,HR⟩:∃ row,x.last.getD g [] = row:=⟨_,rfl⟩
   rw [HR] at hrow hul r1 hu
   replace HR:=Lib.hid HR
   replace hrow:=Lib.hid hrow
   have r1':=(hw1.cell (p:=⟨b2,o2 + g,none⟩) (cell_lt r1)).trans r1
   have hrb:=cell_lt r1
   dsimp only at hrb
   clear r1
   by_cases hll:row.length = X.nodes.length
   rotate_left
   ·have hll1:((row.length:Int) != (X.nodes.length:Int)) = true:=by simp;omega
    replace hll:=Lib.hid hll
    go_wp2_with fail
    go_quiet (fail)
    go_wp2_with fail
    go_ret
    refine givesB_bool (hkp.out _ (hd.drewN _).below).1 ((hF.out _).2 ?_).symm
    have hrf:=(hrow.out false).2 (by rw [decide_eq_false hll.out];rfl)
    rw [lastFineB,range_all_f hlt (by rw [HR.out];first | exact hrf | (rw [← HR.out];exact hrf))]
    simp
   have hll1:((row.length:Int) != (X.nodes.length:Int)) = false:=by simp;omega
   replace hll:=Lib.hid hll
   go_wp2_with fail
   go_quiet (fail)
   generalize hwq:World.drewN wr _ = wq
   have hd3:Drew _ wq:=hwq ▸ hd.drewN _
   have hbw3:=hd3.below
   clear n0 n1 n2 n3 w0 w1 w2
   obtain ⟨hw3,⟨n0,n1,n2,n3⟩,w0,w1,w2⟩:=hkp.out _ hbw3
   have r1':=(hd3.cell ⟨b2,o2 + g,none⟩).trans ((hd.cell ⟨b2,o2 + g,none⟩).symm.trans r1')
   clear hwq hd hbw hw1
   go_wp2_with fail
   go_loop [7] (fun i=>∃ k:Nat,k ≤ row.length ∧ i = .int .i64 k ∧ Hid (∀ t,t < k → cellFineB X n g t (row.getD t 0) = true)) (fun i=>row.length - (intOf i).toNat)
   case atStart=>exact ⟨0,by omega,rfl,fun t ht=>absurd ht (Nat.not_lt_zero _)⟩
   case round =>
    obtain ⟨k,hkn,rfl,hko⟩:=hrel
    by_cases hlk:k < row.length
    ·obtain ⟨b3,o3,c3,e3,hc3,q1,hs64⟩:=hu.at hlk
     cases e3
     obtain ⟨s,HS⟩:∃ s,row.getD k 0 = s:=⟨_,rfl⟩
     rw [HS] at q1 hs64
     replace HS:=Lib.hid HS
     have q1:=(hw3.cell (p:=⟨b3,o3 + k,none⟩) (cell_lt q1)).trans q1
     have hgI:=hg.below hw3
     have hH1:=HasOf_c hgI g n
     have hH2:=HasOf_c hgI g k
     have hWs:=fun o=>within_c o s 0 1048576
     rcases cell_cases X n g k s with ⟨hb1,hi,HV⟩ | ⟨hb1,hi,hz,HV⟩ | ⟨hb1,hi,hz,HV⟩ | ⟨hb1,hb2,hi,HV⟩ | ⟨hb1,hb2,hi,hz,HV⟩ | ⟨hb1,hb2,hi,hz,HV⟩ | ⟨hb1,hb2,hi,HV⟩ | ⟨hb1,hb2,hi,HV⟩
     all_goals
      rw [hb1] at hH1
      try rw [hb2] at hH2
      rw [hi] at hWs
      replace HV:=Lib.hid HV
      clear hb1 hi
      try clear hb2
      go_wp2_with (first
       |(go_at_call 68;refine hH1.mono ?_;clear hH1;rintro e w' ⟨rfl,rfl⟩)
       |(go_at_call 68;refine hH2.mono ?_;rintro e w' ⟨rfl,rfl⟩)
       |(go_at_call 39;refine (hWs _).mono ?_;rintro e w' ⟨rfl,rfl⟩))
      first
       |(go_round
         case rel =>
          refine ⟨k + 1,by omega,by go_num,fun t ht=>?_⟩
          rcases Nat.eq_or_lt_of_le (Nat.le_of_lt_succ ht) with e | e
          ·subst e;rw [HS.out];exact HV.out
          ·exact hko.out t e
         case measure=>simp [intOf];omega)
       |(go_ret
         refine givesB_bool hw3 ((hF.out _).2 ?_).symm
         have hrf:rowFineB X n g (x.last.getD g []) = false:=by
          have:((List.range row.length).all fun k=>cellFineB X n g k (row.getD k 0)) = false:=range_all_f hlk (by rw [HS.out];exact HV.out)
          rw [HR.out]
          unfold rowFineB
          rw [this,Bool.and_false]
         rw [lastFineB,range_all_f hlt hrf]
         simp)
    ·obtain rfl:k = row.length:=by omega
     have hgr:=Lib.hid (And.intro hgo.out hko.out)
     go_wp2_with fail
     go_roundw
     case rel =>
      refine ⟨g + 1,by omega,by go_num,fun t ht=>?_,hd3⟩
      rcases Nat.eq_or_lt_of_le (Nat.le_of_lt_succ ht) with e | e
      ·subst e
       rw [HR.out]
       unfold rowFineB
       rw [decide_eq_true hll.out,range_all_t hko.out];rfl
      ·exact hgo.out t e
     case measure=>simp [intOf];omega
  ·obtain rfl:g = x.last.length:=by omega
   have hlf:lastFineB X n x.last = true:=by
    rw [lastFineB,decide_eq_true hlen.out,range_all_t hgo.out];rfl
   replace hlf:=Lib.hid hlf
   have hbc:=hd.below
   have hF2:∀ q,(risesB x.held && risesB x.told && noNullB x.held && noNullB x.told && listFineB X.nodes.length X.groups x.held n && listFineB X.nodes.length X.groups x.told n) = q → r = q:=fun q hq=>(hF.out q).2 (by rw [hin.out,hlf.out,hq];rfl)
   replace hF2:=Lib.hid hF2
   have hRH:=fun (o:World) (h:Below w.heap.size w o)=>rises_c (hh.below h)
   have hRT:=fun (o:World) (h:Below w.heap.size w o)=>rises_c (ht.below h)
   have hNH:=fun (o:World) (h:Below w.heap.size w o)=>(noNull_c (hh.below h)).mono fun _ _=>Gives.b
   have hNT:=fun (o:World) (h:Below w.heap.size w o)=>(noNull_c (ht.below h)).mono fun _ _=>Gives.b
   have hLH:=fun (o:World) (h:Below w.heap.size w o)=>listFine_c (wv:=wv) (hg.below h) (hn.below h) (hh.below h) n
   have hLT:=fun (o:World) (h:Below w.heap.size w o)=>listFine_c (wv:=wv) (hg.below h) (hn.below h) (ht.below h) n
   rcases and6 (risesB x.held) (risesB x.told) (noNullB x.held) (noNullB x.told) (listFineB X.nodes.length X.groups x.held n) (listFineB X.nodes.length X.groups x.told n) with
    ⟨a1,HV⟩ | ⟨a1,a2,HV⟩ | ⟨a1,a2,a3,HV⟩ | ⟨a1,a2,a3,a4,HV⟩ | ⟨a1,a2,a3,a4,a5,HV⟩ | ⟨a1,a2,a3,a4,a5,a6,HV⟩ | ⟨a1,a2,a3,a4,a5,a6,HV⟩
   all_goals
    replace HV:=Lib.hid (hF2.out _ HV)
    rw [a1] at hRH
    try rw [a2] at hRT
    try rw [a3] at hNH
    try rw [a4] at hNT
    try rw [a5] at hLH
    try rw [a6] at hLT
    clear a1
    try clear a2
    try clear a3
    try clear a4
    try clear a5
    try clear a6
    obtain ⟨hw,⟨n0,n1,n2,n3⟩,w0,w1,w2⟩:=hkp.out _ hbc
    go_wp2_with (first
     |(go_at_call 108;refine (hRH _ hw).mono ?_;clear hRH;rintro e w2 ⟨rfl,hb2⟩;replace hbc:=below_trans hbc hb2;obtain ⟨hw,⟨n0,n1,n2,n3⟩,w0,w1,w2⟩:=hkp.out _ hbc)
     |(go_at_call 108;refine (hRT _ hw).mono ?_;clear hRT;rintro e w2 ⟨rfl,hb2⟩;replace hbc:=below_trans hbc hb2;obtain ⟨hw,⟨n0,n1,n2,n3⟩,w0,w1,w2⟩:=hkp.out _ hbc)
     |(go_at_call 109;refine (hNH _ hw).mono ?_;clear hNH;rintro e w2 ⟨rfl,hb2⟩;replace hbc:=below_trans hbc hb2;obtain ⟨hw,⟨n0,n1,n2,n3⟩,w0,w1,w2⟩:=hkp.out _ hbc)
     |(go_at_call 109;refine (hNT _ hw).mono ?_;clear hNT;rintro e w2 ⟨rfl,hb2⟩;replace hbc:=below_trans hbc hb2;obtain ⟨hw,⟨n0,n1,n2,n3⟩,w0,w1,w2⟩:=hkp.out _ hbc)
     |(go_at_call 110;refine (hLH _ hw).mono ?_;clear hLH;rintro e w2 ⟨rfl,hb2⟩;replace hbc:=below_trans hbc hb2;obtain ⟨hw,⟨n0,n1,n2,n3⟩,w0,w1,w2⟩:=hkp.out _ hbc)
     |(go_at_call 110;refine (hLT _ hw).mono ?_;clear hLT;rintro e w2 ⟨rfl,hb2⟩;replace hbc:=below_trans hbc hb2;obtain ⟨hw,⟨n0,n1,n2,n3⟩,w0,w1,w2⟩:=hkp.out _ hbc))
    go_ret
    exact givesB_bool (hkp.out _ hbc).1 HV.out.symm
end Go.Proofs.YtnalakhelicjcaaGreatDoor
set_option maxRecDepth 100000
namespace Go.Proofs.YtnalakhelicjcaaGreatDoor
open Go.RowKit Go.Shelf Go.BigFrame
theorem range_any_t {n t:Nat} {p:Nat → Bool} (ht:t < n) (h:p t = true):(List.range n).any p = true:=List.any_eq_true.2 ⟨t,List.mem_range.2 ht,h⟩
theorem range_any_f {n:Nat} {p:Nat → Bool} (h:∀ t,t < n → p t = false):(List.range n).any p = false:=by
 rw [List.any_eq_false]
 intro t ht
 rw [h t (List.mem_range.1 ht)]
 simp
def manyN (x:N):Bool:=decide (40 < x.held.length) || decide (40 < x.told.length)
def manyR (r:List (List M)):Bool:=(List.range r.length).any fun b=>decide (40 < (r.getD b []).length)
def manyX (X:Wd):Bool:=(List.range X.nodes.length).any (fun n=>manyN (X.nodes.getD n N.zero)) || (List.range X.wires.length).any fun a=>manyR (X.wires.getD a [])
def fineR (X:Wd) (n:Nat):Bool:=decide ((X.wires.getD n []).length = X.nodes.length) && nodeFineB X n
def fineW (X:Wd) (a:Nat):Bool:=(List.range X.nodes.length).all fun b=>wireFineB X a b
def fineX (X:Wd):Bool:=decide (X.wires.length = X.nodes.length) && (List.range X.nodes.length).all (fineR X) && (List.range X.nodes.length).all (fineW X)
def errX (X:Wd):Int:=if gErr X.nodes.length X.groups = 0 then if manyX X = true then 2 else if fineX X = true then 0 else 1 else gErr X.nodes.length X.groups
theorem errX_g {X:Wd} (h:¬ gErr X.nodes.length X.groups = 0):errX X = gErr X.nodes.length X.groups:=if_neg h
theorem errX_2 {X:Wd} (h:gErr X.nodes.length X.groups = 0) (h2:manyX X = true):errX X = 2:=by rw [errX,if_pos h,if_pos h2]
theorem errX_1 {X:Wd} (h:gErr X.nodes.length X.groups = 0) (h2:manyX X = false) (h3:fineX X = false):errX X = 1:=by rw [errX,if_pos h,if_neg (by rw [h2];simp),if_neg (by rw [h3];simp)]
theorem errX_0 {X:Wd} (h:gErr X.nodes.length X.groups = 0) (h2:manyX X = false) (h3:fineX X = true):errX X = 0:=by rw [errX,if_pos h,if_neg (by rw [h2];simp),if_pos h3]
set_option maxHeartbeats 4000000 in
theorem WorldError_c {w:World} {v:Value} {X:Wd} (h:WorldAt w v X) :
  Calls Tryz.prog 64 #[v] w (GivesB (.int .i64 (errX X)) w):=by
 obtain ⟨gv,nv,wv,rfl,hg,hn,hw⟩:=h
 obtain ⟨hnl,na,ncap,rfl,hnc⟩:=hn.form
 obtain ⟨hwl,wa,wcap,rfl,hwc⟩:=hw.form
 obtain ⟨hgl,ga,gcap,rfl,_⟩:=hg.open
 have hA:=below_a1 w (.cells #[.slice ga X.groups.length gcap, .slice na X.nodes.length ncap, .slice wa X.wires.length wcap] 35)
 have hB:=WBox.new w (.slice ga X.groups.length gcap) (.slice na X.nodes.length ncap) (.slice wa X.wires.length wcap) 35
 have hG:=GroupsError_c (hg.below hA) X.nodes.length
 have hkp:∀ o,Below (w.alloc (.cells #[.slice ga X.groups.length gcap, .slice na X.nodes.length ncap, .slice wa X.wires.length wcap] 35)).heap.size (w.alloc (.cells #[.slice ga X.groups.length gcap, .slice na X.nodes.length ncap, .slice wa X.wires.length wcap] 35)) o →
   Below w.heap.size w o ∧ WBox o w.heap.size (.slice ga X.groups.length gcap) (.slice na X.nodes.length ncap) (.slice wa X.wires.length wcap):=
  fun o h=>⟨below_trans hA h,hB.below h (by rw [World.size_alloc];omega)⟩
 replace hkp:=Lib.hid hkp
 have hE1:=Lib.hid (@errX_g X)
 have hE2:=Lib.hid (@errX_2 X)
 have hE3:=Lib.hid (@errX_1 X)
 have hE4:=Lib.hid (@errX_0 X)
 by_cases hge:gErr X.nodes.length X.groups = 0
 ·rw [hge] at hG
  replace hge:=Lib.hid hge
  go_enter Tryz.func64,Tryz.ntmps64
  go_wp2_with fail
  refine hG.mono ?_
  rintro e w1 ⟨rfl,hd⟩
  have hd0:=hd.below
  obtain ⟨hwb,x0,x1,x2⟩:=hkp.out _ hd0
  clear hd hA hB hG
  go_wp2_with fail
  go_loop [4] (fun i=>∃ k:Nat,k ≤ X.nodes.length ∧ i = .int .i64 k ∧ Hid (∀ t,t < k → manyN (X.nodes.getD t N.zero) = false)) (fun i=>X.nodes.length - (intOf i).toNat)
  case atStart=>exact ⟨0,by omega,rfl,fun t ht=>absurd ht (Nat.not_lt_zero _)⟩
  case round =>
   obtain ⟨k,hk,rfl,hgo⟩:=hrel
   by_cases hlt:k < X.nodes.length
   ·obtain ⟨b1,o1,c1,lv,hv,tv,e1,_,_,_,k2,k3,_,_,hh,ht⟩:=hn.at hlt
    cases e1
    obtain ⟨_,ha,hcap,rfl,_⟩:=hh.open
    obtain ⟨_,ta,tcap,rfl,_⟩:=ht.open
    obtain ⟨x,HX⟩:∃ x,X.nodes.getD k N.zero = x:=⟨_,rfl⟩
    rw [HX] at k2 k3
    replace HX:=Lib.hid HX
    have k2:=(hwb.cell (p:=⟨b1,o1 + k * 4 + 2,none⟩) (cell_lt k2)).trans k2
    have k3:=(hwb.cell (p:=⟨b1,o1 + k * 4 + 3,none⟩) (cell_lt k3)).trans k3
    by_cases h4:40 < x.held.length
    ·have h41:decide ((40:Int) < (x.held.length:Int)) = true:=decide_eq_true (by omega)
     replace h4:=Lib.hid h4
     go_wp2_with fail
     go_ret
     refine givesB_int hwb (hE2.out hge.out ?_).symm
     rw [manyX,range_any_t hlt (by rw [HX.out,manyN,decide_eq_true h4.out];rfl)];rfl
    ·have h41:decide ((40:Int) < (x.held.length:Int)) = false:=decide_eq_false (by omega)
     replace h4:=Lib.hid h4
     by_cases h5:40 < x.told.length
     ·have h51:decide ((40:Int) < (x.told.length:Int)) = true:=decide_eq_true (by omega)
      replace h5:=Lib.hid h5
      go_wp2_with fail
      go_ret
      refine givesB_int hwb (hE2.out hge.out ?_).symm
      rw [manyX,range_any_t hlt (by rw [HX.out,manyN,decide_eq_true h5.out,Bool.or_true])];rfl
     ·have h51:decide ((40:Int) < (x.told.length:Int)) = false:=decide_eq_false (by omega)
      replace h5:=Lib.hid h5
      go_wp2_with fail
      go_round
      case rel =>
       refine ⟨k + 1,by omega,by go_num,fun t ht=>?_⟩
       rcases Nat.eq_or_lt_of_le (Nat.le_of_lt_succ ht) with e | e
       ·subst e;rw [HX.out,manyN,decide_eq_false h4.out,decide_eq_false h5.out];rfl
       ·exact hgo.out t e
      case measure=>simp [intOf];omega
   ·obtain rfl:k = X.nodes.length:=by omega
    have hm1:=Lib.hid (range_any_f hgo.out)
    clear hgo hk
    go_wp2_with fail
    go_loop [5] (fun i=>∃ k:Nat,k ≤ X.wires.length ∧ i = .int .i64 k ∧ Hid (∀ t,t < k → manyR (X.wires.getD t []) = false)) (fun i=>X.wires.length - (intOf i).toNat)
    case atStart=>exact ⟨0,by omega,rfl,fun t ht=>absurd ht (Nat.not_lt_zero _)⟩
    case round =>
     obtain ⟨k,hk,rfl,hgo⟩:=hrel
     by_cases hlt:k < X.wires.length
     ·obtain ⟨b1,o1,c1,u,e1,_,k1,hu⟩:=hw.row hlt
      cases e1
      obtain ⟨hul,ua,ucap,rfl,_⟩:=hu.form
      obtain ⟨row,HR⟩:∃ row,X.wires.getD k [] = row:=⟨_,rfl⟩
      rw [HR] at k1 hu hul
      replace HR:=Lib.hid HR
      have k1:=(hwb.cell (p:=⟨b1,o1 + k,none⟩) (cell_lt k1)).trans k1
      go_wp2_with fail
      go_loop [6] (fun i=>∃ j:Nat,j ≤ row.length ∧ i = .int .i64 j ∧ Hid (∀ t,t < j → decide (40 < (row.getD t []).length) = false)) (fun i=>row.length - (intOf i).toNat)
      case atStart=>exact ⟨0,by omega,rfl,fun t ht=>absurd ht (Nat.not_lt_zero _)⟩
      case round =>
       obtain ⟨j,hj,rfl,hgj⟩:=hrel
       by_cases hlj:j < row.length
       ·obtain ⟨b2,o2,c2,l,e2,_,q1,hl⟩:=hu.at hlj
        cases e2
        obtain ⟨_,lad,lcap,rfl,_⟩:=hl.open
        obtain ⟨ms,HL⟩:∃ ms,row.getD j [] = ms:=⟨_,rfl⟩
        rw [HL] at q1
        replace HL:=Lib.hid HL
        have q1:=(hwb.cell (p:=⟨b2,o2 + j,none⟩) (cell_lt q1)).trans q1
        by_cases h4:40 < ms.length
        ·have h41:decide ((40:Int) < (ms.length:Int)) = true:=decide_eq_true (by omega)
         replace h4:=Lib.hid h4
         go_wp2_with fail
         go_ret
         refine givesB_int hwb (hE2.out hge.out ?_).symm
         rw [manyX,range_any_t hlt (p:=fun a=>manyR (X.wires.getD a [])) (by rw [HR.out];exact range_any_t hlj (by rw [HL.out];exact decide_eq_true h4.out)),Bool.or_true]
        ·have h41:decide ((40:Int) < (ms.length:Int)) = false:=decide_eq_false (by omega)
         replace h4:=Lib.hid h4
         go_wp2_with fail
         go_round
         case rel =>
          refine ⟨j + 1,by omega,by go_num,fun t ht=>?_⟩
          rcases Nat.eq_or_lt_of_le (Nat.le_of_lt_succ ht) with e | e
          ·subst e;rw [HL.out];exact decide_eq_false h4.out
          ·exact hgj.out t e
         case measure=>simp [intOf];omega
       ·obtain rfl:j = row.length:=by omega
        go_wp2_with fail
        go_round
        case rel =>
         refine ⟨k + 1,by omega,by go_num,fun t ht=>?_⟩
         rcases Nat.eq_or_lt_of_le (Nat.le_of_lt_succ ht) with e | e
         ·subst e;rw [HR.out];exact range_any_f hgj.out
         ·exact hgo.out t e
        case measure=>simp [intOf];omega
     ·obtain rfl:k = X.wires.length:=by omega
      have hm2:manyX X = false:=by rw [manyX,hm1.out,range_any_f (p:=fun a=>manyR (X.wires.getD a [])) hgo.out];rfl
      replace hm2:=Lib.hid hm2
      clear hgo hk hm1 hE2
      by_cases hll:X.wires.length = X.nodes.length
      ·have hl1:((X.wires.length:Int) != (X.nodes.length:Int)) = false:=by simp;omega
       have hll2:=Lib.hid hll
       have hlle:X.wires.length ≤ X.nodes.length ∧ X.nodes.length ≤ X.wires.length:=⟨by omega,by omega⟩
       clear hll
       go_wp2_with fail
       go_loopw [7] (fun i wr=>∃ k:Nat,k ≤ X.nodes.length ∧ i = .int .i64 k ∧ Hid (∀ t,t < k → fineR X t = true) ∧ Below w1.heap.size w1 wr) (fun i _=>X.nodes.length - (intOf i).toNat)
       case atStart=>exact ⟨0,by omega,rfl,fun t ht=>absurd ht (Nat.not_lt_zero _),Below.refl _ _⟩
       case round =>
        obtain ⟨k,hk,rfl,hgo,hb⟩:=hrel
        have hbc:=below_trans hd0 hb
        obtain ⟨hwb2,y0,y1,y2⟩:=hkp.out _ hbc
        by_cases hlt:k < X.nodes.length
        ·obtain ⟨b1,o1,c1,u,e1,_,k1,hu⟩:=hw.row (show k < X.wires.length by omega)
         cases e1
         obtain ⟨hul,ua,ucap,rfl,_⟩:=hu.form
         obtain ⟨row,HR⟩:∃ row,X.wires.getD k [] = row:=⟨_,rfl⟩
         rw [HR] at k1 hul
         replace HR:=Lib.hid HR
         have k1:=(hwb2.cell (p:=⟨b1,o1 + k,none⟩) (cell_lt k1)).trans k1
         have hkb:=cell_lt k1
         have hyb:=cell_lt y0
         dsimp only at hkb hyb
         by_cases hrl:row.length = X.nodes.length
         ·have hr1:((row.length:Int) != (X.nodes.length:Int)) = false:=by simp;omega
          replace hrl:=Lib.hid hrl
          have hgI:=hg.below hwb2
          have hnI:=hn.below hwb2
          have hNF:=fun (o:World) (h1:Ints o (.slice ga X.groups.length gcap) X.groups) (h2:Nodes o (.slice na X.nodes.length ncap) X.nodes)=>nodeFine_c (wv:=.slice (some ⟨b1,o1,none⟩) X.wires.length wcap) h1 h2 hlt
          cases hnf:nodeFineB X k
          ·rw [hnf] at hNF
           replace hnf:=Lib.hid hnf
           go_wp2_with fail
           refine wp_region_over (by kernel_rfl) (by kernel_rfl) ?_
           repeat (go_big_quiet_step (exact over_c (hNF _ (hgI.below (Over.h _)) (hnI.below (Over.h _)))))
           refine wpQuiet_nil ?_
           rintro w4 ⟨⟨_,hb4⟩,rfl⟩
           go_wp2_with fail
           go_ret
           refine givesB_int (below_trans hwb2 hb4) (hE3.out hge.out hm2.out ?_).symm
           rw [fineX,range_all_f (p:=fineR X) hlt (by rw [fineR,hnf.out,Bool.and_false]),Bool.and_false];rfl
          ·rw [hnf] at hNF
           replace hnf:=Lib.hid hnf
           go_wp2_with fail
           refine wp_region_over (by kernel_rfl) (by kernel_rfl) ?_
           repeat (go_big_quiet_step (exact over_c (hNF _ (hgI.below (Over.h _)) (hnI.below (Over.h _)))))
           refine wpQuiet_nil ?_
           rintro w4 ⟨⟨_,hb4⟩,rfl⟩
           go_wp2_with fail
           go_roundw
           case rel =>
            refine ⟨k + 1,by omega,by go_num,fun t ht=>?_,below_trans hb hb4⟩
            rcases Nat.eq_or_lt_of_le (Nat.le_of_lt_succ ht) with e | e
            ·subst e;rw [fineR,HR.out,decide_eq_true hrl.out,hnf.out];rfl
            ·exact hgo.out t e
           case measure=>simp [intOf];omega
         ·have hr1:((row.length:Int) != (X.nodes.length:Int)) = true:=by simp;omega
          replace hrl:=Lib.hid hrl
          go_wp2_with fail
          refine wp_region_over (by kernel_rfl) (by kernel_rfl) ?_
          repeat (go_big_quiet_step (fail))
          refine wpQuiet_nil ?_
          rintro w4 ⟨⟨_,hb4⟩,rfl⟩
          go_wp2_with fail
          go_ret
          refine givesB_int (below_trans hwb2 hb4) (hE3.out hge.out hm2.out ?_).symm
          rw [fineX,range_all_f (p:=fineR X) hlt (by rw [fineR,HR.out,decide_eq_false hrl.out];rfl),Bool.and_false];rfl
        ·obtain rfl:k = X.nodes.length:=by omega
         clear hk
         go_wp2_with fail
         obtain ⟨wv1,rfl⟩:∃ wv1:World,wv1 = wr:=⟨_,rfl⟩
         go_loopw [8] (fun i ws=>∃ k:Nat,k ≤ X.nodes.length ∧ i = .int .i64 k ∧ Hid (∀ t,t < k → fineW X t = true) ∧ Below wv1.heap.size wv1 ws) (fun i _=>X.nodes.length - (intOf i).toNat)
         case atStart=>exact ⟨0,by omega,rfl,fun t ht=>absurd ht (Nat.not_lt_zero _),Below.refl _ _⟩
         case round =>
          obtain ⟨k,hk,rfl,hgp,hb2⟩:=hrel
          obtain ⟨wo,rfl⟩:∃ wo:World,wo = wr:=⟨_,rfl⟩
          have hbc2:=below_trans hbc hb2
          obtain ⟨hwb3,z0,z1,z2⟩:=hkp.out _ hbc2
          by_cases hlt:k < X.nodes.length
          ·have hrk:=Lib.hid (hgo.out k hlt)
           go_wp2_with fail
           go_loopw [9] (fun i wt=>∃ j:Nat,j ≤ X.nodes.length ∧ i = .int .i64 j ∧ Hid (∀ t,t < j → wireFineB X k t = true) ∧ Below wo.heap.size wo wt) (fun i _=>X.nodes.length - (intOf i).toNat)
           case atStart=>exact ⟨0,by omega,rfl,fun t ht=>absurd ht (Nat.not_lt_zero _),Below.refl _ _⟩
           case round =>
            obtain ⟨j,hj,rfl,hgj,hb3⟩:=hrel
            have hbc3:=below_trans hbc2 hb3
            obtain ⟨hwb4,v0,v1,v2⟩:=hkp.out _ hbc3
            by_cases hlj:j < X.nodes.length
            ·have hrl:(X.wires.getD k []).length = X.nodes.length:=by
              have:=hrk.out
              rw [fineR,Bool.and_eq_true,decide_eq_true_eq] at this
              exact this.1
             have hWF:=wireFine_c (hg.below hwb4) (hn.below hwb4) (hw.below hwb4) (show k < X.wires.length by omega) (show j < (X.wires.getD k []).length by omega)
             replace hrl:=Lib.hid hrl
             cases hwf:wireFineB X k j
             ·rw [hwf] at hWF
              replace hwf:=Lib.hid hwf
              go_wp2_with fail
              refine hWF.mono ?_
              rintro e w4 ⟨rfl,hb4⟩
              go_wp2_with fail
              go_ret
              refine givesB_int (below_trans hwb4 hb4) (hE3.out hge.out hm2.out ?_).symm
              rw [fineX,range_all_f (p:=fineW X) hlt (range_all_f hlj hwf.out),Bool.and_false]
             ·rw [hwf] at hWF
              replace hwf:=Lib.hid hwf
              go_wp2_with fail
              refine hWF.mono ?_
              rintro e w4 ⟨rfl,hb4⟩
              go_wp2_with fail
              go_roundw
              case rel =>
               refine ⟨j + 1,by omega,by go_num,fun t ht=>?_,below_trans hb3 hb4⟩
               rcases Nat.eq_or_lt_of_le (Nat.le_of_lt_succ ht) with e | e
               ·subst e;exact hwf.out
               ·exact hgj.out t e
              case measure=>simp [intOf];omega
            ·obtain rfl:j = X.nodes.length:=by omega
             go_wp2_with fail
             go_roundw
             case rel =>
              refine ⟨k + 1,by omega,by go_num,fun t ht=>?_,below_trans hb2 hb3⟩
              rcases Nat.eq_or_lt_of_le (Nat.le_of_lt_succ ht) with e | e
              ·subst e;exact range_all_t hgj.out
              ·exact hgp.out t e
             case measure=>simp [intOf];omega
          ·obtain rfl:k = X.nodes.length:=by omega
           go_wp2_with fail
           go_ret
           refine givesB_int hwb3 (hE4.out hge.out hm2.out ?_).symm
           rw [fineX,decide_eq_true hll2.out,range_all_t (p:=fineR X) hgo.out,range_all_t (p:=fineW X) hgp.out];rfl
      ·have hl1:((X.wires.length:Int) != (X.nodes.length:Int)) = true:=by simp;omega
       have hll2:=Lib.hid hll
       clear hll
       go_wp2_with fail
       go_ret
       refine givesB_int hwb (hE3.out hge.out hm2.out ?_).symm
       rw [fineX,decide_eq_false hll2.out];rfl
 ·have hE:=Lib.hid (errX_g hge)
  have hne:(gErr X.nodes.length X.groups != 0) = true:=by simpa using hge
  generalize gErr X.nodes.length X.groups = ge at *
  replace hge:=Lib.hid hge
  go_enter Tryz.func64,Tryz.ntmps64
  go_wp2_with fail
  refine hG.mono ?_
  rintro e w1 ⟨rfl,hd⟩
  go_wp2_with fail
  go_ret
  exact givesB_int (below_trans hA hd.below) hE.out.symm
end Go.Proofs.YtnalakhelicjcaaGreatDoor
