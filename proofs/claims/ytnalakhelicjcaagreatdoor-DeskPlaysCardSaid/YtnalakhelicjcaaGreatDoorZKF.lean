/-
  From a law's walk to its row: what came in reads as words of ours; what lay lies as it lay, so each argument reads as it did.
  Messages that came in read as words of ours.
  Worlds that came in read as words of ours.
-/
import Derived.Test.YtnalakhelicjcaaGreatDoorRows
import Derived.Test.YtnalakhelicjcaaGreatDoorZKA
import Derived.ProofKit
import Derived.OpenShut
import Derived.ShutString
import Derived.ChangeOld
import Derived.SizedLaws
import Derived.Deep.Slices
set_option maxRecDepth 100000
namespace Go.Proofs.YtnalakhelicjcaaGreatDoor
open Go.ChangeShapes Go.WideShapes Go.ChangeAt Go.RowKit Go.Deep
open Go.ChangeMaps (open_string shut_string)
theorem own:ownKnob Tryz.prog.godebug = none:=by kernel_rfl
theorem laidOut:laidOutB Tryz.prog = true:=by kernel_rfl
theorem trodAll_below {H:Type} {enc:TypeId × Value → H} {P:Program} (hl:laidOutB P = true) {W W':World} (hb:Below W.heap.size W W') :
  ∀ {ts:List TypeId} {vs:List Value} {ds:List (DataW H)} {ps:List MemPlace},(∀ t ∈ ts,P.readableRec t = true ∧ t < P.types.size) →
   DataW.TrodAll enc P W 0 (fun _=>true) true ts vs ds ps → DataW.TrodAll enc P W' 0 (fun b=>decide (b < W.heap.size)) true ts vs ds ps
 | [],[],[],_,_,h=>h
 | t :: ts,v :: vs,d :: ds,_,hr,⟨p,q,h1,h2,e⟩ =>
  ⟨p,q,Below.trod hl (hr t (by simp)).1 (hr t (by simp)).2 h1 hb (by obtain ⟨m,hm⟩:=h1;exact DataW.trod_lt m _ _ _ hm),trodAll_below hl hb (fun t ht=>hr t (by simp [ht])) h2,e⟩
 | [],_ :: _,_,_,_,h=>h.elim
 | [],[],_ :: _,_,_,h=>h.elim
 | _ :: _,[],_,_,_,h=>h.elim
 | _ :: _,_ :: _,[],_,_,h=>h.elim
theorem wf_i64 {n:Int} (h:(Lit.int .i64 n).wf = true):I64 n:=by
 have:=bounds_i64 h
 unfold I64
 omega
theorem int_in {H:Type} {enc:TypeId × Value → H} {W:World} {base:Nat} {sp:Nat → Bool} {hd:Bool} {v:Value} {d:DataW H} {ps:List MemPlace} {B:Nat}
  (hv:Value.okWide Tryz.prog W .any B 3 v) (h:DataW.Trod enc Tryz.prog W base sp hd 3 v d ps):∃ n,v = .int .i64 n ∧ I64 n:=by
 obtain ⟨n,rfl,_,_,hw⟩:=open_int Tryz.underlying3 hv h
 exact ⟨n,rfl,wf_i64 hw⟩
theorem chooseL {α:Type} (p:Nat → α → Prop):∀ (n:Nat),(∀ i,i < n → ∃ x,p i x) → ∃ l:List α,l.length = n ∧ ∀ i (h:i < l.length),p i l[i]
 | 0,_=>⟨[],rfl,fun _ h=>absurd h (Nat.not_lt_zero _)⟩
 | n + 1,h=>by
  obtain ⟨l,hl,hp⟩:=chooseL p n (fun i hi=>h i (by omega))
  obtain ⟨x,hx⟩:=h n (by omega)
  refine ⟨l ++ [x],by simp [hl],fun i hi=>?_⟩
  by_cases e:i < l.length
  ·rw [List.getElem_append_left e];exact hp i e
  ·obtain rfl:i = n:=by simp at hi;omega
   simpa [hl] using hx
theorem cells_len {w:World} {base:Nat} {a:Addr} {n:Nat} {cs:List Value} (h:w.cells? base a n = some cs):cs.length = n ∧ ∀ i,i < n → w.cell? (a.add i) = cs[i]?:=by
 obtain ⟨_,h2,h3⟩:=World.cells?_some h
 exact ⟨h2,h3⟩
theorem flat_get {s:Nat} (hs:0 < s):∀ {css:List (List Value)},(∀ cs ∈ css,cs.length = s) →
  css.flatten.length = css.length * s ∧ ∀ k,css.flatten[k]? = (css[k / s]?).bind (fun cs=>cs[k % s]?)
 | [],_=>⟨by simp,fun k=>by simp⟩
 | c :: css,h=>by
  obtain ⟨h1,h2⟩:=flat_get hs (css:=css) (fun cs hc=>h cs (by simp [hc]))
  have hc:c.length = s:=h c (by simp)
  refine ⟨by simp [h1,hc,Nat.add_mul];omega,fun k=>?_⟩
  rw [List.flatten_cons]
  by_cases hk:k < s
  ·rw [List.getElem?_append_left (by omega),Nat.div_eq_of_lt hk,Nat.mod_eq_of_lt hk]
   simp
  ·rw [List.getElem?_append_right (by omega),hc,h2 (k - s)]
   have e1:k / s = (k - s) / s + 1:=by
    rw [← Nat.add_div_right _ hs,Nat.sub_add_cancel (by omega)]
   have e2:k % s = (k - s) % s:=by
    rw [← Nat.add_mod_right (k - s) s,Nat.sub_add_cancel (by omega)]
   rw [e1,e2]
   simp
theorem weightsAll_mem {H:Type} {P:Program} {e:TypeId} {n:Nat}:∀ {l:List (DataW H)} {d:DataW H},d ∈ l → n ∈ d.weights P e → n ∈ DataW.weightsAll P e l
 | x :: l,d,hd,hn=>by
  simp only [DataW.weightsAll,List.mem_append]
  rcases List.mem_cons.1 hd with rfl | hd
  ·exact Or.inl hn
  ·exact Or.inr (weightsAll_mem hd hn)
theorem slice_in {H:Type} {enc:TypeId × Value → H} {P:Program} {W:World} {sp:Nat → Bool} {hd:Bool} {fuel:Nat} {t e:TypeId} {s:Nat} {c:Value} {d:DataW H} {ps:List MemPlace} {α:Type} (El:List Value → α → Prop)
  (ht:P.underlying t = some (.slice e)) (hs:P.cellsOf e = s) (hs0:0 < s) (hby:s * 8 ≤ P.bytesOf e)
  (hel:∀ f cs d' ps',DataW.trod enc P W 0 sp hd f e cs = some (d',ps') → cs.length = s → (∀ n ∈ d'.weights P e,n ≤ reachBytes) → ∃ x,El cs x)
  (h:DataW.trod enc P W 0 sp hd fuel t [c] = some (d,ps)) (hw:∀ n ∈ d.weights P t,n ≤ reachBytes) :
  ∃ (css:List (List Value)) (xs:List α),css.length = xs.length ∧ (∀ cs ∈ css,cs.length = s) ∧ Row W c xs.length s css.flatten ∧ ∀ i (h1:i < css.length) (h2:i < xs.length),El css[i] xs[i]:=by
 rcases open_slice ht h with ⟨hc,_⟩ | ⟨a,len,cap,m,n,D,Pl,hc,_,hlc,hcm,hm,hx,hel'⟩
 ·obtain rfl:c = .slice none 0 0:=by simpa using hc
  exact ⟨[],[],rfl,by simp,⟨by simp,by simp,none,0,rfl,Nat.le_refl _,fun hn=>absurd rfl hn⟩,fun i hi=>absurd hi (Nat.not_lt_zero _)⟩
 ·obtain rfl:c = .slice (some a) len cap:=by simpa using hc
  have hd':d = .slice ((List.range len).map D) ((List.range (m - len)).map fun j=>D (len + j)):=congrArg Prod.fst hx
  subst hd'
  have hlm:len ≤ m:=by rw [hm];split <;> omega
  have hw0:∀ n ∈ ((((List.range len).map D).length + ((List.range (m - len)).map fun j=>D (len + j)).length) * P.bytesOf e :: (DataW.weightsAll P e ((List.range len).map D) ++ DataW.weightsAll P e ((List.range (m - len)).map fun j=>D (len + j)))),n ≤ reachBytes:=by
   simpa [DataW.weights,ht] using hw
  have hlen:len * s * 8 ≤ 140737488351232:=by
   have h1:=hw0 _ (List.mem_cons_self)
   simp only [List.length_map,List.length_range] at h1
   have h2:len * (s * 8) ≤ (len + (m - len)) * P.bytesOf e:=Nat.mul_le_mul (by omega) hby
   have h3:reachBytes = 140737488351232:=by decide
   rw [Nat.mul_assoc]
   omega
  obtain ⟨L,hL,hp⟩:=chooseL (α:=List Value × α) (fun i p=>W.cells? 0 (a.add (i * P.cellsOf e)) (P.cellsOf e) = some p.1 ∧ El p.1 p.2) len (fun i hi=>by
   obtain ⟨cs',h1,h2⟩:=hel' i (by omega)
   obtain ⟨x,hx'⟩:=hel n cs' _ _ h2 (by rw [← hs];exact (cells_len h1).1) (fun k hk=>hw0 k (by
    refine List.mem_cons_of_mem _ (List.mem_append_left _ (weightsAll_mem (d:=D i) ?_ hk))
    exact List.mem_map.2 ⟨i,List.mem_range.2 hi,rfl⟩))
   exact ⟨(cs',x),h1,hx'⟩)
  have hall:∀ cs ∈ L.map (·.1),cs.length = s:=by
   intro cs hcs
   obtain ⟨p,hp',rfl⟩:=List.mem_map.1 hcs
   obtain ⟨i,hi,rfl⟩:=List.mem_iff_getElem.1 hp'
   rw [← hs]
   exact (cells_len (hp i hi).1).1
  obtain ⟨f1,f2⟩:=flat_get hs0 hall
  rw [List.length_map,hL] at f1
  refine ⟨L.map (·.1),L.map (·.2),by simp,hall,⟨by rw [f1,List.length_map,hL],by rw [f1];exact hlen,some a,cap,by rw [List.length_map,hL],by rw [List.length_map,hL];exact hlc,fun hn=>?_⟩,fun i h1 h2=>?_⟩
  ·rw [List.length_map,hL] at hn
   have h0:=(cells_len (hp 0 (by omega)).1).2 0 (by omega)
   obtain ⟨b,off,sp'⟩:=a
   have hsp:sp' = none:=by
    cases sp' with
    | none=>rfl
    | some x =>
     exfalso
     have hl0:(L[0]'(by omega)).1.length = s:=hall _ (List.mem_map.2 ⟨_,List.getElem_mem _,rfl⟩)
     rw [List.getElem?_eq_getElem (by omega)] at h0
     simp [Addr.add,World.cell?] at h0
     split at h0 <;> simp at h0
   subst hsp
   refine ⟨b,off,rfl,fun k hk=>?_⟩
   rw [f1] at hk
   have hks:k / s < len:=Nat.div_lt_of_lt_mul (by rw [Nat.mul_comm];exact hk)
   have hkm:k % s < s:=Nat.mod_lt _ hs0
   have h3:=(cells_len (hp (k / s) (by omega)).1).2 (k % s) (by omega)
   have e:((⟨b,off,none⟩:Addr).add (k / s * P.cellsOf e)).add (k % s) = ⟨b,off + k,none⟩:=by
    rw [hs]
    have:=Nat.div_add_mod k s
    rw [Nat.mul_comm] at this
    unfold Addr.add
    split <;> split <;> simp_all <;> omega
   rw [e] at h3
   rw [h3]
   have h4:=f2 k
   have hL':L[k / s]? = some (L[k / s]'(by omega)):=List.getElem?_eq_getElem (by omega)
   rw [List.getElem?_map,hL'] at h4
   have h5:(L.map (·.1)).flatten[k]? = (L[k / s]'(by omega)).1[k % s]?:=h4
   rw [← h5,List.getD_eq_getElem?_getD,List.getElem?_eq_getElem (by rw [f1];exact hk)]
   rfl
  ·have h5:=(hp i (by simpa using h1)).2
   simpa using h5
theorem ints_in0 {H:Type} {enc:TypeId × Value → H} {W:World} {sp:Nat → Bool} {hd:Bool} {fuel:Nat} {c:Value} {d:DataW H} {ps:List MemPlace}
  (h:DataW.trod enc Tryz.prog W 0 sp hd fuel 22 [c] = some (d,ps)) (hw:∀ n ∈ d.weights Tryz.prog 22,n ≤ reachBytes):∃ xs,Ints W c xs:=by
 obtain ⟨css,xs,hl,hs,hr,hel⟩:=slice_in (s:=1) (α:=Int) (fun cs x=>cs = [.int .i64 x] ∧ I64 x) Tryz.underlying22 (by kernel_rfl) (by omega) (by rw [show Tryz.prog.bytesOf 3 = 8 by kernel_rfl];omega)
  (fun f cs d' ps' h _ _=>by
   obtain ⟨n,hc,_,hwf⟩:=DataW.trod_int Tryz.underlying3 h
   exact ⟨n,hc,wf_i64 hwf⟩) h hw
 have e:css.flatten = xs.map (Value.int .i64):=by
  have e':css = xs.map (fun x=>[Value.int .i64 x]):=by
   apply List.ext_getElem (by simpa using hl)
   intro i h1 h2
   rw [(hel i h1 (by simpa using h2)).1]
   simp
  rw [e']
  clear e' hel hr hs hl h
  induction xs with
  | nil=>rfl
  | cons x xs ih=>simp [ih]
 rw [e] at hr
 refine ⟨xs,fun x hx=>?_,hr⟩
 obtain ⟨i,hi,rfl⟩:=List.mem_iff_getElem.1 hx
 exact (hel i (by omega) hi).2
theorem slice_shape {H:Type} {enc:TypeId × Value → H} {P:Program} {W:World} {B base:Nat} {sp:Nat → Bool} {hd:Bool} {v:Value} {t e:TypeId} {d:DataW H} {ps:List MemPlace} (ht:P.underlying t = some (.slice e))
  (hv:Value.okWide P W .any B t v) (h:DataW.Trod enc P W base sp hd t v d ps):∃ fuel,DataW.trod enc P W base sp hd fuel t [v] = some (d,ps):=by
 obtain ⟨a,len,cap,rfl⟩:=okWide_slice ht hv
 exact h
theorem ints_in {H:Type} {enc:TypeId × Value → H} {W:World} {sp:Nat → Bool} {hd:Bool} {B:Nat} {v:Value} {d:DataW H} {ps:List MemPlace}
  (hv:Value.okWide Tryz.prog W .any B 22 v) (h:DataW.Trod enc Tryz.prog W 0 sp hd 22 v d ps) (hw:∀ n ∈ d.weights Tryz.prog 22,n ≤ reachBytes):∃ xs,Ints W v xs:=by
 obtain ⟨fuel,h⟩:=slice_shape Tryz.underlying22 hv h
 exact ints_in0 h hw
end Go.Proofs.YtnalakhelicjcaaGreatDoor
set_option maxRecDepth 100000
namespace Go.Proofs.YtnalakhelicjcaaGreatDoor
open Go.ChangeShapes Go.WideShapes Go.ChangeAt Go.RowKit Go.Deep
open Go.ChangeMaps (open_string shut_string)
theorem field_at {fs:Array Field} {l:Array (TypeId × Nat)} (h:fs.map (fun f=>(f.type,f.offset)) = l) {i t o:Nat} (hi:l[i]? = some (t,o)):∃ f,fs[i]? = some f ∧ f.type = t ∧ f.offset = o:=by
 subst h
 rw [Array.getElem?_map] at hi
 obtain ⟨f,h1,h2⟩:=Option.map_eq_some_iff.1 hi
 exact ⟨f,h1,congrArg Prod.fst h2,congrArg Prod.snd h2⟩
section
variable {H:Type} {enc:TypeId × Value → H} {P:Program} {W:World} {base:Nat} {sp:Nat → Bool} {hd:Bool} {f:Nat} {cs:List Value} {d:DataW H} {ps:List MemPlace}
theorem struct_in {t:TypeId} {fs:Array Field} {l:Array (TypeId × Nat)} (ht:P.underlying t = some (.struct fs)) (hl:fs.map (fun f=>(f.type,f.offset)) = l)
  (h:DataW.trod enc P W base sp hd f t cs = some (d,ps)) (hw:∀ n ∈ d.weights P t,n ≤ reachBytes) :
  cs.length = P.cellsOf t ∧ ∀ (i t' o:Nat),l[i]? = some (t',o) → ∃ d' ps' f',DataW.trod enc P W base sp hd f' t' ((cs.drop o).take (P.cellsOf t')) = some (d',ps') ∧ ∀ n ∈ d'.weights P t',n ≤ reachBytes:=by
 obtain ⟨xs,n,_,hx,hlen,hsz,hf⟩:=DataW.trod_struct ht h
 refine ⟨hlen,fun i t' o hi=>?_⟩
 obtain ⟨fd,h1,h2,h3⟩:=field_at hl hi
 have h4:=hf i fd h1
 have hlt:i < xs.length:=by rw [hsz];exact (Array.getElem?_eq_some_iff.1 h1).1
 rw [List.getElem?_eq_getElem hlt,h2,h3] at h4
 refine ⟨xs[i].1,xs[i].2,n,h4,fun k hk=>hw k ?_⟩
 have hd':d = .agg (xs.map (·.1)):=congrArg Prod.fst hx
 subst hd'
 rw [DataW.weights,ht]
 exact DataW.weights_mem_each (j:=i) (by rw [List.getElem?_map,Array.getElem?_toList,h1];simp [h2]) (by rw [List.getElem?_map,List.getElem?_eq_getElem hlt];rfl) k hk
theorem string_at {t:TypeId} (ht:P.underlying t = some .string) (h:DataW.trod enc P W base sp hd f t cs = some (d,ps)) (hw:∀ n ∈ d.weights P t,n ≤ reachBytes):∃ s:ByteArray,cs = [.string s] ∧ s.size ≤ 140737488351232:=by
 obtain ⟨s,h1,h2,_⟩:=DataW.trod_string ht h
 have hd':d = .lit (.string s.data.toList):=congrArg Prod.fst h2
 subst hd'
 have h3:=hw s.data.toList.length (by simp [DataW.weights])
 have h4:reachBytes = 140737488351232:=by decide
 refine ⟨s,h1, ?_⟩
 rw [h4,Array.length_toList] at h3
 exact h3
end
theorem msg_at {H:Type} {enc:TypeId × Value → H} {W:World} {sp:Nat → Bool} {hd:Bool} {f:Nat} {cs:List Value} {d:DataW H} {ps:List MemPlace}
  (h:DataW.trod enc Tryz.prog W 0 sp hd f 96 cs = some (d,ps)) (hw:∀ n ∈ d.weights Tryz.prog 96,n ≤ reachBytes):∃ m:M,m.fits ∧ cs = m.cells:=by
 have hS:Tryz.prog.underlying 96 = some (.struct (Tryz.prog.fieldsOf 96)):=by kernel_rfl
 have hF:(Tryz.prog.fieldsOf 96).map (fun f=>(f.type,f.offset)) = #[(3,0),(3,1),(3,2),(4,3),(9,4)]:=by kernel_rfl
 obtain ⟨hl,hp⟩:=struct_in hS hF h hw
 rw [show Tryz.prog.cellsOf 96 = 5 by kernel_rfl] at hl
 obtain ⟨c0,c1,c2,c3,c4,rfl⟩:∃ c0 c1 c2 c3 c4,cs = [c0,c1,c2,c3,c4]:=by
  match cs,hl with
  | [c0,c1,c2,c3,c4],_=>exact ⟨_,_,_,_,_,rfl⟩
 have k1:Tryz.prog.cellsOf 3 = 1:=by kernel_rfl
 have k2:Tryz.prog.cellsOf 4 = 1:=by kernel_rfl
 have k3:Tryz.prog.cellsOf 9 = 1:=by kernel_rfl
 obtain ⟨_,_,_,h0,_⟩:=hp 0 _ _ rfl
 obtain ⟨_,_,_,h1,_⟩:=hp 1 _ _ rfl
 obtain ⟨_,_,_,h2,_⟩:=hp 2 _ _ rfl
 obtain ⟨_,_,_,h3,_⟩:=hp 3 _ _ rfl
 obtain ⟨_,_,_,h4,w4⟩:=hp 4 _ _ rfl
 rw [k1] at h0 h1 h2
 rw [k2] at h3
 rw [k3] at h4
 obtain ⟨n0,e0,_,x0⟩:=DataW.trod_int Tryz.underlying3 h0
 obtain ⟨n1,e1,_,x1⟩:=DataW.trod_int Tryz.underlying3 h1
 obtain ⟨n2,e2,_,x2⟩:=DataW.trod_int Tryz.underlying3 h2
 obtain ⟨b3,e3,_⟩:=DataW.trod_bool Tryz.underlying4 h3
 obtain ⟨s4,e4,x4⟩:=string_at Tryz.underlying9 h4 w4
 simp at e0 e1 e2 e3 e4
 subst e0 e1 e2 e3 e4
 exact ⟨⟨n0,n1,n2,b3,s4⟩,⟨wf_i64 x0,wf_i64 x1,wf_i64 x2,x4⟩,rfl⟩
theorem msgs_in0 {H:Type} {enc:TypeId × Value → H} {W:World} {sp:Nat → Bool} {hd:Bool} {fuel:Nat} {c:Value} {d:DataW H} {ps:List MemPlace}
  (h:DataW.trod enc Tryz.prog W 0 sp hd fuel 63 [c] = some (d,ps)) (hw:∀ n ∈ d.weights Tryz.prog 63,n ≤ reachBytes):∃ ms,Msgs W c ms:=by
 obtain ⟨css,xs,hl,hs,hr,hel⟩:=slice_in (s:=5) (α:=M) (fun cs m=>m.fits ∧ cs = m.cells) Tryz.underlying63 (by kernel_rfl) (by omega) (by rw [show Tryz.prog.bytesOf 96 = 48 by kernel_rfl];omega)
  (fun f cs d' ps' h _ hw=>msg_at h hw) h hw
 have e:css.flatten = xs.flatMap M.cells:=by
  have e':css = xs.map M.cells:=by
   apply List.ext_getElem (by simpa using hl)
   intro i h1 h2
   rw [(hel i h1 (by simpa using h2)).2]
   simp
  rw [e',List.flatMap_def]
 rw [e] at hr
 refine ⟨xs,fun x hx=>?_,hr⟩
 obtain ⟨i,hi,rfl⟩:=List.mem_iff_getElem.1 hx
 exact (hel i (by omega) hi).1
end Go.Proofs.YtnalakhelicjcaaGreatDoor
set_option maxRecDepth 100000
namespace Go.Proofs.YtnalakhelicjcaaGreatDoor
open Go.ChangeShapes Go.WideShapes Go.ChangeAt Go.RowKit Go.Deep
section
variable {H:Type} {enc:TypeId × Value → H} {W:World} {sp:Nat → Bool} {hd:Bool} {fuel B:Nat} {c v:Value} {cs:List Value} {d:DataW H} {ps:List MemPlace}
theorem one_cell (h:cs.length = 1):∃ u,cs = [u]:=by
 match cs,h with
 | [u],_=>exact ⟨u,rfl⟩
theorem introws_in0 (h:DataW.trod enc Tryz.prog W 0 sp hd fuel 62 [c] = some (d,ps)) (hw:∀ n ∈ d.weights Tryz.prog 62,n ≤ reachBytes):∃ l,IntRows W c l:=by
 obtain ⟨css,xs,hl,hs,hr,hel⟩:=slice_in (s:=1) (α:=List Int) (fun cs x=>IntsEl W cs x) Tryz.underlying62 (by kernel_rfl) (by omega) (by rw [show Tryz.prog.bytesOf 22 = 24 by kernel_rfl];omega)
  (fun f cs d' ps' h hl hw=>by
   obtain ⟨u,rfl⟩:=one_cell hl
   obtain ⟨x,hx⟩:=ints_in0 h hw
   exact ⟨x,u,rfl,hx⟩) h hw
 exact ⟨xs,css,hl,hs,hr,hel⟩
theorem node_at (h:DataW.trod enc Tryz.prog W 0 sp hd fuel 65 cs = some (d,ps)) (hw:∀ n ∈ d.weights Tryz.prog 65,n ≤ reachBytes):∃ n,NodeEl W cs n:=by
 have hS:Tryz.prog.underlying 65 = some (.struct (Tryz.prog.fieldsOf 65)):=by kernel_rfl
 have hF:(Tryz.prog.fieldsOf 65).map (fun f=>(f.type,f.offset)) = #[(3,0),(62,1),(63,2),(63,3)]:=by kernel_rfl
 obtain ⟨hl,hp⟩:=struct_in hS hF h hw
 rw [show Tryz.prog.cellsOf 65 = 4 by kernel_rfl] at hl
 obtain ⟨c0,c1,c2,c3,rfl⟩:∃ c0 c1 c2 c3,cs = [c0,c1,c2,c3]:=by
  match cs,hl with
  | [c0,c1,c2,c3],_=>exact ⟨_,_,_,_,rfl⟩
 obtain ⟨_,_,_,h0,_⟩:=hp 0 _ _ rfl
 obtain ⟨_,_,_,h1,w1⟩:=hp 1 _ _ rfl
 obtain ⟨_,_,_,h2,w2⟩:=hp 2 _ _ rfl
 obtain ⟨_,_,_,h3,w3⟩:=hp 3 _ _ rfl
 rw [show Tryz.prog.cellsOf 3 = 1 by kernel_rfl] at h0
 rw [show Tryz.prog.cellsOf 62 = 1 by kernel_rfl] at h1
 rw [show Tryz.prog.cellsOf 63 = 1 by kernel_rfl] at h2 h3
 obtain ⟨n0,e0,_,x0⟩:=DataW.trod_int Tryz.underlying3 h0
 obtain ⟨l1,y1⟩:=introws_in0 h1 w1
 obtain ⟨l2,y2⟩:=msgs_in0 h2 w2
 obtain ⟨l3,y3⟩:=msgs_in0 h3 w3
 simp at e0
 subst e0
 exact ⟨⟨n0,l1,l2,l3⟩,c1,c2,c3,rfl,wf_i64 x0,y1,y2,y3⟩
end
end Go.Proofs.YtnalakhelicjcaaGreatDoor
