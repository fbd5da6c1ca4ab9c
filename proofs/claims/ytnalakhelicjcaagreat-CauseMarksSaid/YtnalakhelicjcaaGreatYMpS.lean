/-
  A set of numbers as a map that the call has made: a store, a range over it.
-/
import Derived.Test.YtnalakhelicjcaaGreatYMkP
import Derived.Test.YtnalakhelicjcaaGreatYOLt
import Derived.Maps.RangeWalk
import Derived.Maps.OwnSet
import Derived.Maps.Ext
namespace Go.Proofs.YtnalakhelicjcaaGreat
open Go.RowKit Go.Deep Go.Maps Go.WideShapes
open Go.WideElems (Fit rg rd_key rg_of)
theorem setLaw:Keyed Tryz.prog 3:=int_keyed Tryz.underlying3
theorem plain_bool_inv {P:Program} {e:TypeId} (he:P.underlying e = some .bool) {v:Value} {y:DataW Unit × List MemPlace} (h:plainElem P e v = some y):∃ c,v = .bool c:=by
 unfold plainElem at h
 rw [he] at h
 cases v <;> simp at h
 exact ⟨_,rfl⟩
theorem bool_inv {v:Value} {y:DataW Unit × List MemPlace} (h:plainElem Tryz.prog 4 v = some y):∃ c,v = .bool c:=plain_bool_inv Tryz.underlying4 h
theorem bool_is (c:Bool):(plainElem (H:=Unit) Tryz.prog 4) (.bool c) = some (.lit (.bool c),[]):=plainElem_bool Tryz.underlying4 c
theorem wf_nat {i:Nat} (h:i < 100):(Lit.int .i64 (i:Int)).wf = true:=WalkArith.wf_i64 (by omega)
theorem key_is {i:Nat} (h:i < 100):keyOf Tryz.prog 3 (.int .i64 (i:Int)) = some (.int .i64 (i:Int)):=keyOf_int_mk Tryz.underlying3 (wf_nat h)
theorem lit_ne {i j:Nat} (e:¬ j = i):Lit.int .i64 (j:Int) ≠ .int .i64 (i:Int):=fun h=>by
 injection h with _ h2
 exact e (Int.ofNat.inj h2)
def SetD (D:DataW Unit) (f:St):Prop:=(∀ x:Int,Maps.has D (.int .i64 x) = (decide (0 ≤ x) && f x.toNat)) ∧ ∀ i,f i = true → i < 100
def SetAt (w:World) (b:Nat) (f:St):Prop:=∃ n D,w.ownsMap Tryz.prog 3 (plainElem (H:=Unit) Tryz.prog 4) b n D ∧ SetD D f
theorem SetAt.made (w:World):SetAt (w.alloc (.map #[] 0)) w.heap.size emptyS:=
 ⟨0, .map [],World.ownsMap_made _ _ _ _,fun x=>by simp [emptyS,Maps.has],fun i h=>by cases h⟩
theorem SetAt.keep {w w':World} {b:Nat} {f:St} (h:SetAt w b f) (k:w'.heap[b]? = w.heap[b]?):SetAt w' b f:=by
 obtain ⟨n,D,⟨es,cl,h1,h2⟩,h3⟩:=h
 exact ⟨n,D,⟨es,cl,k.trans h1,h2⟩,h3⟩
theorem SetAt.lt {w:World} {b:Nat} {f:St} (h:SetAt w b f):b < w.heap.size:=by
 obtain ⟨n,D,h1,_⟩:=h
 exact h1.lt
theorem few:∀ (L:Nat) (l:List Int),l.Pairwise (· ≠ ·) → (∀ x ∈ l,0 ≤ x ∧ x < (L:Int)) → l.length ≤ L
 | 0,[],_,_=>Nat.le_refl _
 | 0,x :: l,_,h=>by have:=h x (List.mem_cons_self ..);omega
 | L + 1,l,hp,h=>by
  have key:∀ l:List Int,l.Pairwise (· ≠ ·) → l.length ≤ (l.filter (fun x=>decide (x ≠ (L:Int)))).length + 1:=by
   intro l
   induction l with
   | nil=>simp
   | cons y l ih =>
    intro hp
    rw [List.pairwise_cons] at hp
    by_cases e:y = (L:Int)
    ·have hf:l.filter (fun x=>decide (x ≠ (L:Int))) = l:=List.filter_eq_self.2 (fun x hx=>by
      have:=hp.1 x hx
      simp
      omega)
     rw [List.filter_cons,if_neg (by simp [e]),hf]
     simp
    ·rw [List.filter_cons,if_pos (by simpa using e)]
     have:=ih hp.2
     simp only [List.length_cons]
     omega
  have h1:=few L (l.filter (fun x=>decide (x ≠ (L:Int)))) (hp.filter _) (fun x hx=>by
   rw [List.mem_filter] at hx
   have h2:=h x hx.1
   have h3:x ≠ (L:Int):=by simpa using hx.2
   omega)
  have:=key l hp
  omega
theorem SetAt.tight {w:World} {b n:Nat} {D:DataW Unit} {f:St} (h:w.ownsMap Tryz.prog 3 (plainElem (H:=Unit) Tryz.prog 4) b n D) (hD:SetD D f):w.ownsMap Tryz.prog 3 (plainElem (H:=Unit) Tryz.prog 4) b 100 D:=by
 have hc:=h.canon setLaw
 obtain ⟨es,clock,hb,F,hs,rfl⟩:=h
 refine ⟨es,clock,hb,F, ?_,rfl⟩
 obtain ⟨l,hl,hp,_⟩:=hc
 cases hl
 have hlen:((es.toList.map (rg Tryz.prog 3 (plainElem (H:=Unit) Tryz.prog 4))).foldr DataW.insert []).length = es.size:=length_read es
 generalize hL:(es.toList.map (rg Tryz.prog 3 (plainElem (H:=Unit) Tryz.prog 4))).foldr DataW.insert [] = L at *
 have hkey:∀ p ∈ L,∃ x:Int,p.1 = .int .i64 x:=fun p hp=>by
  rw [← hL] at hp
  obtain ⟨x,hx,rfl⟩:=List.mem_map.1 (mem_sorted.1 hp)
  obtain ⟨y,hy⟩:=F.reads x hx
  rw [rg_of hy]
  obtain ⟨a,_,h2,_⟩:=Maps.keyOf_int_inv Tryz.underlying3 (rd_key hy)
  exact ⟨a,h2⟩
 have hap:=apart_of_rising hp
 rw [← hlen]
 have hin:∀ p ∈ L,∀ x:Int,p.1 = .int .i64 x → 0 ≤ x ∧ x < 100:=fun p hp x hx=>by
  have h1:Maps.has (.map L:DataW Unit) (.int .i64 x) = true:=by
   rw [Maps.has_eq,List.any_eq_true]
   exact ⟨p,hp,by rw [hx];exact WideAt.sameKey_self (by simp [WideAt.IsKeyLit])⟩
  rw [hD.1 x,Bool.and_eq_true] at h1
  have h2:=hD.2 _ h1.2
  have h3:0 ≤ x:=by simpa using h1.1
  omega
 have h:=few 100 (L.map fun p=>match p.1 with | .int _ a=>a | _=>0) (by
  rw [List.pairwise_map]
  refine List.Pairwise.imp_of_mem ?_ hap
  intro p q hp hq hne
  obtain ⟨x,hx⟩:=hkey p hp
  obtain ⟨y,hy⟩:=hkey q hq
  rw [hx,hy] at hne ⊢
  intro e
  exact hne (by show Lit.int .i64 x = _;rw [show x = y from e])) (fun x hx=>by
  obtain ⟨p,hp,rfl⟩:=List.mem_map.1 hx
  obtain ⟨x,hx⟩:=hkey p hp
  have:=hin p hp x hx
  rw [hx]
  exact this)
 simpa using h
theorem SetAt.opened {w:World} {b:Nat} {f:St} (h:SetAt w b f):∃ D,w.ownsMap Tryz.prog 3 (plainElem (H:=Unit) Tryz.prog 4) b 100 D ∧ SetD D f:=by
 obtain ⟨n,D,h1,h2⟩:=h
 exact ⟨D,SetAt.tight h1 h2,h2⟩
theorem SetAt.put {w:World} {b n:Nat} {D:DataW Unit} {f:St} {i:Nat} (h:w.ownsMap Tryz.prog 3 (plainElem (H:=Unit) Tryz.prog 4) b n (D.put (.int .i64 (i:Int)) (.lit (.bool true)))) (hm:IsMap D) (hD:SetD D f) (hi:i < 100):SetAt w b (fun j=>f j || j == i):=by
 refine ⟨n,_,h,fun x=>?_,fun j hj=>?_⟩
 ·by_cases e:x = (i:Int)
  ·subst e
   rw [has_put_same hm (by simp [WideAt.IsKeyLit])]
   simp
  ·rw [has_put_other (by simpa using e),hD.1 x]
   show _ = (decide (0 ≤ x) && (f x.toNat || x.toNat == i))
   by_cases hx:0 ≤ x
   ·have:(x.toNat == i) = false:=by simp;omega
    rw [this]
    simp
   ·simp [hx]
 ·rw [Bool.or_eq_true] at hj
  rcases hj with hj | hj
  ·exact hD.2 j hj
  ·have:j = i:=by simpa using hj
   omega
def SetRg (w:World) (b r:Nat) (f l:St) (cnt:Nat):Prop:=∃ D left,w.ranges Tryz.prog 3 (plainElem (H:=Unit) Tryz.prog 4) b r 100 D left cnt ∧ SetD D f ∧ (∀ x:Int,left (.int .i64 x) = (decide (0 ≤ x) && l x.toNat)) ∧ ∀ i,l i = true → f i = true
theorem SetRg.keep {w w':World} {b r cnt:Nat} {f l:St} (h:SetRg w b r f l cnt) (k1:w'.heap[b]? = w.heap[b]?) (k2:w'.heap[r]? = w.heap[r]?):SetRg w' b r f l cnt:=by
 obtain ⟨D,left,⟨es,clock,since,seen,c0,h1,h2,h3,h4,h5,h6⟩,h7⟩:=h
 exact ⟨D,left,⟨es,clock,since,seen,c0,k1.trans h1,h2,h3,h4,k2.trans h5,h6⟩,h7⟩
theorem SetRg.left_eq {w:World} {b r cnt:Nat} {f l:St} (h:SetRg w b r f l cnt):w.rangeLeft b r = cnt:=by
 obtain ⟨D,left,h,_⟩:=h
 exact h.left_eq
theorem SetRg.at {w:World} {b r cnt:Nat} {f l:St} (h:SetRg w b r f l cnt):SetAt w b f:=by
 obtain ⟨D,left,h,h2,_⟩:=h
 exact ⟨100,D,h.owns,h2⟩
theorem SetRg.bound {w:World} {b r cnt:Nat} {f l:St} (h:SetRg w b r f l cnt) {i:Nat} (hi:l i = true):f i = true ∧ i < 100:=by
 obtain ⟨D,left,_,h2,_,h4⟩:=h
 exact ⟨h4 i hi,h2.2 i (h4 i hi)⟩
theorem SetRg.lts {w:World} {b r cnt:Nat} {f l:St} (h:SetRg w b r f l cnt):r < w.heap.size ∧ b < w.heap.size ∧ r ≠ b:=by
 obtain ⟨D,left,h,_⟩:=h
 exact ⟨h.lt,h.owns.lt,h.ne⟩
section
variable (w:World) {ops:Array Oper} {rest:List Oper} {o:Oper} {a:Act} {Q:Exit → Act → World → Prop}
theorem wpList_set_put (hg:o.guard = none) (m x v:Operand) (hop:o.op = Op.mapUpdate 90 m x v) (b:Nat) (f:St) (i:Nat) (hm:a.eval m = .map (some b)) (h:SetAt w b f) (hi:i < 100) (hx:a.eval x = .int .i64 (i:Int)) (hv:a.eval v = .bool true)
  (hK:∀ w',SetAt w' b (fun j=>f j || j == i) → w.grownBy w' (some b) → wpList Tryz.prog ops Q rest (a.put o.dst undef) w'):wpList Tryz.prog ops Q (o :: rest) a w:=by
 obtain ⟨D,h1,h2⟩:=h.opened
 exact wpList_mapUpdate_own w hg m x v 90 hop 3 4 setLaw Tryz.underlying90 (plainElem (H:=Unit) Tryz.prog 4) b 100 D hm h1 (by unfold maxLen;omega) _ _ _ hx hv (key_is hi) _ [] (bool_is true)
  (fun w' k1 k2=>hK w' (SetAt.put k1 h1.isMap h2 hi) k2)
theorem wpList_set_range (hg:o.guard = none) (m:Operand) (hop:o.op = Op.range 90 m) (b:Nat) (f:St) (hm:a.eval m = .map (some b)) (h:SetAt w b f)
  (hK:∀ w' cnt,SetRg w' b w.heap.size f f cnt → w.grownBy w' none → w'.heap.size = w.heap.size + 1 → wpList Tryz.prog ops Q rest (a.put o.dst (.pointer (some ⟨w.heap.size,0,none⟩))) w'):wpList Tryz.prog ops Q (o :: rest) a w:=by
 obtain ⟨D,h1,h2⟩:=h.opened
 exact wpList_range_own w hg m 90 hop 3 4 setLaw Tryz.underlying90 (plainElem (H:=Unit) Tryz.prog 4) b 100 D hm h1 (fun w' k1 k2 k3=>hK w' _ ⟨D,_,k1,h2,h2.1,fun i hi=>hi⟩ k2 k3)
theorem wpList_set_next (hg:o.guard = none) (it:Operand) (hop:o.op = Op.next it false) (b r:Nat) (f l:St) (cnt:Nat) (hit:a.eval it = .pointer (some ⟨r,0,none⟩)) (h:SetRg w b r f l cnt)
  (hDone:(∀ i,l i = false) → wpList Tryz.prog ops Q rest (a.put o.dst (.tuple #[.bool false])) w)
  (hMore:∀ (i:Nat) (c:Value) (w':World) (cnt':Nat),l i = true → SetRg w' b r f (fun j=>l j && !(j == i)) cnt' → cnt' < cnt → w.grownBy w' (some r) → w'.heap.size = w.heap.size →
   (Instr.entry (.pointer (some ⟨r,0,none⟩))).run Tryz.prog w' = .ok (.tuple #[.int .i64 (i:Int),c]) w' → wpList Tryz.prog ops Q rest (a.put o.dst (.tuple #[.bool true, .int .i64 (i:Int),c])) w') :
  wpList Tryz.prog ops Q (o :: rest) a w:=by
 obtain ⟨D,left,h1,h2,h3,h4⟩:=h
 refine wpList_next_ranges w hg it hop 3 setLaw (plainElem (H:=Unit) Tryz.prog 4) (Value.int .i64) Value.bool (fun key kl hkey=>by obtain ⟨x,rfl,_⟩:=Maps.keyOf_int_inv Tryz.underlying3 hkey;exact ⟨x,rfl⟩) (fun v y hv=>bool_inv hv)
  b r 100 D left cnt hit h1 (fun _ hl=>hDone fun i=>?_) (fun x c kl y w' cnt' hkey hlk hv hat hrg hlt hgr hsz hen=>?_)
 ·have:=h3 (i:Int)
  rw [hl] at this
  simpa using this.symm
 ·obtain ⟨x',ex,rfl,hwx⟩:=Maps.keyOf_int_inv Tryz.underlying3 hkey
  cases ex
  rw [h3 x,Bool.and_eq_true] at hlk
  obtain ⟨i,rfl⟩:=Int.eq_ofNat_of_zero_le (show 0 ≤ x by simpa using hlk.1)
  rw [Int.toNat_natCast] at hlk
  refine hMore i (.bool c) w' cnt' hlk.2 ⟨D,_,hrg,h2,fun z=>?_,fun j hj=>h4 j (by rw [Bool.and_eq_true] at hj;exact hj.1)⟩ hlt hgr hsz hen
  rw [h3 z]
  by_cases hz:0 ≤ z
  ·obtain ⟨j,rfl⟩:=Int.eq_ofNat_of_zero_le hz
   rw [Int.toNat_natCast]
   have:Lit.sameKey (.int .i64 (j:Int)) (.int .i64 (i:Int)) = (j == i):=by
    by_cases e:j = i
    ·subst e;rw [WideAt.sameKey_self (by simp [WideAt.IsKeyLit])];simp
    ·rw [sameKey_ne (lit_ne e)];simp [e]
   rw [this,Bool.and_assoc]
  ·simp [hz]
end
end Go.Proofs.YtnalakhelicjcaaGreat
