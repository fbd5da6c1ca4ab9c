/-
  Groups: what each function of the package groups, and of the document's answer to it, computes.
  Are two lists of numbers the same? The document's answer.
-/
import Derived.Test.YtnalakhelicjcaaGreatDoorProg
import Derived.Test.YtnalakhelicjcaaGreatDoorZKA
import Derived.BigQuiet
import Derived.Deep.LoopGhost
import Derived.Shelf.Abstract
namespace Go.Proofs.YtnalakhelicjcaaGreatDoor
open Go.RowKit Go.Shelf
theorem within_c (w:World) (n lo hi:Int) :
  Calls Tryz.prog 39 #[.int .i64 n, .int .i64 lo, .int .i64 hi] w fun e w'=>e = .returned (.bool (inB n lo hi)) ∧ w = w':=by
 go_enter Tryz.func39,Tryz.ntmps39
 go_wp2
 all_goals (go_ret;exact ⟨by simp [inB, *] <;> (intros;omega),rfl⟩)
theorem power_c (n:Int) (h0:0 ≤ n) (h:n ≤ 10) (w:World) :
  Calls Tryz.prog 40 #[.int .i64 n] w fun e w'=>e = .returned (.int .i64 (pow2 n)) ∧ w = w':=by
 obtain ⟨k,rfl⟩:=Int.eq_ofNat_of_zero_le h0
 have hk:k ≤ 10:=by omega
 clear h h0
 show Calls Tryz.prog 40 #[.int .i64 k] w fun e w'=>e = .returned (.int .i64 ((2 ^ k:Nat):Int)) ∧ w = w'
 induction k with
 | zero =>
  go_enter Tryz.func40,Tryz.ntmps40
  go_wp2_with fail
  go_ret;exact ⟨by simp,rfl⟩
 | succ k ih =>
  have ih:=ih (by omega)
  have hb:2 ^ k ≤ 2 ^ 10:=Nat.pow_le_pow_right (by omega) (by omega)
  have hp:2 ^ (k + 1) = 2 * 2 ^ k:=by rw [Nat.pow_succ];omega
  generalize 2 ^ k = p at ih hb hp
  have hp':=Lib.hid hp;clear hp
  have hb:p ≤ 1024:=hb
  go_enter Tryz.func40,Tryz.ntmps40
  go_wp2_with fail
  refine ih.mono ?_;rintro e w' ⟨rfl,rfl⟩
  go_wp2
  go_ret;exact ⟨by rw [hp'.out];simp,rfl⟩
set_option maxHeartbeats 400000 in
theorem Has_some (w:World) (b off cap:Nat) (xs:List Int) (g n:Int)
  (_hm:xs.length * 8 ≤ 140737488351232)
  (hc:∀ k,k < xs.length → w.cell? ⟨b,off + k,none⟩ = some (.int .i64 (xs.getD k 0))) :
  Calls Tryz.prog 101 #[.slice (some ⟨b,off,none⟩) xs.length cap, .int .i64 g, .int .i64 n] w fun e w'=>e = .returned (.bool (hasB xs g n)) ∧ w = w':=by
 go_enter Tryz.func101,Tryz.ntmps101
 go_wp2
 all_goals (go_ret;exact ⟨by simp [hasB, *] <;> (intros;omega),rfl⟩)
theorem Has_c {w:World} {v:Value} {xs:List Int} (h:Ints w v xs) (g n:Int) :
  Calls Tryz.prog 101 #[v, .int .i64 g, .int .i64 n] w fun e w'=>e = .returned (.bool (hasB xs g n)) ∧ w = w':=by
 obtain ⟨hm,a,cap,rfl,_,hc⟩:=h.open
 by_cases hx:xs = []
 ·clear hc
  subst hx
  go_enter Tryz.func101,Tryz.ntmps101
  go_wp2
  all_goals (go_ret;exact ⟨by simp [hasB, *] <;> (intros;omega),rfl⟩)
 ·obtain ⟨b,off,rfl,hcc⟩:=hc hx
  exact Has_some w b off cap xs g n hm hcc
set_option maxHeartbeats 400000 in
theorem HasOf_some (w:World) (b off cap:Nat) (xs:List Int) (g n:Int)
  (hm:xs.length * 8 ≤ 140737488351232)
  (hc:∀ k,k < xs.length → w.cell? ⟨b,off + k,none⟩ = some (.int .i64 (xs.getD k 0))) :
  Calls Tryz.prog 68 #[.slice (some ⟨b,off,none⟩) xs.length cap, .int .i64 g, .int .i64 n] w fun e w'=>e = .returned (.bool (hasB xs g n)) ∧ w = w':=by
 by_cases h1:inB g 0 (↑xs.length - 1) = true
 ·have hb1:=inB_t h1
  by_cases h2:inB n 0 3 = true
  ·have hb2:=inB_t h2
   have hv:=hc g.toNat (by omega)
   have he:=hasB_in (xs:=xs) hb1.1 (by omega) hb2.1 (by omega)
   generalize xs.getD g.toNat 0 = x at hv he
   have HE:=Lib.hid he;clear he hc
   go_enter Tryz.func68,Tryz.ntmps68
   go_wp2_with (go_at_call 39;refine (within_c _ _ _ _).mono ?_;rintro e w' ⟨rfl,rfl⟩)
   go_ret;exact ⟨ret_bool HE.out.symm,rfl⟩
  ·have HE:=Lib.hid (hasB_out (xs:=xs) (g:=g) (n:=n) (by have:=inB_f h2;omega))
   rw [Bool.not_eq_true] at h2
   go_enter Tryz.func68,Tryz.ntmps68
   go_wp2_with (go_at_call 39;refine (within_c _ _ _ _).mono ?_;rintro e w' ⟨rfl,rfl⟩)
   go_ret;exact ⟨ret_bool HE.out.symm,rfl⟩
 ·have HE:=Lib.hid (hasB_out (xs:=xs) (g:=g) (n:=n) (by have:=inB_f h1;omega))
  rw [Bool.not_eq_true] at h1
  go_enter Tryz.func68,Tryz.ntmps68
  go_wp2_with (go_at_call 39;refine (within_c _ _ _ _).mono ?_;rintro e w' ⟨rfl,rfl⟩)
  go_ret;exact ⟨ret_bool HE.out.symm,rfl⟩
theorem HasOf_c {w:World} {v:Value} {xs:List Int} (h:Ints w v xs) (g n:Int) :
  Calls Tryz.prog 68 #[v, .int .i64 g, .int .i64 n] w fun e w'=>e = .returned (.bool (hasB xs g n)) ∧ w = w':=by
 obtain ⟨hm,a,cap,rfl,_,hc⟩:=h.open
 by_cases hx:xs = []
 ·clear hc
  subst hx
  have HE:=Lib.hid (hasB_out (xs:=[]) (g:=g) (n:=n) (by simp;omega))
  have h1:inB g 0 (-1) = false:=inB_no (by omega)
  go_enter Tryz.func68,Tryz.ntmps68
  go_wp2_with (go_at_call 39;refine (within_c _ _ _ _).mono ?_;rintro e w' ⟨rfl,rfl⟩)
  all_goals (go_ret;exact ⟨ret_bool HE.out.symm,rfl⟩)
 ·obtain ⟨b,off,rfl,hcc⟩:=hc hx
  exact HasOf_some w b off cap xs g n hm hcc
theorem GroupsError_some (w:World) (b off cap:Nat) (xs:List Int) (nodes:Int)
  (hc:∀ k,k < xs.length → w.cell? ⟨b,off + k,none⟩ = some (.int .i64 (xs.getD k 0)))
  (h1:inB nodes 1 4 = true) (h2:inB xs.length 1 3 = true) :
  Calls Tryz.prog 16 #[.int .i64 nodes, .slice (some ⟨b,off,none⟩) xs.length cap] w (Gives (.int .i64 (gErr nodes xs)) w):=by
 have hb1:=inB_t h1
 have hb2:=inB_t h2
 have hcH:=Lib.hid hc;clear hc
 have hp:=pow2_bd hb1.2
 have hn0:0 ≤ nodes:=by omega
 have hn10:nodes ≤ 10:=by omega
 go_enter Tryz.func16,Tryz.ntmps16
 go_wp2_with (go_at_call 39;refine (within_c _ _ _ _).mono ?_;rintro e w' ⟨rfl,rfl⟩)
 go_loopw [5] (fun i wr=>∃ k:Nat,k ≤ xs.length ∧ i = .int .i64 k ∧ gAll nodes (xs.take k) = true ∧ Drew w wr) (fun i _=>xs.length - (intOf i).toNat)
 case atStart=>exact ⟨0,by omega,rfl,by simp [gAll],Drew.refl _⟩
 case round =>
  obtain ⟨k,hk,rfl,hg,hd⟩:=hrel
  by_cases hlt:k < xs.length
  ·have hv:=(hd.cell _).trans (hcH.out k hlt)
   have ht:=Lib.hid (gAll_take (nodes:=nodes) hlt)
   have hn:=Lib.hid (gAll_no (nodes:=nodes) hlt)
   generalize xs.getD k 0 = x at hv ht hn
   have hG:=Lib.hid hg;clear hg
   cases hx:inB x 1 (pow2 nodes - 1)
   ·go_wp2
    go_quiet ((first | (go_at_call 39;exact quiet_w (within_c _ _ _ _)) | (go_at_call 40;exact quiet_w (power_c nodes hn0 hn10 _))))
    go_wp2
    go_ret
    exact gives_drew (hd.drewN _) (by simp [gErr,h1,h2,hn.out hx])
   ·go_wp2
    go_quiet ((first | (go_at_call 39;exact quiet_w (within_c _ _ _ _)) | (go_at_call 40;exact quiet_w (power_c nodes hn0 hn10 _))))
    go_wp2
    go_roundw
    case rel=>exact ⟨k + 1,by omega,by go_num,by rw [ht.out,hG.out,hx];rfl,hd.drewN _⟩
    case measure=>simp [intOf];omega
  ·go_wp2
   go_ret
   exact gives_drew hd (by rw [List.take_of_length_le (by omega)] at hg;simp [gErr,h1,h2,hg])
theorem GroupsError_c {w:World} {v:Value} {xs:List Int} (h:Ints w v xs) (nodes:Int) :
  Calls Tryz.prog 16 #[.int .i64 nodes,v] w (Gives (.int .i64 (gErr nodes xs)) w):=by
 obtain ⟨hm,a,cap,rfl,_,hc⟩:=h.open
 by_cases h1:inB nodes 1 4 = true
 ·by_cases h2:inB xs.length 1 3 = true
  ·obtain ⟨b,off,rfl,hcc⟩:=hc (by have:=inB_t h2;intro hx;subst hx;simp at this)
   exact GroupsError_some w b off cap xs nodes hcc h1 h2
  ·clear hc
   rw [Bool.not_eq_true] at h2
   have HE:Hid (gErr nodes xs = 2):=by simp [gErr,h1,h2,Hid]
   have hl:xs.length ≤ 9223372036854775807:=by omega
   clear hm
   go_enter Tryz.func16,Tryz.ntmps16
   go_wp2_with (go_at_call 39;refine (within_c _ _ _ _).mono ?_;rintro e w' ⟨rfl,rfl⟩)
   go_ret
   exact gives_drew (Drew.refl _) (by rw [HE.out];rfl)
 ·clear hc
  rw [Bool.not_eq_true] at h1
  have HE:Hid (gErr nodes xs = 3):=by simp [gErr,h1,Hid]
  go_enter Tryz.func16,Tryz.ntmps16
  go_wp2_with (go_at_call 39;refine (within_c _ _ _ _).mono ?_;rintro e w' ⟨rfl,rfl⟩)
  go_ret
  exact gives_drew (Drew.refl _) (by rw [HE.out];rfl)
def PredW (P:Program) (g:Nat) (lb:Array Value) (p:Int → Bool) (w:World):Prop:=
 (∀ args w,(callFunc g args).run P w = .ok (.enter g args) w) ∧ ∀ W x,Drew w W → Calls P g (#[.int .i64 x] ++ lb) W (Gives (.bool (p x)) W)
theorem PredW.drew {P:Program} {g:Nat} {lb:Array Value} {p:Int → Bool} {w w':World} (h:PredW P g lb p w) (d:Drew w w'):PredW P g lb p w':=⟨h.1,fun W x hd=>h.2 W x (d.trans hd)⟩
def idxI (p:Int → Bool) (xs:List Int):Int:=match xs.findIdx? p with | some k=>(k:Int) | none=>-1
theorem idxI_hit {p:Int → Bool} {xs:List Int} {k:Nat} (hk:k < xs.length) (h:p (xs.getD k 0) = true) (hb:∀ j,j < k → p (xs.getD j 0) = false):idxI p xs = k:=by
 unfold idxI
 rw [List.findIdx?_eq_some_iff_getElem.2 ⟨hk, ?_, ?_⟩]
 ·simpa [hk] using h
 ·intro j hj
  have:=hb j hj
  simpa [Nat.lt_trans hj hk] using this
theorem idxI_miss {p:Int → Bool} {xs:List Int} (h:∀ j,j < xs.length → p (xs.getD j 0) = false):idxI p xs = -1:=by
 unfold idxI
 rw [List.findIdx?_eq_none_iff.2]
 intro x hx
 obtain ⟨j,hj,rfl⟩:=List.mem_iff_getElem.1 hx
 have:=h j hj
 simpa [hj] using this
theorem IndexFuncI_some (w:World) (b off cap:Nat) (xs:List Int) (g:Nat) (lb:Array Value) (p:Int → Bool) 
  (hp:PredW Tryz.prog g lb p w) (hl:xs.length * 8 ≤ 140737488351232)
  (hc:∀ k,k < xs.length → w.cell? ⟨b,off + k,none⟩ = some (.int .i64 (xs.getD k 0))) :
  Calls Tryz.prog 49 #[.slice (some ⟨b,off,none⟩) xs.length cap, .func (.func g) #[] lb] w (Gives (.int .i64 (idxI p xs)) w):=by
 have hcH:=Lib.hid hc;clear hc
 obtain ⟨eg,hp⟩:=hp
 have hpH:=Lib.hid hp;clear hp
 go_enter Tryz.func49,Tryz.ntmps49
 go_wp2
 go_loopw [8] (fun i wr=>∃ k:Nat,k ≤ xs.length ∧ i = .int .i64 k ∧ Hid (∀ j,j < k → p (xs.getD j 0) = false) ∧ Drew w wr) (fun i _=>xs.length - (intOf i).toNat)
 case atStart=>exact ⟨0,by omega,rfl,fun j hj=>absurd hj (Nat.not_lt_zero _),Drew.refl _⟩
 case round =>
  obtain ⟨k,hk,rfl,hA,hd⟩:=hrel
  by_cases hlt:k < xs.length
  ·have hv:=(hd.cell _).trans (hcH.out k hlt)
   generalize hx:xs.getD k 0 = x at hv
   have HX:=Lib.hid hx;clear hx
   have hcall:=hpH.out wr x hd
   cases hq:p x
   ·rw [hq] at hcall
    go_wp2_with (go_at_fn g;refine hcall.mono ?_;rintro e w' ⟨rfl,hd'⟩)
    go_roundw
    case rel =>
     refine ⟨k + 1,by omega,by go_num,fun j hj=>?_,hd.trans hd'⟩
     by_cases e:j = k
     ·subst e;rw [HX.out];exact hq
     ·exact hA.out j (by omega)
    case measure=>simp [intOf];omega
   ·rw [hq] at hcall
    go_wp2_with (go_at_fn g;refine hcall.mono ?_;rintro e w' ⟨rfl,hd'⟩)
    go_ret
    exact gives_drew (hd.trans hd') (by rw [idxI_hit hlt (by rw [HX.out];exact hq) hA.out];rfl)
  ·obtain rfl:k = xs.length:=by omega
   go_wp2
   go_ret
   exact gives_drew hd (by rw [idxI_miss hA.out];rfl)
theorem IndexFuncI_c {w:World} {v:Value} {xs:List Int} (h:Ints w v xs) (g:Nat) (lb:Array Value) (p:Int → Bool) (hp:PredW Tryz.prog g lb p w) :
  Calls Tryz.prog 49 #[v, .func (.func g) #[] lb] w (Gives (.int .i64 (idxI p xs)) w):=by
 obtain ⟨hm,a,cap,rfl,_,hc⟩:=h.open
 by_cases hx:xs = []
 ·clear hc hp
  subst hx
  go_enter Tryz.func49,Tryz.ntmps49
  go_wp2
  refine wp_loop_rounds 1 ?_
  rw [rounds_succ]
  go_wp2
  go_ret
  exact gives_drew (Drew.refl _) rfl
 ·obtain ⟨b,off,rfl,hcc⟩:=hc hx
  exact IndexFuncI_some w b off cap xs g lb p hp hm hcc
theorem idxI_any (p:Int → Bool) (xs:List Int):decide (0 ≤ idxI p xs) = xs.any p:=by
 unfold idxI
 cases h:xs.findIdx? p with
 | none =>
  rw [List.findIdx?_eq_none_iff] at h
  rw [List.any_eq_false.2 (fun x hx=>by simp [h x hx])]
  rfl
 | some k =>
  obtain ⟨hk,h2,_⟩:=List.findIdx?_eq_some_iff_getElem.1 h
  rw [List.any_eq_true.2 ⟨_,List.getElem_mem hk,h2⟩]
  simp
theorem ContainsFuncI_c {w:World} {v:Value} {xs:List Int} (h:Ints w v xs) (g:Nat) (lb:Array Value) (p:Int → Bool) (hp:PredW Tryz.prog g lb p w) :
  Calls Tryz.prog 21 #[v, .func (.func g) #[] lb] w (Gives (.bool (xs.any p)) w):=by
 have hcall:=IndexFuncI_c h g lb p hp
 have HE:=Lib.hid (idxI_any p xs)
 generalize idxI p xs = k at hcall HE
 clear hp h
 go_enter Tryz.func21,Tryz.ntmps21
 go_wp2_with (go_at_call 49;refine hcall.mono ?_;rintro e w' ⟨rfl,hd'⟩)
 go_ret
 exact gives_bool hd' HE.out
theorem Check1_c (w:World) (B:Nat) (nodes x:Int) (hn0:0 ≤ nodes) (hn4:nodes ≤ 4) (hB:w.cell? ⟨B,0,none⟩ = some (.int .i64 nodes)) :
  Calls Tryz.prog 22 #[.int .i64 x, .pointer (some ⟨B,0,none⟩)] w (Gives (.bool (!inB x 1 (pow2 nodes - 1))) w):=by
 have hw:=wrap_pow2 hn0 hn4
 go_enter Tryz.func22,Tryz.ntmps22
 by_cases h1:x < 1
 ·go_wp2
  go_ret
  exact gives_bool (Drew.refl _) (by rw [inB_no (Or.inl h1)];rfl)
 ·go_wp2
  go_ret
  exact gives_bool (Drew.refl _) (by rw [← inB_ge (by omega)])
theorem Check_c {w:World} {v:Value} {xs:List Int} (h:Ints w v xs) (nodes:Int) :
  Calls Tryz.prog 7 #[.int .i64 nodes,v] w (GivesB (.int .i64 (gErr nodes xs)) w):=by
 obtain ⟨hm,a,cap,hv,_,_⟩:=h.open
 have hA:Below w.heap.size w (w.alloc (.cells #[.int .i64 nodes] 3)):=(Below.refl _ w).alloc (Nat.le_refl _) _
 by_cases h1:inB nodes 1 4 = true
 ·have hb1:=inB_t h1
  by_cases h2:inB xs.length 1 3 = true
  ·have hb2:=inB_t h2
   have eg:∀ args w,(callFunc 22 args).run Tryz.prog w = .ok (.enter 22 args) w:=enters_of Tryz.func22 (by kernel_rfl) rfl
   have hB:(w.alloc (.cells #[.int .i64 nodes] 3)).cell? ⟨w.heap.size,0,none⟩ = some (.int .i64 nodes):=by simp
   have hcon:=ContainsFuncI_c (h.below hA) 22 #[.pointer (some ⟨w.heap.size,0,none⟩)] (fun x=>!inB x 1 (pow2 nodes - 1))
    ⟨eg,fun W x hd=>Check1_c W _ nodes x (by omega) hb1.2 ((hd.cell _).trans hB)⟩
   have HE:=Lib.hid (gErr_any h1 h2)
   generalize xs.any (fun x=>!inB x 1 (pow2 nodes - 1)) = r at hcon HE
   clear h eg hB
   subst hv
   cases r
   all_goals
    go_enter Tryz.func7,Tryz.ntmps7
    go_wp2_with (go_at_call 21;refine hcon.mono ?_;rintro e w' ⟨rfl,hd'⟩)
    go_ret
    exact givesB_int (hd'.belowTo hA) (by rw [HE.out];rfl)
  ·have HE:Hid (gErr nodes xs = 2):=by simp [gErr,h1,h2,Hid]
   have hb2:=inB_f h2
   clear h
   subst hv
   go_enter Tryz.func7,Tryz.ntmps7
   go_wp2_with fail
   all_goals
    go_ret
    exact givesB_int hA (by rw [HE.out])
 ·have HE:Hid (gErr nodes xs = 3):=by simp [gErr,h1,Hid]
  have hb2:=inB_f h1
  clear h
  subst hv
  go_enter Tryz.func7,Tryz.ntmps7
  go_wp2_with fail
  all_goals
   go_ret
   exact givesB_int hA (by rw [HE.out])
theorem two_c (w:World):Calls Tryz.prog 20 #[] w fun e w'=>∃ v,e = .returned v ∧ Ints w' v [3,6] ∧ Below w.heap.size w w':=by
 have hl:=Ints.lit w [3,6] 3 (by simp [I64]) (by simp)
 go_enter Tryz.func20,Tryz.ntmps20
 go_wp2
 go_ret
 exact ⟨_,rfl,hl,(Below.refl _ _).alloc (Nat.le_refl _) _⟩
end Go.Proofs.YtnalakhelicjcaaGreatDoor
set_option maxRecDepth 100000
namespace Go.Proofs.YtnalakhelicjcaaGreatDoor
open Go.RowKit Go.Shelf
end Go.Proofs.YtnalakhelicjcaaGreatDoor
