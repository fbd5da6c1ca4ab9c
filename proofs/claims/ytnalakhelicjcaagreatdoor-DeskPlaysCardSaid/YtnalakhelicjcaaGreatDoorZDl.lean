/-
  A line of a script.
-/
import Derived.Test.YtnalakhelicjcaaGreatDoorZGI
import Derived.Laws.EntriesVeiled
set_option maxRecDepth 100000
namespace Go.Proofs.YtnalakhelicjcaaGreatDoor
open Go.RowKit Go.Shelf Go.BigFrame Go.Deep
abbrev catchF:Nat:=31
def DLPost (w:World) (T:Nat) (r:Wd × List UInt8) (e:Ending) (w':World):Prop:=e = .returned (.string (strB r.2)) ∧ Save (fun b=>b = T) w w' ∧ TabAt w' T r.1
theorem TabAt.ans {w:World} {T R:Nat} {X:Wd} {v:Value} (h:TabAt w T X) (hR:BlkIs w R 9 1):TabAt (w.setCell ⟨R,0,none⟩ v) T X:=
 h.keep (by rw [Go.Deep.nblk_setCell];exact Nat.le_refl _) fun b hb hc=>by
  refine Go.Deep.blk_setCell_other _ _ _ _ fun e=>?_
  subst e
  obtain ⟨cs,h1,_⟩:=hR
  exact hc.ne h1 (fun g=>g.1 rfl)
theorem wordV_no (T:Nat) {s:List UInt8} (h:isWord s = false):wordV T s = noEntry:=by
 have h1:¬ isWord s = true:=by rw [h];decide
 rw [isWord_iff] at h1
 unfold wordV
 rw [if_neg fun e=>h1 (.inl e),if_neg fun e=>h1 (.inr (.inl e)),if_neg fun e=>h1 (.inr (.inr (.inl e))),if_neg fun e=>h1 (.inr (.inr (.inr (.inl e)))),if_neg fun e=>h1 (.inr (.inr (.inr (.inr (.inl e))))),if_neg fun e=>h1 (.inr (.inr (.inr (.inr (.inr e)))))]
theorem lineX_ok {X:Wd} {s:List UInt8} {x:Int × List UInt8 × Wd} (hx:execB X (parseB s) = x) (h:x.1 = 0):lineX X s = (x.2.2,x.2.1):=by
 unfold lineX
 rw [hx,if_pos h]
theorem lineX_err {X:Wd} {s:List UInt8} {x:Int × List UInt8 × Wd} (hx:execB X (parseB s) = x) (h:x.1 ≠ 0):lineX X s = (X,errB x.1):=by
 unfold lineX
 rw [hx,if_neg h]
theorem lineX_bad {X:Wd} {s:List UInt8} (h:parseB s = .bad):lineX X s = (X,errB 1):=lineX_err (x:=(1,[],X)) (by rw [h];rfl) (by show (1:Int) ≠ 0;decide)
theorem DLPost.of {w w1 w2:World} {T R:Nat} {X:Wd} {v:Value} {a:List UInt8} (hR:BlkIs w2 R 9 1) (hRw:w.heap.size ≤ R) (h:Save (fun b=>b = T) w w1) (b:Below w1.heap.size w1 w2) (hT:TabAt w1 T X) (hv:v = .string (strB a)) :
  DLPost w T (X,a) (.returned v) (w2.setCell ⟨R,0,none⟩ (.string (strB a))):=
 ⟨by rw [hv],(h.then (b.mono h.size)).then (below_setCell (Below.refl _ _) hRw _),(hT.below b).ans hR⟩
theorem splitB_strs (k:Nat) (s:List UInt8):Lib.splitB ⟨#[32]⟩ 0 k (strB s) = (Lib.splitK [32] 0 k s).map strB:=by
 have h:=Lib.splitB_data ⟨#[32]⟩ 0 k (strB s)
 have h2:=congrArg (List.map strB) h
 rw [List.map_map] at h2
 have e:(strB ∘ fun x:ByteArray=>x.data.toList) = id:=by funext x;exact strB_data x
 rw [e,List.map_id] at h2
 exact h2
theorem Strs.new (w:World) (l:List (List UInt8)) (m:List Value) (t:TypeId):Strs (w.alloc (.cells ((l.map strB).map Value.string ++ m).toArray t)) w.heap.size 0 l:=by
 refine ⟨by rw [World.size_alloc];omega,fun i s hi=>?_⟩
 have hil:i < l.length:=(List.getElem?_eq_some_iff.1 hi).1
 have h:=cells_new w ((l.map strB).map Value.string ++ m).toArray t i (.string (strB s)) (by
  rw [List.getElem?_append_left (by simpa using hil),List.getElem?_map,List.getElem?_map,hi]
  rfl)
 have h8:(⟨w.heap.size,0,none⟩:Addr).add i = ⟨w.heap.size,0 + i,none⟩:=by
  cases i <;> simp [Addr.add]
 rw [h8] at h
 exact h
theorem split_len (s:List UInt8):Lib.split s [32] = Lib.splitK [32] 0 (Lib.countB (strB s) ⟨#[32]⟩) s:=rfl
def SpPost (w:World) (l:List (List UInt8)) (e:Ending) (w':World):Prop:=
 ∃ c,e = .returned (.slice (some ⟨w.heap.size,0,none⟩) l.length c) ∧ l.length ≤ c ∧ Below w.heap.size w w' ∧ Strs w' w.heap.size 0 l
theorem split_c {w:World} (hv:Vars w) {s:List UInt8} (hs:s.length ≤ 1000000):Calls Tryz.prog 36 #[.string (strB s), .string ⟨#[32]⟩] w (SpPost w (Lib.split s [32])):=by
 obtain ⟨m,hm⟩:=hv.2.2.2
 refine (Tryz.strings_Split (strB s) ⟨#[32]⟩ m w (by rw [strB_size];omega) hm (by decide)).mono ?_
 rintro e w' ⟨rfl,rfl⟩
 have hl:=Lib.splitB_all ⟨#[32]⟩ (by decide) 0 _ (strB s) rfl
 rw [splitB_strs,List.length_map, ← split_len] at hl
 rw [splitB_strs, ← split_len, ← hl]
 have h:=Strs.new w (Lib.split s [32]) [] 9
 rw [List.append_nil] at h
 exact ⟨_,rfl,Nat.le_refl _,below_a1 _ _,h⟩
theorem splitN_c {w:World} (hv:Vars w) {s:List UInt8} (hs:s.length ≤ 1000000) (h3:3 ≤ s.length):Calls Tryz.prog 37 #[.string (strB s), .string ⟨#[32]⟩, .int .i64 4] w (SpPost w (Lib.splitK [32] 0 3 s)):=by
 obtain ⟨m,hm⟩:=hv.2.2.2
 refine (Tryz.strings_SplitN (strB s) ⟨#[32]⟩ 4 m w (by rw [strB_size];omega) hm (by decide) (by decide) (by decide)).mono ?_
 rintro e w' ⟨rfl,rfl⟩
 have hk:min 4 ((strB s).size + 1) = 4:=by rw [strB_size];omega
 rw [hk,splitB_strs,List.length_map]
 refine ⟨4,rfl, ?_,below_a1 _ _, ?_⟩
 ·have:=Lib.splitB_length_le ⟨#[32]⟩ 0 3 (strB s)
  rw [splitB_strs,List.length_map] at this
  exact this
 ·unfold Lib.cellsOf
  exact Strs.new w _ _ _
theorem exec_same {X:Wd} {c:Cmd} (h:(execB X c).1 ≠ 0):(execB X c).2.2 = X:=by
 cases c <;> unfold execB at h ⊢ <;> dsimp only at h ⊢ <;> (try split) <;> (try split at h) <;> first | rfl | exact absurd rfl h | skip
 all_goals first | rfl | (rename_i h1 h2;exact absurd h1 h2) | (rename_i h1 h2;exact absurd h2 h1)
theorem word_call {s:List UInt8} (h:isWord s = true) (args:Array Value) (w:World):(callFunc (wordF s) args).run Tryz.prog w = .ok (.enter (wordF s) args) w:=by
 rcases isWord_iff.1 h with rfl | rfl | rfl | rfl | rfl | rfl
 ·exact (rfl:(callFunc 55 args).run Tryz.prog w = _)
 ·exact (rfl:(callFunc 56 args).run Tryz.prog w = _)
 ·exact (rfl:(callFunc 57 args).run Tryz.prog w = _)
 ·exact (rfl:(callFunc 58 args).run Tryz.prog w = _)
 ·exact (rfl:(callFunc 59 args).run Tryz.prog w = _)
 ·exact (rfl:(callFunc 60 args).run Tryz.prog w = _)
theorem line_q {P:Program} {R:Ending → World → Prop} {u:FrameMode} {w:World} {a:Act} {d:Nat} {v:Value} (hd:5 ≤ d) (h:Leaves P Tryz.f13 (a.put (some d) v).tmps R (a.put (some d) v).defers u w):Leaves P Tryz.f13 a.tmps R a.defers u w:=by
 refine Leaves.congr ?_ h
 have e:∀ k,k < 5 → (a.tmps.setIfInBounds d v)[k]?.getD undef = a.tmps[k]?.getD undef:=fun k hk=>by
  rw [Array.getElem?_setIfInBounds_ne (by omega)]
 simp only [results,Tryz.f13,Act.put]
 simp [e 4 (by omega)]
set_option maxHeartbeats 2000000 in
theorem line_c {w:World} {T:Nat} {X:Wd} {s:List UInt8} (hv:Vars w) (hT8:8 ≤ T) (hT:TabAt w T X) (hRX:Right X) (hs:s.length ≤ 1000000) :
  Calls Tryz.prog 13 #[.pointer (some ⟨T,0,none⟩), .string (strB s)] w (DLPost w T (lineX X s)):=by
 have hmf:∀ (fn:Fn) (first cap:Array Value) (w:World),(Instr.makeFunc fn first cap).run Tryz.prog w = .ok (.func fn first cap) w:=fun _ _ _ _=>rfl
 obtain ⟨R,hRs⟩:∃ R,w.heap.size = R:=⟨_,rfl⟩
 obtain ⟨w1,hw1⟩:∃ w1,w1 = w.alloc (.cells #[.string ⟨#[]⟩] 9):=⟨_,rfl⟩
 have b1:Below w.heap.size w w1:=hw1 ▸ below_a1 w _
 have hR1:BlkIs w1 R 9 1:=by
  refine ⟨#[.string ⟨#[]⟩], ?_,rfl⟩
  rw [hw1, ← hRs]
  exact heap_alloc_new w _
 have hR10:w1.cell? ⟨R,0,none⟩ = some (.string ⟨#[]⟩):=by rw [hw1, ← hRs];simp
 obtain ⟨m,hm⟩:=(hv.next b1).2.2.2
 have hCut:Calls Tryz.prog 33 #[.string (strB s), .string ⟨#[32]⟩] w1 fun e w'=>e = .returned (.tuple #[.string (strB (wordB s).1), .string (strB (wordB s).2.1), .bool (wordB s).2.2]) ∧ ∃ n,w' = w1.drewN n:=by
  rw [wordB_cut]
  exact Tryz.strings_Cut (strB s) ⟨#[32]⟩ m w1 (by rw [strB_size];omega) hm
 have hwl:(wordB s).1.length ≤ 1000000:=by
  cases h2:(wordB s).2.2 with
  | false=>rw [wordB_end h2];exact hs
  | true=>have:=word_len h2;omega
 obtain ⟨P,hP⟩:∃ P,DLPost w T (lineX X s) = P:=⟨_,rfl⟩
 rw [hP]
 replace hP:=Lib.hid hP
 replace hw1:=Lib.hid hw1
 have hTl:=hT.lt
 replace hT:=Lib.hid hT
 replace hRs':=Lib.hid hRs
 go_enter_defers Tryz.func13,Tryz.ntmps13
 go_upto_region 1 with fail
 rw [← hw1.out]
 clear hRs hw1 hm
 go_wp2_with fail
 refine hCut.mono ?_
 clear hCut
 rintro e w2 ⟨rfl,k2,rfl⟩
 have b2:=below_drewN w1 k2
 have hR2:=hR1.same (b2.block _ hR1.lt)
 have hR20:=(b2.cell (p:=⟨R,0,none⟩) hR1.lt).trans hR10
 have b2:=below_trans b1 b2
 generalize w1.drewN k2 = w2 at *
 clear hR1 hR10 b1
 have hWd:=words_c w2 T
 cases hiw:isWord (wordB s).1 with
 | false =>
  have hWn:=wordV_no T hiw
  have hlx:=lineX_bad (X:=X) (parse_bad hiw)
  replace hlx:=Lib.hid hlx
  go_wp2_with fail
  refine hWd.mono ?_
  clear hWd
  rintro e w3 ⟨rfl,hM,b3⟩
  have hL:=hM.look (wordB s).1 hwl
  rw [hWn,hiw] at hL
  unfold noEntry at hL
  clear hM
  have b4:=below_a1 w3 (.cells #[.int .i64 0, .nilFunc] 75)
  have b24:=below_trans b3 b4
  have hR4:=hR2.same (b24.block _ hR2.lt)
  have hR40:=(b24.cell (p:=⟨R,0,none⟩) hR2.lt).trans hR20
  have bw:=below_trans b2 b24
  go_upto_region 4 with fail
  generalize w3.alloc (.cells #[.int .i64 0, .nilFunc] 75) = w4 at *
  clear b3 b4 b24 hL
  go_wp2_with fail
  refine (dmust_f _ 1).mono ?_
  rintro e w5 ⟨rfl,rfl⟩
  go_wp2_with fail
  refine leaves_cons (f:=catchF) (args:=#[.pointer (some ⟨R,0,none⟩)]) (by simp) (by simp [go_sem]) ?_
  refine (catchl_p ⟨R,0,none⟩ _ _ er1 [] _ (hv.next bw) hR40 (BlkIs.frozen hR4 0) (BlkIs.lt hR4)).mono ?_
  rintro e u' w'' ⟨rfl,rfl,wz,bz,rfl⟩
  have hRz:=BlkIs.same hR4 (bz.block _ (BlkIs.lt hR4))
  have hc9:=hRz.cell_set (a:=0) (u:=.string (strB (errB 1))) (by omega)
  simp only [Leaves,settle,List.dropWhile]
  refine ⟨.string (strB (errB 1)), ?_, ?_⟩
  ·simp [results,Tryz.f13]
   go_simp
  ·rw [← hP.out,hlx.out]
   exact DLPost.of hRz (Nat.le_of_eq hRs'.out) (Save.of bw) bz (hT.out.below bw) rfl
 | true =>
  have hWn:=wordV_eq T hiw
  have hpl:=parse_len (s:=s) hiw
  have hEx:=fun (o':World) (q:Nat) (v:Value) (h1:Vars o') (h2:TabAt o' T X) (h3:wordN (wordB s).1 ≠ 0 → ∃ c,v = .slice (some ⟨q,1,none⟩) (wordN (wordB s).1) c) (h4:(piecesB s).length = wordN (wordB s).1 + 1) (h5:Strs o' q 0 (piecesB s))=>exec_c h3 h1 hT8 h2 hRX hs hiw h4 h5
  have hcl:=word_call hiw
  have hn3:wordN (wordB s).1 ≤ 3:=by
   unfold wordN
   repeat' split
   all_goals decide
  have hpe:(wordB s).1 = kSend → piecesB s = Lib.splitK [32] 0 3 s:=fun e=>if_pos e
  have hpo:(wordB s).1 ≠ kSend → piecesB s = Lib.split s [32]:=fun e=>if_neg e
  have hs3:(wordB s).1 = kSend → 3 ≤ s.length:=fun e=>by
   have h4:(wordB s).1.length = 4:=by rw [e];rfl
   cases h2:(wordB s).2.2 with
   | false=>have:=wordB_end h2;rw [← this];omega
   | true=>have:=word_len h2;omega
  obtain ⟨nw,hnw⟩:∃ k,wordN (wordB s).1 = k:=⟨_,rfl⟩
  obtain ⟨f,hf⟩:∃ k,wordF (wordB s).1 = k:=⟨_,rfl⟩
  rw [hnw] at hn3 hpl
  rw [hf] at hcl
  simp only [hnw,hf] at hEx
  replace hEx:=Lib.hid hEx
  replace hpl:=Lib.hid hpl
  replace hpe:=Lib.hid hpe
  replace hpo:=Lib.hid hpo
  replace hs3:=Lib.hid hs3
  go_wp2_with fail
  refine hWd.mono ?_
  clear hWd
  rintro e w3 ⟨rfl,hM,b3⟩
  have hL:=hM.look (wordB s).1 hwl
  rw [hWn,hiw] at hL
  unfold entryV at hL
  rw [hnw,hf] at hL
  clear hM hWn hnw hf
  have b4:=below_a1 w3 (.cells #[.int .i64 nw, .func (.func f) #[.pointer (some ⟨T,0,none⟩)] #[]] 75)
  have b24:=below_trans b3 b4
  have hR4:=hR2.same (b24.block _ hR2.lt)
  have hR40:=(b24.cell (p:=⟨R,0,none⟩) hR2.lt).trans hR20
  have bw:=below_trans b2 b24
  have hE0:(w3.alloc (.cells #[.int .i64 nw, .func (.func f) #[.pointer (some ⟨T,0,none⟩)] #[]] 75)).cell? ⟨w3.heap.size,0,none⟩ = some (.int .i64 nw):=cells_new w3 #[.int .i64 nw, .func (.func f) #[.pointer (some ⟨T,0,none⟩)] #[]] 75 0 _ rfl
  have hE1:(w3.alloc (.cells #[.int .i64 nw, .func (.func f) #[.pointer (some ⟨T,0,none⟩)] #[]] 75)).cell? ⟨w3.heap.size,1,none⟩ = some (.func (.func f) #[.pointer (some ⟨T,0,none⟩)] #[]):=cells_new w3 #[.int .i64 nw, .func (.func f) #[.pointer (some ⟨T,0,none⟩)] #[]] 75 1 _ rfl
  go_upto_region 4 with fail
  generalize w3.alloc (.cells #[.int .i64 nw, .func (.func f) #[.pointer (some ⟨T,0,none⟩)] #[]] 75) = w4 at *
  generalize w3.heap.size = E at *
  clear b3 b4 b24 hL hR2 hR20 b2
  have hSp:=split_c (hv.next bw) hs
  go_wp2_with fail
  refine (dmust_t _ 1).mono ?_
  rintro e w5 ⟨rfl,h5⟩
  rw [h5]
  clear h5 w5
  go_wp2_with fail
  refine hSp.mono ?_
  clear hSp
  rintro e w5 ⟨c,rfl,hlc,b5,hSt⟩
  obtain ⟨q,hq⟩:∃ q,w4.heap.size = q:=⟨_,rfl⟩
  rw [hq] at hSt
  have bw5:=below_trans bw b5
  have hE05:=(b5.cell (p:=⟨E,0,none⟩) (cell_lt hE0)).trans hE0
  have hE15:=(b5.cell (p:=⟨E,1,none⟩) (cell_lt hE1)).trans hE1
  have hR5:=hR4.same (b5.block _ hR4.lt)
  have hR50:=(b5.cell (p:=⟨R,0,none⟩) hR4.lt).trans hR40
  by_cases hks:(wordB s).1 = kSend
  ·have hqs:((strB (wordB s).1).toList == [115,101,110,100]) = true:=by
    rw [strB_toL,hks]
    rfl
   have hSn:=splitN_c (hv.next bw5) hs (hs3.out hks)
   have hp:=hpe.out hks
   rw [← hp] at hSn
   clear hp hpo hpe hs3 b5 bw hR4 hR40 hE0 hE1 hSt hlc
   replace hks:=Lib.hid hks
   replace hq:=Lib.hid hq
   go_wp2_with fail
   refine hSn.mono ?_
   clear hSn hq q
   rintro e w6 ⟨c,rfl,hlc,b6,hSt⟩
   obtain ⟨q,hq⟩:∃ q,w5.heap.size = q:=⟨_,rfl⟩
   rw [hq] at hSt
   have bw6:=below_trans bw5 b6
   have hE06:=(b6.cell (p:=⟨E,0,none⟩) (cell_lt hE05)).trans hE05
   have hE16:=(b6.cell (p:=⟨E,1,none⟩) (cell_lt hE15)).trans hE15
   have hR6:=hR5.same (b6.block _ hR5.lt)
   have hR60:=(b6.cell (p:=⟨R,0,none⟩) hR5.lt).trans hR50
   clear b6 hE05 hE15 hR5 hR50 bw5
   go_upto_region 8 with fail
   by_cases hlen:(piecesB s).length = nw + 1
   ·have hwr:IntKind.i64.wrap ((nw:Int) + 1) = (nw:Int) + 1:=IntWalk.i64_in _ (by omega)
    rw [hlen] at hlc ⊢
    have hqn:(((nw + 1:Nat):Int) == (nw:Int) + 1) = true:=by simp
    go_wp2_with fail
    refine (dmust_t _ 1).mono ?_
    rintro e w7 ⟨rfl,h7⟩
    rw [h7]
    clear h7 w7
    have h1n:(1:Int) ≤ (nw:Int) + 1:=by omega
    obtain ⟨tl,htl⟩:∃ tl,(if c = 1 then (some ⟨q,0,none⟩:Option Addr) else some ⟨q,1,none⟩) = tl:=⟨_,rfl⟩
    have htl1:nw ≠ 0 → ∃ d,Value.slice tl nw (c - 1) = .slice (some ⟨q,1,none⟩) nw d:=fun h=>⟨c - 1,by rw [← htl,if_neg (by omega)]⟩
    have bd:=below_drewN w6 1
    have hv5:=hv.next (below_trans bw6 bd)
    have hx:=hEx.out _ q (.slice tl nw (c - 1)) hv5 (hT.out.below (below_trans bw6 bd)) htl1 hlen (hSt.below bd)
    have hR5:=BlkIs.same hR6 (bd.block _ (BlkIs.lt hR6))
    have hR50:=(bd.cell (p:=⟨R,0,none⟩) (BlkIs.lt hR6)).trans hR60
    have hok:=fun x h=>lineX_ok (X:=X) (s:=s) (x:=x) h
    have herr:=fun x h=>lineX_err (X:=X) (s:=s) (x:=x) h
    have her:=exec_er hRX (parseB s)
    have hsm:=fun h=>exec_same (X:=X) (c:=parseB s) h
    have hok:=fun h=>lineX_ok (X:=X) (s:=s) rfl h
    have herr:=fun h=>lineX_err (X:=X) (s:=s) rfl h
    obtain ⟨x,hxe⟩:∃ x,execB X (parseB s) = x:=⟨_,rfl⟩
    rw [hxe] at hx her hok herr hsm
    have hTR:R ≠ T:=by have:=hRs'.out;omega
    replace hok:=Lib.hid hok
    replace herr:=Lib.hid herr
    replace hsm:=Lib.hid hsm
    clear hxe htl1
    go_upto_region 9 with fail
    refine wp_region_N (fun o'=>o'.cell? ⟨E,1,none⟩ = some (.func (.func f) #[.pointer (some ⟨T,0,none⟩)] #[]) ∧ True) 4 6 rfl (by kernel_rfl) ⟨((below_drewN w6 1).cell (p:=⟨E,1,none⟩) (cell_lt hE16)).trans hE16,trivial⟩ (fun hSw=>?_)
    refine tk 0 ?_ rfl rfl (by kernel_rfl) (.inl ⟨by rfl, ?_⟩) hSw ?_ (hQ:=fun _ _ _ h=>line_q (by omega) h)
    rotate_left
    ·rintro w ⟨s0,_⟩;go_simp;try with_reducible rfl
    simp only [tkp,tkz,tks]
    refine tk 1 ?_ rfl rfl (by kernel_rfl) (.inl ⟨by rfl, ?_⟩) hSw ?_ (hQ:=fun _ _ _ h=>line_q (by omega) h)
    rotate_left
    ·rintro w ⟨s0,_⟩;go_simp;try with_reducible rfl
    simp only [tkp,tkz,tks]
    refine tk 2 ?_ rfl rfl (by kernel_rfl) (.inl ⟨by rfl, ?_⟩) hSw ?_ (hQ:=fun _ _ _ h=>line_q (by omega) h)
    rotate_left
    ·rintro w ⟨s0,_⟩;go_simp;try with_reducible rfl
    simp only [tkp,tkz,tks]
    refine tk 3 ?_ rfl rfl (by kernel_rfl) (.inl ⟨by rfl, ?_⟩) hSw ?_ (hQ:=fun _ _ _ h=>line_q (by omega) h)
    rotate_left
    ·rintro w ⟨s0,_⟩;go_simp;try with_reducible rfl
    simp only [tkp,tkz,tks]
    refine N_one' (i:=4) (by kernel_rfl) rfl ?_
    clear hSw htl h1n
    go_wp2_with fail
    refine hx.mono ?_
    clear hx
    rintro e w7 ⟨s7,hT7,⟨hx0,rfl⟩ | ⟨hx0,rfl⟩⟩
    ·have hR7:=BlkIs.same hR5 (s7.block _ hR5.lt hTR)
     have hR70:=s7.cell hR50 hTR
     have hfr:=hR7.frozen 0
     replace hx0:=Lib.hid hx0
     have hRz:=hR7
     go_wp2_with fail
     refine QK_normal ⟨fun h=>absurd h (by decide), ?_⟩
     refine N_rest 5 1 (by decide) rfl (by kernel_rfl) ?_
     simp only [List.drop_succ_cons,List.drop_zero]
     have hR8:BlkIs (w7.setCell ⟨R,0,none⟩ (.string (strB x.2.1))) R 9 1:=hR7.setCell
     have hc9:=hR7.cell_set (a:=0) (u:=.string (strB x.2.1)) (by omega)
     go_wp2_with fail
     refine leaves_cons (f:=catchF) (args:=#[.pointer (some ⟨R,0,none⟩)]) (by simp) (by simp [go_sem]) ?_
     refine (catchl_i _ _).mono ?_
     rintro e u' w'' ⟨rfl,rfl,rfl⟩
     have hc10:=(World.cell?_of_block (w:=w7.setCell ⟨R,0,none⟩ (.string (strB x.2.1))) (a:=⟨R,0,none⟩) (Go.Deep.blk_alloc_lt _ (.cells #[.int .i64 0] 69) _ hR8.lt)).trans hc9
     simp only [Leaves,settle]
     refine ⟨.string (strB x.2.1), ?_, ?_⟩
     ·simp [results,Tryz.f13]
      go_simp
     ·rw [← hP.out,hok.out hx0.out]
      have s1:=(Save.of (T:=T) (below_trans bw6 bd)).trans s7 (fun _ h _=>h)
      exact ⟨rfl,(s1.then (below_setCell (Below.refl _ _) (Nat.le_of_eq hRs'.out) _)).then ((below_a1 _ _).mono (by rw [Go.Deep.nblk_setCell];exact s1.size)),(hT7.ans hR7).below (below_a1 _ _)⟩
    ·have hR7:=BlkIs.same hR5 (s7.block _ hR5.lt hTR)
     have hR70:=s7.cell hR50 hTR
     have hv7:=hv5.save s7 (fun b hb=>by omega)
     have hx0':=Lib.hid hx0
     clear hx0
     go_wp2_with fail
     refine leaves_cons (f:=catchF) (args:=#[.pointer (some ⟨R,0,none⟩)]) (by simp) (by simp [go_sem]) ?_
     refine (catchl_p ⟨R,0,none⟩ _ _ her [] _ hv7 hR70 (BlkIs.frozen hR7 0) (BlkIs.lt hR7)).mono ?_
     rintro e u' w'' ⟨rfl,rfl,wz,bz,rfl⟩
     have hRz:=BlkIs.same hR7 (bz.block _ (BlkIs.lt hR7))
     have hc9:=hRz.cell_set (a:=0) (u:=.string (strB (errB x.1))) (by omega)
     simp only [Leaves,settle,List.dropWhile]
     refine ⟨.string (strB (errB x.1)), ?_, ?_⟩
     ·simp [results,Tryz.f13]
      go_simp
     ·rw [← hP.out,herr.out hx0'.out]
      exact DLPost.of hRz (Nat.le_of_eq hRs'.out) ((Save.of (T:=T) (below_trans bw6 bd)).trans s7 (fun _ h _=>h)) bz (by rw [hsm.out hx0'.out] at hT7;exact hT7) rfl
   ·have hlx:=lineX_bad (X:=X) (hpl.out hlen)
    have hwr:IntKind.i64.wrap ((nw:Int) + 1) = (nw:Int) + 1:=IntWalk.i64_in _ (by omega)
    have hqn:(((piecesB s).length:Int) == (nw:Int) + 1) = false:=by
     refine beq_eq_false_iff_ne.2 fun e=>hlen ?_
     omega
    replace hlx:=Lib.hid hlx
    replace hlen:=Lib.hid hlen
    go_wp2_with fail
    refine (dmust_f _ 1).mono ?_
    rintro e w7 ⟨rfl,h7⟩
    rw [h7]
    clear h7 w7
    go_wp2_with fail
    refine leaves_cons (f:=catchF) (args:=#[.pointer (some ⟨R,0,none⟩)]) (by simp) (by simp [go_sem]) ?_
    refine (catchl_p ⟨R,0,none⟩ _ _ er1 [] _ (hv.next bw6) hR60 (BlkIs.frozen hR6 0) (BlkIs.lt hR6)).mono ?_
    rintro e u' w'' ⟨rfl,rfl,wz,bz,rfl⟩
    have hRz:=BlkIs.same hR6 (bz.block _ (BlkIs.lt hR6))
    have hc9:=hRz.cell_set (a:=0) (u:=.string (strB (errB 1))) (by omega)
    simp only [Leaves,settle,List.dropWhile]
    refine ⟨.string (strB (errB 1)), ?_, ?_⟩
    ·simp [results,Tryz.f13]
     go_simp
    ·rw [← hP.out,hlx.out]
     exact DLPost.of hRz (Nat.le_of_eq hRs'.out) (Save.of bw6) bz (hT.out.below bw6) rfl
  ·have hqs:((strB (wordB s).1).toList == [115,101,110,100]) = false:=by
    rw [strB_toL]
    exact beq_eq_false_iff_ne.2 hks
   have hp:=hpo.out hks
   rw [← hp] at hSt hlc
   simp only [← hp]
   clear hp hpo hpe hs3 b5 bw hR4 hR40 hE0 hE1
   replace hks:=Lib.hid hks
   go_upto_region 8 with fail
   by_cases hlen:(piecesB s).length = nw + 1
   ·have hwr:IntKind.i64.wrap ((nw:Int) + 1) = (nw:Int) + 1:=IntWalk.i64_in _ (by omega)
    rw [hlen] at hlc ⊢
    have hqn:(((nw + 1:Nat):Int) == (nw:Int) + 1) = true:=by simp
    go_wp2_with fail
    refine (dmust_t _ 1).mono ?_
    rintro e w7 ⟨rfl,h7⟩
    rw [h7]
    clear h7 w7
    have h1n:(1:Int) ≤ (nw:Int) + 1:=by omega
    obtain ⟨tl,htl⟩:∃ tl,(if c = 1 then (some ⟨q,0,none⟩:Option Addr) else some ⟨q,1,none⟩) = tl:=⟨_,rfl⟩
    have htl1:nw ≠ 0 → ∃ d,Value.slice tl nw (c - 1) = .slice (some ⟨q,1,none⟩) nw d:=fun h=>⟨c - 1,by rw [← htl,if_neg (by omega)]⟩
    have bd:=below_drewN w5 1
    have hv5:=hv.next (below_trans bw5 bd)
    have hx:=hEx.out _ q (.slice tl nw (c - 1)) hv5 (hT.out.below (below_trans bw5 bd)) htl1 hlen (hSt.below bd)
    have hR5:=BlkIs.same hR5 (bd.block _ (BlkIs.lt hR5))
    have hR50:=(bd.cell (p:=⟨R,0,none⟩) (BlkIs.lt hR5)).trans hR50
    have hok:=fun x h=>lineX_ok (X:=X) (s:=s) (x:=x) h
    have herr:=fun x h=>lineX_err (X:=X) (s:=s) (x:=x) h
    have her:=exec_er hRX (parseB s)
    have hsm:=fun h=>exec_same (X:=X) (c:=parseB s) h
    have hok:=fun h=>lineX_ok (X:=X) (s:=s) rfl h
    have herr:=fun h=>lineX_err (X:=X) (s:=s) rfl h
    obtain ⟨x,hxe⟩:∃ x,execB X (parseB s) = x:=⟨_,rfl⟩
    rw [hxe] at hx her hok herr hsm
    have hTR:R ≠ T:=by have:=hRs'.out;omega
    replace hok:=Lib.hid hok
    replace herr:=Lib.hid herr
    replace hsm:=Lib.hid hsm
    clear hxe htl1
    go_upto_region 9 with fail
    refine wp_region_N (fun o'=>o'.cell? ⟨E,1,none⟩ = some (.func (.func f) #[.pointer (some ⟨T,0,none⟩)] #[]) ∧ True) 4 6 rfl (by kernel_rfl) ⟨((below_drewN w5 1).cell (p:=⟨E,1,none⟩) (cell_lt hE15)).trans hE15,trivial⟩ (fun hSw=>?_)
    refine tk 0 ?_ rfl rfl (by kernel_rfl) (.inl ⟨by rfl, ?_⟩) hSw ?_ (hQ:=fun _ _ _ h=>line_q (by omega) h)
    rotate_left
    ·rintro w ⟨s0,_⟩;go_simp;try with_reducible rfl
    simp only [tkp,tkz,tks]
    refine tk 1 ?_ rfl rfl (by kernel_rfl) (.inl ⟨by rfl, ?_⟩) hSw ?_ (hQ:=fun _ _ _ h=>line_q (by omega) h)
    rotate_left
    ·rintro w ⟨s0,_⟩;go_simp;try with_reducible rfl
    simp only [tkp,tkz,tks]
    refine tk 2 ?_ rfl rfl (by kernel_rfl) (.inl ⟨by rfl, ?_⟩) hSw ?_ (hQ:=fun _ _ _ h=>line_q (by omega) h)
    rotate_left
    ·rintro w ⟨s0,_⟩;go_simp;try with_reducible rfl
    simp only [tkp,tkz,tks]
    refine tk 3 ?_ rfl rfl (by kernel_rfl) (.inl ⟨by rfl, ?_⟩) hSw ?_ (hQ:=fun _ _ _ h=>line_q (by omega) h)
    rotate_left
    ·rintro w ⟨s0,_⟩;go_simp;try with_reducible rfl
    simp only [tkp,tkz,tks]
    refine N_one' (i:=4) (by kernel_rfl) rfl ?_
    clear hSw htl h1n
    go_wp2_with fail
    refine hx.mono ?_
    clear hx
    rintro e w7 ⟨s7,hT7,⟨hx0,rfl⟩ | ⟨hx0,rfl⟩⟩
    ·have hR7:=BlkIs.same hR5 (s7.block _ hR5.lt hTR)
     have hR70:=s7.cell hR50 hTR
     have hfr:=hR7.frozen 0
     replace hx0:=Lib.hid hx0
     have hRz:=hR7
     go_wp2_with fail
     refine QK_normal ⟨fun h=>absurd h (by decide), ?_⟩
     refine N_rest 5 1 (by decide) rfl (by kernel_rfl) ?_
     simp only [List.drop_succ_cons,List.drop_zero]
     have hR8:BlkIs (w7.setCell ⟨R,0,none⟩ (.string (strB x.2.1))) R 9 1:=hR7.setCell
     have hc9:=hR7.cell_set (a:=0) (u:=.string (strB x.2.1)) (by omega)
     go_wp2_with fail
     refine leaves_cons (f:=catchF) (args:=#[.pointer (some ⟨R,0,none⟩)]) (by simp) (by simp [go_sem]) ?_
     refine (catchl_i _ _).mono ?_
     rintro e u' w'' ⟨rfl,rfl,rfl⟩
     have hc10:=(World.cell?_of_block (w:=w7.setCell ⟨R,0,none⟩ (.string (strB x.2.1))) (a:=⟨R,0,none⟩) (Go.Deep.blk_alloc_lt _ (.cells #[.int .i64 0] 69) _ hR8.lt)).trans hc9
     simp only [Leaves,settle]
     refine ⟨.string (strB x.2.1), ?_, ?_⟩
     ·simp [results,Tryz.f13]
      go_simp
     ·rw [← hP.out,hok.out hx0.out]
      have s1:=(Save.of (T:=T) (below_trans bw5 bd)).trans s7 (fun _ h _=>h)
      exact ⟨rfl,(s1.then (below_setCell (Below.refl _ _) (Nat.le_of_eq hRs'.out) _)).then ((below_a1 _ _).mono (by rw [Go.Deep.nblk_setCell];exact s1.size)),(hT7.ans hR7).below (below_a1 _ _)⟩
    ·have hR7:=BlkIs.same hR5 (s7.block _ hR5.lt hTR)
     have hR70:=s7.cell hR50 hTR
     have hv7:=hv5.save s7 (fun b hb=>by omega)
     have hx0':=Lib.hid hx0
     clear hx0
     go_wp2_with fail
     refine leaves_cons (f:=catchF) (args:=#[.pointer (some ⟨R,0,none⟩)]) (by simp) (by simp [go_sem]) ?_
     refine (catchl_p ⟨R,0,none⟩ _ _ her [] _ hv7 hR70 (BlkIs.frozen hR7 0) (BlkIs.lt hR7)).mono ?_
     rintro e u' w'' ⟨rfl,rfl,wz,bz,rfl⟩
     have hRz:=BlkIs.same hR7 (bz.block _ (BlkIs.lt hR7))
     have hc9:=hRz.cell_set (a:=0) (u:=.string (strB (errB x.1))) (by omega)
     simp only [Leaves,settle,List.dropWhile]
     refine ⟨.string (strB (errB x.1)), ?_, ?_⟩
     ·simp [results,Tryz.f13]
      go_simp
     ·rw [← hP.out,herr.out hx0'.out]
      exact DLPost.of hRz (Nat.le_of_eq hRs'.out) ((Save.of (T:=T) (below_trans bw5 bd)).trans s7 (fun _ h _=>h)) bz (by rw [hsm.out hx0'.out] at hT7;exact hT7) rfl
   ·have hlx:=lineX_bad (X:=X) (hpl.out hlen)
    have hwr:IntKind.i64.wrap ((nw:Int) + 1) = (nw:Int) + 1:=IntWalk.i64_in _ (by omega)
    have hqn:(((piecesB s).length:Int) == (nw:Int) + 1) = false:=by
     refine beq_eq_false_iff_ne.2 fun e=>hlen ?_
     omega
    replace hlx:=Lib.hid hlx
    replace hlen:=Lib.hid hlen
    go_wp2_with fail
    refine (dmust_f _ 1).mono ?_
    rintro e w7 ⟨rfl,h7⟩
    rw [h7]
    clear h7 w7
    go_wp2_with fail
    refine leaves_cons (f:=catchF) (args:=#[.pointer (some ⟨R,0,none⟩)]) (by simp) (by simp [go_sem]) ?_
    refine (catchl_p ⟨R,0,none⟩ _ _ er1 [] _ (hv.next bw5) hR50 (BlkIs.frozen hR5 0) (BlkIs.lt hR5)).mono ?_
    rintro e u' w'' ⟨rfl,rfl,wz,bz,rfl⟩
    have hRz:=BlkIs.same hR5 (bz.block _ (BlkIs.lt hR5))
    have hc9:=hRz.cell_set (a:=0) (u:=.string (strB (errB 1))) (by omega)
    simp only [Leaves,settle,List.dropWhile]
    refine ⟨.string (strB (errB 1)), ?_, ?_⟩
    ·simp [results,Tryz.f13]
     go_simp
    ·rw [← hP.out,hlx.out]
     exact DLPost.of hRz (Nat.le_of_eq hRs'.out) (Save.of bw5) bz (hT.out.below bw5) rfl
end Go.Proofs.YtnalakhelicjcaaGreatDoor
