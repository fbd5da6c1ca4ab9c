/-
  The words of lines: a map of closures, and what is looked up in it.
-/
import Derived.Test.YtnalakhelicjcaaGreatDoorZGA
import Derived.Maps.OwnSet
import Derived.Test.YtnalakhelicjcaaGreatDoorZGH
import Derived.Test.YtnalakhelicjcaaGreatDoorZGB
import Derived.Recover
import Derived.Defers
set_option maxRecDepth 100000
namespace Go.Proofs.YtnalakhelicjcaaGreatDoor
open Go.RowKit Go.Shelf Go.BigFrame Go.Maps
def heldR (v:Value):Option (DataW Value × List MemPlace):=some (.held v,[])
theorem strKeyed:Keyed Tryz.prog 9:=string_keyed Tryz.underlying9
def entryV (T:Nat) (n:Int) (f:Nat):Value:=.agg #[.int .i64 n, .func (.func f) #[.pointer (some ⟨T,0,none⟩)] #[]]
def noEntry:Value:=.agg #[.int .i64 0, .nilFunc]
def wordV (T:Nat) (s:List UInt8):Value:=
 if s = kSend then entryV T 3 55 else if s = kNull then entryV T 2 56 else if s = kMove then entryV T 2 57
 else if s = kTold then entryV T 1 58 else if s = kHeld then entryV T 1 59 else if s = kCalm then entryV T 0 60 else noEntry
def isWord (s:List UInt8):Bool:=decide (s = kSend ∨ s = kNull ∨ s = kMove ∨ s = kTold ∨ s = kHeld ∨ s = kCalm)
def wordsD (T:Nat):DataW Value:=((((((DataW.map []).put (.string kSend) (.held (entryV T 3 55))).put (.string kNull) (.held (entryV T 2 56))).put (.string kMove) (.held (entryV T 2 57))).put (.string kTold) (.held (entryV T 1 58))).put (.string kHeld) (.held (entryV T 1 59))).put (.string kCalm) (.held (entryV T 0 60))
theorem lit_ne {a b:List UInt8} (h:a ≠ b):(Lit.string a) ≠ Lit.string b:=fun e=>h (by injection e)
theorem look_put {D:DataW Value} (hD:IsMap D) (k s:List UInt8) (d z:DataW Value):has (D.put (.string k) d) (.string s) = (decide (s = k) || has D (.string s)) ∧ (D.put (.string k) d).atKey (.string s) z = if s = k then d else D.atKey (.string s) z:=by
 by_cases h:s = k
 ·subst h
  have hk:WideAt.IsKeyLit (.string s):=trivial
  rw [has_put_same hD hk,atKey_put_same hD hk]
  simp
 ·rw [has_put_other (lit_ne h),atKey_put_other (lit_ne h)]
  simp [h]
theorem words_look (T:Nat) (s:List UInt8):has (wordsD T) (.string s) = isWord s ∧ (wordsD T).atKey (.string s) (.held noEntry) = .held (wordV T s):=by
 unfold wordsD isWord wordV
 have m0:IsMap (DataW.map []:DataW Value):=isMap_empty
 have m1:=m0.put (.string kSend) (.held (entryV T 3 55))
 have m2:=m1.put (.string kNull) (.held (entryV T 2 56))
 have m3:=m2.put (.string kMove) (.held (entryV T 2 57))
 have m4:=m3.put (.string kTold) (.held (entryV T 1 58))
 have m5:=m4.put (.string kHeld) (.held (entryV T 1 59))
 have l0:has (DataW.map []:DataW Value) (.string s) = false:=rfl
 have a0:(DataW.map []:DataW Value).atKey (.string s) (.held noEntry) = .held noEntry:=rfl
 rw [(look_put m5 _ _ _ (.held noEntry)).1,(look_put m4 _ _ _ (.held noEntry)).1,(look_put m3 _ _ _ (.held noEntry)).1,(look_put m2 _ _ _ (.held noEntry)).1,(look_put m1 _ _ _ (.held noEntry)).1,(look_put m0 _ _ _ (.held noEntry)).1,l0]
 rw [(look_put m5 _ _ _ _).2,(look_put m4 _ _ _ _).2,(look_put m3 _ _ _ _).2,(look_put m2 _ _ _ _).2,(look_put m1 _ _ _ _).2,(look_put m0 _ _ _ _).2,a0]
 by_cases h1:s = kSend
 ·subst h1;exact ⟨by decide,by kernel_rfl⟩
 by_cases h2:s = kNull
 ·subst h2;exact ⟨by decide,by kernel_rfl⟩
 by_cases h3:s = kMove
 ·subst h3;exact ⟨by decide,by kernel_rfl⟩
 by_cases h4:s = kTold
 ·subst h4;exact ⟨by decide,by kernel_rfl⟩
 by_cases h5:s = kHeld
 ·subst h5;exact ⟨by decide,by kernel_rfl⟩
 by_cases h6:s = kCalm
 ·subst h6;exact ⟨by decide,by kernel_rfl⟩
 ·simp [h1,h2,h3,h4,h5,h6]
theorem zeroWord (w:World):(zeroValue 75).run Tryz.prog w = .ok noEntry w:=by kernel_rfl
def MapAt (w:World) (T b:Nat):Prop:=w.ownsMap Tryz.prog 9 heldR b 6 (wordsD T)
theorem MapAt.same {w w':World} {T b:Nat} (h:MapAt w T b) (k:w'.heap[b]? = w.heap[b]?):MapAt w' T b:=by
 obtain ⟨es,clock,h1,h2,h3,h4⟩:=h
 exact ⟨es,clock,k.trans h1,h2,h3,h4⟩
theorem MapAt.look {w:World} {T b:Nat} (h:MapAt w T b) (s:List UInt8) (hs:s.length ≤ 1000000):(Instr.lookup 77 (.map (some b)) (.string (strB s)) true).run Tryz.prog w = .ok (.tuple #[wordV T s, .bool (isWord s)]) w:=by
 have hz:=strB_size s
 have hkey:keyOf Tryz.prog 9 (.string (strB s)) = some (.string s):=Go.WideMaps.keyOf_string_mk Tryz.underlying9 (by unfold maxLen;omega)
 obtain ⟨v,ps,hr,hv⟩:=World.ownsMap.look_ok h strKeyed Tryz.underlying77 (zeroWord w) (zd:=.held noEntry) (zp:=[]) rfl hkey
 obtain ⟨h1,h2⟩:=words_look T s
 rw [h2] at hv
 have e:v = wordV T s:=by
  unfold heldR at hv
  have:=congrArg Prod.fst (Option.some.inj hv)
  injection this
 rw [hr,h1,e]
set_option maxHeartbeats 1000000 in
theorem words_c (w:World) (T:Nat):Calls Tryz.prog 34 #[.pointer (some ⟨T,0,none⟩)] w fun e w'=>e = .returned (.map (some w.heap.size)) ∧ MapAt w' T w.heap.size ∧ Below w.heap.size w w':=by
 have hmf:∀ (fn:Fn) (first cap:Array Value) (w:World),(Instr.makeFunc fn first cap).run Tryz.prog w = .ok (.func fn first cap) w:=fun _ _ _ _=>rfl
 have hmm:=@run_makeMap Tryz.prog
 have hk:∀ s:List UInt8,s.length ≤ 100 → keyOf Tryz.prog 9 (.string (strB s)) = some (.string s):=fun s h=>Go.WideMaps.keyOf_string_mk Tryz.underlying9 (by rw [strB_size];unfold maxLen;omega)
 have h0:=World.ownsMap_made w Tryz.prog 9 heldR
 obtain ⟨w1,r1,h1,t1⟩:=World.ownsMap.store h0 strKeyed Tryz.underlying77 (by decide) (hk kSend (by decide)) (val:=entryV T 3 55) rfl
 obtain ⟨w2,r2,h2,t2⟩:=World.ownsMap.store h1 strKeyed Tryz.underlying77 (by decide) (hk kNull (by decide)) (val:=entryV T 2 56) rfl
 obtain ⟨w3,r3,h3,t3⟩:=World.ownsMap.store h2 strKeyed Tryz.underlying77 (by decide) (hk kMove (by decide)) (val:=entryV T 2 57) rfl
 obtain ⟨w4,r4,h4,t4⟩:=World.ownsMap.store h3 strKeyed Tryz.underlying77 (by decide) (hk kTold (by decide)) (val:=entryV T 1 58) rfl
 obtain ⟨w5,r5,h5,t5⟩:=World.ownsMap.store h4 strKeyed Tryz.underlying77 (by decide) (hk kHeld (by decide)) (val:=entryV T 1 59) rfl
 obtain ⟨w6,r6,h6,t6⟩:=World.ownsMap.store h5 strKeyed Tryz.underlying77 (by decide) (hk kCalm (by decide)) (val:=entryV T 0 60) rfl
 have hb:Below w.heap.size w w6:=by
  have b0:=below_a1 w (.map #[] 0)
  have g:=(((((t1.trans t2).trans t3).trans t4).trans t5).trans t6).grown
  exact b0.grown g b0.size (fun k hk=>by cases hk;exact Nat.le_refl _)
 have hM:MapAt w6 T w.heap.size:=h6
 clear h0 h1 h2 h3 h4 h5 h6 t1 t2 t3 t4 t5 t6 hk
 unfold entryV strB kSend at r1
 unfold entryV strB kNull at r2
 unfold entryV strB kMove at r3
 unfold entryV strB kTold at r4
 unfold entryV strB kHeld at r5
 unfold entryV strB kCalm at r6
 replace hb:=Lib.hid hb
 replace hM:=Lib.hid hM
 go_enter Tryz.func34,Tryz.ntmps34
 go_wp2_with fail
 go_ret
 exact ⟨rfl,hM.out,hb.out⟩
end Go.Proofs.YtnalakhelicjcaaGreatDoor
set_option maxRecDepth 100000
namespace Go.Proofs.YtnalakhelicjcaaGreatDoor
open Go.RowKit Go.Shelf Go.BigFrame Go.Deep
def wordN (s:List UInt8):Nat:=if s = kSend then 3 else if s = kNull then 2 else if s = kMove then 2 else if s = kTold then 1 else if s = kHeld then 1 else 0
def wordF (s:List UInt8):Nat:=if s = kSend then 55 else if s = kNull then 56 else if s = kMove then 57 else if s = kTold then 58 else if s = kHeld then 59 else 60
theorem isWord_iff {s:List UInt8}:isWord s = true ↔ s = kSend ∨ s = kNull ∨ s = kMove ∨ s = kTold ∨ s = kHeld ∨ s = kCalm:=by simp [isWord]
theorem wordV_eq (T:Nat) {s:List UInt8} (h:isWord s = true):wordV T s = entryV T (wordN s:Nat) (wordF s):=by
 rcases isWord_iff.1 h with rfl | rfl | rfl | rfl | rfl | rfl <;> rfl
def piecesB (s:List UInt8):List (List UInt8):=if (wordB s).1 = kSend then Lib.splitK [32] 0 3 s else Lib.split s [32]
theorem parse_bad {s:List UInt8} (h:isWord (wordB s).1 = false):parseB s = .bad:=by
 have h1:¬ isWord (wordB s).1 = true:=by rw [h];decide
 rw [isWord_iff] at h1
 exact parse_none (fun e=>h1 (.inl e)) (fun e=>h1 (.inr (.inl e))) (fun e=>h1 (.inr (.inr (.inl e)))) (fun e=>h1 (.inr (.inr (.inr (.inl e))))) (fun e=>h1 (.inr (.inr (.inr (.inr (.inl e)))))) (fun e=>h1 (.inr (.inr (.inr (.inr (.inr e))))))
theorem word_len:∀ {s:List UInt8},(wordB s).2.2 = true → (wordB s).1.length + 1 + (wordB s).2.1.length = s.length
 | [],h=>by simp [wordB] at h
 | c :: s,h=>by
  by_cases hc:c = 32
  ·simp [wordB,hc]
   omega
  ·simp [wordB,hc] at h ⊢
   have:=word_len h
   omega
theorem pieces_word:∀ (n:Nat) (s:List UInt8),s.length ≤ n → ∀ a ∈ Lib.split s [32],a.length ≤ s.length
 | n,s,hn,a,ha=>by
  rw [split_word] at ha
  split at ha
  ·rename_i h
   have hl:=word_len h
   rcases List.mem_cons.1 ha with rfl | ha
   ·omega
   ·cases n with
    | zero=>omega
    | succ n =>
     have:=pieces_word n (wordB s).2.1 (by omega) a ha
     omega
  ·simp at ha
   rw [ha]
   exact Nat.le_refl _
theorem pieces_len {s a:List UInt8} (h:a ∈ piecesB s):a.length ≤ s.length:=by
 unfold piecesB at h
 split at h
 ·rw [split4] at h
  split at h
  ·rename_i h1
   have l1:=word_len h1
   rcases List.mem_cons.1 h with rfl | h
   ·omega
   split at h
   ·rename_i h2
    have l2:=word_len h2
    rcases List.mem_cons.1 h with rfl | h
    ·omega
    split at h
    ·rename_i h3
     have l3:=word_len h3
     simp at h
     rcases h with rfl | rfl <;> omega
    ·simp at h
     subst h
     omega
   ·simp at h
    subst h
    omega
  ·simp at h
   rw [h]
   exact Nat.le_refl _
 ·exact pieces_word _ s (Nat.le_refl _) a h
theorem parse_len {s:List UInt8} (hw:isWord (wordB s).1 = true) (h:(piecesB s).length ≠ wordN (wordB s).1 + 1):parseB s = .bad:=by
 unfold piecesB wordN at h
 rcases isWord_iff.1 hw with e | e | e | e | e | e
 ·rw [if_pos e,if_pos e] at h
  rw [parse_send e,if_neg h]
 ·rw [e,if_neg (by decide),if_neg (by decide),if_pos rfl] at h
  rw [parse_null e,if_neg h]
 ·rw [e,if_neg (by decide),if_neg (by decide),if_neg (by decide),if_pos rfl] at h
  rw [parse_move e,if_neg h]
 ·rw [e,if_neg (by decide),if_neg (by decide),if_neg (by decide),if_neg (by decide),if_pos rfl] at h
  rw [parse_told e,if_neg h]
 ·rw [e,if_neg (by decide),if_neg (by decide),if_neg (by decide),if_neg (by decide),if_neg (by decide),if_pos rfl] at h
  rw [parse_held e,if_neg h]
 ·rw [e,if_neg (by decide),if_neg (by decide),if_neg (by decide),if_neg (by decide),if_neg (by decide),if_neg (by decide)] at h
  rw [parse_calm e,if_neg h]
theorem Strs.tail {w:World} {q o:Nat} {x:List UInt8} {l:List (List UInt8)} (h:Strs w q o (x :: l)):Strs w q (o + 1) l:=
 ⟨h.1,fun i s hi=>by have:=h.2 (i + 1) s hi;rwa [show o + (i + 1) = o + 1 + i by omega] at this⟩
theorem four_of {l:List (List UInt8)} (h:l.length = 4):∃ x a b c,l = [x,a,b,c]:=by
 match l,h with
 | [x,a,b,c],_=>exact ⟨x,a,b,c,rfl⟩
theorem three_of {l:List (List UInt8)} (h:l.length = 3):∃ x a b,l = [x,a,b]:=by
 match l,h with
 | [x,a,b],_=>exact ⟨x,a,b,rfl⟩
theorem two_of {l:List (List UInt8)} (h:l.length = 2):∃ x a,l = [x,a]:=by
 match l,h with
 | [x,a],_=>exact ⟨x,a,rfl⟩
theorem exec_c {w:World} {T q:Nat} {X:Wd} {s:List UInt8} {v:Value} (hvv:wordN (wordB s).1 ≠ 0 → ∃ c,v = .slice (some ⟨q,1,none⟩) (wordN (wordB s).1) c) (hv:Vars w) (hT8:8 ≤ T) (hT:TabAt w T X) (hRX:Right X) (hs:s.length ≤ 1000000) (hw:isWord (wordB s).1 = true) (hlen:(piecesB s).length = wordN (wordB s).1 + 1) (hl:Strs w q 0 (piecesB s)) :
  Calls Tryz.prog (wordF (wordB s).1) #[.pointer (some ⟨T,0,none⟩),v] w (MPost w T (execB X (parseB s))):=by
 have hpl:∀ a ∈ piecesB s,a.length ≤ 1000000:=fun a ha=>Nat.le_trans (pieces_len ha) hs
 unfold wordF
 unfold wordN at hlen hvv
 rcases isWord_iff.1 hw with e | e | e | e | e | e
 ·rw [if_pos e] at hlen hvv
  obtain ⟨c,rfl⟩:=hvv (by decide)
  rw [if_pos e,parse_send e]
  have hp:piecesB s = Lib.splitK [32] 0 3 s:=if_pos e
  rw [← hp,if_pos hlen]
  obtain ⟨x,a,b,d,h4⟩:=four_of hlen
  rw [h4] at hl hpl ⊢
  exact dsend_c hv hT8 hT hl.tail (hpl _ (by simp)) (hpl _ (by simp)) (hpl _ (by simp))
 ·rw [e,if_neg (by decide),if_pos rfl] at hlen hvv
  obtain ⟨c,rfl⟩:=hvv (by decide)
  rw [e,if_neg (by decide),if_pos rfl,parse_null e]
  have hp:piecesB s = Lib.split s [32]:=if_neg (by rw [e];decide)
  rw [← hp,if_pos hlen]
  obtain ⟨x,a,b,h4⟩:=three_of hlen
  rw [h4] at hl hpl ⊢
  exact dnull_c hv hT8 hT hl.tail (hpl _ (by simp)) (hpl _ (by simp))
 ·rw [e,if_neg (by decide),if_neg (by decide),if_pos rfl] at hlen hvv
  obtain ⟨c,rfl⟩:=hvv (by decide)
  rw [e,if_neg (by decide),if_neg (by decide),if_pos rfl,parse_move e]
  have hp:piecesB s = Lib.split s [32]:=if_neg (by rw [e];decide)
  rw [← hp,if_pos hlen]
  obtain ⟨x,a,b,h4⟩:=three_of hlen
  rw [h4] at hl hpl ⊢
  exact dmove_c hv hT8 hT hRX hl.tail (hpl _ (by simp)) (hpl _ (by simp))
 ·rw [e,if_neg (by decide),if_neg (by decide),if_neg (by decide),if_pos rfl] at hlen hvv
  obtain ⟨c,rfl⟩:=hvv (by decide)
  rw [e,if_neg (by decide),if_neg (by decide),if_neg (by decide),if_pos rfl,parse_told e]
  have hp:piecesB s = Lib.split s [32]:=if_neg (by rw [e];decide)
  rw [← hp,if_pos hlen]
  obtain ⟨x,a,h4⟩:=two_of hlen
  rw [h4] at hl hpl ⊢
  exact dtold_c hv hT hRX hl.tail (hpl _ (by simp))
 ·rw [e,if_neg (by decide),if_neg (by decide),if_neg (by decide),if_neg (by decide),if_pos rfl] at hlen hvv
  obtain ⟨c,rfl⟩:=hvv (by decide)
  rw [e,if_neg (by decide),if_neg (by decide),if_neg (by decide),if_neg (by decide),if_pos rfl,parse_held e]
  have hp:piecesB s = Lib.split s [32]:=if_neg (by rw [e];decide)
  rw [← hp,if_pos hlen]
  obtain ⟨x,a,h4⟩:=two_of hlen
  rw [h4] at hl hpl ⊢
  exact dheld_c hv hT hRX hl.tail (hpl _ (by simp))
 ·rw [e,if_neg (by decide),if_neg (by decide),if_neg (by decide),if_neg (by decide),if_neg (by decide)] at hlen
  rw [e,if_neg (by decide),if_neg (by decide),if_neg (by decide),if_neg (by decide),if_neg (by decide),parse_calm e]
  have hp:piecesB s = Lib.split s [32]:=if_neg (by rw [e];decide)
  rw [← hp,if_pos hlen]
  exact dcalm_c hv hT8 hT
end Go.Proofs.YtnalakhelicjcaaGreatDoor
set_option maxRecDepth 100000
namespace Go.Proofs.YtnalakhelicjcaaGreatDoor
open Go.RowKit Go.Shelf Go.BigFrame Go.Deep
theorem assert_ref (W:World) (v:Value):(Instr.typeAssert (.iface 69 v) 20 69 true).run Tryz.prog W = .ok (.tuple #[v, .bool true]) W:=by kernel_rfl
theorem assert_refnil (W:World):(Instr.typeAssert .nilIface 20 69 true).run Tryz.prog W = .ok (.tuple #[.agg #[.int .i64 0], .bool false]) W:=by kernel_rfl
theorem errB_itoa {r:Int} (h:Er r):(⟨#[101,114,114,111,114,32]⟩:ByteArray) ++ strB (Lib.itoa r) = strB (errB r):=by
 have h1:Lib.itoa r = Lib.decDigits r.toNat:=by rw [Lib.itoa,if_neg (by unfold Er at h;omega)]
 rw [h1]
 exact strB_app [101,114,114,111,114,32] _
set_option maxHeartbeats 1000000 in
theorem catchl_p (p:Addr) (x:Value) (r:Int) (hr:Er r) (older:List PanicEntry) (w:World) (hv:Vars w) (hc:w.cell? p = some x) (hz:w.frozen? p = false) (hb:p.block < w.heap.size) :
  CallsD Tryz.prog 31 #[.pointer (some p)] (.panicking ({ v:=.iface 69 (.agg #[.int .i64 r]),recovered:=false } :: older)) w fun e u' w' =>
   e = .returned (.tuple #[]) ∧ u' = .panicking ({ v:=.iface 69 (.agg #[.int .i64 r]),recovered:=true } :: older) ∧ ∃ w2,Below w.heap.size w w2 ∧ w' = w2.setCell p (.string (strB (errB r))):=by
 have hI:=fun (o:World) (k:Below w.heap.size w o)=>Itoa_c (hv.next k) r (by unfold Er at hr;omega) (by unfold Er at hr;omega)
 have he:=errB_itoa hr
 have hsz:¬ 9223372036854775807 < 6 + (strB (Lib.itoa r)).size:=by
  rw [strB_size,Lib.itoa,if_neg (by unfold Er at hr;omega)]
  have:=dec_len r.toNat
  unfold Er at hr
  omega
 replace he:=Lib.hid he
 refine callsD_of_wpS Tryz.func31 rfl fun c₀ cs hu=>?_
 apply wpS_seq
 apply wpS_region
 simp [wpOpsS,go_sem,recoverD,hu,Tryz.ntmps31,Exit.thenS]
 refine wpS_of_wp ?_
 have ht:(#[Value.pointer (some p)] ++ ((Array.replicate 17 undef).setIfInBounds 3 (.iface 69 (.agg #[.int .i64 r]))).setIfInBounds 0 (.iface 69 (.agg #[.int .i64 r])):Array Value) =
   #[.pointer (some p), .iface 69 (.agg #[.int .i64 r]),undef,undef, .iface 69 (.agg #[.int .i64 r]),undef,undef,undef,undef,undef,undef,undef,undef,undef,undef,undef,undef,undef]:=by simp [Array.replicate]
 rw [ht]
 clear ht
 have hlt:(w.alloc (.cells #[.int .i64 r] 69)).cell? p = some x:=(World.cell?_of_block (w:=w) (Go.Deep.blk_alloc_lt _ _ _ hb)).trans hc
 have hta:=assert_ref
 have bA:=below_a1 w (.cells #[.int .i64 r] 69)
 have hI1:=hI _ bA
 clear hI
 go_wp2_with fail
 refine hI1.mono ?_
 rintro e w2 ⟨rfl,b2⟩
 have b2:=below_trans bA b2
 have hc2:=(World.cell?_of_block (b2.block _ hb)).trans hc
 have hz2:=(b2.frozen hb).trans hz
 go_wp2_with fail
 rw [he.out]
 simp [bodyPostS,results,Tryz.results31]
 exact ⟨w2,b2,rfl⟩
theorem catchl_i (p:Addr) (w:World) :
  CallsD Tryz.prog 31 #[.pointer (some p)] .returning w fun e u' w'=>e = .returned (.tuple #[]) ∧ u' = .returning ∧ w' = w.alloc (.cells #[.int .i64 0] 69):=by
 refine callsD_of_wpS Tryz.func31 rfl fun c₀ cs hu=>?_
 apply wpS_seq
 apply wpS_region
 simp [wpOpsS,go_sem,recoverD,hu,Tryz.ntmps31,Exit.thenS]
 refine wpS_of_wp ?_
 have ht:(#[Value.pointer (some p)] ++ ((Array.replicate 17 undef).setIfInBounds 3 .nilIface).setIfInBounds 0 .nilIface:Array Value) =
   #[.pointer (some p), .nilIface,undef,undef, .nilIface,undef,undef,undef,undef,undef,undef,undef,undef,undef,undef,undef,undef,undef]:=by simp [Array.replicate]
 rw [ht]
 clear ht
 have hta:=assert_refnil
 go_wp2_with fail
 cases c₀
 simp_all [bodyPostS,results,Tryz.results31]
end Go.Proofs.YtnalakhelicjcaaGreatDoor
