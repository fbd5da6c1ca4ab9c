/-
  The document's script is played.
-/
import Derived.Test.YtnalakhelicjcaaGreatDoorZGE
import Derived.Test.YtnalakhelicjcaaGreatDoorZGK
import Derived.Test.YtnalakhelicjcaaGreatDoorZGF
set_option maxRecDepth 100000
namespace Go.Proofs.YtnalakhelicjcaaGreatDoor
open Go.RowKit Go.Shelf Go.BigFrame Go.Deep
def PdAt (w:World) (T:Nat) (Y:Wd) (gv nv wv:Value):Prop:=∃ S:Nat → Prop,OBox w T 35 gv nv wv ∧ OWd false w S gv nv wv Y ∧ ∀ b,S b → b < w.heap.size ∧ b ≠ T
theorem PdAt.below {w w':World} {T:Nat} {Y:Wd} {gv nv wv:Value} (h:PdAt w T Y gv nv wv) (b:Below w.heap.size w w'):PdAt w' T Y gv nv wv:=by
 obtain ⟨S,h1,h2,h3⟩:=h
 exact ⟨S,h1.keep (b.block _ h1.lt),h2.keep (fun c hc=>b.block c (h3 c hc).1),fun c hc=>⟨Nat.lt_of_lt_of_le (h3 c hc).1 b.size,(h3 c hc).2⟩⟩
theorem PdPost.got {w0 w w':World} {T:Nat} {gv nv wv:Value} {X:Wd} {x:Int × List UInt8 × Wd} {e:Ending} (h:PdPost w (.agg #[gv,nv,wv]) X x e w') (hT:PdAt w0 T X gv nv wv) (b0:Below w0.heap.size w0 w) :
  ∃ (v:Value) (s:ByteArray) (Y:Wd),e = .returned (.tuple #[v, .string s, .int .i64 x.1]) ∧ (x.1 = 0 → Y = x.2.2 ∧ s = strB x.2.1) ∧ Below w.heap.size w w' ∧
   ∃ (gv nv wv:Value) (S:Nat → Prop),v = .agg #[gv,nv,wv] ∧ OWd false w' S gv nv wv Y ∧ ∀ b,S b → b < w'.heap.size ∧ b ≠ T ∧ (b < w0.heap.size ∨ w.heap.size ≤ b):=by
 obtain ⟨v,s,Y,he,hx,hb,ho⟩:=h
 refine ⟨v,s,Y,he,hx,hb, ?_⟩
 rcases ho with ⟨rfl,rfl⟩ | ⟨gv2,nv2,wv2,S,rfl,hO,hS⟩
 ·have bw:=below_trans b0 hb
  obtain ⟨S,h1,h2,h3⟩:=hT
  exact ⟨_,_,_,S,rfl,h2.keep (fun c hc=>bw.block c (h3 c hc).1),fun c hc=>⟨Nat.lt_of_lt_of_le (h3 c hc).1 bw.size,(h3 c hc).2,Or.inl (h3 c hc).1⟩⟩
 ·have hT1:=hT.choose_spec.1.lt
  have hs0:=b0.size
  refine ⟨_,_,_,_,rfl,hO.ce,fun b hb=>?_⟩
  have h4:=hS b hb.1
  obtain ⟨_,_,_,h5⟩:=hb.2
  exact ⟨h5.lt,by omega,Or.inr h4⟩
theorem PdAt.put {w:World} {T:Nat} {X Y:Wd} {gv nv wv gv2 nv2 wv2:Value} (h:PdAt w T X gv nv wv) {S:Nat → Prop} (hO:OWd false w S gv2 nv2 wv2 Y) (hS:∀ b,S b → b < w.heap.size ∧ b ≠ T) :
  PdAt (((w.setCell ⟨T,0,none⟩ gv2).setCell ⟨T,1,none⟩ nv2).setCell ⟨T,2,none⟩ wv2) T Y gv2 nv2 wv2:=by
 obtain ⟨_,h1,_⟩:=h
 exact ⟨S,h1.put _ _ _,hO.keep (fun c hc=>set3_blk (hS c hc).2),fun c hc=>⟨by rw [set3_size];exact (hS c hc).1,(hS c hc).2⟩⟩
theorem ends_last {s:List UInt8} {c:UInt8} (h:s[s.length - 1]? = some c):s.getLast? = some c:=by
 rw [List.getLast?_eq_getElem?]
 exact h
set_option maxHeartbeats 4000000 in
theorem PlayOf_c {w:World} {gv:Value} {gs:List Int} {n:Int} {s:List UInt8} (hg:Ints w gv gs) (hs:s.length ≤ 140737488351232) :
  Calls Tryz.prog 5 #[.int .i64 n,gv, .string (strB s)] w (PlayPost w (playF n gs s)):=by
 have hC:=GroupsError_c hg n
 have hgI:=hg
 obtain ⟨_,ga,gcap,rfl,_⟩:=hg.open
 obtain ⟨P,hP⟩:∃ P,PlayPost w (playF n gs s) = P:=⟨_,rfl⟩
 rw [hP]
 by_cases he:gErr n gs = 0
 rotate_left
 ·rw [playF_err he] at hP
  obtain ⟨e,hee⟩:∃ e,gErr n gs = e:=⟨_,rfl⟩
  rw [hee] at hC hP he
  clear hee
  have hq:(e != 0) = true:=by simpa using he
  replace hP:=Lib.hid hP
  replace he:=Lib.hid he
  go_enter Tryz.func5,Tryz.ntmps5
  go_wp2_with fail
  refine hC.mono ?_
  clear hC
  rintro e' w1 ⟨rfl,d1⟩
  have b1:=d1.below
  clear d1
  go_wp2_with fail
  rw [← hP.out]
  exact ⟨rfl,b1⟩
 have hz:=strB_size s
 have hsm:=gErr_small he
 have hlong:=playF_long (s:=s) he
 have hopen:=playF_open (s:=s) he
 have hok:=playF_ok (s:=s) he
 rw [he] at hC
 obtain ⟨k0,rfl⟩:=Int.eq_ofNat_of_zero_le (a:=n) (by omega)
 have hRX:=begin_right he
 have hBg:=fun (u:World) (k:Below w.heap.size w u)=>BeginOf_c (hgI.below k) (n:=k0) (by omega) (by omega)
 obtain ⟨X0,hX0⟩:∃ X,beginX k0 gs = X:=⟨_,rfl⟩
 have hX1:beginX ((k0:Nat):Int).toNat gs = X0:=hX0
 rw [hX0] at hRX
 rw [hX1] at hok
 simp only [hX0] at hBg
 clear hX0 hX1
 obtain ⟨pf,hpf⟩:∃ r,playF (k0:Int) gs s = r:=⟨_,rfl⟩
 rw [hpf] at hlong hopen hok hP
 replace hP:=Lib.hid hP
 replace hlong:=Lib.hid hlong
 replace hopen:=Lib.hid hopen
 replace hok:=Lib.hid hok
 replace hBg:=Lib.hid hBg
 clear hpf he hgI hg
 go_enter Tryz.func5,Tryz.ntmps5
 go_wp2_with fail
 refine hC.mono ?_
 clear hC
 rintro e' w1 ⟨rfl,d1⟩
 have b1:=d1.below
 clear d1
 go_wp2_with fail
 go_loopw [9,10] (fun c i wr=>∃ k ct:Nat,k ≤ s.length ∧ i = .int .i64 k ∧ c = .int .i64 ct ∧ Hid ((s.take k).count 10 = ct) ∧ ct ≤ 81 ∧ wr = w1) (fun _ i _=>s.length - (intOf i).toNat)
 case atStart=>exact ⟨0,0,by omega,rfl,rfl,Lib.hid rfl,by omega,rfl⟩
 case round =>
  obtain ⟨k,ct,hk,rfl,rfl,hct,h81,hwr⟩:=hrel
  subst hwr
  have hle:=play_count s k
  rw [hct.out] at hle
  by_cases hlt:k < s.length
  ·obtain ⟨c,hc⟩:=dg_at s hlt
   have hkz:k < (strB s).size:=by omega
   have hat:=strB_nat hc hkz
   have hcs:=count_snoc hc
   rw [hct.out] at hcs
   replace hcs:=Lib.hid hcs
   clear hc hct
   by_cases h80:ct ≤ 80
   ·by_cases hc:c = 10
    ·have hcs2:(s.take (k + 1)).count 10 = ct + 1:=by rw [hcs.out,if_pos hc]
     rw [hc] at hat
     replace hcs2:=Lib.hid hcs2
     clear hcs hc
     go_wp2_with fail
     go_roundw
     case rel=>exact ⟨k + 1,ct + 1,by omega,by go_num,by go_num,hcs2,by omega,trivial⟩
     case measure=>simp [intOf];omega
    ·have hcs2:(s.take (k + 1)).count 10 = ct:=by rw [hcs.out,if_neg hc];rfl
     have q1:((c.toNat:Int) == 10) = false:=by
      rw [beq_eq_false_iff_ne]
      intro h
      exact hc (UInt8.toNat_inj.1 (by show c.toNat = 10;omega))
     replace hcs2:=Lib.hid hcs2
     clear hcs hc
     go_wp2_with fail
     go_roundw
     case rel=>exact ⟨k + 1,ct,by omega,by go_num,rfl,hcs2,by omega,trivial⟩
     case measure=>simp [intOf];omega
   ·have hpf:=hlong.out (Or.inr (by omega))
    have hP2:=hP.out
    rw [hpf] at hP2
    replace hP2:=Lib.hid hP2
    have q1:decide ((ct:Int) > 80) = true:=decide_eq_true (by omega)
    clear hP hpf hlong hat hkz
    by_cases hl:4096 < s.length
    ·go_wp2_with fail
     rw [← hP2.out]
     exact ⟨rfl,b1⟩
    ·go_wp2_with fail
     rw [← hP2.out]
     exact ⟨rfl,b1⟩
  ·obtain rfl:k = s.length:=by omega
   have hct2:=hct.out
   rw [List.take_length] at hct2
   clear hct hle h81
   by_cases hbig:4096 < s.length ∨ 80 < ct
   ·have hpf:=hlong.out (by rw [hct2];exact hbig)
    have hP2:=hP.out
    rw [hpf] at hP2
    replace hP2:=Lib.hid hP2
    clear hP hpf hlong hct2
    by_cases hl:4096 < s.length
    ·go_wp2_with fail
     rw [← hP2.out]
     exact ⟨rfl,b1⟩
    ·have h80:decide ((ct:Int) > 80) = true:=decide_eq_true (by have:=hbig.resolve_left hl;omega)
     clear hbig
     go_wp2_with fail
     rw [← hP2.out]
     exact ⟨rfl,b1⟩
   have hno:¬ (4096 < s.length ∨ 80 < s.count 10):=by rw [hct2];exact hbig
   have hl:¬ 4096 < s.length:=fun h=>hbig (Or.inl h)
   have h80:¬ 80 < ct:=fun h=>hbig (Or.inr h)
   have hq80:decide ((ct:Int) > 80) = false:=decide_eq_false (by omega)
   have hct80:s.count 10 ≤ 80:=by omega
   replace hno:=Lib.hid hno
   replace hct80:=Lib.hid hct80
   clear hlong hbig hct2 h80
   obtain ⟨bo,hbo⟩:∃ bo:Bool,(bo = true ↔ ¬ Ends s):=⟨by classical exact decide (¬ Ends s),by simp⟩
   replace hbo:=Lib.hid hbo
   go_upto_region 12 with fail
   go_cut [57] from 47 to 56 (fun p wx=>p = .bool bo ∧ wx = wr)
   case first =>
    by_cases hs0:s = []
    ·obtain rfl:bo = false:=by
      cases bo with
      | false=>rfl
      | true=>exact absurd (Or.inl hs0) (hbo.out.1 rfl)
     have hl0:s.length = 0:=by rw [hs0];rfl
     clear hs0
     go_wp2_with fail
     go_meet
     case rel=>exact ⟨rfl,rfl⟩
    ·have hpos:0 < s.length:=List.length_pos_iff.2 hs0
     obtain ⟨c,hc⟩:=dg_at s (k:=s.length - 1) (by omega)
     have hat:=strB_nat hc (by omega)
     have hla:=ends_last hc
     have hwr:IntKind.i64.wrap ((s.length:Int) - 1) = ((s.length - 1:Nat):Int):=by rw [IntWalk.i64_in _ (by omega)];omega
     clear hc
     replace hs0:=Lib.hid hs0
     by_cases hc:c = 10
     ·rw [hc] at hat hla
      obtain rfl:bo = false:=by
       cases bo with
       | false=>rfl
       | true=>exact absurd (Or.inr hla) (hbo.out.1 rfl)
      clear hc hla
      go_wp2_with fail
      go_meet
      case rel=>exact ⟨rfl,rfl⟩
     ·obtain rfl:bo = true:=hbo.out.2 (fun h=>by
       rcases h with h | h
       ·exact hs0.out h
       ·rw [hla] at h;exact hc (Option.some.inj h))
      have q1:((c.toNat:Int) == 10) = false:=by
       rw [beq_eq_false_iff_ne]
       intro h
       exact hc (UInt8.toNat_inj.1 (by show c.toNat = 10;omega))
      have q2:((c.toNat:Int) != 10) = true:=by simp [bne,q1]
      clear hc hla q1
      go_wp2_with fail
      go_meet
      case rel=>exact ⟨rfl,rfl⟩
   case rest =>
    obtain ⟨rfl,hwc⟩:=hcut
    subst hwc
    by_cases hE:Ends s
    rotate_left
    ·obtain rfl:bo = true:=hbo.out.2 hE
     have hpf:=hopen.out hno.out ⟨fun h=>hE (Or.inl h),fun h=>hE (Or.inr h)⟩
     have hP2:=hP.out
     rw [hpf] at hP2
     replace hP2:=Lib.hid hP2
     clear hP hpf hopen hok
     go_wp2_with fail
     rw [← hP2.out]
     exact ⟨rfl,b1⟩
    obtain rfl:bo = false:=by
     cases bo with
     | false=>rfl
     | true=>exact absurd hE (hbo.out.1 rfl)
    have hpf:=hok.out hno.out hE
    have hP2:=hP.out
    rw [hpf] at hP2
    replace hP2:=Lib.hid hP2
    replace hE:=Lib.hid hE
    clear hP hpf hopen hok hbo
    go_wp2_with fail
    refine (hBg.out _ b1).mono ?_
    clear hBg
    rintro e w2 ⟨gv2,nv2,wv2,S2,rfl,hO2,hS2,b2⟩
    obtain ⟨_,ga2,gcap2,rfl,_⟩:=hO2.parts.1.open
    obtain ⟨_,na2,ncap2,rfl,_⟩:=hO2.parts.2.1.form
    obtain ⟨_,wa2,wcap2,rfl,_⟩:=hO2.parts.2.2.form
    have hN:=OBox.new w2 35 (.slice ga2 X0.groups.length gcap2) (.slice na2 X0.nodes.length ncap2) (.slice wa2 X0.wires.length wcap2)
    have bA:=below_a1 w2 (.cells #[.slice ga2 X0.groups.length gcap2, .slice na2 X0.nodes.length ncap2, .slice wa2 X0.wires.length wcap2] 35)
    have hs2:=b2.size
    have hTw:w.heap.size ≤ w2.heap.size:=by have:=b1.size;omega
    obtain ⟨T,hT⟩:∃ T,w2.heap.size = T:=⟨_,rfl⟩
    have hPd:PdAt (w2.alloc (.cells #[.slice ga2 X0.groups.length gcap2, .slice na2 X0.nodes.length ncap2, .slice wa2 X0.wires.length wcap2] 35)) T X0 (.slice ga2 X0.groups.length gcap2) (.slice na2 X0.nodes.length ncap2) (.slice wa2 X0.wires.length wcap2):=
     ⟨S2,hT ▸ hN,hO2.any.keep (fun c hc=>bA.block c (hS2 c hc).2),fun c hc=>⟨Nat.lt_of_lt_of_le (hS2 c hc).2 bA.size,by have:=(hS2 c hc).2;omega⟩⟩
    have bw:=below_trans b1 (below_trans b2 bA)
    go_upto_region 15 with fail
    rw [hT] at hTw
    generalize w2.alloc (.cells #[.slice ga2 X0.groups.length gcap2, .slice na2 X0.nodes.length ncap2, .slice wa2 X0.wires.length wcap2] 35) = w3 at *
    clear hO2 hS2 hN bA hs2 hT b2 b1
    have hTl:T < w3.heap.size:=hPd.choose_spec.1.lt
    go_wp2_with fail
    go_loopw [12,13,14] (fun ov fv i wr=>∃ (k j:Nat) (Y:Wd) (o:List UInt8) (gv nv wv:Value),k ≤ s.length ∧ j ≤ k ∧ i = .int .i64 k ∧ fv = .int .i64 j ∧ ov = .string (strB o) ∧ Hid (Ends (s.take j)) ∧ Hid (∀ t,j ≤ t → t < k → s[t]? ≠ some 10) ∧ Hid (playX X0 (linesB (s.take j)) = (Y,o)) ∧ PdAt wr T Y gv nv wv ∧ Below w.heap.size w wr) (fun _ _ i _=>s.length - (intOf i).toNat)
    case atStart=>exact ⟨0,0,X0,[],_,_,_,by omega,by omega,rfl,rfl,rfl,Lib.hid (Or.inl rfl),Lib.hid (fun t h1 h2=>by omega),Lib.hid rfl,hPd,bw⟩
    case round =>
     clear hPd bw hTl
     obtain ⟨k,j,Y,o,gv,nv,wv,hk,hj,rfl,rfl,rfl,hEn,hNo,hPl,hPd,hb⟩:=hrel
     by_cases hlt:k < s.length
     ·obtain ⟨c,hc⟩:=dg_at s hlt
      have hkz:k < (strB s).size:=by omega
      have hat:=strB_nat hc hkz
      by_cases he:c = 10
      ·rw [he] at hat hc
       have hst:=play_step X0 hj hc hEn.out hNo.out
       have hfine:=playX_fine hRX (linesB (s.take j))
       have hmany:=lines_many hEn.out
       have hct8:=hct80.out
       rw [hPl.out] at hst hfine
       have hol:o.length ≤ 240000080:=by
        have:=hfine.2
        dsimp only at this
        omega
       obtain ⟨line,hline⟩:∃ l,(s.drop j).take (k - j) = l:=⟨_,rfl⟩
       have hex:(strB s).extract j k = strB line:=by rw [strB_cut,hline]
       have hll:line.length ≤ 1000000:=by rw [← hline,List.length_take];omega
       rw [hline] at hst
       obtain ⟨S,hBx,hOx,hSx⟩:=id hPd
       obtain ⟨_,ga,gcap,rfl,_⟩:=hOx.parts.1.open
       obtain ⟨_,na,ncap,rfl,_⟩:=hOx.parts.2.1.form
       obtain ⟨_,wa,wcap,rfl,_⟩:=hOx.parts.2.2.form
       have hWY:=hOx.world
       have hPlc:=fun (u:World) (kb:Below wr.heap.size wr u)=>played_c (hWY.below kb) hfine.1 hll
       have her:=exec_er hfine.1 (parseB line)
       have hxl:=exec_len hfine.1 (parseB line)
       have hs0:(execB Y (parseB line)).1 = 0 → stepX (Y,o) line = ((execB Y (parseB line)).2.2,o ++ (execB Y (parseB line)).2.1 ++ [10]):=fun h=>by
        unfold stepX lineX
        dsimp only
        rw [if_pos h]
       have hs1:(execB Y (parseB line)).1 ≠ 0 → stepX (Y,o) line = (Y,o ++ errB (execB Y (parseB line)).1 ++ [10]):=fun h=>by
        unfold stepX lineX
        dsimp only
        rw [if_neg h]
       obtain ⟨x,hx⟩:∃ x,execB Y (parseB line) = x:=⟨_,rfl⟩
       rw [hx] at her hxl hs0 hs1
       simp only [hx] at hPlc
       rw [← hst.2] at hs0 hs1
       have hEn2:=hst.1
       obtain ⟨_,x0,x1,x2⟩:=id hBx
       have hTl:=hBx.lt
       have hSB:∀ u:World,Below wr.heap.size wr u → u.cell? ⟨T,0,none⟩ = some (.slice ga Y.groups.length gcap) ∧ u.cell? ⟨T,1,none⟩ = some (.slice na Y.nodes.length ncap) ∧ u.cell? ⟨T,2,none⟩ = some (.slice wa Y.wires.length wcap):=fun u k=>⟨(k.cell hTl).trans x0,(k.cell hTl).trans x1,(k.cell hTl).trans x2⟩
       have hji:(j:Int) ≤ (k:Int):=by omega
       have hki:(k:Int) ≤ (s.length:Int):=by omega
       replace hs0:=Lib.hid hs0
       replace hs1:=Lib.hid hs1
       replace hEn2:=Lib.hid hEn2
       replace hxl:=Lib.hid hxl
       replace her:=Lib.hid her
       replace hmany:=Lib.hid hmany
       clear hst hx hline hc he hEn hNo hPl hfine hWY hOx hSx x0 x1 x2 hRX hct8 hBx hP2
       go_upto_region 21 with fail
       go_cut [15,16,17] from 71 to 80 (fun p q r wx=>∃ (gv2 nv2 wv2:Value) (S2:Nat → Prop) (BB:Nat) (Y2:Wd) (t2:ByteArray),p = .pointer (some ⟨BB,0,none⟩) ∧ q = .string t2 ∧ r = .int .i64 x.1 ∧ (x.1 = 0 → Y2 = x.2.2 ∧ t2 = strB x.2.1) ∧ OBox wx BB 35 gv2 nv2 wv2 ∧ OWd false wx S2 gv2 nv2 wv2 Y2 ∧ (∀ b,S2 b → b < wx.heap.size ∧ b ≠ T) ∧ wr.heap.size ≤ BB ∧ Below wr.heap.size wr wx)
       case first =>
        have bc:Below wr.heap.size wr wr.drew:=below_drewN wr 1
        refine wp_region_N (fun u=>u.cell? ⟨T,0,none⟩ = some (.slice ga Y.groups.length gcap) ∧ u.cell? ⟨T,1,none⟩ = some (.slice na Y.nodes.length ncap) ∧ u.cell? ⟨T,2,none⟩ = some (.slice wa Y.wires.length wcap)) 13 14 rfl (by kernel_rfl) (hSB _ bc) (fun hSw=>?_)
        generalize wr.drew = w6 at *
        refine tk 0 ?_ rfl rfl (by kernel_rfl) (.inl ⟨by rfl, ?_⟩) hSw ?_
        rotate_left
        ·rintro w ⟨s0,s1,s2⟩;go_simp;try with_reducible rfl
        simp only [tkp,tkz,tks]
        refine tk 1 ?_ rfl rfl (by kernel_rfl) (.inl ⟨by rfl, ?_⟩) hSw ?_
        rotate_left
        ·rintro w ⟨s0,s1,s2⟩;go_simp;try with_reducible rfl
        simp only [tkp,tkz,tks]
        refine tk 2 ?_ rfl rfl (by kernel_rfl) (.inl ⟨by rfl, ?_⟩) hSw ?_
        rotate_left
        ·rintro w ⟨s0,s1,s2⟩;go_simp;try with_reducible rfl
        simp only [tkp,tkz,tks]
        refine tk 3 ?_ rfl rfl (by kernel_rfl) (.inl ⟨by rfl, ?_⟩) hSw ?_
        rotate_left
        ·rintro w ⟨s0,s1,s2⟩;go_simp;try with_reducible rfl
        simp only [tkp,tkz,tks]
        refine tk 4 ?_ rfl rfl (by kernel_rfl) (.inl ⟨by rfl, ?_⟩) hSw ?_
        rotate_left
        ·rintro w ⟨s0,s1,s2⟩;go_simp;try with_reducible rfl
        simp only [tkp,tkz,tks]
        refine N_two' (i:=5) (j:=10) (by kernel_rfl) rfl rfl ?_ ?_
        rotate_left
        ·skip
         go_wp2_with fail
         have bq:=below_a1 w6 (.cells #[.slice none 0 0, .slice none 0 0, .slice none 0 0] 35)
         have hNB:=OBox.new w6 35 (.slice none 0 0) (.slice none 0 0) (.slice none 0 0)
         have hsz:=World.size_alloc w6 (.cells #[.slice none 0 0, .slice none 0 0, .slice none 0 0] 35)
         have hBw:=bc.size
         have bc:=below_trans bc bq
         refine QK_normal ⟨fun _=>hSB _ bc, ?_⟩
         have hSw:=hSB _ bc
         obtain ⟨BB,hBB⟩:∃ BB,w6.heap.size = BB:=⟨_,rfl⟩
         rw [hBB] at hNB hsz hBw
         simp only [hBB]
         generalize w6.alloc (.cells #[.slice none 0 0, .slice none 0 0, .slice none 0 0] 35) = w7 at *
         refine N_one' (i:=5) (by kernel_rfl) rfl ?_
         go_wp2_with fail
         refine (hPlc _ bc).mono ?_
         clear hPlc
         rintro e w10 hpp
         obtain ⟨v2,t2,Y2,rfl,hxx,b10,gv2,nv2,wv2,S2,rfl,hO2,hS2⟩:=hpp.got hPd bc
         obtain ⟨_,ga2,gcap2,rfl,_⟩:=hO2.parts.1.open
         obtain ⟨_,na2,ncap2,rfl,_⟩:=hO2.parts.2.1.form
         obtain ⟨_,wa2,wcap2,rfl,_⟩:=hO2.parts.2.2.form
         clear hpp
         have hSl:=bc.size
         have bc:=below_trans bc b10
         go_wp2_with fail
         refine QK_normal ⟨fun _=>hSB _ bc, ?_⟩
         have hSw:=hSB _ bc
         have hNB:=hNB.keep (b10.block _ hNB.lt)
         have hne:∀ c,S2 c → c ≠ BB:=fun c hc=>by
          have:=(hS2 c hc).2.2
          omega
         refine tk 6 ?_ rfl rfl (by kernel_rfl) (.inl ⟨by rfl, ?_⟩) hSw ?_
         rotate_left
         ·rintro w ⟨s0,s1,s2⟩;go_simp;try with_reducible rfl
         simp only [tkp,tkz,tks]
         refine tk 7 ?_ rfl rfl (by kernel_rfl) (.inl ⟨by rfl, ?_⟩) hSw ?_
         rotate_left
         ·rintro w ⟨s0,s1,s2⟩;go_simp;try with_reducible rfl
         simp only [tkp,tkz,tks]
         refine tk 8 ?_ rfl rfl (by kernel_rfl) (.inl ⟨by rfl, ?_⟩) hSw ?_
         rotate_left
         ·rintro w ⟨s0,s1,s2⟩;go_simp;try with_reducible rfl
         simp only [tkp,tkz,tks]
         refine tk 9 ?_ rfl rfl (by kernel_rfl) (.inl ⟨by rfl, ?_⟩) hSw ?_
         rotate_left
         ·rintro w ⟨s0,s1,s2⟩;go_simp;try with_reducible rfl
         simp only [tkp,tkz,tks]
         obtain ⟨hf0,hf1,hf2,z0,z1,z2⟩:=hNB.all
         have hOF:=hNB.put (.slice ga2 Y2.groups.length gcap2) (.slice na2 Y2.nodes.length ncap2) (.slice wa2 Y2.wires.length wcap2)
         refine N_one' (i:=11) (by kernel_rfl) rfl ?_
         go_wp2_with fail
         have bF:=set3_below (b:=BB) (u:=.slice ga2 Y2.groups.length gcap2) (v:=.slice na2 Y2.nodes.length ncap2) (x:=.slice wa2 Y2.wires.length wcap2) bc hBw
         refine QK_normal ⟨fun _=>hSB _ bF, ?_⟩
         refine N_one' (i:=12) (by kernel_rfl) rfl ?_
         go_wp2_with fail
         refine QK_normal ⟨fun _=>hSB _ bF, ?_⟩
         refine N_rest 13 1 (by decide) rfl (by kernel_rfl) ?_
         simp only [List.drop_succ_cons,List.drop_zero]
         go_wp2_with fail
         go_meet
         case rel =>
          exact ⟨_,_,_,S2,BB,Y2,t2,rfl,rfl,rfl,hxx,hOF,hO2.keep (fun c hc=>set3_blk (hne c hc)),fun c hc=>⟨by rw [set3_size];exact (hS2 c hc).1,(hS2 c hc).2.1⟩,hBw,bF⟩
        ·skip
         go_wp2_with fail
         refine (hPlc _ bc).mono ?_
         clear hPlc
         rintro e w10 hpp
         obtain ⟨v2,t2,Y2,rfl,hxx,b10,gv2,nv2,wv2,S2,rfl,hO2,hS2⟩:=hpp.got hPd bc
         obtain ⟨_,ga2,gcap2,rfl,_⟩:=hO2.parts.1.open
         obtain ⟨_,na2,ncap2,rfl,_⟩:=hO2.parts.2.1.form
         obtain ⟨_,wa2,wcap2,rfl,_⟩:=hO2.parts.2.2.form
         clear hpp
         have hSl:=bc.size
         have bc:=below_trans bc b10
         go_wp2_with fail
         refine QK_normal ⟨fun _=>hSB _ bc, ?_⟩
         have hSw:=hSB _ bc
         refine tk 6 ?_ rfl rfl (by kernel_rfl) (.inl ⟨by rfl, ?_⟩) hSw ?_
         rotate_left
         ·rintro w ⟨s0,s1,s2⟩;go_simp;try with_reducible rfl
         simp only [tkp,tkz,tks]
         refine tk 7 ?_ rfl rfl (by kernel_rfl) (.inl ⟨by rfl, ?_⟩) hSw ?_
         rotate_left
         ·rintro w ⟨s0,s1,s2⟩;go_simp;try with_reducible rfl
         simp only [tkp,tkz,tks]
         refine tk 8 ?_ rfl rfl (by kernel_rfl) (.inl ⟨by rfl, ?_⟩) hSw ?_
         rotate_left
         ·rintro w ⟨s0,s1,s2⟩;go_simp;try with_reducible rfl
         simp only [tkp,tkz,tks]
         refine tk 9 ?_ rfl rfl (by kernel_rfl) (.inl ⟨by rfl, ?_⟩) hSw ?_
         rotate_left
         ·rintro w ⟨s0,s1,s2⟩;go_simp;try with_reducible rfl
         simp only [tkp,tkz,tks]
         refine N_one' (i:=10) (by kernel_rfl) rfl ?_
         go_wp2_with fail
         have bq:=below_a1 w10 (.cells #[.slice none 0 0, .slice none 0 0, .slice none 0 0] 35)
         have hNB:=OBox.new w10 35 (.slice none 0 0) (.slice none 0 0) (.slice none 0 0)
         have hsz:=World.size_alloc w10 (.cells #[.slice none 0 0, .slice none 0 0, .slice none 0 0] 35)
         have hBw:=bc.size
         have bc:=below_trans bc bq
         refine QK_normal ⟨fun _=>hSB _ bc, ?_⟩
         have hSw:=hSB _ bc
         obtain ⟨BB,hBB⟩:∃ BB,w10.heap.size = BB:=⟨_,rfl⟩
         have hO2:=hO2.keep (fun c hc=>bq.block c (hS2 c hc).1)
         have hS2:∀ c,S2 c → c < (w10.alloc (.cells #[.slice none 0 0, .slice none 0 0, .slice none 0 0] 35)).heap.size ∧ c ≠ T ∧ c ≠ BB:=fun c hc=>by
          have h1:=(hS2 c hc).1
          exact ⟨by omega,(hS2 c hc).2.1,by omega⟩
         have hne:∀ c,S2 c → c ≠ BB:=fun c hc=>(hS2 c hc).2.2
         rw [hBB] at hNB hsz hBw
         simp only [hBB]
         generalize w10.alloc (.cells #[.slice none 0 0, .slice none 0 0, .slice none 0 0] 35) = w11 at *
         obtain ⟨hf0,hf1,hf2,z0,z1,z2⟩:=hNB.all
         have hOF:=hNB.put (.slice ga2 Y2.groups.length gcap2) (.slice na2 Y2.nodes.length ncap2) (.slice wa2 Y2.wires.length wcap2)
         refine N_one' (i:=11) (by kernel_rfl) rfl ?_
         go_wp2_with fail
         have bF:=set3_below (b:=BB) (u:=.slice ga2 Y2.groups.length gcap2) (v:=.slice na2 Y2.nodes.length ncap2) (x:=.slice wa2 Y2.wires.length wcap2) bc hBw
         refine QK_normal ⟨fun _=>hSB _ bF, ?_⟩
         refine N_one' (i:=12) (by kernel_rfl) rfl ?_
         go_wp2_with fail
         refine QK_normal ⟨fun _=>hSB _ bF, ?_⟩
         refine N_rest 13 1 (by decide) rfl (by kernel_rfl) ?_
         simp only [List.drop_succ_cons,List.drop_zero]
         go_wp2_with fail
         go_meet
         case rel =>
          exact ⟨_,_,_,S2,BB,Y2,t2,rfl,rfl,rfl,hxx,hOF,hO2.keep (fun c hc=>set3_blk (hne c hc)),fun c hc=>⟨by rw [set3_size];exact (hS2 c hc).1,(hS2 c hc).2.1⟩,hBw,bF⟩
       case rest =>
        obtain ⟨gv2,nv2,wv2,S2,BB,Y2,t2,rfl,rfl,rfl,hxx,hNB,hO2,hS2,hBw,bc⟩:=hcut
        have hPd3:=hPd.below bc
        have hb3:=below_trans hb bc
        have hz0:=strB_size o
        have hNo3:Hid (∀ t,k + 1 ≤ t → t < k + 1 → s[t]? ≠ some 10):=Lib.hid (fun t h1 h2=>by omega)
        by_cases h0:x.1 = 0
        ·obtain ⟨rfl,rfl⟩:=hxx h0
         have hst:=hs0.out h0
         have hl3:=hxl.out h0
         have hz1:=strB_size x.2.1
         have hq1:¬ 9223372036854775807 < (strB o).size + (strB x.2.1).size:=by omega
         have hq2:¬ 9223372036854775807 < (strB o).size + (strB x.2.1).size + 1:=by omega
         have hcat:strB o ++ strB x.2.1 ++ (⟨#[10]⟩:ByteArray) = strB (o ++ x.2.1 ++ [10]):=by
          rw [show (⟨#[10]⟩:ByteArray) = strB [10] from rfl,strB_app,strB_app]
         obtain ⟨_,ga2,gcap2,rfl,_⟩:=hO2.parts.1.open
         obtain ⟨_,na2,ncap2,rfl,_⟩:=hO2.parts.2.1.form
         obtain ⟨_,wa2,wcap2,rfl,_⟩:=hO2.parts.2.2.form
         have hPut:=hPd3.put hO2 hS2
         have hT3:=hPd3.choose_spec.1
         obtain ⟨hf0,hf1,hf2,z0,z1,z2⟩:=hT3.all
         obtain ⟨_,y0,y1,y2⟩:=id hNB
         have hFin:=set3_below (b:=T) (u:=.slice ga2 x.2.2.groups.length gcap2) (v:=.slice na2 x.2.2.nodes.length ncap2) (x:=.slice wa2 x.2.2.wires.length wcap2) hb3 hTw
         replace hst:=Lib.hid hst
         replace hcat:=Lib.hid hcat
         clear hxl hs0 hs1 hz0 hz1 hxx hO2 hS2 hPd hPd3 hNB hT3 her hSB hPlc
         go_wp2_with fail
         go_roundw
         case rel=>exact ⟨k + 1,k + 1,x.2.2,o ++ x.2.1 ++ [10],_,_,_,by omega,by omega,by go_num,by go_num,by rw [← hcat.out],hEn2,hNo3,hst,hPut,hFin⟩
         case measure=>simp [intOf];omega
        ·have hst:=hs1.out h0
         have h9:=her.out
         unfold Er at h9
         obtain ⟨en,hen⟩:=Int.eq_ofNat_of_zero_le h9.1
         have hle:(errB x.1).length ≤ 100:=errB_len her.out
         have heB:errB x.1 = [101,114,114,111,114,32] ++ Lib.decDigits en:=by
          unfold errB
          rw [hen]
          rfl
         rw [heB] at hst hle
         have hDg:=fun u=>Digits_c en u (by omega)
         have hne:(x.1 == 0) = false:=by simpa using h0
         rw [hen] at hne ⊢
         have hz1:=strB_size (Lib.decDigits en)
         rw [List.length_append] at hle
         simp only [List.length_cons,List.length_nil] at hle
         have hq0:¬ 9223372036854775807 < 6 + (strB (Lib.decDigits en)).size:=by omega
         have hq1:¬ 9223372036854775807 < (strB o).size + (6 + (strB (Lib.decDigits en)).size):=by omega
         have hq2:¬ 9223372036854775807 < (strB o).size + (6 + (strB (Lib.decDigits en)).size) + 1:=by omega
         have hcat:strB o ++ ((⟨#[101,114,114,111,114,32]⟩:ByteArray) ++ strB (Lib.decDigits en)) ++ (⟨#[10]⟩:ByteArray) = strB (o ++ ([101,114,114,111,114,32] ++ Lib.decDigits en) ++ [10]):=by
          rw [show (⟨#[10]⟩:ByteArray) = strB [10] from rfl,show (⟨#[101,114,114,111,114,32]⟩:ByteArray) = strB [101,114,114,111,114,32] from rfl,strB_app,strB_app,strB_app]
         replace hst:=Lib.hid hst
         replace hcat:=Lib.hid hcat
         clear hxl hs0 hs1 hz0 hz1 hxx hO2 hS2 hPd hNB her hSB hPlc heB hen h0 h9 hle
         go_wp2_with fail
         refine (hDg _).mono ?_
         clear hDg
         rintro e w12 ⟨rfl,b12⟩
         have hPd4:=hPd3.below b12
         have hb4:=below_trans hb3 b12
         go_wp2_with fail
         go_roundw
         case rel=>exact ⟨k + 1,k + 1,Y,o ++ ([101,114,114,111,114,32] ++ Lib.decDigits en) ++ [10],_,_,_,by omega,by omega,by go_num,by go_num,by rw [← hcat.out],hEn2,hNo3,hst,hPd4,hb4⟩
         case measure=>simp [intOf];omega
      ·have hNo2:∀ t,j ≤ t → t < k + 1 → s[t]? ≠ some 10:=fun t h1 h2=>by
        by_cases e:t < k
        ·exact hNo.out t h1 e
        ·obtain rfl:t = k:=by omega
         rw [hc]
         exact fun h=>he (Option.some.inj h)
       have q1:((c.toNat:Int) == 10) = false:=by
        rw [beq_eq_false_iff_ne]
        intro h
        exact he (UInt8.toNat_inj.1 (by show c.toNat = 10;omega))
       replace hNo2:=Lib.hid hNo2
       clear hc he hNo
       go_wp2_with fail
       go_roundw
       case rel=>exact ⟨k + 1,j,Y,o,gv,nv,wv,by omega,by omega,by go_num,rfl,rfl,hEn,hNo2,hPl,hPd,hb⟩
       case measure=>simp [intOf];omega
     ·obtain rfl:k = s.length:=by omega
      have hend:=play_end hj hE.out hNo.out
      have hP3:=hP2.out
      rw [← hend,hPl.out] at hP3
      replace hP3:=Lib.hid hP3
      clear hend hP2 hEn hNo hPl
      go_wp2_with fail
      rw [← hP3.out]
      exact ⟨rfl,hb⟩
end Go.Proofs.YtnalakhelicjcaaGreatDoor
