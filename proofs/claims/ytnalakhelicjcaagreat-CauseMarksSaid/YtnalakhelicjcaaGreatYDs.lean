/-
  The scribe does an act.
-/
import Derived.Test.YtnalakhelicjcaaGreatYSc
import Derived.Test.YtnalakhelicjcaaGreatYMkQ
import Derived.Test.YtnalakhelicjcaaGreatYLDo
import Derived.Test.YtnalakhelicjcaaGreatYKAg
import Derived.Test.YtnalakhelicjcaaGreatYKN
set_option maxRecDepth 100000
namespace Go.Proofs.YtnalakhelicjcaaGreat
open Go.RowKit Go.Deep Go.Shelf Go.BigFrame
set_option maxHeartbeats 4000000 in
theorem Scribe_c {base B:Nat} {w:World} {c:Nat → Nat} {gv nv wv sv av kv:Value} {s:Sc} {q:Rf} {x:Ac} (h:ScAt base w B c gv nv wv sv av kv s) (hB:Both s q) (hx:x.fits) (h4:x.kind ≠ 4) (hs:s.sent.length < 99) :
  Calls Tryz.prog 48 #[.pointer (some ⟨B,0,none⟩),x.val] w fun e w'=>e = .returned (.tuple #[]) ∧ (∃ c gv nv wv sv av kv,ScAt base w' B c gv nv wv sv av kv (s.step x)) ∧ Below base w w':=by
 have hBs:=h.lt
 have hbs:=h.B0
 obtain ⟨pg,pn,pw⟩:=h.X.parts
 obtain ⟨_,ga,gcap,rfl,_⟩:=pg.open
 obtain ⟨_,na,ncap,rfl,_⟩:=pn.form
 obtain ⟨_,wa,wcap,rfl,_⟩:=pw.form
 clear pg pn pw
 obtain ⟨_,sa,scap,rfl,hsc,_⟩:=h.S.msgs.open
 obtain ⟨aa,acap,rfl,_,_⟩:=OSl.form h.A
 have hA:=AcBox.new w x 23
 have bA:=below_a1 w (.cells #[.int .i64 x.kind, .int .i64 x.one, .int .i64 x.two, .string x.body] 23)
 have hAl:w.heap.size < (w.alloc (.cells #[.int .i64 x.kind, .int .i64 x.one, .int .i64 x.two, .string x.body] 23)).heap.size:=by rw [World.size_alloc];omega
 have h1:=h.below bA
 have hDo:=fun o (k:Below (w.alloc (.cells #[.int .i64 x.kind, .int .i64 x.one, .int .i64 x.two, .string x.body] 23)).heap.size (w.alloc (.cells #[.int .i64 x.kind, .int .i64 x.one, .int .i64 x.two, .string x.body] 23)) o)=>Do_c (h1.X.world.below k) hx
 have hW:=fun h0:(doF s.X x).1 = 0=>ways h4 h0
 have hSt:s.step x = if (doF s.X x).1 = 0 then if x.kind = 3 then s.move x.two.toNat (doF s.X x).2 (idxM (eqM (firstW s.X x)) s.sent).toNat else s.send x.one.toNat (doF s.X x).2 (msgOf x (doF s.X x).2) else s:=rfl
 generalize s.step x = s' at *
 obtain ⟨P,hP⟩:∃ P:Ending → World → Prop,(fun e w'=>e = .returned (.tuple #[]) ∧ (∃ c gv nv wv sv av kv,ScAt base w' B c gv nv wv sv av kv s') ∧ Below base w w') = P:=⟨_,rfl⟩
 rw [hP]
 replace hP:=Lib.hid hP
 generalize doF s.X x = r at *
 unfold Ac.val at hDo ⊢
 have hcD:=fun b hb=>(h.b b hb).2
 clear h
 replace hDo:=Lib.hid hDo
 replace hcD:=Lib.hid hcD
 replace hW:=Lib.hid hW
 replace hx:=Lib.hid hx
 go_enter Tryz.func48,Tryz.ntmps48
 go_upto_region 1 with fail
 generalize w.alloc (.cells #[.int .i64 x.kind, .int .i64 x.one, .int .i64 x.two, .string x.body] 23) = w0 at *
 obtain ⟨D,hD⟩:∃ D,w.heap.size = D:=⟨_,rfl⟩
 simp only [hD] at hA hAl hBs bA hcD ⊢
 replace hD:=Lib.hid hD
 have hSB:∀ o,Below w0.heap.size w0 o → o.cell? ⟨B,0,none⟩ = some (.slice ga s.X.groups.length gcap) ∧ o.cell? ⟨B,1,none⟩ = some (.slice na s.X.nodes.length ncap) ∧ o.cell? ⟨B,2,none⟩ = some (.slice wa s.X.wires.length wcap) ∧
   o.cell? ⟨D,0,none⟩ = some (.int .i64 x.kind) ∧ o.cell? ⟨D,1,none⟩ = some (.int .i64 x.one) ∧ o.cell? ⟨D,2,none⟩ = some (.int .i64 x.two) ∧ o.cell? ⟨D,3,none⟩ = some (.string x.body):=fun o k=>by
  have h2:=h1.below k
  obtain ⟨m0,m1,m2,m3⟩:=hA.below k hAl
  simp only [Nat.zero_add] at m0 m1 m2 m3
  exact ⟨h2.c0,h2.c1,h2.c2,m0,m1,m2,m3⟩
 refine wp_region_N (fun o=>o.cell? ⟨B,0,none⟩ = some (.slice ga s.X.groups.length gcap) ∧ o.cell? ⟨B,1,none⟩ = some (.slice na s.X.nodes.length ncap) ∧ o.cell? ⟨B,2,none⟩ = some (.slice wa s.X.wires.length wcap) ∧
   o.cell? ⟨D,0,none⟩ = some (.int .i64 x.kind) ∧ o.cell? ⟨D,1,none⟩ = some (.int .i64 x.one) ∧ o.cell? ⟨D,2,none⟩ = some (.int .i64 x.two) ∧ o.cell? ⟨D,3,none⟩ = some (.string x.body)) 11 12 rfl (by kernel_rfl) (hSB _ (below_drewN w0 1)) (fun hSw=>?_)
 refine tk 0 ?_ rfl rfl (by kernel_rfl) (.inl ⟨by rfl, ?_⟩) hSw ?_
 rotate_left
 ·rintro w ⟨s0,s1,s2,s3,s4,s5,s6⟩;go_simp;try with_reducible rfl
 simp only [tkp,tkz,tks]
 refine tk 1 ?_ rfl rfl (by kernel_rfl) (.inl ⟨by rfl, ?_⟩) hSw ?_
 rotate_left
 ·rintro w ⟨s0,s1,s2,s3,s4,s5,s6⟩;go_simp;try with_reducible rfl
 simp only [tkp,tkz,tks]
 refine tk 2 ?_ rfl rfl (by kernel_rfl) (.inl ⟨by rfl, ?_⟩) hSw ?_
 rotate_left
 ·rintro w ⟨s0,s1,s2,s3,s4,s5,s6⟩;go_simp;try with_reducible rfl
 simp only [tkp,tkz,tks]
 refine tk 3 ?_ rfl rfl (by kernel_rfl) (.inl ⟨by rfl, ?_⟩) hSw ?_
 rotate_left
 ·rintro w ⟨s0,s1,s2,s3,s4,s5,s6⟩;go_simp;try with_reducible rfl
 simp only [tkp,tkz,tks]
 refine tk 4 ?_ rfl rfl (by kernel_rfl) (.inl ⟨by rfl, ?_⟩) hSw ?_
 rotate_left
 ·rintro w ⟨s0,s1,s2,s3,s4,s5,s6⟩;go_simp;try with_reducible rfl
 simp only [tkp,tkz,tks]
 refine N_two' (i:=5) (j:=9) (by kernel_rfl) rfl rfl ?_ ?_
 ·go_wp2_with fail
  refine (hDo.out _ (below_drewN w0 1)).mono ?_
  rintro e w1 ⟨gv1,nv1,wv1,S1,rfl,hO1,hS1,b1⟩
  obtain ⟨pg,pn,pw⟩:=hO1.parts
  obtain ⟨_,ga1,gcap1,rfl,_⟩:=pg.open
  obtain ⟨_,na1,ncap1,rfl,_⟩:=pn.form
  obtain ⟨_,wa1,wcap1,rfl,_⟩:=pw.form
  clear pg pn pw
  have b1:=below_trans (below_drewN w0 1) b1
  go_wp2_with fail
  refine QK_normal ⟨?_, ?_⟩
  ·first | exact fun _=>hSB _ b1 | exact hSB _ b1
  have hSw:=hSB _ b1
  refine tk 6 ?_ rfl rfl (by kernel_rfl) (.inl ⟨by rfl, ?_⟩) hSw ?_
  rotate_left
  ·rintro w ⟨s0,s1,s2,s3,s4,s5,s6⟩;go_simp;try with_reducible rfl
  simp only [tkp,tkz,tks]
  refine tk 7 ?_ rfl rfl (by kernel_rfl) (.inl ⟨by rfl, ?_⟩) hSw ?_
  rotate_left
  ·rintro w ⟨s0,s1,s2,s3,s4,s5,s6⟩;go_simp;try with_reducible rfl
  simp only [tkp,tkz,tks]
  refine tk 8 ?_ rfl rfl (by kernel_rfl) (.inl ⟨by rfl, ?_⟩) hSw ?_
  rotate_left
  ·rintro w ⟨s0,s1,s2,s3,s4,s5,s6⟩;go_simp;try with_reducible rfl
  simp only [tkp,tkz,tks]
  refine N_one' (i:=9) (by kernel_rfl) rfl ?_
  go_wp2_with fail
  have hQ:=OBox.new w1 37 (.slice none 0 0) (.slice none 0 0) (.slice none 0 0)
  have bq:=below_a1 w1 (.cells #[.slice none 0 0, .slice none 0 0, .slice none 0 0] 37)
  have hEs:w0.heap.size ≤ w1.heap.size:=b1.size
  have hO2:=hO1.keep (fun b hb=>bq.block b (hS1 b hb).2)
  have hS2:∀ b,S1 b → w0.heap.size ≤ b ∧ b < (w1.alloc (.cells #[.slice none 0 0, .slice none 0 0, .slice none 0 0] 37)).heap.size ∧ b ≠ w1.heap.size:=fun b hb=>by
   have h:=hS1 b hb
   have h2:=bq.size
   exact ⟨h.1,by omega,by omega⟩
  have b2:=below_trans b1 bq
  refine QK_normal ⟨?_, ?_⟩
  ·first | exact fun _=>hSB _ b2 | exact hSB _ b2
  clear hSw hO1 hS1 bq b1
  generalize w1.alloc (.cells #[.slice none 0 0, .slice none 0 0, .slice none 0 0] 37) = w2 at *
  obtain ⟨E,hE⟩:∃ E,w1.heap.size = E:=⟨_,rfl⟩
  simp only [hE] at hQ hEs hS2 ⊢
  clear hE
  refine N_one' (i:=10) (by kernel_rfl) rfl ?_
  obtain ⟨hf0,hf1,hf2,z0,z1,z2⟩:=hQ.all
  go_wp2_with fail
  have hQ3:=hQ.put (.slice ga1 r.2.groups.length gcap1) (.slice na1 r.2.nodes.length ncap1) (.slice wa1 r.2.wires.length wcap1)
  have b3:=set3_below (u:=(.slice ga1 r.2.groups.length gcap1)) (v:=(.slice na1 r.2.nodes.length ncap1)) (x:=(.slice wa1 r.2.wires.length wcap1)) b2 hEs
  have hO3:=hO2.keep (w':=((w2.setCell ⟨E,0,none⟩ (.slice ga1 r.2.groups.length gcap1)).setCell ⟨E,1,none⟩ (.slice na1 r.2.nodes.length ncap1)).setCell ⟨E,2,none⟩ (.slice wa1 r.2.wires.length wcap1)) (fun b hb=>set3_blk (hS2 b hb).2.2)
  have hz3:(((w2.setCell ⟨E,0,none⟩ (.slice ga1 r.2.groups.length gcap1)).setCell ⟨E,1,none⟩ (.slice na1 r.2.nodes.length ncap1)).setCell ⟨E,2,none⟩ (.slice wa1 r.2.wires.length wcap1)).heap.size = w2.heap.size:=set3_size
  refine QK_normal ⟨?_, ?_⟩
  ·first | exact fun _=>hSB _ b3 | exact hSB _ b3
  clear hf0 hf1 hf2 z0 z1 z2 hQ b2 hO2
  generalize ((w2.setCell ⟨E,0,none⟩ (.slice ga1 r.2.groups.length gcap1)).setCell ⟨E,1,none⟩ (.slice na1 r.2.nodes.length ncap1)).setCell ⟨E,2,none⟩ (.slice wa1 r.2.wires.length wcap1) = w3 at *
  have hS3:∀ b,S1 b → w0.heap.size ≤ b ∧ b < w3.heap.size ∧ b ≠ E:=fun b hb=>by have:=hS2 b hb;omega
  clear hS2 hz3
  refine N_rest 11 1 (Nat.le_refl _) rfl (by kernel_rfl) ?_
  simp only [List.drop_succ_cons,List.drop_zero]
  have h3:=h1.below b3
  have hA3:=hA.below b3 hAl
  have hAl3:=Nat.lt_of_lt_of_le hAl b3.size
  have hw3:Below base w w3:=by
   exact (bA.trans (b3.mono (by omega))).mono (by omega)
  clear h1 hA hSB hDo
  by_cases h0:r.1 = 0
  rotate_left
  ·have hne:(r.1 != 0) = true:=by simpa using h0
   rw [if_neg h0] at hSt
   replace h0:=Lib.hid h0
   replace hSt:=Lib.hid hSt
   go_wp2_with fail
   refine bodyPost_ret (v:=.tuple #[]) (by simp [results,Tryz.f48]) rfl ?_
   rw [← hP.out,hSt.out]
   exact ⟨rfl,⟨_,_,_,_,_,_,_,h3⟩,hw3⟩
  have hne:(r.1 != 0) = false:=by simpa using h0
  rw [if_pos h0] at hSt
  have hw:=hW.out h0
  replace h0:=Lib.hid h0
  clear hW
  by_cases hk:x.kind = 3
  ·have hk3:(x.kind == 3) = true:=by simpa using hk
   rw [if_pos hk] at hSt
   cases hw with
   | send n k3 e1 hS=>exact absurd hk (by omega)
   | move a b m k3 e1 e2 hM =>
    obtain ⟨l,hl,_⟩:=hM.first
    obtain ⟨ha,hb,_⟩:=hM.at_
    rw [firstW_mv e1 e2 hM,e2,Int.toNat_natCast] at hSt
    obtain ⟨i1,i2,i3⟩:=idxM_mem (hB.gh.onw a b m ha hb (mv_mem hM))
    obtain ⟨i,hi⟩:=Int.eq_ofNat_of_zero_le i3
    have hIx:=fun o (k:Below w3.heap.size w3 o)=>IndexM_c ((h3.below k).S.msgs) m
    rw [hi,Int.toNat_natCast] at hSt i1
    rw [hi] at hIx
    have haw:a < s.X.wires.length:=by rw [hB.inv.right.nw];exact ha
    have hbr:b < (s.X.wires.getD a []).length:=by rw [hB.inv.right.row a ha];exact hb
    have hbk:b < s.known.length:=by rw [hB.lk];exact hb
    have hia:i < s.ahead.length:=by rw [hB.la];exact i1
    have hi100:i < 100:=by omega
    obtain ⟨_,_,hWr⟩:=h3.X.parts
    obtain ⟨bw,ow,cw,u1,e5,_,r1,hu1⟩:=hWr.row haw
    cases e5
    have hl':(s.X.wires.getD a []).getD b [] = m :: l:=hl
    obtain ⟨row,HR⟩:∃ row,s.X.wires.getD a [] = row:=⟨_,rfl⟩
    rw [HR] at hbr hu1 hl'
    clear HR hl
    obtain ⟨b2,o2,c2,v2,e6,_,t1,hI2⟩:=hu1.at hbr
    cases e6
    rw [hl'] at hI2
    obtain ⟨_,am,cm,rfl,_,hcm⟩:=hI2.open
    obtain ⟨bm,om,rfl,hcc⟩:=hcm (by simp)
    obtain ⟨n0,n1,n2,n3,n4⟩:=hcc 0 (by simp)
    have hm0:(m :: l).getD 0 M.zero = m:=rfl
    rw [hm0] at n0 n1 n2 n3 n4
    simp only [Nat.zero_mul,Nat.add_zero] at n0 n1 n2 n3 n4
    obtain ⟨m0,m1,m2,m3⟩:=id hA3
    simp only [Nat.zero_add] at m0 m1 m2 m3
    rw [e1] at m1
    rw [e2] at m2
    have d0:=h3.c2
    have d1:=h3.c3
    have hdis:Dis (fun b=>c b = 4) (fun b=>c b = 3):=fun b h h'=>by have h:c b = 4:=h;have h':c b = 3:=h';omega
    clear hcm hcc hI2 hu1 hWr
    go_upto_region 16 with fail
    have hSB:∀ o,Below w3.heap.size w3 o → o.cell? ⟨B,2,none⟩ = some (.slice (some ⟨bw,ow,none⟩) s.X.wires.length wcap) ∧ o.cell? ⟨B,3,none⟩ = some (.slice sa s.sent.length scap) ∧ o.cell? ⟨bw,ow + a,none⟩ = some (.slice (some ⟨b2,o2,none⟩) row.length c2) ∧
      o.cell? ⟨b2,o2 + b,none⟩ = some (.slice (some ⟨bm,om,none⟩) (m :: l).length cm) ∧ o.cell? ⟨bm,om,none⟩ = some (.int .i64 m.src) ∧ o.cell? ⟨bm,om + 1,none⟩ = some (.int .i64 m.grp) ∧ o.cell? ⟨bm,om + 2,none⟩ = some (.int .i64 m.stamp) ∧ o.cell? ⟨bm,om + 3,none⟩ = some (.bool m.null) ∧ o.cell? ⟨bm,om + 4,none⟩ = some (.string m.body) ∧
      o.cell? ⟨D,1,none⟩ = some (.int .i64 (a:Int)) ∧ o.cell? ⟨D,2,none⟩ = some (.int .i64 (b:Int)):=fun o k =>
     ⟨(k.cell (cell_lt d0)).trans d0,(k.cell (cell_lt d1)).trans d1,(k.cell (cell_lt r1)).trans r1,(k.cell (cell_lt t1)).trans t1,(k.cell (cell_lt n0)).trans n0,(k.cell (cell_lt n1)).trans n1,(k.cell (cell_lt n2)).trans n2,(k.cell (cell_lt n3)).trans n3,(k.cell (cell_lt n4)).trans n4,(k.cell (cell_lt m1)).trans m1,(k.cell (cell_lt m2)).trans m2⟩
    refine wp_region_N (fun o=>o.cell? ⟨B,2,none⟩ = some (.slice (some ⟨bw,ow,none⟩) s.X.wires.length wcap) ∧ o.cell? ⟨B,3,none⟩ = some (.slice sa s.sent.length scap) ∧ o.cell? ⟨bw,ow + a,none⟩ = some (.slice (some ⟨b2,o2,none⟩) row.length c2) ∧
      o.cell? ⟨b2,o2 + b,none⟩ = some (.slice (some ⟨bm,om,none⟩) (m :: l).length cm) ∧ o.cell? ⟨bm,om,none⟩ = some (.int .i64 m.src) ∧ o.cell? ⟨bm,om + 1,none⟩ = some (.int .i64 m.grp) ∧ o.cell? ⟨bm,om + 2,none⟩ = some (.int .i64 m.stamp) ∧ o.cell? ⟨bm,om + 3,none⟩ = some (.bool m.null) ∧ o.cell? ⟨bm,om + 4,none⟩ = some (.string m.body) ∧
      o.cell? ⟨D,1,none⟩ = some (.int .i64 (a:Int)) ∧ o.cell? ⟨D,2,none⟩ = some (.int .i64 (b:Int))) 23 24 rfl (by kernel_rfl) (hSB _ (below_drewN w3 1)) (fun hSw=>?_)
    refine tk 0 ?_ rfl rfl (by kernel_rfl) (.inl ⟨by rfl, ?_⟩) hSw ?_
    rotate_left
    ·rintro w ⟨s0,s1,s2,s3,s4,s5,s6,s7,s8,s9,s10⟩;go_simp;try with_reducible rfl
    simp only [tkp,tkz,tks]
    refine tk 1 ?_ rfl rfl (by kernel_rfl) (.inl ⟨by rfl, ?_⟩) hSw ?_
    rotate_left
    ·rintro w ⟨s0,s1,s2,s3,s4,s5,s6,s7,s8,s9,s10⟩;go_simp;try with_reducible rfl
    simp only [tkp,tkz,tks]
    refine tk 2 ?_ rfl rfl (by kernel_rfl) (.inl ⟨by rfl, ?_⟩) hSw ?_
    rotate_left
    ·rintro w ⟨s0,s1,s2,s3,s4,s5,s6,s7,s8,s9,s10⟩;go_simp;try with_reducible rfl
    simp only [tkp,tkz,tks]
    refine tk 3 ?_ rfl rfl (by kernel_rfl) (.inl ⟨by rfl, ?_⟩) hSw ?_
    rotate_left
    ·rintro w ⟨s0,s1,s2,s3,s4,s5,s6,s7,s8,s9,s10⟩;go_simp;try with_reducible rfl
    simp only [tkp,tkz,tks]
    refine tk 4 ?_ rfl rfl (by kernel_rfl) (.inl ⟨by rfl, ?_⟩) hSw ?_
    rotate_left
    ·rintro w ⟨s0,s1,s2,s3,s4,s5,s6,s7,s8,s9,s10⟩;go_simp;try with_reducible rfl
    simp only [tkp,tkz,tks]
    refine tk 5 ?_ rfl rfl (by kernel_rfl) (.inl ⟨by rfl, ?_⟩) hSw ?_
    rotate_left
    ·rintro w ⟨s0,s1,s2,s3,s4,s5,s6,s7,s8,s9,s10⟩;go_simp;try with_reducible rfl
    simp only [tkp,tkz,tks]
    refine tk 6 ?_ rfl rfl (by kernel_rfl) (.inl ⟨by rfl, ?_⟩) hSw ?_
    rotate_left
    ·rintro w ⟨s0,s1,s2,s3,s4,s5,s6,s7,s8,s9,s10⟩;go_simp;try with_reducible rfl
    simp only [tkp,tkz,tks]
    refine tk 7 ?_ rfl rfl (by kernel_rfl) (.inl ⟨by rfl, ?_⟩) hSw ?_
    rotate_left
    ·rintro w ⟨s0,s1,s2,s3,s4,s5,s6,s7,s8,s9,s10⟩;go_simp;try with_reducible rfl
    simp only [tkp,tkz,tks]
    refine tk 8 ?_ rfl rfl (by kernel_rfl) (.inl ⟨by rfl, ?_⟩) hSw ?_
    rotate_left
    ·rintro w ⟨s0,s1,s2,s3,s4,s5,s6,s7,s8,s9,s10⟩;go_simp;try with_reducible rfl
    simp only [tkp,tkz,tks]
    refine tk 9 ?_ rfl rfl (by kernel_rfl) (.inl ⟨by rfl, ?_⟩) hSw ?_
    rotate_left
    ·rintro w ⟨s0,s1,s2,s3,s4,s5,s6,s7,s8,s9,s10⟩;go_simp;try with_reducible rfl
    simp only [tkp,tkz,tks]
    refine tk 10 ?_ rfl rfl (by kernel_rfl) (.inl ⟨by rfl, ?_⟩) hSw ?_
    rotate_left
    ·rintro w ⟨s0,s1,s2,s3,s4,s5,s6,s7,s8,s9,s10⟩;go_simp;try with_reducible rfl
    simp only [tkp,tkz,tks]
    refine tk 11 ?_ rfl rfl (by kernel_rfl) (.inl ⟨by rfl, ?_⟩) hSw ?_
    rotate_left
    ·rintro w ⟨s0,s1,s2,s3,s4,s5,s6,s7,s8,s9,s10⟩;go_simp;try with_reducible rfl
    simp only [tkp,tkz,tks]
    refine tk 12 ?_ rfl rfl (by kernel_rfl) (.inl ⟨by rfl, ?_⟩) hSw ?_
    rotate_left
    ·rintro w ⟨s0,s1,s2,s3,s4,s5,s6,s7,s8,s9,s10⟩;go_simp;try with_reducible rfl
    simp only [tkp,tkz,tks]
    refine tk 13 ?_ rfl rfl (by kernel_rfl) (.inl ⟨by rfl, ?_⟩) hSw ?_
    rotate_left
    ·rintro w ⟨s0,s1,s2,s3,s4,s5,s6,s7,s8,s9,s10⟩;go_simp;try with_reducible rfl
    simp only [tkp,tkz,tks]
    refine tk 14 ?_ rfl rfl (by kernel_rfl) (.inl ⟨by rfl, ?_⟩) hSw ?_
    rotate_left
    ·rintro w ⟨s0,s1,s2,s3,s4,s5,s6,s7,s8,s9,s10⟩;go_simp;try with_reducible rfl
    simp only [tkp,tkz,tks]
    refine tk 15 ?_ rfl rfl (by kernel_rfl) (.inl ⟨by rfl, ?_⟩) hSw ?_
    rotate_left
    ·rintro w ⟨s0,s1,s2,s3,s4,s5,s6,s7,s8,s9,s10⟩;go_simp;try with_reducible rfl
    simp only [tkp,tkz,tks]
    refine tk 16 ?_ rfl rfl (by kernel_rfl) (.inl ⟨by rfl, ?_⟩) hSw ?_
    rotate_left
    ·rintro w ⟨s0,s1,s2,s3,s4,s5,s6,s7,s8,s9,s10⟩;go_simp;try with_reducible rfl
    simp only [tkp,tkz,tks]
    refine tk 17 ?_ rfl rfl (by kernel_rfl) (.inl ⟨by rfl, ?_⟩) hSw ?_
    rotate_left
    ·rintro w ⟨s0,s1,s2,s3,s4,s5,s6,s7,s8,s9,s10⟩;go_simp;try with_reducible rfl
    simp only [tkp,tkz,tks]
    refine tk 18 ?_ rfl rfl (by kernel_rfl) (.inl ⟨by rfl, ?_⟩) hSw ?_
    rotate_left
    ·rintro w ⟨s0,s1,s2,s3,s4,s5,s6,s7,s8,s9,s10⟩;go_simp;try with_reducible rfl
    simp only [tkp,tkz,tks]
    refine tk 19 ?_ rfl rfl (by kernel_rfl) (.inl ⟨by rfl, ?_⟩) hSw ?_
    rotate_left
    ·rintro w ⟨s0,s1,s2,s3,s4,s5,s6,s7,s8,s9,s10⟩;go_simp;try with_reducible rfl
    simp only [tkp,tkz,tks]
    refine tk 20 ?_ rfl rfl (by kernel_rfl) (.inl ⟨by rfl, ?_⟩) hSw ?_
    rotate_left
    ·rintro w ⟨s0,s1,s2,s3,s4,s5,s6,s7,s8,s9,s10⟩;go_simp;try with_reducible rfl
    simp only [tkp,tkz,tks]
    refine tk 21 ?_ rfl rfl (by kernel_rfl) (.inl ⟨by rfl, ?_⟩) hSw ?_
    rotate_left
    ·rintro w ⟨s0,s1,s2,s3,s4,s5,s6,s7,s8,s9,s10⟩;go_simp;try with_reducible rfl
    simp only [tkp,tkz,tks]
    refine N_one' (i:=22) (by kernel_rfl) rfl ?_
    unfold M.val at hIx
    go_wp2_with fail
    refine (hIx _ (below_drewN w3 1)).mono ?_
    rintro e w4 ⟨rfl,b4⟩
    have b4:=below_trans (below_drewN w3 1) b4
    go_wp2_with fail
    refine QK_normal ⟨?_, ?_⟩
    ·first | exact fun _=>hSB _ b4 | exact hSB _ b4
    refine N_rest 23 1 (Nat.le_refl _) rfl (by kernel_rfl) ?_
    simp only [List.drop_succ_cons,List.drop_zero]
    have hh:=h3.below b4
    have hLn:=Learn_c (n:=b) (k:=i) hh.c5 hh.c4 hh.K hh.A hdis (fun e=>by have e:c B = 4:=e;have:=h3.cB;omega) (fun b e=>(hh.b b (by have e:c b = 4:=e;omega)).2) hbk hia hi100
    clear hSB hSw m0 m1 m2 m3 d0 d1 r1 t1 n0 n1 n2 n3 n4 hIx
    go_wp2_with fail
    refine hLn.mono ?_
    rintro e w5 ⟨rfl,hK5,hv5⟩
    have hQ4:=hQ3.keep (b4.block _ hQ3.lt)
    have hEc:¬ c E = 4:=fun e=>by have:=hcD.out E (by omega);omega
    have hQ5:=hQ4.keep (hv5.block _ hQ4.lt hEc)
    have hO5:=hO3.keep (w':=w5) (fun b hb=>by
     have h1:=hS3 b hb
     have h2:¬ c b = 4:=fun e=>by have:=hcD.out b (by omega);omega
     exact (hv5.block b (Nat.lt_of_lt_of_le h1.2.1 b4.size) h2).trans (b4.block b h1.2.1))
    have h5:=hh.learned hK5 hv5
    have hw5:Below base w w5:=hw3.trans ((b4.mono (by omega)).trans (hv5.below (fun b e=>(hh.b b (by have e:c b = 4:=e;omega)).1) (by have:=b4.size;omega)))
    have hS5:∀ b,S1 b → c b = 0 ∧ base ≤ b ∧ b < w5.heap.size ∧ b ≠ B:=fun b hb=>by
     have h1:=hS3 b hb
     have h2:=b4.size
     have h4:=hv5.size
     refine ⟨Classical.byContradiction fun hn=>?_,by omega,by omega,by omega⟩
     have:=hcD.out b hn
     omega
    clear hh hLn hK5 hv5 hQ4 hQ3 hO3 h3
    obtain ⟨_,y0,y1,y2⟩:=id hQ5
    have f0:=h5.box.frozen 0
    have f1:=h5.box.frozen 1
    have f2:=h5.box.frozen 2
    have z0:=h5.c0
    have z1:=h5.c1
    have z2:=h5.c2
    obtain ⟨c6,h6⟩:=h5.setX hO5 hS5
    have hw6:Below base w (((w5.setCell ⟨B,0,none⟩ (.slice ga1 r.2.groups.length gcap1)).setCell ⟨B,1,none⟩ (.slice na1 r.2.nodes.length ncap1)).setCell ⟨B,2,none⟩ (.slice wa1 r.2.wires.length wcap1)):=set3_below hw5 hbs
    replace h6:=Lib.hid h6
    replace hw6:=Lib.hid hw6
    replace hSt:=Lib.hid hSt
    clear h5 hw5 hO5
    go_wp2_with fail
    refine bodyPost_end (v:=.tuple #[]) (by simp [results,Tryz.f48]) rfl ?_
    rw [← hP.out,hSt.out]
    exact ⟨rfl,⟨_,_,_,_,_,_,_,h6.out⟩,hw6.out⟩
  rw [if_neg hk] at hSt
  cases hw with
  | move a b m k3 e1 e2 hM=>exact absurd k3 hk
  | send n k3 e1 hS =>
   have hk3:(x.kind == 3) = false:=by simpa using hk
   have hn:=hS.at_
   have hnY:n < r.2.nodes.length:=by rw [hS.like.len];exact hn
   have hnk:n < s.known.length:=by rw [hB.lk];exact hn
   have hmf:msgOf x r.2 = ⟨x.one,x.two,(r.2.nodes.getD n N.zero).clock,x.kind == 2,if x.kind = 2 then ByteArray.empty else x.body⟩:=by
    unfold msgOf nd
    rw [e1,Int.toNat_natCast]
   have hfits:(msgOf x r.2).fits:=by
    have hx:=hx.out
    have hI:=(hO3.node_at hnY)
    obtain ⟨_,_,_,_,_,_,_,_,_,_,_,_,_,_,_,_,_,hI,_⟩:=hI
    rw [hmf]
    refine ⟨hx.2.1,hx.2.2.1,hI, ?_⟩
    show (if x.kind = 2 then ByteArray.empty else x.body).size ≤ _
    split
    ·exact Nat.zero_le _
    ·exact hx.2.2.2
   rw [show x.one.toNat = n by omega] at hSt
   obtain ⟨gN,capN,_,_,_,_,_,_,e5,_,_,_,_,k0,_⟩:=hO3.node_at hnY
   cases e5
   obtain ⟨ck,hck⟩:∃ ck,(r.2.nodes.getD n N.zero).clock = ck:=⟨_,rfl⟩
   rw [hck] at k0 hmf
   clear hck
   obtain ⟨m,hm⟩:∃ m,msgOf x r.2 = m:=⟨_,rfl⟩
   rw [hm] at hmf hfits hSt
   rw [e1] at hmf
   replace hm:=Lib.hid hm
   obtain ⟨m0,m1,m2,m3⟩:=id hA3
   simp only [Nat.zero_add] at m0 m1 m2 m3
   rw [e1] at m1
   replace e1:=Lib.hid e1
   obtain ⟨_,y0,y1,y2⟩:=id hQ3
   replace hmf:=Lib.hid hmf
   replace hfits:=Lib.hid hfits
   have n1:decide ((n:Int) < 0) = false:=by simp
   have n2:decide (r.2.nodes.length ≤ n) = false:=by simp;omega
   go_upto_region 4 with fail
   have hSB:∀ o,Below w3.heap.size w3 o → o.cell? ⟨D,0,none⟩ = some (.int .i64 x.kind) ∧ o.cell? ⟨D,1,none⟩ = some (.int .i64 (n:Int)) ∧ o.cell? ⟨D,2,none⟩ = some (.int .i64 x.two) ∧ o.cell? ⟨E,1,none⟩ = some (.slice (some ⟨gN,0,none⟩) r.2.nodes.length ncap1) ∧ o.cell? ⟨gN,n * 4,none⟩ = some (.int .i64 ck):=fun o k =>
    ⟨(k.cell (cell_lt m0)).trans m0,(k.cell (cell_lt m1)).trans m1,(k.cell (cell_lt m2)).trans m2,(k.cell (cell_lt y1)).trans y1,(k.cell (cell_lt k0)).trans k0⟩
   refine wp_region_N (fun o=>o.cell? ⟨D,0,none⟩ = some (.int .i64 x.kind) ∧ o.cell? ⟨D,1,none⟩ = some (.int .i64 (n:Int)) ∧ o.cell? ⟨D,2,none⟩ = some (.int .i64 x.two) ∧ o.cell? ⟨E,1,none⟩ = some (.slice (some ⟨gN,0,none⟩) r.2.nodes.length ncap1) ∧ o.cell? ⟨gN,n * 4,none⟩ = some (.int .i64 ck)) 16 17 rfl (by kernel_rfl) (hSB _ (below_drewN w3 1)) (fun hSw=>?_)
   refine tk 0 ?_ rfl rfl (by kernel_rfl) (.inl ⟨by rfl, ?_⟩) hSw ?_
   rotate_left
   ·rintro w ⟨s0,s1,s2,s3,s4⟩;go_simp;try with_reducible rfl
   simp only [tkp,tkz,tks]
   refine tk 1 ?_ rfl rfl (by kernel_rfl) (.inl ⟨by rfl, ?_⟩) hSw ?_
   rotate_left
   ·rintro w ⟨s0,s1,s2,s3,s4⟩;go_simp;try with_reducible rfl
   simp only [tkp,tkz,tks]
   refine tk 2 ?_ rfl rfl (by kernel_rfl) (.inl ⟨by rfl, ?_⟩) hSw ?_
   rotate_left
   ·rintro w ⟨s0,s1,s2,s3,s4⟩;go_simp;try with_reducible rfl
   simp only [tkp,tkz,tks]
   refine tk 3 ?_ rfl rfl (by kernel_rfl) (.inl ⟨by rfl, ?_⟩) hSw ?_
   rotate_left
   ·rintro w ⟨s0,s1,s2,s3,s4⟩;go_simp;try with_reducible rfl
   simp only [tkp,tkz,tks]
   refine tk 4 ?_ rfl rfl (by kernel_rfl) (.inl ⟨by rfl, ?_⟩) hSw ?_
   rotate_left
   ·rintro w ⟨s0,s1,s2,s3,s4⟩;go_simp;try with_reducible rfl
   simp only [tkp,tkz,tks]
   refine tk 5 ?_ rfl rfl (by kernel_rfl) (.inl ⟨by rfl, ?_⟩) hSw ?_
   rotate_left
   ·rintro w ⟨s0,s1,s2,s3,s4⟩;go_simp;try with_reducible rfl
   simp only [tkp,tkz,tks]
   refine tk 6 ?_ rfl rfl (by kernel_rfl) (.inl ⟨by rfl, ?_⟩) hSw ?_
   rotate_left
   ·rintro w ⟨s0,s1,s2,s3,s4⟩;go_simp;try with_reducible rfl
   simp only [tkp,tkz,tks]
   refine tk 7 ?_ rfl rfl (by kernel_rfl) (.inl ⟨by rfl, ?_⟩) hSw ?_
   rotate_left
   ·rintro w ⟨s0,s1,s2,s3,s4⟩;go_simp;try with_reducible rfl
   simp only [tkp,tkz,tks]
   refine tk 8 ?_ rfl rfl (by kernel_rfl) (.inl ⟨by rfl, ?_⟩) hSw ?_
   rotate_left
   ·rintro w ⟨s0,s1,s2,s3,s4⟩;go_simp;try with_reducible rfl
   simp only [tkp,tkz,tks]
   refine tk 9 ?_ rfl rfl (by kernel_rfl) (.inl ⟨by rfl, ?_⟩) hSw ?_
   rotate_left
   ·rintro w ⟨s0,s1,s2,s3,s4⟩;go_simp;try with_reducible rfl
   simp only [tkp,tkz,tks]
   refine tk 10 ?_ rfl rfl (by kernel_rfl) (.inl ⟨by rfl, ?_⟩) hSw ?_
   rotate_left
   ·rintro w ⟨s0,s1,s2,s3,s4⟩;go_simp;try with_reducible rfl
   simp only [tkp,tkz,tks]
   refine tk 11 ?_ rfl rfl (by kernel_rfl) (.inl ⟨by rfl, ?_⟩) hSw ?_
   rotate_left
   ·rintro w ⟨s0,s1,s2,s3,s4⟩;go_simp;try with_reducible rfl
   simp only [tkp,tkz,tks]
   refine tk 12 ?_ rfl rfl (by kernel_rfl) (.inl ⟨by rfl, ?_⟩) hSw ?_
   rotate_left
   ·rintro w ⟨s0,s1,s2,s3,s4⟩;go_simp;try with_reducible rfl
   simp only [tkp,tkz,tks]
   refine tk 13 ?_ rfl rfl (by kernel_rfl) (.inl ⟨by rfl, ?_⟩) hSw ?_
   rotate_left
   ·rintro w ⟨s0,s1,s2,s3,s4⟩;go_simp;try with_reducible rfl
   simp only [tkp,tkz,tks]
   refine tk 14 ?_ rfl rfl (by kernel_rfl) (.inl ⟨by rfl, ?_⟩) hSw ?_
   rotate_left
   ·rintro w ⟨s0,s1,s2,s3,s4⟩;go_simp;try with_reducible rfl
   simp only [tkp,tkz,tks]
   refine N_one' (i:=15) (by kernel_rfl) rfl ?_
   go_wp2_with fail
   have b4:Below w3.heap.size w3 (w3.alloc (.cells #[.int .i64 0, .int .i64 0, .int .i64 0, .bool false, .string ⟨#[]⟩] 62)).drew:=below_trans (below_a1 w3 _) (below_drewN _ 1)
   have hF4:BlkIs (w3.alloc (.cells #[.int .i64 0, .int .i64 0, .int .i64 0, .bool false, .string ⟨#[]⟩] 62)).drew w3.heap.size 62 5:=⟨_,heap_alloc_new w3 _,rfl⟩
   have hFz:=MsgBox.new w3 M.zero 62
   have hFz:MsgBox (w3.alloc (.cells #[.int .i64 0, .int .i64 0, .int .i64 0, .bool false, .string ⟨#[]⟩] 62)).drew w3.heap.size M.zero:=hFz
   refine QK_normal ⟨?_, ?_⟩
   ·first | exact fun _=>hSB _ b4 | exact hSB _ b4
   generalize (w3.alloc (.cells #[.int .i64 0, .int .i64 0, .int .i64 0, .bool false, .string ⟨#[]⟩] 62)).drew = w4 at *
   obtain ⟨F,hF⟩:∃ F,w3.heap.size = F:=⟨_,rfl⟩
   simp only [hF] at hF4 hFz ⊢
   replace hF:=Lib.hid hF
   refine N_rest 16 1 (Nat.le_refl _) rfl (by kernel_rfl) ?_
   simp only [List.drop_succ_cons,List.drop_zero]
   clear hSw hSB y0 y1 y2 k0 m2
   obtain ⟨z0,z1,z2,z3,z4⟩:=hFz
   have f0:=hF4.frozen 0
   have f1:=hF4.frozen 1
   have f2:=hF4.frozen 2
   have f3:=hF4.frozen 3
   have f4:=hF4.frozen 4
   have b5:Below w3.heap.size w3 (((((w4.setCell ⟨F,0,none⟩ (.int .i64 (n:Int))).setCell ⟨F,1,none⟩ (.int .i64 x.two)).setCell ⟨F,2,none⟩ (.int .i64 ck)).setCell ⟨F,3,none⟩ (.bool (x.kind == 2))).setCell ⟨F,4,none⟩ (.string ⟨#[]⟩)):=below_setCell (below_setCell (below_setCell (below_setCell (below_setCell b4 (Nat.le_of_eq hF.out) _) (Nat.le_of_eq hF.out) _) (Nat.le_of_eq hF.out) _) (Nat.le_of_eq hF.out) _) (Nat.le_of_eq hF.out) _
   obtain ⟨hF5,g0,g1,g2,g3,g4⟩:=five_put hF4 (.int .i64 (n:Int)) (.int .i64 x.two) (.int .i64 ck) (.bool (x.kind == 2)) (.string ⟨#[]⟩)
   by_cases k2:x.kind = 2
   ·have q2:(x.kind == 2) = true:=by simpa using k2
    have hmf:=hmf.out
    rw [if_pos k2] at hmf
    replace k2:=Lib.hid k2
    simp only [q2] at hmf b5 hF5 g0 g1 g2 g3 g4 ⊢
    replace hmf:=Lib.hid hmf
    go_upto_region 7 with fail
    generalize ((((w4.setCell ⟨F,0,none⟩ (.int .i64 (n:Int))).setCell ⟨F,1,none⟩ (.int .i64 x.two)).setCell ⟨F,2,none⟩ (.int .i64 ck)).setCell ⟨F,3,none⟩ (.bool true)).setCell ⟨F,4,none⟩ (.string ⟨#[]⟩) = w6 at *
    have hmf:=hmf.out
    have g0:w6.cell? ⟨F,0,none⟩ = some (.int .i64 m.src):=by rw [hmf];exact g0
    have g1:w6.cell? ⟨F,1,none⟩ = some (.int .i64 m.grp):=by rw [hmf];exact g1
    have g2:w6.cell? ⟨F,2,none⟩ = some (.int .i64 m.stamp):=by rw [hmf];exact g2
    have g3:w6.cell? ⟨F,3,none⟩ = some (.bool m.null):=by rw [hmf];exact g3
    have g4:w6.cell? ⟨F,4,none⟩ = some (.string m.body):=by rw [hmf];exact g4
    replace hmf:=Lib.hid hmf
    have b6:=b5
    have hmm:=@run_makeMap Tryz.prog
    have hFl:=cell_lt g0
    have hG:=SetAt.made w6
    have b7:=below_trans b6 (below_a1 w6 (.map #[] 0))
    have hs7:(w6.alloc (.map #[] 0)).heap.size = w6.heap.size + 1:=World.size_alloc _ _
    have g0:=((below_a1 w6 (.map #[] 0)).cell (cell_lt g0)).trans g0
    have g1:=((below_a1 w6 (.map #[] 0)).cell (cell_lt g1)).trans g1
    have g2:=((below_a1 w6 (.map #[] 0)).cell (cell_lt g2)).trans g2
    have g3:=((below_a1 w6 (.map #[] 0)).cell (cell_lt g3)).trans g3
    have g4:=((below_a1 w6 (.map #[] 0)).cell (cell_lt g4)).trans g4
    go_upto_region 8 with fail
    clear hmm
    generalize w6.alloc (.map #[] 0) = w7 at *
    obtain ⟨G,hGe⟩:∃ G,w6.heap.size = G:=⟨_,rfl⟩
    simp only [hGe] at hG hs7 hFl ⊢
    have hGs:w3.heap.size ≤ G:=by rw [← hGe];exact b6.size
    clear hGe
    have h7:=h3.below b7
    obtain ⟨gk,capk,bk,ek,_,hgc,hgl,k0,hbc,hbg,hSk,_⟩:=h7.K.set_at hnk
    cases ek
    have hbl:=hSk.lt
    have hgB:¬ gk = B:=fun e=>by have h:c gk = 4:=hgc;rw [e,h3.cB] at h;omega
    have m1:=(b7.cell (cell_lt m1)).trans m1
    have d5:=h7.c5
    have hSB:∀ o,Below w7.heap.size w7 o → o.cell? ⟨B,5,none⟩ = some (.slice (some ⟨gk,0,none⟩) s.known.length capk) ∧ o.cell? ⟨D,1,none⟩ = some (.int .i64 (n:Int)) ∧ o.cell? ⟨gk,n,none⟩ = some (.map (some bk)):=fun o k=>⟨(k.cell (cell_lt d5)).trans d5,(k.cell (cell_lt m1)).trans m1,(k.cell (cell_lt k0)).trans k0⟩
    obtain ⟨f,hf⟩:∃ f,s.known.getD n emptyS = f:=⟨_,rfl⟩
    rw [hf] at hSk
    have hSkd:SetAt (w7.drewN 1) bk f:=hSk
    refine wp_region_N (fun o=>o.cell? ⟨B,5,none⟩ = some (.slice (some ⟨gk,0,none⟩) s.known.length capk) ∧ o.cell? ⟨D,1,none⟩ = some (.int .i64 (n:Int)) ∧ o.cell? ⟨gk,n,none⟩ = some (.map (some bk))) 6 9 rfl (by kernel_rfl) (hSB _ (below_drewN w7 1)) (fun hSw=>?_)
    refine tk 0 ?_ rfl rfl (by kernel_rfl) (.inl ⟨by rfl, ?_⟩) hSw ?_
    rotate_left
    ·rintro w ⟨s0,s1,s2⟩;go_simp;try with_reducible rfl
    simp only [tkp,tkz,tks]
    refine tk 1 ?_ rfl rfl (by kernel_rfl) (.inl ⟨by rfl, ?_⟩) hSw ?_
    rotate_left
    ·rintro w ⟨s0,s1,s2⟩;go_simp;try with_reducible rfl
    simp only [tkp,tkz,tks]
    refine tk 2 ?_ rfl rfl (by kernel_rfl) (.inl ⟨by rfl, ?_⟩) hSw ?_
    rotate_left
    ·rintro w ⟨s0,s1,s2⟩;go_simp;try with_reducible rfl
    simp only [tkp,tkz,tks]
    refine tk 3 ?_ rfl rfl (by kernel_rfl) (.inl ⟨by rfl, ?_⟩) hSw ?_
    rotate_left
    ·rintro w ⟨s0,s1,s2⟩;go_simp;try with_reducible rfl
    simp only [tkp,tkz,tks]
    refine tk 4 ?_ rfl rfl (by kernel_rfl) (.inl ⟨by rfl, ?_⟩) hSw ?_
    rotate_left
    ·rintro w ⟨s0,s1,s2⟩;go_simp;try with_reducible rfl
    simp only [tkp,tkz,tks]
    refine tk 5 ?_ rfl rfl (by kernel_rfl) (.inl ⟨by rfl, ?_⟩) hSw ?_
    rotate_left
    ·rintro w ⟨s0,s1,s2⟩;go_simp;try with_reducible rfl
    simp only [tkp,tkz,tks]
    refine N_rest 6 3 (Nat.le_refl _) rfl (by kernel_rfl) ?_
    simp only [List.drop_succ_cons,List.drop_zero]
    clear hSB d5
    obtain ⟨k1,k2,k3⟩:=hSw
    clear k1 k2
    go_wp2_with (at_range;refine wpList_set_range _ rfl _ rfl bk f rfl hSkd ?_;intro w8 cnt0 hrg0 hg8 hsz8)
    go_frame
    have hrg0:SetRg w8 bk w7.heap.size f f cnt0:=hrg0
    have hsz8:w8.heap.size = w7.heap.size + 1:=hsz8
    have hg8':w7.grownBy w8 none:=⟨hg8.os,hg8.tape,hg8.output,hg8.size,hg8.block⟩
    have hG8:=hG.keep (hg8'.block G hG.lt (by simp))
    have hFG:F < G:=hFl
    have g0:=hg8'.cell g0 (by simp)
    have g1:=hg8'.cell g1 (by simp)
    have g2:=hg8'.cell g2 (by simp)
    have g3:=hg8'.cell g3 (by simp)
    have g4:=hg8'.cell g4 (by simp)
    have b8:Below w3.heap.size w3 w8:=b7.trans ((Save.grown0 (S:=fun _=>False) hg8').below (fun _ h=>h.elim) b7.size)
    have hbD:=hcD.out bk (by have h:c bk = 4:=hbc;omega)
    have hbG:bk < G:=by omega
    obtain ⟨rI,hrI⟩:∃ r,w7.heap.size = r:=⟨_,rfl⟩
    have hrJ:w7.drew.heap.size = rI:=hrI
    simp only [hrI] at hrg0 hsz8
    simp only [hrJ] at ⊢
    clear hrJ
    have hGr:G < rI:=by omega
    clear hrI hg8 hg8' hSk hSkd h7 k0 b7 hG hs7 b6 b5
    go_loopw [8] (fun _ wr=>∃ (l:St) (cnt:Nat),SetRg wr bk rI f l cnt ∧ SetAt wr G (fun j=>f j && !l j) ∧ Save (fun c=>c = G ∨ c = rI) w8 wr) (fun _ wr=>wr.rangeLeft bk rI)
    case atStart =>
     refine ⟨f,cnt0,hrg0, ?_,Save.refl _ _⟩
     have e:(fun j=>f j && !f j) = emptyS:=by funext j;simp [emptyS]
     rw [e]
     exact hG8
    case round =>
     obtain ⟨l,cnt,hrg,hSr,hv⟩:=hrel
     go_wp2_with (at_next;refine wpList_set_next _ rfl _ rfl bk rI f l cnt rfl hrg ?_ ?_)
     ·intro hl0
      have e:(fun j=>f j && !l j) = f:=by funext j;rw [hl0 j];simp
      rw [e] at hSr
      have b9:Below w3.heap.size w3 wr:=b8.trans (hv.below (fun b h=>by omega) b8.size)
      have g0:=hv.cell g0 (by simp;omega)
      have g1:=hv.cell g1 (by simp;omega)
      have g2:=hv.cell g2 (by simp;omega)
      have g3:=hv.cell g3 (by simp;omega)
      have g4:=hv.cell g4 (by simp;omega)
      have h9:=h3.below b9
      clear hrg hv hG8 hrg0 b8 e
      obtain ⟨i0,hi0,hz0,hz1,hz2⟩:=info_parts infoCMsg
      obtain ⟨j0,hj0,jz0,jz1,jz2⟩:=info_parts infoCSet
      have d3:=h9.c3
      go_upto_region 12 with fail
      have hSB:∀ o,Below wr.heap.size wr o → o.cell? ⟨B,3,none⟩ = some (.slice sa s.sent.length scap) ∧ o.cell? ⟨F,0,none⟩ = some (.int .i64 m.src) ∧ o.cell? ⟨F,1,none⟩ = some (.int .i64 m.grp) ∧ o.cell? ⟨F,2,none⟩ = some (.int .i64 m.stamp) ∧ o.cell? ⟨F,3,none⟩ = some (.bool m.null) ∧ o.cell? ⟨F,4,none⟩ = some (.string m.body):=fun o k=>⟨(k.cell (cell_lt d3)).trans d3,(k.cell (cell_lt g0)).trans g0,(k.cell (cell_lt g1)).trans g1,(k.cell (cell_lt g2)).trans g2,(k.cell (cell_lt g3)).trans g3,(k.cell (cell_lt g4)).trans g4⟩
      refine wp_region_N (fun o=>o.cell? ⟨B,3,none⟩ = some (.slice sa s.sent.length scap) ∧ o.cell? ⟨F,0,none⟩ = some (.int .i64 m.src) ∧ o.cell? ⟨F,1,none⟩ = some (.int .i64 m.grp) ∧ o.cell? ⟨F,2,none⟩ = some (.int .i64 m.stamp) ∧ o.cell? ⟨F,3,none⟩ = some (.bool m.null) ∧ o.cell? ⟨F,4,none⟩ = some (.string m.body)) 8 11 rfl (by kernel_rfl) (hSB _ (below_drewN wr 1)) (fun hSw=>?_)
      refine tk 0 ?_ rfl rfl (by kernel_rfl) (.inl ⟨by rfl, ?_⟩) hSw ?_
      rotate_left
      ·rintro w ⟨s0,s1,s2,s3,s4,s5⟩;go_simp;try with_reducible rfl
      simp only [tkp,tkz,tks]
      refine tk 1 ?_ rfl rfl (by kernel_rfl) (.inl ⟨by rfl, ?_⟩) hSw ?_
      rotate_left
      ·rintro w ⟨s0,s1,s2,s3,s4,s5⟩;go_simp;try with_reducible rfl
      simp only [tkp,tkz,tks]
      refine tk 2 ?_ rfl rfl (by kernel_rfl) (.inl ⟨by rfl, ?_⟩) hSw ?_
      rotate_left
      ·rintro w ⟨s0,s1,s2,s3,s4,s5⟩;go_simp;try with_reducible rfl
      simp only [tkp,tkz,tks]
      refine tk 3 ?_ rfl rfl (by kernel_rfl) (.inl ⟨by rfl, ?_⟩) hSw ?_
      rotate_left
      ·rintro w ⟨s0,s1,s2,s3,s4,s5⟩;go_simp;try with_reducible rfl
      simp only [tkp,tkz,tks]
      refine tk 4 ?_ rfl rfl (by kernel_rfl) (.inl ⟨by rfl, ?_⟩) hSw ?_
      rotate_left
      ·rintro w ⟨s0,s1,s2,s3,s4,s5⟩;go_simp;try with_reducible rfl
      simp only [tkp,tkz,tks]
      refine tk 5 ?_ rfl rfl (by kernel_rfl) (.inl ⟨by rfl, ?_⟩) hSw ?_
      rotate_left
      ·rintro w ⟨s0,s1,s2,s3,s4,s5⟩;go_simp;try with_reducible rfl
      simp only [tkp,tkz,tks]
      refine N_one' (i:=6) (by kernel_rfl) rfl ?_
      go_wp2_with fail
      have bR:Below wr.heap.size wr (wr.alloc (.cells #[.int .i64 m.src, .int .i64 m.grp, .int .i64 m.stamp, .bool m.null, .string m.body] 62)).drew:=below_trans (below_a1 wr _) (below_drewN _ 1)
      refine QK_normal ⟨?_, ?_⟩
      ·first | exact fun _=>hSB _ bR | exact hSB _ bR
      have h10:=h9.below bR
      have hSG:=hSr.keep (bR.block G hSr.lt)
      have hnew:∀ j u,m.cells[j]? = some u → (wr.alloc (.cells #[.int .i64 m.src, .int .i64 m.grp, .int .i64 m.stamp, .bool m.null, .string m.body] 62)).drew.cell? ((⟨wr.heap.size,0,none⟩:Addr).add j) = some u:=cells_new wr m.cells.toArray 62
      have hSw:=hSB _ bR
      have b10:=b9.trans (bR.mono b9.size)
      clear hSB d3 g0 g1 g2 g3 g4
      generalize (wr.alloc (.cells #[.int .i64 m.src, .int .i64 m.grp, .int .i64 m.stamp, .bool m.null, .string m.body] 62)).drew = w10 at *
      obtain ⟨R,hR⟩:∃ R,wr.heap.size = R:=⟨_,rfl⟩
      simp only [hR] at hnew ⊢
      clear hR
      have hfit:=hfits.out
      refine N_one' (i:=7) (by kernel_rfl) rfl ?_
      go_wp2_with (at_builtin;refine wpList_push _ rfl _ _ 50 rfl 62 i0 _ 5 48 Tryz.underlying50 hi0 hz0 hz1 hz2 rfl (by decide) MEl.stays _ rfl (fun b=>c b = 2) s.sent h10.S (fun b hb=>(h10.b b (by have hb:c b = 2:=hb;omega)).2) ⟨R,0,none⟩ _ rfl m.cells rfl hnew (by simp [M.cells,Value.oneCell']) (fun _=>False) m ⟨rfl,hfit⟩ (fun _ h=>h.elim) (by omega) (by omega) (by omega) ?_;intro v11 w11 hp;obtain ⟨⟨S11,hO11,hS11⟩,hz11,hL11,hB11,a11,cap11,rfl⟩:=hp)
      have hz0':∀ b,D ≤ b → c b = 0:=fun b hb=>Classical.byContradiction fun hn=>by have:=hcD.out b hn;omega
      have hk11:∀ b,b < w10.heap.size → c b = 0 → w11.heap[b]? = w10.heap[b]?:=fun b hb h0=>hL11 b ⟨hb,by omega⟩
      have hcl:∀ (a:Addr) (v:Value),w10.cell? a = some v → c a.block = 0 → w11.cell? a = some v:=fun a v h h0=>(World.cell?_of_block (hk11 a.block (cell_lt h) h0)).trans h
      refine QK_normal ⟨?_, ?_⟩
      ·have hFD:D ≤ F:=by have:=hF.out;omega
       have hh:w11.cell? ⟨B,3,none⟩ = some (.slice sa s.sent.length scap) ∧ w11.cell? ⟨F,0,none⟩ = some (.int .i64 m.src) ∧ w11.cell? ⟨F,1,none⟩ = some (.int .i64 m.grp) ∧ w11.cell? ⟨F,2,none⟩ = some (.int .i64 m.stamp) ∧ w11.cell? ⟨F,3,none⟩ = some (.bool m.null) ∧ w11.cell? ⟨F,4,none⟩ = some (.string m.body):=⟨hcl _ _ hSw.1 h3.cB,hcl _ _ hSw.2.1 (hz0' F hFD),hcl _ _ hSw.2.2.1 (hz0' F hFD),hcl _ _ hSw.2.2.2.1 (hz0' F hFD),hcl _ _ hSw.2.2.2.2.1 (hz0' F hFD),hcl _ _ hSw.2.2.2.2.2 (hz0' F hFD)⟩
       first | exact fun _=>hh | exact hh
      have d3:=hcl _ _ hSw.1 h3.cB
      have f3:=(h10.box.same (hk11 B h10.lt h3.cB)).frozen 3
      obtain ⟨c12,h12,hc12⟩:=h10.setS hL11 hz11 hO11 (fun b hb=>⟨(hS11 b hb).1.elim Or.inl (fun h=>h.elim (fun h=>h.elim) (fun h=>Or.inr (by omega))),(hS11 b hb).2⟩)
      have hk12:∀ b,b < w10.heap.size → c b = 0 → b ≠ B → (w11.setCell ⟨B,3,none⟩ (.slice a11 (s.sent.length + 1) cap11)).heap[b]? = w10.heap[b]?:=fun b hb h0 hB=>(Go.Deep.blk_setCell_other _ _ _ _ hB).trans (hk11 b hb h0)
      have b12:Below base w10 (w11.setCell ⟨B,3,none⟩ (.slice a11 (s.sent.length + 1) cap11)):=below_setCell (hB11 base (fun b hb=>(h10.b b (by have hb:c b = 2:=hb;omega)).1) (by have:=h10.lt;omega)) hbs _
      have hs12:w10.heap.size ≤ (w11.setCell ⟨B,3,none⟩ (.slice a11 (s.sent.length + 1) cap11)).heap.size:=b12.size
      refine N_rest 8 3 (Nat.le_refl _) rfl (by kernel_rfl) ?_
      simp only [List.drop_succ_cons,List.drop_zero]
      replace h12:=Lib.hid h12
      clear hSw hnew hL11 hO11 hS11 hB11 hk11 hcl h10
      go_upto_region 13 with fail
      generalize w11.setCell ⟨B,3,none⟩ (.slice a11 (s.sent.length + 1) cap11) = w12 at *
      have h12:=h12.out
      clear d3 f3
      have h13:=h12.below (below_a1 w12 (.cells #[.map (some G)] 90))
      have d4:=h12.c4
      have hs13:(w12.alloc (.cells #[.map (some G)] 90)).heap.size = w12.heap.size + 1:=World.size_alloc _ _
      have hGl:G < w10.heap.size:=hSG.lt
      have hGc:c G = 0:=hz0' G (by omega)
      have hGB:G ≠ B:=by omega
      have hGc12:c12 G = 0:=Classical.byContradiction fun hn=>(hc12 G hn).elim (fun h=>h hGc) (fun h=>by omega)
      have hSG13:SetAt (w12.alloc (.cells #[.map (some G)] 90)) G f:=(hSG.keep (hk12 G hGl hGc hGB)).keep ((below_a1 w12 (.cells #[.map (some G)] 90)).block G (by omega))
      have hA13:=h13.A
      have hfz4:=h13.box.frozen 4
      go_upto_region 14 with (at_builtin;refine wpList_push _ rfl _ _ 86 rfl 90 j0 _ 1 8 Tryz.underlying86 hj0 jz0 jz1 jz2 rfl (by decide) SetEl.stays _ rfl (fun b=>c12 b = 3) s.ahead hA13 (fun b hb=>(h13.b b (by have hb:c12 b = 3:=hb;omega)).2) ⟨w12.heap.size,0,none⟩ _ rfl [.map (some G)] rfl (cells_new _ _ _) (by simp [Value.oneCell']) (fun b=>b = G) f ⟨G,rfl,rfl,hSG13⟩ (fun b hb=>⟨fun h=>by have h:c12 b = 3:=h;rw [hb,hGc12] at h;omega,by rw [hb];omega⟩) (by rw [hB.la];omega) (by omega) (by omega) ?_;intro v14 w14 hp;obtain ⟨⟨S14,hO14,hS14⟩,hz14,hL14,hB14,a14,cap14,rfl⟩:=hp;have fz:=(h13.box.same (hL14 B ⟨h13.lt,fun h=>by have h:c12 B = 3:=h;rw [h13.cB] at h;omega⟩)).frozen 4;have cz:=(World.cell?_of_block (w:=w12.alloc (.cells #[.map (some G)] 90)) (hL14 B ⟨h13.lt,fun h=>by have h:c12 B = 3:=h;rw [h13.cB] at h;omega⟩)).trans h13.c4)
      obtain ⟨c14,h14,hc14⟩:=h13.setA hL14 hz14 hO14 (fun b hb=>by
       have h1:=(hS14 b hb).1
       have h2:=(hS14 b hb).2
       have h3:=h12.lt
       have h4:=h12.B0
       rcases h1 with h1 | h1 | h1
       ·have h1:c12 b = 3:=h1
        exact ⟨Or.inl h1,fun e=>by rw [e,h12.cB] at h1;omega,(h12.b b (by omega)).1,h2⟩
       ·have h1:b = G:=h1
        exact ⟨Or.inr (by rw [h1];exact hGc12),by omega,by omega,h2⟩
       ·have h5:c12 b = 0:=Classical.byContradiction fun hn=>by have:=(h12.b b hn).2;omega
        exact ⟨Or.inr h5,by omega,by omega,h2⟩)
      have hk14:∀ b,b < w12.heap.size → c12 b = 0 → b ≠ B → (w14.setCell ⟨B,4,none⟩ (.slice a14 (s.ahead.length + 1) cap14)).heap[b]? = w12.heap[b]?:=fun b hb h0 hB =>
       ((Go.Deep.blk_setCell_other _ _ _ _ hB).trans (hL14 b ⟨by omega,fun h=>by have h:c12 b = 3:=h;omega⟩)).trans ((below_a1 w12 (.cells #[.map (some G)] 90)).block b hb)
      have b14:Below base w12 (w14.setCell ⟨B,4,none⟩ (.slice a14 (s.ahead.length + 1) cap14)):=(((below_a1 w12 (.cells #[.map (some G)] 90)).mono (by have:=h12.lt;have:=h12.B0;omega))).trans (below_setCell (hB14 base (fun b hb=>(h13.b b (by have hb:c12 b = 3:=hb;omega)).1) (by have:=h13.lt;have:=h13.B0;omega)) hbs _)
      have hs14:w12.heap.size ≤ (w14.setCell ⟨B,4,none⟩ (.slice a14 (s.ahead.length + 1) cap14)).heap.size:=b14.size
      have hz14':∀ b,b < w12.heap.size → c12 b = 0 → b ≠ G → c14 b = 0:=fun b hb h0 hG=>Classical.byContradiction fun hn=>(hc14 b hn).elim (fun h=>h h0) (fun h=>by
       rcases (hS14 b h).1 with h1 | h1 | h1
       ·have h1:c12 b = 3:=h1
        omega
       ·exact hG h1
       ·omega)
      clear fz cz d4 h13 hL14 hO14 hS14 hB14 hA13 hfz4 hSG13 hz14
      generalize w14.setCell ⟨B,4,none⟩ (.slice a14 (s.ahead.length + 1) cap14) = w15 at *
      have hs10:=b10.size
      have hkeep:∀ b,b < w3.heap.size → c b = 0 → b ≠ B → w15.heap[b]? = w3.heap[b]?:=fun b hb h0 hB =>
       (hk14 b (by omega) (Classical.byContradiction fun hn=>(hc12 b hn).elim (fun h=>h h0) (fun h=>by omega)) hB).trans ((hk12 b (by omega) h0 hB).trans (b10.block b hb))
      have hc0:∀ b,b < w3.heap.size → c b = 0 → c14 b = 0:=fun b hb h0=>hz14' b (by omega) (Classical.byContradiction fun hn=>(hc12 b hn).elim (fun h=>h h0) (fun h=>by omega)) (by omega)
      obtain ⟨_,q1,_,_⟩:=id hA3
      simp only [Nat.zero_add] at q1
      rw [e1.out] at q1
      have q1:=(World.cell?_of_block (w:=w3) (hkeep D hAl3 (hz0' D (Nat.le_refl _)) (by omega))).trans q1
      have d3:=h14.c3
      have hfa:(s.ahead ++ [f]).getD s.sent.length emptyS = f:=by rw [getD_appM (by rw [hB.la];exact Nat.le_refl _),if_pos hB.la.symm]
      have hwl1:IntKind.i64.wrap ((s.sent.length:Int) + 1 - 1) = (s.sent.length:Int):=IntWalk.i64_in _ (by omega) |>.trans (by omega)
      have hwl2:IntKind.i64.wrap (s.sent.length:Int) = (s.sent.length:Int):=IntWalk.i64_in _ (by omega)
      have hSB:∀ o,Below w15.heap.size w15 o → o.cell? ⟨D,1,none⟩ = some (.int .i64 (n:Int)) ∧ o.cell? ⟨B,3,none⟩ = some (.slice a11 (s.sent.length + 1) cap11):=fun o k=>⟨(k.cell (cell_lt q1)).trans q1,(k.cell (cell_lt d3)).trans d3⟩
      have hdis:Dis (fun b=>c14 b = 4) (fun b=>c14 b = 3):=fun b h h'=>by have h:c14 b = 4:=h;have h':c14 b = 3:=h';omega
      have hh:=h14.below (below_drewN w15 1)
      have hLn:=Learn_c (n:=n) (k:=s.sent.length) hh.c5 hh.c4 hh.K hh.A hdis (fun e=>by have e:c14 B = 4:=e;have:=h14.cB;omega) (fun b e=>(hh.b b (by have e:c14 b = 4:=e;omega)).2) hnk (by rw [List.length_append,hB.la];simp) (by omega)
      rw [hfa,hf] at hLn
      refine wp_region_N (fun o=>o.cell? ⟨D,1,none⟩ = some (.int .i64 (n:Int)) ∧ o.cell? ⟨B,3,none⟩ = some (.slice a11 (s.sent.length + 1) cap11)) 9 10 rfl (by kernel_rfl) (hSB _ (below_drewN w15 1)) (fun hSw=>?_)
      refine tk 0 ?_ rfl rfl (by kernel_rfl) (.inl ⟨by rfl, ?_⟩) hSw ?_
      rotate_left
      ·rintro w ⟨s0,s1⟩;go_simp;try with_reducible rfl
      simp only [tkp,tkz,tks]
      refine tk 1 ?_ rfl rfl (by kernel_rfl) (.inl ⟨by rfl, ?_⟩) hSw ?_
      rotate_left
      ·rintro w ⟨s0,s1⟩;go_simp;try with_reducible rfl
      simp only [tkp,tkz,tks]
      refine tk 2 ?_ rfl rfl (by kernel_rfl) (.inl ⟨by rfl, ?_⟩) hSw ?_
      rotate_left
      ·rintro w ⟨s0,s1⟩;go_simp;try with_reducible rfl
      simp only [tkp,tkz,tks]
      refine tk 3 ?_ rfl rfl (by kernel_rfl) (.inl ⟨by rfl, ?_⟩) hSw ?_
      rotate_left
      ·rintro w ⟨s0,s1⟩;go_simp;try with_reducible rfl
      simp only [tkp,tkz,tks]
      refine tk 4 ?_ rfl rfl (by kernel_rfl) (.inl ⟨by rfl, ?_⟩) hSw ?_
      rotate_left
      ·rintro w ⟨s0,s1⟩;go_simp;try with_reducible rfl
      simp only [tkp,tkz,tks]
      refine tk 5 ?_ rfl rfl (by kernel_rfl) (.inl ⟨by rfl, ?_⟩) hSw ?_
      rotate_left
      ·rintro w ⟨s0,s1⟩;go_simp;try with_reducible rfl
      simp only [tkp,tkz,tks]
      refine tk 6 ?_ rfl rfl (by kernel_rfl) (.inl ⟨by rfl, ?_⟩) hSw ?_
      rotate_left
      ·rintro w ⟨s0,s1⟩;go_simp;try with_reducible rfl
      simp only [tkp,tkz,tks]
      refine tk 7 ?_ rfl rfl (by kernel_rfl) (.inl ⟨by rfl, ?_⟩) hSw ?_
      rotate_left
      ·rintro w ⟨s0,s1⟩;go_simp;try with_reducible rfl
      simp only [tkp,tkz,tks]
      refine tk 8 ?_ rfl rfl (by kernel_rfl) (.inl ⟨by rfl, ?_⟩) hSw ?_
      rotate_left
      ·rintro w ⟨s0,s1⟩;go_simp;try with_reducible rfl
      simp only [tkp,tkz,tks]
      refine N_rest 9 1 (Nat.le_refl _) rfl (by kernel_rfl) ?_
      simp only [List.drop_succ_cons,List.drop_zero]
      go_wp2_with fail
      refine hLn.mono ?_
      rintro e w16 ⟨rfl,hK16,hv16⟩
      have hs15:w3.heap.size ≤ w15.heap.size:=by omega
      have hkp:∀ b,b < w3.heap.size → D ≤ b → w16.heap[b]? = w3.heap[b]?:=fun b hb hD =>
       (hv16.block b (Nat.lt_of_lt_of_le hb hs15) (fun e=>by have e:c14 b = 4:=e;have:=hc0 b hb (hz0' b hD);omega)).trans (hkeep b hb (hz0' b hD) (by omega))
      have hQ5:=hQ3.keep (hkp E hQ3.lt (by omega))
      have hO5:=hO3.keep (w':=w16) (fun b hb=>by
       have h1:=hS3 b hb
       exact hkp b h1.2.1 (by omega))
      have h5:=hh.learned hK16 hv16
      have hs16:w15.heap.size ≤ w16.heap.size:=hv16.size
      have hw5:Below base w w16:=hw3.trans ((b10.mono (by omega)).trans (b12.trans (b14.trans ((below_drewN w15 1).mono (by omega) |>.trans (hv16.below (fun b e=>(hh.b b (by have e:c14 b = 4:=e;omega)).1) (show base ≤ w15.heap.size by omega))))))
      have hS5:∀ b,S1 b → c14 b = 0 ∧ base ≤ b ∧ b < w16.heap.size ∧ b ≠ B:=fun b hb=>by
       have h1:=hS3 b hb
       exact ⟨hc0 b h1.2.1 (hz0' b (by omega)),by omega,by omega,by omega⟩
      have hSt:s' = ⟨r.2,s.sent ++ [m],s.ahead ++ [f],s.known.set n (learnS f s.sent.length f)⟩:=by
       rw [hSt]
       unfold Sc.send
       rw [hf]
      clear hkp hkeep hc0 hz0' hSB hSw hh hLn hK16 hv16 h14 hQ3 hO3 q1 d3 hk12 hk14 hc12 hc14 hz14' hSG h9 h12
      obtain ⟨_,y0,y1,y2⟩:=id hQ5
      have f0:=h5.box.frozen 0
      have f1:=h5.box.frozen 1
      have f2:=h5.box.frozen 2
      have z0:=h5.c0
      have z1:=h5.c1
      have z2:=h5.c2
      obtain ⟨c6,h6⟩:=h5.setX hO5 hS5
      have hw6:Below base w (((w16.setCell ⟨B,0,none⟩ (.slice ga1 r.2.groups.length gcap1)).setCell ⟨B,1,none⟩ (.slice (some ⟨gN,0,none⟩) r.2.nodes.length ncap1)).setCell ⟨B,2,none⟩ (.slice wa1 r.2.wires.length wcap1)):=set3_below hw5 hbs
      replace h6:=Lib.hid h6
      replace hw6:=Lib.hid hw6
      replace hSt:=Lib.hid hSt
      clear h5 hw5 hO5
      go_wp2_with fail
      refine bodyPost_end (v:=.tuple #[]) (by simp [results,Tryz.f48]) rfl ?_
      rw [← hP.out,hSt.out]
      exact ⟨rfl,⟨_,_,_,_,_,_,_,h6.out⟩,hw6.out⟩
     ·intro i cc w9 cnt1 hli hrg1 hlt1 hg1 hs1 hen
      obtain ⟨hai,hi⟩:=hrg.bound hli
      have hS3:=hSr.keep (hg1.block G hSr.lt (by simp;omega))
      go_wp2_with (at_mapUpdate;refine wpList_set_put _ rfl _ _ _ rfl G _ i rfl hS3 hi rfl rfl ?_;intro w10 hS4 hg4;go_frame)
      have hrg4:=hrg1.keep (hg4.block bk hrg1.lts.2.1 (by simp;omega)) (hg4.block rI hrg1.lts.1 (by simp;omega))
      go_roundw
      case rel =>
       refine ⟨_,cnt1,hrg4, ?_,(hv.trans (Save.grown (S:=fun c=>c = G ∨ c = rI) hg1 (Or.inr rfl)) (fun _ h _=>h)).trans (Save.grown (S:=fun c=>c = G ∨ c = rI) hg4 (Or.inl rfl)) (fun _ h _=>h)⟩
       have e:(fun j=>(f j && !l j) || j == i) = fun j=>f j && !(l j && !(j == i)):=by
        funext j
        by_cases hj:j = i
        ·subst hj;simp [hai]
        ·have:(j == i) = false:=by simpa using hj
         simp [this]
       rw [e] at hS4
       exact hS4
      case measure=>rw [hrg4.left_eq,hrg.left_eq];exact hlt1
   ·have q2:(x.kind == 2) = false:=by simpa using k2
    have hmf:=hmf.out
    rw [if_neg k2] at hmf
    replace k2:=Lib.hid k2
    simp only [q2] at hmf b5 hF5 g0 g1 g2 g3 g4 ⊢
    replace hmf:=Lib.hid hmf
    have m3':=(b5.cell (cell_lt m3)).trans m3
    have f5:=hF5.frozen 4
    have b6:=below_setCell (a:=⟨F,4,none⟩) b5 (Nat.le_of_eq hF.out) (.string x.body)
    obtain ⟨hF6,g0',g1',g2',g3',g4'⟩:=five_body hF5 g0 g1 g2 g3 (.string x.body)
    replace g0':=Lib.hid g0'
    replace g1':=Lib.hid g1'
    replace g2':=Lib.hid g2'
    replace g3':=Lib.hid g3'
    replace g4':=Lib.hid g4'
    go_upto_region 7 with fail
    generalize (((((w4.setCell ⟨F,0,none⟩ (.int .i64 (n:Int))).setCell ⟨F,1,none⟩ (.int .i64 x.two)).setCell ⟨F,2,none⟩ (.int .i64 ck)).setCell ⟨F,3,none⟩ (.bool false)).setCell ⟨F,4,none⟩ (.string ⟨#[]⟩)).setCell ⟨F,4,none⟩ (.string x.body) = w6 at *
    have hmf:=hmf.out
    have g0:=g0'.out
    have g1:=g1'.out
    have g2:=g2'.out
    have g3:=g3'.out
    have g4:=g4'.out
    have g0:w6.cell? ⟨F,0,none⟩ = some (.int .i64 m.src):=by rw [hmf];exact g0
    have g1:w6.cell? ⟨F,1,none⟩ = some (.int .i64 m.grp):=by rw [hmf];exact g1
    have g2:w6.cell? ⟨F,2,none⟩ = some (.int .i64 m.stamp):=by rw [hmf];exact g2
    have g3:w6.cell? ⟨F,3,none⟩ = some (.bool m.null):=by rw [hmf];exact g3
    have g4:w6.cell? ⟨F,4,none⟩ = some (.string m.body):=by rw [hmf];exact g4
    replace hmf:=Lib.hid hmf
    clear m3' f5 g0' g1' g2' g3' g4'
    have hmm:=@run_makeMap Tryz.prog
    have hFl:=cell_lt g0
    have hG:=SetAt.made w6
    have b7:=below_trans b6 (below_a1 w6 (.map #[] 0))
    have hs7:(w6.alloc (.map #[] 0)).heap.size = w6.heap.size + 1:=World.size_alloc _ _
    have g0:=((below_a1 w6 (.map #[] 0)).cell (cell_lt g0)).trans g0
    have g1:=((below_a1 w6 (.map #[] 0)).cell (cell_lt g1)).trans g1
    have g2:=((below_a1 w6 (.map #[] 0)).cell (cell_lt g2)).trans g2
    have g3:=((below_a1 w6 (.map #[] 0)).cell (cell_lt g3)).trans g3
    have g4:=((below_a1 w6 (.map #[] 0)).cell (cell_lt g4)).trans g4
    go_upto_region 8 with fail
    clear hmm
    generalize w6.alloc (.map #[] 0) = w7 at *
    obtain ⟨G,hGe⟩:∃ G,w6.heap.size = G:=⟨_,rfl⟩
    simp only [hGe] at hG hs7 hFl ⊢
    have hGs:w3.heap.size ≤ G:=by rw [← hGe];exact b6.size
    clear hGe
    have h7:=h3.below b7
    obtain ⟨gk,capk,bk,ek,_,hgc,hgl,k0,hbc,hbg,hSk,_⟩:=h7.K.set_at hnk
    cases ek
    have hbl:=hSk.lt
    have hgB:¬ gk = B:=fun e=>by have h:c gk = 4:=hgc;rw [e,h3.cB] at h;omega
    have m1:=(b7.cell (cell_lt m1)).trans m1
    have d5:=h7.c5
    have hSB:∀ o,Below w7.heap.size w7 o → o.cell? ⟨B,5,none⟩ = some (.slice (some ⟨gk,0,none⟩) s.known.length capk) ∧ o.cell? ⟨D,1,none⟩ = some (.int .i64 (n:Int)) ∧ o.cell? ⟨gk,n,none⟩ = some (.map (some bk)):=fun o k=>⟨(k.cell (cell_lt d5)).trans d5,(k.cell (cell_lt m1)).trans m1,(k.cell (cell_lt k0)).trans k0⟩
    obtain ⟨f,hf⟩:∃ f,s.known.getD n emptyS = f:=⟨_,rfl⟩
    rw [hf] at hSk
    have hSkd:SetAt (w7.drewN 1) bk f:=hSk
    refine wp_region_N (fun o=>o.cell? ⟨B,5,none⟩ = some (.slice (some ⟨gk,0,none⟩) s.known.length capk) ∧ o.cell? ⟨D,1,none⟩ = some (.int .i64 (n:Int)) ∧ o.cell? ⟨gk,n,none⟩ = some (.map (some bk))) 6 9 rfl (by kernel_rfl) (hSB _ (below_drewN w7 1)) (fun hSw=>?_)
    refine tk 0 ?_ rfl rfl (by kernel_rfl) (.inl ⟨by rfl, ?_⟩) hSw ?_
    rotate_left
    ·rintro w ⟨s0,s1,s2⟩;go_simp;try with_reducible rfl
    simp only [tkp,tkz,tks]
    refine tk 1 ?_ rfl rfl (by kernel_rfl) (.inl ⟨by rfl, ?_⟩) hSw ?_
    rotate_left
    ·rintro w ⟨s0,s1,s2⟩;go_simp;try with_reducible rfl
    simp only [tkp,tkz,tks]
    refine tk 2 ?_ rfl rfl (by kernel_rfl) (.inl ⟨by rfl, ?_⟩) hSw ?_
    rotate_left
    ·rintro w ⟨s0,s1,s2⟩;go_simp;try with_reducible rfl
    simp only [tkp,tkz,tks]
    refine tk 3 ?_ rfl rfl (by kernel_rfl) (.inl ⟨by rfl, ?_⟩) hSw ?_
    rotate_left
    ·rintro w ⟨s0,s1,s2⟩;go_simp;try with_reducible rfl
    simp only [tkp,tkz,tks]
    refine tk 4 ?_ rfl rfl (by kernel_rfl) (.inl ⟨by rfl, ?_⟩) hSw ?_
    rotate_left
    ·rintro w ⟨s0,s1,s2⟩;go_simp;try with_reducible rfl
    simp only [tkp,tkz,tks]
    refine tk 5 ?_ rfl rfl (by kernel_rfl) (.inl ⟨by rfl, ?_⟩) hSw ?_
    rotate_left
    ·rintro w ⟨s0,s1,s2⟩;go_simp;try with_reducible rfl
    simp only [tkp,tkz,tks]
    refine N_rest 6 3 (Nat.le_refl _) rfl (by kernel_rfl) ?_
    simp only [List.drop_succ_cons,List.drop_zero]
    clear hSB d5
    obtain ⟨k1,k2,k3⟩:=hSw
    clear k1 k2
    go_wp2_with (at_range;refine wpList_set_range _ rfl _ rfl bk f rfl hSkd ?_;intro w8 cnt0 hrg0 hg8 hsz8)
    go_frame
    have hrg0:SetRg w8 bk w7.heap.size f f cnt0:=hrg0
    have hsz8:w8.heap.size = w7.heap.size + 1:=hsz8
    have hg8':w7.grownBy w8 none:=⟨hg8.os,hg8.tape,hg8.output,hg8.size,hg8.block⟩
    have hG8:=hG.keep (hg8'.block G hG.lt (by simp))
    have hFG:F < G:=hFl
    have g0:=hg8'.cell g0 (by simp)
    have g1:=hg8'.cell g1 (by simp)
    have g2:=hg8'.cell g2 (by simp)
    have g3:=hg8'.cell g3 (by simp)
    have g4:=hg8'.cell g4 (by simp)
    have b8:Below w3.heap.size w3 w8:=b7.trans ((Save.grown0 (S:=fun _=>False) hg8').below (fun _ h=>h.elim) b7.size)
    have hbD:=hcD.out bk (by have h:c bk = 4:=hbc;omega)
    have hbG:bk < G:=by omega
    obtain ⟨rI,hrI⟩:∃ r,w7.heap.size = r:=⟨_,rfl⟩
    have hrJ:w7.drew.heap.size = rI:=hrI
    simp only [hrI] at hrg0 hsz8
    simp only [hrJ] at ⊢
    clear hrJ
    have hGr:G < rI:=by omega
    clear hrI hg8 hg8' hSk hSkd h7 k0 b7 hG hs7 b6 b5
    go_loopw [8] (fun _ wr=>∃ (l:St) (cnt:Nat),SetRg wr bk rI f l cnt ∧ SetAt wr G (fun j=>f j && !l j) ∧ Save (fun c=>c = G ∨ c = rI) w8 wr) (fun _ wr=>wr.rangeLeft bk rI)
    case atStart =>
     refine ⟨f,cnt0,hrg0, ?_,Save.refl _ _⟩
     have e:(fun j=>f j && !f j) = emptyS:=by funext j;simp [emptyS]
     rw [e]
     exact hG8
    case round =>
     obtain ⟨l,cnt,hrg,hSr,hv⟩:=hrel
     go_wp2_with (at_next;refine wpList_set_next _ rfl _ rfl bk rI f l cnt rfl hrg ?_ ?_)
     ·intro hl0
      have e:(fun j=>f j && !l j) = f:=by funext j;rw [hl0 j];simp
      rw [e] at hSr
      have b9:Below w3.heap.size w3 wr:=b8.trans (hv.below (fun b h=>by omega) b8.size)
      have g0:=hv.cell g0 (by simp;omega)
      have g1:=hv.cell g1 (by simp;omega)
      have g2:=hv.cell g2 (by simp;omega)
      have g3:=hv.cell g3 (by simp;omega)
      have g4:=hv.cell g4 (by simp;omega)
      have h9:=h3.below b9
      clear hrg hv hG8 hrg0 b8 e
      obtain ⟨i0,hi0,hz0,hz1,hz2⟩:=info_parts infoCMsg
      obtain ⟨j0,hj0,jz0,jz1,jz2⟩:=info_parts infoCSet
      have d3:=h9.c3
      go_upto_region 12 with fail
      have hSB:∀ o,Below wr.heap.size wr o → o.cell? ⟨B,3,none⟩ = some (.slice sa s.sent.length scap) ∧ o.cell? ⟨F,0,none⟩ = some (.int .i64 m.src) ∧ o.cell? ⟨F,1,none⟩ = some (.int .i64 m.grp) ∧ o.cell? ⟨F,2,none⟩ = some (.int .i64 m.stamp) ∧ o.cell? ⟨F,3,none⟩ = some (.bool m.null) ∧ o.cell? ⟨F,4,none⟩ = some (.string m.body):=fun o k=>⟨(k.cell (cell_lt d3)).trans d3,(k.cell (cell_lt g0)).trans g0,(k.cell (cell_lt g1)).trans g1,(k.cell (cell_lt g2)).trans g2,(k.cell (cell_lt g3)).trans g3,(k.cell (cell_lt g4)).trans g4⟩
      refine wp_region_N (fun o=>o.cell? ⟨B,3,none⟩ = some (.slice sa s.sent.length scap) ∧ o.cell? ⟨F,0,none⟩ = some (.int .i64 m.src) ∧ o.cell? ⟨F,1,none⟩ = some (.int .i64 m.grp) ∧ o.cell? ⟨F,2,none⟩ = some (.int .i64 m.stamp) ∧ o.cell? ⟨F,3,none⟩ = some (.bool m.null) ∧ o.cell? ⟨F,4,none⟩ = some (.string m.body)) 8 11 rfl (by kernel_rfl) (hSB _ (below_drewN wr 1)) (fun hSw=>?_)
      refine tk 0 ?_ rfl rfl (by kernel_rfl) (.inl ⟨by rfl, ?_⟩) hSw ?_
      rotate_left
      ·rintro w ⟨s0,s1,s2,s3,s4,s5⟩;go_simp;try with_reducible rfl
      simp only [tkp,tkz,tks]
      refine tk 1 ?_ rfl rfl (by kernel_rfl) (.inl ⟨by rfl, ?_⟩) hSw ?_
      rotate_left
      ·rintro w ⟨s0,s1,s2,s3,s4,s5⟩;go_simp;try with_reducible rfl
      simp only [tkp,tkz,tks]
      refine tk 2 ?_ rfl rfl (by kernel_rfl) (.inl ⟨by rfl, ?_⟩) hSw ?_
      rotate_left
      ·rintro w ⟨s0,s1,s2,s3,s4,s5⟩;go_simp;try with_reducible rfl
      simp only [tkp,tkz,tks]
      refine tk 3 ?_ rfl rfl (by kernel_rfl) (.inl ⟨by rfl, ?_⟩) hSw ?_
      rotate_left
      ·rintro w ⟨s0,s1,s2,s3,s4,s5⟩;go_simp;try with_reducible rfl
      simp only [tkp,tkz,tks]
      refine tk 4 ?_ rfl rfl (by kernel_rfl) (.inl ⟨by rfl, ?_⟩) hSw ?_
      rotate_left
      ·rintro w ⟨s0,s1,s2,s3,s4,s5⟩;go_simp;try with_reducible rfl
      simp only [tkp,tkz,tks]
      refine tk 5 ?_ rfl rfl (by kernel_rfl) (.inl ⟨by rfl, ?_⟩) hSw ?_
      rotate_left
      ·rintro w ⟨s0,s1,s2,s3,s4,s5⟩;go_simp;try with_reducible rfl
      simp only [tkp,tkz,tks]
      refine N_one' (i:=6) (by kernel_rfl) rfl ?_
      go_wp2_with fail
      have bR:Below wr.heap.size wr (wr.alloc (.cells #[.int .i64 m.src, .int .i64 m.grp, .int .i64 m.stamp, .bool m.null, .string m.body] 62)).drew:=below_trans (below_a1 wr _) (below_drewN _ 1)
      refine QK_normal ⟨?_, ?_⟩
      ·first | exact fun _=>hSB _ bR | exact hSB _ bR
      have h10:=h9.below bR
      have hSG:=hSr.keep (bR.block G hSr.lt)
      have hnew:∀ j u,m.cells[j]? = some u → (wr.alloc (.cells #[.int .i64 m.src, .int .i64 m.grp, .int .i64 m.stamp, .bool m.null, .string m.body] 62)).drew.cell? ((⟨wr.heap.size,0,none⟩:Addr).add j) = some u:=cells_new wr m.cells.toArray 62
      have hSw:=hSB _ bR
      have b10:=b9.trans (bR.mono b9.size)
      clear hSB d3 g0 g1 g2 g3 g4
      generalize (wr.alloc (.cells #[.int .i64 m.src, .int .i64 m.grp, .int .i64 m.stamp, .bool m.null, .string m.body] 62)).drew = w10 at *
      obtain ⟨R,hR⟩:∃ R,wr.heap.size = R:=⟨_,rfl⟩
      simp only [hR] at hnew ⊢
      clear hR
      have hfit:=hfits.out
      refine N_one' (i:=7) (by kernel_rfl) rfl ?_
      go_wp2_with (at_builtin;refine wpList_push _ rfl _ _ 50 rfl 62 i0 _ 5 48 Tryz.underlying50 hi0 hz0 hz1 hz2 rfl (by decide) MEl.stays _ rfl (fun b=>c b = 2) s.sent h10.S (fun b hb=>(h10.b b (by have hb:c b = 2:=hb;omega)).2) ⟨R,0,none⟩ _ rfl m.cells rfl hnew (by simp [M.cells,Value.oneCell']) (fun _=>False) m ⟨rfl,hfit⟩ (fun _ h=>h.elim) (by omega) (by omega) (by omega) ?_;intro v11 w11 hp;obtain ⟨⟨S11,hO11,hS11⟩,hz11,hL11,hB11,a11,cap11,rfl⟩:=hp)
      have hz0':∀ b,D ≤ b → c b = 0:=fun b hb=>Classical.byContradiction fun hn=>by have:=hcD.out b hn;omega
      have hk11:∀ b,b < w10.heap.size → c b = 0 → w11.heap[b]? = w10.heap[b]?:=fun b hb h0=>hL11 b ⟨hb,by omega⟩
      have hcl:∀ (a:Addr) (v:Value),w10.cell? a = some v → c a.block = 0 → w11.cell? a = some v:=fun a v h h0=>(World.cell?_of_block (hk11 a.block (cell_lt h) h0)).trans h
      refine QK_normal ⟨?_, ?_⟩
      ·have hFD:D ≤ F:=by have:=hF.out;omega
       have hh:w11.cell? ⟨B,3,none⟩ = some (.slice sa s.sent.length scap) ∧ w11.cell? ⟨F,0,none⟩ = some (.int .i64 m.src) ∧ w11.cell? ⟨F,1,none⟩ = some (.int .i64 m.grp) ∧ w11.cell? ⟨F,2,none⟩ = some (.int .i64 m.stamp) ∧ w11.cell? ⟨F,3,none⟩ = some (.bool m.null) ∧ w11.cell? ⟨F,4,none⟩ = some (.string m.body):=⟨hcl _ _ hSw.1 h3.cB,hcl _ _ hSw.2.1 (hz0' F hFD),hcl _ _ hSw.2.2.1 (hz0' F hFD),hcl _ _ hSw.2.2.2.1 (hz0' F hFD),hcl _ _ hSw.2.2.2.2.1 (hz0' F hFD),hcl _ _ hSw.2.2.2.2.2 (hz0' F hFD)⟩
       first | exact fun _=>hh | exact hh
      have d3:=hcl _ _ hSw.1 h3.cB
      have f3:=(h10.box.same (hk11 B h10.lt h3.cB)).frozen 3
      obtain ⟨c12,h12,hc12⟩:=h10.setS hL11 hz11 hO11 (fun b hb=>⟨(hS11 b hb).1.elim Or.inl (fun h=>h.elim (fun h=>h.elim) (fun h=>Or.inr (by omega))),(hS11 b hb).2⟩)
      have hk12:∀ b,b < w10.heap.size → c b = 0 → b ≠ B → (w11.setCell ⟨B,3,none⟩ (.slice a11 (s.sent.length + 1) cap11)).heap[b]? = w10.heap[b]?:=fun b hb h0 hB=>(Go.Deep.blk_setCell_other _ _ _ _ hB).trans (hk11 b hb h0)
      have b12:Below base w10 (w11.setCell ⟨B,3,none⟩ (.slice a11 (s.sent.length + 1) cap11)):=below_setCell (hB11 base (fun b hb=>(h10.b b (by have hb:c b = 2:=hb;omega)).1) (by have:=h10.lt;omega)) hbs _
      have hs12:w10.heap.size ≤ (w11.setCell ⟨B,3,none⟩ (.slice a11 (s.sent.length + 1) cap11)).heap.size:=b12.size
      refine N_rest 8 3 (Nat.le_refl _) rfl (by kernel_rfl) ?_
      simp only [List.drop_succ_cons,List.drop_zero]
      replace h12:=Lib.hid h12
      clear hSw hnew hL11 hO11 hS11 hB11 hk11 hcl h10
      go_upto_region 13 with fail
      generalize w11.setCell ⟨B,3,none⟩ (.slice a11 (s.sent.length + 1) cap11) = w12 at *
      have h12:=h12.out
      clear d3 f3
      have h13:=h12.below (below_a1 w12 (.cells #[.map (some G)] 90))
      have d4:=h12.c4
      have hs13:(w12.alloc (.cells #[.map (some G)] 90)).heap.size = w12.heap.size + 1:=World.size_alloc _ _
      have hGl:G < w10.heap.size:=hSG.lt
      have hGc:c G = 0:=hz0' G (by omega)
      have hGB:G ≠ B:=by omega
      have hGc12:c12 G = 0:=Classical.byContradiction fun hn=>(hc12 G hn).elim (fun h=>h hGc) (fun h=>by omega)
      have hSG13:SetAt (w12.alloc (.cells #[.map (some G)] 90)) G f:=(hSG.keep (hk12 G hGl hGc hGB)).keep ((below_a1 w12 (.cells #[.map (some G)] 90)).block G (by omega))
      have hA13:=h13.A
      have hfz4:=h13.box.frozen 4
      go_upto_region 14 with (at_builtin;refine wpList_push _ rfl _ _ 86 rfl 90 j0 _ 1 8 Tryz.underlying86 hj0 jz0 jz1 jz2 rfl (by decide) SetEl.stays _ rfl (fun b=>c12 b = 3) s.ahead hA13 (fun b hb=>(h13.b b (by have hb:c12 b = 3:=hb;omega)).2) ⟨w12.heap.size,0,none⟩ _ rfl [.map (some G)] rfl (cells_new _ _ _) (by simp [Value.oneCell']) (fun b=>b = G) f ⟨G,rfl,rfl,hSG13⟩ (fun b hb=>⟨fun h=>by have h:c12 b = 3:=h;rw [hb,hGc12] at h;omega,by rw [hb];omega⟩) (by rw [hB.la];omega) (by omega) (by omega) ?_;intro v14 w14 hp;obtain ⟨⟨S14,hO14,hS14⟩,hz14,hL14,hB14,a14,cap14,rfl⟩:=hp;have fz:=(h13.box.same (hL14 B ⟨h13.lt,fun h=>by have h:c12 B = 3:=h;rw [h13.cB] at h;omega⟩)).frozen 4;have cz:=(World.cell?_of_block (w:=w12.alloc (.cells #[.map (some G)] 90)) (hL14 B ⟨h13.lt,fun h=>by have h:c12 B = 3:=h;rw [h13.cB] at h;omega⟩)).trans h13.c4)
      obtain ⟨c14,h14,hc14⟩:=h13.setA hL14 hz14 hO14 (fun b hb=>by
       have h1:=(hS14 b hb).1
       have h2:=(hS14 b hb).2
       have h3:=h12.lt
       have h4:=h12.B0
       rcases h1 with h1 | h1 | h1
       ·have h1:c12 b = 3:=h1
        exact ⟨Or.inl h1,fun e=>by rw [e,h12.cB] at h1;omega,(h12.b b (by omega)).1,h2⟩
       ·have h1:b = G:=h1
        exact ⟨Or.inr (by rw [h1];exact hGc12),by omega,by omega,h2⟩
       ·have h5:c12 b = 0:=Classical.byContradiction fun hn=>by have:=(h12.b b hn).2;omega
        exact ⟨Or.inr h5,by omega,by omega,h2⟩)
      have hk14:∀ b,b < w12.heap.size → c12 b = 0 → b ≠ B → (w14.setCell ⟨B,4,none⟩ (.slice a14 (s.ahead.length + 1) cap14)).heap[b]? = w12.heap[b]?:=fun b hb h0 hB =>
       ((Go.Deep.blk_setCell_other _ _ _ _ hB).trans (hL14 b ⟨by omega,fun h=>by have h:c12 b = 3:=h;omega⟩)).trans ((below_a1 w12 (.cells #[.map (some G)] 90)).block b hb)
      have b14:Below base w12 (w14.setCell ⟨B,4,none⟩ (.slice a14 (s.ahead.length + 1) cap14)):=(((below_a1 w12 (.cells #[.map (some G)] 90)).mono (by have:=h12.lt;have:=h12.B0;omega))).trans (below_setCell (hB14 base (fun b hb=>(h13.b b (by have hb:c12 b = 3:=hb;omega)).1) (by have:=h13.lt;have:=h13.B0;omega)) hbs _)
      have hs14:w12.heap.size ≤ (w14.setCell ⟨B,4,none⟩ (.slice a14 (s.ahead.length + 1) cap14)).heap.size:=b14.size
      have hz14':∀ b,b < w12.heap.size → c12 b = 0 → b ≠ G → c14 b = 0:=fun b hb h0 hG=>Classical.byContradiction fun hn=>(hc14 b hn).elim (fun h=>h h0) (fun h=>by
       rcases (hS14 b h).1 with h1 | h1 | h1
       ·have h1:c12 b = 3:=h1
        omega
       ·exact hG h1
       ·omega)
      clear fz cz d4 h13 hL14 hO14 hS14 hB14 hA13 hfz4 hSG13 hz14
      generalize w14.setCell ⟨B,4,none⟩ (.slice a14 (s.ahead.length + 1) cap14) = w15 at *
      have hs10:=b10.size
      have hkeep:∀ b,b < w3.heap.size → c b = 0 → b ≠ B → w15.heap[b]? = w3.heap[b]?:=fun b hb h0 hB =>
       (hk14 b (by omega) (Classical.byContradiction fun hn=>(hc12 b hn).elim (fun h=>h h0) (fun h=>by omega)) hB).trans ((hk12 b (by omega) h0 hB).trans (b10.block b hb))
      have hc0:∀ b,b < w3.heap.size → c b = 0 → c14 b = 0:=fun b hb h0=>hz14' b (by omega) (Classical.byContradiction fun hn=>(hc12 b hn).elim (fun h=>h h0) (fun h=>by omega)) (by omega)
      obtain ⟨_,q1,_,_⟩:=id hA3
      simp only [Nat.zero_add] at q1
      rw [e1.out] at q1
      have q1:=(World.cell?_of_block (w:=w3) (hkeep D hAl3 (hz0' D (Nat.le_refl _)) (by omega))).trans q1
      have d3:=h14.c3
      have hfa:(s.ahead ++ [f]).getD s.sent.length emptyS = f:=by rw [getD_appM (by rw [hB.la];exact Nat.le_refl _),if_pos hB.la.symm]
      have hwl1:IntKind.i64.wrap ((s.sent.length:Int) + 1 - 1) = (s.sent.length:Int):=IntWalk.i64_in _ (by omega) |>.trans (by omega)
      have hwl2:IntKind.i64.wrap (s.sent.length:Int) = (s.sent.length:Int):=IntWalk.i64_in _ (by omega)
      have hSB:∀ o,Below w15.heap.size w15 o → o.cell? ⟨D,1,none⟩ = some (.int .i64 (n:Int)) ∧ o.cell? ⟨B,3,none⟩ = some (.slice a11 (s.sent.length + 1) cap11):=fun o k=>⟨(k.cell (cell_lt q1)).trans q1,(k.cell (cell_lt d3)).trans d3⟩
      have hdis:Dis (fun b=>c14 b = 4) (fun b=>c14 b = 3):=fun b h h'=>by have h:c14 b = 4:=h;have h':c14 b = 3:=h';omega
      have hh:=h14.below (below_drewN w15 1)
      have hLn:=Learn_c (n:=n) (k:=s.sent.length) hh.c5 hh.c4 hh.K hh.A hdis (fun e=>by have e:c14 B = 4:=e;have:=h14.cB;omega) (fun b e=>(hh.b b (by have e:c14 b = 4:=e;omega)).2) hnk (by rw [List.length_append,hB.la];simp) (by omega)
      rw [hfa,hf] at hLn
      refine wp_region_N (fun o=>o.cell? ⟨D,1,none⟩ = some (.int .i64 (n:Int)) ∧ o.cell? ⟨B,3,none⟩ = some (.slice a11 (s.sent.length + 1) cap11)) 9 10 rfl (by kernel_rfl) (hSB _ (below_drewN w15 1)) (fun hSw=>?_)
      refine tk 0 ?_ rfl rfl (by kernel_rfl) (.inl ⟨by rfl, ?_⟩) hSw ?_
      rotate_left
      ·rintro w ⟨s0,s1⟩;go_simp;try with_reducible rfl
      simp only [tkp,tkz,tks]
      refine tk 1 ?_ rfl rfl (by kernel_rfl) (.inl ⟨by rfl, ?_⟩) hSw ?_
      rotate_left
      ·rintro w ⟨s0,s1⟩;go_simp;try with_reducible rfl
      simp only [tkp,tkz,tks]
      refine tk 2 ?_ rfl rfl (by kernel_rfl) (.inl ⟨by rfl, ?_⟩) hSw ?_
      rotate_left
      ·rintro w ⟨s0,s1⟩;go_simp;try with_reducible rfl
      simp only [tkp,tkz,tks]
      refine tk 3 ?_ rfl rfl (by kernel_rfl) (.inl ⟨by rfl, ?_⟩) hSw ?_
      rotate_left
      ·rintro w ⟨s0,s1⟩;go_simp;try with_reducible rfl
      simp only [tkp,tkz,tks]
      refine tk 4 ?_ rfl rfl (by kernel_rfl) (.inl ⟨by rfl, ?_⟩) hSw ?_
      rotate_left
      ·rintro w ⟨s0,s1⟩;go_simp;try with_reducible rfl
      simp only [tkp,tkz,tks]
      refine tk 5 ?_ rfl rfl (by kernel_rfl) (.inl ⟨by rfl, ?_⟩) hSw ?_
      rotate_left
      ·rintro w ⟨s0,s1⟩;go_simp;try with_reducible rfl
      simp only [tkp,tkz,tks]
      refine tk 6 ?_ rfl rfl (by kernel_rfl) (.inl ⟨by rfl, ?_⟩) hSw ?_
      rotate_left
      ·rintro w ⟨s0,s1⟩;go_simp;try with_reducible rfl
      simp only [tkp,tkz,tks]
      refine tk 7 ?_ rfl rfl (by kernel_rfl) (.inl ⟨by rfl, ?_⟩) hSw ?_
      rotate_left
      ·rintro w ⟨s0,s1⟩;go_simp;try with_reducible rfl
      simp only [tkp,tkz,tks]
      refine tk 8 ?_ rfl rfl (by kernel_rfl) (.inl ⟨by rfl, ?_⟩) hSw ?_
      rotate_left
      ·rintro w ⟨s0,s1⟩;go_simp;try with_reducible rfl
      simp only [tkp,tkz,tks]
      refine N_rest 9 1 (Nat.le_refl _) rfl (by kernel_rfl) ?_
      simp only [List.drop_succ_cons,List.drop_zero]
      go_wp2_with fail
      refine hLn.mono ?_
      rintro e w16 ⟨rfl,hK16,hv16⟩
      have hs15:w3.heap.size ≤ w15.heap.size:=by omega
      have hkp:∀ b,b < w3.heap.size → D ≤ b → w16.heap[b]? = w3.heap[b]?:=fun b hb hD =>
       (hv16.block b (Nat.lt_of_lt_of_le hb hs15) (fun e=>by have e:c14 b = 4:=e;have:=hc0 b hb (hz0' b hD);omega)).trans (hkeep b hb (hz0' b hD) (by omega))
      have hQ5:=hQ3.keep (hkp E hQ3.lt (by omega))
      have hO5:=hO3.keep (w':=w16) (fun b hb=>by
       have h1:=hS3 b hb
       exact hkp b h1.2.1 (by omega))
      have h5:=hh.learned hK16 hv16
      have hs16:w15.heap.size ≤ w16.heap.size:=hv16.size
      have hw5:Below base w w16:=hw3.trans ((b10.mono (by omega)).trans (b12.trans (b14.trans ((below_drewN w15 1).mono (by omega) |>.trans (hv16.below (fun b e=>(hh.b b (by have e:c14 b = 4:=e;omega)).1) (show base ≤ w15.heap.size by omega))))))
      have hS5:∀ b,S1 b → c14 b = 0 ∧ base ≤ b ∧ b < w16.heap.size ∧ b ≠ B:=fun b hb=>by
       have h1:=hS3 b hb
       exact ⟨hc0 b h1.2.1 (hz0' b (by omega)),by omega,by omega,by omega⟩
      have hSt:s' = ⟨r.2,s.sent ++ [m],s.ahead ++ [f],s.known.set n (learnS f s.sent.length f)⟩:=by
       rw [hSt]
       unfold Sc.send
       rw [hf]
      clear hkp hkeep hc0 hz0' hSB hSw hh hLn hK16 hv16 h14 hQ3 hO3 q1 d3 hk12 hk14 hc12 hc14 hz14' hSG h9 h12
      obtain ⟨_,y0,y1,y2⟩:=id hQ5
      have f0:=h5.box.frozen 0
      have f1:=h5.box.frozen 1
      have f2:=h5.box.frozen 2
      have z0:=h5.c0
      have z1:=h5.c1
      have z2:=h5.c2
      obtain ⟨c6,h6⟩:=h5.setX hO5 hS5
      have hw6:Below base w (((w16.setCell ⟨B,0,none⟩ (.slice ga1 r.2.groups.length gcap1)).setCell ⟨B,1,none⟩ (.slice (some ⟨gN,0,none⟩) r.2.nodes.length ncap1)).setCell ⟨B,2,none⟩ (.slice wa1 r.2.wires.length wcap1)):=set3_below hw5 hbs
      replace h6:=Lib.hid h6
      replace hw6:=Lib.hid hw6
      replace hSt:=Lib.hid hSt
      clear h5 hw5 hO5
      go_wp2_with fail
      refine bodyPost_end (v:=.tuple #[]) (by simp [results,Tryz.f48]) rfl ?_
      rw [← hP.out,hSt.out]
      exact ⟨rfl,⟨_,_,_,_,_,_,_,h6.out⟩,hw6.out⟩
     ·intro i cc w9 cnt1 hli hrg1 hlt1 hg1 hs1 hen
      obtain ⟨hai,hi⟩:=hrg.bound hli
      have hS3:=hSr.keep (hg1.block G hSr.lt (by simp;omega))
      go_wp2_with (at_mapUpdate;refine wpList_set_put _ rfl _ _ _ rfl G _ i rfl hS3 hi rfl rfl ?_;intro w10 hS4 hg4;go_frame)
      have hrg4:=hrg1.keep (hg4.block bk hrg1.lts.2.1 (by simp;omega)) (hg4.block rI hrg1.lts.1 (by simp;omega))
      go_roundw
      case rel =>
       refine ⟨_,cnt1,hrg4, ?_,(hv.trans (Save.grown (S:=fun c=>c = G ∨ c = rI) hg1 (Or.inr rfl)) (fun _ h _=>h)).trans (Save.grown (S:=fun c=>c = G ∨ c = rI) hg4 (Or.inl rfl)) (fun _ h _=>h)⟩
       have e:(fun j=>(f j && !l j) || j == i) = fun j=>f j && !(l j && !(j == i)):=by
        funext j
        by_cases hj:j = i
        ·subst hj;simp [hai]
        ·have:(j == i) = false:=by simpa using hj
         simp [this]
       rw [e] at hS4
       exact hS4
      case measure=>rw [hrg4.left_eq,hrg.left_eq];exact hlt1
 ·go_wp2_with fail
  have hQ:OBox (w0.alloc (.cells #[.slice none 0 0, .slice none 0 0, .slice none 0 0] 37)).drew w0.heap.size 37 (.slice none 0 0) (.slice none 0 0) (.slice none 0 0):=OBox.new w0 37 (.slice none 0 0) (.slice none 0 0) (.slice none 0 0)
  have bq:Below w0.heap.size w0 (w0.alloc (.cells #[.slice none 0 0, .slice none 0 0, .slice none 0 0] 37)).drew:=below_trans (below_a1 w0 (.cells #[.slice none 0 0, .slice none 0 0, .slice none 0 0] 37)) (below_drewN (w0.alloc (.cells #[.slice none 0 0, .slice none 0 0, .slice none 0 0] 37)) 1)
  have hEs:=Nat.le_refl w0.heap.size
  refine QK_normal ⟨?_, ?_⟩
  ·first | exact fun _=>hSB _ bq | exact hSB _ bq
  clear hSw
  generalize (w0.alloc (.cells #[.slice none 0 0, .slice none 0 0, .slice none 0 0] 37)).drew = w1 at *
  obtain ⟨E,hE⟩:∃ E,w0.heap.size = E:=⟨_,rfl⟩
  rw [hE] at hQ
  have hEs:w0.heap.size ≤ E:=by omega
  simp only [hE] at ⊢
  clear hE
  refine N_one' (i:=5) (by kernel_rfl) rfl ?_
  go_wp2_with fail
  refine (hDo.out _ bq).mono ?_
  rintro e w2 ⟨gv1,nv1,wv1,S1,rfl,hO1,hS1,b1⟩
  obtain ⟨pg,pn,pw⟩:=hO1.parts
  obtain ⟨_,ga1,gcap1,rfl,_⟩:=pg.open
  obtain ⟨_,na1,ncap1,rfl,_⟩:=pn.form
  obtain ⟨_,wa1,wcap1,rfl,_⟩:=pw.form
  clear pg pn pw
  have hO2:=hO1
  have hQl:=hQ.lt
  have hS2:∀ b,S1 b → w0.heap.size ≤ b ∧ b < w2.heap.size ∧ b ≠ E:=fun b hb=>by
   have h:=hS1 b hb
   have h2:=bq.size
   exact ⟨by omega,h.2,by omega⟩
  have hQ:=hQ.keep (b1.block _ hQl)
  have b2:=below_trans bq b1
  clear hO1 hS1 b1 bq hQl
  go_wp2_with fail
  refine QK_normal ⟨?_, ?_⟩
  ·first | exact fun _=>hSB _ b2 | exact hSB _ b2
  have hSw:=hSB _ b2
  refine tk 6 ?_ rfl rfl (by kernel_rfl) (.inl ⟨by rfl, ?_⟩) hSw ?_
  rotate_left
  ·rintro w ⟨s0,s1,s2,s3,s4,s5,s6⟩;go_simp;try with_reducible rfl
  simp only [tkp,tkz,tks]
  refine tk 7 ?_ rfl rfl (by kernel_rfl) (.inl ⟨by rfl, ?_⟩) hSw ?_
  rotate_left
  ·rintro w ⟨s0,s1,s2,s3,s4,s5,s6⟩;go_simp;try with_reducible rfl
  simp only [tkp,tkz,tks]
  refine tk 8 ?_ rfl rfl (by kernel_rfl) (.inl ⟨by rfl, ?_⟩) hSw ?_
  rotate_left
  ·rintro w ⟨s0,s1,s2,s3,s4,s5,s6⟩;go_simp;try with_reducible rfl
  simp only [tkp,tkz,tks]
  clear hSw
  refine N_one' (i:=10) (by kernel_rfl) rfl ?_
  obtain ⟨hf0,hf1,hf2,z0,z1,z2⟩:=hQ.all
  go_wp2_with fail
  have hQ3:=hQ.put (.slice ga1 r.2.groups.length gcap1) (.slice na1 r.2.nodes.length ncap1) (.slice wa1 r.2.wires.length wcap1)
  have b3:=set3_below (u:=(.slice ga1 r.2.groups.length gcap1)) (v:=(.slice na1 r.2.nodes.length ncap1)) (x:=(.slice wa1 r.2.wires.length wcap1)) b2 hEs
  have hO3:=hO2.keep (w':=((w2.setCell ⟨E,0,none⟩ (.slice ga1 r.2.groups.length gcap1)).setCell ⟨E,1,none⟩ (.slice na1 r.2.nodes.length ncap1)).setCell ⟨E,2,none⟩ (.slice wa1 r.2.wires.length wcap1)) (fun b hb=>set3_blk (hS2 b hb).2.2)
  have hz3:(((w2.setCell ⟨E,0,none⟩ (.slice ga1 r.2.groups.length gcap1)).setCell ⟨E,1,none⟩ (.slice na1 r.2.nodes.length ncap1)).setCell ⟨E,2,none⟩ (.slice wa1 r.2.wires.length wcap1)).heap.size = w2.heap.size:=set3_size
  refine QK_normal ⟨?_, ?_⟩
  ·first | exact fun _=>hSB _ b3 | exact hSB _ b3
  clear hf0 hf1 hf2 z0 z1 z2 hQ b2 hO2
  generalize ((w2.setCell ⟨E,0,none⟩ (.slice ga1 r.2.groups.length gcap1)).setCell ⟨E,1,none⟩ (.slice na1 r.2.nodes.length ncap1)).setCell ⟨E,2,none⟩ (.slice wa1 r.2.wires.length wcap1) = w3 at *
  have hS3:∀ b,S1 b → w0.heap.size ≤ b ∧ b < w3.heap.size ∧ b ≠ E:=fun b hb=>by have:=hS2 b hb;omega
  clear hS2 hz3
  refine N_rest 11 1 (Nat.le_refl _) rfl (by kernel_rfl) ?_
  simp only [List.drop_succ_cons,List.drop_zero]
  have h3:=h1.below b3
  have hA3:=hA.below b3 hAl
  have hAl3:=Nat.lt_of_lt_of_le hAl b3.size
  have hw3:Below base w w3:=by
   exact (bA.trans (b3.mono (by omega))).mono (by omega)
  clear h1 hA hSB hDo
  by_cases h0:r.1 = 0
  rotate_left
  ·have hne:(r.1 != 0) = true:=by simpa using h0
   rw [if_neg h0] at hSt
   replace h0:=Lib.hid h0
   replace hSt:=Lib.hid hSt
   go_wp2_with fail
   refine bodyPost_ret (v:=.tuple #[]) (by simp [results,Tryz.f48]) rfl ?_
   rw [← hP.out,hSt.out]
   exact ⟨rfl,⟨_,_,_,_,_,_,_,h3⟩,hw3⟩
  have hne:(r.1 != 0) = false:=by simpa using h0
  rw [if_pos h0] at hSt
  have hw:=hW.out h0
  replace h0:=Lib.hid h0
  clear hW
  by_cases hk:x.kind = 3
  ·have hk3:(x.kind == 3) = true:=by simpa using hk
   rw [if_pos hk] at hSt
   cases hw with
   | send n k3 e1 hS=>exact absurd hk (by omega)
   | move a b m k3 e1 e2 hM =>
    obtain ⟨l,hl,_⟩:=hM.first
    obtain ⟨ha,hb,_⟩:=hM.at_
    rw [firstW_mv e1 e2 hM,e2,Int.toNat_natCast] at hSt
    obtain ⟨i1,i2,i3⟩:=idxM_mem (hB.gh.onw a b m ha hb (mv_mem hM))
    obtain ⟨i,hi⟩:=Int.eq_ofNat_of_zero_le i3
    have hIx:=fun o (k:Below w3.heap.size w3 o)=>IndexM_c ((h3.below k).S.msgs) m
    rw [hi,Int.toNat_natCast] at hSt i1
    rw [hi] at hIx
    have haw:a < s.X.wires.length:=by rw [hB.inv.right.nw];exact ha
    have hbr:b < (s.X.wires.getD a []).length:=by rw [hB.inv.right.row a ha];exact hb
    have hbk:b < s.known.length:=by rw [hB.lk];exact hb
    have hia:i < s.ahead.length:=by rw [hB.la];exact i1
    have hi100:i < 100:=by omega
    obtain ⟨_,_,hWr⟩:=h3.X.parts
    obtain ⟨bw,ow,cw,u1,e5,_,r1,hu1⟩:=hWr.row haw
    cases e5
    have hl':(s.X.wires.getD a []).getD b [] = m :: l:=hl
    obtain ⟨row,HR⟩:∃ row,s.X.wires.getD a [] = row:=⟨_,rfl⟩
    rw [HR] at hbr hu1 hl'
    clear HR hl
    obtain ⟨b2,o2,c2,v2,e6,_,t1,hI2⟩:=hu1.at hbr
    cases e6
    rw [hl'] at hI2
    obtain ⟨_,am,cm,rfl,_,hcm⟩:=hI2.open
    obtain ⟨bm,om,rfl,hcc⟩:=hcm (by simp)
    obtain ⟨n0,n1,n2,n3,n4⟩:=hcc 0 (by simp)
    have hm0:(m :: l).getD 0 M.zero = m:=rfl
    rw [hm0] at n0 n1 n2 n3 n4
    simp only [Nat.zero_mul,Nat.add_zero] at n0 n1 n2 n3 n4
    obtain ⟨m0,m1,m2,m3⟩:=id hA3
    simp only [Nat.zero_add] at m0 m1 m2 m3
    rw [e1] at m1
    rw [e2] at m2
    have d0:=h3.c2
    have d1:=h3.c3
    have hdis:Dis (fun b=>c b = 4) (fun b=>c b = 3):=fun b h h'=>by have h:c b = 4:=h;have h':c b = 3:=h';omega
    clear hcm hcc hI2 hu1 hWr
    go_upto_region 16 with fail
    have hSB:∀ o,Below w3.heap.size w3 o → o.cell? ⟨B,2,none⟩ = some (.slice (some ⟨bw,ow,none⟩) s.X.wires.length wcap) ∧ o.cell? ⟨B,3,none⟩ = some (.slice sa s.sent.length scap) ∧ o.cell? ⟨bw,ow + a,none⟩ = some (.slice (some ⟨b2,o2,none⟩) row.length c2) ∧
      o.cell? ⟨b2,o2 + b,none⟩ = some (.slice (some ⟨bm,om,none⟩) (m :: l).length cm) ∧ o.cell? ⟨bm,om,none⟩ = some (.int .i64 m.src) ∧ o.cell? ⟨bm,om + 1,none⟩ = some (.int .i64 m.grp) ∧ o.cell? ⟨bm,om + 2,none⟩ = some (.int .i64 m.stamp) ∧ o.cell? ⟨bm,om + 3,none⟩ = some (.bool m.null) ∧ o.cell? ⟨bm,om + 4,none⟩ = some (.string m.body) ∧
      o.cell? ⟨D,1,none⟩ = some (.int .i64 (a:Int)) ∧ o.cell? ⟨D,2,none⟩ = some (.int .i64 (b:Int)):=fun o k =>
     ⟨(k.cell (cell_lt d0)).trans d0,(k.cell (cell_lt d1)).trans d1,(k.cell (cell_lt r1)).trans r1,(k.cell (cell_lt t1)).trans t1,(k.cell (cell_lt n0)).trans n0,(k.cell (cell_lt n1)).trans n1,(k.cell (cell_lt n2)).trans n2,(k.cell (cell_lt n3)).trans n3,(k.cell (cell_lt n4)).trans n4,(k.cell (cell_lt m1)).trans m1,(k.cell (cell_lt m2)).trans m2⟩
    refine wp_region_N (fun o=>o.cell? ⟨B,2,none⟩ = some (.slice (some ⟨bw,ow,none⟩) s.X.wires.length wcap) ∧ o.cell? ⟨B,3,none⟩ = some (.slice sa s.sent.length scap) ∧ o.cell? ⟨bw,ow + a,none⟩ = some (.slice (some ⟨b2,o2,none⟩) row.length c2) ∧
      o.cell? ⟨b2,o2 + b,none⟩ = some (.slice (some ⟨bm,om,none⟩) (m :: l).length cm) ∧ o.cell? ⟨bm,om,none⟩ = some (.int .i64 m.src) ∧ o.cell? ⟨bm,om + 1,none⟩ = some (.int .i64 m.grp) ∧ o.cell? ⟨bm,om + 2,none⟩ = some (.int .i64 m.stamp) ∧ o.cell? ⟨bm,om + 3,none⟩ = some (.bool m.null) ∧ o.cell? ⟨bm,om + 4,none⟩ = some (.string m.body) ∧
      o.cell? ⟨D,1,none⟩ = some (.int .i64 (a:Int)) ∧ o.cell? ⟨D,2,none⟩ = some (.int .i64 (b:Int))) 23 24 rfl (by kernel_rfl) (hSB _ (below_drewN w3 1)) (fun hSw=>?_)
    refine tk 0 ?_ rfl rfl (by kernel_rfl) (.inl ⟨by rfl, ?_⟩) hSw ?_
    rotate_left
    ·rintro w ⟨s0,s1,s2,s3,s4,s5,s6,s7,s8,s9,s10⟩;go_simp;try with_reducible rfl
    simp only [tkp,tkz,tks]
    refine tk 1 ?_ rfl rfl (by kernel_rfl) (.inl ⟨by rfl, ?_⟩) hSw ?_
    rotate_left
    ·rintro w ⟨s0,s1,s2,s3,s4,s5,s6,s7,s8,s9,s10⟩;go_simp;try with_reducible rfl
    simp only [tkp,tkz,tks]
    refine tk 2 ?_ rfl rfl (by kernel_rfl) (.inl ⟨by rfl, ?_⟩) hSw ?_
    rotate_left
    ·rintro w ⟨s0,s1,s2,s3,s4,s5,s6,s7,s8,s9,s10⟩;go_simp;try with_reducible rfl
    simp only [tkp,tkz,tks]
    refine tk 3 ?_ rfl rfl (by kernel_rfl) (.inl ⟨by rfl, ?_⟩) hSw ?_
    rotate_left
    ·rintro w ⟨s0,s1,s2,s3,s4,s5,s6,s7,s8,s9,s10⟩;go_simp;try with_reducible rfl
    simp only [tkp,tkz,tks]
    refine tk 4 ?_ rfl rfl (by kernel_rfl) (.inl ⟨by rfl, ?_⟩) hSw ?_
    rotate_left
    ·rintro w ⟨s0,s1,s2,s3,s4,s5,s6,s7,s8,s9,s10⟩;go_simp;try with_reducible rfl
    simp only [tkp,tkz,tks]
    refine tk 5 ?_ rfl rfl (by kernel_rfl) (.inl ⟨by rfl, ?_⟩) hSw ?_
    rotate_left
    ·rintro w ⟨s0,s1,s2,s3,s4,s5,s6,s7,s8,s9,s10⟩;go_simp;try with_reducible rfl
    simp only [tkp,tkz,tks]
    refine tk 6 ?_ rfl rfl (by kernel_rfl) (.inl ⟨by rfl, ?_⟩) hSw ?_
    rotate_left
    ·rintro w ⟨s0,s1,s2,s3,s4,s5,s6,s7,s8,s9,s10⟩;go_simp;try with_reducible rfl
    simp only [tkp,tkz,tks]
    refine tk 7 ?_ rfl rfl (by kernel_rfl) (.inl ⟨by rfl, ?_⟩) hSw ?_
    rotate_left
    ·rintro w ⟨s0,s1,s2,s3,s4,s5,s6,s7,s8,s9,s10⟩;go_simp;try with_reducible rfl
    simp only [tkp,tkz,tks]
    refine tk 8 ?_ rfl rfl (by kernel_rfl) (.inl ⟨by rfl, ?_⟩) hSw ?_
    rotate_left
    ·rintro w ⟨s0,s1,s2,s3,s4,s5,s6,s7,s8,s9,s10⟩;go_simp;try with_reducible rfl
    simp only [tkp,tkz,tks]
    refine tk 9 ?_ rfl rfl (by kernel_rfl) (.inl ⟨by rfl, ?_⟩) hSw ?_
    rotate_left
    ·rintro w ⟨s0,s1,s2,s3,s4,s5,s6,s7,s8,s9,s10⟩;go_simp;try with_reducible rfl
    simp only [tkp,tkz,tks]
    refine tk 10 ?_ rfl rfl (by kernel_rfl) (.inl ⟨by rfl, ?_⟩) hSw ?_
    rotate_left
    ·rintro w ⟨s0,s1,s2,s3,s4,s5,s6,s7,s8,s9,s10⟩;go_simp;try with_reducible rfl
    simp only [tkp,tkz,tks]
    refine tk 11 ?_ rfl rfl (by kernel_rfl) (.inl ⟨by rfl, ?_⟩) hSw ?_
    rotate_left
    ·rintro w ⟨s0,s1,s2,s3,s4,s5,s6,s7,s8,s9,s10⟩;go_simp;try with_reducible rfl
    simp only [tkp,tkz,tks]
    refine tk 12 ?_ rfl rfl (by kernel_rfl) (.inl ⟨by rfl, ?_⟩) hSw ?_
    rotate_left
    ·rintro w ⟨s0,s1,s2,s3,s4,s5,s6,s7,s8,s9,s10⟩;go_simp;try with_reducible rfl
    simp only [tkp,tkz,tks]
    refine tk 13 ?_ rfl rfl (by kernel_rfl) (.inl ⟨by rfl, ?_⟩) hSw ?_
    rotate_left
    ·rintro w ⟨s0,s1,s2,s3,s4,s5,s6,s7,s8,s9,s10⟩;go_simp;try with_reducible rfl
    simp only [tkp,tkz,tks]
    refine tk 14 ?_ rfl rfl (by kernel_rfl) (.inl ⟨by rfl, ?_⟩) hSw ?_
    rotate_left
    ·rintro w ⟨s0,s1,s2,s3,s4,s5,s6,s7,s8,s9,s10⟩;go_simp;try with_reducible rfl
    simp only [tkp,tkz,tks]
    refine tk 15 ?_ rfl rfl (by kernel_rfl) (.inl ⟨by rfl, ?_⟩) hSw ?_
    rotate_left
    ·rintro w ⟨s0,s1,s2,s3,s4,s5,s6,s7,s8,s9,s10⟩;go_simp;try with_reducible rfl
    simp only [tkp,tkz,tks]
    refine tk 16 ?_ rfl rfl (by kernel_rfl) (.inl ⟨by rfl, ?_⟩) hSw ?_
    rotate_left
    ·rintro w ⟨s0,s1,s2,s3,s4,s5,s6,s7,s8,s9,s10⟩;go_simp;try with_reducible rfl
    simp only [tkp,tkz,tks]
    refine tk 17 ?_ rfl rfl (by kernel_rfl) (.inl ⟨by rfl, ?_⟩) hSw ?_
    rotate_left
    ·rintro w ⟨s0,s1,s2,s3,s4,s5,s6,s7,s8,s9,s10⟩;go_simp;try with_reducible rfl
    simp only [tkp,tkz,tks]
    refine tk 18 ?_ rfl rfl (by kernel_rfl) (.inl ⟨by rfl, ?_⟩) hSw ?_
    rotate_left
    ·rintro w ⟨s0,s1,s2,s3,s4,s5,s6,s7,s8,s9,s10⟩;go_simp;try with_reducible rfl
    simp only [tkp,tkz,tks]
    refine tk 19 ?_ rfl rfl (by kernel_rfl) (.inl ⟨by rfl, ?_⟩) hSw ?_
    rotate_left
    ·rintro w ⟨s0,s1,s2,s3,s4,s5,s6,s7,s8,s9,s10⟩;go_simp;try with_reducible rfl
    simp only [tkp,tkz,tks]
    refine tk 20 ?_ rfl rfl (by kernel_rfl) (.inl ⟨by rfl, ?_⟩) hSw ?_
    rotate_left
    ·rintro w ⟨s0,s1,s2,s3,s4,s5,s6,s7,s8,s9,s10⟩;go_simp;try with_reducible rfl
    simp only [tkp,tkz,tks]
    refine tk 21 ?_ rfl rfl (by kernel_rfl) (.inl ⟨by rfl, ?_⟩) hSw ?_
    rotate_left
    ·rintro w ⟨s0,s1,s2,s3,s4,s5,s6,s7,s8,s9,s10⟩;go_simp;try with_reducible rfl
    simp only [tkp,tkz,tks]
    refine N_one' (i:=22) (by kernel_rfl) rfl ?_
    unfold M.val at hIx
    go_wp2_with fail
    refine (hIx _ (below_drewN w3 1)).mono ?_
    rintro e w4 ⟨rfl,b4⟩
    have b4:=below_trans (below_drewN w3 1) b4
    go_wp2_with fail
    refine QK_normal ⟨?_, ?_⟩
    ·first | exact fun _=>hSB _ b4 | exact hSB _ b4
    refine N_rest 23 1 (Nat.le_refl _) rfl (by kernel_rfl) ?_
    simp only [List.drop_succ_cons,List.drop_zero]
    have hh:=h3.below b4
    have hLn:=Learn_c (n:=b) (k:=i) hh.c5 hh.c4 hh.K hh.A hdis (fun e=>by have e:c B = 4:=e;have:=h3.cB;omega) (fun b e=>(hh.b b (by have e:c b = 4:=e;omega)).2) hbk hia hi100
    clear hSB hSw m0 m1 m2 m3 d0 d1 r1 t1 n0 n1 n2 n3 n4 hIx
    go_wp2_with fail
    refine hLn.mono ?_
    rintro e w5 ⟨rfl,hK5,hv5⟩
    have hQ4:=hQ3.keep (b4.block _ hQ3.lt)
    have hEc:¬ c E = 4:=fun e=>by have:=hcD.out E (by omega);omega
    have hQ5:=hQ4.keep (hv5.block _ hQ4.lt hEc)
    have hO5:=hO3.keep (w':=w5) (fun b hb=>by
     have h1:=hS3 b hb
     have h2:¬ c b = 4:=fun e=>by have:=hcD.out b (by omega);omega
     exact (hv5.block b (Nat.lt_of_lt_of_le h1.2.1 b4.size) h2).trans (b4.block b h1.2.1))
    have h5:=hh.learned hK5 hv5
    have hw5:Below base w w5:=hw3.trans ((b4.mono (by omega)).trans (hv5.below (fun b e=>(hh.b b (by have e:c b = 4:=e;omega)).1) (by have:=b4.size;omega)))
    have hS5:∀ b,S1 b → c b = 0 ∧ base ≤ b ∧ b < w5.heap.size ∧ b ≠ B:=fun b hb=>by
     have h1:=hS3 b hb
     have h2:=b4.size
     have h4:=hv5.size
     refine ⟨Classical.byContradiction fun hn=>?_,by omega,by omega,by omega⟩
     have:=hcD.out b hn
     omega
    clear hh hLn hK5 hv5 hQ4 hQ3 hO3 h3
    obtain ⟨_,y0,y1,y2⟩:=id hQ5
    have f0:=h5.box.frozen 0
    have f1:=h5.box.frozen 1
    have f2:=h5.box.frozen 2
    have z0:=h5.c0
    have z1:=h5.c1
    have z2:=h5.c2
    obtain ⟨c6,h6⟩:=h5.setX hO5 hS5
    have hw6:Below base w (((w5.setCell ⟨B,0,none⟩ (.slice ga1 r.2.groups.length gcap1)).setCell ⟨B,1,none⟩ (.slice na1 r.2.nodes.length ncap1)).setCell ⟨B,2,none⟩ (.slice wa1 r.2.wires.length wcap1)):=set3_below hw5 hbs
    replace h6:=Lib.hid h6
    replace hw6:=Lib.hid hw6
    replace hSt:=Lib.hid hSt
    clear h5 hw5 hO5
    go_wp2_with fail
    refine bodyPost_end (v:=.tuple #[]) (by simp [results,Tryz.f48]) rfl ?_
    rw [← hP.out,hSt.out]
    exact ⟨rfl,⟨_,_,_,_,_,_,_,h6.out⟩,hw6.out⟩
  rw [if_neg hk] at hSt
  cases hw with
  | move a b m k3 e1 e2 hM=>exact absurd k3 hk
  | send n k3 e1 hS =>
   have hk3:(x.kind == 3) = false:=by simpa using hk
   have hn:=hS.at_
   have hnY:n < r.2.nodes.length:=by rw [hS.like.len];exact hn
   have hnk:n < s.known.length:=by rw [hB.lk];exact hn
   have hmf:msgOf x r.2 = ⟨x.one,x.two,(r.2.nodes.getD n N.zero).clock,x.kind == 2,if x.kind = 2 then ByteArray.empty else x.body⟩:=by
    unfold msgOf nd
    rw [e1,Int.toNat_natCast]
   have hfits:(msgOf x r.2).fits:=by
    have hx:=hx.out
    have hI:=(hO3.node_at hnY)
    obtain ⟨_,_,_,_,_,_,_,_,_,_,_,_,_,_,_,_,_,hI,_⟩:=hI
    rw [hmf]
    refine ⟨hx.2.1,hx.2.2.1,hI, ?_⟩
    show (if x.kind = 2 then ByteArray.empty else x.body).size ≤ _
    split
    ·exact Nat.zero_le _
    ·exact hx.2.2.2
   rw [show x.one.toNat = n by omega] at hSt
   obtain ⟨gN,capN,_,_,_,_,_,_,e5,_,_,_,_,k0,_⟩:=hO3.node_at hnY
   cases e5
   obtain ⟨ck,hck⟩:∃ ck,(r.2.nodes.getD n N.zero).clock = ck:=⟨_,rfl⟩
   rw [hck] at k0 hmf
   clear hck
   obtain ⟨m,hm⟩:∃ m,msgOf x r.2 = m:=⟨_,rfl⟩
   rw [hm] at hmf hfits hSt
   rw [e1] at hmf
   replace hm:=Lib.hid hm
   obtain ⟨m0,m1,m2,m3⟩:=id hA3
   simp only [Nat.zero_add] at m0 m1 m2 m3
   rw [e1] at m1
   replace e1:=Lib.hid e1
   obtain ⟨_,y0,y1,y2⟩:=id hQ3
   replace hmf:=Lib.hid hmf
   replace hfits:=Lib.hid hfits
   have n1:decide ((n:Int) < 0) = false:=by simp
   have n2:decide (r.2.nodes.length ≤ n) = false:=by simp;omega
   go_upto_region 4 with fail
   have hSB:∀ o,Below w3.heap.size w3 o → o.cell? ⟨D,0,none⟩ = some (.int .i64 x.kind) ∧ o.cell? ⟨D,1,none⟩ = some (.int .i64 (n:Int)) ∧ o.cell? ⟨D,2,none⟩ = some (.int .i64 x.two) ∧ o.cell? ⟨E,1,none⟩ = some (.slice (some ⟨gN,0,none⟩) r.2.nodes.length ncap1) ∧ o.cell? ⟨gN,n * 4,none⟩ = some (.int .i64 ck):=fun o k =>
    ⟨(k.cell (cell_lt m0)).trans m0,(k.cell (cell_lt m1)).trans m1,(k.cell (cell_lt m2)).trans m2,(k.cell (cell_lt y1)).trans y1,(k.cell (cell_lt k0)).trans k0⟩
   refine wp_region_N (fun o=>o.cell? ⟨D,0,none⟩ = some (.int .i64 x.kind) ∧ o.cell? ⟨D,1,none⟩ = some (.int .i64 (n:Int)) ∧ o.cell? ⟨D,2,none⟩ = some (.int .i64 x.two) ∧ o.cell? ⟨E,1,none⟩ = some (.slice (some ⟨gN,0,none⟩) r.2.nodes.length ncap1) ∧ o.cell? ⟨gN,n * 4,none⟩ = some (.int .i64 ck)) 16 17 rfl (by kernel_rfl) (hSB _ (below_drewN w3 1)) (fun hSw=>?_)
   refine tk 0 ?_ rfl rfl (by kernel_rfl) (.inl ⟨by rfl, ?_⟩) hSw ?_
   rotate_left
   ·rintro w ⟨s0,s1,s2,s3,s4⟩;go_simp;try with_reducible rfl
   simp only [tkp,tkz,tks]
   refine tk 1 ?_ rfl rfl (by kernel_rfl) (.inl ⟨by rfl, ?_⟩) hSw ?_
   rotate_left
   ·rintro w ⟨s0,s1,s2,s3,s4⟩;go_simp;try with_reducible rfl
   simp only [tkp,tkz,tks]
   refine tk 2 ?_ rfl rfl (by kernel_rfl) (.inl ⟨by rfl, ?_⟩) hSw ?_
   rotate_left
   ·rintro w ⟨s0,s1,s2,s3,s4⟩;go_simp;try with_reducible rfl
   simp only [tkp,tkz,tks]
   refine tk 3 ?_ rfl rfl (by kernel_rfl) (.inl ⟨by rfl, ?_⟩) hSw ?_
   rotate_left
   ·rintro w ⟨s0,s1,s2,s3,s4⟩;go_simp;try with_reducible rfl
   simp only [tkp,tkz,tks]
   refine tk 4 ?_ rfl rfl (by kernel_rfl) (.inl ⟨by rfl, ?_⟩) hSw ?_
   rotate_left
   ·rintro w ⟨s0,s1,s2,s3,s4⟩;go_simp;try with_reducible rfl
   simp only [tkp,tkz,tks]
   refine tk 5 ?_ rfl rfl (by kernel_rfl) (.inl ⟨by rfl, ?_⟩) hSw ?_
   rotate_left
   ·rintro w ⟨s0,s1,s2,s3,s4⟩;go_simp;try with_reducible rfl
   simp only [tkp,tkz,tks]
   refine tk 6 ?_ rfl rfl (by kernel_rfl) (.inl ⟨by rfl, ?_⟩) hSw ?_
   rotate_left
   ·rintro w ⟨s0,s1,s2,s3,s4⟩;go_simp;try with_reducible rfl
   simp only [tkp,tkz,tks]
   refine tk 7 ?_ rfl rfl (by kernel_rfl) (.inl ⟨by rfl, ?_⟩) hSw ?_
   rotate_left
   ·rintro w ⟨s0,s1,s2,s3,s4⟩;go_simp;try with_reducible rfl
   simp only [tkp,tkz,tks]
   refine tk 8 ?_ rfl rfl (by kernel_rfl) (.inl ⟨by rfl, ?_⟩) hSw ?_
   rotate_left
   ·rintro w ⟨s0,s1,s2,s3,s4⟩;go_simp;try with_reducible rfl
   simp only [tkp,tkz,tks]
   refine tk 9 ?_ rfl rfl (by kernel_rfl) (.inl ⟨by rfl, ?_⟩) hSw ?_
   rotate_left
   ·rintro w ⟨s0,s1,s2,s3,s4⟩;go_simp;try with_reducible rfl
   simp only [tkp,tkz,tks]
   refine tk 10 ?_ rfl rfl (by kernel_rfl) (.inl ⟨by rfl, ?_⟩) hSw ?_
   rotate_left
   ·rintro w ⟨s0,s1,s2,s3,s4⟩;go_simp;try with_reducible rfl
   simp only [tkp,tkz,tks]
   refine tk 11 ?_ rfl rfl (by kernel_rfl) (.inl ⟨by rfl, ?_⟩) hSw ?_
   rotate_left
   ·rintro w ⟨s0,s1,s2,s3,s4⟩;go_simp;try with_reducible rfl
   simp only [tkp,tkz,tks]
   refine tk 12 ?_ rfl rfl (by kernel_rfl) (.inl ⟨by rfl, ?_⟩) hSw ?_
   rotate_left
   ·rintro w ⟨s0,s1,s2,s3,s4⟩;go_simp;try with_reducible rfl
   simp only [tkp,tkz,tks]
   refine tk 13 ?_ rfl rfl (by kernel_rfl) (.inl ⟨by rfl, ?_⟩) hSw ?_
   rotate_left
   ·rintro w ⟨s0,s1,s2,s3,s4⟩;go_simp;try with_reducible rfl
   simp only [tkp,tkz,tks]
   refine tk 14 ?_ rfl rfl (by kernel_rfl) (.inl ⟨by rfl, ?_⟩) hSw ?_
   rotate_left
   ·rintro w ⟨s0,s1,s2,s3,s4⟩;go_simp;try with_reducible rfl
   simp only [tkp,tkz,tks]
   refine N_one' (i:=15) (by kernel_rfl) rfl ?_
   go_wp2_with fail
   have b4:Below w3.heap.size w3 (w3.alloc (.cells #[.int .i64 0, .int .i64 0, .int .i64 0, .bool false, .string ⟨#[]⟩] 62)).drew:=below_trans (below_a1 w3 _) (below_drewN _ 1)
   have hF4:BlkIs (w3.alloc (.cells #[.int .i64 0, .int .i64 0, .int .i64 0, .bool false, .string ⟨#[]⟩] 62)).drew w3.heap.size 62 5:=⟨_,heap_alloc_new w3 _,rfl⟩
   have hFz:=MsgBox.new w3 M.zero 62
   have hFz:MsgBox (w3.alloc (.cells #[.int .i64 0, .int .i64 0, .int .i64 0, .bool false, .string ⟨#[]⟩] 62)).drew w3.heap.size M.zero:=hFz
   refine QK_normal ⟨?_, ?_⟩
   ·first | exact fun _=>hSB _ b4 | exact hSB _ b4
   generalize (w3.alloc (.cells #[.int .i64 0, .int .i64 0, .int .i64 0, .bool false, .string ⟨#[]⟩] 62)).drew = w4 at *
   obtain ⟨F,hF⟩:∃ F,w3.heap.size = F:=⟨_,rfl⟩
   simp only [hF] at hF4 hFz ⊢
   replace hF:=Lib.hid hF
   refine N_rest 16 1 (Nat.le_refl _) rfl (by kernel_rfl) ?_
   simp only [List.drop_succ_cons,List.drop_zero]
   clear hSw hSB y0 y1 y2 k0 m2
   obtain ⟨z0,z1,z2,z3,z4⟩:=hFz
   have f0:=hF4.frozen 0
   have f1:=hF4.frozen 1
   have f2:=hF4.frozen 2
   have f3:=hF4.frozen 3
   have f4:=hF4.frozen 4
   have b5:Below w3.heap.size w3 (((((w4.setCell ⟨F,0,none⟩ (.int .i64 (n:Int))).setCell ⟨F,1,none⟩ (.int .i64 x.two)).setCell ⟨F,2,none⟩ (.int .i64 ck)).setCell ⟨F,3,none⟩ (.bool (x.kind == 2))).setCell ⟨F,4,none⟩ (.string ⟨#[]⟩)):=below_setCell (below_setCell (below_setCell (below_setCell (below_setCell b4 (Nat.le_of_eq hF.out) _) (Nat.le_of_eq hF.out) _) (Nat.le_of_eq hF.out) _) (Nat.le_of_eq hF.out) _) (Nat.le_of_eq hF.out) _
   obtain ⟨hF5,g0,g1,g2,g3,g4⟩:=five_put hF4 (.int .i64 (n:Int)) (.int .i64 x.two) (.int .i64 ck) (.bool (x.kind == 2)) (.string ⟨#[]⟩)
   by_cases k2:x.kind = 2
   ·have q2:(x.kind == 2) = true:=by simpa using k2
    have hmf:=hmf.out
    rw [if_pos k2] at hmf
    replace k2:=Lib.hid k2
    simp only [q2] at hmf b5 hF5 g0 g1 g2 g3 g4 ⊢
    replace hmf:=Lib.hid hmf
    go_upto_region 7 with fail
    generalize ((((w4.setCell ⟨F,0,none⟩ (.int .i64 (n:Int))).setCell ⟨F,1,none⟩ (.int .i64 x.two)).setCell ⟨F,2,none⟩ (.int .i64 ck)).setCell ⟨F,3,none⟩ (.bool true)).setCell ⟨F,4,none⟩ (.string ⟨#[]⟩) = w6 at *
    have hmf:=hmf.out
    have g0:w6.cell? ⟨F,0,none⟩ = some (.int .i64 m.src):=by rw [hmf];exact g0
    have g1:w6.cell? ⟨F,1,none⟩ = some (.int .i64 m.grp):=by rw [hmf];exact g1
    have g2:w6.cell? ⟨F,2,none⟩ = some (.int .i64 m.stamp):=by rw [hmf];exact g2
    have g3:w6.cell? ⟨F,3,none⟩ = some (.bool m.null):=by rw [hmf];exact g3
    have g4:w6.cell? ⟨F,4,none⟩ = some (.string m.body):=by rw [hmf];exact g4
    replace hmf:=Lib.hid hmf
    have b6:=b5
    have hmm:=@run_makeMap Tryz.prog
    have hFl:=cell_lt g0
    have hG:=SetAt.made w6
    have b7:=below_trans b6 (below_a1 w6 (.map #[] 0))
    have hs7:(w6.alloc (.map #[] 0)).heap.size = w6.heap.size + 1:=World.size_alloc _ _
    have g0:=((below_a1 w6 (.map #[] 0)).cell (cell_lt g0)).trans g0
    have g1:=((below_a1 w6 (.map #[] 0)).cell (cell_lt g1)).trans g1
    have g2:=((below_a1 w6 (.map #[] 0)).cell (cell_lt g2)).trans g2
    have g3:=((below_a1 w6 (.map #[] 0)).cell (cell_lt g3)).trans g3
    have g4:=((below_a1 w6 (.map #[] 0)).cell (cell_lt g4)).trans g4
    go_upto_region 8 with fail
    clear hmm
    generalize w6.alloc (.map #[] 0) = w7 at *
    obtain ⟨G,hGe⟩:∃ G,w6.heap.size = G:=⟨_,rfl⟩
    simp only [hGe] at hG hs7 hFl ⊢
    have hGs:w3.heap.size ≤ G:=by rw [← hGe];exact b6.size
    clear hGe
    have h7:=h3.below b7
    obtain ⟨gk,capk,bk,ek,_,hgc,hgl,k0,hbc,hbg,hSk,_⟩:=h7.K.set_at hnk
    cases ek
    have hbl:=hSk.lt
    have hgB:¬ gk = B:=fun e=>by have h:c gk = 4:=hgc;rw [e,h3.cB] at h;omega
    have m1:=(b7.cell (cell_lt m1)).trans m1
    have d5:=h7.c5
    have hSB:∀ o,Below w7.heap.size w7 o → o.cell? ⟨B,5,none⟩ = some (.slice (some ⟨gk,0,none⟩) s.known.length capk) ∧ o.cell? ⟨D,1,none⟩ = some (.int .i64 (n:Int)) ∧ o.cell? ⟨gk,n,none⟩ = some (.map (some bk)):=fun o k=>⟨(k.cell (cell_lt d5)).trans d5,(k.cell (cell_lt m1)).trans m1,(k.cell (cell_lt k0)).trans k0⟩
    obtain ⟨f,hf⟩:∃ f,s.known.getD n emptyS = f:=⟨_,rfl⟩
    rw [hf] at hSk
    have hSkd:SetAt (w7.drewN 1) bk f:=hSk
    refine wp_region_N (fun o=>o.cell? ⟨B,5,none⟩ = some (.slice (some ⟨gk,0,none⟩) s.known.length capk) ∧ o.cell? ⟨D,1,none⟩ = some (.int .i64 (n:Int)) ∧ o.cell? ⟨gk,n,none⟩ = some (.map (some bk))) 6 9 rfl (by kernel_rfl) (hSB _ (below_drewN w7 1)) (fun hSw=>?_)
    refine tk 0 ?_ rfl rfl (by kernel_rfl) (.inl ⟨by rfl, ?_⟩) hSw ?_
    rotate_left
    ·rintro w ⟨s0,s1,s2⟩;go_simp;try with_reducible rfl
    simp only [tkp,tkz,tks]
    refine tk 1 ?_ rfl rfl (by kernel_rfl) (.inl ⟨by rfl, ?_⟩) hSw ?_
    rotate_left
    ·rintro w ⟨s0,s1,s2⟩;go_simp;try with_reducible rfl
    simp only [tkp,tkz,tks]
    refine tk 2 ?_ rfl rfl (by kernel_rfl) (.inl ⟨by rfl, ?_⟩) hSw ?_
    rotate_left
    ·rintro w ⟨s0,s1,s2⟩;go_simp;try with_reducible rfl
    simp only [tkp,tkz,tks]
    refine tk 3 ?_ rfl rfl (by kernel_rfl) (.inl ⟨by rfl, ?_⟩) hSw ?_
    rotate_left
    ·rintro w ⟨s0,s1,s2⟩;go_simp;try with_reducible rfl
    simp only [tkp,tkz,tks]
    refine tk 4 ?_ rfl rfl (by kernel_rfl) (.inl ⟨by rfl, ?_⟩) hSw ?_
    rotate_left
    ·rintro w ⟨s0,s1,s2⟩;go_simp;try with_reducible rfl
    simp only [tkp,tkz,tks]
    refine tk 5 ?_ rfl rfl (by kernel_rfl) (.inl ⟨by rfl, ?_⟩) hSw ?_
    rotate_left
    ·rintro w ⟨s0,s1,s2⟩;go_simp;try with_reducible rfl
    simp only [tkp,tkz,tks]
    refine N_rest 6 3 (Nat.le_refl _) rfl (by kernel_rfl) ?_
    simp only [List.drop_succ_cons,List.drop_zero]
    clear hSB d5
    obtain ⟨k1,k2,k3⟩:=hSw
    clear k1 k2
    go_wp2_with (at_range;refine wpList_set_range _ rfl _ rfl bk f rfl hSkd ?_;intro w8 cnt0 hrg0 hg8 hsz8)
    go_frame
    have hrg0:SetRg w8 bk w7.heap.size f f cnt0:=hrg0
    have hsz8:w8.heap.size = w7.heap.size + 1:=hsz8
    have hg8':w7.grownBy w8 none:=⟨hg8.os,hg8.tape,hg8.output,hg8.size,hg8.block⟩
    have hG8:=hG.keep (hg8'.block G hG.lt (by simp))
    have hFG:F < G:=hFl
    have g0:=hg8'.cell g0 (by simp)
    have g1:=hg8'.cell g1 (by simp)
    have g2:=hg8'.cell g2 (by simp)
    have g3:=hg8'.cell g3 (by simp)
    have g4:=hg8'.cell g4 (by simp)
    have b8:Below w3.heap.size w3 w8:=b7.trans ((Save.grown0 (S:=fun _=>False) hg8').below (fun _ h=>h.elim) b7.size)
    have hbD:=hcD.out bk (by have h:c bk = 4:=hbc;omega)
    have hbG:bk < G:=by omega
    obtain ⟨rI,hrI⟩:∃ r,w7.heap.size = r:=⟨_,rfl⟩
    have hrJ:w7.drew.heap.size = rI:=hrI
    simp only [hrI] at hrg0 hsz8
    simp only [hrJ] at ⊢
    clear hrJ
    have hGr:G < rI:=by omega
    clear hrI hg8 hg8' hSk hSkd h7 k0 b7 hG hs7 b6 b5
    go_loopw [8] (fun _ wr=>∃ (l:St) (cnt:Nat),SetRg wr bk rI f l cnt ∧ SetAt wr G (fun j=>f j && !l j) ∧ Save (fun c=>c = G ∨ c = rI) w8 wr) (fun _ wr=>wr.rangeLeft bk rI)
    case atStart =>
     refine ⟨f,cnt0,hrg0, ?_,Save.refl _ _⟩
     have e:(fun j=>f j && !f j) = emptyS:=by funext j;simp [emptyS]
     rw [e]
     exact hG8
    case round =>
     obtain ⟨l,cnt,hrg,hSr,hv⟩:=hrel
     go_wp2_with (at_next;refine wpList_set_next _ rfl _ rfl bk rI f l cnt rfl hrg ?_ ?_)
     ·intro hl0
      have e:(fun j=>f j && !l j) = f:=by funext j;rw [hl0 j];simp
      rw [e] at hSr
      have b9:Below w3.heap.size w3 wr:=b8.trans (hv.below (fun b h=>by omega) b8.size)
      have g0:=hv.cell g0 (by simp;omega)
      have g1:=hv.cell g1 (by simp;omega)
      have g2:=hv.cell g2 (by simp;omega)
      have g3:=hv.cell g3 (by simp;omega)
      have g4:=hv.cell g4 (by simp;omega)
      have h9:=h3.below b9
      clear hrg hv hG8 hrg0 b8 e
      obtain ⟨i0,hi0,hz0,hz1,hz2⟩:=info_parts infoCMsg
      obtain ⟨j0,hj0,jz0,jz1,jz2⟩:=info_parts infoCSet
      have d3:=h9.c3
      go_upto_region 12 with fail
      have hSB:∀ o,Below wr.heap.size wr o → o.cell? ⟨B,3,none⟩ = some (.slice sa s.sent.length scap) ∧ o.cell? ⟨F,0,none⟩ = some (.int .i64 m.src) ∧ o.cell? ⟨F,1,none⟩ = some (.int .i64 m.grp) ∧ o.cell? ⟨F,2,none⟩ = some (.int .i64 m.stamp) ∧ o.cell? ⟨F,3,none⟩ = some (.bool m.null) ∧ o.cell? ⟨F,4,none⟩ = some (.string m.body):=fun o k=>⟨(k.cell (cell_lt d3)).trans d3,(k.cell (cell_lt g0)).trans g0,(k.cell (cell_lt g1)).trans g1,(k.cell (cell_lt g2)).trans g2,(k.cell (cell_lt g3)).trans g3,(k.cell (cell_lt g4)).trans g4⟩
      refine wp_region_N (fun o=>o.cell? ⟨B,3,none⟩ = some (.slice sa s.sent.length scap) ∧ o.cell? ⟨F,0,none⟩ = some (.int .i64 m.src) ∧ o.cell? ⟨F,1,none⟩ = some (.int .i64 m.grp) ∧ o.cell? ⟨F,2,none⟩ = some (.int .i64 m.stamp) ∧ o.cell? ⟨F,3,none⟩ = some (.bool m.null) ∧ o.cell? ⟨F,4,none⟩ = some (.string m.body)) 8 11 rfl (by kernel_rfl) (hSB _ (below_drewN wr 1)) (fun hSw=>?_)
      refine tk 0 ?_ rfl rfl (by kernel_rfl) (.inl ⟨by rfl, ?_⟩) hSw ?_
      rotate_left
      ·rintro w ⟨s0,s1,s2,s3,s4,s5⟩;go_simp;try with_reducible rfl
      simp only [tkp,tkz,tks]
      refine tk 1 ?_ rfl rfl (by kernel_rfl) (.inl ⟨by rfl, ?_⟩) hSw ?_
      rotate_left
      ·rintro w ⟨s0,s1,s2,s3,s4,s5⟩;go_simp;try with_reducible rfl
      simp only [tkp,tkz,tks]
      refine tk 2 ?_ rfl rfl (by kernel_rfl) (.inl ⟨by rfl, ?_⟩) hSw ?_
      rotate_left
      ·rintro w ⟨s0,s1,s2,s3,s4,s5⟩;go_simp;try with_reducible rfl
      simp only [tkp,tkz,tks]
      refine tk 3 ?_ rfl rfl (by kernel_rfl) (.inl ⟨by rfl, ?_⟩) hSw ?_
      rotate_left
      ·rintro w ⟨s0,s1,s2,s3,s4,s5⟩;go_simp;try with_reducible rfl
      simp only [tkp,tkz,tks]
      refine tk 4 ?_ rfl rfl (by kernel_rfl) (.inl ⟨by rfl, ?_⟩) hSw ?_
      rotate_left
      ·rintro w ⟨s0,s1,s2,s3,s4,s5⟩;go_simp;try with_reducible rfl
      simp only [tkp,tkz,tks]
      refine tk 5 ?_ rfl rfl (by kernel_rfl) (.inl ⟨by rfl, ?_⟩) hSw ?_
      rotate_left
      ·rintro w ⟨s0,s1,s2,s3,s4,s5⟩;go_simp;try with_reducible rfl
      simp only [tkp,tkz,tks]
      refine N_one' (i:=6) (by kernel_rfl) rfl ?_
      go_wp2_with fail
      have bR:Below wr.heap.size wr (wr.alloc (.cells #[.int .i64 m.src, .int .i64 m.grp, .int .i64 m.stamp, .bool m.null, .string m.body] 62)).drew:=below_trans (below_a1 wr _) (below_drewN _ 1)
      refine QK_normal ⟨?_, ?_⟩
      ·first | exact fun _=>hSB _ bR | exact hSB _ bR
      have h10:=h9.below bR
      have hSG:=hSr.keep (bR.block G hSr.lt)
      have hnew:∀ j u,m.cells[j]? = some u → (wr.alloc (.cells #[.int .i64 m.src, .int .i64 m.grp, .int .i64 m.stamp, .bool m.null, .string m.body] 62)).drew.cell? ((⟨wr.heap.size,0,none⟩:Addr).add j) = some u:=cells_new wr m.cells.toArray 62
      have hSw:=hSB _ bR
      have b10:=b9.trans (bR.mono b9.size)
      clear hSB d3 g0 g1 g2 g3 g4
      generalize (wr.alloc (.cells #[.int .i64 m.src, .int .i64 m.grp, .int .i64 m.stamp, .bool m.null, .string m.body] 62)).drew = w10 at *
      obtain ⟨R,hR⟩:∃ R,wr.heap.size = R:=⟨_,rfl⟩
      simp only [hR] at hnew ⊢
      clear hR
      have hfit:=hfits.out
      refine N_one' (i:=7) (by kernel_rfl) rfl ?_
      go_wp2_with (at_builtin;refine wpList_push _ rfl _ _ 50 rfl 62 i0 _ 5 48 Tryz.underlying50 hi0 hz0 hz1 hz2 rfl (by decide) MEl.stays _ rfl (fun b=>c b = 2) s.sent h10.S (fun b hb=>(h10.b b (by have hb:c b = 2:=hb;omega)).2) ⟨R,0,none⟩ _ rfl m.cells rfl hnew (by simp [M.cells,Value.oneCell']) (fun _=>False) m ⟨rfl,hfit⟩ (fun _ h=>h.elim) (by omega) (by omega) (by omega) ?_;intro v11 w11 hp;obtain ⟨⟨S11,hO11,hS11⟩,hz11,hL11,hB11,a11,cap11,rfl⟩:=hp)
      have hz0':∀ b,D ≤ b → c b = 0:=fun b hb=>Classical.byContradiction fun hn=>by have:=hcD.out b hn;omega
      have hk11:∀ b,b < w10.heap.size → c b = 0 → w11.heap[b]? = w10.heap[b]?:=fun b hb h0=>hL11 b ⟨hb,by omega⟩
      have hcl:∀ (a:Addr) (v:Value),w10.cell? a = some v → c a.block = 0 → w11.cell? a = some v:=fun a v h h0=>(World.cell?_of_block (hk11 a.block (cell_lt h) h0)).trans h
      refine QK_normal ⟨?_, ?_⟩
      ·have hFD:D ≤ F:=by have:=hF.out;omega
       have hh:w11.cell? ⟨B,3,none⟩ = some (.slice sa s.sent.length scap) ∧ w11.cell? ⟨F,0,none⟩ = some (.int .i64 m.src) ∧ w11.cell? ⟨F,1,none⟩ = some (.int .i64 m.grp) ∧ w11.cell? ⟨F,2,none⟩ = some (.int .i64 m.stamp) ∧ w11.cell? ⟨F,3,none⟩ = some (.bool m.null) ∧ w11.cell? ⟨F,4,none⟩ = some (.string m.body):=⟨hcl _ _ hSw.1 h3.cB,hcl _ _ hSw.2.1 (hz0' F hFD),hcl _ _ hSw.2.2.1 (hz0' F hFD),hcl _ _ hSw.2.2.2.1 (hz0' F hFD),hcl _ _ hSw.2.2.2.2.1 (hz0' F hFD),hcl _ _ hSw.2.2.2.2.2 (hz0' F hFD)⟩
       first | exact fun _=>hh | exact hh
      have d3:=hcl _ _ hSw.1 h3.cB
      have f3:=(h10.box.same (hk11 B h10.lt h3.cB)).frozen 3
      obtain ⟨c12,h12,hc12⟩:=h10.setS hL11 hz11 hO11 (fun b hb=>⟨(hS11 b hb).1.elim Or.inl (fun h=>h.elim (fun h=>h.elim) (fun h=>Or.inr (by omega))),(hS11 b hb).2⟩)
      have hk12:∀ b,b < w10.heap.size → c b = 0 → b ≠ B → (w11.setCell ⟨B,3,none⟩ (.slice a11 (s.sent.length + 1) cap11)).heap[b]? = w10.heap[b]?:=fun b hb h0 hB=>(Go.Deep.blk_setCell_other _ _ _ _ hB).trans (hk11 b hb h0)
      have b12:Below base w10 (w11.setCell ⟨B,3,none⟩ (.slice a11 (s.sent.length + 1) cap11)):=below_setCell (hB11 base (fun b hb=>(h10.b b (by have hb:c b = 2:=hb;omega)).1) (by have:=h10.lt;omega)) hbs _
      have hs12:w10.heap.size ≤ (w11.setCell ⟨B,3,none⟩ (.slice a11 (s.sent.length + 1) cap11)).heap.size:=b12.size
      refine N_rest 8 3 (Nat.le_refl _) rfl (by kernel_rfl) ?_
      simp only [List.drop_succ_cons,List.drop_zero]
      replace h12:=Lib.hid h12
      clear hSw hnew hL11 hO11 hS11 hB11 hk11 hcl h10
      go_upto_region 13 with fail
      generalize w11.setCell ⟨B,3,none⟩ (.slice a11 (s.sent.length + 1) cap11) = w12 at *
      have h12:=h12.out
      clear d3 f3
      have h13:=h12.below (below_a1 w12 (.cells #[.map (some G)] 90))
      have d4:=h12.c4
      have hs13:(w12.alloc (.cells #[.map (some G)] 90)).heap.size = w12.heap.size + 1:=World.size_alloc _ _
      have hGl:G < w10.heap.size:=hSG.lt
      have hGc:c G = 0:=hz0' G (by omega)
      have hGB:G ≠ B:=by omega
      have hGc12:c12 G = 0:=Classical.byContradiction fun hn=>(hc12 G hn).elim (fun h=>h hGc) (fun h=>by omega)
      have hSG13:SetAt (w12.alloc (.cells #[.map (some G)] 90)) G f:=(hSG.keep (hk12 G hGl hGc hGB)).keep ((below_a1 w12 (.cells #[.map (some G)] 90)).block G (by omega))
      have hA13:=h13.A
      have hfz4:=h13.box.frozen 4
      go_upto_region 14 with (at_builtin;refine wpList_push _ rfl _ _ 86 rfl 90 j0 _ 1 8 Tryz.underlying86 hj0 jz0 jz1 jz2 rfl (by decide) SetEl.stays _ rfl (fun b=>c12 b = 3) s.ahead hA13 (fun b hb=>(h13.b b (by have hb:c12 b = 3:=hb;omega)).2) ⟨w12.heap.size,0,none⟩ _ rfl [.map (some G)] rfl (cells_new _ _ _) (by simp [Value.oneCell']) (fun b=>b = G) f ⟨G,rfl,rfl,hSG13⟩ (fun b hb=>⟨fun h=>by have h:c12 b = 3:=h;rw [hb,hGc12] at h;omega,by rw [hb];omega⟩) (by rw [hB.la];omega) (by omega) (by omega) ?_;intro v14 w14 hp;obtain ⟨⟨S14,hO14,hS14⟩,hz14,hL14,hB14,a14,cap14,rfl⟩:=hp;have fz:=(h13.box.same (hL14 B ⟨h13.lt,fun h=>by have h:c12 B = 3:=h;rw [h13.cB] at h;omega⟩)).frozen 4;have cz:=(World.cell?_of_block (w:=w12.alloc (.cells #[.map (some G)] 90)) (hL14 B ⟨h13.lt,fun h=>by have h:c12 B = 3:=h;rw [h13.cB] at h;omega⟩)).trans h13.c4)
      obtain ⟨c14,h14,hc14⟩:=h13.setA hL14 hz14 hO14 (fun b hb=>by
       have h1:=(hS14 b hb).1
       have h2:=(hS14 b hb).2
       have h3:=h12.lt
       have h4:=h12.B0
       rcases h1 with h1 | h1 | h1
       ·have h1:c12 b = 3:=h1
        exact ⟨Or.inl h1,fun e=>by rw [e,h12.cB] at h1;omega,(h12.b b (by omega)).1,h2⟩
       ·have h1:b = G:=h1
        exact ⟨Or.inr (by rw [h1];exact hGc12),by omega,by omega,h2⟩
       ·have h5:c12 b = 0:=Classical.byContradiction fun hn=>by have:=(h12.b b hn).2;omega
        exact ⟨Or.inr h5,by omega,by omega,h2⟩)
      have hk14:∀ b,b < w12.heap.size → c12 b = 0 → b ≠ B → (w14.setCell ⟨B,4,none⟩ (.slice a14 (s.ahead.length + 1) cap14)).heap[b]? = w12.heap[b]?:=fun b hb h0 hB =>
       ((Go.Deep.blk_setCell_other _ _ _ _ hB).trans (hL14 b ⟨by omega,fun h=>by have h:c12 b = 3:=h;omega⟩)).trans ((below_a1 w12 (.cells #[.map (some G)] 90)).block b hb)
      have b14:Below base w12 (w14.setCell ⟨B,4,none⟩ (.slice a14 (s.ahead.length + 1) cap14)):=(((below_a1 w12 (.cells #[.map (some G)] 90)).mono (by have:=h12.lt;have:=h12.B0;omega))).trans (below_setCell (hB14 base (fun b hb=>(h13.b b (by have hb:c12 b = 3:=hb;omega)).1) (by have:=h13.lt;have:=h13.B0;omega)) hbs _)
      have hs14:w12.heap.size ≤ (w14.setCell ⟨B,4,none⟩ (.slice a14 (s.ahead.length + 1) cap14)).heap.size:=b14.size
      have hz14':∀ b,b < w12.heap.size → c12 b = 0 → b ≠ G → c14 b = 0:=fun b hb h0 hG=>Classical.byContradiction fun hn=>(hc14 b hn).elim (fun h=>h h0) (fun h=>by
       rcases (hS14 b h).1 with h1 | h1 | h1
       ·have h1:c12 b = 3:=h1
        omega
       ·exact hG h1
       ·omega)
      clear fz cz d4 h13 hL14 hO14 hS14 hB14 hA13 hfz4 hSG13 hz14
      generalize w14.setCell ⟨B,4,none⟩ (.slice a14 (s.ahead.length + 1) cap14) = w15 at *
      have hs10:=b10.size
      have hkeep:∀ b,b < w3.heap.size → c b = 0 → b ≠ B → w15.heap[b]? = w3.heap[b]?:=fun b hb h0 hB =>
       (hk14 b (by omega) (Classical.byContradiction fun hn=>(hc12 b hn).elim (fun h=>h h0) (fun h=>by omega)) hB).trans ((hk12 b (by omega) h0 hB).trans (b10.block b hb))
      have hc0:∀ b,b < w3.heap.size → c b = 0 → c14 b = 0:=fun b hb h0=>hz14' b (by omega) (Classical.byContradiction fun hn=>(hc12 b hn).elim (fun h=>h h0) (fun h=>by omega)) (by omega)
      obtain ⟨_,q1,_,_⟩:=id hA3
      simp only [Nat.zero_add] at q1
      rw [e1.out] at q1
      have q1:=(World.cell?_of_block (w:=w3) (hkeep D hAl3 (hz0' D (Nat.le_refl _)) (by omega))).trans q1
      have d3:=h14.c3
      have hfa:(s.ahead ++ [f]).getD s.sent.length emptyS = f:=by rw [getD_appM (by rw [hB.la];exact Nat.le_refl _),if_pos hB.la.symm]
      have hwl1:IntKind.i64.wrap ((s.sent.length:Int) + 1 - 1) = (s.sent.length:Int):=IntWalk.i64_in _ (by omega) |>.trans (by omega)
      have hwl2:IntKind.i64.wrap (s.sent.length:Int) = (s.sent.length:Int):=IntWalk.i64_in _ (by omega)
      have hSB:∀ o,Below w15.heap.size w15 o → o.cell? ⟨D,1,none⟩ = some (.int .i64 (n:Int)) ∧ o.cell? ⟨B,3,none⟩ = some (.slice a11 (s.sent.length + 1) cap11):=fun o k=>⟨(k.cell (cell_lt q1)).trans q1,(k.cell (cell_lt d3)).trans d3⟩
      have hdis:Dis (fun b=>c14 b = 4) (fun b=>c14 b = 3):=fun b h h'=>by have h:c14 b = 4:=h;have h':c14 b = 3:=h';omega
      have hh:=h14.below (below_drewN w15 1)
      have hLn:=Learn_c (n:=n) (k:=s.sent.length) hh.c5 hh.c4 hh.K hh.A hdis (fun e=>by have e:c14 B = 4:=e;have:=h14.cB;omega) (fun b e=>(hh.b b (by have e:c14 b = 4:=e;omega)).2) hnk (by rw [List.length_append,hB.la];simp) (by omega)
      rw [hfa,hf] at hLn
      refine wp_region_N (fun o=>o.cell? ⟨D,1,none⟩ = some (.int .i64 (n:Int)) ∧ o.cell? ⟨B,3,none⟩ = some (.slice a11 (s.sent.length + 1) cap11)) 9 10 rfl (by kernel_rfl) (hSB _ (below_drewN w15 1)) (fun hSw=>?_)
      refine tk 0 ?_ rfl rfl (by kernel_rfl) (.inl ⟨by rfl, ?_⟩) hSw ?_
      rotate_left
      ·rintro w ⟨s0,s1⟩;go_simp;try with_reducible rfl
      simp only [tkp,tkz,tks]
      refine tk 1 ?_ rfl rfl (by kernel_rfl) (.inl ⟨by rfl, ?_⟩) hSw ?_
      rotate_left
      ·rintro w ⟨s0,s1⟩;go_simp;try with_reducible rfl
      simp only [tkp,tkz,tks]
      refine tk 2 ?_ rfl rfl (by kernel_rfl) (.inl ⟨by rfl, ?_⟩) hSw ?_
      rotate_left
      ·rintro w ⟨s0,s1⟩;go_simp;try with_reducible rfl
      simp only [tkp,tkz,tks]
      refine tk 3 ?_ rfl rfl (by kernel_rfl) (.inl ⟨by rfl, ?_⟩) hSw ?_
      rotate_left
      ·rintro w ⟨s0,s1⟩;go_simp;try with_reducible rfl
      simp only [tkp,tkz,tks]
      refine tk 4 ?_ rfl rfl (by kernel_rfl) (.inl ⟨by rfl, ?_⟩) hSw ?_
      rotate_left
      ·rintro w ⟨s0,s1⟩;go_simp;try with_reducible rfl
      simp only [tkp,tkz,tks]
      refine tk 5 ?_ rfl rfl (by kernel_rfl) (.inl ⟨by rfl, ?_⟩) hSw ?_
      rotate_left
      ·rintro w ⟨s0,s1⟩;go_simp;try with_reducible rfl
      simp only [tkp,tkz,tks]
      refine tk 6 ?_ rfl rfl (by kernel_rfl) (.inl ⟨by rfl, ?_⟩) hSw ?_
      rotate_left
      ·rintro w ⟨s0,s1⟩;go_simp;try with_reducible rfl
      simp only [tkp,tkz,tks]
      refine tk 7 ?_ rfl rfl (by kernel_rfl) (.inl ⟨by rfl, ?_⟩) hSw ?_
      rotate_left
      ·rintro w ⟨s0,s1⟩;go_simp;try with_reducible rfl
      simp only [tkp,tkz,tks]
      refine tk 8 ?_ rfl rfl (by kernel_rfl) (.inl ⟨by rfl, ?_⟩) hSw ?_
      rotate_left
      ·rintro w ⟨s0,s1⟩;go_simp;try with_reducible rfl
      simp only [tkp,tkz,tks]
      refine N_rest 9 1 (Nat.le_refl _) rfl (by kernel_rfl) ?_
      simp only [List.drop_succ_cons,List.drop_zero]
      go_wp2_with fail
      refine hLn.mono ?_
      rintro e w16 ⟨rfl,hK16,hv16⟩
      have hs15:w3.heap.size ≤ w15.heap.size:=by omega
      have hkp:∀ b,b < w3.heap.size → D ≤ b → w16.heap[b]? = w3.heap[b]?:=fun b hb hD =>
       (hv16.block b (Nat.lt_of_lt_of_le hb hs15) (fun e=>by have e:c14 b = 4:=e;have:=hc0 b hb (hz0' b hD);omega)).trans (hkeep b hb (hz0' b hD) (by omega))
      have hQ5:=hQ3.keep (hkp E hQ3.lt (by omega))
      have hO5:=hO3.keep (w':=w16) (fun b hb=>by
       have h1:=hS3 b hb
       exact hkp b h1.2.1 (by omega))
      have h5:=hh.learned hK16 hv16
      have hs16:w15.heap.size ≤ w16.heap.size:=hv16.size
      have hw5:Below base w w16:=hw3.trans ((b10.mono (by omega)).trans (b12.trans (b14.trans ((below_drewN w15 1).mono (by omega) |>.trans (hv16.below (fun b e=>(hh.b b (by have e:c14 b = 4:=e;omega)).1) (show base ≤ w15.heap.size by omega))))))
      have hS5:∀ b,S1 b → c14 b = 0 ∧ base ≤ b ∧ b < w16.heap.size ∧ b ≠ B:=fun b hb=>by
       have h1:=hS3 b hb
       exact ⟨hc0 b h1.2.1 (hz0' b (by omega)),by omega,by omega,by omega⟩
      have hSt:s' = ⟨r.2,s.sent ++ [m],s.ahead ++ [f],s.known.set n (learnS f s.sent.length f)⟩:=by
       rw [hSt]
       unfold Sc.send
       rw [hf]
      clear hkp hkeep hc0 hz0' hSB hSw hh hLn hK16 hv16 h14 hQ3 hO3 q1 d3 hk12 hk14 hc12 hc14 hz14' hSG h9 h12
      obtain ⟨_,y0,y1,y2⟩:=id hQ5
      have f0:=h5.box.frozen 0
      have f1:=h5.box.frozen 1
      have f2:=h5.box.frozen 2
      have z0:=h5.c0
      have z1:=h5.c1
      have z2:=h5.c2
      obtain ⟨c6,h6⟩:=h5.setX hO5 hS5
      have hw6:Below base w (((w16.setCell ⟨B,0,none⟩ (.slice ga1 r.2.groups.length gcap1)).setCell ⟨B,1,none⟩ (.slice (some ⟨gN,0,none⟩) r.2.nodes.length ncap1)).setCell ⟨B,2,none⟩ (.slice wa1 r.2.wires.length wcap1)):=set3_below hw5 hbs
      replace h6:=Lib.hid h6
      replace hw6:=Lib.hid hw6
      replace hSt:=Lib.hid hSt
      clear h5 hw5 hO5
      go_wp2_with fail
      refine bodyPost_end (v:=.tuple #[]) (by simp [results,Tryz.f48]) rfl ?_
      rw [← hP.out,hSt.out]
      exact ⟨rfl,⟨_,_,_,_,_,_,_,h6.out⟩,hw6.out⟩
     ·intro i cc w9 cnt1 hli hrg1 hlt1 hg1 hs1 hen
      obtain ⟨hai,hi⟩:=hrg.bound hli
      have hS3:=hSr.keep (hg1.block G hSr.lt (by simp;omega))
      go_wp2_with (at_mapUpdate;refine wpList_set_put _ rfl _ _ _ rfl G _ i rfl hS3 hi rfl rfl ?_;intro w10 hS4 hg4;go_frame)
      have hrg4:=hrg1.keep (hg4.block bk hrg1.lts.2.1 (by simp;omega)) (hg4.block rI hrg1.lts.1 (by simp;omega))
      go_roundw
      case rel =>
       refine ⟨_,cnt1,hrg4, ?_,(hv.trans (Save.grown (S:=fun c=>c = G ∨ c = rI) hg1 (Or.inr rfl)) (fun _ h _=>h)).trans (Save.grown (S:=fun c=>c = G ∨ c = rI) hg4 (Or.inl rfl)) (fun _ h _=>h)⟩
       have e:(fun j=>(f j && !l j) || j == i) = fun j=>f j && !(l j && !(j == i)):=by
        funext j
        by_cases hj:j = i
        ·subst hj;simp [hai]
        ·have:(j == i) = false:=by simpa using hj
         simp [this]
       rw [e] at hS4
       exact hS4
      case measure=>rw [hrg4.left_eq,hrg.left_eq];exact hlt1
   ·have q2:(x.kind == 2) = false:=by simpa using k2
    have hmf:=hmf.out
    rw [if_neg k2] at hmf
    replace k2:=Lib.hid k2
    simp only [q2] at hmf b5 hF5 g0 g1 g2 g3 g4 ⊢
    replace hmf:=Lib.hid hmf
    have m3':=(b5.cell (cell_lt m3)).trans m3
    have f5:=hF5.frozen 4
    have b6:=below_setCell (a:=⟨F,4,none⟩) b5 (Nat.le_of_eq hF.out) (.string x.body)
    obtain ⟨hF6,g0',g1',g2',g3',g4'⟩:=five_body hF5 g0 g1 g2 g3 (.string x.body)
    replace g0':=Lib.hid g0'
    replace g1':=Lib.hid g1'
    replace g2':=Lib.hid g2'
    replace g3':=Lib.hid g3'
    replace g4':=Lib.hid g4'
    go_upto_region 7 with fail
    generalize (((((w4.setCell ⟨F,0,none⟩ (.int .i64 (n:Int))).setCell ⟨F,1,none⟩ (.int .i64 x.two)).setCell ⟨F,2,none⟩ (.int .i64 ck)).setCell ⟨F,3,none⟩ (.bool false)).setCell ⟨F,4,none⟩ (.string ⟨#[]⟩)).setCell ⟨F,4,none⟩ (.string x.body) = w6 at *
    have hmf:=hmf.out
    have g0:=g0'.out
    have g1:=g1'.out
    have g2:=g2'.out
    have g3:=g3'.out
    have g4:=g4'.out
    have g0:w6.cell? ⟨F,0,none⟩ = some (.int .i64 m.src):=by rw [hmf];exact g0
    have g1:w6.cell? ⟨F,1,none⟩ = some (.int .i64 m.grp):=by rw [hmf];exact g1
    have g2:w6.cell? ⟨F,2,none⟩ = some (.int .i64 m.stamp):=by rw [hmf];exact g2
    have g3:w6.cell? ⟨F,3,none⟩ = some (.bool m.null):=by rw [hmf];exact g3
    have g4:w6.cell? ⟨F,4,none⟩ = some (.string m.body):=by rw [hmf];exact g4
    replace hmf:=Lib.hid hmf
    clear m3' f5 g0' g1' g2' g3' g4'
    have hmm:=@run_makeMap Tryz.prog
    have hFl:=cell_lt g0
    have hG:=SetAt.made w6
    have b7:=below_trans b6 (below_a1 w6 (.map #[] 0))
    have hs7:(w6.alloc (.map #[] 0)).heap.size = w6.heap.size + 1:=World.size_alloc _ _
    have g0:=((below_a1 w6 (.map #[] 0)).cell (cell_lt g0)).trans g0
    have g1:=((below_a1 w6 (.map #[] 0)).cell (cell_lt g1)).trans g1
    have g2:=((below_a1 w6 (.map #[] 0)).cell (cell_lt g2)).trans g2
    have g3:=((below_a1 w6 (.map #[] 0)).cell (cell_lt g3)).trans g3
    have g4:=((below_a1 w6 (.map #[] 0)).cell (cell_lt g4)).trans g4
    go_upto_region 8 with fail
    clear hmm
    generalize w6.alloc (.map #[] 0) = w7 at *
    obtain ⟨G,hGe⟩:∃ G,w6.heap.size = G:=⟨_,rfl⟩
    simp only [hGe] at hG hs7 hFl ⊢
    have hGs:w3.heap.size ≤ G:=by rw [← hGe];exact b6.size
    clear hGe
    have h7:=h3.below b7
    obtain ⟨gk,capk,bk,ek,_,hgc,hgl,k0,hbc,hbg,hSk,_⟩:=h7.K.set_at hnk
    cases ek
    have hbl:=hSk.lt
    have hgB:¬ gk = B:=fun e=>by have h:c gk = 4:=hgc;rw [e,h3.cB] at h;omega
    have m1:=(b7.cell (cell_lt m1)).trans m1
    have d5:=h7.c5
    have hSB:∀ o,Below w7.heap.size w7 o → o.cell? ⟨B,5,none⟩ = some (.slice (some ⟨gk,0,none⟩) s.known.length capk) ∧ o.cell? ⟨D,1,none⟩ = some (.int .i64 (n:Int)) ∧ o.cell? ⟨gk,n,none⟩ = some (.map (some bk)):=fun o k=>⟨(k.cell (cell_lt d5)).trans d5,(k.cell (cell_lt m1)).trans m1,(k.cell (cell_lt k0)).trans k0⟩
    obtain ⟨f,hf⟩:∃ f,s.known.getD n emptyS = f:=⟨_,rfl⟩
    rw [hf] at hSk
    have hSkd:SetAt (w7.drewN 1) bk f:=hSk
    refine wp_region_N (fun o=>o.cell? ⟨B,5,none⟩ = some (.slice (some ⟨gk,0,none⟩) s.known.length capk) ∧ o.cell? ⟨D,1,none⟩ = some (.int .i64 (n:Int)) ∧ o.cell? ⟨gk,n,none⟩ = some (.map (some bk))) 6 9 rfl (by kernel_rfl) (hSB _ (below_drewN w7 1)) (fun hSw=>?_)
    refine tk 0 ?_ rfl rfl (by kernel_rfl) (.inl ⟨by rfl, ?_⟩) hSw ?_
    rotate_left
    ·rintro w ⟨s0,s1,s2⟩;go_simp;try with_reducible rfl
    simp only [tkp,tkz,tks]
    refine tk 1 ?_ rfl rfl (by kernel_rfl) (.inl ⟨by rfl, ?_⟩) hSw ?_
    rotate_left
    ·rintro w ⟨s0,s1,s2⟩;go_simp;try with_reducible rfl
    simp only [tkp,tkz,tks]
    refine tk 2 ?_ rfl rfl (by kernel_rfl) (.inl ⟨by rfl, ?_⟩) hSw ?_
    rotate_left
    ·rintro w ⟨s0,s1,s2⟩;go_simp;try with_reducible rfl
    simp only [tkp,tkz,tks]
    refine tk 3 ?_ rfl rfl (by kernel_rfl) (.inl ⟨by rfl, ?_⟩) hSw ?_
    rotate_left
    ·rintro w ⟨s0,s1,s2⟩;go_simp;try with_reducible rfl
    simp only [tkp,tkz,tks]
    refine tk 4 ?_ rfl rfl (by kernel_rfl) (.inl ⟨by rfl, ?_⟩) hSw ?_
    rotate_left
    ·rintro w ⟨s0,s1,s2⟩;go_simp;try with_reducible rfl
    simp only [tkp,tkz,tks]
    refine tk 5 ?_ rfl rfl (by kernel_rfl) (.inl ⟨by rfl, ?_⟩) hSw ?_
    rotate_left
    ·rintro w ⟨s0,s1,s2⟩;go_simp;try with_reducible rfl
    simp only [tkp,tkz,tks]
    refine N_rest 6 3 (Nat.le_refl _) rfl (by kernel_rfl) ?_
    simp only [List.drop_succ_cons,List.drop_zero]
    clear hSB d5
    obtain ⟨k1,k2,k3⟩:=hSw
    clear k1 k2
    go_wp2_with (at_range;refine wpList_set_range _ rfl _ rfl bk f rfl hSkd ?_;intro w8 cnt0 hrg0 hg8 hsz8)
    go_frame
    have hrg0:SetRg w8 bk w7.heap.size f f cnt0:=hrg0
    have hsz8:w8.heap.size = w7.heap.size + 1:=hsz8
    have hg8':w7.grownBy w8 none:=⟨hg8.os,hg8.tape,hg8.output,hg8.size,hg8.block⟩
    have hG8:=hG.keep (hg8'.block G hG.lt (by simp))
    have hFG:F < G:=hFl
    have g0:=hg8'.cell g0 (by simp)
    have g1:=hg8'.cell g1 (by simp)
    have g2:=hg8'.cell g2 (by simp)
    have g3:=hg8'.cell g3 (by simp)
    have g4:=hg8'.cell g4 (by simp)
    have b8:Below w3.heap.size w3 w8:=b7.trans ((Save.grown0 (S:=fun _=>False) hg8').below (fun _ h=>h.elim) b7.size)
    have hbD:=hcD.out bk (by have h:c bk = 4:=hbc;omega)
    have hbG:bk < G:=by omega
    obtain ⟨rI,hrI⟩:∃ r,w7.heap.size = r:=⟨_,rfl⟩
    have hrJ:w7.drew.heap.size = rI:=hrI
    simp only [hrI] at hrg0 hsz8
    simp only [hrJ] at ⊢
    clear hrJ
    have hGr:G < rI:=by omega
    clear hrI hg8 hg8' hSk hSkd h7 k0 b7 hG hs7 b6 b5
    go_loopw [8] (fun _ wr=>∃ (l:St) (cnt:Nat),SetRg wr bk rI f l cnt ∧ SetAt wr G (fun j=>f j && !l j) ∧ Save (fun c=>c = G ∨ c = rI) w8 wr) (fun _ wr=>wr.rangeLeft bk rI)
    case atStart =>
     refine ⟨f,cnt0,hrg0, ?_,Save.refl _ _⟩
     have e:(fun j=>f j && !f j) = emptyS:=by funext j;simp [emptyS]
     rw [e]
     exact hG8
    case round =>
     obtain ⟨l,cnt,hrg,hSr,hv⟩:=hrel
     go_wp2_with (at_next;refine wpList_set_next _ rfl _ rfl bk rI f l cnt rfl hrg ?_ ?_)
     ·intro hl0
      have e:(fun j=>f j && !l j) = f:=by funext j;rw [hl0 j];simp
      rw [e] at hSr
      have b9:Below w3.heap.size w3 wr:=b8.trans (hv.below (fun b h=>by omega) b8.size)
      have g0:=hv.cell g0 (by simp;omega)
      have g1:=hv.cell g1 (by simp;omega)
      have g2:=hv.cell g2 (by simp;omega)
      have g3:=hv.cell g3 (by simp;omega)
      have g4:=hv.cell g4 (by simp;omega)
      have h9:=h3.below b9
      clear hrg hv hG8 hrg0 b8 e
      obtain ⟨i0,hi0,hz0,hz1,hz2⟩:=info_parts infoCMsg
      obtain ⟨j0,hj0,jz0,jz1,jz2⟩:=info_parts infoCSet
      have d3:=h9.c3
      go_upto_region 12 with fail
      have hSB:∀ o,Below wr.heap.size wr o → o.cell? ⟨B,3,none⟩ = some (.slice sa s.sent.length scap) ∧ o.cell? ⟨F,0,none⟩ = some (.int .i64 m.src) ∧ o.cell? ⟨F,1,none⟩ = some (.int .i64 m.grp) ∧ o.cell? ⟨F,2,none⟩ = some (.int .i64 m.stamp) ∧ o.cell? ⟨F,3,none⟩ = some (.bool m.null) ∧ o.cell? ⟨F,4,none⟩ = some (.string m.body):=fun o k=>⟨(k.cell (cell_lt d3)).trans d3,(k.cell (cell_lt g0)).trans g0,(k.cell (cell_lt g1)).trans g1,(k.cell (cell_lt g2)).trans g2,(k.cell (cell_lt g3)).trans g3,(k.cell (cell_lt g4)).trans g4⟩
      refine wp_region_N (fun o=>o.cell? ⟨B,3,none⟩ = some (.slice sa s.sent.length scap) ∧ o.cell? ⟨F,0,none⟩ = some (.int .i64 m.src) ∧ o.cell? ⟨F,1,none⟩ = some (.int .i64 m.grp) ∧ o.cell? ⟨F,2,none⟩ = some (.int .i64 m.stamp) ∧ o.cell? ⟨F,3,none⟩ = some (.bool m.null) ∧ o.cell? ⟨F,4,none⟩ = some (.string m.body)) 8 11 rfl (by kernel_rfl) (hSB _ (below_drewN wr 1)) (fun hSw=>?_)
      refine tk 0 ?_ rfl rfl (by kernel_rfl) (.inl ⟨by rfl, ?_⟩) hSw ?_
      rotate_left
      ·rintro w ⟨s0,s1,s2,s3,s4,s5⟩;go_simp;try with_reducible rfl
      simp only [tkp,tkz,tks]
      refine tk 1 ?_ rfl rfl (by kernel_rfl) (.inl ⟨by rfl, ?_⟩) hSw ?_
      rotate_left
      ·rintro w ⟨s0,s1,s2,s3,s4,s5⟩;go_simp;try with_reducible rfl
      simp only [tkp,tkz,tks]
      refine tk 2 ?_ rfl rfl (by kernel_rfl) (.inl ⟨by rfl, ?_⟩) hSw ?_
      rotate_left
      ·rintro w ⟨s0,s1,s2,s3,s4,s5⟩;go_simp;try with_reducible rfl
      simp only [tkp,tkz,tks]
      refine tk 3 ?_ rfl rfl (by kernel_rfl) (.inl ⟨by rfl, ?_⟩) hSw ?_
      rotate_left
      ·rintro w ⟨s0,s1,s2,s3,s4,s5⟩;go_simp;try with_reducible rfl
      simp only [tkp,tkz,tks]
      refine tk 4 ?_ rfl rfl (by kernel_rfl) (.inl ⟨by rfl, ?_⟩) hSw ?_
      rotate_left
      ·rintro w ⟨s0,s1,s2,s3,s4,s5⟩;go_simp;try with_reducible rfl
      simp only [tkp,tkz,tks]
      refine tk 5 ?_ rfl rfl (by kernel_rfl) (.inl ⟨by rfl, ?_⟩) hSw ?_
      rotate_left
      ·rintro w ⟨s0,s1,s2,s3,s4,s5⟩;go_simp;try with_reducible rfl
      simp only [tkp,tkz,tks]
      refine N_one' (i:=6) (by kernel_rfl) rfl ?_
      go_wp2_with fail
      have bR:Below wr.heap.size wr (wr.alloc (.cells #[.int .i64 m.src, .int .i64 m.grp, .int .i64 m.stamp, .bool m.null, .string m.body] 62)).drew:=below_trans (below_a1 wr _) (below_drewN _ 1)
      refine QK_normal ⟨?_, ?_⟩
      ·first | exact fun _=>hSB _ bR | exact hSB _ bR
      have h10:=h9.below bR
      have hSG:=hSr.keep (bR.block G hSr.lt)
      have hnew:∀ j u,m.cells[j]? = some u → (wr.alloc (.cells #[.int .i64 m.src, .int .i64 m.grp, .int .i64 m.stamp, .bool m.null, .string m.body] 62)).drew.cell? ((⟨wr.heap.size,0,none⟩:Addr).add j) = some u:=cells_new wr m.cells.toArray 62
      have hSw:=hSB _ bR
      have b10:=b9.trans (bR.mono b9.size)
      clear hSB d3 g0 g1 g2 g3 g4
      generalize (wr.alloc (.cells #[.int .i64 m.src, .int .i64 m.grp, .int .i64 m.stamp, .bool m.null, .string m.body] 62)).drew = w10 at *
      obtain ⟨R,hR⟩:∃ R,wr.heap.size = R:=⟨_,rfl⟩
      simp only [hR] at hnew ⊢
      clear hR
      have hfit:=hfits.out
      refine N_one' (i:=7) (by kernel_rfl) rfl ?_
      go_wp2_with (at_builtin;refine wpList_push _ rfl _ _ 50 rfl 62 i0 _ 5 48 Tryz.underlying50 hi0 hz0 hz1 hz2 rfl (by decide) MEl.stays _ rfl (fun b=>c b = 2) s.sent h10.S (fun b hb=>(h10.b b (by have hb:c b = 2:=hb;omega)).2) ⟨R,0,none⟩ _ rfl m.cells rfl hnew (by simp [M.cells,Value.oneCell']) (fun _=>False) m ⟨rfl,hfit⟩ (fun _ h=>h.elim) (by omega) (by omega) (by omega) ?_;intro v11 w11 hp;obtain ⟨⟨S11,hO11,hS11⟩,hz11,hL11,hB11,a11,cap11,rfl⟩:=hp)
      have hz0':∀ b,D ≤ b → c b = 0:=fun b hb=>Classical.byContradiction fun hn=>by have:=hcD.out b hn;omega
      have hk11:∀ b,b < w10.heap.size → c b = 0 → w11.heap[b]? = w10.heap[b]?:=fun b hb h0=>hL11 b ⟨hb,by omega⟩
      have hcl:∀ (a:Addr) (v:Value),w10.cell? a = some v → c a.block = 0 → w11.cell? a = some v:=fun a v h h0=>(World.cell?_of_block (hk11 a.block (cell_lt h) h0)).trans h
      refine QK_normal ⟨?_, ?_⟩
      ·have hFD:D ≤ F:=by have:=hF.out;omega
       have hh:w11.cell? ⟨B,3,none⟩ = some (.slice sa s.sent.length scap) ∧ w11.cell? ⟨F,0,none⟩ = some (.int .i64 m.src) ∧ w11.cell? ⟨F,1,none⟩ = some (.int .i64 m.grp) ∧ w11.cell? ⟨F,2,none⟩ = some (.int .i64 m.stamp) ∧ w11.cell? ⟨F,3,none⟩ = some (.bool m.null) ∧ w11.cell? ⟨F,4,none⟩ = some (.string m.body):=⟨hcl _ _ hSw.1 h3.cB,hcl _ _ hSw.2.1 (hz0' F hFD),hcl _ _ hSw.2.2.1 (hz0' F hFD),hcl _ _ hSw.2.2.2.1 (hz0' F hFD),hcl _ _ hSw.2.2.2.2.1 (hz0' F hFD),hcl _ _ hSw.2.2.2.2.2 (hz0' F hFD)⟩
       first | exact fun _=>hh | exact hh
      have d3:=hcl _ _ hSw.1 h3.cB
      have f3:=(h10.box.same (hk11 B h10.lt h3.cB)).frozen 3
      obtain ⟨c12,h12,hc12⟩:=h10.setS hL11 hz11 hO11 (fun b hb=>⟨(hS11 b hb).1.elim Or.inl (fun h=>h.elim (fun h=>h.elim) (fun h=>Or.inr (by omega))),(hS11 b hb).2⟩)
      have hk12:∀ b,b < w10.heap.size → c b = 0 → b ≠ B → (w11.setCell ⟨B,3,none⟩ (.slice a11 (s.sent.length + 1) cap11)).heap[b]? = w10.heap[b]?:=fun b hb h0 hB=>(Go.Deep.blk_setCell_other _ _ _ _ hB).trans (hk11 b hb h0)
      have b12:Below base w10 (w11.setCell ⟨B,3,none⟩ (.slice a11 (s.sent.length + 1) cap11)):=below_setCell (hB11 base (fun b hb=>(h10.b b (by have hb:c b = 2:=hb;omega)).1) (by have:=h10.lt;omega)) hbs _
      have hs12:w10.heap.size ≤ (w11.setCell ⟨B,3,none⟩ (.slice a11 (s.sent.length + 1) cap11)).heap.size:=b12.size
      refine N_rest 8 3 (Nat.le_refl _) rfl (by kernel_rfl) ?_
      simp only [List.drop_succ_cons,List.drop_zero]
      replace h12:=Lib.hid h12
      clear hSw hnew hL11 hO11 hS11 hB11 hk11 hcl h10
      go_upto_region 13 with fail
      generalize w11.setCell ⟨B,3,none⟩ (.slice a11 (s.sent.length + 1) cap11) = w12 at *
      have h12:=h12.out
      clear d3 f3
      have h13:=h12.below (below_a1 w12 (.cells #[.map (some G)] 90))
      have d4:=h12.c4
      have hs13:(w12.alloc (.cells #[.map (some G)] 90)).heap.size = w12.heap.size + 1:=World.size_alloc _ _
      have hGl:G < w10.heap.size:=hSG.lt
      have hGc:c G = 0:=hz0' G (by omega)
      have hGB:G ≠ B:=by omega
      have hGc12:c12 G = 0:=Classical.byContradiction fun hn=>(hc12 G hn).elim (fun h=>h hGc) (fun h=>by omega)
      have hSG13:SetAt (w12.alloc (.cells #[.map (some G)] 90)) G f:=(hSG.keep (hk12 G hGl hGc hGB)).keep ((below_a1 w12 (.cells #[.map (some G)] 90)).block G (by omega))
      have hA13:=h13.A
      have hfz4:=h13.box.frozen 4
      go_upto_region 14 with (at_builtin;refine wpList_push _ rfl _ _ 86 rfl 90 j0 _ 1 8 Tryz.underlying86 hj0 jz0 jz1 jz2 rfl (by decide) SetEl.stays _ rfl (fun b=>c12 b = 3) s.ahead hA13 (fun b hb=>(h13.b b (by have hb:c12 b = 3:=hb;omega)).2) ⟨w12.heap.size,0,none⟩ _ rfl [.map (some G)] rfl (cells_new _ _ _) (by simp [Value.oneCell']) (fun b=>b = G) f ⟨G,rfl,rfl,hSG13⟩ (fun b hb=>⟨fun h=>by have h:c12 b = 3:=h;rw [hb,hGc12] at h;omega,by rw [hb];omega⟩) (by rw [hB.la];omega) (by omega) (by omega) ?_;intro v14 w14 hp;obtain ⟨⟨S14,hO14,hS14⟩,hz14,hL14,hB14,a14,cap14,rfl⟩:=hp;have fz:=(h13.box.same (hL14 B ⟨h13.lt,fun h=>by have h:c12 B = 3:=h;rw [h13.cB] at h;omega⟩)).frozen 4;have cz:=(World.cell?_of_block (w:=w12.alloc (.cells #[.map (some G)] 90)) (hL14 B ⟨h13.lt,fun h=>by have h:c12 B = 3:=h;rw [h13.cB] at h;omega⟩)).trans h13.c4)
      obtain ⟨c14,h14,hc14⟩:=h13.setA hL14 hz14 hO14 (fun b hb=>by
       have h1:=(hS14 b hb).1
       have h2:=(hS14 b hb).2
       have h3:=h12.lt
       have h4:=h12.B0
       rcases h1 with h1 | h1 | h1
       ·have h1:c12 b = 3:=h1
        exact ⟨Or.inl h1,fun e=>by rw [e,h12.cB] at h1;omega,(h12.b b (by omega)).1,h2⟩
       ·have h1:b = G:=h1
        exact ⟨Or.inr (by rw [h1];exact hGc12),by omega,by omega,h2⟩
       ·have h5:c12 b = 0:=Classical.byContradiction fun hn=>by have:=(h12.b b hn).2;omega
        exact ⟨Or.inr h5,by omega,by omega,h2⟩)
      have hk14:∀ b,b < w12.heap.size → c12 b = 0 → b ≠ B → (w14.setCell ⟨B,4,none⟩ (.slice a14 (s.ahead.length + 1) cap14)).heap[b]? = w12.heap[b]?:=fun b hb h0 hB =>
       ((Go.Deep.blk_setCell_other _ _ _ _ hB).trans (hL14 b ⟨by omega,fun h=>by have h:c12 b = 3:=h;omega⟩)).trans ((below_a1 w12 (.cells #[.map (some G)] 90)).block b hb)
      have b14:Below base w12 (w14.setCell ⟨B,4,none⟩ (.slice a14 (s.ahead.length + 1) cap14)):=(((below_a1 w12 (.cells #[.map (some G)] 90)).mono (by have:=h12.lt;have:=h12.B0;omega))).trans (below_setCell (hB14 base (fun b hb=>(h13.b b (by have hb:c12 b = 3:=hb;omega)).1) (by have:=h13.lt;have:=h13.B0;omega)) hbs _)
      have hs14:w12.heap.size ≤ (w14.setCell ⟨B,4,none⟩ (.slice a14 (s.ahead.length + 1) cap14)).heap.size:=b14.size
      have hz14':∀ b,b < w12.heap.size → c12 b = 0 → b ≠ G → c14 b = 0:=fun b hb h0 hG=>Classical.byContradiction fun hn=>(hc14 b hn).elim (fun h=>h h0) (fun h=>by
       rcases (hS14 b h).1 with h1 | h1 | h1
       ·have h1:c12 b = 3:=h1
        omega
       ·exact hG h1
       ·omega)
      clear fz cz d4 h13 hL14 hO14 hS14 hB14 hA13 hfz4 hSG13 hz14
      generalize w14.setCell ⟨B,4,none⟩ (.slice a14 (s.ahead.length + 1) cap14) = w15 at *
      have hs10:=b10.size
      have hkeep:∀ b,b < w3.heap.size → c b = 0 → b ≠ B → w15.heap[b]? = w3.heap[b]?:=fun b hb h0 hB =>
       (hk14 b (by omega) (Classical.byContradiction fun hn=>(hc12 b hn).elim (fun h=>h h0) (fun h=>by omega)) hB).trans ((hk12 b (by omega) h0 hB).trans (b10.block b hb))
      have hc0:∀ b,b < w3.heap.size → c b = 0 → c14 b = 0:=fun b hb h0=>hz14' b (by omega) (Classical.byContradiction fun hn=>(hc12 b hn).elim (fun h=>h h0) (fun h=>by omega)) (by omega)
      obtain ⟨_,q1,_,_⟩:=id hA3
      simp only [Nat.zero_add] at q1
      rw [e1.out] at q1
      have q1:=(World.cell?_of_block (w:=w3) (hkeep D hAl3 (hz0' D (Nat.le_refl _)) (by omega))).trans q1
      have d3:=h14.c3
      have hfa:(s.ahead ++ [f]).getD s.sent.length emptyS = f:=by rw [getD_appM (by rw [hB.la];exact Nat.le_refl _),if_pos hB.la.symm]
      have hwl1:IntKind.i64.wrap ((s.sent.length:Int) + 1 - 1) = (s.sent.length:Int):=IntWalk.i64_in _ (by omega) |>.trans (by omega)
      have hwl2:IntKind.i64.wrap (s.sent.length:Int) = (s.sent.length:Int):=IntWalk.i64_in _ (by omega)
      have hSB:∀ o,Below w15.heap.size w15 o → o.cell? ⟨D,1,none⟩ = some (.int .i64 (n:Int)) ∧ o.cell? ⟨B,3,none⟩ = some (.slice a11 (s.sent.length + 1) cap11):=fun o k=>⟨(k.cell (cell_lt q1)).trans q1,(k.cell (cell_lt d3)).trans d3⟩
      have hdis:Dis (fun b=>c14 b = 4) (fun b=>c14 b = 3):=fun b h h'=>by have h:c14 b = 4:=h;have h':c14 b = 3:=h';omega
      have hh:=h14.below (below_drewN w15 1)
      have hLn:=Learn_c (n:=n) (k:=s.sent.length) hh.c5 hh.c4 hh.K hh.A hdis (fun e=>by have e:c14 B = 4:=e;have:=h14.cB;omega) (fun b e=>(hh.b b (by have e:c14 b = 4:=e;omega)).2) hnk (by rw [List.length_append,hB.la];simp) (by omega)
      rw [hfa,hf] at hLn
      refine wp_region_N (fun o=>o.cell? ⟨D,1,none⟩ = some (.int .i64 (n:Int)) ∧ o.cell? ⟨B,3,none⟩ = some (.slice a11 (s.sent.length + 1) cap11)) 9 10 rfl (by kernel_rfl) (hSB _ (below_drewN w15 1)) (fun hSw=>?_)
      refine tk 0 ?_ rfl rfl (by kernel_rfl) (.inl ⟨by rfl, ?_⟩) hSw ?_
      rotate_left
      ·rintro w ⟨s0,s1⟩;go_simp;try with_reducible rfl
      simp only [tkp,tkz,tks]
      refine tk 1 ?_ rfl rfl (by kernel_rfl) (.inl ⟨by rfl, ?_⟩) hSw ?_
      rotate_left
      ·rintro w ⟨s0,s1⟩;go_simp;try with_reducible rfl
      simp only [tkp,tkz,tks]
      refine tk 2 ?_ rfl rfl (by kernel_rfl) (.inl ⟨by rfl, ?_⟩) hSw ?_
      rotate_left
      ·rintro w ⟨s0,s1⟩;go_simp;try with_reducible rfl
      simp only [tkp,tkz,tks]
      refine tk 3 ?_ rfl rfl (by kernel_rfl) (.inl ⟨by rfl, ?_⟩) hSw ?_
      rotate_left
      ·rintro w ⟨s0,s1⟩;go_simp;try with_reducible rfl
      simp only [tkp,tkz,tks]
      refine tk 4 ?_ rfl rfl (by kernel_rfl) (.inl ⟨by rfl, ?_⟩) hSw ?_
      rotate_left
      ·rintro w ⟨s0,s1⟩;go_simp;try with_reducible rfl
      simp only [tkp,tkz,tks]
      refine tk 5 ?_ rfl rfl (by kernel_rfl) (.inl ⟨by rfl, ?_⟩) hSw ?_
      rotate_left
      ·rintro w ⟨s0,s1⟩;go_simp;try with_reducible rfl
      simp only [tkp,tkz,tks]
      refine tk 6 ?_ rfl rfl (by kernel_rfl) (.inl ⟨by rfl, ?_⟩) hSw ?_
      rotate_left
      ·rintro w ⟨s0,s1⟩;go_simp;try with_reducible rfl
      simp only [tkp,tkz,tks]
      refine tk 7 ?_ rfl rfl (by kernel_rfl) (.inl ⟨by rfl, ?_⟩) hSw ?_
      rotate_left
      ·rintro w ⟨s0,s1⟩;go_simp;try with_reducible rfl
      simp only [tkp,tkz,tks]
      refine tk 8 ?_ rfl rfl (by kernel_rfl) (.inl ⟨by rfl, ?_⟩) hSw ?_
      rotate_left
      ·rintro w ⟨s0,s1⟩;go_simp;try with_reducible rfl
      simp only [tkp,tkz,tks]
      refine N_rest 9 1 (Nat.le_refl _) rfl (by kernel_rfl) ?_
      simp only [List.drop_succ_cons,List.drop_zero]
      go_wp2_with fail
      refine hLn.mono ?_
      rintro e w16 ⟨rfl,hK16,hv16⟩
      have hs15:w3.heap.size ≤ w15.heap.size:=by omega
      have hkp:∀ b,b < w3.heap.size → D ≤ b → w16.heap[b]? = w3.heap[b]?:=fun b hb hD =>
       (hv16.block b (Nat.lt_of_lt_of_le hb hs15) (fun e=>by have e:c14 b = 4:=e;have:=hc0 b hb (hz0' b hD);omega)).trans (hkeep b hb (hz0' b hD) (by omega))
      have hQ5:=hQ3.keep (hkp E hQ3.lt (by omega))
      have hO5:=hO3.keep (w':=w16) (fun b hb=>by
       have h1:=hS3 b hb
       exact hkp b h1.2.1 (by omega))
      have h5:=hh.learned hK16 hv16
      have hs16:w15.heap.size ≤ w16.heap.size:=hv16.size
      have hw5:Below base w w16:=hw3.trans ((b10.mono (by omega)).trans (b12.trans (b14.trans ((below_drewN w15 1).mono (by omega) |>.trans (hv16.below (fun b e=>(hh.b b (by have e:c14 b = 4:=e;omega)).1) (show base ≤ w15.heap.size by omega))))))
      have hS5:∀ b,S1 b → c14 b = 0 ∧ base ≤ b ∧ b < w16.heap.size ∧ b ≠ B:=fun b hb=>by
       have h1:=hS3 b hb
       exact ⟨hc0 b h1.2.1 (hz0' b (by omega)),by omega,by omega,by omega⟩
      have hSt:s' = ⟨r.2,s.sent ++ [m],s.ahead ++ [f],s.known.set n (learnS f s.sent.length f)⟩:=by
       rw [hSt]
       unfold Sc.send
       rw [hf]
      clear hkp hkeep hc0 hz0' hSB hSw hh hLn hK16 hv16 h14 hQ3 hO3 q1 d3 hk12 hk14 hc12 hc14 hz14' hSG h9 h12
      obtain ⟨_,y0,y1,y2⟩:=id hQ5
      have f0:=h5.box.frozen 0
      have f1:=h5.box.frozen 1
      have f2:=h5.box.frozen 2
      have z0:=h5.c0
      have z1:=h5.c1
      have z2:=h5.c2
      obtain ⟨c6,h6⟩:=h5.setX hO5 hS5
      have hw6:Below base w (((w16.setCell ⟨B,0,none⟩ (.slice ga1 r.2.groups.length gcap1)).setCell ⟨B,1,none⟩ (.slice (some ⟨gN,0,none⟩) r.2.nodes.length ncap1)).setCell ⟨B,2,none⟩ (.slice wa1 r.2.wires.length wcap1)):=set3_below hw5 hbs
      replace h6:=Lib.hid h6
      replace hw6:=Lib.hid hw6
      replace hSt:=Lib.hid hSt
      clear h5 hw5 hO5
      go_wp2_with fail
      refine bodyPost_end (v:=.tuple #[]) (by simp [results,Tryz.f48]) rfl ?_
      rw [← hP.out,hSt.out]
      exact ⟨rfl,⟨_,_,_,_,_,_,_,h6.out⟩,hw6.out⟩
     ·intro i cc w9 cnt1 hli hrg1 hlt1 hg1 hs1 hen
      obtain ⟨hai,hi⟩:=hrg.bound hli
      have hS3:=hSr.keep (hg1.block G hSr.lt (by simp;omega))
      go_wp2_with (at_mapUpdate;refine wpList_set_put _ rfl _ _ _ rfl G _ i rfl hS3 hi rfl rfl ?_;intro w10 hS4 hg4;go_frame)
      have hrg4:=hrg1.keep (hg4.block bk hrg1.lts.2.1 (by simp;omega)) (hg4.block rI hrg1.lts.1 (by simp;omega))
      go_roundw
      case rel =>
       refine ⟨_,cnt1,hrg4, ?_,(hv.trans (Save.grown (S:=fun c=>c = G ∨ c = rI) hg1 (Or.inr rfl)) (fun _ h _=>h)).trans (Save.grown (S:=fun c=>c = G ∨ c = rI) hg4 (Or.inl rfl)) (fun _ h _=>h)⟩
       have e:(fun j=>(f j && !l j) || j == i) = fun j=>f j && !(l j && !(j == i)):=by
        funext j
        by_cases hj:j = i
        ·subst hj;simp [hai]
        ·have:(j == i) = false:=by simpa using hj
         simp [this]
       rw [e] at hS4
       exact hS4
      case measure=>rw [hrg4.left_eq,hrg.left_eq];exact hlt1
end Go.Proofs.YtnalakhelicjcaaGreat
