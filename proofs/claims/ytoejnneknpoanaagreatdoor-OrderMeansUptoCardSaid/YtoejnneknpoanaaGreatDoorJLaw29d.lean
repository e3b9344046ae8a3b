/- Layer 29's law, walked: awake. Printed by gen/law29d.py. -/
import Derived.Test.YtoejnneknpoanaaGreatDoorJLaw29c
namespace Go.Proofs.YtoejnneknpoanaaGreatDoor
open Go Go.RowKit Um Fm Lx Tx Om Mp
theorem fieldRows (A B:Option Addr) (n c m d:Nat) (W:World):(Instr.field 25 (.agg #[.slice A n c,.slice B m d]) 1).run Tryz.prog W=.ok (.slice B m d) W:=by kernel_rfl
theorem rd_aw4 {W:World} {g1 g2 g3:Nat} (h1:W.heap[g1]?=some (Obj.cells #[.int .i64 1,.string ⟨#[97]⟩,.string ⟨#[]⟩,.string ⟨#[]⟩] 76 (0,0))) (h2:W.heap[g2]?=some (Obj.cells #[.int .i64 1,.string ⟨#[98]⟩,.string ⟨#[]⟩,.string ⟨#[]⟩] 76 (0,0))) (h3:W.heap[g3]?=some (Obj.cells #[.slice (some ⟨g1,0,none⟩) 1 1,.slice (some ⟨g2,0,none⟩) 1 1] 59 (0,0))):RdRs W (some ⟨g3,0,none⟩) aw4:=
 ⟨_,Rd.of_block h3 rfl,[.slice (some ⟨g1,0,none⟩) 1 1],_,rfl,rfl,⟨_,_,rfl,Nat.le_refl _,.of (Rd.of_block h1 rfl)⟩,[.slice (some ⟨g2,0,none⟩) 1 1],_,rfl,rfl,⟨_,_,rfl,Nat.le_refl _,.of (Rd.of_block h2 rfl)⟩,rfl⟩
theorem aw_len {l:List (List Tm)} (h:shortB l=true):∀r∈l,r.length<=1000000:=λr hr=>Nat.le_trans (short_of h r hr).2.2 (by decide)
set_option maxRecDepth 100000 in
set_option maxHeartbeats 8000000 in
theorem law29Awake (w:World) (hC:CtxT w) (hP:PowV w):Calls Tryz.prog 9 #[] w λe w'=>e=.returned (.bool true)/\Below w.heap.size w w':=by
 obtain⟨W0,hW0⟩:∃W:World,w.alloc (.cells #[.string ⟨#[97,50]⟩,.string ⟨#[98,49]⟩,.string ⟨#[97,49]⟩,.string ⟨#[97,50]⟩] 9)=W:=⟨_,rfl⟩
 have hB0:Below w.heap.size w W0:=by rw[←hW0];exact blw
 have hO:=law29Of [(⟨#[97,50]⟩:ByteArray),⟨#[98,49]⟩,⟨#[97,49]⟩,⟨#[97,50]⟩] (some ⟨w.heap.size,0,none⟩) 4 4 W0 rfl (by decide) awZ (by rw[←hW0];exact Rd.of_block (heap_alloc_new w _) rfl)
 rw[aw1_is]at hO
 have H:=Lib.hid (And.intro hC hP)
 have HW0:=Lib.hid hW0
 have HB0:=Lib.hid hB0
 clear hC hP hW0 hB0
 go_enter Tryz.func9,Tryz.ntmps9
 go_wp2_with fail
 simp only[HW0.out]
 refine hO.mono ?_
 intro e w1 h1
 obtain⟨x0,x1,rfl,hb1,hT1⟩:=h1.tab
 clear hO h1
 obtain⟨A1,c1,B1,d1,rfl,rfl,T1,-⟩:=hT1.tab (by decide) (by decide) (aw_len awB1)
 have HB1:=Lib.hid (below_tr HB0.out hb1)
 obtain⟨V1,hV1⟩:∃W:World,w1.alloc (.cells #[.string ⟨#[121]⟩,.bool false] 72)=W:=⟨_,rfl⟩
 have hbV:Below w1.heap.size w1 V1:=by rw[←hV1];exact blw
 have hS:=topSort (T1.later hbV) awR1 (H.out.1.step (below_tr HB1.out hbV)) (λr hr=>(short_of awB1 r hr).2.1) [keyY] (some ⟨w1.heap.size,0,none⟩) 1 1 rfl (by decide) (by rw[←hV1];exact⟨_,Rd.of_block (heap_alloc_new w1 _) rfl,All.one rfl rfl⟩)
 rw[awN,awS]at hS
 have HV1:=Lib.hid hV1
 have HBV:=Lib.hid (below_tr HB1.out hbV)
 clear hb1 hT1 T1 hV1 hbV
 simp only[show ([tX,tY]:List ByteArray).length=2 from rfl,show aw1.length=4 from rfl]at hS ⊢
 go_wp2_with fail
 simp only[HV1.out]
 refine hS.mono ?_
 intro e w2 h2
 obtain⟨x0,x1,rfl,hb2,hT2⟩:=h2.out
 simp only[if_pos]at hT2
 obtain⟨A2,c2,B2,d2,rfl,rfl,T2,-⟩:=hT2.tab (by decide) (by decide) (aw_len awB2)
 clear hS h2
 simp only[show ([tX,tY]:List ByteArray).length=2 from rfl,show aw2.length=4 from rfl]at T2 ⊢
 have HB2:=Lib.hid (below_tr HBV.out hb2)
 obtain⟨V2,hV2⟩:∃W:World,(w2.alloc (.cells #[.slice A2 2 c2,.slice B2 4 d2] 25)).alloc (.cells #[.string ⟨#[120]⟩] 9)=W:=⟨_,rfl⟩
 have hbV2:Below w2.heap.size w2 V2:=by rw[←hV2];exact blw
 have hz2:V2.heap.size=w2.heap.size+2:=by rw[←hV2];simp
 have k2:V2.heap[w2.heap.size]?=some (Obj.cells #[.slice A2 2 c2,.slice B2 4 d2] 25 (0,0)):=by rw[←hV2];exact heap_two_1 _ _ _
 have hPr:=topProject (T2.later hbV2) awR2 [tX] (some ⟨w2.heap.size+1,0,none⟩) 1 1 rfl (by decide) (Nat.le_refl _) (by rw[←hV2];exact Rd.of_block (heap_two_2 w2 _ _) rfl)
 simp only[awP,if_pos]at hPr
 rw[awPr]at hPr
 have HV2:=Lib.hid hV2
 have HBV2:=Lib.hid (below_tr HB2.out hbV2)
 have HT2:=Lib.hid (T2.later hbV2)
 have K2:=Lib.hid k2
 clear hb2 hT2 T2 hV2 hbV2 k2
 go_wp2_with fail
 simp only[HV2.out]
 refine hPr.mono ?_
 intro e w3 h3
 obtain⟨x0,x1,rfl,hb3,hT3⟩:=h3.out
 simp only[if_pos]at hT3
 obtain⟨A3,c3,B3,d3,rfl,rfl,T3,-⟩:=hT3.tab (by decide) (by decide) (aw_len awB3)
 clear hPr h3
 simp only[show ([tX]:List ByteArray).length=1 from rfl,show aw3.length=4 from rfl]at T3 ⊢
 have HB3:=Lib.hid (below_tr HBV2.out hb3)
 obtain⟨V3,hV3⟩:∃W:World,w3.alloc (.cells #[.slice A3 1 c3,.slice B3 4 d3] 25)=W:=⟨_,rfl⟩
 have hbV3:Below w3.heap.size w3 V3:=by rw[←hV3];exact blw
 have k3:V3.heap[w3.heap.size]?=some (Obj.cells #[.slice A3 1 c3,.slice B3 4 d3] 25 (0,0)):=by rw[←hV3];exact heap_alloc_new _ _
 have hOn:=topOnce (T3.later hbV3) awR3 (H.out.2.step (below_tr HB3.out hbV3)) (λr hr=>(short_of awB3 r hr).1)
 rw[awO]at hOn
 have HV3:=Lib.hid hV3
 have HBV3:=Lib.hid (below_tr HB3.out hbV3)
 have HT3:=Lib.hid (T3.later hbV3)
 have K3:=Lib.hid (And.intro k3 (below_tr hb3 hbV3))
 clear hb3 hT3 T3 hV3 hbV3 k3
 go_wp2_with fail
 simp only[HV3.out]
 refine hOn.mono ?_
 intro e w4 h4
 obtain⟨x0,x1,rfl,hb4,hT4⟩:=h4.out
 simp only[if_pos]at hT4
 obtain⟨A4,c4,B4,d4,rfl,rfl,T4,-⟩:=hT4.tab (by decide) (by decide) (aw_len awB4)
 clear hOn h4
 simp only[show ([tX]:List ByteArray).length=1 from rfl,show aw4.length=2 from rfl]at T4 ⊢
 obtain⟨V4,hV4⟩:∃W:World,w4.alloc (.cells #[.slice A4 1 c4,.slice B4 2 d4] 25)=W:=⟨_,rfl⟩
 have hbV4:Below w4.heap.size w4 V4:=by rw[←hV4];exact blw
 have k4:V4.heap[w4.heap.size]?=some (Obj.cells #[.slice A4 1 c4,.slice B4 2 d4] 25 (0,0)):=by rw[←hV4];exact heap_alloc_new _ _
 have b34:=below_tr hb4 hbV4
 have b24:=below_tr K3.out.2 b34
 have z2:V4.cell? ⟨w2.heap.size,1,none⟩=some (.slice B2 4 d2):=by rw[World.cell?,KeepT.below b24 _ _ _ K2.out];rfl
 have z3:V4.cell? ⟨w3.heap.size,1,none⟩=some (.slice B3 4 d3):=by rw[World.cell?,KeepT.below b34 _ _ _ K3.out.1];rfl
 have z4:V4.cell? ⟨w4.heap.size,1,none⟩=some (.slice B4 2 d4):=by rw[World.cell?,k4];rfl
 have R2:RdRs V4 B2 aw2:=(HT2.out.later b24).hr
 have R4:RdRs V4 B4 aw4:=(T4.later hbV4).hr
 have HV4:=Lib.hid hV4
 have HB4:=Lib.hid (below_tr HBV3.out b34)
 have HR:=Lib.hid (And.intro R2 R4)
 have l2:=cell_lt z2
 have l3:=cell_lt z3
 have l4:=cell_lt z4
 clear hb4 hT4 T4 hV4 hbV4 k4 b34 b24 R2 R4
 go_wp2
 simp only[HV4.out]
 refine Rf.p0 V4.heap.size _ (.quiet [0,1,2,3,4,5,6,7,8,9,10,11,12] (.one 13 (.one 14 (.quiet [15] (.one 16 (.quiet [17,18,19,20,21,22,23,24,25,26] (.one 27 (.fork 28 29 (.one 29 (.one 30 (.one 31 (.one 32 (.quiet [33,34] (.done)))))) (.fork 28 30 (.one 30 (.one 31 (.one 32 (.quiet [33,34] (.done))))) (.one 28 (.one 31 (.one 32 (.quiet [33,34] (.done)))))))))))))) ?_ (λa w h=>h)
 intro wd hbd hwz
 have y2:=cellL z2 hbd
 have HWZ:=Lib.hid (And.intro hwz hbd)
 have hs3:=hbd.size
 clear hwz
 refine Rf.pl_quiet ?_
 iterate 13 go_big_quiet_step (fail)
 refine wpQuiet_nil (Rf.pl_one ?_)
 clear y2
 go_wp2
 first|refine⟨(Below.refl _ _).alloc hs3 _,Rf.pl_one ?_⟩|refine Rf.pl_one ?_
 obtain⟨W5,hW5⟩:∃W:World,wd.alloc (.cells #[.string ⟨#[97,49]⟩,.string ⟨#[98,49]⟩,.string ⟨#[97,50]⟩,.string ⟨#[97,50]⟩] 9)=W:=⟨_,rfl⟩
 have hbW5:Below wd.heap.size wd W5:=by rw[←hW5];exact(Below.refl _ _).alloc (Nat.le_refl _) _
 have hO2:=law29Of [(⟨#[97,49]⟩:ByteArray),⟨#[98,49]⟩,⟨#[97,50]⟩,⟨#[97,50]⟩] (some ⟨wd.heap.size,0,none⟩) 4 4 W5 rfl (by decide) awZ2 (by rw[←hW5];exact Rd.of_block (heap_alloc_new wd _) rfl)
 rw[aw2_is]at hO2
 simp only[hW5]
 have hB5:=below_tr hbd hbW5
 have hs5:V4.heap.size<=W5.heap.size:=Nat.le_trans hs3 hbW5.size
 have HB5:=Lib.hid hB5
 clear hW5 hbW5 hbd hB5
 go_wp2_with (go_at_call 40;refine hO2.mono ?_;intro e w5 h5;obtain⟨x0,x1,rfl,hb5,hT5⟩:=h5.tab;obtain⟨A5,c5,B5,d5,rfl,rfl,T5,-⟩:=hT5.tab (by decide) (by decide) (aw_len awB2);simp only[show ([tX,tY]:List ByteArray).length=2 from rfl,show aw2.length=4 from rfl]at T5 ⊢;clear h5)
 refine⟨hb5.mono hs5,Rf.pl_quiet ?_⟩
 have hfd:=λW=>fieldRows A5 B5 2 c5 4 d5 W
 have hB5b:=below_tr HB5.out hb5
 have HB5b:=Lib.hid hB5b
 have hSm:=kitSameRows aw2 aw2 B2 B5 d2 d5 4 4 w5 rfl rfl (by decide) (by decide) (aw_len awB2) (aw_len awB2) (HR.out.1.later hB5b) T5.hr
 rw[show decide (aw2=aw2)=true from decide_eq_true rfl]at hSm
 have hs6:V4.heap.size<=w5.heap.size:=Nat.le_trans hs5 hb5.size
 clear hb5 hT5 T5 hO2 hB5b
 iterate 1 go_big_quiet_step (fail)
 refine wpQuiet_nil (Rf.pl_one ?_)
 clear hfd
 go_wp2_with (go_at_call 31;refine hSm.mono ?_;rintro e w6 ⟨rfl,hb6⟩)
 refine⟨hb6.mono hs6,Rf.pl_quiet ?_⟩
 have hB6:=below_tr HB5b.out hb6
 have HBB6:=Lib.hid hB6
 have hs_w6:V4.heap.size<=w6.heap.size:=Nat.le_trans hs6 hb6.size
 have y3:=cellL z3 hB6
 have y4:=cellL z4 hB6
 clear hb6 hSm hB6
 iterate 10 go_big_quiet_step (fail)
 refine wpQuiet_nil (Rf.pl_one ?_)
 clear y3 y4
 go_wp2_with (go_at_call 41;refine(law29Iri _ _).mono ?_;rintro e w7 ⟨rfl,hb7⟩)
 refine⟨hb7.mono hs_w6,Rf.pl_fork ?_ ?_⟩
 ·have hs_w7:V4.heap.size<=w7.heap.size:=Nat.le_trans hs_w6 hb7.size
  have HBBw7:=Lib.hid hb7
  clear hb7 z2 z3 z4
  go_wp2
  first|refine⟨(Below.refl _ _).alloc hs_w7 _,Rf.pl_one ?_⟩|refine Rf.pl_one ?_
  obtain⟨N1,hN1⟩:∃W:World,w7.alloc (.cells #[.int .i64 1,.string ⟨#[97]⟩,.string ⟨#[]⟩,.string ⟨#[]⟩] 76)=W:=⟨_,rfl⟩
  have hbN1:Below w7.heap.size w7 N1:=by rw[←hN1];exact(Below.refl _ _).alloc (Nat.le_refl _) _
  have hg28:N1.heap[w7.heap.size]?=some (Obj.cells #[.int .i64 1,.string ⟨#[97]⟩,.string ⟨#[]⟩,.string ⟨#[]⟩] 76 (0,0)):=by rw[←hN1];exact heap_alloc_new _ _
  have hs_N1:V4.heap.size<=N1.heap.size:=Nat.le_trans hs_w7 hbN1.size
  have HBBN1:=Lib.hid (below_tr HBBw7.out hbN1)
  simp only[hN1]
  clear hN1 hbN1
  go_wp2_with (go_at_call 41;refine(law29Iri _ _).mono ?_;rintro e w8 ⟨rfl,hb8⟩)
  refine⟨hb8.mono hs_N1,Rf.pl_one ?_⟩
  replace hg28:=KeepT.below hb8 _ _ _ hg28
  have hs_w8:V4.heap.size<=w8.heap.size:=Nat.le_trans hs_N1 hb8.size
  have HBBw8:=Lib.hid (below_tr HBBN1.out hb8)
  clear hb8
  go_wp2
  first|refine⟨(Below.refl _ _).alloc hs_w8 _,Rf.pl_one ?_⟩|refine Rf.pl_one ?_
  obtain⟨N2,hN2⟩:∃W:World,w8.alloc (.cells #[.int .i64 1,.string ⟨#[98]⟩,.string ⟨#[]⟩,.string ⟨#[]⟩] 76)=W:=⟨_,rfl⟩
  have hbN2:Below w8.heap.size w8 N2:=by rw[←hN2];exact(Below.refl _ _).alloc (Nat.le_refl _) _
  replace hg28:=KeepT.below hbN2 _ _ _ hg28
  have hg30:N2.heap[w8.heap.size]?=some (Obj.cells #[.int .i64 1,.string ⟨#[98]⟩,.string ⟨#[]⟩,.string ⟨#[]⟩] 76 (0,0)):=by rw[←hN2];exact heap_alloc_new _ _
  have hs_N2:V4.heap.size<=N2.heap.size:=Nat.le_trans hs_w8 hbN2.size
  have HBBN2:=Lib.hid (below_tr HBBw8.out hbN2)
  simp only[hN2]
  clear hN2 hbN2
  go_wp2
  first|refine⟨(Below.refl _ _).alloc hs_N2 _,Rf.pl_one ?_⟩|refine Rf.pl_one ?_
  obtain⟨N3,hN3⟩:∃W:World,N2.alloc (.cells #[.slice (some ⟨w7.heap.size,0,none⟩) 1 1,.slice (some ⟨w8.heap.size,0,none⟩) 1 1] 59)=W:=⟨_,rfl⟩
  have hbN3:Below N2.heap.size N2 N3:=by rw[←hN3];exact(Below.refl _ _).alloc (Nat.le_refl _) _
  replace hg28:=KeepT.below hbN3 _ _ _ hg28
  replace hg30:=KeepT.below hbN3 _ _ _ hg30
  have hg31:N3.heap[N2.heap.size]?=some (Obj.cells #[.slice (some ⟨w7.heap.size,0,none⟩) 1 1,.slice (some ⟨w8.heap.size,0,none⟩) 1 1] 59 (0,0)):=by rw[←hN3];exact heap_alloc_new _ _
  have hs_N3:V4.heap.size<=N3.heap.size:=Nat.le_trans hs_N2 hbN3.size
  have HBBN3:=Lib.hid (below_tr HBBN2.out hbN3)
  simp only[hN3]
  clear hN3 hbN3
  have hS2:=kitSameRows aw4 aw4 B4 (some ⟨N2.heap.size,0,none⟩) d4 2 2 2 N3 rfl rfl (by decide) (by decide) (aw_len awB4) (aw_len awB4) (HR.out.2.later (below_tr HBB6.out HBBN3.out)) (rd_aw4 hg28 hg30 hg31)
  rw[show decide (aw4=aw4)=true from decide_eq_true rfl]at hS2
  clear hg28 hg30 hg31
  go_wp2_with (go_at_call 31;refine hS2.mono ?_;rintro e w9 ⟨rfl,hb9⟩)
  refine⟨hb9.mono hs_N3,Rf.pl_quiet ?_⟩
  have HF:=Lib.hid (below_tr HB4.out (below_tr HBB6.out (below_tr HBBN3.out hb9)))
  clear hS2 hb9
  iterate 2 go_big_quiet_step (fail)
  refine wpQuiet_nil (Rf.pl_done ?_)
  go_wp2
  go_ret
  exact⟨rfl,HF.out⟩
 ·have hs_w7:V4.heap.size<=w7.heap.size:=Nat.le_trans hs_w6 hb7.size
  have HBBw7:=Lib.hid hb7
  clear hb7 z2 z3 z4
  go_wp2_with (go_at_call 41;refine(law29Iri _ _).mono ?_;rintro e w8 ⟨rfl,hb8⟩)
  refine⟨hb8.mono hs_w7,Rf.pl_fork ?_ ?_⟩
  ·have hs_w8:V4.heap.size<=w8.heap.size:=Nat.le_trans hs_w7 hb8.size
   have HBBw8:=Lib.hid (below_tr HBBw7.out hb8)
   clear hb8
   go_wp2
   first|refine⟨(Below.refl _ _).alloc hs_w8 _,Rf.pl_one ?_⟩|refine Rf.pl_one ?_
   obtain⟨N1,hN1⟩:∃W:World,w8.alloc (.cells #[.int .i64 1,.string ⟨#[97]⟩,.string ⟨#[]⟩,.string ⟨#[]⟩] 76)=W:=⟨_,rfl⟩
   have hbN1:Below w8.heap.size w8 N1:=by rw[←hN1];exact(Below.refl _ _).alloc (Nat.le_refl _) _
   have hg28:N1.heap[w8.heap.size]?=some (Obj.cells #[.int .i64 1,.string ⟨#[97]⟩,.string ⟨#[]⟩,.string ⟨#[]⟩] 76 (0,0)):=by rw[←hN1];exact heap_alloc_new _ _
   have hs_N1:V4.heap.size<=N1.heap.size:=Nat.le_trans hs_w8 hbN1.size
   have HBBN1:=Lib.hid (below_tr HBBw8.out hbN1)
   simp only[hN1]
   clear hN1 hbN1
   go_wp2
   first|refine⟨(Below.refl _ _).alloc hs_N1 _,Rf.pl_one ?_⟩|refine Rf.pl_one ?_
   obtain⟨N2,hN2⟩:∃W:World,N1.alloc (.cells #[.int .i64 1,.string ⟨#[98]⟩,.string ⟨#[]⟩,.string ⟨#[]⟩] 76)=W:=⟨_,rfl⟩
   have hbN2:Below N1.heap.size N1 N2:=by rw[←hN2];exact(Below.refl _ _).alloc (Nat.le_refl _) _
   replace hg28:=KeepT.below hbN2 _ _ _ hg28
   have hg30:N2.heap[N1.heap.size]?=some (Obj.cells #[.int .i64 1,.string ⟨#[98]⟩,.string ⟨#[]⟩,.string ⟨#[]⟩] 76 (0,0)):=by rw[←hN2];exact heap_alloc_new _ _
   have hs_N2:V4.heap.size<=N2.heap.size:=Nat.le_trans hs_N1 hbN2.size
   have HBBN2:=Lib.hid (below_tr HBBN1.out hbN2)
   simp only[hN2]
   clear hN2 hbN2
   go_wp2
   first|refine⟨(Below.refl _ _).alloc hs_N2 _,Rf.pl_one ?_⟩|refine Rf.pl_one ?_
   obtain⟨N3,hN3⟩:∃W:World,N2.alloc (.cells #[.slice (some ⟨w8.heap.size,0,none⟩) 1 1,.slice (some ⟨N1.heap.size,0,none⟩) 1 1] 59)=W:=⟨_,rfl⟩
   have hbN3:Below N2.heap.size N2 N3:=by rw[←hN3];exact(Below.refl _ _).alloc (Nat.le_refl _) _
   replace hg28:=KeepT.below hbN3 _ _ _ hg28
   replace hg30:=KeepT.below hbN3 _ _ _ hg30
   have hg31:N3.heap[N2.heap.size]?=some (Obj.cells #[.slice (some ⟨w8.heap.size,0,none⟩) 1 1,.slice (some ⟨N1.heap.size,0,none⟩) 1 1] 59 (0,0)):=by rw[←hN3];exact heap_alloc_new _ _
   have hs_N3:V4.heap.size<=N3.heap.size:=Nat.le_trans hs_N2 hbN3.size
   have HBBN3:=Lib.hid (below_tr HBBN2.out hbN3)
   simp only[hN3]
   clear hN3 hbN3
   have hS2:=kitSameRows aw4 aw4 B4 (some ⟨N2.heap.size,0,none⟩) d4 2 2 2 N3 rfl rfl (by decide) (by decide) (aw_len awB4) (aw_len awB4) (HR.out.2.later (below_tr HBB6.out HBBN3.out)) (rd_aw4 hg28 hg30 hg31)
   rw[show decide (aw4=aw4)=true from decide_eq_true rfl]at hS2
   clear hg28 hg30 hg31
   go_wp2_with (go_at_call 31;refine hS2.mono ?_;rintro e w9 ⟨rfl,hb9⟩)
   refine⟨hb9.mono hs_N3,Rf.pl_quiet ?_⟩
   have HF:=Lib.hid (below_tr HB4.out (below_tr HBB6.out (below_tr HBBN3.out hb9)))
   clear hS2 hb9
   iterate 2 go_big_quiet_step (fail)
   refine wpQuiet_nil (Rf.pl_done ?_)
   go_wp2
   go_ret
   exact⟨rfl,HF.out⟩
  ·have hs_w8:V4.heap.size<=w8.heap.size:=Nat.le_trans hs_w7 hb8.size
   have HBBw8:=Lib.hid (below_tr HBBw7.out hb8)
   clear hb8
   go_wp2
   first|refine⟨(Below.refl _ _).alloc hs_w8 _,Rf.pl_one ?_⟩|refine Rf.pl_one ?_
   obtain⟨N1,hN1⟩:∃W:World,w8.alloc (.cells #[.int .i64 1,.string ⟨#[98]⟩,.string ⟨#[]⟩,.string ⟨#[]⟩] 76)=W:=⟨_,rfl⟩
   have hbN1:Below w8.heap.size w8 N1:=by rw[←hN1];exact(Below.refl _ _).alloc (Nat.le_refl _) _
   have hg30:N1.heap[w8.heap.size]?=some (Obj.cells #[.int .i64 1,.string ⟨#[98]⟩,.string ⟨#[]⟩,.string ⟨#[]⟩] 76 (0,0)):=by rw[←hN1];exact heap_alloc_new _ _
   have hs_N1:V4.heap.size<=N1.heap.size:=Nat.le_trans hs_w8 hbN1.size
   have HBBN1:=Lib.hid (below_tr HBBw8.out hbN1)
   simp only[hN1]
   clear hN1 hbN1
   go_wp2
   first|refine⟨(Below.refl _ _).alloc hs_N1 _,Rf.pl_one ?_⟩|refine Rf.pl_one ?_
   obtain⟨N2,hN2⟩:∃W:World,N1.alloc (.cells #[.int .i64 1,.string ⟨#[97]⟩,.string ⟨#[]⟩,.string ⟨#[]⟩] 76)=W:=⟨_,rfl⟩
   have hbN2:Below N1.heap.size N1 N2:=by rw[←hN2];exact(Below.refl _ _).alloc (Nat.le_refl _) _
   replace hg30:=KeepT.below hbN2 _ _ _ hg30
   have hg28:N2.heap[N1.heap.size]?=some (Obj.cells #[.int .i64 1,.string ⟨#[97]⟩,.string ⟨#[]⟩,.string ⟨#[]⟩] 76 (0,0)):=by rw[←hN2];exact heap_alloc_new _ _
   have hs_N2:V4.heap.size<=N2.heap.size:=Nat.le_trans hs_N1 hbN2.size
   have HBBN2:=Lib.hid (below_tr HBBN1.out hbN2)
   simp only[hN2]
   clear hN2 hbN2
   go_wp2
   first|refine⟨(Below.refl _ _).alloc hs_N2 _,Rf.pl_one ?_⟩|refine Rf.pl_one ?_
   obtain⟨N3,hN3⟩:∃W:World,N2.alloc (.cells #[.slice (some ⟨N1.heap.size,0,none⟩) 1 1,.slice (some ⟨w8.heap.size,0,none⟩) 1 1] 59)=W:=⟨_,rfl⟩
   have hbN3:Below N2.heap.size N2 N3:=by rw[←hN3];exact(Below.refl _ _).alloc (Nat.le_refl _) _
   replace hg30:=KeepT.below hbN3 _ _ _ hg30
   replace hg28:=KeepT.below hbN3 _ _ _ hg28
   have hg31:N3.heap[N2.heap.size]?=some (Obj.cells #[.slice (some ⟨N1.heap.size,0,none⟩) 1 1,.slice (some ⟨w8.heap.size,0,none⟩) 1 1] 59 (0,0)):=by rw[←hN3];exact heap_alloc_new _ _
   have hs_N3:V4.heap.size<=N3.heap.size:=Nat.le_trans hs_N2 hbN3.size
   have HBBN3:=Lib.hid (below_tr HBBN2.out hbN3)
   simp only[hN3]
   clear hN3 hbN3
   have hS2:=kitSameRows aw4 aw4 B4 (some ⟨N2.heap.size,0,none⟩) d4 2 2 2 N3 rfl rfl (by decide) (by decide) (aw_len awB4) (aw_len awB4) (HR.out.2.later (below_tr HBB6.out HBBN3.out)) (rd_aw4 hg28 hg30 hg31)
   rw[show decide (aw4=aw4)=true from decide_eq_true rfl]at hS2
   clear hg28 hg30 hg31
   go_wp2_with (go_at_call 31;refine hS2.mono ?_;rintro e w9 ⟨rfl,hb9⟩)
   refine⟨hb9.mono hs_N3,Rf.pl_quiet ?_⟩
   have HF:=Lib.hid (below_tr HB4.out (below_tr HBB6.out (below_tr HBBN3.out hb9)))
   clear hS2 hb9
   iterate 2 go_big_quiet_step (fail)
   refine wpQuiet_nil (Rf.pl_done ?_)
   go_wp2
   go_ret
   exact⟨rfl,HF.out⟩
end Go.Proofs.YtoejnneknpoanaaGreatDoor
