/- Layer 26's law, walked: MeanSound (printed by gen/mnl11.py). -/
import Derived.Test.YtoaemihcbmlkgaaGreatDoorJMnL10
import Derived.Test.YtoaemihcbmlkgaaGreatDoorJAppWG
namespace Go.Proofs.YtoaemihcbmlkgaaGreatDoor
open Go Go.RowKit Um Fm Mt Tx Om Mv Mn Mp
theorem sizeM_bd:∀(l:List Tp) (n:Nat),n<=2814749767106560->(∀t∈l,hugeP t)->sizeM l n<=2814749767106560
 | [],_,h,_=>h
 | t::r,n,h,hz=>by
  rw[sizeM]
  split
  ·obtain⟨⟨z1,z2,z3⟩,⟨z4,z5,z6⟩,z7,z8,z9⟩:=hz t (by simp)
   exact sizeM_bd r _ (by unfold sz3 sz8T;omega) λu hu=>hz u (by simp[hu])
  ·exact h
theorem tpInfoM:(Tryz.prog.info? 28).map (λi=>(i.zero,i.size,i.bytes))=some (some (.agg #[.int .i64 0,.string ⟨#[]⟩,.string ⟨#[]⟩,.string ⟨#[]⟩,.int .i64 0,.string ⟨#[]⟩,.string ⟨#[]⟩,.string ⟨#[]⟩,.int .i64 0,.string ⟨#[]⟩,.string ⟨#[]⟩,.string ⟨#[]⟩]),12,168):=by kernel_rfl
structure SoundH (set:List Tp) (pats:List Pat) (more:Tp) (As Ap:Option Addr) (n m:Nat) (w:World):Prop where
 hn:set.length=n
 hm:pats.length=m
 hC:CtxT w
 hls:n<=281474976710656
 hlp:m<=281474976710656
 hz:∀t∈set,hugeP t
 hzm:hugeP more
 hs:Rd w As (set.flatMap tpL)
 hp:RdPat w Ap pats
theorem SoundH.later {set:List Tp} {pats:List Pat} {more:Tp} {As Ap:Option Addr} {n m:Nat} {w w':World} (h:SoundH set pats more As Ap n m w) (hb:Below w.heap.size w w'):SoundH set pats more As Ap n m w':=
 ⟨h.hn,h.hm,h.hC.step hb,h.hls,h.hlp,h.hz,h.hzm,h.hs.later hb,RdL.mono h.hp hb λ_ _ _ h=>h⟩
theorem SolsR.plain {set:List Tp} {pats:List Pat} {w w':World} {e:Ending} (h:SolsR set pats w e w') {vars:List ByteArray} {rows:List (List Tm)} {nv N:Nat} (h1:varsN pats=vars) (h2:solP set pats=rows) (h3:vars.length=nv) (h4:rows.length=N) :
  ∃Av cv Ar cr,e=.returned (.tuple #[.slice Av nv cv,.slice Ar N cr])/\Rd w' Av (vars.map Value.string)/\RdRs w' Ar rows/\Below w.heap.size w w':=by
 subst h1 h2 h3 h4
 obtain⟨vv,vr,rfl,ho,hr,hb⟩:=h
 obtain⟨Av,cv,rfl,_,h5⟩:=own_slice ho
 obtain⟨Ar,cr,rfl,_,h6⟩:=hr.rd
 exact⟨Av,cv,Ar,cr,rfl,h5,h6,hb⟩
theorem sound_facts {set:List Tp} {pats:List Pat} {vars:List ByteArray} {rows:List (List Tm)} (h1:varsN pats=vars) (h2:solP set pats=rows) (hz:∀t∈set,smallP3 t) (hp:pats.length<=1000) :
  vars.length<=1000000/\(∀r∈rows,r.length=vars.length/\smallRow r)/\(∀i a b,rows[i]?=some a->rows[i+1]?=some b->cmpRow a b<0) /\
  ∀r∈rows,∀p∈pats,(⟨valueP vars r p.s,valueP vars r p.p,valueP vars r p.o⟩:Tp)∈set:=by
 subst h1 h2
 have hl:(varsN pats).length<=1000000:=by have:=varsN_len pats;omega
 refine⟨hl,λr hr=>⟨solP_row hr,by rw[solP_row hr];exact hl,λv hv=>?_⟩,λi a b ha hb=>solP_rise ha hb,λr hr p hp=>sol_there hr hp⟩
 obtain⟨t,ht,hi⟩:=solP_val hr hv
 rcases hi with rfl|rfl|rfl
 ·exact(hz t ht).1
 ·exact(hz t ht).2.1
 ·exact(hz t ht).2.2
set_option maxHeartbeats 16000000 in
set_option maxRecDepth 100000 in
theorem lawMeanSound (set:List Tp) (pats:List Pat) (tn:Int) (more:Tp) (As Ap:Option Addr) (cs cp n m:Nat) (w:World) (hH:SoundH set pats more As Ap n m w) (hcs:n<=cs) (hcp:m<=cp) :
  Calls Tryz.prog 3 #[.slice As n cs,.slice Ap m cp,.int .i64 tn,.agg #[.int .i64 more.s.k,.string more.s.x,.string more.s.l,.string more.s.y,.int .i64 more.p.k,.string more.p.x,.string more.p.l,.string more.p.y,.int .i64 more.o.k,.string more.o.x,.string more.o.l,.string more.o.y]] w λe w'=>e=.returned (.bool true)/\Below w.heap.size w w':=by
 obtain⟨W,hW⟩:∃V:World,w.alloc (.cells #[.int .i64 more.s.k,.string more.s.x,.string more.s.l,.string more.s.y,.int .i64 more.p.k,.string more.p.x,.string more.p.l,.string more.p.y,.int .i64 more.o.k,.string more.o.x,.string more.o.l,.string more.o.y] 28)=V:=⟨_,rfl⟩
 have hb:Below w.heap.size w W:=by rw[←hW];exact blw
 have hx0:∀(j:Nat) (v:Value),(#[.int .i64 more.s.k,.string more.s.x,.string more.s.l,.string more.s.y,.int .i64 more.p.k,.string more.p.x,.string more.p.l,.string more.p.y,.int .i64 more.o.k,.string more.o.x,.string more.o.l,.string more.o.y]:Array Value)[j]?=some v->W.cell? ⟨w.heap.size,j,none⟩=some v:=λj v h=>by rw[←hW,World.cell?,heap_alloc_new];simpa using h
 have HX0:=Lib.hid hx0
 have HB:=Lib.hid hb
 have HH:=Lib.hid (hH.later hb)
 have hawk:=mlAwake W HH.out.hC
 have hn2:=hH.hls
 have hm2:=hH.hlp
 clear hx0 hb hH
 go_enter Tryz.func3,Tryz.ntmps3
 go_upto_region 3 with (go_at_call 5;(try rw[hW]);refine hawk.mono ?_;rintro e w1 ⟨rfl,bq1⟩)
 have H1:=Lib.hid (HH.out.later bq1)
 have HB1:=Lib.hid (below_tr HB.out bq1)
 have hx:Hid (∀(j:Nat) (v:Value),(#[.int .i64 more.s.k,.string more.s.x,.string more.s.l,.string more.s.y,.int .i64 more.p.k,.string more.p.x,.string more.p.l,.string more.p.y,.int .i64 more.o.k,.string more.o.x,.string more.o.l,.string more.o.y]:Array Value)[j]?=some v->w1.cell? ⟨w.heap.size,j,none⟩=some v):=λj v h=>cell_on (HX0.out j v h) bq1
 clear hW hawk bq1 HX0 HB HH
 obtain⟨s1,e1⟩:∃s,sizeM set n=s:=⟨_,rfl⟩
 obtain⟨s2,e2⟩:∃s,sizeM [more] 1=s:=⟨_,rfl⟩
 obtain⟨hv,e3⟩:∃b,heavyP (set++[more]) pats 1=b:=⟨_,rfl⟩
 have hs1b:s1<=2814749767106560:=by rw[←e1];exact sizeM_bd _ _ (by omega) H1.out.hz
 have hs2b:s2<=2814749767106560:=by rw[←e2];exact sizeM_bd _ _ (by omega) (λt ht=>by simp only[List.mem_cons,List.not_mem_nil,or_false]at ht;subst ht;exact H1.out.hzm)
 obtain⟨R,hR⟩:∃b,(decide (200<n+m) || decide (3000<s1+s2) || hv)=b:=⟨_,rfl⟩
 go_cut [49] from 25 to 48 (λs wx=>s=.bool R/\Hid (Below w1.heap.size w1 wx))
 case first =>
  obtain⟨sm,hsm9⟩:∃k,s1+s2=k:=⟨_,rfl⟩
  obtain⟨nm,hnm9⟩:∃k,n+m=k:=⟨_,rfl⟩
  have hsz:Hid (∀V,Below w1.heap.size w1 V->Calls Tryz.prog 6 #[.slice As n cs] V λe w'=>e=.returned (.int .i64 (s1:Nat))/\Below V.heap.size V w'):=λV h=>by
   have h1:=mlSize set As cs V (by rw[H1.out.hn];exact H1.out.hls) H1.out.hz (H1.out.hs.later h)
   rw[H1.out.hn,e1]at h1
   exact h1
  have hsm:Hid (∀V A,Rd V A (tpL more)->Calls Tryz.prog 6 #[.slice A 1 1] V λe w'=>e=.returned (.int .i64 (s2:Nat))/\Below V.heap.size V w'):=λV A h=>by
   have h1:=mlSize [more] A 1 V (by simp) (λt ht=>by simp only[List.mem_cons,List.not_mem_nil,or_false]at ht;subst ht;exact H1.out.hzm) (by rw[List.flatMap_singleton];exact h)
   rw[show [more].length=1 from rfl,e2]at h1
   exact h1
  by_cases h200:200<n+m
  ·obtain rfl:R=true:=by rw[←hR,decide_eq_true h200];simp
   have hd:decide ((200:Int)<(nm:Int))=true:=decide_eq_true (by omega)
   have hw2:IntKind.i64.wrap ((n:Int)+(m:Int))=(nm:Int):=by rw[IntKind.wrap_i64];omega
   clear hR e1 e2 e3 hsz hsm
   refine wrq ?_;(repeat (any_goals (go_big_quiet_step ((fail)))));all_goals (refine wqn ?_;intro d9 os9)
   go_wp2_with fail
   go_meet
   case rel=>exact⟨rfl,below_regrown _ _ _⟩
  ·have hd:decide ((200:Int)<(nm:Int))=false:=decide_eq_false (by omega)
   by_cases h3:3000<s1+s2
   ·obtain rfl:R=true:=by rw[←hR,decide_eq_true h3];simp
    have hd3:decide ((3000:Int)<(sm:Int))=true:=decide_eq_true (by omega)
    have hw8:=Lib.hid (show IntKind.i64.wrap ((s1:Int)+(s2:Int))=(sm:Int) by rw[IntKind.wrap_i64];omega)
    have hw9:=Lib.hid (show IntKind.i64.wrap ((n:Int)+(m:Int))=(nm:Int) by rw[IntKind.wrap_i64];omega)
    clear hR e1 e2 e3
    refine Rf.p0 w1.heap.size _ (.quiet [0,1,2,3,4,5,6,7,9] (.fork 8 10 (.one 10 (.one 11 (.quiet [12,13,14,15,17,19,22] (.fork 16 20 (.fork 18 20 (.one 20 (.one 21 (.one 23 (.quiet [24] (.done))))) (.one 18 (.one 21 (.one 23 (.quiet [24] (.done)))))) (.one 16 (.one 18 (.one 21 (.one 23 (.quiet [24] (.done)))))))))) (.one 8 (.one 11 (.quiet [12,13,14,15,17,19,22] (.fork 16 20 (.fork 18 20 (.one 20 (.one 21 (.one 23 (.quiet [24] (.done))))) (.one 18 (.one 21 (.one 23 (.quiet [24] (.done)))))) (.one 16 (.one 18 (.one 21 (.one 23 (.quiet [24] (.done)))))))))))) ?_ (λa w h=>h)
    intro wd hbd hwz
    have hs0:=hbd.size
    have HB0:=Lib.hid hbd
    clear hwz hbd
    refine Rf.pl_quiet ?_
    obtain⟨y0,y1,y2,y3,y4,y5,y6,y7,y8,y9,y10,y11⟩:_/\_/\_/\_/\_/\_/\_/\_/\_/\_/\_/\_:=⟨cellL (hx.out 0 _ rfl) HB0.out,cellL (hx.out 1 _ rfl) HB0.out,cellL (hx.out 2 _ rfl) HB0.out,cellL (hx.out 3 _ rfl) HB0.out,cellL (hx.out 4 _ rfl) HB0.out,cellL (hx.out 5 _ rfl) HB0.out,cellL (hx.out 6 _ rfl) HB0.out,cellL (hx.out 7 _ rfl) HB0.out,cellL (hx.out 8 _ rfl) HB0.out,cellL (hx.out 9 _ rfl) HB0.out,cellL (hx.out 10 _ rfl) HB0.out,cellL (hx.out 11 _ rfl) HB0.out⟩
    have hw:=hw9.out
    iterate 9 go_big_quiet_step (fail)
    clear hw
    refine wpQuiet_nil (Rf.pl_fork ?_ ?_)
    clear y0 y1 y2 y3 y4 y5 y6 y7 y8 y9 y10 y11
    ·skip
     go_wp2_with (go_at_call 6;refine(hsz.out wd HB0.out).mono ?_;rintro e v1 ⟨rfl,b1⟩)
     refine⟨b1.mono hs0,?_⟩
     have HB1:=Lib.hid (HB0.out.trans (b1.mono hs0))
     have hs1:=Nat.le_trans hs0 b1.size
     clear b1
     refine Rf.pl_one ?_
     go_wp2
     refine⟨(Below.refl _ _).alloc hs1 _,?_⟩
     obtain⟨v2,e2⟩:∃V:World,v1.alloc (.cells #[.int .i64 more.s.k,.string more.s.x,.string more.s.l,.string more.s.y,.int .i64 more.p.k,.string more.p.x,.string more.p.l,.string more.p.y,.int .i64 more.o.k,.string more.o.x,.string more.o.l,.string more.o.y] 28)=V:=⟨_,rfl⟩
     have b2:Below v1.heap.size v1 v2:=by rw[←e2];exact blw
     have R2:Hid (Rd v2 (some ⟨v1.heap.size,0,none⟩) (tpL more)):=by rw[←e2];exact Rd.of_block (heap_alloc_new _ _) rfl
     have hz2:Hid (v2.heap.size=v1.heap.size+1):=by rw[←e2];show _=_;simp
     have HB2:=Lib.hid (HB1.out.trans (b2.mono hs1))
     have hs2:=Nat.le_trans hs1 b2.size
     clear b2
     simp only[e2]
     clear e2
     refine Rf.pl_one ?_
     go_wp2_with (go_at_call 6;refine(hsm.out v2 _ R2.out).mono ?_;rintro e v3 ⟨rfl,b3⟩)
     refine⟨b3.mono hs2,?_⟩
     have HB3:=Lib.hid (HB2.out.trans (b3.mono hs2))
     have hs3:=Nat.le_trans hs2 b3.size
     clear b3
     refine Rf.pl_quiet ?_
     obtain⟨y0,y1,y2,y3,y4,y5,y6,y7,y8,y9,y10,y11⟩:_/\_/\_/\_/\_/\_/\_/\_/\_/\_/\_/\_:=⟨cellL (hx.out 0 _ rfl) HB3.out,cellL (hx.out 1 _ rfl) HB3.out,cellL (hx.out 2 _ rfl) HB3.out,cellL (hx.out 3 _ rfl) HB3.out,cellL (hx.out 4 _ rfl) HB3.out,cellL (hx.out 5 _ rfl) HB3.out,cellL (hx.out 6 _ rfl) HB3.out,cellL (hx.out 7 _ rfl) HB3.out,cellL (hx.out 8 _ rfl) HB3.out,cellL (hx.out 9 _ rfl) HB3.out,cellL (hx.out 10 _ rfl) HB3.out,cellL (hx.out 11 _ rfl) HB3.out⟩
     have hw:=hw8.out
     iterate 7 go_big_quiet_step (fail)
     clear hw
     refine wpQuiet_nil (Rf.pl_fork ?_ ?_)
     clear y0 y1 y2 y3 y4 y5 y6 y7 y8 y9 y10 y11
     ·skip
      go_wp2
      refine⟨Below.refl _ _,Rf.pl_fork ?_ ?_⟩
      ·skip
       go_wp2
       refine⟨Below.refl _ _,Rf.pl_one ?_⟩
       go_wp2
       refine⟨Below.refl _ _,Rf.pl_one ?_⟩
       go_wp2
       refine⟨Below.refl _ _,Rf.pl_one ?_⟩
       go_wp2
       refine⟨Below.refl _ _,Rf.pl_quiet ?_⟩
       iterate 1 go_big_quiet_step (fail)
       refine wpQuiet_nil (Rf.pl_done ?_)
       go_wp2_with fail
       go_meet
       case rel=>exact⟨rfl,HB3⟩
      ·skip
       go_wp2
       refine⟨Below.refl _ _,Rf.pl_one ?_⟩
       go_wp2
       refine⟨Below.refl _ _,Rf.pl_one ?_⟩
       go_wp2
       refine⟨Below.refl _ _,Rf.pl_one ?_⟩
       go_wp2
       refine⟨Below.refl _ _,Rf.pl_quiet ?_⟩
       iterate 1 go_big_quiet_step (fail)
       refine wpQuiet_nil (Rf.pl_done ?_)
       go_wp2_with fail
       go_meet
       case rel=>exact⟨rfl,HB3⟩
     ·skip
      go_wp2
      refine⟨Below.refl _ _,Rf.pl_one ?_⟩
      go_wp2
      refine⟨Below.refl _ _,Rf.pl_one ?_⟩
      go_wp2
      refine⟨Below.refl _ _,Rf.pl_one ?_⟩
      go_wp2
      refine⟨Below.refl _ _,Rf.pl_one ?_⟩
      go_wp2
      refine⟨Below.refl _ _,Rf.pl_quiet ?_⟩
      iterate 1 go_big_quiet_step (fail)
      refine wpQuiet_nil (Rf.pl_done ?_)
      go_wp2_with fail
      go_meet
      case rel=>exact⟨rfl,HB3⟩
    ·skip
     go_wp2
     refine⟨(Below.refl _ _).alloc hs0 _,?_⟩
     obtain⟨v4,e4⟩:∃V:World,wd.alloc (.cells #[.int .i64 more.s.k,.string more.s.x,.string more.s.l,.string more.s.y,.int .i64 more.p.k,.string more.p.x,.string more.p.l,.string more.p.y,.int .i64 more.o.k,.string more.o.x,.string more.o.l,.string more.o.y] 28)=V:=⟨_,rfl⟩
     have b4:Below wd.heap.size wd v4:=by rw[←e4];exact blw
     have R4:Hid (Rd v4 (some ⟨wd.heap.size,0,none⟩) (tpL more)):=by rw[←e4];exact Rd.of_block (heap_alloc_new _ _) rfl
     have hz4:Hid (v4.heap.size=wd.heap.size+1):=by rw[←e4];show _=_;simp
     have HB4:=Lib.hid (HB0.out.trans (b4.mono hs0))
     have hs4:=Nat.le_trans hs0 b4.size
     clear b4
     simp only[e4]
     clear e4
     refine Rf.pl_one ?_
     go_wp2_with (go_at_call 6;refine(hsz.out v4 HB4.out).mono ?_;rintro e v5 ⟨rfl,b5⟩)
     refine⟨b5.mono hs4,?_⟩
     have HB5:=Lib.hid (HB4.out.trans (b5.mono hs4))
     have hs5:=Nat.le_trans hs4 b5.size
     have R5rA:=Lib.hid (R4.out.later b5)
     clear b5
     refine Rf.pl_one ?_
     go_wp2_with (go_at_call 6;refine(hsm.out v5 _ R5rA.out).mono ?_;rintro e v6 ⟨rfl,b6⟩)
     refine⟨b6.mono hs5,?_⟩
     have HB6:=Lib.hid (HB5.out.trans (b6.mono hs5))
     have hs6:=Nat.le_trans hs5 b6.size
     clear b6
     refine Rf.pl_quiet ?_
     obtain⟨y0,y1,y2,y3,y4,y5,y6,y7,y8,y9,y10,y11⟩:_/\_/\_/\_/\_/\_/\_/\_/\_/\_/\_/\_:=⟨cellL (hx.out 0 _ rfl) HB6.out,cellL (hx.out 1 _ rfl) HB6.out,cellL (hx.out 2 _ rfl) HB6.out,cellL (hx.out 3 _ rfl) HB6.out,cellL (hx.out 4 _ rfl) HB6.out,cellL (hx.out 5 _ rfl) HB6.out,cellL (hx.out 6 _ rfl) HB6.out,cellL (hx.out 7 _ rfl) HB6.out,cellL (hx.out 8 _ rfl) HB6.out,cellL (hx.out 9 _ rfl) HB6.out,cellL (hx.out 10 _ rfl) HB6.out,cellL (hx.out 11 _ rfl) HB6.out⟩
     have hw:=hw8.out
     iterate 7 go_big_quiet_step (fail)
     clear hw
     refine wpQuiet_nil (Rf.pl_fork ?_ ?_)
     clear y0 y1 y2 y3 y4 y5 y6 y7 y8 y9 y10 y11
     ·skip
      go_wp2
      refine⟨Below.refl _ _,Rf.pl_fork ?_ ?_⟩
      ·skip
       go_wp2
       refine⟨Below.refl _ _,Rf.pl_one ?_⟩
       go_wp2
       refine⟨Below.refl _ _,Rf.pl_one ?_⟩
       go_wp2
       refine⟨Below.refl _ _,Rf.pl_one ?_⟩
       go_wp2
       refine⟨Below.refl _ _,Rf.pl_quiet ?_⟩
       iterate 1 go_big_quiet_step (fail)
       refine wpQuiet_nil (Rf.pl_done ?_)
       go_wp2_with fail
       go_meet
       case rel=>exact⟨rfl,HB6⟩
      ·skip
       go_wp2
       refine⟨Below.refl _ _,Rf.pl_one ?_⟩
       go_wp2
       refine⟨Below.refl _ _,Rf.pl_one ?_⟩
       go_wp2
       refine⟨Below.refl _ _,Rf.pl_one ?_⟩
       go_wp2
       refine⟨Below.refl _ _,Rf.pl_quiet ?_⟩
       iterate 1 go_big_quiet_step (fail)
       refine wpQuiet_nil (Rf.pl_done ?_)
       go_wp2_with fail
       go_meet
       case rel=>exact⟨rfl,HB6⟩
     ·skip
      go_wp2
      refine⟨Below.refl _ _,Rf.pl_one ?_⟩
      go_wp2
      refine⟨Below.refl _ _,Rf.pl_one ?_⟩
      go_wp2
      refine⟨Below.refl _ _,Rf.pl_one ?_⟩
      go_wp2
      refine⟨Below.refl _ _,Rf.pl_one ?_⟩
      go_wp2
      refine⟨Below.refl _ _,Rf.pl_quiet ?_⟩
      iterate 1 go_big_quiet_step (fail)
      refine wpQuiet_nil (Rf.pl_done ?_)
      go_wp2_with fail
      go_meet
      case rel=>exact⟨rfl,HB6⟩
   ·obtain rfl:R=hv:=by rw[←hR,decide_eq_false h3,decide_eq_false h200];simp
    have hd3:decide ((3000:Int)<(sm:Int))=false:=decide_eq_false (by omega)
    have hw8:=Lib.hid (show IntKind.i64.wrap ((s1:Int)+(s2:Int))=(sm:Int) by rw[IntKind.wrap_i64];omega)
    have hw9:=Lib.hid (show IntKind.i64.wrap ((n:Int)+(m:Int))=(nm:Int) by rw[IntKind.wrap_i64];omega)
    have hn:=Lib.hid H1.out.hn
    have hrs:=Lib.hid H1.out.hs
    have hhv:Hid (∀V A c,Rd V A ((set++[more]).flatMap tpL)->Below w1.heap.size w1 V->Calls Tryz.prog 7 #[.slice A (n+1) c,.slice Ap m cp] V λe w'=>e=.returned (.bool R)/\Below V.heap.size V w'):=λV A c h hb=>by
     have h1:=mlHeavy (set++[more]) pats A Ap c cp V (by rw[List.length_append,H1.out.hn];simp;omega) (by rw[H1.out.hm];omega) h (RdL.mono H1.out.hp hb λ_ _ _ h=>h)
     rw[List.length_append,H1.out.hn,H1.out.hm,e3]at h1
     exact h1
    clear hR e1 e2 e3
    refine Rf.p0 w1.heap.size _ (.quiet [0,1,2,3,4,5,6,7,9] (.fork 8 10 (.one 10 (.one 11 (.quiet [12,13,14,15,17,19,22] (.fork 16 20 (.fork 18 20 (.one 20 (.one 21 (.one 23 (.quiet [24] (.done))))) (.one 18 (.one 21 (.one 23 (.quiet [24] (.done)))))) (.one 16 (.one 18 (.one 21 (.one 23 (.quiet [24] (.done)))))))))) (.one 8 (.one 11 (.quiet [12,13,14,15,17,19,22] (.fork 16 20 (.fork 18 20 (.one 20 (.one 21 (.one 23 (.quiet [24] (.done))))) (.one 18 (.one 21 (.one 23 (.quiet [24] (.done)))))) (.one 16 (.one 18 (.one 21 (.one 23 (.quiet [24] (.done)))))))))))) ?_ (λa w h=>h)
    intro wd hbd hwz
    have hs0:=hbd.size
    have HB0:=Lib.hid hbd
    clear hwz hbd
    refine Rf.pl_quiet ?_
    obtain⟨y0,y1,y2,y3,y4,y5,y6,y7,y8,y9,y10,y11⟩:_/\_/\_/\_/\_/\_/\_/\_/\_/\_/\_/\_:=⟨cellL (hx.out 0 _ rfl) HB0.out,cellL (hx.out 1 _ rfl) HB0.out,cellL (hx.out 2 _ rfl) HB0.out,cellL (hx.out 3 _ rfl) HB0.out,cellL (hx.out 4 _ rfl) HB0.out,cellL (hx.out 5 _ rfl) HB0.out,cellL (hx.out 6 _ rfl) HB0.out,cellL (hx.out 7 _ rfl) HB0.out,cellL (hx.out 8 _ rfl) HB0.out,cellL (hx.out 9 _ rfl) HB0.out,cellL (hx.out 10 _ rfl) HB0.out,cellL (hx.out 11 _ rfl) HB0.out⟩
    have hw:=hw9.out
    iterate 9 go_big_quiet_step (fail)
    clear hw
    refine wpQuiet_nil (Rf.pl_fork ?_ ?_)
    clear y0 y1 y2 y3 y4 y5 y6 y7 y8 y9 y10 y11
    ·skip
     go_wp2_with (go_at_call 6;refine(hsz.out wd HB0.out).mono ?_;rintro e v7 ⟨rfl,b7⟩)
     refine⟨b7.mono hs0,?_⟩
     have HB7:=Lib.hid (HB0.out.trans (b7.mono hs0))
     have hs7:=Nat.le_trans hs0 b7.size
     clear b7
     refine Rf.pl_one ?_
     go_wp2
     refine⟨(Below.refl _ _).alloc hs7 _,?_⟩
     obtain⟨v8,e8⟩:∃V:World,v7.alloc (.cells #[.int .i64 more.s.k,.string more.s.x,.string more.s.l,.string more.s.y,.int .i64 more.p.k,.string more.p.x,.string more.p.l,.string more.p.y,.int .i64 more.o.k,.string more.o.x,.string more.o.l,.string more.o.y] 28)=V:=⟨_,rfl⟩
     have b8:Below v7.heap.size v7 v8:=by rw[←e8];exact blw
     have R8:Hid (Rd v8 (some ⟨v7.heap.size,0,none⟩) (tpL more)):=by rw[←e8];exact Rd.of_block (heap_alloc_new _ _) rfl
     have hz8:Hid (v8.heap.size=v7.heap.size+1):=by rw[←e8];show _=_;simp
     have HB8:=Lib.hid (HB7.out.trans (b8.mono hs7))
     have hs8:=Nat.le_trans hs7 b8.size
     clear b8
     simp only[e8]
     clear e8
     refine Rf.pl_one ?_
     go_wp2_with (go_at_call 6;refine(hsm.out v8 _ R8.out).mono ?_;rintro e v9 ⟨rfl,b9⟩)
     refine⟨b9.mono hs8,?_⟩
     have HB9:=Lib.hid (HB8.out.trans (b9.mono hs8))
     have hs9:=Nat.le_trans hs8 b9.size
     clear b9
     refine Rf.pl_quiet ?_
     obtain⟨y0,y1,y2,y3,y4,y5,y6,y7,y8,y9,y10,y11⟩:_/\_/\_/\_/\_/\_/\_/\_/\_/\_/\_/\_:=⟨cellL (hx.out 0 _ rfl) HB9.out,cellL (hx.out 1 _ rfl) HB9.out,cellL (hx.out 2 _ rfl) HB9.out,cellL (hx.out 3 _ rfl) HB9.out,cellL (hx.out 4 _ rfl) HB9.out,cellL (hx.out 5 _ rfl) HB9.out,cellL (hx.out 6 _ rfl) HB9.out,cellL (hx.out 7 _ rfl) HB9.out,cellL (hx.out 8 _ rfl) HB9.out,cellL (hx.out 9 _ rfl) HB9.out,cellL (hx.out 10 _ rfl) HB9.out,cellL (hx.out 11 _ rfl) HB9.out⟩
     have hw:=hw8.out
     iterate 7 go_big_quiet_step (fail)
     clear hw
     refine wpQuiet_nil (Rf.pl_fork ?_ ?_)
     clear y0 y1 y2 y3 y4 y5 y6 y7 y8 y9 y10 y11
     ·skip
      go_wp2
      refine⟨(Below.refl _ _).alloc hs9 _,?_⟩
      obtain⟨v10,e10⟩:∃V:World,v9.alloc (.cells #[] 28)=V:=⟨_,rfl⟩
      have b10:Below v9.heap.size v9 v10:=by rw[←e10];exact blw
      have hz10:Hid (v10.heap.size=v9.heap.size+1):=by rw[←e10];show _=_;simp
      have O10:Hid (v10.ownsRow w1.heap.size 28 12 (.slice (some ⟨v9.heap.size,0,none⟩) 0 0) 0 ([]:List Value)):=by rw[←e10];exact own_new (n:=0) hs9 rfl rfl (by omega)
      have HB10:=Lib.hid (HB9.out.trans (b10.mono hs9))
      have hs10:=Nat.le_trans hs9 b10.size
      clear b10
      simp only[e10]
      clear e10
      refine Rf.pl_fork ?_ ?_
      ·skip
       go_wp2_with (at_builtin;refine wpList_appWG rfl (by first|go_simp|simp[go_sem]|rfl) Tryz.underlying22 tpInfoM rfl (by omega) rfl O10.out rfl (hrs.out.later HB10.out) (by rw[tpL_len,hn.out]) (λu hu=>by obtain⟨t,_,h⟩:=List.mem_flatMap.1 hu;exact tpL_one t u h) (by omega) (by omega) hs10 ?_;intro z11 v11 own11 bb11 gg11)
       refine⟨bb11,?_⟩
       rw[Nat.zero_add,List.nil_append]at own11
       obtain⟨A11,c11,rfl,_,_⟩:=own_slice own11
       have O11:=Lib.hid own11
       have HB11:=Lib.hid (HB10.out.trans bb11)
       have hs11:=Nat.le_trans hs10 gg11.size
       clear own11 bb11 gg11
       refine Rf.pl_one ?_
       go_wp2
       refine⟨(Below.refl _ _).alloc hs11 _,?_⟩
       obtain⟨v12,e12⟩:∃V:World,v11.alloc (.cells #[.int .i64 more.s.k,.string more.s.x,.string more.s.l,.string more.s.y,.int .i64 more.p.k,.string more.p.x,.string more.p.l,.string more.p.y,.int .i64 more.o.k,.string more.o.x,.string more.o.l,.string more.o.y] 28)=V:=⟨_,rfl⟩
       have b12:Below v11.heap.size v11 v12:=by rw[←e12];exact blw
       have R12:Hid (Rd v12 (some ⟨v11.heap.size,0,none⟩) (tpL more)):=by rw[←e12];exact Rd.of_block (heap_alloc_new _ _) rfl
       have hz12:Hid (v12.heap.size=v11.heap.size+1):=by rw[←e12];show _=_;simp
       have HB12:=Lib.hid (HB11.out.trans (b12.mono hs11))
       have hs12:=Nat.le_trans hs11 b12.size
       have O12:=Lib.hid (own_below O11.out b12 (Nat.le_refl _))
       clear b12
       simp only[e12]
       clear e12
       refine Rf.pl_one ?_
       go_wp2_with (at_builtin;refine wpList_appWG rfl (by first|go_simp|simp[go_sem]|rfl) Tryz.underlying22 tpInfoM rfl (by omega) rfl O12.out rfl R12.out rfl (tpL_one more) (by omega) (by omega) hs12 ?_;intro z13 v13 own13 bb13 gg13)
       refine⟨bb13,?_⟩
       obtain⟨A13,c13,rfl,_,rd13⟩:=own_slice own13
       have R13:Hid (Rd v13 A13 ((set++[more]).flatMap tpL)):=by rw[List.flatMap_append,List.flatMap_singleton];exact rd13
       have HB13:=Lib.hid (HB12.out.trans bb13)
       have hs13:=Nat.le_trans hs12 gg13.size
       clear own13 bb13 gg13 rd13
       refine Rf.pl_one ?_
       go_wp2_with (go_at_call 7;refine(hhv.out v13 _ _ R13.out HB13.out).mono ?_;rintro e v14 ⟨rfl,b14⟩)
       refine⟨b14.mono hs13,?_⟩
       have HB14:=Lib.hid (HB13.out.trans (b14.mono hs13))
       have hs14:=Nat.le_trans hs13 b14.size
       clear b14
       refine Rf.pl_quiet ?_
       iterate 1 go_big_quiet_step (fail)
       refine wpQuiet_nil (Rf.pl_done ?_)
       go_wp2_with fail
       go_meet
       case rel=>exact⟨rfl,HB14⟩
      ·skip
       go_wp2
       refine⟨(Below.refl _ _).alloc hs10 _,?_⟩
       obtain⟨v15,e15⟩:∃V:World,v10.alloc (.cells #[.int .i64 more.s.k,.string more.s.x,.string more.s.l,.string more.s.y,.int .i64 more.p.k,.string more.p.x,.string more.p.l,.string more.p.y,.int .i64 more.o.k,.string more.o.x,.string more.o.l,.string more.o.y] 28)=V:=⟨_,rfl⟩
       have b15:Below v10.heap.size v10 v15:=by rw[←e15];exact blw
       have R15:Hid (Rd v15 (some ⟨v10.heap.size,0,none⟩) (tpL more)):=by rw[←e15];exact Rd.of_block (heap_alloc_new _ _) rfl
       have hz15:Hid (v15.heap.size=v10.heap.size+1):=by rw[←e15];show _=_;simp
       have HB15:=Lib.hid (HB10.out.trans (b15.mono hs10))
       have hs15:=Nat.le_trans hs10 b15.size
       have O15:=Lib.hid (own_below O10.out b15 (Nat.le_refl _))
       clear b15
       simp only[e15]
       clear e15
       refine Rf.pl_one ?_
       go_wp2_with (at_builtin;refine wpList_appWG rfl (by first|go_simp|simp[go_sem]|rfl) Tryz.underlying22 tpInfoM rfl (by omega) rfl O15.out rfl (hrs.out.later HB15.out) (by rw[tpL_len,hn.out]) (λu hu=>by obtain⟨t,_,h⟩:=List.mem_flatMap.1 hu;exact tpL_one t u h) (by omega) (by omega) hs15 ?_;intro z16 v16 own16 bb16 gg16)
       refine⟨bb16,?_⟩
       rw[Nat.zero_add,List.nil_append]at own16
       obtain⟨A16,c16,rfl,_,_⟩:=own_slice own16
       have O16:=Lib.hid own16
       have HB16:=Lib.hid (HB15.out.trans bb16)
       have hs16:=Nat.le_trans hs15 gg16.size
       have R16:Hid (Rd v16 (some ⟨v10.heap.size,0,none⟩) (tpL more)):=Rd.grown R15.out gg16 (λa ha=>by cases ha;intro e;have q:=Option.some.inj (show some (v10.heap.size)=some (v9.heap.size) from e);have qhz8:=hz8.out;have qhz10:=hz10.out;have qhz15:=hz15.out;omega)
       clear own16 bb16 gg16
       refine Rf.pl_one ?_
       go_wp2_with (at_builtin;refine wpList_appWG rfl (by first|go_simp|simp[go_sem]|rfl) Tryz.underlying22 tpInfoM rfl (by omega) rfl O16.out rfl R16.out rfl (tpL_one more) (by omega) (by omega) hs16 ?_;intro z17 v17 own17 bb17 gg17)
       refine⟨bb17,?_⟩
       obtain⟨A17,c17,rfl,_,rd17⟩:=own_slice own17
       have R17:Hid (Rd v17 A17 ((set++[more]).flatMap tpL)):=by rw[List.flatMap_append,List.flatMap_singleton];exact rd17
       have HB17:=Lib.hid (HB16.out.trans bb17)
       have hs17:=Nat.le_trans hs16 gg17.size
       clear own17 bb17 gg17 rd17
       refine Rf.pl_one ?_
       go_wp2_with (go_at_call 7;refine(hhv.out v17 _ _ R17.out HB17.out).mono ?_;rintro e v18 ⟨rfl,b18⟩)
       refine⟨b18.mono hs17,?_⟩
       have HB18:=Lib.hid (HB17.out.trans (b18.mono hs17))
       have hs18:=Nat.le_trans hs17 b18.size
       clear b18
       refine Rf.pl_quiet ?_
       iterate 1 go_big_quiet_step (fail)
       refine wpQuiet_nil (Rf.pl_done ?_)
       go_wp2_with fail
       go_meet
       case rel=>exact⟨rfl,HB18⟩
     ·skip
      go_wp2
      refine⟨(Below.refl _ _).alloc hs9 _,?_⟩
      obtain⟨v19,e19⟩:∃V:World,v9.alloc (.cells #[.int .i64 more.s.k,.string more.s.x,.string more.s.l,.string more.s.y,.int .i64 more.p.k,.string more.p.x,.string more.p.l,.string more.p.y,.int .i64 more.o.k,.string more.o.x,.string more.o.l,.string more.o.y] 28)=V:=⟨_,rfl⟩
      have b19:Below v9.heap.size v9 v19:=by rw[←e19];exact blw
      have R19:Hid (Rd v19 (some ⟨v9.heap.size,0,none⟩) (tpL more)):=by rw[←e19];exact Rd.of_block (heap_alloc_new _ _) rfl
      have hz19:Hid (v19.heap.size=v9.heap.size+1):=by rw[←e19];show _=_;simp
      have HB19:=Lib.hid (HB9.out.trans (b19.mono hs9))
      have hs19:=Nat.le_trans hs9 b19.size
      clear b19
      simp only[e19]
      clear e19
      refine Rf.pl_one ?_
      go_wp2
      refine⟨(Below.refl _ _).alloc hs19 _,?_⟩
      obtain⟨v20,e20⟩:∃V:World,v19.alloc (.cells #[] 28)=V:=⟨_,rfl⟩
      have b20:Below v19.heap.size v19 v20:=by rw[←e20];exact blw
      have hz20:Hid (v20.heap.size=v19.heap.size+1):=by rw[←e20];show _=_;simp
      have O20:Hid (v20.ownsRow w1.heap.size 28 12 (.slice (some ⟨v19.heap.size,0,none⟩) 0 0) 0 ([]:List Value)):=by rw[←e20];exact own_new (n:=0) hs19 rfl rfl (by omega)
      have HB20:=Lib.hid (HB19.out.trans (b20.mono hs19))
      have hs20:=Nat.le_trans hs19 b20.size
      have R20rB:=Lib.hid (R19.out.later b20)
      clear b20
      simp only[e20]
      clear e20
      refine Rf.pl_one ?_
      go_wp2_with (at_builtin;refine wpList_appWG rfl (by first|go_simp|simp[go_sem]|rfl) Tryz.underlying22 tpInfoM rfl (by omega) rfl O20.out rfl (hrs.out.later HB20.out) (by rw[tpL_len,hn.out]) (λu hu=>by obtain⟨t,_,h⟩:=List.mem_flatMap.1 hu;exact tpL_one t u h) (by omega) (by omega) hs20 ?_;intro z21 v21 own21 bb21 gg21)
      refine⟨bb21,?_⟩
      rw[Nat.zero_add,List.nil_append]at own21
      obtain⟨A21,c21,rfl,_,_⟩:=own_slice own21
      have O21:=Lib.hid own21
      have HB21:=Lib.hid (HB20.out.trans bb21)
      have hs21:=Nat.le_trans hs20 gg21.size
      have R21:Hid (Rd v21 (some ⟨v9.heap.size,0,none⟩) (tpL more)):=Rd.grown R20rB.out gg21 (λa ha=>by cases ha;intro e;have q:=Option.some.inj (show some (v9.heap.size)=some (v19.heap.size) from e);have qhz8:=hz8.out;have qhz19:=hz19.out;have qhz20:=hz20.out;omega)
      clear own21 bb21 gg21
      refine Rf.pl_one ?_
      go_wp2_with (at_builtin;refine wpList_appWG rfl (by first|go_simp|simp[go_sem]|rfl) Tryz.underlying22 tpInfoM rfl (by omega) rfl O21.out rfl R21.out rfl (tpL_one more) (by omega) (by omega) hs21 ?_;intro z22 v22 own22 bb22 gg22)
      refine⟨bb22,?_⟩
      obtain⟨A22,c22,rfl,_,rd22⟩:=own_slice own22
      have R22:Hid (Rd v22 A22 ((set++[more]).flatMap tpL)):=by rw[List.flatMap_append,List.flatMap_singleton];exact rd22
      have HB22:=Lib.hid (HB21.out.trans bb22)
      have hs22:=Nat.le_trans hs21 gg22.size
      clear own22 bb22 gg22 rd22
      refine Rf.pl_one ?_
      go_wp2_with (go_at_call 7;refine(hhv.out v22 _ _ R22.out HB22.out).mono ?_;rintro e v23 ⟨rfl,b23⟩)
      refine⟨b23.mono hs22,?_⟩
      have HB23:=Lib.hid (HB22.out.trans (b23.mono hs22))
      have hs23:=Nat.le_trans hs22 b23.size
      clear b23
      refine Rf.pl_quiet ?_
      iterate 1 go_big_quiet_step (fail)
      refine wpQuiet_nil (Rf.pl_done ?_)
      go_wp2_with fail
      go_meet
      case rel=>exact⟨rfl,HB23⟩
    ·skip
     go_wp2
     refine⟨(Below.refl _ _).alloc hs0 _,?_⟩
     obtain⟨v24,e24⟩:∃V:World,wd.alloc (.cells #[.int .i64 more.s.k,.string more.s.x,.string more.s.l,.string more.s.y,.int .i64 more.p.k,.string more.p.x,.string more.p.l,.string more.p.y,.int .i64 more.o.k,.string more.o.x,.string more.o.l,.string more.o.y] 28)=V:=⟨_,rfl⟩
     have b24:Below wd.heap.size wd v24:=by rw[←e24];exact blw
     have R24:Hid (Rd v24 (some ⟨wd.heap.size,0,none⟩) (tpL more)):=by rw[←e24];exact Rd.of_block (heap_alloc_new _ _) rfl
     have hz24:Hid (v24.heap.size=wd.heap.size+1):=by rw[←e24];show _=_;simp
     have HB24:=Lib.hid (HB0.out.trans (b24.mono hs0))
     have hs24:=Nat.le_trans hs0 b24.size
     clear b24
     simp only[e24]
     clear e24
     refine Rf.pl_one ?_
     go_wp2_with (go_at_call 6;refine(hsz.out v24 HB24.out).mono ?_;rintro e v25 ⟨rfl,b25⟩)
     refine⟨b25.mono hs24,?_⟩
     have HB25:=Lib.hid (HB24.out.trans (b25.mono hs24))
     have hs25:=Nat.le_trans hs24 b25.size
     have R25rA:=Lib.hid (R24.out.later b25)
     clear b25
     refine Rf.pl_one ?_
     go_wp2_with (go_at_call 6;refine(hsm.out v25 _ R25rA.out).mono ?_;rintro e v26 ⟨rfl,b26⟩)
     refine⟨b26.mono hs25,?_⟩
     have HB26:=Lib.hid (HB25.out.trans (b26.mono hs25))
     have hs26:=Nat.le_trans hs25 b26.size
     clear b26
     refine Rf.pl_quiet ?_
     obtain⟨y0,y1,y2,y3,y4,y5,y6,y7,y8,y9,y10,y11⟩:_/\_/\_/\_/\_/\_/\_/\_/\_/\_/\_/\_:=⟨cellL (hx.out 0 _ rfl) HB26.out,cellL (hx.out 1 _ rfl) HB26.out,cellL (hx.out 2 _ rfl) HB26.out,cellL (hx.out 3 _ rfl) HB26.out,cellL (hx.out 4 _ rfl) HB26.out,cellL (hx.out 5 _ rfl) HB26.out,cellL (hx.out 6 _ rfl) HB26.out,cellL (hx.out 7 _ rfl) HB26.out,cellL (hx.out 8 _ rfl) HB26.out,cellL (hx.out 9 _ rfl) HB26.out,cellL (hx.out 10 _ rfl) HB26.out,cellL (hx.out 11 _ rfl) HB26.out⟩
     have hw:=hw8.out
     iterate 7 go_big_quiet_step (fail)
     clear hw
     refine wpQuiet_nil (Rf.pl_fork ?_ ?_)
     clear y0 y1 y2 y3 y4 y5 y6 y7 y8 y9 y10 y11
     ·skip
      go_wp2
      refine⟨(Below.refl _ _).alloc hs26 _,?_⟩
      obtain⟨v27,e27⟩:∃V:World,v26.alloc (.cells #[] 28)=V:=⟨_,rfl⟩
      have b27:Below v26.heap.size v26 v27:=by rw[←e27];exact blw
      have hz27:Hid (v27.heap.size=v26.heap.size+1):=by rw[←e27];show _=_;simp
      have O27:Hid (v27.ownsRow w1.heap.size 28 12 (.slice (some ⟨v26.heap.size,0,none⟩) 0 0) 0 ([]:List Value)):=by rw[←e27];exact own_new (n:=0) hs26 rfl rfl (by omega)
      have HB27:=Lib.hid (HB26.out.trans (b27.mono hs26))
      have hs27:=Nat.le_trans hs26 b27.size
      clear b27
      simp only[e27]
      clear e27
      refine Rf.pl_fork ?_ ?_
      ·skip
       go_wp2_with (at_builtin;refine wpList_appWG rfl (by first|go_simp|simp[go_sem]|rfl) Tryz.underlying22 tpInfoM rfl (by omega) rfl O27.out rfl (hrs.out.later HB27.out) (by rw[tpL_len,hn.out]) (λu hu=>by obtain⟨t,_,h⟩:=List.mem_flatMap.1 hu;exact tpL_one t u h) (by omega) (by omega) hs27 ?_;intro z28 v28 own28 bb28 gg28)
       refine⟨bb28,?_⟩
       rw[Nat.zero_add,List.nil_append]at own28
       obtain⟨A28,c28,rfl,_,_⟩:=own_slice own28
       have O28:=Lib.hid own28
       have HB28:=Lib.hid (HB27.out.trans bb28)
       have hs28:=Nat.le_trans hs27 gg28.size
       clear own28 bb28 gg28
       refine Rf.pl_one ?_
       go_wp2
       refine⟨(Below.refl _ _).alloc hs28 _,?_⟩
       obtain⟨v29,e29⟩:∃V:World,v28.alloc (.cells #[.int .i64 more.s.k,.string more.s.x,.string more.s.l,.string more.s.y,.int .i64 more.p.k,.string more.p.x,.string more.p.l,.string more.p.y,.int .i64 more.o.k,.string more.o.x,.string more.o.l,.string more.o.y] 28)=V:=⟨_,rfl⟩
       have b29:Below v28.heap.size v28 v29:=by rw[←e29];exact blw
       have R29:Hid (Rd v29 (some ⟨v28.heap.size,0,none⟩) (tpL more)):=by rw[←e29];exact Rd.of_block (heap_alloc_new _ _) rfl
       have hz29:Hid (v29.heap.size=v28.heap.size+1):=by rw[←e29];show _=_;simp
       have HB29:=Lib.hid (HB28.out.trans (b29.mono hs28))
       have hs29:=Nat.le_trans hs28 b29.size
       have O29:=Lib.hid (own_below O28.out b29 (Nat.le_refl _))
       clear b29
       simp only[e29]
       clear e29
       refine Rf.pl_one ?_
       go_wp2_with (at_builtin;refine wpList_appWG rfl (by first|go_simp|simp[go_sem]|rfl) Tryz.underlying22 tpInfoM rfl (by omega) rfl O29.out rfl R29.out rfl (tpL_one more) (by omega) (by omega) hs29 ?_;intro z30 v30 own30 bb30 gg30)
       refine⟨bb30,?_⟩
       obtain⟨A30,c30,rfl,_,rd30⟩:=own_slice own30
       have R30:Hid (Rd v30 A30 ((set++[more]).flatMap tpL)):=by rw[List.flatMap_append,List.flatMap_singleton];exact rd30
       have HB30:=Lib.hid (HB29.out.trans bb30)
       have hs30:=Nat.le_trans hs29 gg30.size
       clear own30 bb30 gg30 rd30
       refine Rf.pl_one ?_
       go_wp2_with (go_at_call 7;refine(hhv.out v30 _ _ R30.out HB30.out).mono ?_;rintro e v31 ⟨rfl,b31⟩)
       refine⟨b31.mono hs30,?_⟩
       have HB31:=Lib.hid (HB30.out.trans (b31.mono hs30))
       have hs31:=Nat.le_trans hs30 b31.size
       clear b31
       refine Rf.pl_quiet ?_
       iterate 1 go_big_quiet_step (fail)
       refine wpQuiet_nil (Rf.pl_done ?_)
       go_wp2_with fail
       go_meet
       case rel=>exact⟨rfl,HB31⟩
      ·skip
       go_wp2
       refine⟨(Below.refl _ _).alloc hs27 _,?_⟩
       obtain⟨v32,e32⟩:∃V:World,v27.alloc (.cells #[.int .i64 more.s.k,.string more.s.x,.string more.s.l,.string more.s.y,.int .i64 more.p.k,.string more.p.x,.string more.p.l,.string more.p.y,.int .i64 more.o.k,.string more.o.x,.string more.o.l,.string more.o.y] 28)=V:=⟨_,rfl⟩
       have b32:Below v27.heap.size v27 v32:=by rw[←e32];exact blw
       have R32:Hid (Rd v32 (some ⟨v27.heap.size,0,none⟩) (tpL more)):=by rw[←e32];exact Rd.of_block (heap_alloc_new _ _) rfl
       have hz32:Hid (v32.heap.size=v27.heap.size+1):=by rw[←e32];show _=_;simp
       have HB32:=Lib.hid (HB27.out.trans (b32.mono hs27))
       have hs32:=Nat.le_trans hs27 b32.size
       have O32:=Lib.hid (own_below O27.out b32 (Nat.le_refl _))
       clear b32
       simp only[e32]
       clear e32
       refine Rf.pl_one ?_
       go_wp2_with (at_builtin;refine wpList_appWG rfl (by first|go_simp|simp[go_sem]|rfl) Tryz.underlying22 tpInfoM rfl (by omega) rfl O32.out rfl (hrs.out.later HB32.out) (by rw[tpL_len,hn.out]) (λu hu=>by obtain⟨t,_,h⟩:=List.mem_flatMap.1 hu;exact tpL_one t u h) (by omega) (by omega) hs32 ?_;intro z33 v33 own33 bb33 gg33)
       refine⟨bb33,?_⟩
       rw[Nat.zero_add,List.nil_append]at own33
       obtain⟨A33,c33,rfl,_,_⟩:=own_slice own33
       have O33:=Lib.hid own33
       have HB33:=Lib.hid (HB32.out.trans bb33)
       have hs33:=Nat.le_trans hs32 gg33.size
       have R33:Hid (Rd v33 (some ⟨v27.heap.size,0,none⟩) (tpL more)):=Rd.grown R32.out gg33 (λa ha=>by cases ha;intro e;have q:=Option.some.inj (show some (v27.heap.size)=some (v26.heap.size) from e);have qhz24:=hz24.out;have qhz27:=hz27.out;have qhz32:=hz32.out;omega)
       clear own33 bb33 gg33
       refine Rf.pl_one ?_
       go_wp2_with (at_builtin;refine wpList_appWG rfl (by first|go_simp|simp[go_sem]|rfl) Tryz.underlying22 tpInfoM rfl (by omega) rfl O33.out rfl R33.out rfl (tpL_one more) (by omega) (by omega) hs33 ?_;intro z34 v34 own34 bb34 gg34)
       refine⟨bb34,?_⟩
       obtain⟨A34,c34,rfl,_,rd34⟩:=own_slice own34
       have R34:Hid (Rd v34 A34 ((set++[more]).flatMap tpL)):=by rw[List.flatMap_append,List.flatMap_singleton];exact rd34
       have HB34:=Lib.hid (HB33.out.trans bb34)
       have hs34:=Nat.le_trans hs33 gg34.size
       clear own34 bb34 gg34 rd34
       refine Rf.pl_one ?_
       go_wp2_with (go_at_call 7;refine(hhv.out v34 _ _ R34.out HB34.out).mono ?_;rintro e v35 ⟨rfl,b35⟩)
       refine⟨b35.mono hs34,?_⟩
       have HB35:=Lib.hid (HB34.out.trans (b35.mono hs34))
       have hs35:=Nat.le_trans hs34 b35.size
       clear b35
       refine Rf.pl_quiet ?_
       iterate 1 go_big_quiet_step (fail)
       refine wpQuiet_nil (Rf.pl_done ?_)
       go_wp2_with fail
       go_meet
       case rel=>exact⟨rfl,HB35⟩
     ·skip
      go_wp2
      refine⟨(Below.refl _ _).alloc hs26 _,?_⟩
      obtain⟨v36,e36⟩:∃V:World,v26.alloc (.cells #[.int .i64 more.s.k,.string more.s.x,.string more.s.l,.string more.s.y,.int .i64 more.p.k,.string more.p.x,.string more.p.l,.string more.p.y,.int .i64 more.o.k,.string more.o.x,.string more.o.l,.string more.o.y] 28)=V:=⟨_,rfl⟩
      have b36:Below v26.heap.size v26 v36:=by rw[←e36];exact blw
      have R36:Hid (Rd v36 (some ⟨v26.heap.size,0,none⟩) (tpL more)):=by rw[←e36];exact Rd.of_block (heap_alloc_new _ _) rfl
      have hz36:Hid (v36.heap.size=v26.heap.size+1):=by rw[←e36];show _=_;simp
      have HB36:=Lib.hid (HB26.out.trans (b36.mono hs26))
      have hs36:=Nat.le_trans hs26 b36.size
      clear b36
      simp only[e36]
      clear e36
      refine Rf.pl_one ?_
      go_wp2
      refine⟨(Below.refl _ _).alloc hs36 _,?_⟩
      obtain⟨v37,e37⟩:∃V:World,v36.alloc (.cells #[] 28)=V:=⟨_,rfl⟩
      have b37:Below v36.heap.size v36 v37:=by rw[←e37];exact blw
      have hz37:Hid (v37.heap.size=v36.heap.size+1):=by rw[←e37];show _=_;simp
      have O37:Hid (v37.ownsRow w1.heap.size 28 12 (.slice (some ⟨v36.heap.size,0,none⟩) 0 0) 0 ([]:List Value)):=by rw[←e37];exact own_new (n:=0) hs36 rfl rfl (by omega)
      have HB37:=Lib.hid (HB36.out.trans (b37.mono hs36))
      have hs37:=Nat.le_trans hs36 b37.size
      have R37rB:=Lib.hid (R36.out.later b37)
      clear b37
      simp only[e37]
      clear e37
      refine Rf.pl_one ?_
      go_wp2_with (at_builtin;refine wpList_appWG rfl (by first|go_simp|simp[go_sem]|rfl) Tryz.underlying22 tpInfoM rfl (by omega) rfl O37.out rfl (hrs.out.later HB37.out) (by rw[tpL_len,hn.out]) (λu hu=>by obtain⟨t,_,h⟩:=List.mem_flatMap.1 hu;exact tpL_one t u h) (by omega) (by omega) hs37 ?_;intro z38 v38 own38 bb38 gg38)
      refine⟨bb38,?_⟩
      rw[Nat.zero_add,List.nil_append]at own38
      obtain⟨A38,c38,rfl,_,_⟩:=own_slice own38
      have O38:=Lib.hid own38
      have HB38:=Lib.hid (HB37.out.trans bb38)
      have hs38:=Nat.le_trans hs37 gg38.size
      have R38:Hid (Rd v38 (some ⟨v26.heap.size,0,none⟩) (tpL more)):=Rd.grown R37rB.out gg38 (λa ha=>by cases ha;intro e;have q:=Option.some.inj (show some (v26.heap.size)=some (v36.heap.size) from e);have qhz24:=hz24.out;have qhz36:=hz36.out;have qhz37:=hz37.out;omega)
      clear own38 bb38 gg38
      refine Rf.pl_one ?_
      go_wp2_with (at_builtin;refine wpList_appWG rfl (by first|go_simp|simp[go_sem]|rfl) Tryz.underlying22 tpInfoM rfl (by omega) rfl O38.out rfl R38.out rfl (tpL_one more) (by omega) (by omega) hs38 ?_;intro z39 v39 own39 bb39 gg39)
      refine⟨bb39,?_⟩
      obtain⟨A39,c39,rfl,_,rd39⟩:=own_slice own39
      have R39:Hid (Rd v39 A39 ((set++[more]).flatMap tpL)):=by rw[List.flatMap_append,List.flatMap_singleton];exact rd39
      have HB39:=Lib.hid (HB38.out.trans bb39)
      have hs39:=Nat.le_trans hs38 gg39.size
      clear own39 bb39 gg39 rd39
      refine Rf.pl_one ?_
      go_wp2_with (go_at_call 7;refine(hhv.out v39 _ _ R39.out HB39.out).mono ?_;rintro e v40 ⟨rfl,b40⟩)
      refine⟨b40.mono hs39,?_⟩
      have HB40:=Lib.hid (HB39.out.trans (b40.mono hs39))
      have hs40:=Nat.le_trans hs39 b40.size
      clear b40
      refine Rf.pl_quiet ?_
      iterate 1 go_big_quiet_step (fail)
      refine wpQuiet_nil (Rf.pl_done ?_)
      go_wp2_with fail
      go_meet
      case rel=>exact⟨rfl,HB40⟩
 case rest =>
  obtain⟨rfl,hc49⟩:=hcut
  have HB2:=Lib.hid (below_tr HB1.out hc49.out)
  cases hv9:R
  case true =>
   subst hv9
   go_wp2
   go_ret
   exact⟨rfl,HB2.out⟩
  case false =>
  subst hv9
  simp only[Bool.or_eq_false_iff,decide_eq_false_iff_not]at hR
  obtain⟨⟨h200,h3⟩,rfl⟩:=hR
  have hz1:∀t∈set,smallP3 t:=size_small (n:=n) (by rw[e1];omega)
  have hz2:smallP3 more:=size_small (l:=[more]) (n:=1) (by rw[e2];omega) more (by simp)
  have hN:=Lib.hid (sound_bounds e3)
  have H2:=Lib.hid (And.intro (H1.out.later hc49.out) (And.intro hz1 hz2))
  have hx2:Hid (∀(j:Nat) (v:Value),(#[.int .i64 more.s.k,.string more.s.x,.string more.s.l,.string more.s.y,.int .i64 more.p.k,.string more.p.x,.string more.p.l,.string more.p.y,.int .i64 more.o.k,.string more.o.x,.string more.o.l,.string more.o.y]:Array Value)[j]?=some v->wc.cell? ⟨w.heap.size,j,none⟩=some v):=λj v h=>cell_on (hx.out j v h) hc49.out
  clear hx hc49 H1 HB1 e1 e2 e3 h3 hs1b hs2b hz1 hz2
  obtain⟨vars,hvr⟩:∃v,varsN pats=v:=⟨_,rfl⟩
  obtain⟨rows,hrw⟩:∃v,solP set pats=v:=⟨_,rfl⟩
  obtain⟨nv,hnv⟩:∃k,vars.length=k:=⟨_,rfl⟩
  obtain⟨N,hNN⟩:∃k,rows.length=k:=⟨_,rfl⟩
  have hsol:Calls Tryz.prog 8 #[.slice As n cs,.slice Ap m cp] wc λe w'=>∃Av cv Ar cr,e=.returned (.tuple #[.slice Av nv cv,.slice Ar N cr])/\Rd w' Av (vars.map Value.string)/\RdRs w' Ar rows/\Below wc.heap.size wc w':=by
   have h:=mSolutions set pats As Ap cs cp wc H2.out.1.hC (by rw[H2.out.1.hn];omega) (by rw[H2.out.1.hm];omega) H2.out.2.1 H2.out.1.hs H2.out.1.hp (hN.out 0 0).1
   rw[H2.out.1.hn,H2.out.1.hm]at h
   exact h.mono λe w' h=>h.plain hvr hrw hnv hNN
  have HF:=Lib.hid (sound_facts hvr hrw H2.out.2.1 (by rw[H2.out.1.hm];omega))
  have hNb:N<=1500:=by rw[←hNN,←hrw];exact Nat.le_trans (solP_len set pats) (hN.out 0 0).1
  have hnb:nv<=1000000:=by rw[←hnv];exact HF.out.1
  go_wp2_with (go_at_call 8;refine hsol.mono ?_;rintro e w3 ⟨Av,cv,Ar,cr,rfl,rv,rr,b3⟩;have HB3:=Lib.hid (below_tr HB2.out b3);have H3:=Lib.hid (H2.out.1.later b3);have HR:=Lib.hid (And.intro rv rr);have hx3:Hid (∀(j:Nat) (v:Value),(#[.int .i64 more.s.k,.string more.s.x,.string more.s.l,.string more.s.y,.int .i64 more.p.k,.string more.p.x,.string more.p.l,.string more.p.y,.int .i64 more.o.k,.string more.o.x,.string more.o.l,.string more.o.y]:Array Value)[j]?=some v->w3.cell? ⟨w.heap.size,j,none⟩=some v):=(λj v h=>cell_on (hx2.out j v h) b3);clear hsol rv rr b3 HB2 hx2)
  go_loopw [11,12] (λi _ wr=>∃k:Nat,k<=N/\i=.int .i64 k/\Hid (Below w3.heap.size w3 wr)) (λi _ _=>N-(intOf i).toNat)
  case atStart=>exact⟨0,by omega,rfl,Below.refl _ _⟩
  case round =>
   obtain⟨k,hk,rfl,HBk⟩:=hrel
   by_cases hlt:k<N
   ·obtain⟨r,hr⟩:∃r,rows[k]?=some r:=⟨_,List.getElem?_eq_getElem (by rw[hNN];exact hlt)⟩
    have hmem:=List.mem_of_getElem? hr
    have hrl:r.length=nv:=by rw[←hnv];exact(HF.out.2.1 r hmem).1
    obtain⟨g1,o1,A1,c1,rfl,hcy,_,hry⟩:=(HR.out.2.later HBk.out).at1 hr
    rw[hrl]at hcy
    have HT:=Lib.hid (HF.out.2.2.2 r hmem)
    have E1:=λd os=>cell_on hcy (below_regrown wr d os)
    by_cases hk0:k=0
    ·have hd1:decide ((0:Int)<(k:Int))=false:=decide_eq_false (by omega)
     have hd2:decide (0<k)=false:=decide_eq_false (by omega)
     clear hr hmem hk0
     go_wp2
     refine wrq ?_;(repeat (any_goals (go_big_quiet_step ((fail)))));all_goals (refine wqn ?_;intro d9 os9)
     have kq:=below_regrown wr d9 os9
     have HB4:=Lib.hid (below_tr HBk.out kq)
     have HY:=Lib.hid (And.intro (hry.later kq) (And.intro (cell_on hcy kq) (And.intro (H3.out.later HB4.out) (HR.out.1.later HB4.out))))
     clear kq hcy hry E1
     generalize Sort.grow (redrawn wr d9) os9=w4 at *
     go_wp2
     go_loopw [12] (λi wq=>∃j:Nat,j<=m/\i=.int .i64 j/\Hid (Below w4.heap.size w4 wq)) (λi _=>m-(intOf i).toNat)
     case atStart=>exact⟨0,by omega,rfl,Below.refl _ _⟩
     case round =>
      obtain⟨j2,hj2,rfl,HBj⟩:=hrel
      by_cases hlt2:j2<m
      ·obtain⟨p,hp⟩:∃p,pats[j2]?=some p:=⟨_,List.getElem?_eq_getElem (by rw[H3.out.hm];exact hlt2)⟩
       obtain⟨g3,o3,cs3,rfl,_,rfl,hc3⟩:=(RdL.mono HY.out.2.2.1.hp HBj.out λ_ _ _ h=>h).at_ (by omega) hp
       have G0:wr.cell? ⟨g3,o3+j2*15,none⟩=some (.string p.s.v):=hc3 0 _ rfl
       have F0:=λd os=>cell_on G0 (below_regrown wr d os)
       have F1:=λd os=>cell_on (hc3 1 _ rfl) (below_regrown wr d os)
       have F2:=λd os=>cell_on (hc3 2 _ rfl) (below_regrown wr d os)
       have F3:=λd os=>cell_on (hc3 3 _ rfl) (below_regrown wr d os)
       have F4:=λd os=>cell_on (hc3 4 _ rfl) (below_regrown wr d os)
       have F5:=λd os=>cell_on (hc3 5 _ rfl) (below_regrown wr d os)
       have F6:=λd os=>cell_on (hc3 6 _ rfl) (below_regrown wr d os)
       have F7:=λd os=>cell_on (hc3 7 _ rfl) (below_regrown wr d os)
       have F8:=λd os=>cell_on (hc3 8 _ rfl) (below_regrown wr d os)
       have F9:=λd os=>cell_on (hc3 9 _ rfl) (below_regrown wr d os)
       have F10:=λd os=>cell_on (hc3 10 _ rfl) (below_regrown wr d os)
       have F11:=λd os=>cell_on (hc3 11 _ rfl) (below_regrown wr d os)
       have F12:=λd os=>cell_on (hc3 12 _ rfl) (below_regrown wr d os)
       have F13:=λd os=>cell_on (hc3 13 _ rfl) (below_regrown wr d os)
       have F14:=λd os=>cell_on (hc3 14 _ rfl) (below_regrown wr d os)
       have F15:=λd os=>cell_on (cell_on HY.out.2.1 HBj.out) (below_regrown wr d os)
       have hin:=HT.out p (List.mem_of_getElem? hp)
       have hv1:=λd os=>mlValue vars r p.s Av A1 nv cv nv c1 (Sort.grow (redrawn wr d) os) hnv hrl hnb (Nat.le_refl _) hnb ((HY.out.2.2.2.later HBj.out).later (below_regrown wr d os)) ((HY.out.1.later HBj.out).later (below_regrown wr d os))
       have hv2:=λd os=>mlValue vars r p.p Av A1 nv cv nv c1 (Sort.grow (redrawn wr d) os) hnv hrl hnb (Nat.le_refl _) hnb ((HY.out.2.2.2.later HBj.out).later (below_regrown wr d os)) ((HY.out.1.later HBj.out).later (below_regrown wr d os))
       have hv3:=λd os=>mlValue vars r p.o Av A1 nv cv nv c1 (Sort.grow (redrawn wr d) os) hnv hrl hnb (Nat.le_refl _) hnb ((HY.out.2.2.2.later HBj.out).later (below_regrown wr d os)) ((HY.out.1.later HBj.out).later (below_regrown wr d os))
       generalize valueP vars r p.s=u1 at hv1 hin
       generalize valueP vars r p.p=u2 at hv2 hin
       generalize valueP vars r p.o=u3 at hv3 hin
       have hth:=λd os=>mlThere set ⟨u1,u2,u3⟩ As cs (Sort.grow (redrawn wr d) os) (by rw[H3.out.hn];omega) ((HY.out.2.2.1.hs.later HBj.out).later (below_regrown wr d os))
       rw[decide_eq_true hin,H3.out.hn]at hth
       replace hv1:∀d os,Calls Tryz.prog 11 #[.slice Av nv cv,.slice A1 nv c1,.agg #[.string p.s.v,.int .i64 p.s.t.k,.string p.s.t.x,.string p.s.t.l,.string p.s.t.y]] (Sort.grow (redrawn wr d) os) λe w'=>e=.returned (.agg #[.int .i64 u1.k,.string u1.x,.string u1.l,.string u1.y])/\Below (Sort.grow (redrawn wr d) os).heap.size (Sort.grow (redrawn wr d) os) w':=hv1
       replace hv2:∀d os,Calls Tryz.prog 11 #[.slice Av nv cv,.slice A1 nv c1,.agg #[.string p.p.v,.int .i64 p.p.t.k,.string p.p.t.x,.string p.p.t.l,.string p.p.t.y]] (Sort.grow (redrawn wr d) os) λe w'=>e=.returned (.agg #[.int .i64 u2.k,.string u2.x,.string u2.l,.string u2.y])/\Below (Sort.grow (redrawn wr d) os).heap.size (Sort.grow (redrawn wr d) os) w':=hv2
       replace hv3:∀d os,Calls Tryz.prog 11 #[.slice Av nv cv,.slice A1 nv c1,.agg #[.string p.o.v,.int .i64 p.o.t.k,.string p.o.t.x,.string p.o.t.l,.string p.o.t.y]] (Sort.grow (redrawn wr d) os) λe w'=>e=.returned (.agg #[.int .i64 u3.k,.string u3.x,.string u3.l,.string u3.y])/\Below (Sort.grow (redrawn wr d) os).heap.size (Sort.grow (redrawn wr d) os) w':=hv3
       clear hc3 hin hp G0
       go_wp2
       refine wrq ?_
       iterate 37 go_big_quiet_step (first|(go_at_call 11;first|with_reducible exact Calls.regrown_of (hv1 _ _)|with_reducible exact Calls.regrown_of (hv2 _ _)|with_reducible exact Calls.regrown_of (hv3 _ _))|(go_at_call 10;with_reducible exact Calls.regrown_of (hth _ _)))
       refine wqn ?_
       intro d9 os9
       have kq2:=Lib.hid (HBj.out.trans ((below_regrown wr d9 os9).mono HBj.out.size))
       clear hv1 hv2 hv3 hth F0 F1 F2 F3 F4 F5 F6 F7 F8 F9 F10 F11 F12 F13 F14 F15
       generalize Sort.grow (redrawn wr d9) os9=w5 at *
       go_wp2
       exact⟨⟨j2+1,by omega,by go_num,kq2⟩,by simp[intOf];omega⟩
      ·obtain rfl:j2=m:=by omega
       have HB5:=Lib.hid (below_tr HB4.out HBj.out)
       go_wp2
       exact⟨⟨k+1,by omega,by go_num,HB5⟩,by simp[intOf];omega⟩
    ·obtain⟨j,hj⟩:∃j,k=j+1:=⟨k-1,by omega⟩
     obtain⟨r0,hr0⟩:∃r,rows[j]?=some r:=⟨_,List.getElem?_eq_getElem (by omega)⟩
     obtain⟨g2,o2,A2,c2,hA,hcp,_,hrp⟩:=(HR.out.2.later HBk.out).at1 hr0
     simp only[Option.some.injEq,Addr.mk.injEq,and_true]at hA
     obtain⟨rfl,rfl⟩:=hA
     have hrl0:r0.length=nv:=by rw[←hnv];exact(HF.out.2.1 r0 (List.mem_of_getElem? hr0)).1
     rw[hrl0]at hcp
     have hz:=HF.out.2.2.1 j r0 r hr0 (hj ▸ hr)
     have hcmp:=λd os=>mlCompare r0 r nv c2 c1 A2 A1 (Sort.grow (redrawn wr d) os) hrl0 hrl ((H3.out.hC.step HBk.out).step (below_regrown wr d os)) (hrp.later (below_regrown wr d os)) (hry.later (below_regrown wr d os)) (HF.out.2.1 r0 (List.mem_of_getElem? hr0)).2 (HF.out.2.1 r hmem).2
     generalize cmpRow r0 r=z at hz hcmp
     have hzd:decide ((0:Int)<=z)=false:=decide_eq_false (by omega)
     have hd1:decide ((0:Int)<(k:Int))=true:=decide_eq_true (by omega)
     have hd2:decide (0<k)=true:=decide_eq_true (by omega)
     have hjN:j<N:=by omega
     have hw1:IntKind.i64.wrap ((k:Int)-1)=(j:Int):=by rw[IntKind.wrap_i64];omega
     have E2:=λd os=>cell_on hcp (below_regrown wr d os)
     clear hr hmem hk0 hr0 hcp hrp hz hj
     go_wp2
     refine wrq ?_;(repeat (any_goals (go_big_quiet_step ((go_at_call 9;exact Calls.regrown_of (hcmp _ _))))));all_goals (refine wqn ?_;intro d9 os9)
     clear hcmp E2 hzd hw1 hd1
     have kq:=below_regrown wr d9 os9
     have HB4:=Lib.hid (below_tr HBk.out kq)
     have HY:=Lib.hid (And.intro (hry.later kq) (And.intro (cell_on hcy kq) (And.intro (H3.out.later HB4.out) (HR.out.1.later HB4.out))))
     clear kq hcy hry E1
     generalize Sort.grow (redrawn wr d9) os9=w4 at *
     go_wp2
     go_loopw [12] (λi wq=>∃j:Nat,j<=m/\i=.int .i64 j/\Hid (Below w4.heap.size w4 wq)) (λi _=>m-(intOf i).toNat)
     case atStart=>exact⟨0,by omega,rfl,Below.refl _ _⟩
     case round =>
      obtain⟨j2,hj2,rfl,HBj⟩:=hrel
      by_cases hlt2:j2<m
      ·obtain⟨p,hp⟩:∃p,pats[j2]?=some p:=⟨_,List.getElem?_eq_getElem (by rw[H3.out.hm];exact hlt2)⟩
       obtain⟨g3,o3,cs3,rfl,_,rfl,hc3⟩:=(RdL.mono HY.out.2.2.1.hp HBj.out λ_ _ _ h=>h).at_ (by omega) hp
       have G0:wr.cell? ⟨g3,o3+j2*15,none⟩=some (.string p.s.v):=hc3 0 _ rfl
       have F0:=λd os=>cell_on G0 (below_regrown wr d os)
       have F1:=λd os=>cell_on (hc3 1 _ rfl) (below_regrown wr d os)
       have F2:=λd os=>cell_on (hc3 2 _ rfl) (below_regrown wr d os)
       have F3:=λd os=>cell_on (hc3 3 _ rfl) (below_regrown wr d os)
       have F4:=λd os=>cell_on (hc3 4 _ rfl) (below_regrown wr d os)
       have F5:=λd os=>cell_on (hc3 5 _ rfl) (below_regrown wr d os)
       have F6:=λd os=>cell_on (hc3 6 _ rfl) (below_regrown wr d os)
       have F7:=λd os=>cell_on (hc3 7 _ rfl) (below_regrown wr d os)
       have F8:=λd os=>cell_on (hc3 8 _ rfl) (below_regrown wr d os)
       have F9:=λd os=>cell_on (hc3 9 _ rfl) (below_regrown wr d os)
       have F10:=λd os=>cell_on (hc3 10 _ rfl) (below_regrown wr d os)
       have F11:=λd os=>cell_on (hc3 11 _ rfl) (below_regrown wr d os)
       have F12:=λd os=>cell_on (hc3 12 _ rfl) (below_regrown wr d os)
       have F13:=λd os=>cell_on (hc3 13 _ rfl) (below_regrown wr d os)
       have F14:=λd os=>cell_on (hc3 14 _ rfl) (below_regrown wr d os)
       have F15:=λd os=>cell_on (cell_on HY.out.2.1 HBj.out) (below_regrown wr d os)
       have hin:=HT.out p (List.mem_of_getElem? hp)
       have hv1:=λd os=>mlValue vars r p.s Av A1 nv cv nv c1 (Sort.grow (redrawn wr d) os) hnv hrl hnb (Nat.le_refl _) hnb ((HY.out.2.2.2.later HBj.out).later (below_regrown wr d os)) ((HY.out.1.later HBj.out).later (below_regrown wr d os))
       have hv2:=λd os=>mlValue vars r p.p Av A1 nv cv nv c1 (Sort.grow (redrawn wr d) os) hnv hrl hnb (Nat.le_refl _) hnb ((HY.out.2.2.2.later HBj.out).later (below_regrown wr d os)) ((HY.out.1.later HBj.out).later (below_regrown wr d os))
       have hv3:=λd os=>mlValue vars r p.o Av A1 nv cv nv c1 (Sort.grow (redrawn wr d) os) hnv hrl hnb (Nat.le_refl _) hnb ((HY.out.2.2.2.later HBj.out).later (below_regrown wr d os)) ((HY.out.1.later HBj.out).later (below_regrown wr d os))
       generalize valueP vars r p.s=u1 at hv1 hin
       generalize valueP vars r p.p=u2 at hv2 hin
       generalize valueP vars r p.o=u3 at hv3 hin
       have hth:=λd os=>mlThere set ⟨u1,u2,u3⟩ As cs (Sort.grow (redrawn wr d) os) (by rw[H3.out.hn];omega) ((HY.out.2.2.1.hs.later HBj.out).later (below_regrown wr d os))
       rw[decide_eq_true hin,H3.out.hn]at hth
       replace hv1:∀d os,Calls Tryz.prog 11 #[.slice Av nv cv,.slice A1 nv c1,.agg #[.string p.s.v,.int .i64 p.s.t.k,.string p.s.t.x,.string p.s.t.l,.string p.s.t.y]] (Sort.grow (redrawn wr d) os) λe w'=>e=.returned (.agg #[.int .i64 u1.k,.string u1.x,.string u1.l,.string u1.y])/\Below (Sort.grow (redrawn wr d) os).heap.size (Sort.grow (redrawn wr d) os) w':=hv1
       replace hv2:∀d os,Calls Tryz.prog 11 #[.slice Av nv cv,.slice A1 nv c1,.agg #[.string p.p.v,.int .i64 p.p.t.k,.string p.p.t.x,.string p.p.t.l,.string p.p.t.y]] (Sort.grow (redrawn wr d) os) λe w'=>e=.returned (.agg #[.int .i64 u2.k,.string u2.x,.string u2.l,.string u2.y])/\Below (Sort.grow (redrawn wr d) os).heap.size (Sort.grow (redrawn wr d) os) w':=hv2
       replace hv3:∀d os,Calls Tryz.prog 11 #[.slice Av nv cv,.slice A1 nv c1,.agg #[.string p.o.v,.int .i64 p.o.t.k,.string p.o.t.x,.string p.o.t.l,.string p.o.t.y]] (Sort.grow (redrawn wr d) os) λe w'=>e=.returned (.agg #[.int .i64 u3.k,.string u3.x,.string u3.l,.string u3.y])/\Below (Sort.grow (redrawn wr d) os).heap.size (Sort.grow (redrawn wr d) os) w':=hv3
       clear hc3 hin hp G0
       go_wp2
       refine wrq ?_
       iterate 37 go_big_quiet_step (first|(go_at_call 11;first|with_reducible exact Calls.regrown_of (hv1 _ _)|with_reducible exact Calls.regrown_of (hv2 _ _)|with_reducible exact Calls.regrown_of (hv3 _ _))|(go_at_call 10;with_reducible exact Calls.regrown_of (hth _ _)))
       refine wqn ?_
       intro d9 os9
       have kq2:=Lib.hid (HBj.out.trans ((below_regrown wr d9 os9).mono HBj.out.size))
       clear hv1 hv2 hv3 hth F0 F1 F2 F3 F4 F5 F6 F7 F8 F9 F10 F11 F12 F13 F14 F15
       generalize Sort.grow (redrawn wr d9) os9=w5 at *
       go_wp2
       exact⟨⟨j2+1,by omega,by go_num,kq2⟩,by simp[intOf];omega⟩
      ·obtain rfl:j2=m:=by omega
       have HB5:=Lib.hid (below_tr HB4.out HBj.out)
       go_wp2
       exact⟨⟨k+1,by omega,by go_num,HB5⟩,by simp[intOf];omega⟩
   ·obtain rfl:k=N:=by omega
    have HW:=Lib.hid (below_tr HB3.out HBk.out)
    have H4:=Lib.hid (H3.out.later HBk.out)
    have HR4:=Lib.hid (And.intro (HR.out.1.later HBk.out) (HR.out.2.later HBk.out))
    have hp1:=λV=>kitPick10 tn ((n:Int)+1) V (by omega) (by omega)
    have hp2:=λV=>kitPick10 tn ((m:Int)+1) V (by omega) (by omega)
    have hw3:wrap64 ((n:Int)+1)=(n:Int)+1:=IntWalk.wrap64_in _ ⟨by omega,by omega⟩
    have hw4:wrap64 ((m:Int)+1)=(m:Int)+1:=by clear hw3;exact IntWalk.wrap64_in _ ⟨by omega,by omega⟩
    go_upto_region 18 with (first
     | (go_at_call 12;with_reducible refine(hp1 _).mono ?_;rintro e w7 ⟨kk,rfl,hkk,rfl⟩;clear hp1)
     | (go_at_call 12;with_reducible refine(hp2 _).mono ?_;rintro e w7 ⟨mm,rfl,hmm,rfl⟩;clear hp2))
    have hx4:Hid (∀(j:Nat) (v:Value),(#[.int .i64 more.s.k,.string more.s.x,.string more.s.l,.string more.s.y,.int .i64 more.p.k,.string more.p.x,.string more.p.l,.string more.p.y,.int .i64 more.o.k,.string more.o.x,.string more.o.l,.string more.o.y]:Array Value)[j]?=some v->wr.cell? ⟨w.heap.size,j,none⟩=some v):=λj v h=>cell_on (hx3.out j v h) HBk.out
    clear hw3 hw4 hx3 HBk HB3 H3 HR
    refine Rf.p0 wr.heap.size _ (.quiet [0,2,3,4,6,7,8] (.one 1 (.one 5 (.one 9 (.quiet [10] (.done)))))) ?_ (λa w h=>h)
    intro wd hbd hwz
    have hs0:=hbd.size
    have HD:=Lib.hid hbd
    obtain⟨y0,y1,y2,y3,y4,y5,y6,y7,y8,y9,y10,y11⟩:_/\_/\_/\_/\_/\_/\_/\_/\_/\_/\_/\_:=⟨cellL (hx4.out 0 _ rfl) hbd,cellL (hx4.out 1 _ rfl) hbd,cellL (hx4.out 2 _ rfl) hbd,cellL (hx4.out 3 _ rfl) hbd,cellL (hx4.out 4 _ rfl) hbd,cellL (hx4.out 5 _ rfl) hbd,cellL (hx4.out 6 _ rfl) hbd,cellL (hx4.out 7 _ rfl) hbd,cellL (hx4.out 8 _ rfl) hbd,cellL (hx4.out 9 _ rfl) hbd,cellL (hx4.out 10 _ rfl) hbd,cellL (hx4.out 11 _ rfl) hbd⟩
    have hf1:=run_from12 As cs kk n (by omega)
    have hf2:=run_to12 As cs kk n (by omega)
    clear hbd hwz hx4
    refine Rf.pl_quiet ?_
    iterate 7 go_big_quiet_step (fail)
    refine wpQuiet_nil (Rf.pl_one ?_)
    clear y0 y1 y2 y3 y4 y5 y6 y7 y8 y9 y10 y11 hf1 hf2
    go_wp2
    refine⟨(Below.refl _ _).alloc hs0 _,Rf.pl_one ?_⟩
    obtain⟨v1,e1⟩:∃V:World,wd.alloc (.cells #[.int .i64 more.s.k,.string more.s.x,.string more.s.l,.string more.s.y,.int .i64 more.p.k,.string more.p.x,.string more.p.l,.string more.p.y,.int .i64 more.o.k,.string more.o.x,.string more.o.l,.string more.o.y] 28)=V:=⟨_,rfl⟩
    have b1:Below wd.heap.size wd v1:=by rw[←e1];exact blw
    have own1:v1.ownsRow wr.heap.size 28 12 (.slice (some ⟨wd.heap.size,0,none⟩) 1 1) 1 (tpL more):=by rw[←e1];exact own_new (n:=1) hs0 rfl rfl (by omega)
    have HV1:=Lib.hid (HD.out.trans (b1.mono hs0))
    have hs1:=Nat.le_trans hs0 b1.size
    have hr1:=(H4.out.hs.later HV1.out).from12 (c:=cs) (q:=kk) (by rw[H4.out.hn];exact hcs) (by rw[H4.out.hn];omega)
    simp only[e1]
    clear e1 b1
    go_wp2_with (at_builtin;refine wpList_appG rfl rfl Tryz.underlying22 tpInfoM rfl (by omega) rfl own1 rfl hr1 (by rw[tpL_len,List.length_drop,H4.out.hn]) (λu hu=>by obtain⟨t,_,h⟩:=List.mem_flatMap.1 hu;exact tpL_one t u h) (by omega) (by omega) hs1 ?_;intro z5 v5 own5 b5 g5)
    refine⟨b5,Rf.pl_one ?_⟩
    have HV5:=Lib.hid (HV1.out.trans b5)
    have hs5:=Nat.le_trans hs1 g5.size
    have hr5:=(H4.out.hs.later HV5.out).to12 kk
    obtain⟨A5,c5,rfl,_,_⟩:=own_slice own5
    clear own1 hr1 b5 g5 HV1
    go_wp2_with (at_builtin;refine wpList_appG rfl rfl Tryz.underlying22 tpInfoM rfl (by omega) rfl own5 rfl hr5 (by rw[tpL_len,List.length_take,H4.out.hn,Nat.min_eq_left (by omega)]) (λu hu=>by obtain⟨t,_,h⟩:=List.mem_flatMap.1 hu;exact tpL_one t u h) (by omega) (by omega) hs5 ?_;intro z9 v9 own9 b9 g9)
    refine⟨b9,Rf.pl_quiet ?_⟩
    have HV9:=Lib.hid (HV5.out.trans b9)
    have hln:1+(n-kk)+kk=n+1:=by omega
    rw[hln]at own9
    obtain⟨A9,c9,rfl,hc9,rd9⟩:=own_slice own9
    rw[List.append_assoc,←List.flatMap_append,←List.flatMap_cons]at rd9
    have HQ:=Lib.hid (And.intro rd9 hc9)
    clear own5 hr5 own9 b9 g9 HV5 hln rd9 hc9
    go_frame
    iterate 1 go_big_quiet_step (fail)
    refine wpQuiet_nil (Rf.pl_done ?_)
    have H5:=Lib.hid (H4.out.later HV9.out)
    have HR5:=Lib.hid (And.intro (HR4.out.1.later HV9.out) (HR4.out.2.later HV9.out))
    have HW5:=Lib.hid (below_tr HW.out HV9.out)
    clear HV9 HD H4 HR4 HW hs5 hs1 hs0
    go_upto_region 19 with fail
    refine Rf.p0 v9.heap.size _ (.quiet [1,2,3,5,6,7] (.one 0 (.one 4 (.one 8 (.quiet [9] (.done)))))) ?_ (λa w h=>h)
    intro wd hbd hwz
    have hs0:=hbd.size
    have HD:=Lib.hid hbd
    obtain⟨xs,hrx,hax⟩:=H5.out.hp
    have hxl:=hax.len
    rw[H5.out.hm]at hxl
    have hone:∀u∈xs,u.oneCell'=true:=by rw[hax.flat];exact pats1C pats
    have hf1:=run_fromG (P:=Tryz.prog) Tryz.underlying23 Tryz.sizeOf43 Ap cp mm m (by omega)
    have hf2:=run_toG (P:=Tryz.prog) Tryz.underlying23 Tryz.sizeOf43 Ap cp mm m (by omega)
    clear hbd hwz
    refine Rf.pl_quiet ?_
    iterate 6 go_big_quiet_step (fail)
    refine wpQuiet_nil (Rf.pl_one ?_)
    clear hf1 hf2
    go_wp2
    refine⟨(Below.refl _ _).alloc hs0 _,Rf.pl_one ?_⟩
    obtain⟨u1,e1⟩:∃V:World,wd.alloc (.cells #[] 43)=V:=⟨_,rfl⟩
    have b1:Below wd.heap.size wd u1:=by rw[←e1];exact blw
    have own1:u1.ownsRow v9.heap.size 43 15 (.slice (some ⟨wd.heap.size,0,none⟩) 0 0) 0 ([]:List Value):=by rw[←e1];exact own_new (n:=0) hs0 rfl rfl (by omega)
    have HV1:=Lib.hid (HD.out.trans (b1.mono hs0))
    have hs1:=Nat.le_trans hs0 b1.size
    have hr1:Rd u1 (subG 15 cp mm Ap) (xs.drop (mm*15)):=(hrx.later HV1.out).fromG hxl hcp (by omega)
    simp only[e1]
    clear e1 b1
    go_wp2_with (at_builtin;refine wpList_appG rfl rfl Tryz.underlying23 patInfoC rfl (by omega) rfl own1 rfl hr1 (by rw[List.length_drop,hxl];omega) (λu hu=>hone u (List.mem_of_mem_drop hu)) (by omega) (by omega) hs1 ?_;intro z5 u5 own5 b5 g5)
    refine⟨b5,Rf.pl_one ?_⟩
    have HV5:=Lib.hid (HV1.out.trans b5)
    have hs5:=Nat.le_trans hs1 g5.size
    have hr5:Rd u5 Ap (xs.take (mm*15)):=(hrx.later HV5.out).take _
    obtain⟨A5,c5,rfl,_,_⟩:=own_slice own5
    clear own1 hr1 b5 g5 HV1
    go_wp2_with (at_builtin;refine wpList_appG rfl rfl Tryz.underlying23 patInfoC rfl (by omega) rfl own5 rfl hr5 (by rw[List.length_take,hxl];omega) (λu hu=>hone u (List.mem_of_mem_take hu)) (by omega) (by omega) hs5 ?_;intro z9 u9 own9 b9 g9)
    refine⟨b9,Rf.pl_quiet ?_⟩
    have HV9:=Lib.hid (HV5.out.trans b9)
    have hln:0+(m-mm)+mm=m:=by omega
    rw[hln]at own9
    obtain⟨P9,d9,rfl,_,rp9⟩:=own_slice own9
    have hp9:RdPat u9 P9 (pats.drop mm++pats.take mm):=⟨_,rp9,All.append (hax.drop mm) (hax.take mm)⟩
    have HP:=Lib.hid hp9
    clear own5 hr5 own9 b9 g9 HV5 hln rp9 hp9 hrx hax hxl hone
    go_frame
    iterate 1 go_big_quiet_step (fail)
    refine wpQuiet_nil (Rf.pl_done ?_)
    have H6:=Lib.hid (H5.out.later HV9.out)
    have HR6:=Lib.hid (And.intro (HR5.out.1.later HV9.out) (HR5.out.2.later HV9.out))
    have HW6:=Lib.hid (below_tr HW5.out HV9.out)
    have HQ6:=Lib.hid (HQ.out.1.later HV9.out)
    have hc9:=HQ.out.2
    clear HV9 HD H5 HR5 HW5 HQ hs5 hs1 hs0
    obtain⟨names,hnm⟩:∃v,varsN (pats.drop mm++pats.take mm)=v:=⟨_,rfl⟩
    obtain⟨back,hbk⟩:∃v,solP (set.drop kk++set.take kk) (pats.drop mm++pats.take mm)=v:=⟨_,rfl⟩
    obtain⟨nn,hnn⟩:∃j,names.length=j:=⟨_,rfl⟩
    have hsb:=sound_back (set:=set) (ps:=pats) kk mm
    rw[hbk,hrw,hnm,hvr]at hsb
    have hlb:back.length=k:=by rw[hsb.1];exact hNN
    have hls2:(set.drop kk++set.take kk).length=n:=by rw[(turn_perm set kk).length_eq];exact H6.out.hn
    have hlp2:(pats.drop mm++pats.take mm).length=m:=by rw[(turn_perm pats mm).length_eq];exact H6.out.hm
    have hz2:∀t∈set.drop kk++set.take kk,smallP3 t:=λt ht=>H2.out.2.1 t ((turn_perm set kk).mem_iff.1 ht)
    have hf3:∀W,(Instr.slice 22 (.slice A9 (n+1) c9) (some (.int .i64 1)) none none).run Tryz.prog W=.ok (.slice (subT c9 1 A9) n (c9-1)) W:=λW=>run_from12 A9 c9 1 (n+1) (by omega) W
    have hsol:Calls Tryz.prog 8 #[.slice (subT c9 1 A9) n (c9-1),.slice P9 m d9] u9 λe w'=>∃Av cv Ar cr,e=.returned (.tuple #[.slice Av nn cv,.slice Ar k cr])/\Rd w' Av (names.map Value.string)/\RdRs w' Ar back/\Below u9.heap.size u9 w':=by
     have hr:=HQ6.out.from12 (c:=c9) (q:=1) (by rw[List.length_cons,hls2];exact hc9) (by simp)
     have h:=mSolutions (set.drop kk++set.take kk) (pats.drop mm++pats.take mm) (subT c9 1 A9) P9 (c9-1) d9 u9 H6.out.hC (by rw[hls2];omega) (by rw[hlp2];omega) hz2 hr HP.out (hN.out kk mm).2.1
     rw[hls2,hlp2]at h
     exact h.mono λe w' h=>h.plain hnm hbk hnn hlb
    have HB:=Lib.hid (sound_facts hnm hbk hz2 (by rw[hlp2];omega))
    have HSb:=Lib.hid hsb
    have hnnb:nn<=1000000:=by rw[←hnn];exact HB.out.1
    clear hz2 hsb
    go_wp2_with (go_at_call 8;refine hsol.mono ?_;rintro e x3 ⟨Bv,dv,Br,dr,rfl,rv,rr,b3⟩;have HW7:=Lib.hid (below_tr HW6.out b3);have H7:=Lib.hid (H6.out.later b3);have HR7:=Lib.hid (And.intro (HR6.out.1.later b3) (HR6.out.2.later b3));have HQ7:=Lib.hid (HQ6.out.later b3);have HRb:=Lib.hid (And.intro rv rr);clear hsol rv rr b3 HW6 H6 HR6 HQ6 HP hf3)
    go_loopw [19] (λi wr=>∃j:Nat,j<=k/\i=.int .i64 j/\Hid (Below x3.heap.size x3 wr)) (λi _=>k-(intOf i).toNat)
    case atStart=>exact⟨0,by omega,rfl,Below.refl _ _⟩
    case round =>
     obtain⟨j,hj,rfl,HBj⟩:=hrel
     by_cases hlt:j<k
     ·obtain⟨r,hr⟩:∃r,rows[j]?=some r:=⟨_,List.getElem?_eq_getElem (by rw[hNN];exact hlt)⟩
      have hmem:=List.mem_of_getElem? hr
      have hrl:r.length=nv:=by rw[←hnv];exact(HF.out.2.1 r hmem).1
      obtain⟨g1,o1,A1,c1,rfl,hcy,_,hry⟩:=(HR7.out.2.later HBj.out).at1 hr
      rw[hrl]at hcy
      have hat:=mlAt back names r vars Br Bv A1 Av k dr nn dv nv c1 nv cv wr hlb hnn hrl hnv (by omega) hnnb hnb (Nat.le_refl _) (λy hy=>by rw[←hnn];exact(HB.out.2.1 y hy).1) (HRb.out.2.later HBj.out) (HRb.out.1.later HBj.out) hry (HR7.out.1.later HBj.out)
      have hex:=HSb.out.2 r hmem
      clear hr hmem hry
      go_wp2_with (go_at_call 13;refine hat.mono ?_;rintro e x4 ⟨⟨z,rfl,hz,_⟩,b4⟩;have hzd:decide (z<0)=false:=(decide_eq_false (by have:=hz hex;omega));have HBk:=Lib.hid (below_tr HBj.out b4);clear hat hz b4 hex hcy)
      exact⟨⟨j+1,by omega,by go_num,HBk⟩,by simp[intOf];omega⟩
     ·obtain rfl:j=k:=by omega
      have HW8:=Lib.hid (below_tr HW7.out HBj.out)
      have H8:=Lib.hid (H7.out.later HBj.out)
      have HR8:=Lib.hid (And.intro (HR7.out.1.later HBj.out) (HR7.out.2.later HBj.out))
      obtain⟨allr,hal⟩:∃v,solP (more::(set.drop kk++set.take kk)) pats=v:=⟨_,rfl⟩
      obtain⟨M,hM⟩:∃q,allr.length=q:=⟨_,rfl⟩
      have hsm:=sound_more (set:=set) (ps:=pats) more kk
      rw[hal,hrw,hvr]at hsm
      have hle:j<=M:=by rw[←hNN,←hM];exact hsm.1
      have hz3:∀t∈more::(set.drop kk++set.take kk),smallP3 t:=λt ht=>by
       rcases List.mem_cons.1 ht with rfl|ht
       ·exact H2.out.2.2
       ·exact H2.out.2.1 t ((turn_perm set kk).mem_iff.1 ht)
      have hMb:M<=1500:=by rw[←hM,←hal];exact Nat.le_trans (solP_len _ pats) (hN.out kk mm).2.2
      have hsol:Calls Tryz.prog 8 #[.slice A9 (n+1) c9,.slice Ap m cp] wr λe w'=>∃Av cv Ar cr,e=.returned (.tuple #[.slice Av nv cv,.slice Ar M cr])/\Rd w' Av (vars.map Value.string)/\RdRs w' Ar allr/\Below wr.heap.size wr w':=by
       have h:=mSolutions (more::(set.drop kk++set.take kk)) pats A9 Ap c9 cp wr H8.out.hC (by rw[List.length_cons,hls2];omega) (by rw[H8.out.hm];omega) hz3 (HQ7.out.later HBj.out) H8.out.hp (hN.out kk mm).2.2
       rw[List.length_cons,hls2,H8.out.hm]at h
       exact h.mono λe w' h=>h.plain hvr hal hnv hM
      have HA:=Lib.hid (sound_facts hvr hal hz3 (by rw[H8.out.hm];omega))
      have HSm:=Lib.hid hsm.2
      clear hz3 hsm HBj HW7 H7 HR7 HRb HSb HB
      go_wp2_with (go_at_call 8;refine hsol.mono ?_;rintro e x5 ⟨Cv,ev,Cr,er,rfl,rv,rr,b5⟩;have HW9:=Lib.hid (below_tr HW8.out b5);have HR9:=Lib.hid (And.intro (HR8.out.1.later b5) (HR8.out.2.later b5));have HRa:=Lib.hid rr;clear hsol rv rr b5 HW8 H8 HR8)
      go_loopw [22] (λi wr=>∃q:Nat,q<=j/\i=.int .i64 q/\Hid (Below x5.heap.size x5 wr)) (λi _=>j-(intOf i).toNat)
      case atStart=>exact⟨0,by omega,rfl,Below.refl _ _⟩
      case round =>
       obtain⟨q,hq,rfl,HBq⟩:=hrel
       by_cases hlt:q<j
       ·obtain⟨r,hr⟩:∃r,rows[q]?=some r:=⟨_,List.getElem?_eq_getElem (by rw[hNN];exact hlt)⟩
        have hmem:=List.mem_of_getElem? hr
        have hrl:r.length=nv:=by rw[←hnv];exact(HF.out.2.1 r hmem).1
        obtain⟨g1,o1,A1,c1,rfl,hcy,_,hry⟩:=(HR9.out.2.later HBq.out).at1 hr
        rw[hrl]at hcy
        have hat:=mlAt allr vars r vars Cr Av A1 Av M er nv cv nv c1 nv cv wr hM hnv hrl hnv (by omega) hnb hnb (Nat.le_refl _) (λy hy=>by rw[←hnv];exact(HA.out.2.1 y hy).1) (HRa.out.later HBq.out) (HR9.out.1.later HBq.out) hry (HR9.out.1.later HBq.out)
        have hex:=HSm.out r hmem
        clear hr hmem hry
        go_wp2_with (go_at_call 13;refine hat.mono ?_;rintro e x6 ⟨⟨z,rfl,hz,_⟩,b6⟩;have hzd:decide (z<0)=false:=(decide_eq_false (by have:=hz hex;omega));have HBk:=Lib.hid (below_tr HBq.out b6);clear hat hz b6 hex hcy)
        exact⟨⟨q+1,by omega,by go_num,HBk⟩,by simp[intOf];omega⟩
       ·obtain rfl:q=j:=by omega
        have hfd:decide ((q:Int)<=(M:Int))=true:=decide_eq_true (by omega)
        go_wp2
        go_ret
        exact⟨rfl,below_tr HW9.out HBq.out⟩
end Go.Proofs.YtoaemihcbmlkgaaGreatDoor
