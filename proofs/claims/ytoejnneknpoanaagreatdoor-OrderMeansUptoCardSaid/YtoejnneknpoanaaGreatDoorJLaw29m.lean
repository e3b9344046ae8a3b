/- OrderMeans: for every small table and query the law returns -/
import Derived.Test.YtoejnneknpoanaaGreatDoorJLaw29r
import Derived.Test.YtoejnneknpoanaaGreatDoorJMean5
namespace Go.Proofs.YtoejnneknpoanaaGreatDoor
open Go Go.RowKit Um Fm Lx Tx Om Mp
theorem sort_perm_eq {vars:List ByteArray} {keys:List Ky} (h:sortN vars keys=0) {l m:List (List Tm)} (hp:l.Perm m):sortL vars keys l=sortL vars keys m:=by
 rw[(sort_eq h l).2,(sort_eq h m).2]
 exact sorted_list ((List.mergeSort_perm _ _).trans hp) (sortK_up _ _)
theorem ans4_perm {vars names:List ByteArray} {nf:Nat} {fils:List (ExT nf)} {keys:List Ky} {dist:Bool} (h:sortN vars keys=0) {l m:List (List Tm)} (hp:l.Perm m):ans4 vars names nf fils keys dist l=ans4 vars names nf fils keys dist m:=by
 have hk:(keepL vars nf fils l).Perm (keepL vars nf fils m):=hp.filter _
 unfold ans4 ans3
 rw[sort_perm_eq h hk]
theorem right_perm {vars:List ByteArray} {l m:List (List Tm)} (hp:l.Perm m):rightT vars l=rightT vars m:=by
 rw[Bool.eq_iff_iff]
 exact⟨λh=>right_sub h λr hr=>hp.mem_iff.2 hr,λh=>right_sub h λr hr=>hp.mem_iff.1 hr⟩
def ansN (vars names:List ByteArray) (keys:List Ky) (off lim:Int) (b:Bool):Int:=if b then firstE (ansEr vars names keys off lim) 0 5 else 2
theorem ans_zero {vars names:List ByteArray} {keys:List Ky} {off lim:Int} {b:Bool} (h:ansN vars names keys off lim b=0):b=true/\sortN vars keys=0/\projN vars names=0/\0<=off /\ -1<=lim:=by
 unfold ansN at h
 cases b
 ·cases h
 ·rw[if_pos rfl,first_ans]at h
  by_cases h1:sortN vars keys=0
  ·rw[if_neg (λx=>x h1)]at h
   by_cases h2:projN vars names=0
   ·rw[if_neg (λx=>x h2)]at h
    by_cases h3:off<0∨lim < -1
    ·rw[if_pos h3]at h;cases h
    ·exact⟨rfl,h1,h2,by omega,by omega⟩
   ·rw[if_pos h2]at h;exact absurd h h2
  ·rw[if_pos h1]at h;exact absurd h h1
def ansL (vars names:List ByteArray) (nf:Nat) (fils:List (ExT nf)) (keys:List Ky) (dist:Bool) (off lim:Int) (rows:List (List Tm)):List (List Tm):=if ansN vars names keys off lim (rightT vars rows)=0 then cutL off lim (ans4 vars names nf fils keys dist rows) else []
theorem ansL_perm {vars names:List ByteArray} {nf:Nat} {fils:List (ExT nf)} {keys:List Ky} {dist:Bool} {off lim:Int} {l m:List (List Tm)} (hp:l.Perm m):ansL vars names nf fils keys dist off lim l=ansL vars names nf fils keys dist off lim m:=by
 unfold ansL
 rw[right_perm hp]
 by_cases h:ansN vars names keys off lim (rightT vars m)=0
 ·rw[if_pos h,if_pos h,ans4_perm (ans_zero h).2.1 hp]
 ·rw[if_neg h,if_neg h]
theorem ansCall {w:World} {vars:List ByteArray} {rows:List (List Tm)} {A B:Option Addr} {c d:Nat} (T:TabW w A B c d vars rows) (hC:CtxT w) (hP:PowV w) (hg:GoodT vars rows) (names:List ByteArray) (nf:Nat) (fils:List (ExT nf)) (keys:List Ky) (b0 dist:Bool) (off lim:Int) (A2 A3 A4 A5:Option Addr) (c2 n3 c3 c4 c5:Nat) (z1:names.length<=200) (z2:fils.length<=200) (z3:keys.length<=200) (hc:names.length<=c2) (hr2:Rd w A2 (names.map Value.string)) (hzf:∀x∈fils,szE nf x) (hr4:RdEs nf w A4 fils) (hr5:RdKey w A5 keys) :
  Calls Tryz.prog 37 #[.agg #[.slice A vars.length c,.slice B rows.length d],.agg #[.bool b0,.bool dist,.slice A2 names.length c2,.slice A3 n3 c3,.slice A4 fils.length c4,.slice A5 keys.length c5,.int .i64 lim,.int .i64 off]] w (OutA (ansN vars names keys off lim (rightT vars rows)) (ansL vars names nf fils keys dist off lim rows) w):=by
 cases hR:rightT vars rows
 ·have h2:ansN vars names keys off lim false=2:=rfl
  have h3:ansL vars names nf fils keys dist off lim rows=[]:=by unfold ansL;rw[hR,h2];rfl
  rw[h2,h3]
  exact(noAnswer T.1 hR b0 dist A2 A3 A4 A5 _ c2 n3 c3 _ c4 _ c5 lim off).mono λ_ _ h=>h.out
 ·have h2:ansN vars names keys off lim true=firstE (ansEr vars names keys off lim) 0 5:=rfl
  refine(topAnswer T.1 hR hC hP hg.key hg.small names nf fils keys b0 dist off lim A2 A3 A4 A5 _ c2 n3 c3 _ c4 _ c5 rfl (by omega) hc hr2 rfl (by omega) hzf hr4 rfl (by omega) hr5).mono λe w' h=>?_
  have h:=h.out
  have h3:ansL vars names nf fils keys dist off lim rows=if firstE (ansEr vars names keys off lim) 0 5=0 then (ansSt vars names nf fils keys dist off lim rows 5).2 else []:=by
   unfold ansL
   rw[hR,h2]
   by_cases h0:firstE (ansEr vars names keys off lim) 0 5=0
   ·rw[if_pos h0,if_pos h0]
    have hz:=(ans_zero (b:=true) h0).2.2.2
    show _=if off<0∨lim < -1 then ans4 vars names nf fils keys dist rows else cutL off lim (ans4 vars names nf fils keys dist rows)
    rw[if_neg (by omega)]
   ·rw[if_neg h0,if_neg h0]
  rw[h2,h3]
  exact h
theorem mean_put {wd X:World} {bo m:Nat} {cur:Array Value} {va v:Value} {xs:List Value} {rs:List (List Tm)} (hbox:X.heap[bo]?=some (Obj.cells cur 25 (0,0))) (hbo:wd.heap.size<=bo) (own:X.ownsRow wd.heap.size 59 1 v m xs) (hall:All 1 (RdRow wd) xs rs) (hB:Below wd.heap.size wd X):∃A7 c7,v=.slice A7 m c7/\(X.setRow bo #[va,.slice A7 m c7]).heap[bo]?=some (Obj.cells #[va,.slice A7 m c7] 25 (0,0))/\m<=c7/\RdRs (X.setRow bo #[va,.slice A7 m c7]) A7 rs/\Below wd.heap.size wd (X.setRow bo #[va,.slice A7 m c7]):=by
 obtain⟨A7,c7,rfl,hc,hr⟩:=own_slice own
 have hb:=below_setRow hB hbo #[va,.slice A7 m c7]
 obtain⟨A8,c8,e8,_,hr8⟩:=own_slice (own_keep own (KeepT.setRow (cs:=#[va,.slice A7 m c7]) hbox (by decide)))
 injection e8 with e8
 subst e8
 exact⟨A7,c7,rfl,setRow_heap X _ _ _ _ (0,0) hbox,hc,⟨xs,hr8,hall.mono λ_ _ _ h=>h.later hb⟩,hb⟩
set_option maxRecDepth 100000 in
set_option maxHeartbeats 16000000 in
theorem lawOrderMeans (n:Nat) (q:Qy n) (a1 a2 a3 a4:Option Addr) (c1 c2 c3 c4:Nat) (vars:List ByteArray) (rows:List (List Tm)) (A B:Option Addr) (c d:Nat) (pk:Int) (w:World) (hC:CtxT w) (hP:PowV w) (hz:szQu q) (hq:RdQ n w [.bool q.ask,.bool q.dist,.slice a1 q.vars.length c1,.slice a2 q.pats.length c2,.slice a3 q.fils.length c3,.slice a4 q.ord.length c4,.int .i64 q.lim,.int .i64 q.off] q) (hlv:vars.length<=1048576) (hlr:rows.length<=1048576) (hzr:∀r∈rows,r.length<=1048576/\∀t∈r,keyTm t) (hnc:vars.length<=c) (hmd:rows.length<=d) (hrv:Rd w A (vars.map Value.string)) (hrr:RdRs w B rows) (_:inI pk) :
  Calls Tryz.prog 7 #[.agg #[.slice A vars.length c,.slice B rows.length d],.agg #[.bool q.ask,.bool q.dist,.slice a1 q.vars.length c1,.slice a2 q.pats.length c2,.slice a3 q.fils.length c3,.slice a4 q.ord.length c4,.int .i64 q.lim,.int .i64 q.off],.int .i64 pk] w λe w'=>e=.returned (.bool true)/\Below w.heap.size w w':=by
 obtain⟨W,hW⟩:∃W:World,(w.alloc (.cells #[.slice A vars.length c,.slice B rows.length d] 25)).alloc (.cells #[.bool q.ask,.bool q.dist,.slice a1 q.vars.length c1,.slice a2 q.pats.length c2,.slice a3 q.fils.length c3,.slice a4 q.ord.length c4,.int .i64 q.lim,.int .i64 q.off] 30)=W:=⟨_,rfl⟩
 have hB0:Below w.heap.size w W:=by rw[←hW];exact blw
 have hF:FrR q vars rows A B c d a1 a2 a3 a4 c1 c2 c3 c4 w.heap.size (w.heap.size+1) W:=⟨by rw[←hW];exact heap_two_1 _ _ _,by rw[←hW];exact heap_two_2 _ _ _,hrv.later hB0,hrr.later hB0,hq.later hB0⟩
 have hAw:=law29Awake W (hC.step hB0) (hP.step hB0)
 have H:=Lib.hid (And.intro hC (And.intro hP (And.intro hz (And.intro hzr (And.intro hnc (And.intro hmd hF))))))
 have HW:=Lib.hid hW
 have HB0:=Lib.hid hB0
 clear hC hP hq hrv hrr hzr hnc hmd hz hB0 hF hW
 go_enter Tryz.func7,Tryz.ntmps7
 go_wp2_with fail
 simp only[HW.out]
 refine hAw.mono ?_
 rintro e w1 ⟨rfl,hb1⟩
 have HF1:=Lib.hid (H.out.2.2.2.2.2.2.later hb1)
 have HB1:=Lib.hid (below_tr HB0.out hb1)
 have hG:=law29Great n q vars rows A B vars.length c rows.length d a1 a2 a3 a4 c1 c2 c3 c4 w1 rfl rfl hlv hlr (λr hr=>(H.out.2.2.2.1 r hr).1) HF1.out.rr (rdq_spell9 HF1.out.rq).2.2.2.1 H.out.2.2.1.1 H.out.2.2.1.2.2.1 H.out.2.2.1.2.2.2.1 (λx hx=>(H.out.2.2.1.2.2.2.2.2.2.1 x hx).e)
 clear hAw hb1
 obtain⟨⟨z0,z1⟩,d0,d1,d2,d3,d4,d5,d6,d7⟩:=HF1.out.cells
 go_wp2_with fail
 refine hG.mono ?_
 rintro e w2 ⟨gb,rfl,hgb,hb2⟩
 have HF2:=Lib.hid (HF1.out.later hb2)
 have HB2:=Lib.hid (below_tr HB1.out hb2)
 clear hG hb2 z0 z1 d0 d1 d2 d3 d4 d5 d6 d7
 cases gb
 case true =>
  clear hgb
  go_wp2
  go_ret
  exact⟨rfl,HB2.out⟩
 obtain⟨f1,f2,f3,f4,f5,f6⟩:=hgb rfl
 have hgood:GoodT vars rows:=⟨f1,f2,λr hr=>⟨f6 r hr,(H.out.2.2.2.1 r hr).2⟩⟩
 have HG:=Lib.hid (And.intro hgood (And.intro f3 (And.intro f4 f5)))
 clear hgb f1 f2 f3 f4 f5 f6 hgood
 obtain⟨hqc,r1,_,_,_⟩:=rdq_spell9 HF2.out.rq
 clear r1
 have hA1:=ansCall (HF2.out.tab HG.out.1 H.out.2.2.2.2.1 H.out.2.2.2.2.2.1) (H.out.1.step HB2.out) (H.out.2.1.step HB2.out) HG.out.1 q.vars n q.fils q.ord q.ask q.dist q.off q.lim a1 a2 a3 a4 c1 q.pats.length c2 c3 c4 (by have:=HG.out.2.1;omega) (by have:=HG.out.2.2.2;omega) (by have:=HG.out.2.2.1;omega) hqc (rdq_spell9 HF2.out.rq).2.1 (λx hx=>(H.out.2.2.1.2.2.2.2.2.2.1 x hx).e) (rdq_spell9 HF2.out.rq).2.2.2.1 (rdq_spell9 HF2.out.rq).2.2.2.2
 obtain⟨N,hN⟩:∃N,ansN vars q.vars q.ord q.off q.lim (rightT vars rows)=N:=⟨_,rfl⟩
 obtain⟨L,hL⟩:∃L,ansL vars q.vars n q.fils q.ord q.dist q.off q.lim rows=L:=⟨_,rfl⟩
 rw[hN,hL]at hA1
 have HN:=Lib.hid (And.intro hN (And.intro hL hqc))
 clear hN hL
 obtain⟨⟨z0,z1⟩,d0,d1,d2,d3,d4,d5,d6,d7⟩:=HF2.out.cells
 go_wp2_with fail
 refine hA1.mono ?_
 rintro e w3 ⟨v3,rfl,hb3,own3⟩
 obtain⟨A3,k3,rfl,hk3,hr3⟩:=own3.rd
 have HF3:=Lib.hid (HF2.out.later hb3)
 have HB3:=Lib.hid (below_tr HB2.out hb3)
 have HR3:=Lib.hid hr3
 clear hA1 hb3 own3 hr3 z0 z1 d0 d1 d2 d3 d4 d5 d6 d7
 obtain⟨⟨z0,z1⟩,d0,d1,d2,d3,d4,d5,d6,d7⟩:=HF3.out.cells
 have hrl:=HG.out.1.2.1
 have hvl:=HG.out.1.1
 have hmd:=H.out.2.2.2.2.2.1
 have hPk:=kitPick29 pk ((rows.length:Int)+1) w3 (by omega) (by omega)
 go_upto_region 7 with (go_at_call 36;refine hPk.mono ?_;rintro e w9 ⟨kk,rfl,hkk,rfl⟩)
 have hkl:kk<=rows.length:=by omega
 clear hkk hPk
 go_cut [10] from 31 to 44 (λs10 wx=>∃(bo:Nat) (A7:Option Addr) (c7:Nat),s10=.pointer (some ⟨bo,0,none⟩)/\wx.heap[bo]?=some (Obj.cells #[.slice A vars.length c,.slice A7 rows.length c7] 25 (0,0))/\rows.length<=c7/\RdRs wx A7 (rows.drop kk++rows.take kk)/\Below w3.heap.size w3 wx)
 case first =>
  rename_i hJ hM
  refine Rf.p0 w3.heap.size _ (.quiet [0,1,3,4,5,6,8,9,10,11] (.fork 2 14 (.fork 7 14 (.fork 12 14 (.quiet [13] (.one 14 (.one 15 (.done)))) (.one 12 (.quiet [13] (.one 15 (.done))))) (.one 7 (.one 12 (.quiet [13] (.one 15 (.done)))))) (.one 2 (.one 7 (.one 12 (.quiet [13] (.one 15 (.done)))))))) ?_ (λa w h=>h)
  intro wd hbd hwz
  have y0:=cellL z0 hbd
  have y1:=cellL z1 hbd
  have HBD:=Lib.hid hbd
  have hs9:w3.heap.size<=wd.heap.size:=hbd.size
  obtain⟨xs1,r1,all1⟩:=RdL.fromG (HF3.out.rr.later hbd) hmd hkl
  obtain⟨xs2,r2,all2⟩:=(HF3.out.rr.later hbd).take kk
  have hx1:xs1.length=(rows.length-kk)*1:=by rw[all1.len,List.length_drop]
  have hx2:xs2.length=kk*1:=by rw[all2.len,List.length_take];omega
  have o1:∀u∈xs1,u.oneCell'=true:=λu hu=>by
   obtain⟨r,_,A0,c0,e,_⟩:=rows_in all1 hu
   injection e with e
   rw[e];rfl
  have o2:∀u∈xs2,u.oneCell'=true:=λu hu=>by
   obtain⟨r,_,A0,c0,e,_⟩:=rows_in all2 hu
   injection e with e
   rw[e];rfl
  have HA:=Lib.hid (all1.append all2)
  have hrun:=run_fromG (P:=Tryz.prog) Tryz.underlying23 Tryz.sizeOf59 B d kk rows.length hkl
  have hrun2:=run_toG (P:=Tryz.prog) Tryz.underlying23 Tryz.sizeOf59 B d kk rows.length (by omega)
  have hin:Tryz.prog.underlying 23=some (.slice 59):=Tryz.underlying23
  obtain⟨B1,hB1e⟩:∃X,subG 1 d kk B=X:=⟨_,rfl⟩
  obtain⟨n1,hn1e⟩:∃X,rows.length-kk=X:=⟨_,rfl⟩
  obtain⟨k1,hk1e⟩:∃X,d-kk=X:=⟨_,rfl⟩
  rw[hB1e]at r1
  simp only[hB1e,hn1e,hk1e]at hrun hx1
  have hnk:n1+kk=rows.length:=by omega
  have hnk1:n1<=k1:=by omega
  clear hwz hbd z0 z1 d0 d1 d2 d3 d4 d5 d6 d7 all1 all2 hB1e hk1e
  refine Rf.pl_quiet ?_
  iterate 10 go_big_quiet_step (fail)
  refine wpQuiet_nil (Rf.pl_fork ?_ ?_)
  ·go_wp2
   first|refine⟨(Below.refl _ _).alloc (Nat.le_trans hs9 (Nat.le_refl _)) _,Rf.pl_fork ?_ ?_⟩|refine Rf.pl_fork ?_ ?_
   ·have hal1:Below wd.heap.size wd (wd.alloc (.cells #[] 59)):=blw
    have own1:(wd.alloc (.cells #[] 59)).ownsRow wd.heap.size 59 1 (.slice (some ⟨wd.heap.size,0,none⟩) 0 0) 0 []:=own_new (Nat.le_refl _) rfl rfl (by omega)
    have hc1:=(Below.refl wd.heap.size wd).trans (hal1.mono (Nat.le_refl _))
    have hs1:wd.heap.size<=(wd.alloc (.cells #[] 59)).heap.size:=Nat.le_trans (Nat.le_refl _) hal1.size
    generalize wd.alloc (.cells #[] 59)=X1 at *
    have rr2:=r1.later hc1
    go_wp2_with (at_builtin;refine wpList_appG (m:=n1) rfl rfl hin rowInfo rfl (by omega) rfl own1 rfl rr2 hx1 o1 (by omega) (by omega) hs1 ?_;intro v2 X2 own2 hb2 hg2;rw[Nat.zero_add,List.nil_append]at own2;obtain⟨A2,c2,rfl,_,_⟩:=own_slice own2)
    first|refine⟨hb2.mono hs9,Rf.pl_fork ?_ ?_⟩|refine Rf.pl_fork ?_ ?_
    ·have hc2:=hc1.trans hb2
     have hs2:wd.heap.size<=X2.heap.size:=hc2.size
     have rr3:=r2.later hc2
     go_wp2_with (at_builtin;refine wpList_appG (m:=kk) rfl rfl hin rowInfo rfl (by omega) rfl own2 rfl rr3 hx2 o2 (by omega) (by omega) hs2 ?_;intro v3 X3 own3 hb3 hg3;rw[hnk]at own3;obtain⟨A3,c3,rfl,_,_⟩:=own_slice own3)
     first|refine⟨hb3.mono hs9,Rf.pl_quiet ?_⟩|refine Rf.pl_quiet ?_
     have hc3:=hc2.trans hb3
     have hs3:wd.heap.size<=X3.heap.size:=hc3.size
     try go_frame
     iterate 1 go_big_quiet_step (fail)
     refine wpQuiet_nil (Rf.pl_one ?_)
     go_wp2
     first|refine⟨(Below.refl _ _).alloc (Nat.le_trans hs9 hs3) _,Rf.pl_one ?_⟩|refine Rf.pl_one ?_
     have hal5:Below X3.heap.size X3 (X3.alloc (.cells #[.slice none 0 0,.slice none 0 0] 25)):=blw
     have box5:=heap_alloc_new X3 (.cells #[.slice none 0 0,.slice none 0 0] 25)
     have own5:=own_below own3 hal5 (Nat.le_refl _)
     have hc5:=hc3.trans (hal5.mono hs3)
     have hs5:wd.heap.size<=(X3.alloc (.cells #[.slice none 0 0,.slice none 0 0] 25)).heap.size:=Nat.le_trans hs3 hal5.size
     have hbo5:wd.heap.size<=X3.heap.size:=hs3
     generalize X3.alloc (.cells #[.slice none 0 0,.slice none 0 0] 25)=X5 at *
     obtain⟨A7,c7,e7,p1,p2,p3,p4⟩:=mean_put (va:=.slice A vars.length c) box5 hbo5 own5 HA.out hc5
     injection e7 with e7 _ e8
     subst e7;subst e8
     have HP:=Lib.hid (And.intro p1 (And.intro p2 (And.intro p3 (below_tr HBD.out p4))))
     have HX:=Lib.hid box5
     have hbo:=Nat.le_trans hs9 hbo5
     clear p1 p2 p3 p4
     go_wp2_with (refine wpList_store_row rfl 25 _ _ rfl rfl rfl tblInfo HX.out rfl rfl ?_)
     first|refine⟨below_setRow (Below.refl _ _) hbo _,Rf.pl_done ?_⟩|refine Rf.pl_done ?_
     refine hM _ _ (Met.intro (hJ _ _ ?_))
     (repeat apply Exists.intro)
     exact⟨⟨_,_,_,rfl,HP.out.1,HP.out.2.1,HP.out.2.2.1,HP.out.2.2.2⟩,rfl⟩
    ·have hc2:=hc1.trans hb2
     have hs2:wd.heap.size<=X2.heap.size:=hc2.size
     go_wp2
     first|refine⟨(Below.refl _ _).alloc (Nat.le_trans hs9 hs2) _,Rf.pl_one ?_⟩|refine Rf.pl_one ?_
     have hal7:Below X2.heap.size X2 (X2.alloc (.cells #[.slice none 0 0,.slice none 0 0] 25)):=blw
     have box7:=heap_alloc_new X2 (.cells #[.slice none 0 0,.slice none 0 0] 25)
     have own7:=own_below own2 hal7 (Nat.le_refl _)
     have hc7:=hc2.trans (hal7.mono hs2)
     have hs7:wd.heap.size<=(X2.alloc (.cells #[.slice none 0 0,.slice none 0 0] 25)).heap.size:=Nat.le_trans hs2 hal7.size
     have hbo7:wd.heap.size<=X2.heap.size:=hs2
     generalize X2.alloc (.cells #[.slice none 0 0,.slice none 0 0] 25)=X7 at *
     have rr8:=r2.later hc7
     go_wp2_with (at_builtin;refine wpList_appG (m:=kk) rfl rfl hin rowInfo rfl (by omega) rfl own7 rfl rr8 hx2 o2 (by omega) (by omega) hs7 ?_;intro v8 X8 own8 hb8 hg8;rw[hnk]at own8;obtain⟨A8,c8,rfl,_,_⟩:=own_slice own8)
     first|refine⟨hb8.mono hs9,Rf.pl_quiet ?_⟩|refine Rf.pl_quiet ?_
     have box8:=KeepT.grown hg8 (own_blockR own7) (by decide) _ _ _ box7
     have hc8:=hc7.trans hb8
     have hs8:wd.heap.size<=X8.heap.size:=hc8.size
     try go_frame
     iterate 1 go_big_quiet_step (fail)
     refine wpQuiet_nil (Rf.pl_one ?_)
     obtain⟨A7,c7,e7,p1,p2,p3,p4⟩:=mean_put (va:=.slice A vars.length c) box8 hbo7 own8 HA.out hc8
     injection e7 with e7 _ e8
     subst e7;subst e8
     have HP:=Lib.hid (And.intro p1 (And.intro p2 (And.intro p3 (below_tr HBD.out p4))))
     have HX:=Lib.hid box8
     have hbo:=Nat.le_trans hs9 hbo7
     clear p1 p2 p3 p4
     go_wp2_with (refine wpList_store_row rfl 25 _ _ rfl rfl rfl tblInfo HX.out rfl rfl ?_)
     first|refine⟨below_setRow (Below.refl _ _) hbo _,Rf.pl_done ?_⟩|refine Rf.pl_done ?_
     refine hM _ _ (Met.intro (hJ _ _ ?_))
     (repeat apply Exists.intro)
     exact⟨⟨_,_,_,rfl,HP.out.1,HP.out.2.1,HP.out.2.2.1,HP.out.2.2.2⟩,rfl⟩
   ·have hal1:Below wd.heap.size wd (wd.alloc (.cells #[] 59)):=blw
    have own1:(wd.alloc (.cells #[] 59)).ownsRow wd.heap.size 59 1 (.slice (some ⟨wd.heap.size,0,none⟩) 0 0) 0 []:=own_new (Nat.le_refl _) rfl rfl (by omega)
    have hc1:=(Below.refl wd.heap.size wd).trans (hal1.mono (Nat.le_refl _))
    have hs1:wd.heap.size<=(wd.alloc (.cells #[] 59)).heap.size:=Nat.le_trans (Nat.le_refl _) hal1.size
    generalize wd.alloc (.cells #[] 59)=X1 at *
    go_wp2
    first|refine⟨(Below.refl _ _).alloc (Nat.le_trans hs9 hs1) _,Rf.pl_one ?_⟩|refine Rf.pl_one ?_
    have hal11:Below X1.heap.size X1 (X1.alloc (.cells #[.slice none 0 0,.slice none 0 0] 25)):=blw
    have box11:=heap_alloc_new X1 (.cells #[.slice none 0 0,.slice none 0 0] 25)
    have own11:=own_below own1 hal11 (Nat.le_refl _)
    have hc11:=hc1.trans (hal11.mono hs1)
    have hs11:wd.heap.size<=(X1.alloc (.cells #[.slice none 0 0,.slice none 0 0] 25)).heap.size:=Nat.le_trans hs1 hal11.size
    have hbo11:wd.heap.size<=X1.heap.size:=hs1
    generalize X1.alloc (.cells #[.slice none 0 0,.slice none 0 0] 25)=X11 at *
    have rr12:=r1.later hc11
    go_wp2_with (at_builtin;refine wpList_appG (m:=n1) rfl rfl hin rowInfo rfl (by omega) rfl own11 rfl rr12 hx1 o1 (by omega) (by omega) hs11 ?_;intro v12 X12 own12 hb12 hg12;rw[Nat.zero_add,List.nil_append]at own12;obtain⟨A12,c12,rfl,_,_⟩:=own_slice own12)
    first|refine⟨hb12.mono hs9,Rf.pl_one ?_⟩|refine Rf.pl_one ?_
    have box12:=KeepT.grown hg12 (own_blockR own11) (by decide) _ _ _ box11
    have hc12:=hc11.trans hb12
    have hs12:wd.heap.size<=X12.heap.size:=hc12.size
    have rr13:=r2.later hc12
    go_wp2_with (at_builtin;refine wpList_appG (m:=kk) rfl rfl hin rowInfo rfl (by omega) rfl own12 rfl rr13 hx2 o2 (by omega) (by omega) hs12 ?_;intro v13 X13 own13 hb13 hg13;rw[hnk]at own13;obtain⟨A13,c13,rfl,_,_⟩:=own_slice own13)
    first|refine⟨hb13.mono hs9,Rf.pl_quiet ?_⟩|refine Rf.pl_quiet ?_
    have box13:=KeepT.grown hg13 (own_blockR own12) (by decide) _ _ _ box12
    have hc13:=hc12.trans hb13
    have hs13:wd.heap.size<=X13.heap.size:=hc13.size
    try go_frame
    iterate 1 go_big_quiet_step (fail)
    refine wpQuiet_nil (Rf.pl_one ?_)
    obtain⟨A7,c7,e7,p1,p2,p3,p4⟩:=mean_put (va:=.slice A vars.length c) box13 hbo11 own13 HA.out hc13
    injection e7 with e7 _ e8
    subst e7;subst e8
    have HP:=Lib.hid (And.intro p1 (And.intro p2 (And.intro p3 (below_tr HBD.out p4))))
    have HX:=Lib.hid box13
    have hbo:=Nat.le_trans hs9 hbo11
    clear p1 p2 p3 p4
    go_wp2_with (refine wpList_store_row rfl 25 _ _ rfl rfl rfl tblInfo HX.out rfl rfl ?_)
    first|refine⟨below_setRow (Below.refl _ _) hbo _,Rf.pl_done ?_⟩|refine Rf.pl_done ?_
    refine hM _ _ (Met.intro (hJ _ _ ?_))
    (repeat apply Exists.intro)
    exact⟨⟨_,_,_,rfl,HP.out.1,HP.out.2.1,HP.out.2.2.1,HP.out.2.2.2⟩,rfl⟩
  ·go_wp2
   first|refine⟨(Below.refl _ _).alloc (Nat.le_trans hs9 (Nat.le_refl _)) _,Rf.pl_one ?_⟩|refine Rf.pl_one ?_
   have hal16:Below wd.heap.size wd (wd.alloc (.cells #[.slice none 0 0,.slice none 0 0] 25)):=blw
   have box16:=heap_alloc_new wd (.cells #[.slice none 0 0,.slice none 0 0] 25)
   have hc16:=(Below.refl wd.heap.size wd).trans (hal16.mono (Nat.le_refl _))
   have hs16:wd.heap.size<=(wd.alloc (.cells #[.slice none 0 0,.slice none 0 0] 25)).heap.size:=Nat.le_trans (Nat.le_refl _) hal16.size
   have hbo16:wd.heap.size<=wd.heap.size:=(Nat.le_refl _)
   generalize wd.alloc (.cells #[.slice none 0 0,.slice none 0 0] 25)=X16 at *
   go_wp2
   first|refine⟨(Below.refl _ _).alloc (Nat.le_trans hs9 hs16) _,Rf.pl_one ?_⟩|refine Rf.pl_one ?_
   have hal17:Below X16.heap.size X16 (X16.alloc (.cells #[] 59)):=blw
   have own17:(X16.alloc (.cells #[] 59)).ownsRow wd.heap.size 59 1 (.slice (some ⟨X16.heap.size,0,none⟩) 0 0) 0 []:=own_new hs16 rfl rfl (by omega)
   have box17:=KeepT.below hal17 _ _ _ box16
   have hc17:=hc16.trans (hal17.mono hs16)
   have hs17:wd.heap.size<=(X16.alloc (.cells #[] 59)).heap.size:=Nat.le_trans hs16 hal17.size
   generalize X16.alloc (.cells #[] 59)=X17 at *
   have rr18:=r1.later hc17
   go_wp2_with (at_builtin;refine wpList_appG (m:=n1) rfl rfl hin rowInfo rfl (by omega) rfl own17 rfl rr18 hx1 o1 (by omega) (by omega) hs17 ?_;intro v18 X18 own18 hb18 hg18;rw[Nat.zero_add,List.nil_append]at own18;obtain⟨A18,c18,rfl,_,_⟩:=own_slice own18)
   first|refine⟨hb18.mono hs9,Rf.pl_one ?_⟩|refine Rf.pl_one ?_
   have box18:=KeepT.grown hg18 (own_blockR own17) (by decide) _ _ _ box17
   have hc18:=hc17.trans hb18
   have hs18:wd.heap.size<=X18.heap.size:=hc18.size
   have rr19:=r2.later hc18
   go_wp2_with (at_builtin;refine wpList_appG (m:=kk) rfl rfl hin rowInfo rfl (by omega) rfl own18 rfl rr19 hx2 o2 (by omega) (by omega) hs18 ?_;intro v19 X19 own19 hb19 hg19;rw[hnk]at own19;obtain⟨A19,c19,rfl,_,_⟩:=own_slice own19)
   first|refine⟨hb19.mono hs9,Rf.pl_quiet ?_⟩|refine Rf.pl_quiet ?_
   have box19:=KeepT.grown hg19 (own_blockR own18) (by decide) _ _ _ box18
   have hc19:=hc18.trans hb19
   have hs19:wd.heap.size<=X19.heap.size:=hc19.size
   try go_frame
   iterate 1 go_big_quiet_step (fail)
   refine wpQuiet_nil (Rf.pl_one ?_)
   obtain⟨A7,c7,e7,p1,p2,p3,p4⟩:=mean_put (va:=.slice A vars.length c) box19 hbo16 own19 HA.out hc19
   injection e7 with e7 _ e8
   subst e7;subst e8
   have HP:=Lib.hid (And.intro p1 (And.intro p2 (And.intro p3 (below_tr HBD.out p4))))
   have HX:=Lib.hid box19
   have hbo:=Nat.le_trans hs9 hbo16
   clear p1 p2 p3 p4
   go_wp2_with (refine wpList_store_row rfl 25 _ _ rfl rfl rfl tblInfo HX.out rfl rfl ?_)
   first|refine⟨below_setRow (Below.refl _ _) hbo _,Rf.pl_done ?_⟩|refine Rf.pl_done ?_
   refine hM _ _ (Met.intro (hJ _ _ ?_))
   (repeat apply Exists.intro)
   exact⟨⟨_,_,_,rfl,HP.out.1,HP.out.2.1,HP.out.2.2.1,HP.out.2.2.2⟩,rfl⟩
 case rest =>
 obtain⟨bo,A7,c7,rfl,hbx,hc7,hr7,hb7⟩:=hcut
 obtain⟨Z1,hZ⟩:∃V:World,V=wc:=⟨_,rfl⟩
 subst hZ
 have hpm:(rows.drop kk++rows.take kk).Perm rows:=List.perm_append_comm.trans (by rw[List.take_append_drop])
 have hrot:=hpm.length_eq
 have HF4:=Lib.hid (HF3.out.later hb7)
 have HB4:=Lib.hid (below_tr HB3.out hb7)
 have HR4:=Lib.hid (HR3.out.later hb7)
 have hgr:GoodT vars (rows.drop kk++rows.take kk):=⟨HG.out.1.1,by rw[hrot];exact HG.out.1.2.1,λr hr=>HG.out.1.2.2 r (hpm.mem_iff.1 hr)⟩
 have hTr:TabW Z1 A A7 c c7 vars (rows.drop kk++rows.take kk):=⟨⟨rfl,rfl,by omega,by rw[hrot];omega,H.out.2.2.2.2.1,HF4.out.rv,hr7,λr hr=>by have:=(hgr.2.2 r hr).1;omega⟩,by rw[hrot];exact hc7⟩
 have hA2:=ansCall hTr (H.out.1.step HB4.out) (H.out.2.1.step HB4.out) hgr q.vars n q.fils q.ord q.ask q.dist q.off q.lim a1 a2 a3 a4 c1 q.pats.length c2 c3 c4 (by have:=HG.out.2.1;omega) (by have:=HG.out.2.2.2;omega) (by have:=HG.out.2.2.1;omega) HN.out.2.2 (rdq_spell9 HF4.out.rq).2.1 (λx hx=>(H.out.2.2.1.2.2.2.2.2.2.1 x hx).e) (rdq_spell9 HF4.out.rq).2.2.2.1 (rdq_spell9 HF4.out.rq).2.2.2.2
 rw[right_perm hpm,HN.out.1,ansL_perm hpm,HN.out.2.1,hrot]at hA2
 have x0:Z1.cell? ⟨bo,0,none⟩=some (.slice A vars.length c):=by rw[World.cell?,hbx];rfl
 have x1:Z1.cell? ⟨bo,1,none⟩=some (.slice A7 rows.length c7):=by rw[World.cell?,hbx];rfl
 clear hpm hrot hgr hTr hbx hr7 hb7 z0 z1 d0 d1 d2 d3 d4 d5 d6 d7
 obtain⟨⟨z0,z1⟩,d0,d1,d2,d3,d4,d5,d6,d7⟩:=HF4.out.cells
 apply_assumption
 go_wp2_with fail
 refine hA2.mono ?_
 rintro e w5 ⟨v5,rfl,hb5,own5⟩
 obtain⟨A5,k5,rfl,hk5,hr5⟩:=own5.rd
 have HF5:=Lib.hid (HF4.out.later hb5)
 have HB5:=Lib.hid (below_tr HB4.out hb5)
 have HR5:=Lib.hid (And.intro (HR4.out.later hb5) hr5)
 clear hA2 hb5 own5 hr5 z0 z1 d0 d1 d2 d3 d4 d5 d6 d7 x0 x1
 obtain⟨⟨z0,z1⟩,d0,d1,d2,d3,d4,d5,d6,d7⟩:=HF5.out.cells
 by_cases h0:N=0
 case neg =>
  have hLn:L=[]:=by
   rw[←HN.out.2.1]
   unfold ansL
   rw[HN.out.1,if_neg h0]
  subst hLn
  have hq1:(N != 0)=true:=by rw[bne_iff_ne];exact h0
  clear h0
  go_wp2
  go_ret
  exact⟨rfl,HB5.out⟩
 subst h0
 obtain⟨e1,e2,e3,e4,e5⟩:=ans_zero HN.out.1
 have hM:=meanRows q vars rows a1 a2 a3 a4 c1 c2 c3 c4 A B c d w5 (H.out.1.step HB5.out) e1 e2 e3 e4 e5 HG.out.1 (by have:=HG.out.2.1;omega) (by have:=HG.out.2.2.2;omega) (by have:=HG.out.2.2.1;omega) (λx hx=>(H.out.2.2.1.2.2.2.2.2.2.1 x hx).e) (rdq_spell9 HF5.out.rq).2.1 (rdq_spell9 HF5.out.rq).2.2.2.1 (rdq_spell9 HF5.out.rq).2.2.2.2 HF5.out.rv HF5.out.rr
 have hLe:cutL q.off q.lim (ans4 vars q.vars n q.fils q.ord q.dist rows)=L:=by
  rw[←HN.out.2.1]
  unfold ansL
  rw[HN.out.1,if_pos rfl]
 have hLs:L.length<=900000/\∀r∈L,r.length<=900000:=by
  have h3:=ans3_len vars q.vars n q.fils q.ord rows
  have h3m:∀r∈(ans3 vars q.vars n q.fils q.ord rows).2,r.length<=200:=λr hr=>by
   unfold ans3 at hr
   rw[if_pos e3]at hr
   obtain⟨r0,_,rfl⟩:=List.mem_map.1 hr
   rw[proj_len]
   unfold placesL
   rw[List.length_map]
   have:=HG.out.2.1
   omega
  have h4:(ans4 vars q.vars n q.fils q.ord q.dist rows).length<=200/\∀r∈ans4 vars q.vars n q.fils q.ord q.dist rows,r.length<=200:=by
   unfold ans4
   split
   ·exact⟨by have:=once_len (ans3 vars q.vars n q.fils q.ord rows).2;omega,λr hr=>h3m r ((once_mem _ _).1 hr)⟩
   ·exact⟨by omega,h3m⟩
  rw[←hLe]
  exact⟨by have:=cut_len q.off q.lim (ans4 vars q.vars n q.fils q.ord q.dist rows);omega,λr hr=>by have:=h4.2 r (cut_mem hr);omega⟩
 rw[hLe]at hM
 clear e1 e2 e3 e4 e5 hLe
 go_wp2_with fail
 refine hM.mono ?_
 rintro e w6 ⟨A6,k6,rfl,hk6,hr6,hb6⟩
 have hS1:=kitSameRows L L A3 A6 k3 k6 L.length L.length w6 rfl rfl (by omega) (by omega) (λr hr=>by have:=hLs.2 r hr;omega) (λr hr=>by have:=hLs.2 r hr;omega) (HR5.out.1.later hb6) hr6
 have hS2f:=λW (h:Below w6.heap.size w6 W)=>kitSameRows L L A5 A6 k5 k6 L.length L.length W rfl rfl (by omega) (by omega) (λr hr=>by have:=hLs.2 r hr;omega) (λr hr=>by have:=hLs.2 r hr;omega) ((HR5.out.2.later hb6).later h) (hr6.later h)
 rw[show decide (L=L)=true from decide_eq_true rfl]at hS1 hS2f
 have HB6:=Lib.hid (below_tr HB5.out hb6)
 clear hM hr6 hb6 z0 z1 d0 d1 d2 d3 d4 d5 d6 d7 hLs
 go_wp2_with (first
  | (go_at_call 31;refine hS1.mono ?_;rintro e w7 ⟨rfl,hb7⟩;have hS2:=hS2f w7 hb7;have HB7:=Lib.hid (below_tr HB6.out hb7);clear hS1 hS2f hb7)
  | (go_at_call 31;refine hS2.mono ?_;rintro e w8 ⟨rfl,hb8⟩;have HB8:=Lib.hid (below_tr HB7.out hb8);clear hS2 hb8))
 go_ret
 exact⟨rfl,HB8.out⟩
end Go.Proofs.YtoejnneknpoanaaGreatDoor
