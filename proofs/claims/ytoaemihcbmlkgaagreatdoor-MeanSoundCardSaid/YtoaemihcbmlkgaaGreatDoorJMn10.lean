/- The program's package mean, walked: Query. -/
import Derived.Test.YtoaemihcbmlkgaaGreatDoorJMean5
set_option maxHeartbeats 8000000
namespace Go.Proofs.YtoaemihcbmlkgaaGreatDoor
open Go Go.RowKit Um Fm Lx Mt Tx Om Mp Mv Mn
theorem sort_no {vars:List ByteArray} {keys:List Ky} (h:∀s∈keysN keys,s∈vars):sortN vars keys=0:=by
 unfold sortN
 rw[if_neg]
 rw[List.contains_iff_mem]
 intro hm
 unfold placesL at hm
 obtain⟨s,hs,he⟩:=List.mem_map.1 hm
 have:=(Lib.idxOfS_nonneg_iff vars s).2 (h s hs)
 omega
theorem proj_no {vars names:List ByteArray} (hn:names.Nodup) (h:∀s∈names,s∈vars):projN vars names=0:=by
 unfold projN
 rw[if_neg (by simp[hn]),if_neg]
 rw[List.contains_iff_mem]
 intro hm
 unfold placesL at hm
 obtain⟨s,hs,he⟩:=List.mem_map.1 hm
 have:=(Lib.idxOfS_nonneg_iff vars s).2 (h s hs)
 omega
theorem err_zero {n:Nat} {q:Qy n} (h:errOf q=0):rightQ q=true/\q.vars.Nodup/\(keysN q.ord).Nodup/\(∀s∈q.vars,s∈varsN q.pats)/\(∀s∈keysN q.ord,s∈varsN q.pats)/\(∀s∈usedN n q.fils,s∈varsN q.pats):=by
 unfold errOf at h
 obtain⟨h1,h2,h3,h4⟩:=errQ_zero.1 h
 exact⟨h1,h2,h3,λs hs=>h4 s (by simp[hs]),λs hs=>h4 s (by simp[hs]),λs hs=>h4 s (by simp[hs])⟩
theorem numB_nonneg {x:Int} (h:numB x=true):0<=x:=by
 unfold numB at h
 simp at h;omega
theorem right_fit {n:Nat} {q:Qy n} (h:rightQ q=true):q.pats.length<=6/\q.fils.length<=6/\q.vars.length<=12/\q.ord.length<=4/\0<=q.off /\ -1<=q.lim:=by
 unfold rightQ fitQ numsQ at h
 simp only[Bool.and_eq_true,decide_eq_true_eq,Bool.or_eq_true]at h
 obtain⟨⟨⟨⟨h1,h2,h3,h4⟩,h5,h6⟩,_⟩,_⟩:=h
 refine⟨h1,h2,h3,h4,numB_nonneg h5,?_⟩
 rcases h6 with h6|h6
 ·omega
 ·have:=numB_nonneg h6;omega
def meanAns {n:Nat} (set:List Tp) (q:Qy n):Bool × List (List Tm):=
 if errOf q≠0 then (false,[])
 else if q.ask then ((solP set q.pats).any λr => !failsI (varsN q.pats) r n q.fils,[])
 else (decide (0<(cutL q.off q.lim (ans4 (varsN q.pats) q.vars n q.fils q.ord q.dist (solP set q.pats))).length),cutL q.off q.lim (ans4 (varsN q.pats) q.vars n q.fils q.ord q.dist (solP set q.pats)))
def MeanR {n:Nat} (set:List Tp) (q:Qy n) (w:World) (e:Ending) (w':World):Prop:=
 ∃A c,e=.returned (.tuple #[.agg #[.bool (meanAns set q).1,.slice A (meanAns set q).2.length c],.int .i64 (errOf q)])/\(meanAns set q).2.length<=c/\RdRs w' A (meanAns set q).2/\Below w.heap.size w w'
theorem RdRs.box {w w':World} {ab:Nat} {b:Bool} {T:TypeId} {A:Option Addr} {L:List (List Tm)} (h:RdRs w A L) (hA:∀a,A=some a->a.block≠ab) (hd:w.heap[ab]?=some (.cells #[.bool b,.slice none 0 0] T (0,0))) (hk:∀k,k≠ab->w'.heap[k]?=w.heap[k]?):RdRs w' A L:=by
 obtain⟨xs,hr,hall⟩:=h
 refine⟨xs,?_,hall.mono ?_⟩
 ·rcases hr with hr|⟨g,o,hg,hx⟩
  ·exact .inl hr
  ·exact .inr ⟨g,o,hg,λj u hu=>by rw[World.cell?,hk g (hA _ hg)];exact hx j u hu⟩
 ·rintro cs row _ ⟨A',c,rfl,hc,hrow⟩
  refine⟨A',c,rfl,hc,.of ?_⟩
  rcases hrow.flat with hr|⟨g,o,hg,hx⟩
  ·exact .inl hr
  ·refine .inr ⟨g,o,hg,λj u hu=>?_⟩
   have hc2:=hx j u hu
   have hne:g≠ab:=λe=>by
    subst e
    rw[World.cell?,hd]at hc2
    have hm:=List.mem_of_getElem? hu
    obtain⟨t,_,ht⟩:=List.mem_flatMap.1 hm
    have:u=.bool b∨u=.slice none 0 0:=by
     simp only at hc2
     have hj:(#[Value.bool b,.slice none 0 0]:Array Value)[o+j]?=some u:=by simpa using hc2
     match hoj:o+j,hj with
     | 0,hj=>left;simpa using hj.symm
     | 1,hj=>right;simpa using hj.symm
     | k+2,hj=>simp at hj
    simp only[tmC,List.mem_cons,List.not_mem_nil,or_false]at ht
    rcases this with rfl|rfl<;>simp at ht
   rw[World.cell?,hk g hne];exact hc2
theorem meanQuery1 {n:Nat} (fils:List (ExT n)) (vars:List ByteArray) (row:List Tm) (A Av Af:Option Addr) (c cv cf qb vb:Nat) (w:World) (hvl:vars.length<=1000000) (hrl:row.length<=1000000) (hfl:fils.length<=1000000) (hzr:∀u∈row,u.x.size<=281474976710656) (hzf:∀x∈fils,szE n x)
  (h0:w.cell? ⟨qb,4,none⟩=some (.slice Af fils.length cf)) (h1:w.cell? ⟨vb,0,none⟩=some (.slice Av vars.length cv)) (hv:Rd w Av (vars.map Value.string)) (hr:RdTs w A row) (hf:RdEs n w Af fils) :
  Calls Tryz.prog 33 #[.slice A row.length c,.pointer (some ⟨qb,0,none⟩),.pointer (some ⟨vb,0,none⟩)] w λe w'=>e=.returned (.bool (!failsI vars row n fils))/\Below w.heap.size w w':=by
 have hcall:=filKeeps vars row (by omega) (by omega) hzr n fils Af Av A cf cv c w hv hr hf (by omega) hzf
 generalize (!failsI vars row n fils)=b at *
 clear hzr hzf hv hr hf
 go_enter Tryz.func33,Tryz.ntmps33
 go_wp2_with (go_at_call 16;refine hcall.mono ?_;rintro e w1 ⟨rfl,hb1⟩;have HF:=Lib.hid hb1;clear hb1 hcall)
 go_ret
 exact⟨rfl,HF.out⟩
theorem ansInfo:(Tryz.prog.info? 53).map (·.size)=some 2:=by kernel_rfl
set_option maxRecDepth 100000 in
theorem meanQuery (n:Nat) (q:Qy n) (set:List Tp) (As a1 a2 a3 a4:Option Addr) (cs c1 c2 c3 c4:Nat) (w:World) (hC:CtxT w) (hf:fewQ q) (hz:szQ q) (hls:set.length<=1000) (hzs:∀t∈set,smallP3 t) (hs:Rd w As (set.flatMap tpL))
  (hq:RdQ n w [.bool q.ask,.bool q.dist,.slice a1 q.vars.length c1,.slice a2 q.pats.length c2,.slice a3 q.fils.length c3,.slice a4 q.ord.length c4,.int .i64 q.lim,.int .i64 q.off] q)
  (h1:Rd w a1 (q.vars.map Value.string)) (h2:RdPat w a2 q.pats) (h3:RdEs n w a3 q.fils) (h4:RdKey w a4 q.ord) (hN:prodP set q.pats<=1500) :
  Calls Tryz.prog 15 #[.slice As set.length cs,.agg #[.bool q.ask,.bool q.dist,.slice a1 q.vars.length c1,.slice a2 q.pats.length c2,.slice a3 q.fils.length c3,.slice a4 q.ord.length c4,.int .i64 q.lim,.int .i64 q.off]] w (MeanR set q w):=by
 obtain⟨W,hW⟩:∃W:World,(w.alloc (.cells #[.bool q.ask,.bool q.dist,.slice a1 q.vars.length c1,.slice a2 q.pats.length c2,.slice a3 q.fils.length c3,.slice a4 q.ord.length c4,.int .i64 q.lim,.int .i64 q.off] 50)).alloc (.cells #[.bool false,.slice none 0 0] 53)=W:=⟨_,rfl⟩
 have hB0:Below w.heap.size w W:=by rw[←hW];exact blw
 have k0:W.heap[w.heap.size]?=some (Obj.cells #[.bool q.ask,.bool q.dist,.slice a1 q.vars.length c1,.slice a2 q.pats.length c2,.slice a3 q.fils.length c3,.slice a4 q.ord.length c4,.int .i64 q.lim,.int .i64 q.off] 50 (0,0)):=by rw[←hW];exact heap_two_1 _ _ _
 have k1:W.heap[w.heap.size+1]?=some (Obj.cells #[.bool false,.slice none 0 0] 53 (0,0)):=by rw[←hW];exact heap_two_2 _ _ _
 have hchk:=cQuery n q a1 a2 a3 a4 c1 c2 c3 c4 W (hC.1.step hB0) hf hz (RdQ.later hq hB0) (h1.later hB0) (RdL.mono h2 hB0 λ_ _ _ h=>h) (RdEs.later h3 hB0) (RdL.mono h4 hB0 λ_ _ _ h=>h)
 have H:=Lib.hid (And.intro hC (And.intro hs (And.intro h1 (And.intro h2 (And.intro h3 h4)))))
 have HK:=Lib.hid (And.intro hB0 (And.intro k0 k1))
 have HW:=Lib.hid hW
 clear hC hs hq h1 h2 h3 h4 hB0 k0 k1
 by_cases he:errOf q=0
 ·obtain⟨hr,hnd,hkd,hqv,hqk,hqu⟩:=err_zero he
  obtain⟨f1,f2,f3,f4,f5,f6⟩:=right_fit hr
  have hsol:=λV (hb:Below W.heap.size W V)=>mSolutions set q.pats As a2 cs c2 V (H.out.1.step (below_tr HK.out.1 hb)) hls (by omega) hzs (H.out.2.1.later (below_tr HK.out.1 hb)) (RdL.mono H.out.2.2.2.1 (below_tr HK.out.1 hb) λ_ _ _ h=>h) hN
  have hvl:=varsN_len q.pats
  have hsl:(solP set q.pats).length<=1500:=Nat.le_trans (solP_len set q.pats) hN
  have hzr:∀r∈solP set q.pats,∀t∈r,smallT t:=λr hr t ht=>by
   obtain⟨u,hu,h⟩:=solP_val hr ht
   have:=hzs u hu
   rcases h with rfl|rfl|rfl
   ·exact this.1
   ·exact this.2.1
   ·exact this.2.2
  have hrl:∀r∈solP set q.pats,r.length=(varsN q.pats).length:=λr hr=>solP_row hr
  have hz0:Hid (errOf q=0):=he
  rw[←hW]at hchk
  rw[he]at hchk
  clear hW
  generalize hask:q.ask=b0 at *
  have hA:Hid (meanAns set q=if b0 then ((solP set q.pats).any λr => !failsI (varsN q.pats) r n q.fils,[]) else (decide (0<(cutL q.off q.lim (ans4 (varsN q.pats) q.vars n q.fils q.ord q.dist (solP set q.pats))).length),cutL q.off q.lim (ans4 (varsN q.pats) q.vars n q.fils q.ord q.dist (solP set q.pats)))):=by show _=_;unfold meanAns;rw[if_neg (by rw[he];simp),hask]
  have HAsk:=Lib.hid hask
  clear hask he
  have HX:=Lib.hid (And.intro hzr (And.intro hrl (And.intro hr (And.intro hnd (And.intro hkd (And.intro hqv (And.intro hqk hsl)))))))
  clear hzr hrl hr hnd hkd hqv hqk hqu
  go_enter Tryz.func15,Tryz.ntmps15
  go_wp2_with fail
  refine hchk.mono ?_
  rintro e w2 ⟨rfl,hb2⟩
  rw[HW.out]at hb2
  have hs3:=hsol w2 hb2
  have d2:=KeepT.below hb2 _ _ _ HK.out.2.1
  have q3:w2.cell? ⟨w.heap.size,3,none⟩=some (.slice a2 q.pats.length c2):=by rw[World.cell?,d2];rfl
  have HB2:=Lib.hid hb2
  clear hchk hsol hb2 d2
  go_wp2_with fail
  refine hs3.mono ?_
  rintro e w3 ⟨vv,vr,rfl,ownv,ownr,hb3⟩
  obtain⟨Av,cv,rfl,hcv,hrv⟩:=own_slice ownv
  obtain⟨Ar,cr,rfl,hcr,hrr⟩:=ownr.rd
  obtain⟨W4,hW4⟩:∃V:World,w3.alloc (.cells #[.slice Av (varsN q.pats).length cv] 32)=V:=⟨_,rfl⟩
  have hb4:Below w3.heap.size w3 W4:=by rw[←hW4];exact blw
  have hbW:Below W.heap.size W W4:=below_tr (below_tr HB2.out hb3) hb4
  have hbw:Below w.heap.size w W4:=below_tr HK.out.1 hbW
  have d0:=KeepT.below hbW _ _ _ HK.out.2.1
  have d1:=KeepT.below hbW _ _ _ HK.out.2.2
  have dv:W4.heap[w3.heap.size]?=some (.cells #[.slice Av (varsN q.pats).length cv] 32 (0,0)):=by rw[←hW4];exact heap_alloc_new _ _
  have e0:W4.cell? ⟨w.heap.size,0,none⟩=some (.bool b0):=by rw[World.cell?,d0];rfl
  have HF:=Lib.hid (And.intro (hrv.later hb4) (And.intro (hrr.later hb4) (And.intro hbW (And.intro hbw (And.intro d0 (And.intro d1 (And.intro dv hcr)))))))
  have hlt1:w.heap.size<w3.heap.size:=by
   have h1:=HB2.out.size
   have h2:=hb3.size
   have h3:w.heap.size+1<W.heap.size:=(Array.getElem?_eq_some_iff.1 HK.out.2.2).1
   omega
  clear hs3 q3 hrv hrr ownv ownr hb3 hb4 hbW hbw d0 d1 dv hcr hcv
  have e1:W4.cell? ⟨w.heap.size,1,none⟩=some (.bool q.dist):=by rw[World.cell?,HF.out.2.2.2.2.1];rfl
  have e2:W4.cell? ⟨w.heap.size,2,none⟩=some (.slice a1 q.vars.length c1):=by rw[World.cell?,HF.out.2.2.2.2.1];rfl
  have e3:W4.cell? ⟨w.heap.size,3,none⟩=some (.slice a2 q.pats.length c2):=by rw[World.cell?,HF.out.2.2.2.2.1];rfl
  have e4:W4.cell? ⟨w.heap.size,4,none⟩=some (.slice a3 q.fils.length c3):=by rw[World.cell?,HF.out.2.2.2.2.1];rfl
  have e5:W4.cell? ⟨w.heap.size,5,none⟩=some (.slice a4 q.ord.length c4):=by rw[World.cell?,HF.out.2.2.2.2.1];rfl
  have e6:W4.cell? ⟨w.heap.size,6,none⟩=some (.int .i64 q.lim):=by rw[World.cell?,HF.out.2.2.2.2.1];rfl
  have e7:W4.cell? ⟨w.heap.size,7,none⟩=some (.int .i64 q.off):=by rw[World.cell?,HF.out.2.2.2.2.1];rfl
  have ev:W4.cell? ⟨w3.heap.size,0,none⟩=some (.slice Av (varsN q.pats).length cv):=by rw[World.cell?,HF.out.2.2.2.2.2.2.1];rfl
  obtain⟨gv,gr,gbW,gbw,gd0,gd1,gdv,gcr⟩:=HF.out
  have hbO:=H.out
  have hzs2:∀r∈solP set q.pats,∀u∈r,u.x.size<=281474976710656:=λr hr u hu=>Nat.le_trans (HX.out.1 r hr u hu).1 (by decide)
  cases b0 with
  | true =>
   have eg:∀args w,(callFunc 33 args).run Tryz.prog w=.ok (.enter 33 args) w:=enters_of Tryz.func33 (by kernel_rfl) rfl
   have hC:=hasRowsB 33 #[.pointer (some ⟨w.heap.size,0,none⟩),.pointer (some ⟨w3.heap.size,0,none⟩)] eg (λr => !failsI (varsN q.pats) r n q.fils) (solP set q.pats) _ Ar cr W4 rfl (by omega) gr (λrow A' c' V hb hrow hcc hrr=>meanQuery1 q.fils (varsN q.pats) row A' Av a3 c' cv c3 w.heap.size w3.heap.size V (by omega) (by rw[HX.out.2.1 row hrow];omega) (by omega) (hzs2 row hrow) hf.2.2.2.2.1 (cell_on e4 hb) (cell_on ev hb) (gv.later hb) hrr (RdEs.later hbO.2.2.2.2.1 (below_tr gbw hb)))
   generalize ((solP set q.pats).any λr => !failsI (varsN q.pats) r n q.fils)=res at *
   have HA2:Hid (∀w',Below w.heap.size w w'->MeanR set q w (.returned (.tuple #[.agg #[.bool res,.slice none 0 0],.int .i64 0])) w'):=λw' hb=>by
    unfold MeanR
    rw[hA.out,hz0.out]
    exact⟨none,0,rfl,Nat.le_refl _,RdL.nil _ _ _ _,hb⟩
   clear gv gr gbW gbw gd0 gd1 gdv gcr hbO hzs2 e1 e2 e3 e4 e5 e6 e7 ev hA
   go_wp2_with fail
   refine hC.mono ?_
   rintro e w5 ⟨rfl,hb5⟩
   have d5:=KeepT.below hb5 _ _ _ HF.out.2.2.2.2.2.1
   have g0:w5.cell? ⟨w.heap.size+1,0,none⟩=some (.bool false):=by rw[World.cell?,d5];rfl
   have g1:w5.cell? ⟨w.heap.size+1,1,none⟩=some (.slice none 0 0):=by rw[World.cell?,d5];rfl
   have g2:w5.frozen? ⟨w.heap.size+1,0,none⟩=false:=by simp[World.frozen?,d5]
   have g3:w5.frozen? ⟨w.heap.size+1,1,none⟩=false:=by simp[World.frozen?,d5]
   have d6:(w5.setCell ⟨w.heap.size+1,0,none⟩ (.bool res)).heap[w.heap.size+1]?=some (.cells #[.bool res,.slice none 0 0] 53 (0,0)):=heap_setCell_at d5 0 _
   have HB6:Hid (Below w.heap.size w (w5.setCell ⟨w.heap.size+1,0,none⟩ (.bool res))):=(below_tr HF.out.2.2.2.1 hb5).setCell (p:=⟨w.heap.size+1,0,none⟩) (by simp) _
   have HD:=Lib.hid d6
   clear hC hb5 d5 d6 e0
   go_wp2_with (refine wpList_store_row rfl 53 _ _ rfl rfl rfl ansInfo HD.out rfl rfl ?_)
   exact bodyPost_ret (results_row_tmp rfl _ _ _ _ _ _ _ (.int .i64 0) rfl (setRow_heap _ _ _ #[.bool res,.slice none 0 0] _ (0,0) HD.out) Tryz.underlying53 rfl ansInfo rfl) rfl (HA2.out _ (below_setRow HB6.out (by omega) _))
  | false =>
   have hM:=meanRows q (varsN q.pats) (solP set q.pats) a1 a2 a3 a4 c1 c2 c3 c4 Av Ar cv cr W4 (hbO.1.step gbw) (right_of (varsN_nodup _) HX.out.2.1) (sort_no HX.out.2.2.2.2.2.2.1) (proj_no HX.out.2.2.2.1 HX.out.2.2.2.2.2.1) f5 f6 ⟨by omega,by omega,λr hr=>⟨by rw[HX.out.2.1 r hr];omega,HX.out.1 r hr⟩⟩ (by omega) (by omega) (by omega) hf.2.2.2.2.1 (hbO.2.2.1.later gbw) (RdEs.later hbO.2.2.2.2.1 gbw) (RdL.mono hbO.2.2.2.2.2 gbw λ_ _ _ h=>h) gv gr
   rw[HAsk.out]at hM
   have hAf:meanAns set q=(decide (0<(cutL q.off q.lim (ans4 (varsN q.pats) q.vars n q.fils q.ord q.dist (solP set q.pats))).length),cutL q.off q.lim (ans4 (varsN q.pats) q.vars n q.fils q.ord q.dist (solP set q.pats))):=hA.out
   generalize cutL q.off q.lim (ans4 (varsN q.pats) q.vars n q.fils q.ord q.dist (solP set q.pats))=L at *
   have HA2:Hid (∀A c w',L.length<=c->RdRs w' A L->Below w.heap.size w w'->MeanR set q w (.returned (.tuple #[.agg #[.bool (decide (0<L.length)),.slice A L.length c],.int .i64 0])) w'):=λA c w' hc hr hb=>by
    unfold MeanR
    rw[hAf,hz0.out]
    exact⟨A,c,rfl,hc,hr,hb⟩
   have hab:W4.heap.size<=W4.heap.size:=Nat.le_refl _
   have hlt2:w.heap.size+1<W4.heap.size:=(Array.getElem?_eq_some_iff.1 gd1).1
   clear gv gr gbW gbw gd0 gd1 gdv gcr hbO hzs2 hA hAf
   go_wp2_with fail
   refine hM.mono ?_
   rintro e w5 ⟨A5,c5,rfl,hc5,hr5,hb5,hfr5⟩
   have d5:=KeepT.below hb5 _ _ _ HF.out.2.2.2.2.2.1
   have g0:w5.cell? ⟨w.heap.size+1,0,none⟩=some (.bool false):=by rw[World.cell?,d5];rfl
   have g1:w5.cell? ⟨w.heap.size+1,1,none⟩=some (.slice none 0 0):=by rw[World.cell?,d5];rfl
   have g2:w5.frozen? ⟨w.heap.size+1,0,none⟩=false:=by simp[World.frozen?,d5]
   have g3:w5.frozen? ⟨w.heap.size+1,1,none⟩=false:=by simp[World.frozen?,d5]
   have H5:=Lib.hid (And.intro d5 (And.intro hc5 (And.intro hr5 (And.intro hb5 hfr5))))
   clear hM hb5 d5 hc5 hr5 hfr5 e0 e1 e2 e3 e4 e5 e6 e7 ev
   go_wp2_with fail
   obtain⟨d5,hc5,hr5,hb5,hfr5⟩:=H5.out
   generalize decide (0<L.length)=bq at *
   have d6:(w5.setCell ⟨w.heap.size+1,1,none⟩ (.slice A5 L.length c5)).heap[w.heap.size+1]?=some (.cells #[.bool false,.slice A5 L.length c5] 53 (0,0)):=heap_setCell_at d5 1 _
   have d7:((w5.setCell ⟨w.heap.size+1,1,none⟩ (.slice A5 L.length c5)).setCell ⟨w.heap.size+1,0,none⟩ (.bool bq)).heap[w.heap.size+1]?=some (.cells #[.bool bq,.slice A5 L.length c5] 53 (0,0)):=heap_setCell_at d6 0 _
   have d8:(((w5.setCell ⟨w.heap.size+1,1,none⟩ (.slice A5 L.length c5)).setCell ⟨w.heap.size+1,0,none⟩ (.bool bq)).setCell ⟨w.heap.size+1,0,none⟩ (.bool bq)).heap[w.heap.size+1]?=some (.cells #[.bool bq,.slice A5 L.length c5] 53 (0,0)):=heap_setCell_at d7 0 _
   have d9:((((w5.setCell ⟨w.heap.size+1,1,none⟩ (.slice A5 L.length c5)).setCell ⟨w.heap.size+1,0,none⟩ (.bool bq)).setCell ⟨w.heap.size+1,0,none⟩ (.bool bq)).setCell ⟨w.heap.size+1,1,none⟩ (.slice A5 L.length c5)).heap[w.heap.size+1]?=some (.cells #[.bool bq,.slice A5 L.length c5] 53 (0,0)):=heap_setCell_at d8 1 _
   have hfin:=HA2.out A5 c5 ((((w5.setCell ⟨w.heap.size+1,1,none⟩ (.slice A5 L.length c5)).setCell ⟨w.heap.size+1,0,none⟩ (.bool bq)).setCell ⟨w.heap.size+1,0,none⟩ (.bool bq)).setCell ⟨w.heap.size+1,1,none⟩ (.slice A5 L.length c5)) hc5 (hr5.box (ab:=w.heap.size+1) (λa ha e=>by have:=hfr5 a ha;omega) d5 (λk hk=>by rw[Below.heap_setCell _ _ _ k hk,Below.heap_setCell _ _ _ k hk,Below.heap_setCell _ _ _ k hk,Below.heap_setCell _ _ _ k hk])) (((((below_tr HF.out.2.2.2.1 hb5).setCell (p:=⟨w.heap.size+1,1,none⟩) (by simp) _).setCell (p:=⟨w.heap.size+1,0,none⟩) (by simp) _).setCell (p:=⟨w.heap.size+1,0,none⟩) (by simp) _).setCell (p:=⟨w.heap.size+1,1,none⟩) (by simp) _)
   clear d5 d6 d7 d8 hr5 hb5 hfr5
   generalize (((w5.setCell ⟨w.heap.size+1,1,none⟩ (.slice A5 L.length c5)).setCell ⟨w.heap.size+1,0,none⟩ (.bool bq)).setCell ⟨w.heap.size+1,0,none⟩ (.bool bq)).setCell ⟨w.heap.size+1,1,none⟩ (.slice A5 L.length c5)=w9 at *
   exact bodyPost_ret (results_row_tmp rfl _ _ _ _ _ _ _ (.int .i64 0) rfl d9 Tryz.underlying53 rfl ansInfo rfl) rfl hfin
 ·have hne:(errOf q != 0)=true:=by rw[bne_iff_ne];exact he
  have hA:Hid (meanAns set q=(false,[])):=by show _=_;unfold meanAns;rw[if_pos he]
  have hR:Hid (∀w',Below w.heap.size w w'->MeanR set q w (.returned (.tuple #[.agg #[.bool false,.slice none 0 0],.int .i64 (errOf q)])) w'):=λw' hb=>by
   unfold MeanR
   rw[hA.out]
   exact⟨none,0,rfl,Nat.le_refl _,RdL.nil _ _ _ _,hb⟩
  rw[←hW]at hchk
  generalize errOf q=z at *
  clear he hW hA
  go_enter Tryz.func15,Tryz.ntmps15
  go_wp2_with (first
   | (go_at_call 31;refine hchk.mono ?_;rintro e w2 ⟨rfl,hb2⟩;rw[HW.out]at hb2;have d1:=KeepT.below hb2 _ _ _ HK.out.2.2;have e0:w2.cell? ⟨w.heap.size+1,0,none⟩=some (.bool false):=(by rw[World.cell?,d1];rfl);have e1:w2.cell? ⟨w.heap.size+1,1,none⟩=some (.slice none 0 0):=(by rw[World.cell?,d1];rfl);have HD:=Lib.hid d1;have HB:=Lib.hid hb2;clear d1 hb2 hchk)
   | (refine wpList_store_row rfl 53 _ _ rfl rfl rfl ansInfo HD.out rfl rfl ?_)
   | fail)
  exact bodyPost_ret (results_row_tmp rfl _ _ _ _ _ _ _ (.int .i64 z) rfl (setRow_heap w2 _ _ #[.bool false,.slice none 0 0] _ (0,0) HD.out) Tryz.underlying53 rfl ansInfo rfl) rfl (hR.out _ (below_setRow (below_tr HK.out.1 HB.out) (by omega) _))
end Go.Proofs.YtoaemihcbmlkgaaGreatDoor
