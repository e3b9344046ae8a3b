/- The program's package mean, walked: Query. Layer 26's law, w -/
import Derived.Test.YtoaemihcbmlkgaaGreatDoorJMean5
set_option maxHeartbeats 8000000
set_option maxRecDepth 100000
namespace Go.Proofs.YtoaemihcbmlkgaaGreatDoor
open Go Go.RowKit Um Fm Lx Mt Tx Om Mp Mv Mn
theorem sort_no {vars:List ByteArray} {keys:List Ky} (h:∀s∈keysN keys,s∈vars):sortN vars keys=0:=by
 unfold sortN
 rw[if_neg]
 rw[List.contains_iff_mem]
 intro hm
 unfold placesL at hm
 obtain⟨s,hs,he⟩:=List.mem_map.1 hm
 have:=(Lib.idxOfS_nonneg_iff vars s).2 (h s hs)
 omega
theorem proj_no {vars names:List ByteArray} (hn:names.Nodup) (h:∀s∈names,s∈vars):projN vars names=0:=by
 unfold projN
 rw[if_neg (by simp[hn]),if_neg]
 rw[List.contains_iff_mem]
 intro hm
 unfold placesL at hm
 obtain⟨s,hs,he⟩:=List.mem_map.1 hm
 have:=(Lib.idxOfS_nonneg_iff vars s).2 (h s hs)
 omega
theorem err_zero {n:Nat} {q:Qy n} (h:errOf q=0):rightQ q=true/\q.vars.Nodup/\(keysN q.ord).Nodup/\(∀s∈q.vars,s∈varsN q.pats)/\(∀s∈keysN q.ord,s∈varsN q.pats)/\(∀s∈usedN n q.fils,s∈varsN q.pats):=by
 unfold errOf at h
 obtain⟨h1,h2,h3,h4⟩:=errQ_zero.1 h
 exact⟨h1,h2,h3,λs hs=>h4 s (by simp[hs]),λs hs=>h4 s (by simp[hs]),λs hs=>h4 s (by simp[hs])⟩
theorem numB_nonneg {x:Int} (h:numB x=true):0<=x:=by
 unfold numB at h
 simp at h;omega
theorem right_fit {n:Nat} {q:Qy n} (h:rightQ q=true):q.pats.length<=6/\q.fils.length<=6/\q.vars.length<=12/\q.ord.length<=4/\0<=q.off /\ -1<=q.lim:=by
 unfold rightQ fitQ numsQ at h
 simp only[Bool.and_eq_true,decide_eq_true_eq,Bool.or_eq_true]at h
 obtain⟨⟨⟨⟨h1,h2,h3,h4⟩,h5,h6⟩,_⟩,_⟩:=h
 refine⟨h1,h2,h3,h4,numB_nonneg h5,?_⟩
 rcases h6 with h6|h6
 ·omega
 ·have:=numB_nonneg h6;omega
def meanAns {n:Nat} (set:List Tp) (q:Qy n):Bool × List (List Tm):=
 if errOf q≠0 then (false,[])
 else if q.ask then ((solP set q.pats).any λr => !failsI (varsN q.pats) r n q.fils,[])
 else (decide (0<(cutL q.off q.lim (ans4 (varsN q.pats) q.vars n q.fils q.ord q.dist (solP set q.pats))).length),cutL q.off q.lim (ans4 (varsN q.pats) q.vars n q.fils q.ord q.dist (solP set q.pats)))
def MeanR {n:Nat} (set:List Tp) (q:Qy n) (w:World) (e:Ending) (w':World):Prop:=
 ∃A c,e=.returned (.tuple #[.agg #[.bool (meanAns set q).1,.slice A (meanAns set q).2.length c],.int .i64 (errOf q)])/\(meanAns set q).2.length<=c/\RdRs w' A (meanAns set q).2/\Below w.heap.size w w'
theorem RdRs.box {w w':World} {ab:Nat} {b:Bool} {T:TypeId} {A:Option Addr} {L:List (List Tm)} (h:RdRs w A L) (hA:∀a,A=some a->a.block≠ab) (hd:w.heap[ab]?=some (.cells #[.bool b,.slice none 0 0] T (0,0))) (hk:∀k,k≠ab->w'.heap[k]?=w.heap[k]?):RdRs w' A L:=by
 obtain⟨xs,hr,hall⟩:=h
 refine⟨xs,?_,hall.mono ?_⟩
 ·rcases hr with hr|⟨g,o,hg,hx⟩
  ·exact .inl hr
  ·exact .inr ⟨g,o,hg,λj u hu=>by rw[World.cell?,hk g (hA _ hg)];exact hx j u hu⟩
 ·rintro cs row _ ⟨A',c,rfl,hc,hrow⟩
  refine⟨A',c,rfl,hc,.of ?_⟩
  rcases hrow.flat with hr|⟨g,o,hg,hx⟩
  ·exact .inl hr
  ·refine .inr ⟨g,o,hg,λj u hu=>?_⟩
   have hc2:=hx j u hu
   have hne:g≠ab:=λe=>by
    subst e
    rw[World.cell?,hd]at hc2
    have hm:=List.mem_of_getElem? hu
    obtain⟨t,_,ht⟩:=List.mem_flatMap.1 hm
    have:u=.bool b∨u=.slice none 0 0:=by
     simp only at hc2
     have hj:(#[Value.bool b,.slice none 0 0]:Array Value)[o+j]?=some u:=by simpa using hc2
     match hoj:o+j,hj with
     | 0,hj=>left;simpa using hj.symm
     | 1,hj=>right;simpa using hj.symm
     | k+2,hj=>simp at hj
    simp only[tmC,List.mem_cons,List.not_mem_nil,or_false]at ht
    rcases this with rfl|rfl<;>simp at ht
   rw[World.cell?,hk g hne];exact hc2
theorem meanQuery1 {n:Nat} (fils:List (ExT n)) (vars:List ByteArray) (row:List Tm) (A Av Af:Option Addr) (c cv cf qb vb:Nat) (w:World) (hvl:vars.length<=1000000) (hrl:row.length<=1000000) (hfl:fils.length<=1000000) (hzr:∀u∈row,u.x.size<=281474976710656) (hzf:∀x∈fils,szE n x)
  (h0:w.cell? ⟨qb,4,none⟩=some (.slice Af fils.length cf)) (h1:w.cell? ⟨vb,0,none⟩=some (.slice Av vars.length cv)) (hv:Rd w Av (vars.map Value.string)) (hr:RdTs w A row) (hf:RdEs n w Af fils) :
  Calls Tryz.prog 33 #[.slice A row.length c,.pointer (some ⟨qb,0,none⟩),.pointer (some ⟨vb,0,none⟩)] w λe w'=>e=.returned (.bool (!failsI vars row n fils))/\Below w.heap.size w w':=by
 have hcall:=filKeeps vars row (by omega) (by omega) hzr n fils Af Av A cf cv c w hv hr hf (by omega) hzf
 generalize (!failsI vars row n fils)=b at *
 clear hzr hzf hv hr hf
 go_enter Tryz.func33,Tryz.ntmps33
 go_wp2_with (go_at_call 16;refine hcall.mono ?_;rintro e w1 ⟨rfl,hb1⟩;have HF:=Lib.hid hb1;clear hb1 hcall)
 go_ret
 exact⟨rfl,HF.out⟩
theorem ansInfo:(Tryz.prog.info? 53).map (·.size)=some 2:=by kernel_rfl
theorem meanQuery (n:Nat) (q:Qy n) (set:List Tp) (As a1 a2 a3 a4:Option Addr) (cs c1 c2 c3 c4:Nat) (w:World) (hC:CtxT w) (hf:fewQ q) (hz:szQ q) (hls:set.length<=1000) (hzs:∀t∈set,smallP3 t) (hs:Rd w As (set.flatMap tpL))
  (hq:RdQ n w [.bool q.ask,.bool q.dist,.slice a1 q.vars.length c1,.slice a2 q.pats.length c2,.slice a3 q.fils.length c3,.slice a4 q.ord.length c4,.int .i64 q.lim,.int .i64 q.off] q)
  (h1:Rd w a1 (q.vars.map Value.string)) (h2:RdPat w a2 q.pats) (h3:RdEs n w a3 q.fils) (h4:RdKey w a4 q.ord) (hN:prodP set q.pats<=1500) :
  Calls Tryz.prog 15 #[.slice As set.length cs,.agg #[.bool q.ask,.bool q.dist,.slice a1 q.vars.length c1,.slice a2 q.pats.length c2,.slice a3 q.fils.length c3,.slice a4 q.ord.length c4,.int .i64 q.lim,.int .i64 q.off]] w (MeanR set q w):=by
 obtain⟨W,hW⟩:∃W:World,(w.alloc (.cells #[.bool q.ask,.bool q.dist,.slice a1 q.vars.length c1,.slice a2 q.pats.length c2,.slice a3 q.fils.length c3,.slice a4 q.ord.length c4,.int .i64 q.lim,.int .i64 q.off] 50)).alloc (.cells #[.bool false,.slice none 0 0] 53)=W:=⟨_,rfl⟩
 have hB0:Below w.heap.size w W:=by rw[←hW];exact blw
 have k0:W.heap[w.heap.size]?=some (Obj.cells #[.bool q.ask,.bool q.dist,.slice a1 q.vars.length c1,.slice a2 q.pats.length c2,.slice a3 q.fils.length c3,.slice a4 q.ord.length c4,.int .i64 q.lim,.int .i64 q.off] 50 (0,0)):=by rw[←hW];exact heap_two_1 _ _ _
 have k1:W.heap[w.heap.size+1]?=some (Obj.cells #[.bool false,.slice none 0 0] 53 (0,0)):=by rw[←hW];exact heap_two_2 _ _ _
 have hchk:=cQuery n q a1 a2 a3 a4 c1 c2 c3 c4 W (hC.1.step hB0) hf hz (RdQ.later hq hB0) (h1.later hB0) (RdL.mono h2 hB0 λ_ _ _ h=>h) (RdEs.later h3 hB0) (RdL.mono h4 hB0 λ_ _ _ h=>h)
 have H:=Lib.hid (And.intro hC (And.intro hs (And.intro h1 (And.intro h2 (And.intro h3 h4)))))
 have HK:=Lib.hid (And.intro hB0 (And.intro k0 k1))
 have HW:=Lib.hid hW
 clear hC hs hq h1 h2 h3 h4 hB0 k0 k1
 by_cases he:errOf q=0
 ·obtain⟨hr,hnd,hkd,hqv,hqk,hqu⟩:=err_zero he
  obtain⟨f1,f2,f3,f4,f5,f6⟩:=right_fit hr
  have hsol:=λV (hb:Below W.heap.size W V)=>mSolutions set q.pats As a2 cs c2 V (H.out.1.step (below_tr HK.out.1 hb)) hls (by omega) hzs (H.out.2.1.later (below_tr HK.out.1 hb)) (RdL.mono H.out.2.2.2.1 (below_tr HK.out.1 hb) λ_ _ _ h=>h) hN
  have hvl:=varsN_len q.pats
  have hsl:(solP set q.pats).length<=1500:=Nat.le_trans (solP_len set q.pats) hN
  have hzr:∀r∈solP set q.pats,∀t∈r,smallT t:=λr hr t ht=>by
   obtain⟨u,hu,h⟩:=solP_val hr ht
   have:=hzs u hu
   rcases h with rfl|rfl|rfl
   ·exact this.1
   ·exact this.2.1
   ·exact this.2.2
  have hrl:∀r∈solP set q.pats,r.length=(varsN q.pats).length:=λr hr=>solP_row hr
  have hz0:Hid (errOf q=0):=he
  rw[←hW]at hchk
  rw[he]at hchk
  clear hW
  generalize hask:q.ask=b0 at *
  have hA:Hid (meanAns set q=if b0 then ((solP set q.pats).any λr => !failsI (varsN q.pats) r n q.fils,[]) else (decide (0<(cutL q.off q.lim (ans4 (varsN q.pats) q.vars n q.fils q.ord q.dist (solP set q.pats))).length),cutL q.off q.lim (ans4 (varsN q.pats) q.vars n q.fils q.ord q.dist (solP set q.pats)))):=by show _=_;unfold meanAns;rw[if_neg (by rw[he];simp),hask]
  have HAsk:=Lib.hid hask
  clear hask he
  have HX:=Lib.hid (And.intro hzr (And.intro hrl (And.intro hr (And.intro hnd (And.intro hkd (And.intro hqv (And.intro hqk hsl)))))))
  clear hzr hrl hr hnd hkd hqv hqk hqu
  go_enter Tryz.func15,Tryz.ntmps15
  go_wp2_with fail
  refine hchk.mono ?_
  rintro e w2 ⟨rfl,hb2⟩
  rw[HW.out]at hb2
  have hs3:=hsol w2 hb2
  have d2:=KeepT.below hb2 _ _ _ HK.out.2.1
  have q3:w2.cell? ⟨w.heap.size,3,none⟩=some (.slice a2 q.pats.length c2):=by rw[World.cell?,d2];rfl
  have HB2:=Lib.hid hb2
  clear hchk hsol hb2 d2
  go_wp2_with fail
  refine hs3.mono ?_
  rintro e w3 ⟨vv,vr,rfl,ownv,ownr,hb3⟩
  obtain⟨Av,cv,rfl,hcv,hrv⟩:=own_slice ownv
  obtain⟨Ar,cr,rfl,hcr,hrr⟩:=ownr.rd
  obtain⟨W4,hW4⟩:∃V:World,w3.alloc (.cells #[.slice Av (varsN q.pats).length cv] 32)=V:=⟨_,rfl⟩
  have hb4:Below w3.heap.size w3 W4:=by rw[←hW4];exact blw
  have hbW:Below W.heap.size W W4:=below_tr (below_tr HB2.out hb3) hb4
  have hbw:Below w.heap.size w W4:=below_tr HK.out.1 hbW
  have d0:=KeepT.below hbW _ _ _ HK.out.2.1
  have d1:=KeepT.below hbW _ _ _ HK.out.2.2
  have dv:W4.heap[w3.heap.size]?=some (.cells #[.slice Av (varsN q.pats).length cv] 32 (0,0)):=by rw[←hW4];exact heap_alloc_new _ _
  have e0:W4.cell? ⟨w.heap.size,0,none⟩=some (.bool b0):=by rw[World.cell?,d0];rfl
  have HF:=Lib.hid (And.intro (hrv.later hb4) (And.intro (hrr.later hb4) (And.intro hbW (And.intro hbw (And.intro d0 (And.intro d1 (And.intro dv hcr)))))))
  have hlt1:w.heap.size<w3.heap.size:=by
   have h1:=HB2.out.size
   have h2:=hb3.size
   have h3:w.heap.size+1<W.heap.size:=(Array.getElem?_eq_some_iff.1 HK.out.2.2).1
   omega
  clear hs3 q3 hrv hrr ownv ownr hb3 hb4 hbW hbw d0 d1 dv hcr hcv
  have e1:W4.cell? ⟨w.heap.size,1,none⟩=some (.bool q.dist):=by rw[World.cell?,HF.out.2.2.2.2.1];rfl
  have e2:W4.cell? ⟨w.heap.size,2,none⟩=some (.slice a1 q.vars.length c1):=by rw[World.cell?,HF.out.2.2.2.2.1];rfl
  have e3:W4.cell? ⟨w.heap.size,3,none⟩=some (.slice a2 q.pats.length c2):=by rw[World.cell?,HF.out.2.2.2.2.1];rfl
  have e4:W4.cell? ⟨w.heap.size,4,none⟩=some (.slice a3 q.fils.length c3):=by rw[World.cell?,HF.out.2.2.2.2.1];rfl
  have e5:W4.cell? ⟨w.heap.size,5,none⟩=some (.slice a4 q.ord.length c4):=by rw[World.cell?,HF.out.2.2.2.2.1];rfl
  have e6:W4.cell? ⟨w.heap.size,6,none⟩=some (.int .i64 q.lim):=by rw[World.cell?,HF.out.2.2.2.2.1];rfl
  have e7:W4.cell? ⟨w.heap.size,7,none⟩=some (.int .i64 q.off):=by rw[World.cell?,HF.out.2.2.2.2.1];rfl
  have ev:W4.cell? ⟨w3.heap.size,0,none⟩=some (.slice Av (varsN q.pats).length cv):=by rw[World.cell?,HF.out.2.2.2.2.2.2.1];rfl
  obtain⟨gv,gr,gbW,gbw,gd0,gd1,gdv,gcr⟩:=HF.out
  have hbO:=H.out
  have hzs2:∀r∈solP set q.pats,∀u∈r,u.x.size<=281474976710656:=λr hr u hu=>Nat.le_trans (HX.out.1 r hr u hu).1 (by decide)
  cases b0 with
  | true =>
   have eg:∀args w,(callFunc 33 args).run Tryz.prog w=.ok (.enter 33 args) w:=enters_of Tryz.func33 (by kernel_rfl) rfl
   have hC:=hasRowsB 33 #[.pointer (some ⟨w.heap.size,0,none⟩),.pointer (some ⟨w3.heap.size,0,none⟩)] eg (λr => !failsI (varsN q.pats) r n q.fils) (solP set q.pats) _ Ar cr W4 rfl (by omega) gr (λrow A' c' V hb hrow hcc hrr=>meanQuery1 q.fils (varsN q.pats) row A' Av a3 c' cv c3 w.heap.size w3.heap.size V (by omega) (by rw[HX.out.2.1 row hrow];omega) (by omega) (hzs2 row hrow) hf.2.2.2.2.1 (cell_on e4 hb) (cell_on ev hb) (gv.later hb) hrr (RdEs.later hbO.2.2.2.2.1 (below_tr gbw hb)))
   generalize ((solP set q.pats).any λr => !failsI (varsN q.pats) r n q.fils)=res at *
   have HA2:Hid (∀w',Below w.heap.size w w'->MeanR set q w (.returned (.tuple #[.agg #[.bool res,.slice none 0 0],.int .i64 0])) w'):=λw' hb=>by
    unfold MeanR
    rw[hA.out,hz0.out]
    exact⟨none,0,rfl,Nat.le_refl _,RdL.nil _ _ _ _,hb⟩
   clear gv gr gbW gbw gd0 gd1 gdv gcr hbO hzs2 e1 e2 e3 e4 e5 e6 e7 ev hA
   go_wp2_with fail
   refine hC.mono ?_
   rintro e w5 ⟨rfl,hb5⟩
   have d5:=KeepT.below hb5 _ _ _ HF.out.2.2.2.2.2.1
   have g0:w5.cell? ⟨w.heap.size+1,0,none⟩=some (.bool false):=by rw[World.cell?,d5];rfl
   have g1:w5.cell? ⟨w.heap.size+1,1,none⟩=some (.slice none 0 0):=by rw[World.cell?,d5];rfl
   have g2:w5.frozen? ⟨w.heap.size+1,0,none⟩=false:=by simp[World.frozen?,d5]
   have g3:w5.frozen? ⟨w.heap.size+1,1,none⟩=false:=by simp[World.frozen?,d5]
   have d6:(w5.setCell ⟨w.heap.size+1,0,none⟩ (.bool res)).heap[w.heap.size+1]?=some (.cells #[.bool res,.slice none 0 0] 53 (0,0)):=heap_setCell_at d5 0 _
   have HB6:Hid (Below w.heap.size w (w5.setCell ⟨w.heap.size+1,0,none⟩ (.bool res))):=(below_tr HF.out.2.2.2.1 hb5).setCell (p:=⟨w.heap.size+1,0,none⟩) (by simp) _
   have HD:=Lib.hid d6
   clear hC hb5 d5 d6 e0
   go_wp2_with (refine wpList_store_row rfl 53 _ _ rfl rfl rfl ansInfo HD.out rfl rfl ?_)
   exact bodyPost_ret (results_row_tmp rfl _ _ _ _ _ _ _ (.int .i64 0) rfl (setRow_heap _ _ _ #[.bool res,.slice none 0 0] _ (0,0) HD.out) Tryz.underlying53 rfl ansInfo rfl) rfl (HA2.out _ (below_setRow HB6.out (by omega) _))
  | false =>
   have hM:=meanRows q (varsN q.pats) (solP set q.pats) a1 a2 a3 a4 c1 c2 c3 c4 Av Ar cv cr W4 (hbO.1.step gbw) (right_of (varsN_nodup _) HX.out.2.1) (sort_no HX.out.2.2.2.2.2.2.1) (proj_no HX.out.2.2.2.1 HX.out.2.2.2.2.2.1) f5 f6 ⟨by omega,by omega,λr hr=>⟨by rw[HX.out.2.1 r hr];omega,HX.out.1 r hr⟩⟩ (by omega) (by omega) (by omega) hf.2.2.2.2.1 (hbO.2.2.1.later gbw) (RdEs.later hbO.2.2.2.2.1 gbw) (RdL.mono hbO.2.2.2.2.2 gbw λ_ _ _ h=>h) gv gr
   rw[HAsk.out]at hM
   have hAf:meanAns set q=(decide (0<(cutL q.off q.lim (ans4 (varsN q.pats) q.vars n q.fils q.ord q.dist (solP set q.pats))).length),cutL q.off q.lim (ans4 (varsN q.pats) q.vars n q.fils q.ord q.dist (solP set q.pats))):=hA.out
   generalize cutL q.off q.lim (ans4 (varsN q.pats) q.vars n q.fils q.ord q.dist (solP set q.pats))=L at *
   have HA2:Hid (∀A c w',L.length<=c->RdRs w' A L->Below w.heap.size w w'->MeanR set q w (.returned (.tuple #[.agg #[.bool (decide (0<L.length)),.slice A L.length c],.int .i64 0])) w'):=λA c w' hc hr hb=>by
    unfold MeanR
    rw[hAf,hz0.out]
    exact⟨A,c,rfl,hc,hr,hb⟩
   have hab:W4.heap.size<=W4.heap.size:=Nat.le_refl _
   have hlt2:w.heap.size+1<W4.heap.size:=(Array.getElem?_eq_some_iff.1 gd1).1
   clear gv gr gbW gbw gd0 gd1 gdv gcr hbO hzs2 hA hAf
   go_wp2_with fail
   refine hM.mono ?_
   rintro e w5 ⟨A5,c5,rfl,hc5,hr5,hb5,hfr5⟩
   have d5:=KeepT.below hb5 _ _ _ HF.out.2.2.2.2.2.1
   have g0:w5.cell? ⟨w.heap.size+1,0,none⟩=some (.bool false):=by rw[World.cell?,d5];rfl
   have g1:w5.cell? ⟨w.heap.size+1,1,none⟩=some (.slice none 0 0):=by rw[World.cell?,d5];rfl
   have g2:w5.frozen? ⟨w.heap.size+1,0,none⟩=false:=by simp[World.frozen?,d5]
   have g3:w5.frozen? ⟨w.heap.size+1,1,none⟩=false:=by simp[World.frozen?,d5]
   have H5:=Lib.hid (And.intro d5 (And.intro hc5 (And.intro hr5 (And.intro hb5 hfr5))))
   clear hM hb5 d5 hc5 hr5 hfr5 e0 e1 e2 e3 e4 e5 e6 e7 ev
   go_wp2_with fail
   obtain⟨d5,hc5,hr5,hb5,hfr5⟩:=H5.out
   generalize decide (0<L.length)=bq at *
   have d6:(w5.setCell ⟨w.heap.size+1,1,none⟩ (.slice A5 L.length c5)).heap[w.heap.size+1]?=some (.cells #[.bool false,.slice A5 L.length c5] 53 (0,0)):=heap_setCell_at d5 1 _
   have d7:((w5.setCell ⟨w.heap.size+1,1,none⟩ (.slice A5 L.length c5)).setCell ⟨w.heap.size+1,0,none⟩ (.bool bq)).heap[w.heap.size+1]?=some (.cells #[.bool bq,.slice A5 L.length c5] 53 (0,0)):=heap_setCell_at d6 0 _
   have d8:(((w5.setCell ⟨w.heap.size+1,1,none⟩ (.slice A5 L.length c5)).setCell ⟨w.heap.size+1,0,none⟩ (.bool bq)).setCell ⟨w.heap.size+1,0,none⟩ (.bool bq)).heap[w.heap.size+1]?=some (.cells #[.bool bq,.slice A5 L.length c5] 53 (0,0)):=heap_setCell_at d7 0 _
   have d9:((((w5.setCell ⟨w.heap.size+1,1,none⟩ (.slice A5 L.length c5)).setCell ⟨w.heap.size+1,0,none⟩ (.bool bq)).setCell ⟨w.heap.size+1,0,none⟩ (.bool bq)).setCell ⟨w.heap.size+1,1,none⟩ (.slice A5 L.length c5)).heap[w.heap.size+1]?=some (.cells #[.bool bq,.slice A5 L.length c5] 53 (0,0)):=heap_setCell_at d8 1 _
   have hfin:=HA2.out A5 c5 ((((w5.setCell ⟨w.heap.size+1,1,none⟩ (.slice A5 L.length c5)).setCell ⟨w.heap.size+1,0,none⟩ (.bool bq)).setCell ⟨w.heap.size+1,0,none⟩ (.bool bq)).setCell ⟨w.heap.size+1,1,none⟩ (.slice A5 L.length c5)) hc5 (hr5.box (ab:=w.heap.size+1) (λa ha e=>by have:=hfr5 a ha;omega) d5 (λk hk=>by rw[Below.heap_setCell _ _ _ k hk,Below.heap_setCell _ _ _ k hk,Below.heap_setCell _ _ _ k hk,Below.heap_setCell _ _ _ k hk])) (((((below_tr HF.out.2.2.2.1 hb5).setCell (p:=⟨w.heap.size+1,1,none⟩) (by simp) _).setCell (p:=⟨w.heap.size+1,0,none⟩) (by simp) _).setCell (p:=⟨w.heap.size+1,0,none⟩) (by simp) _).setCell (p:=⟨w.heap.size+1,1,none⟩) (by simp) _)
   clear d5 d6 d7 d8 hr5 hb5 hfr5
   generalize (((w5.setCell ⟨w.heap.size+1,1,none⟩ (.slice A5 L.length c5)).setCell ⟨w.heap.size+1,0,none⟩ (.bool bq)).setCell ⟨w.heap.size+1,0,none⟩ (.bool bq)).setCell ⟨w.heap.size+1,1,none⟩ (.slice A5 L.length c5)=w9 at *
   exact bodyPost_ret (results_row_tmp rfl _ _ _ _ _ _ _ (.int .i64 0) rfl d9 Tryz.underlying53 rfl ansInfo rfl) rfl hfin
 ·have hne:(errOf q != 0)=true:=by rw[bne_iff_ne];exact he
  have hA:Hid (meanAns set q=(false,[])):=by show _=_;unfold meanAns;rw[if_pos he]
  have hR:Hid (∀w',Below w.heap.size w w'->MeanR set q w (.returned (.tuple #[.agg #[.bool false,.slice none 0 0],.int .i64 (errOf q)])) w'):=λw' hb=>by
   unfold MeanR
   rw[hA.out]
   exact⟨none,0,rfl,Nat.le_refl _,RdL.nil _ _ _ _,hb⟩
  rw[←hW]at hchk
  generalize errOf q=z at *
  clear he hW hA
  go_enter Tryz.func15,Tryz.ntmps15
  go_wp2_with (first
   | (go_at_call 31;refine hchk.mono ?_;rintro e w2 ⟨rfl,hb2⟩;rw[HW.out]at hb2;have d1:=KeepT.below hb2 _ _ _ HK.out.2.2;have e0:w2.cell? ⟨w.heap.size+1,0,none⟩=some (.bool false):=(by rw[World.cell?,d1];rfl);have e1:w2.cell? ⟨w.heap.size+1,1,none⟩=some (.slice none 0 0):=(by rw[World.cell?,d1];rfl);have HD:=Lib.hid d1;have HB:=Lib.hid hb2;clear d1 hb2 hchk)
   | (refine wpList_store_row rfl 53 _ _ rfl rfl rfl ansInfo HD.out rfl rfl ?_)
   | fail)
  exact bodyPost_ret (results_row_tmp rfl _ _ _ _ _ _ _ (.int .i64 z) rfl (setRow_heap w2 _ _ #[.bool false,.slice none 0 0] _ (0,0) HD.out) Tryz.underlying53 rfl ansInfo rfl) rfl (hR.out _ (below_setRow (below_tr HK.out.1 HB.out) (by omega) _))
def iriT6 (s:ByteArray):Tm:=⟨1,s,⟨#[]⟩,⟨#[]⟩⟩
def litT6 (s:ByteArray):Tm:=⟨3,s,⟨#[]⟩,⟨#[]⟩⟩
theorem mlIri (s:ByteArray) (w:World):Calls Tryz.prog 21 #[.string s] w λe w'=>e=.returned (.agg #[.int .i64 1,.string s,.string ⟨#[]⟩,.string ⟨#[]⟩])/\Below w.heap.size w w':=by
 go_enter Tryz.func21,Tryz.ntmps21
 go_wp2
 exact bodyPost_ret (v:=.agg #[.int .i64 1,.string s,.string ⟨#[]⟩,.string ⟨#[]⟩]) (by simp[results,Tryz.results21,go_sem]) rfl ⟨rfl,blw⟩
theorem mlPlain (s:ByteArray) (w:World):Calls Tryz.prog 44 #[.string s] w λe w'=>e=.returned (.agg #[.int .i64 3,.string s,.string ⟨#[]⟩,.string ⟨#[]⟩])/\Below w.heap.size w w':=by
 go_enter Tryz.func44,Tryz.ntmps44
 go_wp2
 exact bodyPost_ret (v:=.agg #[.int .i64 3,.string s,.string ⟨#[]⟩,.string ⟨#[]⟩]) (by simp[results,Tryz.results44,go_sem]) rfl ⟨rfl,blw⟩
theorem mlFree (s:ByteArray) (w:World):Calls Tryz.prog 19 #[.string s] w λe w'=>e=.returned (.agg #[.string s,.int .i64 0,.string ⟨#[]⟩,.string ⟨#[]⟩,.string ⟨#[]⟩])/\Below w.heap.size w w':=by
 go_enter Tryz.func19,Tryz.ntmps19
 go_wp2
 exact bodyPost_ret (v:=.agg #[.string s,.int .i64 0,.string ⟨#[]⟩,.string ⟨#[]⟩,.string ⟨#[]⟩]) (by simp[results,Tryz.results19,go_sem]) rfl ⟨rfl,blw⟩
theorem mlOne (t:Tm) (w:World):Calls Tryz.prog 20 #[.agg #[.int .i64 t.k,.string t.x,.string t.l,.string t.y]] w λe w'=>e=.returned (.agg #[.string ⟨#[]⟩,.int .i64 t.k,.string t.x,.string t.l,.string t.y])/\Below w.heap.size w w':=by
 go_enter Tryz.func20,Tryz.ntmps20
 go_wp2
 exact bodyPost_ret (v:=.agg #[.string ⟨#[]⟩,.int .i64 t.k,.string t.x,.string t.l,.string t.y]) (by simp[results,Tryz.results20,go_sem]) rfl ⟨rfl,blw⟩
def exaT:List Tp:=[⟨iriT6 ⟨#[97]⟩,iriT6 ⟨#[112]⟩,iriT6 ⟨#[98]⟩⟩,⟨iriT6 ⟨#[98]⟩,iriT6 ⟨#[112]⟩,iriT6 ⟨#[99]⟩⟩,⟨iriT6 ⟨#[97]⟩,iriT6 ⟨#[113]⟩,litT6 ⟨#[120]⟩⟩]
theorem mlExample (w:World):Calls Tryz.prog 22 #[] w λe w'=>∃A c,e=.returned (.slice A 3 c)/\Below w.heap.size w w'/\Rd w' A (exaT.flatMap tpL):=by
 have HB:Below w.heap.size w w:=Below.refl _ _
 go_enter Tryz.func22,Tryz.ntmps22
 go_wp2_with (first
  | (go_at_call 21;refine(mlIri _ _).mono ?_;rintro e W2 ⟨rfl,B2⟩;replace HB:=below_tr HB B2;clear B2)
  | (go_at_call 44;refine(mlPlain _ _).mono ?_;rintro e W2 ⟨rfl,B2⟩;replace HB:=below_tr HB B2;clear B2))
 go_ret
 exact⟨_,_,rfl,blw,Rd.of_block (heap_alloc_new _ _) rfl⟩
def sz3 (t:Tp):Nat:=sz8T t.s+sz8T t.p+sz8T t.o
def sizeM:List Tp->Nat->Nat
 | [],n=>n
 | t::r,n=>if n<=3000 then sizeM r (n+sz3 t) else n
theorem sizeM_le:∀(l:List Tp) (n:Nat),sizeM l n<=3000->sizeM l n=n+(l.map sz3).sum
 | [],n,_=>by simp[sizeM]
 | t::r,n,h=>by
  rw[sizeM]at h ⊢
  split at h
  ·next h1=>rw[if_pos h1,sizeM_le r _ h,List.map_cons,List.sum_cons];omega
  ·next h1=>exact absurd h h1
theorem sum_mem_le {l:List Tp} {t:Tp} (h:t∈l):sz3 t<=(l.map sz3).sum:=by
 induction l with
 | nil=>cases h
 | cons x r ih =>
  rw[List.map_cons,List.sum_cons]
  rcases List.mem_cons.1 h with rfl|h
  ·omega
  ·have:=ih h;omega
theorem size_small {l:List Tp} {n:Nat} (h:sizeM l n<=3000):∀t∈l,smallP3 t:=by
 have e:=sizeM_le l n h
 intro t ht
 have h1:sz3 t<=3000:=by have:=sum_mem_le ht;omega
 unfold sz3 sz8T at h1
 exact⟨⟨by omega,by omega,by omega⟩,⟨by omega,by omega,by omega⟩,⟨by omega,by omega,by omega⟩⟩
def hugeP (t:Tp):Prop:=hugeT t.s/\hugeT t.p/\hugeT t.o
theorem mlSize (l:List Tp) (A:Option Addr) (c:Nat) (w:World) (hl:l.length<=281474976710656) (hz:∀t∈l,hugeP t) (hr:Rd w A (l.flatMap tpL)) :
  Calls Tryz.prog 6 #[.slice A l.length c] w λe w'=>e=.returned (.int .i64 (sizeM l l.length:Nat))/\Below w.heap.size w w':=by
 have HR:=Lib.hid (And.intro hr hz)
 clear hr hz
 obtain⟨N,hN⟩:∃N,sizeM l l.length=N:=⟨_,rfl⟩
 rw[hN]
 go_enter Tryz.func6,Tryz.ntmps6
 go_wp2
 go_loopw [3,4,5,6] (λs i _ _ wr=>∃k n:Nat,k<=l.length/\i=.int .i64 k/\s=.int .i64 n/\n<=2814749767106560/\sizeM (l.drop k) n=N/\Below w.heap.size w wr) (λ_ i _ _ _=>l.length-(intOf i).toNat)
 case atStart=>exact⟨0,l.length,by omega,rfl,rfl,by omega,by simpa using hN,Below.refl _ _⟩
 case round =>
  obtain⟨k,n,hk,rfl,rfl,hn,hs,hB⟩:=hrel
  by_cases hlt:k<l.length
  ·by_cases hn3:n<=3000
   ·obtain⟨t,ht⟩:∃t,l[k]?=some t:=⟨_,List.getElem?_eq_getElem hlt⟩
    rw[drop_cons_of ht,sizeM,if_pos hn3]at hs
    have hzt:=HR.out.2 t (List.mem_of_getElem? ht)
    obtain⟨⟨z1,z2,z3⟩,⟨z4,z5,z6⟩,z7,z8,z9⟩:=hzt
    obtain⟨g,o,rfl,c0,c1,c2,c3,c4,c5,c6,c7,c8,c9,c10,c11⟩:=rd_at12 (HR.out.1.later hB) ht
    have HX:=Lib.hid (And.intro hs hB)
    clear hs hB ht hN
    go_wp2
    refine Rf.p0 wr.heap.size _ (.quiet [0,1,2,3,4,5,6,7,8,9,10,11,12,13,14] (.one 15 (.quiet [16] (.done)))) ?_ (λa w h=>h)
    intro wd hbd hwz
    have y0:=cellL c0 hbd
    have y1:=cellL c1 hbd
    have y2:=cellL c2 hbd
    have y3:=cellL c3 hbd
    have y4:=cellL c4 hbd
    have y5:=cellL c5 hbd
    have y6:=cellL c6 hbd
    have y7:=cellL c7 hbd
    have y8:=cellL c8 hbd
    have y9:=cellL c9 hbd
    have y10:=cellL c10 hbd
    have y11:=cellL c11 hbd
    clear c0 c1 c2 c3 c4 c5 c6 c7 c8 c9 c10 c11
    have hs3:=hbd.size
    clear hwz
    refine Rf.pl_quiet ?_
    iterate 15 go_big_quiet_step (fail)
    refine wpQuiet_nil (Rf.pl_one ?_)
    go_wp2
    refine⟨(Below.refl _ _).alloc (by omega) _,Rf.pl_quiet ?_⟩
    iterate 1 go_big_quiet_step (fail)
    refine wpQuiet_nil (Rf.pl_done ?_)
    obtain⟨V,hV⟩:∃V:World,wd.alloc (.cells (tpC t) 26)=V:=⟨_,rfl⟩
    have hbV:Below w.heap.size w V:=by rw[←hV];exact below_alloc (below_tr HX.out.2 hbd)
    have hcell:∀(j i:Nat) (u:Tm) (v:Value),[t.s,t.p,t.o][j]?=some u->i<4->(tC u)[i]?=some v->V.cell? ⟨wd.heap.size,j*4+i,none⟩=some v:=by
     intro j i u v hj hi hv
     rw[←hV,World.cell?,heap_alloc_new]
     have:=flat_at8 [t.s,t.p,t.o] j i u hj hi
     rw[hv]at this
     show (tpC t)[j*4+i]?=some v
     rw[←Array.getElem?_toList]
     exact this
    have Hc:=Lib.hid hcell
    have HV:=Lib.hid (And.intro hbV HX.out.1)
    have hz3:∀u∈[t.s,t.p,t.o],hugeT u:=by
     intro u hu
     simp only[List.mem_cons,List.not_mem_nil,or_false]at hu
     rcases hu with rfl|rfl|rfl
     ·exact⟨z1,z2,z3⟩
     ·exact⟨z4,z5,z6⟩
     ·exact⟨z7,z8,z9⟩
    clear hcell hbV HX y0 y1 y2 y3 y4 y5 y6 y7 y8 y9 y10 y11 z1 z2 z3 z4 z5 z6 z7 z8 z9 hbd hs3
    change Exit.then _ _ Exit.normal _ (wd.alloc (.cells (tpC t) 26))
    rw[hV]
    go_wp2
    obtain⟨T,hT⟩:∃T:List Tm,T=[t.s,t.p,t.o]:=⟨_,rfl⟩
    have hT3:T.length=3:=by rw[hT];rfl
    rw[←hT]at Hc hz3
    have hTs:sz8L T=sz3 t:=by rw[hT];simp[sz8L,sz3,sz8T];omega
    clear hT
    go_loopw [3,6] (λs i wr2=>∃(j:Nat),j<=3/\i=.int .i64 j/\s=.int .i64 (n+sz8L (T.take j):Nat)/\∃q,wr2=V.drewN q) (λ_ i _=>3-(intOf i).toNat)
    case atStart=>exact⟨0,by omega,rfl,by simp[sz8L],0,rfl⟩
    case round =>
     obtain⟨j,hj,rfl,rfl,q,rfl⟩:=hrel
     have hle:=szL_le T hz3 j (by omega)
     by_cases hlt3:j<3
     ·obtain⟨u,hu⟩:∃u,T[j]?=some u:=⟨_,List.getElem?_eq_getElem (by omega)⟩
      have e1:=Hc.out j 1 u _ hu (by omega) rfl
      have e2:=Hc.out j 2 u _ hu (by omega) rfl
      have e3:=Hc.out j 3 u _ hu (by omega) rfl
      have hsn:=Lib.hid (sz8L_snoc T j u hu)
      have hzu:=hz3 _ (List.mem_of_getElem? hu)
      obtain⟨y1,y2,y3⟩:=hzu
      clear hu hz3
      generalize sz8L (T.take j)=m at *
      have hm:m<=3*844424930131968:=Nat.le_trans hle (Nat.mul_le_mul_right _ hj)
      clear hle
      go_wp2
      go_quiet (fail)
      go_wp2
      exact⟨⟨j+1,by omega,by go_num,by rw[hsn.out,sz8T];go_num,q+nq,rfl⟩,by simp[intOf];omega⟩
     ·have e:T.take j=T:=List.take_of_length_le (by omega)
      rw[e,hTs]at hle
      rw[e,hTs]
      have hle2:sz3 t<=3*844424930131968:=Nat.le_trans hle (Nat.mul_le_mul_right _ hj)
      go_wp2
      exact⟨⟨k+1,n+sz3 t,by omega,by go_num,rfl,by omega,HV.out.2,below_drewN' HV.out.1 q⟩,by simp[intOf];omega⟩
   ·rw[drop_cons_of (List.getElem?_eq_getElem hlt),sizeM,if_neg hn3]at hs
    subst hs
    go_wp2
    go_ret
    exact⟨rfl,hB⟩
  ·rw[List.drop_of_length_le (by omega),sizeM]at hs
   subst hs
   go_wp2
   go_ret
   exact⟨rfl,hB⟩
instance decTp:DecidableEq Tp:=λ_ _=>decidable_of_iff _ sameTp_iff
theorem mlThere (set:List Tp) (t:Tp) (A:Option Addr) (c:Nat) (w:World) (hl:set.length<=1000000) (hr:Rd w A (set.flatMap tpL)) :
  Calls Tryz.prog 10 #[.slice A set.length c,.agg #[.int .i64 t.s.k,.string t.s.x,.string t.s.l,.string t.s.y,.int .i64 t.p.k,.string t.p.x,.string t.p.l,.string t.p.y,.int .i64 t.o.k,.string t.o.x,.string t.o.l,.string t.o.y]] w λe w'=>e=.returned (.bool (decide (t∈set)))/\Below w.heap.size w w':=by
 obtain⟨W,hW⟩:∃V:World,w.alloc (.cells #[.int .i64 t.s.k,.string t.s.x,.string t.s.l,.string t.s.y,.int .i64 t.p.k,.string t.p.x,.string t.p.l,.string t.p.y,.int .i64 t.o.k,.string t.o.x,.string t.o.l,.string t.o.y] 28)=V:=⟨_,rfl⟩
 have hb:Below w.heap.size w W:=by rw[←hW];exact blw
 have hk:∀(j:Nat) (v:Value),(#[Value.int .i64 t.s.k,.string t.s.x,.string t.s.l,.string t.s.y,.int .i64 t.p.k,.string t.p.x,.string t.p.l,.string t.p.y,.int .i64 t.o.k,.string t.o.x,.string t.o.l,.string t.o.y]:Array Value)[j]?=some v->W.cell? ⟨w.heap.size,j,none⟩=some v:=λj v h=>by rw[←hW,World.cell?,heap_alloc_new];simpa using h
 obtain⟨x0,x1,x2,x3,x4,x5,x6,x7,x8,x9,x10,x11⟩:_/\_/\_/\_/\_/\_/\_/\_/\_/\_/\_/\_:=⟨hk 0 _ rfl,hk 1 _ rfl,hk 2 _ rfl,hk 3 _ rfl,hk 4 _ rfl,hk 5 _ rfl,hk 6 _ rfl,hk 7 _ rfl,hk 8 _ rfl,hk 9 _ rfl,hk 10 _ rfl,hk 11 _ rfl⟩
 have HR:=Lib.hid (And.intro (hr.later hb) hb)
 have heq:=λ(u:Tp) V=>run_eqTp u t V
 clear hr hb hk
 go_enter Tryz.func10,Tryz.ntmps10
 go_wp2
 clear hW
 go_loopw [5] (λi wr=>∃k q:Nat,k<=set.length/\i=.int .i64 k/\t ∉ set.take k/\wr=W.drewN q) (λi _=>set.length-(intOf i).toNat)
 case atStart=>exact⟨0,0,by omega,rfl,by simp,rfl⟩
 case round =>
  obtain⟨k,q,hk,rfl,hn,rfl⟩:=hrel
  by_cases hlt:k<set.length
  ·obtain⟨u,hu⟩:∃u,set[k]?=some u:=⟨_,List.getElem?_eq_getElem hlt⟩
   obtain⟨g,o,rfl,c0,c1,c2,c3,c4,c5,c6,c7,c8,c9,c10,c11⟩:=rd_at12 HR.out.1 hu
   replace heq:=heq u
   have HN:=Lib.hid (And.intro hn hu)
   clear hn hu
   cases hs:sameTp u t
   ·have h2:t ∉ set.take (k+1):=by
     rw[take_snoc_of HN.out.2,List.mem_append]
     rintro(h|h)
     ·exact HN.out.1 h
     ·simp only[List.mem_cons,List.not_mem_nil,or_false]at h
      rw[h,sameTp_iff.2 rfl]at hs;cases hs
    have H2:=Lib.hid h2
    rw[hs]at heq
    clear h2
    go_wp2
    go_quiet (fail)
    go_wp2
    exact⟨⟨k+1,q+nq,by omega,by go_num,H2.out,rfl⟩,by simp[intOf];omega⟩
   ·have h2:t∈set:=by
     rw[←sameTp_iff.1 hs];exact List.mem_of_getElem? HN.out.2
    rw[hs]at heq
    have H2:=Lib.hid h2
    clear h2
    go_wp2
    go_quiet (fail)
    go_wp2
    go_ret
    exact⟨by rw[decide_eq_true H2.out];rfl,below_drewN' (below_drewN' HR.out.2 _) _⟩
  ·rw[List.take_of_length_le (by omega)]at hn
   have H2:=Lib.hid hn
   clear hn
   go_wp2
   go_ret
   exact⟨by rw[decide_eq_false H2.out];rfl,below_drewN' HR.out.2 _⟩
theorem value_first {vars:List ByteArray} {row:List Tm} {x:Sl} {k:Nat} {s:ByteArray} {u:Tm} (hs:vars[k]?=some s) (hn:x.v ∉ vars.take k) (he:x.v.toList.isEmpty=false) (h:s=x.v) (hu:row[k]?=some u):valueP vars row x=u:=by
 subst h
 unfold valueP
 rw[if_pos ⟨he,hasS_iff.2 (List.mem_of_getElem? hs)⟩,idx_is hs hn]
 simp[hu]
theorem value_no {vars:List ByteArray} {row:List Tm} {x:Sl} (h:x.v.toList.isEmpty=true∨x.v ∉ vars):valueP vars row x=x.t:=by
 unfold valueP
 refine if_neg ?_
 rintro⟨h1,h2⟩
 rcases h with h|h
 ·rw[h]at h1;cases h1
 ·exact h (hasS_iff.1 h2)
theorem mlValue (vars:List ByteArray) (row:List Tm) (x:Sl) (A B:Option Addr) (n c m d:Nat) (w:World) (hn:vars.length=n) (hm:row.length=m) (hl:n<=1000000) (hnm:n<=m) (hm':m<=1000000) (hr:Rd w A (vars.map Value.string)) (hrr:RdTs w B row) :
  Calls Tryz.prog 11 #[.slice A n c,.slice B m d,.agg #[.string x.v,.int .i64 x.t.k,.string x.t.x,.string x.t.l,.string x.t.y]] w λe w'=>e=.returned (tA (valueP vars row x))/\Below w.heap.size w w':=by
 obtain⟨R,hR⟩:∃R,valueP vars row x=R:=⟨_,rfl⟩
 rw[hR]
 obtain⟨W,hW⟩:∃W:World,(w.alloc (.cells #[.string x.v,.int .i64 x.t.k,.string x.t.x,.string x.t.l,.string x.t.y] 41)).alloc (.cells #[.int .i64 0,.string ⟨#[]⟩,.string ⟨#[]⟩,.string ⟨#[]⟩] 26)=W:=⟨_,rfl⟩
 have hB0:Below w.heap.size w W:=by rw[←hW];exact blw
 have k0:W.heap[w.heap.size]?=some (Obj.cells #[.string x.v,.int .i64 x.t.k,.string x.t.x,.string x.t.l,.string x.t.y] 41 (0,0)):=by rw[←hW];exact heap_two_1 _ _ _
 have k1:∀q,(W.drewN q).heap[w.heap.size+1]?=some (Obj.cells #[.int .i64 0,.string ⟨#[]⟩,.string ⟨#[]⟩,.string ⟨#[]⟩] 26 (0,0)):=λq=>by rw[←hW];exact heap_two_2 _ _ _
 obtain⟨x0,x1,x2,x3,x4⟩:=cells5 k0
 have hB1:∀q,Below w.heap.size w (W.drewN q):=λq=>below_drewN' hB0 q
 have hF:∀(V:World) (u:Tm),V.heap[w.heap.size+1]?=some (Obj.cells #[.int .i64 0,.string ⟨#[]⟩,.string ⟨#[]⟩,.string ⟨#[]⟩] 26 (0,0))->Below w.heap.size w V->(V.setRow (w.heap.size+1) #[.int .i64 u.k,.string u.x,.string u.l,.string u.y]).heap[w.heap.size+1]?=some (Obj.cells #[.int .i64 u.k,.string u.x,.string u.l,.string u.y] 26 (0,0))/\Below w.heap.size w (V.setRow (w.heap.size+1) #[.int .i64 u.k,.string u.x,.string u.l,.string u.y]):=λV u h1 h2=>⟨setRow_heap _ _ _ _ _ _ h1,below_setRow h2 (by omega) _⟩
 have HF:=Lib.hid hF
 have HK:=Lib.hid (And.intro k1 hB1)
 have H:=Lib.hid (And.intro hn (And.intro hm (And.intro (hr.later hB0) (And.intro (RdTs.later hrr hB0) hR))))
 clear hn hm hr hrr hR hB0 k0 k1 hB1 hF
 go_enter Tryz.func11,Tryz.ntmps11
 go_wp2
 clear hW
 go_loopw [7] (λi wr=>∃k q:Nat,k<=n/\i=.int .i64 k/\(x.v.toList.isEmpty=true∨x.v ∉ vars.take k)/\wr=W.drewN q) (λi _=>n-(intOf i).toNat)
 case atStart=>exact⟨0,0,by omega,rfl,.inr (by simp),rfl⟩
 case round =>
  obtain⟨k,q,hk,rfl,hno,rfl⟩:=hrel
  obtain⟨hn,hm,hv,hrw,hR⟩:=H.out
  by_cases hlt:k<n
  ·obtain⟨s,hs⟩:∃s,vars[k]?=some s:=⟨_,List.getElem?_eq_getElem (by omega)⟩
   obtain⟨u,hu⟩:∃u,row[k]?=some u:=⟨_,List.getElem?_eq_getElem (by omega)⟩
   obtain⟨g,o,rfl,hcs⟩:=hv.at_ (j:=k) (u:=.string s) (by rw[List.getElem?_map,hs];rfl)
   cases he:x.v.toList.isEmpty
   ·have hno2:x.v ∉ vars.take k:=by rcases hno with h|h;rw[he]at h;cases h;exact h
    by_cases hsx:s=x.v
    ·have hq:(s.toList == x.v.toList)=true:=by rw[hsx];simp
     have e2:R=u:=by rw[←hR];exact value_first hs hno2 he hsx hu
     subst e2
     obtain⟨g2,o2,rfl,a0,a1,a2,a3⟩:=hrw.at4 hu
     clear hn hm hv hrw hR hs hu hno hno2 hsx
     go_wp2
     go_quiet (fail)
     have hF:=HF.out (W.drewN (q+nq)) R (HK.out.1 _) (HK.out.2 _)
     go_wp2_with (first
      | (refine wpList_store_row rfl 26 _ _ rfl rfl rfl mtmInfo (HK.out.1 q) rfl rfl ?_)
      | fail)
     exact bodyPost_ret (results_cell_row rfl _ _ _ _ _ _ _ rfl hF.1 Tryz.underlying26 rfl mtmInfo) rfl ⟨rfl,hF.2⟩
    ·have hq:(s.toList == x.v.toList)=false:=by
      rw[beq_eq_false_iff_ne]
      intro h
      exact hsx ((Lib.bytes_beq_iff s x.v).1 (beq_iff_eq.2 h))
     have H2:Hid (x.v.toList.isEmpty=true∨x.v ∉ vars.take (k+1)):=by
      refine .inr ?_
      rw[take_snoc_of hs,List.mem_append]
      rintro(h|h)
      ·exact hno2 h
      ·simp only[List.mem_cons,List.not_mem_nil,or_false]at h
       exact hsx h.symm
     clear hn hm hv hrw hR hs hu hno hno2 hsx
     go_wp2
     go_quiet (fail)
     go_wp2
     exact⟨⟨k+1,q+nq,by omega,by go_num,(by have:=H2.out;rw[he]at this;exact this),rfl⟩,by simp[intOf];omega⟩
   ·clear hn hm hv hrw hR hs hu hno
    go_wp2
    go_quiet (fail)
    go_wp2
    exact⟨⟨k+1,q+nq,by omega,by go_num,(by first|exact .inl trivial|exact .inl he),rfl⟩,by simp[intOf];omega⟩
  ·have e2:R=x.t:=by
    rw[←hR]
    refine value_no ?_
    rw[List.take_of_length_le (by omega)]at hno
    exact hno
   subst e2
   clear hn hm hv hrw hR hno
   have hF:=HF.out (W.drewN q) x.t (HK.out.1 q) (HK.out.2 q)
   go_wp2_with (first
    | (refine wpList_store_row rfl 26 _ _ rfl rfl rfl mtmInfo (HK.out.1 q) rfl rfl ?_)
    | fail)
   exact bodyPost_ret (results_cell_row rfl _ _ _ _ _ _ _ rfl hF.1 Tryz.underlying26 rfl mtmInfo) rfl ⟨rfl,hF.2⟩
end Go.Proofs.YtoaemihcbmlkgaaGreatDoor
