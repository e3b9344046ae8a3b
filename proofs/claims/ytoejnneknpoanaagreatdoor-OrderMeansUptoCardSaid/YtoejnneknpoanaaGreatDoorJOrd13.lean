/- The program's package order, walked: (*worker).sorted. -/
import Derived.Test.YtoejnneknpoanaaGreatDoorJFilOf
namespace Go.Proofs.YtoejnneknpoanaaGreatDoor
open Go Go.RowKit Fm Tx Om Mp
theorem hasInts (l:List Int) (x:Int) (A:Option Addr) (c n:Nat) (w:World) (hn:l.length=n) (hl:n<=1000000000) (hr:Rd w A (l.map (Value.int .i64))) :
  Calls Tryz.prog 94 #[.slice A n c,.int .i64 x] w λe w'=>e=.returned (.bool (l.contains x))/\w=w':=by
 subst hn
 rcases hr with h0|⟨g,o,rfl,hc⟩
 ·obtain rfl:l=[]:=by simpa using h0
  have:=Tryz.slices_Contains_int_empty A c x w
  exact this.mono λe w' h=>⟨h.1,h.2.symm⟩
 ·refine(Tryz.slices_Contains_int g o l.length c l x w (Nat.le_refl _) (by omega) λj hj=>?_).mono λe w' h=>?_
  ·have e:l[j]?=some l[j]:=List.getElem?_eq_getElem hj
   have:=hc j (.int .i64 l[j]) (by rw[List.getElem?_map,e];rfl)
   rw[List.getD_eq_getElem?_getD,e]
   exact this
  ·rw[List.take_length]at h
   exact⟨h.1,h.2.symm⟩
theorem box_put {base:Nat} {W V:World} {pb no cp:Nat} {Ap:Option Addr} {l:List Value} (hb:V.heap[pb]?=some (Obj.cells #[.slice none 0 0] 69 (0,0))) (hp:base<=pb) (ho:V.ownsRow base 3 1 (.slice Ap no cp) no l) (hB:Below base W V) :
  (V.setCell ⟨pb,0,none⟩ (.slice Ap no cp)).heap[pb]?=some (Obj.cells #[.slice Ap no cp] 69 (0,0))/\(V.setCell ⟨pb,0,none⟩ (.slice Ap no cp)).ownsRow base 3 1 (.slice Ap no cp) no l/\Below base V (V.setCell ⟨pb,0,none⟩ (.slice Ap no cp))/\Below base W (V.setCell ⟨pb,0,none⟩ (.slice Ap no cp)):=by
 refine⟨?_,own_keep ho (KeepT.setCell hb (by decide)),(Below.refl _ _).setCell (p:=⟨pb,0,none⟩) hp _,hB.setCell (p:=⟨pb,0,none⟩) hp _⟩
 have:=heap_setCell_at hb 0 (.slice Ap no cp)
 simpa using this
def sortN (vars:List ByteArray) (keys:List Ky):Int:=if (placesL vars (keys.map (·.v))).contains (-1) then 15 else 0
def sortL (vars:List ByteArray) (keys:List Ky) (rows:List (List Tm)):List (List Tm):=if (placesL vars (keys.map (·.v))).contains (-1) then rows else sortK (keysP (placesL vars (keys.map (·.v))) keys) rows
theorem places_in {vars:List ByteArray} {names:List ByteArray} (h:(placesL vars names).contains (-1)=false):∀p∈placesL vars names,0<=p/\p<vars.length:=by
 intro p hp
 have hne:p ≠ -1:=λe=>by
  subst e
  rw[List.contains_iff_mem.2 hp]at h;cases h
 obtain⟨s,_,rfl⟩:=List.mem_map.1 hp
 have:=idxOfS_lt vars s
 omega
set_option maxHeartbeats 8000000 in
set_option maxRecDepth 100000 in
theorem ordSorted (W0:World) (hC:CtxT W0) (b:Nat) (vars:List ByteArray) (rows:List (List Tm)) (keys:List Ky) (q0 q1 q2 q3 q4 q6 q7:Value) (Ao:Option Addr) (no co:Nat) (w:World) (hB:Below W0.heap.size W0 w)
  (hW:WkAt W0.heap.size w b vars rows [q0,q1,q2,q3,q4,.slice Ao no co,q6,q7]) (hno:keys.length=no) (hlo:no<=1000000) (hky:RdKey W0 Ao keys) (hz:∀r∈rows,smallRow r) (hw:∀r∈rows,r.length=vars.length) (hlv:vars.length<=1000000) (hl:rows.length<=1000000) :
  Calls Tryz.prog 58 #[.pointer (some ⟨b,0,none⟩)] w (StepR W0 b vars (sortL vars keys rows) [q0,q1,q2,q3,q4,.slice Ao no co,q6,q7] (sortN vars keys)):=by
 obtain⟨ps,hps⟩:∃ps,placesL vars (keys.map (·.v))=ps:=⟨_,rfl⟩
 have hpn:ps.length=no:=by rw[←hps,←hno];simp[placesL]
 have hpi:=@places_in vars (keys.map (·.v))
 have hLN:Hid ((ps.contains (-1)=true->sortL vars keys rows=rows/\sortN vars keys=15)/\(ps.contains (-1)=false->sortL vars keys rows=sortK (keysP ps keys) rows/\sortN vars keys=0)):=by
  unfold sortL sortN
  rw[hps]
  exact⟨λh=>⟨if_pos h,if_pos h⟩,λh=>⟨if_neg (by rw[h];decide),if_neg (by rw[h];decide)⟩⟩
 generalize sortL vars keys rows=L at *
 generalize sortN vars keys=N at *
 rw[hps]at hpi
 obtain⟨W,hWd⟩:∃W:World,w.alloc (.cells #[.pointer (some ⟨b,0,none⟩)] 90)=W:=⟨_,rfl⟩
 have hal:Below w.heap.size w W:=by rw[←hWd];exact blw
 have hkb:W.heap[w.heap.size]?=some (Obj.cells #[.pointer (some ⟨b,0,none⟩)] 90 (0,0)):=by rw[←hWd];exact heap_alloc_new w _
 have hBW:Below W0.heap.size W0 W:=below_tr hB hal
 have hWW:=hW.on hal
 have hsz:=hB.size
 have hszW:=hBW.size
 clear hW hB hal
 have H:=Lib.hid (And.intro hWd (And.intro hC (And.intro hky (And.intro hz (And.intro hw (And.intro hl (And.intro hpi (And.intro hBW hWW))))))))
 have hnv:=λW' (h:Below W.heap.size W W')=>ordNames keys no co Ao W' hno hlo (RdL.mono hky (below_tr hBW h) (λ_ _ _ h=>h))
 have hpv:=λ(m c:Nat) (A:Option Addr) (W':World) (h:Below W.heap.size W W') (hm:(keys.map (·.v)).length=m) (hm1:m<=1000000) (hr:Rd W' A ((keys.map (·.v)).map Value.string))=>(show Calls Tryz.prog 92 #[.pointer (some ⟨b,0,none⟩),.slice A m c] W' (NumsRo ps W') from by
  obtain⟨Av,cv,_,_,h0,_,hrv,_⟩:=(hWW.on h).cell0
  rw[←hps]
  exact ordPlaces vars (keys.map (·.v)) b vars.length cv m c Av A W' rfl hm hlv hm1 h0 hrv hr)
 have c7:∀W',Below W.heap.size W W'->W'.cell? ⟨b,7,none⟩=some (.slice Ao no co):=λW' h=>by
  obtain⟨_,va,vr,h1,_⟩:=hWW.on h
  simp[World.cell?,h1]
 have hkn:(keys.map (·.v)).length=no:=by simpa using hno
 clear hky hC hz hw hl hpi hBW hWW hps
 go_enter Tryz.func58,Tryz.ntmps58
 go_wp2
 clear hWd
 refine Rf.p0 W.heap.size ?R (.quiet [0,1,2,3,4,5] (.fork 6 8 (.fork 7 8 (.one 8 (.one 9 (.done))) (.one 7 (.one 9 (.done)))) (.one 6 (.one 7 (.one 9 (.done)))))) ?_ ?_
 case R=>exact λa W'=>∃(pb cp:Nat) (Ap:Option Addr) (u4 u5 u6 u7 u8 u9 u10 u11:Value),a={tmps:=#[.pointer (some ⟨b,0,none⟩),.pointer (some ⟨w.heap.size,0,none⟩),.int .i64 0,.pointer (some ⟨pb,0,none⟩),u4,u5,u6,u7,u8,u9,u10,u11,undef,undef,undef,undef,undef,undef,undef,undef,undef],defers:=[]}/\W'.heap[pb]?=some (Obj.cells #[.slice Ap no cp] 69 (0,0))/\W'.ownsRow W.heap.size 3 1 (.slice Ap no cp) no (ps.map (Value.int .i64))/\Below W.heap.size W W'
 ·intro wd hbd hwz
  have d0:=cellL (show W.cell? ⟨w.heap.size,0,none⟩=some (.pointer (some ⟨b,0,none⟩)) from by rw[World.cell?,hkb];rfl) hbd
  have d7:=cellL (c7 W (Below.refl _ _)) hbd
  have Hz:=Lib.hid hwz
  have hle:W.heap.size<=wd.heap.size:=hbd.size
  clear hwz
  refine Rf.pl_quiet ?_
  iterate 6 go_big_quiet_step (fail)
  refine wpQuiet_nil (Rf.pl_fork ?_ ?_)
  ·go_wp2_with (refine(hnv wd hbd).mono ?_;rintro e v1 ⟨x1,rfl,own1,g1⟩)
   obtain⟨A1,m1,rfl,_,r1⟩:=own_slice own1
   have G1:Below W.heap.size wd v1:=g1.mono hle
   have hs1:W.heap.size<=v1.heap.size:=Nat.le_trans hle g1.size
   clear own1
   rw[hkn]
   refine⟨G1,Rf.pl_fork ?_ ?_⟩
   ·go_wp2_with (refine(hpv no m1 A1 v1 (hbd.trans G1) hkn hlo r1).mono ?_;rintro e v2 ⟨x2,rfl,own2,g2⟩)
    obtain⟨A2,m2,rfl,_,_⟩:=own_slice own2
    rw[hpn]at own2 ⊢
    have hs2:W.heap.size<=v2.heap.size:=Nat.le_trans hs1 g2.size
    refine⟨g2.mono hs1,Rf.pl_one ?_⟩
    go_wp2_with fail
    have g3:Below v2.heap.size v2 (v2.alloc (.cells #[.slice none 0 0] 69)):=blw
    refine⟨g3.mono hs2,Rf.pl_one ?_⟩
    have hh:=heap_alloc_new v2 (.cells #[.slice none 0 0] 69)
    generalize v2.alloc (.cells #[.slice none 0 0] 69)=V at *
    have hf:=Lib.frozen_of_heap hh 0
    have hc:V.cell? ⟨v2.heap.size,0,none⟩=some (.slice none 0 0):=by rw[World.cell?,hh];rfl
    obtain⟨p1,p2,p3,p4⟩:=box_put (W:=W) hh hs2 (own_lower (own_below own2 g3 (Nat.le_refl _)) hs1) (((hbd.trans G1).trans (g2.mono hs1)).trans (g3.mono hs2))
    go_wp2
    exact⟨p3,Rf.pl_done ⟨_,_,_,_,_,_,_,_,_,_,_,rfl,p1,p2,p4⟩⟩
   ·go_wp2_with fail
    have g3:Below v1.heap.size v1 (v1.alloc (.cells #[.slice none 0 0] 69)):=blw
    have hh:=heap_alloc_new v1 (.cells #[.slice none 0 0] 69)
    have hsz3:(v1.alloc (.cells #[.slice none 0 0] 69)).heap.size=v1.heap.size+1:=by simp
    refine⟨g3.mono hs1,Rf.pl_one ?_⟩
    have r2:=r1.later g3
    have hbv:=(hbd.trans G1).trans (g3.mono hs1)
    generalize v1.alloc (.cells #[.slice none 0 0] 69)=V at *
    go_wp2_with (refine(hpv no m1 A1 V hbv hkn hlo r2).mono ?_;rintro e v2 ⟨x2,rfl,own2,g2⟩)
    obtain⟨A2,m2,rfl,_,_⟩:=own_slice own2
    rw[hpn]at own2 ⊢
    have hsV:W.heap.size<=V.heap.size:=by omega
    refine⟨g2.mono hsV,Rf.pl_one ?_⟩
    have hh2:=KeepT.below g2 _ _ _ hh
    have hf:=Lib.frozen_of_heap hh2 0
    have hc:v2.cell? ⟨v1.heap.size,0,none⟩=some (.slice none 0 0):=by rw[World.cell?,hh2];rfl
    obtain⟨p1,p2,p3,p4⟩:=box_put (W:=W) hh2 hs1 (own_lower own2 hsV) (hbv.trans (g2.mono hsV))
    go_wp2
    exact⟨p3,Rf.pl_done ⟨_,_,_,_,_,_,_,_,_,_,_,rfl,p1,p2,p4⟩⟩
  ·go_wp2_with fail
   have g3:Below wd.heap.size wd (wd.alloc (.cells #[.slice none 0 0] 69)):=blw
   have hh:=heap_alloc_new wd (.cells #[.slice none 0 0] 69)
   have hsz3:(wd.alloc (.cells #[.slice none 0 0] 69)).heap.size=wd.heap.size+1:=by simp
   refine⟨g3.mono hle,Rf.pl_one ?_⟩
   have hbv:=hbd.trans (g3.mono hle)
   generalize wd.alloc (.cells #[.slice none 0 0] 69)=V at *
   have hsV:W.heap.size<=V.heap.size:=by omega
   go_wp2_with (refine(hnv V hbv).mono ?_;rintro e v1 ⟨x1,rfl,own1,g1⟩)
   obtain⟨A1,m1,rfl,_,r1⟩:=own_slice own1
   have G1:Below W.heap.size V v1:=g1.mono hsV
   have hs1:W.heap.size<=v1.heap.size:=Nat.le_trans hsV g1.size
   clear own1
   rw[hkn]
   refine⟨G1,Rf.pl_one ?_⟩
   go_wp2_with (refine(hpv no m1 A1 v1 (hbv.trans G1) hkn hlo r1).mono ?_;rintro e v2 ⟨x2,rfl,own2,g2⟩)
   obtain⟨A2,m2,rfl,_,_⟩:=own_slice own2
   rw[hpn]at own2 ⊢
   refine⟨g2.mono hs1,Rf.pl_one ?_⟩
   have hh2:=KeepT.below g2 _ _ _ (KeepT.below g1 _ _ _ hh)
   have hf:=Lib.frozen_of_heap hh2 0
   have hc:v2.cell? ⟨wd.heap.size,0,none⟩=some (.slice none 0 0):=by rw[World.cell?,hh2];rfl
   obtain⟨p1,p2,p3,p4⟩:=box_put (W:=W) hh2 hle (own_lower own2 hs1) ((hbv.trans G1).trans (g2.mono hs1))
   go_wp2
   exact⟨p3,Rf.pl_done ⟨_,_,_,_,_,_,_,_,_,_,_,rfl,p1,p2,p4⟩⟩
 ·rintro a W1 ⟨pb,cp,Ap,u4,u5,u6,u7,u8,u9,u10,u11,rfl,hpb,hown,hb1⟩
  obtain⟨A2,m2,e2,_,r2⟩:=own_slice hown
  simp only[Value.slice.injEq]at e2
  obtain⟨rfl,-,rfl⟩:=e2
  have hI:=hasInts ps (-1) Ap cp no W1 hpn (by omega) r2
  have c3:W1.cell? ⟨pb,0,none⟩=some (.slice Ap no cp):=by rw[World.cell?,hpb];rfl
  have c1:W1.cell? ⟨w.heap.size,0,none⟩=some (.pointer (some ⟨b,0,none⟩)):=by rw[World.cell?,KeepT.below hb1 _ _ _ hkb];rfl
  obtain⟨t,ht⟩:∃t,ps.contains (-1)=t:=⟨_,rfl⟩
  have HT:=Lib.hid ht
  rw[ht]at hI
  have H1:=Lib.hid (And.intro hpb (And.intro hown (And.intro hb1 (And.intro (KeepT.below hb1 _ _ _ hkb) hpn))))
  clear hpb hown hb1 ht r2 hnv hpv c7 hkb hpn hkn
  cases t
  ·obtain⟨rfl,rfl⟩:=hLN.out.2 HT.out
   clear hLN
   obtain⟨hbb,va,vr,hblk,hva,xs,hrow,hall⟩:=H.out.2.2.2.2.2.2.2.2.on H1.out.2.2.1
   have hB1:=below_tr H.out.2.2.2.2.2.2.2.1 H1.out.2.2.1
   rcases RowV.of_own hrow with ⟨rfl,h0,rfl⟩|⟨g,cap,rest,rfl,hbg,hV,hnc,hcm,hxn,hrc⟩
   ·obtain rfl:rows=[]:=List.eq_nil_of_length_eq_zero h0
    have c2:W1.cell? ⟨b,1,none⟩=some (.slice none 0 0):=by simp[World.cell?,hblk]
    have HF:Hid (StepR W0 b vars (sortK (keysP ps keys) []) [q0,q1,q2,q3,q4,.slice Ao no co,q6,q7] 0 (.returned (.int .i64 0)) W1):=⟨rfl,⟨hbb,va,_,hblk,hva,by unfold sortK;rw[List.mergeSort_nil];exact OwnRs.nil _ _⟩,hB1⟩
    clear hbb hblk hva hrow hall hB1
    go_wp2_with (first
     | (go_at_call 94;refine hI.mono ?_;rintro e w1 ⟨rfl,rfl⟩)
     | (go_at_call 78;refine(sortStableNone _ _ _ _).mono ?_;rintro e w1 ⟨rfl,rfl⟩))
    go_ret
    exact HF.out
   ·obtain⟨n,hn⟩:∃n,rows.length=n:=⟨_,rfl⟩
    rw[hn]at hblk hnc hxn hrc
    have c2:W1.cell? ⟨b,1,none⟩=some (.slice (some ⟨g,0,none⟩) n cap):=by simp[World.cell?,hblk]
    have hl:=H.out.2.2.2.2.2.1
    by_cases hn0:n=0
    ·subst hn0
     obtain rfl:rows=[]:=List.eq_nil_of_length_eq_zero hn
     have HF:Hid (StepR W0 b vars (sortK (keysP ps keys) []) [q0,q1,q2,q3,q4,.slice Ao no co,q6,q7] 0 (.returned (.int .i64 0)) W1):=⟨rfl,⟨hbb,va,_,hblk,hva,xs,by unfold sortK;rw[List.mergeSort_nil];exact hrow,by unfold sortK;rw[List.mergeSort_nil];exact hall⟩,hB1⟩
     clear hbb hblk hva hrow hall hB1 hV
     go_wp2_with (first
      | (go_at_call 94;refine hI.mono ?_;rintro e w1 ⟨rfl,rfl⟩)
      | (go_at_call 78;refine(sortStableNone _ _ _ _).mono ?_;rintro e w1 ⟨rfl,rfl⟩))
     go_ret
     exact HF.out
    ·have hS:=sortRows W0 H.out.2.1 ps keys pb w.heap.size b vars.length no cp co cap n g Ap Ao xs rest _ rows W1 hB1 hbg hV hall hn (by omega) (by omega) H.out.2.2.2.1 H.out.2.2.2.2.1 H1.out.2.2.2.2 hno hlo (H.out.2.2.2.2.2.2.1 HT.out) H1.out.1 H1.out.2.2.2.1 hblk (by rfl) (own_lower H1.out.2.1 hszW) H.out.2.2.1
     have HK:=Lib.hid (And.intro hbb (And.intro hblk (And.intro hva (And.intro hbg (And.intro hnc (And.intro hcm (And.intro hxn (And.intro hrc hn))))))))
     clear hbb hblk hva hrow hall hB1 hV hbg hnc hcm hxn hrc hn
     go_wp2_with (first
      | (go_at_call 94;refine hI.mono ?_;rintro e w1 ⟨rfl,rfl⟩)
      | (go_at_call 78;refine hS.mono ?_;rintro e w9 ⟨rfl,hb9,hk9,ys,hV9,ha9⟩))
     have HF:Hid (StepR W0 b vars (sortK (keysP ps keys) rows) [q0,q1,q2,q3,q4,.slice Ao no co,q6,q7] 0 (.returned (.int .i64 0)) w9):=by
      obtain⟨hbb,hblk,hva,hbg,hnc,hcm,hxn,hrc,hn⟩:=HK.out
      have hln:(sortK (keysP ps keys) rows).length=n:=by unfold sortK;rw[List.length_mergeSort,hn]
      have hyn:ys.length=n:=by rw[ha9.len,hln,Nat.mul_one]
      refine⟨rfl,⟨hbb,va,_,hk9 _ (by decide) _ _ _ hblk,own_keep hva (hk9 _ (by decide)),ys,?_,ha9⟩,hb9⟩
      rw[hln]
      exact hV9.own hbg hyn hrc hcm
     clear hb9 hk9 hV9 ha9
     go_wp2
     go_ret
     exact HF.out
  ·obtain⟨e1,rfl⟩:=hLN.out.1 HT.out
   clear hLN
   have HF:Hid (StepR W0 b vars L [q0,q1,q2,q3,q4,.slice Ao no co,q6,q7] 15 (.returned (.int .i64 15)) W1):=by
    rw[e1]
    exact⟨rfl,H.out.2.2.2.2.2.2.2.2.on H1.out.2.2.1,below_tr H.out.2.2.2.2.2.2.2.1 H1.out.2.2.1⟩
   go_wp2_with (go_at_call 94;refine hI.mono ?_;rintro e w1 ⟨rfl,rfl⟩)
   go_ret
   exact HF.out
end Go.Proofs.YtoejnneknpoanaaGreatDoor
