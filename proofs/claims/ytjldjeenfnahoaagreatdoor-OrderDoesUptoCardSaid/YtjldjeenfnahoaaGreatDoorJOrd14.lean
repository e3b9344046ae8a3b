/- The program's package order, walked: (*worker).sorted. The p -/
import Derived.Test.YtjldjeenfnahoaaGreatDoorJFilOf
set_option maxHeartbeats 8000000
set_option maxRecDepth 100000
namespace Go.Proofs.YtjldjeenfnahoaaGreatDoor
open Go Go.RowKit Fm Tx Om Mp
theorem hasInts (l:List Int) (x:Int) (A:Option Addr) (c n:Nat) (w:World) (hn:l.length=n) (hl:n<=1000000000) (hr:Rd w A (l.map (Value.int .i64))) :
  Calls Tryz.prog 76 #[.slice A n c,.int .i64 x] w λe w'=>e=.returned (.bool (l.contains x))/\w=w':=by
 subst hn
 rcases hr with h0|⟨g,o,rfl,hc⟩
 ·obtain rfl:l=[]:=by simpa using h0
  have:=df A c x w
  exact this.mono λe w' h=>⟨h.1,h.2.symm⟩
 ·refine(eN g o l.length c l x w (Nat.le_refl _) (by omega) λj hj=>?_).mono λe w' h=>?_
  ·have e:l[j]?=some l[j]:=List.getElem?_eq_getElem hj
   have:=hc j (.int .i64 l[j]) (by rw[List.getElem?_map,e];rfl)
   rw[List.getD_eq_getElem?_getD,e]
   exact this
  ·rw[List.take_length]at h
   exact⟨h.1,h.2.symm⟩
theorem pw {base:Nat} {W V:World} {pb no cp:Nat} {Ap:Option Addr} {l:List Value} (hb:V.heap[pb]?=some (Obj.cells #[.slice none 0 0] 58 (0,0))) (hp:base<=pb) (ho:V.ownsRow base 3 1 (.slice Ap no cp) no l) (hB:Below base W V) :
  (V.setCell ⟨pb,0,none⟩ (.slice Ap no cp)).heap[pb]?=some (Obj.cells #[.slice Ap no cp] 58 (0,0))/\(V.setCell ⟨pb,0,none⟩ (.slice Ap no cp)).ownsRow base 3 1 (.slice Ap no cp) no l/\Below base V (V.setCell ⟨pb,0,none⟩ (.slice Ap no cp))/\Below base W (V.setCell ⟨pb,0,none⟩ (.slice Ap no cp)):=by
 refine⟨?_,own_keep ho (KeepT.setCell hb (by decide)),(Below.refl _ _).setCell (p:=⟨pb,0,none⟩) hp _,hB.setCell (p:=⟨pb,0,none⟩) hp _⟩
 have:=aR hb 0 (.slice Ap no cp)
 simpa using this
def dD (vars:List ByteArray) (keys:List Ky):Int:=if (av vars (keys.map (·.v))).contains (-1) then 15 else 0
def dR (vars:List ByteArray) (keys:List Ky) (rows:List (List Tm)):List (List Tm):=if (av vars (keys.map (·.v))).contains (-1) then rows else dS (aQ (av vars (keys.map (·.v))) keys) rows
theorem gy {vars:List ByteArray} {names:List ByteArray} (h:(av vars names).contains (-1)=false):∀p∈av vars names,0<=p/\p<vars.length:=by
 intro p hp
 have hne:p ≠ -1:=λe=>by
  subst e
  rw[List.contains_iff_mem.2 hp]at h;cases h
 obtain⟨s,_,rfl⟩:=List.mem_map.1 hp
 have:=dN vars s
 omega
theorem vx (W0:World) (hC:dJ W0) (b:Nat) (vars:List ByteArray) (rows:List (List Tm)) (keys:List Ky) (q0 q1 q2 q3 q4 q6 q7:Value) (Ao:Option Addr) (no co:Nat) (w:World) (hB:Below W0.heap.size W0 w)
  (hW:dH W0.heap.size w b vars rows [q0,q1,q2,q3,q4,.slice Ao no co,q6,q7]) (hno:keys.length=no) (hlo:no<=1000000) (hky:eF W0 Ao keys) (hz:∀r∈rows,bD r) (hw:∀r∈rows,r.length=vars.length) (hlv:vars.length<=1000000) (hl:rows.length<=1000000) :
  Calls Tryz.prog 48 #[.pointer (some ⟨b,0,none⟩)] w (dt W0 b vars (dR vars keys rows) [q0,q1,q2,q3,q4,.slice Ao no co,q6,q7] (dD vars keys)):=by
 obtain⟨ps,hps⟩:∃ps,av vars (keys.map (·.v))=ps:=⟨_,rfl⟩
 have hpn:ps.length=no:=by rw[←hps,←hno];simp[av]
 have hpi:=@gy vars (keys.map (·.v))
 have hLN:Hid ((ps.contains (-1)=true->dR vars keys rows=rows/\dD vars keys=15)/\(ps.contains (-1)=false->dR vars keys rows=dS (aQ ps keys) rows/\dD vars keys=0)):=by
  unfold dR dD
  rw[hps]
  exact⟨λh=>⟨if_pos h,if_pos h⟩,λh=>⟨if_neg (by rw[h];decide),if_neg (by rw[h];decide)⟩⟩
 generalize dR vars keys rows=L at *
 generalize dD vars keys=N at *
 rw[hps]at hpi
 obtain⟨W,hWd⟩:∃W:World,w.alloc (.cells #[.pointer (some ⟨b,0,none⟩)] 79)=W:=⟨_,rfl⟩
 have hal:Below w.heap.size w W:=by rw[←hWd];exact blw
 have hkb:W.heap[w.heap.size]?=some (Obj.cells #[.pointer (some ⟨b,0,none⟩)] 79 (0,0)):=by rw[←hWd];exact heap_alloc_new w _
 have hBW:Below W0.heap.size W0 W:=aa hB hal
 have hWW:=hW.on hal
 have hsz:=hB.size
 have hszW:=hBW.size
 clear hW hB hal
 have H:=Lib.hid (And.intro hWd (And.intro hC (And.intro hky (And.intro hz (And.intro hw (And.intro hl (And.intro hpi (And.intro hBW hWW))))))))
 have hnv:=λW' (h:Below W.heap.size W W')=>yc keys no co Ao W' hno hlo (RdL.mono hky (aa hBW h) (λ_ _ _ h=>h))
 have hpv:=λ(m c:Nat) (A:Option Addr) (W':World) (h:Below W.heap.size W W') (hm:(keys.map (·.v)).length=m) (hm1:m<=1000000) (hr:Rd W' A ((keys.map (·.v)).map Value.string))=>(show Calls Tryz.prog 74 #[.pointer (some ⟨b,0,none⟩),.slice A m c] W' (pR ps W') from by
  obtain⟨Av,cv,_,_,h0,_,hrv,_⟩:=(hWW.on h).cell0
  rw[←hps]
  exact nO vars (keys.map (·.v)) b vars.length cv m c Av A W' rfl hm hlv hm1 h0 hrv hr)
 have c7:∀W',Below W.heap.size W W'->W'.cell? ⟨b,7,none⟩=some (.slice Ao no co):=λW' h=>by
  obtain⟨_,va,vr,h1,_⟩:=hWW.on h
  simp[World.cell?,h1]
 have hkn:(keys.map (·.v)).length=no:=by simpa using hno
 clear hky hC hz hw hl hpi hBW hWW hps
 go_enter Tryz.func48,Tryz.ntmps48
 go_wp2
 clear hWd
 refine Rf.p0 W.heap.size ?R (.quiet [0,1,2,3,4,5] (.fork 6 8 (.fork 7 8 (.one 8 (.one 9 (.done))) (.one 7 (.one 9 (.done)))) (.one 6 (.one 7 (.one 9 (.done)))))) ?_ ?_
 case R=>exact λa W'=>∃(pb cp:Nat) (Ap:Option Addr) (u4 u5 u6 u7 u8 u9 u10 u11:Value),a={tmps:=#[.pointer (some ⟨b,0,none⟩),.pointer (some ⟨w.heap.size,0,none⟩),.int .i64 0,.pointer (some ⟨pb,0,none⟩),u4,u5,u6,u7,u8,u9,u10,u11,undef,undef,undef,undef,undef,undef,undef,undef,undef],defers:=[]}/\W'.heap[pb]?=some (Obj.cells #[.slice Ap no cp] 58 (0,0))/\W'.ownsRow W.heap.size 3 1 (.slice Ap no cp) no (ps.map (Value.int .i64))/\Below W.heap.size W W'
 ·intro wd hbd hwz
  have d0:=cellL (show W.cell? ⟨w.heap.size,0,none⟩=some (.pointer (some ⟨b,0,none⟩)) from by rw[World.cell?,hkb];rfl) hbd
  have d7:=cellL (c7 W (Below.refl _ _)) hbd
  have Hz:=Lib.hid hwz
  have hle:W.heap.size<=wd.heap.size:=hbd.size
  clear hwz
  refine Rf.pl_quiet ?_
  iterate 6 go_big_quiet_step (fail)
  refine wpQuiet_nil (Rf.pl_fork ?_ ?_)
  ·go_wp2_with (refine(hnv wd hbd).mono ?_;rintro e v1 ⟨x1,rfl,own1,g1⟩)
   obtain⟨A1,m1,rfl,_,r1⟩:=own_slice own1
   have G1:Below W.heap.size wd v1:=g1.mono hle
   have hs1:W.heap.size<=v1.heap.size:=Nat.le_trans hle g1.size
   clear own1
   rw[hkn]
   refine⟨G1,Rf.pl_fork ?_ ?_⟩
   ·go_wp2_with (refine(hpv no m1 A1 v1 (hbd.trans G1) hkn hlo r1).mono ?_;rintro e v2 ⟨x2,rfl,own2,g2⟩)
    obtain⟨A2,m2,rfl,_,_⟩:=own_slice own2
    rw[hpn]at own2 ⊢
    have hs2:W.heap.size<=v2.heap.size:=Nat.le_trans hs1 g2.size
    refine⟨g2.mono hs1,Rf.pl_one ?_⟩
    go_wp2_with fail
    have g3:Below v2.heap.size v2 (v2.alloc (.cells #[.slice none 0 0] 58)):=blw
    refine⟨g3.mono hs2,Rf.pl_one ?_⟩
    have hh:=heap_alloc_new v2 (.cells #[.slice none 0 0] 58)
    generalize v2.alloc (.cells #[.slice none 0 0] 58)=V at *
    have hf:=Lib.frozen_of_heap hh 0
    have hc:V.cell? ⟨v2.heap.size,0,none⟩=some (.slice none 0 0):=by rw[World.cell?,hh];rfl
    obtain⟨p1,p2,p3,p4⟩:=pw (W:=W) hh hs2 (own_lower (own_below own2 g3 (Nat.le_refl _)) hs1) (((hbd.trans G1).trans (g2.mono hs1)).trans (g3.mono hs2))
    go_wp2
    exact⟨p3,Rf.pl_done ⟨_,_,_,_,_,_,_,_,_,_,_,rfl,p1,p2,p4⟩⟩
   ·go_wp2_with fail
    have g3:Below v1.heap.size v1 (v1.alloc (.cells #[.slice none 0 0] 58)):=blw
    have hh:=heap_alloc_new v1 (.cells #[.slice none 0 0] 58)
    have hsz3:(v1.alloc (.cells #[.slice none 0 0] 58)).heap.size=v1.heap.size+1:=by simp
    refine⟨g3.mono hs1,Rf.pl_one ?_⟩
    have r2:=r1.later g3
    have hbv:=(hbd.trans G1).trans (g3.mono hs1)
    generalize v1.alloc (.cells #[.slice none 0 0] 58)=V at *
    go_wp2_with (refine(hpv no m1 A1 V hbv hkn hlo r2).mono ?_;rintro e v2 ⟨x2,rfl,own2,g2⟩)
    obtain⟨A2,m2,rfl,_,_⟩:=own_slice own2
    rw[hpn]at own2 ⊢
    have hsV:W.heap.size<=V.heap.size:=by omega
    refine⟨g2.mono hsV,Rf.pl_one ?_⟩
    have hh2:=KeepT.below g2 _ _ _ hh
    have hf:=Lib.frozen_of_heap hh2 0
    have hc:v2.cell? ⟨v1.heap.size,0,none⟩=some (.slice none 0 0):=by rw[World.cell?,hh2];rfl
    obtain⟨p1,p2,p3,p4⟩:=pw (W:=W) hh2 hs1 (own_lower own2 hsV) (hbv.trans (g2.mono hsV))
    go_wp2
    exact⟨p3,Rf.pl_done ⟨_,_,_,_,_,_,_,_,_,_,_,rfl,p1,p2,p4⟩⟩
  ·go_wp2_with fail
   have g3:Below wd.heap.size wd (wd.alloc (.cells #[.slice none 0 0] 58)):=blw
   have hh:=heap_alloc_new wd (.cells #[.slice none 0 0] 58)
   have hsz3:(wd.alloc (.cells #[.slice none 0 0] 58)).heap.size=wd.heap.size+1:=by simp
   refine⟨g3.mono hle,Rf.pl_one ?_⟩
   have hbv:=hbd.trans (g3.mono hle)
   generalize wd.alloc (.cells #[.slice none 0 0] 58)=V at *
   have hsV:W.heap.size<=V.heap.size:=by omega
   go_wp2_with (refine(hnv V hbv).mono ?_;rintro e v1 ⟨x1,rfl,own1,g1⟩)
   obtain⟨A1,m1,rfl,_,r1⟩:=own_slice own1
   have G1:Below W.heap.size V v1:=g1.mono hsV
   have hs1:W.heap.size<=v1.heap.size:=Nat.le_trans hsV g1.size
   clear own1
   rw[hkn]
   refine⟨G1,Rf.pl_one ?_⟩
   go_wp2_with (refine(hpv no m1 A1 v1 (hbv.trans G1) hkn hlo r1).mono ?_;rintro e v2 ⟨x2,rfl,own2,g2⟩)
   obtain⟨A2,m2,rfl,_,_⟩:=own_slice own2
   rw[hpn]at own2 ⊢
   refine⟨g2.mono hs1,Rf.pl_one ?_⟩
   have hh2:=KeepT.below g2 _ _ _ (KeepT.below g1 _ _ _ hh)
   have hf:=Lib.frozen_of_heap hh2 0
   have hc:v2.cell? ⟨wd.heap.size,0,none⟩=some (.slice none 0 0):=by rw[World.cell?,hh2];rfl
   obtain⟨p1,p2,p3,p4⟩:=pw (W:=W) hh2 hle (own_lower own2 hs1) ((hbv.trans G1).trans (g2.mono hs1))
   go_wp2
   exact⟨p3,Rf.pl_done ⟨_,_,_,_,_,_,_,_,_,_,_,rfl,p1,p2,p4⟩⟩
 ·rintro a W1 ⟨pb,cp,Ap,u4,u5,u6,u7,u8,u9,u10,u11,rfl,hpb,hown,hb1⟩
  obtain⟨A2,m2,e2,_,r2⟩:=own_slice hown
  simp only[Value.slice.injEq]at e2
  obtain⟨rfl,-,rfl⟩:=e2
  have hI:=hasInts ps (-1) Ap cp no W1 hpn (by omega) r2
  have c3:W1.cell? ⟨pb,0,none⟩=some (.slice Ap no cp):=by rw[World.cell?,hpb];rfl
  have c1:W1.cell? ⟨w.heap.size,0,none⟩=some (.pointer (some ⟨b,0,none⟩)):=by rw[World.cell?,KeepT.below hb1 _ _ _ hkb];rfl
  obtain⟨t,ht⟩:∃t,ps.contains (-1)=t:=⟨_,rfl⟩
  have HT:=Lib.hid ht
  rw[ht]at hI
  have H1:=Lib.hid (And.intro hpb (And.intro hown (And.intro hb1 (And.intro (KeepT.below hb1 _ _ _ hkb) hpn))))
  clear hpb hown hb1 ht r2 hnv hpv c7 hkb hpn hkn
  cases t
  ·obtain⟨rfl,rfl⟩:=hLN.out.2 HT.out
   clear hLN
   obtain⟨hbb,va,vr,hblk,hva,xs,hrow,hall⟩:=H.out.2.2.2.2.2.2.2.2.on H1.out.2.2.1
   have hB1:=aa H.out.2.2.2.2.2.2.2.1 H1.out.2.2.1
   rcases bI.of_own hrow with ⟨rfl,h0,rfl⟩|⟨g,cap,rest,rfl,hbg,hV,hnc,hcm,hxn,hrc⟩
   ·obtain rfl:rows=[]:=List.eq_nil_of_length_eq_zero h0
    have c2:W1.cell? ⟨b,1,none⟩=some (.slice none 0 0):=by simp[World.cell?,hblk]
    have HF:Hid (dt W0 b vars (dS (aQ ps keys) []) [q0,q1,q2,q3,q4,.slice Ao no co,q6,q7] 0 (.returned (.int .i64 0)) W1):=⟨rfl,⟨hbb,va,_,hblk,hva,by unfold dS;rw[List.mergeSort_nil];exact OwnRs.nil _ _⟩,hB1⟩
    clear hbb hblk hva hrow hall hB1
    go_wp2_with (first
     | (go_at_call 76;refine hI.mono ?_;rintro e w1 ⟨rfl,rfl⟩)
     | (go_at_call 77;refine(fQ _ _ _ _).mono ?_;rintro e w1 ⟨rfl,rfl⟩))
    go_ret
    exact HF.out
   ·obtain⟨n,hn⟩:∃n,rows.length=n:=⟨_,rfl⟩
    rw[hn]at hblk hnc hxn hrc
    have c2:W1.cell? ⟨b,1,none⟩=some (.slice (some ⟨g,0,none⟩) n cap):=by simp[World.cell?,hblk]
    have hl:=H.out.2.2.2.2.2.1
    by_cases hn0:n=0
    ·subst hn0
     obtain rfl:rows=[]:=List.eq_nil_of_length_eq_zero hn
     have HF:Hid (dt W0 b vars (dS (aQ ps keys) []) [q0,q1,q2,q3,q4,.slice Ao no co,q6,q7] 0 (.returned (.int .i64 0)) W1):=⟨rfl,⟨hbb,va,_,hblk,hva,xs,by unfold dS;rw[List.mergeSort_nil];exact hrow,by unfold dS;rw[List.mergeSort_nil];exact hall⟩,hB1⟩
     clear hbb hblk hva hrow hall hB1 hV
     go_wp2_with (first
      | (go_at_call 76;refine hI.mono ?_;rintro e w1 ⟨rfl,rfl⟩)
      | (go_at_call 77;refine(fQ _ _ _ _).mono ?_;rintro e w1 ⟨rfl,rfl⟩))
     go_ret
     exact HF.out
    ·have hS:=xk W0 H.out.2.1 ps keys pb w.heap.size b vars.length no cp co cap n g Ap Ao xs rest _ rows W1 hB1 hbg hV hall hn (by omega) (by omega) H.out.2.2.2.1 H.out.2.2.2.2.1 H1.out.2.2.2.2 hno hlo (H.out.2.2.2.2.2.2.1 HT.out) H1.out.1 H1.out.2.2.2.1 hblk (by rfl) (own_lower H1.out.2.1 hszW) H.out.2.2.1
     have HK:=Lib.hid (And.intro hbb (And.intro hblk (And.intro hva (And.intro hbg (And.intro hnc (And.intro hcm (And.intro hxn (And.intro hrc hn))))))))
     clear hbb hblk hva hrow hall hB1 hV hbg hnc hcm hxn hrc hn
     go_wp2_with (first
      | (go_at_call 76;refine hI.mono ?_;rintro e w1 ⟨rfl,rfl⟩)
      | (go_at_call 77;refine hS.mono ?_;rintro e w9 ⟨rfl,hb9,hk9,ys,hV9,ha9⟩))
     have HF:Hid (dt W0 b vars (dS (aQ ps keys) rows) [q0,q1,q2,q3,q4,.slice Ao no co,q6,q7] 0 (.returned (.int .i64 0)) w9):=by
      obtain⟨hbb,hblk,hva,hbg,hnc,hcm,hxn,hrc,hn⟩:=HK.out
      have hln:(dS (aQ ps keys) rows).length=n:=by unfold dS;rw[List.length_mergeSort,hn]
      have hyn:ys.length=n:=by rw[ha9.len,hln,Nat.mul_one]
      refine⟨rfl,⟨hbb,va,_,hk9 _ (by decide) _ _ _ hblk,own_keep hva (hk9 _ (by decide)),ys,?_,ha9⟩,hb9⟩
      rw[hln]
      exact hV9.own hbg hyn hrc hcm
     clear hb9 hk9 hV9 ha9
     go_wp2
     go_ret
     exact HF.out
  ·obtain⟨e1,rfl⟩:=hLN.out.1 HT.out
   clear hLN
   have HF:Hid (dt W0 b vars L [q0,q1,q2,q3,q4,.slice Ao no co,q6,q7] 15 (.returned (.int .i64 15)) W1):=by
    rw[e1]
    exact⟨rfl,H.out.2.2.2.2.2.2.2.2.on H1.out.2.2.1,aa H.out.2.2.2.2.2.2.2.1 H1.out.2.2.1⟩
   go_wp2_with (go_at_call 76;refine hI.mono ?_;rintro e w1 ⟨rfl,rfl⟩)
   go_ret
   exact HF.out
def be (ps:List Int) (row:List Tm):List Tm:=ps.map λp=>row[p.toNat]!
def iO (f:List Tm->List Tm) (rows:List (List Tm)) (k:Nat):List (List Tm):=(rows.take k).map f++rows.drop k
theorem yx (f:List Tm->List Tm) (rows:List (List Tm)) (k:Nat):(iO f rows k).length=rows.length:=by unfold iO;simp;omega
theorem B7 {f:List Tm->List Tm} {rows:List (List Tm)} {k:Nat} {r:List Tm} (h:rows[k]?=some r):(iO f rows k)[k]?=some r:=by
 have hk:k<rows.length:=(List.getElem?_eq_some_iff.1 h).1
 unfold iO
 rw[List.getElem?_append_right (by simp;omega),List.getElem?_drop]
 simpa[Nat.min_eq_left (Nat.le_of_lt hk)] using h
theorem yw {f:List Tm->List Tm} {rows:List (List Tm)} {k:Nat} {r:List Tm} (h:rows[k]?=some r):(iO f rows k).set k (f r)=iO f rows (k+1):=by
 have hk:k<rows.length:=(List.getElem?_eq_some_iff.1 h).1
 have hl:((rows.take k).map f).length=k:=by simp;omega
 unfold iO
 rw[an h,ah h,List.set_append_right _ _ (by omega),hl,Nat.sub_self,List.set_cons_zero,List.map_append,List.append_assoc]
 rfl
theorem yy (f:List Tm->List Tm) (rows:List (List Tm)):iO f rows rows.length=rows.map f:=by unfold iO;simp
theorem All.set1 {α:Type} {R:List Value->α->Prop} {v:Value} {x:α} (hx:R [v] x):∀{l:List α} {vs:List Value} (_:All 1 R vs l) (k:Nat),All 1 R (vs.set k v) (l.set k x)
 | [],vs,h,k=>by
  obtain rfl:vs=[]:=h
  exact rfl
 | y::l,vs,h,k=>by
  obtain⟨cs,ys,rfl,hc,ho,ht⟩:=h
  match cs,hc with
  | [u],_ =>
   cases k with
   | zero=>exact⟨[v],ys,rfl,rfl,hx,ht⟩
   | succ k=>exact⟨[u],ys.set k v,rfl,rfl,ho,All.set1 hx ht k⟩
def bX (vars names:List ByteArray):Int:=if !decide names.Nodup then 9 else if (av vars names).contains (-1) then 15 else 0
theorem zU {base b:Nat} {W:World} {va va' vr:Value} {names:List ByteArray} {rows:List (List Tm)} {qc:List Value} (hb:base<=b) (h1:W.heap[b]?=some (Obj.cells (va::vr::qc).toArray 109 (0,0))) (h2:W.ownsRow base 9 1 va' names.length (names.map Value.string)) (h3:OwnRs base W vr rows) :
  dH base (W.setCell ⟨b,0,none⟩ va') b names rows qc:=by
 have hk:∀e,109≠e->KeepT e W (W.setCell ⟨b,0,none⟩ va'):=λe he=>KeepT.setCell h1 he
 refine⟨hb,va',vr,?_,own_keep h2 (hk _ (by decide)),h3.keep (hk _ (by decide)) (hk _ (by decide))⟩
 have:=aR h1 0 va'
 simpa using this
def kn (W0:World) (b:Nat) (va vr vp:Value) (vars:List ByteArray) (qc:List Value) (ps:List Int) (l:List (List Tm)) (W:World):Prop:=
 W.heap[b]?=some (Obj.cells (va::vr::qc).toArray 109 (0,0))/\W.ownsRow W0.heap.size 9 1 va vars.length (vars.map Value.string)/\OwnRs W0.heap.size W vr l/\W.ownsRow W0.heap.size 3 1 vp ps.length (ps.map (Value.int .i64))/\Below W0.heap.size W0 W
theorem kn.on {W0 W W':World} {b:Nat} {va vr vp:Value} {vars:List ByteArray} {qc:List Value} {ps:List Int} {l:List (List Tm)} (h:kn W0 b va vr vp vars qc ps l W) (hb:Below W.heap.size W W'):kn W0 b va vr vp vars qc ps l W':=
 ⟨KeepT.below hb _ _ _ h.1,own_keep h.2.1 (KeepT.below hb),h.2.2.1.keep (KeepT.below hb) (KeepT.below hb),own_keep h.2.2.2.1 (KeepT.below hb),aa h.2.2.2.2 hb⟩
theorem kn.put {W0 W:World} {b k n g cap:Nat} {va vp v:Value} {vars:List ByteArray} {qc vs rest:List Value} {ps:List Int} {l:List (List Tm)} {x:List Tm} (h:kn W0 b va (.slice (some ⟨g,0,none⟩) n cap) vp vars qc ps l W) (hn:l.length=n) (hk:k<n) (hbg:W0.heap.size<=g) (hV:bI g vs rest W) (hall:All 1 (OwnRow W0.heap.size W) vs l) (hcm:cap<=maxLen) (hrc:n+rest.length=cap) (hx:OwnRow W0.heap.size W [v] x) :
  kn W0 b va (.slice (some ⟨g,0,none⟩) n cap) vp vars qc ps (l.set k x) (W.setCell ⟨g,k,none⟩ v):=by
 obtain⟨h1,h2,h3,h4,h5⟩:=h
 have hl:=hall.len
 have hK:∀e,69≠e->KeepT e W (W.setCell ⟨g,k,none⟩ v):=λe he=>KeepT.setCell hV he
 refine⟨hK _ (by decide) _ _ _ h1,own_keep h2 (hK _ (by decide)),⟨vs.set k v,?_,(All.set1 hx hall k).mono λ_ _ _ y=>y.keep (hK _ (by decide))⟩,own_keep h4 (hK _ (by decide)),h5.setCell (p:=⟨g,k,none⟩) hbg _⟩
 have:=(hV.put (i:=k) (by omega) v).own hbg (n:=n) (by simp;omega) hrc hcm
 rw[List.length_set,hn]
 exact this
theorem so (W0:World) (b:Nat) (vars names:List ByteArray) (rows:List (List Tm)) (q0 q1 q3 q4 q5 q6 q7:Value) (Av:Option Addr) (nq cq:Nat) (w:World) (hB:Below W0.heap.size W0 w)
  (hW:dH W0.heap.size w b vars rows [q0,q1,.slice Av nq cq,q3,q4,q5,q6,q7]) (hnq:names.length=nq) (hlq:nq<=1000000) (hcq:nq<=cq) (hrq:Rd W0 Av (names.map Value.string)) (hw:∀r∈rows,r.length=vars.length) (hlv:vars.length<=1000000) (hl:rows.length<=1000000) :
  Calls Tryz.prog 50 #[.pointer (some ⟨b,0,none⟩)] w λe w'=>(bX vars names≠0->dt W0 b vars rows [q0,q1,.slice Av nq cq,q3,q4,q5,q6,q7] (bX vars names) e w')/\(bX vars names=0->dt W0 b names (rows.map (be (av vars names))) [q0,q1,.slice Av nq cq,q3,q4,q5,q6,q7] 0 e w'):=by
 obtain⟨ps,hps⟩:∃ps,av vars names=ps:=⟨_,rfl⟩
 have hpn:ps.length=nq:=by rw[←hps,←hnq];simp[av]
 have hpi:=@gy vars names
 have hHW:=Lib.hid hW
 have hQ:Hid ((names.Nodup->ps.contains (-1)=false->bX vars names=0)/\(names.Nodup->ps.contains (-1)=true->bX vars names=15)/\(¬ names.Nodup->bX vars names=9)):=by
  unfold bX
  rw[hps]
  refine⟨λh1 h2=>?_,λh1 h2=>?_,λh1=>?_⟩
  ·rw[decide_eq_true h1,h2];rfl
  ·rw[decide_eq_true h1,h2];rfl
  ·rw[decide_eq_false h1];rfl
 obtain⟨hbb,va,vr,hblk,hva,hrs⟩:=hW
 obtain⟨Ag,cap,rfl,hnc,_⟩:=hrs.rd
 obtain⟨n,hn⟩:∃n,rows.length=n:=⟨_,rfl⟩
 rw[hn]at hblk hrs hl hnc
 have hU:=nN names Av cq nq w hnq (by omega) hcq (hrq.later hB)
 have hPl:Calls Tryz.prog 74 #[.pointer (some ⟨b,0,none⟩),.slice Av nq cq] w (pR ps w):=by
  obtain⟨A1,cv,_,_,h0,_,hrv,_⟩:=hHW.out.cell0
  rw[←hps]
  exact nO vars names b vars.length cv nq cq A1 Av w rfl hnq hlv hlq h0 hrv (hrq.later hB)
 have c4:w.cell? ⟨b,4,none⟩=some (.slice Av nq cq):=by simp[World.cell?,hblk]
 rw[hps]at hpi ⊢
 generalize bX vars names=N at *
 have H:=Lib.hid (And.intro hbb (And.intro hblk (And.intro hva (And.intro hrs (And.intro hB (And.intro hw (And.intro hn (And.intro hnq (And.intro hrq hpi)))))))))
 clear hbb hblk hva hrs hB hw hn hnq hrq hpi hps hnc
 go_enter Tryz.func50,Tryz.ntmps50
 by_cases hnd:names.Nodup
 ·have hdd:decide names.Nodup=true:=decide_eq_true hnd
  rw[hdd]at hU
  have hQ2:Hid ((ps.contains (-1)=false->N=0)/\(ps.contains (-1)=true->N=15)):=⟨hQ.out.1 hnd,hQ.out.2.1 hnd⟩
  clear hdd hQ hnd
  go_wp2_with (first
   | (go_at_call 42;refine hU.mono ?_;rintro e w1 ⟨rfl,rfl⟩)
   | (go_at_call 74;refine hPl.mono ?_;rintro e w1 ⟨vp,rfl,hown,hb1⟩;rw[hpn]at hown;obtain⟨Ap,cp,rfl,_,hrp⟩:=own_slice hown;have HP:=Lib.hid (And.intro hown (And.intro hb1 hrp));clear hown hb1 hrp)
   | (go_at_call 76;fail))
  have hI:=hasInts ps (-1) Ap cp nq w1 hpn (by omega) (by have:=HP.out.2.2;exact this)
  obtain⟨t,ht⟩:∃t,ps.contains (-1)=t:=⟨_,rfl⟩
  have HT:=Lib.hid ht
  rw[ht]at hI
  have HPS:Hid (kn W0 b va (.slice Ag n cap) (.slice Ap nq cp) vars [q0,q1,.slice Av nq cq,q3,q4,q5,q6,q7] ps (iO (be ps) rows 0) w1):=by
   obtain⟨hbb,hblk,hva,hrs,hB,hw,hn,_⟩:=H.out
   obtain⟨ho,hb1,_⟩:=HP.out
   have e0:iO (be ps) rows 0=rows:=by unfold iO;simp
   rw[e0]
   refine⟨KeepT.below hb1 _ _ _ hblk,own_keep hva (KeepT.below hb1),hrs.keep (KeepT.below hb1) (KeepT.below hb1),?_,aa hB hb1⟩
   rw[hpn]
   exact own_lower ho hB.size
  clear ht hU hPl c4
  cases t
  ·obtain rfl:=hQ2.out.1 HT.out
   clear hQ2
   refine hI.mono ?_
   rintro e w2 ⟨rfl,rfl⟩
   have hpl:=H.out.2.2.2.2.2.2.2.2.2 HT.out
   have c1:w1.cell? ⟨b,1,none⟩=some (.slice Ag n cap):=by simp[World.cell?,HPS.out.1]
   go_wp2
   go_loopw [31] (λi wr=>∃k:Nat,k<=n/\i=.int .i64 k/\Hid (kn W0 b va (.slice Ag n cap) (.slice Ap nq cp) vars [q0,q1,.slice Av nq cq,q3,q4,q5,q6,q7] ps (iO (be ps) rows k) wr)) (λi _=>n-(intOf i).toNat)
   case atStart=>exact⟨0,by omega,rfl,HPS⟩
   case round =>
    obtain⟨k,hk,rfl,HK⟩:=hrel
    by_cases hlt:k<n
    ·obtain⟨row,hrow⟩:∃r,rows[k]?=some r:=⟨_,List.getElem?_eq_getElem (by rw[H.out.2.2.2.2.2.2.1];exact hlt)⟩
     have hml:(iO (be ps) rows k).length=n:=by rw[yx];exact H.out.2.2.2.2.2.2.1
     obtain⟨vs,hvown,hall⟩:=HK.out.2.2.1
     rw[hml]at hvown
     rcases bI.of_own hvown with ⟨_,h0,_⟩|⟨g,cap',rest,e0,hbg,hV,_,hcm,hxn,hrc⟩
     ·omega
     simp only[Value.slice.injEq]at e0
     obtain⟨rfl,-,rfl⟩:=e0
     obtain⟨cs,_,hor,hcs⟩:=hall.at_ (B7 (f:=be ps) hrow)
     obtain⟨A,c,rfl,hlc,hrd⟩:=hor.rd
     have hvk:vs[k]?=some (.slice A row.length c):=by
      have:=hcs 0 _ rfl
      simpa using this
     have cg:=hV.cell hvk
     have hrl:row.length=vars.length:=H.out.2.2.2.2.2.1 row (List.mem_of_getElem? hrow)
     obtain⟨m,hm⟩:∃m,row.length=m:=⟨_,rfl⟩
     rw[hm]at hvk cg hlc hrl
     obtain⟨V,hVe⟩:∃V,V=wr:=⟨_,rfl⟩
     subst hVe
     have HR:=Lib.hid (And.intro hrow (And.intro hml (And.intro hall (And.intro hbg (And.intro hV (And.intro hcm (And.intro hrc (And.intro hrd hm))))))))
     have HS0:Hid (V.ownsRow V.heap.size 65 4 (.slice none 0 0) 0 ((be (ps.take 0) row).flatMap tmC)/\Below V.heap.size V V):=⟨World.ownsRow_nil _ _ _ _,Below.refl _ _⟩
     clear hrow hml hall hbg hV hcm hrc hrd hm hvown hxn hcs hor hvk HPS
     go_wp2
     go_loopw [6,38] (λv i wr=>∃j:Nat,j<=nq/\i=.int .i64 j/\Hid (wr.ownsRow V.heap.size 65 4 v j ((be (ps.take j) row).flatMap tmC)/\Below V.heap.size V wr)) (λ_ i _=>nq-(intOf i).toNat)
     case atStart=>exact⟨0,by omega,rfl,HS0⟩
     case round =>
      clear HS0
      obtain⟨j,hj,rfl,HJ⟩:=hrel
      obtain⟨A6,c6,rfl,_,_⟩:=own_slice HJ.out.1
      by_cases hjt:j<nq
      ·obtain⟨p,hp⟩:∃p,ps[j]?=some p:=⟨_,List.getElem?_eq_getElem (by rw[hpn];exact hjt)⟩
       obtain⟨q1',q2'⟩:=hpl p (List.mem_of_getElem? hp)
       obtain⟨q,rfl⟩:∃q:Nat,p=(q:Int):=⟨p.toNat,by omega⟩
       obtain⟨A8,c8,e8,_,hrp⟩:=own_slice (own_keep HK.out.2.2.2.1 (KeepT.below HJ.out.2))
       simp only[Value.slice.injEq]at e8
       obtain⟨rfl,-,rfl⟩:=e8
       obtain⟨gp,op,rfl,hcp⟩:=hrp.at_ (j:=j) (u:=.int .i64 q) (by rw[List.getElem?_map,hp];rfl)
       obtain⟨x,hx⟩:∃x,row[q]?=some x:=⟨_,List.getElem?_eq_getElem (by rw[HR.out.2.2.2.2.2.2.2.2];omega)⟩
       obtain⟨g1,o1,rfl,a0,a1,a2,a3⟩:=(RdTs.later HR.out.2.2.2.2.2.2.2.1 HJ.out.2).at4 hx
       have hqm:(q:Int)<(m:Int):=by omega
       have hsn:Hid ((be (ps.take (j+1)) row).flatMap tmC=(be (ps.take j) row).flatMap tmC++[.int .i64 x.k,.string x.x,.string x.l,.string x.y]):=by
        show _=_
        rw[ah hp]
        unfold be
        rw[List.map_append,List.flatMap_append]
        show _++[row[(q:Int).toNat]!].flatMap tmC=_
        rw[Int.toNat_natCast,List.getElem!_of_getElem? hx]
        rfl
       have hown:=HJ.out.1.alloc (.cells #[.int .i64 x.k,.string x.x,.string x.l,.string x.y] 65)
       have hzz:=HJ.out.2.size
       clear hx hp hrp
       go_wp2_with (at_builtin;refine ar rfl rfl Tryz.underlying69 rP rfl (by omega) rfl hown rfl (Rd.of_block (heap_alloc_new wr _) rfl) rfl (by intro u hu;simp only[List.mem_cons,List.not_mem_nil,or_false]at hu;rcases hu with rfl|rfl|rfl|rfl<;>rfl) (by omega) (by omega) (by simp;omega) ?_;intro v' w6 own6 hb6 hg6)
       have HF:Hid (w6.ownsRow V.heap.size 65 4 v' (j+1) ((be (ps.take (j+1)) row).flatMap tmC)/\Below V.heap.size V w6):=⟨by rw[hsn.out];exact own6,(HJ.out.2.alloc hzz _).trans hb6⟩
       clear own6 hb6 hg6 hown
       go_roundw
       case rel=>exact⟨j+1,by omega,by go_num,HF⟩
       case measure=>simp[intOf];omega
      ·obtain rfl:j=nq:=by omega
       have hS2:=HK.out.on HJ.out.2
       have hpr:OwnRow W0.heap.size wr [.slice A6 j c6] (be ps row):=by
        refine⟨_,rfl,?_⟩
        have h1:=HJ.out.1
        rw[List.take_of_length_le (by omega)]at h1
        rw[show (be ps row).length=j by unfold be;rw[List.length_map,hpn]]
        exact own_lower h1 HK.out.2.2.2.2.size
       obtain⟨hrow,hml,hall,hbg,hV,hcm,hrc,_,_⟩:=HR.out
       have hV2:bI g vs rest wr:=KeepT.below HJ.out.2 _ _ _ hV
       have hP3:=hS2.put (k:=k) hml hlt hbg hV2 (hall.mono λ_ _ _ y=>y.keep (KeepT.below HJ.out.2)) hcm hrc hpr
       rw[yw hrow]at hP3
       have HP3:=Lib.hid hP3
       have cgk:wr.cell? ⟨g,k,none⟩=some (.slice A m c):=ab cg HJ.out.2
       have fgk:=hV2.frozen k
       have cb1:wr.cell? ⟨b,1,none⟩=some (.slice (some ⟨g,0,none⟩) n cap):=by simp[World.cell?,hS2.1]
       clear hrow hml hall hbg hV hcm hrc hV2 hP3 hS2 hpr cg
       go_wp2
       go_roundw
       case rel=>exact⟨k+1,by omega,by go_num,HP3⟩
       case measure=>simp[intOf];omega
    ·obtain rfl:k=n:=by omega
     have hCl:=oo names Av cq wr (H.out.2.2.2.2.2.2.2.2.1.later HK.out.2.2.2.2) (by rw[H.out.2.2.2.2.2.2.2.1];omega)
     rw[H.out.2.2.2.2.2.2.2.1]at hCl
     have c4:wr.cell? ⟨b,4,none⟩=some (.slice Av nq cq):=by simp[World.cell?,HK.out.1]
     clear HPS
     go_wp2_with (go_at_call 82;refine hCl.mono ?_;rintro e w9 ⟨v9,rfl,own9,hb9⟩;obtain⟨A9,c9,rfl,_,_⟩:=own_slice own9;have HC:=Lib.hid (And.intro own9 hb9);have c0:w9.cell? ⟨b,0,none⟩=some va:=(by rw[World.cell?,KeepT.below hb9 _ _ _ HK.out.1];rfl);have f0:w9.frozen? ⟨b,0,none⟩=false:=Lib.frozen_of_heap (KeepT.below hb9 _ _ _ HK.out.1) 0;clear own9 hb9)
     have HF:Hid (dt W0 b names (rows.map (be ps)) [q0,q1,.slice Av nq cq,q3,q4,q5,q6,q7] 0 (.returned (.int .i64 0)) (w9.setCell ⟨b,0,none⟩ (.slice A9 nq c9))):=by
      obtain⟨own9,hb9⟩:=HC.out
      have h:=HK.out.on hb9
      have hnm:=H.out.2.2.2.2.2.2.2.1
      rw[←H.out.2.2.2.2.2.2.1,yy]at h
      refine⟨rfl,zU H.out.1 h.1 ?_ h.2.2.1,h.2.2.2.2.setCell (p:=⟨b,0,none⟩) H.out.1 _⟩
      rw[hnm]
      exact own_lower own9 HK.out.2.2.2.2.size
     clear c0 f0 HC
     go_wp2
     go_ret
     first|exact HF.out|exact⟨λh=>absurd rfl h,λ_=>HF.out⟩
  ·obtain rfl:=hQ2.out.2 HT.out
   have HF:Hid (dt W0 b vars rows [q0,q1,.slice Av nq cq,q3,q4,q5,q6,q7] 15 (.returned (.int .i64 15)) w1):=⟨rfl,hHW.out.on HP.out.2.1,aa H.out.2.2.2.2.1 HP.out.2.1⟩
   refine hI.mono ?_
   rintro e w2 ⟨rfl,rfl⟩
   go_wp2
   go_ret
   exact⟨λ_=>HF.out,λh=>by cases h⟩
 ·have hdd:decide names.Nodup=false:=decide_eq_false hnd
  rw[hdd]at hU
  obtain rfl:=hQ.out.2.2 hnd
  have HF:Hid (dt W0 b vars rows [q0,q1,.slice Av nq cq,q3,q4,q5,q6,q7] 9 (.returned (.int .i64 9)) w):=⟨rfl,hHW.out,H.out.2.2.2.2.1⟩
  clear hdd hQ hnd
  go_wp2_with (go_at_call 42;refine hU.mono ?_;rintro e w1 ⟨rfl,rfl⟩)
  go_ret
  exact⟨λ_=>HF.out,λh=>by cases h⟩
end Go.Proofs.YtjldjeenfnahoaaGreatDoor
