/- Layer 26's law, walked: MeanAnswers (printed by gen/mna2.py; -/
import Derived.Test.YtoaemihcbmlkgaaGreatDoorJMnL4
namespace Go.Proofs.YtoaemihcbmlkgaaGreatDoor
open Go Go.RowKit Um Fm Mt Tx Om Mv Mn Mp
structure AnsH {n:Nat} (set:List Tp) (q:Qy n) (As a1 a2 a3 a4:Option Addr) (N c1 c2 c3 c4:Nat) (w:World):Prop where
 hn:set.length=N
 hC:CtxT w
 hls:N<=281474976710656
 hz:∀t∈set,hugeP t
 hs:Rd w As (set.flatMap tpL)
 hq:szQ q
 hL:szL q
 hc:q.vars.length<=c1/\q.pats.length<=c2/\q.fils.length<=c3/\q.ord.length<=c4
 h1:Rd w a1 (q.vars.map Value.string)
 h2:RdPat w a2 q.pats
 h3:RdEs n w a3 q.fils
 h4:RdKey w a4 q.ord
theorem AnsH.later {n:Nat} {set:List Tp} {q:Qy n} {As a1 a2 a3 a4:Option Addr} {N c1 c2 c3 c4:Nat} {w w':World} (h:AnsH set q As a1 a2 a3 a4 N c1 c2 c3 c4 w) (hb:Below w.heap.size w w'):AnsH set q As a1 a2 a3 a4 N c1 c2 c3 c4 w':=
 ⟨h.hn,h.hC.step hb,h.hls,h.hz,h.hs.later hb,h.hq,h.hL,h.hc,h.h1.later hb,RdL.mono h.h2 hb λ_ _ _ h=>h,RdEs.later h.h3 hb,RdL.mono h.h4 hb λ_ _ _ h=>h⟩
theorem few26 {n:Nat} {q:Qy n} (h:allQ q<=200) (he:∀x∈q.fils,szE n x):fewQ q:=by
 unfold allQ cntQ at h
 unfold fewQ
 exact⟨by omega,by omega,by omega,by omega,he,by omega⟩
theorem allQ_pats {n:Nat} {q:Qy n} (h:allQ q<=200):q.pats.length<=200/\q.vars.length<=200/\q.fils.length<=200/\q.ord.length<=200:=by
 unfold allQ cntQ at h
 exact⟨by omega,by omega,by omega,by omega⟩
theorem kept_snoc {n:Nat} (vars:List ByteArray) (fils:List (ExT n)) {L:List (List Tm)} {k:Nat} {r:List Tm} (h:L[k]?=some r):(keepL vars n fils (L.take (k+1))).length=(keepL vars n fils (L.take k)).length+if failsI vars r n fils then 0 else 1:=by
 unfold keepL
 rw[take_snoc_of h,List.filter_append,List.length_append]
 cases hf:failsI vars r n fils<;>simp[hf]
theorem allS_small {n:Nat} {set:List Tp} {q:Qy n} (h:errOf q=0) (hz:∀y∈solP set q.pats,smallRow y) (hl:q.vars.length<=1000000) {r:List Tm} (hr:r∈allS set q):smallRow r:=by
 obtain⟨y,hy,rfl⟩:=(allS_mem h).1 hr
 have hys:y∈solP set q.pats:=keep_mem hy
 obtain⟨_,h2,_,h4,_,_⟩:=err_zero h
 refine⟨by rw[projL_len];unfold placesL;simpa using hl,λt ht=>(hz y hys).2 t (proj_mem (λp hp=>?_) ht)⟩
 rw[solP_row hys]
 exact places_ok (proj_no h2 h4) p hp
theorem run_midG {P:Program} {T E:TypeId} {sz:Nat} (hT:P.underlying T=some (.slice E)) (hs:∀w,(sizeOf E).run P w=.ok sz w) (A:Option Addr) (c f l M:Nat) (hfl:f<=l) (hlc:l<=c) (W:World) :
  (Instr.slice T (.slice A M c) (some (.int .i64 (f:Int))) (some (.int .i64 (l:Int))) none).run P W=.ok (.slice (subG sz c f A) (l-f) (c-f)) W:=by
 have h1:(0:Int)<=(l:Int)/\(l:Int)<=(c:Int):=by omega
 have h2:(0:Int)<=(f:Int)/\(f:Int)<=(l:Int):=by omega
 unfold subG
 simp[Instr.slice,run_underlying hT,Instr.sliceBounds,Instr.sliceBound,asIntOf,h1,h2,hs]
 rw[if_pos hlc,if_pos hfl]
theorem right_nums {n:Nat} {q:Qy n} (h:rightQ q=true):q.off<=1099511627776/\q.lim<=1099511627776:=by
 unfold rightQ fitQ numsQ numB at h
 simp only[Bool.and_eq_true,decide_eq_true_eq,Bool.or_eq_true]at h
 obtain⟨⟨⟨_,h5,h6⟩,_⟩,_⟩:=h
 refine⟨h5.2,?_⟩
 rcases h6 with h6|h6<;>omega
set_option maxHeartbeats 16000000 in
set_option maxRecDepth 100000 in
theorem lawMeanAnswers (n:Nat) (q:Qy n) (set:List Tp) (As a1 a2 a3 a4:Option Addr) (cs N c1 c2 c3 c4:Nat) (w:World) (hH:AnsH set q As a1 a2 a3 a4 N c1 c2 c3 c4 w) (hcs:N<=cs) :
  Calls Tryz.prog 4 #[.slice As N cs,.agg #[.bool q.ask,.bool q.dist,.slice a1 q.vars.length c1,.slice a2 q.pats.length c2,.slice a3 q.fils.length c3,.slice a4 q.ord.length c4,.int .i64 q.lim,.int .i64 q.off]] w λe w'=>e=.returned (.bool true)/\Below w.heap.size w w':=by
 obtain⟨W,hW⟩:∃V:World,w.alloc (.cells #[.bool q.ask,.bool q.dist,.slice a1 q.vars.length c1,.slice a2 q.pats.length c2,.slice a3 q.fils.length c3,.slice a4 q.ord.length c4,.int .i64 q.lim,.int .i64 q.off] 50)=V:=⟨_,rfl⟩
 have hb:Below w.heap.size w W:=by rw[←hW];exact blw
 have hx0:∀(j:Nat) (v:Value),(#[.bool q.ask,.bool q.dist,.slice a1 q.vars.length c1,.slice a2 q.pats.length c2,.slice a3 q.fils.length c3,.slice a4 q.ord.length c4,.int .i64 q.lim,.int .i64 q.off]:Array Value)[j]?=some v->W.cell? ⟨w.heap.size,j,none⟩=some v:=λj v h=>by rw[←hW,World.cell?,heap_alloc_new];simpa using h
 have HX0:=Lib.hid hx0
 have HB:=Lib.hid hb
 have HH:=Lib.hid (hH.later hb)
 have hawk:=mlAwake W HH.out.hC
 have hn2:=hH.hls
 clear hx0 hb hH
 go_enter Tryz.func4,Tryz.ntmps4
 go_upto_region 3 with (go_at_call 5;(try rw[hW]);refine hawk.mono ?_;rintro e w1 ⟨rfl,bq1⟩)
 have H1:=Lib.hid (HH.out.later bq1)
 have HB1:=Lib.hid (below_tr HB.out bq1)
 have hx:Hid (∀(j:Nat) (v:Value),(#[.bool q.ask,.bool q.dist,.slice a1 q.vars.length c1,.slice a2 q.pats.length c2,.slice a3 q.fils.length c3,.slice a4 q.ord.length c4,.int .i64 q.lim,.int .i64 q.off]:Array Value)[j]?=some v->w1.cell? ⟨w.heap.size,j,none⟩=some v):=λj v h=>cell_on (HX0.out j v h) bq1
 clear hW hawk bq1 HX0 HB HH
 obtain⟨s1,e1⟩:∃s,sizeM set N=s:=⟨_,rfl⟩
 obtain⟨hv,e3⟩:∃b,heavyP set q.pats 1=b:=⟨_,rfl⟩
 go_cut [37] from 20 to 36 (λs wx=>∃b:Bool,s=.bool b/\Hid (b=false->N<=200/\s1<=3000/\allQ q<=200/\hv=false)/\Hid (Below w1.heap.size w1 wx))
 case first =>
  by_cases h200:200<N
  ·have hd:decide ((200:Int)<(N:Int))=true:=decide_eq_true (by omega)
   have hd2:decide (200<N)=true:=decide_eq_true h200
   go_wp2_with fail
   go_meet
   case rel=>exact⟨true,rfl,λh=>(by cases h),Below.refl _ _⟩
  ·have hd:decide ((200:Int)<(N:Int))=false:=decide_eq_false (by omega)
   have hd2:decide (200<N)=false:=decide_eq_false h200
   have hsz:Calls Tryz.prog 6 #[.slice As N cs] w1 λe w'=>e=.returned (.int .i64 (s1:Nat))/\Below w1.heap.size w1 w':=by
    have h1:=mlSize set As cs w1 (by rw[H1.out.hn];exact H1.out.hls) H1.out.hz H1.out.hs
    rw[H1.out.hn,e1]at h1
    exact h1
   by_cases h3:3000<s1
   ·have he:decide ((3000:Int)<(s1:Int))=true:=decide_eq_true (by omega)
    have he2:decide (3000<s1)=true:=decide_eq_true h3
    go_wp2_with (go_at_call 6;refine hsz.mono ?_;rintro e w2 ⟨rfl,b2⟩)
    go_meet
    case rel=>exact⟨true,rfl,λh=>(by cases h),b2⟩
   ·have he:decide ((3000:Int)<(s1:Int))=false:=decide_eq_false (by omega)
    have he2:decide (3000<s1)=false:=decide_eq_false h3
    go_wp2_with (go_at_call 6;refine hsz.mono ?_;rintro e w2 ⟨rfl,b2⟩;have HB2:=Lib.hid b2;obtain⟨x0,x1,x2,x3,x4,x5,x6,x7⟩:_/\_/\_/\_/\_/\_/\_/\_:=⟨cell_on (hx.out 0 _ rfl) b2,cell_on (hx.out 1 _ rfl) b2,cell_on (hx.out 2 _ rfl) b2,cell_on (hx.out 3 _ rfl) b2,cell_on (hx.out 4 _ rfl) b2,cell_on (hx.out 5 _ rfl) b2,cell_on (hx.out 6 _ rfl) b2,cell_on (hx.out 7 _ rfl) b2⟩;clear b2)
    refine(mlGreat n q a1 a2 a3 a4 c1 c2 c3 c4 w2 (H1.out.later HB2.out).h3 H1.out.hL).mono ?_
    rintro e w3 ⟨b,rfl,hg,b3⟩
    clear x0 x1 x2 x3 x4 x5 x6 x7
    have HB3:=Lib.hid (below_tr HB2.out b3)
    have HG:=Lib.hid hg
    clear hg b3
    cases b
    ·obtain⟨x0,x1,x2,x3,x4,x5,x6,x7⟩:_/\_/\_/\_/\_/\_/\_/\_:=⟨cell_on (hx.out 0 _ rfl) HB3.out,cell_on (hx.out 1 _ rfl) HB3.out,cell_on (hx.out 2 _ rfl) HB3.out,cell_on (hx.out 3 _ rfl) HB3.out,cell_on (hx.out 4 _ rfl) HB3.out,cell_on (hx.out 5 _ rfl) HB3.out,cell_on (hx.out 6 _ rfl) HB3.out,cell_on (hx.out 7 _ rfl) HB3.out⟩
     have hp:=allQ_pats (HG.out rfl)
     have hhv:=mlHeavy set q.pats As a2 cs c2 w3 (by rw[H1.out.hn];omega) (by omega) (H1.out.later HB3.out).hs (H1.out.later HB3.out).h2
     rw[H1.out.hn,e3]at hhv
     clear hp
     go_wp2_with (go_at_call 7;refine hhv.mono ?_;rintro e w4 ⟨rfl,b4⟩)
     go_meet
     case rel=>exact⟨hv,rfl,λh=>⟨by omega,by omega,HG.out rfl,h⟩,below_tr HB3.out b4⟩
    ·go_wp2_with fail
     go_meet
     case rel=>exact⟨true,rfl,λh=>(by cases h),HB3.out⟩
 case rest =>
  obtain⟨b9,rfl,hf9,hc9⟩:=hcut
  have HB2:=Lib.hid (below_tr HB1.out hc9.out)
  cases b9
  case true =>
   go_wp2
   go_ret
   exact⟨rfl,HB2.out⟩
  case false =>
  obtain⟨h200,h3,hall,rfl⟩:=hf9.out rfl
  have hz1:∀t∈set,smallP3 t:=size_small (n:=N) (by rw[e1];exact h3)
  have hNp:prodP set q.pats<=1500:=heavy_no e3
  have H2:=Lib.hid (H1.out.later hc9.out)
  have hfew:fewQ q:=few26 hall H2.out.hL.2.2.2.2
  have HF:=Lib.hid (And.intro hz1 (And.intro hNp (And.intro hfew (allQ_pats hall))))
  have hx2:Hid (∀(j:Nat) (v:Value),(#[.bool q.ask,.bool q.dist,.slice a1 q.vars.length c1,.slice a2 q.pats.length c2,.slice a3 q.fils.length c3,.slice a4 q.ord.length c4,.int .i64 q.lim,.int .i64 q.off]:Array Value)[j]?=some v->wc.cell? ⟨w.heap.size,j,none⟩=some v):=λj v h=>cell_on (hx.out j v h) hc9.out
  clear hx hc9 hf9 H1 HB1 e1 e3 h3 hz1 hNp hfew hall
  have hq1:=meanQuery n q set As a1 a2 a3 a4 cs c1 c2 c3 c4 wc H2.out.hC HF.out.2.2.1 H2.out.hq (by rw[H2.out.hn];omega) HF.out.1 H2.out.hs ⟨a1,a2,a3,a4,c1,c2,c3,c4,rfl,H2.out.hc,H2.out.h1,H2.out.h2,H2.out.h3,H2.out.h4⟩ H2.out.h1 H2.out.h2 H2.out.h3 H2.out.h4 HF.out.2.1
  rw[H2.out.hn]at hq1
  obtain⟨yes,hyes⟩:∃y,(meanAns set q).1=y:=⟨_,rfl⟩
  obtain⟨rowsA,hrA⟩:∃y,(meanAns set q).2=y:=⟨_,rfl⟩
  obtain⟨ez,hez⟩:∃y,errOf q=y:=⟨_,rfl⟩
  obtain⟨kA,hkA⟩:∃y,rowsA.length=y:=⟨_,rfl⟩
  have hq2:Calls Tryz.prog 15 #[.slice As N cs,.agg #[.bool q.ask,.bool q.dist,.slice a1 q.vars.length c1,.slice a2 q.pats.length c2,.slice a3 q.fils.length c3,.slice a4 q.ord.length c4,.int .i64 q.lim,.int .i64 q.off]] wc λe w'=>∃A c,e=.returned (.tuple #[.agg #[.bool yes,.slice A kA c],.int .i64 ez])/\kA<=c/\RdRs w' A rowsA/\Below wc.heap.size wc w':=by
   refine hq1.mono ?_
   rintro e w' ⟨A,c,rfl,h1,h2,h3⟩
   rw[hrA,hkA]at h1
   rw[hrA]at h2
   exact⟨A,c,by rw[hyes,hrA,hkA,hez],h1,h2,h3⟩
  clear hq1
  obtain⟨x0,x1,x2,x3,x4,x5,x6,x7⟩:_/\_/\_/\_/\_/\_/\_/\_:=⟨hx2.out 0 _ rfl,hx2.out 1 _ rfl,hx2.out 2 _ rfl,hx2.out 3 _ rfl,hx2.out 4 _ rfl,hx2.out 5 _ rfl,hx2.out 6 _ rfl,hx2.out 7 _ rfl⟩
  go_upto_region 6 with (first
   | (go_at_call 15;refine hq2.mono ?_;rintro e w2 ⟨A,c,rfl,hcA,rA,b2⟩;clear x0 x1 x2 x3 x4 x5 x6 x7)
   | (refine wpList_store_row rfl 53 _ _ rfl rfl rfl ansInfo (heap_alloc_new _ _) rfl rfl ?_;rw[World.setRow_alloc_new]))
  obtain⟨V,hV⟩:∃V:World,w2.alloc (.cells #[.bool yes,.slice A kA c] 53)=V:=⟨_,rfl⟩
  have kV:V.heap[w2.heap.size]?=some (.cells #[.bool yes,.slice A kA c] 53 (0,0)):=by rw[←hV];exact heap_alloc_new _ _
  have bV:Below w2.heap.size w2 V:=by rw[←hV];exact blw
  have HB3:=Lib.hid (below_tr HB2.out (below_tr b2 bV))
  have H3:=Lib.hid (H2.out.later (below_tr b2 bV))
  have hx3:Hid (∀(j:Nat) (v:Value),(#[.bool q.ask,.bool q.dist,.slice a1 q.vars.length c1,.slice a2 q.pats.length c2,.slice a3 q.fils.length c3,.slice a4 q.ord.length c4,.int .i64 q.lim,.int .i64 q.off]:Array Value)[j]?=some v->V.cell? ⟨w.heap.size,j,none⟩=some v):=λj v h=>cell_on (hx2.out j v h) (below_tr b2 bV)
  have HA:=Lib.hid (And.intro kV (And.intro (rA.later bV) hcA))
  simp only[hV]
  clear hV kV bV b2 rA hcA hq2 HB2 H2 hx2
  generalize w2.heap.size=ga at *
  by_cases hez0:ez=0
  case neg =>
   have hno:=ans_no (set:=set) (q:=q) (by rw[hez];exact hez0)
   rw[hno]at hyes hrA
   dsimp only at hyes hrA
   subst hyes hrA hkA
   have hne:(ez != 0)=true:=by rw[bne_iff_ne];exact hez0
   have y0:V.cell? ⟨ga,0,none⟩=some (.bool false):=by rw[World.cell?,HA.out.1];rfl
   have y1:V.cell? ⟨ga,1,none⟩=some (.slice A 0 c):=by rw[World.cell?,HA.out.1];rfl
   clear hez0 hno hez
   go_wp2
   go_ret
   exact⟨rfl,HB3.out⟩
  case pos =>
  subst hez0
  obtain⟨vars,hvr⟩:∃v,varsN q.pats=v:=⟨_,rfl⟩
  obtain⟨rows,hrw⟩:∃v,solP set q.pats=v:=⟨_,rfl⟩
  obtain⟨nv,hnv⟩:∃k,vars.length=k:=⟨_,rfl⟩
  obtain⟨NS,hNS⟩:∃k,rows.length=k:=⟨_,rfl⟩
  have hsol:Calls Tryz.prog 8 #[.slice As N cs,.slice a2 q.pats.length c2] V λe w'=>∃Av cv Ar cr,e=.returned (.tuple #[.slice Av nv cv,.slice Ar NS cr])/\Rd w' Av (vars.map Value.string)/\RdRs w' Ar rows/\Below V.heap.size V w':=by
   have h:=mSolutions set q.pats As a2 cs c2 V H3.out.hC (by rw[H3.out.hn];omega) (by have:=HF.out.2.2.2;omega) HF.out.1 H3.out.hs H3.out.h2 HF.out.2.1
   rw[H3.out.hn]at h
   exact h.mono λe w' h=>h.plain hvr hrw hnv hNS
  have HSF:=Lib.hid (sound_facts hvr hrw HF.out.1 (by have:=HF.out.2.2.2;omega))
  have hNb:NS<=1500:=by rw[←hNS,←hrw];exact Nat.le_trans (solP_len set q.pats) HF.out.2.1
  have hnb:nv<=1000000:=by rw[←hnv];exact HSF.out.1
  have x3:=hx3.out 3 _ rfl
  go_wp2_with (go_at_call 8;refine hsol.mono ?_;rintro e w4 ⟨Av,cv,Ar,cr,rfl,rv,rr,b4⟩;have HB4:=Lib.hid (below_tr HB3.out b4);have H4:=Lib.hid (H3.out.later b4);have HR4:=Lib.hid (And.intro rv rr);have HA4:=Lib.hid (And.intro (below_get b4 HA.out.1) (And.intro (HA.out.2.1.later b4) HA.out.2.2));have hx4:Hid (∀(j:Nat) (v:Value),(#[.bool q.ask,.bool q.dist,.slice a1 q.vars.length c1,.slice a2 q.pats.length c2,.slice a3 q.fils.length c3,.slice a4 q.ord.length c4,.int .i64 q.lim,.int .i64 q.off]:Array Value)[j]?=some v->w4.cell? ⟨w.heap.size,j,none⟩=some v):=(λj v h=>cell_on (hx3.out j v h) b4);clear hsol rv rr b4 HB3 H3 hx3 HA x3)
  go_loopw [9,10] (λcn i wr=>∃k:Nat,k<=NS/\i=.int .i64 k/\cn=.int .i64 ((keepL vars n q.fils (rows.take k)).length:Nat)/\Hid (Below w4.heap.size w4 wr)) (λ_ i _=>NS-(intOf i).toNat)
  case atStart=>exact⟨0,by omega,rfl,rfl,Below.refl _ _⟩
  case round =>
   obtain⟨k,hk,rfl,rfl,HBk⟩:=hrel
   by_cases hlt:k<NS
   ·obtain⟨r,hr⟩:∃r,rows[k]?=some r:=⟨_,List.getElem?_eq_getElem (by rw[hNS];exact hlt)⟩
    have hmem:=List.mem_of_getElem? hr
    have hrl:r.length=nv:=by rw[←hnv];exact(HSF.out.2.1 r hmem).1
    have hsm:=(HSF.out.2.1 r hmem).2
    obtain⟨g1,o1,A1,d1,rfl,hcy,_,hry⟩:=(HR4.out.2.later HBk.out).at1 hr
    rw[hrl]at hcy
    have hsn:=Lib.hid (kept_snoc vars q.fils hr)
    have hcb:(keepL vars n q.fils (rows.take k)).length<=1500:=by
     unfold keepL
     refine Nat.le_trans (List.length_filter_le _ _) ?_
     rw[List.length_take];omega
    have hk9:∀d os,Calls Tryz.prog 16 #[.slice a3 q.fils.length c3,.slice Av nv cv,.slice A1 nv d1] (Sort.grow (redrawn wr d) os) λe w'=>e=.returned (.bool (!failsI vars r n q.fils))/\Below (Sort.grow (redrawn wr d) os).heap.size (Sort.grow (redrawn wr d) os) w':=λd os=>by
     have hb:=below_tr HBk.out (below_regrown wr d os)
     have h:=filKeeps vars r (by omega) (by omega) (λu hu=>Nat.le_trans (hsm.2 u hu).1 (by decide)) n q.fils a3 Av A1 c3 cv d1 (Sort.grow (redrawn wr d) os) (HR4.out.1.later hb) (hry.later (below_regrown wr d os)) (H4.out.later hb).h3 (by have:=HF.out.2.2.2;omega) H4.out.hL.2.2.2.2
     rw[hnv,hrl]at h
     exact h
    have E1:=λd os=>cell_on hcy (below_regrown wr d os)
    have E4:=λd os=>cell_on (cell_on (hx4.out 4 _ rfl) HBk.out) (below_regrown wr d os)
    generalize (keepL vars n q.fils (rows.take k)).length=cn at *
    have HC9:=Lib.hid hcb
    clear hr hmem hry hsm hcy hcb
    cases hf:failsI vars r n q.fils
    ·rw[hf]at hk9 hsn
     go_wp2
     refine wrq ?_;(repeat (any_goals (go_big_quiet_step ((go_at_call 16;exact Calls.regrown_of (hk9 _ _))))));all_goals (refine wqn ?_;intro d9 os9)
     have kq:=Lib.hid (below_tr HBk.out (below_regrown wr d9 os9))
     clear hk9 E1 E4
     generalize Sort.grow (redrawn wr d9) os9=w5 at *
     go_wp2
     exact⟨⟨k+1,by omega,by go_num,by have h1:=hsn.out;have h2:=HC9.out;rw[h1,if_neg (by decide),IntWalk.wrap64_in _ ⟨by omega,by omega⟩];rfl,kq⟩,by simp[intOf];omega⟩
    ·rw[hf]at hk9 hsn
     go_wp2
     refine wrq ?_;(repeat (any_goals (go_big_quiet_step ((go_at_call 16;exact Calls.regrown_of (hk9 _ _))))));all_goals (refine wqn ?_;intro d9 os9)
     have kq:=Lib.hid (below_tr HBk.out (below_regrown wr d9 os9))
     clear hk9 E1 E4
     generalize Sort.grow (redrawn wr d9) os9=w5 at *
     go_wp2
     exact⟨⟨k+1,by omega,by go_num,by have h1:=hsn.out;rw[h1];simp,kq⟩,by simp[intOf];omega⟩
   ·obtain rfl:k=NS:=by omega
    rw[List.take_of_length_le (by omega)]
    obtain⟨kn,hkn⟩:∃j,(keepL vars n q.fils rows).length=j:=⟨_,rfl⟩
    have hkk:(keptS set q).length=kn:=by unfold keptS;rw[hvr,hrw];exact hkn
    rw[hkn]
    have HB5:=Lib.hid (below_tr HB4.out HBk.out)
    have H5:=Lib.hid (H4.out.later HBk.out)
    have HR5:=Lib.hid (And.intro (HR4.out.1.later HBk.out) (HR4.out.2.later HBk.out))
    have HA5:=Lib.hid (And.intro (below_get HBk.out HA4.out.1) (And.intro (HA4.out.2.1.later HBk.out) HA4.out.2.2))
    have hx5:Hid (∀(j:Nat) (v:Value),(#[.bool q.ask,.bool q.dist,.slice a1 q.vars.length c1,.slice a2 q.pats.length c2,.slice a3 q.fils.length c3,.slice a4 q.ord.length c4,.int .i64 q.lim,.int .i64 q.off]:Array Value)[j]?=some v->wr.cell? ⟨w.heap.size,j,none⟩=some v):=λj v h=>cell_on (hx4.out j v h) HBk.out
    have hknb:kn<=1500:=by
     rw[←hkn];unfold keepL
     exact Nat.le_trans (List.length_filter_le _ _) (by omega)
    clear hkn HBk HB4 H4 HR4 HA4 hx4
    have x0:=hx5.out 0 _ rfl
    cases hask:q.ask
    case true =>
     rw[hask]at x0
     have ha:=ans_ask (set:=set) hez hask
     rw[ha,hkk]at hyes
     rw[ha]at hrA
     dsimp only at hyes hrA
     subst hyes hrA hkA
     have y0:wr.cell? ⟨ga,0,none⟩=some (.bool (decide (0<kn))):=by rw[World.cell?,HA5.out.1];rfl
     have y1:wr.cell? ⟨ga,1,none⟩=some (.slice A 0 c):=by rw[World.cell?,HA5.out.1];rfl
     by_cases hp:0<kn
     ·have hd:decide (0<kn)=true:=decide_eq_true hp
      have hd2:decide ((0:Int)<(kn:Int))=true:=decide_eq_true (by omega)
      rw[hd]at y0
      clear hez hask ha hkk
      go_wp2
      go_ret
      exact⟨rfl,HB5.out⟩
     ·have hd:decide (0<kn)=false:=decide_eq_false hp
      have hd2:decide ((0:Int)<(kn:Int))=false:=decide_eq_false (by omega)
      rw[hd]at y0
      clear hez hask ha hkk
      go_wp2
      go_ret
      exact⟨rfl,HB5.out⟩
    case false =>
    have ha:=ans_rows (set:=set) hez hask
    rw[ha]at hyes hrA
    dsimp only at hyes hrA
    have hcp:=kitCopyRun n false q.dist q.lim q.off q.vars q.pats q.fils q.ord a1 a2 a3 a4 c1 c2 c3 c4 wr H5.out.h1 ((RdL.flatC (f:=cPat) (sz:=15) (λ_=>rfl)).1 H5.out.h2) H5.out.h3 ((RdL.flatC (f:=cKey) (sz:=2) (λ_=>rfl)).1 H5.out.h4) (by have:=HF.out.2.2.2;omega) (by have:=HF.out.2.2.2;omega) (by have:=HF.out.2.2.2;omega) (by have:=HF.out.2.2.2;omega) H5.out.hL.2.2.2.2
    rw[hask]at x0
    obtain⟨x1,x2,x3,x4,x5,x6,x7⟩:_/\_/\_/\_/\_/\_/\_:=⟨hx5.out 1 _ rfl,hx5.out 2 _ rfl,hx5.out 3 _ rfl,hx5.out 4 _ rfl,hx5.out 5 _ rfl,hx5.out 6 _ rfl,hx5.out 7 _ rfl⟩
    have HY:=Lib.hid (And.intro hyes (And.intro hrA (And.intro hez (And.intro hask (And.intro hkk (And.intro hvr hrw))))))
    clear hyes hrA ha hez hkk hask hvr hrw
    go_upto_region 18 with (first
     | (go_at_call 17;refine hcp.mono ?_;rintro e w5 ⟨b1,b2,b3,b4,d1,d2,d3,d4,rfl,hcd,r1,r2,r3,r4,_,_,bb⟩;clear x0 x1 x2 x3 x4 x5 x6 x7)
     | (refine wpList_store_row rfl 50 _ _ rfl rfl rfl (by kernel_rfl) (heap_alloc_new _ _) rfl rfl ?_;rw[World.setRow_alloc_new]))
    obtain⟨V5,hV5⟩:∃V:World,w5.alloc (.cells #[.bool false,.bool q.dist,.slice b1 q.vars.length d1,.slice b2 q.pats.length d2,.slice b3 q.fils.length d3,.slice b4 q.ord.length d4,.int .i64 q.lim,.int .i64 q.off] 50)=V:=⟨_,rfl⟩
    have k5:V5.heap[w5.heap.size]?=some (.cells #[.bool false,.bool q.dist,.slice b1 q.vars.length d1,.slice b2 q.pats.length d2,.slice b3 q.fils.length d3,.slice b4 q.ord.length d4,.int .i64 q.lim,.int .i64 q.off] 50 (0,0)):=by rw[←hV5];exact heap_alloc_new _ _
    have bV5:Below w5.heap.size w5 V5:=by rw[←hV5];exact blw
    simp only[hV5]
    clear hV5
    have g6:V5.cell? ⟨w5.heap.size,6,none⟩=some (.int .i64 q.lim):=by rw[World.cell?,k5];rfl
    have g7:V5.cell? ⟨w5.heap.size,7,none⟩=some (.int .i64 q.off):=by rw[World.cell?,k5];rfl
    have f6:V5.frozen? ⟨w5.heap.size,6,none⟩=false:=by simp[World.frozen?,k5]
    have f7:V5.frozen? ⟨w5.heap.size,7,none⟩=false:=by simp[World.frozen?,k5]
    obtain⟨U,hU⟩:∃U:World,(V5.setCell ⟨w5.heap.size,6,none⟩ (.int .i64 (-1))).setCell ⟨w5.heap.size,7,none⟩ (.int .i64 0)=U:=⟨_,rfl⟩
    have k6:(V5.setCell ⟨w5.heap.size,6,none⟩ (.int .i64 (-1))).heap[w5.heap.size]?=some (.cells #[.bool false,.bool q.dist,.slice b1 q.vars.length d1,.slice b2 q.pats.length d2,.slice b3 q.fils.length d3,.slice b4 q.ord.length d4,.int .i64 (-1),.int .i64 q.off] 50 (0,0)):=heap_setCell_at k5 6 _
    have kU:U.heap[w5.heap.size]?=some (.cells #[.bool false,.bool q.dist,.slice b1 q.vars.length d1,.slice b2 q.pats.length d2,.slice b3 q.fils.length d3,.slice b4 q.ord.length d4,.int .i64 (-1),.int .i64 0] 50 (0,0)):=by rw[←hU];exact heap_setCell_at k6 7 _
    have bU:Below w5.heap.size w5 U:=by rw[←hU];exact(bV5.setCell (p:=⟨w5.heap.size,6,none⟩) (Nat.le_refl _) _).setCell (p:=⟨w5.heap.size,7,none⟩) (Nat.le_refl _) _
    have HU:=Lib.hid hU
    have HkU:=Lib.hid kU
    have HbU:=Lib.hid bU
    have Hr:=Lib.hid (And.intro r1 (And.intro r2 (And.intro r3 (And.intro r4 (And.intro hcd bb)))))
    clear hU k6 kU bU k5 bV5 r1 r2 r3 r4 hcd bb hcp
    go_frame
    go_upto_region 20 with fail
    simp only[HU.out]
    clear g6 g7 f6 f7 HU
    have bbU:=below_tr Hr.out.2.2.2.2.2 HbU.out
    have HB6:=Lib.hid (below_tr HB5.out bbU)
    have H6:=Lib.hid (H5.out.later bbU)
    have HR6:=Lib.hid (And.intro (HR5.out.1.later bbU) (HR5.out.2.later bbU))
    have HA6:=Lib.hid (And.intro (below_get bbU HA5.out.1) (And.intro (HA5.out.2.1.later bbU) HA5.out.2.2))
    have hx6:Hid (∀(j:Nat) (v:Value),(#[.bool false,.bool q.dist,.slice a1 q.vars.length c1,.slice a2 q.pats.length c2,.slice a3 q.fils.length c3,.slice a4 q.ord.length c4,.int .i64 q.lim,.int .i64 q.off]:Array Value)[j]?=some v->U.cell? ⟨w.heap.size,j,none⟩=some v):=λj v h=>cell_on (hx5.out j v (by rw[HY.out.2.2.2.1];exact h)) bbU
    have hfw:fewQ (wholeQ q):=HF.out.2.2.1
    have hsw:szQ (wholeQ q):=H6.out.hq
    have p1:Rd U b1 ((wholeQ q).vars.map Value.string):=Hr.out.1.later HbU.out
    have p2:RdPat U b2 (wholeQ q).pats:=(RdL.flatC (f:=cPat) (sz:=15) (λ_=>rfl)).2 (Hr.out.2.1.later HbU.out)
    have p3:RdEs n U b3 (wholeQ q).fils:=RdEs.later Hr.out.2.2.1 HbU.out
    have p4:RdKey U b4 (wholeQ q).ord:=(RdL.flatC (f:=cKey) (sz:=2) (λ_=>rfl)).2 (Hr.out.2.2.2.1.later HbU.out)
    have hq3:=meanQuery n (wholeQ q) set As b1 b2 b3 b4 cs d1 d2 d3 d4 U H6.out.hC hfw hsw (by rw[H6.out.hn];omega) HF.out.1 H6.out.hs ⟨b1,b2,b3,b4,d1,d2,d3,d4,rfl,Hr.out.2.2.2.2.1,p1,p2,p3,p4⟩ p1 p2 p3 p4 HF.out.2.1
    rw[H6.out.hn]at hq3
    obtain⟨B,hBB⟩:∃y,allS set q=y:=⟨_,rfl⟩
    obtain⟨NB,hNB⟩:∃y,B.length=y:=⟨_,rfl⟩
    have hwa:=whole_ans (set:=set) HY.out.2.2.1 HY.out.2.2.2.1
    have hwe:=whole_err HY.out.2.2.1 HY.out.2.2.2.1
    rw[hBB,hNB]at hwa
    have hq4:Calls Tryz.prog 15 #[.slice As N cs,.agg #[.bool false,.bool q.dist,.slice b1 q.vars.length d1,.slice b2 q.pats.length d2,.slice b3 q.fils.length d3,.slice b4 q.ord.length d4,.int .i64 (-1),.int .i64 0]] U λe w'=>∃A c,e=.returned (.tuple #[.agg #[.bool (decide (0<NB)),.slice A NB c],.int .i64 0])/\NB<=c/\RdRs w' A B/\Below U.heap.size U w':=by
     have h5:=hq3.mono (R':=λe w'=>∃A c,e=.returned (.tuple #[.agg #[.bool (decide (0<NB)),.slice A NB c],.int .i64 0])/\NB<=c/\RdRs w' A B/\Below U.heap.size U w') (by
      rintro e w' ⟨A,c,rfl,h1,h2,h3⟩
      rw[hwa]at h1 h2
      dsimp only at h1 h2
      rw[hNB]at h1
      exact⟨A,c,by rw[hwa,hwe];dsimp only;rw[hNB],h1,h2,h3⟩)
     have e9:q.ask=false:=HY.out.2.2.2.1
     have e10:(wholeQ q).ask=false:=e9
     rw[e10]at h5
     exact h5
    clear hq3 hwa hwe hfw hsw p1 p2 p3 p4 bbU
    obtain⟨z0,z1,z2,z3,z4,z5,z6,z7⟩:_/\_/\_/\_/\_/\_/\_/\_:=⟨(show U.cell? ⟨w5.heap.size,0,none⟩=some (.bool false) by rw[World.cell?,HkU.out];rfl),(show U.cell? ⟨w5.heap.size,1,none⟩=some (.bool q.dist) by rw[World.cell?,HkU.out];rfl),(show U.cell? ⟨w5.heap.size,2,none⟩=some (.slice b1 q.vars.length d1) by rw[World.cell?,HkU.out];rfl),(show U.cell? ⟨w5.heap.size,3,none⟩=some (.slice b2 q.pats.length d2) by rw[World.cell?,HkU.out];rfl),(show U.cell? ⟨w5.heap.size,4,none⟩=some (.slice b3 q.fils.length d3) by rw[World.cell?,HkU.out];rfl),(show U.cell? ⟨w5.heap.size,5,none⟩=some (.slice b4 q.ord.length d4) by rw[World.cell?,HkU.out];rfl),(show U.cell? ⟨w5.heap.size,6,none⟩=some (.int .i64 (-1)) by rw[World.cell?,HkU.out];rfl),(show U.cell? ⟨w5.heap.size,7,none⟩=some (.int .i64 0) by rw[World.cell?,HkU.out];rfl)⟩
    go_upto_region 21 with (first
     | (go_at_call 15;refine hq4.mono ?_;rintro e w8 ⟨A8,c8,rfl,hc8,r8,b8⟩;clear z0 z1 z2 z3 z4 z5 z6 z7)
     | (refine wpList_store_row rfl 53 _ _ rfl rfl rfl ansInfo (heap_alloc_new _ _) rfl rfl ?_;rw[World.setRow_alloc_new]))
    obtain⟨V8,hV8⟩:∃V:World,w8.alloc (.cells #[.bool (decide (0<NB)),.slice A8 NB c8] 53)=V:=⟨_,rfl⟩
    have k8:V8.heap[w8.heap.size]?=some (.cells #[.bool (decide (0<NB)),.slice A8 NB c8] 53 (0,0)):=by rw[←hV8];exact heap_alloc_new _ _
    have bV8:Below w8.heap.size w8 V8:=by rw[←hV8];exact blw
    simp only[hV8]
    have bb8:=below_tr b8 bV8
    have HB7:=Lib.hid (below_tr HB6.out bb8)
    have H7:=Lib.hid (H6.out.later bb8)
    have HR7:=Lib.hid (And.intro (HR6.out.1.later bb8) (HR6.out.2.later bb8))
    have HA7:=Lib.hid (And.intro (below_get bb8 HA6.out.1) (And.intro (HA6.out.2.1.later bb8) HA6.out.2.2))
    have HBx:=Lib.hid (And.intro k8 (And.intro (r8.later bV8) hc8))
    have hx7:Hid (∀(j:Nat) (v:Value),(#[.bool false,.bool q.dist,.slice a1 q.vars.length c1,.slice a2 q.pats.length c2,.slice a3 q.fils.length c3,.slice a4 q.ord.length c4,.int .i64 q.lim,.int .i64 q.off]:Array Value)[j]?=some v->V8.cell? ⟨w.heap.size,j,none⟩=some v):=λj v h=>cell_on (hx6.out j v h) bb8
    clear hV8 k8 bV8 bb8 b8 r8 hc8 HB6 H6 HR6 HA6 hx6 hq4 HkU HbU Hr HB5 H5 HR5 HA5 hx5
    generalize w8.heap.size=gb at *
    have hri:=right_fit (err_zero HY.out.2.2.1).1
    have hoff:=hri.2.2.2.2.1
    have hlim:=hri.2.2.2.2.2
    have hrn:=right_nums (err_zero HY.out.2.2.1).1
    have hNBk:NB<=kn:=by
     rw[←hNB,←hBB]
     exact Nat.le_trans (allS_le HY.out.2.2.1) (Nat.le_of_eq HY.out.2.2.2.2.1)
    obtain⟨f,hfm⟩:∃f:Nat,min q.off (NB:Int)=(f:Int):=⟨(min q.off (NB:Int)).toNat,by omega⟩
    have Hri:=Lib.hid (And.intro hoff (And.intro hlim hrn))
    have HfN:=Lib.hid (show f<=NB by omega)
    clear hri hoff hlim hrn
    have x6:=hx7.out 6 _ rfl
    have x7:=hx7.out 7 _ rfl
    have y1:V8.cell? ⟨gb,1,none⟩=some (.slice A8 NB c8):=by rw[World.cell?,HBx.out.1];rfl
    go_upto_if 112 with fail
    go_cut [15] from 113 to 118 (λs wx=>∃l:Nat,s=.int .i64 l/\Hid ((l:Int)=if q.lim = -1 then (NB:Int) else min (NB:Int) (f+q.lim))/\wx=V8)
    case first =>
     by_cases hl:q.lim = -1
     ·have e1:(q.lim != -1)=false:=by simp[hl]
      have e2:decide (q.lim = -1)=true:=by simp[hl]
      go_wp2_with fail
      go_meet
      case rel=>exact⟨NB,rfl,by show _=_;rw[if_pos hl],rfl⟩
     ·have e1:(q.lim != -1)=true:=by simp[hl]
      have e2:decide (q.lim = -1)=false:=by simp[hl]
      obtain⟨hoff,hlim,hrn⟩:=Hri.out
      obtain⟨l,hlm⟩:∃l:Nat,min (NB:Int) ((f:Int)+q.lim)=(l:Int):=⟨(min (NB:Int) ((f:Int)+q.lim)).toNat,by omega⟩
      have HL:=Lib.hid hlm
      have hfb:(f:Int)<=NB:=by have:=HfN.out;omega
      have hNB5:(NB:Int)<=1500:=by omega
      have hw:wrap64 ((f:Int)+q.lim)=(f:Int)+q.lim:=IntWalk.wrap64_in _ ⟨by omega,by omega⟩
      clear hoff hlim hrn hfb hNB5
      go_wp2_with fail
      go_meet
      case rel=>exact⟨l,rfl,by show _=_;rw[if_neg hl];exact HL.out.symm,rfl⟩
    case rest =>
     obtain⟨l,rfl,hlx,rfl⟩:=hcut
     obtain⟨V8,rfl⟩:∃V:World,V=wc:=⟨_,rfl⟩
     obtain⟨hoff,hlim,hrn⟩:=Hri.out
     have hcp:=cut_part (off:=q.off) (lim:=q.lim) (B:=B) (N:=NB) (f:=f) (l:=l) hNB hoff hlim hfm.symm hlx.out
     have hrA:(B.take l).drop f=rowsA:=by rw[←hcp.1,←hBB];exact HY.out.2.1
     have hkl:l-f=kA:=by rw[←hkA,←hrA,List.length_drop,List.length_take,hNB];omega
     have hyk:decide (0<kA)=yes:=by
      have h:=HY.out.1
      rw[HY.out.2.1,hkA]at h
      exact h
     have hpos:(0<NB)=(0<kn):=by
      rw[←hNB,←hBB,←HY.out.2.2.2.2.1]
      exact propext (allS_pos HY.out.2.2.1)
     have Hcp:=Lib.hid (And.intro hcp.2.1 (And.intro hcp.2.2 (And.intro hrA hkl)))
     clear hcp hrA hkl hoff hlim hrn x6 x7 y1 hfm
     obtain⟨bp,hbp⟩:∃b,decide (0<kn)=b:=⟨_,rfl⟩
     have hbp2:decide ((0:Int)<(kn:Int))=bp:=by rw[←hbp];exact decide_eq_decide.2 (by omega)
     have hbp3:decide (0<NB)=bp:=by rw[←hbp];exact decide_eq_decide.2 (Iff.of_eq hpos)
     have hyk2:decide ((0:Int)<(kA:Int))=yes:=by rw[←hyk];exact decide_eq_decide.2 (by omega)
     have hgt:decide (kn<NB)=false:=decide_eq_false (by omega)
     have hgt2:decide ((kn:Int)<(NB:Int))=false:=decide_eq_false (by omega)
     have hbb:(bp != bp)=false:=by simp
     have hyy:(yes != yes)=false:=by simp
     go_upto_region 25 with fail
     go_cut [166] from 119 to 165 (λs wx=>s=.bool false/\Hid (Below V8.heap.size V8 wx))
     case first =>
      have hsr:∀d os,Calls Tryz.prog 18 #[.slice A kA c,.slice (subG 1 c8 f A8) (l-f) (c8-f)] (Sort.grow (redrawn V8 d) os) λe w'=>e=.returned (.bool true)/\Below (Sort.grow (redrawn V8 d) os).heap.size (Sort.grow (redrawn V8 d) os) w':=λd os=>by
       have hb:=below_regrown V8 d os
       have hlB:(B.take l).length=l:=by rw[List.length_take,hNB];have:=Hcp.out.2.1;omega
       have r:=RdL.fromG (c:=c8) (q:=f) (RdL.take (HBx.out.2.1.later hb) l) (by rw[hlB];have:=Hcp.out.2.1;have:=HBx.out.2.2;omega) (by rw[hlB];exact Hcp.out.1)
       rw[Hcp.out.2.2.1]at r
       have hin:∀r∈rowsA,r.length<=1000000:=λr hr=>by
        rw[←Hcp.out.2.2.1]at hr
        have hrB:r∈allS set q:=by rw[hBB];exact List.mem_of_mem_take (List.mem_of_mem_drop hr)
        rw[(allS_row HY.out.2.2.1 hrB).1]
        have:=HF.out.2.2.2;omega
       have h:=kitSameRows rowsA rowsA A (subG 1 c8 f A8) c (c8-f) kA (l-f) (Sort.grow (redrawn V8 d) os) hkA (by rw[hkA];exact Hcp.out.2.2.2.symm) (by have:=Hcp.out.2.2.2;have:=Hcp.out.2.1;omega) (by have:=Hcp.out.2.1;omega) hin hin (HA7.out.2.1.later hb) r
       rw[decide_eq_true rfl]at h
       exact h
      have hmid:=run_midG (P:=Tryz.prog) (T:=33) (E:=36) (sz:=1) Tryz.underlying33 Tryz.sizeOf36 A8 c8 f l NB Hcp.out.1 (Nat.le_trans Hcp.out.2.1 HBx.out.2.2)
      have E1:=λd os=>cell_on (hx7.out 1 _ rfl) (below_regrown V8 d os)
      have G0:V8.cell? ⟨gb,0,none⟩=some (.bool (decide (0<NB))):=by rw[World.cell?,HBx.out.1];rfl
      have G1:V8.cell? ⟨gb,1,none⟩=some (.slice A8 NB c8):=by rw[World.cell?,HBx.out.1];rfl
      have K0:V8.cell? ⟨ga,0,none⟩=some (.bool yes):=by rw[World.cell?,HA7.out.1];rfl
      have K1:V8.cell? ⟨ga,1,none⟩=some (.slice A kA c):=by rw[World.cell?,HA7.out.1];rfl
      rw[hbp3]at G0
      have E2:=λd os=>cell_on G0 (below_regrown V8 d os)
      have E3:=λd os=>cell_on G1 (below_regrown V8 d os)
      have E4:=λd os=>cell_on K0 (below_regrown V8 d os)
      have E5:=λd os=>cell_on K1 (below_regrown V8 d os)
      clear G0 G1 K0 K1
      rcases(show q.dist=false∨q.dist=true by cases q.dist<;>simp) with hds|hds
      ·have hNk:NB=kn:=by rw[←hNB,←hBB,allS_len HY.out.2.2.1 hds];exact HY.out.2.2.2.2.1
       have hnn:((NB:Int) != (kn:Int))=false:=by simp[hNk]
       have hnn2:(NB != kn)=false:=by simp[hNk]
       rw[hds]at E1
       clear hNk hds hpos
       refine wrq ?_;(repeat (any_goals (go_big_quiet_step ((first|(go_at_call 18;exact Calls.regrown_of (hsr _ _)))))));all_goals (refine wqn ?_;intro d9 os9)
       go_wp2_with fail
       go_meet
       case rel=>exact⟨rfl,below_regrown _ _ _⟩
      ·rw[hds]at E1
       clear hds hpos
       refine wrq ?_;(repeat (any_goals (go_big_quiet_step ((first|(go_at_call 18;exact Calls.regrown_of (hsr _ _)))))));all_goals (refine wqn ?_;intro d9 os9)
       go_wp2_with fail
       go_meet
       case rel=>exact⟨rfl,below_regrown _ _ _⟩
     case rest =>
      obtain⟨rfl,hcw⟩:=hcut
      have HB8:=Lib.hid (below_tr HB7.out hcw.out)
      have H8:=Lib.hid (H7.out.later hcw.out)
      have HR8:=Lib.hid (And.intro (HR7.out.1.later hcw.out) (HR7.out.2.later hcw.out))
      have HBx8:=Lib.hid (And.intro (below_get hcw.out HBx.out.1) (HBx.out.2.1.later hcw.out))
      have hx8:Hid (∀(j:Nat) (v:Value),(#[.bool false,.bool q.dist,.slice a1 q.vars.length c1,.slice a2 q.pats.length c2,.slice a3 q.fils.length c3,.slice a4 q.ord.length c4,.int .i64 q.lim,.int .i64 q.off]:Array Value)[j]?=some v->wc.cell? ⟨w.heap.size,j,none⟩=some v):=λj v h=>cell_on (hx7.out j v h) hcw.out
      have hsmr:Hid (∀r∈allS set q,smallRow r):=λr hr=>allS_small HY.out.2.2.1 (λy hy=>(HSF.out.2.1 y (by rw[←HY.out.2.2.2.2.2.2];exact hy)).2) (by have:=HF.out.2.2.2;omega) hr
      clear hcw HB7 H7 HR7 HA7 HBx hx7 hbp hbp2 hbp3 hyk hyk2 hgt hgt2 hbb hyy hpos hlx Hcp Hri HfN
      have z1:wc.cell? ⟨gb,1,none⟩=some (.slice A8 NB c8):=by rw[World.cell?,HBx8.out.1];rfl
      have HZ1:=Lib.hid z1
      go_wp2
      clear z1
      go_loopw [16,17] (λi _ wr=>∃k9:Nat,k9<=NB/\i=.int .i64 k9/\Hid (Below wc.heap.size wc wr)) (λi _ _=>NB-(intOf i).toNat)
      case atStart=>exact⟨0,by omega,rfl,Below.refl _ _⟩
      case round =>
       obtain⟨k9,hk9,rfl,HBk⟩:=hrel
       have z1:wr.cell? ⟨gb,1,none⟩=some (.slice A8 NB c8):=cell_on HZ1.out HBk.out
       by_cases hlt:k9<NB
       ·obtain⟨r,hr⟩:∃r,B[k9]?=some r:=⟨_,List.getElem?_eq_getElem (by rw[hNB];exact hlt)⟩
        have hmem:r∈allS set q:=by rw[hBB];exact List.mem_of_getElem? hr
        obtain⟨hrl,y,hy,hlike⟩:=allS_row HY.out.2.2.1 hmem
        obtain⟨g1,o1,A1,e1,rfl,hcy,_,hry⟩:=(HBx8.out.2.later HBk.out).at1 hr
        rw[hrl]at hcy
        have Hex:Hid (∃y∈rows,likeR vars y r q.vars=true):=⟨y,by rw[←HY.out.2.2.2.2.2.2];exact hy,by rw[←HY.out.2.2.2.2.2.1];exact hlike⟩
        have HCy:=Lib.hid (And.intro hcy (And.intro hry (And.intro hrl hr)))
        have HS:=Lib.hid (hsmr.out r hmem)
        have hz1:=HZ1.out
        clear hmem hy hlike hry hr hrl
        go_upto_region 30 with fail
        refine Rf.p0 wr.heap.size _ (.quiet [0,1,2,3,4,5,6,7,8,9,10,11,12,13,14,15,16,17,18,19] (.one 20 (.quiet [21,22] (.done)))) ?_ (λa w h=>h)
        intro wd hbd hwz
        have hs0:=hbd.size
        have HD:=Lib.hid hbd
        have E1:=cellL z1 hbd
        have E2:=cellL hcy hbd
        have E3:=cellL (cell_on (hx8.out 2 _ rfl) HBk.out) hbd
        clear hbd hwz
        refine Rf.pl_quiet ?_
        iterate 20 go_big_quiet_step (fail)
        refine wpQuiet_nil (Rf.pl_one ?_)
        clear E1 E2 E3
        have hbD:=below_tr HBk.out HD.out
        have hat:=mlAt rows vars r q.vars Ar Av A1 a1 k cr nv cv q.vars.length e1 q.vars.length c1 wd hNS hnv HCy.out.2.2.1 rfl (by omega) hnb (by have:=HF.out.2.2.2;omega) (Nat.le_refl _) (λy hy=>by rw[←hnv];exact(HSF.out.2.1 y hy).1) (HR8.out.2.later hbD) (HR8.out.1.later hbD) (HCy.out.2.1.later HD.out) (H8.out.h1.later hbD)
        clear hbD
        go_wp2_with (go_at_call 13;refine hat.mono ?_;rintro e w9 ⟨⟨z,rfl,hz,_⟩,b9⟩;have hzd:decide (z<0)=false:=(decide_eq_false (by have:=hz Hex.out;omega)))
        refine⟨b9.mono hs0,?_⟩
        have HB9:=Lib.hid (below_tr HBk.out (HD.out.trans (b9.mono hs0)))
        have HW9:=Lib.hid (HD.out.trans (b9.mono hs0))
        clear hat hz b9 hs0
        refine Rf.pl_quiet ?_
        iterate 2 go_big_quiet_step (fail)
        refine wpQuiet_nil (Rf.pl_done ?_)
        have hnd:Hid (∀j rj,j<k9->B[j]?=some rj->q.dist=true->cmpRow rj r≠0):=λj rj hj hrj hd h0=>by
         have hn:B.Nodup:=by rw[←hBB];exact allS_nodup hd
         have he:=cmpRow_zero rj r h0
         obtain⟨l1,m1⟩:=List.getElem?_eq_some_iff.1 hrj
         obtain⟨l2,m2⟩:=List.getElem?_eq_some_iff.1 HCy.out.2.2.2
         exact List.pairwise_iff_getElem.1 hn j k9 l1 l2 hj (by rw[m1,m2,he])
        go_wp2
        go_loopw [17] (λi wq=>∃j:Nat,j<=k9/\i=.int .i64 j/\Hid (Below w9.heap.size w9 wq)) (λi _=>k9-(intOf i).toNat)
        case atStart=>exact⟨0,by omega,rfl,Below.refl _ _⟩
        case round =>
         obtain⟨j,hj,rfl,HBj⟩:=hrel
         have x1:wr.cell? ⟨w.heap.size,1,none⟩=some (.bool q.dist):=cell_on (cell_on (hx8.out 1 _ rfl) HB9.out) HBj.out
         have HBe:=Lib.hid (below_tr HB9.out HBj.out)
         by_cases hlt2:j<k9
         ·have hd1:decide ((j:Int)<(k9:Int))=true:=decide_eq_true (by omega)
          have hd2:decide (j<k9)=true:=decide_eq_true hlt2
          rcases(show q.dist=false∨q.dist=true by cases q.dist<;>simp) with hds|hds
          ·rw[hds]at x1
           clear hds
           go_wp2
           exact⟨⟨k9+1,by omega,by go_num,HBe⟩,by simp[intOf];omega⟩
          ·obtain⟨rj,hrj⟩:∃r,B[j]?=some r:=⟨_,List.getElem?_eq_getElem (by rw[hNB];omega)⟩
           have hmj:rj∈allS set q:=by rw[hBB];exact List.mem_of_getElem? hrj
           have hrlj:=(allS_row HY.out.2.2.1 hmj).1
           obtain⟨g2,o2,Aj,ej,hA,hcj,_,hrpj⟩:=(HBx8.out.2.later HBe.out).at1 hrj
           simp only[Option.some.injEq,Addr.mk.injEq,and_true]at hA
           obtain⟨rfl,rfl⟩:=hA
           rw[hrlj]at hcj
           have hz:=hnd.out j rj hlt2 hrj hds
           have hcmp:=λd os=>mlCompare rj r q.vars.length ej e1 Aj A1 (Sort.grow (redrawn wr d) os) hrlj HCy.out.2.2.1 ((H8.out.hC.step HBe.out).step (below_regrown wr d os)) (hrpj.later (below_regrown wr d os)) ((HCy.out.2.1.later (below_tr HW9.out HBj.out)).later (below_regrown wr d os)) (hsmr.out rj hmj) HS.out
           generalize cmpRow rj r=z at hz hcmp
           have hzd2:decide (z=0)=false:=decide_eq_false hz
           have hzd3:(z == 0)=false:=by simpa using hz
           rw[hds]at x1
           have z9:wr.cell? ⟨gb,1,none⟩=some (.slice (some ⟨g1,o1,none⟩) NB c8):=cell_on hz1 HBe.out
           have E1:=λd os=>cell_on z9 (below_regrown wr d os)
           have E2:=λd os=>cell_on hcj (below_regrown wr d os)
           have E3:=λd os=>cell_on (cell_on (cell_on HCy.out.1 HW9.out) HBj.out) (below_regrown wr d os)
           have hjN:j<NB:=by omega
           clear hds hrj hmj hcj hrpj hz
           go_wp2
           refine wrq ?_;(repeat (any_goals (go_big_quiet_step ((go_at_call 9;exact Calls.regrown_of (hcmp _ _))))));all_goals (refine wqn ?_;intro d9 os9)
           have kq:=Lib.hid (HBj.out.trans ((below_regrown wr d9 os9).mono HBj.out.size))
           clear hcmp E1 E2 E3 z9 x1
           generalize Sort.grow (redrawn wr d9) os9=w5x at *
           go_wp2
           exact⟨⟨j+1,by omega,by go_num,kq⟩,by simp[intOf];omega⟩
         ·have hd1:decide ((j:Int)<(k9:Int))=false:=decide_eq_false (by omega)
          have hd2:decide (j<k9)=false:=decide_eq_false hlt2
          go_wp2
          exact⟨⟨k9+1,by omega,by go_num,HBe⟩,by simp[intOf];omega⟩
       ·obtain rfl:k9=NB:=by omega
        go_wp2
        go_ret
        exact⟨rfl,below_tr HB8.out HBk.out⟩
end Go.Proofs.YtoaemihcbmlkgaaGreatDoor
