/- The reference of package order, walked: compare, same. Names -/
import Derived.Test.YtjldjeenfnahoaaGreatDoorJHasT
set_option maxHeartbeats 8000000
set_option maxRecDepth 100000
namespace Go.Proofs.YtjldjeenfnahoaaGreatDoor
open Go Go.RowKit Um Fm Lx Tx Om Mp
theorem sg (a b:List Tm) (vars:List ByteArray) (keys:List Ky) (n c nv cv d no co:Nat) (A B Av Bv Ao:Option Addr) (mv dv:Nat) (w:World) (hnv:vars.length=nv) (hn:a.length=n) (hm:b.length=n) (hno:keys.length=no) (hlo:no<=1000000) (hlv:nv<=1000000)
  (hpl:∀p∈av vars (keys.map (·.v)),0<=p/\p<n) (ha:RdTs w A a) (hb:RdTs w B b) (za:bD a) (zb:bD b) (hv:Rd w Av (vars.map Value.string)) (hk:eF w Ao keys) :
  Calls Tryz.prog 49 #[.agg #[.slice Av nv cv,.slice Bv mv dv],.slice A n c,.slice B n d,.slice Ao no co] w λe w'=>e=.returned (.int .i64 (au (aQ (av vars (keys.map (·.v))) keys) a b))/\Below w.heap.size w w':=by
 obtain⟨W,hW⟩:∃W:World,w.alloc (.cells #[.slice Av nv cv,.slice Bv mv dv] 39)=W:=⟨_,rfl⟩
 obtain⟨hB0,a0,a1,hz⟩:=tV hW
 have hln:n<=1000000:=by rw[←hn];exact za.1
 obtain⟨ps,hps⟩:∃ps,av vars (keys.map (·.v))=ps:=⟨_,rfl⟩
 rw[hps]at hpl ⊢
 have hnp:ps.length=no:=by rw[←hps,←hno];simp[av]
 have hpk:∀k (y:Ky),keys[k]?=some y->ps[k]?=some (Lib.idxOfS vars y.v):=λk y h=>by
  rw[←hps];unfold av;rw[List.map_map,List.getElem?_map,h];rfl
 have H:=Lib.hid (And.intro hn (And.intro hm (And.intro hnp (And.intro hno (And.intro hpl (And.intro (RdTs.later ha hB0) (And.intro (RdTs.later hb hB0) (And.intro za (And.intro zb (And.intro (hv.later hB0) (And.intro (RdL.mono hk hB0 (λ_ _ _ h=>h)) (And.intro hnv (And.intro hpk hB0)))))))))))))
 have HW:=Lib.hid hW
 clear hn hm hnp hno hpl ha hb za zb hv hk hnv hpk hB0 hz hW hps a1
 go_enter Tryz.func49,Tryz.ntmps49
 go_wp2_with fail
 simp only[HW.out]
 go_wp2
 go_loopw [9,10,11] (λi u v wr=>∃k:Nat,k<=no/\i=.int .i64 k/\Hid (au (aQ ps keys) a b=au (aQ (ps.drop k) (keys.drop k)) a b)/\Hid (Below W.heap.size W wr)) (λi _ _ _=>no-(intOf i).toNat)
 case atStart=>exact⟨0,by omega,rfl,rfl,Below.refl _ _⟩
 case round =>
  obtain⟨k,hk,rfl,H1,HB⟩:=hrel
  obtain⟨hn,hm,hnp,hno,hpl,ha,hb,za,zb,hv,hky,hnv,hpk,hB0⟩:=H.out
  by_cases hlt:k<no
  ·obtain⟨y,hy1⟩:∃y,keys[k]?=some y:=⟨_,List.getElem?_eq_getElem (by rw[hno];exact hlt)⟩
   have hp1:=hpk k y hy1
   obtain⟨g3,o3,cs,rfl,_,rfl,hx⟩:=(RdL.mono hky HB.out (λ_ _ _ h=>h)).at_ (by omega) hy1
   have hcv:wr.cell? ⟨g3,o3+k*2,none⟩=some (.string y.v):=hx 0 _ rfl
   have hcd:wr.cell? ⟨g3,o3+k*2+1,none⟩=some (.bool y.d):=hx 1 _ rfl
   obtain⟨q0,q1⟩:=hpl _ (List.mem_of_getElem? hp1)
   obtain⟨q,hq⟩:∃q:Nat,Lib.idxOfS vars y.v=(q:Int):=⟨(Lib.idxOfS vars y.v).toNat,by omega⟩
   have hI:∀d os,Calls Tryz.prog 44 #[.slice Av nv cv,.string y.v] (Sort.grow (redrawn wr d) os) λe w'=>e=.returned (.int .i64 (Lib.idxOfS vars y.v))/\Sort.grow (redrawn wr d) os=w':=λd os =>
    nH vars y.v Av cv nv (Sort.grow (redrawn wr d) os) hnv (by omega) ((hv.later HB.out).later (below_regrown wr d os))
   rw[hq]at hp1 hI q0 q1
   obtain⟨x,hx1⟩:∃x,a[q]?=some x:=⟨_,List.getElem?_eq_getElem (by omega)⟩
   obtain⟨z,hz1⟩:∃z,b[q]?=some z:=⟨_,List.getElem?_eq_getElem (by omega)⟩
   obtain⟨g1,o1,rfl,b0,b1,b2,b3⟩:=(RdTs.later ha HB.out).at4 hx1
   obtain⟨g2,o2,rfl,d0,d1,d2,d3⟩:=(RdTs.later hb HB.out).at4 hz1
   have hst:Hid (au (aQ ps keys) a b=orZ (way y.d (aJ x z)) (au (aQ (ps.drop (k+1)) (keys.drop (k+1))) a b)):=by
    show _=_
    rw[H1.out,lQ hp1 hy1]
    show orZ (way y.d (aJ a[(q:Int).toNat]! b[(q:Int).toNat]!)) _=_
    rw[Int.toNat_natCast,List.getElem!_of_getElem? hx1,List.getElem!_of_getElem? hz1]
   have hcall:=λW=>ln x z W (za.2 x (List.mem_of_getElem? hx1)) (zb.2 z (List.mem_of_getElem? hz1))
   have hrg:=bF.rng x z
   have c0:=ab a0 HB.out
   generalize aJ x z=r at *
   generalize y.d=dn at *
   generalize y.v=yv at *
   have e0:=λd os=>ab c0 (below_regrown wr d os)
   have ev:=λd os=>ab hcv (below_regrown wr d os)
   have q1':(q:Int)<(n:Int):=by omega
   have HC:=Lib.hid (And.intro hcd (And.intro b0 (And.intro b1 (And.intro b2 (And.intro b3 (And.intro d0 (And.intro d1 (And.intro d2 d3))))))))
   clear hp1 hy1 hx hx1 hz1 b0 b1 b2 b3 d0 d1 d2 d3 hn hm hnp hno hpl ha hb za zb hv hky hnv hpk hB0 H1 hcd hq c0 hcv
   go_wp2
   refine wrq ?_;(repeat (any_goals (go_big_quiet_step ((go_at_call 44;exact Calls.quiet_tr (hI _ _))))));all_goals (refine wqn ?_;intro d9 os9)
   have kq:=below_regrown wr d9 os9
   obtain⟨hcd,b0,b1,b2,b3,d0,d1,d2,d3⟩:=HC.out
   have HB2:=Lib.hid (aa HB.out kq)
   replace hcd:=ab hcd kq
   replace b0:=ab b0 kq
   replace b1:=ab b1 kq
   replace b2:=ab b2 kq
   replace b3:=ab b3 kq
   replace d0:=ab d0 kq
   replace d1:=ab d1 kq
   replace d2:=ab d2 kq
   replace d3:=ab d3 kq
   clear e0 ev hI kq HC HB
   generalize Sort.grow (redrawn wr d9) os9=w2 at *
   have x0:=λd os=>ab b0 (below_regrown w2 d os)
   have x1:=λd os=>ab b1 (below_regrown w2 d os)
   have x2:=λd os=>ab b2 (below_regrown w2 d os)
   have x3:=λd os=>ab b3 (below_regrown w2 d os)
   have y0:=λd os=>ab d0 (below_regrown w2 d os)
   have y1:=λd os=>ab d1 (below_regrown w2 d os)
   have y2:=λd os=>ab d2 (below_regrown w2 d os)
   have y3:=λd os=>ab d3 (below_regrown w2 d os)
   have HCD:=Lib.hid hcd
   clear b0 b1 b2 b3 d0 d1 d2 d3 hcd
   go_wp2
   refine wrq ?_;(repeat (any_goals (go_big_quiet_step ((go_at_call 81;exact Calls.regrown_of (hcall _))))));all_goals (refine wqn ?_;intro d9 os9)
   have kq:=below_regrown w2 d9 os9
   have e3:=ab HCD.out kq
   have HB3:=Lib.hid (aa HB2.out kq)
   clear x0 x1 x2 x3 y0 y1 y2 y3 hcall kq HB2
   generalize Sort.grow (redrawn w2 d9) os9=w3 at *
   obtain⟨r1,r2⟩:=hrg
   by_cases hz:r=0
   ·subst hz
    have hst2:Hid (au (aQ ps keys) a b=au (aQ (ps.drop (k+1)) (keys.drop (k+1))) a b):=by
     show _=_
     rw[hst.out]
     cases dn<;>rfl
    clear hst
    cases dn
    ·go_wp2
     go_roundw
     case rel=>exact⟨k+1,by omega,by go_num,hst2,HB3⟩
     case measure=>simp[intOf];omega
    ·go_wp2
     go_roundw
     case rel=>exact⟨k+1,by omega,by go_num,hst2,HB3⟩
     case measure=>simp[intOf];omega
   ·cases dn
    ·have hst2:Hid (au (aQ ps keys) a b=r):=by
      show _=_
      rw[hst.out]
      show orZ r _=r
      unfold orZ;rw[if_neg hz]
     have hq:(r != 0)=true:=by rw[bne_iff_ne];exact hz
     clear hst hz
     go_wp2
     go_ret
     exact⟨by rw[hst2.out];rfl,aa H.out.2.2.2.2.2.2.2.2.2.2.2.2.2 HB3.out⟩
    ·have hst2:Hid (au (aQ ps keys) a b = -r):=by
      show _=_
      rw[hst.out]
      show orZ (-r) _ = -r
      unfold orZ;rw[if_neg (by omega)]
     obtain⟨s,hs⟩:∃s,-r=s:=⟨_,rfl⟩
     have hq:(s != 0)=true:=by rw[bne_iff_ne];omega
     have hw:IntKind.i64.wrap (-r)=s:=by rw[IntKind.wrap_i64];omega
     rw[hs]at hst2
     clear hst hz
     go_wp2
     go_ret
     exact⟨by rw[hst2.out];rfl,aa H.out.2.2.2.2.2.2.2.2.2.2.2.2.2 HB3.out⟩
  ·obtain rfl:k=no:=by omega
   have hst2:Hid (au (aQ ps keys) a b=cmpRow a b):=by
    show _=_
    rw[H1.out,List.drop_eq_nil_of_le (by omega)];rfl
   have HB2:=Lib.hid (aa hB0 HB.out)
   have hax:=RdTs.later ha HB.out
   have hbx:=RdTs.later hb HB.out
   have H2:=Lib.hid (And.intro hax (And.intro hbx (And.intro za (And.intro zb (And.intro hn hm)))))
   clear hn hm hnp hno hpl ha hb za zb hv hky hnv hpk hB0 H1 HB hax hbx a0
   go_wp2
   go_loopw [12,13] (λi u wv=>∃k:Nat,k<=n/\i=.int .i64 k/\Hid (cmpRow a b=cmpRow (a.drop k) (b.drop k))/\Hid (Below wr.heap.size wr wv)) (λi _ _=>n-(intOf i).toNat)
   case atStart=>exact⟨0,by omega,rfl,rfl,Below.refl _ _⟩
   case round =>
    rename_i wr0
    obtain⟨j,hj,rfl,H1,HB⟩:=hrel
    obtain⟨ha,hb,za,zb,hn,hm⟩:=H2.out
    by_cases hlt2:j<n
    ·obtain⟨x,hx1⟩:∃x,a[j]?=some x:=⟨_,List.getElem?_eq_getElem (by omega)⟩
     obtain⟨z,hz1⟩:∃z,b[j]?=some z:=⟨_,List.getElem?_eq_getElem (by omega)⟩
     obtain⟨g1,o1,rfl,b0,b1,b2,b3⟩:=(RdTs.later ha HB.out).at4 hx1
     obtain⟨g2,o2,rfl,d0,d1,d2,d3⟩:=(RdTs.later hb HB.out).at4 hz1
     have hst:Hid (cmpRow a b=orZ (aJ x z) (cmpRow (a.drop (j+1)) (b.drop (j+1)))):=by
      show _=_
      rw[H1.out,an hx1,an hz1];rfl
     have hcall:=λW=>ln x z W (za.2 x (List.mem_of_getElem? hx1)) (zb.2 z (List.mem_of_getElem? hz1))
     generalize aJ x z=r at *
     have x0:=λd os=>ab b0 (below_regrown wr d os)
     have x1:=λd os=>ab b1 (below_regrown wr d os)
     have x2:=λd os=>ab b2 (below_regrown wr d os)
     have x3:=λd os=>ab b3 (below_regrown wr d os)
     have y0:=λd os=>ab d0 (below_regrown wr d os)
     have y1:=λd os=>ab d1 (below_regrown wr d os)
     have y2:=λd os=>ab d2 (below_regrown wr d os)
     have y3:=λd os=>ab d3 (below_regrown wr d os)
     clear hx1 hz1 b0 b1 b2 b3 d0 d1 d2 d3 ha hb za zb hn hm H1
     go_wp2
     refine wrq ?_;(repeat (any_goals (go_big_quiet_step ((go_at_call 81;exact Calls.regrown_of (hcall _))))));all_goals (refine wqn ?_;intro d9 os9)
     have kq:=Lib.hid (aa HB.out (below_regrown wr d9 os9))
     clear x0 x1 x2 x3 y0 y1 y2 y3 hcall
     generalize Sort.grow (redrawn wr d9) os9=w3 at *
     by_cases hz:r=0
     ·subst hz
      have hst3:Hid (cmpRow a b=cmpRow (a.drop (j+1)) (b.drop (j+1))):=by
       show _=_
       rw[hst.out]
       rfl
      clear hst
      go_wp2
      go_roundw
      case rel=>exact⟨j+1,by omega,by go_num,hst3,kq⟩
      case measure=>simp[intOf];omega
     ·have hst3:Hid (au (aQ ps keys) a b=r):=by
       show _=_
       rw[hst2.out,hst.out]
       unfold orZ;rw[if_neg hz]
      have hq:(r != 0)=true:=by rw[bne_iff_ne];exact hz
      clear hst hz
      go_wp2
      go_ret
      exact⟨by rw[hst3.out];rfl,aa HB2.out kq.out⟩
    ·obtain rfl:j=n:=by omega
     have hst3:Hid (au (aQ ps keys) a b=0):=by
      show _=_
      rw[hst2.out,H1.out,bQ a hn,bQ b hm];rfl
     clear ha hb za zb hn hm H1
     go_wp2
     go_ret
     exact⟨by rw[hst3.out];rfl,aa HB2.out HB.out⟩
theorem nD {a b:List Tm} {k:Nat} {x z:Tm} (hx:a[k]?=some x) (hz:b[k]?=some z):(a.drop k=b.drop k↔x=z/\a.drop (k+1)=b.drop (k+1)):=by
 rw[an hx,an hz,List.cons.injEq]
theorem se (a b:List Tm) (A B:Option Addr) (c d n m:Nat) (w:World) (hn:a.length=n) (hm:b.length=m) (hln:n<=1000000) (hlm:m<=1000000) (ha:RdTs w A a) (hb:RdTs w B b) :
  Calls Tryz.prog 52 #[.slice A n c,.slice B m d] w λe w'=>e=.returned (.bool (decide (a=b)))/\Below w.heap.size w w':=by
 obtain⟨res,hres⟩:∃r,decide (a=b)=r:=⟨_,rfl⟩
 rw[hres]
 have H:=Lib.hid (And.intro hn (And.intro hm (And.intro ha (And.intro hb hres))))
 clear hn hm ha hb hres
 go_enter Tryz.func52,Tryz.ntmps52
 go_wp2
 go_loopw [5] (λi wr=>∃k:Nat,k<=n/\k<=m/\i=.int .i64 k/\Hid (a=b↔a.drop k=b.drop k)/\Hid (Below w.heap.size w wr)) (λi _=>n-(intOf i).toNat)
 case atStart=>exact⟨0,by omega,by omega,rfl,Iff.rfl,Below.refl _ _⟩
 case round =>
  obtain⟨k,hk,hkm,rfl,H1,HB⟩:=hrel
  obtain⟨hn,hm,ha,hb,hres⟩:=H.out
  by_cases hlt:k<n
  ·by_cases hlt2:k<m
   ·obtain⟨x,hx1⟩:∃x,a[k]?=some x:=⟨_,List.getElem?_eq_getElem (by omega)⟩
    obtain⟨z,hz1⟩:∃z,b[k]?=some z:=⟨_,List.getElem?_eq_getElem (by omega)⟩
    obtain⟨g1,o1,rfl,b0,b1,b2,b3⟩:=(RdTs.later ha HB.out).at4 hx1
    obtain⟨g2,o2,rfl,d0,d1,d2,d3⟩:=(RdTs.later hb HB.out).at4 hz1
    have hsd:=nD hx1 hz1
    have x0:=λd os=>ab b0 (below_regrown wr d os)
    have x1:=λd os=>ab b1 (below_regrown wr d os)
    have x2:=λd os=>ab b2 (below_regrown wr d os)
    have x3:=λd os=>ab b3 (below_regrown wr d os)
    have y0:=λd os=>ab d0 (below_regrown wr d os)
    have y1:=λd os=>ab d1 (below_regrown wr d os)
    have y2:=λd os=>ab d2 (below_regrown wr d os)
    have y3:=λd os=>ab d3 (below_regrown wr d os)
    by_cases he:x=z
    ·have hne:=λW=>iz x z W
     rw[show bg x z=true from dm.2 he]at hne
     have H2:Hid (a=b↔a.drop (k+1)=b.drop (k+1)):=by
      show _↔_
      rw[H1.out,hsd]
      exact⟨λh=>h.2,λh=>⟨he,h⟩⟩
     clear hx1 hz1 b0 b1 b2 b3 d0 d1 d2 d3 hn hm ha hb hres H1 hsd he
     go_wp2
     refine wrq ?_;(repeat (any_goals (go_big_quiet_step ((fail)))));all_goals (refine wqn ?_;intro d9 os9)
     have kq:=Lib.hid (aa HB.out (below_regrown wr d9 os9))
     clear x0 x1 x2 x3 y0 y1 y2 y3
     generalize Sort.grow (redrawn wr d9) os9=w3 at *
     go_wp2
     go_roundw
     case rel=>exact⟨k+1,by omega,by omega,by go_num,H2,kq⟩
     case measure=>simp[intOf];omega
    ·have hne:=λW=>iz x z W
     rw[show bg x z=false from by
      cases h:bg x z with
      | false=>rfl
      | true=>exact absurd (dm.1 h) he]at hne
     have H2:Hid (res=false):=by
      show _=_
      rw[←hres,decide_eq_false_iff_not,H1.out,hsd]
      exact λh=>he h.1
     clear hx1 hz1 b0 b1 b2 b3 d0 d1 d2 d3 hn hm ha hb hres H1 hsd he
     go_wp2
     refine wrq ?_;(repeat (any_goals (go_big_quiet_step ((fail)))));all_goals (refine wqn ?_;intro d9 os9)
     have kq:=Lib.hid (aa HB.out (below_regrown wr d9 os9))
     clear x0 x1 x2 x3 y0 y1 y2 y3
     generalize Sort.grow (redrawn wr d9) os9=w3 at *
     go_wp2
     go_ret
     exact⟨by rw[H2.out];rfl,kq.out⟩
   ·have H2:Hid (res=((n:Int) == (m:Int))):=by
     show _=_
     rw[←hres,show ((n:Int) == (m:Int))=false from by rw[beq_eq_false_iff_ne];omega,decide_eq_false_iff_not]
     intro h
     rw[h]at hn
     omega
    have hd:decide (k<m)=false:=decide_eq_false hlt2
    clear hn hm ha hb hres H1
    go_wp2
    go_ret
    exact⟨by rw[H2.out];rfl,HB.out⟩
  ·obtain rfl:k=n:=by omega
   have H2:Hid (res=((k:Int) == (m:Int))):=by
    show _=_
    rw[←hres,Bool.eq_iff_iff,decide_eq_true_iff,H1.out,beq_iff_eq,bQ a hn]
    constructor
    ·intro h
     have:=congrArg List.length h
     rw[List.length_drop]at this
     simp only[List.length_nil]at this
     omega
    ·intro h
     exact(bQ b (by omega)).symm
   clear hn hm ha hb hres H1
   go_wp2
   go_ret
   exact⟨by rw[H2.out];rfl,HB.out⟩
theorem fO:(Tryz.prog.info? 9).map (λi=>(i.zero,i.size,i.bytes))=some (some (.string ⟨#[]⟩),1,16):=by kernel_rfl
theorem below_drewN' {B:Nat} {a w:World} (h:Below B a w) (n:Nat):Below B a (w.drewN n):=⟨h.os,h.tape,h.output,h.size,h.block⟩
def dT (a b:List ByteArray):Bool:=decide (a=b)
def Cf (a b:List ByteArray) (k:Nat):Prop:=∀j,j<k->a[j]?=b[j]?
theorem nE (a b:List ByteArray) (A B:Option Addr) (c d:Nat) (w:World) (ha:Rd w A (a.map Value.string)) (hb:Rd w B (b.map Value.string)) (hl:a.length<=281474976710656) (hl2:b.length<=281474976710656) :
  Calls Tryz.prog 45 #[.slice A a.length c,.slice B b.length d] w λe w'=>e=.returned (.bool (dT a b))/\Below w.heap.size w w':=by
 by_cases hlen:a.length=b.length
 case neg =>
  have hne:dT a b=false:=by unfold dT;simp;intro h;exact hlen (by rw[h])
  have h1:((a.length:Int) != (b.length:Int))=true:=by rw[bne_iff_ne];omega
  rw[hne]
  clear hne hlen
  go_enter Tryz.func45,Tryz.ntmps45
  go_wp2
  go_ret
  exact⟨rfl,Below.refl _ _⟩
 have h1:((a.length:Int) != (b.length:Int))=false:=by simp;omega
 have hab:a.length<=b.length:=by omega
 have Hlen:=Lib.hid hlen
 clear hlen
 go_enter Tryz.func45,Tryz.ntmps45
 go_wp2
 go_loopw [5] (λi wr=>∃k:Nat,k<=a.length/\i=.int .i64 k/\Below w.heap.size w wr/\Hid (Cf a b k)) (λi _=>a.length-(intOf i).toNat)
 case atStart=>exact⟨0,by omega,rfl,Below.refl _ _,λj h=>by omega⟩
 case round =>
  obtain⟨k,hk,rfl,hB,H⟩:=hrel
  by_cases hlt:k<a.length
  ·obtain⟨x,hx⟩:∃x,a[k]?=some x:=⟨_,List.getElem?_eq_getElem hlt⟩
   obtain⟨y,hy⟩:∃x,b[k]?=some x:=⟨_,List.getElem?_eq_getElem (by omega)⟩
   obtain⟨g,o,rfl,hcx⟩:=(ha.below hB (Nat.le_refl _)).at_ (j:=k) (u:=.string x) (by simp[hx])
   obtain⟨g',o',rfl,hcy⟩:=(hb.below hB (Nat.le_refl _)).at_ (j:=k) (u:=.string y) (by simp[hy])
   have Hx:=Lib.hid hx
   have Hy:=Lib.hid hy
   have hlt2:k<b.length:=by omega
   clear hx hy ha hb
   cases hq:(x.toList == y.toList)
   ·have hne:dT a b=false:=by
     unfold dT;simp;intro h;subst h
     have:=Hx.out.symm.trans Hy.out
     injection this with this
     subst this
     simp at hq
    have hq2:(x.toList != y.toList)=true:=by rw[bne,hq];rfl
    have Hne:=Lib.hid hne
    clear hne
    go_wp2
    go_quiet (fail)
    go_wp2
    go_ret
    exact⟨by rw[Hne.out];rfl,below_drewN' hB nq⟩
   ·have hxy:Hid (x=y):=(Lib.bytes_beq_iff x y).1 hq
    have hq2:(x.toList != y.toList)=false:=by rw[bne,hq];rfl
    go_wp2
    go_quiet (fail)
    go_wp2
    go_roundw
    case rel=>exact⟨k+1,by omega,by go_num,below_drewN' hB nq,λj hj=>by
     rcases Nat.lt_or_ge j k with h|h
     ·exact H.out j h
     ·have:j=k:=by omega
      subst this;rw[Hx.out,Hy.out,hxy.out]⟩
    case measure=>simp[intOf];omega
  ·have he:dT a b=true:=by
    unfold dT;simp
    refine List.ext_getElem? λj=>?_
    rcases Nat.lt_or_ge j k with h|h
    ·exact H.out j h
    ·rw[List.getElem?_eq_none (by omega),List.getElem?_eq_none (by have:=Hlen.out;omega)]
   have He:=Lib.hid he
   clear he ha hb
   go_wp2
   go_ret
   exact⟨by rw[He.out];rfl,hB⟩
theorem pg (a b:List Tm) (A B:Option Addr) (c d n m:Nat) (w:World) (hn:a.length=n) (hm:b.length=m) (hln:n<=1000000) (hlm:m<=1000000) (ha:RdTs w A a) (hb:RdTs w B b) :
  Calls Tryz.prog 61 #[.slice A n c,.slice B m d] w λe w'=>e=.returned (.bool (decide (a=b)))/\Below w.heap.size w w':=by
 obtain⟨res,hres⟩:∃r,decide (a=b)=r:=⟨_,rfl⟩
 rw[hres]
 by_cases hnm:n=m
 case neg =>
  have hr:res=false:=by
   rw[←hres,decide_eq_false_iff_not]
   intro h
   rw[h]at hn
   omega
  subst hr
  have hd:((n:Int) != (m:Int))=true:=by rw[bne_iff_ne];omega
  clear hn hm ha hb hres hnm
  go_enter Tryz.func61,Tryz.ntmps61
  go_wp2
  go_ret
  exact⟨rfl,Below.refl _ _⟩
 subst hnm
 have H:=Lib.hid (And.intro hn (And.intro hm (And.intro ha (And.intro hb hres))))
 clear hn hm ha hb hres
 go_enter Tryz.func61,Tryz.ntmps61
 go_wp2
 go_loopw [5] (λi wr=>∃k:Nat,k<=n/\i=.int .i64 k/\Hid (a=b↔a.drop k=b.drop k)/\Hid (Below w.heap.size w wr)) (λi _=>n-(intOf i).toNat)
 case atStart=>exact⟨0,by omega,rfl,Iff.rfl,Below.refl _ _⟩
 case round =>
  obtain⟨k,hk,rfl,H1,HB⟩:=hrel
  obtain⟨hn,hm,ha,hb,hres⟩:=H.out
  by_cases hlt:k<n
  ·obtain⟨x,hx1⟩:∃x,a[k]?=some x:=⟨_,List.getElem?_eq_getElem (by omega)⟩
   obtain⟨z,hz1⟩:∃z,b[k]?=some z:=⟨_,List.getElem?_eq_getElem (by omega)⟩
   obtain⟨g1,o1,rfl,b0,b1,b2,b3⟩:=(RdTs.later ha HB.out).at4 hx1
   obtain⟨g2,o2,rfl,d0,d1,d2,d3⟩:=(RdTs.later hb HB.out).at4 hz1
   have hsd:=nD hx1 hz1
   have x0:=λd os=>ab b0 (below_regrown wr d os)
   have x1:=λd os=>ab b1 (below_regrown wr d os)
   have x2:=λd os=>ab b2 (below_regrown wr d os)
   have x3:=λd os=>ab b3 (below_regrown wr d os)
   have y0:=λd os=>ab d0 (below_regrown wr d os)
   have y1:=λd os=>ab d1 (below_regrown wr d os)
   have y2:=λd os=>ab d2 (below_regrown wr d os)
   have y3:=λd os=>ab d3 (below_regrown wr d os)
   by_cases he:x=z
   ·have hne:=λW=>iz x z W
    rw[show bg x z=true from dm.2 he]at hne
    have H2:Hid (a=b↔a.drop (k+1)=b.drop (k+1)):=by
     show _↔_
     rw[H1.out,hsd]
     exact⟨λh=>h.2,λh=>⟨he,h⟩⟩
    clear hx1 hz1 b0 b1 b2 b3 d0 d1 d2 d3 hn hm ha hb hres H1 hsd he
    go_wp2
    refine wrq ?_;(repeat (any_goals (go_big_quiet_step ((fail)))));all_goals (refine wqn ?_;intro d9 os9)
    have kq:=Lib.hid (aa HB.out (below_regrown wr d9 os9))
    clear x0 x1 x2 x3 y0 y1 y2 y3
    generalize Sort.grow (redrawn wr d9) os9=w3 at *
    go_wp2
    go_roundw
    case rel=>exact⟨k+1,by omega,by go_num,H2,kq⟩
    case measure=>simp[intOf];omega
   ·have hne:=λW=>iz x z W
    rw[show bg x z=false from by
     cases h:bg x z with
     | false=>rfl
     | true=>exact absurd (dm.1 h) he]at hne
    have H2:Hid (res=false):=by
     show _=_
     rw[←hres,decide_eq_false_iff_not,H1.out,hsd]
     exact λh=>he h.1
    clear hx1 hz1 b0 b1 b2 b3 d0 d1 d2 d3 hn hm ha hb hres H1 hsd he
    go_wp2
    refine wrq ?_;(repeat (any_goals (go_big_quiet_step ((fail)))));all_goals (refine wqn ?_;intro d9 os9)
    have kq:=Lib.hid (aa HB.out (below_regrown wr d9 os9))
    clear x0 x1 x2 x3 y0 y1 y2 y3
    generalize Sort.grow (redrawn wr d9) os9=w3 at *
    go_wp2
    go_ret
    exact⟨by rw[H2.out];rfl,kq.out⟩
  ·obtain rfl:k=n:=by omega
   have H2:Hid (res=true):=by
    show _=_
    rw[←hres,decide_eq_true_iff,H1.out,bQ a hn,bQ b hm]
   clear hn hm ha hb hres H1
   go_wp2
   go_ret
   exact⟨by rw[H2.out];rfl,HB.out⟩
theorem rY {a b:List (List Tm)} {k:Nat} {x z:List Tm} (hx:a[k]?=some x) (hz:b[k]?=some z):(a.drop k=b.drop k↔x=z/\a.drop (k+1)=b.drop (k+1)):=by
 rw[an hx,an hz,List.cons.injEq]
theorem dq (a b:List (List Tm)) (A B:Option Addr) (c d n m:Nat) (w:World) (hn:a.length=n) (hm:b.length=m) (hln:n<=1000000) (hlm:m<=1000000) (hza:∀r∈a,r.length<=1000000) (hzb:∀r∈b,r.length<=1000000) (ha:RdRs w A a) (hb:RdRs w B b) :
  Calls Tryz.prog 32 #[.slice A n c,.slice B m d] w λe w'=>e=.returned (.bool (decide (a=b)))/\Below w.heap.size w w':=by
 obtain⟨res,hres⟩:∃r,decide (a=b)=r:=⟨_,rfl⟩
 rw[hres]
 by_cases hnm:n=m
 case neg =>
  have hr:res=false:=by
   rw[←hres,decide_eq_false_iff_not]
   intro h
   rw[h]at hn
   omega
  subst hr
  have hd:((n:Int) != (m:Int))=true:=by rw[bne_iff_ne];omega
  clear hn hm ha hb hres hnm hza hzb
  go_enter Tryz.func32,Tryz.ntmps32
  go_wp2
  go_ret
  exact⟨rfl,Below.refl _ _⟩
 subst hnm
 have H:=Lib.hid (And.intro hn (And.intro hm (And.intro ha (And.intro hb (And.intro hza (And.intro hzb hres))))))
 clear hn hm ha hb hres hza hzb
 go_enter Tryz.func32,Tryz.ntmps32
 go_wp2
 go_loopw [5] (λi wr=>∃k:Nat,k<=n/\i=.int .i64 k/\Hid (a=b↔a.drop k=b.drop k)/\Hid (Below w.heap.size w wr)) (λi _=>n-(intOf i).toNat)
 case atStart=>exact⟨0,by omega,rfl,Iff.rfl,Below.refl _ _⟩
 case round =>
  obtain⟨k,hk,rfl,H1,HB⟩:=hrel
  obtain⟨hn,hm,ha,hb,hza,hzb,hres⟩:=H.out
  by_cases hlt:k<n
  ·obtain⟨x,hx1⟩:∃x,a[k]?=some x:=⟨_,List.getElem?_eq_getElem (by omega)⟩
   obtain⟨z,hz1⟩:∃z,b[k]?=some z:=⟨_,List.getElem?_eq_getElem (by omega)⟩
   obtain⟨g1,o1,A1,c1,rfl,hc1,_,hr1⟩:=(ha.later HB.out).at1 hx1
   obtain⟨g2,o2,A2,c2,rfl,hc2,_,hr2⟩:=(hb.later HB.out).at1 hz1
   have hsd:=rY hx1 hz1
   have hS:=λd os=>pg x z A1 A2 c1 c2 x.length z.length (Sort.grow (redrawn wr d) os) rfl rfl (hza x (List.mem_of_getElem? hx1)) (hzb z (List.mem_of_getElem? hz1)) (hr1.later (below_regrown wr d os)) (hr2.later (below_regrown wr d os))
   have e1:=λd os=>ab hc1 (below_regrown wr d os)
   have e2:=λd os=>ab hc2 (below_regrown wr d os)
   by_cases he:x=z
   ·rw[show decide (x=z)=true from decide_eq_true he]at hS
    have H2:Hid (a=b↔a.drop (k+1)=b.drop (k+1)):=by
     show _↔_
     rw[H1.out,hsd]
     exact⟨λh=>h.2,λh=>⟨he,h⟩⟩
    generalize x.length=lx at *
    generalize z.length=lz at *
    clear hx1 hz1 hn hm ha hb hres hza hzb H1 hsd he hc1 hc2 hr1 hr2
    go_wp2
    refine wrq ?_;(repeat (any_goals (go_big_quiet_step ((go_at_call 61;exact Calls.regrown_of (hS _ _))))));all_goals (refine wqn ?_;intro d9 os9)
    have kq:=Lib.hid (aa HB.out (below_regrown wr d9 os9))
    go_wp2
    go_roundw
    case rel=>exact⟨k+1,by omega,by go_num,H2,kq⟩
    case measure=>simp[intOf];omega
   ·rw[show decide (x=z)=false from decide_eq_false he]at hS
    have H2:Hid (res=false):=by
     show _=_
     rw[←hres,decide_eq_false_iff_not,H1.out,hsd]
     exact λh=>he h.1
    generalize x.length=lx at *
    generalize z.length=lz at *
    clear hx1 hz1 hn hm ha hb hres hza hzb H1 hsd he hc1 hc2 hr1 hr2
    go_wp2
    refine wrq ?_;(repeat (any_goals (go_big_quiet_step ((go_at_call 61;exact Calls.regrown_of (hS _ _))))));all_goals (refine wqn ?_;intro d9 os9)
    have kq:=Lib.hid (aa HB.out (below_regrown wr d9 os9))
    go_wp2
    go_ret
    exact⟨by rw[H2.out];rfl,kq.out⟩
  ·obtain rfl:k=n:=by omega
   have H2:Hid (res=true):=by
    show _=_
    rw[←hres,decide_eq_true_iff,H1.out,bQ a hn,bQ b hm]
   clear hn hm ha hb hres hza hzb H1
   go_wp2
   go_ret
   exact⟨by rw[H2.out];rfl,HB.out⟩
end Go.Proofs.YtjldjeenfnahoaaGreatDoor
