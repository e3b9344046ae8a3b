/- Layer 29's law, walked: count, fine. -/
import Derived.Test.YtoejnneknpoanaaGreatDoorJRwsMath
set_option maxHeartbeats 16000000
set_option maxRecDepth 100000
namespace Go.Proofs.YtoejnneknpoanaaGreatDoor
open Go Go.RowKit Fm Tx Om Mp
theorem law29Count (l:List (List Tm)) (row:List Tm) (A B:Option Addr) (c d n m:Nat) (w:World) (hn:l.length=n) (hm:row.length=m) (hln:n<=1000000) (hlm:m<=1000000) (hz:∀r∈l,r.length<=1000000) (hl:RdRs w A l) (hr:RdTs w B row) :
  Calls Tryz.prog 32 #[.slice A n c,.slice B m d] w λe w'=>e=.returned (.int .i64 (timesL l row))/\Below w.heap.size w w':=by
 have H:=Lib.hid (And.intro hn (And.intro hm (And.intro hz (And.intro hl hr))))
 clear hn hm hz hl hr
 go_enter Tryz.func32,Tryz.ntmps32
 go_wp2
 go_loopw [5,6] (λu i wr=>∃k:Nat,k<=n/\u=.int .i64 (timesL (l.take k) row)/\i=.int .i64 k/\Hid (Below w.heap.size w wr)) (λ_ i _=>n-(intOf i).toNat)
 case atStart=>exact⟨0,by omega,rfl,rfl,Below.refl _ _⟩
 case round =>
  obtain⟨k,hk,rfl,rfl,HB⟩:=hrel
  obtain⟨hn,hm,hz,hl,hr⟩:=H.out
  have htl:=times_le (l.take k) row
  rw[List.length_take]at htl
  have htl2:timesL (l.take k) row<=1000000:=by omega
  by_cases hlt:k<n
  ·obtain⟨x,hx1⟩:∃x,l[k]?=some x:=⟨_,List.getElem?_eq_getElem (by omega)⟩
   obtain⟨g1,o1,A1,c1,rfl,hc1,_,hr1⟩:=(hl.later HB.out).at1 hx1
   have hS:=kitSameTerms x row A1 B c1 d x.length m wr rfl hm (hz x (List.mem_of_getElem? hx1)) hlm hr1 (RdTs.later hr HB.out)
   have hst:=times_step (r:=row) hx1
   by_cases he:x=row
   ·rw[show decide (x=row)=true from decide_eq_true he]at hS
    rw[if_pos he]at hst
    have HT:=Lib.hid hst
    generalize x.length=lx at *
    clear hx1 hn hm hz hl hr hr1 hst he htl
    generalize timesL (l.take k) row=t0 at *
    go_wp2_with (refine hS.mono ?_;rintro e w2 ⟨rfl,hb2⟩;have HF:=Lib.hid (below_tr HB.out hb2);clear hb2 hS)
    go_roundw
    case rel=>exact⟨k+1,by omega,by rw[HT.out];go_num,by go_num,HF⟩
    case measure=>simp[intOf];omega
   ·rw[show decide (x=row)=false from decide_eq_false he]at hS
    rw[if_neg he]at hst
    have HT:=Lib.hid hst
    generalize x.length=lx at *
    clear hx1 hn hm hz hl hr hr1 hst he htl
    generalize timesL (l.take k) row=t0 at *
    go_wp2_with (refine hS.mono ?_;rintro e w2 ⟨rfl,hb2⟩;have HF:=Lib.hid (below_tr HB.out hb2);clear hb2 hS)
    go_roundw
    case rel=>exact⟨k+1,by omega,by rw[HT.out];rfl,by go_num,HF⟩
    case measure=>simp[intOf];omega
  ·obtain rfl:k=n:=by omega
   have HT:Hid (l.take k=l):=List.take_of_length_le (by omega)
   clear hn hm hz hl hr htl
   rw[HT.out]at htl2 ⊢
   go_wp2
   go_ret
   exact⟨rfl,HB.out⟩
theorem nodup_at {vars:List ByteArray} (hnd:vars.Nodup) {i j:Nat} {s t:ByteArray} (hi:vars[i]?=some s) (hj:vars[j]?=some t):s=t↔i=j:=by
 obtain⟨li,ei⟩:=List.getElem?_eq_some_iff.1 hi
 obtain⟨lj,ej⟩:=List.getElem?_eq_some_iff.1 hj
 constructor
 ·intro e
  have hp:=List.pairwise_iff_getElem.1 hnd
  rcases Nat.lt_trichotomy i j with h|h|h
  ·exact absurd (by rw[ei,ej,e]) (hp i j li lj h)
  ·exact h
  ·exact absurd (by rw[ei,ej,e]) (hp j i lj li h)
 ·rintro rfl
  rw[hi]at hj
  injection hj
theorem place_of {vars:List ByteArray} (hnd:vars.Nodup) {s:ByteArray} (h:s∈vars):∃p:Nat,vars[p]?=some s/\Lib.idxOfS vars s=(p:Int):=by
 obtain⟨p,hp⟩:=List.mem_iff_getElem?.1 h
 refine⟨p,hp,idx_is hp λhm=>?_⟩
 obtain⟨j,hj⟩:=List.mem_iff_getElem?.1 hm
 rw[List.getElem?_take]at hj
 split at hj
 ·have:=(nodup_at hnd hj hp).1 rfl
  omega
 ·cases hj
theorem law29Fine (vars:List ByteArray) (keys:List Ky) (a b:List Tm) (Av Aa Ab Ak:Option Addr) (cv ca cb ck n no:Nat) (w:World) (hn:vars.length=n) (hna:a.length=n) (hnb:b.length=n) (hno:keys.length=no) (hln:n<=1000000) (hlo:no<=1000000) (hnd:vars.Nodup) (hpl:∀y∈keys,y.v∈vars) (hC:CtxT w) (za:smallRow a) (zb:smallRow b) (hv:Rd w Av (vars.map Value.string)) (ha:RdTs w Aa a) (hb:RdTs w Ab b) (hky:RdKey w Ak keys) :
  Calls Tryz.prog 33 #[.slice Av n cv,.slice Aa n ca,.slice Ab n cb,.slice Ak no ck] w λe w'=>e=.returned (.bool (fineK (keysP (placesL vars (keys.map (·.v))) keys) a b))/\Below w.heap.size w w':=by
 obtain⟨ks,hks⟩:∃ks,keysP (placesL vars (keys.map (·.v))) keys=ks:=⟨_,rfl⟩
 have hkat:∀(k:Nat) (y:Ky),keys[k]?=some y->ks[k]?=some ((Lib.idxOfS vars y.v).toNat,y.d):=λk y h=>by rw[←hks];exact keys_at h
 have hkl:ks.length=no:=by rw[←hks,keys_len,hno]
 rw[hks]
 obtain⟨res,hres⟩:∃r,fineK ks a b=r:=⟨_,rfl⟩
 rw[hres]
 have hres0:res=decide (cmpKeys (ks.drop 0) a b<=0):=hres.symm
 have H:=Lib.hid (And.intro hn (And.intro hna (And.intro hnb (And.intro hno (And.intro hnd (And.intro hpl (And.intro hC (And.intro za (And.intro zb (And.intro hv (And.intro ha (And.intro hb (And.intro hky (And.intro hkat hkl))))))))))))))
 have H0:=Lib.hid hres0
 clear hn hna hnb hno hnd hpl hC za zb hv ha hb hky hkat hkl hres hks hres0
 go_enter Tryz.func33,Tryz.ntmps33
 go_wp2
 go_loopw [9,10,11] (λi u v wr=>∃k:Nat,k<=no/\i=.int .i64 k/\Hid (res=decide (cmpKeys (ks.drop k) a b<=0))/\Hid (Below w.heap.size w wr)) (λi _ _ _=>no-(intOf i).toNat)
 case atStart=>exact⟨0,by omega,rfl,H0,Below.refl _ _⟩
 case round =>
  clear H0
  obtain⟨k,hk,rfl,H1,HB⟩:=hrel
  by_cases hlt:k<no
  ·obtain⟨y,hy1⟩:∃y,keys[k]?=some y:=⟨_,List.getElem?_eq_getElem (by rw[H.out.2.2.2.1];exact hlt)⟩
   obtain⟨p,hp,hpi⟩:=place_of H.out.2.2.2.2.1 (H.out.2.2.2.2.2.1 y (List.mem_of_getElem? hy1))
   have hpn:p<n:=by rw[←H.out.1];exact(List.getElem?_eq_some_iff.1 hp).1
   have hka:=H.out.2.2.2.2.2.2.2.2.2.2.2.2.2.1 k y hy1
   rw[hpi,Int.toNat_natCast]at hka
   have hcd:=cmpKeys_drop hka a b
   obtain⟨x,hx1⟩:∃x,a[p]?=some x:=⟨_,List.getElem?_eq_getElem (by rw[H.out.2.1];exact hpn)⟩
   obtain⟨z,hz1⟩:∃z,b[p]?=some z:=⟨_,List.getElem?_eq_getElem (by rw[H.out.2.2.1];exact hpn)⟩
   rw[List.getElem!_of_getElem? hx1,List.getElem!_of_getElem? hz1]at hcd
   have HS:=Lib.hid (And.intro hy1 (And.intro hp (And.intro hx1 (And.intro hz1 hcd))))
   clear hy1 hp hpi hka hcd hx1 hz1
   obtain⟨wo,hwo⟩:∃V:World,V=wr:=⟨_,rfl⟩
   subst hwo
   go_wp2
   go_loopw [10,11] (λj v wv=>∃m:Nat,m<=n/\j=.int .i64 m/\Hid (p<m->cmpTm x z=0)/\Hid (Below wo.heap.size wo wv)) (λj _ _=>n-(intOf j).toNat)
   case atStart=>exact⟨0,by omega,rfl,(λh=>by omega),Below.refl _ _⟩
   case round =>
    obtain⟨m,hm,rfl,H2,HB2⟩:=hrel
    obtain⟨hn,hna,hnb,hno,hnd,hpl,hC,za,zb,hv,ha,hb,hky,hkat,hkl⟩:=H.out
    obtain⟨hy1,hp,hx1,hz1,hcd⟩:=HS.out
    have HBB:=Lib.hid (below_tr HB.out HB2.out)
    by_cases hlt2:m<n
    ·obtain⟨s,hs⟩:∃s,vars[m]?=some s:=⟨_,List.getElem?_eq_getElem (by rw[hn];exact hlt2)⟩
     have hsm:=nodup_at hnd hs hp
     obtain⟨gv,ov,rfl,hcv⟩:=(hv.later HBB.out).at_ (j:=m) (u:=.string s) (by rw[List.getElem?_map,hs];rfl)
     obtain⟨g3,o3,cs,rfl,_,rfl,hx⟩:=(RdL.mono hky HBB.out (λ_ _ _ h=>h)).at_ (by omega) hy1
     have hky0:wr.cell? ⟨g3,o3+k*2,none⟩=some (.string y.v):=hx 0 _ rfl
     have hky1:wr.cell? ⟨g3,o3+k*2+1,none⟩=some (.bool y.d):=hx 1 _ rfl
     have e0:=λd os=>cell_on hcv (below_regrown wr d os)
     have e1:=λd os=>cell_on hky0 (below_regrown wr d os)
     by_cases he:m=p
     ·subst he
      have hse:s=y.v:=hsm.2 rfl
      have hq:(s.toList == y.v.toList)=true:=by rw[hse];simp
      obtain⟨g1,o1,rfl,b0,b1,b2,b3⟩:=(RdTs.later ha HBB.out).at4 hx1
      obtain⟨g2,o2,rfl,d0,d1,d2,d3⟩:=(RdTs.later hb HBB.out).at4 hz1
      have hcall:=λW (h:Below wr.heap.size wr W)=>termCompare x z W (hC.step (below_tr HBB.out h)) (za.2 x (List.mem_of_getElem? hx1)) (zb.2 z (List.mem_of_getElem? hz1))
      have hst:Hid (res=decide (orZ (way y.d (cmpTm x z)) (cmpKeys (ks.drop (k+1)) a b)<=0)):=by show _=_;rw[H1.out,hcd]
      have HC:=Lib.hid (And.intro b0 (And.intro b1 (And.intro b2 (And.intro b3 (And.intro d0 (And.intro d1 (And.intro d2 (And.intro d3 hky1))))))))
      generalize cmpTm x z=r at *
      generalize y.d=dn at *
      generalize y.v=yv at *
      clear hn hna hnb hno hnd hpl hC za zb hv ha hb hky hkat hkl hy1 hp hx1 hz1 hcd hs hsm hse hx b0 b1 b2 b3 d0 d1 d2 d3 hky1 hky0 hcv H2
      go_wp2
      refine wrq ?_;(repeat (any_goals (go_big_quiet_step ((fail)))));all_goals (refine wqn ?_;intro d9 os9)
      have kq:=below_regrown wr d9 os9
      obtain⟨b0,b1,b2,b3,d0,d1,d2,d3,hky1⟩:=HC.out
      replace b0:=cell_on b0 kq
      replace b1:=cell_on b1 kq
      replace b2:=cell_on b2 kq
      replace b3:=cell_on b3 kq
      replace d0:=cell_on d0 kq
      replace d1:=cell_on d1 kq
      replace d2:=cell_on d2 kq
      replace d3:=cell_on d3 kq
      replace hky1:=cell_on hky1 kq
      have hcall2:=λW (h:Below (Sort.grow (redrawn wr d9) os9).heap.size (Sort.grow (redrawn wr d9) os9) W)=>hcall W (below_tr kq h)
      have HO2:=Lib.hid (below_tr HBB.out kq)
      have HI2:=Lib.hid (below_tr HB2.out kq)
      clear e0 e1 hcall kq HC HBB HB2
      generalize Sort.grow (redrawn wr d9) os9=w2 at *
      have x0:=λd os=>cell_on b0 (below_regrown w2 d os)
      have x1:=λd os=>cell_on b1 (below_regrown w2 d os)
      have x2:=λd os=>cell_on b2 (below_regrown w2 d os)
      have x3:=λd os=>cell_on b3 (below_regrown w2 d os)
      have y0:=λd os=>cell_on d0 (below_regrown w2 d os)
      have y1:=λd os=>cell_on d1 (below_regrown w2 d os)
      have y2:=λd os=>cell_on d2 (below_regrown w2 d os)
      have y3:=λd os=>cell_on d3 (below_regrown w2 d os)
      have HK:=Lib.hid hky1
      clear b0 b1 b2 b3 d0 d1 d2 d3 hky1
      go_wp2
      refine wrq ?_;(repeat (any_goals (go_big_quiet_step ((go_at_call 69;exact Calls.regrown_of (hcall2 _ (below_regrown _ _ _)))))));all_goals (refine wqn ?_;intro d9 os9)
      have kq:=below_regrown w2 d9 os9
      have e3:=cell_on HK.out kq
      have HO4:=Lib.hid (below_tr HO2.out kq)
      have HI4:=Lib.hid (below_tr HI2.out kq)
      clear x0 x1 x2 x3 y0 y1 y2 y3 hcall2 kq HO2 HI2 HK
      generalize Sort.grow (redrawn w2 d9) os9=w3 at *
      by_cases hz:r=0
      ·subst hz
       clear hst
       go_wp2
       go_roundw
       case rel=>exact⟨m+1,by omega,by go_num,(λ_=>trivial),HI4⟩
       case measure=>simp[intOf];omega
      ·have hst2:Hid (res=(decide (r<0) != dn)):=by show _=_;rw[hst.out];exact fine_key hz
       have hq2:(r != 0)=true:=by rw[bne_iff_ne];exact hz
       clear hst hz
       generalize hlz:decide (r<0)=lz at *
       cases dn<;>cases lz
       all_goals (go_wp2;go_ret;exact⟨by rw[hst2.out];rfl,HO4.out⟩)
     ·have hse:¬s=y.v:=λe=>he (hsm.1 e)
      have hq:(s.toList == y.v.toList)=false:=by
       rw[beq_eq_false_iff_ne]
       intro h
       exact hse ((Lib.bytes_beq_iff s y.v).1 (beq_iff_eq.2 h))
      have H3:Hid (p<m+1->cmpTm x z=0):=λh=>H2.out (by omega)
      generalize y.v=yv at *
      clear hn hna hnb hno hnd hpl hC za zb hv ha hb hky hkat hkl hy1 hp hx1 hz1 hcd hs hsm hse hx hky1 hky0 hcv H2
      go_wp2
      refine wrq ?_;(repeat (any_goals (go_big_quiet_step ((fail)))));all_goals (refine wqn ?_;intro d9 os9)
      have kq:=Lib.hid (below_tr HB2.out (below_regrown wr d9 os9))
      generalize Sort.grow (redrawn wr d9) os9=w2 at *
      go_wp2
      go_roundw
      case rel=>exact⟨m+1,by omega,by go_num,H3,kq⟩
      case measure=>simp[intOf];omega
    ·obtain rfl:m=n:=by omega
     have h0:=H2.out hpn
     have H3:Hid (res=decide (cmpKeys (ks.drop (k+1)) a b<=0)):=by
      show _=_
      rw[H1.out,hcd,h0]
      cases y.d<;>rfl
     clear hn hna hnb hno hnd hpl hC za zb hv ha hb hky hkat hkl hy1 hp hx1 hz1 hcd h0 H2
     go_wp2
     go_roundw
     case rel=>exact⟨k+1,by omega,by go_num,H3,HBB⟩
     case measure=>simp[intOf];omega
  ·obtain rfl:k=no:=by omega
   obtain⟨hn,hna,hnb,hno,hnd,hpl,hC,za,zb,hv,ha,hb,hky,hkat,hkl⟩:=H.out
   have hst2:Hid (res=decide (cmpRow a b<=0)):=by
    show _=_
    rw[H1.out,List.drop_eq_nil_of_le (by omega)];rfl
   have H2:=Lib.hid (And.intro (RdTs.later ha HB.out) (And.intro (RdTs.later hb HB.out) (And.intro za (And.intro zb (And.intro hna (And.intro hnb (hC.step HB.out)))))))
   clear hn hna hnb hno hnd hpl hC za zb hv ha hb hky hkat hkl H1
   obtain⟨wo,hwo⟩:∃V:World,V=wr:=⟨_,rfl⟩
   subst hwo
   go_wp2
   go_loopw [12,13] (λi u wv=>∃j:Nat,j<=n/\i=.int .i64 j/\Hid (cmpRow a b=cmpRow (a.drop j) (b.drop j))/\Hid (Below wo.heap.size wo wv)) (λi _ _=>n-(intOf i).toNat)
   case atStart=>exact⟨0,by omega,rfl,rfl,Below.refl _ _⟩
   case round =>
    obtain⟨j,hj,rfl,H1,HB1⟩:=hrel
    obtain⟨ha,hb,za,zb,hn,hm,hC⟩:=H2.out
    by_cases hlt2:j<n
    ·obtain⟨x,hx1⟩:∃x,a[j]?=some x:=⟨_,List.getElem?_eq_getElem (by omega)⟩
     obtain⟨z,hz1⟩:∃z,b[j]?=some z:=⟨_,List.getElem?_eq_getElem (by omega)⟩
     obtain⟨g1,o1,rfl,b0,b1,b2,b3⟩:=(RdTs.later ha HB1.out).at4 hx1
     obtain⟨g2,o2,rfl,d0,d1,d2,d3⟩:=(RdTs.later hb HB1.out).at4 hz1
     have hst:Hid (cmpRow a b=orZ (cmpTm x z) (cmpRow (a.drop (j+1)) (b.drop (j+1)))):=by
      show _=_
      rw[H1.out,cmpRow_drop hx1 hz1]
     have hcall:=λW (h:Below wr.heap.size wr W)=>termCompare x z W (hC.step (below_tr HB1.out h)) (za.2 x (List.mem_of_getElem? hx1)) (zb.2 z (List.mem_of_getElem? hz1))
     generalize cmpTm x z=r at *
     have x0:=λd os=>cell_on b0 (below_regrown wr d os)
     have x1:=λd os=>cell_on b1 (below_regrown wr d os)
     have x2:=λd os=>cell_on b2 (below_regrown wr d os)
     have x3:=λd os=>cell_on b3 (below_regrown wr d os)
     have y0:=λd os=>cell_on d0 (below_regrown wr d os)
     have y1:=λd os=>cell_on d1 (below_regrown wr d os)
     have y2:=λd os=>cell_on d2 (below_regrown wr d os)
     have y3:=λd os=>cell_on d3 (below_regrown wr d os)
     clear hx1 hz1 b0 b1 b2 b3 d0 d1 d2 d3 hn hm ha hb za zb hC H1
     go_wp2
     refine wrq ?_;(repeat (any_goals (go_big_quiet_step ((go_at_call 69;exact Calls.regrown_of (hcall _ (below_regrown _ _ _)))))));all_goals (refine wqn ?_;intro d9 os9)
     have kq:=below_regrown wr d9 os9
     have HB3:=Lib.hid (below_tr HB1.out kq)
     clear x0 x1 x2 x3 y0 y1 y2 y3 hcall kq
     generalize Sort.grow (redrawn wr d9) os9=w3 at *
     by_cases hz:r=0
     ·subst hz
      have hst3:Hid (cmpRow a b=cmpRow (a.drop (j+1)) (b.drop (j+1))):=by show _=_;rw[hst.out];rfl
      clear hst
      go_wp2
      go_roundw
      case rel=>exact⟨j+1,by omega,by go_num,hst3,HB3⟩
      case measure=>simp[intOf];omega
     ·have hst3:Hid (res=decide (r<0)):=by show _=_;rw[hst2.out,hst.out];exact fine_row hz
      have hq2:(r != 0)=true:=by rw[bne_iff_ne];exact hz
      have HF:=Lib.hid (below_tr HB.out HB3.out)
      clear hst hst2 hz
      generalize hlz:decide (r<0)=lz at *
      go_wp2
      go_ret
      exact⟨by rw[hst3.out];rfl,HF.out⟩
    ·obtain rfl:j=n:=by omega
     have hst3:Hid (res=true):=by
      show _=_
      rw[hst2.out,H1.out,drop_end a hn,drop_end b hm];rfl
     have HF:=Lib.hid (below_tr HB.out HB1.out)
     clear hst2 ha hb za zb hn hm hC H1
     go_wp2
     go_ret
     exact⟨by rw[hst3.out];rfl,HF.out⟩
end Go.Proofs.YtoejnneknpoanaaGreatDoor
