/- mean's table, walked: of, order, compare, Rows' closure. sli -/
import Derived.Test.YtfcbghmbbjolcaaGreatDoorJLaw29q
set_option maxHeartbeats 8000000
set_option maxRecDepth 100000
namespace Go.Proofs.YtfcbghmbbjolcaaGreatDoor
open Go Go.RowKit Fm Tx Om Mp
theorem rh:(Tryz.prog.info? 62).map (·.size)=some 4:=by kernel_rfl
theorem vX (vars:List ByteArray) (row:List Tm) (s:ByteArray) (p:Nat) (x:Tm) (Av A:Option Addr) (nv cv n c:Nat) (w:World) (hnv:vars.length=nv) (hln:nv<=1000000) (hn:row.length=n) (hp:Lib.idxOfS vars s=(p:Int)) (hx:row[p]?=some x) (hv:Rd w Av (vars.map Value.string)) (hr:RdTs w A row) :
  Calls Tryz.prog 79 #[.agg #[.slice Av nv cv],.slice A n c,.string s] w λe w'=>e=.returned (.agg #[.int .i64 x.k,.string x.x,.string x.l,.string x.y])/\Below w.heap.size w w':=by
 obtain⟨W,hW⟩:∃W:World,(w.alloc (.cells #[.slice Av nv cv] 138)).alloc (.cells #[.int .i64 0,.string ⟨#[]⟩,.string ⟨#[]⟩,.string ⟨#[]⟩] 62)=W:=⟨_,rfl⟩
 have hB0:Below w.heap.size w W:=by rw[←hW];exact blw
 have k0:W.heap[w.heap.size]?=some (Obj.cells #[.slice Av nv cv] 138 (0,0)):=by rw[←hW];exact aL _ _ _
 have k1:W.heap[w.heap.size+1]?=some (Obj.cells #[.int .i64 0,.string ⟨#[]⟩,.string ⟨#[]⟩,.string ⟨#[]⟩] 62 (0,0)):=by rw[←hW];exact av _ _ _
 have c0:W.cell? ⟨w.heap.size,0,none⟩=some (.slice Av nv cv):=by rw[World.cell?,k0];rfl
 have hI:=wg vars s Av cv W (by omega) (hv.later hB0)
 rw[hnv,hp]at hI
 obtain⟨g,o,rfl,a0,a1,a2,a3⟩:=(RdTs.later hr hB0).at4 hx
 have hpn:p<n:=by rw[←hn];exact(List.getElem?_eq_some_iff.1 hx).1
 obtain⟨V,hV⟩:∃V:World,W.setRow (w.heap.size+1) #[.int .i64 x.k,.string x.x,.string x.l,.string x.y]=V:=⟨_,rfl⟩
 have k2:V.heap[w.heap.size+1]?=some (Obj.cells #[.int .i64 x.k,.string x.x,.string x.l,.string x.y] 62 (0,0)):=by rw[←hV];exact setRow_heap _ _ _ _ _ _ k1
 have hB1:Below w.heap.size w V:=by rw[←hV];exact below_setRow hB0 (by omega) _
 have b0:V.cell? ⟨w.heap.size+1,0,none⟩=some (.int .i64 x.k):=by rw[World.cell?,k2];rfl
 have b1:V.cell? ⟨w.heap.size+1,1,none⟩=some (.string x.x):=by rw[World.cell?,k2];rfl
 have b2:V.cell? ⟨w.heap.size+1,2,none⟩=some (.string x.l):=by rw[World.cell?,k2];rfl
 have b3:V.cell? ⟨w.heap.size+1,3,none⟩=some (.string x.y):=by rw[World.cell?,k2];rfl
 have HW:=Lib.hid hW
 have HV:=Lib.hid hV
 have HF:=Lib.hid (And.intro (setRow_heap V _ _ #[.int .i64 x.k,.string x.x,.string x.l,.string x.y] _ (0,0) k2) (below_setRow hB1 (g:=w.heap.size+1) (by omega) #[.int .i64 x.k,.string x.x,.string x.l,.string x.y]))
 have HK:=Lib.hid (And.intro k1 k2)
 clear hW hV hB0 hB1 k0 k1 k2 hv hr hx hn hnv hp
 go_enter Tryz.func79,Tryz.ntmps79
 go_wp2_with fail
 simp only[HW.out]
 go_wp2_with (first
  | (go_at_call 132;refine hI.mono ?_;rintro e w2 ⟨rfl,rfl⟩)
  | (refine wpList_store_row rfl 62 _ _ rfl rfl rfl rh HK.out.1 rfl rfl ?_;rw[HV.out])
  | (refine wpList_store_row rfl 62 _ _ rfl rfl rfl rh HK.out.2 rfl rfl ?_)
  | fail)
 exact bodyPost_ret (results_cell_row rfl _ _ _ _ _ _ _ rfl HF.out.1 Tryz.underlying62 rfl rh) rfl ⟨rfl,HF.out.2⟩
theorem qm (a b:List Tm) (A B:Option Addr) (c d n m:Nat) (w:World) (hn:a.length=n) (hm:b.length=m) (hC:cD w) (ha:RdTs w A a) (hb:RdTs w B b) (za:aN a) (zb:aN b) :
  Calls Tryz.prog 52 #[.slice A n c,.slice B m d] w λe w'=>e=.returned (.int .i64 (cmpRow a b))/\Below w.heap.size w w':=by
 have hcall:=G0 a b A B c d n m w hn hm hC ha hb za zb
 generalize cmpRow a b=z at *
 clear hn hm hC ha hb za zb
 go_enter Tryz.func52,Tryz.ntmps52
 go_wp2_with (go_at_call 105;refine hcall.mono ?_;rintro e w1 ⟨rfl,hb1⟩;have HF:=Lib.hid hb1;clear hb1 hcall)
 go_ret
 exact⟨rfl,HF.out⟩
theorem tJ (a b:List Tm) (vars:List ByteArray) (keys:List Ky) (n c nv cv d no co:Nat) (A B Av Ao:Option Addr) (w:World) (hnv:vars.length=nv) (hn:a.length=n) (hm:b.length=n) (hno:keys.length=no) (hlo:no<=1000000) (hlv:nv<=1000000)
  (hpl:∀p∈ax vars (keys.map (·.v)),0<=p/\p<n) (hC:cD w) (ha:RdTs w A a) (hb:RdTs w B b) (za:aN a) (zb:aN b) (hv:Rd w Av (vars.map Value.string)) (hk:eN w Ao keys) :
  Calls Tryz.prog 78 #[.agg #[.slice Av nv cv],.slice A n c,.slice B n d,.slice Ao no co] w λe w'=>e=.returned (.int .i64 (bu (cY (ax vars (keys.map (·.v))) keys) a b))/\Below w.heap.size w w':=by
 obtain⟨W,hW⟩:∃W:World,w.alloc (.cells #[.slice Av nv cv] 138)=W:=⟨_,rfl⟩
 have hB0:Below w.heap.size w W:=by rw[←hW];exact blw
 have k0:W.heap[w.heap.size]?=some (Obj.cells #[.slice Av nv cv] 138 (0,0)):=by rw[←hW];exact heap_alloc_new _ _
 have a0:W.cell? ⟨w.heap.size,0,none⟩=some (.slice Av nv cv):=by rw[World.cell?,k0];rfl
 have hln:n<=1000000:=by rw[←hn];exact za.1
 obtain⟨ps,hps⟩:∃ps,ax vars (keys.map (·.v))=ps:=⟨_,rfl⟩
 rw[hps]at hpl ⊢
 have hnp:ps.length=no:=by rw[←hps,←hno];simp[ax]
 have hpk:∀k (y:Ky),keys[k]?=some y->ps[k]?=some (Lib.idxOfS vars y.v):=λk y h=>by
  rw[←hps];unfold ax;rw[List.map_map,List.getElem?_map,h];rfl
 have H:=Lib.hid (And.intro hn (And.intro hm (And.intro hnp (And.intro hno (And.intro hpl (And.intro (RdTs.later ha hB0) (And.intro (RdTs.later hb hB0) (And.intro za (And.intro zb (And.intro (hv.later hB0) (And.intro (RdL.mono hk hB0 (λ_ _ _ h=>h)) (And.intro hnv (And.intro hpk (And.intro hB0 (hC.step hB0)))))))))))))))
 have HW:=Lib.hid hW
 clear hn hm hnp hno hpl ha hb za zb hv hk hnv hpk hB0 hW hps k0 hC
 go_enter Tryz.func78,Tryz.ntmps78
 go_wp2_with fail
 simp only[HW.out]
 go_wp2
 go_loopw [10,11,14] (λu v i wr=>∃k:Nat,k<=no/\i=.int .i64 k/\Hid (bu (cY ps keys) a b=bu (cY (ps.drop k) (keys.drop k)) a b)/\Hid (Below W.heap.size W wr)) (λ_ _ i _=>no-(intOf i).toNat)
 case atStart=>exact⟨0,by omega,rfl,rfl,Below.refl _ _⟩
 case round =>
  obtain⟨k,hk,rfl,H1,HB⟩:=hrel
  obtain⟨hn,hm,hnp,hno,hpl,ha,hb,za,zb,hv,hky,hnv,hpk,hB0,hC⟩:=H.out
  by_cases hlt:k<no
  ·obtain⟨y,hy1⟩:∃y,keys[k]?=some y:=⟨_,List.getElem?_eq_getElem (by rw[hno];exact hlt)⟩
   have hp1:=hpk k y hy1
   obtain⟨g3,o3,cs,rfl,_,rfl,hx⟩:=(RdL.mono hky HB.out (λ_ _ _ h=>h)).at_ (by omega) hy1
   have hcv:wr.cell? ⟨g3,o3+k*2,none⟩=some (.string y.v):=hx 0 _ rfl
   have hcd:wr.cell? ⟨g3,o3+k*2+1,none⟩=some (.bool y.d):=hx 1 _ rfl
   obtain⟨q0,q1⟩:=hpl _ (List.mem_of_getElem? hp1)
   obtain⟨q,hq⟩:∃q:Nat,Lib.idxOfS vars y.v=(q:Int):=⟨(Lib.idxOfS vars y.v).toNat,by omega⟩
   rw[hq]at hp1 q0 q1
   obtain⟨x,hx1⟩:∃x,a[q]?=some x:=⟨_,List.getElem?_eq_getElem (by omega)⟩
   obtain⟨z,hz1⟩:∃z,b[q]?=some z:=⟨_,List.getElem?_eq_getElem (by omega)⟩
   have hst:Hid (bu (cY ps keys) a b=orZ (way y.d (ay x z)) (bu (cY (ps.drop (k+1)) (keys.drop (k+1))) a b)):=by
    show _=_
    rw[H1.out,vZ hp1 hy1]
    show orZ (way y.d (ay a[(q:Int).toNat]! b[(q:Int).toNat]!)) _=_
    rw[Int.toNat_natCast,List.getElem!_of_getElem? hx1,List.getElem!_of_getElem? hz1]
   obtain⟨W2,hW2⟩:∃V:World,wr.alloc (.cells #[.string y.v,.bool y.d] 116)=V:=⟨_,rfl⟩
   have hB2:Below wr.heap.size wr W2:=by rw[←hW2];exact blw
   have kk:W2.heap[wr.heap.size]?=some (Obj.cells #[.string y.v,.bool y.d] 116 (0,0)):=by rw[←hW2];exact heap_alloc_new _ _
   have f0:W2.cell? ⟨wr.heap.size,0,none⟩=some (.string y.v):=by rw[World.cell?,kk];rfl
   have f1:W2.cell? ⟨wr.heap.size,1,none⟩=some (.bool y.d):=by rw[World.cell?,kk];rfl
   have c0:=ac a0 (aa HB.out hB2)
   have HBB:=Lib.hid (aa HB.out hB2)
   have hOa:=λd os=>vX vars a y.v q x Av A nv cv n c (Sort.grow (redrawn W2 d) os) hnv hlv hn hq hx1 ((hv.later HBB.out).later (below_regrown W2 d os)) ((RdTs.later ha HBB.out).later (below_regrown W2 d os))
   have hOb:=λd' os=>vX vars b y.v q z Av B nv cv n d (Sort.grow (redrawn W2 d') os) hnv hlv hm hq hz1 ((hv.later HBB.out).later (below_regrown W2 d' os)) ((RdTs.later hb HBB.out).later (below_regrown W2 d' os))
   have hcall:=λV (h:Below W2.heap.size W2 V)=>dN x z V (hC.step (aa HBB.out h)) (za.2 x (List.mem_of_getElem? hx1)) (zb.2 z (List.mem_of_getElem? hz1))
   have hrg:=bd.rng x z
   generalize ay x z=r at *
   generalize y.d=dn at *
   generalize y.v=yv at *
   have e0:=λd os=>ac c0 (below_regrown W2 d os)
   have ev:=λd os=>ac f0 (below_regrown W2 d os)
   have HC:=Lib.hid f1
   have HW2:=Lib.hid hW2
   clear hp1 hy1 hx hx1 hz1 hn hm hnp hno hpl ha hb za zb hv hky hnv hpk hB0 hC H1 hq c0 f0 f1 kk hB2 hW2 q0 q1
   go_upto_region 4 with (fail)
   simp only[HW2.out]
   refine wrq ?_;(repeat (any_goals (go_big_quiet_step ((first|(go_at_call 106;exact Calls.regrown_of (hcall _ (below_regrown _ _ _)))|(go_at_call 79;first|(with_reducible exact Calls.regrown_of (hOa _ _))|(with_reducible exact Calls.regrown_of (hOb _ _))))))));all_goals (refine wqn ?_;intro d9 os9)
   have kq:=below_regrown W2 d9 os9
   have f1:=ac HC.out kq
   have HB3:=Lib.hid (aa HBB.out kq)
   clear e0 ev hOa hOb hcall kq HC hcv hcd
   generalize Sort.grow (redrawn W2 d9) os9=w3 at *
   obtain⟨r1,r2⟩:=hrg
   by_cases hz:r=0
   ·subst hz
    have hst2:Hid (bu (cY ps keys) a b=bu (cY (ps.drop (k+1)) (keys.drop (k+1))) a b):=by
     show _=_
     rw[hst.out]
     cases dn<;>rfl
    clear hst
    cases dn
    ·go_wp2
     go_roundw
     case rel=>exact⟨k+1,by omega,by go_num,hst2,HB3⟩
     case measure=>simp[intOf];omega
    ·go_wp2
     go_roundw
     case rel=>exact⟨k+1,by omega,by go_num,hst2,HB3⟩
     case measure=>simp[intOf];omega
   ·cases dn
    ·have hst2:Hid (bu (cY ps keys) a b=r):=by
      show _=_
      rw[hst.out]
      show orZ r _=r
      unfold orZ;rw[if_neg hz]
     have hq:(r != 0)=true:=by rw[bne_iff_ne];exact hz
     clear hst hz
     go_wp2
     go_ret
     exact⟨by rw[hst2.out];rfl,aa H.out.2.2.2.2.2.2.2.2.2.2.2.2.2.1 HB3.out⟩
    ·have hst2:Hid (bu (cY ps keys) a b = -r):=by
      show _=_
      rw[hst.out]
      show orZ (-r) _ = -r
      unfold orZ;rw[if_neg (by omega)]
     obtain⟨s,hs⟩:∃s,-r=s:=⟨_,rfl⟩
     have hq:(s != 0)=true:=by rw[bne_iff_ne];omega
     have hw:IntKind.i64.wrap (-r)=s:=by rw[IntKind.wrap_i64];omega
     rw[hs]at hst2
     clear hst hz
     go_wp2
     go_ret
     exact⟨by rw[hst2.out];rfl,aa H.out.2.2.2.2.2.2.2.2.2.2.2.2.2.1 HB3.out⟩
  ·obtain rfl:k=no:=by omega
   have hcall:=qm a b A B c d n n wr hn hm (hC.step HB.out) (RdTs.later ha HB.out) (RdTs.later hb HB.out) za zb
   have hst2:Hid (bu (cY ps keys) a b=cmpRow a b):=by
    show _=_
    rw[H1.out,List.drop_eq_nil_of_le (by omega)];rfl
   have HB2:=Lib.hid (aa hB0 HB.out)
   generalize cmpRow a b=z at *
   clear hn hm hnp hno hpl ha hb za zb hv hky hnv hpk hB0 hC H1 a0
   go_wp2_with (go_at_call 52;refine hcall.mono ?_;rintro e w1 ⟨rfl,hb1⟩;have HF:=Lib.hid (aa HB2.out hb1);clear hb1 hcall)
   go_ret
   exact⟨by rw[hst2.out];rfl,HF.out⟩
theorem zC (a b:List Tm) (vars:List ByteArray) (keys:List Ky) (n c nv cv d no co tb qb:Nat) (A B Av Ao:Option Addr) (w:World) (hnv:vars.length=nv) (hn:a.length=n) (hm:b.length=n) (hno:keys.length=no) (hlo:no<=1000000) (hlv:nv<=1000000)
  (hpl:∀p∈ax vars (keys.map (·.v)),0<=p/\p<n) (hC:cD w) (ha:RdTs w A a) (hb:RdTs w B b) (za:aN a) (zb:aN b) (hv:Rd w Av (vars.map Value.string)) (hk:eN w Ao keys) (h0:w.cell? ⟨tb,0,none⟩=some (.slice Av nv cv)) (h1:w.cell? ⟨qb,5,none⟩=some (.slice Ao no co)) :
  Calls Tryz.prog 77 #[.slice A n c,.slice B n d,.pointer (some ⟨tb,0,none⟩),.pointer (some ⟨qb,0,none⟩)] w λe w'=>e=.returned (.int .i64 (bu (cY (ax vars (keys.map (·.v))) keys) a b))/\Below w.heap.size w w':=by
 have hcall:=tJ a b vars keys n c nv cv d no co A B Av Ao w hnv hn hm hno hlo hlv hpl hC ha hb za zb hv hk
 generalize bu (cY (ax vars (keys.map (·.v))) keys) a b=z at *
 clear hn hm hnv hno hpl hC ha hb za zb hv hk
 go_enter Tryz.func77,Tryz.ntmps77
 go_wp2_with (go_at_call 78;refine hcall.mono ?_;rintro e w1 ⟨rfl,hb1⟩;have HF:=Lib.hid hb1;clear hb1 hcall)
 go_ret
 exact⟨rfl,HF.out⟩
theorem FL (a b:List Tm) (A B:Option Addr) (c d n m:Nat) (w:World) (hn:a.length=n) (hm:b.length=m) (hln:n<=1000000) (hlm:m<=1000000) (ha:RdTs w A a) (hb:RdTs w B b) :
  Calls Tryz.prog 134 #[.slice A n c,.slice B m d] w λe w'=>e=.returned (.bool (decide (a=b)))/\Below w.heap.size w w':=by
 obtain⟨res,hres⟩:∃r,decide (a=b)=r:=⟨_,rfl⟩
 rw[hres]
 by_cases hnm:n=m
 case neg =>
  have hr:res=false:=by
   rw[←hres,decide_eq_false_iff_not]
   intro h
   rw[h]at hn
   omega
  subst hr
  have hd:((n:Int) != (m:Int))=true:=by rw[bne_iff_ne];omega
  clear hn hm ha hb hres hnm
  go_enter Tryz.func134,Tryz.ntmps134
  go_wp2
  go_ret
  exact⟨rfl,Below.refl _ _⟩
 subst hnm
 have H:=Lib.hid (And.intro hn (And.intro hm (And.intro ha (And.intro hb hres))))
 clear hn hm ha hb hres
 go_enter Tryz.func134,Tryz.ntmps134
 go_wp2
 go_loopw [5,13] (λ_ i wr=>∃k:Nat,k<=n/\i=.int .i64 k/\Hid (a=b↔a.drop k=b.drop k)/\Hid (Below w.heap.size w wr)) (λ_ i _=>n-(intOf i).toNat)
 case atStart=>exact⟨0,by omega,rfl,Iff.rfl,Below.refl _ _⟩
 case round =>
  obtain⟨k,hk,rfl,H1,HB⟩:=hrel
  obtain⟨hn,hm,ha,hb,hres⟩:=H.out
  by_cases hlt:k<n
  ·obtain⟨x,hx1⟩:∃x,a[k]?=some x:=⟨_,List.getElem?_eq_getElem (by omega)⟩
   obtain⟨z,hz1⟩:∃z,b[k]?=some z:=⟨_,List.getElem?_eq_getElem (by omega)⟩
   obtain⟨g1,o1,rfl,b0,b1,b2,b3⟩:=(RdTs.later ha HB.out).at4 hx1
   obtain⟨g2,o2,rfl,d0,d1,d2,d3⟩:=(RdTs.later hb HB.out).at4 hz1
   have hsd:=kt hx1 hz1
   have x0:=λd os=>ac b0 (below_regrown wr d os)
   have x1:=λd os=>ac b1 (below_regrown wr d os)
   have x2:=λd os=>ac b2 (below_regrown wr d os)
   have x3:=λd os=>ac b3 (below_regrown wr d os)
   have y0:=λd os=>ac d0 (below_regrown wr d os)
   have y1:=λd os=>ac d1 (below_regrown wr d os)
   have y2:=λd os=>ac d2 (below_regrown wr d os)
   have y3:=λd os=>ac d3 (below_regrown wr d os)
   by_cases he:x=z
   ·have hne:=λW=>fE x z W
    rw[show az x z=true from aw.2 he]at hne
    have H2:Hid (a=b↔a.drop (k+1)=b.drop (k+1)):=by
     show _↔_
     rw[H1.out,hsd]
     exact⟨λh=>h.2,λh=>⟨he,h⟩⟩
    clear hx1 hz1 b0 b1 b2 b3 d0 d1 d2 d3 hn hm ha hb hres H1 hsd he
    go_wp2
    refine wrq ?_;(repeat (any_goals (go_big_quiet_step ((fail)))));all_goals (refine wqn ?_;intro d9 os9)
    have kq:=Lib.hid (aa HB.out (below_regrown wr d9 os9))
    clear x0 x1 x2 x3 y0 y1 y2 y3
    generalize Sort.grow (redrawn wr d9) os9=w3 at *
    go_wp2
    go_roundw
    case rel=>exact⟨k+1,by omega,by go_num,H2,kq⟩
    case measure=>simp[intOf];omega
   ·have hne:=λW=>fE x z W
    rw[show az x z=false from by
     cases h:az x z with
     | false=>rfl
     | true=>exact absurd (aw.1 h) he]at hne
    have H2:Hid (res=false):=by
     show _=_
     rw[←hres,decide_eq_false_iff_not,H1.out,hsd]
     exact λh=>he h.1
    clear hx1 hz1 b0 b1 b2 b3 d0 d1 d2 d3 hn hm ha hb hres H1 hsd he
    go_wp2
    refine wrq ?_;(repeat (any_goals (go_big_quiet_step ((fail)))));all_goals (refine wqn ?_;intro d9 os9)
    have kq:=Lib.hid (aa HB.out (below_regrown wr d9 os9))
    clear x0 x1 x2 x3 y0 y1 y2 y3
    generalize Sort.grow (redrawn wr d9) os9=w3 at *
    go_wp2
    go_ret
    exact⟨by rw[H2.out];rfl,kq.out⟩
  ·obtain rfl:k=n:=by omega
   have H2:Hid (res=true):=by
    show _=_
    rw[←hres,decide_eq_true_iff,H1.out,bN a hn,bN b hm]
   clear hn hm ha hb hres H1
   go_wp2
   go_ret
   exact⟨by rw[H2.out];rfl,HB.out⟩
theorem ui (F:Nat) (cb:Array Value) (eg:∀args w,(callFunc F args).run Tryz.prog w=.ok (.enter F args) w) (p:List Tm->Bool) (rows:List (List Tm)) (n:Nat) (A:Option Addr) (c:Nat) (w:World) (hn:rows.length=n) (hl:n<=1000000000) (hr:RdRs w A rows)
  (hc:∀row A' c' W,Below w.heap.size w W->row∈rows->row.length<=c'->RdTs W A' row->Calls Tryz.prog F (#[.slice A' row.length c']++cb) W λe W'=>e=.returned (.bool (p row))/\Below W.heap.size W W') :
  Calls Tryz.prog 35 #[.slice A n c,.func (.func F) #[] cb] w λe w'=>e=.returned (.bool (rows.any p))/\Below w.heap.size w w':=by
 have hI:=Fz F cb eg (λk=>((rows[k]?).map p).getD false) (λ_ W=>Below w.heap.size w W) rows n A c w hn hl (λk W e=>hr.later e)
  (λk row W A' c' h1 h2 h3 h4=>by
   refine(hc row A' c' W h2 (List.mem_of_getElem? h1) h3 h4).mono λe W' h=>⟨?_,aa h2 h.2⟩
   rw[h1];exact h.1) (Below.refl _ _)
 have HA:Hid (∀(e:Ending) (w':World),mt (λk=>((rows[k]?).map p).getD false) n (λ_ W=>Below w.heap.size w W) e w'->∃i:Int,e=.returned (.int .i64 i)/\decide (0<=i)=rows.any p/\Below w.heap.size w w'):=by
  intro e w' h
  rcases h with ⟨h1,h2,h3⟩|⟨k,h1,h2,h3,h4,h5⟩
  ·refine⟨_,h1,?_,h3⟩
   symm
   rw[show decide ((0:Int) <= -1)=false from rfl,List.any_eq_false]
   intro x hx
   obtain⟨j,hj⟩:=List.mem_iff_getElem?.1 hx
   have:=h2 j (by rw[←hn];exact(List.getElem?_eq_some_iff.1 hj).1)
   simp only[hj,Option.map_some,Option.getD_some]at this
   simp[this]
  ·refine⟨_,h2,?_,h5⟩
   rw[decide_eq_true (by omega:(0:Int)<=(k:Int))]
   symm
   rw[List.any_eq_true]
   dsimp only at h3
   cases hx:rows[k]? with
   | none=>rw[hx]at h3;cases h3
   | some x =>
    rw[hx]at h3
    exact⟨x,List.mem_of_getElem? hx,h3⟩
 generalize rows.any p=q at HA ⊢
 clear hr hc hn
 go_enter Tryz.func35,Tryz.ntmps35
 go_wp2_with (go_at_call 70;refine hI.mono ?_;intro e w1 hD;obtain⟨i,rfl,hd,hb1⟩:=HA.out e w1 hD;have Hd:=Lib.hid hd;have HB:=Lib.hid hb1;clear hd hD hI HA hb1)
 go_ret
 exact⟨by rw[←Hd.out];rfl,HB.out⟩
theorem zE (x row:List Tm) (A B:Option Addr) (c d n m:Nat) (p:Addr) (w:World) (hn:x.length=n) (hm:row.length=m) (hln:n<=1000000) (hlm:m<=1000000) (ha:RdTs w A x) (hb:RdTs w B row) (hp:w.cell? p=some (.slice B m d)) :
  Calls Tryz.prog 133 #[.slice A n c,.pointer (some p)] w λe w'=>e=.returned (.bool (decide (x=row)))/\Below w.heap.size w w':=by
 have hcall:=FL x row A B c d n m w hn hm hln hlm ha hb
 generalize decide (x=row)=z at *
 clear hn hm ha hb
 go_enter Tryz.func133,Tryz.ntmps133
 go_wp2_with (go_at_call 134;refine hcall.mono ?_;rintro e w1 ⟨rfl,hb1⟩;have HF:=Lib.hid hb1;clear hb1 hcall)
 go_ret
 exact⟨rfl,HF.out⟩
def lM (w:World) (rows:List (List Tm)) (k:Nat) (v:Value) (wr:World):Prop:=∃xs,wr.ownsRow w.heap.size 58 1 v (bA (rows.take k)).length xs/\All 1 (RdRow w) xs (bA (rows.take k))/\Below w.heap.size w wr
def JJ (w:World) (rows:List (List Tm)) (e:Ending) (w':World):Prop:=∃A c,e=.returned (.slice A (bA rows).length c)/\(bA rows).length<=c/\RdRs w' A (bA rows)/\Below w.heap.size w w'/\∀a,A=some a->w.heap.size<=a.block
theorem lM.rd {w wr:World} {rows:List (List Tm)} {k:Nat} {v:Value} (h:lM w rows k v wr):∃A c,v=.slice A (bA (rows.take k)).length c/\(bA (rows.take k)).length<=c/\RdRs wr A (bA (rows.take k)):=by
 obtain⟨xs,h1,h2,h3⟩:=h
 obtain⟨A,c,e,hl,hr⟩:=own_slice h1
 exact⟨A,c,e,hl,xs,hr,h2.mono λ_ _ _ h=>h.later h3⟩
theorem CE (rows:List (List Tm)) (A:Option Addr) (n c:Nat) (w:World) (hn:rows.length=n) (hl:n<=1000000) (hz:∀r∈rows,r.length<=1000000) (hr:RdRs w A rows) :
  Calls Tryz.prog 80 #[.slice A n c] w (JJ w rows):=by
 have H:=Lib.hid (And.intro hn (And.intro hz hr))
 have H0:Hid (lM w rows 0 (.slice none 0 0) w):=⟨[],World.ownsRow_nil _ _ _ _,rfl,Below.refl _ _⟩
 clear hn hz hr
 go_enter Tryz.func80,Tryz.ntmps80
 go_wp2
 go_loopw [2,4,5,8] (λo u v i wr=>∃k:Nat,k<=n/\i=.int .i64 k/\Hid (lM w rows k o wr)) (λ_ _ _ i _=>n-(intOf i).toNat)
 case atStart=>exact⟨0,by omega,rfl,H0⟩
 case round =>
  clear H0
  obtain⟨k,hk,rfl,HK⟩:=hrel
  obtain⟨hn,hz,hr⟩:=H.out
  obtain⟨Ao,co,rfl,hco,hro⟩:=HK.out.rd
  by_cases hlt:k<n
  ·obtain⟨x,hx1⟩:∃x,rows[k]?=some x:=⟨_,List.getElem?_eq_getElem (by omega)⟩
   obtain⟨xs,hown,hall,hB⟩:=HK.out
   obtain⟨g0,o0,A0,c0,rfl,hc0,hle0,hr0⟩:=hr.at1 hx1
   have hcw:=ac hc0 hB
   obtain⟨W2,hW2⟩:∃V:World,wr.alloc (.cells #[.slice A0 x.length c0] 58)=V:=⟨_,rfl⟩
   have hB2:Below wr.heap.size wr W2:=by rw[←hW2];exact blw
   have f0:W2.cell? ⟨wr.heap.size,0,none⟩=some (.slice A0 x.length c0):=by rw[←hW2,World.cell?,heap_alloc_new];rfl
   have hol:=tx (rows.take k)
   rw[List.length_take]at hol
   have hlen:(bA (rows.take k)).length<=1000000:=by omega
   have hxl:=hz x (List.mem_of_getElem? hx1)
   have hC:=ui 133 #[.pointer (some ⟨wr.heap.size,0,none⟩)] (enters_of Tryz.func133 (by kernel_rfl) rfl) (λy=>decide (y=x)) (bA (rows.take k)) (bA (rows.take k)).length Ao co W2 rfl (by omega) (hro.later hB2) (λrow A' c' W hW hm _ hrd=>zE row x A' A0 c' c0 row.length x.length _ W rfl rfl (hz row (List.mem_of_mem_take ((Ck _ _).1 hm))) hxl hrd (RdTs.later hr0 (aa (aa hB hB2) hW)) (ac f0 hW))
   rw[show (bA (rows.take k)).any (λy=>decide (y=x))=decide (x∈bA (rows.take k)) from by
    rw[Bool.eq_iff_iff,List.any_eq_true,decide_eq_true_iff]
    exact⟨λ⟨y,h1,h2⟩=>of_decide_eq_true h2 ▸ h1,λh=>⟨x,h,decide_eq_true rfl⟩⟩]at hC
   have HX:=Lib.hid (And.intro hx1 (And.intro hown (And.intro hall (And.intro hB (And.intro hB2 (And.intro hle0 hr0))))))
   have HW2:=Lib.hid hW2
   have hbs:=hB.size
   clear hn hz hr hown hall hB hc0 hr0 hB2 hol hro hx1
   by_cases hm:x∈bA (rows.take k)
   ·have HT:Hid (bA (rows.take (k+1))=bA (rows.take k)):=by
     show _=_
     rw[ah HX.out.1,kz]
     unfold jJ
     rw[if_pos hm]
    rw[decide_eq_true hm]at hC
    clear hm hW2
    go_upto_region 5 with (fail)
    simp only[HW2.out]
    go_wp2_with (go_at_call 35;refine hC.mono ?_;rintro e w5 ⟨rfl,hb5⟩;have HF:=Lib.hid (aa HX.out.2.2.2.2.1 hb5);clear hb5 hC)
    go_roundw
    case rel=>exact⟨k+1,by omega,by go_num,by show lM _ _ _ _ _;unfold lM;rw[HT.out];exact⟨xs,own_below HX.out.2.1 HF.out (Nat.le_refl _),HX.out.2.2.1,aa HX.out.2.2.2.1 HF.out⟩⟩
    case measure=>simp[intOf];omega
   ·have HT:Hid (bA (rows.take (k+1))=bA (rows.take k)++[x]):=by
     show _=_
     rw[ah HX.out.1,kz]
     unfold jJ
     rw[if_neg hm]
    rw[decide_eq_false hm]at hC
    clear hm hW2
    have hin:Tryz.prog.underlying 35=some (.slice 58):=Tryz.underlying35
    go_upto_region 5 with (fail)
    simp only[HW2.out]
    go_upto_region 6 with (go_at_call 35;refine hC.mono ?_;rintro e w5 ⟨rfl,hb5⟩;have f5:=ac f0 hb5;have HF:=Lib.hid (aa HX.out.2.2.2.2.1 hb5);clear hb5 hC f0)
    have hal:Below w5.heap.size w5 (w5.alloc (.cells #[.slice A0 x.length c0] 58)):=blw
    have own5:=own_below HX.out.2.1 (aa HF.out hal) (Nat.le_refl _)
    have hs5:w.heap.size<=w5.heap.size:=Nat.le_trans hbs HF.out.size
    go_wp2_with (at_builtin;refine ak rfl rfl hin dj rfl (by omega) rfl own5 rfl (Rd.of_block (heap_alloc_new w5 _) rfl) rfl (by intro u hu;simp only[List.mem_cons,List.not_mem_nil,or_false]at hu;subst hu;rfl) (by omega) (by omega) (by simp;omega) ?_;intro v' w6 own6 hb6 hg6;have HB6:=Lib.hid ((aa HX.out.2.2.2.1 (aa HF.out hal)).trans hb6);have HO6:=Lib.hid own6;clear own6 hb6 hg6 own5 hal f5)
    go_roundw
    case rel=>exact⟨k+1,by omega,by go_num,by show lM _ _ _ _ _;unfold lM;rw[HT.out];exact⟨_,by rw[List.length_append];exact HO6.out,HX.out.2.2.1.append (All.one rfl ⟨A0,c0,rfl,HX.out.2.2.2.2.2.1,HX.out.2.2.2.2.2.2⟩),HB6.out⟩⟩
    case measure=>simp[intOf];omega
  ·obtain rfl:k=n:=by omega
   have HE:Hid (rows.take k=rows):=List.take_of_length_le (by omega)
   have HB:=HK.out.choose_spec.2.2
   rw[HE.out]at hco hro ⊢
   have HF:=Lib.hid (And.intro hco (And.intro hro (And.intro HB (λa (ha:Ao=some a)=>(HK.out.choose_spec.1.lt a.block (by rw[ha];rfl)).1))))
   clear hn hz hr hco hro HB HK
   go_wp2
   go_ret
   exact⟨_,_,rfl,HF.out.1,HF.out.2.1,HF.out.2.2.1,HF.out.2.2.2⟩
open Um Mt
def JC (l:List Tm) (w:World) (e:Ending) (w':World):Prop:=∃v,e=.returned v/\w'.ownsRow w.heap.size 62 4 v l.length (l.flatMap tmC)/\Below w.heap.size w w'
def JO (w:World) (e:Ending) (w':World):Prop:=∃v,e=.returned v/\w'.ownsRow w.heap.size 62 4 v 0 []/\Below w.heap.size w w'
theorem Ik (n:Nat) (w:World) (hn:n<=3000000):Calls Tryz.prog 191 #[.slice none 0 0,.int .i64 n] w (JO w):=by
 have hn':(n:Int)<=3000000:=by omega
 by_cases h0:0<n
 ·obtain⟨i,hi,hz,hsize,hby⟩:=info_parts iT
  have hrz:∀ty,(Builtin.append_ #[58,3] ty #[.slice none 0 0,.int .i64 n]).run Tryz.prog w=_:=λty =>
   Lib.run_append_grow_zeros w 58 3 ty 62 i (.agg #[.int .i64 0,.string ⟨#[]⟩,.string ⟨#[]⟩,.string ⟨#[]⟩]) .i64 .i64 Tryz.underlying58 Tryz.underlying3 hi hz none 0 0 [] (run_firstCells_none w.drew i.size 0 0 0) n h0 (by omega) (by omega) (by omega)
    (by rw[hby];omega) (by rw[Nat.zero_add,hby];exact growslice_fits h0 (by omega))
  simp only[Nat.zero_add]at hrz
  have hG1:n<=grownCap w n 0 62:=grownCap_ge w _ _ _
  have hG2:=grownCap_le_maxLen w n 0 62 (by unfold maxLen;omega)
  obtain⟨G,hG⟩:∃G,grownCap w n 0 62=G:=⟨_,rfl⟩
  rw[hG]at hG1 hG2 hrz
  obtain⟨cs,hcs⟩:∃cs:Array Value,([]:List Value).toArray++Builtin.zeroCells (Value.agg #[.int .i64 0,.string ⟨#[]⟩,.string ⟨#[]⟩,.string ⟨#[]⟩]).cells n++Builtin.zeroCells (Value.agg #[.int .i64 0,.string ⟨#[]⟩,.string ⟨#[]⟩,.string ⟨#[]⟩]).cells (G-n)=cs:=⟨_,rfl⟩
  have hsz:cs.size=G*4:=by
   rw[←hcs,Array.size_append,Array.size_append,size_zeroCells,size_zeroCells]
   show 0+n*4+(G-n)*4=G*4
   omega
  rw[hcs]at hrz
  have hG3:(G:Int)<=9223372036854775807:=by unfold maxLen at hG2;omega
  have h0':0<(n:Int):=by omega
  have own:(w.drew.alloc (.cells cs 62)).ownsRow w.heap.size 62 4 (.slice (some ⟨w.heap.size,0,none⟩) 0 G) 0 []:=
   ⟨rfl,.inr ⟨w.heap.size,G,cs,rfl,Nat.le_refl _,heap_alloc_new w.drew _,by omega,hG2,hsz,by simp⟩⟩
  have bel:Below w.heap.size w (w.drew.alloc (.cells cs 62)):=((Below.refl _ _).drew).alloc (Nat.le_refl _) _
  have Own:=Lib.hid own
  clear hG hcs hsz hi hz hsize hby own hG2
  go_enter Tryz.func191,Tryz.ntmps191
  go_wp2_with (at_builtin;refine Lib.wpList_append_run _ rfl _ _ _ _ rfl _ _ rfl rfl _ _ (hrz _) ?_)
  go_ret
  exact⟨_,rfl,Own.out,bel⟩
 ·obtain rfl:n=0:=by omega
  go_enter Tryz.func191,Tryz.ntmps191
  go_wp2
  go_ret
  exact⟨_,rfl,World.ownsRow_nil _ _ _ _,Below.refl _ _⟩
def iu (ls:List (List Tm)):Nat:=(ls.map List.length).sum
theorem i5 {ls:List (List Tm)} {k:Nat} {l:List Tm} (h:ls[k]?=some l):iu (ls.take (k+1))=iu (ls.take k)+l.length:=by
 unfold iu;rw[ah h,List.map_append,List.sum_append];simp
theorem yM (ls:List (List Tm)):(ls.flatMap id).length=iu ls:=by
 unfold iu;induction ls with
 | nil=>rfl
 | cons a r ih=>simp[List.flatMap_cons]
theorem mc (ls:List (List Tm)) (k:Nat):iu (ls.take k)<=iu ls:=by
 unfold iu
 conv=>rhs;rw[←List.take_append_drop k ls]
 rw[List.map_append,List.sum_append];omega
def JD (ls:List (List Tm)) (w:World) (s i:Value) (wr:World):Prop:=∃k:Nat,k<=ls.length/\i=.int .i64 k/\s=.int .i64 (iu (ls.take k))/\w=wr
def JR (ls:List (List Tm)) (w0 _w:World) (v i:Value) (wr:World):Prop:=∃(k:Nat) (v':Value),k<=ls.length/\i=.int .i64 k/\v=v'/\wr.ownsRow w0.heap.size 62 4 v' (iu (ls.take k)) (((ls.take k).flatMap id).flatMap tmC)/\Below w0.heap.size w0 wr
theorem DT (ls:List (List Tm)) (A:Option Addr) (c:Nat) (w:World) (hr:RdRs w A ls) (hl:ls.length<=1000) (hs:iu ls<=3000000) :
  Calls Tryz.prog 130 #[.slice A ls.length c] w (JC (ls.flatMap id) w):=by
 have hl':(ls.length:Int)<=1000:=by omega
 go_enter Tryz.func130,Tryz.ntmps130
 go_wp2
 go_loopw [3,11] (JD ls w) (λ_ i _=>ls.length-(intOf i).toNat)
 case atStart=>exact⟨0,by omega,rfl,rfl,rfl⟩
 case round =>
  obtain⟨k,hk,rfl,rfl,rfl⟩:=hrel
  have hsk:=mc ls k
  by_cases hlt:k<ls.length
  ·obtain⟨l,hx⟩:∃x,ls[k]?=some x:=⟨_,List.getElem?_eq_getElem hlt⟩
   obtain⟨g,o,B,d,rfl,e0,_,hB⟩:=hr.at1 hx
   have Hs:=Lib.hid (i5 hx)
   have hs1:=mc ls (k+1)
   rw[i5 hx]at hs1
   generalize iu (ls.take k)=S at *
   clear hx hB hr
   go_wp2
   go_roundw
   case rel=>exact⟨k+1,by omega,by go_num,by rw[Hs.out];go_num,rfl⟩
   case measure=>simp[intOf];omega
  ·have Hk2:Hid (ls.take k=ls):=List.take_of_length_le (by omega)
   have hg:=Ik (iu (ls.take k)) w (by omega)
   generalize iu (ls.take k)=S at *
   go_wp2_with (refine hg.mono ?_;rintro e w1 ⟨v,rfl,own,b1⟩)
   go_loopw [6,27] (JR ls w w1) (λ_ i _=>ls.length-(intOf i).toNat)
   case atStart=>exact⟨0,v,by omega,rfl,rfl,own,b1⟩
   case round =>
    obtain⟨j,v',hj,rfl,rfl,ownj,bj⟩:=hrel
    have hsj:=mc ls j
    by_cases hlt2:j<ls.length
    ·obtain⟨l,hx⟩:∃x,ls[j]?=some x:=⟨_,List.getElem?_eq_getElem hlt2⟩
     obtain⟨g,o,B,d,rfl,e0,_,hB⟩:=(hr.later bj).at1 hx
     have Hs:=Lib.hid (i5 hx)
     have Hf:=Lib.hid (ew hx id)
     have hs1:=mc ls (j+1)
     rw[i5 hx]at hs1
     have hbs:w.heap.size<=wr.heap.size:=bj.size
     generalize hSj:iu (ls.take j)=Sj at *
     clear hx hr hSj hg own b1
     go_wp2_with (at_builtin;refine ak rfl rfl Tryz.underlying58 iT rfl (by omega) rfl ownj rfl hB.flat (tm_len l) (tm1 l) (by omega) (by omega) hbs ?_;intro v5 w5 own5 hb5 _)
     go_roundw
     case rel=>exact⟨j+1,v5,by omega,by go_num,rfl,by rw[Hs.out,Hf.out,List.flatMap_append];exact own5,bj.trans hb5⟩
     case measure=>simp[intOf];omega
    ·have hj2:ls.take j=ls:=List.take_of_length_le (by omega)
     rw[hj2,←yM]at ownj
     obtain⟨A1,d1,rfl,_,_⟩:=own_slice ownj
     clear hr hg own
     go_wp2
     go_ret
     exact⟨_,rfl,ownj,bj⟩
theorem tN (n:Nat):(madeCells (Value.agg #[.int .i64 0,.string ⟨#[]⟩,.string ⟨#[]⟩,.string ⟨#[]⟩]).cells (n*4)).toList=(List.replicate n (⟨0,⟨#[]⟩,⟨#[]⟩,⟨#[]⟩⟩:Tm)).flatMap tmC:=by
 have hz:(Value.agg #[.int .i64 0,.string ⟨#[]⟩,.string ⟨#[]⟩,.string ⟨#[]⟩]).cells=#[.int .i64 0,.string ⟨#[]⟩,.string ⟨#[]⟩,.string ⟨#[]⟩]:=rfl
 rw[hz]
 unfold madeCells
 simp only[Array.toList_map,Array.toList_range]
 induction n with
 | zero=>rfl
 | succ n ih =>
  have e:(n+1)*4=n*4+1+1+1+1:=by omega
  rw[e,List.range_succ,List.range_succ,List.range_succ,List.range_succ,List.replicate_succ',List.flatMap_append,←ih]
  simp only[List.map_append,List.append_assoc]
  congr 1
  have h0:(n*4) % 4=0:=by omega
  have h1:(n*4+1) % 4=1:=by omega
  have h2:(n*4+1+1) % 4=2:=by omega
  have h3:(n*4+1+1+1) % 4=3:=by omega
  simp[h0,h1,h2,h3,tmC]
theorem H7 {w:World} {base n q c sz:Nat} {e:TypeId} {A:Option Addr} {xs:List Value} (h:w.ownsRow base e sz (.slice A n c) n xs) (hq:q<=n):w.ownsRow base e sz (.slice A q c) q (xs.take (q*sz)):=by
 obtain⟨h1,h2⟩:=h
 have hm:q*sz<=n*sz:=Nat.mul_le_mul_right _ hq
 refine⟨by rw[List.length_take];omega,?_⟩
 rcases h2 with ⟨e1,e2⟩|⟨g,cap,cur,e1,h3,h4,h5,h6,h7,h8⟩
 ·injection e1 with e3 e4 e5
  subst e3;subst e5
  exact .inl ⟨by congr 1;omega,by omega⟩
 ·injection e1 with e3 e4 e5
  subst e3;subst e5
  refine .inr ⟨g,c,cur,rfl,h3,h4,by omega,h6,h7,?_⟩
  rw[←h8,List.take_take,Nat.min_eq_left hm]
theorem CF (row:List Tm) (Av A:Option Addr) (cv n c:Nat) (w:World) (hn:row.length=n) (hl:n<=1000000) (hc:n<=c) (hr:RdTs w A row) :
  Calls Tryz.prog 75 #[.agg #[.slice Av n cv],.slice A n c] w (JC row w):=by
 obtain⟨W,hW⟩:∃W:World,w.alloc (.cells #[.slice Av n cv] 138)=W:=⟨_,rfl⟩
 have hB0:Below w.heap.size w W:=by rw[←hW];exact blw
 have k0:W.heap[w.heap.size]?=some (Obj.cells #[.slice Av n cv] 138 (0,0)):=by rw[←hW];exact heap_alloc_new _ _
 have c0:W.cell? ⟨w.heap.size,0,none⟩=some (.slice Av n cv):=by rw[World.cell?,k0];rfl
 obtain⟨i,hi,hz,hsize,hby⟩:=info_parts iT
 have H:=Lib.hid (And.intro hn (And.intro hB0 (And.intro hr (And.intro hi (And.intro hz (And.intro hsize hby))))))
 have HW:=Lib.hid hW
 clear hn hB0 hr k0 hW hi hz hsize hby
 go_enter Tryz.func75,Tryz.ntmps75
 go_wp2_with fail
 simp only[HW.out]
 refine Rf.p0 W.heap.size _ (.quiet [0,1,2,3,7,8,9] (.one 4 (.one 5 (.one 6 (.quiet [10,11] (.done)))))) ?_ (λa w h=>h)
 intro wd hbd hwz
 have y0:=cellL c0 hbd
 have hs1:W.heap.size<=wd.heap.size:=hbd.size
 have HBD:=Lib.hid hbd
 clear hwz c0 hbd
 refine Rf.pl_quiet ?_
 iterate 7 go_big_quiet_step (fail)
 refine wpQuiet_nil (Rf.pl_one ?_)
 obtain⟨w1,hmk,own1,hg1⟩:=run_make_full (P:=Tryz.prog) wd wd.heap.size 58 62 i _ 4 Tryz.underlying58 H.out.2.2.2.1 H.out.2.2.2.2.1 H.out.2.2.2.2.2.1 .i64 .i64 n (by rw[H.out.2.2.2.2.2.2];omega) (by unfold maxLen;omega) (Nat.le_refl _)
 have hb1:Below wd.heap.size wd w1:=(Below.refl _ wd).grown hg1 (Nat.le_refl _) (λk hk=>by cases hk)
 rw[tN]at own1
 have HM:=Lib.hid (And.intro own1 hb1)
 have hs2:W.heap.size<=w1.heap.size:=Nat.le_trans hs1 hb1.size
 clear own1 hg1 hb1
 go_wp2
 refine⟨HM.out.2.mono hs1,Rf.pl_one ?_⟩
 go_wp2
 refine⟨(Below.refl _ _).alloc hs2 _,Rf.pl_one ?_⟩
 obtain⟨V,hV⟩:∃V:World,w1.alloc (.cells #[.slice A n c,.slice (some ⟨wd.heap.size,0,none⟩) n n] 58)=V:=⟨_,rfl⟩
 have hbV:Below w1.heap.size w1 V:=by rw[←hV];exact blw
 have hB2:=aa (aa (aa H.out.2.1 HBD.out) HM.out.2) hbV
 have hrl:(List.replicate n (⟨0,⟨#[]⟩,⟨#[]⟩,⟨#[]⟩⟩:Tm)).length=n:=List.length_replicate
 have hrd:RdRs V (some ⟨w1.heap.size,0,none⟩) [row,List.replicate n (⟨0,⟨#[]⟩,⟨#[]⟩,⟨#[]⟩⟩:Tm)]:=by
  obtain⟨A9,c9,e9,_,hr9⟩:=own_slice (own_below HM.out.1 hbV (Nat.le_refl _))
  injection e9 with e9
  refine⟨[.slice A n c,.slice (some ⟨wd.heap.size,0,none⟩) n n],by rw[←hV];exact Rd.of_block (heap_alloc_new _ _) rfl,?_⟩
  have r1:RdRow V [.slice A n c] row:=⟨A,c,by rw[H.out.1],by rw[H.out.1];exact hc,RdTs.later H.out.2.2.1 hB2⟩
  have r2:RdRow V [.slice (some ⟨wd.heap.size,0,none⟩) n n] (List.replicate n (⟨0,⟨#[]⟩,⟨#[]⟩,⟨#[]⟩⟩:Tm)):=⟨_,n,by rw[hrl],by rw[hrl];exact Nat.le_refl _,RdTs.of (by rw[e9];exact hr9)⟩
  exact(All.one rfl r1).append (All.one rfl r2)
 have hcall:=DT [row,List.replicate n (⟨0,⟨#[]⟩,⟨#[]⟩,⟨#[]⟩⟩:Tm)] (some ⟨w1.heap.size,0,none⟩) 2 V hrd (by simp) (by simp[iu,H.out.1];omega)
 have hfl:[row,List.replicate n (⟨0,⟨#[]⟩,⟨#[]⟩,⟨#[]⟩⟩:Tm)].flatMap id=row++List.replicate n ⟨0,⟨#[]⟩,⟨#[]⟩,⟨#[]⟩⟩:=by simp
 rw[hfl]at hcall
 have HV:=Lib.hid hV
 have HB2:=Lib.hid hB2
 have hsV:W.heap.size<=V.heap.size:=Nat.le_trans hs2 hbV.size
 have hwV:w.heap.size<=V.heap.size:=hB2.size
 clear hV hbV hB2 hrd hrl hfl
 simp only[HV.out]
 go_wp2_with (go_at_call 130;refine hcall.mono ?_;rintro e w5 ⟨v,rfl,own,hb5⟩)
 rw[List.length_append,List.length_replicate,H.out.1]at own
 obtain⟨A5,c5,rfl,hc5,_⟩:=own_slice own
 have hrun:=jx (P:=Tryz.prog) Tryz.underlying58 Tryz.sizeOf62 A5 c5 n (n+n) (by omega)
 have own2:=H7 own (q:=n) (by omega)
 rw[List.flatMap_append,List.take_append_of_le_length (by rw[tm_len,H.out.1];exact Nat.le_refl _),List.take_of_length_le (by rw[tm_len,H.out.1];exact Nat.le_refl _)]at own2
 have HF:=Lib.hid (And.intro own2 (aa HB2.out hb5))
 refine⟨hb5.mono hsV,Rf.pl_quiet ?_⟩
 clear own own2 hb5 hcall
 iterate 2 go_big_quiet_step (fail)
 refine wpQuiet_nil (Rf.pl_done ?_)
 go_wp2
 go_ret
 exact⟨_,rfl,by rw[H.out.1];exact own_lower HF.out.1 hwV,HF.out.2⟩
open Lx
def zTp:Tp:=⟨zTm,zTm,zTm⟩
def zCs:Array Value:=#[.int .i64 0,.string ⟨#[]⟩,.string ⟨#[]⟩,.string ⟨#[]⟩,.int .i64 0,.string ⟨#[]⟩,.string ⟨#[]⟩,.string ⟨#[]⟩,.int .i64 0,.string ⟨#[]⟩,.string ⟨#[]⟩,.string ⟨#[]⟩]
def cQ (t:Tp):Prop:=bK t.s/\bK t.p/\bK t.o
theorem qM:bK zTm:=⟨by decide,by decide,by decide⟩
def tpL (t:Tp):List Value:=(tpC t).toList
theorem bS (ts:List Tp):(ts.flatMap tpL).length=ts.length*12:=by
 induction ts with
 | nil=>rfl
 | cons t r ih=>rw[List.flatMap_cons,List.length_append,ih,List.length_cons];simp[tpL];omega
theorem mb (t:Tp):∀u∈tpL t,u.oneCell'=true:=by
 intro u hu
 simp only[tpL,List.mem_cons,List.not_mem_nil,or_false]at hu
 rcases hu with rfl|rfl|rfl|rfl|rfl|rfl|rfl|rfl|rfl|rfl|rfl|rfl<;>rfl
theorem fI:(Tryz.prog.info? 64).map (λi=>(i.zero,i.size,i.bytes))=some (some (.agg zCs),12,168):=by kernel_rfl
theorem Dm:∀{ts:List Tp} {i:Nat} {t:Tp},ts[i]?=some t->∀j,j<12->(ts.flatMap tpL)[i*12+j]?=(tpL t)[j]?
 | [],_,_,h,_,_=>by simp at h
 | u::r,0,t,h,j,hj=>by
  simp only[List.getElem?_cons_zero,Option.some.injEq]at h
  subst h
  rw[List.flatMap_cons,Nat.zero_mul,Nat.zero_add,List.getElem?_append_left (by simpa[tpL] using hj)]
 | u::r,i+1,t,h,j,hj=>by
  rw[List.getElem?_cons_succ]at h
  have hl:(tpL u).length=12:=rfl
  rw[List.flatMap_cons,List.getElem?_append_right (by rw[hl];omega),hl,show (i+1)*12+j-12=i*12+j by omega]
  exact Dm h j hj
theorem f7 {w:World} {A:Option Addr} {ts:List Tp} (h:Rd w A (ts.flatMap tpL)) {i:Nat} {t:Tp} (ht:ts[i]?=some t) :
  ∃g o,A=some ⟨g,o,none⟩/\w.cell? ⟨g,o+i*12,none⟩=some (.int .i64 t.s.k)/\w.cell? ⟨g,o+i*12+1,none⟩=some (.string t.s.x)/\w.cell? ⟨g,o+i*12+2,none⟩=some (.string t.s.l)/\w.cell? ⟨g,o+i*12+3,none⟩=some (.string t.s.y)/\w.cell? ⟨g,o+i*12+4,none⟩=some (.int .i64 t.p.k)/\w.cell? ⟨g,o+i*12+5,none⟩=some (.string t.p.x)/\w.cell? ⟨g,o+i*12+6,none⟩=some (.string t.p.l)/\w.cell? ⟨g,o+i*12+7,none⟩=some (.string t.p.y)/\w.cell? ⟨g,o+i*12+8,none⟩=some (.int .i64 t.o.k)/\w.cell? ⟨g,o+i*12+9,none⟩=some (.string t.o.x)/\w.cell? ⟨g,o+i*12+10,none⟩=some (.string t.o.l)/\w.cell? ⟨g,o+i*12+11,none⟩=some (.string t.o.y):=by
 have hf:=Dm ht
 rcases h with h0|⟨g,o,hA,hc⟩
 ·have h1:=hf 0 (by omega)
  rw[h0]at h1;cases h1
 ·exact⟨g,o,hA,hc _ _ (hf 0 (by omega)),by rw[Nat.add_assoc];exact hc _ _ (hf 1 (by omega)),by rw[Nat.add_assoc];exact hc _ _ (hf 2 (by omega)),by rw[Nat.add_assoc];exact hc _ _ (hf 3 (by omega)),by rw[Nat.add_assoc];exact hc _ _ (hf 4 (by omega)),by rw[Nat.add_assoc];exact hc _ _ (hf 5 (by omega)),by rw[Nat.add_assoc];exact hc _ _ (hf 6 (by omega)),by rw[Nat.add_assoc];exact hc _ _ (hf 7 (by omega)),by rw[Nat.add_assoc];exact hc _ _ (hf 8 (by omega)),by rw[Nat.add_assoc];exact hc _ _ (hf 9 (by omega)),by rw[Nat.add_assoc];exact hc _ _ (hf 10 (by omega)),by rw[Nat.add_assoc];exact hc _ _ (hf 11 (by omega))⟩
end Go.Proofs.YtfcbghmbbjolcaaGreatDoor
