/- mean's table, walked: of, order, compare, Rows' closure. sli -/
import Derived.Test.YtoejnneknpoanaaGreatDoorJKept3
set_option maxHeartbeats 8000000
set_option maxRecDepth 100000
namespace Go.Proofs.YtoejnneknpoanaaGreatDoor
open Go Go.RowKit Fm Tx Om Mp
theorem mtmInfo:(Tryz.prog.info? 76).map (·.size)=some 4:=by kernel_rfl
theorem meanOf (vars:List ByteArray) (row:List Tm) (s:ByteArray) (p:Nat) (x:Tm) (Av A:Option Addr) (nv cv n c:Nat) (w:World) (hnv:vars.length=nv) (hln:nv<=1000000) (hn:row.length=n) (hp:Lib.idxOfS vars s=(p:Int)) (hx:row[p]?=some x) (hv:Rd w Av (vars.map Value.string)) (hr:RdTs w A row) :
  Calls Tryz.prog 81 #[.agg #[.slice Av nv cv],.slice A n c,.string s] w λe w'=>e=.returned (.agg #[.int .i64 x.k,.string x.x,.string x.l,.string x.y])/\Below w.heap.size w w':=by
 obtain⟨W,hW⟩:∃W:World,(w.alloc (.cells #[.slice Av nv cv] 114)).alloc (.cells #[.int .i64 0,.string ⟨#[]⟩,.string ⟨#[]⟩,.string ⟨#[]⟩] 76)=W:=⟨_,rfl⟩
 have hB0:Below w.heap.size w W:=by rw[←hW];exact blw
 have k0:W.heap[w.heap.size]?=some (Obj.cells #[.slice Av nv cv] 114 (0,0)):=by rw[←hW];exact heap_two_1 _ _ _
 have k1:W.heap[w.heap.size+1]?=some (Obj.cells #[.int .i64 0,.string ⟨#[]⟩,.string ⟨#[]⟩,.string ⟨#[]⟩] 76 (0,0)):=by rw[←hW];exact heap_two_2 _ _ _
 have c0:W.cell? ⟨w.heap.size,0,none⟩=some (.slice Av nv cv):=by rw[World.cell?,k0];rfl
 have hI:=idxTxt vars s Av cv W (by omega) (hv.later hB0)
 rw[hnv,hp]at hI
 obtain⟨g,o,rfl,a0,a1,a2,a3⟩:=(RdTs.later hr hB0).at4 hx
 have hpn:p<n:=by rw[←hn];exact(List.getElem?_eq_some_iff.1 hx).1
 obtain⟨V,hV⟩:∃V:World,W.setRow (w.heap.size+1) #[.int .i64 x.k,.string x.x,.string x.l,.string x.y]=V:=⟨_,rfl⟩
 have k2:V.heap[w.heap.size+1]?=some (Obj.cells #[.int .i64 x.k,.string x.x,.string x.l,.string x.y] 76 (0,0)):=by rw[←hV];exact setRow_heap _ _ _ _ _ _ k1
 have hB1:Below w.heap.size w V:=by rw[←hV];exact below_setRow hB0 (by omega) _
 have b0:V.cell? ⟨w.heap.size+1,0,none⟩=some (.int .i64 x.k):=by rw[World.cell?,k2];rfl
 have b1:V.cell? ⟨w.heap.size+1,1,none⟩=some (.string x.x):=by rw[World.cell?,k2];rfl
 have b2:V.cell? ⟨w.heap.size+1,2,none⟩=some (.string x.l):=by rw[World.cell?,k2];rfl
 have b3:V.cell? ⟨w.heap.size+1,3,none⟩=some (.string x.y):=by rw[World.cell?,k2];rfl
 have HW:=Lib.hid hW
 have HV:=Lib.hid hV
 have HF:=Lib.hid (And.intro (setRow_heap V _ _ #[.int .i64 x.k,.string x.x,.string x.l,.string x.y] _ (0,0) k2) (below_setRow hB1 (g:=w.heap.size+1) (by omega) #[.int .i64 x.k,.string x.x,.string x.l,.string x.y]))
 have HK:=Lib.hid (And.intro k1 k2)
 clear hW hV hB0 hB1 k0 k1 k2 hv hr hx hn hnv hp
 go_enter Tryz.func81,Tryz.ntmps81
 go_wp2_with fail
 simp only[HW.out]
 go_wp2_with (first
  | (go_at_call 123;refine hI.mono ?_;rintro e w2 ⟨rfl,rfl⟩)
  | (refine wpList_store_row rfl 76 _ _ rfl rfl rfl mtmInfo HK.out.1 rfl rfl ?_;rw[HV.out])
  | (refine wpList_store_row rfl 76 _ _ rfl rfl rfl mtmInfo HK.out.2 rfl rfl ?_)
  | fail)
 exact bodyPost_ret (results_cell_row rfl _ _ _ _ _ _ _ rfl HF.out.1 Tryz.underlying76 rfl mtmInfo) rfl ⟨rfl,HF.out.2⟩
theorem meanOrder (a b:List Tm) (A B:Option Addr) (c d n m:Nat) (w:World) (hn:a.length=n) (hm:b.length=m) (hC:CtxT w) (ha:RdTs w A a) (hb:RdTs w B b) (za:smallRow a) (zb:smallRow b) :
  Calls Tryz.prog 122 #[.slice A n c,.slice B m d] w λe w'=>e=.returned (.int .i64 (cmpRow a b))/\Below w.heap.size w w':=by
 have hcall:=cmpRows a b A B c d n m w hn hm hC ha hb za zb
 generalize cmpRow a b=z at *
 clear hn hm hC ha hb za zb
 go_enter Tryz.func122,Tryz.ntmps122
 go_wp2_with (go_at_call 96;refine hcall.mono ?_;rintro e w1 ⟨rfl,hb1⟩;have HF:=Lib.hid hb1;clear hb1 hcall)
 go_ret
 exact⟨rfl,HF.out⟩
theorem meanCompare (a b:List Tm) (vars:List ByteArray) (keys:List Ky) (n c nv cv d no co:Nat) (A B Av Ao:Option Addr) (w:World) (hnv:vars.length=nv) (hn:a.length=n) (hm:b.length=n) (hno:keys.length=no) (hlo:no<=1000000) (hlv:nv<=1000000)
  (hpl:∀p∈placesL vars (keys.map (·.v)),0<=p/\p<n) (hC:CtxT w) (ha:RdTs w A a) (hb:RdTs w B b) (za:smallRow a) (zb:smallRow b) (hv:Rd w Av (vars.map Value.string)) (hk:RdKey w Ao keys) :
  Calls Tryz.prog 80 #[.agg #[.slice Av nv cv],.slice A n c,.slice B n d,.slice Ao no co] w λe w'=>e=.returned (.int .i64 (cmpKeys (keysP (placesL vars (keys.map (·.v))) keys) a b))/\Below w.heap.size w w':=by
 obtain⟨W,hW⟩:∃W:World,w.alloc (.cells #[.slice Av nv cv] 114)=W:=⟨_,rfl⟩
 have hB0:Below w.heap.size w W:=by rw[←hW];exact blw
 have k0:W.heap[w.heap.size]?=some (Obj.cells #[.slice Av nv cv] 114 (0,0)):=by rw[←hW];exact heap_alloc_new _ _
 have a0:W.cell? ⟨w.heap.size,0,none⟩=some (.slice Av nv cv):=by rw[World.cell?,k0];rfl
 have hln:n<=1000000:=by rw[←hn];exact za.1
 obtain⟨ps,hps⟩:∃ps,placesL vars (keys.map (·.v))=ps:=⟨_,rfl⟩
 rw[hps]at hpl ⊢
 have hnp:ps.length=no:=by rw[←hps,←hno];simp[placesL]
 have hpk:∀k (y:Ky),keys[k]?=some y->ps[k]?=some (Lib.idxOfS vars y.v):=λk y h=>by
  rw[←hps];unfold placesL;rw[List.map_map,List.getElem?_map,h];rfl
 have H:=Lib.hid (And.intro hn (And.intro hm (And.intro hnp (And.intro hno (And.intro hpl (And.intro (RdTs.later ha hB0) (And.intro (RdTs.later hb hB0) (And.intro za (And.intro zb (And.intro (hv.later hB0) (And.intro (RdL.mono hk hB0 (λ_ _ _ h=>h)) (And.intro hnv (And.intro hpk (And.intro hB0 (hC.step hB0)))))))))))))))
 have HW:=Lib.hid hW
 clear hn hm hnp hno hpl ha hb za zb hv hk hnv hpk hB0 hW hps k0 hC
 go_enter Tryz.func80,Tryz.ntmps80
 go_wp2_with fail
 simp only[HW.out]
 go_wp2
 go_loopw [10,11,14] (λu v i wr=>∃k:Nat,k<=no/\i=.int .i64 k/\Hid (cmpKeys (keysP ps keys) a b=cmpKeys (keysP (ps.drop k) (keys.drop k)) a b)/\Hid (Below W.heap.size W wr)) (λ_ _ i _=>no-(intOf i).toNat)
 case atStart=>exact⟨0,by omega,rfl,rfl,Below.refl _ _⟩
 case round =>
  obtain⟨k,hk,rfl,H1,HB⟩:=hrel
  obtain⟨hn,hm,hnp,hno,hpl,ha,hb,za,zb,hv,hky,hnv,hpk,hB0,hC⟩:=H.out
  by_cases hlt:k<no
  ·obtain⟨y,hy1⟩:∃y,keys[k]?=some y:=⟨_,List.getElem?_eq_getElem (by rw[hno];exact hlt)⟩
   have hp1:=hpk k y hy1
   obtain⟨g3,o3,cs,rfl,_,rfl,hx⟩:=(RdL.mono hky HB.out (λ_ _ _ h=>h)).at_ (by omega) hy1
   have hcv:wr.cell? ⟨g3,o3+k*2,none⟩=some (.string y.v):=hx 0 _ rfl
   have hcd:wr.cell? ⟨g3,o3+k*2+1,none⟩=some (.bool y.d):=hx 1 _ rfl
   obtain⟨q0,q1⟩:=hpl _ (List.mem_of_getElem? hp1)
   obtain⟨q,hq⟩:∃q:Nat,Lib.idxOfS vars y.v=(q:Int):=⟨(Lib.idxOfS vars y.v).toNat,by omega⟩
   rw[hq]at hp1 q0 q1
   obtain⟨x,hx1⟩:∃x,a[q]?=some x:=⟨_,List.getElem?_eq_getElem (by omega)⟩
   obtain⟨z,hz1⟩:∃z,b[q]?=some z:=⟨_,List.getElem?_eq_getElem (by omega)⟩
   have hst:Hid (cmpKeys (keysP ps keys) a b=orZ (way y.d (cmpTm x z)) (cmpKeys (keysP (ps.drop (k+1)) (keys.drop (k+1))) a b)):=by
    show _=_
    rw[H1.out,keysP_drop hp1 hy1]
    show orZ (way y.d (cmpTm a[(q:Int).toNat]! b[(q:Int).toNat]!)) _=_
    rw[Int.toNat_natCast,List.getElem!_of_getElem? hx1,List.getElem!_of_getElem? hz1]
   obtain⟨W2,hW2⟩:∃V:World,wr.alloc (.cells #[.string y.v,.bool y.d] 72)=V:=⟨_,rfl⟩
   have hB2:Below wr.heap.size wr W2:=by rw[←hW2];exact blw
   have kk:W2.heap[wr.heap.size]?=some (Obj.cells #[.string y.v,.bool y.d] 72 (0,0)):=by rw[←hW2];exact heap_alloc_new _ _
   have f0:W2.cell? ⟨wr.heap.size,0,none⟩=some (.string y.v):=by rw[World.cell?,kk];rfl
   have f1:W2.cell? ⟨wr.heap.size,1,none⟩=some (.bool y.d):=by rw[World.cell?,kk];rfl
   have c0:=cell_on a0 (below_tr HB.out hB2)
   have HBB:=Lib.hid (below_tr HB.out hB2)
   have hOa:=λd os=>meanOf vars a y.v q x Av A nv cv n c (Sort.grow (redrawn W2 d) os) hnv hlv hn hq hx1 ((hv.later HBB.out).later (below_regrown W2 d os)) ((RdTs.later ha HBB.out).later (below_regrown W2 d os))
   have hOb:=λd' os=>meanOf vars b y.v q z Av B nv cv n d (Sort.grow (redrawn W2 d') os) hnv hlv hm hq hz1 ((hv.later HBB.out).later (below_regrown W2 d' os)) ((RdTs.later hb HBB.out).later (below_regrown W2 d' os))
   have hcall:=λV (h:Below W2.heap.size W2 V)=>termCompare x z V (hC.step (below_tr HBB.out h)) (za.2 x (List.mem_of_getElem? hx1)) (zb.2 z (List.mem_of_getElem? hz1))
   have hrg:=ordF_Tm.rng x z
   generalize cmpTm x z=r at *
   generalize y.d=dn at *
   generalize y.v=yv at *
   have e0:=λd os=>cell_on c0 (below_regrown W2 d os)
   have ev:=λd os=>cell_on f0 (below_regrown W2 d os)
   have HC:=Lib.hid f1
   have HW2:=Lib.hid hW2
   clear hp1 hy1 hx hx1 hz1 hn hm hnp hno hpl ha hb za zb hv hky hnv hpk hB0 hC H1 hq c0 f0 f1 kk hB2 hW2 q0 q1
   go_upto_region 4 with (fail)
   simp only[HW2.out]
   refine wrq ?_;(repeat (any_goals (go_big_quiet_step ((first|(go_at_call 69;exact Calls.regrown_of (hcall _ (below_regrown _ _ _)))|(go_at_call 81;first|(with_reducible exact Calls.regrown_of (hOa _ _))|(with_reducible exact Calls.regrown_of (hOb _ _))))))));all_goals (refine wqn ?_;intro d9 os9)
   have kq:=below_regrown W2 d9 os9
   have f1:=cell_on HC.out kq
   have HB3:=Lib.hid (below_tr HBB.out kq)
   clear e0 ev hOa hOb hcall kq HC hcv hcd
   generalize Sort.grow (redrawn W2 d9) os9=w3 at *
   obtain⟨r1,r2⟩:=hrg
   by_cases hz:r=0
   ·subst hz
    have hst2:Hid (cmpKeys (keysP ps keys) a b=cmpKeys (keysP (ps.drop (k+1)) (keys.drop (k+1))) a b):=by
     show _=_
     rw[hst.out]
     cases dn<;>rfl
    clear hst
    cases dn
    ·go_wp2
     go_roundw
     case rel=>exact⟨k+1,by omega,by go_num,hst2,HB3⟩
     case measure=>simp[intOf];omega
    ·go_wp2
     go_roundw
     case rel=>exact⟨k+1,by omega,by go_num,hst2,HB3⟩
     case measure=>simp[intOf];omega
   ·cases dn
    ·have hst2:Hid (cmpKeys (keysP ps keys) a b=r):=by
      show _=_
      rw[hst.out]
      show orZ r _=r
      unfold orZ;rw[if_neg hz]
     have hq:(r != 0)=true:=by rw[bne_iff_ne];exact hz
     clear hst hz
     go_wp2
     go_ret
     exact⟨by rw[hst2.out];rfl,below_tr H.out.2.2.2.2.2.2.2.2.2.2.2.2.2.1 HB3.out⟩
    ·have hst2:Hid (cmpKeys (keysP ps keys) a b = -r):=by
      show _=_
      rw[hst.out]
      show orZ (-r) _ = -r
      unfold orZ;rw[if_neg (by omega)]
     obtain⟨s,hs⟩:∃s,-r=s:=⟨_,rfl⟩
     have hq:(s != 0)=true:=by rw[bne_iff_ne];omega
     have hw:IntKind.i64.wrap (-r)=s:=by rw[IntKind.wrap_i64];omega
     rw[hs]at hst2
     clear hst hz
     go_wp2
     go_ret
     exact⟨by rw[hst2.out];rfl,below_tr H.out.2.2.2.2.2.2.2.2.2.2.2.2.2.1 HB3.out⟩
  ·obtain rfl:k=no:=by omega
   have hcall:=meanOrder a b A B c d n n wr hn hm (hC.step HB.out) (RdTs.later ha HB.out) (RdTs.later hb HB.out) za zb
   have hst2:Hid (cmpKeys (keysP ps keys) a b=cmpRow a b):=by
    show _=_
    rw[H1.out,List.drop_eq_nil_of_le (by omega)];rfl
   have HB2:=Lib.hid (below_tr hB0 HB.out)
   generalize cmpRow a b=z at *
   clear hn hm hnp hno hpl ha hb za zb hv hky hnv hpk hB0 hC H1 a0
   go_wp2_with (go_at_call 122;refine hcall.mono ?_;rintro e w1 ⟨rfl,hb1⟩;have HF:=Lib.hid (below_tr HB2.out hb1);clear hb1 hcall)
   go_ret
   exact⟨by rw[hst2.out];rfl,HF.out⟩
theorem meanRows1 (a b:List Tm) (vars:List ByteArray) (keys:List Ky) (n c nv cv d no co tb qb:Nat) (A B Av Ao:Option Addr) (w:World) (hnv:vars.length=nv) (hn:a.length=n) (hm:b.length=n) (hno:keys.length=no) (hlo:no<=1000000) (hlv:nv<=1000000)
  (hpl:∀p∈placesL vars (keys.map (·.v)),0<=p/\p<n) (hC:CtxT w) (ha:RdTs w A a) (hb:RdTs w B b) (za:smallRow a) (zb:smallRow b) (hv:Rd w Av (vars.map Value.string)) (hk:RdKey w Ao keys) (h0:w.cell? ⟨tb,0,none⟩=some (.slice Av nv cv)) (h1:w.cell? ⟨qb,5,none⟩=some (.slice Ao no co)) :
  Calls Tryz.prog 79 #[.slice A n c,.slice B n d,.pointer (some ⟨tb,0,none⟩),.pointer (some ⟨qb,0,none⟩)] w λe w'=>e=.returned (.int .i64 (cmpKeys (keysP (placesL vars (keys.map (·.v))) keys) a b))/\Below w.heap.size w w':=by
 have hcall:=meanCompare a b vars keys n c nv cv d no co A B Av Ao w hnv hn hm hno hlo hlv hpl hC ha hb za zb hv hk
 generalize cmpKeys (keysP (placesL vars (keys.map (·.v))) keys) a b=z at *
 clear hn hm hnv hno hpl hC ha hb za zb hv hk
 go_enter Tryz.func79,Tryz.ntmps79
 go_wp2_with (go_at_call 80;refine hcall.mono ?_;rintro e w1 ⟨rfl,hb1⟩;have HF:=Lib.hid hb1;clear hb1 hcall)
 go_ret
 exact⟨rfl,HF.out⟩
theorem eqTerms (a b:List Tm) (A B:Option Addr) (c d n m:Nat) (w:World) (hn:a.length=n) (hm:b.length=m) (hln:n<=1000000) (hlm:m<=1000000) (ha:RdTs w A a) (hb:RdTs w B b) :
  Calls Tryz.prog 125 #[.slice A n c,.slice B m d] w λe w'=>e=.returned (.bool (decide (a=b)))/\Below w.heap.size w w':=by
 obtain⟨res,hres⟩:∃r,decide (a=b)=r:=⟨_,rfl⟩
 rw[hres]
 by_cases hnm:n=m
 case neg =>
  have hr:res=false:=by
   rw[←hres,decide_eq_false_iff_not]
   intro h
   rw[h]at hn
   omega
  subst hr
  have hd:((n:Int) != (m:Int))=true:=by rw[bne_iff_ne];omega
  clear hn hm ha hb hres hnm
  go_enter Tryz.func125,Tryz.ntmps125
  go_wp2
  go_ret
  exact⟨rfl,Below.refl _ _⟩
 subst hnm
 have H:=Lib.hid (And.intro hn (And.intro hm (And.intro ha (And.intro hb hres))))
 clear hn hm ha hb hres
 go_enter Tryz.func125,Tryz.ntmps125
 go_wp2
 go_loopw [5,13] (λ_ i wr=>∃k:Nat,k<=n/\i=.int .i64 k/\Hid (a=b↔a.drop k=b.drop k)/\Hid (Below w.heap.size w wr)) (λ_ i _=>n-(intOf i).toNat)
 case atStart=>exact⟨0,by omega,rfl,Iff.rfl,Below.refl _ _⟩
 case round =>
  obtain⟨k,hk,rfl,H1,HB⟩:=hrel
  obtain⟨hn,hm,ha,hb,hres⟩:=H.out
  by_cases hlt:k<n
  ·obtain⟨x,hx1⟩:∃x,a[k]?=some x:=⟨_,List.getElem?_eq_getElem (by omega)⟩
   obtain⟨z,hz1⟩:∃z,b[k]?=some z:=⟨_,List.getElem?_eq_getElem (by omega)⟩
   obtain⟨g1,o1,rfl,b0,b1,b2,b3⟩:=(RdTs.later ha HB.out).at4 hx1
   obtain⟨g2,o2,rfl,d0,d1,d2,d3⟩:=(RdTs.later hb HB.out).at4 hz1
   have hsd:=same_drop hx1 hz1
   have x0:=λd os=>cell_on b0 (below_regrown wr d os)
   have x1:=λd os=>cell_on b1 (below_regrown wr d os)
   have x2:=λd os=>cell_on b2 (below_regrown wr d os)
   have x3:=λd os=>cell_on b3 (below_regrown wr d os)
   have y0:=λd os=>cell_on d0 (below_regrown wr d os)
   have y1:=λd os=>cell_on d1 (below_regrown wr d os)
   have y2:=λd os=>cell_on d2 (below_regrown wr d os)
   have y3:=λd os=>cell_on d3 (below_regrown wr d os)
   by_cases he:x=z
   ·have hne:=λW=>run_neTm x z W
    rw[show sameTm x z=true from sameTm_iffT.2 he]at hne
    have H2:Hid (a=b↔a.drop (k+1)=b.drop (k+1)):=by
     show _↔_
     rw[H1.out,hsd]
     exact⟨λh=>h.2,λh=>⟨he,h⟩⟩
    clear hx1 hz1 b0 b1 b2 b3 d0 d1 d2 d3 hn hm ha hb hres H1 hsd he
    go_wp2
    refine wrq ?_;(repeat (any_goals (go_big_quiet_step ((fail)))));all_goals (refine wqn ?_;intro d9 os9)
    have kq:=Lib.hid (below_tr HB.out (below_regrown wr d9 os9))
    clear x0 x1 x2 x3 y0 y1 y2 y3
    generalize Sort.grow (redrawn wr d9) os9=w3 at *
    go_wp2
    go_roundw
    case rel=>exact⟨k+1,by omega,by go_num,H2,kq⟩
    case measure=>simp[intOf];omega
   ·have hne:=λW=>run_neTm x z W
    rw[show sameTm x z=false from by
     cases h:sameTm x z with
     | false=>rfl
     | true=>exact absurd (sameTm_iffT.1 h) he]at hne
    have H2:Hid (res=false):=by
     show _=_
     rw[←hres,decide_eq_false_iff_not,H1.out,hsd]
     exact λh=>he h.1
    clear hx1 hz1 b0 b1 b2 b3 d0 d1 d2 d3 hn hm ha hb hres H1 hsd he
    go_wp2
    refine wrq ?_;(repeat (any_goals (go_big_quiet_step ((fail)))));all_goals (refine wqn ?_;intro d9 os9)
    have kq:=Lib.hid (below_tr HB.out (below_regrown wr d9 os9))
    clear x0 x1 x2 x3 y0 y1 y2 y3
    generalize Sort.grow (redrawn wr d9) os9=w3 at *
    go_wp2
    go_ret
    exact⟨by rw[H2.out];rfl,kq.out⟩
  ·obtain rfl:k=n:=by omega
   have H2:Hid (res=true):=by
    show _=_
    rw[←hres,decide_eq_true_iff,H1.out,drop_end a hn,drop_end b hm]
   clear hn hm ha hb hres H1
   go_wp2
   go_ret
   exact⟨by rw[H2.out];rfl,HB.out⟩
theorem hasRowsB (F:Nat) (cb:Array Value) (eg:∀args w,(callFunc F args).run Tryz.prog w=.ok (.enter F args) w) (p:List Tm->Bool) (rows:List (List Tm)) (n:Nat) (A:Option Addr) (c:Nat) (w:World) (hn:rows.length=n) (hl:n<=1000000000) (hr:RdRs w A rows)
  (hc:∀row A' c' W,Below w.heap.size w W->row∈rows->row.length<=c'->RdTs W A' row->Calls Tryz.prog F (#[.slice A' row.length c']++cb) W λe W'=>e=.returned (.bool (p row))/\Below W.heap.size W W') :
  Calls Tryz.prog 54 #[.slice A n c,.func (.func F) #[] cb] w λe w'=>e=.returned (.bool (rows.any p))/\Below w.heap.size w w':=by
 have hI:=idxRows F cb eg (λk=>((rows[k]?).map p).getD false) (λ_ W=>Below w.heap.size w W) rows n A c w hn hl (λk W e=>hr.later e)
  (λk row W A' c' h1 h2 h3 h4=>by
   refine(hc row A' c' W h2 (List.mem_of_getElem? h1) h3 h4).mono λe W' h=>⟨?_,below_tr h2 h.2⟩
   rw[h1];exact h.1) (Below.refl _ _)
 have HA:Hid (∀(e:Ending) (w':World),IdxDone (λk=>((rows[k]?).map p).getD false) n (λ_ W=>Below w.heap.size w W) e w'->∃i:Int,e=.returned (.int .i64 i)/\decide (0<=i)=rows.any p/\Below w.heap.size w w'):=by
  intro e w' h
  rcases h with ⟨h1,h2,h3⟩|⟨k,h1,h2,h3,h4,h5⟩
  ·refine⟨_,h1,?_,h3⟩
   symm
   rw[show decide ((0:Int) <= -1)=false from rfl,List.any_eq_false]
   intro x hx
   obtain⟨j,hj⟩:=List.mem_iff_getElem?.1 hx
   have:=h2 j (by rw[←hn];exact(List.getElem?_eq_some_iff.1 hj).1)
   simp only[hj,Option.map_some,Option.getD_some]at this
   simp[this]
  ·refine⟨_,h2,?_,h5⟩
   rw[decide_eq_true (by omega:(0:Int)<=(k:Int))]
   symm
   rw[List.any_eq_true]
   dsimp only at h3
   cases hx:rows[k]? with
   | none=>rw[hx]at h3;cases h3
   | some x =>
    rw[hx]at h3
    exact⟨x,List.mem_of_getElem? hx,h3⟩
 generalize rows.any p=q at HA ⊢
 clear hr hc hn
 go_enter Tryz.func54,Tryz.ntmps54
 go_wp2_with (go_at_call 91;refine hI.mono ?_;intro e w1 hD;obtain⟨i,rfl,hd,hb1⟩:=HA.out e w1 hD;have Hd:=Lib.hid hd;have HB:=Lib.hid hb1;clear hd hD hI HA hb1)
 go_ret
 exact⟨by rw[←Hd.out];rfl,HB.out⟩
theorem meanOnce1 (x row:List Tm) (A B:Option Addr) (c d n m:Nat) (p:Addr) (w:World) (hn:x.length=n) (hm:row.length=m) (hln:n<=1000000) (hlm:m<=1000000) (ha:RdTs w A x) (hb:RdTs w B row) (hp:w.cell? p=some (.slice B m d)) :
  Calls Tryz.prog 124 #[.slice A n c,.pointer (some p)] w λe w'=>e=.returned (.bool (decide (x=row)))/\Below w.heap.size w w':=by
 have hcall:=eqTerms x row A B c d n m w hn hm hln hlm ha hb
 generalize decide (x=row)=z at *
 clear hn hm ha hb
 go_enter Tryz.func124,Tryz.ntmps124
 go_wp2_with (go_at_call 125;refine hcall.mono ?_;rintro e w1 ⟨rfl,hb1⟩;have HF:=Lib.hid hb1;clear hb1 hcall)
 go_ret
 exact⟨rfl,HF.out⟩
def OnceM (w:World) (rows:List (List Tm)) (k:Nat) (v:Value) (wr:World):Prop:=∃xs,wr.ownsRow w.heap.size 59 1 v (onceL (rows.take k)).length xs/\All 1 (RdRow w) xs (onceL (rows.take k))/\Below w.heap.size w wr
def OnceZ (w:World) (rows:List (List Tm)) (e:Ending) (w':World):Prop:=∃A c,e=.returned (.slice A (onceL rows).length c)/\(onceL rows).length<=c/\RdRs w' A (onceL rows)/\Below w.heap.size w w'
theorem OnceM.rd {w wr:World} {rows:List (List Tm)} {k:Nat} {v:Value} (h:OnceM w rows k v wr):∃A c,v=.slice A (onceL (rows.take k)).length c/\(onceL (rows.take k)).length<=c/\RdRs wr A (onceL (rows.take k)):=by
 obtain⟨xs,h1,h2,h3⟩:=h
 obtain⟨A,c,e,hl,hr⟩:=own_slice h1
 exact⟨A,c,e,hl,xs,hr,h2.mono λ_ _ _ h=>h.later h3⟩
theorem meanOnce (rows:List (List Tm)) (A:Option Addr) (n c:Nat) (w:World) (hn:rows.length=n) (hl:n<=1000000) (hz:∀r∈rows,r.length<=1000000) (hr:RdRs w A rows) :
  Calls Tryz.prog 82 #[.slice A n c] w (OnceZ w rows):=by
 have H:=Lib.hid (And.intro hn (And.intro hz hr))
 have H0:Hid (OnceM w rows 0 (.slice none 0 0) w):=⟨[],World.ownsRow_nil _ _ _ _,rfl,Below.refl _ _⟩
 clear hn hz hr
 go_enter Tryz.func82,Tryz.ntmps82
 go_wp2
 go_loopw [2,4,5,8] (λo u v i wr=>∃k:Nat,k<=n/\i=.int .i64 k/\Hid (OnceM w rows k o wr)) (λ_ _ _ i _=>n-(intOf i).toNat)
 case atStart=>exact⟨0,by omega,rfl,H0⟩
 case round =>
  clear H0
  obtain⟨k,hk,rfl,HK⟩:=hrel
  obtain⟨hn,hz,hr⟩:=H.out
  obtain⟨Ao,co,rfl,hco,hro⟩:=HK.out.rd
  by_cases hlt:k<n
  ·obtain⟨x,hx1⟩:∃x,rows[k]?=some x:=⟨_,List.getElem?_eq_getElem (by omega)⟩
   obtain⟨xs,hown,hall,hB⟩:=HK.out
   obtain⟨g0,o0,A0,c0,rfl,hc0,hle0,hr0⟩:=hr.at1 hx1
   have hcw:=cell_on hc0 hB
   obtain⟨W2,hW2⟩:∃V:World,wr.alloc (.cells #[.slice A0 x.length c0] 59)=V:=⟨_,rfl⟩
   have hB2:Below wr.heap.size wr W2:=by rw[←hW2];exact blw
   have f0:W2.cell? ⟨wr.heap.size,0,none⟩=some (.slice A0 x.length c0):=by rw[←hW2,World.cell?,heap_alloc_new];rfl
   have hol:=once_len (rows.take k)
   rw[List.length_take]at hol
   have hlen:(onceL (rows.take k)).length<=1000000:=by omega
   have hxl:=hz x (List.mem_of_getElem? hx1)
   have hC:=hasRowsB 124 #[.pointer (some ⟨wr.heap.size,0,none⟩)] (enters_of Tryz.func124 (by kernel_rfl) rfl) (λy=>decide (y=x)) (onceL (rows.take k)) (onceL (rows.take k)).length Ao co W2 rfl (by omega) (hro.later hB2) (λrow A' c' W hW hm _ hrd=>meanOnce1 row x A' A0 c' c0 row.length x.length _ W rfl rfl (hz row (List.mem_of_mem_take ((once_mem _ _).1 hm))) hxl hrd (RdTs.later hr0 (below_tr (below_tr hB hB2) hW)) (cell_on f0 hW))
   rw[show (onceL (rows.take k)).any (λy=>decide (y=x))=decide (x∈onceL (rows.take k)) from by
    rw[Bool.eq_iff_iff,List.any_eq_true,decide_eq_true_iff]
    exact⟨λ⟨y,h1,h2⟩=>of_decide_eq_true h2 ▸ h1,λh=>⟨x,h,decide_eq_true rfl⟩⟩]at hC
   have HX:=Lib.hid (And.intro hx1 (And.intro hown (And.intro hall (And.intro hB (And.intro hB2 (And.intro hle0 hr0))))))
   have HW2:=Lib.hid hW2
   have hbs:=hB.size
   clear hn hz hr hown hall hB hc0 hr0 hB2 hol hro hx1
   by_cases hm:x∈onceL (rows.take k)
   ·have HT:Hid (onceL (rows.take (k+1))=onceL (rows.take k)):=by
     show _=_
     rw[take_snoc_of HX.out.1,once_snoc]
     unfold onceF
     rw[if_pos hm]
    rw[decide_eq_true hm]at hC
    clear hm hW2
    go_upto_region 5 with (fail)
    simp only[HW2.out]
    go_wp2_with (go_at_call 54;refine hC.mono ?_;rintro e w5 ⟨rfl,hb5⟩;have HF:=Lib.hid (below_tr HX.out.2.2.2.2.1 hb5);clear hb5 hC)
    go_roundw
    case rel=>exact⟨k+1,by omega,by go_num,by show OnceM _ _ _ _ _;unfold OnceM;rw[HT.out];exact⟨xs,own_below HX.out.2.1 HF.out (Nat.le_refl _),HX.out.2.2.1,below_tr HX.out.2.2.2.1 HF.out⟩⟩
    case measure=>simp[intOf];omega
   ·have HT:Hid (onceL (rows.take (k+1))=onceL (rows.take k)++[x]):=by
     show _=_
     rw[take_snoc_of HX.out.1,once_snoc]
     unfold onceF
     rw[if_neg hm]
    rw[decide_eq_false hm]at hC
    clear hm hW2
    have hin:Tryz.prog.underlying 23=some (.slice 59):=Tryz.underlying23
    go_upto_region 5 with (fail)
    simp only[HW2.out]
    go_upto_region 6 with (go_at_call 54;refine hC.mono ?_;rintro e w5 ⟨rfl,hb5⟩;have f5:=cell_on f0 hb5;have HF:=Lib.hid (below_tr HX.out.2.2.2.2.1 hb5);clear hb5 hC f0)
    have hal:Below w5.heap.size w5 (w5.alloc (.cells #[.slice A0 x.length c0] 59)):=blw
    have own5:=own_below HX.out.2.1 (below_tr HF.out hal) (Nat.le_refl _)
    have hs5:w.heap.size<=w5.heap.size:=Nat.le_trans hbs HF.out.size
    go_wp2_with (at_builtin;refine wpList_appG rfl rfl hin rowInfo rfl (by omega) rfl own5 rfl (Rd.of_block (heap_alloc_new w5 _) rfl) rfl (by intro u hu;simp only[List.mem_cons,List.not_mem_nil,or_false]at hu;subst hu;rfl) (by omega) (by omega) (by simp;omega) ?_;intro v' w6 own6 hb6 hg6;have HB6:=Lib.hid ((below_tr HX.out.2.2.2.1 (below_tr HF.out hal)).trans hb6);have HO6:=Lib.hid own6;clear own6 hb6 hg6 own5 hal f5)
    go_roundw
    case rel=>exact⟨k+1,by omega,by go_num,by show OnceM _ _ _ _ _;unfold OnceM;rw[HT.out];exact⟨_,by rw[List.length_append];exact HO6.out,HX.out.2.2.1.append (All.one rfl ⟨A0,c0,rfl,HX.out.2.2.2.2.2.1,HX.out.2.2.2.2.2.2⟩),HB6.out⟩⟩
    case measure=>simp[intOf];omega
  ·obtain rfl:k=n:=by omega
   have HE:Hid (rows.take k=rows):=List.take_of_length_le (by omega)
   have HB:=HK.out.choose_spec.2.2
   rw[HE.out]at hco hro ⊢
   have HF:=Lib.hid (And.intro hco (And.intro hro HB))
   clear hn hz hr hco hro HB HK
   go_wp2
   go_ret
   exact⟨_,_,rfl,HF.out.1,HF.out.2.1,HF.out.2.2⟩
end Go.Proofs.YtoejnneknpoanaaGreatDoor
