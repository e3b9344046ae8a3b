/- mean's table, walked: of, order, compare, Rows' closure. DER -/
import Derived.Test.YtoaemihcbmlkgaaGreatDoorJLaw29q
import Derived.Shelf.SlSortCmp.NoneTotal
set_option maxHeartbeats 8000000
set_option maxRecDepth 100000
namespace Go.Proofs.YtoaemihcbmlkgaaGreatDoor
open Go Go.RowKit Fm Tx Om Mp
theorem mtmInfo:(Tryz.prog.info? 26).map (·.size)=some 4:=by kernel_rfl
theorem meanOf (vars:List ByteArray) (row:List Tm) (s:ByteArray) (p:Nat) (x:Tm) (Av A:Option Addr) (nv cv n c:Nat) (w:World) (hnv:vars.length=nv) (hln:nv<=1000000) (hn:row.length=n) (hp:Lib.idxOfS vars s=(p:Int)) (hx:row[p]?=some x) (hv:Rd w Av (vars.map Value.string)) (hr:RdTs w A row) :
  Calls Tryz.prog 72 #[.agg #[.slice Av nv cv],.slice A n c,.string s] w λe w'=>e=.returned (.agg #[.int .i64 x.k,.string x.x,.string x.l,.string x.y])/\Below w.heap.size w w':=by
 obtain⟨W,hW⟩:∃W:World,(w.alloc (.cells #[.slice Av nv cv] 130)).alloc (.cells #[.int .i64 0,.string ⟨#[]⟩,.string ⟨#[]⟩,.string ⟨#[]⟩] 26)=W:=⟨_,rfl⟩
 have hB0:Below w.heap.size w W:=by rw[←hW];exact blw
 have k0:W.heap[w.heap.size]?=some (Obj.cells #[.slice Av nv cv] 130 (0,0)):=by rw[←hW];exact heap_two_1 _ _ _
 have k1:W.heap[w.heap.size+1]?=some (Obj.cells #[.int .i64 0,.string ⟨#[]⟩,.string ⟨#[]⟩,.string ⟨#[]⟩] 26 (0,0)):=by rw[←hW];exact heap_two_2 _ _ _
 have c0:W.cell? ⟨w.heap.size,0,none⟩=some (.slice Av nv cv):=by rw[World.cell?,k0];rfl
 have hI:=idxTxt vars s Av cv W (by omega) (hv.later hB0)
 rw[hnv,hp]at hI
 obtain⟨g,o,rfl,a0,a1,a2,a3⟩:=(RdTs.later hr hB0).at4 hx
 have hpn:p<n:=by rw[←hn];exact(List.getElem?_eq_some_iff.1 hx).1
 obtain⟨V,hV⟩:∃V:World,W.setRow (w.heap.size+1) #[.int .i64 x.k,.string x.x,.string x.l,.string x.y]=V:=⟨_,rfl⟩
 have k2:V.heap[w.heap.size+1]?=some (Obj.cells #[.int .i64 x.k,.string x.x,.string x.l,.string x.y] 26 (0,0)):=by rw[←hV];exact setRow_heap _ _ _ _ _ _ k1
 have hB1:Below w.heap.size w V:=by rw[←hV];exact below_setRow hB0 (by omega) _
 have b0:V.cell? ⟨w.heap.size+1,0,none⟩=some (.int .i64 x.k):=by rw[World.cell?,k2];rfl
 have b1:V.cell? ⟨w.heap.size+1,1,none⟩=some (.string x.x):=by rw[World.cell?,k2];rfl
 have b2:V.cell? ⟨w.heap.size+1,2,none⟩=some (.string x.l):=by rw[World.cell?,k2];rfl
 have b3:V.cell? ⟨w.heap.size+1,3,none⟩=some (.string x.y):=by rw[World.cell?,k2];rfl
 have HW:=Lib.hid hW
 have HV:=Lib.hid hV
 have HF:=Lib.hid (And.intro (setRow_heap V _ _ #[.int .i64 x.k,.string x.x,.string x.l,.string x.y] _ (0,0) k2) (below_setRow hB1 (g:=w.heap.size+1) (by omega) #[.int .i64 x.k,.string x.x,.string x.l,.string x.y]))
 have HK:=Lib.hid (And.intro k1 k2)
 clear hW hV hB0 hB1 k0 k1 k2 hv hr hx hn hnv hp
 go_enter Tryz.func72,Tryz.ntmps72
 go_wp2_with fail
 simp only[HW.out]
 go_wp2_with (first
  | (go_at_call 120;refine hI.mono ?_;rintro e w2 ⟨rfl,rfl⟩)
  | (refine wpList_store_row rfl 26 _ _ rfl rfl rfl mtmInfo HK.out.1 rfl rfl ?_;rw[HV.out])
  | (refine wpList_store_row rfl 26 _ _ rfl rfl rfl mtmInfo HK.out.2 rfl rfl ?_)
  | fail)
 exact bodyPost_ret (results_cell_row rfl _ _ _ _ _ _ _ rfl HF.out.1 Tryz.underlying26 rfl mtmInfo) rfl ⟨rfl,HF.out.2⟩
theorem meanOrder (a b:List Tm) (A B:Option Addr) (c d n m:Nat) (w:World) (hn:a.length=n) (hm:b.length=m) (hC:CtxT w) (ha:RdTs w A a) (hb:RdTs w B b) (za:smallRow a) (zb:smallRow b) :
  Calls Tryz.prog 28 #[.slice A n c,.slice B m d] w λe w'=>e=.returned (.int .i64 (cmpRow a b))/\Below w.heap.size w w':=by
 have hcall:=cmpRows a b A B c d n m w hn hm hC ha hb za zb
 generalize cmpRow a b=z at *
 clear hn hm hC ha hb za zb
 go_enter Tryz.func28,Tryz.ntmps28
 go_wp2_with (go_at_call 55;refine hcall.mono ?_;rintro e w1 ⟨rfl,hb1⟩;have HF:=Lib.hid hb1;clear hb1 hcall)
 go_ret
 exact⟨rfl,HF.out⟩
theorem meanCompare (a b:List Tm) (vars:List ByteArray) (keys:List Ky) (n c nv cv d no co:Nat) (A B Av Ao:Option Addr) (w:World) (hnv:vars.length=nv) (hn:a.length=n) (hm:b.length=n) (hno:keys.length=no) (hlo:no<=1000000) (hlv:nv<=1000000)
  (hpl:∀p∈placesL vars (keys.map (·.v)),0<=p/\p<n) (hC:CtxT w) (ha:RdTs w A a) (hb:RdTs w B b) (za:smallRow a) (zb:smallRow b) (hv:Rd w Av (vars.map Value.string)) (hk:RdKey w Ao keys) :
  Calls Tryz.prog 71 #[.agg #[.slice Av nv cv],.slice A n c,.slice B n d,.slice Ao no co] w λe w'=>e=.returned (.int .i64 (cmpKeys (keysP (placesL vars (keys.map (·.v))) keys) a b))/\Below w.heap.size w w':=by
 obtain⟨W,hW⟩:∃W:World,w.alloc (.cells #[.slice Av nv cv] 130)=W:=⟨_,rfl⟩
 have hB0:Below w.heap.size w W:=by rw[←hW];exact blw
 have k0:W.heap[w.heap.size]?=some (Obj.cells #[.slice Av nv cv] 130 (0,0)):=by rw[←hW];exact heap_alloc_new _ _
 have a0:W.cell? ⟨w.heap.size,0,none⟩=some (.slice Av nv cv):=by rw[World.cell?,k0];rfl
 have hln:n<=1000000:=by rw[←hn];exact za.1
 obtain⟨ps,hps⟩:∃ps,placesL vars (keys.map (·.v))=ps:=⟨_,rfl⟩
 rw[hps]at hpl ⊢
 have hnp:ps.length=no:=by rw[←hps,←hno];simp[placesL]
 have hpk:∀k (y:Ky),keys[k]?=some y->ps[k]?=some (Lib.idxOfS vars y.v):=λk y h=>by
  rw[←hps];unfold placesL;rw[List.map_map,List.getElem?_map,h];rfl
 have H:=Lib.hid (And.intro hn (And.intro hm (And.intro hnp (And.intro hno (And.intro hpl (And.intro (RdTs.later ha hB0) (And.intro (RdTs.later hb hB0) (And.intro za (And.intro zb (And.intro (hv.later hB0) (And.intro (RdL.mono hk hB0 (λ_ _ _ h=>h)) (And.intro hnv (And.intro hpk (And.intro hB0 (hC.step hB0)))))))))))))))
 have HW:=Lib.hid hW
 clear hn hm hnp hno hpl ha hb za zb hv hk hnv hpk hB0 hW hps k0 hC
 go_enter Tryz.func71,Tryz.ntmps71
 go_wp2_with fail
 simp only[HW.out]
 go_wp2
 go_loopw [10,11,14] (λu v i wr=>∃k:Nat,k<=no/\i=.int .i64 k/\Hid (cmpKeys (keysP ps keys) a b=cmpKeys (keysP (ps.drop k) (keys.drop k)) a b)/\Hid (Below W.heap.size W wr)) (λ_ _ i _=>no-(intOf i).toNat)
 case atStart=>exact⟨0,by omega,rfl,rfl,Below.refl _ _⟩
 case round =>
  obtain⟨k,hk,rfl,H1,HB⟩:=hrel
  obtain⟨hn,hm,hnp,hno,hpl,ha,hb,za,zb,hv,hky,hnv,hpk,hB0,hC⟩:=H.out
  by_cases hlt:k<no
  ·obtain⟨y,hy1⟩:∃y,keys[k]?=some y:=⟨_,List.getElem?_eq_getElem (by rw[hno];exact hlt)⟩
   have hp1:=hpk k y hy1
   obtain⟨g3,o3,cs,rfl,_,rfl,hx⟩:=(RdL.mono hky HB.out (λ_ _ _ h=>h)).at_ (by omega) hy1
   have hcv:wr.cell? ⟨g3,o3+k*2,none⟩=some (.string y.v):=hx 0 _ rfl
   have hcd:wr.cell? ⟨g3,o3+k*2+1,none⟩=some (.bool y.d):=hx 1 _ rfl
   obtain⟨q0,q1⟩:=hpl _ (List.mem_of_getElem? hp1)
   obtain⟨q,hq⟩:∃q:Nat,Lib.idxOfS vars y.v=(q:Int):=⟨(Lib.idxOfS vars y.v).toNat,by omega⟩
   rw[hq]at hp1 q0 q1
   obtain⟨x,hx1⟩:∃x,a[q]?=some x:=⟨_,List.getElem?_eq_getElem (by omega)⟩
   obtain⟨z,hz1⟩:∃z,b[q]?=some z:=⟨_,List.getElem?_eq_getElem (by omega)⟩
   have hst:Hid (cmpKeys (keysP ps keys) a b=orZ (way y.d (cmpTm x z)) (cmpKeys (keysP (ps.drop (k+1)) (keys.drop (k+1))) a b)):=by
    show _=_
    rw[H1.out,keysP_drop hp1 hy1]
    show orZ (way y.d (cmpTm a[(q:Int).toNat]! b[(q:Int).toNat]!)) _=_
    rw[Int.toNat_natCast,List.getElem!_of_getElem? hx1,List.getElem!_of_getElem? hz1]
   obtain⟨W2,hW2⟩:∃V:World,wr.alloc (.cells #[.string y.v,.bool y.d] 177)=V:=⟨_,rfl⟩
   have hB2:Below wr.heap.size wr W2:=by rw[←hW2];exact blw
   have kk:W2.heap[wr.heap.size]?=some (Obj.cells #[.string y.v,.bool y.d] 177 (0,0)):=by rw[←hW2];exact heap_alloc_new _ _
   have f0:W2.cell? ⟨wr.heap.size,0,none⟩=some (.string y.v):=by rw[World.cell?,kk];rfl
   have f1:W2.cell? ⟨wr.heap.size,1,none⟩=some (.bool y.d):=by rw[World.cell?,kk];rfl
   have c0:=cell_on a0 (below_tr HB.out hB2)
   have HBB:=Lib.hid (below_tr HB.out hB2)
   have hOa:=λd os=>meanOf vars a y.v q x Av A nv cv n c (Sort.grow (redrawn W2 d) os) hnv hlv hn hq hx1 ((hv.later HBB.out).later (below_regrown W2 d os)) ((RdTs.later ha HBB.out).later (below_regrown W2 d os))
   have hOb:=λd' os=>meanOf vars b y.v q z Av B nv cv n d (Sort.grow (redrawn W2 d') os) hnv hlv hm hq hz1 ((hv.later HBB.out).later (below_regrown W2 d' os)) ((RdTs.later hb HBB.out).later (below_regrown W2 d' os))
   have hcall:=λV (h:Below W2.heap.size W2 V)=>termCompare x z V (hC.step (below_tr HBB.out h)) (za.2 x (List.mem_of_getElem? hx1)) (zb.2 z (List.mem_of_getElem? hz1))
   have hrg:=ordF_Tm.rng x z
   generalize cmpTm x z=r at *
   generalize y.d=dn at *
   generalize y.v=yv at *
   have e0:=λd os=>cell_on c0 (below_regrown W2 d os)
   have ev:=λd os=>cell_on f0 (below_regrown W2 d os)
   have HC:=Lib.hid f1
   have HW2:=Lib.hid hW2
   clear hp1 hy1 hx hx1 hz1 hn hm hnp hno hpl ha hb za zb hv hky hnv hpk hB0 hC H1 hq c0 f0 f1 kk hB2 hW2 q0 q1
   go_upto_region 4 with (fail)
   simp only[HW2.out]
   refine wrq ?_;(repeat (any_goals (go_big_quiet_step ((first|(go_at_call 29;exact Calls.regrown_of (hcall _ (below_regrown _ _ _)))|(go_at_call 72;first|(with_reducible exact Calls.regrown_of (hOa _ _))|(with_reducible exact Calls.regrown_of (hOb _ _))))))));all_goals (refine wqn ?_;intro d9 os9)
   have kq:=below_regrown W2 d9 os9
   have f1:=cell_on HC.out kq
   have HB3:=Lib.hid (below_tr HBB.out kq)
   clear e0 ev hOa hOb hcall kq HC hcv hcd
   generalize Sort.grow (redrawn W2 d9) os9=w3 at *
   obtain⟨r1,r2⟩:=hrg
   by_cases hz:r=0
   ·subst hz
    have hst2:Hid (cmpKeys (keysP ps keys) a b=cmpKeys (keysP (ps.drop (k+1)) (keys.drop (k+1))) a b):=by
     show _=_
     rw[hst.out]
     cases dn<;>rfl
    clear hst
    cases dn
    ·go_wp2
     go_roundw
     case rel=>exact⟨k+1,by omega,by go_num,hst2,HB3⟩
     case measure=>simp[intOf];omega
    ·go_wp2
     go_roundw
     case rel=>exact⟨k+1,by omega,by go_num,hst2,HB3⟩
     case measure=>simp[intOf];omega
   ·cases dn
    ·have hst2:Hid (cmpKeys (keysP ps keys) a b=r):=by
      show _=_
      rw[hst.out]
      show orZ r _=r
      unfold orZ;rw[if_neg hz]
     have hq:(r != 0)=true:=by rw[bne_iff_ne];exact hz
     clear hst hz
     go_wp2
     go_ret
     exact⟨by rw[hst2.out];rfl,below_tr H.out.2.2.2.2.2.2.2.2.2.2.2.2.2.1 HB3.out⟩
    ·have hst2:Hid (cmpKeys (keysP ps keys) a b = -r):=by
      show _=_
      rw[hst.out]
      show orZ (-r) _ = -r
      unfold orZ;rw[if_neg (by omega)]
     obtain⟨s,hs⟩:∃s,-r=s:=⟨_,rfl⟩
     have hq:(s != 0)=true:=by rw[bne_iff_ne];omega
     have hw:IntKind.i64.wrap (-r)=s:=by rw[IntKind.wrap_i64];omega
     rw[hs]at hst2
     clear hst hz
     go_wp2
     go_ret
     exact⟨by rw[hst2.out];rfl,below_tr H.out.2.2.2.2.2.2.2.2.2.2.2.2.2.1 HB3.out⟩
  ·obtain rfl:k=no:=by omega
   have hcall:=meanOrder a b A B c d n n wr hn hm (hC.step HB.out) (RdTs.later ha HB.out) (RdTs.later hb HB.out) za zb
   have hst2:Hid (cmpKeys (keysP ps keys) a b=cmpRow a b):=by
    show _=_
    rw[H1.out,List.drop_eq_nil_of_le (by omega)];rfl
   have HB2:=Lib.hid (below_tr hB0 HB.out)
   generalize cmpRow a b=z at *
   clear hn hm hnp hno hpl ha hb za zb hv hky hnv hpk hB0 hC H1 a0
   go_wp2_with (go_at_call 28;refine hcall.mono ?_;rintro e w1 ⟨rfl,hb1⟩;have HF:=Lib.hid (below_tr HB2.out hb1);clear hb1 hcall)
   go_ret
   exact⟨by rw[hst2.out];rfl,HF.out⟩
theorem meanRows1 (a b:List Tm) (vars:List ByteArray) (keys:List Ky) (n c nv cv d no co tb qb:Nat) (A B Av Ao:Option Addr) (w:World) (hnv:vars.length=nv) (hn:a.length=n) (hm:b.length=n) (hno:keys.length=no) (hlo:no<=1000000) (hlv:nv<=1000000)
  (hpl:∀p∈placesL vars (keys.map (·.v)),0<=p/\p<n) (hC:CtxT w) (ha:RdTs w A a) (hb:RdTs w B b) (za:smallRow a) (zb:smallRow b) (hv:Rd w Av (vars.map Value.string)) (hk:RdKey w Ao keys) (h0:w.cell? ⟨tb,0,none⟩=some (.slice Av nv cv)) (h1:w.cell? ⟨qb,5,none⟩=some (.slice Ao no co)) :
  Calls Tryz.prog 70 #[.slice A n c,.slice B n d,.pointer (some ⟨tb,0,none⟩),.pointer (some ⟨qb,0,none⟩)] w λe w'=>e=.returned (.int .i64 (cmpKeys (keysP (placesL vars (keys.map (·.v))) keys) a b))/\Below w.heap.size w w':=by
 have hcall:=meanCompare a b vars keys n c nv cv d no co A B Av Ao w hnv hn hm hno hlo hlv hpl hC ha hb za zb hv hk
 generalize cmpKeys (keysP (placesL vars (keys.map (·.v))) keys) a b=z at *
 clear hn hm hnv hno hpl hC ha hb za zb hv hk
 go_enter Tryz.func70,Tryz.ntmps70
 go_wp2_with (go_at_call 71;refine hcall.mono ?_;rintro e w1 ⟨rfl,hb1⟩;have HF:=Lib.hid hb1;clear hb1 hcall)
 go_ret
 exact⟨rfl,HF.out⟩
end Go.Proofs.YtoaemihcbmlkgaaGreatDoor
namespace Go.Proofs
open Go.Shelf
def Tryz.laysSortRs_ren:Go.Shelf.Ren:=⟨fun|6=>27|15=>54|14=>53|28=>94|29=>95|20=>86|21=>87|22=>88|23=>89|24=>90|25=>91|26=>92|27=>93|46=>142|47=>143|48=>144|49=>145|50=>146|57=>185|n=>n,fun|22=>33|24=>36|25=>37|3=>3|39=>109|0=>0|53=>158|55=>160|4=>4|46=>151|45=>150|50=>155|5=>5|9=>9|66=>211|70=>215|76=>267|77=>268|n=>n,fun|n=>n⟩
theorem Tryz.laysSortRs:Go.Proofs.SlLaysF.n6 Tryz.prog Tryz.laysSortRs_ren:={
 mixed:=by kernel_rfl
 f6:=⟨Tryz.f27.name,by decide,Tryz.func27.trans (congrArg some (by kernel_rfl))⟩
 f14:=⟨Tryz.f53.name,by decide,Tryz.func53.trans (congrArg some (by kernel_rfl))⟩
 f15:=Tryz.func54.trans (congrArg some (by kernel_rfl))
 f20:=⟨Tryz.f86.name,by decide,Tryz.func86.trans (congrArg some (by kernel_rfl))⟩
 f21:=⟨Tryz.f87.name,by decide,Tryz.func87.trans (congrArg some (by kernel_rfl))⟩
 f22:=⟨Tryz.f88.name,by decide,Tryz.func88.trans (congrArg some (by kernel_rfl))⟩
 f23:=⟨Tryz.f89.name,by decide,Tryz.func89.trans (congrArg some (by kernel_rfl))⟩
 f24:=⟨Tryz.f90.name,by decide,Tryz.func90.trans (congrArg some (by kernel_rfl))⟩
 f25:=⟨Tryz.f91.name,by decide,Tryz.func91.trans (congrArg some (by kernel_rfl))⟩
 f26:=⟨Tryz.f92.name,by decide,Tryz.func92.trans (congrArg some (by kernel_rfl))⟩
 f27:=⟨Tryz.f93.name,by decide,Tryz.func93.trans (congrArg some (by kernel_rfl))⟩
 f28:=Tryz.func94.trans (congrArg some (by kernel_rfl))
 f29:=Tryz.func95.trans (congrArg some (by kernel_rfl))
 f46:=⟨Tryz.f142.name,by decide,Tryz.func142.trans (congrArg some (by kernel_rfl))⟩
 f47:=Tryz.func143.trans (congrArg some (by kernel_rfl))
 f48:=Tryz.func144.trans (congrArg some (by kernel_rfl))
 f49:=⟨Tryz.f145.name,by decide,Tryz.func145.trans (congrArg some (by kernel_rfl))⟩
 f50:=⟨Tryz.f146.name,by decide,Tryz.func146.trans (congrArg some (by kernel_rfl))⟩
 f57:=⟨Tryz.f185.name,by decide,Tryz.func185.trans (congrArg some (by kernel_rfl))⟩
 t0:=Tryz.underlying0
 a0:=Tryz.isAgg0
 z0:=Tryz.sizeOf0
 v0:=Tryz.zeroValue0
 t3:=Tryz.underlying3
 a3:=Tryz.isAgg3
 z3:=Tryz.sizeOf3
 v3:=Tryz.zeroValue3
 t4:=Tryz.underlying4
 a4:=Tryz.isAgg4
 z4:=Tryz.sizeOf4
 v4:=Tryz.zeroValue4
 t5:=Tryz.underlying5
 a5:=Tryz.isAgg5
 z5:=Tryz.sizeOf5
 v5:=Tryz.zeroValue5
 t9:=Tryz.underlying9
 a9:=Tryz.isAgg9
 z9:=Tryz.sizeOf9
 v9:=Tryz.zeroValue9
 t22:=Tryz.underlying33
 a22:=Tryz.isAgg33
 z22:=Tryz.sizeOf33
 v22:=Tryz.zeroValue33
 a24:=Tryz.isAgg36
 z24:=Tryz.sizeOf36
 t25:=Tryz.underlying37
 a25:=Tryz.isAgg37
 z25:=Tryz.sizeOf37
 v25:=Tryz.zeroValue37
 t39:=Tryz.underlying109
 a39:=Tryz.isAgg109
 z39:=Tryz.sizeOf109
 v39:=Tryz.zeroValue109
 t45:=Tryz.underlying150
 a45:=Tryz.isAgg150
 z45:=Tryz.sizeOf150
 v45:=Tryz.zeroValue150
 t46:=Tryz.underlying151
 a46:=Tryz.isAgg151
 z46:=Tryz.sizeOf151
 v46:=Tryz.zeroValue151
 t50:=Tryz.underlying155
 a50:=Tryz.isAgg155
 z50:=Tryz.sizeOf155
 v50:=Tryz.zeroValue155
 t53:=Tryz.underlying158
 a53:=Tryz.isAgg158
 z53:=Tryz.sizeOf158
 v53:=Tryz.zeroValue158
 t55:=Tryz.underlying160
 a55:=Tryz.isAgg160
 z55:=Tryz.sizeOf160
 v55:=Tryz.zeroValue160
 t66:=Tryz.underlying211
 a66:=Tryz.isAgg211
 z66:=Tryz.sizeOf211
 v66:=Tryz.zeroValue211
 t70:=Tryz.underlying215
 a70:=Tryz.isAgg215
 z70:=Tryz.sizeOf215
 v70:=Tryz.zeroValue215
 t76:=Tryz.underlying267
 a76:=Tryz.isAgg267
 z76:=Tryz.sizeOf267
 v76:=Tryz.zeroValue267
 t77:=Tryz.underlying268
 a77:=Tryz.isAgg268
 z77:=Tryz.sizeOf268
 v77:=Tryz.zeroValue268}
end Go.Proofs
namespace Go.Proofs.YtoaemihcbmlkgaaGreatDoor
open Go Go.RowKit Um Fm Mt Tx Om Mp
theorem others_sw {α:Type} [Inhabited α] {enc:α->Value} {w w':World} {g off:Nat} {D:Array α} {cur:Array Value} {T:TypeId} {fr:Nat × Nat} (h:w.heap[g]?=some (.cells cur T fr)) (S:SW enc w g off D w'):KeepsOthers w w':=by
 obtain⟨n,os,rfl⟩:=S
 refine⟨by unfold sortWorld Sort.grow Sort.putRow Sort.mapBlock Sort.ahead;simp,λk o x hc=>?_⟩
 have hk:k<w.heap.size:=(Array.getElem?_eq_some_iff.1 x).1
 unfold sortWorld Sort.grow Sort.putRow Sort.mapBlock Sort.ahead
 simp only[Array.getElem?_append,Array.size_modify]
 rw[if_pos hk,Array.getElem?_modify]
 split
 ·rename_i e1
  subst e1
  rw[h]at x
  injection x with x
  subst x;cases hc
 ·exact x
theorem mnSort (W0:World) (hC:CtxT W0) (nv n:Nat) (v:Value) (rows:List (List Tm)) (w:World) (hB:Below W0.heap.size W0 w) (hO:OwnRs W0.heap.size w v rows) (hn:rows.length=n) (hl:n<=1000000) (hz:∀r∈rows,smallRow r) (hw:∀r∈rows,r.length=nv) :
  Calls Tryz.prog 27 #[v,.func (.func 28) #[] #[]] w λe w'=>e=.returned (.tuple #[])/\Below W0.heap.size W0 w'/\(∀e,36≠e->KeepT e w w')/\OwnRs W0.heap.size w' v (sortK [] rows)/\KeepsOthers w w':=by
 have eg:∀args w,(callFunc 28 args).run Tryz.prog w=.ok (.enter 28 args) w:=enters_of Tryz.func28 (by kernel_rfl) rfl
 obtain⟨xs,own,hA⟩:=hO
 by_cases h0:0<n
 ·rw[hn]at own
  rcases RowV.of_own own with ⟨_,e2,_⟩|⟨g,cap,rest,rfl,hg,hV,hc1,hc2,hc3,hc4⟩
  ·omega
  obtain⟨d,rfl,rfl⟩:=sr_all hA hz hw
  have hdn:d.length=n:=by simpa using hn
  have hne:0<d.length:=by omega
  letI:Inhabited (SR W0.heap.size w nv):=⟨d[0]⟩
  have hV':RowV g (d.toArray.toList.map encR) rest w:=hV
  have hO:OneCell (encR (base:=W0.heap.size) (w:=w) (nv:=nv)):=λx=>by
   obtain⟨v,h1,h2⟩:=x.2.1
   injection h1 with h1
   obtain⟨A,c,rfl,_⟩:=own_slice h2
   show x.1.1.oneCell'=true
   rw[h1];rfl
  have hcmp:CmpLays1 Tryz.prog 28 #[] encR (cfR (base:=W0.heap.size) (w:=w) (nv:=nv) []) g 0 d.toArray.size w:=by
   intro m os dk hs x y
   have S:SW encR w g 0 dk (sortWorld encR w g 0 m dk os):=⟨m,os,rfl⟩
   generalize sortWorld encR w g 0 m dk os=W at S ⊢
   have hb:Below W0.heap.size W0 W:=hB.trans (below_sw hg hB.size S)
   have hk:∀e,36≠e->KeepT e w W:=λe he=>keep_sw hV S he
   obtain⟨A,c,e1,_,hx⟩:=(x.2.1.keep (hk _ (by decide))).rd
   obtain⟨B,c2,e2,_,hy⟩:=(y.2.1.keep (hk _ (by decide))).rd
   injection e1 with e1 _
   injection e2 with e2 _
   show Calls _ _ (#[x.1.1,y.1.1]++_) W _
   rw[e1,e2]
   exact calls_grow (meanOrder x.1.2 y.1.2 A B c c2 _ _ W rfl rfl (hC.step hb) hx hy x.2.2.1 y.2.2.1)
  have hT:=Any.slices_SortFunc (P:=Tryz.prog) Tryz.laysSortRs encR hO (cfR (base:=W0.heap.size) (w:=w) (nv:=nv) []) (swoR _) 28 #[] g 0 cap d.toArray w eg hcmp hV'.holds hV.lt (by simp;omega)
  have hsz:d.toArray.size=n:=by simpa using hdn
  rw[hsz]at hT
  refine hT.mono ?_
  rintro e w' ⟨rfl,D,m,os,hp,hs,hw'⟩
  have S:SW encR w g 0 D w':=⟨m,os,hw'⟩
  have hk:∀e,36≠e->KeepT e w w':=λe he=>keep_sw hV S he
  rw[←hdn]at hp hs
  have hDn:(D.toList.map λx=>x.1.1).length=n:=by have:=hp.1;simp at this ⊢;omega
  refine⟨rfl,hB.trans (below_sw hg hB.size S),hk,⟨D.toList.map (·.1.1),?_,?_⟩,others_sw hV S⟩
  ·rw[←sr_sorted _ d D hp hs,List.length_map]
   have hDl:D.toList.length=n:=by simpa using hDn
   rw[hDl]
   exact RowV.own (hV'.sw hp.1 S) hg hDn hc4 hc2
  ·rw[←sr_sorted _ d D hp hs]
   exact(sr_back D.toList).mono λ_ _ _ h=>h.keep (hk _ (by decide))
 ·have hr:rows=[]:=List.eq_nil_of_length_eq_zero (by omega)
  subst hr
  obtain⟨A,c,rfl,_,_⟩:=own_slice own
  refine(AnyF.slices_SortFunc_none (P:=Tryz.prog) {Tryz.laysSortRs with} A c _ w).mono ?_
  rintro e w' ⟨rfl,rfl⟩
  have hs:sortK [] ([]:List (List Tm))=[]:=by simp[sortK]
  rw[hs]
  exact⟨rfl,hB,λ_ _ _ _ _ h=>h,⟨xs,own,hA⟩,KeepsOthers.refl _⟩
theorem eqTerms (a b:List Tm) (A B:Option Addr) (c d n m:Nat) (w:World) (hn:a.length=n) (hm:b.length=m) (hln:n<=1000000) (hlm:m<=1000000) (ha:RdTs w A a) (hb:RdTs w B b) :
  Calls Tryz.prog 122 #[.slice A n c,.slice B m d] w λe w'=>e=.returned (.bool (decide (a=b)))/\Below w.heap.size w w':=by
 obtain⟨res,hres⟩:∃r,decide (a=b)=r:=⟨_,rfl⟩
 rw[hres]
 by_cases hnm:n=m
 case neg =>
  have hr:res=false:=by
   rw[←hres,decide_eq_false_iff_not]
   intro h
   rw[h]at hn
   omega
  subst hr
  have hd:((n:Int) != (m:Int))=true:=by rw[bne_iff_ne];omega
  clear hn hm ha hb hres hnm
  go_enter Tryz.func122,Tryz.ntmps122
  go_wp2
  go_ret
  exact⟨rfl,Below.refl _ _⟩
 subst hnm
 have H:=Lib.hid (And.intro hn (And.intro hm (And.intro ha (And.intro hb hres))))
 clear hn hm ha hb hres
 go_enter Tryz.func122,Tryz.ntmps122
 go_wp2
 go_loopw [5,13] (λ_ i wr=>∃k:Nat,k<=n/\i=.int .i64 k/\Hid (a=b↔a.drop k=b.drop k)/\Hid (Below w.heap.size w wr)) (λ_ i _=>n-(intOf i).toNat)
 case atStart=>exact⟨0,by omega,rfl,Iff.rfl,Below.refl _ _⟩
 case round =>
  obtain⟨k,hk,rfl,H1,HB⟩:=hrel
  obtain⟨hn,hm,ha,hb,hres⟩:=H.out
  by_cases hlt:k<n
  ·obtain⟨x,hx1⟩:∃x,a[k]?=some x:=⟨_,List.getElem?_eq_getElem (by omega)⟩
   obtain⟨z,hz1⟩:∃z,b[k]?=some z:=⟨_,List.getElem?_eq_getElem (by omega)⟩
   obtain⟨g1,o1,rfl,b0,b1,b2,b3⟩:=(RdTs.later ha HB.out).at4 hx1
   obtain⟨g2,o2,rfl,d0,d1,d2,d3⟩:=(RdTs.later hb HB.out).at4 hz1
   have hsd:=same_drop hx1 hz1
   have x0:=λd os=>cell_on b0 (below_regrown wr d os)
   have x1:=λd os=>cell_on b1 (below_regrown wr d os)
   have x2:=λd os=>cell_on b2 (below_regrown wr d os)
   have x3:=λd os=>cell_on b3 (below_regrown wr d os)
   have y0:=λd os=>cell_on d0 (below_regrown wr d os)
   have y1:=λd os=>cell_on d1 (below_regrown wr d os)
   have y2:=λd os=>cell_on d2 (below_regrown wr d os)
   have y3:=λd os=>cell_on d3 (below_regrown wr d os)
   by_cases he:x=z
   ·have hne:=λW=>run_neTm x z W
    rw[show sameTm x z=true from sameTm_iffT.2 he]at hne
    have H2:Hid (a=b↔a.drop (k+1)=b.drop (k+1)):=by
     show _↔_
     rw[H1.out,hsd]
     exact⟨λh=>h.2,λh=>⟨he,h⟩⟩
    clear hx1 hz1 b0 b1 b2 b3 d0 d1 d2 d3 hn hm ha hb hres H1 hsd he
    go_wp2
    refine wrq ?_;(repeat (any_goals (go_big_quiet_step ((fail)))));all_goals (refine wqn ?_;intro d9 os9)
    have kq:=Lib.hid (below_tr HB.out (below_regrown wr d9 os9))
    clear x0 x1 x2 x3 y0 y1 y2 y3
    generalize Sort.grow (redrawn wr d9) os9=w3 at *
    go_wp2
    go_roundw
    case rel=>exact⟨k+1,by omega,by go_num,H2,kq⟩
    case measure=>simp[intOf];omega
   ·have hne:=λW=>run_neTm x z W
    rw[show sameTm x z=false from by
     cases h:sameTm x z with
     | false=>rfl
     | true=>exact absurd (sameTm_iffT.1 h) he]at hne
    have H2:Hid (res=false):=by
     show _=_
     rw[←hres,decide_eq_false_iff_not,H1.out,hsd]
     exact λh=>he h.1
    clear hx1 hz1 b0 b1 b2 b3 d0 d1 d2 d3 hn hm ha hb hres H1 hsd he
    go_wp2
    refine wrq ?_;(repeat (any_goals (go_big_quiet_step ((fail)))));all_goals (refine wqn ?_;intro d9 os9)
    have kq:=Lib.hid (below_tr HB.out (below_regrown wr d9 os9))
    clear x0 x1 x2 x3 y0 y1 y2 y3
    generalize Sort.grow (redrawn wr d9) os9=w3 at *
    go_wp2
    go_ret
    exact⟨by rw[H2.out];rfl,kq.out⟩
  ·obtain rfl:k=n:=by omega
   have H2:Hid (res=true):=by
    show _=_
    rw[←hres,decide_eq_true_iff,H1.out,drop_end a hn,drop_end b hm]
   clear hn hm ha hb hres H1
   go_wp2
   go_ret
   exact⟨by rw[H2.out];rfl,HB.out⟩
theorem hasRowsB (F:Nat) (cb:Array Value) (eg:∀args w,(callFunc F args).run Tryz.prog w=.ok (.enter F args) w) (p:List Tm->Bool) (rows:List (List Tm)) (n:Nat) (A:Option Addr) (c:Nat) (w:World) (hn:rows.length=n) (hl:n<=1000000000) (hr:RdRs w A rows)
  (hc:∀row A' c' W,Below w.heap.size w W->row∈rows->row.length<=c'->RdTs W A' row->Calls Tryz.prog F (#[.slice A' row.length c']++cb) W λe W'=>e=.returned (.bool (p row))/\Below W.heap.size W W') :
  Calls Tryz.prog 32 #[.slice A n c,.func (.func F) #[] cb] w λe w'=>e=.returned (.bool (rows.any p))/\Below w.heap.size w w':=by
 have hI:=idxRows F cb eg (λk=>((rows[k]?).map p).getD false) (λ_ W=>Below w.heap.size w W) rows n A c w hn hl (λk W e=>hr.later e)
  (λk row W A' c' h1 h2 h3 h4=>by
   refine(hc row A' c' W h2 (List.mem_of_getElem? h1) h3 h4).mono λe W' h=>⟨?_,below_tr h2 h.2⟩
   rw[h1];exact h.1) (Below.refl _ _)
 have HA:Hid (∀(e:Ending) (w':World),IdxDone (λk=>((rows[k]?).map p).getD false) n (λ_ W=>Below w.heap.size w W) e w'->∃i:Int,e=.returned (.int .i64 i)/\decide (0<=i)=rows.any p/\Below w.heap.size w w'):=by
  intro e w' h
  rcases h with ⟨h1,h2,h3⟩|⟨k,h1,h2,h3,h4,h5⟩
  ·refine⟨_,h1,?_,h3⟩
   symm
   rw[show decide ((0:Int) <= -1)=false from rfl,List.any_eq_false]
   intro x hx
   obtain⟨j,hj⟩:=List.mem_iff_getElem?.1 hx
   have:=h2 j (by rw[←hn];exact(List.getElem?_eq_some_iff.1 hj).1)
   simp only[hj,Option.map_some,Option.getD_some]at this
   simp[this]
  ·refine⟨_,h2,?_,h5⟩
   rw[decide_eq_true (by omega:(0:Int)<=(k:Int))]
   symm
   rw[List.any_eq_true]
   dsimp only at h3
   cases hx:rows[k]? with
   | none=>rw[hx]at h3;cases h3
   | some x =>
    rw[hx]at h3
    exact⟨x,List.mem_of_getElem? hx,h3⟩
 generalize rows.any p=q at HA ⊢
 clear hr hc hn
 go_enter Tryz.func32,Tryz.ntmps32
 go_wp2_with (go_at_call 67;refine hI.mono ?_;intro e w1 hD;obtain⟨i,rfl,hd,hb1⟩:=HA.out e w1 hD;have Hd:=Lib.hid hd;have HB:=Lib.hid hb1;clear hd hD hI HA hb1)
 go_ret
 exact⟨by rw[←Hd.out];rfl,HB.out⟩
theorem meanOnce1 (x row:List Tm) (A B:Option Addr) (c d n m:Nat) (p:Addr) (w:World) (hn:x.length=n) (hm:row.length=m) (hln:n<=1000000) (hlm:m<=1000000) (ha:RdTs w A x) (hb:RdTs w B row) (hp:w.cell? p=some (.slice B m d)) :
  Calls Tryz.prog 121 #[.slice A n c,.pointer (some p)] w λe w'=>e=.returned (.bool (decide (x=row)))/\Below w.heap.size w w':=by
 have hcall:=eqTerms x row A B c d n m w hn hm hln hlm ha hb
 generalize decide (x=row)=z at *
 clear hn hm ha hb
 go_enter Tryz.func121,Tryz.ntmps121
 go_wp2_with (go_at_call 122;refine hcall.mono ?_;rintro e w1 ⟨rfl,hb1⟩;have HF:=Lib.hid hb1;clear hb1 hcall)
 go_ret
 exact⟨rfl,HF.out⟩
def OnceM (w:World) (rows:List (List Tm)) (k:Nat) (v:Value) (wr:World):Prop:=∃xs,wr.ownsRow w.heap.size 36 1 v (onceL (rows.take k)).length xs/\All 1 (RdRow w) xs (onceL (rows.take k))/\Below w.heap.size w wr
def OnceZ (w:World) (rows:List (List Tm)) (e:Ending) (w':World):Prop:=∃A c,e=.returned (.slice A (onceL rows).length c)/\(onceL rows).length<=c/\RdRs w' A (onceL rows)/\Below w.heap.size w w'/\∀a,A=some a->w.heap.size<=a.block
theorem OnceM.rd {w wr:World} {rows:List (List Tm)} {k:Nat} {v:Value} (h:OnceM w rows k v wr):∃A c,v=.slice A (onceL (rows.take k)).length c/\(onceL (rows.take k)).length<=c/\RdRs wr A (onceL (rows.take k)):=by
 obtain⟨xs,h1,h2,h3⟩:=h
 obtain⟨A,c,e,hl,hr⟩:=own_slice h1
 exact⟨A,c,e,hl,xs,hr,h2.mono λ_ _ _ h=>h.later h3⟩
theorem meanOnce (rows:List (List Tm)) (A:Option Addr) (n c:Nat) (w:World) (hn:rows.length=n) (hl:n<=1000000) (hz:∀r∈rows,r.length<=1000000) (hr:RdRs w A rows) :
  Calls Tryz.prog 73 #[.slice A n c] w (OnceZ w rows):=by
 have H:=Lib.hid (And.intro hn (And.intro hz hr))
 have H0:Hid (OnceM w rows 0 (.slice none 0 0) w):=⟨[],World.ownsRow_nil _ _ _ _,rfl,Below.refl _ _⟩
 clear hn hz hr
 go_enter Tryz.func73,Tryz.ntmps73
 go_wp2
 go_loopw [2,4,5,8] (λo u v i wr=>∃k:Nat,k<=n/\i=.int .i64 k/\Hid (OnceM w rows k o wr)) (λ_ _ _ i _=>n-(intOf i).toNat)
 case atStart=>exact⟨0,by omega,rfl,H0⟩
 case round =>
  clear H0
  obtain⟨k,hk,rfl,HK⟩:=hrel
  obtain⟨hn,hz,hr⟩:=H.out
  obtain⟨Ao,co,rfl,hco,hro⟩:=HK.out.rd
  by_cases hlt:k<n
  ·obtain⟨x,hx1⟩:∃x,rows[k]?=some x:=⟨_,List.getElem?_eq_getElem (by omega)⟩
   obtain⟨xs,hown,hall,hB⟩:=HK.out
   obtain⟨g0,o0,A0,c0,rfl,hc0,hle0,hr0⟩:=hr.at1 hx1
   have hcw:=cell_on hc0 hB
   obtain⟨W2,hW2⟩:∃V:World,wr.alloc (.cells #[.slice A0 x.length c0] 36)=V:=⟨_,rfl⟩
   have hB2:Below wr.heap.size wr W2:=by rw[←hW2];exact blw
   have f0:W2.cell? ⟨wr.heap.size,0,none⟩=some (.slice A0 x.length c0):=by rw[←hW2,World.cell?,heap_alloc_new];rfl
   have hol:=once_len (rows.take k)
   rw[List.length_take]at hol
   have hlen:(onceL (rows.take k)).length<=1000000:=by omega
   have hxl:=hz x (List.mem_of_getElem? hx1)
   have hC:=hasRowsB 121 #[.pointer (some ⟨wr.heap.size,0,none⟩)] (enters_of Tryz.func121 (by kernel_rfl) rfl) (λy=>decide (y=x)) (onceL (rows.take k)) (onceL (rows.take k)).length Ao co W2 rfl (by omega) (hro.later hB2) (λrow A' c' W hW hm _ hrd=>meanOnce1 row x A' A0 c' c0 row.length x.length _ W rfl rfl (hz row (List.mem_of_mem_take ((once_mem _ _).1 hm))) hxl hrd (RdTs.later hr0 (below_tr (below_tr hB hB2) hW)) (cell_on f0 hW))
   rw[show (onceL (rows.take k)).any (λy=>decide (y=x))=decide (x∈onceL (rows.take k)) from by
    rw[Bool.eq_iff_iff,List.any_eq_true,decide_eq_true_iff]
    exact⟨λ⟨y,h1,h2⟩=>of_decide_eq_true h2 ▸ h1,λh=>⟨x,h,decide_eq_true rfl⟩⟩]at hC
   have HX:=Lib.hid (And.intro hx1 (And.intro hown (And.intro hall (And.intro hB (And.intro hB2 (And.intro hle0 hr0))))))
   have HW2:=Lib.hid hW2
   have hbs:=hB.size
   clear hn hz hr hown hall hB hc0 hr0 hB2 hol hro hx1
   by_cases hm:x∈onceL (rows.take k)
   ·have HT:Hid (onceL (rows.take (k+1))=onceL (rows.take k)):=by
     show _=_
     rw[take_snoc_of HX.out.1,once_snoc]
     unfold onceF
     rw[if_pos hm]
    rw[decide_eq_true hm]at hC
    clear hm hW2
    go_upto_region 5 with (fail)
    simp only[HW2.out]
    go_wp2_with (go_at_call 32;refine hC.mono ?_;rintro e w5 ⟨rfl,hb5⟩;have HF:=Lib.hid (below_tr HX.out.2.2.2.2.1 hb5);clear hb5 hC)
    go_roundw
    case rel=>exact⟨k+1,by omega,by go_num,by show OnceM _ _ _ _ _;unfold OnceM;rw[HT.out];exact⟨xs,own_below HX.out.2.1 HF.out (Nat.le_refl _),HX.out.2.2.1,below_tr HX.out.2.2.2.1 HF.out⟩⟩
    case measure=>simp[intOf];omega
   ·have HT:Hid (onceL (rows.take (k+1))=onceL (rows.take k)++[x]):=by
     show _=_
     rw[take_snoc_of HX.out.1,once_snoc]
     unfold onceF
     rw[if_neg hm]
    rw[decide_eq_false hm]at hC
    clear hm hW2
    have hin:Tryz.prog.underlying 33=some (.slice 36):=Tryz.underlying33
    go_upto_region 5 with (fail)
    simp only[HW2.out]
    go_upto_region 6 with (go_at_call 32;refine hC.mono ?_;rintro e w5 ⟨rfl,hb5⟩;have f5:=cell_on f0 hb5;have HF:=Lib.hid (below_tr HX.out.2.2.2.2.1 hb5);clear hb5 hC f0)
    have hal:Below w5.heap.size w5 (w5.alloc (.cells #[.slice A0 x.length c0] 36)):=blw
    have own5:=own_below HX.out.2.1 (below_tr HF.out hal) (Nat.le_refl _)
    have hs5:w.heap.size<=w5.heap.size:=Nat.le_trans hbs HF.out.size
    go_wp2_with (at_builtin;refine wpList_appG rfl rfl hin rowInfo rfl (by omega) rfl own5 rfl (Rd.of_block (heap_alloc_new w5 _) rfl) rfl (by intro u hu;simp only[List.mem_cons,List.not_mem_nil,or_false]at hu;subst hu;rfl) (by omega) (by omega) (by simp;omega) ?_;intro v' w6 own6 hb6 hg6;have HB6:=Lib.hid ((below_tr HX.out.2.2.2.1 (below_tr HF.out hal)).trans hb6);have HO6:=Lib.hid own6;clear own6 hb6 hg6 own5 hal f5)
    go_roundw
    case rel=>exact⟨k+1,by omega,by go_num,by show OnceM _ _ _ _ _;unfold OnceM;rw[HT.out];exact⟨_,by rw[List.length_append];exact HO6.out,HX.out.2.2.1.append (All.one rfl ⟨A0,c0,rfl,HX.out.2.2.2.2.2.1,HX.out.2.2.2.2.2.2⟩),HB6.out⟩⟩
    case measure=>simp[intOf];omega
  ·obtain rfl:k=n:=by omega
   have HE:Hid (rows.take k=rows):=List.take_of_length_le (by omega)
   have HB:=HK.out.choose_spec.2.2
   rw[HE.out]at hco hro ⊢
   have HF:=Lib.hid (And.intro hco (And.intro hro (And.intro HB (λa (ha:Ao=some a)=>(HK.out.choose_spec.1.lt a.block (by rw[ha];rfl)).1))))
   clear hn hz hr hco hro HB HK
   go_wp2
   go_ret
   exact⟨_,_,rfl,HF.out.1,HF.out.2.1,HF.out.2.2.1,HF.out.2.2.2⟩
end Go.Proofs.YtoaemihcbmlkgaaGreatDoor
