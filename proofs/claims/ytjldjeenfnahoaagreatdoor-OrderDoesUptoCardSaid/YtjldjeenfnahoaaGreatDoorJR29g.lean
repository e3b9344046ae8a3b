/- The reference of package order, walked: Sort. Printed by gen -/
import Derived.Test.YtjldjeenfnahoaaGreatDoorJR29f
namespace Go.Proofs.YtjldjeenfnahoaaGreatDoor
open Go Go.RowKit Um Fm Lx Tx Om Mp
theorem sl {ks:List (Nat × Bool)} {acc pre:List (List Tm)} {row:List Tm} (hp:acc.Perm pre) (hs:acc.Pairwise λx y=>eA ks y x=false) {j:Nat} (hj:j<=acc.length) (h1:∀i y,j<=i->acc[i]?=some y->0<au ks y row) (h2:∀y,0<j->acc[j-1]?=some y->au ks y row<=0) :
  (acc.take j++row::acc.drop j).Perm (pre++[row])/\(acc.take j++row::acc.drop j).Pairwise λx y=>eA ks y x=false:=by
 refine⟨(yY acc row j).trans (hp.append_right [row]),sE (le:=λx y=>eA ks y x=false) (λx y z a b=>(qa ks).ntrans z y x b a) hs hj (λi y hi hy=>?_) (λy hj hy=>?_)⟩
 ·have:=h1 i y hi hy
  unfold eA
  rw[decide_eq_false_iff_not]
  omega
 ·exact gC.2 (h2 y hj hy)
def km (ks:List (Nat × Bool)) (rows acc:List (List Tm)) (k:Nat):Prop:=acc.Perm (rows.take k)/\acc.Pairwise λx y=>eA ks y x=false
theorem km.len {ks:List (Nat × Bool)} {rows acc:List (List Tm)} {k:Nat} (h:km ks rows acc k) (hk:k<=rows.length):acc.length=k:=by
 rw[h.1.length_eq,List.length_take];omega
theorem km.mem {ks:List (Nat × Bool)} {rows acc:List (List Tm)} {k:Nat} (h:km ks rows acc k) {r:List Tm} (hr:r∈acc):r∈rows:=List.mem_of_mem_take (h.1.mem_iff.1 hr)
theorem oF {R:List Value->List Tm->Prop}:∀{l:List (List Tm)} {xs:List Value},All 1 R xs l->∀{u:Value},u∈xs->∃r,r∈l/\R [u] r
 | [],xs,h,u,hu=>by
  have:xs=[]:=h
  subst this;cases hu
 | e::l,xs,h,u,hu=>by
  obtain⟨cs,rest,rfl,hc,hr,ht⟩:=h
  match cs,hc with
  | [x],_ =>
   rcases List.mem_cons.1 hu with rfl|hu
   ·exact⟨e,List.mem_cons_self ..,hr⟩
   ·obtain⟨r,h1,h2⟩:=oF ht hu
    exact⟨r,List.mem_cons_of_mem _ h1,h2⟩
theorem nC {wb w wq w8:World} {c0:Array Value} {b i j base N:Nat} {va v v8 x:Value} {xs news:List Value} {acc rows:List (List Tm)} {row:List Tm} {ks:List (Nat × Bool)} (HS:km ks rows acc i) (hal:acc.length=i) (hj:j<=i) (hrow:rows[i]?=some row)
  (HX:∀l y,j<=l->acc[l]?=some y->0<au ks y row) (HE:∀y,0<j->acc[j-1]?=some y->au ks y row<=0) (h00:wb.heap.size<=w.heap.size) (h0:w.heap.size+2<=b) (h2:wq.heap[w.heap.size]?=some (Obj.cells c0 39 (0,0))) (h3:wq.heap[w.heap.size+1]?=some (Obj.cells #[.slice none 0 0,.slice none 0 0] 39 (0,0))) (h4:wq.heap[b]?=some (Obj.cells #[va,v] 39 (0,0))) (h5:Below w.heap.size w wq)
  (hall:All 1 (fk wb wq) xs acc) (hx2:fk wb wq [x] row) (hB8:Below wq.heap.size wq w8) (hbase:w.heap.size<=base) (own8:w8.ownsRow base 69 1 v8 N news) (hN:N=i+1) (hnews:news=xs.take j++x::xs.drop (j*1)) :
  w8.heap[b]?=some (Obj.cells #[va,v] 39 (0,0))/\∃acc',km ks rows acc' (i+1)/\du wb w (w8.setCell ⟨b,1,none⟩ v8) c0 b va v8 acc':=by
 have hlen:(acc.take j++row::acc.drop j).length=i+1:=by
  rw[List.length_append,List.length_cons,List.length_take,List.length_drop];omega
 subst hN
 rw[hnews]at own8
 have own9:=own_lower own8 hbase
 rw[←hlen]at own9
 have h7:=hall.take j
 rw[Nat.mul_one]at h7
 obtain⟨s1,s4⟩:=du.step (more:=acc.take j++row::acc.drop j) h00 h0 h2 h3 h4 h5 hB8 (KeepT.refl _ _) (KeepT.refl _ _) (Below.refl _ _) own9 (h7.append ⟨[x],_,rfl,rfl,hx2,hall.drop j⟩)
 refine⟨s1,_,?_,s4⟩
 have:=sl HS.1 HS.2 (by omega) HX HE
 rw[←ah hrow]at this
 exact this
set_option maxHeartbeats 8000000 in
set_option maxRecDepth 100000 in
theorem tJ {vars:List ByteArray} {rows:List (List Tm)} {A B:Option Addr} {n c m d:Nat} {wb w:World} (T:dr wb w A B n c m d vars rows) (hR:aw vars rows=true) (hzr:∀r∈rows,bD r) (keys:List Ky) (Ao:Option Addr) (no co:Nat) (hno:keys.length=no) (hlo:no<=1000000) (hky:eF w Ao keys) :
  Calls Tryz.prog 18 #[.agg #[.slice A n c,.slice B m d],.slice Ao no co] w λe w'=>(dD vars keys=0->cu wb 0 vars (dR vars keys rows) w e w')/\(dD vars keys≠0->cu wb (dD vars keys) [] [] w e w'):=by
 obtain⟨W,hW⟩:∃W:World,(w.alloc (.cells #[.slice A n c,.slice B m d] 39)).alloc (.cells #[.slice none 0 0,.slice none 0 0] 39)=W:=⟨_,rfl⟩
 obtain⟨hB0,k0,k1,hz⟩:=di hW
 have hRt:=bW vars rows A B n c m d W T.hn T.hm T.hln T.hlm T.hnc (T.at_.hv.later hB0) (T.at_.hr.later hB0)
 rw[hR]at hRt
 have hln:=T.hln
 have hlm:=T.hlm
 have hsb:=T.hs
 obtain⟨ps,hps⟩:∃ps,av vars (keys.map (·.v))=ps:=⟨_,rfl⟩
 have hnp:ps.length=no:=by rw[←hps,←hno];simp[av]
 have hpi:=@gy vars (keys.map (·.v))
 rw[hps]at hpi
 have hpk:∀k (y:Ky),keys[k]?=some y->ps[k]?=some (Lib.idxOfS vars y.v):=λk y h=>by
  rw[←hps];unfold av;rw[List.map_map,List.getElem?_map,h];rfl
 have hLN:Hid ((ps.contains (-1)=true->dD vars keys=15)/\(ps.contains (-1)=false->dR vars keys rows=dS (aQ ps keys) rows/\dD vars keys=0)):=by
  unfold dR dD
  rw[hps]
  exact⟨λh=>if_pos h,λh=>⟨if_neg (by rw[h];decide),if_neg (by rw[h];decide)⟩⟩
 generalize dR vars keys rows=L at *
 generalize dD vars keys=N at *
 have H:=Lib.hid (And.intro T (And.intro hno (And.intro hlo (And.intro hky (And.intro hzr (And.intro hnp (And.intro hpi (And.intro hpk (And.intro (fo hR) hps)))))))))
 have HW:=Lib.hid (And.intro hW (And.intro hB0 (And.intro k0 (And.intro k1 hz))))
 have a0:W.cell? ⟨w.heap.size,0,none⟩=some (.slice A n c):=by rw[World.cell?,k0];rfl
 have a1:W.cell? ⟨w.heap.size,1,none⟩=some (.slice B m d):=by rw[World.cell?,k0];rfl
 clear T hR hno hky hzr hnp hpi hpk hps hB0 k0 k1 hz hW
 go_enter Tryz.func18,Tryz.ntmps18
 go_wp2_with fail
 simp only[HW.out.1]
 refine hRt.mono ?_
 rintro e wR ⟨rfl,hbR⟩
 have HBR:=Lib.hid hbR
 have c0:=ab a0 hbR
 have c1:=ab a1 hbR
 clear hRt hbR a0 a1
 go_wp2
 go_loopw [6] (λi wr=>∃k:Nat,k<=no/\i=.int .i64 k/\Hid ((ps.take k).contains (-1)=false)/\Hid (Below wR.heap.size wR wr)) (λi _=>no-(intOf i).toNat)
 case atStart=>exact⟨0,by omega,rfl,rfl,Below.refl _ _⟩
 case round =>
  obtain⟨k,hk,rfl,HN,HB⟩:=hrel
  obtain⟨T,hno,hlo,hky,hzr,hnp,hpi,hpk,hww,hps⟩:=H.out
  obtain⟨hW,hB0,k0,k1,hz⟩:=HW.out
  have hBw:=aa HBR.out HB.out
  have g1:=KeepT.below hBw _ _ _ k1
  replace c0:=ab c0 HB.out
  replace c1:=ab c1 HB.out
  by_cases hlt:k<no
  ·obtain⟨y,hy⟩:∃y,keys[k]?=some y:=⟨_,List.getElem?_eq_getElem (by rw[hno];exact hlt)⟩
   have hp1:=hpk k y hy
   have hB1:=aa hB0 hBw
   obtain⟨g3,o3,cs,rfl,_,rfl,hx⟩:=(RdL.mono hky hB1 (λ_ _ _ h=>h)).at_ (by omega) hy
   have hcv:wr.cell? ⟨g3,o3+k*2,none⟩=some (.string y.v):=hx 0 _ rfl
   have hI:∀d os,Calls Tryz.prog 44 #[.slice A n c,.string y.v] (Sort.grow (redrawn wr d) os) λe w'=>e=.returned (.int .i64 (Lib.idxOfS vars y.v))/\Sort.grow (redrawn wr d) os=w':=λd os =>
    nH vars y.v A c n (Sort.grow (redrawn wr d) os) T.hn (by omega) ((T.at_.hv.later hB1).later (below_regrown wr d os))
   have hrg:=dN vars y.v
   have e0:=λd os=>ab c0 (below_regrown wr d os)
   have ev:=λd os=>ab hcv (below_regrown wr d os)
   generalize Lib.idxOfS vars y.v=j at *
   generalize y.v=yv at *
   have HX:=Lib.hid (And.intro hp1 (And.intro hrg (And.intro hB1 g1)))
   clear hp1 hrg hB1 g1 T hno hlo hky hzr hnp hpi hpk hww hps hW hB0 k0 k1 hz hBw hx hy hcv
   by_cases hj:j<0
   ·have hd:decide (j<0)=true:=decide_eq_true hj
    have H15:Hid (N=15):=hLN.out.1 (List.contains_iff_mem.2 (by
     have:=List.mem_of_getElem? HX.out.1
     have e:j = -1:=by have:=HX.out.2.1;omega
     rwa [e]at this))
    clear hj c0 c1
    go_wp2
    refine wrq ?_;(repeat (any_goals (go_big_quiet_step ((go_at_call 44;exact Calls.quiet_tr (hI _ _))))));all_goals (refine wqn ?_;intro d9 os9)
    have kq:=below_regrown wr d9 os9
    have hg:=KeepT.below kq _ _ _ HX.out.2.2.2
    have HG:=Lib.hid hg
    have HP:=Lib.hid (setRow_heap (Sort.grow (redrawn wr d9) os9) _ _ #[.slice none 0 0,.slice none 0 0] _ (0,0) hg)
    have HF:Hid (Below w.heap.size w ((Sort.grow (redrawn wr d9) os9).setRow (w.heap.size+1) #[.slice none 0 0,.slice none 0 0])):=below_setRow (aa HX.out.2.2.1 kq) (by omega) _
    clear kq hg e0 ev hI
    generalize Sort.grow (redrawn wr d9) os9=wq at *
    go_wp2_with (refine wpList_store_row rfl 39 _ _ rfl rfl rfl az HG.out rfl rfl ?_)
    refine bodyPost_ret (ag rfl _ _ _ _ _ _ _ (.int .i64 15) rfl HP.out Tryz.underlying39 rfl az ?_) rfl ?_
    ·rfl
    ·refine⟨λh=>?_,λ_=>?_⟩
     ·rw[H15.out]at h;cases h
     ·rw[H15.out];exact cu.nothing HF.out
   ·have hd:decide (j<0)=false:=decide_eq_false hj
    have H2:Hid ((ps.take (k+1)).contains (-1)=false):=by
     show _=_
     rw[ah HX.out.1]
     have:=HN.out
     rw[←Bool.not_eq_true,List.contains_iff_mem]at this ⊢
     intro h
     rcases List.mem_append.1 h with h|h
     ·exact this h
     ·have e:(-1:Int)=j:=by simpa using h
      omega
    clear hj c0 c1
    go_wp2
    refine wrq ?_;(repeat (any_goals (go_big_quiet_step ((go_at_call 44;exact Calls.quiet_tr (hI _ _))))));all_goals (refine wqn ?_;intro d9 os9)
    have kq:=Lib.hid (aa HB.out (below_regrown wr d9 os9))
    go_wp2
    go_roundw
    case rel=>exact⟨k+1,by omega,by go_num,H2,kq⟩
    case measure=>simp[intOf];omega
  ·obtain rfl:no=k:=by omega
   have hc1:ps.contains (-1)=false:=by
    have:=HN.out
    rwa [List.take_of_length_le (by omega)]at this
   obtain⟨hL,hN0⟩:=hLN.out.2 hc1
   have hpb:=hpi hc1
   obtain⟨W2,hW2⟩:∃W2:World,(wr.alloc (.cells #[.slice none 0 0,.slice none 0 0] 39)).setRow wr.heap.size #[.slice A n c,.slice none 0 0]=W2:=⟨_,rfl⟩
   obtain⟨hRt0,hz2,hb2⟩:=oE hsb (KeepT.below hBw _ _ _ k0) g1 (aa hB0 hBw) hW2
   have HRt:=Lib.hid hRt0
   have HW2:=Lib.hid hW2
   have hzb:wr.heap.size<W2.heap.size:=by omega
   have HL:=Lib.hid (And.intro hL (And.intro hN0 hpb))
   clear hLN hc1 hL hN0 hpb hRt0 hz2 hb2 hW2 T hno hky hzr hnp hpi hpk hww hps hW hB0 k0 k1 hz hBw g1 HN HB HBR HW
   go_wp2_with (refine wpList_store_row rfl 39 _ _ rfl rfl rfl az (heap_alloc_new _ _) rfl rfl ?_;rw[HW2.out])
   clear c0 c1
   generalize wr.heap.size=bo at *
   go_loopw [8,9,10] (λi u9 u10 wv=>∃(k:Nat) (v:Value) (acc:List (List Tm)),k<=m/\i=.int .i64 k/\Hid (km (aQ ps keys) rows acc k)/\Hid (du wb w wv #[.slice A n c,.slice B m d] bo (.slice A n c) v acc)) (λi _ _ _=>m-(intOf i).toNat)
   case atStart=>exact⟨0,_,[],by omega,rfl,⟨by simp,List.Pairwise.nil⟩,HRt⟩
   case round =>
    clear HRt HW2
    obtain⟨i,v,acc,hi,rfl,HS,HK⟩:=hrel
    obtain⟨h00,h0,h2,h3,h4,h5,xs,own,hall⟩:=HK.out
    obtain⟨T,hno,hlo,hky,hzr,hnp,hpi,hpk,hww,hps⟩:=H.out
    have hal:acc.length=i:=HS.out.len (by rw[T.hm];exact hi)
    obtain⟨Ar,cr,rfl,hcr,hrv⟩:=own_slice own
    have d0:wr.cell? ⟨w.heap.size,0,none⟩=some (.slice A n c):=by rw[World.cell?,h2];rfl
    have d1:wr.cell? ⟨w.heap.size,1,none⟩=some (.slice B m d):=by rw[World.cell?,h2];rfl
    have d3:wr.cell? ⟨bo,1,none⟩=some (.slice Ar acc.length cr):=by rw[World.cell?,h4];rfl
    rw[hal]at d3
    by_cases hlt2:i<m
    ·obtain⟨row,hrow⟩:∃row,rows[i]?=some row:=⟨_,List.getElem?_eq_getElem (by rw[T.hm];exact hlt2)⟩
     have HD:=Lib.hid (And.intro d0 (And.intro d1 (And.intro d3 (And.intro hrow (And.intro h5 (And.intro hal (And.intro hrv hall)))))))
     clear h00 h0 h2 h3 h4 h5 own hall T hno hky hzr hnp hpi hpk hww hps hal hcr hrv hrow
     go_wp2
     clear d0 d1 d3
     go_loopw [9] (λu wv=>∃j:Nat,j<=i/\u=.int .i64 j/\Hid (∀l y,j<=l->acc[l]?=some y->0<au (aQ ps keys) y row)/\Hid (Below wr.heap.size wr wv)) (λu _=>(intOf u).toNat)
     case atStart=>exact⟨i,Nat.le_refl _,rfl,(λl y hl hy=>by
      have:=(List.getElem?_eq_some_iff.1 hy).1
      have:=HD.out.2.2.2.2.2.1
      omega),Below.refl _ _⟩
     case round =>
      rename_i wr0
      obtain⟨j,hj,rfl,HJ,HB⟩:=hrel
      obtain⟨d0,d1,d3,hrow,h5,hal,hrv,hall⟩:=HD.out
      obtain⟨T,hno,hlo,hky,hzr,hnp,hpi,hpk,hww,hps⟩:=H.out
      replace d0:=ab d0 HB.out
      replace d1:=ab d1 HB.out
      replace d3:=ab d3 HB.out
      have h5b:=aa h5 HB.out
      obtain⟨g,o,A',c',rfl,hcell,hx2,hrd,hle⟩:=(T.later h5b).row hrow
      have HYS:=Lib.hid (Nat.le_trans T.hs h5b.size)
      have HY:=Lib.hid (And.intro hcell (And.intro hx2 (And.intro hal hrow)))
      by_cases hj0:0<j
      ·obtain⟨a,ha⟩:∃a,acc[j-1]?=some a:=⟨_,List.getElem?_eq_getElem (by omega)⟩
       have hrs:RdL 1 (fk wb _) wr Ar acc:=⟨_,hrv.later HB.out,hall⟩
       obtain⟨g4,o4,cs,rfl,_,hrow4,hx4⟩:=hrs.at_ (by omega) ha
       obtain⟨A4,c4,rfl,hle4,hrd4⟩:=(hrow4.on (StE.below (Nat.le_trans T.hs h5.size) HB.out)).rd
       have hc4:wr.cell? ⟨g4,o4+(j-1),none⟩=some (.slice A4 a.length c4):=by
        have:=hx4 0 _ rfl
        rwa [Nat.mul_one,Nat.add_zero]at this
       have ham:=HS.out.mem (List.mem_of_getElem? ha)
       have hrm:=List.mem_of_getElem? hrow
       have hla:a.length=n:=by rw[hww a ham,T.hn]
       have hlr:row.length=n:=by rw[hww row hrm,T.hn]
       have hpb:=HL.out.2.2
       rw[T.hn]at hpb
       have hC:=λq os=>sg a row vars keys n c4 n c c' no co A4 A' A (some ⟨g,o,none⟩) Ao m d (Sort.grow (redrawn wr q) os) T.hn hla hlr hno hlo T.hln (by rw[hps];exact hpb) (hrd4.later (below_regrown wr q os)) (hrd.later (below_regrown wr q os)) (hzr a ham) (hzr row hrm) ((T.at_.hv.later h5b).later (below_regrown wr q os)) (RdL.mono (RdL.mono hky h5b (λ_ _ _ h=>h)) (below_regrown wr q os) (λ_ _ _ h=>h))
       rw[hps]at hC
       rw[hla]at hc4
       rw[hlr]at hcell
       have HX:Hid (∀l y,j<=l->acc[l]?=some y->0<au (aQ ps keys) y row):=HJ.out
       have HA:=Lib.hid ha
       obtain⟨z,hzd⟩:∃z,au (aQ ps keys) a row=z:=⟨_,rfl⟩
       rw[hzd]at hC
       have HZ:=Lib.hid hzd
       have e0:=λd os=>ab d0 (below_regrown wr d os)
       have e1:=λd os=>ab d1 (below_regrown wr d os)
       have e3:=λd os=>ab d3 (below_regrown wr d os)
       have ex:=λd os=>ab hcell (below_regrown wr d os)
       have ey:=λd os=>ab hc4 (below_regrown wr d os)
       have hj1:((j:Int)-1)=((j-1:Nat):Int):=by omega
       clear h5 h5b hrow hal hrv hall T hno hky hzr hnp hpi hpk hww hps hla hlr ha ham hrm hpb hrs hx4 hle4 hrd4 hc4 hcell hx2 hrd hle d0 d1 d3 hzd HJ
       by_cases hzp:0<z
       ·have hd:decide (0<z)=true:=decide_eq_true hzp
        go_wp2
        refine wrq ?_;(repeat (any_goals (go_big_quiet_step ((go_at_call 49;exact Calls.regrown_of (hC _ _))))));all_goals (refine wqn ?_;intro d9 os9)
        have kq:=Lib.hid (aa HB.out (below_regrown wr d9 os9))
        have HJ2:Hid (∀l y,j-1<=l->acc[l]?=some y->0<au (aQ ps keys) y row):=by
         intro l y hl hy
         by_cases he:l=j-1
         ·subst he
          rw[HA.out]at hy
          injection hy with hy
          subst hy
          rw[HZ.out];exact hzp
         ·exact HX.out l y (by omega) hy
        go_wp2
        go_roundw
        case rel=>exact⟨j-1,by omega,by go_num,HJ2,kq⟩
        case measure=>simp[intOf];omega
       ·have hd:decide (0<z)=false:=decide_eq_false hzp
        have HE:Hid (∀y,0<j->acc[j-1]?=some y->au (aQ ps keys) y row<=0):=by
         intro y _ hy
         rw[HA.out]at hy
         injection hy with hy
         subst hy
         rw[HZ.out];omega
        clear HA HZ
        go_wp2
        refine wrq ?_;(repeat (any_goals (go_big_quiet_step ((go_at_call 49;exact Calls.regrown_of (hC _ _))))));all_goals (refine wqn ?_;intro d9 os9)
        have kq:=below_regrown wr d9 os9
        clear hC e0 e1 e3 ex ey hzp
        have hkw:=HK.out.on (aa HB.out kq)
        obtain⟨h00,h0,h2,h3,h4,h5,xs',own,hall⟩:=hkw
        obtain⟨hcell,hx2,hal,hrow⟩:=HY.out
        replace hcell:=ab hcell kq
        replace hx2:=hx2.on (StE.below HYS.out kq)
        generalize Sort.grow (redrawn wr d9) os9=wq at *
        clear kq
        have d1:wq.cell? ⟨w.heap.size,1,none⟩=some (.slice (some ⟨g,o,none⟩) m d):=by rw[World.cell?,h2];rfl
        have d3:wq.cell? ⟨bo,1,none⟩=some (.slice (some ⟨g4,o4,none⟩) acc.length cr):=by rw[World.cell?,h4];rfl
        rw[hal]at d3 own
        have hrd9:Rd wq (some ⟨g4,o4,none⟩) xs'/\i<=cr:=by
         obtain⟨A9,c9,e9,h9,h10⟩:=own_slice own
         injection e9 with e9 _ e10
         rw[e9,e10]
         exact⟨h10,h9⟩
        obtain⟨hrd9,hcr9⟩:=hrd9
        have hxl:xs'.length=i*1:=own.1
        have hbo:=ae d3
        have hpart:=hrd9.fromG (sz:=1) (n:=i) (c:=cr) (q:=j) hxl hcr9 hj
        have hto:=hrd9.take j
        have hrun1:=gx (P:=Tryz.prog) Tryz.underlying23 Tryz.sizeOf69 (some ⟨g4,o4,none⟩) cr j i hj
        have hrun2:=ky (P:=Tryz.prog) Tryz.underlying23 Tryz.sizeOf69 (some ⟨g4,o4,none⟩) cr j i (by omega)
        have hin:Tryz.prog.underlying 23=some (.slice 69):=Tryz.underlying23
        have hxd:(xs'.drop (j*1)).length=(i-j)*1:=by rw[List.length_drop,hxl];omega
        have hxt:(xs'.take j).length=j*1:=by rw[List.length_take,hxl];omega
        have hone:∀u∈xs',u.oneCell'=true:=by
         intro u hu
         obtain⟨r,_,hr5⟩:=oF hall hu
         obtain⟨A5,c5,hc5,_⟩:=hr5.rd
         injection hc5 with hc5
         subst hc5;rfl
        have HQ:=Lib.hid (And.intro h00 (And.intro h0 (And.intro h2 (And.intro h3 (And.intro h4 (And.intro h5 (And.intro hall (And.intro hx2 (And.intro hrow (And.intro hal (And.intro hone (And.intro hpart (And.intro hto (And.intro hxd hxt))))))))))))))
        have hjl:(j:Int)<=(i:Int):=by omega
        have hj4:(j:Int)<=(cr:Int):=by omega
        have hbw:w.heap.size<=wq.heap.size:=h5.size
        clear h00 h0 h2 h3 h4 h5 hall hx2 hrow hal own hrd9 hpart hto hxd hxt hone
        go_wp2
        refine Rf.p0 wq.heap.size _ (.quiet [0,1,2,3,4,6,7,8,9] (.one 5 (.one 10 (.quiet [11] (.done))))) ?_ (λa w h=>h)
        intro wd hbd hwz
        have x1:=cellL d1 hbd
        have x3:=cellL d3 hbd
        have xc:=cellL hcell hbd
        have HWZ:=Lib.hid (And.intro hwz hbd)
        clear hwz
        refine Rf.pl_quiet ?_
        iterate 9 go_big_quiet_step (fail)
        refine wpQuiet_nil (Rf.pl_one ?_)
        clear x1 x3 xc d1 hcell hrun1
        go_wp2
        refine⟨(Below.refl _ _).alloc hbd.size _,Rf.pl_one ?_⟩
        have hal2:Below wd.heap.size wd (wd.alloc (.cells #[.slice A' row.length c'] 69)):=blw
        have ownL:=gz (w:=wd) (base:=wd.heap.size) (e:=69) (size:=1) (n:=1) (cs:=#[.slice A' row.length c']) (Nat.le_refl _) rfl rfl (by decide)
        have hrP:=(HQ.out.2.2.2.2.2.2.2.2.2.2.2.1.later hbd).later hal2
        have HBD:=Lib.hid (aa hbd hal2)
        have hs3:=hbd.size
        clear hbd hal2
        go_wp2_with (at_builtin;refine ar rfl rfl hin cw rfl (by omega) rfl ownL rfl hrP HQ.out.2.2.2.2.2.2.2.2.2.2.2.2.2.1 (λu hu=>HQ.out.2.2.2.2.2.2.2.2.2.2.1 u (List.mem_of_mem_drop hu)) (by omega) (by omega) (by simp) ?_;intro v15 w15 own15 hb15 hg15)
        refine⟨hb15.mono hs3,Rf.pl_quiet ?_⟩
        obtain⟨A15,c15,rfl,_,hr15⟩:=own_slice own15
        replace hr15:Rd w15 A15 (.slice A' row.length c'::xs'.drop (j*1)):=by simpa using hr15
        have hB15:Below wq.heap.size wq w15:=HBD.out.trans (hb15.mono hs3)
        have HB15:=Lib.hid hB15
        clear own15 hb15 hg15 ownL hrP
        iterate 1 go_big_quiet_step (fail)
        refine wpQuiet_nil (Rf.pl_done ?_)
        have y3:=ab d3 hB15
        clear d3 hB15
        have halE:Below w15.heap.size w15 (w15.alloc (.cells #[] 69)):=blw
        have ownE:=gz (w:=w15) (base:=w15.heap.size) (e:=69) (size:=1) (n:=0) (cs:=#[]) (Nat.le_refl _) rfl rfl (by decide)
        have hrT:=(HQ.out.2.2.2.2.2.2.2.2.2.2.2.2.1.later HB15.out).later halE
        have hrR:=Lib.hid hr15
        have HAE:=Lib.hid halE
        have hbo15:=ae y3
        clear hr15 halE
        go_wp2_with (first
         | (at_builtin;with_reducible refine ar rfl rfl hin cw rfl (by omega) rfl ownE rfl hrT HQ.out.2.2.2.2.2.2.2.2.2.2.2.2.2.2 (λu hu=>HQ.out.2.2.2.2.2.2.2.2.2.2.1 u (List.mem_of_mem_take hu)) (by omega) (by omega) (by simp) ?_;intro v7 w7 own7 hb7 hg7;have hB7:=HAE.out.trans hb7;have y7:=ab y3 hB7;have hrR7:=hrR.out.later hB7;clear ownE hrT hg7)
         | (at_builtin;refine ar rfl rfl hin cw rfl (by omega) rfl own7 rfl hrR7 (by rw[List.length_cons,HQ.out.2.2.2.2.2.2.2.2.2.2.2.2.2.1];omega) (λu hu=>(List.mem_cons.1 hu).elim (λh=>by rw[h];rfl) (λh=>HQ.out.2.2.2.2.2.2.2.2.2.2.1 u (List.mem_of_mem_drop h))) (by omega) (by omega) hB7.size ?_;intro v8 w8 own8 hb8 hg8;obtain⟨s1,acc',s2,s3⟩:=nC HS.out HQ.out.2.2.2.2.2.2.2.2.2.1 hj HQ.out.2.2.2.2.2.2.2.2.1 HX.out HE.out HQ.out.1 HQ.out.2.1 HQ.out.2.2.1 HQ.out.2.2.2.1 HQ.out.2.2.2.2.1 HQ.out.2.2.2.2.2.1 HQ.out.2.2.2.2.2.2.1 HQ.out.2.2.2.2.2.2.2.1 (HB15.out.trans ((hB7.trans hb8).mono HB15.out.size)) (Nat.le_trans hbw HB15.out.size) own8 (by omega) rfl;obtain⟨A8,c8,rfl,_,_⟩:=own_slice own8;have f8:w8.frozen? ⟨bo,1,none⟩=false:=Lib.frozen_of_heap s1 1;have y8:w8.cell? ⟨bo,1,none⟩=some (.slice (some ⟨g4,o4,none⟩) i cr):=(by rw[World.cell?,s1,HQ.out.2.2.2.2.2.2.2.2.2.1];rfl);have HF8:=Lib.hid (And.intro s2 s3);clear s1 s2 s3 own8 hb8 hg8 hB7 y7 hb7))
        go_roundw
        case rel=>exact⟨i+1,_,acc',by omega,by go_num,HF8.out.1,by have h:=HF8.out.2;rw[Nat.zero_add]at h;exact h⟩
        case measure=>simp[intOf];omega
      ·have HX:Hid (∀l y,j<=l->acc[l]?=some y->0<au (aQ ps keys) y row):=HJ.out
       have HE:Hid (∀y,0<j->acc[j-1]?=some y->au (aQ ps keys) y row<=0):=λy h=>absurd h hj0
       clear h5 h5b hrow hal hrv hall T hno hky hzr hnp hpi hpk hww hps hcell hx2 hrd hle d0 d1 d3 HJ
       have hd:decide (0<j)=false:=decide_eq_false hj0
       go_wp2
       refine wrq ?_;(repeat (any_goals (go_big_quiet_step ((fail)))));all_goals (refine wqn ?_;intro d9 os9)
       have kq:=below_regrown wr d9 os9
       have hkw:=HK.out.on (aa HB.out kq)
       obtain⟨h00,h0,h2,h3,h4,h5,xs',own,hall⟩:=hkw
       obtain⟨hcell,hx2,hal,hrow⟩:=HY.out
       replace hcell:=ab hcell kq
       replace hx2:=hx2.on (StE.below HYS.out kq)
       generalize Sort.grow (redrawn wr d9) os9=wq at *
       clear kq
       have d1:wq.cell? ⟨w.heap.size,1,none⟩=some (.slice (some ⟨g,o,none⟩) m d):=by rw[World.cell?,h2];rfl
       have d3:wq.cell? ⟨bo,1,none⟩=some (.slice Ar acc.length cr):=by rw[World.cell?,h4];rfl
       rw[hal]at d3 own
       have hrd9:Rd wq Ar xs'/\i<=cr:=by
        obtain⟨A9,c9,e9,h9,h10⟩:=own_slice own
        injection e9 with e9 _ e10
        rw[e9,e10]
        exact⟨h10,h9⟩
       obtain⟨hrd9,hcr9⟩:=hrd9
       have hxl:xs'.length=i*1:=own.1
       have hbo:=ae d3
       have hpart:=hrd9.fromG (sz:=1) (n:=i) (c:=cr) (q:=j) hxl hcr9 hj
       have hto:=hrd9.take j
       have hrun1:=gx (P:=Tryz.prog) Tryz.underlying23 Tryz.sizeOf69 Ar cr j i hj
       have hrun2:=ky (P:=Tryz.prog) Tryz.underlying23 Tryz.sizeOf69 Ar cr j i (by omega)
       have hin:Tryz.prog.underlying 23=some (.slice 69):=Tryz.underlying23
       have hxd:(xs'.drop (j*1)).length=(i-j)*1:=by rw[List.length_drop,hxl];omega
       have hxt:(xs'.take j).length=j*1:=by rw[List.length_take,hxl];omega
       have hone:∀u∈xs',u.oneCell'=true:=by
        intro u hu
        obtain⟨r,_,hr5⟩:=oF hall hu
        obtain⟨A5,c5,hc5,_⟩:=hr5.rd
        injection hc5 with hc5
        subst hc5;rfl
       have HQ:=Lib.hid (And.intro h00 (And.intro h0 (And.intro h2 (And.intro h3 (And.intro h4 (And.intro h5 (And.intro hall (And.intro hx2 (And.intro hrow (And.intro hal (And.intro hone (And.intro hpart (And.intro hto (And.intro hxd hxt))))))))))))))
       have hjl:(j:Int)<=(i:Int):=by omega
       have hj4:(j:Int)<=(cr:Int):=by omega
       have hbw:w.heap.size<=wq.heap.size:=h5.size
       clear h00 h0 h2 h3 h4 h5 hall hx2 hrow hal own hrd9 hpart hto hxd hxt hone
       go_wp2
       refine Rf.p0 wq.heap.size _ (.quiet [0,1,2,3,4,6,7,8,9] (.one 5 (.one 10 (.quiet [11] (.done))))) ?_ (λa w h=>h)
       intro wd hbd hwz
       have x1:=cellL d1 hbd
       have x3:=cellL d3 hbd
       have xc:=cellL hcell hbd
       have HWZ:=Lib.hid (And.intro hwz hbd)
       clear hwz
       refine Rf.pl_quiet ?_
       iterate 9 go_big_quiet_step (fail)
       refine wpQuiet_nil (Rf.pl_one ?_)
       clear x1 x3 xc d1 hcell hrun1
       go_wp2
       refine⟨(Below.refl _ _).alloc hbd.size _,Rf.pl_one ?_⟩
       have hal2:Below wd.heap.size wd (wd.alloc (.cells #[.slice A' row.length c'] 69)):=blw
       have ownL:=gz (w:=wd) (base:=wd.heap.size) (e:=69) (size:=1) (n:=1) (cs:=#[.slice A' row.length c']) (Nat.le_refl _) rfl rfl (by decide)
       have hrP:=(HQ.out.2.2.2.2.2.2.2.2.2.2.2.1.later hbd).later hal2
       have HBD:=Lib.hid (aa hbd hal2)
       have hs3:=hbd.size
       clear hbd hal2
       go_wp2_with (at_builtin;refine ar rfl rfl hin cw rfl (by omega) rfl ownL rfl hrP HQ.out.2.2.2.2.2.2.2.2.2.2.2.2.2.1 (λu hu=>HQ.out.2.2.2.2.2.2.2.2.2.2.1 u (List.mem_of_mem_drop hu)) (by omega) (by omega) (by simp) ?_;intro v15 w15 own15 hb15 hg15)
       refine⟨hb15.mono hs3,Rf.pl_quiet ?_⟩
       obtain⟨A15,c15,rfl,_,hr15⟩:=own_slice own15
       replace hr15:Rd w15 A15 (.slice A' row.length c'::xs'.drop (j*1)):=by simpa using hr15
       have hB15:Below wq.heap.size wq w15:=HBD.out.trans (hb15.mono hs3)
       have HB15:=Lib.hid hB15
       clear own15 hb15 hg15 ownL hrP
       iterate 1 go_big_quiet_step (fail)
       refine wpQuiet_nil (Rf.pl_done ?_)
       have y3:=ab d3 hB15
       clear d3 hB15
       have halE:Below w15.heap.size w15 (w15.alloc (.cells #[] 69)):=blw
       have ownE:=gz (w:=w15) (base:=w15.heap.size) (e:=69) (size:=1) (n:=0) (cs:=#[]) (Nat.le_refl _) rfl rfl (by decide)
       have hrT:=(HQ.out.2.2.2.2.2.2.2.2.2.2.2.2.1.later HB15.out).later halE
       have hrR:=Lib.hid hr15
       have HAE:=Lib.hid halE
       have hbo15:=ae y3
       clear hr15 halE
       go_wp2_with (first
        | (at_builtin;with_reducible refine ar rfl rfl hin cw rfl (by omega) rfl ownE rfl hrT HQ.out.2.2.2.2.2.2.2.2.2.2.2.2.2.2 (λu hu=>HQ.out.2.2.2.2.2.2.2.2.2.2.1 u (List.mem_of_mem_take hu)) (by omega) (by omega) (by simp) ?_;intro v7 w7 own7 hb7 hg7;have hB7:=HAE.out.trans hb7;have y7:=ab y3 hB7;have hrR7:=hrR.out.later hB7;clear ownE hrT hg7)
        | (at_builtin;refine ar rfl rfl hin cw rfl (by omega) rfl own7 rfl hrR7 (by rw[List.length_cons,HQ.out.2.2.2.2.2.2.2.2.2.2.2.2.2.1];omega) (λu hu=>(List.mem_cons.1 hu).elim (λh=>by rw[h];rfl) (λh=>HQ.out.2.2.2.2.2.2.2.2.2.2.1 u (List.mem_of_mem_drop h))) (by omega) (by omega) hB7.size ?_;intro v8 w8 own8 hb8 hg8;obtain⟨s1,acc',s2,s3⟩:=nC HS.out HQ.out.2.2.2.2.2.2.2.2.2.1 hj HQ.out.2.2.2.2.2.2.2.2.1 HX.out HE.out HQ.out.1 HQ.out.2.1 HQ.out.2.2.1 HQ.out.2.2.2.1 HQ.out.2.2.2.2.1 HQ.out.2.2.2.2.2.1 HQ.out.2.2.2.2.2.2.1 HQ.out.2.2.2.2.2.2.2.1 (HB15.out.trans ((hB7.trans hb8).mono HB15.out.size)) (Nat.le_trans hbw HB15.out.size) own8 (by omega) rfl;obtain⟨A8,c8,rfl,_,_⟩:=own_slice own8;have f8:w8.frozen? ⟨bo,1,none⟩=false:=Lib.frozen_of_heap s1 1;have y8:w8.cell? ⟨bo,1,none⟩=some (.slice Ar i cr):=(by rw[World.cell?,s1,HQ.out.2.2.2.2.2.2.2.2.2.1];rfl);have HF8:=Lib.hid (And.intro s2 s3);clear s1 s2 s3 own8 hb8 hg8 hB7 y7 hb7))
       go_roundw
       case rel=>exact⟨i+1,_,acc',by omega,by go_num,HF8.out.1,by have h:=HF8.out.2;rw[Nat.zero_add]at h;exact h⟩
       case measure=>simp[intOf];omega
    ·obtain rfl:m=i:=by omega
     have hperm:km (aQ ps keys) rows acc m:=HS.out
     have hsl:acc=L:=by
      rw[HL.out.1]
      refine fP ?_ hperm.2
      have:=hperm.1
      rwa [List.take_of_length_le (by rw[T.hm];exact Nat.le_refl _)]at this
     have hf2:=HK.out.fin T.hn rfl T.hnc T.hv
     rw[hal,hsl]at hf2
     have d2:wr.cell? ⟨bo,0,none⟩=some (.slice A n c):=by rw[World.cell?,h4];rfl
     have H3:=Lib.hid h3
     have HF:=Lib.hid hf2
     have HP:=Lib.hid (setRow_heap wr _ _ #[.slice A n c,.slice Ar m cr] _ (0,0) h3)
     clear h00 h0 h2 h3 h4 h5 own hall T hno hky hzr hnp hpi hpk hww hps hf2 HK hcr hrv hal
     go_wp2_with (refine wpList_store_row rfl 39 _ _ rfl rfl rfl az H3.out rfl rfl ?_)
     refine bodyPost_ret (ag rfl _ _ _ _ _ _ _ (.int .i64 0) rfl HP.out Tryz.underlying39 rfl az ?_) rfl ⟨λ_=>HF.out,λh=>absurd HL.out.2.1 h⟩
     rfl
end Go.Proofs.YtjldjeenfnahoaaGreatDoor
