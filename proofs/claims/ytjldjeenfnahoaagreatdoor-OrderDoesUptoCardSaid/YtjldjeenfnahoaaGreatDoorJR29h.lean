/- The reference of package order, walked: Project. Printed by -/
import Derived.Test.YtjldjeenfnahoaaGreatDoorJR29g
namespace Go.Proofs.YtjldjeenfnahoaaGreatDoor
open Go Go.RowKit Um Fm Lx Tx Om Mp
theorem vl {wb w V w6:World} {c0:Array Value} {b i j c6:Nat} {A6:Option Addr} {va v v':Value} {xs:List Value} {acc:List (List Tm)} {row:List Tm} {wr:World} (h00:wb.heap.size<=w.heap.size) (h0:w.heap.size+2<=b) (h2:V.heap[w.heap.size]?=some (Obj.cells c0 39 (0,0))) (h3:V.heap[w.heap.size+1]?=some (Obj.cells #[.slice none 0 0,.slice none 0 0] 39 (0,0))) (h4:V.heap[b]?=some (Obj.cells #[va,v] 39 (0,0))) (h5:Below w.heap.size w V)
  (hall:All 1 (fk wb V) xs acc) (h1:wr.ownsRow V.heap.size 65 4 (.slice A6 j c6) j (row.flatMap tmC)) (hpl:row.length=j) (hVr:Below V.heap.size V wr) (hal:acc.length=i)
  (kT:KeepT 39 (wr.alloc (.cells #[.slice A6 j c6] 69)) w6) (kR:KeepT 65 (wr.alloc (.cells #[.slice A6 j c6] 69)) w6) (hb6:Below w.heap.size (wr.alloc (.cells #[.slice A6 j c6] 69)) w6) (own6:w6.ownsRow w.heap.size 69 1 v' (i+1) (xs++[.slice A6 j c6])) :
  w6.heap[b]?=some (Obj.cells #[va,v] 39 (0,0))/\du wb w (w6.setCell ⟨b,1,none⟩ v') c0 b va v' (acc++[row]):=by
 have hlen:(acc++[row]).length=i+1:=by rw[List.length_append,hal];rfl
 have hp:fk wb wr [.slice A6 j c6] row:=by
  subst hpl
  exact OwnRow.stays (base:=V.heap.size) ⟨_,rfl,h1⟩
 have hBw:Below V.heap.size V wr:=hVr
 have hs:=h5.size
 refine du.step (W:=wr) (more:=acc++[row]) h00 h0 (KeepT.below hBw _ _ _ h2) (KeepT.below hBw _ _ _ h3) (KeepT.below hBw _ _ _ h4) (aa h5 hBw) ((Below.refl _ _).alloc (Nat.le_refl _) _) kT kR hb6 (by rw[hlen];exact own6) ((hall.mono λ_ _ _ h=>h.on (StE.below (Nat.le_trans h00 hs) hBw)).append (All.one rfl hp))
set_option maxHeartbeats 8000000 in
set_option maxRecDepth 100000 in
theorem lm {vars names:List ByteArray} {rows:List (List Tm)} {A B:Option Addr} {n c m d:Nat} {wb w:World} (T:dr wb w A B n c m d vars rows) (hR:aw vars rows=true) (Aq:Option Addr) (nq cq:Nat) (hnq:names.length=nq) (hlq:nq<=1000000) (hcq:nq<=cq) (hrq:∀W',StS wb w W'->Rd W' Aq (names.map Value.string)) :
  Calls Tryz.prog 20 #[.agg #[.slice A n c,.slice B m d],.slice Aq nq cq] w λe w'=>(bX vars names=0->cu wb 0 names (rows.map (be (av vars names))) w e w')/\(bX vars names≠0->cu wb (bX vars names) [] [] w e w'):=by
 obtain⟨W,hW⟩:∃W:World,(w.alloc (.cells #[.slice A n c,.slice B m d] 39)).alloc (.cells #[.slice none 0 0,.slice none 0 0] 39)=W:=⟨_,rfl⟩
 obtain⟨hB0,k0,k1,hz⟩:=di hW
 have hRt:=bW vars rows A B n c m d W T.hn T.hm T.hln T.hlm T.hnc (T.at_.hv.later hB0) (T.at_.hr.later hB0)
 rw[hR]at hRt
 have hln:=T.hln
 have hlm:=T.hlm
 have hsb:=T.hs
 obtain⟨ps,hps⟩:∃ps,av vars names=ps:=⟨_,rfl⟩
 have hnp:ps.length=nq:=by rw[←hps,←hnq];simp[av]
 have hpi:=@gy vars names
 have hpk:∀k y,names[k]?=some y->ps[k]?=some (Lib.idxOfS vars y):=λk y h=>by
  rw[←hps];unfold av;rw[List.getElem?_map,h];rfl
 have hLN:Hid ((¬ names.Nodup->bX vars names=9)/\(names.Nodup->ps.contains (-1)=true->bX vars names=15)/\(names.Nodup->ps.contains (-1)=false->bX vars names=0)):=by
  unfold bX
  rw[hps]
  refine⟨λh=>?_,λh h2=>?_,λh h2=>?_⟩
  ·rw[if_pos (by simp[h])]
  ·rw[if_neg (by simp[h]),if_pos h2]
  ·rw[if_neg (by simp[h]),if_neg (by rw[h2];decide)]
 rw[hps]at hpi ⊢
 generalize bX vars names=N at *
 have H:=Lib.hid (And.intro T (And.intro hnq (And.intro hrq (And.intro hnp (And.intro hpi (And.intro hpk (fo hR)))))))
 have HW:=Lib.hid (And.intro hW (And.intro hB0 (And.intro k0 (And.intro k1 hz))))
 have a0:W.cell? ⟨w.heap.size,0,none⟩=some (.slice A n c):=by rw[World.cell?,k0];rfl
 have a1:W.cell? ⟨w.heap.size,1,none⟩=some (.slice B m d):=by rw[World.cell?,k0];rfl
 clear T hR hnq hrq hnp hpi hpk hps hB0 k0 k1 hz hW
 go_enter Tryz.func20,Tryz.ntmps20
 go_wp2_with fail
 simp only[HW.out.1]
 refine hRt.mono ?_
 rintro e wR ⟨rfl,hbR⟩
 have HBR:=Lib.hid hbR
 have c0:=ab a0 hbR
 have c1:=ab a1 hbR
 clear hRt hbR a0 a1
 go_wp2
 go_loopw [6] (λi wr=>∃k:Nat,k<=nq/\i=.int .i64 k/\Hid (names.take k).Nodup/\Hid (Below wR.heap.size wR wr)) (λi _=>nq-(intOf i).toNat)
 case atStart=>exact⟨0,by omega,rfl,(by show List.Nodup _;simp),Below.refl _ _⟩
 case round =>
  obtain⟨k,hk,rfl,HN,HB⟩:=hrel
  obtain⟨T,hnq,hrq,hnp,hpi,hpk,hww⟩:=H.out
  obtain⟨hW,hB0,k0,k1,hz⟩:=HW.out
  have hBw:=aa HBR.out HB.out
  have hB1:=aa hB0 hBw
  have g1:=KeepT.below hBw _ _ _ k1
  have HX:=Lib.hid (And.intro hB1 g1)
  replace c0:=ab c0 HB.out
  replace c1:=ab c1 HB.out
  by_cases hlt:k<nq
  ·obtain⟨x,hx⟩:∃x,names[k]?=some x:=⟨_,List.getElem?_eq_getElem (by omega)⟩
   have hvw:=(hrq w (StS.refl _ _)).later hB1
   obtain⟨g,o,rfl,hcx⟩:=hvw.at_ (j:=k) (u:=.string x) (by rw[List.getElem?_map,hx];rfl)
   have hI:∀d os,Calls Tryz.prog 44 #[.slice (some ⟨g,o,none⟩) k cq,.string x] (Sort.grow (redrawn wr d) os) λe w'=>e=.returned (.int .i64 (Lib.idxOfS (names.take k) x))/\Sort.grow (redrawn wr d) os=w':=λd os =>
    nH (names.take k) x (some ⟨g,o,none⟩) cq k (Sort.grow (redrawn wr d) os) (by rw[List.length_take,hnq];omega) (by omega) (by rw[List.map_take];exact(hvw.later (below_regrown wr d os)).take k)
   have ex:=λd os=>ab hcx (below_regrown wr d os)
   have hkc:k<=cq:=by omega
   have hj1:=Lib.hid (Lib.idxOfS_nonneg_iff (names.take k) x)
   have hnd:=Lib.hid (ft hx)
   have hnn:=Lib.hid (λh=>jo hx h)
   generalize Lib.idxOfS (names.take k) x=j at *
   clear T hnq hrq hnp hpi hpk hww hW hB0 k0 k1 hz hBw hB1 g1 hx hvw hcx
   by_cases hj:0<=j
   ·have H15:Hid (N=9):=hLN.out.1 (hnn.out (hj1.out.1 hj))
    have hd:decide (0<=j)=true:=decide_eq_true hj
    clear hj c0 c1
    go_wp2
    refine wrq ?_;(repeat (any_goals (go_big_quiet_step ((go_at_call 44;exact Calls.quiet_tr (hI _ _))))));all_goals (refine wqn ?_;intro d9 os9)
    have kq:=below_regrown wr d9 os9
    clear ex hI
    have hg:=KeepT.below kq _ _ _ HX.out.2
    have HG:=Lib.hid hg
    have HP:=Lib.hid (setRow_heap (Sort.grow (redrawn wr d9) os9) _ _ #[.slice none 0 0,.slice none 0 0] _ (0,0) hg)
    have HF:Hid (Below w.heap.size w ((Sort.grow (redrawn wr d9) os9).setRow (w.heap.size+1) #[.slice none 0 0,.slice none 0 0])):=below_setRow (aa HX.out.1 kq) (by omega) _
    clear kq hg
    generalize Sort.grow (redrawn wr d9) os9=wq at *
    go_wp2_with (refine wpList_store_row rfl 39 _ _ rfl rfl rfl az HG.out rfl rfl ?_)
    refine bodyPost_ret (ag rfl _ _ _ _ _ _ _ (.int .i64 9) rfl HP.out Tryz.underlying39 rfl az ?_) rfl ?_
    ·rfl
    ·refine⟨λh=>?_,λ_=>?_⟩
     ·rw[H15.out]at h;cases h
     ·rw[H15.out];exact cu.nothing HF.out
   ·have H2:Hid (names.take (k+1)).Nodup:=hnd.out.2 ⟨HN.out,λh=>hj (hj1.out.2 h)⟩
    have hd:decide (0<=j)=false:=decide_eq_false hj
    clear hj
    go_wp2
    refine wrq ?_;(repeat (any_goals (go_big_quiet_step ((go_at_call 44;exact Calls.quiet_tr (hI _ _))))));all_goals (refine wqn ?_;intro d9 os9)
    have kq:=Lib.hid (aa HB.out (below_regrown wr d9 os9))
    go_wp2
    go_roundw
    case rel=>exact⟨k+1,by omega,by go_num,H2,kq⟩
    case measure=>simp[intOf];omega
  ·obtain rfl:nq=k:=by omega
   have hnd:names.Nodup:=by
    have:=HN.out
    rwa [List.take_of_length_le (by omega)]at this
   have HL2:Hid ((ps.contains (-1)=true->N=15)/\(ps.contains (-1)=false->N=0)):=⟨hLN.out.2.1 hnd,hLN.out.2.2 hnd⟩
   clear hLN hnd HN T hnq hrq hnp hpi hpk hww hW hB0 k0 k1 hz hBw hB1 g1
   go_wp2
   go_loopw [7] (λi wv=>∃k:Nat,k<=nq/\i=.int .i64 k/\Hid ((ps.take k).contains (-1)=false)/\Hid (Below wr.heap.size wr wv)) (λi _=>nq-(intOf i).toNat)
   case atStart=>exact⟨0,by omega,rfl,rfl,Below.refl _ _⟩
   case round =>
    rename_i wr0
    have HBx:=HB
    have HXx:=HX
    clear HB HX
    obtain⟨k,hk,rfl,HN,HB⟩:=hrel
    obtain⟨T,hnq,hrq,hnp,hpi,hpk,hww⟩:=H.out
    have hB1:=aa HXx.out.1 HB.out
    have g1:=KeepT.below HB.out _ _ _ HXx.out.2
    have HX:=Lib.hid (And.intro hB1 g1)
    replace c0:=ab c0 HB.out
    replace c1:=ab c1 HB.out
    by_cases hlt:k<nq
    ·obtain⟨y,hy⟩:∃y,names[k]?=some y:=⟨_,List.getElem?_eq_getElem (by omega)⟩
     have hp1:=hpk k y hy
     obtain⟨g3,o3,rfl,hcv⟩:=((hrq w (StS.refl _ _)).later hB1).at_ (j:=k) (u:=.string y) (by rw[List.getElem?_map,hy];rfl)
     have hI:∀d os,Calls Tryz.prog 44 #[.slice A n c,.string y] (Sort.grow (redrawn wr d) os) λe w'=>e=.returned (.int .i64 (Lib.idxOfS vars y))/\Sort.grow (redrawn wr d) os=w':=λd os =>
      nH vars y A c n (Sort.grow (redrawn wr d) os) T.hn (by omega) ((T.at_.hv.later hB1).later (below_regrown wr d os))
     have hrg:=dN vars y
     have e0:=λd os=>ab c0 (below_regrown wr d os)
     have ev:=λd os=>ab hcv (below_regrown wr d os)
     generalize Lib.idxOfS vars y=j at *
     have HP1:=Lib.hid (And.intro hp1 hrg)
     clear hp1 hrg hB1 g1 T hnq hrq hnp hpi hpk hww hy hcv
     by_cases hj:j<0
     ·have hd:decide (j<0)=true:=decide_eq_true hj
      have H15:Hid (N=15):=HL2.out.1 (List.contains_iff_mem.2 (by
       have:=List.mem_of_getElem? HP1.out.1
       have e:j = -1:=by have:=HP1.out.2;omega
       rwa [e]at this))
      clear hj c0 c1
      go_wp2
      refine wrq ?_;(repeat (any_goals (go_big_quiet_step ((go_at_call 44;exact Calls.quiet_tr (hI _ _))))));all_goals (refine wqn ?_;intro d9 os9)
      have kq:=below_regrown wr d9 os9
      clear e0 ev hI
      have hg:=KeepT.below kq _ _ _ HX.out.2
      have HG:=Lib.hid hg
      have HP:=Lib.hid (setRow_heap (Sort.grow (redrawn wr d9) os9) _ _ #[.slice none 0 0,.slice none 0 0] _ (0,0) hg)
      have HF:Hid (Below w.heap.size w ((Sort.grow (redrawn wr d9) os9).setRow (w.heap.size+1) #[.slice none 0 0,.slice none 0 0])):=below_setRow (aa HX.out.1 kq) (by omega) _
      clear kq hg
      generalize Sort.grow (redrawn wr d9) os9=wq at *
      go_wp2_with (refine wpList_store_row rfl 39 _ _ rfl rfl rfl az HG.out rfl rfl ?_)
      refine bodyPost_ret (ag rfl _ _ _ _ _ _ _ (.int .i64 15) rfl HP.out Tryz.underlying39 rfl az ?_) rfl ?_
      ·rfl
      ·refine⟨λh=>?_,λ_=>?_⟩
       ·rw[H15.out]at h;cases h
       ·rw[H15.out];exact cu.nothing HF.out
     ·have hd:decide (j<0)=false:=decide_eq_false hj
      have H2:Hid ((ps.take (k+1)).contains (-1)=false):=by
       show _=_
       rw[ah HP1.out.1]
       have:=HN.out
       rw[←Bool.not_eq_true,List.contains_iff_mem]at this ⊢
       intro h
       rcases List.mem_append.1 h with h|h
       ·exact this h
       ·have e:(-1:Int)=j:=by simpa using h
        omega
      clear hj c0 c1
      go_wp2
      refine wrq ?_;(repeat (any_goals (go_big_quiet_step ((go_at_call 44;exact Calls.quiet_tr (hI _ _))))));all_goals (refine wqn ?_;intro d9 os9)
      have kq:=Lib.hid (aa HB.out (below_regrown wr d9 os9))
      go_wp2
      go_roundw
      case rel=>exact⟨k+1,by omega,by go_num,H2,kq⟩
      case measure=>simp[intOf];omega
    ·obtain rfl:nq=k:=by omega
     have hc1:ps.contains (-1)=false:=by
      have:=HN.out
      rwa [List.take_of_length_le (by omega)]at this
     have hN0:=HL2.out.2 hc1
     have hpb:=hpi hc1
     obtain⟨W2,hW2⟩:∃W2:World,(wr.alloc (.cells #[.slice none 0 0,.slice none 0 0] 39)).setRow wr.heap.size #[.slice Aq nq cq,.slice none 0 0]=W2:=⟨_,rfl⟩
     obtain⟨hRt0,hz2,hb2⟩:=oE hsb (KeepT.below (aa HBR.out (aa HBx.out HB.out)) _ _ _ HW.out.2.2.1) g1 hB1 hW2
     have HRt:=Lib.hid hRt0
     have HW2:=Lib.hid hW2
     have hzb:wr.heap.size<W2.heap.size:=by omega
     have HL:=Lib.hid (And.intro hN0 hpb)
     clear HL2 hc1 hN0 hpb hRt0 hz2 hb2 hW2 T hnq hrq hnp hpi hpk hww hB1 g1 HN HB HX HXx HBx HBR HW
     go_wp2_with (refine wpList_store_row rfl 39 _ _ rfl rfl rfl az (heap_alloc_new _ _) rfl rfl ?_;rw[HW2.out])
     clear c0 c1
     generalize wr.heap.size=bo at *
     go_loopw [9,10,11] (λi u10 u11 wv=>∃(k:Nat) (v:Value),k<=m/\i=.int .i64 k/\Hid (du wb w wv #[.slice A n c,.slice B m d] bo (.slice Aq nq cq) v ((rows.take k).map (be ps)))) (λi _ _ _=>m-(intOf i).toNat)
     case atStart=>exact⟨0,_,by omega,rfl,HRt⟩
     case round =>
      clear HRt HW2
      obtain⟨i,v,hi,rfl,HK⟩:=hrel
      obtain⟨h00,h0,h2,h3,h4,h5,xs,own,hall⟩:=HK.out
      obtain⟨T,hnq,hrq,hnp,hpi,hpk,hww⟩:=H.out
      have hal:((rows.take i).map (be ps)).length=i:=by rw[List.length_map,List.length_take,T.hm];omega
      obtain⟨Ar,cr,rfl,hcr,hrv⟩:=own_slice own
      have d0:wr.cell? ⟨w.heap.size,0,none⟩=some (.slice A n c):=by rw[World.cell?,h2];rfl
      have d1:wr.cell? ⟨w.heap.size,1,none⟩=some (.slice B m d):=by rw[World.cell?,h2];rfl
      have d3:wr.cell? ⟨bo,1,none⟩=some (.slice Ar ((rows.take i).map (be ps)).length cr):=by rw[World.cell?,h4];rfl
      rw[hal]at d3 own
      by_cases hlt2:i<m
      ·obtain⟨row,hrow⟩:∃row,rows[i]?=some row:=⟨_,List.getElem?_eq_getElem (by rw[T.hm];exact hlt2)⟩
       obtain⟨g,o,A',c',rfl,hcell,hx2,hrd,hle⟩:=(T.later h5).row hrow
       have hrl:row.length=n:=by rw[hww row (List.mem_of_getElem? hrow),T.hn]
       rw[hrl]at hcell
       have hpb:=HL.out.2
       rw[T.hn]at hpb
       have HD:=Lib.hid (And.intro d0 (And.intro d1 (And.intro d3 (And.intro hcell (And.intro hrd (And.intro hrow (And.intro hrl (And.intro ((hrq w (StS.refl _ _)).later h5) (And.intro hnp (And.intro hpk (And.intro hnq (And.intro (T.at_.hv.later h5) (And.intro T.hn (And.intro hpb own))))))))))))))
       have hs0:=h5.size
       have HS0:Hid (wr.ownsRow wr.heap.size 65 4 (.slice none 0 0) 0 ((be (ps.take 0) row).flatMap tmC)/\Below wr.heap.size wr wr):=⟨World.ownsRow_nil _ _ _ _,Below.refl _ _⟩
       clear h00 h0 h2 h3 h4 h5 own hall T hnq hrq hnp hpi hpk hww hal hcr hrv hrow hcell hrd hle hx2 hrl hpb
       obtain⟨V,hVe⟩:∃V,V=wr:=⟨_,rfl⟩
       subst hVe
       go_wp2
       clear d0 d1 d3
       go_loopw [10,11] (λv u wv=>∃j:Nat,j<=nq/\u=.int .i64 j/\Hid (wv.ownsRow V.heap.size 65 4 v j ((be (ps.take j) row).flatMap tmC)/\Below V.heap.size V wv)) (λ_ u _=>nq-(intOf u).toNat)
       case atStart=>exact⟨0,by omega,rfl,HS0⟩
       case round =>
        clear HS0
        obtain⟨j,hj,rfl,HJ⟩:=hrel
        obtain⟨d0,d1,d3,hcell,hrd,hrow,hrl,hrq,hnp,hpk,hnq,hv,hn,hpb,own⟩:=HD.out
        obtain⟨A6,c6,rfl,_,_⟩:=own_slice HJ.out.1
        have hs4:=HJ.out.2.size
        by_cases hjt:j<nq
        ·obtain⟨y,hy⟩:∃y,names[j]?=some y:=⟨_,List.getElem?_eq_getElem (by omega)⟩
         have hp:=hpk j y hy
         obtain⟨q1',q2'⟩:=hpb _ (List.mem_of_getElem? hp)
         obtain⟨g3,o3,rfl,hcv⟩:=hrq.at_ (j:=j) (u:=.string y) (by rw[List.getElem?_map,hy];rfl)
         have hI:=λV2 (h:Below wr.heap.size wr V2)=>nH vars y A c n V2 hn (by omega) ((hv.later HJ.out.2).later h)
         obtain⟨q,hq⟩:∃q:Nat,Lib.idxOfS vars y=(q:Int):=⟨(Lib.idxOfS vars y).toNat,by omega⟩
         rw[hq]at hp q1' q2' hI
         obtain⟨x,hx⟩:∃x,row[q]?=some x:=⟨_,List.getElem?_eq_getElem (by omega)⟩
         obtain⟨g1,o1,rfl,b0,b1,b2,b3⟩:=hrd.at4 hx
         have hqm:(q:Int)<(n:Int):=by omega
         have hsn:Hid ((be (ps.take (j+1)) row).flatMap tmC=(be (ps.take j) row).flatMap tmC++[.int .i64 x.k,.string x.x,.string x.l,.string x.y]):=by
          show _=_
          rw[ah hp]
          unfold be
          rw[List.map_append,List.flatMap_append]
          show _++[row[(q:Int).toNat]!].flatMap tmC=_
          rw[Int.toNat_natCast,List.getElem!_of_getElem? hx]
          rfl
         clear hx hp hrd hrow hrl hrq hnp hpk hnq hv hn hpb hy hq d3 own
         go_wp2
         refine Rf.p0 V.heap.size _ (.quiet [0,1,2,3,4,5,6,7,8,9,10,11] (.one 12 (.quiet [13,14] (.one 15 (.one 16 (.quiet [17] (.done))))))) ?_ (λa w h=>h)
         intro wd hbd hwz
         have hbV:Below V.heap.size V wd:=HJ.out.2.trans (hbd.mono hs4)
         have x0:=cellL d0 hbV
         have x1:=cellL d1 hbV
         have xc:=cellL hcell hbV
         have xv:=cellL hcv hbV
         have y0:=cellL b0 hbV
         have y1:=cellL b1 hbV
         have y2:=cellL b2 hbV
         have y3:=cellL b3 hbV
         have HWZ:=Lib.hid (And.intro hwz hbd)
         have hs3:=hbd.size
         have hI2:=hI wd hbd
         have hown:=HJ.out.1
         have hB5:=aa HJ.out.2 hbd
         clear hwz hI
         refine Rf.pl_quiet ?_
         iterate 12 go_big_quiet_step (fail)
         refine wpQuiet_nil (Rf.pl_one ?_)
         go_wp2_with (go_at_call 44;refine hI2.mono ?_;rintro e wd2 ⟨rfl,rfl⟩)
         refine⟨Below.refl _ _,Rf.pl_quiet ?_⟩
         iterate 2 go_big_quiet_step (fail)
         refine wpQuiet_nil (Rf.pl_one ?_)
         clear x0 x1 xc xv y0 y1 y2 y3 d0 d1 hcell hcv b0 b1 b2 b3 hI2
         go_wp2
         refine⟨(Below.refl _ _).alloc (Nat.le_trans hs4 hs3) _,Rf.pl_one ?_⟩
         have hal2:Below wd.heap.size wd (wd.alloc (.cells #[.int .i64 x.k,.string x.x,.string x.l,.string x.y] 65)):=blw
         have hown5:=own_below hown (aa hbd hal2) (Nat.le_refl _)
         have hB6:=aa hB5 hal2
         have HB6:=Lib.hid hB6
         have hs6:=hB5.size
         clear hal2 hown hbd hB5 hB6
         go_wp2_with (at_builtin;refine ar rfl rfl Tryz.underlying69 rP rfl (by omega) rfl hown5 rfl (Rd.of_block (heap_alloc_new wd _) rfl) rfl (by intro u hu;simp only[List.mem_cons,List.not_mem_nil,or_false]at hu;rcases hu with rfl|rfl|rfl|rfl<;>rfl) (by omega) (by omega) (by simp;omega) ?_;intro v' w6 own6 hb6 hg6)
         have HF:Hid (w6.ownsRow V.heap.size 65 4 v' (j+1) ((be (ps.take (j+1)) row).flatMap tmC)/\Below V.heap.size V w6):=⟨by rw[hsn.out];exact own6,HB6.out.trans hb6⟩
         refine Rf.pl_quiet ?_
         clear own6 hb6 hg6 hown5 hs6 hs3 hbV
         iterate 1 go_big_quiet_step (fail)
         refine wpQuiet_nil (Rf.pl_done ?_)
         go_wp2
         go_roundw
         case rel=>exact⟨j+1,by omega,by go_num,HF⟩
         case measure=>simp[intOf];omega
        ·obtain rfl:j=nq:=by omega
         have hkw:=HK.out
         obtain⟨h00,h0,h2,h3,h4,h5,xs,own2,hall⟩:=hkw
         have hcn:=own2.1
         have hal:((rows.take i).map (be ps)).length=i:=by
          obtain⟨T,_⟩:=H.out
          rw[List.length_map,List.length_take,T.hm];omega
         rw[hal]at own2
         have hpr:V.heap.size<=wr.heap.size:=hs4
         have h1:=HJ.out.1
         rw[List.take_of_length_le (by omega)]at h1
         have hB:=HJ.out.2
         have d3w:=ab d3 hB
         have own4:=own_below own2 hB (Nat.le_refl _)
         have hsn:Hid ((rows.take (i+1)).map (be ps)=(rows.take i).map (be ps)++[be ps row]):=by
          show _=_
          rw[ah hrow,List.map_append];rfl
         have hpl:(be ps row).length=j:=by unfold be;rw[List.length_map,hnp]
         have halw:Below wr.heap.size wr (wr.alloc (.cells #[.slice A6 j c6] 69)):=blw
         have own5:=own_below own4 halw (Nat.le_refl _)
         have HQ:=Lib.hid (And.intro h00 (And.intro h0 (And.intro h2 (And.intro h3 (And.intro h4 (And.intro h5 (And.intro hall (And.intro h1 (And.intro hpl (And.intro hB (And.intro hal (own_blockR own5))))))))))))
         have hin:Tryz.prog.underlying 23=some (.slice 69):=Tryz.underlying23
         have hsw:w.heap.size<=wr.heap.size:=Nat.le_trans hs0 hs4
         have hbo:=ae d3w
         clear h00 h0 h2 h3 h4 h5 own2 hcn hal h1 hB own4 hpl halw hrd hrow hrl hrq hnp hpk hnq hv hn hpb d0 d1 d3 hcell own hall
         go_wp2_with (at_builtin;refine ar rfl rfl hin cw rfl (by omega) rfl own5 rfl (Rd.of_block (heap_alloc_new wr _) rfl) rfl (by intro u hu;simp only[List.mem_cons,List.not_mem_nil,or_false]at hu;subst hu;rfl) (by omega) (by omega) (by simp;omega) ?_;intro v' w6 own6 hb6 hg6;obtain⟨s1,s2⟩:=vl HQ.out.1 HQ.out.2.1 HQ.out.2.2.1 HQ.out.2.2.2.1 HQ.out.2.2.2.2.1 HQ.out.2.2.2.2.2.1 HQ.out.2.2.2.2.2.2.1 HQ.out.2.2.2.2.2.2.2.1 HQ.out.2.2.2.2.2.2.2.2.1 HQ.out.2.2.2.2.2.2.2.2.2.1 HQ.out.2.2.2.2.2.2.2.2.2.2.1 (KeepT.grown hg6 HQ.out.2.2.2.2.2.2.2.2.2.2.2 (by decide)) (KeepT.grown hg6 HQ.out.2.2.2.2.2.2.2.2.2.2.2 (by decide)) hb6 own6;obtain⟨A8,c8,rfl,_,_⟩:=own_slice own6;have f8:w6.frozen? ⟨bo,1,none⟩=false:=Lib.frozen_of_heap s1 1;have y8:w6.cell? ⟨bo,1,none⟩=some (.slice Ar i cr):=(by rw[World.cell?,s1,HQ.out.2.2.2.2.2.2.2.2.2.2.1];rfl);have HF8:=Lib.hid s2;clear s1 s2 own6 hb6 hg6 own5)
         go_roundw
         case rel=>exact⟨i+1,_,by omega,by go_num,by rw[hsn.out];exact HF8.out⟩
         case measure=>simp[intOf];omega
      ·obtain rfl:m=i:=by omega
       have hfin:=HK.out
       rw[List.take_of_length_le (by rw[T.hm];exact Nat.le_refl _)]at hfin hal
       have hf2:=hfin.fin (vars:=names) hnq rfl hcq hrq
       rw[hal]at hf2
       have d2:wr.cell? ⟨bo,0,none⟩=some (.slice Aq nq cq):=by rw[World.cell?,h4];rfl
       have H3:=Lib.hid h3
       have HF:=Lib.hid hf2
       have HP:=Lib.hid (setRow_heap wr _ _ #[.slice Aq nq cq,.slice Ar m cr] _ (0,0) h3)
       clear h00 h0 h2 h3 h4 h5 own hall T hnq hrq hnp hpi hpk hww hfin hf2 HK hcr hrv hal
       go_wp2_with (refine wpList_store_row rfl 39 _ _ rfl rfl rfl az H3.out rfl rfl ?_)
       refine bodyPost_ret (ag rfl _ _ _ _ _ _ _ (.int .i64 0) rfl HP.out Tryz.underlying39 rfl az ?_) rfl ⟨λ_=>HF.out,λh=>absurd HL.out.1 h⟩
       rfl
end Go.Proofs.YtjldjeenfnahoaaGreatDoor
