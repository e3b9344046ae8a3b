/- The reference of package order, walked: Keep. The reference -/
import Derived.Test.YtjldjeenfnahoaaGreatDoorJR25d
set_option maxHeartbeats 8000000
set_option maxRecDepth 100000
namespace Go.Proofs.YtjldjeenfnahoaaGreatDoor
open Go Go.RowKit Um Fm Lx Tx Om Mp
theorem vX {vars:List ByteArray} {nf:Nat} {fils:List (ExT nf)} {rows:List (List Tm)} {k:Nat} {r:List Tm} (h:rows[k]?=some r) :
  bL vars nf fils (rows.take (k+1))=if bb vars r nf fils then bL vars nf fils (rows.take k) else bL vars nf fils (rows.take k)++[r]:=by
 unfold bL
 rw[ah h,List.filter_append]
 cases hq:bb vars r nf fils<;>simp[hq]
theorem AC {vars:List ByteArray} {rows:List (List Tm)} {A B:Option Addr} {n c m d:Nat} {wb w:World} (T:dr wb w A B n c m d vars rows) (hR:aw vars rows=true) (nf:Nat) (fils:List (ExT nf)) (Af:Option Addr) (cf mf:Nat) (hmf:fils.length=mf) (hlf:mf<=1000000) (hzf:∀x∈fils,szE nf x) (hzn:∀x∈fils,szN nf x) (hf:aF nf w Af fils) (hzr:∀r∈rows,fM r) :
  Calls Tryz.prog 11 #[.agg #[.slice A n c,.slice B m d],.slice Af mf cf] w (cu wb 0 vars (bL vars nf fils rows) w):=by
 obtain⟨W,hW⟩:∃W:World,(w.alloc (.cells #[.slice A n c,.slice B m d] 39)).alloc (.cells #[.slice none 0 0,.slice none 0 0] 39)=W:=⟨_,rfl⟩
 obtain⟨hB0,k0,k1,hz⟩:=di hW
 have hRt:=bW vars rows A B n c m d W T.hn T.hm T.hln T.hlm T.hnc (T.at_.hv.later hB0) (T.at_.hr.later hB0)
 rw[hR]at hRt
 have hln:=T.hln
 have hlm:=T.hlm
 have hsb:=T.hs
 have H:=Lib.hid (And.intro T (And.intro hmf (And.intro hlf (And.intro hzf (And.intro hzn (And.intro hf hzr))))))
 have HW:=Lib.hid (And.intro hW (And.intro hB0 (And.intro k0 (And.intro k1 hz))))
 have a0:W.cell? ⟨w.heap.size,0,none⟩=some (.slice A n c):=by rw[World.cell?,k0];rfl
 have a1:W.cell? ⟨w.heap.size,1,none⟩=some (.slice B m d):=by rw[World.cell?,k0];rfl
 clear T hR hmf hlf hzf hzn hf hzr hB0 k0 k1 hz hW
 go_enter Tryz.func11,Tryz.ntmps11
 go_wp2_with fail
 simp only[HW.out.1]
 refine hRt.mono ?_
 rintro e wR ⟨rfl,hbR⟩
 obtain⟨hW,hB0,k0,k1,hz⟩:=HW.out
 have c0:=ab a0 hbR
 have c1:=ab a1 hbR
 obtain⟨W2,hW2⟩:∃W2:World,(wR.alloc (.cells #[.slice none 0 0,.slice none 0 0] 39)).setRow wR.heap.size #[.slice A n c,.slice none 0 0]=W2:=⟨_,rfl⟩
 obtain⟨hRt0,hz2,hb2⟩:=oE hsb (KeepT.below hbR _ _ _ k0) (KeepT.below hbR _ _ _ k1) (aa hB0 hbR) hW2
 have HRt:=Lib.hid hRt0
 have HW2:=Lib.hid hW2
 have hzb:wR.heap.size<W2.heap.size:=by omega
 clear hW hB0 k0 k1 hz hRt hbR hW2 a0 a1 hz2 hb2 hRt0
 go_wp2_with (refine wpList_store_row rfl 39 _ _ rfl rfl rfl az (heap_alloc_new _ _) rfl rfl ?_;rw[HW2.out])
 clear c0 c1
 go_loopw [7] (λi wr=>∃k:Nat,∃v,k<=m/\i=.int .i64 k/\Hid (du wb w wr #[.slice A n c,.slice B m d] wR.heap.size (.slice A n c) v (bL vars nf fils (rows.take k)))) (λi _=>m-(intOf i).toNat)
 case atStart=>exact⟨0,_,by omega,rfl,HRt⟩
 case round =>
  clear HRt
  obtain⟨k,v,hk,rfl,HK⟩:=hrel
  obtain⟨h00,h0,h2,h3,h4,h5,xs,own,hall⟩:=HK.out
  obtain⟨T,hmf,hlf,hzf,hzn,hf,hzr⟩:=H.out
  obtain⟨Ar,cr,rfl,hcr,_⟩:=own_slice own
  have d0:wr.cell? ⟨w.heap.size,0,none⟩=some (.slice A n c):=by rw[World.cell?,h2];rfl
  have d1:wr.cell? ⟨w.heap.size,1,none⟩=some (.slice B m d):=by rw[World.cell?,h2];rfl
  by_cases hlt:k<m
  ·obtain⟨row,hrow⟩:∃row,rows[k]?=some row:=⟨_,List.getElem?_eq_getElem (by rw[T.hm];exact hlt)⟩
   obtain⟨g,o,A',c',rfl,hcell,hx2,hrd,hle⟩:=(T.later h5).row hrow
   have hKp:=λd os=>xK vars row (by rw[T.hn];omega) (by have:=T.hz row (List.mem_of_getElem? hrow);omega) (hzr row (List.mem_of_getElem? hrow)) nf fils Af A A' cf c c' (Sort.grow (redrawn wr d) os) ((aF.later hf h5).later (below_regrown wr d os)) ((T.at_.hv.later h5).later (below_regrown wr d os)) (hrd.later (below_regrown wr d os)) (by omega) hzf hzn
   have hsn:=Lib.hid (vX (vars:=vars) (nf:=nf) (fils:=fils) hrow)
   rw[T.hn,hmf]at hKp
   generalize bb vars row nf fils=q at *
   have HX:=Lib.hid (And.intro h00 (And.intro h0 (And.intro h2 (And.intro h3 (And.intro h4 (And.intro h5 (And.intro own (And.intro hall hx2))))))))
   have e0:=λd os=>ab d0 (below_regrown wr d os)
   have e1:=λd os=>ab d1 (below_regrown wr d os)
   have ex:=λd os=>ab hcell (below_regrown wr d os)
   have hkl:(bL vars nf fils (rows.take k)).length<=1000000:=Nat.le_trans (qS _ _ _ _) (by rw[List.length_take];omega)
   have HKL:=Lib.hid hkl
   clear h00 h0 h2 h3 h4 h5 own hall hx2 T hmf hlf hzf hzn hf hzr hrow hle hrd hcr hkl
   cases q
   ·go_wp2
    refine wrq ?_;(repeat (any_goals (go_big_quiet_step ((go_at_call 40;exact Calls.regrown_of (hKp _ _))))));all_goals (refine wqn ?_;intro d9 os9)
    have kq:=below_regrown wr d9 os9
    clear e0 e1 ex hKp
    replace d0:=ab d0 kq
    replace d1:=ab d1 kq
    replace hcell:=ab hcell kq
    obtain⟨h00,h0,h2,h3,h4,h5,own,hall,hx2⟩:=HX.out
    have h4':=KeepT.below kq _ _ _ h4
    have own':=own_below own kq (Nat.le_refl _)
    have HQ:=Lib.hid kq
    generalize Sort.grow (redrawn wr d9) os9=wq at *
    have c1:wq.cell? ⟨wR.heap.size,1,none⟩=some (.slice Ar (bL vars nf fils (rows.take k)).length cr):=by rw[World.cell?,h4'];rfl
    have hbw:w.heap.size<=wq.heap.size:=(aa h5 kq).size
    have hgz:=ae hcell
    clear h00 h0 h2 h3 h4 h5 own hall hx2 h4' kq
    generalize hkl2:(bL vars nf fils (rows.take k)).length=kl at *
    have HKL2:=Lib.hid hkl2
    have hkl3:=HKL.out
    clear hkl2
    go_wp2
    refine Rs.p0 wq.heap.size [8,10] _ [(0,[0,1,2,3,4,5,6]),(1,[7]),(2,[8]),(3,[9]),(2,[10])] ?_ (λa w h=>h)
    intro wd hbd hwz
    have x1:=cellL c1 hbd
    have y1:=cellL d1 hbd
    have z1:=cellL hcell hbd
    have HWZ:=Lib.hid hwz
    clear hwz c1 d0 d1 hcell
    refine Rs.st_quiet ?_
    iterate 7 go_big_quiet_step (fail)
    refine wpQuiet_nil (Rs.st_one ?_)
    clear x1 y1 z1
    go_wp2
    refine⟨(Below.refl _ _).alloc hbd.size _,Rs.st_free ?_⟩
    have hal:Below wd.heap.size wd (wd.alloc (.cells #[.slice A' row.length c'] 69)):=blw
    have own5:=own_below own' (aa hbd hal) (Nat.le_refl _)
    have HBD:=Lib.hid (aa hbd hal)
    have hin:Tryz.prog.underlying 23=some (.slice 69):=Tryz.underlying23
    have hbw2:w.heap.size<=wd.heap.size:=Nat.le_trans hbw hbd.size
    clear own' hbd hal
    go_wp2_with (at_builtin;refine ar rfl rfl hin cw rfl (by omega) rfl own5 rfl (Rd.of_block (heap_alloc_new wd _) rfl) rfl (by intro u hu;simp only[List.mem_cons,List.not_mem_nil,or_false]at hu;subst hu;rfl) (by omega) (by omega) (by simp;omega) ?_;intro v' w6 own6 hb6 hg6)
    refine⟨hb6.mono (Nat.zero_le _),Rs.st_pure ?_⟩
    obtain⟨h00,h0,h2,h3,h4,h5,own,hall,hx2⟩:=HX.out
    have kT:=KeepT.grown (e:=39) hg6 (own_blockR own5) (by decide)
    have kR:=KeepT.grown (e:=65) hg6 (own_blockR own5) (by decide)
    have hlen:(bL vars nf fils (rows.take k)++[row]).length=kl+1:=by rw[List.length_append,HKL2.out];rfl
    obtain⟨s1,s4⟩:=du.step (more:=bL vars nf fils (rows.take k)++[row]) h00 h0 h2 h3 h4 h5 (aa HQ.out HBD.out) kT kR hb6 (by rw[hlen];exact own6) (hall.append (All.one rfl hx2))
    have HF:Hid (du wb w (w6.setCell ⟨wR.heap.size,1,none⟩ v') #[.slice A n c,.slice (some ⟨g,o,none⟩) m d] wR.heap.size (.slice A n c) v' (bL vars nf fils (rows.take (k+1)))):=by
     show du _ _ _ _ _ _ _ _
     rw[hsn.out]
     exact s4
    have f6:w6.frozen? ⟨wR.heap.size,1,none⟩=false:=by simp[World.frozen?,s1]
    have c6:w6.cell? ⟨wR.heap.size,1,none⟩=some (.slice Ar kl cr):=by rw[World.cell?,s1];rfl
    obtain⟨A9,c9,rfl,_,_⟩:=own_slice own6
    clear h00 h0 h2 h3 h4 h5 own hall hx2 kT kR hlen s1 s4 hb6 hg6 own6 own5
    iterate 1 go_big_quiet_step (fail)
    refine wpQuiet_nil (Rs.st_free ?_)
    go_wp2
    refine⟨(Below.refl 0 _).setCell (p:=⟨wR.heap.size,1,none⟩) (Nat.zero_le _) _,Rs.st_done ?_⟩
    go_wp2
    go_roundw
    case rel=>exact⟨k+1,_,by omega,by go_num,HF⟩
    case measure=>simp[intOf];omega
   ·go_wp2
    refine wrq ?_;(repeat (any_goals (go_big_quiet_step ((go_at_call 40;exact Calls.regrown_of (hKp _ _))))));all_goals (refine wqn ?_;intro d9 os9)
    have kq:=below_regrown wr d9 os9
    have HF:Hid (du wb w (Sort.grow (redrawn wr d9) os9) #[.slice A n c,.slice (some ⟨g,o,none⟩) m d] wR.heap.size (.slice A n c) (.slice Ar (bL vars nf fils (rows.take k)).length cr) (bL vars nf fils (rows.take (k+1)))):=by
     show du _ _ _ _ _ _ _ _
     rw[hsn.out]
     exact HK.out.on kq
    clear e0 e1 ex hKp d0 d1 hcell HK
    generalize Sort.grow (redrawn wr d9) os9=wq at *
    go_wp2
    go_roundw
    case rel=>exact⟨k+1,_,by omega,by go_num,HF⟩
    case measure=>simp[intOf];omega
  ·obtain rfl:k=m:=by omega
   have hfin:=HK.out
   rw[List.take_of_length_le (by rw[T.hm];exact Nat.le_refl _)]at hfin own
   have hf2:=hfin.fin T.hn rfl T.hnc T.hv
   have d2:wr.cell? ⟨wR.heap.size,0,none⟩=some (.slice A n c):=by rw[World.cell?,h4];rfl
   have d3:wr.cell? ⟨wR.heap.size,1,none⟩=some (.slice Ar (bL vars nf fils (rows.take k)).length cr):=by rw[World.cell?,h4];rfl
   rw[List.take_of_length_le (by rw[T.hm];exact Nat.le_refl _)]at d3
   have H3:=Lib.hid h3
   have HF:=Lib.hid hf2
   have HP:=Lib.hid (setRow_heap wr _ _ #[.slice A n c,.slice Ar (bL vars nf fils rows).length cr] _ (0,0) h3)
   generalize (bL vars nf fils rows).length=kl at *
   clear h00 h0 h2 h3 h4 h5 own hall T hmf hlf hzf hzn hf hzr hfin hf2 HK hcr
   go_wp2_with (refine wpList_store_row rfl 39 _ _ rfl rfl rfl az H3.out rfl rfl ?_)
   refine bodyPost_ret (ag rfl _ _ _ _ _ _ _ (.int .i64 0) rfl HP.out Tryz.underlying39 rfl az ?_) rfl HF.out
   rfl
theorem AR {rows:List (List Tm)} {k:Nat} {row:List Tm} (h:rows[k]?=some row):br (rows.take (k+1))=if row∈rows.take k then br (rows.take k) else br (rows.take k)++[row]:=by
 rw[ah h,jm]
 unfold iH
 by_cases hm:row∈rows.take k
 ·rw[if_pos hm,if_pos ((iG _ _).2 hm)]
 ·rw[if_neg hm,if_neg (λh=>hm ((iG _ _).1 h))]
theorem AB {vars:List ByteArray} {rows:List (List Tm)} {A B:Option Addr} {n c m d:Nat} {wb w:World} (T:dr wb w A B n c m d vars rows) (hR:aw vars rows=true) :
  Calls Tryz.prog 22 #[.agg #[.slice A n c,.slice B m d]] w (cu wb 0 vars (br rows) w):=by
 obtain⟨W,hW⟩:∃W:World,(w.alloc (.cells #[.slice A n c,.slice B m d] 39)).alloc (.cells #[.slice none 0 0,.slice none 0 0] 39)=W:=⟨_,rfl⟩
 obtain⟨hB0,k0,k1,hz⟩:=di hW
 have hRt:=bW vars rows A B n c m d W T.hn T.hm T.hln T.hlm T.hnc (T.at_.hv.later hB0) (T.at_.hr.later hB0)
 rw[hR]at hRt
 have hln:=T.hln
 have hlm:=T.hlm
 have hsb:=T.hs
 have H:=Lib.hid T
 have HW:=Lib.hid (And.intro hW (And.intro hB0 (And.intro k0 (And.intro k1 hz))))
 have a0:W.cell? ⟨w.heap.size,0,none⟩=some (.slice A n c):=by rw[World.cell?,k0];rfl
 have a1:W.cell? ⟨w.heap.size,1,none⟩=some (.slice B m d):=by rw[World.cell?,k0];rfl
 clear T hR hB0 k0 k1 hz hW
 go_enter Tryz.func22,Tryz.ntmps22
 go_wp2_with fail
 simp only[HW.out.1]
 refine hRt.mono ?_
 rintro e wR ⟨rfl,hbR⟩
 obtain⟨hW,hB0,k0,k1,hz⟩:=HW.out
 have c0:=ab a0 hbR
 have c1:=ab a1 hbR
 obtain⟨W2,hW2⟩:∃W2:World,(wR.alloc (.cells #[.slice none 0 0,.slice none 0 0] 39)).setRow wR.heap.size #[.slice A n c,.slice none 0 0]=W2:=⟨_,rfl⟩
 obtain⟨hRt0,hz2,hb2⟩:=oE hsb (KeepT.below hbR _ _ _ k0) (KeepT.below hbR _ _ _ k1) (aa hB0 hbR) hW2
 have HRt:=Lib.hid hRt0
 have HW2:=Lib.hid hW2
 have hzb:wR.heap.size<W2.heap.size:=by omega
 clear hW hB0 k0 k1 hz hRt hbR hW2 a0 a1 hz2 hb2 hRt0
 go_wp2_with (refine wpList_store_row rfl 39 _ _ rfl rfl rfl az (heap_alloc_new _ _) rfl rfl ?_;rw[HW2.out])
 clear c0 c1
 go_loopw [5,6,7] (λi u6 u7 wr=>∃k:Nat,∃v,k<=m/\i=.int .i64 k/\Hid (du wb w wr #[.slice A n c,.slice B m d] wR.heap.size (.slice A n c) v (br (rows.take k)))) (λi _ _ _=>m-(intOf i).toNat)
 case atStart=>exact⟨0,_,by omega,rfl,HRt⟩
 case round =>
  clear HRt
  obtain⟨k,v,hk,rfl,HK⟩:=hrel
  obtain⟨h00,h0,h2,h3,h4,h5,xs,own,hall⟩:=HK.out
  have T:=H.out
  obtain⟨Ar,cr,rfl,hcr,_⟩:=own_slice own
  have d0:wr.cell? ⟨w.heap.size,0,none⟩=some (.slice A n c):=by rw[World.cell?,h2];rfl
  have d1:wr.cell? ⟨w.heap.size,1,none⟩=some (.slice B m d):=by rw[World.cell?,h2];rfl
  by_cases hlt:k<m
  ·obtain⟨row,hrow⟩:∃row,rows[k]?=some row:=⟨_,List.getElem?_eq_getElem (by rw[T.hm];exact hlt)⟩
   have HD:=Lib.hid (And.intro d0 (And.intro d1 (And.intro hrow h5)))
   clear h00 h0 h2 h3 h4 h5 own hall T hcr
   go_wp2
   clear d0 d1
   go_loopw [6,7] (λf j wv=>∃i:Nat,i<=k/\j=.int .i64 i/\f=.bool (decide (row ∉ rows.take i))/\Hid (Below wr.heap.size wr wv)) (λ_ j _=>k-(intOf j).toNat)
   case atStart=>exact⟨0,by omega,rfl,by simp,Below.refl _ _⟩
   case round =>
    rename_i wr0
    obtain⟨i,hi,rfl,rfl,HB⟩:=hrel
    obtain⟨d0,d1,hrow,h5⟩:=HD.out
    replace d0:=ab d0 HB.out
    replace d1:=ab d1 HB.out
    have h5b:=aa h5 HB.out
    have T:=H.out
    obtain⟨g,o,A',c',rfl,hcell,hx2,hrd,hle⟩:=(T.later h5b).row hrow
    have e0:=λd os=>ab d0 (below_regrown wr d os)
    have e1:=λd os=>ab d1 (below_regrown wr d os)
    have ex:=λd os=>ab hcell (below_regrown wr d os)
    by_cases hlt2:i<k
    ·obtain⟨ri,hri⟩:∃row,rows[i]?=some row:=⟨_,List.getElem?_eq_getElem (by rw[T.hm];omega)⟩
     obtain⟨g2,o2,A2,c2,hg2,hcell2,_,hrd2,_⟩:=(T.later h5b).row hri
     injection hg2 with hg2
     injection hg2 with hg2 hg3
     subst hg2
     subst hg3
     have ey:=λd os=>ab hcell2 (below_regrown wr d os)
     have hS:=λd os=>se ri row A2 A' c2 c' ri.length row.length (Sort.grow (redrawn wr d) os) rfl rfl (T.hz ri (List.mem_of_getElem? hri)) (T.hz row (List.mem_of_getElem? hrow)) (hrd2.later (below_regrown wr d os)) (hrd.later (below_regrown wr d os))
     have hst:Hid (decide (row ∉ rows.take (i+1))=(decide (row ∉ rows.take i) && !decide (ri=row))):=by
      show _=_
      rw[ah hri,Bool.eq_iff_iff]
      simp only[decide_eq_true_iff,List.mem_append,List.mem_cons,List.not_mem_nil,or_false,Bool.and_eq_true,Bool.not_eq_true',decide_eq_false_iff_not,_root_.not_or]
      exact⟨λh=>⟨h.1,λe=>h.2 e.symm⟩,λh=>⟨h.1,λe=>h.2 e.symm⟩⟩
     generalize decide (ri=row)=q at *
     generalize decide (row ∉ rows.take i)=f at *
     generalize row.length=rl at *
     generalize ri.length=rl2 at *
     have hkm:i<m:=by omega
     clear T h5 h5b hrow hri hrd hrd2 hx2 d0 d1 hcell hcell2 hle HK
     cases f
     ·have hst2:Hid (decide (row ∉ rows.take (i+1))=false):=by show _=_;rw[hst.out];rfl
      clear hst hS
      go_wp2
      refine wrq ?_;(repeat (any_goals (go_big_quiet_step ((fail)))));all_goals (refine wqn ?_;intro d9 os9)
      have kq:=Lib.hid (aa HB.out (below_regrown wr d9 os9))
      go_wp2
      go_roundw
      case rel=>exact⟨i+1,by omega,by go_num,by rw[hst2.out],kq⟩
      case measure=>simp[intOf];omega
     ·have hst2:Hid (decide (row ∉ rows.take (i+1)) = !q):=by show _=_;rw[hst.out];rfl
      clear hst
      cases q
      ·go_wp2
       refine wrq ?_;(repeat (any_goals (go_big_quiet_step ((go_at_call 52;exact Calls.regrown_of (hS _ _))))));all_goals (refine wqn ?_;intro d9 os9)
       have kq:=Lib.hid (aa HB.out (below_regrown wr d9 os9))
       go_wp2
       go_roundw
       case rel=>exact⟨i+1,by omega,by go_num,by rw[hst2.out];rfl,kq⟩
       case measure=>simp[intOf];omega
      ·go_wp2
       refine wrq ?_;(repeat (any_goals (go_big_quiet_step ((go_at_call 52;exact Calls.regrown_of (hS _ _))))));all_goals (refine wqn ?_;intro d9 os9)
       have kq:=Lib.hid (aa HB.out (below_regrown wr d9 os9))
       go_wp2
       go_roundw
       case rel=>exact⟨i+1,by omega,by go_num,by rw[hst2.out];rfl,kq⟩
       case measure=>simp[intOf];omega
    ·obtain rfl:i=k:=by omega
     have hsn:=Lib.hid (AR hrow)
     have hfd:Hid (decide (row ∉ rows.take i)=true↔row ∉ rows.take i):=decide_eq_true_iff
     generalize decide (row ∉ rows.take i)=f at *
     have hkl:(br (rows.take i)).length<=1000000:=Nat.le_trans (qy _) (by rw[List.length_take];omega)
     have HKL:=Lib.hid hkl
     have hkw:=HK.out.on HB.out
     have HKW:=Lib.hid hkw
     obtain⟨h00,h0,h2,h3,h4,h5,xs,own,hall⟩:=hkw
     have HX:=Lib.hid (And.intro h00 (And.intro h0 (And.intro h2 (And.intro h3 (And.intro h4 (And.intro h5 (And.intro own (And.intro hall hx2))))))))
     have c1:wr.cell? ⟨wR.heap.size,1,none⟩=some (.slice Ar (br (rows.take i)).length cr):=by rw[World.cell?,h4];rfl
     have hbw:w.heap.size<=wr.heap.size:=h5.size
     have hgz:=ae hcell
     have own':=own
     clear h00 h0 h2 h3 h4 h5 own hall hx2 T h5b hrow hrd hle HK hkl e0 e1 ex
     generalize hkl2:(br (rows.take i)).length=kl at *
     have HKL2:=Lib.hid hkl2
     have hkl3:=HKL.out
     clear hkl2
     cases f
     ·have HF:Hid (du wb w wr #[.slice A n c,.slice (some ⟨g,o,none⟩) m d] wR.heap.size (.slice A n c) (.slice Ar kl cr) (br (rows.take (i+1)))):=by
       show du _ _ _ _ _ _ _ _
       rw[hsn.out,if_pos (Classical.byContradiction λh=>by cases hfd.out.2 h)]
       exact HKW.out
      clear d0 d1 hcell c1 own' HKW HX
      go_wp2
      go_roundw
      case rel=>exact⟨i+1,_,by omega,by go_num,HF⟩
      case measure=>simp[intOf];omega
     ·have HNI:Hid (row ∉ rows.take i):=hfd.out.1 rfl
      clear hfd
      go_wp2
      refine Rs.p0 wr.heap.size [8,10] _ [(0,[0,1,2,3,4,5,6]),(1,[7]),(2,[8]),(3,[9]),(2,[10])] ?_ (λa w h=>h)
      intro wd hbd hwz
      have x1:=cellL c1 hbd
      have y1:=cellL d1 hbd
      have z1:=cellL hcell hbd
      have HWZ:=Lib.hid hwz
      clear hwz c1 d0 d1 hcell
      refine Rs.st_quiet ?_
      iterate 7 go_big_quiet_step (fail)
      refine wpQuiet_nil (Rs.st_one ?_)
      clear x1 y1 z1
      go_wp2
      refine⟨(Below.refl _ _).alloc hbd.size _,Rs.st_free ?_⟩
      have hal:Below wd.heap.size wd (wd.alloc (.cells #[.slice A' row.length c'] 69)):=blw
      have own5:=own_below own' (aa hbd hal) (Nat.le_refl _)
      have HBD:=Lib.hid (aa hbd hal)
      have hin:Tryz.prog.underlying 23=some (.slice 69):=Tryz.underlying23
      have hbw2:w.heap.size<=wd.heap.size:=Nat.le_trans hbw hbd.size
      clear own' hbd hal
      go_wp2_with (at_builtin;refine ar rfl rfl hin cw rfl (by omega) rfl own5 rfl (Rd.of_block (heap_alloc_new wd _) rfl) rfl (by intro u hu;simp only[List.mem_cons,List.not_mem_nil,or_false]at hu;subst hu;rfl) (by omega) (by omega) (by simp;omega) ?_;intro v' w6 own6 hb6 hg6)
      refine⟨hb6.mono (Nat.zero_le _),Rs.st_pure ?_⟩
      obtain⟨h00,h0,h2,h3,h4,h5,own,hall,hx2⟩:=HX.out
      have kT:=KeepT.grown (e:=39) hg6 (own_blockR own5) (by decide)
      have kR:=KeepT.grown (e:=65) hg6 (own_blockR own5) (by decide)
      have hlen:(br (rows.take i)++[row]).length=kl+1:=by rw[List.length_append,HKL2.out];rfl
      obtain⟨s1,s4⟩:=du.step (more:=br (rows.take i)++[row]) h00 h0 h2 h3 h4 h5 HBD.out kT kR hb6 (by rw[hlen];exact own6) (hall.append (All.one rfl hx2))
      have HF:Hid (du wb w (w6.setCell ⟨wR.heap.size,1,none⟩ v') #[.slice A n c,.slice (some ⟨g,o,none⟩) m d] wR.heap.size (.slice A n c) v' (br (rows.take (i+1)))):=by
       show du _ _ _ _ _ _ _ _
       rw[hsn.out,if_neg HNI.out]
       exact s4
      have f6:w6.frozen? ⟨wR.heap.size,1,none⟩=false:=by simp[World.frozen?,s1]
      have c6:w6.cell? ⟨wR.heap.size,1,none⟩=some (.slice Ar kl cr):=by rw[World.cell?,s1];rfl
      obtain⟨A9,c9,rfl,_,_⟩:=own_slice own6
      clear h00 h0 h2 h3 h4 h5 own hall hx2 kT kR hlen s1 s4 hb6 hg6 own6 own5
      iterate 1 go_big_quiet_step (fail)
      refine wpQuiet_nil (Rs.st_free ?_)
      go_wp2
      refine⟨(Below.refl 0 _).setCell (p:=⟨wR.heap.size,1,none⟩) (Nat.zero_le _) _,Rs.st_done ?_⟩
      go_wp2
      go_roundw
      case rel=>exact⟨i+1,_,by omega,by go_num,HF⟩
      case measure=>simp[intOf];omega
  ·obtain rfl:k=m:=by omega
   have hfin:=HK.out
   rw[List.take_of_length_le (by rw[T.hm];exact Nat.le_refl _)]at hfin own
   have hf2:=hfin.fin T.hn rfl T.hnc T.hv
   have d2:wr.cell? ⟨wR.heap.size,0,none⟩=some (.slice A n c):=by rw[World.cell?,h4];rfl
   have d3:wr.cell? ⟨wR.heap.size,1,none⟩=some (.slice Ar (br (rows.take k)).length cr):=by rw[World.cell?,h4];rfl
   rw[List.take_of_length_le (by rw[T.hm];exact Nat.le_refl _)]at d3
   have H3:=Lib.hid h3
   have HF:=Lib.hid hf2
   have HP:=Lib.hid (setRow_heap wr _ _ #[.slice A n c,.slice Ar (br rows).length cr] _ (0,0) h3)
   generalize (br rows).length=kl at *
   clear h00 h0 h2 h3 h4 h5 own hall T hfin hf2 HK hcr
   go_wp2_with (refine wpList_store_row rfl 39 _ _ rfl rfl rfl az H3.out rfl rfl ?_)
   refine bodyPost_ret (ag rfl _ _ _ _ _ _ _ (.int .i64 0) rfl HP.out Tryz.underlying39 rfl az ?_) rfl HF.out
   rfl
end Go.Proofs.YtjldjeenfnahoaaGreatDoor
