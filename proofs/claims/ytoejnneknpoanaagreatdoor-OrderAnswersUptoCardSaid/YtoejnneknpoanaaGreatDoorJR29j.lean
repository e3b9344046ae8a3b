/- The reference of package order, walked: tables that are not -/
import Derived.Test.YtoejnneknpoanaaGreatDoorJR29h
set_option maxHeartbeats 8000000
set_option maxRecDepth 100000
namespace Go.Proofs.YtoejnneknpoanaaGreatDoor
open Go Go.RowKit Um Fm Lx Tx Om Mp
theorem pj {vars:List ByteArray} {rows:List (List Tm)} {A B:Option Addr} {n c m d:Nat} {wb w:World} (T:dr wb w A B n c m d vars rows) (hR:ar vars rows=false) (Af:Option Addr) (mf cf:Nat) :
  Calls Tryz.prog 14 #[.agg #[.slice A n c,.slice B m d],.slice Af mf cf] w (cB wb 2 [] [] w):=by
 obtain⟨W,hW⟩:∃W:World,(w.alloc (.cells #[.slice A n c,.slice B m d] 39)).alloc (.cells #[.slice none 0 0,.slice none 0 0] 39)=W:=⟨_,rfl⟩
 obtain⟨hB0,k0,k1,hz⟩:=dB hW
 have hRt:=ce vars rows A B n c m d W T.hn T.hm T.hln T.hlm T.hnc (T.at_.hv.later hB0) (T.at_.hr.later hB0)
 rw[hR]at hRt
 have HW:=Lib.hid (And.intro hW (And.intro hB0 (And.intro k0 (And.intro k1 hz))))
 have a0:W.cell? ⟨w.heap.size,0,none⟩=some (.slice A n c):=by rw[World.cell?,k0];rfl
 have a1:W.cell? ⟨w.heap.size,1,none⟩=some (.slice B m d):=by rw[World.cell?,k0];rfl
 clear T hR hB0 k0 k1 hz hW
 go_enter Tryz.func14,Tryz.ntmps14
 go_wp2_with fail
 simp only[HW.out.1]
 refine hRt.mono ?_
 rintro e wR ⟨rfl,hbR⟩
 have HG:=Lib.hid (KeepT.below hbR _ _ _ HW.out.2.2.2.1)
 have HP:=Lib.hid (setRow_heap wR _ _ #[.slice none 0 0,.slice none 0 0] _ (0,0) HG.out)
 have HF:Hid (Below w.heap.size w (wR.setRow (w.heap.size+1) #[.slice none 0 0,.slice none 0 0])):=below_setRow (aa HW.out.2.1 hbR) (by omega) _
 clear hbR hRt a0 a1
 go_wp2_with (refine wpList_store_row rfl 39 _ _ rfl rfl rfl an HG.out rfl rfl ?_)
 refine bodyPost_ret (ag rfl _ _ _ _ _ _ _ (.int .i64 2) rfl HP.out Tryz.underlying39 rfl an ?_) rfl (cB.nothing HF.out)
 rfl
theorem xf {vars:List ByteArray} {rows:List (List Tm)} {A B:Option Addr} {n c m d:Nat} {wb w:World} (T:dr wb w A B n c m d vars rows) (hR:ar vars rows=false) (Af:Option Addr) (mf cf:Nat) :
  Calls Tryz.prog 21 #[.agg #[.slice A n c,.slice B m d],.slice Af mf cf] w (cB wb 2 [] [] w):=by
 obtain⟨W,hW⟩:∃W:World,(w.alloc (.cells #[.slice A n c,.slice B m d] 39)).alloc (.cells #[.slice none 0 0,.slice none 0 0] 39)=W:=⟨_,rfl⟩
 obtain⟨hB0,k0,k1,hz⟩:=dB hW
 have hRt:=ce vars rows A B n c m d W T.hn T.hm T.hln T.hlm T.hnc (T.at_.hv.later hB0) (T.at_.hr.later hB0)
 rw[hR]at hRt
 have HW:=Lib.hid (And.intro hW (And.intro hB0 (And.intro k0 (And.intro k1 hz))))
 have a0:W.cell? ⟨w.heap.size,0,none⟩=some (.slice A n c):=by rw[World.cell?,k0];rfl
 have a1:W.cell? ⟨w.heap.size,1,none⟩=some (.slice B m d):=by rw[World.cell?,k0];rfl
 clear T hR hB0 k0 k1 hz hW
 go_enter Tryz.func21,Tryz.ntmps21
 go_wp2_with fail
 simp only[HW.out.1]
 refine hRt.mono ?_
 rintro e wR ⟨rfl,hbR⟩
 have HG:=Lib.hid (KeepT.below hbR _ _ _ HW.out.2.2.2.1)
 have HP:=Lib.hid (setRow_heap wR _ _ #[.slice none 0 0,.slice none 0 0] _ (0,0) HG.out)
 have HF:Hid (Below w.heap.size w (wR.setRow (w.heap.size+1) #[.slice none 0 0,.slice none 0 0])):=below_setRow (aa HW.out.2.1 hbR) (by omega) _
 clear hbR hRt a0 a1
 go_wp2_with (refine wpList_store_row rfl 39 _ _ rfl rfl rfl an HG.out rfl rfl ?_)
 refine bodyPost_ret (ag rfl _ _ _ _ _ _ _ (.int .i64 2) rfl HP.out Tryz.underlying39 rfl an ?_) rfl (cB.nothing HF.out)
 rfl
theorem qm {vars:List ByteArray} {rows:List (List Tm)} {A B:Option Addr} {n c m d:Nat} {wb w:World} (T:dr wb w A B n c m d vars rows) (hR:ar vars rows=false) (Af:Option Addr) (mf cf:Nat) :
  Calls Tryz.prog 23 #[.agg #[.slice A n c,.slice B m d],.slice Af mf cf] w (cB wb 2 [] [] w):=by
 obtain⟨W,hW⟩:∃W:World,(w.alloc (.cells #[.slice A n c,.slice B m d] 39)).alloc (.cells #[.slice none 0 0,.slice none 0 0] 39)=W:=⟨_,rfl⟩
 obtain⟨hB0,k0,k1,hz⟩:=dB hW
 have hRt:=ce vars rows A B n c m d W T.hn T.hm T.hln T.hlm T.hnc (T.at_.hv.later hB0) (T.at_.hr.later hB0)
 rw[hR]at hRt
 have HW:=Lib.hid (And.intro hW (And.intro hB0 (And.intro k0 (And.intro k1 hz))))
 have a0:W.cell? ⟨w.heap.size,0,none⟩=some (.slice A n c):=by rw[World.cell?,k0];rfl
 have a1:W.cell? ⟨w.heap.size,1,none⟩=some (.slice B m d):=by rw[World.cell?,k0];rfl
 clear T hR hB0 k0 k1 hz hW
 go_enter Tryz.func23,Tryz.ntmps23
 go_wp2_with fail
 simp only[HW.out.1]
 refine hRt.mono ?_
 rintro e wR ⟨rfl,hbR⟩
 have HG:=Lib.hid (KeepT.below hbR _ _ _ HW.out.2.2.2.1)
 have HP:=Lib.hid (setRow_heap wR _ _ #[.slice none 0 0,.slice none 0 0] _ (0,0) HG.out)
 have HF:Hid (Below w.heap.size w (wR.setRow (w.heap.size+1) #[.slice none 0 0,.slice none 0 0])):=below_setRow (aa HW.out.2.1 hbR) (by omega) _
 clear hbR hRt a0 a1
 go_wp2_with (refine wpList_store_row rfl 39 _ _ rfl rfl rfl an HG.out rfl rfl ?_)
 refine bodyPost_ret (ag rfl _ _ _ _ _ _ _ (.int .i64 2) rfl HP.out Tryz.underlying39 rfl an ?_) rfl (cB.nothing HF.out)
 rfl
theorem xg {vars:List ByteArray} {rows:List (List Tm)} {A B:Option Addr} {n c m d:Nat} {wb w:World} (T:dr wb w A B n c m d vars rows) (hR:ar vars rows=false) :
  Calls Tryz.prog 25 #[.agg #[.slice A n c,.slice B m d]] w (cB wb 2 [] [] w):=by
 obtain⟨W,hW⟩:∃W:World,(w.alloc (.cells #[.slice A n c,.slice B m d] 39)).alloc (.cells #[.slice none 0 0,.slice none 0 0] 39)=W:=⟨_,rfl⟩
 obtain⟨hB0,k0,k1,hz⟩:=dB hW
 have hRt:=ce vars rows A B n c m d W T.hn T.hm T.hln T.hlm T.hnc (T.at_.hv.later hB0) (T.at_.hr.later hB0)
 rw[hR]at hRt
 have HW:=Lib.hid (And.intro hW (And.intro hB0 (And.intro k0 (And.intro k1 hz))))
 have a0:W.cell? ⟨w.heap.size,0,none⟩=some (.slice A n c):=by rw[World.cell?,k0];rfl
 have a1:W.cell? ⟨w.heap.size,1,none⟩=some (.slice B m d):=by rw[World.cell?,k0];rfl
 clear T hR hB0 k0 k1 hz hW
 go_enter Tryz.func25,Tryz.ntmps25
 go_wp2_with fail
 simp only[HW.out.1]
 refine hRt.mono ?_
 rintro e wR ⟨rfl,hbR⟩
 have HG:=Lib.hid (KeepT.below hbR _ _ _ HW.out.2.2.2.1)
 have HP:=Lib.hid (setRow_heap wR _ _ #[.slice none 0 0,.slice none 0 0] _ (0,0) HG.out)
 have HF:Hid (Below w.heap.size w (wR.setRow (w.heap.size+1) #[.slice none 0 0,.slice none 0 0])):=below_setRow (aa HW.out.2.1 hbR) (by omega) _
 clear hbR hRt a0 a1
 go_wp2_with (refine wpList_store_row rfl 39 _ _ rfl rfl rfl an HG.out rfl rfl ?_)
 refine bodyPost_ret (ag rfl _ _ _ _ _ _ _ (.int .i64 2) rfl HP.out Tryz.underlying39 rfl an ?_) rfl (cB.nothing HF.out)
 rfl
theorem uf {vars:List ByteArray} {rows:List (List Tm)} {A B:Option Addr} {n c m d:Nat} {wb w:World} (T:dr wb w A B n c m d vars rows) (hR:ar vars rows=false) (off lim:Int) :
  Calls Tryz.prog 27 #[.agg #[.slice A n c,.slice B m d],.int .i64 off,.int .i64 lim] w (cB wb 2 [] [] w):=by
 obtain⟨W,hW⟩:∃W:World,(w.alloc (.cells #[.slice A n c,.slice B m d] 39)).alloc (.cells #[.slice none 0 0,.slice none 0 0] 39)=W:=⟨_,rfl⟩
 obtain⟨hB0,k0,k1,hz⟩:=dB hW
 have hRt:=ce vars rows A B n c m d W T.hn T.hm T.hln T.hlm T.hnc (T.at_.hv.later hB0) (T.at_.hr.later hB0)
 rw[hR]at hRt
 have HW:=Lib.hid (And.intro hW (And.intro hB0 (And.intro k0 (And.intro k1 hz))))
 have a0:W.cell? ⟨w.heap.size,0,none⟩=some (.slice A n c):=by rw[World.cell?,k0];rfl
 have a1:W.cell? ⟨w.heap.size,1,none⟩=some (.slice B m d):=by rw[World.cell?,k0];rfl
 clear T hR hB0 k0 k1 hz hW
 go_enter Tryz.func27,Tryz.ntmps27
 go_wp2_with fail
 simp only[HW.out.1]
 refine hRt.mono ?_
 rintro e wR ⟨rfl,hbR⟩
 have HG:=Lib.hid (KeepT.below hbR _ _ _ HW.out.2.2.2.1)
 have HP:=Lib.hid (setRow_heap wR _ _ #[.slice none 0 0,.slice none 0 0] _ (0,0) HG.out)
 have HF:Hid (Below w.heap.size w (wR.setRow (w.heap.size+1) #[.slice none 0 0,.slice none 0 0])):=below_setRow (aa HW.out.2.1 hbR) (by omega) _
 clear hbR hRt a0 a1
 go_wp2_with (refine wpList_store_row rfl 39 _ _ rfl rfl rfl an HG.out rfl rfl ?_)
 refine bodyPost_ret (ag rfl _ _ _ _ _ _ _ (.int .i64 2) rfl HP.out Tryz.underlying39 rfl an ?_) rfl (cB.nothing HF.out)
 rfl
theorem rT {wb w W:World} {A B':Option Addr} {n c m' d':Nat} {vars:List ByteArray} {rows':List (List Tm)} {xs:List Value} (h0:wb.heap.size<=w.heap.size) (h3:W.heap[w.heap.size+1]?=some (Obj.cells #[.slice none 0 0,.slice none 0 0] 39 (0,0))) (h5:Below w.heap.size w W) (hn:vars.length=n) (hm:rows'.length=m') (hnc:n<=c) (hmd:m'<=d') (hv:∀W',StS wb w W'->Rd W' A (vars.map Value.string)) (hr:∀W',StS wb w W'->Rd W' B' xs) (hall:All 1 (eY wb w) xs rows') :
  cB wb 0 vars rows' w (.returned (.tuple #[.agg #[.slice A n c,.slice B' m' d'],.int .i64 0])) (W.setRow (w.heap.size+1) #[.slice A n c,.slice B' m' d'])/\(W.setRow (w.heap.size+1) #[.slice A n c,.slice B' m' d']).heap[w.heap.size+1]?=some (Obj.cells #[.slice A n c,.slice B' m' d'] 39 (0,0)):=by
 have hB:Below w.heap.size w (W.setRow (w.heap.size+1) #[.slice A n c,.slice B' m' d']):=below_setRow h5 (by omega) _
 have hS:StS wb w (W.setRow (w.heap.size+1) #[.slice A n c,.slice B' m' d']):=StS.below h0 hB
 subst hn
 subst hm
 exact⟨⟨A,c,B',d',rfl,hB,hnc,hmd,λW' k=>hv W' (hS.trans k),xs,λW' k=>hr W' (hS.trans k),hall.mono λ_ _ _ h=>h.on hS.2.2⟩,setRow_heap W _ _ _ _ (0,0) h3⟩
theorem iU {vars:List ByteArray} {rows:List (List Tm)} {A B:Option Addr} {n c m d:Nat} {wb w:World} (T:dr wb w A B n c m d vars rows) (hR:ar vars rows=true) (off lim:Int) :
  Calls Tryz.prog 27 #[.agg #[.slice A n c,.slice B m d],.int .i64 off,.int .i64 lim] w λe w'=>(¬ (off<0∨lim < -1)->cB wb 0 vars (di off lim rows) w e w')/\((off<0∨lim < -1)->cB wb 6 [] [] w e w'):=by
 obtain⟨W,hW⟩:∃W:World,(w.alloc (.cells #[.slice A n c,.slice B m d] 39)).alloc (.cells #[.slice none 0 0,.slice none 0 0] 39)=W:=⟨_,rfl⟩
 obtain⟨hB0,k0,k1,hz⟩:=dB hW
 have hRt:=ce vars rows A B n c m d W T.hn T.hm T.hln T.hlm T.hnc (T.at_.hv.later hB0) (T.at_.hr.later hB0)
 rw[hR]at hRt
 have hln:=T.hln
 have hlm:=T.hlm
 have hmd:=T.hmd
 have HT:=Lib.hid T
 have HW:=Lib.hid (And.intro hW (And.intro hB0 (And.intro k0 (And.intro k1 hz))))
 have a0:W.cell? ⟨w.heap.size,0,none⟩=some (.slice A n c):=by rw[World.cell?,k0];rfl
 have a1:W.cell? ⟨w.heap.size,1,none⟩=some (.slice B m d):=by rw[World.cell?,k0];rfl
 clear T hR hB0 k0 k1 hz hW
 go_enter Tryz.func27,Tryz.ntmps27
 go_wp2_with fail
 simp only[HW.out.1]
 refine hRt.mono ?_
 rintro e wR ⟨rfl,hbR⟩
 have HG:=Lib.hid (KeepT.below hbR _ _ _ HW.out.2.2.2.1)
 have HBR:=Lib.hid (aa HW.out.2.1 hbR)
 have c0:=ab a0 hbR
 have c1:=ab a1 hbR
 clear hbR hRt a0 a1
 by_cases hbad:off<0∨lim < -1
 ·have HP:=Lib.hid (setRow_heap wR _ _ #[.slice none 0 0,.slice none 0 0] _ (0,0) HG.out)
  have HF:Hid (Below w.heap.size w (wR.setRow (w.heap.size+1) #[.slice none 0 0,.slice none 0 0])):=below_setRow HBR.out (by omega) _
  have HBAD:=Lib.hid hbad
  by_cases ho:off<0
  ·have hd:decide (off<0)=true:=decide_eq_true ho
   clear hbad
   go_wp2_with (refine wpList_store_row rfl 39 _ _ rfl rfl rfl an HG.out rfl rfl ?_)
   refine bodyPost_ret (ag rfl _ _ _ _ _ _ _ (.int .i64 6) rfl HP.out Tryz.underlying39 rfl an ?_) rfl ⟨λh=>absurd HBAD.out h,λ_=>cB.nothing HF.out⟩
   rfl
  ·have hd:decide (off<0)=false:=decide_eq_false ho
   have hd2:decide (lim < -1)=true:=decide_eq_true (hbad.resolve_left ho)
   have hl:lim < -1:=hbad.resolve_left ho
   clear hbad
   go_wp2_with (refine wpList_store_row rfl 39 _ _ rfl rfl rfl an HG.out rfl rfl ?_)
   refine bodyPost_ret (ag rfl _ _ _ _ _ _ _ (.int .i64 6) rfl HP.out Tryz.underlying39 rfl an ?_) rfl ⟨λh=>absurd HBAD.out h,λ_=>cB.nothing HF.out⟩
   rfl
 ·have HBAD:=Lib.hid hbad
  have ho:¬ off<0:=λh=>hbad (.inl h)
  have hl:¬ lim < -1:=λh=>hbad (.inr h)
  have hd:decide (off<0)=false:=decide_eq_false ho
  have hd2:decide (lim < -1)=false:=decide_eq_false hl
  obtain⟨q,hq,hq2,hmin⟩:∃q:Nat,q<=m/\rows.drop off.toNat=rows.drop q/\min off (m:Int)=(q:Int):=by
   by_cases h:off<=m
   ·exact⟨off.toNat,by omega,rfl,by omega⟩
   ·have hm:=HT.out.hm
    exact⟨m,Nat.le_refl _,by rw[List.drop_eq_nil_of_le (by omega),List.drop_eq_nil_of_le (by omega)],by omega⟩
  have hrun:=gQ (P:=Tryz.prog) Tryz.underlying23 Tryz.sizeOf59 B d q m hq
  have hdl:(rows.drop q).length=m-q:=by rw[List.length_drop,HT.out.hm]
  obtain⟨xs,hx1,hx2⟩:=HT.out.hr
  have hxl:xs.length=m*1:=by rw[hx2.len,HT.out.hm]
  have hrd:(∀W',StS wb w W'->Rd W' (qb 1 d q B) (xs.drop (q*1)))/\All 1 (eY wb w) (xs.drop (q*1)) (rows.drop q):=⟨λW' k=>(hx1 W' k).fromG hxl hmd hq,hx2.drop q⟩
  by_cases hlim:lim = -1
  ·have hq3:(lim != -1)=false:=by simp[hlim]
   obtain⟨hF,hP⟩:=rT HT.out.hs HG.out HBR.out HT.out.hn hdl HT.out.hnc (Nat.sub_le_sub_right hmd q) HT.out.hv hrd.1 hrd.2
   have HCUT:Hid (di off lim rows=rows.drop q):=by
    show _=_
    unfold di
    rw[if_pos hlim,hq2]
   have HF:=Lib.hid hF
   have HP:=Lib.hid hP
   clear hF hP hrd hdl hq2 hbad hmd hx1 hx2 hxl
   go_wp2_with (refine wpList_store_row rfl 39 _ _ rfl rfl rfl an HG.out rfl rfl ?_)
   refine bodyPost_ret (ag rfl _ _ _ _ _ _ _ (.int .i64 0) rfl HP.out Tryz.underlying39 rfl an ?_) rfl ⟨λ_=>by rw[HCUT.out];exact HF.out,λh=>absurd h HBAD.out⟩
   rfl
  ·have hq3:(lim != -1)=true:=by simp[hlim]
   obtain⟨p,hp,hp2,hmin2⟩:∃p:Nat,p<=m-q/\(rows.drop q).take lim.toNat=(rows.drop q).take p/\min lim ((m-q:Nat):Int)=(p:Int):=by
    by_cases h:lim<=((m-q:Nat):Int)
    ·exact⟨lim.toNat,by omega,rfl,by omega⟩
    ·exact⟨m-q,Nat.le_refl _,by rw[List.take_of_length_le (by omega),List.take_of_length_le (by omega)],by omega⟩
   have hrun2:=lZ (P:=Tryz.prog) Tryz.underlying23 Tryz.sizeOf59 (qb 1 d q B) (d-q) p (m-q) (by omega)
   obtain⟨hF,hP⟩:=rT (m':=p) HT.out.hs HG.out HBR.out HT.out.hn (by rw[List.length_take,hdl];omega) HT.out.hnc (show p<=d-q by omega) HT.out.hv (λW' k=>(hrd.1 W' k).take (p*1)) (hrd.2.take p)
   have HCUT:Hid (di off lim rows=(rows.drop q).take p):=by
    show _=_
    unfold di
    rw[if_neg hlim,hq2,hp2]
   have HF:=Lib.hid hF
   have HP:=Lib.hid hP
   obtain⟨mq,hmq⟩:∃k,m-q=k:=⟨_,rfl⟩
   rw[hmq]at hrun hrun2 hmin2
   clear hF hP hrd hdl hq2 hbad hmd hx1 hx2 hxl hp2 hmq
   go_wp2_with (refine wpList_store_row rfl 39 _ _ rfl rfl rfl an HG.out rfl rfl ?_)
   refine bodyPost_ret (ag rfl _ _ _ _ _ _ _ (.int .i64 0) rfl HP.out Tryz.underlying39 rfl an ?_) rfl ⟨λ_=>by rw[HCUT.out];exact HF.out,λh=>absurd h HBAD.out⟩
   rfl
def AnS (w W:World) (qc:Array Value) (A:Option Addr) (n c:Nat) (B:Option Addr) (m d:Nat) (vars:List ByteArray) (rows:List (List Tm)):Prop:=
 W.heap[w.heap.size]?=some (Obj.cells #[.slice A n c,.slice B m d] 39 (0,0))/\W.heap[w.heap.size+1]?=some (Obj.cells qc 30 (0,0))/\Below w.heap.size w W/\dr w W A B n c m d vars rows
theorem AnS.next {w W w1:World} {qc:Array Value} {A:Option Addr} {n c:Nat} {B:Option Addr} {m d:Nat} {vars vars':List ByteArray} {rows rows':List (List Tm)} {N:Int} {e:Ending} (H:AnS w W qc A n c B m d vars rows) (h:cB w N vars' rows' W e w1) (hv:vars'.length<=1000000) (hr:rows'.length<=1000000) (hz:∀r∈rows',r.length<=1000000) :
  ∃A' n' c' B' m' d',e=.returned (.tuple #[.agg #[.slice A' n' c',.slice B' m' d'],.int .i64 N])/\w1.heap[w.heap.size]?=some (Obj.cells #[.slice A n c,.slice B m d] 39 (0,0))/\AnS w (w1.setRow w.heap.size #[.slice A' n' c',.slice B' m' d']) qc A' n' c' B' m' d' vars' rows'/\Below w.heap.size w w1:=by
 obtain⟨h1,h2,h3,h4⟩:=H
 obtain⟨A',c',B',d',rfl,h5,h6,h7,h8,xs,h9,h10⟩:=h
 have g1:=KeepT.below h5 _ _ _ h1
 have g2:=KeepT.below h5 _ _ _ h2
 have hS:StS w w1 (w1.setRow w.heap.size #[.slice A' vars'.length c',.slice B' rows'.length d']):=StS.setRow g1 (Nat.le_refl _)
 have hB:=aa h3 h5
 have hB2:Below w.heap.size w (w1.setRow w.heap.size #[.slice A' vars'.length c',.slice B' rows'.length d']):=hB.trans hS.2.2.2
 refine⟨A',_,c',B',_,d',rfl,g1,⟨setRow_heap w1 _ _ _ _ (0,0) g1,KeepT.setRow g1 (by decide) _ _ _ g2,hB2,hB2.size,rfl,rfl,hv,hr,h6,h7,hz,λW' k=>h8 W' (hS.trans k),xs,λW' k=>h9 W' (hS.trans k),h10.mono λ_ _ _ x=>x.on hS.2.2⟩,hB⟩
theorem AnS.cells {w W:World} {qc:Array Value} {A:Option Addr} {n c:Nat} {B:Option Addr} {m d:Nat} {vars:List ByteArray} {rows:List (List Tm)} (H:AnS w W qc A n c B m d vars rows):W.cell? ⟨w.heap.size,0,none⟩=some (.slice A n c)/\W.cell? ⟨w.heap.size,1,none⟩=some (.slice B m d)/\∀i v,qc[i]?=some v->W.cell? ⟨w.heap.size+1,i,none⟩=some v:=by
 obtain⟨h1,h2,h3,h4⟩:=H
 exact⟨by rw[World.cell?,h1];rfl,by rw[World.cell?,h1];rfl,λi v h=>by rw[World.cell?,h2];exact h⟩
def oT (N:Int) (rows:List (List Tm)) (w:World) (e:Ending) (w':World):Prop:=∃B d,e=.returned (.tuple #[.slice B rows.length d,.int .i64 N])/\Below w.heap.size w w'/\rows.length<=d/\RdRs w' B rows
theorem oT.nothing {N:Int} {w w':World} (h:Below w.heap.size w w'):oT N [] w (.returned (.tuple #[.slice none 0 0,.int .i64 N])) w':=⟨none,0,rfl,h,Nat.le_refl _,RdL.nil _ _ _ _⟩
theorem mK {names:List ByteArray} {l:List (List Tm)} (h:names.Nodup) (hl:∀r∈l,r.length=names.length):ar names l=true:=by
 unfold ar
 simp only[Bool.and_eq_true,decide_eq_true_iff,Bool.not_eq_true',List.any_eq_false]
 exact⟨h,λr hr=>by simp[hl r hr]⟩
theorem ml {off lim:Int} {l:List (List Tm)} {r:List Tm} (h:r∈di off lim l):r∈l:=by
 unfold di at h
 split at h
 ·exact List.mem_of_mem_drop h
 ·exact List.mem_of_mem_drop (List.mem_of_mem_take h)
theorem mm (off lim:Int) (l:List (List Tm)):(di off lim l).length<=l.length:=by
 unfold di
 split
 ·rw[List.length_drop];omega
 ·rw[List.length_take,List.length_drop];omega
theorem pQ (vars names:List ByteArray) (keys:List Ky) (off lim:Int):bF (gK vars names keys off lim) 0 5=if bT vars keys≠0 then bT vars keys else if be vars names≠0 then be vars names else if off<0∨lim < -1 then 6 else 0:=by
 simp only[bF,gK]
 by_cases h1:bT vars keys=0
 ·by_cases h2:be vars names=0
  ·by_cases h3:off<0∨lim < -1
   ·simp[h1,h2,h3]
   ·simp[h1,h2,h3]
  ·simp[h1,h2]
 ·simp[h1]
theorem sc {vars:List ByteArray} {rows:List (List Tm)} {A B:Option Addr} {n c m d:Nat} {w:World} (T:TabAt w A B n c m d vars rows) (hmd:m<=d) (hR:ar vars rows=false) (b0 dist:Bool) (off lim:Int) (A2 A3 A4 A5:Option Addr) (n2 c2 n3 c3 n4 c4 n5 c5:Nat) :
  Calls Tryz.prog 38 #[.agg #[.slice A n c,.slice B m d],.agg #[.bool b0,.bool dist,.slice A2 n2 c2,.slice A3 n3 c3,.slice A4 n4 c4,.slice A5 n5 c5,.int .i64 lim,.int .i64 off]] w (oT 2 [] w):=by
 obtain⟨W,hW⟩:∃W:World,(w.alloc (.cells #[.slice A n c,.slice B m d] 39)).alloc (.cells #[.bool b0,.bool dist,.slice A2 n2 c2,.slice A3 n3 c3,.slice A4 n4 c4,.slice A5 n5 c5,.int .i64 lim,.int .i64 off] 30)=W:=⟨_,rfl⟩
 have hA0:AnS w W #[.bool b0,.bool dist,.slice A2 n2 c2,.slice A3 n3 c3,.slice A4 n4 c4,.slice A5 n5 c5,.int .i64 lim,.int .i64 off] A n c B m d vars rows:=by
  subst hW
  have hb:Below w.heap.size w ((w.alloc (.cells #[.slice A n c,.slice B m d] 39)).alloc (.cells #[.bool b0,.bool dist,.slice A2 n2 c2,.slice A3 n3 c3,.slice A4 n4 c4,.slice A5 n5 c5,.int .i64 lim,.int .i64 off] 30)):=blw
  exact⟨aj _ _ _,ah _ _ _,hb,(T.stays hmd).later hb⟩
 obtain⟨a0,a1,aq⟩:=hA0.cells
 have q4:=aq 4 _ rfl
 have hC:=pj hA0.2.2.2 hR A4 n4 c4
 have HA:=Lib.hid hA0
 have HW:=Lib.hid hW
 clear T hmd hR hA0 aq hW
 go_enter Tryz.func38,Tryz.ntmps38
 go_wp2_with fail
 simp only[HW.out]
 go_wp2_with (first
  | (go_at_call 14;refine hC.mono ?_;intro e w1 hR1;obtain⟨A',n',c',B',m',d',rfl,g1,hS,hb1⟩:=HA.out.next hR1 (by decide) (by decide) (by simp);have HG:=Lib.hid g1;have HB:=Lib.hid hS.2.2.1;clear hR1 g1 hS hb1 hC a0 a1 q4)
  | (refine wpList_store_row rfl 39 _ _ rfl rfl rfl an HG.out rfl rfl ?_)
  | fail)
 go_ret2
 exact oT.nothing HB.out
theorem xj {vars:List ByteArray} {rows:List (List Tm)} {A B:Option Addr} {n c m d:Nat} {w:World} (T:TabAt w A B n c m d vars rows) (hmd:m<=d) (hR:ar vars rows=true) (hs:∀r∈rows,bu r) (hzr:∀r∈rows,fQ r) (names:List ByteArray) (nf:Nat) (fils:List (ExT nf)) (keys:List Ky) (b0 dist:Bool) (off lim:Int) (A2 A3 A4 A5:Option Addr) (n2 c2 n3 c3 n4 c4 n5 c5:Nat)
  (h2:names.length=n2) (hl2:n2<=1000000) (hc2:n2<=c2) (hr2:Rd w A2 (names.map Value.string)) (h4:fils.length=n4) (hl4:n4<=1000000) (hzf:∀x∈fils,szE nf x) (hzn:∀x∈fils,szN nf x) (hr4:aB nf w A4 fils) (h5:keys.length=n5) (hl5:n5<=1000000) (hr5:dl w A5 keys) :
  Calls Tryz.prog 38 #[.agg #[.slice A n c,.slice B m d],.agg #[.bool b0,.bool dist,.slice A2 n2 c2,.slice A3 n3 c3,.slice A4 n4 c4,.slice A5 n5 c5,.int .i64 lim,.int .i64 off]] w (oT (bF (gK vars names keys off lim) 0 5) (if bF (gK vars names keys off lim) 0 5=0 then (pW vars names nf fils keys dist off lim rows 5).2 else []) w):=by
 obtain⟨W,hW⟩:∃W:World,(w.alloc (.cells #[.slice A n c,.slice B m d] 39)).alloc (.cells #[.bool b0,.bool dist,.slice A2 n2 c2,.slice A3 n3 c3,.slice A4 n4 c4,.slice A5 n5 c5,.int .i64 lim,.int .i64 off] 30)=W:=⟨_,rfl⟩
 have hA0:AnS w W #[.bool b0,.bool dist,.slice A2 n2 c2,.slice A3 n3 c3,.slice A4 n4 c4,.slice A5 n5 c5,.int .i64 lim,.int .i64 off] A n c B m d vars rows:=by
  subst hW
  have hb:Below w.heap.size w ((w.alloc (.cells #[.slice A n c,.slice B m d] 39)).alloc (.cells #[.bool b0,.bool dist,.slice A2 n2 c2,.slice A3 n3 c3,.slice A4 n4 c4,.slice A5 n5 c5,.int .i64 lim,.int .i64 off] 30)):=blw
  exact⟨aj _ _ _,ah _ _ _,hb,(T.stays hmd).later hb⟩
 obtain⟨a0,a1,aq⟩:=hA0.cells
 have q4:=aq 4 _ rfl
 have hww:=dw hR
 have hvl:vars.length<=1000000:=by rw[T.hn];exact T.hln
 have hrl:rows.length<=1000000:=by rw[T.hm];exact T.hlm
 have hzl:=T.hz
 have hRt:∀l:List (List Tm),(∀r∈l,r∈rows)->ar vars l=true:=λl hl=>by
  unfold ar at hR ⊢
  simp only[Bool.and_eq_true,Bool.not_eq_true',List.any_eq_false]at hR ⊢
  exact⟨hR.1,λr hr=>hR.2 r (hl r hr)⟩
 have hC:=vH hA0.2.2.2 hR nf fils A4 c4 n4 h4 hl4 hzf hzn (aB.later hr4 hA0.2.2.1) hzr
 obtain⟨res,hres⟩:∃l:List (List Tm),(if bF (gK vars names keys off lim) 0 5=0 then (pW vars names nf fils keys dist off lim rows 5).2 else [])=l:=⟨_,rfl⟩
 obtain⟨NN,hNN⟩:∃z,bF (gK vars names keys off lim) 0 5=z:=⟨_,rfl⟩
 have hN2:=pQ vars names keys off lim
 rw[hres]
 rw[hNN]at hres hN2 ⊢
 have HE:=Lib.hid (And.intro hres hN2)
 have HA:=Lib.hid hA0
 have HW:=Lib.hid hW
 have H:=Lib.hid (And.intro hs (And.intro h2 (And.intro hl2 (And.intro hc2 (And.intro hr2 (And.intro h5 (And.intro hl5 (And.intro hr5 (And.intro hww (And.intro hRt (And.intro hvl (And.intro hrl hzl))))))))))))
 clear T hmd hR hA0 aq hW hs hzr h2 hc2 hr2 h4 hl4 hzf hzn hr4 h5 hr5 hww hRt hvl hrl hzl hres hNN hN2
 go_enter Tryz.func38,Tryz.ntmps38
 go_wp2_with fail
 simp only[HW.out]
 have hk1:(aR vars nf fils rows).length<=1000000:=Nat.le_trans (gy _ _ _ _) H.out.2.2.2.2.2.2.2.2.2.2.2.1
 have hkm:∀r∈aR vars nf fils rows,r∈rows:=λr hr=>gx hr
 have HK1:=Lib.hid (And.intro hk1 hkm)
 clear hk1 hkm
 go_wp2_with (first
  | (go_at_call 14;refine hC.mono ?_;intro e w1 hR1;obtain⟨A1,n1,c1,B1,m1,d1,rfl,g1,hS,hb1⟩:=HA.out.next hR1 H.out.2.2.2.2.2.2.2.2.2.2.1 HK1.out.1 (λr hr=>H.out.2.2.2.2.2.2.2.2.2.2.2.2 r (HK1.out.2 r hr));have HG:=Lib.hid g1;have HA1:=Lib.hid hS;clear hR1 g1 hS hb1 hC a0 a1 q4)
  | (refine wpList_store_row rfl 39 _ _ rfl rfl rfl an HG.out rfl rfl ?_;have hc:=HA1.out.cells;generalize w1.setRow w.heap.size #[.slice A1 n1 c1,.slice B1 m1 d1]=V1 at *;obtain⟨a0,a1,aq⟩:=hc;have q5:=aq 5 _ rfl;clear aq)
  | fail)
 have hC:=qk HA1.out.2.2.2 (H.out.2.2.2.2.2.2.2.2.2.1 _ HK1.out.2) (λr hr=>H.out.1 r (HK1.out.2 r hr)) keys A5 n5 c5 H.out.2.2.2.2.2.1 H.out.2.2.2.2.2.2.1 (RdL.mono H.out.2.2.2.2.2.2.2.1 HA1.out.2.2.1 (λ_ _ _ h=>h))
 have hk2:(bH vars keys (aR vars nf fils rows)).length<=1000000:=Nat.le_trans (jq _ _ _ _ _) H.out.2.2.2.2.2.2.2.2.2.2.2.1
 have hkm2:∀r∈bH vars keys (aR vars nf fils rows),r∈rows:=λr hr=>jp hr
 have HK2:=Lib.hid (And.intro hk2 hkm2)
 clear hk2 hkm2 HG
 by_cases hN1:bT vars keys=0
 case neg =>
  have hC':=hC.mono λe w' h=>h.2 hN1
  have HEN:Hid (NN=bT vars keys/\res=[]):=by
   have h1:=HE.out.2
   rw[if_pos hN1]at h1
   refine⟨h1,?_⟩
   rw[←HE.out.1,h1,if_neg hN1]
  clear hC
  generalize bT vars keys=N1 at *
  have hq:(N1 != 0)=true:=by rw[bne_iff_ne];exact hN1
  clear hN1
  go_wp2_with (first
   | (go_at_call 21;refine hC'.mono ?_;intro e w9 hR1;obtain⟨A9,n9,c9,B9,m9,d9,rfl,g1,hS,hb1⟩:=HA1.out.next hR1 (by decide) (by decide) (by simp);have HG:=Lib.hid g1;have HB:=Lib.hid hS.2.2.1;clear hR1 g1 hS hb1 hC' a0 a1)
   | (refine wpList_store_row rfl 39 _ _ rfl rfl rfl an HG.out rfl rfl ?_)
   | fail)
  go_ret2
  rw[HEN.out.1,HEN.out.2]
  exact oT.nothing HB.out
 have hC':=hC.mono λe w' h=>h.1 hN1
 clear hC
 go_wp2_with (first
  | (go_at_call 21;refine hC'.mono ?_;intro e w2 hR1;obtain⟨A2',n2',c2',B2,m2,d2,rfl,g1,hS,hb1⟩:=HA1.out.next hR1 H.out.2.2.2.2.2.2.2.2.2.2.1 HK2.out.1 (λr hr=>H.out.2.2.2.2.2.2.2.2.2.2.2.2 r (HK2.out.2 r hr));have HG:=Lib.hid g1;have HA2:=Lib.hid hS;clear hR1 g1 hS hb1 hC' a0 a1 q5)
  | (refine wpList_store_row rfl 39 _ _ rfl rfl rfl an HG.out rfl rfl ?_;have hc:=HA2.out.cells;generalize w2.setRow w.heap.size #[.slice A2' n2' c2',.slice B2 m2 d2]=V2 at *;obtain⟨a0,a1,aq⟩:=hc;have q2:=aq 2 _ rfl;clear aq)
  | fail)
 have hC:=iu (names:=names) HA2.out.2.2.2 (H.out.2.2.2.2.2.2.2.2.2.1 _ HK2.out.2) A2 n2 c2 H.out.2.1 H.out.2.2.1 H.out.2.2.2.1 (λW' k=>H.out.2.2.2.2.1.later (HA2.out.2.2.1.trans k.2.2.2))
 clear HG
 by_cases hN2:be vars names=0
 case neg =>
  have hC':=hC.mono λe w' h=>h.2 hN2
  have HEN:Hid (NN=be vars names/\res=[]):=by
   have h1:=HE.out.2
   rw[if_neg (λh=>h hN1),if_pos hN2]at h1
   refine⟨h1,?_⟩
   rw[←HE.out.1,h1,if_neg hN2]
  clear hC
  generalize be vars names=N1 at *
  have hq:(N1 != 0)=true:=by rw[bne_iff_ne];exact hN2
  clear hN2 hN1
  go_wp2_with (first
   | (go_at_call 23;refine hC'.mono ?_;intro e w9 hR1;obtain⟨A9,n9,c9,B9,m9,d9,rfl,g1,hS,hb1⟩:=HA2.out.next hR1 (by decide) (by decide) (by simp);have HG:=Lib.hid g1;have HB:=Lib.hid hS.2.2.1;clear hR1 g1 hS hb1 hC' a0 a1)
   | (refine wpList_store_row rfl 39 _ _ rfl rfl rfl an HG.out rfl rfl ?_)
   | fail)
  go_ret2
  rw[HEN.out.1,HEN.out.2]
  exact oT.nothing HB.out
 have hC':=hC.mono λe w' h=>h.1 hN2
 have hpo:=pr hN2
 have hk3:((bH vars keys (aR vars nf fils rows)).map (aJ (am vars names))).length<=1000000:=by rw[List.length_map];exact HK2.out.1
 have hkl3:∀r∈(bH vars keys (aR vars nf fils rows)).map (aJ (am vars names)),r.length=names.length:=λr hr=>by
  obtain⟨r0,_,rfl⟩:=List.mem_map.1 hr
  unfold aJ am
  rw[List.length_map,List.length_map]
 have hnd:names.Nodup:=by
  unfold be at hN2
  split at hN2
  ·cases hN2
  ·next h=>simpa using h
 have HK3:=Lib.hid (And.intro hk3 (And.intro hkl3 hnd))
 have HRES:Hid (pW vars names nf fils keys dist off lim rows 5=(names,if off<0∨lim < -1 then (if dist then aS ((bH vars keys (aR vars nf fils rows)).map (aJ (am vars names))) else (bH vars keys (aR vars nf fils rows)).map (aJ (am vars names))) else di off lim (if dist then aS ((bH vars keys (aR vars nf fils rows)).map (aJ (am vars names))) else (bH vars keys (aR vars nf fils rows)).map (aJ (am vars names))))):=by
  show ((fT vars names nf fils keys rows).1,if off<0∨lim < -1 then fS vars names nf fils keys dist rows else di off lim (fS vars names nf fils keys dist rows))=_
  unfold fS fT
  rw[if_pos hN2]
 have hNN:NN=if off<0∨lim < -1 then 6 else 0:=by
  have h1:=HE.out.2
  rwa [if_neg (λh=>h hN1),if_neg (λh=>h hN2)]at h1
 have HNN:=Lib.hid hNN
 have hl2n:=H.out.2.1
 have HL2N:=Lib.hid hl2n
 clear hC hpo hk3 hkl3 hnd hN1 hN2 hNN hl2n
 generalize hL3:(bH vars keys (aR vars nf fils rows)).map (aJ (am vars names))=L3 at *
 clear hL3
 cases dist
 case false =>
  go_wp2_with (first
   | (go_at_call 23;refine hC'.mono ?_;intro e w3 hR1;obtain⟨A3',n3',c3',B3,m3,d3,rfl,g1,hS,hb1⟩:=HA2.out.next hR1 (by rw[HL2N.out];exact H.out.2.2.1) HK3.out.1 (λr hr=>by rw[HK3.out.2.1 r hr,HL2N.out];exact H.out.2.2.1);have HG:=Lib.hid g1;have HA3:=Lib.hid hS;clear hR1 g1 hS hb1 hC' a0 a1 q2)
   | (refine wpList_store_row rfl 39 _ _ rfl rfl rfl an HG.out rfl rfl ?_;have hc:=HA3.out.cells;generalize w3.setRow w.heap.size #[.slice A3' n3' c3',.slice B3 m3 d3]=V3 at *;obtain⟨a0,a1,aq⟩:=hc;have q1:=aq 1 _ rfl;have q6:=aq 6 _ rfl;have q7:=aq 7 _ rfl;clear aq)
   | fail)
  clear HG q1 q6 q7
  have hC:=iU HA3.out.2.2.2 (mK HK3.out.2.2 HK3.out.2.1) off lim
  by_cases hbad:off<0∨lim < -1
  ·have hC':=hC.mono λe w' h=>h.2 hbad
   have HEN:Hid (NN=6/\res=[]):=by
    have h1:=HNN.out
    rw[if_pos hbad]at h1
    refine⟨h1,?_⟩
    rw[←HE.out.1,h1];rfl
   clear hC hbad
   go_wp2_with (first
    | (go_at_call 27;refine hC'.mono ?_;intro e w9 hR1;obtain⟨A9,n9,c9,B9,m9,d9,rfl,g1,hS,hb1⟩:=HA3.out.next hR1 (by decide) (by decide) (by simp);have HG:=Lib.hid g1;have HB:=Lib.hid hS.2.2.1;clear hR1 g1 hS hb1 hC' a0 a1)
    | (refine wpList_store_row rfl 39 _ _ rfl rfl rfl an HG.out rfl rfl ?_)
    | fail)
   go_ret2
   rw[HEN.out.1,HEN.out.2]
   exact oT.nothing HB.out
  ·have hC':=hC.mono λe w' h=>h.1 hbad
   have HEN:Hid (NN=0/\res=di off lim L3):=by
    have h1:=HNN.out
    rw[if_neg hbad]at h1
    refine⟨h1,?_⟩
    rw[←HE.out.1,h1,HRES.out,if_pos rfl]
    show (if off<0∨lim < -1 then _ else _)=_
    rw[if_neg hbad]
    rfl
   have hk5:(di off lim L3).length<=1000000:=Nat.le_trans (mm _ _ _) HK3.out.1
   have hm5:∀r∈di off lim L3,r∈L3:=λr hr=>ml hr
   have HK5:=Lib.hid (And.intro hk5 hm5)
   clear hC hbad hk5 hm5
   go_wp2_with (first
    | (go_at_call 27;refine hC'.mono ?_;intro e w9 hR1;obtain⟨A9,n9,c9,B9,m9,d9,rfl,g1,hS,hb1⟩:=HA3.out.next hR1 (by rw[HL2N.out];exact H.out.2.2.1) HK5.out.1 (λr hr=>by rw[HK3.out.2.1 r (HK5.out.2 r hr),HL2N.out];exact H.out.2.2.1);have HG:=Lib.hid g1;have HA9:=Lib.hid hS;clear hR1 g1 hS hb1 hC' a0 a1)
    | (refine wpList_store_row rfl 39 _ _ rfl rfl rfl an HG.out rfl rfl ?_;have hc:=HA9.out.cells;generalize w9.setRow w.heap.size #[.slice A9 n9 c9,.slice B9 m9 d9]=V9 at *;obtain⟨a0,a1,-⟩:=hc)
    | fail)
   go_ret2
   rw[HEN.out.1,HEN.out.2]
   have T9:=HA9.out.2.2.2.at_
   refine⟨B9,d9,by rw[T9.hm];rfl,HA9.out.2.2.1,by rw[T9.hm];exact HA9.out.2.2.2.hmd,T9.hr⟩
 case true =>
  go_wp2_with (first
   | (go_at_call 23;refine hC'.mono ?_;intro e w3 hR1;obtain⟨A3',n3',c3',B3,m3,d3,rfl,g1,hS,hb1⟩:=HA2.out.next hR1 (by rw[HL2N.out];exact H.out.2.2.1) HK3.out.1 (λr hr=>by rw[HK3.out.2.1 r hr,HL2N.out];exact H.out.2.2.1);have HG:=Lib.hid g1;have HA3:=Lib.hid hS;clear hR1 g1 hS hb1 hC' a0 a1 q2)
   | (refine wpList_store_row rfl 39 _ _ rfl rfl rfl an HG.out rfl rfl ?_;have hc:=HA3.out.cells;generalize w3.setRow w.heap.size #[.slice A3' n3' c3',.slice B3 m3 d3]=V3 at *;obtain⟨a0,a1,aq⟩:=hc;have q1:=aq 1 _ rfl;clear aq)
   | fail)
  have hC:=vE HA3.out.2.2.2 (mK HK3.out.2.2 HK3.out.2.1)
  have hk4:(aS L3).length<=1000000:=Nat.le_trans (gq _) HK3.out.1
  have hl4':∀r∈aS L3,r.length=names.length:=λr hr=>HK3.out.2.1 r ((fl _ _).1 hr)
  have HK4:=Lib.hid (And.intro hk4 hl4')
  clear HG q1 hk4 hl4'
  go_wp2_with (first
   | (go_at_call 25;refine hC.mono ?_;intro e w4 hR1;obtain⟨A4',n4',c4',B4,m4,d4,rfl,g1,hS,hb1⟩:=HA3.out.next hR1 (by rw[HL2N.out];exact H.out.2.2.1) HK4.out.1 (λr hr=>by rw[HK4.out.2 r hr,HL2N.out];exact H.out.2.2.1);have HG:=Lib.hid g1;have HA4:=Lib.hid hS;clear hR1 g1 hS hb1 hC a0 a1)
   | (refine wpList_store_row rfl 39 _ _ rfl rfl rfl an HG.out rfl rfl ?_;have hc:=HA4.out.cells;generalize w4.setRow w.heap.size #[.slice A4' n4' c4',.slice B4 m4 d4]=V4 at *;obtain⟨a0,a1,aq⟩:=hc;have q6:=aq 6 _ rfl;have q7:=aq 7 _ rfl;clear aq)
   | fail)
  clear HG q6 q7
  have hC:=iU HA4.out.2.2.2 (mK HK3.out.2.2 HK4.out.2) off lim
  by_cases hbad:off<0∨lim < -1
  ·have hC':=hC.mono λe w' h=>h.2 hbad
   have HEN:Hid (NN=6/\res=[]):=by
    have h1:=HNN.out
    rw[if_pos hbad]at h1
    refine⟨h1,?_⟩
    rw[←HE.out.1,h1];rfl
   clear hC hbad
   go_wp2_with (first
    | (go_at_call 27;refine hC'.mono ?_;intro e w9 hR1;obtain⟨A9,n9,c9,B9,m9,d9,rfl,g1,hS,hb1⟩:=HA4.out.next hR1 (by decide) (by decide) (by simp);have HG:=Lib.hid g1;have HB:=Lib.hid hS.2.2.1;clear hR1 g1 hS hb1 hC' a0 a1)
    | (refine wpList_store_row rfl 39 _ _ rfl rfl rfl an HG.out rfl rfl ?_)
    | fail)
   go_ret2
   rw[HEN.out.1,HEN.out.2]
   exact oT.nothing HB.out
  ·have hC':=hC.mono λe w' h=>h.1 hbad
   have HEN:Hid (NN=0/\res=di off lim (aS L3)):=by
    have h1:=HNN.out
    rw[if_neg hbad]at h1
    refine⟨h1,?_⟩
    rw[←HE.out.1,h1,HRES.out,if_pos rfl]
    show (if off<0∨lim < -1 then _ else _)=_
    rw[if_neg hbad]
    rfl
   have hk5:(di off lim (aS L3)).length<=1000000:=Nat.le_trans (mm _ _ _) HK4.out.1
   have hm5:∀r∈di off lim (aS L3),r∈(aS L3):=λr hr=>ml hr
   have HK5:=Lib.hid (And.intro hk5 hm5)
   clear hC hbad hk5 hm5
   go_wp2_with (first
    | (go_at_call 27;refine hC'.mono ?_;intro e w9 hR1;obtain⟨A9,n9,c9,B9,m9,d9,rfl,g1,hS,hb1⟩:=HA4.out.next hR1 (by rw[HL2N.out];exact H.out.2.2.1) HK5.out.1 (λr hr=>by rw[HK4.out.2 r (HK5.out.2 r hr),HL2N.out];exact H.out.2.2.1);have HG:=Lib.hid g1;have HA9:=Lib.hid hS;clear hR1 g1 hS hb1 hC' a0 a1)
    | (refine wpList_store_row rfl 39 _ _ rfl rfl rfl an HG.out rfl rfl ?_;have hc:=HA9.out.cells;generalize w9.setRow w.heap.size #[.slice A9 n9 c9,.slice B9 m9 d9]=V9 at *;obtain⟨a0,a1,-⟩:=hc)
    | fail)
   go_ret2
   rw[HEN.out.1,HEN.out.2]
   have T9:=HA9.out.2.2.2.at_
   refine⟨B9,d9,by rw[T9.hm];rfl,HA9.out.2.2.1,by rw[T9.hm];exact HA9.out.2.2.2.hmd,T9.hr⟩
end Go.Proofs.YtoejnneknpoanaaGreatDoor
