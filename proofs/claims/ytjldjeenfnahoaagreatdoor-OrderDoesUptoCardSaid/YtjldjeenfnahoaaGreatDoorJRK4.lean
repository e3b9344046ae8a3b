/- The reference of package order, walked: tables that are not -/
import Derived.Test.YtjldjeenfnahoaaGreatDoorJR29h
set_option maxHeartbeats 8000000
set_option maxRecDepth 100000
namespace Go.Proofs.YtjldjeenfnahoaaGreatDoor
open Go Go.RowKit Um Fm Lx Tx Om Mp
theorem ve {vars:List ByteArray} {rows:List (List Tm)} {A B:Option Addr} {n c m d:Nat} {wb w:World} (T:dr wb w A B n c m d vars rows) (hR:aw vars rows=false) (Af:Option Addr) (mf cf:Nat) :
  Calls Tryz.prog 11 #[.agg #[.slice A n c,.slice B m d],.slice Af mf cf] w (cu wb 2 [] [] w):=by
 obtain⟨W,hW⟩:∃W:World,(w.alloc (.cells #[.slice A n c,.slice B m d] 39)).alloc (.cells #[.slice none 0 0,.slice none 0 0] 39)=W:=⟨_,rfl⟩
 obtain⟨hB0,k0,k1,hz⟩:=di hW
 have hRt:=bW vars rows A B n c m d W T.hn T.hm T.hln T.hlm T.hnc (T.at_.hv.later hB0) (T.at_.hr.later hB0)
 rw[hR]at hRt
 have HW:=Lib.hid (And.intro hW (And.intro hB0 (And.intro k0 (And.intro k1 hz))))
 have a0:W.cell? ⟨w.heap.size,0,none⟩=some (.slice A n c):=by rw[World.cell?,k0];rfl
 have a1:W.cell? ⟨w.heap.size,1,none⟩=some (.slice B m d):=by rw[World.cell?,k0];rfl
 clear T hR hB0 k0 k1 hz hW
 go_enter Tryz.func11,Tryz.ntmps11
 go_wp2_with fail
 simp only[HW.out.1]
 refine hRt.mono ?_
 rintro e wR ⟨rfl,hbR⟩
 have HG:=Lib.hid (KeepT.below hbR _ _ _ HW.out.2.2.2.1)
 have HP:=Lib.hid (setRow_heap wR _ _ #[.slice none 0 0,.slice none 0 0] _ (0,0) HG.out)
 have HF:Hid (Below w.heap.size w (wR.setRow (w.heap.size+1) #[.slice none 0 0,.slice none 0 0])):=below_setRow (aa HW.out.2.1 hbR) (by omega) _
 clear hbR hRt a0 a1
 go_wp2_with (refine wpList_store_row rfl 39 _ _ rfl rfl rfl az HG.out rfl rfl ?_)
 refine bodyPost_ret (ag rfl _ _ _ _ _ _ _ (.int .i64 2) rfl HP.out Tryz.underlying39 rfl az ?_) rfl (cu.nothing HF.out)
 rfl
theorem vc {vars:List ByteArray} {rows:List (List Tm)} {A B:Option Addr} {n c m d:Nat} {wb w:World} (T:dr wb w A B n c m d vars rows) (hR:aw vars rows=false) (Af:Option Addr) (mf cf:Nat) :
  Calls Tryz.prog 18 #[.agg #[.slice A n c,.slice B m d],.slice Af mf cf] w (cu wb 2 [] [] w):=by
 obtain⟨W,hW⟩:∃W:World,(w.alloc (.cells #[.slice A n c,.slice B m d] 39)).alloc (.cells #[.slice none 0 0,.slice none 0 0] 39)=W:=⟨_,rfl⟩
 obtain⟨hB0,k0,k1,hz⟩:=di hW
 have hRt:=bW vars rows A B n c m d W T.hn T.hm T.hln T.hlm T.hnc (T.at_.hv.later hB0) (T.at_.hr.later hB0)
 rw[hR]at hRt
 have HW:=Lib.hid (And.intro hW (And.intro hB0 (And.intro k0 (And.intro k1 hz))))
 have a0:W.cell? ⟨w.heap.size,0,none⟩=some (.slice A n c):=by rw[World.cell?,k0];rfl
 have a1:W.cell? ⟨w.heap.size,1,none⟩=some (.slice B m d):=by rw[World.cell?,k0];rfl
 clear T hR hB0 k0 k1 hz hW
 go_enter Tryz.func18,Tryz.ntmps18
 go_wp2_with fail
 simp only[HW.out.1]
 refine hRt.mono ?_
 rintro e wR ⟨rfl,hbR⟩
 have HG:=Lib.hid (KeepT.below hbR _ _ _ HW.out.2.2.2.1)
 have HP:=Lib.hid (setRow_heap wR _ _ #[.slice none 0 0,.slice none 0 0] _ (0,0) HG.out)
 have HF:Hid (Below w.heap.size w (wR.setRow (w.heap.size+1) #[.slice none 0 0,.slice none 0 0])):=below_setRow (aa HW.out.2.1 hbR) (by omega) _
 clear hbR hRt a0 a1
 go_wp2_with (refine wpList_store_row rfl 39 _ _ rfl rfl rfl az HG.out rfl rfl ?_)
 refine bodyPost_ret (ag rfl _ _ _ _ _ _ _ (.int .i64 2) rfl HP.out Tryz.underlying39 rfl az ?_) rfl (cu.nothing HF.out)
 rfl
theorem oI {vars:List ByteArray} {rows:List (List Tm)} {A B:Option Addr} {n c m d:Nat} {wb w:World} (T:dr wb w A B n c m d vars rows) (hR:aw vars rows=false) (Af:Option Addr) (mf cf:Nat) :
  Calls Tryz.prog 20 #[.agg #[.slice A n c,.slice B m d],.slice Af mf cf] w (cu wb 2 [] [] w):=by
 obtain⟨W,hW⟩:∃W:World,(w.alloc (.cells #[.slice A n c,.slice B m d] 39)).alloc (.cells #[.slice none 0 0,.slice none 0 0] 39)=W:=⟨_,rfl⟩
 obtain⟨hB0,k0,k1,hz⟩:=di hW
 have hRt:=bW vars rows A B n c m d W T.hn T.hm T.hln T.hlm T.hnc (T.at_.hv.later hB0) (T.at_.hr.later hB0)
 rw[hR]at hRt
 have HW:=Lib.hid (And.intro hW (And.intro hB0 (And.intro k0 (And.intro k1 hz))))
 have a0:W.cell? ⟨w.heap.size,0,none⟩=some (.slice A n c):=by rw[World.cell?,k0];rfl
 have a1:W.cell? ⟨w.heap.size,1,none⟩=some (.slice B m d):=by rw[World.cell?,k0];rfl
 clear T hR hB0 k0 k1 hz hW
 go_enter Tryz.func20,Tryz.ntmps20
 go_wp2_with fail
 simp only[HW.out.1]
 refine hRt.mono ?_
 rintro e wR ⟨rfl,hbR⟩
 have HG:=Lib.hid (KeepT.below hbR _ _ _ HW.out.2.2.2.1)
 have HP:=Lib.hid (setRow_heap wR _ _ #[.slice none 0 0,.slice none 0 0] _ (0,0) HG.out)
 have HF:Hid (Below w.heap.size w (wR.setRow (w.heap.size+1) #[.slice none 0 0,.slice none 0 0])):=below_setRow (aa HW.out.2.1 hbR) (by omega) _
 clear hbR hRt a0 a1
 go_wp2_with (refine wpList_store_row rfl 39 _ _ rfl rfl rfl az HG.out rfl rfl ?_)
 refine bodyPost_ret (ag rfl _ _ _ _ _ _ _ (.int .i64 2) rfl HP.out Tryz.underlying39 rfl az ?_) rfl (cu.nothing HF.out)
 rfl
theorem vd {vars:List ByteArray} {rows:List (List Tm)} {A B:Option Addr} {n c m d:Nat} {wb w:World} (T:dr wb w A B n c m d vars rows) (hR:aw vars rows=false) :
  Calls Tryz.prog 22 #[.agg #[.slice A n c,.slice B m d]] w (cu wb 2 [] [] w):=by
 obtain⟨W,hW⟩:∃W:World,(w.alloc (.cells #[.slice A n c,.slice B m d] 39)).alloc (.cells #[.slice none 0 0,.slice none 0 0] 39)=W:=⟨_,rfl⟩
 obtain⟨hB0,k0,k1,hz⟩:=di hW
 have hRt:=bW vars rows A B n c m d W T.hn T.hm T.hln T.hlm T.hnc (T.at_.hv.later hB0) (T.at_.hr.later hB0)
 rw[hR]at hRt
 have HW:=Lib.hid (And.intro hW (And.intro hB0 (And.intro k0 (And.intro k1 hz))))
 have a0:W.cell? ⟨w.heap.size,0,none⟩=some (.slice A n c):=by rw[World.cell?,k0];rfl
 have a1:W.cell? ⟨w.heap.size,1,none⟩=some (.slice B m d):=by rw[World.cell?,k0];rfl
 clear T hR hB0 k0 k1 hz hW
 go_enter Tryz.func22,Tryz.ntmps22
 go_wp2_with fail
 simp only[HW.out.1]
 refine hRt.mono ?_
 rintro e wR ⟨rfl,hbR⟩
 have HG:=Lib.hid (KeepT.below hbR _ _ _ HW.out.2.2.2.1)
 have HP:=Lib.hid (setRow_heap wR _ _ #[.slice none 0 0,.slice none 0 0] _ (0,0) HG.out)
 have HF:Hid (Below w.heap.size w (wR.setRow (w.heap.size+1) #[.slice none 0 0,.slice none 0 0])):=below_setRow (aa HW.out.2.1 hbR) (by omega) _
 clear hbR hRt a0 a1
 go_wp2_with (refine wpList_store_row rfl 39 _ _ rfl rfl rfl az HG.out rfl rfl ?_)
 refine bodyPost_ret (ag rfl _ _ _ _ _ _ _ (.int .i64 2) rfl HP.out Tryz.underlying39 rfl az ?_) rfl (cu.nothing HF.out)
 rfl
theorem sf {vars:List ByteArray} {rows:List (List Tm)} {A B:Option Addr} {n c m d:Nat} {wb w:World} (T:dr wb w A B n c m d vars rows) (hR:aw vars rows=false) (off lim:Int) :
  Calls Tryz.prog 24 #[.agg #[.slice A n c,.slice B m d],.int .i64 off,.int .i64 lim] w (cu wb 2 [] [] w):=by
 obtain⟨W,hW⟩:∃W:World,(w.alloc (.cells #[.slice A n c,.slice B m d] 39)).alloc (.cells #[.slice none 0 0,.slice none 0 0] 39)=W:=⟨_,rfl⟩
 obtain⟨hB0,k0,k1,hz⟩:=di hW
 have hRt:=bW vars rows A B n c m d W T.hn T.hm T.hln T.hlm T.hnc (T.at_.hv.later hB0) (T.at_.hr.later hB0)
 rw[hR]at hRt
 have HW:=Lib.hid (And.intro hW (And.intro hB0 (And.intro k0 (And.intro k1 hz))))
 have a0:W.cell? ⟨w.heap.size,0,none⟩=some (.slice A n c):=by rw[World.cell?,k0];rfl
 have a1:W.cell? ⟨w.heap.size,1,none⟩=some (.slice B m d):=by rw[World.cell?,k0];rfl
 clear T hR hB0 k0 k1 hz hW
 go_enter Tryz.func24,Tryz.ntmps24
 go_wp2_with fail
 simp only[HW.out.1]
 refine hRt.mono ?_
 rintro e wR ⟨rfl,hbR⟩
 have HG:=Lib.hid (KeepT.below hbR _ _ _ HW.out.2.2.2.1)
 have HP:=Lib.hid (setRow_heap wR _ _ #[.slice none 0 0,.slice none 0 0] _ (0,0) HG.out)
 have HF:Hid (Below w.heap.size w (wR.setRow (w.heap.size+1) #[.slice none 0 0,.slice none 0 0])):=below_setRow (aa HW.out.2.1 hbR) (by omega) _
 clear hbR hRt a0 a1
 go_wp2_with (refine wpList_store_row rfl 39 _ _ rfl rfl rfl az HG.out rfl rfl ?_)
 refine bodyPost_ret (ag rfl _ _ _ _ _ _ _ (.int .i64 2) rfl HP.out Tryz.underlying39 rfl az ?_) rfl (cu.nothing HF.out)
 rfl
theorem q9 {wb w W:World} {A B':Option Addr} {n c m' d':Nat} {vars:List ByteArray} {rows':List (List Tm)} {xs:List Value} (h0:wb.heap.size<=w.heap.size) (h3:W.heap[w.heap.size+1]?=some (Obj.cells #[.slice none 0 0,.slice none 0 0] 39 (0,0))) (h5:Below w.heap.size w W) (hn:vars.length=n) (hm:rows'.length=m') (hnc:n<=c) (hmd:m'<=d') (hv:∀W',StS wb w W'->Rd W' A (vars.map Value.string)) (hr:∀W',StS wb w W'->Rd W' B' xs) (hall:All 1 (fk wb w) xs rows') :
  cu wb 0 vars rows' w (.returned (.tuple #[.agg #[.slice A n c,.slice B' m' d'],.int .i64 0])) (W.setRow (w.heap.size+1) #[.slice A n c,.slice B' m' d'])/\(W.setRow (w.heap.size+1) #[.slice A n c,.slice B' m' d']).heap[w.heap.size+1]?=some (Obj.cells #[.slice A n c,.slice B' m' d'] 39 (0,0)):=by
 have hB:Below w.heap.size w (W.setRow (w.heap.size+1) #[.slice A n c,.slice B' m' d']):=below_setRow h5 (by omega) _
 have hS:StS wb w (W.setRow (w.heap.size+1) #[.slice A n c,.slice B' m' d']):=StS.below h0 hB
 subst hn
 subst hm
 exact⟨⟨A,c,B',d',rfl,hB,hnc,hmd,λW' k=>hv W' (hS.trans k),xs,λW' k=>hr W' (hS.trans k),hall.mono λ_ _ _ h=>h.on hS.2.2⟩,setRow_heap W _ _ _ _ (0,0) h3⟩
theorem qi {vars:List ByteArray} {rows:List (List Tm)} {A B:Option Addr} {n c m d:Nat} {wb w:World} (T:dr wb w A B n c m d vars rows) (hR:aw vars rows=true) (off lim:Int) :
  Calls Tryz.prog 24 #[.agg #[.slice A n c,.slice B m d],.int .i64 off,.int .i64 lim] w λe w'=>(¬ (off<0∨lim < -1)->cu wb 0 vars (gm off lim rows) w e w')/\((off<0∨lim < -1)->cu wb 6 [] [] w e w'):=by
 obtain⟨W,hW⟩:∃W:World,(w.alloc (.cells #[.slice A n c,.slice B m d] 39)).alloc (.cells #[.slice none 0 0,.slice none 0 0] 39)=W:=⟨_,rfl⟩
 obtain⟨hB0,k0,k1,hz⟩:=di hW
 have hRt:=bW vars rows A B n c m d W T.hn T.hm T.hln T.hlm T.hnc (T.at_.hv.later hB0) (T.at_.hr.later hB0)
 rw[hR]at hRt
 have hln:=T.hln
 have hlm:=T.hlm
 have hmd:=T.hmd
 have HT:=Lib.hid T
 have HW:=Lib.hid (And.intro hW (And.intro hB0 (And.intro k0 (And.intro k1 hz))))
 have a0:W.cell? ⟨w.heap.size,0,none⟩=some (.slice A n c):=by rw[World.cell?,k0];rfl
 have a1:W.cell? ⟨w.heap.size,1,none⟩=some (.slice B m d):=by rw[World.cell?,k0];rfl
 clear T hR hB0 k0 k1 hz hW
 go_enter Tryz.func24,Tryz.ntmps24
 go_wp2_with fail
 simp only[HW.out.1]
 refine hRt.mono ?_
 rintro e wR ⟨rfl,hbR⟩
 have HG:=Lib.hid (KeepT.below hbR _ _ _ HW.out.2.2.2.1)
 have HBR:=Lib.hid (aa HW.out.2.1 hbR)
 have c0:=ab a0 hbR
 have c1:=ab a1 hbR
 clear hbR hRt a0 a1
 by_cases hbad:off<0∨lim < -1
 ·have HP:=Lib.hid (setRow_heap wR _ _ #[.slice none 0 0,.slice none 0 0] _ (0,0) HG.out)
  have HF:Hid (Below w.heap.size w (wR.setRow (w.heap.size+1) #[.slice none 0 0,.slice none 0 0])):=below_setRow HBR.out (by omega) _
  have HBAD:=Lib.hid hbad
  by_cases ho:off<0
  ·have hd:decide (off<0)=true:=decide_eq_true ho
   clear hbad
   go_wp2_with (refine wpList_store_row rfl 39 _ _ rfl rfl rfl az HG.out rfl rfl ?_)
   refine bodyPost_ret (ag rfl _ _ _ _ _ _ _ (.int .i64 6) rfl HP.out Tryz.underlying39 rfl az ?_) rfl ⟨λh=>absurd HBAD.out h,λ_=>cu.nothing HF.out⟩
   rfl
  ·have hd:decide (off<0)=false:=decide_eq_false ho
   have hd2:decide (lim < -1)=true:=decide_eq_true (hbad.resolve_left ho)
   have hl:lim < -1:=hbad.resolve_left ho
   clear hbad
   go_wp2_with (refine wpList_store_row rfl 39 _ _ rfl rfl rfl az HG.out rfl rfl ?_)
   refine bodyPost_ret (ag rfl _ _ _ _ _ _ _ (.int .i64 6) rfl HP.out Tryz.underlying39 rfl az ?_) rfl ⟨λh=>absurd HBAD.out h,λ_=>cu.nothing HF.out⟩
   rfl
 ·have HBAD:=Lib.hid hbad
  have ho:¬ off<0:=λh=>hbad (.inl h)
  have hl:¬ lim < -1:=λh=>hbad (.inr h)
  have hd:decide (off<0)=false:=decide_eq_false ho
  have hd2:decide (lim < -1)=false:=decide_eq_false hl
  obtain⟨q,hq,hq2,hmin⟩:∃q:Nat,q<=m/\rows.drop off.toNat=rows.drop q/\min off (m:Int)=(q:Int):=by
   by_cases h:off<=m
   ·exact⟨off.toNat,by omega,rfl,by omega⟩
   ·have hm:=HT.out.hm
    exact⟨m,Nat.le_refl _,by rw[List.drop_eq_nil_of_le (by omega),List.drop_eq_nil_of_le (by omega)],by omega⟩
  have hrun:=gx (P:=Tryz.prog) Tryz.underlying23 Tryz.sizeOf69 B d q m hq
  have hdl:(rows.drop q).length=m-q:=by rw[List.length_drop,HT.out.hm]
  obtain⟨xs,hx1,hx2⟩:=HT.out.hr
  have hxl:xs.length=m*1:=by rw[hx2.len,HT.out.hm]
  have hrd:(∀W',StS wb w W'->Rd W' (oz 1 d q B) (xs.drop (q*1)))/\All 1 (fk wb w) (xs.drop (q*1)) (rows.drop q):=⟨λW' k=>(hx1 W' k).fromG hxl hmd hq,hx2.drop q⟩
  by_cases hlim:lim = -1
  ·have hq3:(lim != -1)=false:=by simp[hlim]
   obtain⟨hF,hP⟩:=q9 HT.out.hs HG.out HBR.out HT.out.hn hdl HT.out.hnc (Nat.sub_le_sub_right hmd q) HT.out.hv hrd.1 hrd.2
   have HCUT:Hid (gm off lim rows=rows.drop q):=by
    show _=_
    unfold gm
    rw[if_pos hlim,hq2]
   have HF:=Lib.hid hF
   have HP:=Lib.hid hP
   clear hF hP hrd hdl hq2 hbad hmd hx1 hx2 hxl
   go_wp2_with (refine wpList_store_row rfl 39 _ _ rfl rfl rfl az HG.out rfl rfl ?_)
   refine bodyPost_ret (ag rfl _ _ _ _ _ _ _ (.int .i64 0) rfl HP.out Tryz.underlying39 rfl az ?_) rfl ⟨λ_=>by rw[HCUT.out];exact HF.out,λh=>absurd h HBAD.out⟩
   rfl
  ·have hq3:(lim != -1)=true:=by simp[hlim]
   obtain⟨p,hp,hp2,hmin2⟩:∃p:Nat,p<=m-q/\(rows.drop q).take lim.toNat=(rows.drop q).take p/\min lim ((m-q:Nat):Int)=(p:Int):=by
    by_cases h:lim<=((m-q:Nat):Int)
    ·exact⟨lim.toNat,by omega,rfl,by omega⟩
    ·exact⟨m-q,Nat.le_refl _,by rw[List.take_of_length_le (by omega),List.take_of_length_le (by omega)],by omega⟩
   have hrun2:=ky (P:=Tryz.prog) Tryz.underlying23 Tryz.sizeOf69 (oz 1 d q B) (d-q) p (m-q) (by omega)
   obtain⟨hF,hP⟩:=q9 (m':=p) HT.out.hs HG.out HBR.out HT.out.hn (by rw[List.length_take,hdl];omega) HT.out.hnc (show p<=d-q by omega) HT.out.hv (λW' k=>(hrd.1 W' k).take (p*1)) (hrd.2.take p)
   have HCUT:Hid (gm off lim rows=(rows.drop q).take p):=by
    show _=_
    unfold gm
    rw[if_neg hlim,hq2,hp2]
   have HF:=Lib.hid hF
   have HP:=Lib.hid hP
   obtain⟨mq,hmq⟩:∃k,m-q=k:=⟨_,rfl⟩
   rw[hmq]at hrun hrun2 hmin2
   clear hF hP hrd hdl hq2 hbad hmd hx1 hx2 hxl hp2 hmq
   go_wp2_with (refine wpList_store_row rfl 39 _ _ rfl rfl rfl az HG.out rfl rfl ?_)
   refine bodyPost_ret (ag rfl _ _ _ _ _ _ _ (.int .i64 0) rfl HP.out Tryz.underlying39 rfl az ?_) rfl ⟨λ_=>by rw[HCUT.out];exact HF.out,λh=>absurd h HBAD.out⟩
   rfl
theorem BA {off lim:Int} {l:List (List Tm)} {r:List Tm} (h:r∈gm off lim l):r∈l:=by
 unfold gm at h
 split at h
 ·exact List.mem_of_mem_drop h
 ·exact List.mem_of_mem_drop (List.mem_of_mem_take h)
theorem BB (off lim:Int) (l:List (List Tm)):(gm off lim l).length<=l.length:=by
 unfold gm
 split
 ·rw[List.length_drop];omega
 ·rw[List.length_take,List.length_drop];omega
theorem Shape.txt {base:Nat} {w:World} {g i m:Nat} {v:Value} (hb:base<=g) (h:Holds w g m):Shape base w (w.setCell ⟨g,i,none⟩ v):=by
 obtain⟨cur,h1,_⟩:=h
 have hk:∀e,9≠e->KeepT e w (w.setCell ⟨g,i,none⟩ v):=λe he=>KeepT.setCell h1 he
 refine⟨(Below.refl _ _).setCell (p:=⟨g,i,none⟩) hb _,hk _ (by decide),⟨hk _ (by decide),hk _ (by decide)⟩,λk j x=>?_⟩
 obtain⟨c2,h3,h4⟩:=x
 exact⟨c2,hk _ (by decide) _ _ _ h3,h4⟩
theorem sn (base g n cap:Nat) (w:World) (hH:Holds w g cap) (hb:base<=g) (hn:n<=900000) (hc:n<=cap) (hc2:cap<=9223372036854775807) :
  Calls Tryz.prog 46 #[.slice (some ⟨g,0,none⟩) n cap] w λe w'=>(∃v,e=.returned v)/\Shape base w w':=by
 have hlt0:=hH.lt
 go_enter Tryz.func46,Tryz.ntmps46
 go_wp2
 obtain⟨m,hm⟩:∃m:Nat,m=min cap (n+12):=⟨_,rfl⟩
 have hmin:min (cap:Int) ((n:Int)+12)=(m:Int):=by omega
 simp only[hmin,Int.toNat_natCast]
 have hm1:m<=cap:=by omega
 have hm2:m<=n+12:=by omega
 clear hm hmin
 go_loopw [3] (λi wr=>∃k:Nat,k<=m/\i=.int .i64 k/\Hid (Shape base w wr)/\Holds wr g cap) (λi _=>m-(intOf i).toNat)
 case atStart=>exact⟨0,by omega,rfl,Shape.refl _ _,hH⟩
 case round =>
  obtain⟨k,hk,rfl,HS,hH⟩:=hrel
  have hsz:=HS.out.1.size
  by_cases hlt:k<m
  ·have hmk:=λW=>kC 2 (k:Int) W (by omega) (by omega) (by omega) (by omega)
   generalize mkT 2 (k:Int)=s at *
   go_wp2_with fail
   refine(hmk _).mono ?_
   rintro e w3 ⟨rfl,hb3⟩
   have hH3:=hH.below hb3
   obtain⟨u,hu⟩:=hH3.cell (i:=k) (by omega)
   have hf:=hH3.frozen (i:=k)
   have HH:=Lib.hid hH3
   have HS3:=Lib.hid (HS.out.trans (Shape.below (by omega) hb3))
   clear hH hH3 hb3
   go_wp2
   go_roundw
   case rel=>exact⟨k+1,by omega,by go_num,HS3.out.trans (Shape.txt hb HH.out),HH.out.set⟩
   case measure=>simp[intOf];omega
  ·go_wp2
   ((try simp only[Exit.inBlock,Exit.then]);refine Go.Great.bodyPost_end0 rfl rfl ?_)
   exact⟨⟨_,rfl⟩,HS.out⟩
theorem vw (base:Nat) (w:World):Calls Tryz.prog 46 #[.slice none 0 0] w λe w'=>(∃v,e=.returned v)/\Shape base w w':=by
 go_enter Tryz.func46,Tryz.ntmps46
 go_wp2
 simp only[show min (0:Int) 12=0 by decide,show max (0:Int) 0=0 by decide,show (0:Int).toNat=0 from rfl]
 go_loopw [3] (λi wr=>i=.int .i64 0/\wr=w) (λ_ _=>0)
 case atStart=>exact⟨rfl,rfl⟩
 case round =>
  obtain⟨rfl,rfl⟩:=hrel
  go_wp2
  ((try simp only[Exit.inBlock,Exit.then]);refine Go.Great.bodyPost_end0 rfl rfl ?_)
  exact⟨⟨_,rfl⟩,Shape.refl _ _⟩
theorem xY {w:World} {base n:Nat} {v:Value} {xs:List Value} (h:w.ownsRow base 9 1 v n xs) (hn:n<=900000) :
  Calls Tryz.prog 46 #[v] w λe w'=>(∃v,e=.returned v)/\Shape base w w':=by
 have h0:=h
 rcases h0.2 with ⟨rfl,-⟩|⟨g,cap,cur,rfl,-,-,hle,hcap,-,-⟩
 ·exact vw base w
 ·obtain⟨hH,hb⟩:=Holds.of_own h
  exact sn base g n cap w hH hb hn hle (by simpa[maxLen] using hcap)
theorem Cs {w:World} {base n:Nat} {v:Value} (h:mu base w [v] n) (hn:n<=900000) :
  Calls Tryz.prog 47 #[v] w λe w'=>(∃v,e=.returned v)/\Shape base w w':=by
 rcases h with h|⟨g,cap,h,h2,h3,h4,h5⟩
 ·injection h with h
  subst h
  exact vu base w
 ·injection h with h
  subst h
  exact vt base g n cap w h5 h2 hn h3 h4
def jQ (base:Nat) (w:World) (A:Option Addr) (rows:List (List Tm)):Prop:=∃xs,(xs=[]∨∃g o cur,A=some ⟨g,o,none⟩/\w.heap[g]?=some (Obj.cells cur 69 (0,0))/\∀j u,xs[j]?=some u->cur[o+j]?=some u)/\All 1 (λcs r=>mu base w cs r.length) xs rows
theorem jQ.on {base:Nat} {w w':World} {A:Option Addr} {rows:List (List Tm)} (h:jQ base w A rows) (hs:Shape base w w'):jQ base w' A rows:=by
 obtain⟨xs,h1,h2⟩:=h
 refine⟨xs,h1.imp id ?_,h2.mono λ_ _ _ x=>x.on hs⟩
 rintro⟨g,o,cur,e1,e2,e3⟩
 exact⟨g,o,cur,e1,hs.2.1 _ _ _ e2,e3⟩
theorem jQ.at_ {base:Nat} {w:World} {A:Option Addr} {rows:List (List Tm)} (h:jQ base w A rows) {k:Nat} {row:List Tm} (hr:rows[k]?=some row):∃g o v,A=some ⟨g,o,none⟩/\w.cell? ⟨g,o+k,none⟩=some v/\mu base w [v] row.length:=by
 obtain⟨xs,h1,h2⟩:=h
 obtain⟨cs,hl,hS,hx⟩:=h2.at_ hr
 match cs,hl with
 | [v],_ =>
  have h3:=hx 0 v rfl
  rw[Nat.mul_one,Nat.add_zero]at h3
  rcases h1 with h1|⟨g,o,cur,e1,e2,e3⟩
  ·rw[h1]at h3;cases h3
  ·exact⟨g,o,v,e1,by rw[World.cell?,e2];exact e3 _ _ h3,hS⟩
theorem cd.sh {base:Nat} {w:World} {v:Value} {rows:List (List Tm)} (h:cd base w v rows):∃A c,v=.slice A rows.length c/\rows.length<=c/\jQ base w A rows:=by
 obtain⟨A,c,xs,h1,h2,h3,h4⟩:=h
 refine⟨A,c,h1,h2,xs,h3.imp id ?_,h4.mono λ_ _ _ x=>x.sh⟩
 rintro⟨g,o,cur,e1,_,e3,e4⟩
 exact⟨g,o,cur,e1,e3,e4⟩
def cY (base:Nat) (w:World) (v0 v1:Value) (vars:List ByteArray) (rows:List (List Tm)):Prop:=w.ownsRow base 9 1 v0 vars.length (vars.map Value.string)/\cd base w v1 rows
theorem bz.out {N:Int} {vars:List ByteArray} {rows:List (List Tm)} {w w':World} {e:Ending} (h:bz N vars rows w e w'):∃v0 v1,e=.returned (.tuple #[.agg #[v0,v1],.int .i64 N])/\Below w.heap.size w w'/\cY w.heap.size w' v0 v1 (if N=0 then vars else []) (if N=0 then rows else []):=by
 obtain⟨v0,v1,h1,h2,h3,h4⟩:=h
 refine⟨v0,v1,h1,h2,?_⟩
 by_cases hN:N=0
 ·rw[if_pos hN,if_pos hN]
  exact h3 hN
 ·rw[if_neg hN,if_neg hN]
  obtain⟨rfl,rfl⟩:=h4 hN
  exact⟨World.ownsRow_nil _ _ _ _,none,0,[],rfl,Nat.le_refl _,.inl rfl,rfl⟩
theorem fb {base:Nat} {w:World} {v0 v1:Value} {vars:List ByteArray} {rows:List (List Tm)} (hT:cY base w v0 v1 vars rows) (hb:base<=w.heap.size) (hv:vars.length<=900000) (hr:rows.length<=900000) (hz:∀r∈rows,r.length<=900000) :
  Calls Tryz.prog 16 #[.agg #[v0,v1]] w λe w'=>(∃v,e=.returned v)/\Shape base w w':=by
 obtain⟨h0,h1⟩:=hT
 obtain⟨A1,c1,rfl,hc1,hsh⟩:=h1.sh
 obtain⟨A0,c0,rfl,hc0,_⟩:=own_slice h0
 obtain⟨m,hm⟩:∃m,rows.length=m:=⟨_,rfl⟩
 rw[hm]at hc1 hr ⊢
 obtain⟨W,hW⟩:∃W:World,w.alloc (.cells #[.slice A0 vars.length c0,.slice A1 m c1] 25)=W:=⟨_,rfl⟩
 have hB0:Below w.heap.size w W:=by rw[←hW];exact blw
 have k0:W.heap[w.heap.size]?=some (Obj.cells #[.slice A0 vars.length c0,.slice A1 m c1] 25 (0,0)):=by rw[←hW];exact heap_alloc_new _ _
 have a0:W.cell? ⟨w.heap.size,0,none⟩=some (.slice A0 vars.length c0):=by rw[World.cell?,k0];rfl
 have hS0:Shape base w W:=Shape.below hb hB0
 have hOv:=xY (own_below h0 hB0 (Nat.le_refl _)) hv
 have H:=Lib.hid (And.intro hm (And.intro hz (And.intro (hsh.on hS0) (And.intro hS0 k0))))
 have HW:=Lib.hid hW
 generalize vars.length=nv at *
 clear h0 h1 hsh hm hz hB0 hS0 hW k0
 go_enter Tryz.func16,Tryz.ntmps16
 go_wp2_with fail
 simp only[HW.out]
 go_wp2_with (go_at_call 46;refine hOv.mono ?_;rintro e w2 ⟨⟨v,rfl⟩,hS2⟩;have HS2:=Lib.hid hS2;clear hS2 hOv a0)
 go_loopw [2] (λi wr=>∃k:Nat,k<=m/\i=.int .i64 k/\Hid (Shape base W wr)) (λi _=>m-(intOf i).toNat)
 case atStart=>exact⟨0,by omega,rfl,HS2⟩
 case round =>
  obtain⟨k,hk,rfl,HS⟩:=hrel
  obtain⟨hm,hz,hsh,hS0,k0⟩:=H.out
  have kk:=HS.out.2.2.1.1 _ _ _ k0
  have a1:wr.cell? ⟨w.heap.size,1,none⟩=some (.slice A1 m c1):=by rw[World.cell?,kk];rfl
  by_cases hlt:k<m
  ·obtain⟨row,hrow⟩:∃row,rows[k]?=some row:=⟨_,List.getElem?_eq_getElem (by omega)⟩
   obtain⟨g,o,v,rfl,hcell,hO⟩:=(hsh.on HS.out).at_ hrow
   have hC:=Cs hO (hz row (List.mem_of_getElem? hrow))
   obtain⟨A5,n5,c5,rfl⟩:∃A n c,v=.slice A n c:=by
    rcases hO with h|⟨g5,cap5,h,_⟩
    ·injection h with h;exact⟨_,_,_,h⟩
    ·injection h with h;exact⟨_,_,_,h⟩
   clear hm hz hsh hS0 k0 kk hrow hO
   go_wp2_with (go_at_call 47;refine hC.mono ?_;rintro e w3 ⟨⟨v,rfl⟩,hS3⟩;have HS3:=Lib.hid (HS.out.trans hS3);clear hS3 hC hcell a1)
   go_roundw
   case rel=>exact⟨k+1,by omega,by go_num,HS3⟩
   case measure=>simp[intOf];omega
  ·have HF:Hid (Shape base w wr):=hS0.trans HS.out
   clear hm hz hsh hS0 k0 kk
   go_wp2
   ((try simp only[Exit.inBlock,Exit.then]);refine Go.Great.bodyPost_end0 rfl rfl ?_)
   exact⟨⟨_,rfl⟩,HF.out⟩
theorem vR (va vb:List ByteArray) (ra rb:List (List Tm)) (A B A2 B2:Option Addr) (n c m d n2 c2 m2 d2:Nat) (w:World) (hn:va.length=n) (hm:ra.length=m) (hn2:vb.length=n2) (hm2:rb.length=m2) (hln:n<=1000000) (hlm:m<=1000000) (hln2:n2<=1000000) (hlm2:m2<=1000000) (hz:∀r∈ra,r.length<=1000000) (hz2:∀r∈rb,r.length<=1000000)
  (hv:Rd w A (va.map Value.string)) (hr:RdRs w B ra) (hv2:Rd w A2 (vb.map Value.string)) (hr2:RdRs w B2 rb) :
  Calls Tryz.prog 15 #[.agg #[.slice A n c,.slice B m d],.agg #[.slice A2 n2 c2,.slice B2 m2 d2]] w λe w'=>e=.returned (.bool (decide (va=vb/\ra=rb)))/\Below w.heap.size w w':=by
 obtain⟨W,hW⟩:∃W:World,(w.alloc (.cells #[.slice A n c,.slice B m d] 25)).alloc (.cells #[.slice A2 n2 c2,.slice B2 m2 d2] 39)=W:=⟨_,rfl⟩
 have hB0:Below w.heap.size w W:=by rw[←hW];exact blw
 have k0:W.heap[w.heap.size]?=some (Obj.cells #[.slice A n c,.slice B m d] 25 (0,0)):=by rw[←hW];exact am _ _ _
 have k1:W.heap[w.heap.size+1]?=some (Obj.cells #[.slice A2 n2 c2,.slice B2 m2 d2] 39 (0,0)):=by rw[←hW];exact ai _ _ _
 have a0:W.cell? ⟨w.heap.size,0,none⟩=some (.slice A n c):=by rw[World.cell?,k0];rfl
 have a1:W.cell? ⟨w.heap.size,1,none⟩=some (.slice B m d):=by rw[World.cell?,k0];rfl
 have b0:W.cell? ⟨w.heap.size+1,0,none⟩=some (.slice A2 n2 c2):=by rw[World.cell?,k1];rfl
 have b1:W.cell? ⟨w.heap.size+1,1,none⟩=some (.slice B2 m2 d2):=by rw[World.cell?,k1];rfl
 have hT:=nE va vb A A2 c c2 W (hv.later hB0) (hv2.later hB0) (by omega) (by omega)
 rw[hn,hn2]at hT
 have hRw:=λV (h:Below W.heap.size W V)=>dq ra rb B B2 d d2 m m2 V hm hm2 hlm hlm2 hz hz2 ((hr.later hB0).later h) ((hr2.later hB0).later h)
 obtain⟨p,hp⟩:∃p,dT va vb=p:=⟨_,rfl⟩
 obtain⟨q,hq⟩:∃q,decide (ra=rb)=q:=⟨_,rfl⟩
 have hres:Hid (decide (va=vb/\ra=rb)=(p && q)):=by
  show _=_
  rw[←hp,←hq]
  unfold dT
  rw[Bool.decide_and]
 rw[hp]at hT
 rw[hq]at hRw
 have HB:=Lib.hid hB0
 have HW:=Lib.hid hW
 clear hn hm hn2 hm2 hz hz2 hv hr hv2 hr2 hp hq hW k0 k1 hB0
 go_enter Tryz.func15,Tryz.ntmps15
 go_wp2_with fail
 simp only[HW.out]
 cases p
 ·go_wp2_with (first|(go_at_call 45;refine hT.mono ?_;rintro e w1 ⟨rfl,hb1⟩)|fail)
  go_ret
  exact⟨by rw[hres.out];rfl,aa HB.out hb1⟩
 ·go_wp2_with (first|(go_at_call 45;refine hT.mono ?_;rintro e w1 ⟨rfl,hb1⟩;have hR1:=hRw w1 hb1;replace a1:=ab a1 hb1;replace b1:=ab b1 hb1;clear hRw hT)|(go_at_call 32;refine hR1.mono ?_;rintro e w2 ⟨rfl,hb2⟩)|fail)
  go_ret
  exact⟨by rw[hres.out];cases q<;>rfl,aa HB.out (aa hb1 hb2)⟩
theorem dX (A B:Option Addr) (n c m d:Nat) (w:World) :
  Calls Tryz.prog 12 #[.agg #[.slice A n c,.slice B m d]] w λe w'=>e=.returned (.agg #[.slice A n c,.slice B m d])/\Below w.heap.size w w':=by
 obtain⟨W,hW⟩:∃W:World,(w.alloc (.cells #[.slice A n c,.slice B m d] 25)).alloc (.cells #[.slice none 0 0,.slice none 0 0] 39)=W:=⟨_,rfl⟩
 have hB0:Below w.heap.size w W:=by rw[←hW];exact blw
 have k0:W.heap[w.heap.size]?=some (Obj.cells #[.slice A n c,.slice B m d] 25 (0,0)):=by rw[←hW];exact am _ _ _
 have k1:W.heap[w.heap.size+1]?=some (Obj.cells #[.slice none 0 0,.slice none 0 0] 39 (0,0)):=by rw[←hW];exact ai _ _ _
 have a0:W.cell? ⟨w.heap.size,0,none⟩=some (.slice A n c):=by rw[World.cell?,k0];rfl
 have a1:W.cell? ⟨w.heap.size,1,none⟩=some (.slice B m d):=by rw[World.cell?,k0];rfl
 have HG:=Lib.hid k1
 have HP:=Lib.hid (setRow_heap W _ _ #[.slice A n c,.slice B m d] _ (0,0) k1)
 have HF:Hid (Below w.heap.size w (W.setRow (w.heap.size+1) #[.slice A n c,.slice B m d])):=below_setRow hB0 (by omega) _
 have HW:=Lib.hid hW
 clear k0 k1 hB0 hW
 go_enter Tryz.func12,Tryz.ntmps12
 go_upto_region 1 with fail
 simp only[HW.out]
 go_wp2_with (first
  | (refine wpList_store_row rfl 39 _ _ rfl rfl rfl az HG.out rfl rfl ?_)
  | fail)
 exact bodyPost_ret (results_cell_row rfl _ _ _ _ _ _ _ rfl HP.out Tryz.underlying39 rfl az) rfl ⟨rfl,HF.out⟩
end Go.Proofs.YtjldjeenfnahoaaGreatDoor
