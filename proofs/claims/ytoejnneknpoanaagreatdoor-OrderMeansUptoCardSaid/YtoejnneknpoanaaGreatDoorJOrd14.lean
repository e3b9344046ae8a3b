/- The program's package order, walked: (*worker).project. -/
import Derived.Test.YtoejnneknpoanaaGreatDoorJOrd13
namespace Go.Proofs.YtoejnneknpoanaaGreatDoor
open Go Go.RowKit Fm Tx Om Mp
def projL (ps:List Int) (row:List Tm):List Tm:=ps.map λp=>row[p.toNat]!
def mixL (f:List Tm->List Tm) (rows:List (List Tm)) (k:Nat):List (List Tm):=(rows.take k).map f++rows.drop k
theorem mixL_len (f:List Tm->List Tm) (rows:List (List Tm)) (k:Nat):(mixL f rows k).length=rows.length:=by unfold mixL;simp;omega
theorem mixL_at {f:List Tm->List Tm} {rows:List (List Tm)} {k:Nat} {r:List Tm} (h:rows[k]?=some r):(mixL f rows k)[k]?=some r:=by
 have hk:k<rows.length:=(List.getElem?_eq_some_iff.1 h).1
 unfold mixL
 rw[List.getElem?_append_right (by simp;omega),List.getElem?_drop]
 simpa[Nat.min_eq_left (Nat.le_of_lt hk)] using h
theorem mixL_set {f:List Tm->List Tm} {rows:List (List Tm)} {k:Nat} {r:List Tm} (h:rows[k]?=some r):(mixL f rows k).set k (f r)=mixL f rows (k+1):=by
 have hk:k<rows.length:=(List.getElem?_eq_some_iff.1 h).1
 have hl:((rows.take k).map f).length=k:=by simp;omega
 unfold mixL
 rw[drop_cons_of h,take_snoc_of h,List.set_append_right _ _ (by omega),hl,Nat.sub_self,List.set_cons_zero,List.map_append,List.append_assoc]
 rfl
theorem mixL_end (f:List Tm->List Tm) (rows:List (List Tm)):mixL f rows rows.length=rows.map f:=by unfold mixL;simp
theorem All.set1 {α:Type} {R:List Value->α->Prop} {v:Value} {x:α} (hx:R [v] x):∀{l:List α} {vs:List Value} (_:All 1 R vs l) (k:Nat),All 1 R (vs.set k v) (l.set k x)
 | [],vs,h,k=>by
  obtain rfl:vs=[]:=h
  exact rfl
 | y::l,vs,h,k=>by
  obtain⟨cs,ys,rfl,hc,ho,ht⟩:=h
  match cs,hc with
  | [u],_ =>
   cases k with
   | zero=>exact⟨[v],ys,rfl,rfl,hx,ht⟩
   | succ k=>exact⟨[u],ys.set k v,rfl,rfl,ho,All.set1 hx ht k⟩
def projN (vars names:List ByteArray):Int:=if !decide names.Nodup then 9 else if (placesL vars names).contains (-1) then 15 else 0
theorem wk_vars {base b:Nat} {W:World} {va va' vr:Value} {names:List ByteArray} {rows:List (List Tm)} {qc:List Value} (hb:base<=b) (h1:W.heap[b]?=some (Obj.cells (va::vr::qc).toArray 110 (0,0))) (h2:W.ownsRow base 9 1 va' names.length (names.map Value.string)) (h3:OwnRs base W vr rows) :
  WkAt base (W.setCell ⟨b,0,none⟩ va') b names rows qc:=by
 have hk:∀e,110≠e->KeepT e W (W.setCell ⟨b,0,none⟩ va'):=λe he=>KeepT.setCell h1 he
 refine⟨hb,va',vr,?_,own_keep h2 (hk _ (by decide)),h3.keep (hk _ (by decide)) (hk _ (by decide))⟩
 have:=heap_setCell_at h1 0 va'
 simpa using this
def ProjS (W0:World) (b:Nat) (va vr vp:Value) (vars:List ByteArray) (qc:List Value) (ps:List Int) (l:List (List Tm)) (W:World):Prop:=
 W.heap[b]?=some (Obj.cells (va::vr::qc).toArray 110 (0,0))/\W.ownsRow W0.heap.size 9 1 va vars.length (vars.map Value.string)/\OwnRs W0.heap.size W vr l/\W.ownsRow W0.heap.size 3 1 vp ps.length (ps.map (Value.int .i64))/\Below W0.heap.size W0 W
theorem ProjS.on {W0 W W':World} {b:Nat} {va vr vp:Value} {vars:List ByteArray} {qc:List Value} {ps:List Int} {l:List (List Tm)} (h:ProjS W0 b va vr vp vars qc ps l W) (hb:Below W.heap.size W W'):ProjS W0 b va vr vp vars qc ps l W':=
 ⟨KeepT.below hb _ _ _ h.1,own_keep h.2.1 (KeepT.below hb),h.2.2.1.keep (KeepT.below hb) (KeepT.below hb),own_keep h.2.2.2.1 (KeepT.below hb),below_tr h.2.2.2.2 hb⟩
theorem ProjS.put {W0 W:World} {b k n g cap:Nat} {va vp v:Value} {vars:List ByteArray} {qc vs rest:List Value} {ps:List Int} {l:List (List Tm)} {x:List Tm} (h:ProjS W0 b va (.slice (some ⟨g,0,none⟩) n cap) vp vars qc ps l W) (hn:l.length=n) (hk:k<n) (hbg:W0.heap.size<=g) (hV:RowV g vs rest W) (hall:All 1 (OwnRow W0.heap.size W) vs l) (hcm:cap<=maxLen) (hrc:n+rest.length=cap) (hx:OwnRow W0.heap.size W [v] x) :
  ProjS W0 b va (.slice (some ⟨g,0,none⟩) n cap) vp vars qc ps (l.set k x) (W.setCell ⟨g,k,none⟩ v):=by
 obtain⟨h1,h2,h3,h4,h5⟩:=h
 have hl:=hall.len
 have hK:∀e,59≠e->KeepT e W (W.setCell ⟨g,k,none⟩ v):=λe he=>KeepT.setCell hV he
 refine⟨hK _ (by decide) _ _ _ h1,own_keep h2 (hK _ (by decide)),⟨vs.set k v,?_,(All.set1 hx hall k).mono λ_ _ _ y=>y.keep (hK _ (by decide))⟩,own_keep h4 (hK _ (by decide)),h5.setCell (p:=⟨g,k,none⟩) hbg _⟩
 have:=(hV.put (i:=k) (by omega) v).own hbg (n:=n) (by simp;omega) hrc hcm
 rw[List.length_set,hn]
 exact this
set_option maxHeartbeats 8000000 in
set_option maxRecDepth 100000 in
theorem ordProject (W0:World) (b:Nat) (vars names:List ByteArray) (rows:List (List Tm)) (q0 q1 q3 q4 q5 q6 q7:Value) (Av:Option Addr) (nq cq:Nat) (w:World) (hB:Below W0.heap.size W0 w)
  (hW:WkAt W0.heap.size w b vars rows [q0,q1,.slice Av nq cq,q3,q4,q5,q6,q7]) (hnq:names.length=nq) (hlq:nq<=1000000) (hcq:nq<=cq) (hrq:Rd W0 Av (names.map Value.string)) (hw:∀r∈rows,r.length=vars.length) (hlv:vars.length<=1000000) (hl:rows.length<=1000000) :
  Calls Tryz.prog 60 #[.pointer (some ⟨b,0,none⟩)] w λe w'=>(projN vars names≠0->StepR W0 b vars rows [q0,q1,.slice Av nq cq,q3,q4,q5,q6,q7] (projN vars names) e w')/\(projN vars names=0->StepR W0 b names (rows.map (projL (placesL vars names))) [q0,q1,.slice Av nq cq,q3,q4,q5,q6,q7] 0 e w'):=by
 obtain⟨ps,hps⟩:∃ps,placesL vars names=ps:=⟨_,rfl⟩
 have hpn:ps.length=nq:=by rw[←hps,←hnq];simp[placesL]
 have hpi:=@places_in vars names
 have hHW:=Lib.hid hW
 have hQ:Hid ((names.Nodup->ps.contains (-1)=false->projN vars names=0)/\(names.Nodup->ps.contains (-1)=true->projN vars names=15)/\(¬ names.Nodup->projN vars names=9)):=by
  unfold projN
  rw[hps]
  refine⟨λh1 h2=>?_,λh1 h2=>?_,λh1=>?_⟩
  ·rw[decide_eq_true h1,h2];rfl
  ·rw[decide_eq_true h1,h2];rfl
  ·rw[decide_eq_false h1];rfl
 obtain⟨hbb,va,vr,hblk,hva,hrs⟩:=hW
 obtain⟨Ag,cap,rfl,hnc,_⟩:=hrs.rd
 obtain⟨n,hn⟩:∃n,rows.length=n:=⟨_,rfl⟩
 rw[hn]at hblk hrs hl hnc
 have hU:=ordUnlike names Av cq nq w hnq (by omega) hcq (hrq.later hB)
 have hPl:Calls Tryz.prog 92 #[.pointer (some ⟨b,0,none⟩),.slice Av nq cq] w (NumsRo ps w):=by
  obtain⟨A1,cv,_,_,h0,_,hrv,_⟩:=hHW.out.cell0
  rw[←hps]
  exact ordPlaces vars names b vars.length cv nq cq A1 Av w rfl hnq hlv hlq h0 hrv (hrq.later hB)
 have c4:w.cell? ⟨b,4,none⟩=some (.slice Av nq cq):=by simp[World.cell?,hblk]
 rw[hps]at hpi ⊢
 generalize projN vars names=N at *
 have H:=Lib.hid (And.intro hbb (And.intro hblk (And.intro hva (And.intro hrs (And.intro hB (And.intro hw (And.intro hn (And.intro hnq (And.intro hrq hpi)))))))))
 clear hbb hblk hva hrs hB hw hn hnq hrq hpi hps hnc
 go_enter Tryz.func60,Tryz.ntmps60
 by_cases hnd:names.Nodup
 ·have hdd:decide names.Nodup=true:=decide_eq_true hnd
  rw[hdd]at hU
  have hQ2:Hid ((ps.contains (-1)=false->N=0)/\(ps.contains (-1)=true->N=15)):=⟨hQ.out.1 hnd,hQ.out.2.1 hnd⟩
  clear hdd hQ hnd
  go_wp2_with (first
   | (go_at_call 53;refine hU.mono ?_;rintro e w1 ⟨rfl,rfl⟩)
   | (go_at_call 92;refine hPl.mono ?_;rintro e w1 ⟨vp,rfl,hown,hb1⟩;rw[hpn]at hown;obtain⟨Ap,cp,rfl,_,hrp⟩:=own_slice hown;have HP:=Lib.hid (And.intro hown (And.intro hb1 hrp));clear hown hb1 hrp)
   | (go_at_call 94;fail))
  have hI:=hasInts ps (-1) Ap cp nq w1 hpn (by omega) (by have:=HP.out.2.2;exact this)
  obtain⟨t,ht⟩:∃t,ps.contains (-1)=t:=⟨_,rfl⟩
  have HT:=Lib.hid ht
  rw[ht]at hI
  have HPS:Hid (ProjS W0 b va (.slice Ag n cap) (.slice Ap nq cp) vars [q0,q1,.slice Av nq cq,q3,q4,q5,q6,q7] ps (mixL (projL ps) rows 0) w1):=by
   obtain⟨hbb,hblk,hva,hrs,hB,hw,hn,_⟩:=H.out
   obtain⟨ho,hb1,_⟩:=HP.out
   have e0:mixL (projL ps) rows 0=rows:=by unfold mixL;simp
   rw[e0]
   refine⟨KeepT.below hb1 _ _ _ hblk,own_keep hva (KeepT.below hb1),hrs.keep (KeepT.below hb1) (KeepT.below hb1),?_,below_tr hB hb1⟩
   rw[hpn]
   exact own_lower ho hB.size
  clear ht hU hPl c4
  cases t
  ·obtain rfl:=hQ2.out.1 HT.out
   clear hQ2
   refine hI.mono ?_
   rintro e w2 ⟨rfl,rfl⟩
   have hpl:=H.out.2.2.2.2.2.2.2.2.2 HT.out
   have c1:w1.cell? ⟨b,1,none⟩=some (.slice Ag n cap):=by simp[World.cell?,HPS.out.1]
   go_wp2
   go_loopw [31] (λi wr=>∃k:Nat,k<=n/\i=.int .i64 k/\Hid (ProjS W0 b va (.slice Ag n cap) (.slice Ap nq cp) vars [q0,q1,.slice Av nq cq,q3,q4,q5,q6,q7] ps (mixL (projL ps) rows k) wr)) (λi _=>n-(intOf i).toNat)
   case atStart=>exact⟨0,by omega,rfl,HPS⟩
   case round =>
    obtain⟨k,hk,rfl,HK⟩:=hrel
    by_cases hlt:k<n
    ·obtain⟨row,hrow⟩:∃r,rows[k]?=some r:=⟨_,List.getElem?_eq_getElem (by rw[H.out.2.2.2.2.2.2.1];exact hlt)⟩
     have hml:(mixL (projL ps) rows k).length=n:=by rw[mixL_len];exact H.out.2.2.2.2.2.2.1
     obtain⟨vs,hvown,hall⟩:=HK.out.2.2.1
     rw[hml]at hvown
     rcases RowV.of_own hvown with ⟨_,h0,_⟩|⟨g,cap',rest,e0,hbg,hV,_,hcm,hxn,hrc⟩
     ·omega
     simp only[Value.slice.injEq]at e0
     obtain⟨rfl,-,rfl⟩:=e0
     obtain⟨cs,_,hor,hcs⟩:=hall.at_ (mixL_at (f:=projL ps) hrow)
     obtain⟨A,c,rfl,hlc,hrd⟩:=hor.rd
     have hvk:vs[k]?=some (.slice A row.length c):=by
      have:=hcs 0 _ rfl
      simpa using this
     have cg:=hV.cell hvk
     have hrl:row.length=vars.length:=H.out.2.2.2.2.2.1 row (List.mem_of_getElem? hrow)
     obtain⟨m,hm⟩:∃m,row.length=m:=⟨_,rfl⟩
     rw[hm]at hvk cg hlc hrl
     obtain⟨V,hVe⟩:∃V,V=wr:=⟨_,rfl⟩
     subst hVe
     have HR:=Lib.hid (And.intro hrow (And.intro hml (And.intro hall (And.intro hbg (And.intro hV (And.intro hcm (And.intro hrc (And.intro hrd hm))))))))
     have HS0:Hid (V.ownsRow V.heap.size 76 4 (.slice none 0 0) 0 ((projL (ps.take 0) row).flatMap tmC)/\Below V.heap.size V V):=⟨World.ownsRow_nil _ _ _ _,Below.refl _ _⟩
     clear hrow hml hall hbg hV hcm hrc hrd hm hvown hxn hcs hor hvk HPS
     go_wp2
     go_loopw [6,38] (λv i wr=>∃j:Nat,j<=nq/\i=.int .i64 j/\Hid (wr.ownsRow V.heap.size 76 4 v j ((projL (ps.take j) row).flatMap tmC)/\Below V.heap.size V wr)) (λ_ i _=>nq-(intOf i).toNat)
     case atStart=>exact⟨0,by omega,rfl,HS0⟩
     case round =>
      clear HS0
      obtain⟨j,hj,rfl,HJ⟩:=hrel
      obtain⟨A6,c6,rfl,_,_⟩:=own_slice HJ.out.1
      by_cases hjt:j<nq
      ·obtain⟨p,hp⟩:∃p,ps[j]?=some p:=⟨_,List.getElem?_eq_getElem (by rw[hpn];exact hjt)⟩
       obtain⟨q1',q2'⟩:=hpl p (List.mem_of_getElem? hp)
       obtain⟨q,rfl⟩:∃q:Nat,p=(q:Int):=⟨p.toNat,by omega⟩
       obtain⟨A8,c8,e8,_,hrp⟩:=own_slice (own_keep HK.out.2.2.2.1 (KeepT.below HJ.out.2))
       simp only[Value.slice.injEq]at e8
       obtain⟨rfl,-,rfl⟩:=e8
       obtain⟨gp,op,rfl,hcp⟩:=hrp.at_ (j:=j) (u:=.int .i64 q) (by rw[List.getElem?_map,hp];rfl)
       obtain⟨x,hx⟩:∃x,row[q]?=some x:=⟨_,List.getElem?_eq_getElem (by rw[HR.out.2.2.2.2.2.2.2.2];omega)⟩
       obtain⟨g1,o1,rfl,a0,a1,a2,a3⟩:=(RdTs.later HR.out.2.2.2.2.2.2.2.1 HJ.out.2).at4 hx
       have hqm:(q:Int)<(m:Int):=by omega
       have hsn:Hid ((projL (ps.take (j+1)) row).flatMap tmC=(projL (ps.take j) row).flatMap tmC++[.int .i64 x.k,.string x.x,.string x.l,.string x.y]):=by
        show _=_
        rw[take_snoc_of hp]
        unfold projL
        rw[List.map_append,List.flatMap_append]
        show _++[row[(q:Int).toNat]!].flatMap tmC=_
        rw[Int.toNat_natCast,List.getElem!_of_getElem? hx]
        rfl
       have hown:=HJ.out.1.alloc (.cells #[.int .i64 x.k,.string x.x,.string x.l,.string x.y] 76)
       have hzz:=HJ.out.2.size
       clear hx hp hrp
       go_wp2_with (at_builtin;refine wpList_appG rfl rfl Tryz.underlying59 tmInfo rfl (by omega) rfl hown rfl (Rd.of_block (heap_alloc_new wr _) rfl) rfl (by intro u hu;simp only[List.mem_cons,List.not_mem_nil,or_false]at hu;rcases hu with rfl|rfl|rfl|rfl<;>rfl) (by omega) (by omega) (by simp;omega) ?_;intro v' w6 own6 hb6 hg6)
       have HF:Hid (w6.ownsRow V.heap.size 76 4 v' (j+1) ((projL (ps.take (j+1)) row).flatMap tmC)/\Below V.heap.size V w6):=⟨by rw[hsn.out];exact own6,(HJ.out.2.alloc hzz _).trans hb6⟩
       clear own6 hb6 hg6 hown
       go_roundw
       case rel=>exact⟨j+1,by omega,by go_num,HF⟩
       case measure=>simp[intOf];omega
      ·obtain rfl:j=nq:=by omega
       have hS2:=HK.out.on HJ.out.2
       have hpr:OwnRow W0.heap.size wr [.slice A6 j c6] (projL ps row):=by
        refine⟨_,rfl,?_⟩
        have h1:=HJ.out.1
        rw[List.take_of_length_le (by omega)]at h1
        rw[show (projL ps row).length=j by unfold projL;rw[List.length_map,hpn]]
        exact own_lower h1 HK.out.2.2.2.2.size
       obtain⟨hrow,hml,hall,hbg,hV,hcm,hrc,_,_⟩:=HR.out
       have hV2:RowV g vs rest wr:=KeepT.below HJ.out.2 _ _ _ hV
       have hP3:=hS2.put (k:=k) hml hlt hbg hV2 (hall.mono λ_ _ _ y=>y.keep (KeepT.below HJ.out.2)) hcm hrc hpr
       rw[mixL_set hrow]at hP3
       have HP3:=Lib.hid hP3
       have cgk:wr.cell? ⟨g,k,none⟩=some (.slice A m c):=cell_on cg HJ.out.2
       have fgk:=hV2.frozen k
       have cb1:wr.cell? ⟨b,1,none⟩=some (.slice (some ⟨g,0,none⟩) n cap):=by simp[World.cell?,hS2.1]
       clear hrow hml hall hbg hV hcm hrc hV2 hP3 hS2 hpr cg
       go_wp2
       go_roundw
       case rel=>exact⟨k+1,by omega,by go_num,HP3⟩
       case measure=>simp[intOf];omega
    ·obtain rfl:k=n:=by omega
     have hCl:=cloneTxts names Av cq wr (H.out.2.2.2.2.2.2.2.2.1.later HK.out.2.2.2.2) (by rw[H.out.2.2.2.2.2.2.2.1];omega)
     rw[H.out.2.2.2.2.2.2.2.1]at hCl
     have c4:wr.cell? ⟨b,4,none⟩=some (.slice Av nq cq):=by simp[World.cell?,HK.out.1]
     clear HPS
     go_wp2_with (go_at_call 98;refine hCl.mono ?_;rintro e w9 ⟨v9,rfl,own9,hb9⟩;obtain⟨A9,c9,rfl,_,_⟩:=own_slice own9;have HC:=Lib.hid (And.intro own9 hb9);have c0:w9.cell? ⟨b,0,none⟩=some va:=(by rw[World.cell?,KeepT.below hb9 _ _ _ HK.out.1];rfl);have f0:w9.frozen? ⟨b,0,none⟩=false:=Lib.frozen_of_heap (KeepT.below hb9 _ _ _ HK.out.1) 0;clear own9 hb9)
     have HF:Hid (StepR W0 b names (rows.map (projL ps)) [q0,q1,.slice Av nq cq,q3,q4,q5,q6,q7] 0 (.returned (.int .i64 0)) (w9.setCell ⟨b,0,none⟩ (.slice A9 nq c9))):=by
      obtain⟨own9,hb9⟩:=HC.out
      have h:=HK.out.on hb9
      have hnm:=H.out.2.2.2.2.2.2.2.1
      rw[←H.out.2.2.2.2.2.2.1,mixL_end]at h
      refine⟨rfl,wk_vars H.out.1 h.1 ?_ h.2.2.1,h.2.2.2.2.setCell (p:=⟨b,0,none⟩) H.out.1 _⟩
      rw[hnm]
      exact own_lower own9 HK.out.2.2.2.2.size
     clear c0 f0 HC
     go_wp2
     go_ret
     first|exact HF.out|exact⟨λh=>absurd rfl h,λ_=>HF.out⟩
  ·obtain rfl:=hQ2.out.2 HT.out
   have HF:Hid (StepR W0 b vars rows [q0,q1,.slice Av nq cq,q3,q4,q5,q6,q7] 15 (.returned (.int .i64 15)) w1):=⟨rfl,hHW.out.on HP.out.2.1,below_tr H.out.2.2.2.2.1 HP.out.2.1⟩
   refine hI.mono ?_
   rintro e w2 ⟨rfl,rfl⟩
   go_wp2
   go_ret
   exact⟨λ_=>HF.out,λh=>by cases h⟩
 ·have hdd:decide names.Nodup=false:=decide_eq_false hnd
  rw[hdd]at hU
  obtain rfl:=hQ.out.2.2 hnd
  have HF:Hid (StepR W0 b vars rows [q0,q1,.slice Av nq cq,q3,q4,q5,q6,q7] 9 (.returned (.int .i64 9)) w):=⟨rfl,hHW.out,H.out.2.2.2.2.1⟩
  clear hdd hQ hnd
  go_wp2_with (go_at_call 53;refine hU.mono ?_;rintro e w1 ⟨rfl,rfl⟩)
  go_ret
  exact⟨λ_=>HF.out,λh=>by cases h⟩
end Go.Proofs.YtoejnneknpoanaaGreatDoor
