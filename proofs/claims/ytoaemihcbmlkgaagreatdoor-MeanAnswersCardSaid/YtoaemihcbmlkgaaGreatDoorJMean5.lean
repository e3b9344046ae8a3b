/- mean.Rows, walked: for a table that is right, keys and names -/
import Derived.Test.YtoaemihcbmlkgaaGreatDoorJLaw29e
namespace Go.Proofs.YtoaemihcbmlkgaaGreatDoor
open Go Go.RowKit Um Fm Lx Mt Tx Om Mp
theorem sort_eq {vars:List ByteArray} {keys:List Ky} (h:sortN vars keys=0) (rows:List (List Tm)):(placesL vars (keys.map (·.v))).contains (-1)=false/\sortL vars keys rows=sortK (keysP (placesL vars (keys.map (·.v))) keys) rows:=by
 cases hc:(placesL vars (keys.map (·.v))).contains (-1) with
 | true =>
  unfold sortN at h
  rw[if_pos hc]at h
  cases h
 | false =>
  unfold sortL
  rw[if_neg (by rw[hc];decide)]
  exact⟨rfl,rfl⟩
theorem proj_eq {vars names:List ByteArray} (h:projN vars names=0):(placesL vars names).contains (-1)=false:=by
 unfold projN at h
 by_cases h1:(!decide names.Nodup)=true
 ·rw[if_pos h1]at h;cases h
 ·rw[if_neg h1]at h
  cases hc:(placesL vars names).contains (-1) with
  | false=>rfl
  | true=>rw[if_pos hc]at h;cases h
def GoodM (vars:List ByteArray) (rows:List (List Tm)):Prop:=vars.length<=200/\rows.length<=10000/\∀r∈rows,r.length<=200/\∀t∈r,smallT t
theorem GoodM.small {vars:List ByteArray} {rows:List (List Tm)} (h:GoodM vars rows):∀r∈rows,smallRow r:=λr hr=>⟨by have:=(h.2.2 r hr).1;omega,(h.2.2 r hr).2⟩
def MeanZ (L:List (List Tm)) (w:World) (e:Ending) (w':World):Prop:=∃A c,e=.returned (.slice A L.length c)/\L.length<=c/\RdRs w' A L/\Below w.heap.size w w'/\∀a,A=some a->w.heap.size<=a.block
theorem sub_fresh {sz c m B:Nat} {A A':Option Addr} (h:∀a,A=some a->B<=a.block) (e:subG sz c m A=A'):∀a,A'=some a->B<=a.block:=λa ha=>by
 unfold subG at e
 split at e
 ·rw[←e]at ha;exact h a ha
 ·rw[←e]at ha
  obtain⟨b,hb,rfl⟩:=Option.map_eq_some_iff.1 ha
  have hb2:(b.add (m*sz)).block=b.block:=by unfold Addr.add;split<;>rfl
  rw[hb2]
  exact h b hb
theorem keep_take {vars:List ByteArray} {nf:Nat} {fils:List (ExT nf)} {rows:List (List Tm)} {k:Nat}:(keepL vars nf fils (rows.take k)).length<=rows.length:=Nat.le_trans (keep_len _ _ _ _) (by rw[List.length_take];omega)
set_option maxHeartbeats 16000000 in
set_option maxRecDepth 100000 in
theorem meanRows {n:Nat} (q:Qy n) (vars:List ByteArray) (rows:List (List Tm)) (a1 a2 a3 a4:Option Addr) (c1 c2 c3 c4:Nat) (Av B:Option Addr) (cv d:Nat) (w:World) (hC:CtxT w) (hR:rightT vars rows=true) (hN:sortN vars q.ord=0) (hp:projN vars q.vars=0) (ho:0<=q.off) (hm : -1<=q.lim) (hg:GoodM vars rows) (z1:q.vars.length<=200) (z2:q.fils.length<=200) (z3:q.ord.length<=200) (hzf:∀x∈q.fils,szE n x) (r1:Rd w a1 (q.vars.map Value.string)) (rf:RdEs n w a3 q.fils) (rk:RdKey w a4 q.ord) (hv:Rd w Av (vars.map Value.string)) (hr:RdRs w B rows) :
  Calls Tryz.prog 34 #[.agg #[.bool q.ask,.bool q.dist,.slice a1 q.vars.length c1,.slice a2 q.pats.length c2,.slice a3 q.fils.length c3,.slice a4 q.ord.length c4,.int .i64 q.lim,.int .i64 q.off],.slice Av vars.length cv,.slice B rows.length d] w (MeanZ (cutL q.off q.lim (ans4 vars q.vars n q.fils q.ord q.dist rows)) w):=by
 obtain⟨W,hW⟩:∃W:World,(w.alloc (.cells #[.bool q.ask,.bool q.dist,.slice a1 q.vars.length c1,.slice a2 q.pats.length c2,.slice a3 q.fils.length c3,.slice a4 q.ord.length c4,.int .i64 q.lim,.int .i64 q.off] 50)).alloc (.cells #[.slice Av vars.length cv] 130)=W:=⟨_,rfl⟩
 have hB0:Below w.heap.size w W:=by rw[←hW];exact blw
 have hqb:W.heap[w.heap.size]?=some (Obj.cells #[.bool q.ask,.bool q.dist,.slice a1 q.vars.length c1,.slice a2 q.pats.length c2,.slice a3 q.fils.length c3,.slice a4 q.ord.length c4,.int .i64 q.lim,.int .i64 q.off] 50 (0,0)):=by rw[←hW];exact heap_two_1 _ _ _
 have htb:W.heap[w.heap.size+1]?=some (Obj.cells #[.slice Av vars.length cv] 130 (0,0)):=by rw[←hW];exact heap_two_2 _ _ _
 have hlv:=hg.1
 have hlr:=hg.2.1
 have hww:=right_rows hR
 have H:=Lib.hid (And.intro (hC.step hB0) (And.intro hww (And.intro hg (And.intro hzf (And.intro (r1.later hB0) (And.intro (RdEs.later rf hB0) (And.intro (RdL.mono rk hB0 (λ_ _ _ h=>h)) (And.intro (hv.later hB0) (And.intro (hr.later hB0) (And.intro hqb (And.intro htb hB0)))))))))))
 have HP:=Lib.hid (And.intro hN (And.intro hp (And.intro ho hm)))
 obtain⟨D,hD⟩:∃L,ans4 vars q.vars n q.fils q.ord q.dist rows=L:=⟨_,rfl⟩
 rw[hD]
 have HD:=Lib.hid hD
 have HW:=Lib.hid hW
 have H0:Hid (OwnRs W.heap.size W (.slice none 0 0) (keepL vars n q.fils (rows.take 0))/\Below W.heap.size W W):=⟨OwnRs.nil _ _,Below.refl _ _⟩
 clear hC hR hN hp ho hm hg hzf r1 rf rk hv hr hB0 hqb htb hW hww hD
 go_enter Tryz.func34,Tryz.ntmps34
 go_wp2_with fail
 simp only[HW.out]
 go_loopw [8,10,11,22] (λl u v i wr=>∃k:Nat,k<=rows.length/\i=.int .i64 k/\Hid (OwnRs W.heap.size wr l (keepL vars n q.fils (rows.take k))/\Below W.heap.size W wr)) (λ_ _ _ i _=>rows.length-(intOf i).toNat)
 case atStart=>exact⟨0,by omega,rfl,H0⟩
 case round =>
  clear H0
  obtain⟨k,hk,rfl,HK⟩:=hrel
  obtain⟨hC,hww,hg,hzf,r1,rf,rk,hv,hr,hqb,htb,hB0⟩:=H.out
  have hB:=HK.out.2
  obtain⟨xs,own,hall⟩:=HK.out.1
  obtain⟨Al,cl,rfl,hcl,hrl⟩:=own_slice own
  have hkl:=keep_take (vars:=vars) (nf:=n) (fils:=q.fils) (rows:=rows) (k:=k)
  by_cases hlt:k<rows.length
  ·obtain⟨r,hr1⟩:∃r,rows[k]?=some r:=⟨_,List.getElem?_eq_getElem hlt⟩
   have hmr:=List.mem_of_getElem? hr1
   obtain⟨g,o,Ar,cr,rfl,hcr,hle,hrr⟩:=(hr.later hB).at1 hr1
   have hrn:=hww r hmr
   rw[hrn]at hcr hle
   have tb0:wr.cell? ⟨w.heap.size+1,0,none⟩=some (.slice Av vars.length cv):=by rw[World.cell?,KeepT.below hB _ _ _ htb];rfl
   have qb4:wr.cell? ⟨w.heap.size,4,none⟩=some (.slice a3 q.fils.length c3):=by rw[World.cell?,KeepT.below hB _ _ _ hqb];rfl
   have hFu:=meanFull r Av Ar cv vars.length cr wr hrn (by omega) hle hrr
   have hst:=keep_step (vars:=vars) (nf:=n) (fils:=q.fils) hr1
   have HX:=Lib.hid (And.intro own (And.intro hall (And.intro hB (And.intro hmr hst))))
   clear hC hww hg hzf r1 rf rk hv hr hqb htb hB0 hB own hall hr1 hmr hrr hle hst hcl hrl
   go_upto_region 7 with (go_at_call 68;refine hFu.mono ?_;rintro e w2 ⟨v2,rfl,own2,hb2⟩;obtain⟨A2,c2',rfl,hc2,hr2⟩:=own_slice own2;clear hFu;replace qb4:=cell_on qb4 hb2;clear tb0 hcr)
   obtain⟨hC,hww,hg,hzf,r1,rf,rk,hv,hr,hqb,htb,hB0⟩:=H.out
   have hbW:=below_tr HX.out.2.2.1 hb2
   have hK:=filKeeps vars r (by omega) (by omega) (λu hu=>Nat.le_trans ((hg.2.2 r HX.out.2.2.2.1).2 u hu).1 (by decide)) n q.fils a3 Av A2 c3 cv c2' w2 (hv.later hbW) (RdTs.of hr2) (RdEs.later rf hbW) (by omega) hzf
   rw[hrn]at hK hc2 own2
   have hs2:=hb2.size
   have HY:=Lib.hid (And.intro own2 hb2)
   clear hC hww hg hzf r1 rf rk hv hr hqb htb hB0 hbW own2 hb2 hr2
   cases hfl:failsI vars r n q.fils
   case true =>
    rw[hfl]at hK
    have HS:Hid (keepL vars n q.fils (rows.take (k+1))=keepL vars n q.fils (rows.take k)):=by
     show _=_
     rw[HX.out.2.2.2.2,hfl,if_pos rfl,List.append_nil]
    clear hfl
    go_wp2_with (go_at_call 16;refine hK.mono ?_;rintro e w3 ⟨rfl,hb3⟩;have HF:=Lib.hid (below_tr HY.out.2 hb3);clear hb3 hK qb4)
    go_roundw
    case rel=>exact⟨k+1,by omega,by go_num,by rw[HS.out];exact⟨⟨xs,own_below HX.out.1 HF.out (Nat.le_refl _),HX.out.2.1.mono λ_ _ _ h=>h.keep (KeepT.below HF.out)⟩,below_tr HX.out.2.2.1 HF.out⟩⟩
    case measure=>simp[intOf];omega
   case false =>
    rw[hfl]at hK
    have HS:Hid (keepL vars n q.fils (rows.take (k+1))=keepL vars n q.fils (rows.take k)++[r]):=by
     show _=_
     rw[HX.out.2.2.2.2,hfl,if_neg (by decide)]
    clear hfl
    go_upto_region 8 with (go_at_call 16;refine hK.mono ?_;rintro e w3 ⟨rfl,hb3⟩;have HF:=Lib.hid hb3;clear hb3 hK qb4)
    have hal:Below w3.heap.size w3 (w3.alloc (.cells #[.slice A2 vars.length c2'] 36)):=blw
    have hbV:=below_tr HY.out.2 (below_tr HF.out hal)
    have own5:=own_below HX.out.1 hbV (Nat.le_refl _)
    have hin:Tryz.prog.underlying 33=some (.slice 36):=Tryz.underlying33
    have hrow:OwnRow W.heap.size (w3.alloc (.cells #[.slice A2 vars.length c2'] 36)) [.slice A2 vars.length c2'] r:=⟨_,rfl,by rw[hrn];exact own_lower (own_below HY.out.1 (below_tr HF.out hal) (Nat.le_refl _)) HX.out.2.2.1.size⟩
    have hbs:W.heap.size<=w3.heap.size:=Nat.le_trans HX.out.2.2.1.size (below_tr HY.out.2 HF.out).size
    have HV:=Lib.hid (And.intro hbV hrow)
    clear hal hbV hrow
    go_wp2_with (at_builtin;refine wpList_appG rfl rfl hin rowInfo rfl (by omega) rfl own5 rfl (Rd.of_block (heap_alloc_new w3 _) rfl) rfl (by intro u hu;simp only[List.mem_cons,List.not_mem_nil,or_false]at hu;subst hu;rfl) (by omega) (by omega) (by simp;omega) ?_;intro v' w6 own6 hb6 hg6;have HF6:=Lib.hid (And.intro (rows_push HX.out.1 HX.out.2.1 HV.out.1 HV.out.2 own6 hg6) ((below_tr HX.out.2.2.1 HV.out.1).trans hb6));clear own6 hb6 hg6 own5)
    go_roundw
    case rel=>exact⟨k+1,by omega,by go_num,by rw[HS.out];exact HF6.out⟩
    case measure=>simp[intOf];omega
  ·obtain rfl:k=rows.length:=by omega
   clear hlt
   have hE:rows.take rows.length=rows:=List.take_of_length_le (Nat.le_refl _)
   obtain⟨KL,hKL⟩:∃L,keepL vars n q.fils rows=L:=⟨_,rfl⟩
   rw[hE,hKL]at own hall hcl hkl ⊢
   have hKm:∀r∈KL,r∈rows:=λr hr=>by rw[←hKL]at hr;exact keep_mem hr
   obtain⟨hnc,hse⟩:=sort_eq HP.out.1 KL
   have hSo:=meanSort W hC vars q.ord (w.heap.size+1) w.heap.size vars.length cv q.ord.length c4 KL.length Av a4 (.slice Al KL.length cl) KL _ wr hB ⟨xs,own,hall⟩ rfl (by omega) (λr hr=>hg.small r (hKm r hr)) (λr hr=>hww r (hKm r hr)) rfl rfl (by omega) (by omega) (places_in hnc) hv rk (KeepT.below hB _ _ _ htb) (KeepT.below hB _ _ _ hqb) rfl
   rw[←hse]at hSo
   have hSm:∀r∈sortL vars q.ord KL,r∈rows:=λr hr=>hKm r ((sortL_perm _ _ _).mem_iff.1 hr)
   have hSl:=(sortL_perm vars q.ord KL).length_eq
   obtain⟨SL,hSL⟩:∃L,sortL vars q.ord KL=L:=⟨_,rfl⟩
   rw[hSL]at hSo hSm hSl
   have HS:=Lib.hid (And.intro hKL (And.intro hSL (And.intro hSm hSl)))
   have hkn:KL.length<=10000:=by omega
   clear hC hww hg hzf r1 rf rk hv hr hqb htb hB0 hB own hall hcl hrl hkl hE hKL hKm hnc hse hSL hSm hSl HK
   go_upto_region 11 with (go_at_call 69;refine hSo.mono ?_;rintro e w5 ⟨rfl,hb5,-,own5⟩;clear hSo)
   obtain⟨A5,c5,e5,hc5,hrd5⟩:=own5.rd
   rw[HS.out.2.2.2]at e5
   injection e5 with e5 _ e6
   subst e5;subst e6
   have HB5:=Lib.hid hb5
   have HR5:=Lib.hid hrd5
   have H1:Hid (OwnRs w5.heap.size w5 (.slice none 0 0) ((SL.take 0).map (projL (placesL vars q.vars)))/\Below w5.heap.size w5 w5):=⟨OwnRs.nil _ _,Below.refl _ _⟩
   have hnp:(placesL vars q.vars).length=q.vars.length:=by unfold placesL;rw[List.length_map]
   have hpi:=places_in (proj_eq HP.out.2.1)
   have hpk:∀k (y:ByteArray),q.vars[k]?=some y->(placesL vars q.vars)[k]?=some (Lib.idxOfS vars y):=λk y h=>by unfold placesL;rw[List.getElem?_map,h];rfl
   obtain⟨ps,hps⟩:∃ps,placesL vars q.vars=ps:=⟨_,rfl⟩
   rw[hps]at hnp hpi hpk H1
   have HPS:=Lib.hid (And.intro hps (And.intro hnp (And.intro hpi hpk)))
   clear hb5 hrd5 own5 hc5 hps hnp hpi hpk
   go_wp2_with fail
   go_loopw [12,14,15,17,44] (λo u v s i wv=>∃j:Nat,j<=KL.length/\i=.int .i64 j/\Hid (OwnRs w5.heap.size wv o ((SL.take j).map (projL ps))/\Below w5.heap.size w5 wv)) (λ_ _ _ _ i _=>KL.length-(intOf i).toNat)
   case atStart=>exact⟨0,by omega,rfl,H1⟩
   case round =>
    clear H1
    obtain⟨j,hj,rfl,HJ⟩:=hrel
    obtain⟨ys,owno,allo⟩:=HJ.out.1
    obtain⟨Ao,co,rfl,hco,hro⟩:=own_slice owno
    have hjl:((SL.take j).map (projL ps)).length=j:=by rw[List.length_map,List.length_take,HS.out.2.2.2];omega
    rw[hjl]at owno hco ⊢
    obtain⟨hC,hww,hg,hzf,r1,rf,rk,hv,hr,hqb,htb,hB0⟩:=H.out
    have hbw:=below_tr HB5.out HJ.out.2
    have tb0:wr.cell? ⟨w.heap.size+1,0,none⟩=some (.slice Av vars.length cv):=by rw[World.cell?,KeepT.below hbw _ _ _ htb];rfl
    have qb1:wr.cell? ⟨w.heap.size,1,none⟩=some (.bool q.dist):=by rw[World.cell?,KeepT.below hbw _ _ _ hqb];rfl
    have qb2:wr.cell? ⟨w.heap.size,2,none⟩=some (.slice a1 q.vars.length c1):=by rw[World.cell?,KeepT.below hbw _ _ _ hqb];rfl
    by_cases hlt:j<KL.length
    ·obtain⟨r,hr1⟩:∃r,SL[j]?=some r:=⟨_,List.getElem?_eq_getElem (by rw[HS.out.2.2.2];exact hlt)⟩
     have hmr:=HS.out.2.2.1 r (List.mem_of_getElem? hr1)
     obtain⟨g2,o2,Ar,cr,rfl,hcr,hle,hrr⟩:=(HR5.out.later HJ.out.2).at1 hr1
     have hrn:=hww r hmr
     rw[hrn]at hcr hle
     have HX:=Lib.hid (And.intro owno (And.intro allo (And.intro hr1 (And.intro hmr (And.intro hrr (And.intro hrn (And.intro hbw hjl)))))))
     have HS0:Hid (wr.ownsRow wr.heap.size 26 4 (.slice none 0 0) 0 ((projL (ps.take 0) r).flatMap tmC)/\Below wr.heap.size wr wr):=⟨World.ownsRow_nil _ _ _ _,Below.refl _ _⟩
     clear hC hww hg hzf r1 rf rk hv hr hqb htb hB0 owno allo hr1 hmr hrr hrn hle hro hco hbw hjl qb1
     obtain⟨V,hVe⟩:∃V,V=wr:=⟨_,rfl⟩
     subst hVe
     go_wp2_with fail
     go_loopw [15,17,51] (λv s i wv=>∃m:Nat,m<=q.vars.length/\i=.int .i64 m/\Hid (wv.ownsRow V.heap.size 26 4 v m ((projL (ps.take m) r).flatMap tmC)/\Below V.heap.size V wv)) (λ_ _ i _=>q.vars.length-(intOf i).toNat)
     case atStart=>exact⟨0,by omega,rfl,HS0⟩
     case round =>
      clear HS0
      obtain⟨m,hm,rfl,HM⟩:=hrel
      obtain⟨A6,c6,rfl,hc6,_⟩:=own_slice HM.out.1
      obtain⟨hC,hww,hg,hzf,r1,rf,rk,hv,hr,hqb,htb,hB0⟩:=H.out
      have hs4:=HM.out.2.size
      by_cases hmt:m<q.vars.length
      ·obtain⟨s,hs⟩:∃y,q.vars[m]?=some y:=⟨_,List.getElem?_eq_getElem hmt⟩
       have hpm:=HPS.out.2.2.2 m s hs
       obtain⟨q1',q2'⟩:=HPS.out.2.2.1 _ (List.mem_of_getElem? hpm)
       have hbWr:=below_tr HX.out.2.2.2.2.2.2.1 HM.out.2
       obtain⟨g3,o3,rfl,hcv⟩:=(r1.later hbWr).at_ (j:=m) (u:=.string s) (by rw[List.getElem?_map,hs];rfl)
       obtain⟨p,hp⟩:∃p:Nat,Lib.idxOfS vars s=(p:Int):=⟨(Lib.idxOfS vars s).toNat,by omega⟩
       obtain⟨x,hx⟩:∃x,r[p]?=some x:=⟨_,List.getElem?_eq_getElem (by have:=HX.out.2.2.2.2.2.1;omega)⟩
       have hO:=meanOf vars r s p x Av Ar vars.length cv vars.length cr wr rfl (by omega) HX.out.2.2.2.2.2.1 hp hx (hv.later hbWr) (RdTs.later HX.out.2.2.2.2.1 HM.out.2)
       have tbw:=cell_on tb0 HM.out.2
       have hsn:Hid ((projL (ps.take (m+1)) r).flatMap tmC=(projL (ps.take m) r).flatMap tmC++[.int .i64 x.k,.string x.x,.string x.l,.string x.y]):=by
        show _=_
        rw[hp]at hpm
        rw[take_snoc_of hpm]
        unfold projL
        rw[List.map_append,List.flatMap_append]
        show _++[r[(p:Int).toNat]!].flatMap tmC=_
        rw[Int.toNat_natCast,List.getElem!_of_getElem? hx]
        rfl
       clear hC hww hg hzf r1 rf rk hv hr hqb htb hB0 hs hpm q1' q2' hbWr hp hx tb0 qb2 hcr
       go_wp2_with (first
        | (go_at_call 72;refine hO.mono ?_;rintro e w6 ⟨rfl,hb6⟩;have hal2:Below w6.heap.size w6 (w6.alloc (.cells #[.int .i64 x.k,.string x.x,.string x.l,.string x.y] 26)):=blw;have hown5:=own_below HM.out.1 (below_tr hb6 hal2) (Nat.le_refl _);have HB6:=Lib.hid (below_tr HM.out.2 (below_tr hb6 hal2));have hs6:V.heap.size<=w6.heap.size:=Nat.le_trans hs4 hb6.size;clear hb6 hal2 hO tbw)
        | (at_builtin;refine wpList_appG rfl rfl Tryz.underlying36 tmInfo rfl (by omega) rfl hown5 rfl (Rd.of_block (heap_alloc_new w6 _) rfl) rfl (by intro u hu;simp only[List.mem_cons,List.not_mem_nil,or_false]at hu;rcases hu with rfl|rfl|rfl|rfl<;>rfl) (by omega) (by omega) (by simp;omega) ?_;intro v' w7 own7 hb7 hg7;have HF:Hid (w7.ownsRow V.heap.size 26 4 v' (m+1) ((projL (ps.take (m+1)) r).flatMap tmC)/\Below V.heap.size V w7):=⟨by rw[hsn.out];exact own7,HB6.out.trans hb7⟩;clear own7 hb7 hg7 hown5 hs6))
       go_roundw
       case rel=>exact⟨m+1,by omega,by go_num,HF⟩
       case measure=>simp[intOf];omega
      ·obtain rfl:m=q.vars.length:=by omega
       clear hC hww hg hzf r1 rf rk hv hr hqb htb hB0 tb0 qb2 hcr
       have hpl:(projL ps r).length=q.vars.length:=by unfold projL;rw[List.length_map,HPS.out.2.1]
       have h1:=HM.out.1
       rw[List.take_of_length_le (by rw[HPS.out.2.1];exact Nat.le_refl _)]at h1
       have hsn:Hid ((SL.take (j+1)).map (projL ps)=(SL.take j).map (projL ps)++[projL ps r]):=by
        show _=_
        rw[take_snoc_of HX.out.2.2.1,List.map_append];rfl
       have halw:Below wr.heap.size wr (wr.alloc (.cells #[.slice A6 q.vars.length c6] 36)):=blw
       have hbV:=below_tr HM.out.2 halw
       have own5:=own_below HX.out.1 hbV (Nat.le_refl _)
       have hrow:OwnRow w5.heap.size (wr.alloc (.cells #[.slice A6 q.vars.length c6] 36)) [.slice A6 q.vars.length c6] (projL ps r):=⟨_,rfl,by rw[hpl];exact own_lower (own_below h1 halw (Nat.le_refl _)) HJ.out.2.size⟩
       have hbs:w5.heap.size<=wr.heap.size:=Nat.le_trans HJ.out.2.size hs4
       have hin:Tryz.prog.underlying 33=some (.slice 36):=Tryz.underlying33
       have HV:=Lib.hid (And.intro hbV (And.intro hrow (below_tr HJ.out.2 hbV)))
       clear hpl h1 halw hbV hrow
       go_wp2_with (at_builtin;refine wpList_appG rfl rfl hin rowInfo rfl (by omega) rfl own5 rfl (Rd.of_block (heap_alloc_new wr _) rfl) rfl (by intro u hu;simp only[List.mem_cons,List.not_mem_nil,or_false]at hu;subst hu;rfl) (by omega) (by omega) (by simp;omega) ?_;intro v' w7 own7 hb7 hg7;have HF6:=Lib.hid (And.intro (rows_push (by rw[HX.out.2.2.2.2.2.2.2];exact HX.out.1) HX.out.2.1 HV.out.1 HV.out.2.1 (by rw[HX.out.2.2.2.2.2.2.2];exact own7) hg7) (HV.out.2.2.trans hb7));clear own7 hb7 hg7 own5)
       go_roundw
       case rel=>exact⟨j+1,by omega,by go_num,by rw[hsn.out];exact HF6.out⟩
       case measure=>simp[intOf];omega
    ·obtain rfl:j=KL.length:=by omega
     clear hlt
     rw[List.take_of_length_le (by rw[HS.out.2.2.2];exact Nat.le_refl _)]at allo
     have hro2:RdRs wr Ao (SL.map (projL ps)):=⟨ys,hro,allo.mono λ_ _ _ h=>h.rd⟩
     have hPl:(SL.map (projL ps)).length=KL.length:=by rw[List.length_map,HS.out.2.2.2]
     have hPz:∀r∈SL.map (projL ps),r.length<=1000000:=λr hr=>by
      obtain⟨r0,_,rfl⟩:=List.mem_map.1 hr
      unfold projL
      rw[List.length_map,HPS.out.2.1];omega
     obtain⟨PL,hPL⟩:∃L,SL.map (projL ps)=L:=⟨_,rfl⟩
     rw[hPL]at hro2 hPl hPz
     have hD2:D=if q.dist then onceL PL else PL:=by
      rw[←HD.out]
      unfold ans4 ans3
      rw[if_pos HP.out.2.1,HS.out.1,HS.out.2.1,HPS.out.1,hPL]
     have hBw:=below_tr hB0 hbw
     have qb6:wr.cell? ⟨w.heap.size,6,none⟩=some (.int .i64 q.lim):=by rw[World.cell?,KeepT.below hbw _ _ _ hqb];rfl
     have qb7:wr.cell? ⟨w.heap.size,7,none⟩=some (.int .i64 q.off):=by rw[World.cell?,KeepT.below hbw _ _ _ hqb];rfl
     have HX:=Lib.hid (And.intro hD2 (And.intro hro2 (And.intro hPz (And.intro hBw hco))))
     have hfr:=Lib.hid (λa (ha:Ao=some a)=>Nat.le_trans (Nat.le_trans hB0.size HB5.out.size) (owno.lt a.block (by rw[ha];rfl)).1)
     have hDl:D.length<=10000:=by
      rw[hD2]
      split
      ·have:=once_len PL;omega
      ·omega
     clear hC hww hg hzf r1 rf rk hv hr hqb htb hB0 owno allo hro hco hjl hbw hro2 hPz hPL hD2 hBw tb0 qb2
     cases hqd:q.dist
     case false =>
      rw[hqd]at qb1
      have hD3:D=PL:=by rw[HX.out.1,hqd];rfl
      go_upto_region 25 with (fail)
      have hM:D.length=KL.length:=by rw[hD3,hPl]
      have hrd9:RdRs wr Ao D:=by rw[hD3];exact HX.out.2.1
      have hc9:KL.length<=co:=HX.out.2.2.2.2
      have HB9:=Lib.hid HX.out.2.2.2.1
      clear HX hD3 qb1 hPl
      obtain⟨M,hMe⟩:∃M,M=KL.length:=⟨_,rfl⟩
      rw[←hMe]at hM hc9 hkn ⊢
      clear hMe
      have hmax:max q.off 0=q.off:=by have:=HP.out.2.2.1;omega
      obtain⟨m,hmn,hm1,hmin⟩:∃m:Nat,m<=M/\D.drop q.off.toNat=D.drop m/\min q.off (M:Int)=(m:Int):=by
       have h0:=HP.out.2.2.1
       by_cases h:q.off<=M
       ·exact⟨q.off.toNat,by omega,rfl,by omega⟩
       ·exact⟨M,Nat.le_refl _,by rw[List.drop_of_length_le (by omega),List.drop_of_length_le (by omega)],by omega⟩
      have hrun:=run_fromG (P:=Tryz.prog) Tryz.underlying33 Tryz.sizeOf36 Ao co m M hmn
      have hrd3:RdRs wr (subG 1 co m Ao) (D.drop m):=RdL.fromG hrd9 (by omega) (by omega)
      have hdl:(D.drop m).length=M-m:=by rw[List.length_drop,hM]
      obtain⟨A3,hA3⟩:∃X,subG 1 co m Ao=X:=⟨_,rfl⟩
      obtain⟨n3,hn3⟩:∃X,M-m=X:=⟨_,rfl⟩
      obtain⟨k3,hk3⟩:∃X,co-m=X:=⟨_,rfl⟩
      have hnk:n3<=k3:=by omega
      have H3:=Lib.hid (sub_fresh hfr.out hA3)
      simp only[hA3,hn3,hk3]at hrun hrd3 hdl
      have HT:=Lib.hid (And.intro hm1 (And.intro hrd3 hdl))
      clear hm1 hrd3 hdl hA3 hn3 hk3 hrd9 hM
      by_cases hlim:q.lim<0
      ·have hd:decide (q.lim<0)=true:=decide_eq_true hlim
       have HE:Hid (cutL q.off q.lim D=D.drop m):=by
        show _=_
        unfold cutL
        rw[if_pos (by have:=HP.out.2.2.2;omega),HT.out.1]
       go_wp2
       go_ret
       exact⟨A3,k3,by rw[HE.out,HT.out.2.2];rfl,by rw[HE.out,HT.out.2.2];exact hnk,by rw[HE.out];exact HT.out.2.1,HB9.out,H3.out⟩
      ·have hd:decide (q.lim<0)=false:=decide_eq_false hlim
       obtain⟨m2,hm2,hm3,hmin2⟩:∃m2:Nat,m2<=n3/\(D.drop m).take q.lim.toNat=(D.drop m).take m2/\min q.lim (n3:Int)=(m2:Int):=by
        have hdn:=HT.out.2.2
        by_cases h:q.lim<=n3
        ·exact⟨q.lim.toNat,by omega,rfl,by omega⟩
        ·exact⟨n3,Nat.le_refl _,by rw[List.take_of_length_le (by omega),List.take_of_length_le (by omega)],by omega⟩
       have hrun2:=run_toG (P:=Tryz.prog) Tryz.underlying33 Tryz.sizeOf36 A3 k3 m2 n3 (by omega)
       have HE:Hid (cutL q.off q.lim D=(D.drop m).take m2):=by
        show _=_
        unfold cutL
        rw[if_neg (by omega),HT.out.1,hm3]
       have HL:Hid (((D.drop m).take m2).length=m2):=by show _=_;rw[List.length_take,HT.out.2.2];omega
       clear hm3
       go_wp2
       go_ret
       exact⟨A3,k3,by rw[HE.out,HL.out];rfl,by rw[HE.out,HL.out];omega,by rw[HE.out];exact HT.out.2.1.take m2,HB9.out,H3.out⟩
     case true =>
      rw[hqd]at qb1
      have hD3:D=onceL PL:=by rw[HX.out.1,hqd];rfl
      have hON:=meanOnce PL Ao KL.length co wr hPl (by omega) HX.out.2.2.1 HX.out.2.1
      go_upto_region 25 with (go_at_call 73;refine hON.mono ?_;rintro e w9 ⟨A9,c9,rfl,hc9,hrd9,hb9,hfr9⟩;have hfr:=Lib.hid (λa (ha:A9=some a)=>Nat.le_trans HX.out.2.2.2.1.size (hfr9 a ha));clear hfr9;replace qb6:=cell_on qb6 hb9;replace qb7:=cell_on qb7 hb9;have HB9:=Lib.hid (below_tr HX.out.2.2.2.1 hb9);clear hb9 hON)
      rw[←hD3]at hc9 hrd9 ⊢
      clear HX hD3 qb1 hPl
      obtain⟨M,hM⟩:∃M,D.length=M:=⟨_,rfl⟩
      rw[hM]at hc9 hDl ⊢
      have hmax:max q.off 0=q.off:=by have:=HP.out.2.2.1;omega
      obtain⟨m,hmn,hm1,hmin⟩:∃m:Nat,m<=M/\D.drop q.off.toNat=D.drop m/\min q.off (M:Int)=(m:Int):=by
       have h0:=HP.out.2.2.1
       by_cases h:q.off<=M
       ·exact⟨q.off.toNat,by omega,rfl,by omega⟩
       ·exact⟨M,Nat.le_refl _,by rw[List.drop_of_length_le (by omega),List.drop_of_length_le (by omega)],by omega⟩
      have hrun:=run_fromG (P:=Tryz.prog) Tryz.underlying33 Tryz.sizeOf36 A9 c9 m M hmn
      have hrd3:RdRs w9 (subG 1 c9 m A9) (D.drop m):=RdL.fromG hrd9 (by omega) (by omega)
      have hdl:(D.drop m).length=M-m:=by rw[List.length_drop,hM]
      obtain⟨A3,hA3⟩:∃X,subG 1 c9 m A9=X:=⟨_,rfl⟩
      obtain⟨n3,hn3⟩:∃X,M-m=X:=⟨_,rfl⟩
      obtain⟨k3,hk3⟩:∃X,c9-m=X:=⟨_,rfl⟩
      have hnk:n3<=k3:=by omega
      have H3:=Lib.hid (sub_fresh hfr.out hA3)
      simp only[hA3,hn3,hk3]at hrun hrd3 hdl
      have HT:=Lib.hid (And.intro hm1 (And.intro hrd3 hdl))
      clear hm1 hrd3 hdl hA3 hn3 hk3 hrd9 hM
      by_cases hlim:q.lim<0
      ·have hd:decide (q.lim<0)=true:=decide_eq_true hlim
       have HE:Hid (cutL q.off q.lim D=D.drop m):=by
        show _=_
        unfold cutL
        rw[if_pos (by have:=HP.out.2.2.2;omega),HT.out.1]
       go_wp2
       go_ret
       exact⟨A3,k3,by rw[HE.out,HT.out.2.2];rfl,by rw[HE.out,HT.out.2.2];exact hnk,by rw[HE.out];exact HT.out.2.1,HB9.out,H3.out⟩
      ·have hd:decide (q.lim<0)=false:=decide_eq_false hlim
       obtain⟨m2,hm2,hm3,hmin2⟩:∃m2:Nat,m2<=n3/\(D.drop m).take q.lim.toNat=(D.drop m).take m2/\min q.lim (n3:Int)=(m2:Int):=by
        have hdn:=HT.out.2.2
        by_cases h:q.lim<=n3
        ·exact⟨q.lim.toNat,by omega,rfl,by omega⟩
        ·exact⟨n3,Nat.le_refl _,by rw[List.take_of_length_le (by omega),List.take_of_length_le (by omega)],by omega⟩
       have hrun2:=run_toG (P:=Tryz.prog) Tryz.underlying33 Tryz.sizeOf36 A3 k3 m2 n3 (by omega)
       have HE:Hid (cutL q.off q.lim D=(D.drop m).take m2):=by
        show _=_
        unfold cutL
        rw[if_neg (by omega),HT.out.1,hm3]
       have HL:Hid (((D.drop m).take m2).length=m2):=by show _=_;rw[List.length_take,HT.out.2.2];omega
       clear hm3
       go_wp2
       go_ret
       exact⟨A3,k3,by rw[HE.out,HL.out];rfl,by rw[HE.out,HL.out];omega,by rw[HE.out];exact HT.out.2.1.take m2,HB9.out,H3.out⟩
end Go.Proofs.YtoaemihcbmlkgaaGreatDoor
