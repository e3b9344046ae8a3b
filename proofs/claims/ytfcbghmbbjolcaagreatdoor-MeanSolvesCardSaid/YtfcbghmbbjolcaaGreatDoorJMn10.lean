/- mean.Rows, walked: for a table that is right, keys and names -/
import Derived.Test.YtfcbghmbbjolcaaGreatDoorJLaw29e
set_option maxHeartbeats 16000000
set_option maxRecDepth 100000
namespace Go.Proofs.YtfcbghmbbjolcaaGreatDoor
open Go Go.RowKit Um Fm Lx Mt Tx Om Mp
theorem EI {vars:List ByteArray} {keys:List Ky} (h:sM vars keys=0) (rows:List (List Tm)):(ax vars (keys.map (·.v))).contains (-1)=false/\jw vars keys rows=fB (cY (ax vars (keys.map (·.v))) keys) rows:=by
 cases hc:(ax vars (keys.map (·.v))).contains (-1) with
 | true =>
  unfold sM at h
  rw[if_pos hc]at h
  cases h
 | false =>
  unfold jw
  rw[if_neg (by rw[hc];decide)]
  exact⟨rfl,rfl⟩
theorem EU {vars names:List ByteArray} (h:mV vars names=0):(ax vars names).contains (-1)=false:=by
 unfold mV at h
 by_cases h1:(!decide names.Nodup)=true
 ·rw[if_pos h1]at h;cases h
 ·rw[if_neg h1]at h
  cases hc:(ax vars names).contains (-1) with
  | false=>rfl
  | true=>rw[if_pos hc]at h;cases h
def Em (vars:List ByteArray) (rows:List (List Tm)):Prop:=vars.length<=200/\rows.length<=10000/\∀r∈rows,r.length<=200/\∀t∈r,bK t
theorem Em.small {vars:List ByteArray} {rows:List (List Tm)} (h:Em vars rows):∀r∈rows,aN r:=λr hr=>⟨by have:=(h.2.2 r hr).1;omega,(h.2.2 r hr).2⟩
def JM (L:List (List Tm)) (w:World) (e:Ending) (w':World):Prop:=∃A c,e=.returned (.slice A L.length c)/\L.length<=c/\RdRs w' A L/\Below w.heap.size w w'/\∀a,A=some a->w.heap.size<=a.block
theorem pM {sz c m B:Nat} {A A':Option Addr} (h:∀a,A=some a->B<=a.block) (e:mG sz c m A=A'):∀a,A'=some a->B<=a.block:=λa ha=>by
 unfold mG at e
 split at e
 ·rw[←e]at ha;exact h a ha
 ·rw[←e]at ha
  obtain⟨b,hb,rfl⟩:=Option.map_eq_some_iff.1 ha
  have hb2:(b.add (m*sz)).block=b.block:=by unfold Addr.add;split<;>rfl
  rw[hb2]
  exact h b hb
theorem zH {vars:List ByteArray} {nf:Nat} {fils:List (ExT nf)} {rows:List (List Tm)} {k:Nat}:(ed vars nf fils (rows.take k)).length<=rows.length:=Nat.le_trans (D5 _ _ _ _) (by rw[List.length_take];omega)
theorem CC {n:Nat} (q:Qy n) (vars:List ByteArray) (rows:List (List Tm)) (a1 a2 a3 a4:Option Addr) (c1 c2 c3 c4:Nat) (Av B:Option Addr) (cv d:Nat) (w:World) (hC:cD w) (hR:mR vars rows=true) (hN:sM vars q.ord=0) (hp:mV vars q.vars=0) (ho:0<=q.off) (hm : -1<=q.lim) (hg:Em vars rows) (z1:q.vars.length<=200) (z2:q.fils.length<=200) (z3:q.ord.length<=200) (hzf:∀x∈q.fils,szE n x) (r1:Rd w a1 (q.vars.map Value.string)) (rf:aJ n w a3 q.fils) (rk:eN w a4 q.ord) (hv:Rd w Av (vars.map Value.string)) (hr:RdRs w B rows) :
  Calls Tryz.prog 38 #[.agg #[.bool q.ask,.bool q.dist,.slice a1 q.vars.length c1,.slice a2 q.pats.length c2,.slice a3 q.fils.length c3,.slice a4 q.ord.length c4,.int .i64 q.lim,.int .i64 q.off],.slice Av vars.length cv,.slice B rows.length d] w (JM (gl q.off q.lim (ka vars q.vars n q.fils q.ord q.dist rows)) w):=by
 obtain⟨W,hW⟩:∃W:World,(w.alloc (.cells #[.bool q.ask,.bool q.dist,.slice a1 q.vars.length c1,.slice a2 q.pats.length c2,.slice a3 q.fils.length c3,.slice a4 q.ord.length c4,.int .i64 q.lim,.int .i64 q.off] 28)).alloc (.cells #[.slice Av vars.length cv] 138)=W:=⟨_,rfl⟩
 have hB0:Below w.heap.size w W:=by rw[←hW];exact blw
 have hqb:W.heap[w.heap.size]?=some (Obj.cells #[.bool q.ask,.bool q.dist,.slice a1 q.vars.length c1,.slice a2 q.pats.length c2,.slice a3 q.fils.length c3,.slice a4 q.ord.length c4,.int .i64 q.lim,.int .i64 q.off] 28 (0,0)):=by rw[←hW];exact aL _ _ _
 have htb:W.heap[w.heap.size+1]?=some (Obj.cells #[.slice Av vars.length cv] 138 (0,0)):=by rw[←hW];exact av _ _ _
 have hlv:=hg.1
 have hlr:=hg.2.1
 have hww:=vH hR
 have H:=Lib.hid (And.intro (hC.step hB0) (And.intro hww (And.intro hg (And.intro hzf (And.intro (r1.later hB0) (And.intro (aJ.later rf hB0) (And.intro (RdL.mono rk hB0 (λ_ _ _ h=>h)) (And.intro (hv.later hB0) (And.intro (hr.later hB0) (And.intro hqb (And.intro htb hB0)))))))))))
 have HP:=Lib.hid (And.intro hN (And.intro hp (And.intro ho hm)))
 obtain⟨D,hD⟩:∃L,ka vars q.vars n q.fils q.ord q.dist rows=L:=⟨_,rfl⟩
 rw[hD]
 have HD:=Lib.hid hD
 have HW:=Lib.hid hW
 have H0:Hid (OwnRs W.heap.size W (.slice none 0 0) (ed vars n q.fils (rows.take 0))/\Below W.heap.size W W):=⟨OwnRs.nil _ _,Below.refl _ _⟩
 clear hC hR hN hp ho hm hg hzf r1 rf rk hv hr hB0 hqb htb hW hww hD
 go_enter Tryz.func38,Tryz.ntmps38
 go_wp2_with fail
 simp only[HW.out]
 go_loopw [8,10,11,22] (λl u v i wr=>∃k:Nat,k<=rows.length/\i=.int .i64 k/\Hid (OwnRs W.heap.size wr l (ed vars n q.fils (rows.take k))/\Below W.heap.size W wr)) (λ_ _ _ i _=>rows.length-(intOf i).toNat)
 case atStart=>exact⟨0,by omega,rfl,H0⟩
 case round =>
  clear H0
  obtain⟨k,hk,rfl,HK⟩:=hrel
  obtain⟨hC,hww,hg,hzf,r1,rf,rk,hv,hr,hqb,htb,hB0⟩:=H.out
  have hB:=HK.out.2
  obtain⟨xs,own,hall⟩:=HK.out.1
  obtain⟨Al,cl,rfl,hcl,hrl⟩:=own_slice own
  have hkl:=zH (vars:=vars) (nf:=n) (fils:=q.fils) (rows:=rows) (k:=k)
  by_cases hlt:k<rows.length
  ·obtain⟨r,hr1⟩:∃r,rows[k]?=some r:=⟨_,List.getElem?_eq_getElem hlt⟩
   have hmr:=List.mem_of_getElem? hr1
   obtain⟨g,o,Ar,cr,rfl,hcr,hle,hrr⟩:=(hr.later hB).at1 hr1
   have hrn:=hww r hmr
   rw[hrn]at hcr hle
   have tb0:wr.cell? ⟨w.heap.size+1,0,none⟩=some (.slice Av vars.length cv):=by rw[World.cell?,KeepT.below hB _ _ _ htb];rfl
   have qb4:wr.cell? ⟨w.heap.size,4,none⟩=some (.slice a3 q.fils.length c3):=by rw[World.cell?,KeepT.below hB _ _ _ hqb];rfl
   have hFu:=CF r Av Ar cv vars.length cr wr hrn (by omega) hle hrr
   have hst:=zI (vars:=vars) (nf:=n) (fils:=q.fils) hr1
   have HX:=Lib.hid (And.intro own (And.intro hall (And.intro hB (And.intro hmr hst))))
   clear hC hww hg hzf r1 rf rk hv hr hqb htb hB0 hB own hall hr1 hmr hrr hle hst hcl hrl
   go_upto_region 7 with (go_at_call 75;refine hFu.mono ?_;rintro e w2 ⟨v2,rfl,own2,hb2⟩;obtain⟨A2,c2',rfl,hc2,hr2⟩:=own_slice own2;clear hFu;replace qb4:=ac qb4 hb2;clear tb0 hcr)
   obtain⟨hC,hww,hg,hzf,r1,rf,rk,hv,hr,hqb,htb,hB0⟩:=H.out
   have hbW:=aa HX.out.2.2.1 hb2
   have hK:=ut vars r (by omega) (by omega) (λu hu=>Nat.le_trans ((hg.2.2 r HX.out.2.2.2.1).2 u hu).1 (by decide)) n q.fils a3 Av A2 c3 cv c2' w2 (hv.later hbW) (RdTs.of hr2) (aJ.later rf hbW) (by omega) hzf
   rw[hrn]at hK hc2 own2
   have hs2:=hb2.size
   have HY:=Lib.hid (And.intro own2 hb2)
   clear hC hww hg hzf r1 rf rk hv hr hqb htb hB0 hbW own2 hb2 hr2
   cases hfl:bG vars r n q.fils
   case true =>
    rw[hfl]at hK
    have HS:Hid (ed vars n q.fils (rows.take (k+1))=ed vars n q.fils (rows.take k)):=by
     show _=_
     rw[HX.out.2.2.2.2,hfl,if_pos rfl,List.append_nil]
    clear hfl
    go_wp2_with (go_at_call 37;refine hK.mono ?_;rintro e w3 ⟨rfl,hb3⟩;have HF:=Lib.hid (aa HY.out.2 hb3);clear hb3 hK qb4)
    go_roundw
    case rel=>exact⟨k+1,by omega,by go_num,by rw[HS.out];exact⟨⟨xs,own_below HX.out.1 HF.out (Nat.le_refl _),HX.out.2.1.mono λ_ _ _ h=>h.keep (KeepT.below HF.out)⟩,aa HX.out.2.2.1 HF.out⟩⟩
    case measure=>simp[intOf];omega
   case false =>
    rw[hfl]at hK
    have HS:Hid (ed vars n q.fils (rows.take (k+1))=ed vars n q.fils (rows.take k)++[r]):=by
     show _=_
     rw[HX.out.2.2.2.2,hfl,if_neg (by decide)]
    clear hfl
    go_upto_region 8 with (go_at_call 37;refine hK.mono ?_;rintro e w3 ⟨rfl,hb3⟩;have HF:=Lib.hid hb3;clear hb3 hK qb4)
    have hal:Below w3.heap.size w3 (w3.alloc (.cells #[.slice A2 vars.length c2'] 58)):=blw
    have hbV:=aa HY.out.2 (aa HF.out hal)
    have own5:=own_below HX.out.1 hbV (Nat.le_refl _)
    have hin:Tryz.prog.underlying 35=some (.slice 58):=Tryz.underlying35
    have hrow:OwnRow W.heap.size (w3.alloc (.cells #[.slice A2 vars.length c2'] 58)) [.slice A2 vars.length c2'] r:=⟨_,rfl,by rw[hrn];exact own_lower (own_below HY.out.1 (aa HF.out hal) (Nat.le_refl _)) HX.out.2.2.1.size⟩
    have hbs:W.heap.size<=w3.heap.size:=Nat.le_trans HX.out.2.2.1.size (aa HY.out.2 HF.out).size
    have HV:=Lib.hid (And.intro hbV hrow)
    clear hal hbV hrow
    go_wp2_with (at_builtin;refine ak rfl rfl hin dj rfl (by omega) rfl own5 rfl (Rd.of_block (heap_alloc_new w3 _) rfl) rfl (by intro u hu;simp only[List.mem_cons,List.not_mem_nil,or_false]at hu;subst hu;rfl) (by omega) (by omega) (by simp;omega) ?_;intro v' w6 own6 hb6 hg6;have HF6:=Lib.hid (And.intro (kv HX.out.1 HX.out.2.1 HV.out.1 HV.out.2 own6 hg6) ((aa HX.out.2.2.1 HV.out.1).trans hb6));clear own6 hb6 hg6 own5)
    go_roundw
    case rel=>exact⟨k+1,by omega,by go_num,by rw[HS.out];exact HF6.out⟩
    case measure=>simp[intOf];omega
  ·obtain rfl:k=rows.length:=by omega
   clear hlt
   have hE:rows.take rows.length=rows:=List.take_of_length_le (Nat.le_refl _)
   obtain⟨KL,hKL⟩:∃L,ed vars n q.fils rows=L:=⟨_,rfl⟩
   rw[hE,hKL]at own hall hcl hkl ⊢
   have hKm:∀r∈KL,r∈rows:=λr hr=>by rw[←hKL]at hr;exact D4 hr
   obtain⟨hnc,hse⟩:=EI HP.out.1 KL
   have hSo:=CB W hC vars q.ord (w.heap.size+1) w.heap.size vars.length cv q.ord.length c4 KL.length Av a4 (.slice Al KL.length cl) KL _ wr hB ⟨xs,own,hall⟩ rfl (by omega) (λr hr=>hg.small r (hKm r hr)) (λr hr=>hww r (hKm r hr)) rfl rfl (by omega) (by omega) (pX hnc) hv rk (KeepT.below hB _ _ _ htb) (KeepT.below hB _ _ _ hqb) rfl
   rw[←hse]at hSo
   have hSm:∀r∈jw vars q.ord KL,r∈rows:=λr hr=>hKm r ((iW _ _ _).mem_iff.1 hr)
   have hSl:=(iW vars q.ord KL).length_eq
   obtain⟨SL,hSL⟩:∃L,jw vars q.ord KL=L:=⟨_,rfl⟩
   rw[hSL]at hSo hSm hSl
   have HS:=Lib.hid (And.intro hKL (And.intro hSL (And.intro hSm hSl)))
   have hkn:KL.length<=10000:=by omega
   clear hC hww hg hzf r1 rf rk hv hr hqb htb hB0 hB own hall hcl hrl hkl hE hKL hKm hnc hse hSL hSm hSl HK
   go_upto_region 11 with (go_at_call 76;refine hSo.mono ?_;rintro e w5 ⟨rfl,hb5,-,own5⟩;clear hSo)
   obtain⟨A5,c5,e5,hc5,hrd5⟩:=own5.rd
   rw[HS.out.2.2.2]at e5
   injection e5 with e5 _ e6
   subst e5;subst e6
   have HB5:=Lib.hid hb5
   have HR5:=Lib.hid hrd5
   have H1:Hid (OwnRs w5.heap.size w5 (.slice none 0 0) ((SL.take 0).map (cK (ax vars q.vars)))/\Below w5.heap.size w5 w5):=⟨OwnRs.nil _ _,Below.refl _ _⟩
   have hnp:(ax vars q.vars).length=q.vars.length:=by unfold ax;rw[List.length_map]
   have hpi:=pX (EU HP.out.2.1)
   have hpk:∀k (y:ByteArray),q.vars[k]?=some y->(ax vars q.vars)[k]?=some (Lib.idxOfS vars y):=λk y h=>by unfold ax;rw[List.getElem?_map,h];rfl
   obtain⟨ps,hps⟩:∃ps,ax vars q.vars=ps:=⟨_,rfl⟩
   rw[hps]at hnp hpi hpk H1
   have HPS:=Lib.hid (And.intro hps (And.intro hnp (And.intro hpi hpk)))
   clear hb5 hrd5 own5 hc5 hps hnp hpi hpk
   go_wp2_with fail
   go_loopw [12,14,15,17,44] (λo u v s i wv=>∃j:Nat,j<=KL.length/\i=.int .i64 j/\Hid (OwnRs w5.heap.size wv o ((SL.take j).map (cK ps))/\Below w5.heap.size w5 wv)) (λ_ _ _ _ i _=>KL.length-(intOf i).toNat)
   case atStart=>exact⟨0,by omega,rfl,H1⟩
   case round =>
    clear H1
    obtain⟨j,hj,rfl,HJ⟩:=hrel
    obtain⟨ys,owno,allo⟩:=HJ.out.1
    obtain⟨Ao,co,rfl,hco,hro⟩:=own_slice owno
    have hjl:((SL.take j).map (cK ps)).length=j:=by rw[List.length_map,List.length_take,HS.out.2.2.2];omega
    rw[hjl]at owno hco ⊢
    obtain⟨hC,hww,hg,hzf,r1,rf,rk,hv,hr,hqb,htb,hB0⟩:=H.out
    have hbw:=aa HB5.out HJ.out.2
    have tb0:wr.cell? ⟨w.heap.size+1,0,none⟩=some (.slice Av vars.length cv):=by rw[World.cell?,KeepT.below hbw _ _ _ htb];rfl
    have qb1:wr.cell? ⟨w.heap.size,1,none⟩=some (.bool q.dist):=by rw[World.cell?,KeepT.below hbw _ _ _ hqb];rfl
    have qb2:wr.cell? ⟨w.heap.size,2,none⟩=some (.slice a1 q.vars.length c1):=by rw[World.cell?,KeepT.below hbw _ _ _ hqb];rfl
    by_cases hlt:j<KL.length
    ·obtain⟨r,hr1⟩:∃r,SL[j]?=some r:=⟨_,List.getElem?_eq_getElem (by rw[HS.out.2.2.2];exact hlt)⟩
     have hmr:=HS.out.2.2.1 r (List.mem_of_getElem? hr1)
     obtain⟨g2,o2,Ar,cr,rfl,hcr,hle,hrr⟩:=(HR5.out.later HJ.out.2).at1 hr1
     have hrn:=hww r hmr
     rw[hrn]at hcr hle
     have HX:=Lib.hid (And.intro owno (And.intro allo (And.intro hr1 (And.intro hmr (And.intro hrr (And.intro hrn (And.intro hbw hjl)))))))
     have HS0:Hid (wr.ownsRow wr.heap.size 62 4 (.slice none 0 0) 0 ((cK (ps.take 0) r).flatMap tmC)/\Below wr.heap.size wr wr):=⟨World.ownsRow_nil _ _ _ _,Below.refl _ _⟩
     clear hC hww hg hzf r1 rf rk hv hr hqb htb hB0 owno allo hr1 hmr hrr hrn hle hro hco hbw hjl qb1
     obtain⟨V,hVe⟩:∃V,V=wr:=⟨_,rfl⟩
     subst hVe
     go_wp2_with fail
     go_loopw [15,17,51] (λv s i wv=>∃m:Nat,m<=q.vars.length/\i=.int .i64 m/\Hid (wv.ownsRow V.heap.size 62 4 v m ((cK (ps.take m) r).flatMap tmC)/\Below V.heap.size V wv)) (λ_ _ i _=>q.vars.length-(intOf i).toNat)
     case atStart=>exact⟨0,by omega,rfl,HS0⟩
     case round =>
      clear HS0
      obtain⟨m,hm,rfl,HM⟩:=hrel
      obtain⟨A6,c6,rfl,hc6,_⟩:=own_slice HM.out.1
      obtain⟨hC,hww,hg,hzf,r1,rf,rk,hv,hr,hqb,htb,hB0⟩:=H.out
      have hs4:=HM.out.2.size
      by_cases hmt:m<q.vars.length
      ·obtain⟨s,hs⟩:∃y,q.vars[m]?=some y:=⟨_,List.getElem?_eq_getElem hmt⟩
       have hpm:=HPS.out.2.2.2 m s hs
       obtain⟨q1',q2'⟩:=HPS.out.2.2.1 _ (List.mem_of_getElem? hpm)
       have hbWr:=aa HX.out.2.2.2.2.2.2.1 HM.out.2
       obtain⟨g3,o3,rfl,hcv⟩:=(r1.later hbWr).at_ (j:=m) (u:=.string s) (by rw[List.getElem?_map,hs];rfl)
       obtain⟨p,hp⟩:∃p:Nat,Lib.idxOfS vars s=(p:Int):=⟨(Lib.idxOfS vars s).toNat,by omega⟩
       obtain⟨x,hx⟩:∃x,r[p]?=some x:=⟨_,List.getElem?_eq_getElem (by have:=HX.out.2.2.2.2.2.1;omega)⟩
       have hO:=vX vars r s p x Av Ar vars.length cv vars.length cr wr rfl (by omega) HX.out.2.2.2.2.2.1 hp hx (hv.later hbWr) (RdTs.later HX.out.2.2.2.2.1 HM.out.2)
       have tbw:=ac tb0 HM.out.2
       have hsn:Hid ((cK (ps.take (m+1)) r).flatMap tmC=(cK (ps.take m) r).flatMap tmC++[.int .i64 x.k,.string x.x,.string x.l,.string x.y]):=by
        show _=_
        rw[hp]at hpm
        rw[ah hpm]
        unfold cK
        rw[List.map_append,List.flatMap_append]
        show _++[r[(p:Int).toNat]!].flatMap tmC=_
        rw[Int.toNat_natCast,List.getElem!_of_getElem? hx]
        rfl
       clear hC hww hg hzf r1 rf rk hv hr hqb htb hB0 hs hpm q1' q2' hbWr hp hx tb0 qb2 hcr
       go_wp2_with (first
        | (go_at_call 79;refine hO.mono ?_;rintro e w6 ⟨rfl,hb6⟩;have hal2:Below w6.heap.size w6 (w6.alloc (.cells #[.int .i64 x.k,.string x.x,.string x.l,.string x.y] 62)):=blw;have hown5:=own_below HM.out.1 (aa hb6 hal2) (Nat.le_refl _);have HB6:=Lib.hid (aa HM.out.2 (aa hb6 hal2));have hs6:V.heap.size<=w6.heap.size:=Nat.le_trans hs4 hb6.size;clear hb6 hal2 hO tbw)
        | (at_builtin;refine ak rfl rfl Tryz.underlying58 iT rfl (by omega) rfl hown5 rfl (Rd.of_block (heap_alloc_new w6 _) rfl) rfl (by intro u hu;simp only[List.mem_cons,List.not_mem_nil,or_false]at hu;rcases hu with rfl|rfl|rfl|rfl<;>rfl) (by omega) (by omega) (by simp;omega) ?_;intro v' w7 own7 hb7 hg7;have HF:Hid (w7.ownsRow V.heap.size 62 4 v' (m+1) ((cK (ps.take (m+1)) r).flatMap tmC)/\Below V.heap.size V w7):=⟨by rw[hsn.out];exact own7,HB6.out.trans hb7⟩;clear own7 hb7 hg7 hown5 hs6))
       go_roundw
       case rel=>exact⟨m+1,by omega,by go_num,HF⟩
       case measure=>simp[intOf];omega
      ·obtain rfl:m=q.vars.length:=by omega
       clear hC hww hg hzf r1 rf rk hv hr hqb htb hB0 tb0 qb2 hcr
       have hpl:(cK ps r).length=q.vars.length:=by unfold cK;rw[List.length_map,HPS.out.2.1]
       have h1:=HM.out.1
       rw[List.take_of_length_le (by rw[HPS.out.2.1];exact Nat.le_refl _)]at h1
       have hsn:Hid ((SL.take (j+1)).map (cK ps)=(SL.take j).map (cK ps)++[cK ps r]):=by
        show _=_
        rw[ah HX.out.2.2.1,List.map_append];rfl
       have halw:Below wr.heap.size wr (wr.alloc (.cells #[.slice A6 q.vars.length c6] 58)):=blw
       have hbV:=aa HM.out.2 halw
       have own5:=own_below HX.out.1 hbV (Nat.le_refl _)
       have hrow:OwnRow w5.heap.size (wr.alloc (.cells #[.slice A6 q.vars.length c6] 58)) [.slice A6 q.vars.length c6] (cK ps r):=⟨_,rfl,by rw[hpl];exact own_lower (own_below h1 halw (Nat.le_refl _)) HJ.out.2.size⟩
       have hbs:w5.heap.size<=wr.heap.size:=Nat.le_trans HJ.out.2.size hs4
       have hin:Tryz.prog.underlying 35=some (.slice 58):=Tryz.underlying35
       have HV:=Lib.hid (And.intro hbV (And.intro hrow (aa HJ.out.2 hbV)))
       clear hpl h1 halw hbV hrow
       go_wp2_with (at_builtin;refine ak rfl rfl hin dj rfl (by omega) rfl own5 rfl (Rd.of_block (heap_alloc_new wr _) rfl) rfl (by intro u hu;simp only[List.mem_cons,List.not_mem_nil,or_false]at hu;subst hu;rfl) (by omega) (by omega) (by simp;omega) ?_;intro v' w7 own7 hb7 hg7;have HF6:=Lib.hid (And.intro (kv (by rw[HX.out.2.2.2.2.2.2.2];exact HX.out.1) HX.out.2.1 HV.out.1 HV.out.2.1 (by rw[HX.out.2.2.2.2.2.2.2];exact own7) hg7) (HV.out.2.2.trans hb7));clear own7 hb7 hg7 own5)
       go_roundw
       case rel=>exact⟨j+1,by omega,by go_num,by rw[hsn.out];exact HF6.out⟩
       case measure=>simp[intOf];omega
    ·obtain rfl:j=KL.length:=by omega
     clear hlt
     rw[List.take_of_length_le (by rw[HS.out.2.2.2];exact Nat.le_refl _)]at allo
     have hro2:RdRs wr Ao (SL.map (cK ps)):=⟨ys,hro,allo.mono λ_ _ _ h=>h.rd⟩
     have hPl:(SL.map (cK ps)).length=KL.length:=by rw[List.length_map,HS.out.2.2.2]
     have hPz:∀r∈SL.map (cK ps),r.length<=1000000:=λr hr=>by
      obtain⟨r0,_,rfl⟩:=List.mem_map.1 hr
      unfold cK
      rw[List.length_map,HPS.out.2.1];omega
     obtain⟨PL,hPL⟩:∃L,SL.map (cK ps)=L:=⟨_,rfl⟩
     rw[hPL]at hro2 hPl hPz
     have hD2:D=if q.dist then bA PL else PL:=by
      rw[←HD.out]
      unfold ka Gg
      rw[if_pos HP.out.2.1,HS.out.1,HS.out.2.1,HPS.out.1,hPL]
     have hBw:=aa hB0 hbw
     have qb6:wr.cell? ⟨w.heap.size,6,none⟩=some (.int .i64 q.lim):=by rw[World.cell?,KeepT.below hbw _ _ _ hqb];rfl
     have qb7:wr.cell? ⟨w.heap.size,7,none⟩=some (.int .i64 q.off):=by rw[World.cell?,KeepT.below hbw _ _ _ hqb];rfl
     have HX:=Lib.hid (And.intro hD2 (And.intro hro2 (And.intro hPz (And.intro hBw hco))))
     have hfr:=Lib.hid (λa (ha:Ao=some a)=>Nat.le_trans (Nat.le_trans hB0.size HB5.out.size) (owno.lt a.block (by rw[ha];rfl)).1)
     have hDl:D.length<=10000:=by
      rw[hD2]
      split
      ·have:=tx PL;omega
      ·omega
     clear hC hww hg hzf r1 rf rk hv hr hqb htb hB0 owno allo hro hco hjl hbw hro2 hPz hPL hD2 hBw tb0 qb2
     cases hqd:q.dist
     case false =>
      rw[hqd]at qb1
      have hD3:D=PL:=by rw[HX.out.1,hqd];rfl
      go_upto_region 25 with (fail)
      have hM:D.length=KL.length:=by rw[hD3,hPl]
      have hrd9:RdRs wr Ao D:=by rw[hD3];exact HX.out.2.1
      have hc9:KL.length<=co:=HX.out.2.2.2.2
      have HB9:=Lib.hid HX.out.2.2.2.1
      clear HX hD3 qb1 hPl
      obtain⟨M,hMe⟩:∃M,M=KL.length:=⟨_,rfl⟩
      rw[←hMe]at hM hc9 hkn ⊢
      clear hMe
      have hmax:max q.off 0=q.off:=by have:=HP.out.2.2.1;omega
      obtain⟨m,hmn,hm1,hmin⟩:∃m:Nat,m<=M/\D.drop q.off.toNat=D.drop m/\min q.off (M:Int)=(m:Int):=by
       have h0:=HP.out.2.2.1
       by_cases h:q.off<=M
       ·exact⟨q.off.toNat,by omega,rfl,by omega⟩
       ·exact⟨M,Nat.le_refl _,by rw[List.drop_of_length_le (by omega),List.drop_of_length_le (by omega)],by omega⟩
      have hrun:=ia (P:=Tryz.prog) Tryz.underlying35 Tryz.sizeOf58 Ao co m M hmn
      have hrd3:RdRs wr (mG 1 co m Ao) (D.drop m):=RdL.fromG hrd9 (by omega) (by omega)
      have hdl:(D.drop m).length=M-m:=by rw[List.length_drop,hM]
      obtain⟨A3,hA3⟩:∃X,mG 1 co m Ao=X:=⟨_,rfl⟩
      obtain⟨n3,hn3⟩:∃X,M-m=X:=⟨_,rfl⟩
      obtain⟨k3,hk3⟩:∃X,co-m=X:=⟨_,rfl⟩
      have hnk:n3<=k3:=by omega
      have H3:=Lib.hid (pM hfr.out hA3)
      simp only[hA3,hn3,hk3]at hrun hrd3 hdl
      have HT:=Lib.hid (And.intro hm1 (And.intro hrd3 hdl))
      clear hm1 hrd3 hdl hA3 hn3 hk3 hrd9 hM
      by_cases hlim:q.lim<0
      ·have hd:decide (q.lim<0)=true:=decide_eq_true hlim
       have HE:Hid (gl q.off q.lim D=D.drop m):=by
        show _=_
        unfold gl
        rw[if_pos (by have:=HP.out.2.2.2;omega),HT.out.1]
       go_wp2
       go_ret
       exact⟨A3,k3,by rw[HE.out,HT.out.2.2];rfl,by rw[HE.out,HT.out.2.2];exact hnk,by rw[HE.out];exact HT.out.2.1,HB9.out,H3.out⟩
      ·have hd:decide (q.lim<0)=false:=decide_eq_false hlim
       obtain⟨m2,hm2,hm3,hmin2⟩:∃m2:Nat,m2<=n3/\(D.drop m).take q.lim.toNat=(D.drop m).take m2/\min q.lim (n3:Int)=(m2:Int):=by
        have hdn:=HT.out.2.2
        by_cases h:q.lim<=n3
        ·exact⟨q.lim.toNat,by omega,rfl,by omega⟩
        ·exact⟨n3,Nat.le_refl _,by rw[List.take_of_length_le (by omega),List.take_of_length_le (by omega)],by omega⟩
       have hrun2:=jx (P:=Tryz.prog) Tryz.underlying35 Tryz.sizeOf58 A3 k3 m2 n3 (by omega)
       have HE:Hid (gl q.off q.lim D=(D.drop m).take m2):=by
        show _=_
        unfold gl
        rw[if_neg (by omega),HT.out.1,hm3]
       have HL:Hid (((D.drop m).take m2).length=m2):=by show _=_;rw[List.length_take,HT.out.2.2];omega
       clear hm3
       go_wp2
       go_ret
       exact⟨A3,k3,by rw[HE.out,HL.out];rfl,by rw[HE.out,HL.out];omega,by rw[HE.out];exact HT.out.2.1.take m2,HB9.out,H3.out⟩
     case true =>
      rw[hqd]at qb1
      have hD3:D=bA PL:=by rw[HX.out.1,hqd];rfl
      have hON:=CE PL Ao KL.length co wr hPl (by omega) HX.out.2.2.1 HX.out.2.1
      go_upto_region 25 with (go_at_call 80;refine hON.mono ?_;rintro e w9 ⟨A9,c9,rfl,hc9,hrd9,hb9,hfr9⟩;have hfr:=Lib.hid (λa (ha:A9=some a)=>Nat.le_trans HX.out.2.2.2.1.size (hfr9 a ha));clear hfr9;replace qb6:=ac qb6 hb9;replace qb7:=ac qb7 hb9;have HB9:=Lib.hid (aa HX.out.2.2.2.1 hb9);clear hb9 hON)
      rw[←hD3]at hc9 hrd9 ⊢
      clear HX hD3 qb1 hPl
      obtain⟨M,hM⟩:∃M,D.length=M:=⟨_,rfl⟩
      rw[hM]at hc9 hDl ⊢
      have hmax:max q.off 0=q.off:=by have:=HP.out.2.2.1;omega
      obtain⟨m,hmn,hm1,hmin⟩:∃m:Nat,m<=M/\D.drop q.off.toNat=D.drop m/\min q.off (M:Int)=(m:Int):=by
       have h0:=HP.out.2.2.1
       by_cases h:q.off<=M
       ·exact⟨q.off.toNat,by omega,rfl,by omega⟩
       ·exact⟨M,Nat.le_refl _,by rw[List.drop_of_length_le (by omega),List.drop_of_length_le (by omega)],by omega⟩
      have hrun:=ia (P:=Tryz.prog) Tryz.underlying35 Tryz.sizeOf58 A9 c9 m M hmn
      have hrd3:RdRs w9 (mG 1 c9 m A9) (D.drop m):=RdL.fromG hrd9 (by omega) (by omega)
      have hdl:(D.drop m).length=M-m:=by rw[List.length_drop,hM]
      obtain⟨A3,hA3⟩:∃X,mG 1 c9 m A9=X:=⟨_,rfl⟩
      obtain⟨n3,hn3⟩:∃X,M-m=X:=⟨_,rfl⟩
      obtain⟨k3,hk3⟩:∃X,c9-m=X:=⟨_,rfl⟩
      have hnk:n3<=k3:=by omega
      have H3:=Lib.hid (pM hfr.out hA3)
      simp only[hA3,hn3,hk3]at hrun hrd3 hdl
      have HT:=Lib.hid (And.intro hm1 (And.intro hrd3 hdl))
      clear hm1 hrd3 hdl hA3 hn3 hk3 hrd9 hM
      by_cases hlim:q.lim<0
      ·have hd:decide (q.lim<0)=true:=decide_eq_true hlim
       have HE:Hid (gl q.off q.lim D=D.drop m):=by
        show _=_
        unfold gl
        rw[if_pos (by have:=HP.out.2.2.2;omega),HT.out.1]
       go_wp2
       go_ret
       exact⟨A3,k3,by rw[HE.out,HT.out.2.2];rfl,by rw[HE.out,HT.out.2.2];exact hnk,by rw[HE.out];exact HT.out.2.1,HB9.out,H3.out⟩
      ·have hd:decide (q.lim<0)=false:=decide_eq_false hlim
       obtain⟨m2,hm2,hm3,hmin2⟩:∃m2:Nat,m2<=n3/\(D.drop m).take q.lim.toNat=(D.drop m).take m2/\min q.lim (n3:Int)=(m2:Int):=by
        have hdn:=HT.out.2.2
        by_cases h:q.lim<=n3
        ·exact⟨q.lim.toNat,by omega,rfl,by omega⟩
        ·exact⟨n3,Nat.le_refl _,by rw[List.take_of_length_le (by omega),List.take_of_length_le (by omega)],by omega⟩
       have hrun2:=jx (P:=Tryz.prog) Tryz.underlying35 Tryz.sizeOf58 A3 k3 m2 n3 (by omega)
       have HE:Hid (gl q.off q.lim D=(D.drop m).take m2):=by
        show _=_
        unfold gl
        rw[if_neg (by omega),HT.out.1,hm3]
       have HL:Hid (((D.drop m).take m2).length=m2):=by show _=_;rw[List.length_take,HT.out.2.2];omega
       clear hm3
       go_wp2
       go_ret
       exact⟨A3,k3,by rw[HE.out,HL.out];rfl,by rw[HE.out,HL.out];omega,by rw[HE.out];exact HT.out.2.1.take m2,HB9.out,H3.out⟩
open Mv Mn
theorem EH {vars:List ByteArray} {keys:List Ky} (h:∀s∈dA keys,s∈vars):sM vars keys=0:=by
 unfold sM
 rw[if_neg]
 rw[List.contains_iff_mem]
 intro hm
 unfold ax at hm
 obtain⟨s,hs,he⟩:=List.mem_map.1 hm
 have:=(Lib.idxOfS_nonneg_iff vars s).2 (h s hs)
 omega
theorem ET {vars names:List ByteArray} (hn:names.Nodup) (h:∀s∈names,s∈vars):mV vars names=0:=by
 unfold mV
 rw[if_neg (by simp[hn]),if_neg]
 rw[List.contains_iff_mem]
 intro hm
 unfold ax at hm
 obtain⟨s,hs,he⟩:=List.mem_map.1 hm
 have:=(Lib.idxOfS_nonneg_iff vars s).2 (h s hs)
 omega
theorem Dv {n:Nat} {q:Qy n} (h:dq q=0):fj q=true/\q.vars.Nodup/\(dA q.ord).Nodup/\(∀s∈q.vars,s∈ae q.pats)/\(∀s∈dA q.ord,s∈ae q.pats)/\(∀s∈eU n q.fils,s∈ae q.pats):=by
 unfold dq at h
 obtain⟨h1,h2,h3,h4⟩:=Ag.1 h
 exact⟨h1,h2,h3,λs hs=>h4 s (by simp[hs]),λs hs=>h4 s (by simp[hs]),λs hs=>h4 s (by simp[hs])⟩
theorem lA {x:Int} (h:gG x=true):0<=x:=by
 unfold gG at h
 simp at h;omega
theorem yX {n:Nat} {q:Qy n} (h:fj q=true):q.pats.length<=6/\q.fils.length<=6/\q.vars.length<=12/\q.ord.length<=4/\0<=q.off /\ -1<=q.lim:=by
 unfold fj m6 jM at h
 simp only[Bool.and_eq_true,decide_eq_true_eq,Bool.or_eq_true]at h
 obtain⟨⟨⟨⟨h1,h2,h3,h4⟩,h5,h6⟩,_⟩,_⟩:=h
 refine⟨h1,h2,h3,h4,lA h5,?_⟩
 rcases h6 with h6|h6
 ·omega
 ·have:=lA h6;omega
def dp {n:Nat} (set:List Tp) (q:Qy n):Bool × List (List Tm):=
 if dq q≠0 then (false,[])
 else if q.ask then ((bi set q.pats).any λr => !bG (ae q.pats) r n q.fils,[])
 else (decide (0<(gl q.off q.lim (ka (ae q.pats) q.vars n q.fils q.ord q.dist (bi set q.pats))).length),gl q.off q.lim (ka (ae q.pats) q.vars n q.fils q.ord q.dist (bi set q.pats)))
def oK {n:Nat} (set:List Tp) (q:Qy n) (w:World) (e:Ending) (w':World):Prop:=
 ∃A c,e=.returned (.tuple #[.agg #[.bool (dp set q).1,.slice A (dp set q).2.length c],.int .i64 (dq q)])/\(dp set q).2.length<=c/\RdRs w' A (dp set q).2/\Below w.heap.size w w'
theorem RdRs.box {w w':World} {ab:Nat} {b:Bool} {T:TypeId} {A:Option Addr} {L:List (List Tm)} (h:RdRs w A L) (hA:∀a,A=some a->a.block≠ab) (hd:w.heap[ab]?=some (.cells #[.bool b,.slice none 0 0] T (0,0))) (hk:∀k,k≠ab->w'.heap[k]?=w.heap[k]?):RdRs w' A L:=by
 obtain⟨xs,hr,hall⟩:=h
 refine⟨xs,?_,hall.mono ?_⟩
 ·rcases hr with hr|⟨g,o,hg,hx⟩
  ·exact .inl hr
  ·exact .inr ⟨g,o,hg,λj u hu=>by rw[World.cell?,hk g (hA _ hg)];exact hx j u hu⟩
 ·rintro cs row _ ⟨A',c,rfl,hc,hrow⟩
  refine⟨A',c,rfl,hc,.of ?_⟩
  rcases hrow.flat with hr|⟨g,o,hg,hx⟩
  ·exact .inl hr
  ·refine .inr ⟨g,o,hg,λj u hu=>?_⟩
   have hc2:=hx j u hu
   have hne:g≠ab:=λe=>by
    subst e
    rw[World.cell?,hd]at hc2
    have hm:=List.mem_of_getElem? hu
    obtain⟨t,_,ht⟩:=List.mem_flatMap.1 hm
    have:u=.bool b∨u=.slice none 0 0:=by
     simp only at hc2
     have hj:(#[Value.bool b,.slice none 0 0]:Array Value)[o+j]?=some u:=by simpa using hc2
     match hoj:o+j,hj with
     | 0,hj=>left;simpa using hj.symm
     | 1,hj=>right;simpa using hj.symm
     | k+2,hj=>simp at hj
    simp only[tmC,List.mem_cons,List.not_mem_nil,or_false]at ht
    rcases this with rfl|rfl<;>simp at ht
   rw[World.cell?,hk g hne];exact hc2
theorem vW {n:Nat} (fils:List (ExT n)) (vars:List ByteArray) (row:List Tm) (A Av Af:Option Addr) (c cv cf qb vb:Nat) (w:World) (hvl:vars.length<=1000000) (hrl:row.length<=1000000) (hfl:fils.length<=1000000) (hzr:∀u∈row,u.x.size<=281474976710656) (hzf:∀x∈fils,szE n x)
  (h0:w.cell? ⟨qb,4,none⟩=some (.slice Af fils.length cf)) (h1:w.cell? ⟨vb,0,none⟩=some (.slice Av vars.length cv)) (hv:Rd w Av (vars.map Value.string)) (hr:RdTs w A row) (hf:aJ n w Af fils) :
  Calls Tryz.prog 36 #[.slice A row.length c,.pointer (some ⟨qb,0,none⟩),.pointer (some ⟨vb,0,none⟩)] w λe w'=>e=.returned (.bool (!bG vars row n fils))/\Below w.heap.size w w':=by
 have hcall:=ut vars row (by omega) (by omega) hzr n fils Af Av A cf cv c w hv hr hf (by omega) hzf
 generalize (!bG vars row n fils)=b at *
 clear hzr hzf hv hr hf
 go_enter Tryz.func36,Tryz.ntmps36
 go_wp2_with (go_at_call 37;refine hcall.mono ?_;rintro e w1 ⟨rfl,hb1⟩;have HF:=Lib.hid hb1;clear hb1 hcall)
 go_ret
 exact⟨rfl,HF.out⟩
theorem iq:(Tryz.prog.info? 37).map (·.size)=some 2:=by kernel_rfl
theorem zD (n:Nat) (q:Qy n) (set:List Tp) (As a1 a2 a3 a4:Option Addr) (cs c1 c2 c3 c4:Nat) (w:World) (hC:cD w) (hf:zT q) (hz:szQ q) (hls:set.length<=1000) (hzs:∀t∈set,cQ t) (hs:Rd w As (set.flatMap tpL))
  (hq:RdQ n w [.bool q.ask,.bool q.dist,.slice a1 q.vars.length c1,.slice a2 q.pats.length c2,.slice a3 q.fils.length c3,.slice a4 q.ord.length c4,.int .i64 q.lim,.int .i64 q.off] q)
  (h1:Rd w a1 (q.vars.map Value.string)) (h2:bI w a2 q.pats) (h3:aJ n w a3 q.fils) (h4:eN w a4 q.ord) (hN:aP set q.pats<=1500) :
  Calls Tryz.prog 11 #[.slice As set.length cs,.agg #[.bool q.ask,.bool q.dist,.slice a1 q.vars.length c1,.slice a2 q.pats.length c2,.slice a3 q.fils.length c3,.slice a4 q.ord.length c4,.int .i64 q.lim,.int .i64 q.off]] w (oK set q w):=by
 obtain⟨W,hW⟩:∃W:World,(w.alloc (.cells #[.bool q.ask,.bool q.dist,.slice a1 q.vars.length c1,.slice a2 q.pats.length c2,.slice a3 q.fils.length c3,.slice a4 q.ord.length c4,.int .i64 q.lim,.int .i64 q.off] 28)).alloc (.cells #[.bool false,.slice none 0 0] 37)=W:=⟨_,rfl⟩
 have hB0:Below w.heap.size w W:=by rw[←hW];exact blw
 have k0:W.heap[w.heap.size]?=some (Obj.cells #[.bool q.ask,.bool q.dist,.slice a1 q.vars.length c1,.slice a2 q.pats.length c2,.slice a3 q.fils.length c3,.slice a4 q.ord.length c4,.int .i64 q.lim,.int .i64 q.off] 28 (0,0)):=by rw[←hW];exact aL _ _ _
 have k1:W.heap[w.heap.size+1]?=some (Obj.cells #[.bool false,.slice none 0 0] 37 (0,0)):=by rw[←hW];exact av _ _ _
 have hchk:=ID n q a1 a2 a3 a4 c1 c2 c3 c4 W (hC.1.step hB0) hf hz (RdQ.later hq hB0) (h1.later hB0) (RdL.mono h2 hB0 λ_ _ _ h=>h) (aJ.later h3 hB0) (RdL.mono h4 hB0 λ_ _ _ h=>h)
 have H:=Lib.hid (And.intro hC (And.intro hs (And.intro h1 (And.intro h2 (And.intro h3 h4)))))
 have HK:=Lib.hid (And.intro hB0 (And.intro k0 k1))
 have HW:=Lib.hid hW
 clear hC hs hq h1 h2 h3 h4 hB0 k0 k1
 by_cases he:dq q=0
 ·obtain⟨hr,hnd,hkd,hqv,hqk,hqu⟩:=Dv he
  obtain⟨f1,f2,f3,f4,f5,f6⟩:=yX hr
  have hsol:=λV (hb:Below W.heap.size W V)=>fS set q.pats As a2 cs c2 V (H.out.1.step (aa HK.out.1 hb)) hls (by omega) hzs (H.out.2.1.later (aa HK.out.1 hb)) (RdL.mono H.out.2.2.2.1 (aa HK.out.1 hb) λ_ _ _ h=>h) hN
  have hvl:=fu q.pats
  have hsl:(bi set q.pats).length<=1500:=Nat.le_trans (sO set q.pats) hN
  have hzr:∀r∈bi set q.pats,∀t∈r,bK t:=λr hr t ht=>by
   obtain⟨u,hu,h⟩:=sN hr ht
   have:=hzs u hu
   rcases h with rfl|rfl|rfl
   ·exact this.1
   ·exact this.2.1
   ·exact this.2.2
  have hrl:∀r∈bi set q.pats,r.length=(ae q.pats).length:=λr hr=>mI hr
  have hz0:Hid (dq q=0):=he
  rw[←hW]at hchk
  rw[he]at hchk
  clear hW
  generalize hask:q.ask=b0 at *
  have hA:Hid (dp set q=if b0 then ((bi set q.pats).any λr => !bG (ae q.pats) r n q.fils,[]) else (decide (0<(gl q.off q.lim (ka (ae q.pats) q.vars n q.fils q.ord q.dist (bi set q.pats))).length),gl q.off q.lim (ka (ae q.pats) q.vars n q.fils q.ord q.dist (bi set q.pats)))):=by show _=_;unfold dp;rw[if_neg (by rw[he];simp),hask]
  have HAsk:=Lib.hid hask
  clear hask he
  have HX:=Lib.hid (And.intro hzr (And.intro hrl (And.intro hr (And.intro hnd (And.intro hkd (And.intro hqv (And.intro hqk hsl)))))))
  clear hzr hrl hr hnd hkd hqv hqk hqu
  go_enter Tryz.func11,Tryz.ntmps11
  go_wp2_with fail
  refine hchk.mono ?_
  rintro e w2 ⟨rfl,hb2⟩
  rw[HW.out]at hb2
  have hs3:=hsol w2 hb2
  have d2:=KeepT.below hb2 _ _ _ HK.out.2.1
  have q3:w2.cell? ⟨w.heap.size,3,none⟩=some (.slice a2 q.pats.length c2):=by rw[World.cell?,d2];rfl
  have HB2:=Lib.hid hb2
  clear hchk hsol hb2 d2
  go_wp2_with fail
  refine hs3.mono ?_
  rintro e w3 ⟨vv,vr,rfl,ownv,ownr,hb3⟩
  obtain⟨Av,cv,rfl,hcv,hrv⟩:=own_slice ownv
  obtain⟨Ar,cr,rfl,hcr,hrr⟩:=ownr.rd
  obtain⟨W4,hW4⟩:∃V:World,w3.alloc (.cells #[.slice Av (ae q.pats).length cv] 23)=V:=⟨_,rfl⟩
  have hb4:Below w3.heap.size w3 W4:=by rw[←hW4];exact blw
  have hbW:Below W.heap.size W W4:=aa (aa HB2.out hb3) hb4
  have hbw:Below w.heap.size w W4:=aa HK.out.1 hbW
  have d0:=KeepT.below hbW _ _ _ HK.out.2.1
  have d1:=KeepT.below hbW _ _ _ HK.out.2.2
  have dv:W4.heap[w3.heap.size]?=some (.cells #[.slice Av (ae q.pats).length cv] 23 (0,0)):=by rw[←hW4];exact heap_alloc_new _ _
  have e0:W4.cell? ⟨w.heap.size,0,none⟩=some (.bool b0):=by rw[World.cell?,d0];rfl
  have HF:=Lib.hid (And.intro (hrv.later hb4) (And.intro (hrr.later hb4) (And.intro hbW (And.intro hbw (And.intro d0 (And.intro d1 (And.intro dv hcr)))))))
  have hlt1:w.heap.size<w3.heap.size:=by
   have h1:=HB2.out.size
   have h2:=hb3.size
   have h3:w.heap.size+1<W.heap.size:=(Array.getElem?_eq_some_iff.1 HK.out.2.2).1
   omega
  clear hs3 q3 hrv hrr ownv ownr hb3 hb4 hbW hbw d0 d1 dv hcr hcv
  have e1:W4.cell? ⟨w.heap.size,1,none⟩=some (.bool q.dist):=by rw[World.cell?,HF.out.2.2.2.2.1];rfl
  have e2:W4.cell? ⟨w.heap.size,2,none⟩=some (.slice a1 q.vars.length c1):=by rw[World.cell?,HF.out.2.2.2.2.1];rfl
  have e3:W4.cell? ⟨w.heap.size,3,none⟩=some (.slice a2 q.pats.length c2):=by rw[World.cell?,HF.out.2.2.2.2.1];rfl
  have e4:W4.cell? ⟨w.heap.size,4,none⟩=some (.slice a3 q.fils.length c3):=by rw[World.cell?,HF.out.2.2.2.2.1];rfl
  have e5:W4.cell? ⟨w.heap.size,5,none⟩=some (.slice a4 q.ord.length c4):=by rw[World.cell?,HF.out.2.2.2.2.1];rfl
  have e6:W4.cell? ⟨w.heap.size,6,none⟩=some (.int .i64 q.lim):=by rw[World.cell?,HF.out.2.2.2.2.1];rfl
  have e7:W4.cell? ⟨w.heap.size,7,none⟩=some (.int .i64 q.off):=by rw[World.cell?,HF.out.2.2.2.2.1];rfl
  have ev:W4.cell? ⟨w3.heap.size,0,none⟩=some (.slice Av (ae q.pats).length cv):=by rw[World.cell?,HF.out.2.2.2.2.2.2.1];rfl
  obtain⟨gv,gr,gbW,gbw,gd0,gd1,gdv,gcr⟩:=HF.out
  have hbO:=H.out
  have hzs2:∀r∈bi set q.pats,∀u∈r,u.x.size<=281474976710656:=λr hr u hu=>Nat.le_trans (HX.out.1 r hr u hu).1 (by decide)
  cases b0 with
  | true =>
   have eg:∀args w,(callFunc 36 args).run Tryz.prog w=.ok (.enter 36 args) w:=enters_of Tryz.func36 (by kernel_rfl) rfl
   have hC:=ui 36 #[.pointer (some ⟨w.heap.size,0,none⟩),.pointer (some ⟨w3.heap.size,0,none⟩)] eg (λr => !bG (ae q.pats) r n q.fils) (bi set q.pats) _ Ar cr W4 rfl (by omega) gr (λrow A' c' V hb hrow hcc hrr=>vW q.fils (ae q.pats) row A' Av a3 c' cv c3 w.heap.size w3.heap.size V (by omega) (by rw[HX.out.2.1 row hrow];omega) (by omega) (hzs2 row hrow) hf.2.2.2.2.1 (ac e4 hb) (ac ev hb) (gv.later hb) hrr (aJ.later hbO.2.2.2.2.1 (aa gbw hb)))
   generalize ((bi set q.pats).any λr => !bG (ae q.pats) r n q.fils)=res at *
   have HA2:Hid (∀w',Below w.heap.size w w'->oK set q w (.returned (.tuple #[.agg #[.bool res,.slice none 0 0],.int .i64 0])) w'):=λw' hb=>by
    unfold oK
    rw[hA.out,hz0.out]
    exact⟨none,0,rfl,Nat.le_refl _,RdL.nil _ _ _ _,hb⟩
   clear gv gr gbW gbw gd0 gd1 gdv gcr hbO hzs2 e1 e2 e3 e4 e5 e6 e7 ev hA
   go_wp2_with fail
   refine hC.mono ?_
   rintro e w5 ⟨rfl,hb5⟩
   have d5:=KeepT.below hb5 _ _ _ HF.out.2.2.2.2.2.1
   have g0:w5.cell? ⟨w.heap.size+1,0,none⟩=some (.bool false):=by rw[World.cell?,d5];rfl
   have g1:w5.cell? ⟨w.heap.size+1,1,none⟩=some (.slice none 0 0):=by rw[World.cell?,d5];rfl
   have g2:w5.frozen? ⟨w.heap.size+1,0,none⟩=false:=by simp[World.frozen?,d5]
   have g3:w5.frozen? ⟨w.heap.size+1,1,none⟩=false:=by simp[World.frozen?,d5]
   have d6:(w5.setCell ⟨w.heap.size+1,0,none⟩ (.bool res)).heap[w.heap.size+1]?=some (.cells #[.bool res,.slice none 0 0] 37 (0,0)):=bM d5 0 _
   have HB6:Hid (Below w.heap.size w (w5.setCell ⟨w.heap.size+1,0,none⟩ (.bool res))):=(aa HF.out.2.2.2.1 hb5).setCell (p:=⟨w.heap.size+1,0,none⟩) (by simp) _
   have HD:=Lib.hid d6
   clear hC hb5 d5 d6 e0
   go_wp2_with (refine wpList_store_row rfl 37 _ _ rfl rfl rfl iq HD.out rfl rfl ?_)
   exact bodyPost_ret (dT rfl _ _ _ _ _ _ _ (.int .i64 0) rfl (setRow_heap _ _ _ #[.bool res,.slice none 0 0] _ (0,0) HD.out) Tryz.underlying37 rfl iq rfl) rfl (HA2.out _ (below_setRow HB6.out (by omega) _))
  | false =>
   have hM:=CC q (ae q.pats) (bi set q.pats) a1 a2 a3 a4 c1 c2 c3 c4 Av Ar cv cr W4 (hbO.1.step gbw) (BM (eT _) HX.out.2.1) (EH HX.out.2.2.2.2.2.2.1) (ET HX.out.2.2.2.1 HX.out.2.2.2.2.2.1) f5 f6 ⟨by omega,by omega,λr hr=>⟨by rw[HX.out.2.1 r hr];omega,HX.out.1 r hr⟩⟩ (by omega) (by omega) (by omega) hf.2.2.2.2.1 (hbO.2.2.1.later gbw) (aJ.later hbO.2.2.2.2.1 gbw) (RdL.mono hbO.2.2.2.2.2 gbw λ_ _ _ h=>h) gv gr
   rw[HAsk.out]at hM
   have hAf:dp set q=(decide (0<(gl q.off q.lim (ka (ae q.pats) q.vars n q.fils q.ord q.dist (bi set q.pats))).length),gl q.off q.lim (ka (ae q.pats) q.vars n q.fils q.ord q.dist (bi set q.pats))):=hA.out
   generalize gl q.off q.lim (ka (ae q.pats) q.vars n q.fils q.ord q.dist (bi set q.pats))=L at *
   have HA2:Hid (∀A c w',L.length<=c->RdRs w' A L->Below w.heap.size w w'->oK set q w (.returned (.tuple #[.agg #[.bool (decide (0<L.length)),.slice A L.length c],.int .i64 0])) w'):=λA c w' hc hr hb=>by
    unfold oK
    rw[hAf,hz0.out]
    exact⟨A,c,rfl,hc,hr,hb⟩
   have hab:W4.heap.size<=W4.heap.size:=Nat.le_refl _
   have hlt2:w.heap.size+1<W4.heap.size:=(Array.getElem?_eq_some_iff.1 gd1).1
   clear gv gr gbW gbw gd0 gd1 gdv gcr hbO hzs2 hA hAf
   go_wp2_with fail
   refine hM.mono ?_
   rintro e w5 ⟨A5,c5,rfl,hc5,hr5,hb5,hfr5⟩
   have d5:=KeepT.below hb5 _ _ _ HF.out.2.2.2.2.2.1
   have g0:w5.cell? ⟨w.heap.size+1,0,none⟩=some (.bool false):=by rw[World.cell?,d5];rfl
   have g1:w5.cell? ⟨w.heap.size+1,1,none⟩=some (.slice none 0 0):=by rw[World.cell?,d5];rfl
   have g2:w5.frozen? ⟨w.heap.size+1,0,none⟩=false:=by simp[World.frozen?,d5]
   have g3:w5.frozen? ⟨w.heap.size+1,1,none⟩=false:=by simp[World.frozen?,d5]
   have H5:=Lib.hid (And.intro d5 (And.intro hc5 (And.intro hr5 (And.intro hb5 hfr5))))
   clear hM hb5 d5 hc5 hr5 hfr5 e0 e1 e2 e3 e4 e5 e6 e7 ev
   go_wp2_with fail
   obtain⟨d5,hc5,hr5,hb5,hfr5⟩:=H5.out
   generalize decide (0<L.length)=bq at *
   have d6:(w5.setCell ⟨w.heap.size+1,1,none⟩ (.slice A5 L.length c5)).heap[w.heap.size+1]?=some (.cells #[.bool false,.slice A5 L.length c5] 37 (0,0)):=bM d5 1 _
   have d7:((w5.setCell ⟨w.heap.size+1,1,none⟩ (.slice A5 L.length c5)).setCell ⟨w.heap.size+1,0,none⟩ (.bool bq)).heap[w.heap.size+1]?=some (.cells #[.bool bq,.slice A5 L.length c5] 37 (0,0)):=bM d6 0 _
   have d8:(((w5.setCell ⟨w.heap.size+1,1,none⟩ (.slice A5 L.length c5)).setCell ⟨w.heap.size+1,0,none⟩ (.bool bq)).setCell ⟨w.heap.size+1,0,none⟩ (.bool bq)).heap[w.heap.size+1]?=some (.cells #[.bool bq,.slice A5 L.length c5] 37 (0,0)):=bM d7 0 _
   have d9:((((w5.setCell ⟨w.heap.size+1,1,none⟩ (.slice A5 L.length c5)).setCell ⟨w.heap.size+1,0,none⟩ (.bool bq)).setCell ⟨w.heap.size+1,0,none⟩ (.bool bq)).setCell ⟨w.heap.size+1,1,none⟩ (.slice A5 L.length c5)).heap[w.heap.size+1]?=some (.cells #[.bool bq,.slice A5 L.length c5] 37 (0,0)):=bM d8 1 _
   have hfin:=HA2.out A5 c5 ((((w5.setCell ⟨w.heap.size+1,1,none⟩ (.slice A5 L.length c5)).setCell ⟨w.heap.size+1,0,none⟩ (.bool bq)).setCell ⟨w.heap.size+1,0,none⟩ (.bool bq)).setCell ⟨w.heap.size+1,1,none⟩ (.slice A5 L.length c5)) hc5 (hr5.box (ab:=w.heap.size+1) (λa ha e=>by have:=hfr5 a ha;omega) d5 (λk hk=>by rw[Below.heap_setCell _ _ _ k hk,Below.heap_setCell _ _ _ k hk,Below.heap_setCell _ _ _ k hk,Below.heap_setCell _ _ _ k hk])) (((((aa HF.out.2.2.2.1 hb5).setCell (p:=⟨w.heap.size+1,1,none⟩) (by simp) _).setCell (p:=⟨w.heap.size+1,0,none⟩) (by simp) _).setCell (p:=⟨w.heap.size+1,0,none⟩) (by simp) _).setCell (p:=⟨w.heap.size+1,1,none⟩) (by simp) _)
   clear d5 d6 d7 d8 hr5 hb5 hfr5
   generalize (((w5.setCell ⟨w.heap.size+1,1,none⟩ (.slice A5 L.length c5)).setCell ⟨w.heap.size+1,0,none⟩ (.bool bq)).setCell ⟨w.heap.size+1,0,none⟩ (.bool bq)).setCell ⟨w.heap.size+1,1,none⟩ (.slice A5 L.length c5)=w9 at *
   exact bodyPost_ret (dT rfl _ _ _ _ _ _ _ (.int .i64 0) rfl d9 Tryz.underlying37 rfl iq rfl) rfl hfin
 ·have hne:(dq q != 0)=true:=by rw[bne_iff_ne];exact he
  have hA:Hid (dp set q=(false,[])):=by show _=_;unfold dp;rw[if_pos he]
  have hR:Hid (∀w',Below w.heap.size w w'->oK set q w (.returned (.tuple #[.agg #[.bool false,.slice none 0 0],.int .i64 (dq q)])) w'):=λw' hb=>by
   unfold oK
   rw[hA.out]
   exact⟨none,0,rfl,Nat.le_refl _,RdL.nil _ _ _ _,hb⟩
  rw[←hW]at hchk
  generalize dq q=z at *
  clear he hW hA
  go_enter Tryz.func11,Tryz.ntmps11
  go_wp2_with (first
   | (go_at_call 34;refine hchk.mono ?_;rintro e w2 ⟨rfl,hb2⟩;rw[HW.out]at hb2;have d1:=KeepT.below hb2 _ _ _ HK.out.2.2;have e0:w2.cell? ⟨w.heap.size+1,0,none⟩=some (.bool false):=(by rw[World.cell?,d1];rfl);have e1:w2.cell? ⟨w.heap.size+1,1,none⟩=some (.slice none 0 0):=(by rw[World.cell?,d1];rfl);have HD:=Lib.hid d1;have HB:=Lib.hid hb2;clear d1 hb2 hchk)
   | (refine wpList_store_row rfl 37 _ _ rfl rfl rfl iq HD.out rfl rfl ?_)
   | fail)
  exact bodyPost_ret (dT rfl _ _ _ _ _ _ _ (.int .i64 z) rfl (setRow_heap w2 _ _ #[.bool false,.slice none 0 0] _ (0,0) HD.out) Tryz.underlying37 rfl iq rfl) rfl (hR.out _ (below_setRow (aa HK.out.1 HB.out) (by omega) _))
end Go.Proofs.YtfcbghmbbjolcaaGreatDoor
