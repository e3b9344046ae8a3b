/- Layer 29's law, walked: iri, of. Layer 29's law: the chapter -/
import Derived.Test.YtoejnneknpoanaaGreatDoorJRK4
namespace Go.Proofs.YtoejnneknpoanaaGreatDoor
open Go Go.RowKit Um Fm Lx Tx Om Mp
theorem law29Iri (s:ByteArray) (w:World):Calls Tryz.prog 41 #[.string s] w λe w'=>e=.returned (.agg #[.int .i64 1,.string s,.string ⟨#[]⟩,.string ⟨#[]⟩])/\Below w.heap.size w w':=by
 go_enter Tryz.func41,Tryz.ntmps41
 go_wp2
 exact bodyPost_ret (v:=.agg #[.int .i64 1,.string s,.string ⟨#[]⟩,.string ⟨#[]⟩]) (by simp[results,Tryz.results41,go_sem]) rfl ⟨rfl,blw⟩
def iriT (s:ByteArray):Tm:=⟨1,s,⟨#[]⟩,⟨#[]⟩⟩
def rowOf (s:ByteArray):List Tm:=[iriT (s.extract 0 1),iriT (s.extract 1 s.size)]
def tX:ByteArray:=⟨#[120]⟩
def tY:ByteArray:=⟨#[121]⟩
def OfS (w wr:World) (va v:Value) (rows:List (List Tm)):Prop:=wr.heap[w.heap.size]?=some (Obj.cells #[.slice none 0 0,.slice none 0 0] 25 (0,0))/\wr.heap[w.heap.size+1+1]?=some (Obj.cells #[va,v] 25 (0,0))/\wr.ownsRow w.heap.size 9 1 va 2 [.string tX,.string tY]/\OwnRs w.heap.size wr v rows/\Below w.heap.size w wr
def OfR (rows:List (List Tm)) (w:World) (e:Ending) (w':World):Prop:=∃va vr,e=.returned (.agg #[va,vr])/\Below w.heap.size w w'/\w'.ownsRow w.heap.size 9 1 va 2 [.string tX,.string tY]/\OwnRs w.heap.size w' vr rows
theorem of_more {w wr W2 w6:World} {va v v' x:Value} {xs:List Value} {rows:List (List Tm)} {row:List Tm} (h0:wr.heap[w.heap.size]?=some (Obj.cells #[.slice none 0 0,.slice none 0 0] 25 (0,0))) (h2:wr.heap[w.heap.size+1+1]?=some (Obj.cells #[va,v] 25 (0,0))) (hva:wr.ownsRow w.heap.size 9 1 va 2 [.string tX,.string tY]) (own:wr.ownsRow w.heap.size 59 1 v rows.length xs) (hall:All 1 (OwnRow w.heap.size wr) xs rows) (hB:Below w.heap.size w wr)
  (hb:Below wr.heap.size wr W2) (hrow:OwnRow w.heap.size W2 [x] row) (own6:w6.ownsRow w.heap.size 59 1 v' (rows.length+1) (xs++[x])) (hg6:W2.grownBy w6 v.ownBlock) (hb6:Below w.heap.size W2 w6) :
  w6.heap[w.heap.size+1+1]?=some (Obj.cells #[va,v] 25 (0,0))/\OfS w (w6.setCell ⟨w.heap.size+1+1,1,none⟩ v') va v' (rows++[row]):=by
 have own2:=own_below own hb (Nat.le_refl _)
 have hs:=hB.size
 have k5:∀e,59≠e->KeepT e W2 w6:=λe he=>KeepT.grown hg6 (own_blockR own2) he
 have g0:=k5 25 (by decide) _ _ _ (KeepT.below hb _ _ _ h0)
 have g2:=k5 25 (by decide) _ _ _ (KeepT.below hb _ _ _ h2)
 have k6:∀e,25≠e->KeepT e w6 (w6.setCell ⟨w.heap.size+1+1,1,none⟩ v'):=λe he=>KeepT.setCell g2 he
 have kR:KeepT 76 W2 (w6.setCell ⟨w.heap.size+1+1,1,none⟩ v'):=(k5 _ (by decide)).trans (k6 _ (by decide))
 refine⟨g2,?_,?_,own_keep (own_keep (own_below hva hb (Nat.le_refl _)) (k5 _ (by decide))) (k6 _ (by decide)),⟨_,?_,(hall.mono λ_ _ _ h=>(h.keep (KeepT.below hb)).keep kR).append (All.one rfl (hrow.keep kR))⟩,((hB.trans (hb.mono hs)).trans hb6).setCell (p:=⟨w.heap.size+1+1,1,none⟩) (by show _<=w.heap.size+1+1;omega) _⟩
 ·rw[Below.heap_setCell w6 ⟨w.heap.size+1+1,1,none⟩ v' _ (by show _≠w.heap.size+1+1;omega)];exact g0
 ·have:=heap_setCell_at g2 1 v'
  simpa using this
 ·rw[List.length_append]
  exact own_keep own6 (k6 _ (by decide))
theorem tblInfo:(Tryz.prog.info? 25).map (·.size)=some 2:=by kernel_rfl
set_option maxRecDepth 100000 in
set_option maxHeartbeats 8000000 in
theorem law29Of (l:List ByteArray) (A:Option Addr) (n c:Nat) (w:World) (hn:l.length=n) (hl:n<=1000) (hz:∀s∈l,1<=s.size/\s.size<=1048576) (hr:Rd w A (l.map Value.string)) :
  Calls Tryz.prog 40 #[.slice A n c] w (OfR (l.map rowOf) w):=by
 obtain⟨W2,hW2⟩:∃W:World,((w.alloc (.cells #[.slice none 0 0,.slice none 0 0] 25)).alloc (.cells #[.string ⟨#[120]⟩,.string ⟨#[121]⟩] 9)).alloc (.cells #[.slice (some ⟨w.heap.size+1,0,none⟩) 2 2,.slice none 0 0] 25)=W:=⟨_,rfl⟩
 have hS:OfS w W2 (.slice (some ⟨w.heap.size+1,0,none⟩) 2 2) (.slice none 0 0) ((l.take 0).map rowOf)/\W2.heap.size=w.heap.size+3:=by
  have g0:W2.heap[w.heap.size]?=some (Obj.cells #[.slice none 0 0,.slice none 0 0] 25 (0,0)):=by rw[←hW2];exact heap_three_0 _ _ _ _
  have g2:W2.heap[w.heap.size+1+1]?=some (Obj.cells #[.slice (some ⟨w.heap.size+1,0,none⟩) 2 2,.slice none 0 0] 25 (0,0)):=by rw[←hW2];exact heap_three_2 _ _ _ _
  have ho:W2.ownsRow w.heap.size 9 1 (.slice (some ⟨w.heap.size+1,0,none⟩) 2 2) 2 [.string tX,.string tY]:=by
   rw[←hW2]
   have:=own_new (w:=w.alloc (.cells #[.slice none 0 0,.slice none 0 0] 25)) (base:=w.heap.size) (e:=9) (size:=1) (n:=2) (cs:=#[.string ⟨#[120]⟩,.string ⟨#[121]⟩]) (xs:=[.string tX,.string tY]) (by simp) rfl rfl (by decide)
   have h2:(w.alloc (.cells #[.slice none 0 0,.slice none 0 0] 25)).heap.size=w.heap.size+1:=by simp
   rw[h2]at this
   exact own_below this ((Below.refl _ _).alloc (Nat.le_refl _) _) (Nat.le_refl _)
  have hb:Below w.heap.size w W2:=by rw[←hW2];exact blw
  exact⟨⟨g0,g2,ho,OwnRs.nil _ _,hb⟩,by rw[←hW2];simp⟩
 have H:=Lib.hid (And.intro hn (And.intro hz hr))
 have HW2:=Lib.hid hW2
 have HS:=Lib.hid hS.1
 have hzw:=hS.2
 clear hn hz hr hW2 hS
 go_enter Tryz.func40,Tryz.ntmps40
 go_wp2
 simp only[HW2.out]
 go_loopw [4,5] (λi u wr=>∃(k:Nat) (v:Value),k<=n/\i=.int .i64 k/\Hid (OfS w wr (.slice (some ⟨w.heap.size+1,0,none⟩) 2 2) v ((l.take k).map rowOf))) (λi _ _=>n-(intOf i).toNat)
 case atStart=>exact⟨0,_,by omega,rfl,HS⟩
 case round =>
  clear HS HW2
  obtain⟨k,v,hk,rfl,HK⟩:=hrel
  obtain⟨h0,h2,hva,⟨xs,own,hall⟩,hB⟩:=HK.out
  obtain⟨hn,hz,hr⟩:=H.out
  have hml:((l.take k).map rowOf).length=k:=by rw[List.length_map,List.length_take];omega
  obtain⟨Ar,cr,rfl,hcr,_⟩:=own_slice own
  rw[hml]at own h2 hcr
  have c1:wr.cell? ⟨w.heap.size+1+1,1,none⟩=some (.slice Ar k cr):=by rw[World.cell?,h2];rfl
  by_cases hlt:k<n
  ·obtain⟨s,hs⟩:∃s,l[k]?=some s:=⟨_,List.getElem?_eq_getElem (by omega)⟩
   obtain⟨hs1,hs2⟩:=hz s (List.mem_of_getElem? hs)
   obtain⟨g,o,rfl,hcs⟩:=(hr.later hB).at_ (j:=k) (u:=.string s) (by rw[List.getElem?_map,hs];rfl)
   have HX:=Lib.hid (And.intro h0 (And.intro h2 (And.intro hva (And.intro own (And.intro hall (And.intro hB (And.intro hs hml)))))))
   have hIr:=λV=>law29Iri (s.extract 0 1) V
   have hIr2:=λV=>law29Iri (s.extract 1 s.size) V
   have hzs:=hB.size
   clear h0 h2 hva own hall hB hn hz hr hs hml hcr HK
   go_wp2
   refine Rf.p0 wr.heap.size _ (.quiet [0,1,2,3,4,6,7,8,9,10] (.one 5 (.one 11 (.one 12 (.quiet [13] (.done)))))) ?_ (λa w h=>h)
   intro wd hbd hwz
   have x1:=cellL hcs hbd
   have HWZ:=Lib.hid (And.intro hwz hbd)
   have hs3:=hbd.size
   clear hwz
   refine Rf.pl_quiet ?_
   iterate 10 go_big_quiet_step (fail)
   refine wpQuiet_nil (Rf.pl_one ?_)
   go_wp2_with (go_at_call 41;refine(hIr _).mono ?_;rintro e w3 ⟨rfl,hb3⟩)
   refine⟨hb3.mono hs3,Rf.pl_one ?_⟩
   have hs4:=hb3.size
   clear hIr
   go_wp2_with (go_at_call 41;refine(hIr2 _).mono ?_;rintro e w4 ⟨rfl,hb4⟩)
   refine⟨hb4.mono (Nat.le_trans hs3 hs4),Rf.pl_one ?_⟩
   have hs5:=hb4.size
   have hB4:Below wr.heap.size wr w4:=below_tr (below_tr hbd hb3) hb4
   have HB4:=Lib.hid hB4
   clear hIr2 hbd hb3 hb4 x1 hcs
   go_wp2
   refine⟨(Below.refl _ _).alloc (by omega) _,Rf.pl_quiet ?_⟩
   iterate 1 go_big_quiet_step (fail)
   refine wpQuiet_nil (Rf.pl_done ?_)
   obtain⟨V,hV⟩:∃V:World,(w4.alloc (.cells #[.int .i64 1,.string (s.extract 0 1),.string ⟨#[]⟩,.string ⟨#[]⟩,.int .i64 1,.string (s.extract 1 s.size),.string ⟨#[]⟩,.string ⟨#[]⟩] 76))=V:=⟨_,rfl⟩
   have hBV:Below wr.heap.size wr V:=by rw[←hV];exact below_tr hB4 ((Below.refl _ _).alloc (Nat.le_refl _) _)
   have hrow:V.ownsRow w.heap.size 76 4 (.slice (some ⟨w4.heap.size,0,none⟩) 2 2) 2 ((rowOf s).flatMap tmC):=by
    rw[←hV]
    exact own_new (w:=w4) (base:=w.heap.size) (e:=76) (size:=4) (n:=2) (by omega) rfl rfl (by decide)
   have hal:Below V.heap.size V (V.alloc (.cells #[.slice (some ⟨w4.heap.size,0,none⟩) 2 2] 59)):=blw
   have own5:=own_below HX.out.2.2.2.1 (below_tr hBV hal) (Nat.le_refl _)
   have d1:=cell_on (cell_on c1 hBV) hal
   have hin:Tryz.prog.underlying 23=some (.slice 59):=Tryz.underlying23
   have hsV:w.heap.size<=V.heap.size:=Nat.le_trans hzs hBV.size
   have dV:=cell_on c1 hBV
   have HV:=Lib.hid hV
   have HR:=Lib.hid (And.intro hrow (And.intro hBV hal))
   clear hV hrow hBV hal c1
   simp only[HV.out]
   go_wp2_with (first
    | (at_builtin;refine wpList_appG rfl rfl hin rowInfo rfl (by omega) rfl own5 rfl (Rd.of_block (heap_alloc_new V _) rfl) rfl (by intro u hu;simp only[List.mem_cons,List.not_mem_nil,or_false]at hu;subst hu;rfl) (by omega) (by omega) (by simp;omega) ?_;intro v' w6 own6 hb6 hg6;obtain⟨s1,s2⟩:=of_more (row:=rowOf s) HX.out.1 HX.out.2.1 HX.out.2.2.1 (by rw[HX.out.2.2.2.2.2.2.2];exact HX.out.2.2.2.1) HX.out.2.2.2.2.1 HX.out.2.2.2.2.2.1 (below_tr HR.out.2.1 HR.out.2.2) ⟨_,rfl,own_below HR.out.1 HR.out.2.2 (Nat.le_refl _)⟩ (by rw[HX.out.2.2.2.2.2.2.2];exact own6) hg6 hb6;obtain⟨A8,c8,rfl,_,_⟩:=own_slice own6;have f8:w6.frozen? ⟨w.heap.size+1+1,1,none⟩=false:=Lib.frozen_of_heap s1 1;have y8:w6.cell? ⟨w.heap.size+1+1,1,none⟩=some (.slice Ar k cr):=(by rw[World.cell?,s1];rfl);have HF8:=Lib.hid s2;clear s1 s2 own6 hb6 hg6 own5 d1))
   go_roundw
   case rel=>exact⟨k+1,_,by omega,by go_num,by rw[take_snoc_of HX.out.2.2.2.2.2.2.1,List.map_append];exact HF8.out⟩
   case measure=>simp[intOf];omega
  ·obtain rfl:n=k:=by omega
   have hfin:=HK.out
   rw[List.take_of_length_le (by omega)]at hfin
   have d0:wr.cell? ⟨w.heap.size+1+1,0,none⟩=some (.slice (some ⟨w.heap.size+1,0,none⟩) 2 2):=by rw[World.cell?,h2];rfl
   have HG:=Lib.hid h0
   have HP:=Lib.hid (setRow_heap wr _ _ #[.slice (some ⟨w.heap.size+1,0,none⟩) 2 2,.slice Ar n cr] _ (0,0) h0)
   have HF:Hid (OfR (l.map rowOf) w (.returned (.agg #[.slice (some ⟨w.heap.size+1,0,none⟩) 2 2,.slice Ar n cr])) (wr.setRow w.heap.size #[.slice (some ⟨w.heap.size+1,0,none⟩) 2 2,.slice Ar n cr])):=by
    obtain⟨e0,e2,e3,e4,e5⟩:=hfin
    have hk:∀e,25≠e->KeepT e wr (wr.setRow w.heap.size #[.slice (some ⟨w.heap.size+1,0,none⟩) 2 2,.slice Ar n cr]):=λe he=>KeepT.setRow e0 he
    have hl2:(l.map rowOf).length=n:=by rw[List.length_map,hn]
    refine⟨_,_,rfl,below_setRow e5 (Nat.le_refl _) _,own_keep e3 (hk _ (by decide)),?_⟩
    rw[hl2]at e4
    exact e4.keep (hk _ (by decide)) (hk _ (by decide))
   clear h0 h2 hva own hall hB hn hz hr hml hcr HK hfin
   go_wp2_with (first
    | (refine wpList_store_row rfl 25 _ _ rfl rfl rfl tblInfo HG.out rfl rfl ?_)
    | fail)
   exact bodyPost_ret (results_cell_row rfl _ _ _ _ _ _ _ rfl HP.out Tryz.underlying25 rfl tblInfo) rfl HF.out
def r2 (c d:UInt8):List Tm:=[iriT ⟨#[c]⟩,iriT ⟨#[d]⟩]
def keyY:Ky:=⟨tY,false⟩
def aw1:List (List Tm):=[r2 97 50,r2 98 49,r2 97 49,r2 97 50]
def aw2:List (List Tm):=[r2 97 49,r2 98 49,r2 97 50,r2 97 50]
def aw3:List (List Tm):=[[iriT ⟨#[97]⟩],[iriT ⟨#[98]⟩],[iriT ⟨#[97]⟩],[iriT ⟨#[97]⟩]]
def aw4:List (List Tm):=[[iriT ⟨#[97]⟩],[iriT ⟨#[98]⟩]]
theorem aw1_is:[(⟨#[97,50]⟩:ByteArray),⟨#[98,49]⟩,⟨#[97,49]⟩,⟨#[97,50]⟩].map rowOf=aw1:=by kernel_rfl
theorem aw2_is:[(⟨#[97,49]⟩:ByteArray),⟨#[98,49]⟩,⟨#[97,50]⟩,⟨#[97,50]⟩].map rowOf=aw2:=by kernel_rfl
theorem awR1:rightT [tX,tY] aw1=true:=by kernel_rfl
theorem awR2:rightT [tX,tY] aw2=true:=by kernel_rfl
theorem awR3:rightT [tX] aw3=true:=by kernel_rfl
theorem awN:sortN [tX,tY] [keyY]=0:=by kernel_rfl
theorem awS:sortL [tX,tY] [keyY] aw1=aw2:=by
 have h1:(placesL [tX,tY] ([keyY].map (·.v))).contains (-1)=false:=by kernel_rfl
 unfold sortL
 rw[if_neg (by rw[h1];decide)]
 refine(sorted_list ?_ ?_).symm
 ·decide +kernel
 ·decide +kernel
theorem awP:projN [tX,tY] [tX]=0:=by kernel_rfl
theorem awPr:aw2.map (projL (placesL [tX,tY] [tX]))=aw3:=by kernel_rfl
theorem awO:onceL aw3=aw4:=by kernel_rfl
def shortB (rows:List (List Tm)):Bool:=rows.all λr=>decide (r.length<=100) && r.all λt=>decide (0<=t.k) && decide (t.k<=100) && decide (t.x.size<=100) && decide (t.l.size<=100) && decide (t.y.size<=100)
theorem short_of {rows:List (List Tm)} (h:shortB rows=true):∀r∈rows,keyRow r/\smallRow r/\r.length<=100:=by
 intro r hr
 have h1:=List.all_eq_true.1 h r hr
 simp only[Bool.and_eq_true,decide_eq_true_iff,List.all_eq_true]at h1
 refine⟨⟨by omega,λt ht=>?_⟩,⟨by omega,λt ht=>?_⟩,h1.1⟩
 ·obtain⟨⟨⟨⟨e1,e2⟩,e3⟩,e4⟩,e5⟩:=h1.2 t ht
  exact⟨⟨by omega,by omega⟩,by omega,by omega,by omega⟩
 ·obtain⟨⟨⟨⟨e1,e2⟩,e3⟩,e4⟩,e5⟩:=h1.2 t ht
  exact⟨by omega,by omega,by omega⟩
theorem awB1:shortB aw1=true:=by kernel_rfl
theorem awB2:shortB aw2=true:=by kernel_rfl
theorem awB3:shortB aw3=true:=by kernel_rfl
theorem awB4:shortB aw4=true:=by kernel_rfl
theorem awZ:∀s∈[(⟨#[97,50]⟩:ByteArray),⟨#[98,49]⟩,⟨#[97,49]⟩,⟨#[97,50]⟩],1<=s.size/\s.size<=1048576:=by
 intro s hs
 simp only[List.mem_cons,List.not_mem_nil,or_false]at hs
 rcases hs with rfl|rfl|rfl|rfl<;>exact⟨by decide,by decide⟩
theorem awZ2:∀s∈[(⟨#[97,49]⟩:ByteArray),⟨#[98,49]⟩,⟨#[97,50]⟩,⟨#[97,50]⟩],1<=s.size/\s.size<=1048576:=by
 intro s hs
 simp only[List.mem_cons,List.not_mem_nil,or_false]at hs
 rcases hs with rfl|rfl|rfl|rfl<;>exact⟨by decide,by decide⟩
theorem OwnTab.tab {base:Nat} {w:World} {v0 v1:Value} {vars:List ByteArray} {rows:List (List Tm)} (h:OwnTab base w v0 v1 vars rows) (hv:vars.length<=1000000) (hr:rows.length<=1000000) (hz:∀r∈rows,r.length<=1000000) :
  ∃A c B d,v0=.slice A vars.length c/\v1=.slice B rows.length d/\TabAt w A B vars.length c rows.length d vars rows/\rows.length<=d:=by
 obtain⟨h0,h1⟩:=h
 obtain⟨A,c,rfl,hc,hrd⟩:=own_slice h0
 obtain⟨B,d,rfl,hd,hrr⟩:=h1.rd
 exact⟨A,c,B,d,rfl,rfl,⟨rfl,rfl,hv,hr,hc,hrd,hrr,hz⟩,hd⟩
theorem OfR.tab {rows:List (List Tm)} {w w':World} {e:Ending} (h:OfR rows w e w'):∃v0 v1,e=.returned (.agg #[v0,v1])/\Below w.heap.size w w'/\OwnTab w.heap.size w' v0 v1 [tX,tY] rows:=by
 obtain⟨va,vr,h1,h2,h3,h4⟩:=h
 exact⟨va,vr,h1,h2,h3,h4.in_⟩
end Go.Proofs.YtoejnneknpoanaaGreatDoor
