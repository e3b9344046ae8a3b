/- Layer 29's law, walked: iri, of. Layer 29's law: the chapter -/
import Derived.Test.YtjldjeenfnahoaaGreatDoorJRK4
set_option maxHeartbeats 8000000
set_option maxRecDepth 100000
namespace Go.Proofs.YtjldjeenfnahoaaGreatDoor
open Go Go.RowKit Um Fm Lx Tx Om Mp
theorem fX (s:ByteArray) (w:World):Calls Tryz.prog 29 #[.string s] w λe w'=>e=.returned (.agg #[.int .i64 1,.string s,.string ⟨#[]⟩,.string ⟨#[]⟩])/\Below w.heap.size w w':=by
 go_enter Tryz.func29,Tryz.ntmps29
 go_wp2
 exact bodyPost_ret (v:=.agg #[.int .i64 1,.string s,.string ⟨#[]⟩,.string ⟨#[]⟩]) (by simp[results,Tryz.results29,go_sem]) rfl ⟨rfl,blw⟩
def nd (s:ByteArray):Tm:=⟨1,s,⟨#[]⟩,⟨#[]⟩⟩
def rowOf (s:ByteArray):List Tm:=[nd (s.extract 0 1),nd (s.extract 1 s.size)]
def tX:ByteArray:=⟨#[120]⟩
def tY:ByteArray:=⟨#[121]⟩
def OfS (w wr:World) (va v:Value) (rows:List (List Tm)):Prop:=wr.heap[w.heap.size]?=some (Obj.cells #[.slice none 0 0,.slice none 0 0] 25 (0,0))/\wr.heap[w.heap.size+1+1]?=some (Obj.cells #[va,v] 25 (0,0))/\wr.ownsRow w.heap.size 9 1 va 2 [.string tX,.string tY]/\OwnRs w.heap.size wr v rows/\Below w.heap.size w wr
def OfR (rows:List (List Tm)) (w:World) (e:Ending) (w':World):Prop:=∃va vr,e=.returned (.agg #[va,vr])/\Below w.heap.size w w'/\w'.ownsRow w.heap.size 9 1 va 2 [.string tX,.string tY]/\OwnRs w.heap.size w' vr rows
theorem AT {w wr W2 w6:World} {va v v' x:Value} {xs:List Value} {rows:List (List Tm)} {row:List Tm} (h0:wr.heap[w.heap.size]?=some (Obj.cells #[.slice none 0 0,.slice none 0 0] 25 (0,0))) (h2:wr.heap[w.heap.size+1+1]?=some (Obj.cells #[va,v] 25 (0,0))) (hva:wr.ownsRow w.heap.size 9 1 va 2 [.string tX,.string tY]) (own:wr.ownsRow w.heap.size 69 1 v rows.length xs) (hall:All 1 (OwnRow w.heap.size wr) xs rows) (hB:Below w.heap.size w wr)
  (hb:Below wr.heap.size wr W2) (hrow:OwnRow w.heap.size W2 [x] row) (own6:w6.ownsRow w.heap.size 69 1 v' (rows.length+1) (xs++[x])) (hg6:W2.grownBy w6 v.ownBlock) (hb6:Below w.heap.size W2 w6) :
  w6.heap[w.heap.size+1+1]?=some (Obj.cells #[va,v] 25 (0,0))/\OfS w (w6.setCell ⟨w.heap.size+1+1,1,none⟩ v') va v' (rows++[row]):=by
 have own2:=own_below own hb (Nat.le_refl _)
 have hs:=hB.size
 have k5:∀e,69≠e->KeepT e W2 w6:=λe he=>KeepT.grown hg6 (own_blockR own2) he
 have g0:=k5 25 (by decide) _ _ _ (KeepT.below hb _ _ _ h0)
 have g2:=k5 25 (by decide) _ _ _ (KeepT.below hb _ _ _ h2)
 have k6:∀e,25≠e->KeepT e w6 (w6.setCell ⟨w.heap.size+1+1,1,none⟩ v'):=λe he=>KeepT.setCell g2 he
 have kR:KeepT 65 W2 (w6.setCell ⟨w.heap.size+1+1,1,none⟩ v'):=(k5 _ (by decide)).trans (k6 _ (by decide))
 refine⟨g2,?_,?_,own_keep (own_keep (own_below hva hb (Nat.le_refl _)) (k5 _ (by decide))) (k6 _ (by decide)),⟨_,?_,(hall.mono λ_ _ _ h=>(h.keep (KeepT.below hb)).keep kR).append (All.one rfl (hrow.keep kR))⟩,((hB.trans (hb.mono hs)).trans hb6).setCell (p:=⟨w.heap.size+1+1,1,none⟩) (by show _<=w.heap.size+1+1;omega) _⟩
 ·rw[Below.heap_setCell w6 ⟨w.heap.size+1+1,1,none⟩ v' _ (by show _≠w.heap.size+1+1;omega)];exact g0
 ·have:=aR g2 1 v'
  simpa using this
 ·rw[List.length_append]
  exact own_keep own6 (k6 _ (by decide))
theorem dE:(Tryz.prog.info? 25).map (·.size)=some 2:=by kernel_rfl
theorem tZ (l:List ByteArray) (A:Option Addr) (n c:Nat) (w:World) (hn:l.length=n) (hl:n<=1000) (hz:∀s∈l,1<=s.size/\s.size<=1048576) (hr:Rd w A (l.map Value.string)) :
  Calls Tryz.prog 28 #[.slice A n c] w (OfR (l.map rowOf) w):=by
 obtain⟨W2,hW2⟩:∃W:World,((w.alloc (.cells #[.slice none 0 0,.slice none 0 0] 25)).alloc (.cells #[.string ⟨#[120]⟩,.string ⟨#[121]⟩] 9)).alloc (.cells #[.slice (some ⟨w.heap.size+1,0,none⟩) 2 2,.slice none 0 0] 25)=W:=⟨_,rfl⟩
 have hS:OfS w W2 (.slice (some ⟨w.heap.size+1,0,none⟩) 2 2) (.slice none 0 0) ((l.take 0).map rowOf)/\W2.heap.size=w.heap.size+3:=by
  have g0:W2.heap[w.heap.size]?=some (Obj.cells #[.slice none 0 0,.slice none 0 0] 25 (0,0)):=by rw[←hW2];exact fx _ _ _ _
  have g2:W2.heap[w.heap.size+1+1]?=some (Obj.cells #[.slice (some ⟨w.heap.size+1,0,none⟩) 2 2,.slice none 0 0] 25 (0,0)):=by rw[←hW2];exact fw _ _ _ _
  have ho:W2.ownsRow w.heap.size 9 1 (.slice (some ⟨w.heap.size+1,0,none⟩) 2 2) 2 [.string tX,.string tY]:=by
   rw[←hW2]
   have:=gz (w:=w.alloc (.cells #[.slice none 0 0,.slice none 0 0] 25)) (base:=w.heap.size) (e:=9) (size:=1) (n:=2) (cs:=#[.string ⟨#[120]⟩,.string ⟨#[121]⟩]) (xs:=[.string tX,.string tY]) (by simp) rfl rfl (by decide)
   have h2:(w.alloc (.cells #[.slice none 0 0,.slice none 0 0] 25)).heap.size=w.heap.size+1:=by simp
   rw[h2]at this
   exact own_below this ((Below.refl _ _).alloc (Nat.le_refl _) _) (Nat.le_refl _)
  have hb:Below w.heap.size w W2:=by rw[←hW2];exact blw
  exact⟨⟨g0,g2,ho,OwnRs.nil _ _,hb⟩,by rw[←hW2];simp⟩
 have H:=Lib.hid (And.intro hn (And.intro hz hr))
 have HW2:=Lib.hid hW2
 have HS:=Lib.hid hS.1
 have hzw:=hS.2
 clear hn hz hr hW2 hS
 go_enter Tryz.func28,Tryz.ntmps28
 go_wp2
 simp only[HW2.out]
 go_loopw [4,5] (λi u wr=>∃(k:Nat) (v:Value),k<=n/\i=.int .i64 k/\Hid (OfS w wr (.slice (some ⟨w.heap.size+1,0,none⟩) 2 2) v ((l.take k).map rowOf))) (λi _ _=>n-(intOf i).toNat)
 case atStart=>exact⟨0,_,by omega,rfl,HS⟩
 case round =>
  clear HS HW2
  obtain⟨k,v,hk,rfl,HK⟩:=hrel
  obtain⟨h0,h2,hva,⟨xs,own,hall⟩,hB⟩:=HK.out
  obtain⟨hn,hz,hr⟩:=H.out
  have hml:((l.take k).map rowOf).length=k:=by rw[List.length_map,List.length_take];omega
  obtain⟨Ar,cr,rfl,hcr,_⟩:=own_slice own
  rw[hml]at own h2 hcr
  have c1:wr.cell? ⟨w.heap.size+1+1,1,none⟩=some (.slice Ar k cr):=by rw[World.cell?,h2];rfl
  by_cases hlt:k<n
  ·obtain⟨s,hs⟩:∃s,l[k]?=some s:=⟨_,List.getElem?_eq_getElem (by omega)⟩
   obtain⟨hs1,hs2⟩:=hz s (List.mem_of_getElem? hs)
   obtain⟨g,o,rfl,hcs⟩:=(hr.later hB).at_ (j:=k) (u:=.string s) (by rw[List.getElem?_map,hs];rfl)
   have HX:=Lib.hid (And.intro h0 (And.intro h2 (And.intro hva (And.intro own (And.intro hall (And.intro hB (And.intro hs hml)))))))
   have hIr:=λV=>fX (s.extract 0 1) V
   have hIr2:=λV=>fX (s.extract 1 s.size) V
   have hzs:=hB.size
   clear h0 h2 hva own hall hB hn hz hr hs hml hcr HK
   go_wp2
   refine Rf.p0 wr.heap.size _ (.quiet [0,1,2,3,4,6,7,8,9,10] (.one 5 (.one 11 (.one 12 (.quiet [13] (.done)))))) ?_ (λa w h=>h)
   intro wd hbd hwz
   have x1:=cellL hcs hbd
   have HWZ:=Lib.hid (And.intro hwz hbd)
   have hs3:=hbd.size
   clear hwz
   refine Rf.pl_quiet ?_
   iterate 10 go_big_quiet_step (fail)
   refine wpQuiet_nil (Rf.pl_one ?_)
   go_wp2_with (go_at_call 29;refine(hIr _).mono ?_;rintro e w3 ⟨rfl,hb3⟩)
   refine⟨hb3.mono hs3,Rf.pl_one ?_⟩
   have hs4:=hb3.size
   clear hIr
   go_wp2_with (go_at_call 29;refine(hIr2 _).mono ?_;rintro e w4 ⟨rfl,hb4⟩)
   refine⟨hb4.mono (Nat.le_trans hs3 hs4),Rf.pl_one ?_⟩
   have hs5:=hb4.size
   have hB4:Below wr.heap.size wr w4:=aa (aa hbd hb3) hb4
   have HB4:=Lib.hid hB4
   clear hIr2 hbd hb3 hb4 x1 hcs
   go_wp2
   refine⟨(Below.refl _ _).alloc (by omega) _,Rf.pl_quiet ?_⟩
   iterate 1 go_big_quiet_step (fail)
   refine wpQuiet_nil (Rf.pl_done ?_)
   obtain⟨V,hV⟩:∃V:World,(w4.alloc (.cells #[.int .i64 1,.string (s.extract 0 1),.string ⟨#[]⟩,.string ⟨#[]⟩,.int .i64 1,.string (s.extract 1 s.size),.string ⟨#[]⟩,.string ⟨#[]⟩] 65))=V:=⟨_,rfl⟩
   have hBV:Below wr.heap.size wr V:=by rw[←hV];exact aa hB4 ((Below.refl _ _).alloc (Nat.le_refl _) _)
   have hrow:V.ownsRow w.heap.size 65 4 (.slice (some ⟨w4.heap.size,0,none⟩) 2 2) 2 ((rowOf s).flatMap tmC):=by
    rw[←hV]
    exact gz (w:=w4) (base:=w.heap.size) (e:=65) (size:=4) (n:=2) (by omega) rfl rfl (by decide)
   have hal:Below V.heap.size V (V.alloc (.cells #[.slice (some ⟨w4.heap.size,0,none⟩) 2 2] 69)):=blw
   have own5:=own_below HX.out.2.2.2.1 (aa hBV hal) (Nat.le_refl _)
   have d1:=ab (ab c1 hBV) hal
   have hin:Tryz.prog.underlying 23=some (.slice 69):=Tryz.underlying23
   have hsV:w.heap.size<=V.heap.size:=Nat.le_trans hzs hBV.size
   have dV:=ab c1 hBV
   have HV:=Lib.hid hV
   have HR:=Lib.hid (And.intro hrow (And.intro hBV hal))
   clear hV hrow hBV hal c1
   simp only[HV.out]
   go_wp2_with (first
    | (at_builtin;refine ar rfl rfl hin cw rfl (by omega) rfl own5 rfl (Rd.of_block (heap_alloc_new V _) rfl) rfl (by intro u hu;simp only[List.mem_cons,List.not_mem_nil,or_false]at hu;subst hu;rfl) (by omega) (by omega) (by simp;omega) ?_;intro v' w6 own6 hb6 hg6;obtain⟨s1,s2⟩:=AT (row:=rowOf s) HX.out.1 HX.out.2.1 HX.out.2.2.1 (by rw[HX.out.2.2.2.2.2.2.2];exact HX.out.2.2.2.1) HX.out.2.2.2.2.1 HX.out.2.2.2.2.2.1 (aa HR.out.2.1 HR.out.2.2) ⟨_,rfl,own_below HR.out.1 HR.out.2.2 (Nat.le_refl _)⟩ (by rw[HX.out.2.2.2.2.2.2.2];exact own6) hg6 hb6;obtain⟨A8,c8,rfl,_,_⟩:=own_slice own6;have f8:w6.frozen? ⟨w.heap.size+1+1,1,none⟩=false:=Lib.frozen_of_heap s1 1;have y8:w6.cell? ⟨w.heap.size+1+1,1,none⟩=some (.slice Ar k cr):=(by rw[World.cell?,s1];rfl);have HF8:=Lib.hid s2;clear s1 s2 own6 hb6 hg6 own5 d1))
   go_roundw
   case rel=>exact⟨k+1,_,by omega,by go_num,by rw[ah HX.out.2.2.2.2.2.2.1,List.map_append];exact HF8.out⟩
   case measure=>simp[intOf];omega
  ·obtain rfl:n=k:=by omega
   have hfin:=HK.out
   rw[List.take_of_length_le (by omega)]at hfin
   have d0:wr.cell? ⟨w.heap.size+1+1,0,none⟩=some (.slice (some ⟨w.heap.size+1,0,none⟩) 2 2):=by rw[World.cell?,h2];rfl
   have HG:=Lib.hid h0
   have HP:=Lib.hid (setRow_heap wr _ _ #[.slice (some ⟨w.heap.size+1,0,none⟩) 2 2,.slice Ar n cr] _ (0,0) h0)
   have HF:Hid (OfR (l.map rowOf) w (.returned (.agg #[.slice (some ⟨w.heap.size+1,0,none⟩) 2 2,.slice Ar n cr])) (wr.setRow w.heap.size #[.slice (some ⟨w.heap.size+1,0,none⟩) 2 2,.slice Ar n cr])):=by
    obtain⟨e0,e2,e3,e4,e5⟩:=hfin
    have hk:∀e,25≠e->KeepT e wr (wr.setRow w.heap.size #[.slice (some ⟨w.heap.size+1,0,none⟩) 2 2,.slice Ar n cr]):=λe he=>KeepT.setRow e0 he
    have hl2:(l.map rowOf).length=n:=by rw[List.length_map,hn]
    refine⟨_,_,rfl,below_setRow e5 (Nat.le_refl _) _,own_keep e3 (hk _ (by decide)),?_⟩
    rw[hl2]at e4
    exact e4.keep (hk _ (by decide)) (hk _ (by decide))
   clear h0 h2 hva own hall hB hn hz hr hml hcr HK hfin
   go_wp2_with (first
    | (refine wpList_store_row rfl 25 _ _ rfl rfl rfl dE HG.out rfl rfl ?_)
    | fail)
   exact bodyPost_ret (results_cell_row rfl _ _ _ _ _ _ _ rfl HP.out Tryz.underlying25 rfl dE) rfl HF.out
def r2 (c d:UInt8):List Tm:=[nd ⟨#[c]⟩,nd ⟨#[d]⟩]
def Bh:Ky:=⟨tY,false⟩
def aw1:List (List Tm):=[r2 97 50,r2 98 49,r2 97 49,r2 97 50]
def aw2:List (List Tm):=[r2 97 49,r2 98 49,r2 97 50,r2 97 50]
def aw3:List (List Tm):=[[nd ⟨#[97]⟩],[nd ⟨#[98]⟩],[nd ⟨#[97]⟩],[nd ⟨#[97]⟩]]
def aw4:List (List Tm):=[[nd ⟨#[97]⟩],[nd ⟨#[98]⟩]]
theorem D5:[(⟨#[97,50]⟩:ByteArray),⟨#[98,49]⟩,⟨#[97,49]⟩,⟨#[97,50]⟩].map rowOf=aw1:=by kernel_rfl
theorem D4:[(⟨#[97,49]⟩:ByteArray),⟨#[98,49]⟩,⟨#[97,50]⟩,⟨#[97,50]⟩].map rowOf=aw2:=by kernel_rfl
theorem DX:aw [tX,tY] aw1=true:=by kernel_rfl
theorem DW:aw [tX,tY] aw2=true:=by kernel_rfl
theorem DV:aw [tX] aw3=true:=by kernel_rfl
theorem awN:dD [tX,tY] [Bh]=0:=by kernel_rfl
theorem awS:dR [tX,tY] [Bh] aw1=aw2:=by
 have h1:(av [tX,tY] ([Bh].map (·.v))).contains (-1)=false:=by kernel_rfl
 unfold dR
 rw[if_neg (by rw[h1];decide)]
 refine(fP ?_ ?_).symm
 ·decide +kernel
 ·decide +kernel
theorem awP:bX [tX,tY] [tX]=0:=by kernel_rfl
theorem DY:aw2.map (be (av [tX,tY] [tX]))=aw3:=by kernel_rfl
theorem awO:br aw3=aw4:=by kernel_rfl
def je (rows:List (List Tm)):Bool:=rows.all λr=>decide (r.length<=100) && r.all λt=>decide (0<=t.k) && decide (t.k<=100) && decide (t.x.size<=100) && decide (t.l.size<=100) && decide (t.y.size<=100)
theorem kZ {rows:List (List Tm)} (h:je rows=true):∀r∈rows,ju r/\bD r/\r.length<=100:=by
 intro r hr
 have h1:=List.all_eq_true.1 h r hr
 simp only[Bool.and_eq_true,decide_eq_true_iff,List.all_eq_true]at h1
 refine⟨⟨by omega,λt ht=>?_⟩,⟨by omega,λt ht=>?_⟩,h1.1⟩
 ·obtain⟨⟨⟨⟨e1,e2⟩,e3⟩,e4⟩,e5⟩:=h1.2 t ht
  exact⟨⟨by omega,by omega⟩,by omega,by omega,by omega⟩
 ·obtain⟨⟨⟨⟨e1,e2⟩,e3⟩,e4⟩,e5⟩:=h1.2 t ht
  exact⟨by omega,by omega,by omega⟩
theorem DC:je aw1=true:=by kernel_rfl
theorem BP:je aw2=true:=by kernel_rfl
theorem Dz:je aw3=true:=by kernel_rfl
theorem sY:je aw4=true:=by kernel_rfl
theorem awZ:∀s∈[(⟨#[97,50]⟩:ByteArray),⟨#[98,49]⟩,⟨#[97,49]⟩,⟨#[97,50]⟩],1<=s.size/\s.size<=1048576:=by
 intro s hs
 simp only[List.mem_cons,List.not_mem_nil,or_false]at hs
 rcases hs with rfl|rfl|rfl|rfl<;>exact⟨by decide,by decide⟩
theorem DU:∀s∈[(⟨#[97,49]⟩:ByteArray),⟨#[98,49]⟩,⟨#[97,50]⟩,⟨#[97,50]⟩],1<=s.size/\s.size<=1048576:=by
 intro s hs
 simp only[List.mem_cons,List.not_mem_nil,or_false]at hs
 rcases hs with rfl|rfl|rfl|rfl<;>exact⟨by decide,by decide⟩
theorem cY.tab {base:Nat} {w:World} {v0 v1:Value} {vars:List ByteArray} {rows:List (List Tm)} (h:cY base w v0 v1 vars rows) (hv:vars.length<=1000000) (hr:rows.length<=1000000) (hz:∀r∈rows,r.length<=1000000) :
  ∃A c B d,v0=.slice A vars.length c/\v1=.slice B rows.length d/\TabAt w A B vars.length c rows.length d vars rows/\rows.length<=d:=by
 obtain⟨h0,h1⟩:=h
 obtain⟨A,c,rfl,hc,hrd⟩:=own_slice h0
 obtain⟨B,d,rfl,hd,hrr⟩:=h1.rd
 exact⟨A,c,B,d,rfl,rfl,⟨rfl,rfl,hv,hr,hc,hrd,hrr,hz⟩,hd⟩
theorem cY.later {base:Nat} {w w':World} {v0 v1:Value} {vars:List ByteArray} {rows:List (List Tm)} (h:cY base w v0 v1 vars rows) (hb:Below w.heap.size w w'):cY base w' v0 v1 vars rows:=⟨own_below h.1 hb (Nat.le_refl _),h.2.keep (KeepT.below hb) (KeepT.below hb)⟩
theorem OfR.tab {rows:List (List Tm)} {w w':World} {e:Ending} (h:OfR rows w e w'):∃v0 v1,e=.returned (.agg #[v0,v1])/\Below w.heap.size w w'/\cY w.heap.size w' v0 v1 [tX,tY] rows:=by
 obtain⟨va,vr,h1,h2,h3,h4⟩:=h
 exact⟨va,vr,h1,h2,h3,h4.in_⟩
theorem wm (A B:Option Addr) (n c m d:Nat) (W:World):(Instr.field 25 (.agg #[.slice A n c,.slice B m d]) 1).run Tryz.prog W=.ok (.slice B m d) W:=by kernel_rfl
theorem sj {W:World} {g1 g2 g3:Nat} (h1:W.heap[g1]?=some (Obj.cells #[.int .i64 1,.string ⟨#[97]⟩,.string ⟨#[]⟩,.string ⟨#[]⟩] 65 (0,0))) (h2:W.heap[g2]?=some (Obj.cells #[.int .i64 1,.string ⟨#[98]⟩,.string ⟨#[]⟩,.string ⟨#[]⟩] 65 (0,0))) (h3:W.heap[g3]?=some (Obj.cells #[.slice (some ⟨g1,0,none⟩) 1 1,.slice (some ⟨g2,0,none⟩) 1 1] 69 (0,0))):RdRs W (some ⟨g3,0,none⟩) aw4:=
 ⟨_,Rd.of_block h3 rfl,[.slice (some ⟨g1,0,none⟩) 1 1],_,rfl,rfl,⟨_,_,rfl,Nat.le_refl _,.of (Rd.of_block h1 rfl)⟩,[.slice (some ⟨g2,0,none⟩) 1 1],_,rfl,rfl,⟨_,_,rfl,Nat.le_refl _,.of (Rd.of_block h2 rfl)⟩,rfl⟩
theorem de {l:List (List Tm)} (h:je l=true):∀r∈l,r.length<=1000000:=λr hr=>Nat.le_trans (kZ h r hr).2.2 (by decide)
theorem sA (w:World) (hC:dJ w) (hP:gL w):Calls Tryz.prog 6 #[] w λe w'=>e=.returned (.bool true)/\Below w.heap.size w w':=by
 obtain⟨W0,hW0⟩:∃W:World,w.alloc (.cells #[.string ⟨#[97,50]⟩,.string ⟨#[98,49]⟩,.string ⟨#[97,49]⟩,.string ⟨#[97,50]⟩] 9)=W:=⟨_,rfl⟩
 have hB0:Below w.heap.size w W0:=by rw[←hW0];exact blw
 have hO:=tZ [(⟨#[97,50]⟩:ByteArray),⟨#[98,49]⟩,⟨#[97,49]⟩,⟨#[97,50]⟩] (some ⟨w.heap.size,0,none⟩) 4 4 W0 rfl (by decide) awZ (by rw[←hW0];exact Rd.of_block (heap_alloc_new w _) rfl)
 rw[D5]at hO
 have H:=Lib.hid (And.intro hC hP)
 have HW0:=Lib.hid hW0
 have HB0:=Lib.hid hB0
 clear hC hP hW0 hB0
 go_enter Tryz.func6,Tryz.ntmps6
 go_wp2_with fail
 simp only[HW0.out]
 refine hO.mono ?_
 intro e w1 h1
 obtain⟨x0,x1,rfl,hb1,hT1⟩:=h1.tab
 clear hO h1
 obtain⟨A1,c1,B1,d1,rfl,rfl,T1,-⟩:=hT1.tab (by decide) (by decide) (de DC)
 have HB1:=Lib.hid (aa HB0.out hb1)
 obtain⟨V1,hV1⟩:∃W:World,w1.alloc (.cells #[.string ⟨#[121]⟩,.bool false] 61)=W:=⟨_,rfl⟩
 have hbV:Below w1.heap.size w1 V1:=by rw[←hV1];exact blw
 have hS:=oy (T1.later hbV) DX (H.out.1.step (aa HB1.out hbV)) (λr hr=>(kZ DC r hr).2.1) [Bh] (some ⟨w1.heap.size,0,none⟩) 1 1 rfl (by decide) (by rw[←hV1];exact⟨_,Rd.of_block (heap_alloc_new w1 _) rfl,All.one rfl rfl⟩)
 rw[awN,awS]at hS
 have HV1:=Lib.hid hV1
 have HBV:=Lib.hid (aa HB1.out hbV)
 clear hb1 hT1 T1 hV1 hbV
 simp only[show ([tX,tY]:List ByteArray).length=2 from rfl,show aw1.length=4 from rfl]at hS ⊢
 go_wp2_with fail
 simp only[HV1.out]
 refine hS.mono ?_
 intro e w2 h2
 obtain⟨x0,x1,rfl,hb2,hT2⟩:=h2.out
 simp only[if_pos]at hT2
 obtain⟨A2,c2,B2,d2,rfl,rfl,T2,-⟩:=hT2.tab (by decide) (by decide) (de BP)
 clear hS h2
 simp only[show ([tX,tY]:List ByteArray).length=2 from rfl,show aw2.length=4 from rfl]at T2 ⊢
 have HB2:=Lib.hid (aa HBV.out hb2)
 obtain⟨V2,hV2⟩:∃W:World,(w2.alloc (.cells #[.slice A2 2 c2,.slice B2 4 d2] 25)).alloc (.cells #[.string ⟨#[120]⟩] 9)=W:=⟨_,rfl⟩
 have hbV2:Below w2.heap.size w2 V2:=by rw[←hV2];exact blw
 have hz2:V2.heap.size=w2.heap.size+2:=by rw[←hV2];simp
 have k2:V2.heap[w2.heap.size]?=some (Obj.cells #[.slice A2 2 c2,.slice B2 4 d2] 25 (0,0)):=by rw[←hV2];exact am _ _ _
 have hPr:=gV (T2.later hbV2) DW [tX] (some ⟨w2.heap.size+1,0,none⟩) 1 1 rfl (by decide) (Nat.le_refl _) (by rw[←hV2];exact Rd.of_block (ai w2 _ _) rfl)
 simp only[awP,if_pos]at hPr
 rw[DY]at hPr
 have HV2:=Lib.hid hV2
 have HBV2:=Lib.hid (aa HB2.out hbV2)
 have HT2:=Lib.hid (T2.later hbV2)
 have K2:=Lib.hid k2
 clear hb2 hT2 T2 hV2 hbV2 k2
 go_wp2_with fail
 simp only[HV2.out]
 refine hPr.mono ?_
 intro e w3 h3
 obtain⟨x0,x1,rfl,hb3,hT3⟩:=h3.out
 simp only[if_pos]at hT3
 obtain⟨A3,c3,B3,d3,rfl,rfl,T3,-⟩:=hT3.tab (by decide) (by decide) (de Dz)
 clear hPr h3
 simp only[show ([tX]:List ByteArray).length=1 from rfl,show aw3.length=4 from rfl]at T3 ⊢
 have HB3:=Lib.hid (aa HBV2.out hb3)
 obtain⟨V3,hV3⟩:∃W:World,w3.alloc (.cells #[.slice A3 1 c3,.slice B3 4 d3] 25)=W:=⟨_,rfl⟩
 have hbV3:Below w3.heap.size w3 V3:=by rw[←hV3];exact blw
 have k3:V3.heap[w3.heap.size]?=some (Obj.cells #[.slice A3 1 c3,.slice B3 4 d3] 25 (0,0)):=by rw[←hV3];exact heap_alloc_new _ _
 have hOn:=tC (T3.later hbV3) DV (H.out.2.step (aa HB3.out hbV3)) (λr hr=>(kZ Dz r hr).1)
 rw[awO]at hOn
 have HV3:=Lib.hid hV3
 have HBV3:=Lib.hid (aa HB3.out hbV3)
 have HT3:=Lib.hid (T3.later hbV3)
 have K3:=Lib.hid (And.intro k3 (aa hb3 hbV3))
 clear hb3 hT3 T3 hV3 hbV3 k3
 go_wp2_with fail
 simp only[HV3.out]
 refine hOn.mono ?_
 intro e w4 h4
 obtain⟨x0,x1,rfl,hb4,hT4⟩:=h4.out
 simp only[if_pos]at hT4
 obtain⟨A4,c4,B4,d4,rfl,rfl,T4,-⟩:=hT4.tab (by decide) (by decide) (de sY)
 clear hOn h4
 simp only[show ([tX]:List ByteArray).length=1 from rfl,show aw4.length=2 from rfl]at T4 ⊢
 obtain⟨V4,hV4⟩:∃W:World,w4.alloc (.cells #[.slice A4 1 c4,.slice B4 2 d4] 25)=W:=⟨_,rfl⟩
 have hbV4:Below w4.heap.size w4 V4:=by rw[←hV4];exact blw
 have k4:V4.heap[w4.heap.size]?=some (Obj.cells #[.slice A4 1 c4,.slice B4 2 d4] 25 (0,0)):=by rw[←hV4];exact heap_alloc_new _ _
 have b34:=aa hb4 hbV4
 have b24:=aa K3.out.2 b34
 have z2:V4.cell? ⟨w2.heap.size,1,none⟩=some (.slice B2 4 d2):=by rw[World.cell?,KeepT.below b24 _ _ _ K2.out];rfl
 have z3:V4.cell? ⟨w3.heap.size,1,none⟩=some (.slice B3 4 d3):=by rw[World.cell?,KeepT.below b34 _ _ _ K3.out.1];rfl
 have z4:V4.cell? ⟨w4.heap.size,1,none⟩=some (.slice B4 2 d4):=by rw[World.cell?,k4];rfl
 have R2:RdRs V4 B2 aw2:=(HT2.out.later b24).hr
 have R4:RdRs V4 B4 aw4:=(T4.later hbV4).hr
 have HV4:=Lib.hid hV4
 have HB4:=Lib.hid (aa HBV3.out b34)
 have HR:=Lib.hid (And.intro R2 R4)
 have l2:=ae z2
 have l3:=ae z3
 have l4:=ae z4
 clear hb4 hT4 T4 hV4 hbV4 k4 b34 b24 R2 R4
 go_wp2
 simp only[HV4.out]
 refine Rf.p0 V4.heap.size _ (.quiet [0,1,2,3,4,5,6,7,8,9,10,11,12] (.one 13 (.one 14 (.quiet [15] (.one 16 (.quiet [17,18,19,20,21,22,23,24,25,26] (.one 27 (.fork 28 29 (.one 29 (.one 30 (.one 31 (.one 32 (.quiet [33,34] (.done)))))) (.fork 28 30 (.one 30 (.one 31 (.one 32 (.quiet [33,34] (.done))))) (.one 28 (.one 31 (.one 32 (.quiet [33,34] (.done)))))))))))))) ?_ (λa w h=>h)
 intro wd hbd hwz
 have y2:=cellL z2 hbd
 have HWZ:=Lib.hid (And.intro hwz hbd)
 have hs3:=hbd.size
 clear hwz
 refine Rf.pl_quiet ?_
 iterate 13 go_big_quiet_step (fail)
 refine wpQuiet_nil (Rf.pl_one ?_)
 clear y2
 go_wp2
 first|refine⟨(Below.refl _ _).alloc hs3 _,Rf.pl_one ?_⟩|refine Rf.pl_one ?_
 obtain⟨W5,hW5⟩:∃W:World,wd.alloc (.cells #[.string ⟨#[97,49]⟩,.string ⟨#[98,49]⟩,.string ⟨#[97,50]⟩,.string ⟨#[97,50]⟩] 9)=W:=⟨_,rfl⟩
 have hbW5:Below wd.heap.size wd W5:=by rw[←hW5];exact(Below.refl _ _).alloc (Nat.le_refl _) _
 have hO2:=tZ [(⟨#[97,49]⟩:ByteArray),⟨#[98,49]⟩,⟨#[97,50]⟩,⟨#[97,50]⟩] (some ⟨wd.heap.size,0,none⟩) 4 4 W5 rfl (by decide) DU (by rw[←hW5];exact Rd.of_block (heap_alloc_new wd _) rfl)
 rw[D4]at hO2
 simp only[hW5]
 have hB5:=aa hbd hbW5
 have hs5:V4.heap.size<=W5.heap.size:=Nat.le_trans hs3 hbW5.size
 have HB5:=Lib.hid hB5
 clear hW5 hbW5 hbd hB5
 go_wp2_with (go_at_call 28;refine hO2.mono ?_;intro e w5 h5;obtain⟨x0,x1,rfl,hb5,hT5⟩:=h5.tab;obtain⟨A5,c5,B5,d5,rfl,rfl,T5,-⟩:=hT5.tab (by decide) (by decide) (de BP);simp only[show ([tX,tY]:List ByteArray).length=2 from rfl,show aw2.length=4 from rfl]at T5 ⊢;clear h5)
 refine⟨hb5.mono hs5,Rf.pl_quiet ?_⟩
 have hfd:=λW=>wm A5 B5 2 c5 4 d5 W
 have hB5b:=aa HB5.out hb5
 have HB5b:=Lib.hid hB5b
 have hSm:=dq aw2 aw2 B2 B5 d2 d5 4 4 w5 rfl rfl (by decide) (by decide) (de BP) (de BP) (HR.out.1.later hB5b) T5.hr
 rw[show decide (aw2=aw2)=true from decide_eq_true rfl]at hSm
 have hs6:V4.heap.size<=w5.heap.size:=Nat.le_trans hs5 hb5.size
 clear hb5 hT5 T5 hO2 hB5b
 iterate 1 go_big_quiet_step (fail)
 refine wpQuiet_nil (Rf.pl_one ?_)
 clear hfd
 go_wp2_with (go_at_call 32;refine hSm.mono ?_;rintro e w6 ⟨rfl,hb6⟩)
 refine⟨hb6.mono hs6,Rf.pl_quiet ?_⟩
 have hB6:=aa HB5b.out hb6
 have HBB6:=Lib.hid hB6
 have hs_w6:V4.heap.size<=w6.heap.size:=Nat.le_trans hs6 hb6.size
 have y3:=cellL z3 hB6
 have y4:=cellL z4 hB6
 clear hb6 hSm hB6
 iterate 10 go_big_quiet_step (fail)
 refine wpQuiet_nil (Rf.pl_one ?_)
 clear y3 y4
 go_wp2_with (go_at_call 29;refine(fX _ _).mono ?_;rintro e w7 ⟨rfl,hb7⟩)
 refine⟨hb7.mono hs_w6,Rf.pl_fork ?_ ?_⟩
 ·have hs_w7:V4.heap.size<=w7.heap.size:=Nat.le_trans hs_w6 hb7.size
  have HBBw7:=Lib.hid hb7
  clear hb7 z2 z3 z4
  go_wp2
  first|refine⟨(Below.refl _ _).alloc hs_w7 _,Rf.pl_one ?_⟩|refine Rf.pl_one ?_
  obtain⟨N1,hN1⟩:∃W:World,w7.alloc (.cells #[.int .i64 1,.string ⟨#[97]⟩,.string ⟨#[]⟩,.string ⟨#[]⟩] 65)=W:=⟨_,rfl⟩
  have hbN1:Below w7.heap.size w7 N1:=by rw[←hN1];exact(Below.refl _ _).alloc (Nat.le_refl _) _
  have hg28:N1.heap[w7.heap.size]?=some (Obj.cells #[.int .i64 1,.string ⟨#[97]⟩,.string ⟨#[]⟩,.string ⟨#[]⟩] 65 (0,0)):=by rw[←hN1];exact heap_alloc_new _ _
  have hs_N1:V4.heap.size<=N1.heap.size:=Nat.le_trans hs_w7 hbN1.size
  have HBBN1:=Lib.hid (aa HBBw7.out hbN1)
  simp only[hN1]
  clear hN1 hbN1
  go_wp2_with (go_at_call 29;refine(fX _ _).mono ?_;rintro e w8 ⟨rfl,hb8⟩)
  refine⟨hb8.mono hs_N1,Rf.pl_one ?_⟩
  replace hg28:=KeepT.below hb8 _ _ _ hg28
  have hs_w8:V4.heap.size<=w8.heap.size:=Nat.le_trans hs_N1 hb8.size
  have HBBw8:=Lib.hid (aa HBBN1.out hb8)
  clear hb8
  go_wp2
  first|refine⟨(Below.refl _ _).alloc hs_w8 _,Rf.pl_one ?_⟩|refine Rf.pl_one ?_
  obtain⟨N2,hN2⟩:∃W:World,w8.alloc (.cells #[.int .i64 1,.string ⟨#[98]⟩,.string ⟨#[]⟩,.string ⟨#[]⟩] 65)=W:=⟨_,rfl⟩
  have hbN2:Below w8.heap.size w8 N2:=by rw[←hN2];exact(Below.refl _ _).alloc (Nat.le_refl _) _
  replace hg28:=KeepT.below hbN2 _ _ _ hg28
  have hg30:N2.heap[w8.heap.size]?=some (Obj.cells #[.int .i64 1,.string ⟨#[98]⟩,.string ⟨#[]⟩,.string ⟨#[]⟩] 65 (0,0)):=by rw[←hN2];exact heap_alloc_new _ _
  have hs_N2:V4.heap.size<=N2.heap.size:=Nat.le_trans hs_w8 hbN2.size
  have HBBN2:=Lib.hid (aa HBBw8.out hbN2)
  simp only[hN2]
  clear hN2 hbN2
  go_wp2
  first|refine⟨(Below.refl _ _).alloc hs_N2 _,Rf.pl_one ?_⟩|refine Rf.pl_one ?_
  obtain⟨N3,hN3⟩:∃W:World,N2.alloc (.cells #[.slice (some ⟨w7.heap.size,0,none⟩) 1 1,.slice (some ⟨w8.heap.size,0,none⟩) 1 1] 69)=W:=⟨_,rfl⟩
  have hbN3:Below N2.heap.size N2 N3:=by rw[←hN3];exact(Below.refl _ _).alloc (Nat.le_refl _) _
  replace hg28:=KeepT.below hbN3 _ _ _ hg28
  replace hg30:=KeepT.below hbN3 _ _ _ hg30
  have hg31:N3.heap[N2.heap.size]?=some (Obj.cells #[.slice (some ⟨w7.heap.size,0,none⟩) 1 1,.slice (some ⟨w8.heap.size,0,none⟩) 1 1] 69 (0,0)):=by rw[←hN3];exact heap_alloc_new _ _
  have hs_N3:V4.heap.size<=N3.heap.size:=Nat.le_trans hs_N2 hbN3.size
  have HBBN3:=Lib.hid (aa HBBN2.out hbN3)
  simp only[hN3]
  clear hN3 hbN3
  have hS2:=dq aw4 aw4 B4 (some ⟨N2.heap.size,0,none⟩) d4 2 2 2 N3 rfl rfl (by decide) (by decide) (de sY) (de sY) (HR.out.2.later (aa HBB6.out HBBN3.out)) (sj hg28 hg30 hg31)
  rw[show decide (aw4=aw4)=true from decide_eq_true rfl]at hS2
  clear hg28 hg30 hg31
  go_wp2_with (go_at_call 32;refine hS2.mono ?_;rintro e w9 ⟨rfl,hb9⟩)
  refine⟨hb9.mono hs_N3,Rf.pl_quiet ?_⟩
  have HF:=Lib.hid (aa HB4.out (aa HBB6.out (aa HBBN3.out hb9)))
  clear hS2 hb9
  iterate 2 go_big_quiet_step (fail)
  refine wpQuiet_nil (Rf.pl_done ?_)
  go_wp2
  go_ret
  exact⟨rfl,HF.out⟩
 ·have hs_w7:V4.heap.size<=w7.heap.size:=Nat.le_trans hs_w6 hb7.size
  have HBBw7:=Lib.hid hb7
  clear hb7 z2 z3 z4
  go_wp2_with (go_at_call 29;refine(fX _ _).mono ?_;rintro e w8 ⟨rfl,hb8⟩)
  refine⟨hb8.mono hs_w7,Rf.pl_fork ?_ ?_⟩
  ·have hs_w8:V4.heap.size<=w8.heap.size:=Nat.le_trans hs_w7 hb8.size
   have HBBw8:=Lib.hid (aa HBBw7.out hb8)
   clear hb8
   go_wp2
   first|refine⟨(Below.refl _ _).alloc hs_w8 _,Rf.pl_one ?_⟩|refine Rf.pl_one ?_
   obtain⟨N1,hN1⟩:∃W:World,w8.alloc (.cells #[.int .i64 1,.string ⟨#[97]⟩,.string ⟨#[]⟩,.string ⟨#[]⟩] 65)=W:=⟨_,rfl⟩
   have hbN1:Below w8.heap.size w8 N1:=by rw[←hN1];exact(Below.refl _ _).alloc (Nat.le_refl _) _
   have hg28:N1.heap[w8.heap.size]?=some (Obj.cells #[.int .i64 1,.string ⟨#[97]⟩,.string ⟨#[]⟩,.string ⟨#[]⟩] 65 (0,0)):=by rw[←hN1];exact heap_alloc_new _ _
   have hs_N1:V4.heap.size<=N1.heap.size:=Nat.le_trans hs_w8 hbN1.size
   have HBBN1:=Lib.hid (aa HBBw8.out hbN1)
   simp only[hN1]
   clear hN1 hbN1
   go_wp2
   first|refine⟨(Below.refl _ _).alloc hs_N1 _,Rf.pl_one ?_⟩|refine Rf.pl_one ?_
   obtain⟨N2,hN2⟩:∃W:World,N1.alloc (.cells #[.int .i64 1,.string ⟨#[98]⟩,.string ⟨#[]⟩,.string ⟨#[]⟩] 65)=W:=⟨_,rfl⟩
   have hbN2:Below N1.heap.size N1 N2:=by rw[←hN2];exact(Below.refl _ _).alloc (Nat.le_refl _) _
   replace hg28:=KeepT.below hbN2 _ _ _ hg28
   have hg30:N2.heap[N1.heap.size]?=some (Obj.cells #[.int .i64 1,.string ⟨#[98]⟩,.string ⟨#[]⟩,.string ⟨#[]⟩] 65 (0,0)):=by rw[←hN2];exact heap_alloc_new _ _
   have hs_N2:V4.heap.size<=N2.heap.size:=Nat.le_trans hs_N1 hbN2.size
   have HBBN2:=Lib.hid (aa HBBN1.out hbN2)
   simp only[hN2]
   clear hN2 hbN2
   go_wp2
   first|refine⟨(Below.refl _ _).alloc hs_N2 _,Rf.pl_one ?_⟩|refine Rf.pl_one ?_
   obtain⟨N3,hN3⟩:∃W:World,N2.alloc (.cells #[.slice (some ⟨w8.heap.size,0,none⟩) 1 1,.slice (some ⟨N1.heap.size,0,none⟩) 1 1] 69)=W:=⟨_,rfl⟩
   have hbN3:Below N2.heap.size N2 N3:=by rw[←hN3];exact(Below.refl _ _).alloc (Nat.le_refl _) _
   replace hg28:=KeepT.below hbN3 _ _ _ hg28
   replace hg30:=KeepT.below hbN3 _ _ _ hg30
   have hg31:N3.heap[N2.heap.size]?=some (Obj.cells #[.slice (some ⟨w8.heap.size,0,none⟩) 1 1,.slice (some ⟨N1.heap.size,0,none⟩) 1 1] 69 (0,0)):=by rw[←hN3];exact heap_alloc_new _ _
   have hs_N3:V4.heap.size<=N3.heap.size:=Nat.le_trans hs_N2 hbN3.size
   have HBBN3:=Lib.hid (aa HBBN2.out hbN3)
   simp only[hN3]
   clear hN3 hbN3
   have hS2:=dq aw4 aw4 B4 (some ⟨N2.heap.size,0,none⟩) d4 2 2 2 N3 rfl rfl (by decide) (by decide) (de sY) (de sY) (HR.out.2.later (aa HBB6.out HBBN3.out)) (sj hg28 hg30 hg31)
   rw[show decide (aw4=aw4)=true from decide_eq_true rfl]at hS2
   clear hg28 hg30 hg31
   go_wp2_with (go_at_call 32;refine hS2.mono ?_;rintro e w9 ⟨rfl,hb9⟩)
   refine⟨hb9.mono hs_N3,Rf.pl_quiet ?_⟩
   have HF:=Lib.hid (aa HB4.out (aa HBB6.out (aa HBBN3.out hb9)))
   clear hS2 hb9
   iterate 2 go_big_quiet_step (fail)
   refine wpQuiet_nil (Rf.pl_done ?_)
   go_wp2
   go_ret
   exact⟨rfl,HF.out⟩
  ·have hs_w8:V4.heap.size<=w8.heap.size:=Nat.le_trans hs_w7 hb8.size
   have HBBw8:=Lib.hid (aa HBBw7.out hb8)
   clear hb8
   go_wp2
   first|refine⟨(Below.refl _ _).alloc hs_w8 _,Rf.pl_one ?_⟩|refine Rf.pl_one ?_
   obtain⟨N1,hN1⟩:∃W:World,w8.alloc (.cells #[.int .i64 1,.string ⟨#[98]⟩,.string ⟨#[]⟩,.string ⟨#[]⟩] 65)=W:=⟨_,rfl⟩
   have hbN1:Below w8.heap.size w8 N1:=by rw[←hN1];exact(Below.refl _ _).alloc (Nat.le_refl _) _
   have hg30:N1.heap[w8.heap.size]?=some (Obj.cells #[.int .i64 1,.string ⟨#[98]⟩,.string ⟨#[]⟩,.string ⟨#[]⟩] 65 (0,0)):=by rw[←hN1];exact heap_alloc_new _ _
   have hs_N1:V4.heap.size<=N1.heap.size:=Nat.le_trans hs_w8 hbN1.size
   have HBBN1:=Lib.hid (aa HBBw8.out hbN1)
   simp only[hN1]
   clear hN1 hbN1
   go_wp2
   first|refine⟨(Below.refl _ _).alloc hs_N1 _,Rf.pl_one ?_⟩|refine Rf.pl_one ?_
   obtain⟨N2,hN2⟩:∃W:World,N1.alloc (.cells #[.int .i64 1,.string ⟨#[97]⟩,.string ⟨#[]⟩,.string ⟨#[]⟩] 65)=W:=⟨_,rfl⟩
   have hbN2:Below N1.heap.size N1 N2:=by rw[←hN2];exact(Below.refl _ _).alloc (Nat.le_refl _) _
   replace hg30:=KeepT.below hbN2 _ _ _ hg30
   have hg28:N2.heap[N1.heap.size]?=some (Obj.cells #[.int .i64 1,.string ⟨#[97]⟩,.string ⟨#[]⟩,.string ⟨#[]⟩] 65 (0,0)):=by rw[←hN2];exact heap_alloc_new _ _
   have hs_N2:V4.heap.size<=N2.heap.size:=Nat.le_trans hs_N1 hbN2.size
   have HBBN2:=Lib.hid (aa HBBN1.out hbN2)
   simp only[hN2]
   clear hN2 hbN2
   go_wp2
   first|refine⟨(Below.refl _ _).alloc hs_N2 _,Rf.pl_one ?_⟩|refine Rf.pl_one ?_
   obtain⟨N3,hN3⟩:∃W:World,N2.alloc (.cells #[.slice (some ⟨N1.heap.size,0,none⟩) 1 1,.slice (some ⟨w8.heap.size,0,none⟩) 1 1] 69)=W:=⟨_,rfl⟩
   have hbN3:Below N2.heap.size N2 N3:=by rw[←hN3];exact(Below.refl _ _).alloc (Nat.le_refl _) _
   replace hg30:=KeepT.below hbN3 _ _ _ hg30
   replace hg28:=KeepT.below hbN3 _ _ _ hg28
   have hg31:N3.heap[N2.heap.size]?=some (Obj.cells #[.slice (some ⟨N1.heap.size,0,none⟩) 1 1,.slice (some ⟨w8.heap.size,0,none⟩) 1 1] 69 (0,0)):=by rw[←hN3];exact heap_alloc_new _ _
   have hs_N3:V4.heap.size<=N3.heap.size:=Nat.le_trans hs_N2 hbN3.size
   have HBBN3:=Lib.hid (aa HBBN2.out hbN3)
   simp only[hN3]
   clear hN3 hbN3
   have hS2:=dq aw4 aw4 B4 (some ⟨N2.heap.size,0,none⟩) d4 2 2 2 N3 rfl rfl (by decide) (by decide) (de sY) (de sY) (HR.out.2.later (aa HBB6.out HBBN3.out)) (sj hg28 hg30 hg31)
   rw[show decide (aw4=aw4)=true from decide_eq_true rfl]at hS2
   clear hg28 hg30 hg31
   go_wp2_with (go_at_call 32;refine hS2.mono ?_;rintro e w9 ⟨rfl,hb9⟩)
   refine⟨hb9.mono hs_N3,Rf.pl_quiet ?_⟩
   have HF:=Lib.hid (aa HB4.out (aa HBB6.out (aa HBBN3.out hb9)))
   clear hS2 hb9
   iterate 2 go_big_quiet_step (fail)
   refine wpQuiet_nil (Rf.pl_done ?_)
   go_wp2
   go_ret
   exact⟨rfl,HF.out⟩
end Go.Proofs.YtjldjeenfnahoaaGreatDoor
