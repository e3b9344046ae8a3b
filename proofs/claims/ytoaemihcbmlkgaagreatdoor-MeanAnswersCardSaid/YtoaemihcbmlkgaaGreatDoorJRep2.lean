/- (*strings.Replacer).build over the four pairs of term.escape -/
import Derived.Lib.AtoiErrMem
import Derived.Test.YtoaemihcbmlkgaaGreatDoorJRep2m
import Derived.Lib.LazyBuf
namespace Go.Proofs.YtoaemihcbmlkgaaGreatDoor
open Go Go.RowKit Um Fm Tx
theorem zc_eq:Tryz.zeroCells333.toList=List.replicate 257 (.slice none 0 0):=by kernel_rfl
theorem bsr_start {w w1:World} {v:Value} (hb:w.grownBy w1 none) (own:w1.ownsRow w.heap.size 9 1 v 0 []) :
  Bsr w.heap.size w1.heap.size 0 0 ((w1.alloc (.cells Tryz.zeroCells333 333)).setRow w1.heap.size (Tryz.zeroCells333.toList.set 256 v).toArray):=by
 refine⟨hb.size,_,setRow_heap _ _ _ _ _ _ (heap_alloc_new w1 _),?_,λj hj=>⟨.slice none 0 0,?_,?_⟩,v,?_,?_⟩
 ·rw[zc_eq,List.size_toArray,List.length_set,List.length_replicate]
 ·rw[zc_eq,List.getElem?_toArray,List.getElem?_set_ne (by omega),List.getElem?_replicate,if_pos (by omega)]
 ·unfold RpV;rw[rpT_zero,if_pos rfl]
 ·rw[zc_eq,List.getElem?_toArray,List.getElem?_set_self (by rw[List.length_replicate];omega)]
 ·have h2:=own.alloc (.cells Tryz.zeroCells333 333)
  have hne:=own_block_ne h2 (heap_alloc_new w1 (.cells Tryz.zeroCells333 333)) (by decide)
  refine⟨h2.1,h2.2.imp id ?_⟩
  rintro⟨g,cap,cur,rfl,hB,hh,r⟩
  refine⟨g,cap,cur,rfl,hB,?_,r⟩
  rw[setRow_other _ _ _ _ (show g≠w1.heap.size from λe=>hne (by simp[Value.ownBlock,e]))]
  exact hh
set_option maxHeartbeats 8000000 in
set_option maxRecDepth 100000 in
theorem repBuild (b g c:Nat) (w:World) (h4:w.cell? ⟨b,4,none⟩=some (.slice (some ⟨g,0,none⟩) 8 c)) (hA:∀j x,escL[j]?=some x->w.cell? ⟨g,j,none⟩=some (.string x)) :
  Calls Tryz.prog 209 #[.pointer (some ⟨b,0,none⟩)] w λe w'=>∃b2,e=.returned (.iface 334 (.pointer (some ⟨b2,0,none⟩)))/\Below w.heap.size w w'/\Bsr w.heap.size b2 4 4 w':=by
 have HA:=Lib.hid hA
 have c0:=hA 0 _ rfl
 have c1:=hA 1 _ rfl
 have c2:=hA 2 _ rfl
 have c3:=hA 3 _ rfl
 have c4:=hA 4 _ rfl
 have c5:=hA 5 _ rfl
 have c6:=hA 6 _ rfl
 have c7:=hA 7 _ rfl
 have hgl:=cell_lt c0
 clear hA
 go_enter Tryz.func209,Tryz.ntmps209
 go_wp2
 go_loop [4,5] (λv i=>∃k:Nat,k<=4/\i=.int .i64 (2*k:Nat)/\v=.bool (decide (k=0))) (λ_ i=>8-(intOf i).toNat)
 case atStart=>exact⟨0,by omega,rfl,rfl⟩
 case round =>
  obtain⟨k,hk,rfl,rfl⟩:=hrel
  by_cases hlt:k<4
  ·rcases(by omega:k=0∨k=1∨k=2∨k=3) with rfl|rfl|rfl|rfl
   ·go_wp2
    go_round
    case rel=>exact⟨1,by omega,rfl,rfl⟩
    case measure=>decide
   ·go_wp2
    go_round
    case rel=>exact⟨2,by omega,rfl,rfl⟩
    case measure=>decide
   ·go_wp2
    go_round
    case rel=>exact⟨3,by omega,rfl,rfl⟩
    case measure=>decide
   ·go_wp2
    go_round
    case rel=>exact⟨4,by omega,rfl,rfl⟩
    case measure=>decide
  ·obtain rfl:k=4:=by omega
   clear c0 c1 c2 c3 c4 c5 c6 c7
   obtain⟨i9,hi9,hz9,hs9,hb9⟩:=info_parts strInfo8
   obtain⟨w1,hmk,own1,hg1⟩:=run_make_own (P:=Tryz.prog) w w.heap.size 32 9 i9 _ 1 Tryz.underlying32 hi9 hz9 hs9 .i64 .i64 4 (by rw[hb9];omega) (by decide) (Nat.le_refl _)
   have HS:=Lib.hid (bsr_start hg1 own1)
   have hst:=run_storeCells_from (P:=Tryz.prog) w1.heap.size 333 (Tryz.zeroCells333.toList.set 256 (.slice (some ⟨w.heap.size,0,none⟩) 0 4)) 0 Tryz.zeroCells333 _ (heap_alloc_new w1 _) (by simp) (by
    intro v hv
    rw[zc_eq]at hv
    rcases List.mem_or_eq_of_mem_set hv with h|h
    ·rw[List.eq_of_mem_replicate h];rfl
    ·rw[h];rfl)
   rw[List.take_zero,List.nil_append]at hst
   have hB1:Below w.heap.size w w1:=(Below.refl _ w).grown hg1 (Nat.le_refl _) (λk hk=>by cases hk)
   have HB2:=Lib.hid (below_setRow (hB1.alloc hB1.size (.cells Tryz.zeroCells333 333)) hB1.size (Tryz.zeroCells333.toList.set 256 (.slice (some ⟨w.heap.size,0,none⟩) 0 4)).toArray)
   have hmk':(Instr.makeSlice 32 (.int .i64 0) (.int .i64 4)).run Tryz.prog w=_:=hmk
   obtain⟨W2,hW2⟩:∃W2,W2=(w1.alloc (.cells Tryz.zeroCells333 333)).setRow w1.heap.size (Tryz.zeroCells333.toList.set 256 (.slice (some ⟨w.heap.size,0,none⟩) 0 4)).toArray:=⟨_,rfl⟩
   rw[←hW2]at hst HS HB2
   clear hmk own1 hg1 hB1 hW2
   have hnn:=λW=>Lib.run_eql_slice_nil (P:=Tryz.prog) W 163 5 none 0 0 0 0 Tryz.underlying163
   go_wp2
   go_loopw [12] (λi wr=>∃k:Nat,k<=4/\i=.int .i64 (6-2*(k:Int))/\Hid (Bsr w.heap.size w1.heap.size k k wr)/\Below w.heap.size w wr) (λi _=>(intOf i+2).toNat)
   case atStart=>exact⟨0,by omega,rfl,HS.out,HB2.out⟩
   case round =>
    obtain⟨k,hk,rfl,hS,hB⟩:=hrel
    have hbs:=hB.size
    by_cases hlt:k<4
    ·rcases(by omega:k=0∨k=1∨k=2∨k=3) with rfl|rfl|rfl|rfl
     ·have d0:wr.cell? ⟨g,6,none⟩=_:=(hB.cell hgl).trans (HA.out 6 _ rfl)
      have d1:wr.cell? ⟨g,7,none⟩=_:=(hB.cell hgl).trans (HA.out 7 _ rfl)
      obtain⟨_,d2,hr⟩:=hS.out.low (j:=13) (by omega)
      have hbn:bn ⟨#[13]⟩ 0=13:=rfl
      have e0:rpT 0 13=[]:=rfl
      unfold RpV at hr
      rw[if_pos e0]at hr
      subst hr
      obtain⟨hge,cs,hcs,hsz,htab,v,hv,own⟩:=hS.out
      obtain⟨A0,c0,rfl,_,_⟩:=own_slice own
      have d3:wr.cell? ⟨w1.heap.size,256,none⟩=some (.slice A0 0 c0):=by rw[Lib.cell_of_heap hcs];exact hv
      have hb1:Below wr.heap.size wr (wr.alloc (.cells #[.int .u8 13] 5)):=blw
      have hb2:Below wr.heap.size wr ((wr.alloc (.cells #[.int .u8 13] 5)).alloc (.cells #[.string ⟨#[13]⟩] 9)):=blw
      have hcs1:=run_conv_bytes (P:=Tryz.prog) (w:=wr.alloc (.cells #[.int .u8 13] 5)) (n:=1) (c:=1) 163 9 5 Tryz.underlying163 Tryz.underlying5 Tryz.underlying9 (xs:=[13]) (Rd.of_block (heap_alloc_new wr _) rfl) rfl
      rw[show strOfNums [13]=⟨#[13]⟩ from rfl]at hcs1
      have own2:=own_below own hb2 (Nat.le_refl _)
      have hS2:=hS.out.step hb2
      have HX:=Lib.hid hcs
      have HS2:=Lib.hid hS2
      have HO2:=Lib.hid own2
      have H1:∀u∈[(Value.string ⟨#[13]⟩)],u.oneCell'=true:=by intro u hu;simp at hu;subst hu;rfl
      have hrn:=Rd.of_block (xs:=[(Value.string ⟨#[13]⟩)]) (heap_alloc_new (wr.alloc (.cells #[.int .u8 13] 5)) (.cells #[.string ⟨#[13]⟩] 9)) rfl
      simp only[World.size_alloc]at hrn
      have HB2':=Lib.hid hb2
      clear hS hS2 hcs htab hv own own2 hb1 hb2 hmk'
      go_wp2_with (at_builtin;refine wpList_appG (m:=1) (n:=0) (base:=w.heap.size) rfl rfl Tryz.underlying32 strInfo8 rfl (by omega) rfl HO2.out rfl hrn rfl H1 (by omega) (by omega) (by have:=HB2'.out.size;omega) ?_)
      intro v3 w3 own3 hb3 hg3
      obtain⟨A3,c3,rfl,_,_⟩:=own_slice own3
      have hcs3:w3.heap[w1.heap.size]?=_:=(hg3.block _ (Array.getElem?_eq_some_iff.1 ((HB2'.out.block _ (Array.getElem?_eq_some_iff.1 HX.out).1).trans HX.out)).1 (λe=>own_block_ne HO2.out ((HB2'.out.block _ (Array.getElem?_eq_some_iff.1 HX.out).1).trans HX.out) (by decide) e.symm)).trans ((HB2'.out.block _ (Array.getElem?_eq_some_iff.1 HX.out).1).trans HX.out)
      have e1:w3.cell? ⟨w1.heap.size,256,none⟩=some (.slice A0 0 c0):=by
       rw[Lib.cell_of_heap hcs3,←Lib.cell_of_heap HX.out];exact d3
      have e2:w3.frozen? ⟨w1.heap.size,256,none⟩=false:=Lib.frozen_of_heap hcs3 256
      have own3':w3.ownsRow w.heap.size 9 1 (.slice A3 1 c3) 1 (rpS 1):=own3
      have hS3:Bsr w.heap.size w1.heap.size 0 1 (w3.setCell ⟨w1.heap.size,256,none⟩ (.slice A3 1 c3)):=by
       obtain⟨hge,cs',hcs',_,htab',v',hv',own'⟩:=HS2.out
       have q:=Lib.cell_of_heap hcs' (j:=256)
       rw[hv']at q
       have q2:=(HB2'.out.cell (p:=⟨w1.heap.size,256,none⟩) (cell_lt d3)).trans d3
       rw[q]at q2
       cases q2
       exact Bsr.named hge hcs' (by assumption) htab' own' own3' hg3
      obtain⟨W4,hW4⟩:∃W4,W4=w3.setCell ⟨w1.heap.size,256,none⟩ (.slice A3 1 c3):=⟨_,rfl⟩
      have hcv:=Lib.run_convert_string_bytes (P:=Tryz.prog) W4 9 163 5 ⟨#[92,114]⟩ (u:=.string) Tryz.underlying9 Tryz.underlying163 Tryz.underlying5
      have hBW:=Lib.bytesWorld_below W4 5 ⟨#[92,114]⟩
      have hnew:=Lib.bytesWorld_at_new W4 5 ⟨#[92,114]⟩
      rw[←hW4]at hS3
      have hS5:=hS3.step hBW
      obtain⟨W5,hW5⟩:∃W5,W5=Lib.bytesWorld W4 5 ⟨#[92,114]⟩:=⟨_,rfl⟩
      rw[←hW5]at hcv hS5 hnew
      obtain⟨C5,hC5⟩:∃C5,C5=grownCap W4 (ByteArray.size ⟨#[92,114]⟩) 0 5:=⟨_,rfl⟩
      rw[←hC5]at hcv
      obtain⟨_,f2,hr5⟩:=hS5.low (j:=13) (by omega)
      unfold RpV at hr5
      rw[if_pos e0]at hr5
      subst hr5
      have f3:=hS5.fz 13
      have hS6:=hS5.laid (by omega) (c:=C5) hnew (by
       intro j x hx
       rw[show rpX (rpN 0).toNat=[92,114] from rfl]at hx
       unfold Lib.bytesCells
       match j,hx with
       | 0,hx=>simp at hx;subst hx;rw[Array.getElem?_append_left (by simp)];simp
       | 1,hx=>simp at hx;subst hx;rw[Array.getElem?_append_left (by simp)];simp
       | j+2,hx=>simp at hx)
      have hb5:Below w.heap.size w W4:=by
       rw[hW4]
       exact((hB.trans ((HB2'.out.mono hbs).trans hb3))).setCell (p:=⟨w1.heap.size,256,none⟩) hge _
      have hb6:Below w.heap.size w W5:=by
       rw[hW5]
       exact hb5.trans (hBW.mono hb5.size)
      have HS6:=Lib.hid hS6
      have HB6:=Lib.hid (hb6.setCell (p:=⟨w1.heap.size,13,none⟩) hge (.slice (some ⟨W4.heap.size,0,none⟩) 2 C5))
      subst hC5
      subst hW5
      subst hW4
      simp only[World.size_setCell]at HS6 HB6
      clear hS3 hS5 hS6 hb5 hb6 hnew hBW hcs3 own3 own3' hb3 hg3 hB d0 d2 d3 hcs1 hrn H1
      go_wp2
      go_roundw
      case rel=>exact⟨1,by omega,by go_num,HS6.out,HB6.out⟩
      case measure=>simp[intOf]
     ·have d0:wr.cell? ⟨g,4,none⟩=_:=(hB.cell hgl).trans (HA.out 4 _ rfl)
      have d1:wr.cell? ⟨g,5,none⟩=_:=(hB.cell hgl).trans (HA.out 5 _ rfl)
      obtain⟨_,d2,hr⟩:=hS.out.low (j:=10) (by omega)
      have hbn:bn ⟨#[10]⟩ 0=10:=rfl
      have e0:rpT 1 10=[]:=rfl
      unfold RpV at hr
      rw[if_pos e0]at hr
      subst hr
      obtain⟨hge,cs,hcs,hsz,htab,v,hv,own⟩:=hS.out
      obtain⟨A0,c0,rfl,_,_⟩:=own_slice own
      have d3:wr.cell? ⟨w1.heap.size,256,none⟩=some (.slice A0 1 c0):=by rw[Lib.cell_of_heap hcs];exact hv
      have hb1:Below wr.heap.size wr (wr.alloc (.cells #[.int .u8 10] 5)):=blw
      have hb2:Below wr.heap.size wr ((wr.alloc (.cells #[.int .u8 10] 5)).alloc (.cells #[.string ⟨#[10]⟩] 9)):=blw
      have hcs1:=run_conv_bytes (P:=Tryz.prog) (w:=wr.alloc (.cells #[.int .u8 10] 5)) (n:=1) (c:=1) 163 9 5 Tryz.underlying163 Tryz.underlying5 Tryz.underlying9 (xs:=[10]) (Rd.of_block (heap_alloc_new wr _) rfl) rfl
      rw[show strOfNums [10]=⟨#[10]⟩ from rfl]at hcs1
      have own2:=own_below own hb2 (Nat.le_refl _)
      have hS2:=hS.out.step hb2
      have HX:=Lib.hid hcs
      have HS2:=Lib.hid hS2
      have HO2:=Lib.hid own2
      have H1:∀u∈[(Value.string ⟨#[10]⟩)],u.oneCell'=true:=by intro u hu;simp at hu;subst hu;rfl
      have hrn:=Rd.of_block (xs:=[(Value.string ⟨#[10]⟩)]) (heap_alloc_new (wr.alloc (.cells #[.int .u8 10] 5)) (.cells #[.string ⟨#[10]⟩] 9)) rfl
      simp only[World.size_alloc]at hrn
      have HB2':=Lib.hid hb2
      clear hS hS2 hcs htab hv own own2 hb1 hb2 hmk'
      go_wp2_with (at_builtin;refine wpList_appG (m:=1) (n:=1) (base:=w.heap.size) rfl rfl Tryz.underlying32 strInfo8 rfl (by omega) rfl HO2.out rfl hrn rfl H1 (by omega) (by omega) (by have:=HB2'.out.size;omega) ?_)
      intro v3 w3 own3 hb3 hg3
      obtain⟨A3,c3,rfl,_,_⟩:=own_slice own3
      have hcs3:w3.heap[w1.heap.size]?=_:=(hg3.block _ (Array.getElem?_eq_some_iff.1 ((HB2'.out.block _ (Array.getElem?_eq_some_iff.1 HX.out).1).trans HX.out)).1 (λe=>own_block_ne HO2.out ((HB2'.out.block _ (Array.getElem?_eq_some_iff.1 HX.out).1).trans HX.out) (by decide) e.symm)).trans ((HB2'.out.block _ (Array.getElem?_eq_some_iff.1 HX.out).1).trans HX.out)
      have e1:w3.cell? ⟨w1.heap.size,256,none⟩=some (.slice A0 1 c0):=by
       rw[Lib.cell_of_heap hcs3,←Lib.cell_of_heap HX.out];exact d3
      have e2:w3.frozen? ⟨w1.heap.size,256,none⟩=false:=Lib.frozen_of_heap hcs3 256
      have own3':w3.ownsRow w.heap.size 9 1 (.slice A3 2 c3) 2 (rpS 2):=own3
      have hS3:Bsr w.heap.size w1.heap.size 1 2 (w3.setCell ⟨w1.heap.size,256,none⟩ (.slice A3 2 c3)):=by
       obtain⟨hge,cs',hcs',_,htab',v',hv',own'⟩:=HS2.out
       have q:=Lib.cell_of_heap hcs' (j:=256)
       rw[hv']at q
       have q2:=(HB2'.out.cell (p:=⟨w1.heap.size,256,none⟩) (cell_lt d3)).trans d3
       rw[q]at q2
       cases q2
       exact Bsr.named hge hcs' (by assumption) htab' own' own3' hg3
      obtain⟨W4,hW4⟩:∃W4,W4=w3.setCell ⟨w1.heap.size,256,none⟩ (.slice A3 2 c3):=⟨_,rfl⟩
      have hcv:=Lib.run_convert_string_bytes (P:=Tryz.prog) W4 9 163 5 ⟨#[92,110]⟩ (u:=.string) Tryz.underlying9 Tryz.underlying163 Tryz.underlying5
      have hBW:=Lib.bytesWorld_below W4 5 ⟨#[92,110]⟩
      have hnew:=Lib.bytesWorld_at_new W4 5 ⟨#[92,110]⟩
      rw[←hW4]at hS3
      have hS5:=hS3.step hBW
      obtain⟨W5,hW5⟩:∃W5,W5=Lib.bytesWorld W4 5 ⟨#[92,110]⟩:=⟨_,rfl⟩
      rw[←hW5]at hcv hS5 hnew
      obtain⟨C5,hC5⟩:∃C5,C5=grownCap W4 (ByteArray.size ⟨#[92,110]⟩) 0 5:=⟨_,rfl⟩
      rw[←hC5]at hcv
      obtain⟨_,f2,hr5⟩:=hS5.low (j:=10) (by omega)
      unfold RpV at hr5
      rw[if_pos e0]at hr5
      subst hr5
      have f3:=hS5.fz 10
      have hS6:=hS5.laid (by omega) (c:=C5) hnew (by
       intro j x hx
       rw[show rpX (rpN 1).toNat=[92,110] from rfl]at hx
       unfold Lib.bytesCells
       match j,hx with
       | 0,hx=>simp at hx;subst hx;rw[Array.getElem?_append_left (by simp)];simp
       | 1,hx=>simp at hx;subst hx;rw[Array.getElem?_append_left (by simp)];simp
       | j+2,hx=>simp at hx)
      have hb5:Below w.heap.size w W4:=by
       rw[hW4]
       exact((hB.trans ((HB2'.out.mono hbs).trans hb3))).setCell (p:=⟨w1.heap.size,256,none⟩) hge _
      have hb6:Below w.heap.size w W5:=by
       rw[hW5]
       exact hb5.trans (hBW.mono hb5.size)
      have HS6:=Lib.hid hS6
      have HB6:=Lib.hid (hb6.setCell (p:=⟨w1.heap.size,10,none⟩) hge (.slice (some ⟨W4.heap.size,0,none⟩) 2 C5))
      subst hC5
      subst hW5
      subst hW4
      simp only[World.size_setCell]at HS6 HB6
      clear hS3 hS5 hS6 hb5 hb6 hnew hBW hcs3 own3 own3' hb3 hg3 hB d0 d2 d3 hcs1 hrn H1
      go_wp2
      go_roundw
      case rel=>exact⟨2,by omega,by go_num,HS6.out,HB6.out⟩
      case measure=>simp[intOf]
     ·have d0:wr.cell? ⟨g,2,none⟩=_:=(hB.cell hgl).trans (HA.out 2 _ rfl)
      have d1:wr.cell? ⟨g,3,none⟩=_:=(hB.cell hgl).trans (HA.out 3 _ rfl)
      obtain⟨_,d2,hr⟩:=hS.out.low (j:=34) (by omega)
      have hbn:bn ⟨#[34]⟩ 0=34:=rfl
      have e0:rpT 2 34=[]:=rfl
      unfold RpV at hr
      rw[if_pos e0]at hr
      subst hr
      obtain⟨hge,cs,hcs,hsz,htab,v,hv,own⟩:=hS.out
      obtain⟨A0,c0,rfl,_,_⟩:=own_slice own
      have d3:wr.cell? ⟨w1.heap.size,256,none⟩=some (.slice A0 2 c0):=by rw[Lib.cell_of_heap hcs];exact hv
      have hb1:Below wr.heap.size wr (wr.alloc (.cells #[.int .u8 34] 5)):=blw
      have hb2:Below wr.heap.size wr ((wr.alloc (.cells #[.int .u8 34] 5)).alloc (.cells #[.string ⟨#[34]⟩] 9)):=blw
      have hcs1:=run_conv_bytes (P:=Tryz.prog) (w:=wr.alloc (.cells #[.int .u8 34] 5)) (n:=1) (c:=1) 163 9 5 Tryz.underlying163 Tryz.underlying5 Tryz.underlying9 (xs:=[34]) (Rd.of_block (heap_alloc_new wr _) rfl) rfl
      rw[show strOfNums [34]=⟨#[34]⟩ from rfl]at hcs1
      have own2:=own_below own hb2 (Nat.le_refl _)
      have hS2:=hS.out.step hb2
      have HX:=Lib.hid hcs
      have HS2:=Lib.hid hS2
      have HO2:=Lib.hid own2
      have H1:∀u∈[(Value.string ⟨#[34]⟩)],u.oneCell'=true:=by intro u hu;simp at hu;subst hu;rfl
      have hrn:=Rd.of_block (xs:=[(Value.string ⟨#[34]⟩)]) (heap_alloc_new (wr.alloc (.cells #[.int .u8 34] 5)) (.cells #[.string ⟨#[34]⟩] 9)) rfl
      simp only[World.size_alloc]at hrn
      have HB2':=Lib.hid hb2
      clear hS hS2 hcs htab hv own own2 hb1 hb2 hmk'
      go_wp2_with (at_builtin;refine wpList_appG (m:=1) (n:=2) (base:=w.heap.size) rfl rfl Tryz.underlying32 strInfo8 rfl (by omega) rfl HO2.out rfl hrn rfl H1 (by omega) (by omega) (by have:=HB2'.out.size;omega) ?_)
      intro v3 w3 own3 hb3 hg3
      obtain⟨A3,c3,rfl,_,_⟩:=own_slice own3
      have hcs3:w3.heap[w1.heap.size]?=_:=(hg3.block _ (Array.getElem?_eq_some_iff.1 ((HB2'.out.block _ (Array.getElem?_eq_some_iff.1 HX.out).1).trans HX.out)).1 (λe=>own_block_ne HO2.out ((HB2'.out.block _ (Array.getElem?_eq_some_iff.1 HX.out).1).trans HX.out) (by decide) e.symm)).trans ((HB2'.out.block _ (Array.getElem?_eq_some_iff.1 HX.out).1).trans HX.out)
      have e1:w3.cell? ⟨w1.heap.size,256,none⟩=some (.slice A0 2 c0):=by
       rw[Lib.cell_of_heap hcs3,←Lib.cell_of_heap HX.out];exact d3
      have e2:w3.frozen? ⟨w1.heap.size,256,none⟩=false:=Lib.frozen_of_heap hcs3 256
      have own3':w3.ownsRow w.heap.size 9 1 (.slice A3 3 c3) 3 (rpS 3):=own3
      have hS3:Bsr w.heap.size w1.heap.size 2 3 (w3.setCell ⟨w1.heap.size,256,none⟩ (.slice A3 3 c3)):=by
       obtain⟨hge,cs',hcs',_,htab',v',hv',own'⟩:=HS2.out
       have q:=Lib.cell_of_heap hcs' (j:=256)
       rw[hv']at q
       have q2:=(HB2'.out.cell (p:=⟨w1.heap.size,256,none⟩) (cell_lt d3)).trans d3
       rw[q]at q2
       cases q2
       exact Bsr.named hge hcs' (by assumption) htab' own' own3' hg3
      obtain⟨W4,hW4⟩:∃W4,W4=w3.setCell ⟨w1.heap.size,256,none⟩ (.slice A3 3 c3):=⟨_,rfl⟩
      have hcv:=Lib.run_convert_string_bytes (P:=Tryz.prog) W4 9 163 5 ⟨#[92,34]⟩ (u:=.string) Tryz.underlying9 Tryz.underlying163 Tryz.underlying5
      have hBW:=Lib.bytesWorld_below W4 5 ⟨#[92,34]⟩
      have hnew:=Lib.bytesWorld_at_new W4 5 ⟨#[92,34]⟩
      rw[←hW4]at hS3
      have hS5:=hS3.step hBW
      obtain⟨W5,hW5⟩:∃W5,W5=Lib.bytesWorld W4 5 ⟨#[92,34]⟩:=⟨_,rfl⟩
      rw[←hW5]at hcv hS5 hnew
      obtain⟨C5,hC5⟩:∃C5,C5=grownCap W4 (ByteArray.size ⟨#[92,34]⟩) 0 5:=⟨_,rfl⟩
      rw[←hC5]at hcv
      obtain⟨_,f2,hr5⟩:=hS5.low (j:=34) (by omega)
      unfold RpV at hr5
      rw[if_pos e0]at hr5
      subst hr5
      have f3:=hS5.fz 34
      have hS6:=hS5.laid (by omega) (c:=C5) hnew (by
       intro j x hx
       rw[show rpX (rpN 2).toNat=[92,34] from rfl]at hx
       unfold Lib.bytesCells
       match j,hx with
       | 0,hx=>simp at hx;subst hx;rw[Array.getElem?_append_left (by simp)];simp
       | 1,hx=>simp at hx;subst hx;rw[Array.getElem?_append_left (by simp)];simp
       | j+2,hx=>simp at hx)
      have hb5:Below w.heap.size w W4:=by
       rw[hW4]
       exact((hB.trans ((HB2'.out.mono hbs).trans hb3))).setCell (p:=⟨w1.heap.size,256,none⟩) hge _
      have hb6:Below w.heap.size w W5:=by
       rw[hW5]
       exact hb5.trans (hBW.mono hb5.size)
      have HS6:=Lib.hid hS6
      have HB6:=Lib.hid (hb6.setCell (p:=⟨w1.heap.size,34,none⟩) hge (.slice (some ⟨W4.heap.size,0,none⟩) 2 C5))
      subst hC5
      subst hW5
      subst hW4
      simp only[World.size_setCell]at HS6 HB6
      clear hS3 hS5 hS6 hb5 hb6 hnew hBW hcs3 own3 own3' hb3 hg3 hB d0 d2 d3 hcs1 hrn H1
      go_wp2
      go_roundw
      case rel=>exact⟨3,by omega,by go_num,HS6.out,HB6.out⟩
      case measure=>simp[intOf]
     ·have d0:wr.cell? ⟨g,0,none⟩=_:=(hB.cell hgl).trans (HA.out 0 _ rfl)
      have d1:wr.cell? ⟨g,1,none⟩=_:=(hB.cell hgl).trans (HA.out 1 _ rfl)
      obtain⟨_,d2,hr⟩:=hS.out.low (j:=92) (by omega)
      have hbn:bn ⟨#[92]⟩ 0=92:=rfl
      have e0:rpT 3 92=[]:=rfl
      unfold RpV at hr
      rw[if_pos e0]at hr
      subst hr
      obtain⟨hge,cs,hcs,hsz,htab,v,hv,own⟩:=hS.out
      obtain⟨A0,c0,rfl,_,_⟩:=own_slice own
      have d3:wr.cell? ⟨w1.heap.size,256,none⟩=some (.slice A0 3 c0):=by rw[Lib.cell_of_heap hcs];exact hv
      have hb1:Below wr.heap.size wr (wr.alloc (.cells #[.int .u8 92] 5)):=blw
      have hb2:Below wr.heap.size wr ((wr.alloc (.cells #[.int .u8 92] 5)).alloc (.cells #[.string ⟨#[92]⟩] 9)):=blw
      have hcs1:=run_conv_bytes (P:=Tryz.prog) (w:=wr.alloc (.cells #[.int .u8 92] 5)) (n:=1) (c:=1) 163 9 5 Tryz.underlying163 Tryz.underlying5 Tryz.underlying9 (xs:=[92]) (Rd.of_block (heap_alloc_new wr _) rfl) rfl
      rw[show strOfNums [92]=⟨#[92]⟩ from rfl]at hcs1
      have own2:=own_below own hb2 (Nat.le_refl _)
      have hS2:=hS.out.step hb2
      have HX:=Lib.hid hcs
      have HS2:=Lib.hid hS2
      have HO2:=Lib.hid own2
      have H1:∀u∈[(Value.string ⟨#[92]⟩)],u.oneCell'=true:=by intro u hu;simp at hu;subst hu;rfl
      have hrn:=Rd.of_block (xs:=[(Value.string ⟨#[92]⟩)]) (heap_alloc_new (wr.alloc (.cells #[.int .u8 92] 5)) (.cells #[.string ⟨#[92]⟩] 9)) rfl
      simp only[World.size_alloc]at hrn
      have HB2':=Lib.hid hb2
      clear hS hS2 hcs htab hv own own2 hb1 hb2 hmk'
      go_wp2_with (at_builtin;refine wpList_appG (m:=1) (n:=3) (base:=w.heap.size) rfl rfl Tryz.underlying32 strInfo8 rfl (by omega) rfl HO2.out rfl hrn rfl H1 (by omega) (by omega) (by have:=HB2'.out.size;omega) ?_)
      intro v3 w3 own3 hb3 hg3
      obtain⟨A3,c3,rfl,_,_⟩:=own_slice own3
      have hcs3:w3.heap[w1.heap.size]?=_:=(hg3.block _ (Array.getElem?_eq_some_iff.1 ((HB2'.out.block _ (Array.getElem?_eq_some_iff.1 HX.out).1).trans HX.out)).1 (λe=>own_block_ne HO2.out ((HB2'.out.block _ (Array.getElem?_eq_some_iff.1 HX.out).1).trans HX.out) (by decide) e.symm)).trans ((HB2'.out.block _ (Array.getElem?_eq_some_iff.1 HX.out).1).trans HX.out)
      have e1:w3.cell? ⟨w1.heap.size,256,none⟩=some (.slice A0 3 c0):=by
       rw[Lib.cell_of_heap hcs3,←Lib.cell_of_heap HX.out];exact d3
      have e2:w3.frozen? ⟨w1.heap.size,256,none⟩=false:=Lib.frozen_of_heap hcs3 256
      have own3':w3.ownsRow w.heap.size 9 1 (.slice A3 4 c3) 4 (rpS 4):=own3
      have hS3:Bsr w.heap.size w1.heap.size 3 4 (w3.setCell ⟨w1.heap.size,256,none⟩ (.slice A3 4 c3)):=by
       obtain⟨hge,cs',hcs',_,htab',v',hv',own'⟩:=HS2.out
       have q:=Lib.cell_of_heap hcs' (j:=256)
       rw[hv']at q
       have q2:=(HB2'.out.cell (p:=⟨w1.heap.size,256,none⟩) (cell_lt d3)).trans d3
       rw[q]at q2
       cases q2
       exact Bsr.named hge hcs' (by assumption) htab' own' own3' hg3
      obtain⟨W4,hW4⟩:∃W4,W4=w3.setCell ⟨w1.heap.size,256,none⟩ (.slice A3 4 c3):=⟨_,rfl⟩
      have hcv:=Lib.run_convert_string_bytes (P:=Tryz.prog) W4 9 163 5 ⟨#[92,92]⟩ (u:=.string) Tryz.underlying9 Tryz.underlying163 Tryz.underlying5
      have hBW:=Lib.bytesWorld_below W4 5 ⟨#[92,92]⟩
      have hnew:=Lib.bytesWorld_at_new W4 5 ⟨#[92,92]⟩
      rw[←hW4]at hS3
      have hS5:=hS3.step hBW
      obtain⟨W5,hW5⟩:∃W5,W5=Lib.bytesWorld W4 5 ⟨#[92,92]⟩:=⟨_,rfl⟩
      rw[←hW5]at hcv hS5 hnew
      obtain⟨C5,hC5⟩:∃C5,C5=grownCap W4 (ByteArray.size ⟨#[92,92]⟩) 0 5:=⟨_,rfl⟩
      rw[←hC5]at hcv
      obtain⟨_,f2,hr5⟩:=hS5.low (j:=92) (by omega)
      unfold RpV at hr5
      rw[if_pos e0]at hr5
      subst hr5
      have f3:=hS5.fz 92
      have hS6:=hS5.laid (by omega) (c:=C5) hnew (by
       intro j x hx
       rw[show rpX (rpN 3).toNat=[92,92] from rfl]at hx
       unfold Lib.bytesCells
       match j,hx with
       | 0,hx=>simp at hx;subst hx;rw[Array.getElem?_append_left (by simp)];simp
       | 1,hx=>simp at hx;subst hx;rw[Array.getElem?_append_left (by simp)];simp
       | j+2,hx=>simp at hx)
      have hb5:Below w.heap.size w W4:=by
       rw[hW4]
       exact((hB.trans ((HB2'.out.mono hbs).trans hb3))).setCell (p:=⟨w1.heap.size,256,none⟩) hge _
      have hb6:Below w.heap.size w W5:=by
       rw[hW5]
       exact hb5.trans (hBW.mono hb5.size)
      have HS6:=Lib.hid hS6
      have HB6:=Lib.hid (hb6.setCell (p:=⟨w1.heap.size,92,none⟩) hge (.slice (some ⟨W4.heap.size,0,none⟩) 2 C5))
      subst hC5
      subst hW5
      subst hW4
      simp only[World.size_setCell]at HS6 HB6
      clear hS3 hS5 hS6 hb5 hb6 hnew hBW hcs3 own3 own3' hb3 hg3 hB d0 d2 d3 hcs1 hrn H1
      go_wp2
      go_roundw
      case rel=>exact⟨4,by omega,by go_num,HS6.out,HB6.out⟩
      case measure=>simp[intOf]
    ·obtain rfl:k=4:=by omega
     go_wp2
     go_ret
     exact⟨_,rfl,hB,hS.out⟩
end Go.Proofs.YtoaemihcbmlkgaaGreatDoor
