/- (*strings.Replacer).build over the four pairs of term.escape -/
import Derived.Lib.AtoiErrMem
import Derived.Test.YtfcbghmbbjolcaaGreatDoorJRep2m
import Derived.Lib.LazyBuf
import Derived.Lib.SlBuf
set_option maxHeartbeats 8000000
set_option maxRecDepth 100000
namespace Go.Proofs.YtfcbghmbbjolcaaGreatDoor
open Go Go.RowKit Um Fm Tx
theorem wW:Tryz.zeroCells386.toList=List.replicate 257 (.slice none 0 0):=by kernel_rfl
theorem AH {w w1:World} {v:Value} (hb:w.grownBy w1 none) (own:w1.ownsRow w.heap.size 9 1 v 0 []) :
  Bsr w.heap.size w1.heap.size 0 0 ((w1.alloc (.cells Tryz.zeroCells386 386)).setRow w1.heap.size (Tryz.zeroCells386.toList.set 256 v).toArray):=by
 refine⟨hb.size,_,setRow_heap _ _ _ _ _ _ (heap_alloc_new w1 _),?_,λj hj=>⟨.slice none 0 0,?_,?_⟩,v,?_,?_⟩
 ·rw[wW,List.size_toArray,List.length_set,List.length_replicate]
 ·rw[wW,List.getElem?_toArray,List.getElem?_set_ne (by omega),List.getElem?_replicate,if_pos (by omega)]
 ·unfold RpV;rw[BD,if_pos rfl]
 ·rw[wW,List.getElem?_toArray,List.getElem?_set_self (by rw[List.length_replicate];omega)]
 ·have h2:=own.alloc (.cells Tryz.zeroCells386 386)
  have hne:=bz h2 (heap_alloc_new w1 (.cells Tryz.zeroCells386 386)) (by decide)
  refine⟨h2.1,h2.2.imp id ?_⟩
  rintro⟨g,cap,cur,rfl,hB,hh,r⟩
  refine⟨g,cap,cur,rfl,hB,?_,r⟩
  rw[setRow_other _ _ _ _ (show g≠w1.heap.size from λe=>hne (by simp[Value.ownBlock,e]))]
  exact hh
theorem BN (b g c:Nat) (w:World) (h4:w.cell? ⟨b,4,none⟩=some (.slice (some ⟨g,0,none⟩) 8 c)) (hA:∀j x,rF[j]?=some x->w.cell? ⟨g,j,none⟩=some (.string x)) :
  Calls Tryz.prog 315 #[.pointer (some ⟨b,0,none⟩)] w λe w'=>∃b2,e=.returned (.iface 387 (.pointer (some ⟨b2,0,none⟩)))/\Below w.heap.size w w'/\Bsr w.heap.size b2 4 4 w':=by
 have HA:=Lib.hid hA
 have c0:=hA 0 _ rfl
 have c1:=hA 1 _ rfl
 have c2:=hA 2 _ rfl
 have c3:=hA 3 _ rfl
 have c4:=hA 4 _ rfl
 have c5:=hA 5 _ rfl
 have c6:=hA 6 _ rfl
 have c7:=hA 7 _ rfl
 have hgl:=ag c0
 clear hA
 go_enter Tryz.func315,Tryz.ntmps315
 go_wp2
 go_loop [4,5] (λv i=>∃k:Nat,k<=4/\i=.int .i64 (2*k:Nat)/\v=.bool (decide (k=0))) (λ_ i=>8-(intOf i).toNat)
 case atStart=>exact⟨0,by omega,rfl,rfl⟩
 case round =>
  obtain⟨k,hk,rfl,rfl⟩:=hrel
  by_cases hlt:k<4
  ·rcases(by omega:k=0∨k=1∨k=2∨k=3) with rfl|rfl|rfl|rfl
   ·go_wp2
    go_round
    case rel=>exact⟨1,by omega,rfl,rfl⟩
    case measure=>decide
   ·go_wp2
    go_round
    case rel=>exact⟨2,by omega,rfl,rfl⟩
    case measure=>decide
   ·go_wp2
    go_round
    case rel=>exact⟨3,by omega,rfl,rfl⟩
    case measure=>decide
   ·go_wp2
    go_round
    case rel=>exact⟨4,by omega,rfl,rfl⟩
    case measure=>decide
  ·obtain rfl:k=4:=by omega
   clear c0 c1 c2 c3 c4 c5 c6 c7
   obtain⟨i9,hi9,hz9,hs9,hb9⟩:=info_parts fx
   obtain⟨w1,hmk,own1,hg1⟩:=run_make_own (P:=Tryz.prog) w w.heap.size 23 9 i9 _ 1 Tryz.underlying23 hi9 hz9 hs9 .i64 .i64 4 (by rw[hb9];omega) (by decide) (Nat.le_refl _)
   have HS:=Lib.hid (AH hg1 own1)
   have hst:=run_storeCells_from (P:=Tryz.prog) w1.heap.size 386 (Tryz.zeroCells386.toList.set 256 (.slice (some ⟨w.heap.size,0,none⟩) 0 4)) 0 Tryz.zeroCells386 _ (heap_alloc_new w1 _) (by simp) (by
    intro v hv
    rw[wW]at hv
    rcases List.mem_or_eq_of_mem_set hv with h|h
    ·rw[List.eq_of_mem_replicate h];rfl
    ·rw[h];rfl)
   rw[List.take_zero,List.nil_append]at hst
   have hB1:Below w.heap.size w w1:=(Below.refl _ w).grown hg1 (Nat.le_refl _) (λk hk=>by cases hk)
   have HB2:=Lib.hid (below_setRow (hB1.alloc hB1.size (.cells Tryz.zeroCells386 386)) hB1.size (Tryz.zeroCells386.toList.set 256 (.slice (some ⟨w.heap.size,0,none⟩) 0 4)).toArray)
   have hmk':(Instr.makeSlice 23 (.int .i64 0) (.int .i64 4)).run Tryz.prog w=_:=hmk
   obtain⟨W2,hW2⟩:∃W2,W2=(w1.alloc (.cells Tryz.zeroCells386 386)).setRow w1.heap.size (Tryz.zeroCells386.toList.set 256 (.slice (some ⟨w.heap.size,0,none⟩) 0 4)).toArray:=⟨_,rfl⟩
   rw[←hW2]at hst HS HB2
   clear hmk own1 hg1 hB1 hW2
   have hnn:=λW=>Lib.run_eql_slice_nil (P:=Tryz.prog) W 166 5 none 0 0 0 0 Tryz.underlying166
   go_wp2
   go_loopw [12] (λi wr=>∃k:Nat,k<=4/\i=.int .i64 (6-2*(k:Int))/\Hid (Bsr w.heap.size w1.heap.size k k wr)/\Below w.heap.size w wr) (λi _=>(intOf i+2).toNat)
   case atStart=>exact⟨0,by omega,rfl,HS.out,HB2.out⟩
   case round =>
    obtain⟨k,hk,rfl,hS,hB⟩:=hrel
    have hbs:=hB.size
    by_cases hlt:k<4
    ·rcases(by omega:k=0∨k=1∨k=2∨k=3) with rfl|rfl|rfl|rfl
     ·have d0:wr.cell? ⟨g,6,none⟩=_:=(hB.cell hgl).trans (HA.out 6 _ rfl)
      have d1:wr.cell? ⟨g,7,none⟩=_:=(hB.cell hgl).trans (HA.out 7 _ rfl)
      obtain⟨_,d2,hr⟩:=hS.out.low (j:=13) (by omega)
      have hbn:bn ⟨#[13]⟩ 0=13:=rfl
      have e0:rpT 0 13=[]:=rfl
      unfold RpV at hr
      rw[if_pos e0]at hr
      subst hr
      obtain⟨hge,cs,hcs,hsz,htab,v,hv,own⟩:=hS.out
      obtain⟨A0,c0,rfl,_,_⟩:=own_slice own
      have d3:wr.cell? ⟨w1.heap.size,256,none⟩=some (.slice A0 0 c0):=by rw[Lib.cell_of_heap hcs];exact hv
      have hb1:Below wr.heap.size wr (wr.alloc (.cells #[.int .u8 13] 5)):=blw
      have hb2:Below wr.heap.size wr ((wr.alloc (.cells #[.int .u8 13] 5)).alloc (.cells #[.string ⟨#[13]⟩] 9)):=blw
      have hcs1:=aT (P:=Tryz.prog) (w:=wr.alloc (.cells #[.int .u8 13] 5)) (n:=1) (c:=1) 166 9 5 Tryz.underlying166 Tryz.underlying5 Tryz.underlying9 (xs:=[13]) (Rd.of_block (heap_alloc_new wr _) rfl) rfl
      rw[show strOfNums [13]=⟨#[13]⟩ from rfl]at hcs1
      have own2:=own_below own hb2 (Nat.le_refl _)
      have hS2:=hS.out.step hb2
      have HX:=Lib.hid hcs
      have HS2:=Lib.hid hS2
      have HO2:=Lib.hid own2
      have H1:∀u∈[(Value.string ⟨#[13]⟩)],u.oneCell'=true:=by intro u hu;simp at hu;subst hu;rfl
      have hrn:=Rd.of_block (xs:=[(Value.string ⟨#[13]⟩)]) (heap_alloc_new (wr.alloc (.cells #[.int .u8 13] 5)) (.cells #[.string ⟨#[13]⟩] 9)) rfl
      simp only[World.size_alloc]at hrn
      have HB2':=Lib.hid hb2
      clear hS hS2 hcs htab hv own own2 hb1 hb2 hmk'
      go_wp2_with (at_builtin;refine ak (m:=1) (n:=0) (base:=w.heap.size) rfl rfl Tryz.underlying23 fx rfl (by omega) rfl HO2.out rfl hrn rfl H1 (by omega) (by omega) (by have:=HB2'.out.size;omega) ?_)
      intro v3 w3 own3 hb3 hg3
      obtain⟨A3,c3,rfl,_,_⟩:=own_slice own3
      have hcs3:w3.heap[w1.heap.size]?=_:=(hg3.block _ (Array.getElem?_eq_some_iff.1 ((HB2'.out.block _ (Array.getElem?_eq_some_iff.1 HX.out).1).trans HX.out)).1 (λe=>bz HO2.out ((HB2'.out.block _ (Array.getElem?_eq_some_iff.1 HX.out).1).trans HX.out) (by decide) e.symm)).trans ((HB2'.out.block _ (Array.getElem?_eq_some_iff.1 HX.out).1).trans HX.out)
      have e1:w3.cell? ⟨w1.heap.size,256,none⟩=some (.slice A0 0 c0):=by
       rw[Lib.cell_of_heap hcs3,←Lib.cell_of_heap HX.out];exact d3
      have e2:w3.frozen? ⟨w1.heap.size,256,none⟩=false:=Lib.frozen_of_heap hcs3 256
      have own3':w3.ownsRow w.heap.size 9 1 (.slice A3 1 c3) 1 (rpS 1):=own3
      have hS3:Bsr w.heap.size w1.heap.size 0 1 (w3.setCell ⟨w1.heap.size,256,none⟩ (.slice A3 1 c3)):=by
       obtain⟨hge,cs',hcs',_,htab',v',hv',own'⟩:=HS2.out
       have q:=Lib.cell_of_heap hcs' (j:=256)
       rw[hv']at q
       have q2:=(HB2'.out.cell (p:=⟨w1.heap.size,256,none⟩) (ag d3)).trans d3
       rw[q]at q2
       cases q2
       exact Bsr.named hge hcs' (by assumption) htab' own' own3' hg3
      obtain⟨W4,hW4⟩:∃W4,W4=w3.setCell ⟨w1.heap.size,256,none⟩ (.slice A3 1 c3):=⟨_,rfl⟩
      have hcv:=Lib.run_convert_string_bytes (P:=Tryz.prog) W4 9 166 5 ⟨#[92,114]⟩ (u:=.string) Tryz.underlying9 Tryz.underlying166 Tryz.underlying5
      have hBW:=Lib.bytesWorld_below W4 5 ⟨#[92,114]⟩
      have hnew:=Lib.bytesWorld_at_new W4 5 ⟨#[92,114]⟩
      rw[←hW4]at hS3
      have hS5:=hS3.step hBW
      obtain⟨W5,hW5⟩:∃W5,W5=Lib.bytesWorld W4 5 ⟨#[92,114]⟩:=⟨_,rfl⟩
      rw[←hW5]at hcv hS5 hnew
      obtain⟨C5,hC5⟩:∃C5,C5=grownCap W4 (ByteArray.size ⟨#[92,114]⟩) 0 5:=⟨_,rfl⟩
      rw[←hC5]at hcv
      obtain⟨_,f2,hr5⟩:=hS5.low (j:=13) (by omega)
      unfold RpV at hr5
      rw[if_pos e0]at hr5
      subst hr5
      have f3:=hS5.fz 13
      have hS6:=hS5.laid (by omega) (c:=C5) hnew (by
       intro j x hx
       rw[show rpX (rpN 0).toNat=[92,114] from rfl]at hx
       unfold Lib.bytesCells
       match j,hx with
       | 0,hx=>simp at hx;subst hx;rw[Array.getElem?_append_left (by simp)];simp
       | 1,hx=>simp at hx;subst hx;rw[Array.getElem?_append_left (by simp)];simp
       | j+2,hx=>simp at hx)
      have hb5:Below w.heap.size w W4:=by
       rw[hW4]
       exact((hB.trans ((HB2'.out.mono hbs).trans hb3))).setCell (p:=⟨w1.heap.size,256,none⟩) hge _
      have hb6:Below w.heap.size w W5:=by
       rw[hW5]
       exact hb5.trans (hBW.mono hb5.size)
      have HS6:=Lib.hid hS6
      have HB6:=Lib.hid (hb6.setCell (p:=⟨w1.heap.size,13,none⟩) hge (.slice (some ⟨W4.heap.size,0,none⟩) 2 C5))
      subst hC5
      subst hW5
      subst hW4
      simp only[World.size_setCell]at HS6 HB6
      clear hS3 hS5 hS6 hb5 hb6 hnew hBW hcs3 own3 own3' hb3 hg3 hB d0 d2 d3 hcs1 hrn H1
      go_wp2
      go_roundw
      case rel=>exact⟨1,by omega,by go_num,HS6.out,HB6.out⟩
      case measure=>simp[intOf]
     ·have d0:wr.cell? ⟨g,4,none⟩=_:=(hB.cell hgl).trans (HA.out 4 _ rfl)
      have d1:wr.cell? ⟨g,5,none⟩=_:=(hB.cell hgl).trans (HA.out 5 _ rfl)
      obtain⟨_,d2,hr⟩:=hS.out.low (j:=10) (by omega)
      have hbn:bn ⟨#[10]⟩ 0=10:=rfl
      have e0:rpT 1 10=[]:=rfl
      unfold RpV at hr
      rw[if_pos e0]at hr
      subst hr
      obtain⟨hge,cs,hcs,hsz,htab,v,hv,own⟩:=hS.out
      obtain⟨A0,c0,rfl,_,_⟩:=own_slice own
      have d3:wr.cell? ⟨w1.heap.size,256,none⟩=some (.slice A0 1 c0):=by rw[Lib.cell_of_heap hcs];exact hv
      have hb1:Below wr.heap.size wr (wr.alloc (.cells #[.int .u8 10] 5)):=blw
      have hb2:Below wr.heap.size wr ((wr.alloc (.cells #[.int .u8 10] 5)).alloc (.cells #[.string ⟨#[10]⟩] 9)):=blw
      have hcs1:=aT (P:=Tryz.prog) (w:=wr.alloc (.cells #[.int .u8 10] 5)) (n:=1) (c:=1) 166 9 5 Tryz.underlying166 Tryz.underlying5 Tryz.underlying9 (xs:=[10]) (Rd.of_block (heap_alloc_new wr _) rfl) rfl
      rw[show strOfNums [10]=⟨#[10]⟩ from rfl]at hcs1
      have own2:=own_below own hb2 (Nat.le_refl _)
      have hS2:=hS.out.step hb2
      have HX:=Lib.hid hcs
      have HS2:=Lib.hid hS2
      have HO2:=Lib.hid own2
      have H1:∀u∈[(Value.string ⟨#[10]⟩)],u.oneCell'=true:=by intro u hu;simp at hu;subst hu;rfl
      have hrn:=Rd.of_block (xs:=[(Value.string ⟨#[10]⟩)]) (heap_alloc_new (wr.alloc (.cells #[.int .u8 10] 5)) (.cells #[.string ⟨#[10]⟩] 9)) rfl
      simp only[World.size_alloc]at hrn
      have HB2':=Lib.hid hb2
      clear hS hS2 hcs htab hv own own2 hb1 hb2 hmk'
      go_wp2_with (at_builtin;refine ak (m:=1) (n:=1) (base:=w.heap.size) rfl rfl Tryz.underlying23 fx rfl (by omega) rfl HO2.out rfl hrn rfl H1 (by omega) (by omega) (by have:=HB2'.out.size;omega) ?_)
      intro v3 w3 own3 hb3 hg3
      obtain⟨A3,c3,rfl,_,_⟩:=own_slice own3
      have hcs3:w3.heap[w1.heap.size]?=_:=(hg3.block _ (Array.getElem?_eq_some_iff.1 ((HB2'.out.block _ (Array.getElem?_eq_some_iff.1 HX.out).1).trans HX.out)).1 (λe=>bz HO2.out ((HB2'.out.block _ (Array.getElem?_eq_some_iff.1 HX.out).1).trans HX.out) (by decide) e.symm)).trans ((HB2'.out.block _ (Array.getElem?_eq_some_iff.1 HX.out).1).trans HX.out)
      have e1:w3.cell? ⟨w1.heap.size,256,none⟩=some (.slice A0 1 c0):=by
       rw[Lib.cell_of_heap hcs3,←Lib.cell_of_heap HX.out];exact d3
      have e2:w3.frozen? ⟨w1.heap.size,256,none⟩=false:=Lib.frozen_of_heap hcs3 256
      have own3':w3.ownsRow w.heap.size 9 1 (.slice A3 2 c3) 2 (rpS 2):=own3
      have hS3:Bsr w.heap.size w1.heap.size 1 2 (w3.setCell ⟨w1.heap.size,256,none⟩ (.slice A3 2 c3)):=by
       obtain⟨hge,cs',hcs',_,htab',v',hv',own'⟩:=HS2.out
       have q:=Lib.cell_of_heap hcs' (j:=256)
       rw[hv']at q
       have q2:=(HB2'.out.cell (p:=⟨w1.heap.size,256,none⟩) (ag d3)).trans d3
       rw[q]at q2
       cases q2
       exact Bsr.named hge hcs' (by assumption) htab' own' own3' hg3
      obtain⟨W4,hW4⟩:∃W4,W4=w3.setCell ⟨w1.heap.size,256,none⟩ (.slice A3 2 c3):=⟨_,rfl⟩
      have hcv:=Lib.run_convert_string_bytes (P:=Tryz.prog) W4 9 166 5 ⟨#[92,110]⟩ (u:=.string) Tryz.underlying9 Tryz.underlying166 Tryz.underlying5
      have hBW:=Lib.bytesWorld_below W4 5 ⟨#[92,110]⟩
      have hnew:=Lib.bytesWorld_at_new W4 5 ⟨#[92,110]⟩
      rw[←hW4]at hS3
      have hS5:=hS3.step hBW
      obtain⟨W5,hW5⟩:∃W5,W5=Lib.bytesWorld W4 5 ⟨#[92,110]⟩:=⟨_,rfl⟩
      rw[←hW5]at hcv hS5 hnew
      obtain⟨C5,hC5⟩:∃C5,C5=grownCap W4 (ByteArray.size ⟨#[92,110]⟩) 0 5:=⟨_,rfl⟩
      rw[←hC5]at hcv
      obtain⟨_,f2,hr5⟩:=hS5.low (j:=10) (by omega)
      unfold RpV at hr5
      rw[if_pos e0]at hr5
      subst hr5
      have f3:=hS5.fz 10
      have hS6:=hS5.laid (by omega) (c:=C5) hnew (by
       intro j x hx
       rw[show rpX (rpN 1).toNat=[92,110] from rfl]at hx
       unfold Lib.bytesCells
       match j,hx with
       | 0,hx=>simp at hx;subst hx;rw[Array.getElem?_append_left (by simp)];simp
       | 1,hx=>simp at hx;subst hx;rw[Array.getElem?_append_left (by simp)];simp
       | j+2,hx=>simp at hx)
      have hb5:Below w.heap.size w W4:=by
       rw[hW4]
       exact((hB.trans ((HB2'.out.mono hbs).trans hb3))).setCell (p:=⟨w1.heap.size,256,none⟩) hge _
      have hb6:Below w.heap.size w W5:=by
       rw[hW5]
       exact hb5.trans (hBW.mono hb5.size)
      have HS6:=Lib.hid hS6
      have HB6:=Lib.hid (hb6.setCell (p:=⟨w1.heap.size,10,none⟩) hge (.slice (some ⟨W4.heap.size,0,none⟩) 2 C5))
      subst hC5
      subst hW5
      subst hW4
      simp only[World.size_setCell]at HS6 HB6
      clear hS3 hS5 hS6 hb5 hb6 hnew hBW hcs3 own3 own3' hb3 hg3 hB d0 d2 d3 hcs1 hrn H1
      go_wp2
      go_roundw
      case rel=>exact⟨2,by omega,by go_num,HS6.out,HB6.out⟩
      case measure=>simp[intOf]
     ·have d0:wr.cell? ⟨g,2,none⟩=_:=(hB.cell hgl).trans (HA.out 2 _ rfl)
      have d1:wr.cell? ⟨g,3,none⟩=_:=(hB.cell hgl).trans (HA.out 3 _ rfl)
      obtain⟨_,d2,hr⟩:=hS.out.low (j:=34) (by omega)
      have hbn:bn ⟨#[34]⟩ 0=34:=rfl
      have e0:rpT 2 34=[]:=rfl
      unfold RpV at hr
      rw[if_pos e0]at hr
      subst hr
      obtain⟨hge,cs,hcs,hsz,htab,v,hv,own⟩:=hS.out
      obtain⟨A0,c0,rfl,_,_⟩:=own_slice own
      have d3:wr.cell? ⟨w1.heap.size,256,none⟩=some (.slice A0 2 c0):=by rw[Lib.cell_of_heap hcs];exact hv
      have hb1:Below wr.heap.size wr (wr.alloc (.cells #[.int .u8 34] 5)):=blw
      have hb2:Below wr.heap.size wr ((wr.alloc (.cells #[.int .u8 34] 5)).alloc (.cells #[.string ⟨#[34]⟩] 9)):=blw
      have hcs1:=aT (P:=Tryz.prog) (w:=wr.alloc (.cells #[.int .u8 34] 5)) (n:=1) (c:=1) 166 9 5 Tryz.underlying166 Tryz.underlying5 Tryz.underlying9 (xs:=[34]) (Rd.of_block (heap_alloc_new wr _) rfl) rfl
      rw[show strOfNums [34]=⟨#[34]⟩ from rfl]at hcs1
      have own2:=own_below own hb2 (Nat.le_refl _)
      have hS2:=hS.out.step hb2
      have HX:=Lib.hid hcs
      have HS2:=Lib.hid hS2
      have HO2:=Lib.hid own2
      have H1:∀u∈[(Value.string ⟨#[34]⟩)],u.oneCell'=true:=by intro u hu;simp at hu;subst hu;rfl
      have hrn:=Rd.of_block (xs:=[(Value.string ⟨#[34]⟩)]) (heap_alloc_new (wr.alloc (.cells #[.int .u8 34] 5)) (.cells #[.string ⟨#[34]⟩] 9)) rfl
      simp only[World.size_alloc]at hrn
      have HB2':=Lib.hid hb2
      clear hS hS2 hcs htab hv own own2 hb1 hb2 hmk'
      go_wp2_with (at_builtin;refine ak (m:=1) (n:=2) (base:=w.heap.size) rfl rfl Tryz.underlying23 fx rfl (by omega) rfl HO2.out rfl hrn rfl H1 (by omega) (by omega) (by have:=HB2'.out.size;omega) ?_)
      intro v3 w3 own3 hb3 hg3
      obtain⟨A3,c3,rfl,_,_⟩:=own_slice own3
      have hcs3:w3.heap[w1.heap.size]?=_:=(hg3.block _ (Array.getElem?_eq_some_iff.1 ((HB2'.out.block _ (Array.getElem?_eq_some_iff.1 HX.out).1).trans HX.out)).1 (λe=>bz HO2.out ((HB2'.out.block _ (Array.getElem?_eq_some_iff.1 HX.out).1).trans HX.out) (by decide) e.symm)).trans ((HB2'.out.block _ (Array.getElem?_eq_some_iff.1 HX.out).1).trans HX.out)
      have e1:w3.cell? ⟨w1.heap.size,256,none⟩=some (.slice A0 2 c0):=by
       rw[Lib.cell_of_heap hcs3,←Lib.cell_of_heap HX.out];exact d3
      have e2:w3.frozen? ⟨w1.heap.size,256,none⟩=false:=Lib.frozen_of_heap hcs3 256
      have own3':w3.ownsRow w.heap.size 9 1 (.slice A3 3 c3) 3 (rpS 3):=own3
      have hS3:Bsr w.heap.size w1.heap.size 2 3 (w3.setCell ⟨w1.heap.size,256,none⟩ (.slice A3 3 c3)):=by
       obtain⟨hge,cs',hcs',_,htab',v',hv',own'⟩:=HS2.out
       have q:=Lib.cell_of_heap hcs' (j:=256)
       rw[hv']at q
       have q2:=(HB2'.out.cell (p:=⟨w1.heap.size,256,none⟩) (ag d3)).trans d3
       rw[q]at q2
       cases q2
       exact Bsr.named hge hcs' (by assumption) htab' own' own3' hg3
      obtain⟨W4,hW4⟩:∃W4,W4=w3.setCell ⟨w1.heap.size,256,none⟩ (.slice A3 3 c3):=⟨_,rfl⟩
      have hcv:=Lib.run_convert_string_bytes (P:=Tryz.prog) W4 9 166 5 ⟨#[92,34]⟩ (u:=.string) Tryz.underlying9 Tryz.underlying166 Tryz.underlying5
      have hBW:=Lib.bytesWorld_below W4 5 ⟨#[92,34]⟩
      have hnew:=Lib.bytesWorld_at_new W4 5 ⟨#[92,34]⟩
      rw[←hW4]at hS3
      have hS5:=hS3.step hBW
      obtain⟨W5,hW5⟩:∃W5,W5=Lib.bytesWorld W4 5 ⟨#[92,34]⟩:=⟨_,rfl⟩
      rw[←hW5]at hcv hS5 hnew
      obtain⟨C5,hC5⟩:∃C5,C5=grownCap W4 (ByteArray.size ⟨#[92,34]⟩) 0 5:=⟨_,rfl⟩
      rw[←hC5]at hcv
      obtain⟨_,f2,hr5⟩:=hS5.low (j:=34) (by omega)
      unfold RpV at hr5
      rw[if_pos e0]at hr5
      subst hr5
      have f3:=hS5.fz 34
      have hS6:=hS5.laid (by omega) (c:=C5) hnew (by
       intro j x hx
       rw[show rpX (rpN 2).toNat=[92,34] from rfl]at hx
       unfold Lib.bytesCells
       match j,hx with
       | 0,hx=>simp at hx;subst hx;rw[Array.getElem?_append_left (by simp)];simp
       | 1,hx=>simp at hx;subst hx;rw[Array.getElem?_append_left (by simp)];simp
       | j+2,hx=>simp at hx)
      have hb5:Below w.heap.size w W4:=by
       rw[hW4]
       exact((hB.trans ((HB2'.out.mono hbs).trans hb3))).setCell (p:=⟨w1.heap.size,256,none⟩) hge _
      have hb6:Below w.heap.size w W5:=by
       rw[hW5]
       exact hb5.trans (hBW.mono hb5.size)
      have HS6:=Lib.hid hS6
      have HB6:=Lib.hid (hb6.setCell (p:=⟨w1.heap.size,34,none⟩) hge (.slice (some ⟨W4.heap.size,0,none⟩) 2 C5))
      subst hC5
      subst hW5
      subst hW4
      simp only[World.size_setCell]at HS6 HB6
      clear hS3 hS5 hS6 hb5 hb6 hnew hBW hcs3 own3 own3' hb3 hg3 hB d0 d2 d3 hcs1 hrn H1
      go_wp2
      go_roundw
      case rel=>exact⟨3,by omega,by go_num,HS6.out,HB6.out⟩
      case measure=>simp[intOf]
     ·have d0:wr.cell? ⟨g,0,none⟩=_:=(hB.cell hgl).trans (HA.out 0 _ rfl)
      have d1:wr.cell? ⟨g,1,none⟩=_:=(hB.cell hgl).trans (HA.out 1 _ rfl)
      obtain⟨_,d2,hr⟩:=hS.out.low (j:=92) (by omega)
      have hbn:bn ⟨#[92]⟩ 0=92:=rfl
      have e0:rpT 3 92=[]:=rfl
      unfold RpV at hr
      rw[if_pos e0]at hr
      subst hr
      obtain⟨hge,cs,hcs,hsz,htab,v,hv,own⟩:=hS.out
      obtain⟨A0,c0,rfl,_,_⟩:=own_slice own
      have d3:wr.cell? ⟨w1.heap.size,256,none⟩=some (.slice A0 3 c0):=by rw[Lib.cell_of_heap hcs];exact hv
      have hb1:Below wr.heap.size wr (wr.alloc (.cells #[.int .u8 92] 5)):=blw
      have hb2:Below wr.heap.size wr ((wr.alloc (.cells #[.int .u8 92] 5)).alloc (.cells #[.string ⟨#[92]⟩] 9)):=blw
      have hcs1:=aT (P:=Tryz.prog) (w:=wr.alloc (.cells #[.int .u8 92] 5)) (n:=1) (c:=1) 166 9 5 Tryz.underlying166 Tryz.underlying5 Tryz.underlying9 (xs:=[92]) (Rd.of_block (heap_alloc_new wr _) rfl) rfl
      rw[show strOfNums [92]=⟨#[92]⟩ from rfl]at hcs1
      have own2:=own_below own hb2 (Nat.le_refl _)
      have hS2:=hS.out.step hb2
      have HX:=Lib.hid hcs
      have HS2:=Lib.hid hS2
      have HO2:=Lib.hid own2
      have H1:∀u∈[(Value.string ⟨#[92]⟩)],u.oneCell'=true:=by intro u hu;simp at hu;subst hu;rfl
      have hrn:=Rd.of_block (xs:=[(Value.string ⟨#[92]⟩)]) (heap_alloc_new (wr.alloc (.cells #[.int .u8 92] 5)) (.cells #[.string ⟨#[92]⟩] 9)) rfl
      simp only[World.size_alloc]at hrn
      have HB2':=Lib.hid hb2
      clear hS hS2 hcs htab hv own own2 hb1 hb2 hmk'
      go_wp2_with (at_builtin;refine ak (m:=1) (n:=3) (base:=w.heap.size) rfl rfl Tryz.underlying23 fx rfl (by omega) rfl HO2.out rfl hrn rfl H1 (by omega) (by omega) (by have:=HB2'.out.size;omega) ?_)
      intro v3 w3 own3 hb3 hg3
      obtain⟨A3,c3,rfl,_,_⟩:=own_slice own3
      have hcs3:w3.heap[w1.heap.size]?=_:=(hg3.block _ (Array.getElem?_eq_some_iff.1 ((HB2'.out.block _ (Array.getElem?_eq_some_iff.1 HX.out).1).trans HX.out)).1 (λe=>bz HO2.out ((HB2'.out.block _ (Array.getElem?_eq_some_iff.1 HX.out).1).trans HX.out) (by decide) e.symm)).trans ((HB2'.out.block _ (Array.getElem?_eq_some_iff.1 HX.out).1).trans HX.out)
      have e1:w3.cell? ⟨w1.heap.size,256,none⟩=some (.slice A0 3 c0):=by
       rw[Lib.cell_of_heap hcs3,←Lib.cell_of_heap HX.out];exact d3
      have e2:w3.frozen? ⟨w1.heap.size,256,none⟩=false:=Lib.frozen_of_heap hcs3 256
      have own3':w3.ownsRow w.heap.size 9 1 (.slice A3 4 c3) 4 (rpS 4):=own3
      have hS3:Bsr w.heap.size w1.heap.size 3 4 (w3.setCell ⟨w1.heap.size,256,none⟩ (.slice A3 4 c3)):=by
       obtain⟨hge,cs',hcs',_,htab',v',hv',own'⟩:=HS2.out
       have q:=Lib.cell_of_heap hcs' (j:=256)
       rw[hv']at q
       have q2:=(HB2'.out.cell (p:=⟨w1.heap.size,256,none⟩) (ag d3)).trans d3
       rw[q]at q2
       cases q2
       exact Bsr.named hge hcs' (by assumption) htab' own' own3' hg3
      obtain⟨W4,hW4⟩:∃W4,W4=w3.setCell ⟨w1.heap.size,256,none⟩ (.slice A3 4 c3):=⟨_,rfl⟩
      have hcv:=Lib.run_convert_string_bytes (P:=Tryz.prog) W4 9 166 5 ⟨#[92,92]⟩ (u:=.string) Tryz.underlying9 Tryz.underlying166 Tryz.underlying5
      have hBW:=Lib.bytesWorld_below W4 5 ⟨#[92,92]⟩
      have hnew:=Lib.bytesWorld_at_new W4 5 ⟨#[92,92]⟩
      rw[←hW4]at hS3
      have hS5:=hS3.step hBW
      obtain⟨W5,hW5⟩:∃W5,W5=Lib.bytesWorld W4 5 ⟨#[92,92]⟩:=⟨_,rfl⟩
      rw[←hW5]at hcv hS5 hnew
      obtain⟨C5,hC5⟩:∃C5,C5=grownCap W4 (ByteArray.size ⟨#[92,92]⟩) 0 5:=⟨_,rfl⟩
      rw[←hC5]at hcv
      obtain⟨_,f2,hr5⟩:=hS5.low (j:=92) (by omega)
      unfold RpV at hr5
      rw[if_pos e0]at hr5
      subst hr5
      have f3:=hS5.fz 92
      have hS6:=hS5.laid (by omega) (c:=C5) hnew (by
       intro j x hx
       rw[show rpX (rpN 3).toNat=[92,92] from rfl]at hx
       unfold Lib.bytesCells
       match j,hx with
       | 0,hx=>simp at hx;subst hx;rw[Array.getElem?_append_left (by simp)];simp
       | 1,hx=>simp at hx;subst hx;rw[Array.getElem?_append_left (by simp)];simp
       | j+2,hx=>simp at hx)
      have hb5:Below w.heap.size w W4:=by
       rw[hW4]
       exact((hB.trans ((HB2'.out.mono hbs).trans hb3))).setCell (p:=⟨w1.heap.size,256,none⟩) hge _
      have hb6:Below w.heap.size w W5:=by
       rw[hW5]
       exact hb5.trans (hBW.mono hb5.size)
      have HS6:=Lib.hid hS6
      have HB6:=Lib.hid (hb6.setCell (p:=⟨w1.heap.size,92,none⟩) hge (.slice (some ⟨W4.heap.size,0,none⟩) 2 C5))
      subst hC5
      subst hW5
      subst hW4
      simp only[World.size_setCell]at HS6 HB6
      clear hS3 hS5 hS6 hb5 hb6 hnew hBW hcs3 own3 own3' hb3 hg3 hB d0 d2 d3 hcs1 hrn H1
      go_wp2
      go_roundw
      case rel=>exact⟨4,by omega,by go_num,HS6.out,HB6.out⟩
      case measure=>simp[intOf]
    ·obtain rfl:k=4:=by omega
     go_wp2
     go_ret
     exact⟨_,rfl,hB,hS.out⟩
theorem iY {l:List UInt8} {v:Value} {w:World} (h:RpV l v w) (hl:l≠[]):Lib.HoldsBytes w v l/\∃a c,v=.slice (some a) 2 c:=by
 unfold RpV at h
 rw[if_neg hl]at h
 obtain⟨g,c,cur,fz,rfl,h1,h2,h3⟩:=h
 refine⟨⟨some ⟨g,0,none⟩,c,by rw[h2],(λe=>by cases e),λa ha j x hx=>?_⟩,_,_,rfl⟩
 injection ha with ha
 subst ha
 rw[aR,Nat.zero_add,Lib.cell_of_heap h1]
 exact h3 j x hx
theorem BC (c:UInt8):rpX c.toNat=[]↔isE c=false:=by
 unfold isE
 cases rpX c.toNat<;>simp
theorem qE:(Tryz.prog.info? 5).map (λi=>(i.zero,i.size,i.bytes))=some (some (.int .u8 0),1,1):=by kernel_rfl
theorem J4:∀w,(Go.sizeOf 5).run Tryz.prog w=.ok 1 w:=by
 obtain⟨i,hi,_,hs,_⟩:=info_parts qE
 intro w
 simp[Go.sizeOf,typeInfo,hi,hs]
theorem E8 {w0 wr:World} {h N:Nat} {acc:List UInt8} (hb:Lib.Buf w0 wr h N acc) (x:UInt8) (hl:acc.length<N):Lib.Buf w0 (wr.setCell ⟨h,acc.length,none⟩ (.int .u8 (x.toNat:Int))) h N (acc++[x]) where
 below:=hb.below.setCell (p:=⟨h,acc.length,none⟩) (Nat.le_refl _) _
 there:=λj hj=>by
  by_cases e:j=acc.length
  ·subst e
   obtain⟨u,hu⟩:=Option.isSome_iff_exists.1 (hb.there _ hj)
   rw[World.cell?_setCell_same _ _ _ hu];rfl
  ·rw[World.cell?_setCell_other _ ⟨h,acc.length,none⟩ ⟨h,j,none⟩ _ (by simp)]
   exact hb.there j hj
 free:=λj hj=>by rw[World.frozen?_setCell];exact hb.free j hj
 holds:=λj y hy=>by
  by_cases e:j=acc.length
  ·subst e
   obtain⟨u,hu⟩:=Option.isSome_iff_exists.1 (hb.there _ hl)
   rw[List.getElem?_append_right (Nat.le_refl _),Nat.sub_self]at hy
   simp at hy
   subst hy
   exact World.cell?_setCell_same _ _ _ hu
  ·have hj:j<acc.length:=by
    have:=(List.getElem?_eq_some_iff.1 hy).1
    simp at this;omega
   rw[World.cell?_setCell_other _ ⟨h,acc.length,none⟩ ⟨h,j,none⟩ _ (by simp)]
   rw[List.getElem?_append_left hj]at hy
   exact hb.holds j y hy
 fits:=by rw[List.length_append];simp;omega
theorem qF {w0 wr w':World} {h N:Nat} {acc:List UInt8} (hb:Lib.Buf w0 wr h N acc) (hl:h<wr.heap.size) (k:Below wr.heap.size wr w'):Lib.Buf w0 w' h N acc where
 below:=hb.below.trans (k.mono (Nat.le_of_lt hl))
 there:=λj hj=>by rw[k.cell (p:=⟨h,j,none⟩) hl];exact hb.there j hj
 free:=λj hj=>by rw[k.frozen (p:=⟨h,j,none⟩) hl];exact hb.free j hj
 holds:=λj y hy=>by rw[k.cell (p:=⟨h,j,none⟩) hl];exact hb.holds j y hy
 fits:=hb.fits
theorem Co (l:List UInt8):strOfNums (l.map λx=>(x.toNat:Int))=mkS l:=by
 apply du
 rw[strOfNums_data]
 simp only[List.map_map]
 exact(List.map_congr_left λx _=>by simp).trans (List.map_id _)
theorem IE {w0 wr:World} {h N:Nat} {acc:List UInt8} (hb:Lib.Buf w0 wr h N acc):Rd wr (some ⟨h,0,none⟩) ((acc.map λx=>(x.toNat:Int)).map (Value.int .u8)):=
 .inr ⟨h,0,rfl,λj u hu=>by
  rw[List.getElem?_map,List.getElem?_map]at hu
  obtain⟨y,hy,rfl⟩:=Option.map_eq_some_iff.1 hu
  obtain⟨x,hx,rfl⟩:=Option.map_eq_some_iff.1 hy
  rw[Nat.zero_add]
  exact hb.holds j x hx⟩
theorem setCells_size (b:Nat):∀(vs:List Value) (o:Nat) (w:World),(w.setCells b o vs).heap.size=w.heap.size
 | [],_,_=>rfl
 | v::r,o,w=>by
  show ((w.setCell ⟨b,o,none⟩ v).setCells b (o+1) r).heap.size=_
  rw[setCells_size b r,World.size_setCell]
theorem wN {B:Nat} {w0 wr wd w5:World} (h1:Below B w0 wr) (h2:Below wr.heap.size wr wd) (h3:Below B w0 w5) (hs:wd.heap.size<=w5.heap.size) (hl:B<=wr.heap.size):Below B wd w5:=by
 have h4:=h1.trans (h2.mono hl)
 exact⟨h3.os.trans h4.os.symm,h3.tape.trans h4.tape.symm,h3.output.trans h4.output.symm,hs,λk hk=>(h3.block k hk).trans (h4.block k hk).symm⟩
theorem Au {w0 wd w5:World} {h N:Nat} {acc l:List UInt8} {v r:Value} (hv:Lib.HoldsBytes w0 v l) (hrun:(Builtin.copy_ #[166,166] 3 #[Lib.tailV h N acc.length,v]).run Tryz.prog wd=.ok r w5) (hl:l.length=2)
  (hb:Lib.Buf w0 wd h N acc) (_hN:acc.length<N) (hfit:acc.length+l.length<=N) (hh:w0.heap.size<=h):wd.heap.size<=w5.heap.size:=by
 obtain⟨p,cap,rfl,hnil,hcells⟩:=hv
 obtain⟨a,rfl⟩:∃a,p=some a:=by
  cases p with
  | none=>have:=hnil rfl;rw[this]at hl;cases hl
  | some a=>exact⟨a,rfl⟩
 have hr:=run_copy_cells (P:=Tryz.prog) wd 166 166 3 5 h acc.length (N-acc.length) (N-acc.length) a l.length cap (l.map λx=>Value.int .u8 (x.toNat:Int)) Tryz.underlying166 (by kernel_rfl) (by rw[List.length_map];exact(Nat.min_eq_left (by omega)).symm)
  (λj u hj=>by
   rw[List.getElem?_map]at hj
   obtain⟨x,hx,rfl⟩:=Option.map_eq_some_iff.1 hj
   exact Lib.Below.cellOf hb.below (hcells a rfl j x hx) hh)
  (λj hj=>by rw[List.length_map]at hj;exact hb.there _ (by omega)) (λj hj=>by rw[List.length_map]at hj;exact hb.free _ (by omega))
  (λu hu'=>by obtain⟨x,_,rfl⟩:=List.mem_map.1 hu';rfl)
 unfold Lib.tailV at hrun
 rw[if_neg (by omega)]at hrun
 rw[hrun]at hr
 injection hr with _ hr
 rw[hr]
 exact Nat.le_of_eq (setCells_size _ _ _ _).symm
theorem GN (k:Nat) (hk:k<4):rpX (rpN k).toNat≠[]:=by
 match k,hk with
 | 0,_=>decide
 | 1,_=>decide
 | 2,_=>decide
 | 3,_=>decide
theorem vI (B b:Nat) (s:ByteArray) (w:World) (h:Bsr B b 4 4 w) (hs:s.size<=1048576) :
  Calls Tryz.prog 425 #[.pointer (some ⟨b,0,none⟩),.string s] w λe w'=>e=.returned (.string (mkS (am s.data.toList)))/\Below w.heap.size w w':=by
 have hz:s.data.toList.length=s.size:=ar s
 obtain⟨v,d1,own⟩:=h.row
 obtain⟨A0,c0,rfl,_,hrow⟩:=own_slice own
 have H:=Lib.hid h
 clear h own
 go_enter Tryz.func425,Tryz.ntmps425
 go_upto_if 26 with fail
 go_cut [5,6,8,9,10,11] from 26 to 80 (λn ch x8 x9 x10 x11 wx=>n=.int .i64 ((am s.data.toList).length:Nat)/\ch=.bool (decide (0<s.data.toList.countP isE))/\Below w.heap.size w wx)
 case first =>
  cases h32:decide ((32:Int)<=(s.size:Int))
  rotate_left
  ·go_wp2
   go_loopw [5,6,8,9,32] (λn ch x8 x9 i wr=>∃k:Nat,k<=4/\i=.int .i64 k/\n=.int .i64 ((s.size+oq s.data.toList k:Nat):Int)/\ch=.bool (decide (0<oq s.data.toList k))/\Below w.heap.size w wr) (λ_ _ _ _ i _=>4-(intOf i).toNat)
   case atStart=>exact⟨0,by omega,rfl,rfl,rfl,Below.refl _ _⟩
   case round =>
    obtain⟨k,hk,rfl,rfl,rfl,hB⟩:=hrel
    by_cases hlt:k<4
    ·obtain⟨g1,o1,rfl,hcx⟩:=(hrow.later hB).at_ (j:=k) (u:=.string ⟨#[rpN k]⟩) (by simp[rpS,hlt])
     have hbn:bn ⟨#[rpN k]⟩ 0=(rpN k).toNat:=rfl
     have hn256:(rpN k).toNat<256:=UInt8.toNat_lt _
     obtain⟨v,hv,hr⟩:=(H.out.step hB).low (j:=(rpN k).toNat) hn256
     rw[mP]at hr
     obtain⟨_,ap,cp,rfl⟩:=iY hr (GN k hlt)
     have hcnt:=λW=>fX s (rpN k) W
     have hck:=rN s.data.toList k
     have hcc:Lib.countByte s.data.toList (rpN k)<=s.data.toList.length:=List.count_le_length
     have hce:oq s.data.toList (k+1)=oq s.data.toList k+Lib.countByte s.data.toList (rpN k):=rfl
     rw[hz]at hck hcc
     have hk4:k*s.size<=4*s.size:=Nat.mul_le_mul_right _ (by omega)
     generalize Lib.countByte s.data.toList (rpN k)=q at *
     generalize (rpN k).toNat=jj at *
     generalize oq s.data.toList k=m at *
     have hm4:=Nat.le_trans hck hk4
     have Hce:=Lib.hid hce
     clear hr hck hce hrow
     by_cases hq:q=0
     ·go_wp2_with (go_at_call 427;refine(hcnt _).mono ?_;rintro e w2 ⟨rfl,rfl⟩)
      go_roundw
      case rel=>exact⟨k+1,by omega,by go_num,by rw[Hce.out];go_num,by rw[Hce.out,hq];rfl,hB⟩
      case measure=>simp[intOf];omega
     ·go_wp2_with (go_at_call 427;refine(hcnt _).mono ?_;rintro e w2 ⟨rfl,rfl⟩)
      go_quiet (fail)
      go_wp2
      exact⟨⟨k+1,by omega,by go_num,by rw[Hce.out];simp;omega,by rw[Hce.out,decide_eq_true (by omega)],below_drewN' hB nq⟩,by simp[intOf];omega⟩
    ·obtain rfl:k=4:=by omega
     rw[DX]at *
     have hl:=kI s.data.toList
     rw[hz]at hl
     go_wp2
     go_meet
     case rel=>exact⟨by rw[hl],rfl,hB⟩
  ·go_wp2
   go_loopw [5,6,10,11] (λn ch i x11 wr=>∃k:Nat,k<=s.size/\i=.int .i64 k/\n=.int .i64 ((s.size+(s.data.toList.take k).countP isE:Nat):Int)/\ch=.bool (decide (0<(s.data.toList.take k).countP isE))/\Below w.heap.size w wr) (λ_ _ i _ _=>s.size-(intOf i).toNat)
   case atStart=>exact⟨0,by omega,rfl,by simp,by simp,Below.refl _ _⟩
   case round =>
    obtain⟨k,hk,rfl,rfl,rfl,hB⟩:=hrel
    by_cases hlt:k<s.size
    ·have hb:=gh s k
     obtain⟨v,hv,hr⟩:=(H.out.step hB).low (j:=bn s k) hb
     rw[mP]at hr
     have hxk:s.data.toList[k]?=some (s.data.toList.getD k 0):=by rw[List.getD_eq_getElem?_getD,List.getElem?_eq_getElem (by rw[hz];exact hlt)];rfl
     have hsn:=Ac s.data.toList k _ hxk
     have hct:(s.data.toList.take k).countP isE<=s.size:=Nat.le_trans List.countP_le_length (by rw[List.length_take,hz];omega)
     have hie:rpX (bn s k)=[]↔isE (s.data.toList.getD k 0)=false:=BC _
     have Hsn:=Lib.hid hsn
     clear hsn hxk
     cases he:isE (s.data.toList.getD k 0)
     ·have h0:=hie.2 he
      unfold RpV at hr
      rw[if_pos h0]at hr
      subst hr
      rw[he,if_neg (by simp)]at Hsn
      clear hie he h0
      go_wp2
      go_roundw
      case rel=>exact⟨k+1,by omega,by go_num,by rw[Hsn.out,Nat.add_zero],by rw[Hsn.out,Nat.add_zero],hB⟩
      case measure=>simp[intOf];omega
     ·obtain⟨_,ap,cp,rfl⟩:=iY hr (λh=>by rw[hie.1 h]at he;cases he)
      rw[he,if_pos rfl]at Hsn
      clear hie he hr
      go_wp2
      go_roundw
      case rel=>exact⟨k+1,by omega,by go_num,by rw[Hsn.out];go_num,by rw[Hsn.out,decide_eq_true (by omega)],hB⟩
      case measure=>simp[intOf];omega
    ·have hl:=kI s.data.toList
     rw[hz]at hl
     have ht:s.data.toList.take k=s.data.toList:=List.take_of_length_le (by rw[hz];omega)
     rw[ht]
     go_wp2
     go_meet
     case rel=>exact⟨by rw[hl],rfl,hB⟩
 case rest =>
  obtain⟨rfl,rfl,hB⟩:=hcut
  cases hd:decide (0<s.data.toList.countP isE)
  ·have h0:s.data.toList.countP isE=0:=by
    have:=of_decide_eq_false hd
    omega
   go_wp2
   go_ret
   exact⟨by show Ending.returned (Value.string s)=_;rw[qo _ h0,lC],hB⟩
  ·have hNl:=nS s.data.toList
   rw[hz]at hNl
   have hmk:=λW=>run_make_row' (P:=Tryz.prog) 166 5 (.int .u8 0) 1 Tryz.underlying166 qE rfl .i64 .i64 (am s.data.toList).length (by omega) (by omega) W
   have hbuf:=Lib.Buf.start wc (madeCells #[Value.int .u8 0] (am s.data.toList).length) 5 (am s.data.toList).length 0 (by rw[size_madeCells];exact Nat.le_refl _)
   have hS:=H.out.step hB
   have hBc:=hB
   have HBc:=Lib.hid hB
   clear hd hB hrow
   go_wp2
   go_loopw [13,14,15] (λj i x15 wr=>∃k:Nat,k<=s.size/\i=.int .i64 k/\j=.int .i64 ((am (s.data.toList.take k)).length:Nat)/\Hid (Lib.Buf wc wr wc.heap.size (am s.data.toList).length (am (s.data.toList.take k)))) (λ_ i _ _=>s.size-(intOf i).toNat)
   case atStart=>exact⟨0,by omega,rfl,rfl,hbuf⟩
   case round =>
    obtain⟨k,hk,rfl,rfl,hI⟩:=hrel
    have hBB:=hI.out.below
    by_cases hlt:k<s.size
    ·have hb:=gh s k
     obtain⟨v,hv0,hr⟩:=hS.low (j:=bn s k) hb
     have hbl:=ag hv0
     have hv:=(hBB.cell (p:=⟨b,bn s k,none⟩) hbl).trans hv0
     rw[mP]at hr
     have hxk:s.data.toList[k]?=some (s.data.toList.getD k 0):=by rw[List.getD_eq_getElem?_getD,List.getElem?_eq_getElem (by rw[hz];exact hlt)];rfl
     have hsn:=zF s.data.toList k _ hxk
     have hfit:(am (s.data.toList.take (k+1))).length<=(am s.data.toList).length:=by
      conv=>rhs;rw[←List.take_append_drop (k+1) s.data.toList,tQ,List.length_append]
      exact Nat.le_add_right _ _
     have hlc:(am (s.data.toList.take (k+1))).length=(am (s.data.toList.take k)).length+(de (s.data.toList.getD k 0)).length:=by rw[hsn,List.length_append]
     have hie:rpX (bn s k)=[]↔isE (s.data.toList.getD k 0)=false:=BC _
     have hlr:=rm (s.data.toList.getD k 0)
     have Hsn:=Lib.hid hsn
     clear hsn hxk
     cases he:isE (s.data.toList.getD k 0)
     ·have h0:=hie.2 he
      unfold RpV at hr
      rw[if_pos h0]at hr
      subst hr
      rw[he,if_neg (by simp)]at hlr
      rw[hlr]at Hsn hlc
      have hjN:(am (s.data.toList.take k)).length<(am s.data.toList).length:=by simp at hlc;omega
      have hnew:=E8 hI.out (s.data.toList.getD k 0) hjN
      rw[←Hsn.out]at hnew
      obtain⟨u,hu⟩:=Option.isSome_iff_exists.1 (hI.out.there _ hjN)
      have hfr:=hI.out.free _ hjN
      have Hnew:=Lib.hid hnew
      have hlc2:(am (s.data.toList.take (k+1))).length=(am (s.data.toList.take k)).length+1:=hlc
      have HL:=Lib.hid hlc2
      clear hie he h0 hlr hlc hlc2 hnew hfit hBB hv0 Hsn
      generalize hjj:(am (s.data.toList.take k)).length=jj at *
      go_wp2
      go_roundw
      case rel=>exact⟨k+1,by omega,by go_num,by rw[HL.out];go_num,Hnew.out⟩
      case measure=>simp[intOf];omega
     ·obtain⟨hH,ap,cp,rfl⟩:=iY hr (λh=>by rw[hie.1 h]at he;cases he)
      have hl2:(rpX (bn s k)).length=2:=(BB).resolve_left λh=>(by rw[hie.1 (List.length_eq_zero_iff.1 h)]at he;cases he)
      rw[he,if_pos rfl]at hlr
      have hlr2:de (s.data.toList.getD k 0)=rpX (bn s k):=hlr
      rw[hlr2]at Hsn hlc
      rw[hl2]at hlc
      have hjN:(am (s.data.toList.take k)).length<(am s.data.toList).length:=by omega
      have hlw:wc.heap.size<wr.heap.size:=by
       obtain⟨u,hu⟩:=Option.isSome_iff_exists.1 (hI.out.there _ hjN)
       exact ag hu
      have HI:=Lib.hid hI.out
      have HL:=Lib.hid hlc
      have Hfit:=Lib.hid hfit
      have HH:=Lib.hid hH
      have Hl2:=Lib.hid hl2
      clear hie he hlr hlr2 hlc hfit hv0 hr hH hI hl2
      go_wp2
      refine Rf.p0 wc.heap.size _ (.quiet [0,1,2,3,4,5,6,7,8,9] (.one 10 (.quiet [11,12] (.done)))) ?_ (λa w h=>h)
      intro wd hbd hwz
      have hvd:=eK (ac hv hbd) hbl
      have hsl:=λW=>Lib.run_slice_tailV (P:=Tryz.prog) W 166 5 Tryz.underlying166 J4 wc.heap.size (am s.data.toList).length (am (s.data.toList.take k)).length (Nat.le_of_lt hjN)
      obtain⟨w5,hrun,hnew⟩:=Lib.copy_part (P:=Tryz.prog) wc wd wc.heap.size (am s.data.toList).length (am (s.data.toList.take k)) (rpX (bn s k)) _ 166 3 5 Tryz.underlying166 (by kernel_rfl) (Nat.le_refl _) (qF HI.out hlw hbd) HH.out (by rw[Hl2.out];have:=HL.out;have:=Hfit.out;omega)
      have hsz:wd.heap.size<=w5.heap.size:=Au HH.out hrun (by rw[Hl2.out]) (qF HI.out hlw hbd) hjN (by rw[Hl2.out];have:=HL.out;have:=Hfit.out;omega) (Nat.le_refl _)
      have HB5:Hid (Below wc.heap.size wd w5):=wN HI.out.below hbd hnew.below hsz (Nat.le_of_lt hlw)
      rw[Hl2.out]at hrun
      rw[←Hsn.out]at hnew
      have Hnew:=Lib.hid hnew
      have Hbd:=Lib.hid hbd
      clear hbd hnew hv hwz hmk hbuf
      generalize Lib.tailV wc.heap.size (am s.data.toList).length (am (s.data.toList.take k)).length=tv at *
      refine Rf.pl_quiet ?_
      iterate 10 go_big_quiet_step (fail)
      refine wpQuiet_nil (Rf.pl_one ?_)
      go_wp2_with (at_builtin;refine Lib.wpList_copy_run _ rfl _ _ 166 166 rfl _ _ rfl rfl hrun ?_)
      refine⟨HB5.out,Rf.pl_quiet ?_⟩
      iterate 2 go_big_quiet_step (fail)
      refine wpQuiet_nil (Rf.pl_done ?_)
      go_wp2
      go_roundw
      case rel=>exact⟨k+1,by omega,by go_num,by rw[HL.out];go_num,Hnew.out⟩
      case measure=>simp[intOf];omega
    ·have ht:s.data.toList.take k=s.data.toList:=List.take_of_length_le (by rw[hz];omega)
     rw[ht]at hI ⊢
     have hrd:=IE hI.out
     have hcs:=aT (P:=Tryz.prog) (n:=(am s.data.toList).length) (c:=(am s.data.toList).length) 166 9 5 Tryz.underlying166 Tryz.underlying5 Tryz.underlying9 hrd (by rw[List.length_map])
     rw[Co]at hcs
     clear hrd hbuf hmk ht hI
     go_wp2
     go_ret
     exact⟨rfl,HBc.out.trans (hBB.mono HBc.out.size)⟩
theorem Bsr.other {B b k m:Nat} {w:World} (h:Bsr B b k m w) {g:Nat} {cs':Array Value} {T:TypeId} {fz:Nat × Nat} (hg:w.heap[g]?=some (Obj.cells cs' T fz)) (h1:T≠386) (h2:T≠5) (h3:T≠9) (i:Nat) (u:Value) :
  Bsr B b k m (w.setCell ⟨g,i,none⟩ u):=by
 obtain⟨hge,cs,q1,q2,q3,v,q4,q5⟩:=h
 have keep:∀{g':Nat} {cur:Array Value} {T':TypeId} {fz':Nat × Nat},w.heap[g']?=some (.cells cur T' fz')->T'≠T->(w.setCell ⟨g,i,none⟩ u).heap[g']?=some (.cells cur T' fz'):=λ{g'} _ _ _ hh hT=>by
  rw[Below.heap_setCell _ _ _ _ (show g'≠g from λe=>?_)]
  ·exact hh
  ·subst e;rw[hg]at hh;injection hh with hh;injection hh with _ hh;exact hT hh.symm
 refine⟨hge,cs,keep q1 (Ne.symm h1),q2,λj hj=>?_,v,q4,q5.1,q5.2.imp id ?_⟩
 ·obtain⟨x,hx,hr⟩:=q3 j hj
  exact⟨x,hx,hr.keep λg' cur fz' hh=>keep hh (Ne.symm h2)⟩
 ·rintro⟨g',cap,cur,rfl,hB,hh,r⟩
  exact⟨g',cap,cur,rfl,hB,keep hh (Ne.symm h3),r⟩
def JG (B b:Nat) (w W:World):Prop:=∃b2,W.heap[b]?=some (Obj.cells #[.int .u32 0,.int .i32 1,.int .u32 0,.iface 387 (.pointer (some ⟨b2,0,none⟩)),.slice none 0 0] 314 (0,0))/\Bsr B b2 4 4 W/\Below B w W
theorem AG (B b:Nat) (v:Value) (w:World) (hB:B<=b) (hb:w.heap[b]?=some (Obj.cells #[.int .u32 0,.int .i32 1,.int .u32 0,.nilIface,v] 314 (0,0))) (own:w.ownsRow B 9 1 v 8 (rF.map Value.string)) :
  Calls Tryz.prog 271 #[.pointer (some ⟨b,0,none⟩)] w λe w'=>e=.returned (.tuple #[])/\JG B b w w':=by
 have hBw:B<=w.heap.size:=Nat.le_trans hB (Nat.le_of_lt (Array.getElem?_eq_some_iff.1 hb).1)
 obtain⟨g,c,rfl,hA⟩:∃g c,v=.slice (some ⟨g,0,none⟩) 8 c/\∀j x,rF[j]?=some x->w.cell? ⟨g,j,none⟩=some (.string x):=by
  obtain⟨A,c,rfl,_,hr⟩:=own_slice own
  rcases own.2 with ⟨h,_⟩|⟨g,cap,cur,h,_⟩
  ·injection h with _ h;cases h
  ·injection h with h1 _ _
   subst h1
   refine⟨g,c,rfl,λj x hx=>?_⟩
   obtain⟨g',o',he,hcx⟩:=hr.at_ (j:=j) (u:=.string x) (by rw[List.getElem?_map,hx];rfl)
   injection he with he;injection he with he1 he2 _
   subst he1;subst he2
   rw[Nat.zero_add]at hcx
   exact hcx
 have h4:w.cell? ⟨b,4,none⟩=some (.slice (some ⟨g,0,none⟩) 8 c):=by rw[Lib.cell_of_heap hb];rfl
 have hbd:=BN b g c w h4 hA
 have Hb:=Lib.hid hb
 clear own hA hb
 go_enter Tryz.func271,Tryz.ntmps271
 go_wp2_with (go_at_call 315;refine hbd.mono ?_)
 rintro e w2 ⟨b2,rfl,hb2,hS⟩
 have hh:=(hb2.block _ (Array.getElem?_eq_some_iff.1 Hb.out).1).trans Hb.out
 have d3:w2.cell? ⟨b,3,none⟩=some .nilIface:=by rw[Lib.cell_of_heap hh];rfl
 have d4:w2.cell? ⟨b,4,none⟩=some (.slice (some ⟨g,0,none⟩) 8 c):=by rw[Lib.cell_of_heap hh];rfl
 have f3:=Lib.frozen_of_heap hh 3
 have f4:=Lib.frozen_of_heap hh 4
 have hS3:=hS.other hh (by decide) (by decide) (by decide) 3 (.iface 387 (.pointer (some ⟨b2,0,none⟩)))
 have hh3:(w2.setCell ⟨b,3,none⟩ (.iface 387 (.pointer (some ⟨b2,0,none⟩)))).heap[b]?=some (Obj.cells #[.int .u32 0,.int .i32 1,.int .u32 0,.iface 387 (.pointer (some ⟨b2,0,none⟩)),.slice (some ⟨g,0,none⟩) 8 c] 314 (0,0)):=by
  simp[World.setCell,Array.getElem?_modify,hh]
 have hS4:=hS3.other hh3 (by decide) (by decide) (by decide) 4 (.slice none 0 0)
 have hh4:((w2.setCell ⟨b,3,none⟩ (.iface 387 (.pointer (some ⟨b2,0,none⟩)))).setCell ⟨b,4,none⟩ (.slice none 0 0)).heap[b]?=some (Obj.cells #[.int .u32 0,.int .i32 1,.int .u32 0,.iface 387 (.pointer (some ⟨b2,0,none⟩)),.slice none 0 0] 314 (0,0)):=by
  simp[World.setCell,Array.getElem?_modify,hh]
 have HS:=Lib.hid hS4
 have HH:=Lib.hid hh4
 have HB:=Lib.hid (((hb2.mono hBw).setCell (p:=⟨b,3,none⟩) hB (.iface 387 (.pointer (some ⟨b2,0,none⟩)))).setCell (p:=⟨b,4,none⟩) hB (.slice none 0 0))
 clear hS hS3 hS4 hh hh3 hh4 hb2
 go_wp2
 go_end0
 refine⟨rfl,b2,HH.out,?_,HB.out⟩
 obtain⟨q1,q2⟩:=HS.out
 obtain⟨cs,r1,r2,r3,u,r4,r5⟩:=q2
 exact⟨Nat.le_trans hBw q1,cs,r1,r2,r3,u,r4,pY r5 hBw⟩
theorem dU (B b:Nat) (s:ByteArray) (w:World) (h:Ei B b w) (hs:s.size<=1048576) :
  Calls Tryz.prog 227 #[.pointer (some ⟨b,0,none⟩),.string s] w λe w'=>e=.returned (.string (mkS (am s.data.toList)))/\Below B w w':=by
 obtain⟨hB,v,hb,own⟩:=h
 have hBw:B<=w.heap.size:=Nat.le_trans hB (Nat.le_of_lt (Array.getElem?_eq_some_iff.1 hb).1)
 have hne:=bz own hb (by decide)
 have h0:w.cell? ⟨b,0,none⟩=some (.int .u32 0):=by rw[Lib.cell_of_heap hb];rfl
 have h1:w.cell? ⟨b,0+1,none⟩=some (.int .i32 0):=by rw[Lib.cell_of_heap hb];rfl
 have hb1:(w.setCell ⟨b,0+1,none⟩ (.int .i32 1)).heap[b]?=some (Obj.cells #[.int .u32 0,.int .i32 1,.int .u32 0,.nilIface,v] 314 (0,0)):=by
  simp[World.setCell,Array.getElem?_modify,hb]
 have own1:(w.setCell ⟨b,0+1,none⟩ (.int .i32 1)).ownsRow B 9 1 v 8 (rF.map Value.string):=by
  refine⟨own.1,own.2.imp id ?_⟩
  rintro⟨g,cap,cur,rfl,hBg,hh,r⟩
  refine⟨g,cap,cur,rfl,hBg,?_,r⟩
  rw[Below.heap_setCell _ _ _ _ (show g≠b from λe=>hne (by simp[Value.ownBlock,e]))]
  exact hh
 have hf:=AG B b v _ hB hb1 own1
 have efn:∀args W,(callFunc 271 args).run Tryz.prog W=.ok (.enter 271 args) W:=enters_of Tryz.func271 (by kernel_rfl) rfl
 have hdo:=JY b 0 271 (.pointer (some ⟨b,0,none⟩)) w efn h0 h1 (Lib.frozen_of_heap hb 0) (Lib.frozen_of_heap hb 1)
  (Q:=λW=>JG B b (w.setCell ⟨b,0+1,none⟩ (.int .i32 1)) W)
  (λW hW=>by
   obtain⟨b2,hh,_⟩:=hW
   exact⟨by rw[Lib.cell_of_heap hh];rfl,by rw[Lib.cell_of_heap hh];rfl,Lib.frozen_of_heap hh 0,Lib.frozen_of_heap hh 1⟩) hf
 have HB0:=Lib.hid ((Below.refl B w).setCell (p:=⟨b,0+1,none⟩) hB (.int .i32 1))
 clear hf own own1 hb hb1 h0 h1 hne
 go_enter Tryz.func227,Tryz.ntmps227
 go_wp2_with (go_at_call 270;refine hdo.mono ?_)
 rintro e w2 ⟨rfl,W2,⟨b2,hh,hS,hb2⟩,rfl⟩
 have hS3:=(hS.step (Below.refl _ W2).drew).other (w:=W2.drew) (g:=b) hh (by decide) (by decide) (by decide) 0 (.int .u32 1)
 have hh3:(W2.drew.setCell ⟨b,0,none⟩ (.int .u32 1)).heap[b]?=some (Obj.cells #[.int .u32 1,.int .i32 1,.int .u32 0,.iface 387 (.pointer (some ⟨b2,0,none⟩)),.slice none 0 0] 314 (0,0)):=by
  have hh':W2.drew.heap[b]?=_:=hh
  simp[World.setCell,Array.getElem?_modify,hh']
 have hS4:=hS3.other hh3 (by decide) (by decide) (by decide) 1 (.int .i32 0)
 have hh4:(gE b 0 W2).heap[b]?=some (Obj.cells #[.int .u32 1,.int .i32 0,.int .u32 0,.iface 387 (.pointer (some ⟨b2,0,none⟩)),.slice none 0 0] 314 (0,0)):=by
  have hh':W2.drew.heap[b]?=_:=hh
  unfold gE
  simp[World.setCell,Array.getElem?_modify,hh']
 have hb4:Below B w (gE b 0 W2):=((((HB0.out.trans hb2).drew).setCell (p:=⟨b,0,none⟩) hB _).setCell (p:=⟨b,0+1,none⟩) hB _)
 have hS5:Bsr B b2 4 4 (gE b 0 W2):=hS4
 have hrr:=vI B b2 s _ hS5 hs
 have d3:(gE b 0 W2).cell? ⟨b,3,none⟩=some (.iface 387 (.pointer (some ⟨b2,0,none⟩))):=by rw[Lib.cell_of_heap hh4];rfl
 have HB4:=Lib.hid hb4
 clear hS hS3 hS4 hS5 hh3 hh4 hh hb2 hb4 hdo
 generalize gE b 0 W2=W5 at *
 go_wp2_with (go_at_call 425;refine hrr.mono ?_;rintro e w6 ⟨rfl,hb6⟩)
 go_ret
 exact⟨rfl,HB4.out.trans (hb6.mono (Nat.le_trans hBw HB4.out.size))⟩
end Go.Proofs.YtfcbghmbbjolcaaGreatDoor
