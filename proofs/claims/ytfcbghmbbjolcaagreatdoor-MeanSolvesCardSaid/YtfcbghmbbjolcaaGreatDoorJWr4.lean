/- term.text of a right term. Printed by gen/wr4.py. -/
import Derived.Test.YtfcbghmbbjolcaaGreatDoorJRep4
set_option maxHeartbeats 1000000
set_option maxRecDepth 100000
namespace Go.Proofs.YtfcbghmbbjolcaaGreatDoor
open Go Go.RowKit Um Fm Tx
theorem bJ (B b g:Nat) (acc r:List UInt8) (l:List ByteArray) (hr:(l.flatMap λs=>s.data.toList)=r) (w:World) (h:WI B b acc w) (hA:w.heap[g]?=some (.cells (l.map Value.string).toArray 9 (0,0))) (hg:g≠b)
  (hl:l.length<=4) (hlen:acc.length<=40000000) (hz:∀s∈l,s.size<=5000000) (hBw:B<=w.heap.size) (n:Nat) (hn:l.length=n) :
  Calls Tryz.prog 224 #[.pointer (some ⟨b,0,none⟩),.slice (some ⟨g,0,none⟩) n n] w λe w' =>
   e=.returned (.pointer (some ⟨b,0,none⟩))/\WI B b (acc++r) w'/\Below B w w'/\OK8 b w w':=by
 subst hr hn
 exact wX B b g acc l _ w h hA hg hl (by omega) (λs hs=>Nat.le_trans (hz s hs) (by omega)) hBw
theorem ii {s:ByteArray} (h:s.size<=1048576):(aU s.data.toList).length<=6300000:=by
 have:=ub s.data.toList
 rw[ar]at this;omega
theorem fG {s:ByteArray} (h:s.size<=1048576):(am s.data.toList).length<=2100000:=by
 have:=nS s.data.toList
 rw[ar]at this;omega
theorem nR {s:ByteArray} (h:s.size<=1048576):(mkS (am s.data.toList)).size<=5000000:=by
 have:=fG h
 show (am s.data.toList).toArray.size<=_
 rw[List.size_toArray];omega
theorem dK {b:Nat} {w w':World} (h:OK8 b w w') {g:Nat} {cs:Array Value} (hg:w.heap[g]?=some (Obj.cells cs 9 (0,0))) (hb:g≠b):w'.heap[g]?=some (Obj.cells cs 9 (0,0)):=
 h g _ hg (λe=>hb (Option.some.inj e)) (by intro c fz e;cases e)
theorem cB {w w':World} (h:Below w.heap.size w w') {g:Nat} {x:Obj} (hg:w.heap[g]?=some x):w'.heap[g]?=some x:=by
 rw[h.block g (Array.getElem?_eq_some_iff.1 hg).1];exact hg
theorem Ez (x:ByteArray) (w:World) (hC:cD w) (hx:x.size<=1048576) (hv:aG x=true) :
  Calls Tryz.prog 165 #[.agg #[.int .i64 1,.string x,.string ⟨#[]⟩,.string ⟨#[]⟩]] w λe w'=>e=.returned (.string (mkS (60::(aU x.data.toList++[62]))))/\Below w.heap.size w w':=by
 have hbt:=heap_alloc_new w (.cells #[.int .i64 1,.string x,.string ⟨#[]⟩,.string ⟨#[]⟩] 62)
 have hb0:Below w.heap.size w (w.alloc (.cells #[.int .i64 1,.string x,.string ⟨#[]⟩,.string ⟨#[]⟩] 62)):=(Below.refl _ w).alloc (Nat.le_refl _) _
 have hC0:=hC.step hb0
 have hz0:(w.alloc (.cells #[.int .i64 1,.string x,.string ⟨#[]⟩,.string ⟨#[]⟩] 62)).heap.size=w.heap.size+1:=by simp
 go_enter Tryz.func165,Tryz.ntmps165
 go_upto_region 5 with fail
 generalize w.alloc (.cells #[.int .i64 1,.string x,.string ⟨#[]⟩,.string ⟨#[]⟩] 62)=w0 at *
 rw[←hz0]
 obtain⟨W0,hW0⟩:∃W0,W0=w0.alloc (.cells #[.pointer none,.slice none 0 0] 266):=⟨_,rfl⟩
 have hI0:WI w0.heap.size w0.heap.size [] W0:=by rw[hW0];exact .inl (WAt.new w0 266 [])
 have hF0:Below w0.heap.size w0 W0:=by rw[hW0];exact(Below.refl _ w0).alloc (Nat.le_refl _) _
 rw[←hW0]
 have hlt0:w.heap.size<w0.heap.size:=by omega
 have c0:w0.cell? ⟨w.heap.size,0,none⟩=some (.int .i64 1):=by rw[Lib.cell_of_heap hbt];rfl
 have c1:w0.cell? ⟨w.heap.size,1,none⟩=some (.string x):=by rw[Lib.cell_of_heap hbt];rfl
 have c2:w0.cell? ⟨w.heap.size,2,none⟩=some (.string ⟨#[]⟩):=by rw[Lib.cell_of_heap hbt];rfl
 have c3:w0.cell? ⟨w.heap.size,3,none⟩=some (.string ⟨#[]⟩):=by rw[Lib.cell_of_heap hbt];rfl
 have HZ:=Lib.hid hz0
 clear hbt hW0 hz0
 have hxl:=ii hx
 refine Rf.p0 w0.heap.size _ (.quiet [0,3,4] (.fork 1 6 (.fork 2 6 (.fork 5 6 (.one 6 (.one 7 (.done))) (.one 5 (.one 7 (.done)))) (.one 2 (.one 5 (.one 7 (.done))))) (.one 1 (.one 2 (.one 5 (.one 7 (.done))))))) ?_ (λa w h=>h)
 intro wd hbd hwz
 have HI0:=Lib.hid (WIs.step hI0 hbd)
 have hFd:=hF0.trans (hbd.mono hF0.size)
 have d1:=eK (ac c1 hFd) hlt0
 clear hI0 hbd hwz
 refine Rf.pl_quiet ?_
 iterate 3 go_big_quiet_step (fail)
 refine wpQuiet_nil (Rf.pl_fork ?_ ?_)
 ·
  go_wp2_with fail
  have al1:Below wd.heap.size wd (wd.alloc (.cells #[.string ⟨#[60]⟩] 9)):=(Below.refl _ _).alloc (Nat.le_refl _) _
  have hg1:=heap_alloc_new wd (.cells #[.string ⟨#[60]⟩] 9)
  have hn1:wd.heap.size≠w0.heap.size:=by have:=WIs.lt HI0.out;omega
  have HH1:=Lib.hid (WIs.step HI0.out al1)
  have F1:=hFd.trans (al1.mono hFd.size)
  generalize wd.alloc (.cells #[.string ⟨#[60]⟩] 9)=V1 at *
  refine⟨al1.mono hFd.size,Rf.pl_fork ?_ ?_⟩
  ·
   have hp2:=bJ w0.heap.size w0.heap.size wd.heap.size ([]) [60] [⟨#[60]⟩] rfl V1 HH1.out hg1 hn1 (by simp) (by simp only[List.length_nil];omega) (by intro s hs;simp at hs;subst hs;decide) F1.size 1 rfl
   go_wp2_with (go_at_call 224;with_reducible refine hp2.mono ?_;rintro e V2 ⟨rfl,k2,q2,o2⟩)
   have HH2:=Lib.hid k2
   have F2:=F1.trans q2
   clear hp2 k2
   refine⟨q2,Rf.pl_fork ?_ ?_⟩
   ·
    have hp3:=sB w0 hC0 w0.heap.size ([]++[60]) x V2 F2 HH2.out hv hx (by simp only[List.length_append,List.length_cons,List.length_nil];omega)
    go_wp2_with (go_at_call 225;with_reducible refine hp3.mono ?_;rintro e V3 ⟨rfl,k3,q3,o3⟩)
    have HH3:=Lib.hid k3
    have F3:=F2.trans q3
    clear hp3 k3
    refine⟨q3,Rf.pl_one ?_⟩
    go_wp2_with fail
    have al4:Below V3.heap.size V3 (V3.alloc (.cells #[.string ⟨#[62]⟩] 9)):=(Below.refl _ _).alloc (Nat.le_refl _) _
    have hg4:=heap_alloc_new V3 (.cells #[.string ⟨#[62]⟩] 9)
    have hn4:V3.heap.size≠w0.heap.size:=by have:=WIs.lt HH3.out;omega
    have HH4:=Lib.hid (WIs.step HH3.out al4)
    have F4:=F3.trans (al4.mono F3.size)
    generalize V3.alloc (.cells #[.string ⟨#[62]⟩] 9)=V4 at *
    refine⟨al4.mono F3.size,Rf.pl_one ?_⟩
    have hp5:=bJ w0.heap.size w0.heap.size V3.heap.size ([]++[60]++aU x.data.toList) [62] [⟨#[62]⟩] rfl V4 HH4.out hg4 hn4 (by simp) (by simp only[List.length_append,List.length_cons,List.length_nil];omega) (by intro s hs;simp at hs;subst hs;decide) F4.size 1 rfl
    go_wp2_with (go_at_call 224;with_reducible refine hp5.mono ?_;rintro e V5 ⟨rfl,k5,q5,o5⟩)
    have HH5:=Lib.hid k5
    have F5:=F4.trans q5
    clear hp5 k5
    refine⟨q5,Rf.pl_done ?_⟩
    have e0:=ac c0 (F5.mono (Nat.le_refl _))
    have e2:=ac c2 F5
    have hstr:=mx w0.heap.size w0.heap.size ([]++[60]++aU x.data.toList++[62]) V5 HH5.out (by simp)
    have HF:=Lib.hid (hb0.trans (F5.mono (Nat.le_of_lt hlt0)))
    have hsz:=F5.size
    go_wp2_with (go_at_call 228;with_reducible refine hstr.mono ?_;rintro e w9 ⟨rfl,_,b9⟩)
    go_ret
    exact⟨by simp[mkS],HF.out.trans (b9.mono (Nat.le_of_lt hlt0))⟩
   ·
    go_wp2_with fail
    have al6:Below V2.heap.size V2 (V2.alloc (.cells #[.string ⟨#[62]⟩] 9)):=(Below.refl _ _).alloc (Nat.le_refl _) _
    have hg6:=heap_alloc_new V2 (.cells #[.string ⟨#[62]⟩] 9)
    have hn6:V2.heap.size≠w0.heap.size:=by have:=WIs.lt HH2.out;omega
    have HH6:=Lib.hid (WIs.step HH2.out al6)
    have F6:=F2.trans (al6.mono F2.size)
    generalize V2.alloc (.cells #[.string ⟨#[62]⟩] 9)=V6 at *
    refine⟨al6.mono F2.size,Rf.pl_one ?_⟩
    have hp7:=sB w0 hC0 w0.heap.size ([]++[60]) x V6 F6 HH6.out hv hx (by simp only[List.length_append,List.length_cons,List.length_nil];omega)
    go_wp2_with (go_at_call 225;with_reducible refine hp7.mono ?_;rintro e V7 ⟨rfl,k7,q7,o7⟩)
    have HH7:=Lib.hid k7
    have F7:=F6.trans q7
    clear hp7 k7
    have hk7_6:=dK o7 hg6 hn6
    refine⟨q7,Rf.pl_one ?_⟩
    have hp8:=bJ w0.heap.size w0.heap.size V2.heap.size ([]++[60]++aU x.data.toList) [62] [⟨#[62]⟩] rfl V7 HH7.out hk7_6 hn6 (by simp) (by simp only[List.length_append,List.length_cons,List.length_nil];omega) (by intro s hs;simp at hs;subst hs;decide) F7.size 1 rfl
    go_wp2_with (go_at_call 224;with_reducible refine hp8.mono ?_;rintro e V8 ⟨rfl,k8,q8,o8⟩)
    have HH8:=Lib.hid k8
    have F8:=F7.trans q8
    clear hp8 k8
    refine⟨q8,Rf.pl_done ?_⟩
    have e0:=ac c0 (F8.mono (Nat.le_refl _))
    have e2:=ac c2 F8
    have hstr:=mx w0.heap.size w0.heap.size ([]++[60]++aU x.data.toList++[62]) V8 HH8.out (by simp)
    have HF:=Lib.hid (hb0.trans (F8.mono (Nat.le_of_lt hlt0)))
    have hsz:=F8.size
    go_wp2_with (go_at_call 228;with_reducible refine hstr.mono ?_;rintro e w9 ⟨rfl,_,b9⟩)
    go_ret
    exact⟨by simp[mkS],HF.out.trans (b9.mono (Nat.le_of_lt hlt0))⟩
  ·
   go_wp2_with fail
   have al9:Below V1.heap.size V1 (V1.alloc (.cells #[.string ⟨#[62]⟩] 9)):=(Below.refl _ _).alloc (Nat.le_refl _) _
   have hg9:=heap_alloc_new V1 (.cells #[.string ⟨#[62]⟩] 9)
   have hn9:V1.heap.size≠w0.heap.size:=by have:=WIs.lt HH1.out;omega
   have HH9:=Lib.hid (WIs.step HH1.out al9)
   have F9:=F1.trans (al9.mono F1.size)
   have hk9_1:=cB al9 hg1
   generalize V1.alloc (.cells #[.string ⟨#[62]⟩] 9)=V9 at *
   refine⟨al9.mono F1.size,Rf.pl_one ?_⟩
   have hp10:=bJ w0.heap.size w0.heap.size wd.heap.size ([]) [60] [⟨#[60]⟩] rfl V9 HH9.out hk9_1 hn1 (by simp) (by simp only[List.length_nil];omega) (by intro s hs;simp at hs;subst hs;decide) F9.size 1 rfl
   go_wp2_with (go_at_call 224;with_reducible refine hp10.mono ?_;rintro e V10 ⟨rfl,k10,q10,o10⟩)
   have HH10:=Lib.hid k10
   have F10:=F9.trans q10
   clear hp10 k10
   have hk10_6:=dK o10 hg9 hn9
   refine⟨q10,Rf.pl_one ?_⟩
   have hp11:=sB w0 hC0 w0.heap.size ([]++[60]) x V10 F10 HH10.out hv hx (by simp only[List.length_append,List.length_cons,List.length_nil];omega)
   go_wp2_with (go_at_call 225;with_reducible refine hp11.mono ?_;rintro e V11 ⟨rfl,k11,q11,o11⟩)
   have HH11:=Lib.hid k11
   have F11:=F10.trans q11
   clear hp11 k11
   have hk11_6:=dK o11 hk10_6 hn9
   refine⟨q11,Rf.pl_one ?_⟩
   have hp12:=bJ w0.heap.size w0.heap.size V1.heap.size ([]++[60]++aU x.data.toList) [62] [⟨#[62]⟩] rfl V11 HH11.out hk11_6 hn9 (by simp) (by simp only[List.length_append,List.length_cons,List.length_nil];omega) (by intro s hs;simp at hs;subst hs;decide) F11.size 1 rfl
   go_wp2_with (go_at_call 224;with_reducible refine hp12.mono ?_;rintro e V12 ⟨rfl,k12,q12,o12⟩)
   have HH12:=Lib.hid k12
   have F12:=F11.trans q12
   clear hp12 k12
   refine⟨q12,Rf.pl_done ?_⟩
   have e0:=ac c0 (F12.mono (Nat.le_refl _))
   have e2:=ac c2 F12
   have hstr:=mx w0.heap.size w0.heap.size ([]++[60]++aU x.data.toList++[62]) V12 HH12.out (by simp)
   have HF:=Lib.hid (hb0.trans (F12.mono (Nat.le_of_lt hlt0)))
   have hsz:=F12.size
   go_wp2_with (go_at_call 228;with_reducible refine hstr.mono ?_;rintro e w9 ⟨rfl,_,b9⟩)
   go_ret
   exact⟨by simp[mkS],HF.out.trans (b9.mono (Nat.le_of_lt hlt0))⟩
 ·
  go_wp2_with fail
  have al13:Below wd.heap.size wd (wd.alloc (.cells #[.string ⟨#[62]⟩] 9)):=(Below.refl _ _).alloc (Nat.le_refl _) _
  have hg13:=heap_alloc_new wd (.cells #[.string ⟨#[62]⟩] 9)
  have hn13:wd.heap.size≠w0.heap.size:=by have:=WIs.lt HI0.out;omega
  have HH13:=Lib.hid (WIs.step HI0.out al13)
  have F13:=hFd.trans (al13.mono hFd.size)
  generalize wd.alloc (.cells #[.string ⟨#[62]⟩] 9)=V13 at *
  refine⟨al13.mono hFd.size,Rf.pl_one ?_⟩
  go_wp2_with fail
  have al14:Below V13.heap.size V13 (V13.alloc (.cells #[.string ⟨#[60]⟩] 9)):=(Below.refl _ _).alloc (Nat.le_refl _) _
  have hg14:=heap_alloc_new V13 (.cells #[.string ⟨#[60]⟩] 9)
  have hn14:V13.heap.size≠w0.heap.size:=by have:=WIs.lt HH13.out;omega
  have HH14:=Lib.hid (WIs.step HH13.out al14)
  have F14:=F13.trans (al14.mono F13.size)
  have hk14_6:=cB al14 hg13
  generalize V13.alloc (.cells #[.string ⟨#[60]⟩] 9)=V14 at *
  refine⟨al14.mono F13.size,Rf.pl_one ?_⟩
  have hp15:=bJ w0.heap.size w0.heap.size V13.heap.size ([]) [60] [⟨#[60]⟩] rfl V14 HH14.out hg14 hn14 (by simp) (by simp only[List.length_nil];omega) (by intro s hs;simp at hs;subst hs;decide) F14.size 1 rfl
  go_wp2_with (go_at_call 224;with_reducible refine hp15.mono ?_;rintro e V15 ⟨rfl,k15,q15,o15⟩)
  have HH15:=Lib.hid k15
  have F15:=F14.trans q15
  clear hp15 k15
  have hk15_6:=dK o15 hk14_6 hn13
  refine⟨q15,Rf.pl_one ?_⟩
  have hp16:=sB w0 hC0 w0.heap.size ([]++[60]) x V15 F15 HH15.out hv hx (by simp only[List.length_append,List.length_cons,List.length_nil];omega)
  go_wp2_with (go_at_call 225;with_reducible refine hp16.mono ?_;rintro e V16 ⟨rfl,k16,q16,o16⟩)
  have HH16:=Lib.hid k16
  have F16:=F15.trans q16
  clear hp16 k16
  have hk16_6:=dK o16 hk15_6 hn13
  refine⟨q16,Rf.pl_one ?_⟩
  have hp17:=bJ w0.heap.size w0.heap.size wd.heap.size ([]++[60]++aU x.data.toList) [62] [⟨#[62]⟩] rfl V16 HH16.out hk16_6 hn13 (by simp) (by simp only[List.length_append,List.length_cons,List.length_nil];omega) (by intro s hs;simp at hs;subst hs;decide) F16.size 1 rfl
  go_wp2_with (go_at_call 224;with_reducible refine hp17.mono ?_;rintro e V17 ⟨rfl,k17,q17,o17⟩)
  have HH17:=Lib.hid k17
  have F17:=F16.trans q17
  clear hp17 k17
  refine⟨q17,Rf.pl_done ?_⟩
  have e0:=ac c0 (F17.mono (Nat.le_refl _))
  have e2:=ac c2 F17
  have hstr:=mx w0.heap.size w0.heap.size ([]++[60]++aU x.data.toList++[62]) V17 HH17.out (by simp)
  have HF:=Lib.hid (hb0.trans (F17.mono (Nat.le_of_lt hlt0)))
  have hsz:=F17.size
  go_wp2_with (go_at_call 228;with_reducible refine hstr.mono ?_;rintro e w9 ⟨rfl,_,b9⟩)
  go_ret
  exact⟨by simp[mkS],HF.out.trans (b9.mono (Nat.le_of_lt hlt0))⟩
theorem yF (x:ByteArray) (w:World) (hC:cD w) (hx:x.size<=1048576) :
  Calls Tryz.prog 165 #[.agg #[.int .i64 2,.string x,.string ⟨#[]⟩,.string ⟨#[]⟩]] w λe w'=>e=.returned (.string (mkS (95::58::x.data.toList)))/\Below w.heap.size w w':=by
 have hbt:=heap_alloc_new w (.cells #[.int .i64 2,.string x,.string ⟨#[]⟩,.string ⟨#[]⟩] 62)
 have hb0:Below w.heap.size w (w.alloc (.cells #[.int .i64 2,.string x,.string ⟨#[]⟩,.string ⟨#[]⟩] 62)):=(Below.refl _ w).alloc (Nat.le_refl _) _
 have hC0:=hC.step hb0
 have hz0:(w.alloc (.cells #[.int .i64 2,.string x,.string ⟨#[]⟩,.string ⟨#[]⟩] 62)).heap.size=w.heap.size+1:=by simp
 go_enter Tryz.func165,Tryz.ntmps165
 go_upto_region 7 with fail
 generalize w.alloc (.cells #[.int .i64 2,.string x,.string ⟨#[]⟩,.string ⟨#[]⟩] 62)=w0 at *
 rw[←hz0]
 obtain⟨W0,hW0⟩:∃W0,W0=w0.alloc (.cells #[.pointer none,.slice none 0 0] 266):=⟨_,rfl⟩
 have hI0:WI w0.heap.size w0.heap.size [] W0:=by rw[hW0];exact .inl (WAt.new w0 266 [])
 have hF0:Below w0.heap.size w0 W0:=by rw[hW0];exact(Below.refl _ w0).alloc (Nat.le_refl _) _
 rw[←hW0]
 have hlt0:w.heap.size<w0.heap.size:=by omega
 have c0:w0.cell? ⟨w.heap.size,0,none⟩=some (.int .i64 2):=by rw[Lib.cell_of_heap hbt];rfl
 have c1:w0.cell? ⟨w.heap.size,1,none⟩=some (.string x):=by rw[Lib.cell_of_heap hbt];rfl
 have c2:w0.cell? ⟨w.heap.size,2,none⟩=some (.string ⟨#[]⟩):=by rw[Lib.cell_of_heap hbt];rfl
 have c3:w0.cell? ⟨w.heap.size,3,none⟩=some (.string ⟨#[]⟩):=by rw[Lib.cell_of_heap hbt];rfl
 have HZ:=Lib.hid hz0
 clear hbt hW0 hz0
 have d1:=ac c1 hF0
 have al:=(Below.refl W0.heap.size W0).alloc (Nat.le_refl _) (.cells #[.string ⟨#[95,58]⟩,.string x] 9)
 have hg:=heap_alloc_new W0 (.cells #[.string ⟨#[95,58]⟩,.string x] 9)
 have hlt1:=WIs.lt hI0
 have HI0:=Lib.hid (WIs.step hI0 al)
 have F0:=hF0.trans (al.mono hF0.size)
 have hp:=bJ w0.heap.size w0.heap.size W0.heap.size [] (95::58::x.data.toList) [⟨#[95,58]⟩,x] (by simp) _ HI0.out hg (by omega) (by simp) (by simp) (by intro s hs;simp at hs;rcases hs with rfl|rfl;decide;omega) F0.size 2 rfl
 clear hI0 al hg
 go_wp2_with (go_at_call 224;with_reducible refine hp.mono ?_)
 rintro e V1 ⟨rfl,k1,q1,o1⟩
 have HV:=Lib.hid k1
 have FV:=F0.trans q1
 clear k1 q1 o1 hp d1
 have e0:=ac c0 (FV.mono (Nat.le_refl _))
 have e2:=ac c2 FV
 have hstr:=mx w0.heap.size w0.heap.size ([]++95::58::x.data.toList) V1 HV.out (by simp)
 have HF:=Lib.hid (hb0.trans (FV.mono (Nat.le_of_lt hlt0)))
 have hsz:=FV.size
 go_wp2_with (go_at_call 228;with_reducible refine hstr.mono ?_;rintro e w9 ⟨rfl,_,b9⟩)
 go_ret
 exact⟨by simp[mkS],HF.out.trans (b9.mono (Nat.le_of_lt hlt0))⟩
theorem yE (x:ByteArray) (w:World) (hC:cD w) (hx:x.size<=1048576) :
  Calls Tryz.prog 165 #[.agg #[.int .i64 3,.string x,.string ⟨#[]⟩,.string ⟨#[]⟩]] w λe w'=>e=.returned (.string (mkS (34::(am x.data.toList++[34]))))/\Below w.heap.size w w':=by
 have hbt:=heap_alloc_new w (.cells #[.int .i64 3,.string x,.string ⟨#[]⟩,.string ⟨#[]⟩] 62)
 have hb0:Below w.heap.size w (w.alloc (.cells #[.int .i64 3,.string x,.string ⟨#[]⟩,.string ⟨#[]⟩] 62)):=(Below.refl _ w).alloc (Nat.le_refl _) _
 have hC0:=hC.step hb0
 have hz0:(w.alloc (.cells #[.int .i64 3,.string x,.string ⟨#[]⟩,.string ⟨#[]⟩] 62)).heap.size=w.heap.size+1:=by simp
 go_enter Tryz.func165,Tryz.ntmps165
 go_upto_region 3 with fail
 generalize w.alloc (.cells #[.int .i64 3,.string x,.string ⟨#[]⟩,.string ⟨#[]⟩] 62)=w0 at *
 rw[←hz0]
 obtain⟨W0,hW0⟩:∃W0,W0=w0.alloc (.cells #[.pointer none,.slice none 0 0] 266):=⟨_,rfl⟩
 have hI0:WI w0.heap.size w0.heap.size [] W0:=by rw[hW0];exact .inl (WAt.new w0 266 [])
 have hF0:Below w0.heap.size w0 W0:=by rw[hW0];exact(Below.refl _ w0).alloc (Nat.le_refl _) _
 rw[←hW0]
 have hlt0:w.heap.size<w0.heap.size:=by omega
 have c0:w0.cell? ⟨w.heap.size,0,none⟩=some (.int .i64 3):=by rw[Lib.cell_of_heap hbt];rfl
 have c1:w0.cell? ⟨w.heap.size,1,none⟩=some (.string x):=by rw[Lib.cell_of_heap hbt];rfl
 have c2:w0.cell? ⟨w.heap.size,2,none⟩=some (.string ⟨#[]⟩):=by rw[Lib.cell_of_heap hbt];rfl
 have c3:w0.cell? ⟨w.heap.size,3,none⟩=some (.string ⟨#[]⟩):=by rw[Lib.cell_of_heap hbt];rfl
 have HZ:=Lib.hid hz0
 clear hbt hW0 hz0
 refine Rf.p0 w0.heap.size _ (.quiet [0,2,3] (.one 1 (.one 4 (.one 5 (.one 6 (.done)))))) ?_ (λa w h=>h)
 intro wd hbd hwz
 have HI0:=Lib.hid (WIs.step hI0 hbd)
 have hFd:=hF0.trans (hbd.mono hF0.size)
 have d1:=eK (ac c1 hFd) hlt0
 clear hI0 hbd hwz
 refine Rf.pl_quiet ?_
 iterate 3 go_big_quiet_step (fail)
 refine wpQuiet_nil (Rf.pl_one ?_)
 have hes:=gz wd
 go_wp2_with (go_at_call 226;with_reducible refine hes.mono ?_;rintro e U1 ⟨rb,rfl,m1,m2⟩)
 refine⟨m2.mono hFd.size,Rf.pl_one ?_⟩
 have hrp:=dU wd.heap.size rb x U1 m1 hx
 clear hes m1
 go_wp2_with (go_at_call 227;with_reducible refine hrp.mono ?_;rintro e U2 ⟨rfl,m3⟩)
 have m4:=m2.trans m3
 refine⟨m3.mono hFd.size,Rf.pl_one ?_⟩
 go_wp2_with fail
 have al:Below U2.heap.size U2 (U2.alloc (.cells #[.string ⟨#[34]⟩,.string (mkS (am x.data.toList)),.string ⟨#[34]⟩] 9)):=(Below.refl _ _).alloc (Nat.le_refl _) _
 have hg:=heap_alloc_new U2 (.cells #[.string ⟨#[34]⟩,.string (mkS (am x.data.toList)),.string ⟨#[34]⟩] 9)
 have hus:=m4.size
 have HI1:=Lib.hid (WIs.step HI0.out (m4.trans (al.mono hus)))
 have hlt1:=WIs.lt HI0.out
 have F1:=hFd.trans ((m4.trans (al.mono hus)).mono hFd.size)
 generalize U2.alloc (.cells #[.string ⟨#[34]⟩,.string (mkS (am x.data.toList)),.string ⟨#[34]⟩] 9)=U3 at *
 refine⟨al.mono (Nat.le_trans hFd.size hus),Rf.pl_one ?_⟩
 have hp:=bJ w0.heap.size w0.heap.size U2.heap.size [] (34::(am x.data.toList++[34])) [⟨#[34]⟩,mkS (am x.data.toList),⟨#[34]⟩] rfl U3 HI1.out hg (by omega) (by simp) (by simp) (by intro s hs;simp at hs;rcases hs with rfl|rfl|rfl;decide;exact nR hx;decide) F1.size 3 rfl
 clear hrp m2 m3 m4 al hg HI0 d1
 go_wp2_with (go_at_call 224;with_reducible refine hp.mono ?_;rintro e V1 ⟨rfl,k1,q1,o1⟩)
 have HV:=Lib.hid k1
 have FV:=F1.trans q1
 refine⟨q1,Rf.pl_done ?_⟩
 clear k1 q1 o1 hp F1 HI1
 have g0:=ac c0 FV
 have g2:=ac c2 FV
 have hxl:=fG hx
 have e0:=ac c0 (FV.mono (Nat.le_refl _))
 have e2:=ac c2 FV
 have hstr:=mx w0.heap.size w0.heap.size ([]++34::(am x.data.toList++[34])) V1 HV.out (by simp)
 have HF:=Lib.hid (hb0.trans (FV.mono (Nat.le_of_lt hlt0)))
 have hsz:=FV.size
 go_wp2_with (go_at_call 228;with_reducible refine hstr.mono ?_;rintro e w9 ⟨rfl,_,b9⟩)
 go_ret
 exact⟨by simp[mkS],HF.out.trans (b9.mono (Nat.le_of_lt hlt0))⟩
theorem Ey (x l:ByteArray) (w:World) (hC:cD w) (hx:x.size<=1048576) (hl:l.size<=1048576) (hne:l.toList.isEmpty=false) :
  Calls Tryz.prog 165 #[.agg #[.int .i64 3,.string x,.string l,.string ⟨#[]⟩]] w λe w'=>e=.returned (.string (mkS (34::(am x.data.toList++34::64::l.data.toList))))/\Below w.heap.size w w':=by
 have hbt:=heap_alloc_new w (.cells #[.int .i64 3,.string x,.string l,.string ⟨#[]⟩] 62)
 have hb0:Below w.heap.size w (w.alloc (.cells #[.int .i64 3,.string x,.string l,.string ⟨#[]⟩] 62)):=(Below.refl _ w).alloc (Nat.le_refl _) _
 have hC0:=hC.step hb0
 have hz0:(w.alloc (.cells #[.int .i64 3,.string x,.string l,.string ⟨#[]⟩] 62)).heap.size=w.heap.size+1:=by simp
 go_enter Tryz.func165,Tryz.ntmps165
 go_upto_region 3 with fail
 generalize w.alloc (.cells #[.int .i64 3,.string x,.string l,.string ⟨#[]⟩] 62)=w0 at *
 rw[←hz0]
 obtain⟨W0,hW0⟩:∃W0,W0=w0.alloc (.cells #[.pointer none,.slice none 0 0] 266):=⟨_,rfl⟩
 have hI0:WI w0.heap.size w0.heap.size [] W0:=by rw[hW0];exact .inl (WAt.new w0 266 [])
 have hF0:Below w0.heap.size w0 W0:=by rw[hW0];exact(Below.refl _ w0).alloc (Nat.le_refl _) _
 rw[←hW0]
 have hlt0:w.heap.size<w0.heap.size:=by omega
 have c0:w0.cell? ⟨w.heap.size,0,none⟩=some (.int .i64 3):=by rw[Lib.cell_of_heap hbt];rfl
 have c1:w0.cell? ⟨w.heap.size,1,none⟩=some (.string x):=by rw[Lib.cell_of_heap hbt];rfl
 have c2:w0.cell? ⟨w.heap.size,2,none⟩=some (.string l):=by rw[Lib.cell_of_heap hbt];rfl
 have c3:w0.cell? ⟨w.heap.size,3,none⟩=some (.string ⟨#[]⟩):=by rw[Lib.cell_of_heap hbt];rfl
 have HZ:=Lib.hid hz0
 clear hbt hW0 hz0
 refine Rf.p0 w0.heap.size _ (.quiet [0,2,3] (.one 1 (.one 4 (.one 5 (.one 6 (.done)))))) ?_ (λa w h=>h)
 intro wd hbd hwz
 have HI0:=Lib.hid (WIs.step hI0 hbd)
 have hFd:=hF0.trans (hbd.mono hF0.size)
 have d1:=eK (ac c1 hFd) hlt0
 clear hI0 hbd hwz
 refine Rf.pl_quiet ?_
 iterate 3 go_big_quiet_step (fail)
 refine wpQuiet_nil (Rf.pl_one ?_)
 have hes:=gz wd
 go_wp2_with (go_at_call 226;with_reducible refine hes.mono ?_;rintro e U1 ⟨rb,rfl,m1,m2⟩)
 refine⟨m2.mono hFd.size,Rf.pl_one ?_⟩
 have hrp:=dU wd.heap.size rb x U1 m1 hx
 clear hes m1
 go_wp2_with (go_at_call 227;with_reducible refine hrp.mono ?_;rintro e U2 ⟨rfl,m3⟩)
 have m4:=m2.trans m3
 refine⟨m3.mono hFd.size,Rf.pl_one ?_⟩
 go_wp2_with fail
 have al:Below U2.heap.size U2 (U2.alloc (.cells #[.string ⟨#[34]⟩,.string (mkS (am x.data.toList)),.string ⟨#[34]⟩] 9)):=(Below.refl _ _).alloc (Nat.le_refl _) _
 have hg:=heap_alloc_new U2 (.cells #[.string ⟨#[34]⟩,.string (mkS (am x.data.toList)),.string ⟨#[34]⟩] 9)
 have hus:=m4.size
 have HI1:=Lib.hid (WIs.step HI0.out (m4.trans (al.mono hus)))
 have hlt1:=WIs.lt HI0.out
 have F1:=hFd.trans ((m4.trans (al.mono hus)).mono hFd.size)
 generalize U2.alloc (.cells #[.string ⟨#[34]⟩,.string (mkS (am x.data.toList)),.string ⟨#[34]⟩] 9)=U3 at *
 refine⟨al.mono (Nat.le_trans hFd.size hus),Rf.pl_one ?_⟩
 have hp:=bJ w0.heap.size w0.heap.size U2.heap.size [] (34::(am x.data.toList++[34])) [⟨#[34]⟩,mkS (am x.data.toList),⟨#[34]⟩] rfl U3 HI1.out hg (by omega) (by simp) (by simp) (by intro s hs;simp at hs;rcases hs with rfl|rfl|rfl;decide;exact nR hx;decide) F1.size 3 rfl
 clear hrp m2 m3 m4 al hg HI0 d1
 go_wp2_with (go_at_call 224;with_reducible refine hp.mono ?_;rintro e V1 ⟨rfl,k1,q1,o1⟩)
 have HV:=Lib.hid k1
 have FV:=F1.trans q1
 refine⟨q1,Rf.pl_done ?_⟩
 clear k1 q1 o1 hp F1 HI1
 have g0:=ac c0 FV
 have g2:=ac c2 FV
 have hxl:=fG hx
 have al:=(Below.refl V1.heap.size V1).alloc (Nat.le_refl _) (.cells #[.string ⟨#[64]⟩,.string l] 9)
 have hg:=heap_alloc_new V1 (.cells #[.string ⟨#[64]⟩,.string l] 9)
 have hlt2:=WIs.lt HV.out
 have HI2:=Lib.hid (WIs.step HV.out al)
 have F2:=FV.trans (al.mono FV.size)
 have hp:=bJ w0.heap.size w0.heap.size V1.heap.size ([]++34::(am x.data.toList++[34])) (64::l.data.toList) [⟨#[64]⟩,l] (by simp) _ HI2.out hg (by omega) (by simp) (by simp only[List.length_append,List.length_cons,List.length_nil];omega) (by intro s hs;simp at hs;rcases hs with rfl|rfl;decide;omega) F2.size 2 rfl
 clear al hg
 go_wp2_with (go_at_call 224;with_reducible refine hp.mono ?_)
 rintro e V2 ⟨rfl,k2,q2,o2⟩
 have HV2:=Lib.hid k2
 have FV2:=F2.trans q2
 clear k2 q2 o2 hp
 have e0:=ac c0 (FV2.mono (Nat.le_refl _))
 have e2:=ac c2 FV2
 have hstr:=mx w0.heap.size w0.heap.size ([]++34::(am x.data.toList++[34])++(64::l.data.toList)) V2 HV2.out (by simp)
 have HF:=Lib.hid (hb0.trans (FV2.mono (Nat.le_of_lt hlt0)))
 have hsz:=FV2.size
 go_wp2_with (go_at_call 228;with_reducible refine hstr.mono ?_;rintro e w9 ⟨rfl,_,b9⟩)
 go_ret
 exact⟨by simp[mkS],HF.out.trans (b9.mono (Nat.le_of_lt hlt0))⟩
theorem yD (x y:ByteArray) (w:World) (hC:cD w) (hx:x.size<=1048576) (hy:y.size<=1048576) (hv:aG y=true) :
  Calls Tryz.prog 165 #[.agg #[.int .i64 4,.string x,.string ⟨#[]⟩,.string y]] w λe w'=>e=.returned (.string (mkS (34::(am x.data.toList++34::94::94::60::(aU y.data.toList++[62])))))/\Below w.heap.size w w':=by
 have hbt:=heap_alloc_new w (.cells #[.int .i64 4,.string x,.string ⟨#[]⟩,.string y] 62)
 have hb0:Below w.heap.size w (w.alloc (.cells #[.int .i64 4,.string x,.string ⟨#[]⟩,.string y] 62)):=(Below.refl _ w).alloc (Nat.le_refl _) _
 have hC0:=hC.step hb0
 have hz0:(w.alloc (.cells #[.int .i64 4,.string x,.string ⟨#[]⟩,.string y] 62)).heap.size=w.heap.size+1:=by simp
 go_enter Tryz.func165,Tryz.ntmps165
 go_upto_region 3 with fail
 generalize w.alloc (.cells #[.int .i64 4,.string x,.string ⟨#[]⟩,.string y] 62)=w0 at *
 rw[←hz0]
 obtain⟨W0,hW0⟩:∃W0,W0=w0.alloc (.cells #[.pointer none,.slice none 0 0] 266):=⟨_,rfl⟩
 have hI0:WI w0.heap.size w0.heap.size [] W0:=by rw[hW0];exact .inl (WAt.new w0 266 [])
 have hF0:Below w0.heap.size w0 W0:=by rw[hW0];exact(Below.refl _ w0).alloc (Nat.le_refl _) _
 rw[←hW0]
 have hlt0:w.heap.size<w0.heap.size:=by omega
 have c0:w0.cell? ⟨w.heap.size,0,none⟩=some (.int .i64 4):=by rw[Lib.cell_of_heap hbt];rfl
 have c1:w0.cell? ⟨w.heap.size,1,none⟩=some (.string x):=by rw[Lib.cell_of_heap hbt];rfl
 have c2:w0.cell? ⟨w.heap.size,2,none⟩=some (.string ⟨#[]⟩):=by rw[Lib.cell_of_heap hbt];rfl
 have c3:w0.cell? ⟨w.heap.size,3,none⟩=some (.string y):=by rw[Lib.cell_of_heap hbt];rfl
 have HZ:=Lib.hid hz0
 clear hbt hW0 hz0
 refine Rf.p0 w0.heap.size _ (.quiet [0,2,3] (.one 1 (.one 4 (.one 5 (.one 6 (.done)))))) ?_ (λa w h=>h)
 intro wd hbd hwz
 have HI0:=Lib.hid (WIs.step hI0 hbd)
 have hFd:=hF0.trans (hbd.mono hF0.size)
 have d1:=eK (ac c1 hFd) hlt0
 clear hI0 hbd hwz
 refine Rf.pl_quiet ?_
 iterate 3 go_big_quiet_step (fail)
 refine wpQuiet_nil (Rf.pl_one ?_)
 have hes:=gz wd
 go_wp2_with (go_at_call 226;with_reducible refine hes.mono ?_;rintro e U1 ⟨rb,rfl,m1,m2⟩)
 refine⟨m2.mono hFd.size,Rf.pl_one ?_⟩
 have hrp:=dU wd.heap.size rb x U1 m1 hx
 clear hes m1
 go_wp2_with (go_at_call 227;with_reducible refine hrp.mono ?_;rintro e U2 ⟨rfl,m3⟩)
 have m4:=m2.trans m3
 refine⟨m3.mono hFd.size,Rf.pl_one ?_⟩
 go_wp2_with fail
 have al:Below U2.heap.size U2 (U2.alloc (.cells #[.string ⟨#[34]⟩,.string (mkS (am x.data.toList)),.string ⟨#[34]⟩] 9)):=(Below.refl _ _).alloc (Nat.le_refl _) _
 have hg:=heap_alloc_new U2 (.cells #[.string ⟨#[34]⟩,.string (mkS (am x.data.toList)),.string ⟨#[34]⟩] 9)
 have hus:=m4.size
 have HI1:=Lib.hid (WIs.step HI0.out (m4.trans (al.mono hus)))
 have hlt1:=WIs.lt HI0.out
 have F1:=hFd.trans ((m4.trans (al.mono hus)).mono hFd.size)
 generalize U2.alloc (.cells #[.string ⟨#[34]⟩,.string (mkS (am x.data.toList)),.string ⟨#[34]⟩] 9)=U3 at *
 refine⟨al.mono (Nat.le_trans hFd.size hus),Rf.pl_one ?_⟩
 have hp:=bJ w0.heap.size w0.heap.size U2.heap.size [] (34::(am x.data.toList++[34])) [⟨#[34]⟩,mkS (am x.data.toList),⟨#[34]⟩] rfl U3 HI1.out hg (by omega) (by simp) (by simp) (by intro s hs;simp at hs;rcases hs with rfl|rfl|rfl;decide;exact nR hx;decide) F1.size 3 rfl
 clear hrp m2 m3 m4 al hg HI0 d1
 go_wp2_with (go_at_call 224;with_reducible refine hp.mono ?_;rintro e V1 ⟨rfl,k1,q1,o1⟩)
 have HV:=Lib.hid k1
 have FV:=F1.trans q1
 refine⟨q1,Rf.pl_done ?_⟩
 clear k1 q1 o1 hp F1 HI1
 have g0:=ac c0 FV
 have g2:=ac c2 FV
 have hxl:=fG hx
 have hyl:=ii hy
 go_wp2
 refine Rf.p0 w0.heap.size _ (.quiet [0,3,4] (.fork 1 6 (.fork 2 6 (.fork 5 6 (.one 6 (.one 7 (.done))) (.one 5 (.one 7 (.done)))) (.one 2 (.one 5 (.one 7 (.done))))) (.one 1 (.one 2 (.one 5 (.one 7 (.done))))))) ?_ (λa w h=>h)
 intro we hbe hwz
 have HI0:=Lib.hid (WIs.step HV.out hbe)
 have hFd2:=FV.trans (hbe.mono FV.size)
 have d3:=eK (ac c3 hFd2) hlt0
 clear hbe hwz
 refine Rf.pl_quiet ?_
 iterate 3 go_big_quiet_step (fail)
 refine wpQuiet_nil (Rf.pl_fork ?_ ?_)
 ·
  go_wp2_with fail
  have al18:Below we.heap.size we (we.alloc (.cells #[.string ⟨#[94,94,60]⟩] 9)):=(Below.refl _ _).alloc (Nat.le_refl _) _
  have hg18:=heap_alloc_new we (.cells #[.string ⟨#[94,94,60]⟩] 9)
  have hn18:we.heap.size≠w0.heap.size:=by have:=WIs.lt HI0.out;omega
  have HH18:=Lib.hid (WIs.step HI0.out al18)
  have F18:=hFd2.trans (al18.mono hFd2.size)
  generalize we.alloc (.cells #[.string ⟨#[94,94,60]⟩] 9)=V18 at *
  refine⟨al18.mono hFd2.size,Rf.pl_fork ?_ ?_⟩
  ·
   have hp19:=bJ w0.heap.size w0.heap.size we.heap.size ([]++34::(am x.data.toList++[34])) [94,94,60] [⟨#[94,94,60]⟩] rfl V18 HH18.out hg18 hn18 (by simp) (by simp only[List.length_append,List.length_cons,List.length_nil];omega) (by intro s hs;simp at hs;subst hs;decide) F18.size 1 rfl
   go_wp2_with (go_at_call 224;with_reducible refine hp19.mono ?_;rintro e V19 ⟨rfl,k19,q19,o19⟩)
   have HH19:=Lib.hid k19
   have F19:=F18.trans q19
   clear hp19 k19
   refine⟨q19,Rf.pl_fork ?_ ?_⟩
   ·
    have hp20:=sB w0 hC0 w0.heap.size ([]++34::(am x.data.toList++[34])++[94,94,60]) y V19 F19 HH19.out hv hy (by simp only[List.length_append,List.length_cons,List.length_nil];omega)
    go_wp2_with (go_at_call 225;with_reducible refine hp20.mono ?_;rintro e V20 ⟨rfl,k20,q20,o20⟩)
    have HH20:=Lib.hid k20
    have F20:=F19.trans q20
    clear hp20 k20
    refine⟨q20,Rf.pl_one ?_⟩
    go_wp2_with fail
    have al21:Below V20.heap.size V20 (V20.alloc (.cells #[.string ⟨#[62]⟩] 9)):=(Below.refl _ _).alloc (Nat.le_refl _) _
    have hg21:=heap_alloc_new V20 (.cells #[.string ⟨#[62]⟩] 9)
    have hn21:V20.heap.size≠w0.heap.size:=by have:=WIs.lt HH20.out;omega
    have HH21:=Lib.hid (WIs.step HH20.out al21)
    have F21:=F20.trans (al21.mono F20.size)
    generalize V20.alloc (.cells #[.string ⟨#[62]⟩] 9)=V21 at *
    refine⟨al21.mono F20.size,Rf.pl_one ?_⟩
    have hp22:=bJ w0.heap.size w0.heap.size V20.heap.size ([]++34::(am x.data.toList++[34])++[94,94,60]++aU y.data.toList) [62] [⟨#[62]⟩] rfl V21 HH21.out hg21 hn21 (by simp) (by simp only[List.length_append,List.length_cons,List.length_nil];omega) (by intro s hs;simp at hs;subst hs;decide) F21.size 1 rfl
    go_wp2_with (go_at_call 224;with_reducible refine hp22.mono ?_;rintro e V22 ⟨rfl,k22,q22,o22⟩)
    have HH22:=Lib.hid k22
    have F22:=F21.trans q22
    clear hp22 k22
    refine⟨q22,Rf.pl_done ?_⟩
    have e0:=ac c0 (F22.mono (Nat.le_refl _))
    have e2:=ac c2 F22
    have hstr:=mx w0.heap.size w0.heap.size ([]++34::(am x.data.toList++[34])++[94,94,60]++aU y.data.toList++[62]) V22 HH22.out (by simp)
    have HF:=Lib.hid (hb0.trans (F22.mono (Nat.le_of_lt hlt0)))
    have hsz:=F22.size
    go_wp2_with (go_at_call 228;with_reducible refine hstr.mono ?_;rintro e w9 ⟨rfl,_,b9⟩)
    go_ret
    exact⟨by simp[mkS],HF.out.trans (b9.mono (Nat.le_of_lt hlt0))⟩
   ·
    go_wp2_with fail
    have al23:Below V19.heap.size V19 (V19.alloc (.cells #[.string ⟨#[62]⟩] 9)):=(Below.refl _ _).alloc (Nat.le_refl _) _
    have hg23:=heap_alloc_new V19 (.cells #[.string ⟨#[62]⟩] 9)
    have hn23:V19.heap.size≠w0.heap.size:=by have:=WIs.lt HH19.out;omega
    have HH23:=Lib.hid (WIs.step HH19.out al23)
    have F23:=F19.trans (al23.mono F19.size)
    generalize V19.alloc (.cells #[.string ⟨#[62]⟩] 9)=V23 at *
    refine⟨al23.mono F19.size,Rf.pl_one ?_⟩
    have hp24:=sB w0 hC0 w0.heap.size ([]++34::(am x.data.toList++[34])++[94,94,60]) y V23 F23 HH23.out hv hy (by simp only[List.length_append,List.length_cons,List.length_nil];omega)
    go_wp2_with (go_at_call 225;with_reducible refine hp24.mono ?_;rintro e V24 ⟨rfl,k24,q24,o24⟩)
    have HH24:=Lib.hid k24
    have F24:=F23.trans q24
    clear hp24 k24
    have hk24_6:=dK o24 hg23 hn23
    refine⟨q24,Rf.pl_one ?_⟩
    have hp25:=bJ w0.heap.size w0.heap.size V19.heap.size ([]++34::(am x.data.toList++[34])++[94,94,60]++aU y.data.toList) [62] [⟨#[62]⟩] rfl V24 HH24.out hk24_6 hn23 (by simp) (by simp only[List.length_append,List.length_cons,List.length_nil];omega) (by intro s hs;simp at hs;subst hs;decide) F24.size 1 rfl
    go_wp2_with (go_at_call 224;with_reducible refine hp25.mono ?_;rintro e V25 ⟨rfl,k25,q25,o25⟩)
    have HH25:=Lib.hid k25
    have F25:=F24.trans q25
    clear hp25 k25
    refine⟨q25,Rf.pl_done ?_⟩
    have e0:=ac c0 (F25.mono (Nat.le_refl _))
    have e2:=ac c2 F25
    have hstr:=mx w0.heap.size w0.heap.size ([]++34::(am x.data.toList++[34])++[94,94,60]++aU y.data.toList++[62]) V25 HH25.out (by simp)
    have HF:=Lib.hid (hb0.trans (F25.mono (Nat.le_of_lt hlt0)))
    have hsz:=F25.size
    go_wp2_with (go_at_call 228;with_reducible refine hstr.mono ?_;rintro e w9 ⟨rfl,_,b9⟩)
    go_ret
    exact⟨by simp[mkS],HF.out.trans (b9.mono (Nat.le_of_lt hlt0))⟩
  ·
   go_wp2_with fail
   have al26:Below V18.heap.size V18 (V18.alloc (.cells #[.string ⟨#[62]⟩] 9)):=(Below.refl _ _).alloc (Nat.le_refl _) _
   have hg26:=heap_alloc_new V18 (.cells #[.string ⟨#[62]⟩] 9)
   have hn26:V18.heap.size≠w0.heap.size:=by have:=WIs.lt HH18.out;omega
   have HH26:=Lib.hid (WIs.step HH18.out al26)
   have F26:=F18.trans (al26.mono F18.size)
   have hk26_1:=cB al26 hg18
   generalize V18.alloc (.cells #[.string ⟨#[62]⟩] 9)=V26 at *
   refine⟨al26.mono F18.size,Rf.pl_one ?_⟩
   have hp27:=bJ w0.heap.size w0.heap.size we.heap.size ([]++34::(am x.data.toList++[34])) [94,94,60] [⟨#[94,94,60]⟩] rfl V26 HH26.out hk26_1 hn18 (by simp) (by simp only[List.length_append,List.length_cons,List.length_nil];omega) (by intro s hs;simp at hs;subst hs;decide) F26.size 1 rfl
   go_wp2_with (go_at_call 224;with_reducible refine hp27.mono ?_;rintro e V27 ⟨rfl,k27,q27,o27⟩)
   have HH27:=Lib.hid k27
   have F27:=F26.trans q27
   clear hp27 k27
   have hk27_6:=dK o27 hg26 hn26
   refine⟨q27,Rf.pl_one ?_⟩
   have hp28:=sB w0 hC0 w0.heap.size ([]++34::(am x.data.toList++[34])++[94,94,60]) y V27 F27 HH27.out hv hy (by simp only[List.length_append,List.length_cons,List.length_nil];omega)
   go_wp2_with (go_at_call 225;with_reducible refine hp28.mono ?_;rintro e V28 ⟨rfl,k28,q28,o28⟩)
   have HH28:=Lib.hid k28
   have F28:=F27.trans q28
   clear hp28 k28
   have hk28_6:=dK o28 hk27_6 hn26
   refine⟨q28,Rf.pl_one ?_⟩
   have hp29:=bJ w0.heap.size w0.heap.size V18.heap.size ([]++34::(am x.data.toList++[34])++[94,94,60]++aU y.data.toList) [62] [⟨#[62]⟩] rfl V28 HH28.out hk28_6 hn26 (by simp) (by simp only[List.length_append,List.length_cons,List.length_nil];omega) (by intro s hs;simp at hs;subst hs;decide) F28.size 1 rfl
   go_wp2_with (go_at_call 224;with_reducible refine hp29.mono ?_;rintro e V29 ⟨rfl,k29,q29,o29⟩)
   have HH29:=Lib.hid k29
   have F29:=F28.trans q29
   clear hp29 k29
   refine⟨q29,Rf.pl_done ?_⟩
   have e0:=ac c0 (F29.mono (Nat.le_refl _))
   have e2:=ac c2 F29
   have hstr:=mx w0.heap.size w0.heap.size ([]++34::(am x.data.toList++[34])++[94,94,60]++aU y.data.toList++[62]) V29 HH29.out (by simp)
   have HF:=Lib.hid (hb0.trans (F29.mono (Nat.le_of_lt hlt0)))
   have hsz:=F29.size
   go_wp2_with (go_at_call 228;with_reducible refine hstr.mono ?_;rintro e w9 ⟨rfl,_,b9⟩)
   go_ret
   exact⟨by simp[mkS],HF.out.trans (b9.mono (Nat.le_of_lt hlt0))⟩
 ·
  go_wp2_with fail
  have al30:Below we.heap.size we (we.alloc (.cells #[.string ⟨#[62]⟩] 9)):=(Below.refl _ _).alloc (Nat.le_refl _) _
  have hg30:=heap_alloc_new we (.cells #[.string ⟨#[62]⟩] 9)
  have hn30:we.heap.size≠w0.heap.size:=by have:=WIs.lt HI0.out;omega
  have HH30:=Lib.hid (WIs.step HI0.out al30)
  have F30:=hFd2.trans (al30.mono hFd2.size)
  generalize we.alloc (.cells #[.string ⟨#[62]⟩] 9)=V30 at *
  refine⟨al30.mono hFd2.size,Rf.pl_one ?_⟩
  go_wp2_with fail
  have al31:Below V30.heap.size V30 (V30.alloc (.cells #[.string ⟨#[94,94,60]⟩] 9)):=(Below.refl _ _).alloc (Nat.le_refl _) _
  have hg31:=heap_alloc_new V30 (.cells #[.string ⟨#[94,94,60]⟩] 9)
  have hn31:V30.heap.size≠w0.heap.size:=by have:=WIs.lt HH30.out;omega
  have HH31:=Lib.hid (WIs.step HH30.out al31)
  have F31:=F30.trans (al31.mono F30.size)
  have hk31_6:=cB al31 hg30
  generalize V30.alloc (.cells #[.string ⟨#[94,94,60]⟩] 9)=V31 at *
  refine⟨al31.mono F30.size,Rf.pl_one ?_⟩
  have hp32:=bJ w0.heap.size w0.heap.size V30.heap.size ([]++34::(am x.data.toList++[34])) [94,94,60] [⟨#[94,94,60]⟩] rfl V31 HH31.out hg31 hn31 (by simp) (by simp only[List.length_append,List.length_cons,List.length_nil];omega) (by intro s hs;simp at hs;subst hs;decide) F31.size 1 rfl
  go_wp2_with (go_at_call 224;with_reducible refine hp32.mono ?_;rintro e V32 ⟨rfl,k32,q32,o32⟩)
  have HH32:=Lib.hid k32
  have F32:=F31.trans q32
  clear hp32 k32
  have hk32_6:=dK o32 hk31_6 hn30
  refine⟨q32,Rf.pl_one ?_⟩
  have hp33:=sB w0 hC0 w0.heap.size ([]++34::(am x.data.toList++[34])++[94,94,60]) y V32 F32 HH32.out hv hy (by simp only[List.length_append,List.length_cons,List.length_nil];omega)
  go_wp2_with (go_at_call 225;with_reducible refine hp33.mono ?_;rintro e V33 ⟨rfl,k33,q33,o33⟩)
  have HH33:=Lib.hid k33
  have F33:=F32.trans q33
  clear hp33 k33
  have hk33_6:=dK o33 hk32_6 hn30
  refine⟨q33,Rf.pl_one ?_⟩
  have hp34:=bJ w0.heap.size w0.heap.size we.heap.size ([]++34::(am x.data.toList++[34])++[94,94,60]++aU y.data.toList) [62] [⟨#[62]⟩] rfl V33 HH33.out hk33_6 hn30 (by simp) (by simp only[List.length_append,List.length_cons,List.length_nil];omega) (by intro s hs;simp at hs;subst hs;decide) F33.size 1 rfl
  go_wp2_with (go_at_call 224;with_reducible refine hp34.mono ?_;rintro e V34 ⟨rfl,k34,q34,o34⟩)
  have HH34:=Lib.hid k34
  have F34:=F33.trans q34
  clear hp34 k34
  refine⟨q34,Rf.pl_done ?_⟩
  have e0:=ac c0 (F34.mono (Nat.le_refl _))
  have e2:=ac c2 F34
  have hstr:=mx w0.heap.size w0.heap.size ([]++34::(am x.data.toList++[34])++[94,94,60]++aU y.data.toList++[62]) V34 HH34.out (by simp)
  have HF:=Lib.hid (hb0.trans (F34.mono (Nat.le_of_lt hlt0)))
  have hsz:=F34.size
  go_wp2_with (go_at_call 228;with_reducible refine hstr.mono ?_;rintro e w9 ⟨rfl,_,b9⟩)
  go_ret
  exact⟨by simp[mkS],HF.out.trans (b9.mono (Nat.le_of_lt hlt0))⟩
theorem Ba (t:Tm) (w:World) (hC:cD w) (h:aB t=true) (hx:t.x.size<=1048576) (hl:t.l.size<=1048576) (hy:t.y.size<=1048576) :
  Calls Tryz.prog 165 #[.agg #[.int .i64 t.k,.string t.x,.string t.l,.string t.y]] w λe w'=>e=.returned (.string (mkS (ba t)))/\Below w.heap.size w w':=by
 obtain⟨k,x,l,y⟩:=t
 rcases lv h with ⟨rfl,rfl,rfl,hv⟩|⟨rfl,rfl,rfl,-⟩|⟨rfl,rfl,-,-⟩|⟨rfl,rfl,-,-,hv⟩
 ·exact Ez x w hC hx hv
 ·exact yF x w hC hx
 ·cases he:l.toList.isEmpty
  ·have e:ba ⟨3,x,l,⟨#[]⟩⟩=34::(am x.data.toList++34::64::l.data.toList):=by
    unfold ba
    rw[if_neg (by simp),if_neg (by simp),if_neg (by simp),if_neg]
    intro h0
    have:=(db l).2 h0
    unfold ci at this
    rw[he]at this;cases this
   rw[e]
   exact Ey x l w hC hx hl he
  ·have h0:=(db l).1 he
   obtain rfl:=gH h0
   exact yE x w hC hx
 ·exact yD x y w hC hx hy hv
end Go.Proofs.YtfcbghmbbjolcaaGreatDoor
