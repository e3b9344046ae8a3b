/- The program's package query, walked: walker.slots, Vars. sli -/
import Derived.Test.YtoaemihcbmlkgaaGreatDoorJMean2
import Derived.Lib.AppendZerosOnto
set_option maxHeartbeats 8000000
set_option maxRecDepth 100000
namespace Go.Proofs.YtoaemihcbmlkgaaGreatDoor
open Go Go.RowKit Um Fm Mt
abbrev RdSl (w:World) (A:Option Addr) (l:List Sl):Prop:=RdL 5 (λcs s=>cs=slC s) w A l
theorem RdL.keeps {α:Type} {sz:Nat} {R:List Value->α->Prop} {base b:Nat} {w w':World} {v v':Value} (h:MetKeeps base b w v w' v') {A:Option Addr} {l:List α} (hr:RdL sz R w A l) (hA:∀a,A=some a->a.block≠b/\some a.block≠v.ownBlock):RdL sz R w' A l:=by
 obtain⟨xs,h1,h2⟩:=hr
 exact⟨xs,h.rd h1 hA,h2⟩
theorem occS_snoc {ss:List Sl} {k:Nat} {x:Sl} (h:ss[k]?=some x):occS (ss.take (k+1))=occS (ss.take k)++occS [x]:=by
 rw[take_snoc_of h];unfold occS;rw[List.map_append,List.filter_append]
theorem occS_one_no {x:Sl} (h:x.v.toList.isEmpty=true):occS [x]=[]:=occ_empty [] h
theorem occS_one {x:Sl} (h:x.v.toList.isEmpty=false):occS [x]=[x.v]:=occ_named [] h
def SlotsL (base b:Nat) (v:Value) (l:List ByteArray) (ss:List Sl) (w:World) (i:Value) (wr:World):Prop:=∃(k:Nat) (v':Value),k<=ss.length/\i=.int .i64 k/\MetAt base b wr v' (metsN l (occS (ss.take k)))/\MetKeeps base b w v wr v'
theorem qSlots (base b:Nat) (v:Value) (l:List ByteArray) (ss:List Sl) (A:Option Addr) (c:Nat) (w:World) (hm:MetAt base b w v l) (hr:RdSl w A ss) (hA:∀a,A=some a->a.block≠b/\some a.block≠v.ownBlock)
  (hbase:base<=w.heap.size) (hl:l.length+ss.length<=1000000) :
  Calls Tryz.prog 45 #[.pointer (some ⟨b,0,none⟩),.slice A ss.length c] w (MeetR base b v (metsN l (occS ss)) w):=by
 have hnl:(ss.length:Int)<=1000000:=by omega
 go_enter Tryz.func45,Tryz.ntmps45
 go_wp2
 go_loopw [8] (SlotsL base b v l ss w) (λi _=>ss.length-(intOf i).toNat)
 case atStart=>exact⟨0,v,by omega,rfl,hm,MetKeeps.refl _ _ _ _⟩
 case round =>
  obtain⟨k,v',hk,rfl,hM,hK⟩:=hrel
  by_cases hlt:k<ss.length
  ·obtain⟨x,hs⟩:∃x,ss[k]?=some x:=⟨_,List.getElem?_eq_getElem hlt⟩
   obtain⟨g,o,cs,rfl,-,rfl,hx⟩:=(RdL.keeps hK hr hA).at_ (by omega) hs
   have c0:wr.cell? ⟨g,o+k*5,none⟩=some (.string x.v):=hx 0 _ rfl
   have c1:wr.cell? ⟨g,o+k*5+1,none⟩=some (.int .i64 x.t.k):=hx 1 _ rfl
   have c2:wr.cell? ⟨g,o+k*5+2,none⟩=some (.string x.t.x):=hx 2 _ rfl
   have c3:wr.cell? ⟨g,o+k*5+3,none⟩=some (.string x.t.l):=hx 3 _ rfl
   have c4:wr.cell? ⟨g,o+k*5+4,none⟩=some (.string x.t.y):=hx 4 _ rfl
   have hbs:base<=wr.heap.size:=Nat.le_trans hbase hK.size
   have hB1:Below wr.heap.size wr (wr.alloc (.cells #[.string x.v,.int .i64 x.t.k,.string x.t.x,.string x.t.l,.string x.t.y] 41)):=blw
   have hM1:=hM.later hB1
   have hK1:=hK.trans (MetKeeps.of_below v' hB1 hbs)
   have hsn:=occS_snoc hs
   cases he:x.v.toList.isEmpty
   ·have hB2:Below wr.heap.size wr ((wr.alloc (.cells #[.string x.v,.int .i64 x.t.k,.string x.t.x,.string x.t.l,.string x.t.y] 41)).alloc (.cells #[.string x.v] 9)).drew:=Below.drew blw
    have hM2:=hM.later hB2
    have hK2:=hK.trans (MetKeeps.of_below v' hB2 hbs)
    have hml:(metsN l (occS (ss.take k))).length<=l.length+ss.length:=by
     have h1:=metsN_len (occS (ss.take k)) l
     have h2:=occS_len (ss.take k)
     rw[List.length_take]at h2;omega
    have hq:=qMeet base b v' (metsN l (occS (ss.take k))) [x.v] (some ⟨wr.heap.size+1,0,none⟩) 1 _ hM2 (Rd.of_block (heap_two_2 wr _ _) rfl) (λa ha=>by
     injection ha with ha;subst ha
     refine⟨?_,λe=>?_⟩
     ·have:=cell_lt hM.cell;simp at this ⊢;omega
     ·have:=(hM.own.lt _ e.symm).2;simp only at this;omega) (by simp;omega) (by simp;have:=metsN_len (occS (ss.take k)) l;have h2:=occS_len (ss.take k);rw[List.length_take]at h2;omega)
    have Hn:Hid (metsN l (occS (ss.take (k+1)))=metsN (metsN l (occS (ss.take k))) [x.v]):=by
     show _=_
     rw[hsn,occS_one he,metsN_app]
    have HK:=Lib.hid hK2
    clear hs hr hA hM hK hM1 hK1 hM2 hK2 hsn hx hm hml hB1 hB2
    go_wp2_with fail
    go_region_with (go_at_call 82;refine hq.mono ?_;rintro e w2 ⟨⟨u,rfl⟩,v2,hM2,hK2⟩)
    go_wp2
    go_roundw
    case rel=>exact⟨k+1,v2,by omega,by go_num,by rw[Hn.out];exact hM2,HK.out.trans hK2⟩
    case measure=>simp[intOf];omega
   ·have Hn:Hid (metsN l (occS (ss.take (k+1)))=metsN l (occS (ss.take k))):=by
     show _=_
     rw[hsn,occS_one_no he,List.append_nil]
    have HK:=Lib.hid hK1
    have HM:=Lib.hid hM1
    clear hs hr hA hM hK hM1 hK1 hsn hx hm hB1
    go_wp2
    go_roundw
    case rel=>exact⟨k+1,v',by omega,by go_num,by rw[Hn.out];exact HM.out,HK.out⟩
    case measure=>simp[intOf];omega
  ·have hk2:ss.take k=ss:=List.take_of_length_le (by omega)
   rw[hk2]at hM
   go_wp2
   go_end0
   exact⟨⟨_,rfl⟩,v',hM,hK⟩
def NamesR (names:List ByteArray) (w:World) (e:Ending) (w':World):Prop:=∃v,e=.returned v/\w'.ownsRow w.heap.size 9 1 v names.length (names.map Value.string)/\Below w.heap.size w w'
def VarsL (l:List Pat) (w:World) (i:Value) (wr:World):Prop:=∃(k:Nat) (v':Value),k<=l.length/\i=.int .i64 k/\MetAt w.heap.size w.heap.size wr v' (metsN [] ((l.take k).flatMap occP))/\Below w.heap.size w wr/\w.heap.size<wr.heap.size
theorem qVars (l:List Pat) (A:Option Addr) (c:Nat) (w:World) (hr:RdPat w A l) (hl:l.length<=300000) :
  Calls Tryz.prog 24 #[.slice A l.length c] w (NamesR (varsN l) w):=by
 have hnl:(l.length:Int)<=300000:=by omega
 have hB0:Below w.heap.size w (w.alloc (.cells #[.slice none 0 0] 101)):=blw
 have hM0:MetAt w.heap.size w.heap.size (w.alloc (.cells #[.slice none 0 0] 101)) (.slice none 0 0) []:=
  ⟨by rw[World.cell?,heap_alloc_new];rfl,by unfold World.frozen?;rw[heap_alloc_new];rfl,World.ownsRow_nil _ _ _ _,Nat.le_refl _,by simp[Value.ownBlock]⟩
 have hz0:w.heap.size<(w.alloc (.cells #[.slice none 0 0] 101)).heap.size:=by simp
 go_enter Tryz.func24,Tryz.ntmps24
 go_wp2
 go_loopw [8] (VarsL l w) (λi _=>l.length-(intOf i).toNat)
 case atStart=>exact⟨0,_,by omega,rfl,hM0,hB0,hz0⟩
 case round =>
  clear hM0 hB0 hz0
  obtain⟨k,v',hk,rfl,hM,hB,hz⟩:=hrel
  by_cases hlt:k<l.length
  ·obtain⟨x,hs⟩:∃x,l[k]?=some x:=⟨_,List.getElem?_eq_getElem hlt⟩
   obtain⟨g,o,cs,rfl,-,rfl,hx⟩:=(RdL.mono hr hB (λ_ _ _ h=>h)).at_ (by omega) hs
   have c0:wr.cell? ⟨g,o+k*15,none⟩=some (.string x.s.v):=hx 0 _ rfl
   have c1:wr.cell? ⟨g,o+k*15+1,none⟩=some (.int .i64 x.s.t.k):=hx 1 _ rfl
   have c2:wr.cell? ⟨g,o+k*15+2,none⟩=some (.string x.s.t.x):=hx 2 _ rfl
   have c3:wr.cell? ⟨g,o+k*15+3,none⟩=some (.string x.s.t.l):=hx 3 _ rfl
   have c4:wr.cell? ⟨g,o+k*15+4,none⟩=some (.string x.s.t.y):=hx 4 _ rfl
   have c5:wr.cell? ⟨g,o+k*15+5,none⟩=some (.string x.p.v):=hx 5 _ rfl
   have c6:wr.cell? ⟨g,o+k*15+6,none⟩=some (.int .i64 x.p.t.k):=hx 6 _ rfl
   have c7:wr.cell? ⟨g,o+k*15+7,none⟩=some (.string x.p.t.x):=hx 7 _ rfl
   have c8:wr.cell? ⟨g,o+k*15+8,none⟩=some (.string x.p.t.l):=hx 8 _ rfl
   have c9:wr.cell? ⟨g,o+k*15+9,none⟩=some (.string x.p.t.y):=hx 9 _ rfl
   have c10:wr.cell? ⟨g,o+k*15+10,none⟩=some (.string x.o.v):=hx 10 _ rfl
   have c11:wr.cell? ⟨g,o+k*15+11,none⟩=some (.int .i64 x.o.t.k):=hx 11 _ rfl
   have c12:wr.cell? ⟨g,o+k*15+12,none⟩=some (.string x.o.t.x):=hx 12 _ rfl
   have c13:wr.cell? ⟨g,o+k*15+13,none⟩=some (.string x.o.t.l):=hx 13 _ rfl
   have c14:wr.cell? ⟨g,o+k*15+14,none⟩=some (.string x.o.t.y):=hx 14 _ rfl
   have hB2:Below wr.heap.size wr ((wr.alloc (.cells (cPat x).toArray 43)).alloc (.cells (cPat x).toArray 41)):=blw
   have hM2:=hM.later hB2
   have hml:(metsN [] ((l.take k).flatMap occP)).length<=900000:=by
    have h1:=metsN_len ((l.take k).flatMap occP) []
    have h2:=occ_len (l.take k)
    rw[List.length_take]at h2
    rw[List.length_nil]at h1;omega
   have hrs:RdSl ((wr.alloc (.cells (cPat x).toArray 43)).alloc (.cells (cPat x).toArray 41)) (some ⟨wr.heap.size+1,0,none⟩) [x.s,x.p,x.o]:=
    ⟨[x.s,x.p,x.o].flatMap slC,Rd.of_block (heap_two_2 wr _ _) rfl,All.of_flat _ λ_ _=>rfl⟩
   have hq:=qSlots w.heap.size w.heap.size v' (metsN [] ((l.take k).flatMap occP)) [x.s,x.p,x.o] (some ⟨wr.heap.size+1,0,none⟩) 3 _ hM2 hrs (λa ha=>by
     injection ha with ha;subst ha
     refine⟨?_,λe=>?_⟩
     ·simp;omega
     ·have:=(hM.own.lt _ e.symm).2;simp only at this;omega) (by simp;omega) (by simp;omega)
   have Hn:Hid (metsN [] ((l.take (k+1)).flatMap occP)=metsN (metsN [] ((l.take k).flatMap occP)) (occS [x.s,x.p,x.o])):=by
    show _=_
    rw[flat_take hs,metsN_app];rfl
   have HB:=Lib.hid (below_tr hB hB2)
   simp only[cPat]at hq HB
   clear hs hr hM hM2 hx hml hB2 hrs hB
   go_wp2_with (go_at_call 45;refine hq.mono ?_;rintro e w2 ⟨⟨u,rfl⟩,v2,hM2,hK2⟩)
   go_roundw
   case rel=>exact⟨k+1,v2,by omega,by go_num,by rw[Hn.out];exact hM2,HB.out.trans hK2.below,by have:=hK2.size;simp at this;omega⟩
   case measure=>simp[intOf];omega
  ·have hk2:l.take k=l:=List.take_of_length_le (by omega)
   rw[hk2]at hM
   obtain⟨A1,c1,rfl,hc1,hr1,hv1⟩:=hM.open_
   have hown:=hM.own
   go_wp2
   go_ret
   exact⟨_,rfl,hown,hB⟩
open Tx Om Mp
def TmsR (l:List Tm) (w:World) (e:Ending) (w':World):Prop:=∃v,e=.returned v/\w'.ownsRow w.heap.size 26 4 v l.length (l.flatMap tmC)/\Below w.heap.size w w'
def GrowT (w:World) (e:Ending) (w':World):Prop:=∃v,e=.returned v/\w'.ownsRow w.heap.size 26 4 v 0 []/\Below w.heap.size w w'
theorem growTm (n:Nat) (w:World) (hn:n<=3000000):Calls Tryz.prog 175 #[.slice none 0 0,.int .i64 n] w (GrowT w):=by
 have hn':(n:Int)<=3000000:=by omega
 by_cases h0:0<n
 ·obtain⟨i,hi,hz,hsize,hby⟩:=info_parts tmInfo
  have hrz:∀ty,(Builtin.append_ #[36,3] ty #[.slice none 0 0,.int .i64 n]).run Tryz.prog w=_:=λty =>
   Lib.run_append_grow_zeros w 36 3 ty 26 i (.agg #[.int .i64 0,.string ⟨#[]⟩,.string ⟨#[]⟩,.string ⟨#[]⟩]) .i64 .i64 Tryz.underlying36 Tryz.underlying3 hi hz none 0 0 [] (run_firstCells_none w.drew i.size 0 0 0) n h0 (by omega) (by omega) (by omega)
    (by rw[hby];omega) (by rw[Nat.zero_add,hby];exact growslice_fits h0 (by omega))
  simp only[Nat.zero_add]at hrz
  have hG1:n<=grownCap w n 0 26:=grownCap_ge w _ _ _
  have hG2:=grownCap_le_maxLen w n 0 26 (by unfold maxLen;omega)
  obtain⟨G,hG⟩:∃G,grownCap w n 0 26=G:=⟨_,rfl⟩
  rw[hG]at hG1 hG2 hrz
  obtain⟨cs,hcs⟩:∃cs:Array Value,([]:List Value).toArray++Builtin.zeroCells (Value.agg #[.int .i64 0,.string ⟨#[]⟩,.string ⟨#[]⟩,.string ⟨#[]⟩]).cells n++Builtin.zeroCells (Value.agg #[.int .i64 0,.string ⟨#[]⟩,.string ⟨#[]⟩,.string ⟨#[]⟩]).cells (G-n)=cs:=⟨_,rfl⟩
  have hsz:cs.size=G*4:=by
   rw[←hcs,Array.size_append,Array.size_append,size_zeroCells,size_zeroCells]
   show 0+n*4+(G-n)*4=G*4
   omega
  rw[hcs]at hrz
  have hG3:(G:Int)<=9223372036854775807:=by unfold maxLen at hG2;omega
  have h0':0<(n:Int):=by omega
  have own:(w.drew.alloc (.cells cs 26)).ownsRow w.heap.size 26 4 (.slice (some ⟨w.heap.size,0,none⟩) 0 G) 0 []:=
   ⟨rfl,.inr ⟨w.heap.size,G,cs,rfl,Nat.le_refl _,heap_alloc_new w.drew _,by omega,hG2,hsz,by simp⟩⟩
  have bel:Below w.heap.size w (w.drew.alloc (.cells cs 26)):=((Below.refl _ _).drew).alloc (Nat.le_refl _) _
  have Own:=Lib.hid own
  clear hG hcs hsz hi hz hsize hby own hG2
  go_enter Tryz.func175,Tryz.ntmps175
  go_wp2_with (at_builtin;refine Lib.wpList_append_run _ rfl _ _ _ _ rfl _ _ rfl rfl _ _ (hrz _) ?_)
  go_ret
  exact⟨_,rfl,Own.out,bel⟩
 ·obtain rfl:n=0:=by omega
  go_enter Tryz.func175,Tryz.ntmps175
  go_wp2
  go_ret
  exact⟨_,rfl,World.ownsRow_nil _ _ _ _,Below.refl _ _⟩
def sumT (ls:List (List Tm)):Nat:=(ls.map List.length).sum
theorem sumT_take {ls:List (List Tm)} {k:Nat} {l:List Tm} (h:ls[k]?=some l):sumT (ls.take (k+1))=sumT (ls.take k)+l.length:=by
 unfold sumT;rw[take_snoc_of h,List.map_append,List.sum_append];simp
theorem sumT_flat (ls:List (List Tm)):(ls.flatMap id).length=sumT ls:=by
 unfold sumT;induction ls with
 | nil=>rfl
 | cons a r ih=>simp[List.flatMap_cons]
theorem sumT_le (ls:List (List Tm)) (k:Nat):sumT (ls.take k)<=sumT ls:=by
 unfold sumT
 conv=>rhs;rw[←List.take_append_drop k ls]
 rw[List.map_append,List.sum_append];omega
def Sum1T (ls:List (List Tm)) (w:World) (s i:Value) (wr:World):Prop:=∃k:Nat,k<=ls.length/\i=.int .i64 k/\s=.int .i64 (sumT (ls.take k))/\w=wr
def Cat1T (ls:List (List Tm)) (w0 _w:World) (v i:Value) (wr:World):Prop:=∃(k:Nat) (v':Value),k<=ls.length/\i=.int .i64 k/\v=v'/\wr.ownsRow w0.heap.size 26 4 v' (sumT (ls.take k)) (((ls.take k).flatMap id).flatMap tmC)/\Below w0.heap.size w0 wr
theorem concatTm (ls:List (List Tm)) (A:Option Addr) (c:Nat) (w:World) (hr:RdRs w A ls) (hl:ls.length<=1000) (hs:sumT ls<=3000000) :
  Calls Tryz.prog 118 #[.slice A ls.length c] w (TmsR (ls.flatMap id) w):=by
 have hl':(ls.length:Int)<=1000:=by omega
 go_enter Tryz.func118,Tryz.ntmps118
 go_wp2
 go_loopw [3,11] (Sum1T ls w) (λ_ i _=>ls.length-(intOf i).toNat)
 case atStart=>exact⟨0,by omega,rfl,rfl,rfl⟩
 case round =>
  obtain⟨k,hk,rfl,rfl,rfl⟩:=hrel
  have hsk:=sumT_le ls k
  by_cases hlt:k<ls.length
  ·obtain⟨l,hx⟩:∃x,ls[k]?=some x:=⟨_,List.getElem?_eq_getElem hlt⟩
   obtain⟨g,o,B,d,rfl,e0,_,hB⟩:=hr.at1 hx
   have Hs:=Lib.hid (sumT_take hx)
   have hs1:=sumT_le ls (k+1)
   rw[sumT_take hx]at hs1
   generalize sumT (ls.take k)=S at *
   clear hx hB hr
   go_wp2
   go_roundw
   case rel=>exact⟨k+1,by omega,by go_num,by rw[Hs.out];go_num,rfl⟩
   case measure=>simp[intOf];omega
  ·have Hk2:Hid (ls.take k=ls):=List.take_of_length_le (by omega)
   have hg:=growTm (sumT (ls.take k)) w (by omega)
   generalize sumT (ls.take k)=S at *
   go_wp2_with (refine hg.mono ?_;rintro e w1 ⟨v,rfl,own,b1⟩)
   go_loopw [6,27] (Cat1T ls w w1) (λ_ i _=>ls.length-(intOf i).toNat)
   case atStart=>exact⟨0,v,by omega,rfl,rfl,own,b1⟩
   case round =>
    obtain⟨j,v',hj,rfl,rfl,ownj,bj⟩:=hrel
    have hsj:=sumT_le ls j
    by_cases hlt2:j<ls.length
    ·obtain⟨l,hx⟩:∃x,ls[j]?=some x:=⟨_,List.getElem?_eq_getElem hlt2⟩
     obtain⟨g,o,B,d,rfl,e0,_,hB⟩:=(hr.later bj).at1 hx
     have Hs:=Lib.hid (sumT_take hx)
     have Hf:=Lib.hid (flat_take hx id)
     have hs1:=sumT_le ls (j+1)
     rw[sumT_take hx]at hs1
     have hbs:w.heap.size<=wr.heap.size:=bj.size
     generalize hSj:sumT (ls.take j)=Sj at *
     clear hx hr hSj hg own b1
     go_wp2_with (at_builtin;refine wpList_appG rfl rfl Tryz.underlying36 tmInfo rfl (by omega) rfl ownj rfl hB.flat (tm_len l) (tm1 l) (by omega) (by omega) hbs ?_;intro v5 w5 own5 hb5 _)
     go_roundw
     case rel=>exact⟨j+1,v5,by omega,by go_num,rfl,by rw[Hs.out,Hf.out,List.flatMap_append];exact own5,bj.trans hb5⟩
     case measure=>simp[intOf];omega
    ·have hj2:ls.take j=ls:=List.take_of_length_le (by omega)
     rw[hj2,←sumT_flat]at ownj
     obtain⟨A1,d1,rfl,_,_⟩:=own_slice ownj
     clear hr hg own
     go_wp2
     go_ret
     exact⟨_,rfl,ownj,bj⟩
theorem made_tms (n:Nat):(madeCells (Value.agg #[.int .i64 0,.string ⟨#[]⟩,.string ⟨#[]⟩,.string ⟨#[]⟩]).cells (n*4)).toList=(List.replicate n (⟨0,⟨#[]⟩,⟨#[]⟩,⟨#[]⟩⟩:Tm)).flatMap tmC:=by
 have hz:(Value.agg #[.int .i64 0,.string ⟨#[]⟩,.string ⟨#[]⟩,.string ⟨#[]⟩]).cells=#[.int .i64 0,.string ⟨#[]⟩,.string ⟨#[]⟩,.string ⟨#[]⟩]:=rfl
 rw[hz]
 unfold madeCells
 simp only[Array.toList_map,Array.toList_range]
 induction n with
 | zero=>rfl
 | succ n ih =>
  have e:(n+1)*4=n*4+1+1+1+1:=by omega
  rw[e,List.range_succ,List.range_succ,List.range_succ,List.range_succ,List.replicate_succ',List.flatMap_append,←ih]
  simp only[List.map_append,List.append_assoc]
  congr 1
  have h0:(n*4) % 4=0:=by omega
  have h1:(n*4+1) % 4=1:=by omega
  have h2:(n*4+1+1) % 4=2:=by omega
  have h3:(n*4+1+1+1) % 4=3:=by omega
  simp[h0,h1,h2,h3,tmC]
theorem own_to {w:World} {base n q c sz:Nat} {e:TypeId} {A:Option Addr} {xs:List Value} (h:w.ownsRow base e sz (.slice A n c) n xs) (hq:q<=n):w.ownsRow base e sz (.slice A q c) q (xs.take (q*sz)):=by
 obtain⟨h1,h2⟩:=h
 have hm:q*sz<=n*sz:=Nat.mul_le_mul_right _ hq
 refine⟨by rw[List.length_take];omega,?_⟩
 rcases h2 with ⟨e1,e2⟩|⟨g,cap,cur,e1,h3,h4,h5,h6,h7,h8⟩
 ·injection e1 with e3 e4 e5
  subst e3;subst e5
  exact .inl ⟨by congr 1;omega,by omega⟩
 ·injection e1 with e3 e4 e5
  subst e3;subst e5
  refine .inr ⟨g,c,cur,rfl,h3,h4,by omega,h6,h7,?_⟩
  rw[←h8,List.take_take,Nat.min_eq_left hm]
theorem meanFull (row:List Tm) (Av A:Option Addr) (cv n c:Nat) (w:World) (hn:row.length=n) (hl:n<=1000000) (hc:n<=c) (hr:RdTs w A row) :
  Calls Tryz.prog 68 #[.agg #[.slice Av n cv],.slice A n c] w (TmsR row w):=by
 obtain⟨W,hW⟩:∃W:World,w.alloc (.cells #[.slice Av n cv] 130)=W:=⟨_,rfl⟩
 have hB0:Below w.heap.size w W:=by rw[←hW];exact blw
 have k0:W.heap[w.heap.size]?=some (Obj.cells #[.slice Av n cv] 130 (0,0)):=by rw[←hW];exact heap_alloc_new _ _
 have c0:W.cell? ⟨w.heap.size,0,none⟩=some (.slice Av n cv):=by rw[World.cell?,k0];rfl
 obtain⟨i,hi,hz,hsize,hby⟩:=info_parts tmInfo
 have H:=Lib.hid (And.intro hn (And.intro hB0 (And.intro hr (And.intro hi (And.intro hz (And.intro hsize hby))))))
 have HW:=Lib.hid hW
 clear hn hB0 hr k0 hW hi hz hsize hby
 go_enter Tryz.func68,Tryz.ntmps68
 go_wp2_with fail
 simp only[HW.out]
 refine Rf.p0 W.heap.size _ (.quiet [0,1,2,3,7,8,9] (.one 4 (.one 5 (.one 6 (.quiet [10,11] (.done)))))) ?_ (λa w h=>h)
 intro wd hbd hwz
 have y0:=cellL c0 hbd
 have hs1:W.heap.size<=wd.heap.size:=hbd.size
 have HBD:=Lib.hid hbd
 clear hwz c0 hbd
 refine Rf.pl_quiet ?_
 iterate 7 go_big_quiet_step (fail)
 refine wpQuiet_nil (Rf.pl_one ?_)
 obtain⟨w1,hmk,own1,hg1⟩:=run_make_full (P:=Tryz.prog) wd wd.heap.size 36 26 i _ 4 Tryz.underlying36 H.out.2.2.2.1 H.out.2.2.2.2.1 H.out.2.2.2.2.2.1 .i64 .i64 n (by rw[H.out.2.2.2.2.2.2];omega) (by unfold maxLen;omega) (Nat.le_refl _)
 have hb1:Below wd.heap.size wd w1:=(Below.refl _ wd).grown hg1 (Nat.le_refl _) (λk hk=>by cases hk)
 rw[made_tms]at own1
 have HM:=Lib.hid (And.intro own1 hb1)
 have hs2:W.heap.size<=w1.heap.size:=Nat.le_trans hs1 hb1.size
 clear own1 hg1 hb1
 go_wp2
 refine⟨HM.out.2.mono hs1,Rf.pl_one ?_⟩
 go_wp2
 refine⟨(Below.refl _ _).alloc hs2 _,Rf.pl_one ?_⟩
 obtain⟨V,hV⟩:∃V:World,w1.alloc (.cells #[.slice A n c,.slice (some ⟨wd.heap.size,0,none⟩) n n] 36)=V:=⟨_,rfl⟩
 have hbV:Below w1.heap.size w1 V:=by rw[←hV];exact blw
 have hB2:=below_tr (below_tr (below_tr H.out.2.1 HBD.out) HM.out.2) hbV
 have hrl:(List.replicate n (⟨0,⟨#[]⟩,⟨#[]⟩,⟨#[]⟩⟩:Tm)).length=n:=List.length_replicate
 have hrd:RdRs V (some ⟨w1.heap.size,0,none⟩) [row,List.replicate n (⟨0,⟨#[]⟩,⟨#[]⟩,⟨#[]⟩⟩:Tm)]:=by
  obtain⟨A9,c9,e9,_,hr9⟩:=own_slice (own_below HM.out.1 hbV (Nat.le_refl _))
  injection e9 with e9
  refine⟨[.slice A n c,.slice (some ⟨wd.heap.size,0,none⟩) n n],by rw[←hV];exact Rd.of_block (heap_alloc_new _ _) rfl,?_⟩
  have r1:RdRow V [.slice A n c] row:=⟨A,c,by rw[H.out.1],by rw[H.out.1];exact hc,RdTs.later H.out.2.2.1 hB2⟩
  have r2:RdRow V [.slice (some ⟨wd.heap.size,0,none⟩) n n] (List.replicate n (⟨0,⟨#[]⟩,⟨#[]⟩,⟨#[]⟩⟩:Tm)):=⟨_,n,by rw[hrl],by rw[hrl];exact Nat.le_refl _,RdTs.of (by rw[e9];exact hr9)⟩
  exact(All.one rfl r1).append (All.one rfl r2)
 have hcall:=concatTm [row,List.replicate n (⟨0,⟨#[]⟩,⟨#[]⟩,⟨#[]⟩⟩:Tm)] (some ⟨w1.heap.size,0,none⟩) 2 V hrd (by simp) (by simp[sumT,H.out.1];omega)
 have hfl:[row,List.replicate n (⟨0,⟨#[]⟩,⟨#[]⟩,⟨#[]⟩⟩:Tm)].flatMap id=row++List.replicate n ⟨0,⟨#[]⟩,⟨#[]⟩,⟨#[]⟩⟩:=by simp
 rw[hfl]at hcall
 have HV:=Lib.hid hV
 have HB2:=Lib.hid hB2
 have hsV:W.heap.size<=V.heap.size:=Nat.le_trans hs2 hbV.size
 have hwV:w.heap.size<=V.heap.size:=hB2.size
 clear hV hbV hB2 hrd hrl hfl
 simp only[HV.out]
 go_wp2_with (go_at_call 118;refine hcall.mono ?_;rintro e w5 ⟨v,rfl,own,hb5⟩)
 rw[List.length_append,List.length_replicate,H.out.1]at own
 obtain⟨A5,c5,rfl,hc5,_⟩:=own_slice own
 have hrun:=run_toG (P:=Tryz.prog) Tryz.underlying36 Tryz.sizeOf26 A5 c5 n (n+n) (by omega)
 have own2:=own_to own (q:=n) (by omega)
 rw[List.flatMap_append,List.take_append_of_le_length (by rw[tm_len,H.out.1];exact Nat.le_refl _),List.take_of_length_le (by rw[tm_len,H.out.1];exact Nat.le_refl _)]at own2
 have HF:=Lib.hid (And.intro own2 (below_tr HB2.out hb5))
 refine⟨hb5.mono hsV,Rf.pl_quiet ?_⟩
 clear own own2 hb5 hcall
 iterate 2 go_big_quiet_step (fail)
 refine wpQuiet_nil (Rf.pl_done ?_)
 go_wp2
 go_ret
 exact⟨_,rfl,by rw[H.out.1];exact own_lower HF.out.1 hwV,HF.out.2⟩
theorem rows_push {base:Nat} {w V w6:World} {v v' x:Value} {xs:List Value} {rows:List (List Tm)} {row:List Tm} (own:w.ownsRow base 36 1 v rows.length xs) (hall:All 1 (OwnRow base w) xs rows) (hb:Below w.heap.size w V) (hrow:OwnRow base V [x] row) (own6:w6.ownsRow base 36 1 v' (rows.length+1) (xs++[x])) (hg6:V.grownBy w6 v.ownBlock):OwnRs base w6 v' (rows++[row]):=by
 have own2:=own_below own hb (Nat.le_refl _)
 have k5:∀e,36≠e->KeepT e V w6:=λe he=>KeepT.grown hg6 (own_blockR own2) he
 exact⟨xs++[x],by rw[List.length_append];exact own6,(hall.mono λ_ _ _ h=>(h.keep (KeepT.below hb)).keep (k5 _ (by decide))).append (All.one rfl (hrow.keep (k5 _ (by decide))))⟩
theorem meanSort (W0:World) (hC:CtxT W0) (vars:List ByteArray) (keys:List Ky) (tb qb nv cv no co n:Nat) (Av Ao:Option Addr) (v:Value) (rows:List (List Tm)) (cq:Array Value) (w:World) (hB:Below W0.heap.size W0 w) (hO:OwnRs W0.heap.size w v rows) (hn:rows.length=n) (hl:n<=1000000) (hz:∀r∈rows,smallRow r) (hw:∀r∈rows,r.length=nv) (hnv:vars.length=nv) (hks:keys.length=no) (hlo:no<=1000000) (hlv:nv<=1000000)
  (hpl:∀p∈placesL vars (keys.map (·.v)),0<=p/\p<nv) (hv:Rd W0 Av (vars.map Value.string)) (hky:RdKey W0 Ao keys) (htb:w.heap[tb]?=some (Obj.cells #[.slice Av nv cv] 130 (0,0))) (hqb:w.heap[qb]?=some (Obj.cells cq 50 (0,0))) (h5:cq[5]?=some (.slice Ao no co)) :
  Calls Tryz.prog 69 #[v,.func (.func 70) #[] #[.pointer (some ⟨tb,0,none⟩),.pointer (some ⟨qb,0,none⟩)]] w λe w'=>e=.returned (.tuple #[])/\Below W0.heap.size W0 w'/\(∀e,36≠e->KeepT e w w')/\OwnRs W0.heap.size w' v (sortK (keysP (placesL vars (keys.map (·.v))) keys) rows):=by
 have eg:∀args w,(callFunc 70 args).run Tryz.prog w=.ok (.enter 70 args) w:=enters_of Tryz.func70 (by kernel_rfl) rfl
 obtain⟨xs,own,hA⟩:=hO
 by_cases h0:0<n
 ·rw[hn]at own
  rcases RowV.of_own own with ⟨_,e2,_⟩|⟨g,cap,rest,rfl,hg,hV,hc1,hc2,hc3,hc4⟩
  ·omega
  obtain⟨d,rfl,rfl⟩:=sr_all hA hz hw
  have hdn:d.length=n:=by simpa using hn
  have hne:0<d.length:=by omega
  letI:Inhabited (SR W0.heap.size w nv):=⟨d[0]⟩
  have hV':RowV g (d.toArray.toList.map encR) rest w:=hV
  have hO:OneCell (encR (base:=W0.heap.size) (w:=w) (nv:=nv)):=λx=>by
   obtain⟨v,h1,h2⟩:=x.2.1
   injection h1 with h1
   obtain⟨A,c,rfl,_⟩:=own_slice h2
   show x.1.1.oneCell'=true
   rw[h1];rfl
  have hcmp:CmpLays1 Tryz.prog 70 #[.pointer (some ⟨tb,0,none⟩),.pointer (some ⟨qb,0,none⟩)] encR (cfR (base:=W0.heap.size) (w:=w) (nv:=nv) (keysP (placesL vars (keys.map (·.v))) keys)) g 0 d.toArray.size w:=by
   intro m os dk hs x y
   have S:SW encR w g 0 dk (sortWorld encR w g 0 m dk os):=⟨m,os,rfl⟩
   generalize sortWorld encR w g 0 m dk os=W at S ⊢
   have hb:Below W0.heap.size W0 W:=hB.trans (below_sw hg hB.size S)
   have hk:∀e,36≠e->KeepT e w W:=λe he=>keep_sw hV S he
   obtain⟨A,c,e1,_,hx⟩:=(x.2.1.keep (hk _ (by decide))).rd
   obtain⟨B,c2,e2,_,hy⟩:=(y.2.1.keep (hk _ (by decide))).rd
   injection e1 with e1 _
   injection e2 with e2 _
   have hxn:=x.2.2.2
   have hyn:=y.2.2.2
   rw[hxn]at e1
   rw[hyn]at e2
   show Calls _ _ (#[x.1.1,y.1.1]++_) W _
   rw[e1,e2]
   have k1:=hk _ (by decide) _ _ _ htb
   have k2:=hk _ (by decide) _ _ _ hqb
   exact calls_grow (meanRows1 x.1.2 y.1.2 vars keys nv c nv cv c2 no co tb qb A B Av Ao W hnv hxn hyn hks hlo hlv hpl (hC.step hb) hx hy x.2.2.1 y.2.2.1 (hv.later hb) (RdL.mono hky hb (λ_ _ _ h=>h)) (by rw[World.cell?,k1];rfl) (by rw[World.cell?,k2];exact h5))
  have H:SortAt encR (cfR (base:=W0.heap.size) (w:=w) (nv:=nv) (keysP (placesL vars (keys.map (·.v))) keys)) 70 #[.pointer (some ⟨tb,0,none⟩),.pointer (some ⟨qb,0,none⟩)] g 0 d.toArray w:=
   {hO:=swoR _,eg:=eg,hcmp:=hcmp,R:=⟨hO,hV'.holds,hV.lt⟩,hsz:=by simp;omega}
  refine(sortStable encR _ _ _ g 0 cap n d.toArray w H (by simpa using hdn)).mono ?_
  rintro e w' ⟨rfl,D,S,hp,hs⟩
  have hk:∀e,36≠e->KeepT e w w':=λe he=>keep_sw hV S he
  rw[←hdn]at hp hs
  have hDn:(D.toList.map λx=>x.1.1).length=n:=by have:=hp.1;simp at this ⊢;omega
  refine⟨rfl,hB.trans (below_sw hg hB.size S),hk,D.toList.map (·.1.1),?_,?_⟩
  ·rw[←sr_sorted _ d D hp hs,List.length_map]
   have hDl:D.toList.length=n:=by simpa using hDn
   rw[hDl]
   exact RowV.own (hV'.sw hp.1 S) hg hDn hc4 hc2
  ·rw[←sr_sorted _ d D hp hs]
   exact(sr_back D.toList).mono λ_ _ _ h=>h.keep (hk _ (by decide))
 ·have hr:rows=[]:=List.eq_nil_of_length_eq_zero (by omega)
  subst hr
  obtain⟨A,c,rfl,_,_⟩:=own_slice own
  refine(sortStableNone A c _ w).mono ?_
  rintro e w' ⟨rfl,rfl⟩
  have hs:sortK (keysP (placesL vars (keys.map (·.v))) keys) []=[]:=by simp[sortK]
  rw[hs]
  exact⟨rfl,hB,λ_ _ _ _ _ h=>h,xs,own,hA⟩
open Lx
abbrev STp:={t:Tp // smallP3 t}
instance:Inhabited STp:=⟨⟨zTp,⟨small_z,small_z,small_z⟩⟩⟩
def encTp (x:STp):List Value:=tpL x.1
def cfS (x y:STp):Int:=cmpTp x.1 y.1
theorem encTp_len (x:STp):(encTp x).length=12:=rfl
theorem encTp_one (x:STp):∀v∈encTp x,v.oneCell'=true:=tpL_one x.1
theorem ltS (x y:STp):ltOf cfS x y=ltTp x.1 y.1:=rfl
theorem swoS:Sort.SWO (ltOf cfS) where
 irrefl:=λx=>by rw[ltS];unfold ltTp;rw[tp_self];rfl
 trans:=λx y z h1 h2=>by
  rw[ltS]at h1 h2 ⊢
  unfold ltTp at h1 h2 ⊢
  rw[decide_eq_true_iff]at h1 h2 ⊢
  exact ordF_Tp.tr _ _ _ h1 h2
 ntrans:=λx y z h1 h2=>by
  rw[ltS]at h1 h2 ⊢
  unfold ltTp at h1 h2 ⊢
  rw[decide_eq_false_iff_not]at h1 h2 ⊢
  have n1:=ordF_Tp.neg x.1 y.1;have n2:=ordF_Tp.neg y.1 z.1;have n3:=ordF_Tp.neg x.1 z.1
  have:=ordF_Tp.le (a:=z.1) (b:=y.1) (c:=x.1) (by omega) (by omega)
  omega
theorem totS (x y:STp) (h1:ltOf cfS x y=false) (h2:ltOf cfS y x=false):x=y:=by
 rw[ltS]at h1 h2
 unfold ltTp at h1 h2
 rw[decide_eq_false_iff_not]at h1 h2
 rcases tp_three x.1 y.1 with h|h|h
 ·exact absurd h h1
 ·exact Subtype.ext h
 ·exact absurd h h2
theorem below_sort {base:Nat} {w:World} {blk off m:Nat} {dk:Array STp} {os:Array Obj} (hb:base<=blk) (hw:base<=w.heap.size):Below base w (sortWorldK encTp 12 w blk off m dk os):=by
 unfold sortWorldK Go.Sort.putRowK Sort.grow Sort.putRow Sort.mapBlock Sort.ahead
 refine⟨rfl,rfl,rfl,by simp,λk hk=>?_⟩
 have hne:blk≠k:=by omega
 simp only[Array.getElem?_append,Array.size_modify]
 rw[if_pos (by omega),Array.getElem?_modify,if_neg hne]
theorem sortS_val (d:List STp):(d.mergeSort λx y => !ltOf cfS y x).map (·.1)=(d.map (·.1)).mergeSort λx y => !ltTp y x:=by
 rw[List.map_mergeSort]
 intro a _ b _
 rw[ltS]
theorem flat_set {l:List Tp} {i:Nat} {x:Tp} (h:i<l.length):(l.set i x).flatMap tpL=(l.take i).flatMap tpL++(tpL x++(l.drop (i+1)).flatMap tpL):=by
 rw[List.set_eq_take_append_cons_drop,if_pos h,List.flatMap_append,List.flatMap_cons]
theorem flat_split {l:List Tp} {i:Nat} {y:Tp} (h:l[i]?=some y):l.flatMap tpL=(l.take i).flatMap tpL++(tpL y++(l.drop (i+1)).flatMap tpL):=by
 conv=>lhs;rw[←List.take_append_drop i l,drop_cons_of h]
 rw[List.flatMap_append,List.flatMap_cons]
theorem take_flat (l:List Tp) (k:Nat):(l.flatMap tpL).take (k*12)=(l.take k).flatMap tpL:=by
 have e:l.flatMap tpL=(l.take k).flatMap tpL++(l.drop k).flatMap tpL:=by rw[←List.flatMap_append,List.take_append_drop]
 by_cases h:k<=l.length
 ·rw[e,List.take_left' (by rw[tpL_len,List.length_take,Nat.min_eq_left h])]
 ·rw[List.take_of_length_le (by rw[tpL_len];omega),List.take_of_length_le (by omega)]
theorem putAt_row {l:List Tp} {rest:List Value} {i:Nat} {x:Tp} (h:i<l.length):putAt (l.flatMap tpL++rest).toArray (i*12) (tpL x)=((l.set i x).flatMap tpL++rest).toArray:=by
 have hy:l[i]?=some l[i]:=List.getElem?_eq_getElem h
 have hp:=putAt_mid (tpL x) ((l.take i).flatMap tpL) (tpL l[i]) ((l.drop (i+1)).flatMap tpL++rest) rfl
 rw[tpL_len,List.length_take,Nat.min_eq_left (by omega)]at hp
 rw[flat_split hy,flat_set h]
 simpa only[List.append_assoc] using hp
def RowTp (g:Nat) (l:List Tp) (rest:List Value) (w:World):Prop:=w.heap[g]?=some (.cells (l.flatMap tpL++rest).toArray 28 (0,0))
theorem RowTp.store {g:Nat} {l:List Tp} {rest:List Value} {w:World} (h:RowTp g l rest w) {i:Nat} (hi:i<l.length) (x:Tp):RowTp g (l.set i x) rest (w.setCells g (i*12) (tpL x)):=by
 have:=heap_setCells g _ _ (tpL x) (i*12) w _ h
 rw[putAt_row hi]at this
 exact this
theorem RowTp.rd {g:Nat} {l:List Tp} {rest:List Value} {w:World} (h:RowTp g l rest w):Rd w (some ⟨g,0,none⟩) (l.flatMap tpL):=by
 refine .inr ⟨g,0,rfl,λj u hu=>?_⟩
 rw[Lib.cell_of_heap h,Nat.zero_add,List.getElem?_toArray,List.getElem?_append_left (List.getElem?_eq_some_iff.1 hu).1]
 exact hu
theorem RowTp.lt {g:Nat} {l:List Tp} {rest:List Value} {w:World} (h:RowTp g l rest w):g<w.heap.size:=(Array.getElem?_eq_some_iff.1 h).1
theorem RowTp.frozen {g:Nat} {l:List Tp} {rest:List Value} {w:World} (h:RowTp g l rest w) (i:Nat):w.frozen? ⟨g,i,none⟩=false:=Lib.frozen_of_heap h i
theorem RowTp.there {g:Nat} {l:List Tp} {rest:List Value} {w:World} (h:RowTp g l rest w) {o n:Nat} (hn:o+n<=l.length*12):w.there g o n:=λj hj=>by
 refine⟨?_,h.frozen _⟩
 rw[Lib.cell_of_heap h,List.getElem?_toArray,List.getElem?_eq_getElem (by rw[List.length_append,tpL_len];omega)]
 rfl
theorem RowTp.at12 {g:Nat} {l:List Tp} {rest:List Value} {w:World} (h:RowTp g l rest w) {i:Nat} {t:Tp} (ht:l[i]?=some t) :
  w.cell? ⟨g,i*12,none⟩=some (.int .i64 t.s.k)/\w.cell? ⟨g,i*12+1,none⟩=some (.string t.s.x)/\w.cell? ⟨g,i*12+2,none⟩=some (.string t.s.l)/\w.cell? ⟨g,i*12+3,none⟩=some (.string t.s.y)/\w.cell? ⟨g,i*12+4,none⟩=some (.int .i64 t.p.k)/\w.cell? ⟨g,i*12+5,none⟩=some (.string t.p.x)/\w.cell? ⟨g,i*12+6,none⟩=some (.string t.p.l)/\w.cell? ⟨g,i*12+7,none⟩=some (.string t.p.y)/\w.cell? ⟨g,i*12+8,none⟩=some (.int .i64 t.o.k)/\w.cell? ⟨g,i*12+9,none⟩=some (.string t.o.x)/\w.cell? ⟨g,i*12+10,none⟩=some (.string t.o.l)/\w.cell? ⟨g,i*12+11,none⟩=some (.string t.o.y):=by
 obtain⟨g',o,he,h⟩:=rd_at12 h.rd ht
 injection he with he;injection he with h5 h6;subst h5;subst h6
 simpa only[Nat.zero_add] using h
theorem RowTp.of_own {w:World} {base n:Nat} {v:Value} {l:List Tp} (h:w.ownsRow base 28 12 v n (l.flatMap tpL)):(v=.slice none 0 0/\l=[])∨∃g cap rest,v=.slice (some ⟨g,0,none⟩) n cap/\base<=g/\RowTp g l rest w/\n<=cap/\cap<=maxLen/\l.length=n/\rest.length=(cap-n)*12:=by
 have hl:=h.1
 rw[tpL_len]at hl
 rcases h.2 with ⟨rfl,h0⟩|⟨g,cap,cur,rfl,hg,hh,hn,hm,hs,ht⟩
 ·subst h0
  exact .inl ⟨rfl,List.eq_nil_of_length_eq_zero (by omega)⟩
 ·refine .inr ⟨g,cap,cur.toList.drop (n*12),rfl,hg,?_,hn,hm,by omega,by simp[hs];omega⟩
  unfold RowTp
  rw[←ht,List.take_append_drop,Array.toArray_toList]
  exact hh
theorem RowTp.own {w:World} {base g cap k:Nat} {l:List Tp} {rest:List Value} (h:RowTp g l rest w) (hb:base<=g) (hk:k<=l.length) (hc:(l.length*12+rest.length)=cap*12) (hm:cap<=maxLen) :
  w.ownsRow base 28 12 (.slice (some ⟨g,0,none⟩) k cap) k ((l.take k).flatMap tpL):=by
 refine⟨by rw[tpL_len,List.length_take,Nat.min_eq_left hk],.inr ⟨g,cap,_,rfl,hb,h,by omega,hm,by simp only[List.size_toArray,List.length_append,tpL_len];omega,?_⟩⟩
 rw[List.take_append_of_le_length (by rw[tpL_len];omega),take_flat]
theorem RowTp.cleared {w:World} {base g cap k:Nat} {l:List Tp} {rest vs:List Value} (h:RowTp g l rest w) (hb:base<=g) (hk:k<=l.length) (hc:(l.length*12+rest.length)=cap*12) (hm:cap<=maxLen) :
  (w.setCells g (k*12) vs).ownsRow base 28 12 (.slice (some ⟨g,0,none⟩) k cap) k ((l.take k).flatMap tpL):=by
 refine⟨by rw[tpL_len,List.length_take,Nat.min_eq_left hk],.inr ⟨g,cap,_,rfl,hb,heap_setCells g _ _ vs (k*12) w _ h,by omega,hm,by rw[putAt_size];simp only[List.size_toArray,List.length_append,tpL_len];omega,?_⟩⟩
 rw[putAt_low _ _ _ _ (Nat.le_refl _),List.take_append_of_le_length (by rw[tpL_len];omega),take_flat]
def Stay (p:Prop):Prop:=p
theorem stay {p:Prop} (h:Stay p):p:=h
theorem tp_size:(Tryz.prog.info? 28).map (·.size)=some 12:=by kernel_rfl
theorem tpC_one (t:Tp):(tpC t).all (·.oneCell')=true:=all_oneCell_toArray (tpL_one t)
theorem wpList_store_tp {w:World} {ops:Array Oper} {rest:List Oper} {op:Oper} {a:Act} {Q:Exit->Act->World->Prop} (hgd:op.guard=none) (x y:Operand) (ho:op.op=.store 28 x y)
  (g k:Nat) (t:Tp) (hx:a.eval x=.pointer (some ⟨g,k*12,none⟩)) (hy:a.eval y=tpA t) (ht:w.there g (k*12) 12)
  (h:wpList Tryz.prog ops Q rest (a.put op.dst undef) (w.setCells g (k*12) (tpL t))):wpList Tryz.prog ops Q (op::rest) a w:=
 wpList_store_mid hgd 28 x y ho g (k*12) (tpC t) hx hy ht tp_size (tpC_one t) h
end Go.Proofs.YtoaemihcbmlkgaaGreatDoor
