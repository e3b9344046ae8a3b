/- The program's package query, walked: met.meet: names, each o -/
import Derived.Test.YtfcbghmbbjolcaaGreatDoorJMnMath
set_option maxHeartbeats 4000000
set_option maxRecDepth 100000
namespace Go.Proofs.YtfcbghmbbjolcaaGreatDoor
open Go Go.RowKit Mt
theorem bf:(Tryz.prog.info? 9).map (λi=>(i.zero,i.size,i.bytes))=some (some (.string ⟨#[]⟩),1,16):=by kernel_rfl
theorem If (l:List ByteArray) (x:ByteArray) (A:Option Addr) (c:Nat) (w:World) (hl:l.length<=281474976710656) (hr:Rd w A (l.map Value.string)) :
  Calls Tryz.prog 205 #[.slice A l.length c,.string x] w λe w'=>e=.returned (.bool (dz l x))/\w=w':=by
 have hI:=wg l x A c w hl hr
 unfold dz
 generalize Lib.idxOfS l x=i at *
 clear hr hl
 go_enter Tryz.func205,Tryz.ntmps205
 go_wp2_with (refine hI.mono ?_;rintro e w' ⟨rfl,rfl⟩)
 go_ret
 exact⟨rfl,rfl⟩
structure eO (base b:Nat) (w:World) (v:Value) (l:List ByteArray):Prop where
 cell:w.cell? ⟨b,0,none⟩=some v
 fr:w.frozen? ⟨b,0,none⟩=false
 own:w.ownsRow base 9 1 v l.length (l.map Value.string)
 lo:base<=b
 ne:v.ownBlock≠some b
structure aD (base b:Nat) (w:World) (v:Value) (w':World) (v':Value):Prop where
 below:Below base w w'
 keep:∀k,k<w.heap.size->k≠b->some k≠v.ownBlock->w'.heap[k]?=w.heap[k]?
 size:w.heap.size<=w'.heap.size
 blk:v'.ownBlock=v.ownBlock∨∀k,v'.ownBlock=some k->w.heap.size<=k
theorem aD.refl (base b:Nat) (w:World) (v:Value):aD base b w v w v:=⟨Below.refl _ _,λ_ _ _ _=>rfl,Nat.le_refl _,.inl rfl⟩
theorem aD.trans {base b:Nat} {w w1 w2:World} {v v1 v2:Value} (h:aD base b w v w1 v1) (k:aD base b w1 v1 w2 v2):aD base b w v w2 v2:=by
 refine⟨h.below.trans k.below,λj hj hjb hjv=>?_,Nat.le_trans h.size k.size,?_⟩
 ·rw[k.keep j (Nat.lt_of_lt_of_le hj h.size) hjb ?_,h.keep j hj hjb hjv]
  rcases h.blk with e|e
  ·rw[e];exact hjv
  ·intro e2
   have:=e j e2.symm
   omega
 ·rcases k.blk with e|e
  ·rw[e];exact h.blk
  ·exact .inr λj hj=>Nat.le_trans h.size (e j hj)
theorem aD.of_below {base b:Nat} {w w':World} (v:Value) (h:Below w.heap.size w w') (hb:base<=w.heap.size):aD base b w v w' v:=
 ⟨h.mono hb,λk hk _ _=>h.block k hk,h.size,.inl rfl⟩
theorem aD.cell {base b:Nat} {w w':World} {v v':Value} (h:aD base b w v w' v') {p:Addr} {u:Value} (hc:w.cell? p=some u) (h1:p.block≠b) (h2:some p.block≠v.ownBlock):w'.cell? p=some u:=by
 rw[World.cell?,h.keep _ (ag hc) h1 h2];exact hc
theorem aD.rd {base b:Nat} {w w':World} {v v':Value} (h:aD base b w v w' v') {A:Option Addr} {xs:List Value} (hr:Rd w A xs) (hA:∀a,A=some a->a.block≠b/\some a.block≠v.ownBlock):Rd w' A xs:=by
 rcases hr with h0|⟨g,o,rfl,hx⟩
 ·exact .inl h0
 ·obtain⟨h1,h2⟩:=hA _ rfl
  exact .inr ⟨g,o,rfl,λj u hu=>h.cell (hx j u hu) h1 h2⟩
theorem eO.later {base b:Nat} {w w':World} {v:Value} {l:List ByteArray} (h:eO base b w v l) (hb:Below w.heap.size w w'):eO base b w' v l:=
 ⟨ac h.cell hb,by rw[hb.frozen (ag h.cell)];exact h.fr,own_below h.own hb (Nat.le_refl _),h.lo,h.ne⟩
theorem eO.open_ {base b:Nat} {w:World} {v:Value} {l:List ByteArray} (h:eO base b w v l):∃A c,v=.slice A l.length c/\l.length<=c/\Rd w A (l.map Value.string)/\w.cell? ⟨b,0,none⟩=some (.slice A l.length c):=by
 obtain⟨A,c,rfl,hc,hr⟩:=own_slice h.own
 exact⟨A,c,rfl,hc,hr,h.cell⟩
def GA (base b:Nat) (v:Value) (l:List ByteArray) (w:World) (e:Ending) (w':World):Prop:=(∃u,e=.returned u)/\∃v',eO base b w' v' l/\aD base b w v w' v'
def JL (base b:Nat) (v:Value) (l names:List ByteArray) (w:World) (i:Value) (wr:World):Prop:=∃(k:Nat) (v':Value),k<=names.length/\i=.int .i64 k/\eO base b wr v' (aF l (names.take k))/\aD base b w v wr v'
theorem Gn (base b:Nat) (v:Value) (l names:List ByteArray) (A:Option Addr) (c:Nat) (w:World) (hm:eO base b w v l) (hr:Rd w A (names.map Value.string)) (hA:∀a,A=some a->a.block≠b/\some a.block≠v.ownBlock)
  (hbase:base<=w.heap.size) (hl:l.length+names.length<=1000000) :
  Calls Tryz.prog 148 #[.pointer (some ⟨b,0,none⟩),.slice A names.length c] w (GA base b v (aF l names) w):=by
 have hnl:(names.length:Int)<=1000000:=by omega
 go_enter Tryz.func148,Tryz.ntmps148
 go_wp2
 go_loopw [8] (JL base b v l names w) (λi _=>names.length-(intOf i).toNat)
 case atStart=>exact⟨0,v,by omega,rfl,hm,aD.refl _ _ _ _⟩
 case round =>
  obtain⟨k,v',hk,rfl,hM,hK⟩:=hrel
  by_cases hlt:k<names.length
  ·obtain⟨s,hs⟩:∃x,names[k]?=some x:=⟨_,List.getElem?_eq_getElem hlt⟩
   obtain⟨g,o,rfl,c0⟩:=(hK.rd hr hA).at_ (j:=k) (u:=.string s) (by simp[hs])
   obtain⟨A1,c1,rfl,hc1,hr1,hv1⟩:=hM.open_
   have hfr:=hM.fr
   have hlen:(aF l (names.take k)).length<=1000000:=by
    have:=cu (names.take k) l
    rw[List.length_take]at this;omega
   have hH:=If (aF l (names.take k)) s A1 c1 wr (by omega) hr1
   have Hs:Hid (aF l (names.take (k+1))=fl (aF l (names.take k)) s):=by
    show _=_
    rw[ah hs,eu];rfl
   have hbw:b<wr.heap.size:=ag hv1
   have hbs:base<=wr.heap.size:=Nat.le_trans hbase hK.size
   have hlen2:(fl (aF l (names.take k)) s).length<=1000000+1:=Nat.le_trans (Cz _ _) (by omega)
   have Hlen2:=Lib.hid hlen2
   generalize aF l (names.take k)=m at *
   cases hq:dz m s
   ·rw[hq]at hH
    have hmn:=Cx hq
    have Hmn:=Lib.hid hmn
    have HM:=Lib.hid hM
    have HK:=Lib.hid hK
    have hba:Below wr.heap.size wr (wr.alloc (.cells #[.string s] 9)):=blw
    have own0:=own_below hM.own hba (Nat.le_refl _)
    have hbne:=hM.ne
    have own0':=Lib.hid hM.own.lt
    have hnew:∀(j:Nat) (u:Value),[Value.string s][j]?=some u->(wr.alloc (.cells #[.string s] 9)).cell? ((⟨wr.heap.size,0,none⟩:Addr).add j)=some u:=by
     intro j u hu
     rw[aR,Nat.zero_add,World.cell?,heap_alloc_new]
     simpa using hu
    obtain⟨i,hi,hz,hsize,hby⟩:=info_parts bf
    clear hs hr hA hr1 hq hmn hlen2 hM hK hm
    go_wp2_with (first
     | (go_at_call 205;refine hH.mono ?_;rintro e w2 ⟨rfl,rfl⟩)
     | (at_builtin;(refine wpList_append_own_at _ rfl _ _ 23 rfl base 9 i _ 1 16 Tryz.underlying23 hi hz hsize hby rfl (by omega) _ m.length (m.map Value.string) rfl own0 ⟨wr.heap.size,0,none⟩ 1 1 [.string s] rfl rfl hnew (by intro u hu;simp at hu;subst hu;rfl) (by unfold maxLen;omega) (by omega) (by simp;omega) ?_;intro v4 w4 own4 hg4 _ hbk4;obtain⟨A4,c4,rfl,_,_⟩:=own_slice own4;have d0:=(hg4.cell_far ⟨b,0,none⟩ (by simp;omega) (λe=>hbne e.symm)).trans ((hba.cell (p:=⟨b,0,none⟩) hbw).trans hv1);have d1:=(hg4.frozen_far ⟨b,0,none⟩ (by simp;omega) (λe=>hbne e.symm)).trans ((hba.frozen (p:=⟨b,0,none⟩) hbw).trans hfr))))
    go_roundw
    case rel =>
     have hM':=HM.out
     have hz4:=hg4.size
     have hblk:(Value.slice A4 (m.length+1) c4).ownBlock=(Value.slice A1 m.length c1).ownBlock∨∀k,(Value.slice A4 (m.length+1) c4).ownBlock=some k->wr.heap.size<=k:=by
      rcases hbk4 with e|e
      ·exact .inl e
      ·exact .inr λk hk=>by rw[e]at hk;injection hk with hk;simp at hk;omega
     have hne4:(Value.slice A4 (m.length+1) c4).ownBlock≠some b:=by
      rcases hblk with e|e
      ·rw[e];exact hbne
      ·intro e2;have:=e b e2;omega
     have hgs:=grownBy_setCell' w4 b (.slice A4 (m.length+1) c4)
     have own5:=own4.kept hgs (.inr hne4)
     refine⟨k+1,.slice A4 (m.length+1) c4,by omega,by go_num,⟨World.cell?_setCell_same' _ _ _ (by rw[d0];rfl),by rw[World.frozen?_setCell];exact d1,?_,hM'.lo,hne4⟩,HK.out.trans ⟨?_,?_,?_,?_⟩⟩
     ·rw[Hs.out,Hmn.out,List.length_append,List.map_append];exact own5
     ·refine Below.setCell ?_ (p:=⟨b,0,none⟩) hM'.lo _
      exact Below.grown ((Below.refl _ _).alloc hbs _) hg4 (by simp;omega) λq e=>(own0'.out q e).1
     ·intro q hq hqb hqv
      rw[hgs.block q (by simp at hz4;omega) (λe=>hqb (by injection e)),hg4.block q (by simp;omega) hqv,Below.heap_alloc _ _ _ hq]
     ·simp at hz4
      have:=hgs.size
      omega
     ·rcases hblk with e|e
      ·exact .inl e
      ·exact .inr λq hq=>e q hq
    case measure=>simp[intOf];omega
   ·rw[hq]at hH
    have hmn:=tH hq
    rw[hmn]at Hs
    have HM:=Lib.hid hM
    have HK:=Lib.hid hK
    clear hs hr hA hr1 hq hmn hM hK hm
    go_wp2_with (go_at_call 205;refine hH.mono ?_;rintro e w2 ⟨rfl,rfl⟩)
    go_roundw
    case rel=>exact⟨k+1,_,by omega,by go_num,by rw[Hs.out];exact HM.out,HK.out⟩
    case measure=>simp[intOf];omega
  ·have hk2:names.take k=names:=List.take_of_length_le (by omega)
   rw[hk2]at hM
   go_wp2
   go_end0
   exact⟨⟨_,rfl⟩,v',hM,hK⟩
open Um Fm
abbrev IQ (w:World) (A:Option Addr) (l:List Sl):Prop:=RdL 5 (λcs s=>cs=slC s) w A l
theorem RdL.keeps {α:Type} {sz:Nat} {R:List Value->α->Prop} {base b:Nat} {w w':World} {v v':Value} (h:aD base b w v w' v') {A:Option Addr} {l:List α} (hr:RdL sz R w A l) (hA:∀a,A=some a->a.block≠b/\some a.block≠v.ownBlock):RdL sz R w' A l:=by
 obtain⟨xs,h1,h2⟩:=hr
 exact⟨xs,h.rd h1 hA,h2⟩
theorem qf {ss:List Sl} {k:Nat} {x:Sl} (h:ss[k]?=some x):bF (ss.take (k+1))=bF (ss.take k)++bF [x]:=by
 rw[ah h];unfold bF;rw[List.map_append,List.filter_append]
theorem ly {x:Sl} (h:x.v.toList.isEmpty=true):bF [x]=[]:=qe [] h
theorem tD {x:Sl} (h:x.v.toList.isEmpty=false):bF [x]=[x.v]:=kA [] h
def IN (base b:Nat) (v:Value) (l:List ByteArray) (ss:List Sl) (w:World) (i:Value) (wr:World):Prop:=∃(k:Nat) (v':Value),k<=ss.length/\i=.int .i64 k/\eO base b wr v' (aF l (bF (ss.take k)))/\aD base b w v wr v'
theorem GQ (base b:Nat) (v:Value) (l:List ByteArray) (ss:List Sl) (A:Option Addr) (c:Nat) (w:World) (hm:eO base b w v l) (hr:IQ w A ss) (hA:∀a,A=some a->a.block≠b/\some a.block≠v.ownBlock)
  (hbase:base<=w.heap.size) (hl:l.length+ss.length<=1000000) :
  Calls Tryz.prog 95 #[.pointer (some ⟨b,0,none⟩),.slice A ss.length c] w (GA base b v (aF l (bF ss)) w):=by
 have hnl:(ss.length:Int)<=1000000:=by omega
 go_enter Tryz.func95,Tryz.ntmps95
 go_wp2
 go_loopw [8] (IN base b v l ss w) (λi _=>ss.length-(intOf i).toNat)
 case atStart=>exact⟨0,v,by omega,rfl,hm,aD.refl _ _ _ _⟩
 case round =>
  obtain⟨k,v',hk,rfl,hM,hK⟩:=hrel
  by_cases hlt:k<ss.length
  ·obtain⟨x,hs⟩:∃x,ss[k]?=some x:=⟨_,List.getElem?_eq_getElem hlt⟩
   obtain⟨g,o,cs,rfl,-,rfl,hx⟩:=(RdL.keeps hK hr hA).at_ (by omega) hs
   have c0:wr.cell? ⟨g,o+k*5,none⟩=some (.string x.v):=hx 0 _ rfl
   have c1:wr.cell? ⟨g,o+k*5+1,none⟩=some (.int .i64 x.t.k):=hx 1 _ rfl
   have c2:wr.cell? ⟨g,o+k*5+2,none⟩=some (.string x.t.x):=hx 2 _ rfl
   have c3:wr.cell? ⟨g,o+k*5+3,none⟩=some (.string x.t.l):=hx 3 _ rfl
   have c4:wr.cell? ⟨g,o+k*5+4,none⟩=some (.string x.t.y):=hx 4 _ rfl
   have hbs:base<=wr.heap.size:=Nat.le_trans hbase hK.size
   have hB1:Below wr.heap.size wr (wr.alloc (.cells #[.string x.v,.int .i64 x.t.k,.string x.t.x,.string x.t.l,.string x.t.y] 70)):=blw
   have hM1:=hM.later hB1
   have hK1:=hK.trans (aD.of_below v' hB1 hbs)
   have hsn:=qf hs
   cases he:x.v.toList.isEmpty
   ·have hB2:Below wr.heap.size wr ((wr.alloc (.cells #[.string x.v,.int .i64 x.t.k,.string x.t.x,.string x.t.l,.string x.t.y] 70)).alloc (.cells #[.string x.v] 9)).drew:=Below.drew blw
    have hM2:=hM.later hB2
    have hK2:=hK.trans (aD.of_below v' hB2 hbs)
    have hml:(aF l (bF (ss.take k))).length<=l.length+ss.length:=by
     have h1:=cu (bF (ss.take k)) l
     have h2:=jK (ss.take k)
     rw[List.length_take]at h2;omega
    have hq:=Gn base b v' (aF l (bF (ss.take k))) [x.v] (some ⟨wr.heap.size+1,0,none⟩) 1 _ hM2 (Rd.of_block (av wr _ _) rfl) (λa ha=>by
     injection ha with ha;subst ha
     refine⟨?_,λe=>?_⟩
     ·have:=ag hM.cell;simp at this ⊢;omega
     ·have:=(hM.own.lt _ e.symm).2;simp only at this;omega) (by simp;omega) (by simp;have:=cu (bF (ss.take k)) l;have h2:=jK (ss.take k);rw[List.length_take]at h2;omega)
    have Hn:Hid (aF l (bF (ss.take (k+1)))=aF (aF l (bF (ss.take k))) [x.v]):=by
     show _=_
     rw[hsn,tD he,eu]
    have HK:=Lib.hid hK2
    clear hs hr hA hM hK hM1 hK1 hM2 hK2 hsn hx hm hml hB1 hB2
    go_wp2_with fail
    go_region_with (go_at_call 148;refine hq.mono ?_;rintro e w2 ⟨⟨u,rfl⟩,v2,hM2,hK2⟩)
    go_wp2
    go_roundw
    case rel=>exact⟨k+1,v2,by omega,by go_num,by rw[Hn.out];exact hM2,HK.out.trans hK2⟩
    case measure=>simp[intOf];omega
   ·have Hn:Hid (aF l (bF (ss.take (k+1)))=aF l (bF (ss.take k))):=by
     show _=_
     rw[hsn,ly he,List.append_nil]
    have HK:=Lib.hid hK1
    have HM:=Lib.hid hM1
    clear hs hr hA hM hK hM1 hK1 hsn hx hm hB1
    go_wp2
    go_roundw
    case rel=>exact⟨k+1,v',by omega,by go_num,by rw[Hn.out];exact HM.out,HK.out⟩
    case measure=>simp[intOf];omega
  ·have hk2:ss.take k=ss:=List.take_of_length_le (by omega)
   rw[hk2]at hM
   go_wp2
   go_end0
   exact⟨⟨_,rfl⟩,v',hM,hK⟩
def oJ (names:List ByteArray) (w:World) (e:Ending) (w':World):Prop:=∃v,e=.returned v/\w'.ownsRow w.heap.size 9 1 v names.length (names.map Value.string)/\Below w.heap.size w w'
def Jy (l:List Pat) (w:World) (i:Value) (wr:World):Prop:=∃(k:Nat) (v':Value),k<=l.length/\i=.int .i64 k/\eO w.heap.size w.heap.size wr v' (aF [] ((l.take k).flatMap cW))/\Below w.heap.size w wr/\w.heap.size<wr.heap.size
theorem C0 (l:List Pat) (A:Option Addr) (c:Nat) (w:World) (hr:bI w A l) (hl:l.length<=300000) :
  Calls Tryz.prog 48 #[.slice A l.length c] w (oJ (ae l) w):=by
 have hnl:(l.length:Int)<=300000:=by omega
 have hB0:Below w.heap.size w (w.alloc (.cells #[.slice none 0 0] 154)):=blw
 have hM0:eO w.heap.size w.heap.size (w.alloc (.cells #[.slice none 0 0] 154)) (.slice none 0 0) []:=
  ⟨by rw[World.cell?,heap_alloc_new];rfl,by unfold World.frozen?;rw[heap_alloc_new];rfl,World.ownsRow_nil _ _ _ _,Nat.le_refl _,by simp[Value.ownBlock]⟩
 have hz0:w.heap.size<(w.alloc (.cells #[.slice none 0 0] 154)).heap.size:=by simp
 go_enter Tryz.func48,Tryz.ntmps48
 go_wp2
 go_loopw [8] (Jy l w) (λi _=>l.length-(intOf i).toNat)
 case atStart=>exact⟨0,_,by omega,rfl,hM0,hB0,hz0⟩
 case round =>
  clear hM0 hB0 hz0
  obtain⟨k,v',hk,rfl,hM,hB,hz⟩:=hrel
  by_cases hlt:k<l.length
  ·obtain⟨x,hs⟩:∃x,l[k]?=some x:=⟨_,List.getElem?_eq_getElem hlt⟩
   obtain⟨g,o,cs,rfl,-,rfl,hx⟩:=(RdL.mono hr hB (λ_ _ _ h=>h)).at_ (by omega) hs
   have c0:wr.cell? ⟨g,o+k*15,none⟩=some (.string x.s.v):=hx 0 _ rfl
   have c1:wr.cell? ⟨g,o+k*15+1,none⟩=some (.int .i64 x.s.t.k):=hx 1 _ rfl
   have c2:wr.cell? ⟨g,o+k*15+2,none⟩=some (.string x.s.t.x):=hx 2 _ rfl
   have c3:wr.cell? ⟨g,o+k*15+3,none⟩=some (.string x.s.t.l):=hx 3 _ rfl
   have c4:wr.cell? ⟨g,o+k*15+4,none⟩=some (.string x.s.t.y):=hx 4 _ rfl
   have c5:wr.cell? ⟨g,o+k*15+5,none⟩=some (.string x.p.v):=hx 5 _ rfl
   have c6:wr.cell? ⟨g,o+k*15+6,none⟩=some (.int .i64 x.p.t.k):=hx 6 _ rfl
   have c7:wr.cell? ⟨g,o+k*15+7,none⟩=some (.string x.p.t.x):=hx 7 _ rfl
   have c8:wr.cell? ⟨g,o+k*15+8,none⟩=some (.string x.p.t.l):=hx 8 _ rfl
   have c9:wr.cell? ⟨g,o+k*15+9,none⟩=some (.string x.p.t.y):=hx 9 _ rfl
   have c10:wr.cell? ⟨g,o+k*15+10,none⟩=some (.string x.o.v):=hx 10 _ rfl
   have c11:wr.cell? ⟨g,o+k*15+11,none⟩=some (.int .i64 x.o.t.k):=hx 11 _ rfl
   have c12:wr.cell? ⟨g,o+k*15+12,none⟩=some (.string x.o.t.x):=hx 12 _ rfl
   have c13:wr.cell? ⟨g,o+k*15+13,none⟩=some (.string x.o.t.l):=hx 13 _ rfl
   have c14:wr.cell? ⟨g,o+k*15+14,none⟩=some (.string x.o.t.y):=hx 14 _ rfl
   have hB2:Below wr.heap.size wr ((wr.alloc (.cells (cPat x).toArray 72)).alloc (.cells (cPat x).toArray 70)):=blw
   have hM2:=hM.later hB2
   have hml:(aF [] ((l.take k).flatMap cW)).length<=900000:=by
    have h1:=cu ((l.take k).flatMap cW) []
    have h2:=mg (l.take k)
    rw[List.length_take]at h2
    rw[List.length_nil]at h1;omega
   have hrs:IQ ((wr.alloc (.cells (cPat x).toArray 72)).alloc (.cells (cPat x).toArray 70)) (some ⟨wr.heap.size+1,0,none⟩) [x.s,x.p,x.o]:=
    ⟨[x.s,x.p,x.o].flatMap slC,Rd.of_block (av wr _ _) rfl,All.of_flat _ λ_ _=>rfl⟩
   have hq:=GQ w.heap.size w.heap.size v' (aF [] ((l.take k).flatMap cW)) [x.s,x.p,x.o] (some ⟨wr.heap.size+1,0,none⟩) 3 _ hM2 hrs (λa ha=>by
     injection ha with ha;subst ha
     refine⟨?_,λe=>?_⟩
     ·simp;omega
     ·have:=(hM.own.lt _ e.symm).2;simp only at this;omega) (by simp;omega) (by simp;omega)
   have Hn:Hid (aF [] ((l.take (k+1)).flatMap cW)=aF (aF [] ((l.take k).flatMap cW)) (bF [x.s,x.p,x.o])):=by
    show _=_
    rw[ew hs,eu];rfl
   have HB:=Lib.hid (aa hB hB2)
   simp only[cPat]at hq HB
   clear hs hr hM hM2 hx hml hB2 hrs hB
   go_wp2_with (go_at_call 95;refine hq.mono ?_;rintro e w2 ⟨⟨u,rfl⟩,v2,hM2,hK2⟩)
   go_roundw
   case rel=>exact⟨k+1,v2,by omega,by go_num,by rw[Hn.out];exact hM2,HB.out.trans hK2.below,by have:=hK2.size;simp at this;omega⟩
   case measure=>simp[intOf];omega
  ·have hk2:l.take k=l:=List.take_of_length_le (by omega)
   rw[hk2]at hM
   obtain⟨A1,c1,rfl,hc1,hr1,hv1⟩:=hM.open_
   have hown:=hM.own
   go_wp2
   go_ret
   exact⟨_,rfl,hown,hB⟩
open Go.Maps Go.ChangeMaps Go.Shelf
attribute [local go_sem] Oper.semAt_some
def xJ:Obj->Bool
 | .cells _ t _=>t == 9
 | _=>false
abbrev hidU (b:Nat):Nat->Obj->Bool:=λk o=>k == b || (decide (b<=k) && xJ o)
theorem Kb.of_met {b S:Nat} {w w':World} {v v':Value} {l:List ByteArray} (hM:eO b b w v l) (hK:aD b b w v w' v'):Kb (hidU b) S w w':=by
 refine .of_blocks (λk o ho hn _=>?_) hK.size
 rw[Bool.or_eq_false_iff]at hn
 rw[hK.keep k (Array.getElem?_eq_some_iff.1 ho).1 (by simpa using hn.1) ?_];exact ho
 intro e
 rcases hM.own.2 with ⟨hv,_⟩|⟨g,cap,cur,hv,hg,hh,_⟩
 ·rw[hv]at e;simp[Value.ownBlock]at e
 ·rw[hv]at e
  simp only[Value.ownBlock,Option.some.injEq]at e
  subst e
  rw[hh]at ho
  injection ho with ho
  subst ho
  have:=hn.2
  simp[xJ]at this
  omega
theorem aD.from {base b:Nat} {w w':World} {v v':Value} {l:List ByteArray} (hM:eO base b w v l) (h:aD base b w v w' v') (B:Nat):KeepsFrom B w w':=by
 refine⟨h.size,λk o _ hk hc=>?_⟩
 rw[h.keep k (Array.getElem?_eq_some_iff.1 hk).1 ?_ ?_];exact hk
 ·rintro rfl
  have:=hM.cell
  rw[World.cell?,hk]at this
  cases o<;>simp[Obj.isCells]at hc this
 ·intro e
  rcases hM.own.2 with ⟨hv,_⟩|⟨g,cap,cur,hv,hg,hh,_⟩
  ·rw[hv]at e;simp[Value.ownBlock]at e
  ·rw[hv]at e
   simp only[Value.ownBlock,Option.some.injEq]at e
   subst e
   rw[hh]at hk
   injection hk with hk
   subst hk
   simp[Obj.isCells]at hc
def lL (w:World) (b:Nat) (l:List ByteArray) (W:World):Prop:=∃v,eO w.heap.size b W v l/\Below w.heap.size w W/\b<W.heap.size
theorem lL.later {w:World} {b:Nat} {l:List ByteArray} {W W':World} (h:lL w b l W) (hb:Below W.heap.size W W'):lL w b l W':=by
 obtain⟨v,h1,h2,h3⟩:=h
 exact⟨v,h1.later hb,aa h2 hb,Nat.lt_of_lt_of_le h3 hb.size⟩
theorem lL.grown {w:World} {b:Nat} {l:List ByteArray} {A B:World} {row:Option Nat} {S:Nat} (hS:w.heap.size<=S) (h:lL w b l A) (hg:A.grownBy B row) (hr:∀q,row=some q->S<=q/\∃o:Obj,A.heap[q]?=some o/\o.isCells=false):lL w b l B:=by
 obtain⟨v,h1,h2,h3⟩:=h
 have hr2:∀q,row=some q->∃o:Obj,A.heap[q]?=some o/\o.isCells=false:=λq e=>(hr q e).2
 refine⟨v,⟨cell_kept h1.cell hg hr2,(frozen_kept h1.cell hg hr2).trans h1.fr,h1.own.kept hg ?_,h1.lo,h1.ne⟩,h2.grown hg h2.size λq e=>by have:=(hr q e).1;omega,Nat.lt_of_lt_of_le h3 hg.size⟩
 rcases Option.eq_none_or_eq_some v.ownBlock with e|⟨g,e⟩
 ·exact .inl e
 ·right
  intro e2
  obtain⟨o,ho,hc⟩:=hr2 g (e2.symm.trans e)
  rcases h1.own.2 with ⟨hv,_⟩|⟨g',cap,cur,hv,_,hh,_⟩
  ·rw[hv]at e;simp[Value.ownBlock]at e
  ·rw[hv]at e
   simp only[Value.ownBlock,Option.some.injEq]at e
   subst e
   rw[hh]at ho
   injection ho with ho
   subst ho
   simp[Obj.isCells]at hc
theorem J8 (n:Nat) (es:List (ExT n)) (A:Option Addr) (c:Nat) (w:World) (hr:aJ n w A es) (hl:es.length<=1353245080300) (hz:∀x∈es,szE n x) (hN:(es.flatMap (cI n)).length<=500000) :
  Calls Tryz.prog 122 #[.slice A es.length c] w (oJ (eU n es) w):=by
 refine(callsIn_wide (n:=6)).1 ?_
 generalize hF:Fence.wide=F
 have hd:F.depth=none:=by rw[←hF];rfl
 have hfn:∀k,F.fn k:=by rw[←hF];exact λ_=>trivial
 have hro:F.round=none:=by rw[←hF];rfl
 have hpl:∀{m:Nat} {f:FuncId} {args:Array Value} {W:World} {R:Ending->World->Prop},Calls Tryz.prog f args W R->CallsIn F m Tryz.prog f args W R:=by rw[←hF];exact λh=>callsIn_wide.2 h
 have hdd:∀k:Nat,(F.depth.isSome=true->1<=k):=λk h=>by rw[hd]at h;cases h
 have h4:=hfn 174
 have h0:=hfn 122
 have h5:=hfn 233
 have h6:=hfn 234
 have h7:=hfn 148
 clear hF hfn
 refine callsIn_of_wp_marks Tryz.func122 rfl h0 ?_ hro
 simp only[Tryz.ntmps122,List.size_toArray,List.length_cons,List.length_nil,Nat.reduceAdd,Nat.reduceSub,Array.replicate_succ,Array.replicate_zero,List.push_toArray,List.append_toArray,List.nil_append,List.cons_append]
 gi_wp2_with ((try refine⟨hdd _,?_⟩);gi_at_call 174;refine(pU F _ h4 hro _ _ _ _).mono ?_;rintro e w' ⟨rfl,rfl⟩)
 obtain⟨W1,hW1⟩:∃W:World,(w.alloc (.cells #[.slice none 0 0] 154)).alloc (.cells #[.slice A es.length c] 25)=W:=⟨_,rfl⟩
 have hsz:W1.heap.size=w.heap.size+1+1:=by rw[←hW1];simp
 have hB1:Below w.heap.size w W1:=by rw[←hW1];exact blw
 have g0:W1.heap[w.heap.size]?=some (.cells #[.slice none 0 0] 154 (0,0)):=by rw[←hW1];exact aL w _ _
 have g1:W1.heap[w.heap.size+1]?=some (.cells #[.slice A es.length c] 25 (0,0)):=by rw[←hW1];exact av w _ _
 have hI0:lL w w.heap.size [] W1:=⟨.slice none 0 0,⟨by rw[World.cell?,g0];rfl,by simp[World.frozen?,g0],World.ownsRow_nil _ _ _ _,Nat.le_refl _,by simp[Value.ownBlock]⟩,hB1,by omega⟩
 have hcm:CM w (wo (hidU w.heap.size) W1):=λp u hp=>aV.2 ⟨ac hp hB1,_,by
  rw[hB1.block _ (ag hp)];exact Array.getElem?_eq_getElem (ag hp),by have:=ag hp;simp;omega⟩
 have hrs:aJ n (wo (hidU w.heap.size) W1) A es:=hr.cm hcm
 have hbx:(wo (hidU w.heap.size) W1).cell? ⟨w.heap.size+1,0,none⟩=some (.slice A es.length c):=aV.2 ⟨by rw[World.cell?,g1];rfl,_,g1,by simp[xJ]⟩
 have hs:=jF F hd h5 h6 hro (hidU w.heap.size) (6-1) n W1 (λk _ _ hk=>by simp[xJ];omega) szE (λn k s t kids h=>⟨h.2.2.1,h.2.2.2⟩) es A c (w.heap.size+1) hrs hl hz hbx
 simp only[hW1]
 have HW:=Lib.hid hW1
 have Hsz:=Lib.hid hsz
 clear hW1 hrs hbx hcm g0 g1 hsz hr hz
 refine wpIn_rangeFunc_ownH hro (by omega) (gf:=233) (lb:=#[.pointer (some ⟨w.heap.size+1,0,none⟩)]) rfl h5 (enters_of Tryz.func233 (by kernel_rfl) rfl)
  hs (λh k=>h.trans k) (λW l o o' hl ho hc _=>Kb.put hl ho hc) (Below.refl _ _) (λ_=>rfl)
  (λpre W=>lL w w.heap.size (aF [] ((pts pre).flatMap ptV)) W/\Kb (hidU w.heap.size) W1.heap.size W1 W)
  (λ_ _ _=>False)
  (λs A B row hs hg hr=>⟨hs.1.grown hB1.size hg hr,hs.2.grown hg hr⟩)
  (λc s A B row hs hg hr=>hs.elim)
  ⟨hI0,Kb.refl _ _ _⟩
  (λa a' W=>∃(Bx:Nat) (k':Int) (s':ByteArray) (t':Tm) (A':Option Addr) (m' c':Nat),a.cs=[.int .i64 k',.string s',.int .i64 t'.k,.string t'.x,.string t'.l,.string t'.y,.slice A' m' c']/\W.heap[Bx]?=some (.cells #[.int .i64 k',.string s',.int .i64 t'.k,.string t'.x,.string t'.l,.string t'.y,.slice A' m' c'] 68 (0,0))/\W1.heap.size<=Bx /\
   a'={tmps:=#[.slice A es.length c,undef,.slice none 0 0,.pointer (some ⟨w.heap.size,0,none⟩),.pointer (some ⟨Bx,0,none⟩),.slice A es.length c,.func (.func 233) #[] #[.pointer (some ⟨w.heap.size+1,0,none⟩)],.agg #[.int .i64 k',.string s',.int .i64 t'.k,.string t'.x,.string t'.l,.string t'.y,.slice A' m' c'],undef,undef,undef,undef,undef,undef,undef,undef,undef,undef,undef],defers:=[]})
  ?hAx ?assign ?body ?done ?stop
 case hAx =>
  rintro a a' _ A B row ⟨Bx,k',s',t',A',m',c',h1,h2,h3,h4⟩ hg hr
  refine⟨Bx,k',s',t',A',m',c',h1,?_,h3,h4⟩
  rw[hg.block Bx (Array.getElem?_eq_some_iff.1 h2).1 (λe=>by obtain⟨_,o,ho,hoc⟩:=hr Bx e.symm;rw[h2]at ho;cases ho;cases hoc)];exact h2
 case assign =>
  rintro l pre a W K ⟨hi,hk⟩ hK
  have e:∀(b:Array Value) (v:Value),(#[7].zip #[v]).foldl (λt (p,v)=>t.setIfInBounds p v) b=b.setIfInBounds 7 v:=λb v=>by simp
  rw[e]
  obtain⟨k',s',t',A',m',c',hcs,_⟩:=gA a.rd
  have hB2:Below W.heap.size W (W.alloc (.cells #[.int .i64 k',.string s',.int .i64 t'.k,.string t'.x,.string t'.l,.string t'.y,.slice A' m' c'] 68)):=blw
  have hfin:=λa' h=>hK a' (W.alloc (.cells #[.int .i64 k',.string s',.int .i64 t'.k,.string t'.x,.string t'.l,.string t'.y,.slice A' m' c'] 68)) (bk hB2) (Kb.of_below hB2 hk.size) ⟨hi.later hB2,hk.trans (Kb.of_below hB2 hk.size)⟩ ⟨W.heap.size,k',s',t',A',m',c',hcs,heap_alloc_new _ _,hk.size,h⟩
  have Hfin:=Lib.hid hfin
  rw[hcs]
  clear hK hi hfin hk hB2
  gi_wp2
  exact Hfin.out _ rfl
 case body =>
  rintro l pre a a' W hl' ⟨rr,hrr⟩ ⟨hi,hk⟩ ⟨Bx,k',s',t',A',m',c',hcs,hbx,hBx,rfl⟩ hlN
  have b0:W.cell? ⟨Bx,0,none⟩=some (.int .i64 k'):=by rw[World.cell?,hbx];rfl
  have b1:W.cell? ⟨Bx,1,none⟩=some (.string s'):=by rw[World.cell?,hbx];rfl
  have hptv:ptV ⟨a.n,a.x⟩=if k' == 1 then [s'] else []:=by
   match a,hcs with
   | ⟨m+1,(k,s,t,kids),cs,⟨A2,c2,hv,_⟩,z⟩,hcs =>
    simp only at hcs hv ⊢
    rw[hv]at hcs
    simp at hcs
    obtain⟨rfl,rfl,_⟩:=hcs
    rfl
  have hnx:(pts (pre++[a])).flatMap ptV=(pts pre).flatMap ptV++ptV ⟨a.n,a.x⟩:=by rw[ce,List.flatMap_append];simp[pts]
  obtain⟨v,hM,hBw,hbW⟩:=hi
  by_cases h1:k'=1
  ·have hB2:Below W.heap.size W (W.alloc (.cells #[.string s'] 9)):=blw
   have hM2:=hM.later hB2
   have hml:(aF [] ((pts pre).flatMap ptV)).length+1<=1000000:=by
    have h2:=cu ((pts pre).flatMap ptV) []
    have h3:((pts pre).flatMap ptV).length<=(pts pre).length:=by
     generalize pts pre=l
     induction l with
     | nil=>simp
     | cons p l ih=>have:=xy p;rw[List.flatMap_cons,List.length_append,List.length_cons];omega
    rw[fQ]at h3
    rw[List.length_nil]at h2
    omega
   have hq:=Gn w.heap.size w.heap.size v _ [s'] (some ⟨W.heap.size,0,none⟩) 1 _ hM2 (Rd.of_block (heap_alloc_new W _) rfl) (λa ha=>by
    injection ha with ha;subst ha
    refine⟨by simp;omega,λe=>?_⟩
    have:=(hM.own.lt _ e.symm).2
    simp only at this;omega) (by simp;omega) (by simpa using hml)
   rw[hptv,h1]at hnx
   simp only[beq_self_eq_true,if_true]at hnx
   have HB2:=Lib.hid hB2
   have HBw:=Lib.hid hBw
   have Hk:=Lib.hid hk
   have HM2:=Lib.hid hM2
   have Hnx:=Lib.hid hnx
   subst h1
   clear hM hM2 hBw hk hnx hptv hB2 hcs hml
   gi_wp2_with ((try refine⟨hdd _,?_⟩);gi_at_call 148;refine(CallsIn.inRound l (hpl hq)).mono ?_;rintro e w2 ⟨⟨u,rfl⟩,v2,hM3,hK3⟩)
   have hkb:Kb (hidU w.heap.size) W1.heap.size W w2:=(Kb.of_below HB2.out (by have:=Hk.out.size;omega)).trans (Kb.of_met HM2.out hK3)
   refine⟨(bk HB2.out).trans (hK3.from HM2.out _),hkb,⟨v2,?_,?_,?_⟩,Hk.out.trans hkb⟩
   ·rw[Hnx.out,eu];exact hM3
   ·exact(aa HBw.out HB2.out).trans hK3.below
   ·have:=hK3.size;simp at this;omega
  ·have h1b:(k' == 1)=false:=by simpa using h1
   rw[hptv,h1b]at hnx
   simp only[Bool.false_eq_true,if_false,List.append_nil]at hnx
   have Hk:=Lib.hid hk
   have HM:=Lib.hid hM
   have HBw:=Lib.hid hBw
   have Hnx:=Lib.hid hnx
   clear hM hBw hk hnx hptv hcs
   gi_wp2
   exact⟨KeepsFrom.refl _ _,Kb.refl _ _ _,⟨v,by rw[Hnx.out];exact HM.out,HBw.out,hbW⟩,Hk.out⟩
 case done =>
  rintro D ys W hD hS ⟨⟨v,hM,hBw,hbW⟩,hk⟩ hK
  have hv:aF [] ((pts ys).flatMap ptV)=eU n es:=by rw[hS];rfl
  rw[hv]at hM
  obtain⟨A1,c1,rfl,hc1,hr1,hv1⟩:=hM.open_
  have hown:=hM.own
  have hfr:=hM.fr
  clear hM hv hk hc1 hr1
  gi_wp2
  refine⟨by simp,.inl ⟨_,_,rfl,run_takeDeferred hK,?_⟩⟩
  have hgr:=grownBy_putObj' W D (.deferred none)
  have hne:(Value.slice A1 (eU n es).length c1).ownBlock=none∨(Value.slice A1 (eU n es).length c1).ownBlock≠some D:=by
   right
   intro e
   rcases hown.2 with ⟨hv,_⟩|⟨g',cap,cur,hv,_,hh,_⟩
   ·rw[hv]at e;simp[Value.ownBlock]at e
   ·rw[hv]at e
    simp only[Value.ownBlock,Option.some.injEq]at e
    subst e
    rw[hh]at hK
    cases hK
  refine⟨.slice A1 (eU n es).length c1,?_,_,rfl,hown.kept hgr hne,hBw.trans (belowK_b (w:=w) (Nat.le_refl _) _ D _ _ (by have:=Hsz.out;omega) hK rfl rfl)⟩
  simp[results,Tryz.results122,go_sem]
 case stop =>
  rintro D cc pre W hD hS h hK
  exact h.elim
end Go.Proofs.YtfcbghmbbjolcaaGreatDoor
