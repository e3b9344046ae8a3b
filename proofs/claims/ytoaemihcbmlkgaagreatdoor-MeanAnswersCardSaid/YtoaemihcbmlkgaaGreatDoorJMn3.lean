/- The library's slices.Index, Contains over texts. The program -/
import Derived.Test.YtoaemihcbmlkgaaGreatDoorJRegion7
set_option maxHeartbeats 16000000
set_option maxRecDepth 100000
namespace Go.Proofs.YtoaemihcbmlkgaaGreatDoor
open Go Go.RowKit
theorem beq_str (x y:ByteArray):(x.toList == y.toList)=decide (y=x):=by
 by_cases h:y=x
 ·subst h;simp
 ·simp only[h,decide_false];rw[Lib.bytes_beq_false_iff];exact λe=>h e.symm
theorem idxTxt (l:List ByteArray) (x:ByteArray) (A:Option Addr) (c:Nat) (w:World) (hl:l.length<=281474976710656) (hr:Rd w A (l.map Value.string)) :
  Calls Tryz.prog 120 #[.slice A l.length c,.string x] w λe w'=>e=.returned (.int .i64 (Lib.idxOfS l x))/\w=w':=by
 go_enter Tryz.func120,Tryz.ntmps120
 go_wp2
 go_loop [8] (λi=>∃k:Nat,k<=l.length/\i=.int .i64 k/\Hid (Lib.idxOfS l x=Lib.idxFromS (l.drop k) x k)) (λi=>l.length-(intOf i).toNat)
 case atStart=>exact⟨0,by omega,rfl,rfl⟩
 case round =>
  obtain⟨k,hk,rfl,H⟩:=hrel
  by_cases hlt:k<l.length
  ·obtain⟨y,hx⟩:∃x,l[k]?=some x:=⟨_,List.getElem?_eq_getElem hlt⟩
   obtain⟨g,o,rfl,hcx⟩:=hr.at_ (j:=k) (u:=.string y) (by simp[hx])
   have hd:l.drop k=y::l.drop (k+1):=by
    rw[List.drop_eq_getElem_cons hlt]
    rw[List.getElem?_eq_getElem hlt]at hx
    injection hx with hx;rw[hx]
   have H2:Hid (Lib.idxOfS l x=if (x.toList == y.toList) then (k:Int) else Lib.idxFromS (l.drop (k+1)) x (k+1)):=by
    show Lib.idxOfS l x=_
    rw[H.out,hd,Lib.idxFromS,beq_str];simp
   clear hx hd H hr
   cases hx0:(x.toList == y.toList)
   ·rw[hx0]at H2
    go_wp2
    go_round
    case rel=>exact⟨k+1,by omega,by go_num,H2⟩
    case measure=>simp[intOf];omega
   ·rw[hx0]at H2
    go_wp2
    go_ret
    exact⟨by rw[H2.out];rfl,rfl⟩
  ·have H2:Hid (Lib.idxOfS l x = -1):=by
    show Lib.idxOfS l x=_
    rw[H.out,List.drop_eq_nil_of_le (by omega)];rfl
   clear H
   go_wp2
   go_ret
   exact⟨by rw[H2.out];rfl,rfl⟩
open Mt
theorem stringInfo':(Tryz.prog.info? 9).map (λi=>(i.zero,i.size,i.bytes))=some (some (.string ⟨#[]⟩),1,16):=by kernel_rfl
theorem hasTxt (l:List ByteArray) (x:ByteArray) (A:Option Addr) (c:Nat) (w:World) (hl:l.length<=281474976710656) (hr:Rd w A (l.map Value.string)) :
  Calls Tryz.prog 132 #[.slice A l.length c,.string x] w λe w'=>e=.returned (.bool (hasS l x))/\w=w':=by
 have hI:=idxTxt l x A c w hl hr
 unfold hasS
 generalize Lib.idxOfS l x=i at *
 clear hr hl
 go_enter Tryz.func132,Tryz.ntmps132
 go_wp2_with (refine hI.mono ?_;rintro e w' ⟨rfl,rfl⟩)
 go_ret
 exact⟨rfl,rfl⟩
structure MetAt (base b:Nat) (w:World) (v:Value) (l:List ByteArray):Prop where
 cell:w.cell? ⟨b,0,none⟩=some v
 fr:w.frozen? ⟨b,0,none⟩=false
 own:w.ownsRow base 9 1 v l.length (l.map Value.string)
 lo:base<=b
 ne:v.ownBlock≠some b
structure MetKeeps (base b:Nat) (w:World) (v:Value) (w':World) (v':Value):Prop where
 below:Below base w w'
 keep:∀k,k<w.heap.size->k≠b->some k≠v.ownBlock->w'.heap[k]?=w.heap[k]?
 size:w.heap.size<=w'.heap.size
 blk:v'.ownBlock=v.ownBlock∨∀k,v'.ownBlock=some k->w.heap.size<=k
theorem MetKeeps.refl (base b:Nat) (w:World) (v:Value):MetKeeps base b w v w v:=⟨Below.refl _ _,λ_ _ _ _=>rfl,Nat.le_refl _,.inl rfl⟩
theorem MetKeeps.trans {base b:Nat} {w w1 w2:World} {v v1 v2:Value} (h:MetKeeps base b w v w1 v1) (k:MetKeeps base b w1 v1 w2 v2):MetKeeps base b w v w2 v2:=by
 refine⟨h.below.trans k.below,λj hj hjb hjv=>?_,Nat.le_trans h.size k.size,?_⟩
 ·rw[k.keep j (Nat.lt_of_lt_of_le hj h.size) hjb ?_,h.keep j hj hjb hjv]
  rcases h.blk with e|e
  ·rw[e];exact hjv
  ·intro e2
   have:=e j e2.symm
   omega
 ·rcases k.blk with e|e
  ·rw[e];exact h.blk
  ·exact .inr λj hj=>Nat.le_trans h.size (e j hj)
theorem MetKeeps.of_below {base b:Nat} {w w':World} (v:Value) (h:Below w.heap.size w w') (hb:base<=w.heap.size):MetKeeps base b w v w' v:=
 ⟨h.mono hb,λk hk _ _=>h.block k hk,h.size,.inl rfl⟩
theorem MetKeeps.cell {base b:Nat} {w w':World} {v v':Value} (h:MetKeeps base b w v w' v') {p:Addr} {u:Value} (hc:w.cell? p=some u) (h1:p.block≠b) (h2:some p.block≠v.ownBlock):w'.cell? p=some u:=by
 rw[World.cell?,h.keep _ (cell_lt hc) h1 h2];exact hc
theorem MetKeeps.rd {base b:Nat} {w w':World} {v v':Value} (h:MetKeeps base b w v w' v') {A:Option Addr} {xs:List Value} (hr:Rd w A xs) (hA:∀a,A=some a->a.block≠b/\some a.block≠v.ownBlock):Rd w' A xs:=by
 rcases hr with h0|⟨g,o,rfl,hx⟩
 ·exact .inl h0
 ·obtain⟨h1,h2⟩:=hA _ rfl
  exact .inr ⟨g,o,rfl,λj u hu=>h.cell (hx j u hu) h1 h2⟩
theorem MetAt.later {base b:Nat} {w w':World} {v:Value} {l:List ByteArray} (h:MetAt base b w v l) (hb:Below w.heap.size w w'):MetAt base b w' v l:=
 ⟨cell_on h.cell hb,by rw[hb.frozen (cell_lt h.cell)];exact h.fr,own_below h.own hb (Nat.le_refl _),h.lo,h.ne⟩
theorem MetAt.open_ {base b:Nat} {w:World} {v:Value} {l:List ByteArray} (h:MetAt base b w v l):∃A c,v=.slice A l.length c/\l.length<=c/\Rd w A (l.map Value.string)/\w.cell? ⟨b,0,none⟩=some (.slice A l.length c):=by
 obtain⟨A,c,rfl,hc,hr⟩:=own_slice h.own
 exact⟨A,c,rfl,hc,hr,h.cell⟩
def MeetR (base b:Nat) (v:Value) (l:List ByteArray) (w:World) (e:Ending) (w':World):Prop:=(∃u,e=.returned u)/\∃v',MetAt base b w' v' l/\MetKeeps base b w v w' v'
def MeetL (base b:Nat) (v:Value) (l names:List ByteArray) (w:World) (i:Value) (wr:World):Prop:=∃(k:Nat) (v':Value),k<=names.length/\i=.int .i64 k/\MetAt base b wr v' (metsN l (names.take k))/\MetKeeps base b w v wr v'
theorem qMeet (base b:Nat) (v:Value) (l names:List ByteArray) (A:Option Addr) (c:Nat) (w:World) (hm:MetAt base b w v l) (hr:Rd w A (names.map Value.string)) (hA:∀a,A=some a->a.block≠b/\some a.block≠v.ownBlock)
  (hbase:base<=w.heap.size) (hl:l.length+names.length<=1000000) :
  Calls Tryz.prog 82 #[.pointer (some ⟨b,0,none⟩),.slice A names.length c] w (MeetR base b v (metsN l names) w):=by
 have hnl:(names.length:Int)<=1000000:=by omega
 go_enter Tryz.func82,Tryz.ntmps82
 go_wp2
 go_loopw [8] (MeetL base b v l names w) (λi _=>names.length-(intOf i).toNat)
 case atStart=>exact⟨0,v,by omega,rfl,hm,MetKeeps.refl _ _ _ _⟩
 case round =>
  obtain⟨k,v',hk,rfl,hM,hK⟩:=hrel
  by_cases hlt:k<names.length
  ·obtain⟨s,hs⟩:∃x,names[k]?=some x:=⟨_,List.getElem?_eq_getElem hlt⟩
   obtain⟨g,o,rfl,c0⟩:=(hK.rd hr hA).at_ (j:=k) (u:=.string s) (by simp[hs])
   obtain⟨A1,c1,rfl,hc1,hr1,hv1⟩:=hM.open_
   have hfr:=hM.fr
   have hlen:(metsN l (names.take k)).length<=1000000:=by
    have:=metsN_len (names.take k) l
    rw[List.length_take]at this;omega
   have hH:=hasTxt (metsN l (names.take k)) s A1 c1 wr (by omega) hr1
   have Hs:Hid (metsN l (names.take (k+1))=metN (metsN l (names.take k)) s):=by
    show _=_
    rw[take_snoc_of hs,metsN_app];rfl
   have hbw:b<wr.heap.size:=cell_lt hv1
   have hbs:base<=wr.heap.size:=Nat.le_trans hbase hK.size
   have hlen2:(metN (metsN l (names.take k)) s).length<=1000000+1:=Nat.le_trans (metN_len _ _) (by omega)
   have Hlen2:=Lib.hid hlen2
   generalize metsN l (names.take k)=m at *
   cases hq:hasS m s
   ·rw[hq]at hH
    have hmn:=metN_new hq
    have Hmn:=Lib.hid hmn
    have HM:=Lib.hid hM
    have HK:=Lib.hid hK
    have hba:Below wr.heap.size wr (wr.alloc (.cells #[.string s] 9)):=blw
    have own0:=own_below hM.own hba (Nat.le_refl _)
    have hbne:=hM.ne
    have own0':=Lib.hid hM.own.lt
    have hnew:∀(j:Nat) (u:Value),[Value.string s][j]?=some u->(wr.alloc (.cells #[.string s] 9)).cell? ((⟨wr.heap.size,0,none⟩:Addr).add j)=some u:=by
     intro j u hu
     rw[add_zero_spot,Nat.zero_add,World.cell?,heap_alloc_new]
     simpa using hu
    obtain⟨i,hi,hz,hsize,hby⟩:=info_parts stringInfo'
    clear hs hr hA hr1 hq hmn hlen2 hM hK hm
    go_wp2_with (first
     | (go_at_call 132;refine hH.mono ?_;rintro e w2 ⟨rfl,rfl⟩)
     | (at_builtin;(refine wpList_append_own_at _ rfl _ _ 32 rfl base 9 i _ 1 16 Tryz.underlying32 hi hz hsize hby rfl (by omega) _ m.length (m.map Value.string) rfl own0 ⟨wr.heap.size,0,none⟩ 1 1 [.string s] rfl rfl hnew (by intro u hu;simp at hu;subst hu;rfl) (by unfold maxLen;omega) (by omega) (by simp;omega) ?_;intro v4 w4 own4 hg4 _ hbk4;obtain⟨A4,c4,rfl,_,_⟩:=own_slice own4;have d0:=(hg4.cell_far ⟨b,0,none⟩ (by simp;omega) (λe=>hbne e.symm)).trans ((hba.cell (p:=⟨b,0,none⟩) hbw).trans hv1);have d1:=(hg4.frozen_far ⟨b,0,none⟩ (by simp;omega) (λe=>hbne e.symm)).trans ((hba.frozen (p:=⟨b,0,none⟩) hbw).trans hfr))))
    go_roundw
    case rel =>
     have hM':=HM.out
     have hz4:=hg4.size
     have hblk:(Value.slice A4 (m.length+1) c4).ownBlock=(Value.slice A1 m.length c1).ownBlock∨∀k,(Value.slice A4 (m.length+1) c4).ownBlock=some k->wr.heap.size<=k:=by
      rcases hbk4 with e|e
      ·exact .inl e
      ·exact .inr λk hk=>by rw[e]at hk;injection hk with hk;simp at hk;omega
     have hne4:(Value.slice A4 (m.length+1) c4).ownBlock≠some b:=by
      rcases hblk with e|e
      ·rw[e];exact hbne
      ·intro e2;have:=e b e2;omega
     have hgs:=grownBy_setCell' w4 b (.slice A4 (m.length+1) c4)
     have own5:=own4.kept hgs (.inr hne4)
     refine⟨k+1,.slice A4 (m.length+1) c4,by omega,by go_num,⟨World.cell?_setCell_same' _ _ _ (by rw[d0];rfl),by rw[World.frozen?_setCell];exact d1,?_,hM'.lo,hne4⟩,HK.out.trans ⟨?_,?_,?_,?_⟩⟩
     ·rw[Hs.out,Hmn.out,List.length_append,List.map_append];exact own5
     ·refine Below.setCell ?_ (p:=⟨b,0,none⟩) hM'.lo _
      exact Below.grown ((Below.refl _ _).alloc hbs _) hg4 (by simp;omega) λq e=>(own0'.out q e).1
     ·intro q hq hqb hqv
      rw[hgs.block q (by simp at hz4;omega) (λe=>hqb (by injection e)),hg4.block q (by simp;omega) hqv,Below.heap_alloc _ _ _ hq]
     ·simp at hz4
      have:=hgs.size
      omega
     ·rcases hblk with e|e
      ·exact .inl e
      ·exact .inr λq hq=>e q hq
    case measure=>simp[intOf];omega
   ·rw[hq]at hH
    have hmn:=metN_has hq
    rw[hmn]at Hs
    have HM:=Lib.hid hM
    have HK:=Lib.hid hK
    clear hs hr hA hr1 hq hmn hM hK hm
    go_wp2_with (go_at_call 132;refine hH.mono ?_;rintro e w2 ⟨rfl,rfl⟩)
    go_roundw
    case rel=>exact⟨k+1,_,by omega,by go_num,by rw[Hs.out];exact HM.out,HK.out⟩
    case measure=>simp[intOf];omega
  ·have hk2:names.take k=names:=List.take_of_length_le (by omega)
   rw[hk2]at hM
   go_wp2
   go_end0
   exact⟨⟨_,rfl⟩,v',hM,hK⟩
open Go.Maps Go.ChangeMaps Um Fm Tx Om Mv Mn
def TripR (r:Nat) (β:Bd) (p:Pat) (t:Tp) (w:World) (e:Ending) (w':World):Prop:=
 ∃v fr γ,e=.returned (.tuple #[v,.bool (b3 β p t).isSome])/\w'.ownsRow w.heap.size 9 1 v fr.length (fr.map Value.string)/\FdOf w' r (encB γ)/\w.grownBy w' (some r)/\Undo β γ fr/\fr.length<=3/\∀β1,b3 β p t=some β1->γ=β1
def TripI (ab r:Nat) (β:Bd) (p:Pat) (t:Tp) (_w W:World) (v i:Value) (wr:World):Prop:=
 ∃(k:Nat) (fr:List ByteArray) (γ:Bd) (v':Value),k<=3/\fr.length<=k/\i=.int .i64 k/\v'=v/\bL β ((placesP p t).take k)=some γ/\Undo β γ fr/\wr.ownsRow W.heap.size 9 1 v' fr.length (fr.map Value.string)/\FdOf wr r (encB γ)/\W.grownBy wr (some r)/\wr.cell? ⟨ab,0,none⟩=some (.map (some r))
theorem KeepT.grownM {w w':World} {r:Nat} {f:Fmv} (hM:FdOf w r f) (hg:w.grownBy w' (some r)) (e:TypeId):KeepT e w w':=λk cur fr x=>by
 have hne:k≠r:=λh=>by
  subst h
  obtain⟨es,c,h,_⟩:=hM
  rw[h]at x;cases x
 rw[hg.block k (Array.getElem?_eq_some_iff.1 x).1 (λh=>hne (by injection h))];exact x
theorem grown_base {W wr w6:World} {r:Nat} (h:W.grownBy wr (some r)) (k:Below W.heap.size wr w6):W.grownBy w6 (some r):=
 ⟨k.os.trans h.os,k.tape.trans h.tape,k.output.trans h.output,Nat.le_trans h.size k.size,λi hi hn=>(k.block i hi).trans (h.block i hi hn)⟩
theorem mTriple (ab r:Nat) (β:Bd) (p:Pat) (t:Tp) (w:World) (hM:FdOf w r (encB β)) (ha:w.cell? ⟨ab,0,none⟩=some (.map (some r))) :
  Calls Tryz.prog 84 #[.pointer (some ⟨ab,0,none⟩),.agg #[.string p.s.v,.int .i64 p.s.t.k,.string p.s.t.x,.string p.s.t.l,.string p.s.t.y,.string p.p.v,.int .i64 p.p.t.k,.string p.p.t.x,.string p.p.t.l,.string p.p.t.y,.string p.o.v,.int .i64 p.o.t.k,.string p.o.t.x,.string p.o.t.l,.string p.o.t.y],
   .agg #[.int .i64 t.s.k,.string t.s.x,.string t.s.l,.string t.s.y,.int .i64 t.p.k,.string t.p.x,.string t.p.l,.string t.p.y,.int .i64 t.o.k,.string t.o.x,.string t.o.l,.string t.o.y]] w (TripR r β p t w):=by
 obtain⟨W,hW⟩:∃W:World,((w.alloc (.cells #[.string p.s.v,.int .i64 p.s.t.k,.string p.s.t.x,.string p.s.t.l,.string p.s.t.y,.string p.p.v,.int .i64 p.p.t.k,.string p.p.t.x,.string p.p.t.l,.string p.p.t.y,.string p.o.v,.int .i64 p.o.t.k,.string p.o.t.x,.string p.o.t.l,.string p.o.t.y] 43)).alloc (.cells #[.int .i64 t.s.k,.string t.s.x,.string t.s.l,.string t.s.y,.int .i64 t.p.k,.string t.p.x,.string t.p.l,.string t.p.y,.int .i64 t.o.k,.string t.o.x,.string t.o.l,.string t.o.y] 28)).alloc (.cells #[.int .i64 t.s.k,.string t.s.x,.string t.s.l,.string t.s.y,.int .i64 t.p.k,.string t.p.x,.string t.p.l,.string t.p.y,.int .i64 t.o.k,.string t.o.x,.string t.o.l,.string t.o.y] 207)=W:=⟨_,rfl⟩
 have hB0:Below w.heap.size w W:=by rw[←hW];exact blw
 have hk3:W.heap[w.heap.size+2]?=some (.cells #[.int .i64 t.s.k,.string t.s.x,.string t.s.l,.string t.s.y,.int .i64 t.p.k,.string t.p.x,.string t.p.l,.string t.p.y,.int .i64 t.o.k,.string t.o.x,.string t.o.l,.string t.o.y] 207 (0,0)):=by rw[←hW];exact heap3_3 _ _ _ _
 have H0:=Lib.hid (And.intro hM (And.intro (cell_on ha hB0) (And.intro hB0 hk3)))
 have HW:=Lib.hid hW
 have hzW:w.heap.size+2<W.heap.size:=by rw[←hW];simp
 clear hM ha hW hB0 hk3
 go_enter Tryz.func84,Tryz.ntmps84
 go_wp2
 simp only[HW.out]
 go_loopw [6,9,10,11,12,27] (λv _ _ _ _ i wr=>TripI ab r β p t w W v i wr) (λ_ _ _ _ _ i _=>3-(intOf i).toNat)
 case atStart=>exact⟨0,[],β,_,by omega,by simp,rfl,rfl,rfl,rfl,World.ownsRow_nil _ _ _ _,H0.out.1.on H0.out.2.2.1,⟨rfl,rfl,rfl,Nat.le_refl _,λ_ _ _=>rfl⟩,H0.out.2.1⟩
 case round =>
  obtain⟨k,fr,γ,v,hk,hfr,rfl,rfl,hb,hu,own,hMk,hg,hc⟩:=hrel
  by_cases hlt:k<3
  ·obtain⟨x,u,hxu,hidx,hcl⟩:∃x u,(placesP p t)[k]?=some (x,u)/\(∀V,(Instr.index 208 (.agg #[.string p.s.v,.int .i64 p.s.t.k,.string p.s.t.x,.string p.s.t.l,.string p.s.t.y,.string p.p.v,.int .i64 p.p.t.k,.string p.p.t.x,.string p.p.t.l,.string p.p.t.y,.string p.o.v,.int .i64 p.o.t.k,.string p.o.t.x,.string p.o.t.l,.string p.o.t.y]) (.int .i64 k)).run Tryz.prog V=.ok (.agg #[.string x.v,.int .i64 x.t.k,.string x.t.x,.string x.t.l,.string x.t.y]) V) /\
     ∀V:World,V.heap[w.heap.size+2]?=W.heap[w.heap.size+2]?->V.cell? ⟨w.heap.size+2,k*4,none⟩=some (.int .i64 u.k)/\V.cell? ⟨w.heap.size+2,k*4+1,none⟩=some (.string u.x)/\V.cell? ⟨w.heap.size+2,k*4+2,none⟩=some (.string u.l)/\V.cell? ⟨w.heap.size+2,k*4+3,none⟩=some (.string u.y):=by
    have hh:=H0.out.2.2.2
    have hc:∀(V:World) (j:Nat) (v:Value),V.heap[w.heap.size+2]?=W.heap[w.heap.size+2]?->#[Value.int .i64 t.s.k,.string t.s.x,.string t.s.l,.string t.s.y,.int .i64 t.p.k,.string t.p.x,.string t.p.l,.string t.p.y,.int .i64 t.o.k,.string t.o.x,.string t.o.l,.string t.o.y][j]?=some v->V.cell? ⟨w.heap.size+2,j,none⟩=some v:=λV j v h1 h2=>by
     rw[World.cell?,h1,hh];simpa using h2
    have:k=0∨k=1∨k=2:=by omega
    rcases this with rfl|rfl|rfl
    ·exact⟨p.s,t.s,rfl,λV=>by kernel_rfl,λV h=>⟨hc V 0 _ h rfl,hc V 1 _ h rfl,hc V 2 _ h rfl,hc V 3 _ h rfl⟩⟩
    ·exact⟨p.p,t.p,rfl,λV=>by kernel_rfl,λV h=>⟨hc V 4 _ h rfl,hc V 5 _ h rfl,hc V 6 _ h rfl,hc V 7 _ h rfl⟩⟩
    ·exact⟨p.o,t.o,rfl,λV=>by kernel_rfl,λV h=>⟨hc V 8 _ h rfl,hc V 9 _ h rfl,hc V 10 _ h rfl,hc V 11 _ h rfl⟩⟩
   obtain⟨W4,hW4⟩:∃V:World,wr.alloc (.cells #[.string x.v,.int .i64 x.t.k,.string x.t.x,.string x.t.l,.string x.t.y] 41)=V:=⟨_,rfl⟩
   have hb4:Below wr.heap.size wr W4:=by rw[←hW4];exact blw
   have hr2:w.heap.size+2≠r:=λe=>by
    have h1:=H0.out.2.2.2
    obtain⟨es,c,h2,_⟩:=H0.out.1.on H0.out.2.2.1
    rw[e,h2]at h1;cases h1
   have hz2:w.heap.size+2<W.heap.size:=hzW
   obtain⟨d0,d1,d2,d3⟩:=hcl W4 (by rw[hb4.block _ (Nat.lt_of_lt_of_le hzW hg.size)];exact hg.block _ hzW (λe=>hr2 (by injection e)))
   obtain⟨s0,s1,s2,s3,s4⟩:_/\_/\_/\_/\_:=cells5 (W:=W4) (b:=wr.heap.size) (by rw[←hW4];exact heap_alloc_new _ _)
   have c4:=cell_on hc hb4
   have hM4:=hMk.on hb4
   have hcall:∀wd,Below W4.heap.size W4 wd->Calls Tryz.prog 141 _ wd (λe w'=>e=.returned (.tuple #[.bool (freshB γ x),.bool (b1 γ x u).isSome])/\FdOf w' r (encB ((b1 γ x u).getD γ))/\wd.grownBy w' (some r)):=λwd h=>mBind r γ x u wd (hM4.on h)
   have hstep:bL β ((placesP p t).take (k+1))=b1 γ x u:=by rw[take_snoc_of hxu,bL_snoc,hb];rfl
   have HW4:=Lib.hid hW4
   have HX:=Lib.hid (And.intro hxu (And.intro hu (And.intro hc (And.intro hMk (And.intro hg (And.intro own hb4))))))
   have HC:=Lib.hid (And.intro c4 s0)
   clear hcl hxu hu hc hMk hg own hb hr2 hb4 hM4
   cases hb1:b1 γ x u with
   | none =>
    rw[hb1]at hstep
    have h3:b3 β p t=none:=by rw[←bL_b3];exact bL_none hstep
    simp only[hb1,Option.isSome_none,Option.getD_none]at hcall
    clear hb1 hstep
    generalize freshB γ x=q at *
    go_wp2
    refine Rs.p0 W4.heap.size [8] _ [(3,[0,5]),(0,[1,2,3,4,6,7]),(2,[8]),(3,[9,10,11,12,13])] ?_ (λa w h=>h)
    intro wd hbd hwz
    have y0:=cellL c4 hbd
    have y1:=cellL s0 hbd
    have y2:=cellL s1 hbd
    have y3:=cellL s2 hbd
    have y4:=cellL s3 hbd
    have y5:=cellL s4 hbd
    have y6:=cellL d0 hbd
    have y7:=cellL d1 hbd
    have y8:=cellL d2 hbd
    have y9:=cellL d3 hbd
    have HBD:=Lib.hid hbd
    clear hwz c4 s0 s1 s2 s3 s4 d0 d1 d2 d3 hW4 hbd
    refine Rs.st_pure ?_
    iterate 2 go_big_quiet_step (fail)
    refine wpQuiet_nil (Rs.st_quiet ?_)
    iterate 6 go_big_quiet_step (fail)
    refine wpQuiet_nil (Rs.st_free ?_)
    clear y0 y1 y2 y3 y4 y5 y6 y7 y8 y9
    go_wp2_with (go_at_call 141;refine(hcall wd HBD.out).mono ?_;rintro e w5 ⟨rfl,hM5,hg5⟩)
    refine⟨⟨hg5.os,hg5.tape,hg5.output,hg5.size,λ_ h=>absurd h (Nat.not_lt_zero _)⟩,Rs.st_pure ?_⟩
    iterate 5 go_big_quiet_step (fail)
    refine wpQuiet_nil (Rs.st_done ?_)
    go_wp2
    have HR:Hid (TripR r β p t w (.returned (.tuple #[v,.bool false])) w5):=by
     obtain⟨hxu,hu,hc,hMk,hg,own,hb4⟩:=HX.out
     exact⟨v,fr,γ,by rw[h3];rfl,own_keep (own_lower (own_below own (below_tr hb4 HBD.out) (Nat.le_refl _)) H0.out.2.2.1.size) (KeepT.grownM (hMk.on (below_tr hb4 HBD.out)) hg5 _),hM5,grown_tr (grown_below H0.out.2.2.1) (grown_tr hg (grown_tr (grown_below (below_tr hb4 HBD.out)) hg5)),hu,by omega,λβ1 h=>by rw[h3]at h;cases h⟩
    go_ret2
    exact HR.out
   | some γ' =>
    rw[hb1]at hstep
    simp only[hb1,Option.isSome_some,Option.getD_some]at hcall
    cases hf:freshB γ x
    ·obtain rfl:=b1_old hf hb1
     simp only[hf]at hcall
     clear hb1 hf
     go_wp2
     refine Rs.p0 W4.heap.size [8] _ [(3,[0,5]),(0,[1,2,3,4,6,7]),(2,[8]),(3,[9,10,11,12,13])] ?_ (λa w h=>h)
     intro wd hbd hwz
     have y0:=cellL c4 hbd
     have y1:=cellL s0 hbd
     have y2:=cellL s1 hbd
     have y3:=cellL s2 hbd
     have y4:=cellL s3 hbd
     have y5:=cellL s4 hbd
     have y6:=cellL d0 hbd
     have y7:=cellL d1 hbd
     have y8:=cellL d2 hbd
     have y9:=cellL d3 hbd
     have HBD:=Lib.hid hbd
     clear hwz c4 s0 s1 s2 s3 s4 d0 d1 d2 d3 hW4 hbd
     refine Rs.st_pure ?_
     iterate 2 go_big_quiet_step (fail)
     refine wpQuiet_nil (Rs.st_quiet ?_)
     iterate 6 go_big_quiet_step (fail)
     refine wpQuiet_nil (Rs.st_free ?_)
     clear y0 y1 y2 y3 y4 y5 y6 y7 y8 y9
     go_wp2_with (go_at_call 141;refine(hcall wd HBD.out).mono ?_;rintro e w5 ⟨rfl,hM5,hg5⟩)
     refine⟨⟨hg5.os,hg5.tape,hg5.output,hg5.size,λ_ h=>absurd h (Nat.not_lt_zero _)⟩,Rs.st_pure ?_⟩
     iterate 5 go_big_quiet_step (fail)
     refine wpQuiet_nil (Rs.st_done ?_)
     go_wp2
     go_roundw
     case rel =>
      obtain⟨hxu,hu,hc,hMk,hg,own,hb4⟩:=HX.out
      exact⟨k+1,fr,γ',v,by omega,by omega,by go_num,rfl,hstep,hu,own_keep (own_below own (below_tr hb4 HBD.out) (Nat.le_refl _)) (KeepT.grownM (hMk.on (below_tr hb4 HBD.out)) hg5 _),hM5,grown_tr hg (grown_tr (grown_below (below_tr hb4 HBD.out)) hg5),cell_grownM (hMk.on (below_tr hb4 HBD.out)) (cell_on HC.out.1 HBD.out) hg5⟩
     case measure=>simp[intOf];omega
    ·have hu2:=undo_set HX.out.2.1 hf γ' hb1
     simp only[hf]at hcall
     clear hb1 hf
     go_wp2
     refine Rs.p0 W4.heap.size [8] _ [(3,[0,5]),(0,[1,2,3,4,6,7]),(2,[8]),(3,[9,10,11,12,13])] ?_ (λa w h=>h)
     intro wd hbd hwz
     have y0:=cellL c4 hbd
     have y1:=cellL s0 hbd
     have y2:=cellL s1 hbd
     have y3:=cellL s2 hbd
     have y4:=cellL s3 hbd
     have y5:=cellL s4 hbd
     have y6:=cellL d0 hbd
     have y7:=cellL d1 hbd
     have y8:=cellL d2 hbd
     have y9:=cellL d3 hbd
     have HBD:=Lib.hid hbd
     clear hwz c4 s0 s1 s2 s3 s4 d0 d1 d2 d3 hW4 hbd
     refine Rs.st_pure ?_
     iterate 2 go_big_quiet_step (fail)
     refine wpQuiet_nil (Rs.st_quiet ?_)
     iterate 6 go_big_quiet_step (fail)
     refine wpQuiet_nil (Rs.st_free ?_)
     clear y0 y1 y2 y3 y4 y5 y6 y7 y8 y9
     go_wp2_with (go_at_call 141;refine(hcall wd HBD.out).mono ?_;rintro e w5 ⟨rfl,hM5,hg5⟩)
     refine⟨⟨hg5.os,hg5.tape,hg5.output,hg5.size,λ_ h=>absurd h (Nat.not_lt_zero _)⟩,Rs.st_pure ?_⟩
     iterate 5 go_big_quiet_step (fail)
     refine wpQuiet_nil (Rs.st_done ?_)
     have g0:=cell_grownM (HX.out.2.2.2.1.on (below_tr HX.out.2.2.2.2.2.2 HBD.out)) (cell_on HC.out.2 HBD.out) hg5
     obtain⟨hxu,hu,hc,hMk,hg,own,hb4⟩:=HX.out
     have hbd5:=below_tr hb4 HBD.out
     have hM5':=hMk.on hbd5
     have own5:=own_keep (own_below own hbd5 (Nat.le_refl _)) (KeepT.grownM hM5' hg5 _)
     have hg15:=grown_tr hg (grown_tr (grown_below hbd5) hg5)
     have hba:Below w5.heap.size w5 (w5.alloc (.cells #[.string x.v] 9)):=blw
     have own2:=own_below own5 hba (Nat.le_refl _)
     have hs5:W.heap.size<=w5.heap.size:=hg15.size
     have c5:=cell_grownM hM5' (cell_on HC.out.1 HBD.out) hg5
     have hr6:r<W.heap.size:=lt_of_fd (H0.out.1.on H0.out.2.2.1)
     have ha6:ab<W.heap.size:=cell_lt H0.out.2.1
     have Hf:Hid ((fr++[x.v]).map Value.string=fr.map Value.string++[.string x.v]):=by show _=_;simp
     have HZ:=Lib.hid (And.intro hM5 (And.intro hg15 (And.intro c5 (And.intro hu2 (And.intro hstep hba)))))
     clear hxu hu hc hMk hg own hb4 hbd5 hM5' own5 hg15 hba hM5 hg5 c5 hu2 hstep hcall
     go_wp2_with (at_builtin;refine wpList_appG rfl rfl Tryz.underlying32 stringInfo' rfl (by omega) rfl own2 rfl (Rd.of_block (heap_alloc_new w5 _) rfl) rfl (by intro u hu;simp at hu;subst hu;rfl) (by omega) (by omega) (by simp;omega) ?_;intro v6 w6 own6 hb6 _)
     go_roundw
     case rel =>
      obtain⟨hM5,hg15,c5,hu2,hstep,hba⟩:=HZ.out
      have hb56:Below W.heap.size w5 w6:=(hba.mono hs5).trans hb6
      exact⟨k+1,fr++[x.v],γ',v6,by omega,by simp;omega,by go_num,rfl,hstep,hu2,by rw[Hf.out,List.length_append];exact own6,hM5.same (hb56.block r hr6),grown_base hg15 hb56,by rw[hb56.cell (p:=⟨ab,0,none⟩) ha6];exact c5⟩
     case measure=>simp[intOf];omega
  ·obtain rfl:k=3:=by omega
   have h3:b3 β p t=some γ:=by rw[←bL_b3];exact hb
   have HR:Hid (TripR r β p t w (.returned (.tuple #[v,.bool true])) wr):=⟨v,fr,γ,by rw[h3];rfl,own_lower own H0.out.2.2.1.size,hMk,grown_tr (grown_below H0.out.2.2.1) hg,hu,hfr,λβ1 h=>by rw[h3]at h;injection h⟩
   clear own hMk hg hc hb h3 hu
   go_wp2
   go_ret2
   exact HR.out
end Go.Proofs.YtoaemihcbmlkgaaGreatDoor
