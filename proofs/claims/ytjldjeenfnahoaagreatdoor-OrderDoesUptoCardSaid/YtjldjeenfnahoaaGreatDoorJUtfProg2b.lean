/- A builder that lies first in a struct of the call's own (str -/
import Derived.Test.YtjldjeenfnahoaaGreatDoorJTxMath
set_option maxHeartbeats 4000000
set_option maxRecDepth 100000
namespace Go.Proofs.YtjldjeenfnahoaaGreatDoor
open Go Go.RowKit
def WAt (T:TypeId) (ext:List Value) (B b:Nat) (p:Value) (bs:List Value) (w:World):Prop:=
 B<=b/\∃v,w.heap[b]?=some (.cells (p::v::ext).toArray T (0,0))/\w.ownsRowF B 5 1 v bs.length bs/\v.ownBlock≠some b
def WIs (T:TypeId) (ext:List Value) (B b:Nat) (bs:List Value) (w:World):Prop:=WAt T ext B b (.pointer none) bs w∨WAt T ext B b (.pointer (some ⟨b,0,none⟩)) bs w
abbrev OK8 (b:Nat) (w w':World):Prop:=Lib.OthersKept 5 (some b) w w'
section
variable {T:TypeId} {ext:List Value} {B b:Nat} {p:Value} {bs:List Value} {w:World}
theorem WAt.cell0 (h:WAt T ext B b p bs w):w.cell? ⟨b,0,none⟩=some p:=by
 obtain⟨_,v,hb,_⟩:=h
 simp[World.cell?,hb]
theorem WAt.shape (h:WAt T ext B b p bs w):w.shape? b=some (T,ext.length+2):=by
 obtain⟨_,v,hb,_⟩:=h
 simp[World.shape?,hb]
theorem WAt.lt (h:WAt T ext B b p bs w):b<w.heap.size:=ae h.cell0
theorem WAt.frozen (h:WAt T ext B b p bs w) (i:Nat):w.frozen? ⟨b,i,none⟩=false:=by
 obtain⟨_,v,hb,_⟩:=h
 simp[World.frozen?,hb]
theorem WAt.used (h:WAt T ext B b p bs w) (q:Value):WAt T ext B b q bs (w.setCell ⟨b,0,none⟩ q):=by
 obtain⟨hB,v,hb,hown,hne⟩:=h
 refine⟨hB,v,?_,?_,hne⟩
 ·simp[World.setCell,Array.getElem?_modify,hb]
 ·exact hown.kept (row:=some b) ⟨rfl,rfl,rfl,by simp[World.setCell],λk _ hk=>Below.heap_setCell _ _ _ _ (λe=>hk (by simp[e]))⟩ (Or.inr hne)
theorem WAt.put {v v':Value} {bs':List Value} (hB:B<=b) (hb:w.heap[b]?=some (.cells (p::v::ext).toArray T (0,0))) (hown:w.ownsRowF B 5 1 v' bs'.length bs') (hT:T≠5) :
  WAt T ext B b p bs' (w.setCell ⟨b,1,none⟩ v'):=by
 have hne:=Lib.ownBlock_neF hown hb hT
 refine⟨hB,v',?_,?_,hne⟩
 ·simp[World.setCell,Array.getElem?_modify,hb]
 ·exact hown.kept (row:=some b) ⟨rfl,rfl,rfl,by simp[World.setCell],λk _ hk=>Below.heap_setCell _ _ _ _ (λe=>hk (by simp[e]))⟩ (Or.inr hne)
theorem WAt.alloc (h:WAt T ext B b p bs w) (o:Obj):WAt T ext B b p bs (w.alloc o):=by
 have hlt:=h.lt
 obtain⟨hB,v,hb,hown,hne⟩:=h
 exact⟨hB,v,(Lib.alloc_old w o b hlt).trans hb,hown.kept (World.grownBy_alloc w o none) (by cases hv:v.ownBlock<;>simp),hne⟩
theorem WAt.step {w':World} (h:WAt T ext B b p bs w) (hb:Below w.heap.size w w'):WAt T ext B b p bs w':=by
 have hlt:=h.lt
 obtain⟨hB,v,hh,hown,hne⟩:=h
 refine⟨hB,v,by rw[hb.block b hlt];exact hh,⟨hown.1,?_⟩,hne⟩
 rcases hown.2 with hn|⟨g,cap,cur,fz,hv,hbg,hg,rest⟩
 ·exact .inl hn
 ·exact .inr ⟨g,cap,cur,fz,hv,hbg,by rw[hb.block g (Array.getElem?_eq_some_iff.1 hg).1];exact hg,rest⟩
theorem WAt.iterAt (h:WAt T ext B b p bs w) {k:Nat} {s:ByteArray} {pos:Nat} (hk:w.heap[k]?=some (.stringIter s pos)) (pos':Nat):WAt T ext B b p bs (w.iterAt k s pos'):=by
 obtain⟨hB,v,hb,hown,hne⟩:=h
 have hkb:b≠k:=by
  intro e1
  rw[e1,hk]at hb
  cases hb
 refine⟨hB,v,(Lib.iterAt_other w k b s pos' hkb).trans hb,⟨hown.1,?_⟩,hne⟩
 rcases hown.2 with hn|⟨g,cap,cur,fz,hv,hbg,hg,rest⟩
 ·exact .inl hn
 ·have hkg:g≠k:=by
   intro e1
   rw[e1,hk]at hg
   cases hg
  exact .inr ⟨g,cap,cur,fz,hv,hbg,(Lib.iterAt_other w k g s pos' hkg).trans hg,rest⟩
theorem WAt.froze {g cap:Nat} (h:WAt T ext B b p bs w) (hc:w.cell? ⟨b,1,none⟩=some (.slice (some ⟨g,0,none⟩) bs.length cap)):WAt T ext B b p bs (w.freeze ⟨g,0,none⟩ bs.length):=by
 obtain⟨hB,v,hb,hown,hne⟩:=h
 have hv:v=.slice (some ⟨g,0,none⟩) bs.length cap:=by
  rw[Lib.cell_of_heap hb]at hc
  simpa using hc
 subst hv
 have hgb:g≠b:=λe=>hne (by simp[Value.ownBlock,e])
 unfold World.freeze
 split
 ·exact⟨hB,_,hb,hown,hne⟩
 ·rename_i hn0
  refine⟨hB,_,?_,⟨hown.1,?_⟩,hne⟩
  ·simp only[Array.getElem?_modify]
   rw[if_neg hgb]
   exact hb
  ·rcases hown.2 with ⟨hv,_⟩|⟨g',cap',cur,fz,hv,hbg,hg,hfz,rest⟩
   ·cases hv
   ·injection hv with ha _ hcap
    injection ha with ha
    injection ha with hgg _ _
    subst hgg
    subst hcap
    obtain⟨lo,hi⟩:=fz
    refine .inr ⟨g,_,cur,(if lo == hi then (0,0+bs.length) else (min lo 0,max hi (0+bs.length))),rfl,hbg,?_,?_,rest⟩
    ·simp[Array.getElem?_modify,hg]
    ·simp only at hfz
     split<;>simp<;>omega
theorem WIs.lt (h:WIs T ext B b bs w):b<w.heap.size:=h.elim (λx=>x.lt) (λx=>x.lt)
theorem WIs.step {w':World} (h:WIs T ext B b bs w) (hb:Below w.heap.size w w'):WIs T ext B b bs w':=h.elim (λx=>.inl (x.step hb)) (λx=>.inr (x.step hb))
theorem WIs.alloc (h:WIs T ext B b bs w) (o:Obj):WIs T ext B b bs (w.alloc o):=h.elim (λx=>.inl (x.alloc o)) (λx=>.inr (x.alloc o))
theorem WIs.iterAt (h:WIs T ext B b bs w) {k:Nat} {s:ByteArray} {pos:Nat} (hk:w.heap[k]?=some (.stringIter s pos)) (pos':Nat):WIs T ext B b bs (w.iterAt k s pos'):=
 h.elim (λx=>.inl (x.iterAt hk pos')) (λx=>.inr (x.iterAt hk pos'))
theorem WAt.new (w:World) (T:TypeId) (ext:List Value):WAt T ext w.heap.size w.heap.size (.pointer none) [] (w.alloc (.cells (.pointer none :: .slice none 0 0::ext).toArray T)):=
 ⟨Nat.le_refl _,.slice none 0 0,heap_alloc_new w _,World.ownsRowF_nil _ _ _ _,by simp[Value.ownBlock]⟩
end
structure WTy (T:TypeId) (n:Nat):Prop where
 lies:liesAt Tryz.prog Tryz.prog.depth T (n / Tryz.prog.cellsOf T) 0 148 1=true
 ne:T≠5
theorem wQ {T:TypeId} {ext:List Value} (X:WTy T (ext.length+2)) (B b:Nat) (bs:List Value) (w:World) (h:WIs T ext B b bs w) :
  Calls Tryz.prog 148 #[.pointer (some ⟨b,0,none⟩)] w λe w'=>e=.returned (.tuple #[])/\WAt T ext B b (.pointer (some ⟨b,0,none⟩)) bs w'/\Below B w w'/\OK8 b w w':=by
 obtain⟨j,hj,hjs⟩:=Option.map_eq_some_iff.1 (show (Tryz.prog.info? 148).map (·.size)=some 2 by kernel_rfl)
 rcases h with h|h
 ·have h0:=h.cell0
  have hsh:=h.shape
  have hfz:=h.frozen 0
  have H:=Lib.hid h
  clear h
  go_enter Tryz.func148,Tryz.ntmps148
  go_wp2
  rw[Lib.run_to_unsafe w ⟨b,0,none⟩ Tryz.underlying146 Tryz.underlying217 hj (by rw[hjs];decide) hsh (by simp)]
  simp only[Result.andThen]
  rw[Oper.upon_value]
  go_wp2
  rw[run_callFunc_extern Tryz.func182 (by kernel_rfl) (by kernel_rfl) (by kernel_rfl) (e:=Extern.AbiNoEscape.same) (by kernel_rfl)]
  rw[Lib.run_noEscape]
  simp only[Result.andThen]
  rw[Oper.upon_value]
  go_wp2
  rw[Lib.run_from_unsafe w ⟨b,0,none⟩ Tryz.underlying217 Tryz.underlying146 hj hsh X.lies]
  simp only[Result.andThen]
  rw[Oper.upon_value]
  go_wp2
  go_end0
  exact⟨rfl,H.out.used _,(Below.refl B w).setCell (p:=⟨b,0,none⟩) H.out.1 _,(Lib.OthersKept.refl _ _ w).setCell ⟨b,0,none⟩ rfl _⟩
 ·have h0:=h.cell0
  have H:=Lib.hid h
  clear h
  go_enter Tryz.func148,Tryz.ntmps148
  go_wp2
  rw[Lib.run_neq_ptr_same w _ Tryz.underlying146 hj]
  go_wp2
  go_end0
  exact⟨rfl,H.out,Below.refl B _,Lib.OthersKept.refl _ _ _⟩
theorem C9:∃i0,Tryz.prog.info? 5=some i0/\i0.zero=some (.int .u8 0)/\i0.size=1/\i0.bytes=1:=info_parts (by kernel_rfl)
theorem tj {T:TypeId} {ext:List Value} (X:WTy T (ext.length+2)) (B b:Nat) (bs:List Value) (s:ByteArray) (w:World) (h:WIs T ext B b bs w) (hlen:bs.length+s.size<=140737488355328) (hBw:B<=w.heap.size) :
  Calls Tryz.prog 116 #[.pointer (some ⟨b,0,none⟩),.string s] w λe w'=>e=.returned (.tuple #[.int .i64 s.size,.nilIface])/\WAt T ext B b (.pointer (some ⟨b,0,none⟩)) (bs++Lib.strCells s) w'/\Below B w w'/\OK8 b w w':=by
 obtain⟨i0,hi,hz0,hz1,hz2⟩:=C9
 have hcc:=wQ X B b bs w h
 clear h
 go_enter Tryz.func116,Tryz.ntmps116
 go_wp2_with (go_at_call 148;refine hcc.mono ?_)
 rintro e w1 ⟨rfl,h1,hb1,hk1⟩
 obtain⟨hB,v,hbk,hown,hne⟩:=h1
 have c0:w1.cell? ⟨b,0,none⟩=some (.pointer (some ⟨b,0,none⟩)):=by rw[Lib.cell_of_heap hbk];rfl
 have c1:w1.cell? ⟨b,1,none⟩=some v:=by rw[Lib.cell_of_heap hbk];rfl
 go_wp2_with (at_builtin;refine Lib.wpList_append_own_stringF _ rfl _ _ 96 9 rfl B 5 i0 Tryz.underlying96 Tryz.underlying9 hi hz0 hz1 hz2 _ _ _ rfl hown s rfl ?c3 ?c4 ?c5 ?_)
 case c3=>unfold maxLen;omega
 case c4=>omega
 case c5=>have:=hb1.size;omega
 intro v' w2 hown' hgrow _
 have hlt:b<w1.heap.size:=ae c0
 have hb2:w2.heap[b]?=some (.cells (.pointer (some ⟨b,0,none⟩)::v::ext).toArray T (0,0)):=by
  rw[hgrow.block b hlt (λe=>hne e.symm)]
  exact hbk
 have d1:w2.cell? ⟨b,1,none⟩=some v:=by rw[Lib.cell_of_heap hb2];rfl
 have f1:w2.frozen? ⟨b,1,none⟩=false:=Lib.frozen_of_heap hb2 1
 obtain⟨ao,n',cap,rfl⟩:∃ao n' cap,v'=.slice ao n' cap:=by
  rcases hown'.2 with ⟨hv,_⟩|⟨g,cap,cur,fz,hv,_⟩
  ·exact⟨_,_,_,hv⟩
  ·exact⟨_,_,_,hv⟩
 go_wp2
 go_ret2
 refine⟨rfl,?_,?_,(hk1.grown hgrow (Lib.ownsRowF_kind hown)).setCell ⟨b,1,none⟩ rfl _⟩
 ·exact WAt.put hB hb2 (bs':=bs++Lib.strCells s) (by simpa[Lib.strCells_length] using hown') X.ne
 ·exact(hb1.grown hgrow (by have:=hb1.size;omega) (λk hk=>(hown.lt k hk).1)).setCell (p:=⟨b,1,none⟩) hB _
theorem De {T:TypeId} {ext:List Value} (X:WTy T (ext.length+2)) (B b:Nat) (bs:List Value) (r:Int) (hr0 : -2147483648<=r) (hr1:r<=2147483647) (w:World) (h:WIs T ext B b bs w) (hlen:bs.length+4<=140737488355328) (hBw:B<=w.heap.size) :
  Calls Tryz.prog 168 #[.pointer (some ⟨b,0,none⟩),.int .i32 r] w λe w'=>e=.returned (.tuple #[.int .i64 (Lib.runeCells r).length,.nilIface])/\WAt T ext B b (.pointer (some ⟨b,0,none⟩)) (bs++Lib.runeCells r) w'/\Below B w w'/\OK8 b w w':=by
 have hk4:=Lib.runeCells_le r
 have hcc:=wQ X B b bs w h
 clear h
 go_enter Tryz.func168,Tryz.ntmps168
 go_wp2_with (go_at_call 148;refine hcc.mono ?_)
 rintro e w1 ⟨rfl,h1,hb1,hk1⟩
 obtain⟨hB,v,hbk,hown,hne⟩:=h1
 obtain⟨ao,cap,rfl⟩:∃ao cap,v=.slice ao bs.length cap:=by
  rcases hown.2 with ⟨hv,h0⟩|⟨g,cap,cur,fz,hv,_⟩
  ·exact⟨none,0,by rw[hv,h0]⟩
  ·exact⟨_,_,hv⟩
 have c1:w1.cell? ⟨b,1,none⟩=some (.slice ao bs.length cap):=by rw[Lib.cell_of_heap hbk];rfl
 have hlt:b<w1.heap.size:=ae c1
 have hap1:=eM B _ bs.length bs r hr0 hr1 w1 hown hlen (by have:=hb1.size;omega)
 go_wp2_with (go_at_call 207;refine hap1.mono ?_)
 rintro e w2 ⟨v',rfl,hown',o,hgrow⟩
 have hb2:w2.heap[b]?=some (.cells (.pointer (some ⟨b,0,none⟩) :: .slice ao bs.length cap::ext).toArray T (0,0)):=by
  rw[hgrow.block b (by simp;omega) (λe=>hne e.symm),Lib.alloc_old w1 _ b hlt]
  exact hbk
 have d1:w2.cell? ⟨b,1,none⟩=some (.slice ao bs.length cap):=by rw[Lib.cell_of_heap hb2];rfl
 have f1:w2.frozen? ⟨b,1,none⟩=false:=Lib.frozen_of_heap hb2 1
 obtain⟨g,cap',rfl⟩:∃g cap',v'=.slice (some ⟨g,0,none⟩) (bs.length+(Lib.runeCells r).length) cap':=by
  rcases hown'.2 with ⟨_,h0⟩|⟨g,cap',cur,fz,hv,_⟩
  ·omega
  ·exact⟨g,cap',hv⟩
 go_wp2
 go_ret2
 refine⟨?_,?_,?_,((hk1.alloc _).grown hgrow (Lib.ownsRowF_kind (hown.alloc _))).setCell ⟨b,1,none⟩ rfl _⟩
 ·have e:((bs.length:Int)+((Lib.runeCells r).length:Int)-(bs.length:Int))=((Lib.runeCells r).length:Int):=by omega
  simp[e]
 ·exact WAt.put hB hb2 (bs':=bs++Lib.runeCells r) (by simpa using hown') X.ne
 ·exact((hb1.alloc (by have:=hb1.size;omega) _).grown hgrow (by have:=hb1.size;simp;omega) (λk hk=>(hown.lt k hk).1)).setCell (p:=⟨b,1,none⟩) hB _
theorem kM {T:TypeId} {ext:List Value} (B b:Nat) (l:List UInt8) (w:World) (h:WIs T ext B b (Lib.byteCells l) w) (h0:l≠[]) :
  Calls Tryz.prog 118 #[.pointer (some ⟨b,0,none⟩)] w λe w'=>e=.returned (.string ⟨l.toArray⟩)/\WIs T ext B b (Lib.byteCells l) w'/\Below B w w':=by
 obtain⟨p,hp,hAt⟩:∃p,(p=.pointer none∨p=.pointer (some ⟨b,0,none⟩))/\WAt T ext B b p (Lib.byteCells l) w:=by
  rcases h with h|h
  ·exact⟨_,.inl rfl,h⟩
  ·exact⟨_,.inr rfl,h⟩
 obtain⟨hB,v,hbk,hown,hne⟩:=hAt
 have hl0:l.length≠0:=by simpa using h0
 rw[Lib.byteCells_length]at hown
 obtain⟨g,cap,cur,fz,rfl,hbg,hg,hfz,hnc,hcm,hcs,htake⟩:∃g cap cur fz,v=.slice (some ⟨g,0,none⟩) l.length cap/\B<=g/\w.heap[g]?=some (.cells cur 5 fz)/\fz.2<=l.length*1/\l.length<=cap/\cap<=maxLen/\cur.size=cap*1/\cur.toList.take (l.length*1)=Lib.byteCells l:=by
  rcases hown.2 with ⟨_,hz⟩|⟨g,cap,cur,fz,hv,r⟩
  ·exact absurd hz hl0
  ·exact⟨g,cap,cur,fz,hv,r⟩
 have c1:w.drew.cell? ⟨b,1,none⟩=some (.slice (some ⟨g,0,none⟩) l.length cap):=by
  have:w.drew.heap[b]?=some (.cells (p :: .slice (some ⟨g,0,none⟩) l.length cap::ext).toArray T (0,0)):=hbk
  rw[Lib.cell_of_heap this];rfl
 have hSD:(Builtin.unsafeSliceData_ #[96] 178 #[.slice (some ⟨g,0,none⟩) l.length cap]).run Tryz.prog w.drew=.ok (.pointer (some ⟨g,0,none⟩)) w.drew:=
  Lib.run_unsafeSliceData_row _ _ _ _ _ _ (by omega)
 have hUS:(Builtin.unsafeString_ #[178,3] 9 #[.pointer (some ⟨g,0,none⟩),.int .i64 l.length]).run Tryz.prog w.drew=.ok (.string ⟨l.toArray⟩) (w.drew.freeze ⟨g,0,none⟩ l.length):=by
  refine Lib.run_unsafeString_row w.drew 178 3 9 5 Tryz.underlying178 (by kernel_rfl) g cur.size (by have hg':w.drew.heap[g]?=some (.cells cur 5 fz):=hg;simp[World.shape?,hg']) l h0 (by omega) (by unfold maxLen at hcm;omega) ?_
  intro j x hx
  have:=hown.cells (g:=g) rfl j (.int .u8 x.toNat) (by simp[Lib.byteCells,hx])
  exact this
 have hkeep:WIs T ext B b (Lib.byteCells l) (w.drew.freeze ⟨g,0,none⟩ l.length):=by
  have hA:WAt T ext B b p (Lib.byteCells l) w.drew:=⟨hB,_,hbk,by rw[Lib.byteCells_length];exact hown,hne⟩
  have hF:=hA.froze (g:=g) (cap:=cap) (by rw[Lib.byteCells_length];exact c1)
  rw[Lib.byteCells_length]at hF
  rcases hp with rfl|rfl
  ·exact .inl hF
  ·exact .inr hF
 have hbel:Below B w (w.drew.freeze ⟨g,0,none⟩ l.length):=Lib.below_freeze (Below.drew (Below.refl B w)) (p:=⟨g,0,none⟩) hbg _
 have HK:=Lib.hid hkeep
 clear hkeep h hown hp hbk
 have mixed:Tryz.prog.follows Departure.mixedOrders=true:=by kernel_rfl
 go_enter Tryz.func118,Tryz.ntmps118
 go_wp2
 go_region_o
 all_goals (go_wp2;go_ret;exact⟨rfl,HK.out,hbel⟩)
end Go.Proofs.YtjldjeenfnahoaaGreatDoor
namespace Go.Proofs.YtjldjeenfnahoaaGreatDoor.Tx
open Go Go.RowKit Um Fm Lx
theorem zk {c:UInt8} (h:128<=c.toNat):pq c=false:=by
 unfold pq
 rw[decide_eq_false (by omega)];rfl
theorem lU (a b:List UInt8):aZ (a++b)=aZ a++aZ b:=List.flatMap_append
theorem og:∀l:List UInt8,(∀b∈l,128<=b.toNat)->aZ l=l
 | [],_=>rfl
 | c::t,h=>by
  have e:aZ (c::t)=el c++aZ t:=by unfold aZ;rw[List.flatMap_cons]
  have e2:el c=[c]:=by unfold el;rw[zk (h c (by simp))];rfl
  rw[e,e2,og t (λb hb=>h b (by simp[hb]))];rfl
theorem zl {r:Int} (h:128<=r):∀b∈Lib.encodeRune r,128<=b.toNat:=by
 intro b hb
 unfold Lib.encodeRune at hb
 obtain⟨x,hx,rfl⟩:=List.mem_map.1 hb
 have h1:=Lib.encodeRuneZ_byte r x hx
 have h2:128<=x:=by
  unfold Lib.encodeRuneZ at hx
  repeat' split at hx
  all_goals simp at hx;omega
 have h3:x.toNat.toUInt8.toNat=x.toNat:=by
  show (UInt8.ofNat x.toNat).toNat=_
  rw[UInt8.toNat_ofNat'];omega
 omega
def kv (r:Nat):List UInt8:=if eV (r:Int) then Lib.encodeRune (r:Int) else [92,117,48,48,hxD (r / 16),hxD (r % 16)]
theorem yV {l:List UInt8} (hne:l≠[]) (hv:Lib.validD l=true) :
  aZ l=kv (Lib.decodeL l).1++aZ (l.drop (Lib.decodeL l).2)/\(eV ((Lib.decodeL l).1:Int)=false->(Lib.decodeL l).1<128)/\Lib.validD (l.drop (Lib.decodeL l).2)=true/\1<=(Lib.decodeL l).2/\(Lib.decodeL l).2<=l.length/\(kv (Lib.decodeL l).1).length<=6*(Lib.decodeL l).2:=by
 rw[Lib.validD_step l hne]at hv
 have hl:0<l.length:=List.length_pos_iff.2 hne
 split at hv
 ·cases hv
 rename_i hb
 have hw:=Lib.decodeL_width l
 have hle:=Lib.decodeL_le l hne
 have hnx:nx l=Lib.decodeL l:=by
  rw[Lib.decodeL_N]at hb ⊢
  unfold nx
  rw[if_neg (by omega),if_neg (λe=>hb (by rw[e];exact⟨rfl,rfl⟩))]
 obtain⟨hB,-,henc,-,-⟩:=oZ l (by rw[hnx];omega)
 rw[hnx]at hB henc
 generalize hd:Lib.decodeL l=d at *
 obtain⟨r,n⟩:=d
 simp only at *
 have hsplit:l=l.take n++l.drop n:=(List.take_append_drop n l).symm
 have hlen4:(Lib.encodeRune (r:Int)).length<=4:=by unfold Lib.encodeRune;rw[List.length_map];exact(Lib.encodeRuneZ_length _).2
 have hel:(Lib.encodeRune (r:Int)).length=n:=by rw[←henc,List.length_take];omega
 rcases Nat.lt_or_ge r 128 with hr|hr
 ·have e1:Lib.encodeRune (r:Int)=[UInt8.ofNat r]:=by
   unfold Lib.encodeRune
   rw[Lib.encodeRuneZ_one (by omega) (by omega)]
   simp
  have hn1:n=1:=by rw[e1]at hel;simpa using hel.symm
  have hc:(UInt8.ofNat r).toNat=r:=by rw[UInt8.toNat_ofNat'];omega
  refine⟨?_,λ_=>hr,hv,hw,hle,?_⟩
  ·conv=>lhs;rw[hsplit,henc,e1]
   rw[lU]
   congr 1
   unfold kv aZ
   rw[List.flatMap_cons,List.flatMap_nil,List.append_nil]
   unfold el pq
   rw[hc,decide_eq_true hr,Bool.true_and]
   cases eV (r:Int)
   ·rfl
   ·rw[if_neg (by simp),if_pos rfl,e1]
  ·unfold kv;split
   ·omega
   ·simp;omega
 ·have hraw:eV (r:Int)=true:=by
   unfold eV
   rw[hB,decide_eq_true (by omega:(32:Int)<r)]
   have:il.contains (r:Int)=false:=by
    unfold il
    simp;omega
   rw[this];rfl
  refine⟨?_,λh=>(by rw[hraw]at h;cases h),hv,hw,hle,?_⟩
  ·conv=>lhs;rw[hsplit,henc]
   rw[lU]
   congr 1
   unfold kv
   rw[hraw,if_pos rfl]
   exact og _ (zl (by omega))
  ·unfold kv;rw[hraw,if_pos rfl];omega
theorem yX:aZ []=[]:=rfl
theorem qU:∀l:List UInt8,(aZ l).length<=6*l.length
 | []=>by simp[aZ]
 | c::t=>by
  have e:aZ (c::t)=el c++aZ t:=by unfold aZ;rw[List.flatMap_cons]
  have h1:(el c).length<=6:=by unfold el;split<;>simp
  have:=qU t
  rw[e,List.length_append,List.length_cons];omega
theorem lN:∀l:List UInt8,(aj l).length<=2*l.length
 | []=>by simp[aj]
 | c::t=>by
  have e:aj (c::t)=cN c++aj t:=by unfold aj;rw[List.flatMap_cons]
  have h1:(cN c).length<=2:=by unfold cN;(repeat' split);all_goals simp
  have:=lN t
  rw[e,List.length_append,List.length_cons];omega
end Go.Proofs.YtjldjeenfnahoaaGreatDoor.Tx
namespace Go.Proofs.YtjldjeenfnahoaaGreatDoor
open Go Go.RowKit Um Fm Tx
theorem wTy:WTy 170 2:=⟨by kernel_rfl,by decide⟩
abbrev WI (B b:Nat) (acc:List UInt8) (w:World):Prop:=WIs 170 [] B b (Lib.byteCells acc) w
theorem C8 (B b:Nat) (acc:List UInt8) (s:ByteArray) (w:World) (h:WI B b acc w) (ha:acc.length<=1000000000) (hs:s.size<=1000000000) (hBw:B<=w.heap.size) :
  Calls Tryz.prog 116 #[.pointer (some ⟨b,0,none⟩),.string s] w λe w'=>(∃u,e=.returned u)/\WI B b (acc++s.data.toList) w'/\Below B w w'/\OK8 b w w':=by
 refine(tj wTy B b _ s w h (by rw[Lib.byteCells_length];omega) hBw).mono ?_
 rintro e w' ⟨rfl,h1,h2,h3⟩
 rw[Lib.strCells_eq,←Lib.byteCells_append]at h1
 exact⟨⟨_,rfl⟩,.inr h1,h2,h3⟩
theorem rM (B b:Nat) (acc:List UInt8) (r:Nat) (hr:r<=1114111) (w:World) (h:WI B b acc w) (ha:acc.length<=1000000000) (hBw:B<=w.heap.size) :
  Calls Tryz.prog 168 #[.pointer (some ⟨b,0,none⟩),.int .i32 r] w λe w'=>(∃u,e=.returned u)/\WI B b (acc++Lib.encodeRune r) w'/\Below B w w'/\OK8 b w w':=by
 refine(De wTy B b _ r (by omega) (by omega) w h (by rw[Lib.byteCells_length];omega) hBw).mono ?_
 rintro e w' ⟨rfl,h1,h2,h3⟩
 rw[←Lib.byteCells_encodeRune,←Lib.byteCells_append]at h1
 exact⟨⟨_,rfl⟩,.inr h1,h2,h3⟩
theorem Bp (l:List ByteArray) (k m:Nat) (hz:∀s∈l,s.size<=m) (hk:k<=l.length):((l.take k).flatMap λs=>s.data.toList).length<=k*m:=by
 induction k with
 | zero=>simp
 | succ k ih =>
  have hlt:k<l.length:=by omega
  rw[List.take_add_one,List.getElem?_eq_getElem hlt,Option.toList_some,List.flatMap_append,List.length_append]
  have h1:=ih (by omega)
  have h2:=hz l[k] (List.getElem_mem hlt)
  have h3:((([l[k]]:List ByteArray).flatMap λs=>s.data.toList)).length=l[k].size:=by
   rw[List.flatMap_cons,List.flatMap_nil,List.append_nil,ac]
  rw[h3,Nat.succ_mul];omega
theorem tm (B b g:Nat) (acc:List UInt8) (l:List ByteArray) (c:Nat) (w:World) (h:WI B b acc w) (hA:w.heap[g]?=some (.cells (l.map Value.string).toArray 9 (0,0))) (hg:g≠b)
  (hl:l.length<=4) (hlen:acc.length<=100000000) (hz:∀s∈l,s.size<=100000000) (hBw:B<=w.heap.size) :
  Calls Tryz.prog 137 #[.pointer (some ⟨b,0,none⟩),.slice (some ⟨g,0,none⟩) l.length c] w λe w' =>
   e=.returned (.pointer (some ⟨b,0,none⟩))/\WI B b (acc++l.flatMap λs=>s.data.toList) w'/\Below B w w'/\OK8 b w w':=by
 go_enter Tryz.func137,Tryz.ntmps137
 go_wp2
 go_loopw [9] (λi wr=>∃k:Nat,k<=l.length/\i=.int .i64 k/\Hid (WI B b (acc++(l.take k).flatMap λs=>s.data.toList) wr)/\Hid (OK8 b w wr)/\Below B w wr) (λi _=>l.length-(intOf i).toNat)
 case atStart=>exact⟨0,by omega,rfl,by show WI B b _ w;simpa using h,Lib.OthersKept.refl _ _ _,Below.refl _ _⟩
 case round =>
  obtain⟨k,hk,rfl,HW,HO,hB⟩:=hrel
  by_cases hlt:k<l.length
  ·obtain⟨y,hx⟩:∃x,l[k]?=some x:=⟨_,List.getElem?_eq_getElem hlt⟩
   have hblk:=HO.out g _ hA (by simpa using hg) (by intro c fz e;cases e)
   have hcx:wr.cell? ⟨g,k,none⟩=some (.string y):=by rw[Lib.cell_of_heap hblk];simp[hx]
   have hy:=hz y (List.mem_of_getElem? hx)
   have hfl:=Bp l k 100000000 hz (by omega)
   have hww:=C8 B b _ y wr HW.out (by rw[List.length_append];omega) (by omega) (Nat.le_trans hBw hB.size)
   have e2:(l.take (k+1)).flatMap (λs=>s.data.toList)=(l.take k).flatMap (λs=>s.data.toList)++y.data.toList:=by
    rw[List.take_add_one,hx,Option.toList_some,List.flatMap_append];simp
   rw[List.append_assoc,←e2]at hww
   clear HW hx hblk e2 hfl h hz
   go_wp2_with (go_at_call 116;refine hww.mono ?_;rintro e w2 ⟨⟨u,rfl⟩,h1,h2,h3⟩)
   go_roundw
   case rel=>exact⟨k+1,by omega,by go_num,h1,HO.out.trans h3,hB.trans h2⟩
   case measure=>simp[intOf];omega
  ·have e2:(l.take k).flatMap (λs=>s.data.toList)=l.flatMap (λs=>s.data.toList):=by rw[List.take_of_length_le (by omega)]
   rw[e2]at HW
   clear e2 h hz
   go_wp2
   go_ret
   exact⟨rfl,HW.out,hB,HO.out⟩
def hxd (d:Nat):UInt8:=if d<10 then UInt8.ofNat (48+d) else UInt8.ofNat (87+d)
def TzV (w:World):Prop:=w.cell? ⟨6,15,none⟩=some (.int .u8 4)
theorem TzV.step {w w':World} (h:TzV w) (hb:Below w.heap.size w w'):TzV w':=by
 unfold TzV at *
 rw[hb.cell (ae h)];exact h
theorem DJ (w:World) (hT:TzV w):Calls Tryz.prog 275 #[.int .u64 16] w λe w'=>e=.returned (.int .i64 4)/\w=w':=by
 have hT':w.cell? ⟨6,15,none⟩=some (.int .u8 4):=hT
 have key:IntKind.u64.wrap (bits BinOp.and IntKind.u64 16 (IntKind.u64.wrap (-16))*285870213051353865) / 288230376151711744=15:=by decide
 clear hT
 go_enter Tryz.func275,Tryz.ntmps275
 go_wp2
 go_ret
 exact⟨rfl,rfl⟩
theorem tz (w:World) (hT:TzV w):Calls Tryz.prog 251 #[.int .u64 16] w λe w'=>e=.returned (.int .i64 4)/\w=w':=by
 have h:=DJ w hT
 go_enter Tryz.func251,Tryz.ntmps251
 go_wp2_with (go_at_call 275;refine h.mono ?_;rintro e w2 ⟨rfl,rfl⟩)
 go_ret
 exact⟨rfl,rfl⟩
theorem Dq (w:World):Calls Tryz.prog 250 #[.int .i64 16] w λe w'=>e=.returned (.bool true)/\w=w':=by
 have key:bits BinOp.and IntKind.i64 16 15=0:=by decide
 go_enter Tryz.func250,Tryz.ntmps250
 go_wp2
 go_ret
 exact⟨rfl,rfl⟩
abbrev zr:ByteArray:=⟨#[48,49,50,51,52,53,54,55,56,57,97,98,99,100,101,102,103,104,105,106,107,108,109,110,111,112,113,114,115,116,117,118,119,120,121,122]⟩
theorem Bz:∀d:Fin 16,strOfNums [(bn zr d.val:Int)]=⟨#[hxd d.val]⟩:=by decide
theorem Bo (d:Nat) (hd:d<16) (w:World) (hT:TzV w):Calls Tryz.prog 217 #[.slice none 0 0,.int .u64 d,.int .i64 16,.bool false,.bool false] w λe w'=>e=.returned (.tuple #[.slice none 0 0,.string ⟨#[hxd d]⟩])/\Below w.heap.size w w':=by
 have hp:=Dq
 have ht:=λW hb=>tz W (hT.step hb)
 clear hT
 go_enter Tryz.func217,Tryz.ntmps217
 go_wp2_with (first|(go_at_call 250;refine(hp _).mono ?_;rintro e w2 ⟨rfl,rfl⟩)|(go_at_call 251;refine(ht _ blw).mono ?_;rintro e w2 ⟨rfl,rfl⟩))
 have hrd:Rd (w.alloc (.cells ((Array.replicate 65 (.int .u8 0)).setIfInBounds 64 (.int .u8 (bn zr d))) 282)) (some ⟨w.heap.size,64,none⟩) ([(bn zr d:Int)].map (Value.int .u8)):=by
  refine .inr ⟨w.heap.size,64,rfl,λj u hu=>?_⟩
  cases j with
  | succ j=>simp at hu
  | zero =>
   simp only[List.map_cons,List.map_nil,List.getElem?_cons_zero,Option.some.injEq]at hu
   subst hu
   rw[Lib.cell_of_heap (heap_alloc_new w _)]
   simp
 have hcs:=aY (P:=Tryz.prog) (n:=1) (c:=1) 96 9 5 Tryz.underlying96 Tryz.underlying5 Tryz.underlying9 hrd rfl
 have hst:strOfNums [(bn zr d:Int)]=⟨#[hxd d]⟩:=Bz ⟨d,hd⟩
 rw[hst]at hcs
 clear hst hrd
 have hB:Below w.heap.size w (w.alloc (.cells ((Array.replicate 65 (.int .u8 0)).setIfInBounds 64 (.int .u8 (bn zr d))) 282)):=blw
 have HB:=Lib.hid hB
 clear hB
 go_loopw [1,13] (λu i wr=>u=.int .u64 d/\i=.int .i64 65/\wr=w.alloc (.cells (Array.replicate 65 (.int .u8 0)) 282)) (λ_ _ _=>0)
 case atStart=>exact⟨rfl,rfl,rfl⟩
 case round =>
  obtain⟨rfl,rfl,rfl⟩:=hrel
  go_wp2
  go_ret2
  exact⟨rfl,HB.out⟩
theorem zf (d:Nat) (hd:d<16) (w:World) (hT:TzV w):Calls Tryz.prog 170 #[.int .i64 d,.int .i64 16] w λe w'=>e=.returned (.string ⟨#[hxd d]⟩)/\Below w.heap.size w w':=by
 have h1:=Bo d hd w hT
 have h2:Calls Tryz.prog 183 #[.int .i64 d,.int .i64 16] w λe w'=>e=.returned (.string ⟨#[hxd d]⟩)/\Below w.heap.size w w':=by
  go_enter Tryz.func183,Tryz.ntmps183
  go_wp2_with (go_at_call 217;refine h1.mono ?_;rintro e w2 ⟨rfl,hb⟩)
  go_ret
  exact⟨rfl,hb⟩
 clear h1
 go_enter Tryz.func170,Tryz.ntmps170
 go_wp2_with (go_at_call 183;refine h2.mono ?_;rintro e w2 ⟨rfl,hb⟩)
 go_ret
 exact⟨rfl,hb⟩
theorem uB:∀d:Fin 16,(hxd d.val).toNat<128/\Lib.toUpperA [hxd d.val]=[hxD d.val]:=by decide
theorem BS (d:Nat) (hd:d<16) (w:World):Calls Tryz.prog 169 #[.string ⟨#[hxd d]⟩] w λe w'=>e=.returned (.string ⟨#[hxD d]⟩)/\Below w.heap.size w w':=by
 obtain⟨h1,h2⟩:=uB ⟨d,hd⟩
 have h:=dZ ⟨#[hxd d]⟩ w (by show 1<=_;omega) (by
  intro j b hj
  cases j with
  | zero=>simp at hj;subst hj;exact h1
  | succ j=>simp at hj)
 rw[h2]at h
 exact h
theorem my (n:Int) (h0:0<=n) (h1:n<=1114111):Lib.validRune n=isB n:=by
 simp[Lib.validRune,isB,h0,h1]
theorem Df (n:Int) (w:World) :
  Calls Tryz.prog 205 #[.int .i64 n] w λe w'=>e=.returned (.bool (isB n))/\w=w':=by
 have hv:=λW=>gK n W
 by_cases h0:0<=n
 ·by_cases h1:n<=1114111
  ·rw[my n h0 h1]at hv
   generalize isB n=q at hv
   go_enter Tryz.func205,Tryz.ntmps205
   go_wp2_with (go_at_call 237;refine(hv _).mono ?_;rintro e w1 ⟨rfl,rfl⟩)
   go_ret
   exact⟨rfl,rfl⟩
  ·have hi:isB n=false:=by simp[isB];omega
   rw[hi]
   clear hi hv
   go_enter Tryz.func205,Tryz.ntmps205
   go_wp2
   go_ret
   exact⟨rfl,rfl⟩
 ·have hi:isB n=false:=by simp[isB];omega
  rw[hi]
  clear hi hv
  go_enter Tryz.func205,Tryz.ntmps205
  go_wp2
  go_ret
  exact⟨rfl,rfl⟩
theorem sS (n:Int) (h:isB n=true):(Utf8.encode n).data.toList=Lib.encodeRune n:=by
 rw[bV]at h
 have hv:Utf8.valid n=true:=by simp[Utf8.valid];omega
 unfold Utf8.encode
 simp only[hv,if_true]
 by_cases c1:n<=127
 ·rw[if_pos (by omega)]
  unfold Lib.encodeRune
  rw[Lib.encodeRuneZ_one (by omega) c1]
  simp[Nat.toUInt8]
 ·rw[if_neg (by omega)]
  by_cases c2:n<=2047
  ·rw[if_pos (by omega)]
   unfold Lib.encodeRune
   rw[Lib.encodeRuneZ_two (by omega) c2]
   simp only[List.map_cons,List.map_nil]
   rw[show (192+n / 64).toNat=192+n.toNat / 64 by omega,show (128+n % 64).toNat=128+n.toNat % 64 by omega]
  ·rw[if_neg (by omega)]
   by_cases c3:n<=65535
   ·rw[if_pos (by omega)]
    unfold Lib.encodeRune
    rw[Lib.encodeRuneZ_three (by omega)]
    simp only[List.map_cons,List.map_nil]
    rw[show (224+n / 4096).toNat=224+n.toNat / 4096 by omega,show (128+n / 64 % 64).toNat=128+n.toNat / 64 % 64 by omega,show (128+n % 64).toNat=128+n.toNat % 64 by omega]
   ·rw[if_neg (by omega)]
    unfold Lib.encodeRune
    rw[Lib.encodeRuneZ_four (by omega) (by omega)]
    simp only[List.map_cons,List.map_nil]
    rw[show (240+n / 262144).toNat=240+n.toNat / 262144 by omega,show (128+n / 4096 % 64).toNat=128+n.toNat / 4096 % 64 by omega,show (128+n / 64 % 64).toNat=128+n.toNat / 64 % 64 by omega,show (128+n % 64).toNat=128+n.toNat % 64 by omega]
theorem ng (s t:List UInt8) (b:UInt8) (h:s.contains b=false):Lib.contains s (b::t)=false:=by
 have:Lib.index s (b::t) = -1:=by
  refine Lib.index_none λj _=>?_
  unfold Lib.occAt
  cases hd:s.drop j with
  | nil=>rfl
  | cons c l =>
   have hc:c∈s:=List.mem_of_mem_drop (i:=j) (by rw[hd];exact List.mem_cons_self)
   have hne:(b == c)=false:=by
    cases hbc:b == c with
    | false=>rfl
    | true =>
     have:b=c:=by simpa using hbc
     subst this
     have:s.contains b=true:=by simpa using hc
     rw[this]at h;cases h
   show ((b == c) && t.isPrefixOf l)=false
   rw[hne];rfl
 unfold Lib.contains
 rw[this];rfl
def badU:List UInt8:=[60,62,34,123,125,124,94,96,92]
theorem wI:badS.data.toList=badU:=rfl
theorem BO:∀n:Fin 128,Lib.contains badU [n.val.toUInt8]=il.contains (n.val:Int):=by decide
theorem pA (n:Int) (h:isB n=true):Lib.contains badU (Lib.encodeRune n)=il.contains n:=by
 rw[bV]at h
 by_cases c1:n<=127
 ·unfold Lib.encodeRune
  rw[Lib.encodeRuneZ_one (by omega) c1]
  have:=BO ⟨n.toNat,by omega⟩
  rw[show (((⟨n.toNat,by omega⟩:Fin 128).val:Nat):Int)=n by show ((n.toNat:Nat):Int)=n;omega]at this
  exact this
 ·have hb:il.contains n=false:=by
   simp[il];omega
  rw[hb]
  have hd:∃(b:UInt8) (t:List UInt8),Lib.encodeRune n=b::t/\128<=b.toNat:=by
   unfold Lib.encodeRune
   by_cases c2:n<=2047
   ·rw[Lib.encodeRuneZ_two (by omega) c2];exact⟨_,_,rfl,by simp;omega⟩
   ·by_cases c3:n<=65535
    ·rw[Lib.encodeRuneZ_three (by omega)];exact⟨_,_,rfl,by simp;omega⟩
    ·rw[Lib.encodeRuneZ_four (by omega) (by omega)];exact⟨_,_,rfl,by simp;omega⟩
  obtain⟨b,t,he,hb2⟩:=hd
  rw[he]
  apply ng
  simp only[badU]
  cases hc:List.contains [60,62,34,123,125,124,94,96,92] b with
  | false=>rfl
  | true =>
   exfalso
   simp at hc
   rcases hc with h|h|h|h|h|h|h|h|h<;>(subst h;revert hb2;decide)
theorem Cb (n:Int) (w:World) (hC:Ctx w) :
  Calls Tryz.prog 167 #[.int .i64 n] w λe w'=>e=.returned (.bool (eV n))/\w=w':=by
 obtain⟨m,hm⟩:=hC.maxl
 have his:=Df n w
 have hsc:=λt=>fI badS t m w (by decide) hm
 clear hC
 by_cases h1:32<n
 ·by_cases h2:isB n=true
  ·have hr:eV n = !il.contains n:=by simp[eV,h1,h2]
   rw[hr]
   replace hsc:=hsc (Utf8.encode n)
   rw[sS n h2,wI,pA n h2]at hsc
   rw[h2]at his
   rw[bV]at h2
   obtain⟨⟨h3,h4⟩,h5⟩:=h2
   clear hr hm h5
   generalize il.contains n=q at hsc
   unfold badS at hsc
   go_enter Tryz.func167,Tryz.ntmps167
   go_wp2_with (first
    | (go_at_call 205;refine his.mono ?_;rintro e w1 ⟨rfl,rfl⟩)
    | (go_at_call 206;refine hsc.mono ?_;rintro e w1 ⟨rfl,rfl⟩))
   go_ret
   exact⟨rfl,rfl⟩
  ·have h2:isB n=false:=by simpa using h2
   have hr:eV n=false:=by simp[eV,h2]
   rw[hr]
   rw[h2]at his
   clear hr hm hsc h2
   go_enter Tryz.func167,Tryz.ntmps167
   go_wp2_with (go_at_call 205;refine his.mono ?_;rintro e w1 ⟨rfl,rfl⟩)
   go_ret
   exact⟨rfl,rfl⟩
 ·have hr:eV n=false:=by simp[eV];omega
  rw[hr]
  clear hr hm hsc his
  go_enter Tryz.func167,Tryz.ntmps167
  go_wp2
  go_ret
  exact⟨rfl,rfl⟩
end Go.Proofs.YtjldjeenfnahoaaGreatDoor
