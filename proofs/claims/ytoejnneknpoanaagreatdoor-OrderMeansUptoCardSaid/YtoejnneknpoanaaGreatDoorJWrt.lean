/- A builder that lies first in a struct of the call's own (str -/
import Derived.Test.YtoejnneknpoanaaGreatDoorJUtfMath
set_option maxHeartbeats 4000000
set_option maxRecDepth 100000
namespace Go.Proofs.YtoejnneknpoanaaGreatDoor
open Go Go.RowKit
def WAt (T:TypeId) (ext:List Value) (B b:Nat) (p:Value) (bs:List Value) (w:World):Prop:=
 B<=b/\∃v,w.heap[b]?=some (.cells (p::v::ext).toArray T (0,0))/\w.ownsRowF B 5 1 v bs.length bs/\v.ownBlock≠some b
def WIs (T:TypeId) (ext:List Value) (B b:Nat) (bs:List Value) (w:World):Prop:=WAt T ext B b (.pointer none) bs w∨WAt T ext B b (.pointer (some ⟨b,0,none⟩)) bs w
abbrev OK8 (b:Nat) (w w':World):Prop:=Lib.OthersKept 5 (some b) w w'
section
variable {T:TypeId} {ext:List Value} {B b:Nat} {p:Value} {bs:List Value} {w:World}
theorem WAt.cell0 (h:WAt T ext B b p bs w):w.cell? ⟨b,0,none⟩=some p:=by
 obtain⟨_,v,hb,_⟩:=h
 simp[World.cell?,hb]
theorem WAt.shape (h:WAt T ext B b p bs w):w.shape? b=some (T,ext.length+2):=by
 obtain⟨_,v,hb,_⟩:=h
 simp[World.shape?,hb]
theorem WAt.lt (h:WAt T ext B b p bs w):b<w.heap.size:=cell_lt h.cell0
theorem WAt.frozen (h:WAt T ext B b p bs w) (i:Nat):w.frozen? ⟨b,i,none⟩=false:=by
 obtain⟨_,v,hb,_⟩:=h
 simp[World.frozen?,hb]
theorem WAt.used (h:WAt T ext B b p bs w) (q:Value):WAt T ext B b q bs (w.setCell ⟨b,0,none⟩ q):=by
 obtain⟨hB,v,hb,hown,hne⟩:=h
 refine⟨hB,v,?_,?_,hne⟩
 ·simp[World.setCell,Array.getElem?_modify,hb]
 ·exact hown.kept (row:=some b) ⟨rfl,rfl,rfl,by simp[World.setCell],λk _ hk=>Below.heap_setCell _ _ _ _ (λe=>hk (by simp[e]))⟩ (Or.inr hne)
theorem WAt.put {v v':Value} {bs':List Value} (hB:B<=b) (hb:w.heap[b]?=some (.cells (p::v::ext).toArray T (0,0))) (hown:w.ownsRowF B 5 1 v' bs'.length bs') (hT:T≠5) :
  WAt T ext B b p bs' (w.setCell ⟨b,1,none⟩ v'):=by
 have hne:=Lib.ownBlock_neF hown hb hT
 refine⟨hB,v',?_,?_,hne⟩
 ·simp[World.setCell,Array.getElem?_modify,hb]
 ·exact hown.kept (row:=some b) ⟨rfl,rfl,rfl,by simp[World.setCell],λk _ hk=>Below.heap_setCell _ _ _ _ (λe=>hk (by simp[e]))⟩ (Or.inr hne)
theorem WAt.alloc (h:WAt T ext B b p bs w) (o:Obj):WAt T ext B b p bs (w.alloc o):=by
 have hlt:=h.lt
 obtain⟨hB,v,hb,hown,hne⟩:=h
 exact⟨hB,v,(Lib.alloc_old w o b hlt).trans hb,hown.kept (World.grownBy_alloc w o none) (by cases hv:v.ownBlock<;>simp),hne⟩
theorem WAt.step {w':World} (h:WAt T ext B b p bs w) (hb:Below w.heap.size w w'):WAt T ext B b p bs w':=by
 have hlt:=h.lt
 obtain⟨hB,v,hh,hown,hne⟩:=h
 refine⟨hB,v,by rw[hb.block b hlt];exact hh,⟨hown.1,?_⟩,hne⟩
 rcases hown.2 with hn|⟨g,cap,cur,fz,hv,hbg,hg,rest⟩
 ·exact .inl hn
 ·exact .inr ⟨g,cap,cur,fz,hv,hbg,by rw[hb.block g (Array.getElem?_eq_some_iff.1 hg).1];exact hg,rest⟩
theorem WAt.iterAt (h:WAt T ext B b p bs w) {k:Nat} {s:ByteArray} {pos:Nat} (hk:w.heap[k]?=some (.stringIter s pos)) (pos':Nat):WAt T ext B b p bs (w.iterAt k s pos'):=by
 obtain⟨hB,v,hb,hown,hne⟩:=h
 have hkb:b≠k:=by
  intro e1
  rw[e1,hk]at hb
  cases hb
 refine⟨hB,v,(Lib.iterAt_other w k b s pos' hkb).trans hb,⟨hown.1,?_⟩,hne⟩
 rcases hown.2 with hn|⟨g,cap,cur,fz,hv,hbg,hg,rest⟩
 ·exact .inl hn
 ·have hkg:g≠k:=by
   intro e1
   rw[e1,hk]at hg
   cases hg
  exact .inr ⟨g,cap,cur,fz,hv,hbg,(Lib.iterAt_other w k g s pos' hkg).trans hg,rest⟩
theorem WAt.froze {g cap:Nat} (h:WAt T ext B b p bs w) (hc:w.cell? ⟨b,1,none⟩=some (.slice (some ⟨g,0,none⟩) bs.length cap)):WAt T ext B b p bs (w.freeze ⟨g,0,none⟩ bs.length):=by
 obtain⟨hB,v,hb,hown,hne⟩:=h
 have hv:v=.slice (some ⟨g,0,none⟩) bs.length cap:=by
  rw[Lib.cell_of_heap hb]at hc
  simpa using hc
 subst hv
 have hgb:g≠b:=λe=>hne (by simp[Value.ownBlock,e])
 unfold World.freeze
 split
 ·exact⟨hB,_,hb,hown,hne⟩
 ·rename_i hn0
  refine⟨hB,_,?_,⟨hown.1,?_⟩,hne⟩
  ·simp only[Array.getElem?_modify]
   rw[if_neg hgb]
   exact hb
  ·rcases hown.2 with ⟨hv,_⟩|⟨g',cap',cur,fz,hv,hbg,hg,hfz,rest⟩
   ·cases hv
   ·injection hv with ha _ hcap
    injection ha with ha
    injection ha with hgg _ _
    subst hgg
    subst hcap
    obtain⟨lo,hi⟩:=fz
    refine .inr ⟨g,_,cur,(if lo == hi then (0,0+bs.length) else (min lo 0,max hi (0+bs.length))),rfl,hbg,?_,?_,rest⟩
    ·simp[Array.getElem?_modify,hg]
    ·simp only at hfz
     split<;>simp<;>omega
theorem WIs.lt (h:WIs T ext B b bs w):b<w.heap.size:=h.elim (λx=>x.lt) (λx=>x.lt)
theorem WIs.step {w':World} (h:WIs T ext B b bs w) (hb:Below w.heap.size w w'):WIs T ext B b bs w':=h.elim (λx=>.inl (x.step hb)) (λx=>.inr (x.step hb))
theorem WIs.alloc (h:WIs T ext B b bs w) (o:Obj):WIs T ext B b bs (w.alloc o):=h.elim (λx=>.inl (x.alloc o)) (λx=>.inr (x.alloc o))
theorem WIs.iterAt (h:WIs T ext B b bs w) {k:Nat} {s:ByteArray} {pos:Nat} (hk:w.heap[k]?=some (.stringIter s pos)) (pos':Nat):WIs T ext B b bs (w.iterAt k s pos'):=
 h.elim (λx=>.inl (x.iterAt hk pos')) (λx=>.inr (x.iterAt hk pos'))
theorem WAt.new (w:World) (T:TypeId) (ext:List Value):WAt T ext w.heap.size w.heap.size (.pointer none) [] (w.alloc (.cells (.pointer none :: .slice none 0 0::ext).toArray T)):=
 ⟨Nat.le_refl _,.slice none 0 0,heap_alloc_new w _,World.ownsRowF_nil _ _ _ _,by simp[Value.ownBlock]⟩
end
structure WTy (T:TypeId) (n:Nat):Prop where
 lies:liesAt Tryz.prog Tryz.prog.depth T (n / Tryz.prog.cellsOf T) 0 164 1=true
 ne:T≠5
theorem wCheck {T:TypeId} {ext:List Value} (X:WTy T (ext.length+2)) (B b:Nat) (bs:List Value) (w:World) (h:WIs T ext B b bs w) :
  Calls Tryz.prog 173 #[.pointer (some ⟨b,0,none⟩)] w λe w'=>e=.returned (.tuple #[])/\WAt T ext B b (.pointer (some ⟨b,0,none⟩)) bs w'/\Below B w w'/\OK8 b w w':=by
 obtain⟨j,hj,hjs⟩:=Option.map_eq_some_iff.1 (show (Tryz.prog.info? 164).map (·.size)=some 2 by kernel_rfl)
 rcases h with h|h
 ·have h0:=h.cell0
  have hsh:=h.shape
  have hfz:=h.frozen 0
  have H:=Lib.hid h
  clear h
  go_enter Tryz.func173,Tryz.ntmps173
  go_wp2
  rw[Lib.run_to_unsafe w ⟨b,0,none⟩ Tryz.underlying162 Tryz.underlying232 hj (by rw[hjs];decide) hsh (by simp)]
  simp only[Result.andThen]
  rw[Oper.upon_value]
  go_wp2
  rw[run_callFunc_extern Tryz.func203 (by kernel_rfl) (by kernel_rfl) (by kernel_rfl) (e:=Extern.AbiNoEscape.same) (by kernel_rfl)]
  rw[Lib.run_noEscape]
  simp only[Result.andThen]
  rw[Oper.upon_value]
  go_wp2
  rw[Lib.run_from_unsafe w ⟨b,0,none⟩ Tryz.underlying232 Tryz.underlying162 hj hsh X.lies]
  simp only[Result.andThen]
  rw[Oper.upon_value]
  go_wp2
  go_end0
  exact⟨rfl,H.out.used _,(Below.refl B w).setCell (p:=⟨b,0,none⟩) H.out.1 _,(Lib.OthersKept.refl _ _ w).setCell ⟨b,0,none⟩ rfl _⟩
 ·have h0:=h.cell0
  have H:=Lib.hid h
  clear h
  go_enter Tryz.func173,Tryz.ntmps173
  go_wp2
  rw[Lib.run_neq_ptr_same w _ Tryz.underlying162 hj]
  go_wp2
  go_end0
  exact⟨rfl,H.out,Below.refl B _,Lib.OthersKept.refl _ _ _⟩
theorem w8Info:∃i0,Tryz.prog.info? 5=some i0/\i0.zero=some (.int .u8 0)/\i0.size=1/\i0.bytes=1:=info_parts (by kernel_rfl)
theorem wString {T:TypeId} {ext:List Value} (X:WTy T (ext.length+2)) (B b:Nat) (bs:List Value) (s:ByteArray) (w:World) (h:WIs T ext B b bs w) (hlen:bs.length+s.size<=140737488355328) (hBw:B<=w.heap.size) :
  Calls Tryz.prog 138 #[.pointer (some ⟨b,0,none⟩),.string s] w λe w'=>e=.returned (.tuple #[.int .i64 s.size,.nilIface])/\WAt T ext B b (.pointer (some ⟨b,0,none⟩)) (bs++Lib.strCells s) w'/\Below B w w'/\OK8 b w w':=by
 obtain⟨i0,hi,hz0,hz1,hz2⟩:=w8Info
 have hcc:=wCheck X B b bs w h
 clear h
 go_enter Tryz.func138,Tryz.ntmps138
 go_wp2_with (go_at_call 173;refine hcc.mono ?_)
 rintro e w1 ⟨rfl,h1,hb1,hk1⟩
 obtain⟨hB,v,hbk,hown,hne⟩:=h1
 have c0:w1.cell? ⟨b,0,none⟩=some (.pointer (some ⟨b,0,none⟩)):=by rw[Lib.cell_of_heap hbk];rfl
 have c1:w1.cell? ⟨b,1,none⟩=some v:=by rw[Lib.cell_of_heap hbk];rfl
 go_wp2_with (at_builtin;refine Lib.wpList_append_own_stringF _ rfl _ _ 120 9 rfl B 5 i0 Tryz.underlying120 Tryz.underlying9 hi hz0 hz1 hz2 _ _ _ rfl hown s rfl ?c3 ?c4 ?c5 ?_)
 case c3=>unfold maxLen;omega
 case c4=>omega
 case c5=>have:=hb1.size;omega
 intro v' w2 hown' hgrow _
 have hlt:b<w1.heap.size:=cell_lt c0
 have hb2:w2.heap[b]?=some (.cells (.pointer (some ⟨b,0,none⟩)::v::ext).toArray T (0,0)):=by
  rw[hgrow.block b hlt (λe=>hne e.symm)]
  exact hbk
 have d1:w2.cell? ⟨b,1,none⟩=some v:=by rw[Lib.cell_of_heap hb2];rfl
 have f1:w2.frozen? ⟨b,1,none⟩=false:=Lib.frozen_of_heap hb2 1
 obtain⟨ao,n',cap,rfl⟩:∃ao n' cap,v'=.slice ao n' cap:=by
  rcases hown'.2 with ⟨hv,_⟩|⟨g,cap,cur,fz,hv,_⟩
  ·exact⟨_,_,_,hv⟩
  ·exact⟨_,_,_,hv⟩
 go_wp2
 go_ret2
 refine⟨rfl,?_,?_,(hk1.grown hgrow (Lib.ownsRowF_kind hown)).setCell ⟨b,1,none⟩ rfl _⟩
 ·exact WAt.put hB hb2 (bs':=bs++Lib.strCells s) (by simpa[Lib.strCells_length] using hown') X.ne
 ·exact(hb1.grown hgrow (by have:=hb1.size;omega) (λk hk=>(hown.lt k hk).1)).setCell (p:=⟨b,1,none⟩) hB _
theorem wRune {T:TypeId} {ext:List Value} (X:WTy T (ext.length+2)) (B b:Nat) (bs:List Value) (r:Int) (hr0 : -2147483648<=r) (hr1:r<=2147483647) (w:World) (h:WIs T ext B b bs w) (hlen:bs.length+4<=140737488355328) (hBw:B<=w.heap.size) :
  Calls Tryz.prog 181 #[.pointer (some ⟨b,0,none⟩),.int .i32 r] w λe w'=>e=.returned (.tuple #[.int .i64 (Lib.runeCells r).length,.nilIface])/\WAt T ext B b (.pointer (some ⟨b,0,none⟩)) (bs++Lib.runeCells r) w'/\Below B w w'/\OK8 b w w':=by
 have hk4:=Lib.runeCells_le r
 have hcc:=wCheck X B b bs w h
 clear h
 go_enter Tryz.func181,Tryz.ntmps181
 go_wp2_with (go_at_call 173;refine hcc.mono ?_)
 rintro e w1 ⟨rfl,h1,hb1,hk1⟩
 obtain⟨hB,v,hbk,hown,hne⟩:=h1
 obtain⟨ao,cap,rfl⟩:∃ao cap,v=.slice ao bs.length cap:=by
  rcases hown.2 with ⟨hv,h0⟩|⟨g,cap,cur,fz,hv,_⟩
  ·exact⟨none,0,by rw[hv,h0]⟩
  ·exact⟨_,_,hv⟩
 have c1:w1.cell? ⟨b,1,none⟩=some (.slice ao bs.length cap):=by rw[Lib.cell_of_heap hbk];rfl
 have hlt:b<w1.heap.size:=cell_lt c1
 have hap1:=Tryz.utf8_AppendRune_row B _ bs.length bs r hr0 hr1 w1 hown hlen (by have:=hb1.size;omega)
 go_wp2_with (go_at_call 222;refine hap1.mono ?_)
 rintro e w2 ⟨v',rfl,hown',o,hgrow⟩
 have hb2:w2.heap[b]?=some (.cells (.pointer (some ⟨b,0,none⟩) :: .slice ao bs.length cap::ext).toArray T (0,0)):=by
  rw[hgrow.block b (by simp;omega) (λe=>hne e.symm),Lib.alloc_old w1 _ b hlt]
  exact hbk
 have d1:w2.cell? ⟨b,1,none⟩=some (.slice ao bs.length cap):=by rw[Lib.cell_of_heap hb2];rfl
 have f1:w2.frozen? ⟨b,1,none⟩=false:=Lib.frozen_of_heap hb2 1
 obtain⟨g,cap',rfl⟩:∃g cap',v'=.slice (some ⟨g,0,none⟩) (bs.length+(Lib.runeCells r).length) cap':=by
  rcases hown'.2 with ⟨_,h0⟩|⟨g,cap',cur,fz,hv,_⟩
  ·omega
  ·exact⟨g,cap',hv⟩
 go_wp2
 go_ret2
 refine⟨?_,?_,?_,((hk1.alloc _).grown hgrow (Lib.ownsRowF_kind (hown.alloc _))).setCell ⟨b,1,none⟩ rfl _⟩
 ·have e:((bs.length:Int)+((Lib.runeCells r).length:Int)-(bs.length:Int))=((Lib.runeCells r).length:Int):=by omega
  simp[e]
 ·exact WAt.put hB hb2 (bs':=bs++Lib.runeCells r) (by simpa using hown') X.ne
 ·exact((hb1.alloc (by have:=hb1.size;omega) _).grown hgrow (by have:=hb1.size;simp;omega) (λk hk=>(hown.lt k hk).1)).setCell (p:=⟨b,1,none⟩) hB _
theorem wStr {T:TypeId} {ext:List Value} (B b:Nat) (l:List UInt8) (w:World) (h:WIs T ext B b (Lib.byteCells l) w) (h0:l≠[]) :
  Calls Tryz.prog 140 #[.pointer (some ⟨b,0,none⟩)] w λe w'=>e=.returned (.string ⟨l.toArray⟩)/\WIs T ext B b (Lib.byteCells l) w'/\Below B w w':=by
 obtain⟨p,hp,hAt⟩:∃p,(p=.pointer none∨p=.pointer (some ⟨b,0,none⟩))/\WAt T ext B b p (Lib.byteCells l) w:=by
  rcases h with h|h
  ·exact⟨_,.inl rfl,h⟩
  ·exact⟨_,.inr rfl,h⟩
 obtain⟨hB,v,hbk,hown,hne⟩:=hAt
 have hl0:l.length≠0:=by simpa using h0
 rw[Lib.byteCells_length]at hown
 obtain⟨g,cap,cur,fz,rfl,hbg,hg,hfz,hnc,hcm,hcs,htake⟩:∃g cap cur fz,v=.slice (some ⟨g,0,none⟩) l.length cap/\B<=g/\w.heap[g]?=some (.cells cur 5 fz)/\fz.2<=l.length*1/\l.length<=cap/\cap<=maxLen/\cur.size=cap*1/\cur.toList.take (l.length*1)=Lib.byteCells l:=by
  rcases hown.2 with ⟨_,hz⟩|⟨g,cap,cur,fz,hv,r⟩
  ·exact absurd hz hl0
  ·exact⟨g,cap,cur,fz,hv,r⟩
 have c1:w.drew.cell? ⟨b,1,none⟩=some (.slice (some ⟨g,0,none⟩) l.length cap):=by
  have:w.drew.heap[b]?=some (.cells (p :: .slice (some ⟨g,0,none⟩) l.length cap::ext).toArray T (0,0)):=hbk
  rw[Lib.cell_of_heap this];rfl
 have hSD:(Builtin.unsafeSliceData_ #[120] 196 #[.slice (some ⟨g,0,none⟩) l.length cap]).run Tryz.prog w.drew=.ok (.pointer (some ⟨g,0,none⟩)) w.drew:=
  Lib.run_unsafeSliceData_row _ _ _ _ _ _ (by omega)
 have hUS:(Builtin.unsafeString_ #[196,3] 9 #[.pointer (some ⟨g,0,none⟩),.int .i64 l.length]).run Tryz.prog w.drew=.ok (.string ⟨l.toArray⟩) (w.drew.freeze ⟨g,0,none⟩ l.length):=by
  refine Lib.run_unsafeString_row w.drew 196 3 9 5 Tryz.underlying196 (by kernel_rfl) g cur.size (by have hg':w.drew.heap[g]?=some (.cells cur 5 fz):=hg;simp[World.shape?,hg']) l h0 (by omega) (by unfold maxLen at hcm;omega) ?_
  intro j x hx
  have:=hown.cells (g:=g) rfl j (.int .u8 x.toNat) (by simp[Lib.byteCells,hx])
  exact this
 have hkeep:WIs T ext B b (Lib.byteCells l) (w.drew.freeze ⟨g,0,none⟩ l.length):=by
  have hA:WAt T ext B b p (Lib.byteCells l) w.drew:=⟨hB,_,hbk,by rw[Lib.byteCells_length];exact hown,hne⟩
  have hF:=hA.froze (g:=g) (cap:=cap) (by rw[Lib.byteCells_length];exact c1)
  rw[Lib.byteCells_length]at hF
  rcases hp with rfl|rfl
  ·exact .inl hF
  ·exact .inr hF
 have hbel:Below B w (w.drew.freeze ⟨g,0,none⟩ l.length):=Lib.below_freeze (Below.drew (Below.refl B w)) (p:=⟨g,0,none⟩) hbg _
 have HK:=Lib.hid hkeep
 clear hkeep h hown hp hbk
 have mixed:Tryz.prog.follows Departure.mixedOrders=true:=by kernel_rfl
 go_enter Tryz.func140,Tryz.ntmps140
 go_wp2
 go_region_o
 all_goals (go_wp2;go_ret;exact⟨rfl,HK.out,hbel⟩)
end Go.Proofs.YtoejnneknpoanaaGreatDoor
