/- A builder that lies first in a struct of the call's own (str -/
import Derived.Test.YtfcbghmbbjolcaaGreatDoorJQSlot
set_option maxHeartbeats 4000000
set_option maxRecDepth 100000
namespace Go.Proofs.YtfcbghmbbjolcaaGreatDoor
open Go Go.RowKit
def WAt (T:TypeId) (ext:List Value) (B b:Nat) (p:Value) (bs:List Value) (w:World):Prop:=
 B<=b/\∃v,w.heap[b]?=some (.cells (p::v::ext).toArray T (0,0))/\w.ownsRowF B 5 1 v bs.length bs/\v.ownBlock≠some b
def WIs (T:TypeId) (ext:List Value) (B b:Nat) (bs:List Value) (w:World):Prop:=WAt T ext B b (.pointer none) bs w∨WAt T ext B b (.pointer (some ⟨b,0,none⟩)) bs w
abbrev OK8 (b:Nat) (w w':World):Prop:=Lib.OthersKept 5 (some b) w w'
section
variable {T:TypeId} {ext:List Value} {B b:Nat} {p:Value} {bs:List Value} {w:World}
theorem WAt.cell0 (h:WAt T ext B b p bs w):w.cell? ⟨b,0,none⟩=some p:=by
 obtain⟨_,v,hb,_⟩:=h
 simp[World.cell?,hb]
theorem WAt.shape (h:WAt T ext B b p bs w):w.shape? b=some (T,ext.length+2):=by
 obtain⟨_,v,hb,_⟩:=h
 simp[World.shape?,hb]
theorem WAt.lt (h:WAt T ext B b p bs w):b<w.heap.size:=ag h.cell0
theorem WAt.frozen (h:WAt T ext B b p bs w) (i:Nat):w.frozen? ⟨b,i,none⟩=false:=by
 obtain⟨_,v,hb,_⟩:=h
 simp[World.frozen?,hb]
theorem WAt.used (h:WAt T ext B b p bs w) (q:Value):WAt T ext B b q bs (w.setCell ⟨b,0,none⟩ q):=by
 obtain⟨hB,v,hb,hown,hne⟩:=h
 refine⟨hB,v,?_,?_,hne⟩
 ·simp[World.setCell,Array.getElem?_modify,hb]
 ·exact hown.kept (row:=some b) ⟨rfl,rfl,rfl,by simp[World.setCell],λk _ hk=>Below.heap_setCell _ _ _ _ (λe=>hk (by simp[e]))⟩ (Or.inr hne)
theorem WAt.put {v v':Value} {bs':List Value} (hB:B<=b) (hb:w.heap[b]?=some (.cells (p::v::ext).toArray T (0,0))) (hown:w.ownsRowF B 5 1 v' bs'.length bs') (hT:T≠5) :
  WAt T ext B b p bs' (w.setCell ⟨b,1,none⟩ v'):=by
 have hne:=Lib.ownBlock_neF hown hb hT
 refine⟨hB,v',?_,?_,hne⟩
 ·simp[World.setCell,Array.getElem?_modify,hb]
 ·exact hown.kept (row:=some b) ⟨rfl,rfl,rfl,by simp[World.setCell],λk _ hk=>Below.heap_setCell _ _ _ _ (λe=>hk (by simp[e]))⟩ (Or.inr hne)
theorem WAt.alloc (h:WAt T ext B b p bs w) (o:Obj):WAt T ext B b p bs (w.alloc o):=by
 have hlt:=h.lt
 obtain⟨hB,v,hb,hown,hne⟩:=h
 exact⟨hB,v,(Lib.alloc_old w o b hlt).trans hb,hown.kept (World.grownBy_alloc w o none) (by cases hv:v.ownBlock<;>simp),hne⟩
theorem WAt.step {w':World} (h:WAt T ext B b p bs w) (hb:Below w.heap.size w w'):WAt T ext B b p bs w':=by
 have hlt:=h.lt
 obtain⟨hB,v,hh,hown,hne⟩:=h
 refine⟨hB,v,by rw[hb.block b hlt];exact hh,⟨hown.1,?_⟩,hne⟩
 rcases hown.2 with hn|⟨g,cap,cur,fz,hv,hbg,hg,rest⟩
 ·exact .inl hn
 ·exact .inr ⟨g,cap,cur,fz,hv,hbg,by rw[hb.block g (Array.getElem?_eq_some_iff.1 hg).1];exact hg,rest⟩
theorem WAt.iterAt (h:WAt T ext B b p bs w) {k:Nat} {s:ByteArray} {pos:Nat} (hk:w.heap[k]?=some (.stringIter s pos)) (pos':Nat):WAt T ext B b p bs (w.iterAt k s pos'):=by
 obtain⟨hB,v,hb,hown,hne⟩:=h
 have hkb:b≠k:=by
  intro e1
  rw[e1,hk]at hb
  cases hb
 refine⟨hB,v,(Lib.iterAt_other w k b s pos' hkb).trans hb,⟨hown.1,?_⟩,hne⟩
 rcases hown.2 with hn|⟨g,cap,cur,fz,hv,hbg,hg,rest⟩
 ·exact .inl hn
 ·have hkg:g≠k:=by
   intro e1
   rw[e1,hk]at hg
   cases hg
  exact .inr ⟨g,cap,cur,fz,hv,hbg,(Lib.iterAt_other w k g s pos' hkg).trans hg,rest⟩
theorem WAt.froze {g cap:Nat} (h:WAt T ext B b p bs w) (hc:w.cell? ⟨b,1,none⟩=some (.slice (some ⟨g,0,none⟩) bs.length cap)):WAt T ext B b p bs (w.freeze ⟨g,0,none⟩ bs.length):=by
 obtain⟨hB,v,hb,hown,hne⟩:=h
 have hv:v=.slice (some ⟨g,0,none⟩) bs.length cap:=by
  rw[Lib.cell_of_heap hb]at hc
  simpa using hc
 subst hv
 have hgb:g≠b:=λe=>hne (by simp[Value.ownBlock,e])
 unfold World.freeze
 split
 ·exact⟨hB,_,hb,hown,hne⟩
 ·rename_i hn0
  refine⟨hB,_,?_,⟨hown.1,?_⟩,hne⟩
  ·simp only[Array.getElem?_modify]
   rw[if_neg hgb]
   exact hb
  ·rcases hown.2 with ⟨hv,_⟩|⟨g',cap',cur,fz,hv,hbg,hg,hfz,rest⟩
   ·cases hv
   ·injection hv with ha _ hcap
    injection ha with ha
    injection ha with hgg _ _
    subst hgg
    subst hcap
    obtain⟨lo,hi⟩:=fz
    refine .inr ⟨g,_,cur,(if lo == hi then (0,0+bs.length) else (min lo 0,max hi (0+bs.length))),rfl,hbg,?_,?_,rest⟩
    ·simp[Array.getElem?_modify,hg]
    ·simp only at hfz
     split<;>simp<;>omega
theorem WIs.lt (h:WIs T ext B b bs w):b<w.heap.size:=h.elim (λx=>x.lt) (λx=>x.lt)
theorem WIs.step {w':World} (h:WIs T ext B b bs w) (hb:Below w.heap.size w w'):WIs T ext B b bs w':=h.elim (λx=>.inl (x.step hb)) (λx=>.inr (x.step hb))
theorem WIs.alloc (h:WIs T ext B b bs w) (o:Obj):WIs T ext B b bs (w.alloc o):=h.elim (λx=>.inl (x.alloc o)) (λx=>.inr (x.alloc o))
theorem WIs.iterAt (h:WIs T ext B b bs w) {k:Nat} {s:ByteArray} {pos:Nat} (hk:w.heap[k]?=some (.stringIter s pos)) (pos':Nat):WIs T ext B b bs (w.iterAt k s pos'):=
 h.elim (λx=>.inl (x.iterAt hk pos')) (λx=>.inr (x.iterAt hk pos'))
theorem WAt.new (w:World) (T:TypeId) (ext:List Value):WAt T ext w.heap.size w.heap.size (.pointer none) [] (w.alloc (.cells (.pointer none :: .slice none 0 0::ext).toArray T)):=
 ⟨Nat.le_refl _,.slice none 0 0,heap_alloc_new w _,World.ownsRowF_nil _ _ _ _,by simp[Value.ownBlock]⟩
end
structure WTy (T:TypeId) (n:Nat):Prop where
 lies:liesAt Tryz.prog Tryz.prog.depth T (n / Tryz.prog.cellsOf T) 0 264 1=true
 ne:T≠5
theorem AS {T:TypeId} {ext:List Value} (X:WTy T (ext.length+2)) (B b:Nat) (bs:List Value) (w:World) (h:WIs T ext B b bs w) :
  Calls Tryz.prog 307 #[.pointer (some ⟨b,0,none⟩)] w λe w'=>e=.returned (.tuple #[])/\WAt T ext B b (.pointer (some ⟨b,0,none⟩)) bs w'/\Below B w w'/\OK8 b w w':=by
 obtain⟨j,hj,hjs⟩:=Option.map_eq_some_iff.1 (show (Tryz.prog.info? 264).map (·.size)=some 2 by kernel_rfl)
 rcases h with h|h
 ·have h0:=h.cell0
  have hsh:=h.shape
  have hfz:=h.frozen 0
  have H:=Lib.hid h
  clear h
  go_enter Tryz.func307,Tryz.ntmps307
  go_wp2
  rw[Lib.run_to_unsafe w ⟨b,0,none⟩ Tryz.underlying262 Tryz.underlying366 hj (by rw[hjs];decide) hsh (by simp)]
  simp only[Result.andThen]
  rw[Oper.upon_value]
  go_wp2
  rw[run_callFunc_extern Tryz.func337 (by kernel_rfl) (by kernel_rfl) (by kernel_rfl) (e:=Extern.AbiNoEscape.same) (by kernel_rfl)]
  rw[Lib.run_noEscape]
  simp only[Result.andThen]
  rw[Oper.upon_value]
  go_wp2
  rw[Lib.run_from_unsafe w ⟨b,0,none⟩ Tryz.underlying366 Tryz.underlying262 hj hsh X.lies]
  simp only[Result.andThen]
  rw[Oper.upon_value]
  go_wp2
  go_end0
  exact⟨rfl,H.out.used _,(Below.refl B w).setCell (p:=⟨b,0,none⟩) H.out.1 _,(Lib.OthersKept.refl _ _ w).setCell ⟨b,0,none⟩ rfl _⟩
 ·have h0:=h.cell0
  have H:=Lib.hid h
  clear h
  go_enter Tryz.func307,Tryz.ntmps307
  go_wp2
  rw[Lib.run_neq_ptr_same w _ Tryz.underlying262 hj]
  go_wp2
  go_end0
  exact⟨rfl,H.out,Below.refl B _,Lib.OthersKept.refl _ _ _⟩
theorem GE:∃i0,Tryz.prog.info? 5=some i0/\i0.zero=some (.int .u8 0)/\i0.size=1/\i0.bytes=1:=info_parts (by kernel_rfl)
theorem Ep {T:TypeId} {ext:List Value} (X:WTy T (ext.length+2)) (B b:Nat) (bs:List Value) (s:ByteArray) (w:World) (h:WIs T ext B b bs w) (hlen:bs.length+s.size<=140737488355328) (hBw:B<=w.heap.size) :
  Calls Tryz.prog 264 #[.pointer (some ⟨b,0,none⟩),.string s] w λe w'=>e=.returned (.tuple #[.int .i64 s.size,.nilIface])/\WAt T ext B b (.pointer (some ⟨b,0,none⟩)) (bs++Lib.strCells s) w'/\Below B w w'/\OK8 b w w':=by
 obtain⟨i0,hi,hz0,hz1,hz2⟩:=GE
 have hcc:=AS X B b bs w h
 clear h
 go_enter Tryz.func264,Tryz.ntmps264
 go_wp2_with (go_at_call 307;refine hcc.mono ?_)
 rintro e w1 ⟨rfl,h1,hb1,hk1⟩
 obtain⟨hB,v,hbk,hown,hne⟩:=h1
 have c0:w1.cell? ⟨b,0,none⟩=some (.pointer (some ⟨b,0,none⟩)):=by rw[Lib.cell_of_heap hbk];rfl
 have c1:w1.cell? ⟨b,1,none⟩=some v:=by rw[Lib.cell_of_heap hbk];rfl
 go_wp2_with (at_builtin;refine Lib.wpList_append_own_stringF _ rfl _ _ 166 9 rfl B 5 i0 Tryz.underlying166 Tryz.underlying9 hi hz0 hz1 hz2 _ _ _ rfl hown s rfl ?c3 ?c4 ?c5 ?_)
 case c3=>unfold maxLen;omega
 case c4=>omega
 case c5=>have:=hb1.size;omega
 intro v' w2 hown' hgrow _
 have hlt:b<w1.heap.size:=ag c0
 have hb2:w2.heap[b]?=some (.cells (.pointer (some ⟨b,0,none⟩)::v::ext).toArray T (0,0)):=by
  rw[hgrow.block b hlt (λe=>hne e.symm)]
  exact hbk
 have d1:w2.cell? ⟨b,1,none⟩=some v:=by rw[Lib.cell_of_heap hb2];rfl
 have f1:w2.frozen? ⟨b,1,none⟩=false:=Lib.frozen_of_heap hb2 1
 obtain⟨ao,n',cap,rfl⟩:∃ao n' cap,v'=.slice ao n' cap:=by
  rcases hown'.2 with ⟨hv,_⟩|⟨g,cap,cur,fz,hv,_⟩
  ·exact⟨_,_,_,hv⟩
  ·exact⟨_,_,_,hv⟩
 go_wp2
 go_ret2
 refine⟨rfl,?_,?_,(hk1.grown hgrow (Lib.ownsRowF_kind hown)).setCell ⟨b,1,none⟩ rfl _⟩
 ·exact WAt.put hB hb2 (bs':=bs++Lib.strCells s) (by simpa[Lib.strCells_length] using hown') X.ne
 ·exact(hb1.grown hgrow (by have:=hb1.size;omega) (λk hk=>(hown.lt k hk).1)).setCell (p:=⟨b,1,none⟩) hB _
theorem IZ {T:TypeId} {ext:List Value} (X:WTy T (ext.length+2)) (B b:Nat) (bs:List Value) (r:Int) (hr0 : -2147483648<=r) (hr1:r<=2147483647) (w:World) (h:WIs T ext B b bs w) (hlen:bs.length+4<=140737488355328) (hBw:B<=w.heap.size) :
  Calls Tryz.prog 266 #[.pointer (some ⟨b,0,none⟩),.int .i32 r] w λe w'=>e=.returned (.tuple #[.int .i64 (Lib.runeCells r).length,.nilIface])/\WAt T ext B b (.pointer (some ⟨b,0,none⟩)) (bs++Lib.runeCells r) w'/\Below B w w'/\OK8 b w w':=by
 have hk4:=Lib.runeCells_le r
 have hcc:=AS X B b bs w h
 clear h
 go_enter Tryz.func266,Tryz.ntmps266
 go_wp2_with (go_at_call 307;refine hcc.mono ?_)
 rintro e w1 ⟨rfl,h1,hb1,hk1⟩
 obtain⟨hB,v,hbk,hown,hne⟩:=h1
 obtain⟨ao,cap,rfl⟩:∃ao cap,v=.slice ao bs.length cap:=by
  rcases hown.2 with ⟨hv,h0⟩|⟨g,cap,cur,fz,hv,_⟩
  ·exact⟨none,0,by rw[hv,h0]⟩
  ·exact⟨_,_,hv⟩
 have c1:w1.cell? ⟨b,1,none⟩=some (.slice ao bs.length cap):=by rw[Lib.cell_of_heap hbk];rfl
 have hlt:b<w1.heap.size:=ag c1
 have hap1:=fq B _ bs.length bs r hr0 hr1 w1 hown hlen (by have:=hb1.size;omega)
 go_wp2_with (go_at_call 310;refine hap1.mono ?_)
 rintro e w2 ⟨v',rfl,hown',o,hgrow⟩
 have hb2:w2.heap[b]?=some (.cells (.pointer (some ⟨b,0,none⟩) :: .slice ao bs.length cap::ext).toArray T (0,0)):=by
  rw[hgrow.block b (by simp;omega) (λe=>hne e.symm),Lib.alloc_old w1 _ b hlt]
  exact hbk
 have d1:w2.cell? ⟨b,1,none⟩=some (.slice ao bs.length cap):=by rw[Lib.cell_of_heap hb2];rfl
 have f1:w2.frozen? ⟨b,1,none⟩=false:=Lib.frozen_of_heap hb2 1
 obtain⟨g,cap',rfl⟩:∃g cap',v'=.slice (some ⟨g,0,none⟩) (bs.length+(Lib.runeCells r).length) cap':=by
  rcases hown'.2 with ⟨_,h0⟩|⟨g,cap',cur,fz,hv,_⟩
  ·omega
  ·exact⟨g,cap',hv⟩
 go_wp2
 go_ret2
 refine⟨?_,?_,?_,((hk1.alloc _).grown hgrow (Lib.ownsRowF_kind (hown.alloc _))).setCell ⟨b,1,none⟩ rfl _⟩
 ·have e:((bs.length:Int)+((Lib.runeCells r).length:Int)-(bs.length:Int))=((Lib.runeCells r).length:Int):=by omega
  simp[e]
 ·exact WAt.put hB hb2 (bs':=bs++Lib.runeCells r) (by simpa using hown') X.ne
 ·exact((hb1.alloc (by have:=hb1.size;omega) _).grown hgrow (by have:=hb1.size;simp;omega) (λk hk=>(hown.lt k hk).1)).setCell (p:=⟨b,1,none⟩) hB _
theorem mx {T:TypeId} {ext:List Value} (B b:Nat) (l:List UInt8) (w:World) (h:WIs T ext B b (Lib.byteCells l) w) (h0:l≠[]) :
  Calls Tryz.prog 228 #[.pointer (some ⟨b,0,none⟩)] w λe w'=>e=.returned (.string ⟨l.toArray⟩)/\WIs T ext B b (Lib.byteCells l) w'/\Below B w w':=by
 obtain⟨p,hp,hAt⟩:∃p,(p=.pointer none∨p=.pointer (some ⟨b,0,none⟩))/\WAt T ext B b p (Lib.byteCells l) w:=by
  rcases h with h|h
  ·exact⟨_,.inl rfl,h⟩
  ·exact⟨_,.inr rfl,h⟩
 obtain⟨hB,v,hbk,hown,hne⟩:=hAt
 have hl0:l.length≠0:=by simpa using h0
 rw[Lib.byteCells_length]at hown
 obtain⟨g,cap,cur,fz,rfl,hbg,hg,hfz,hnc,hcm,hcs,htake⟩:∃g cap cur fz,v=.slice (some ⟨g,0,none⟩) l.length cap/\B<=g/\w.heap[g]?=some (.cells cur 5 fz)/\fz.2<=l.length*1/\l.length<=cap/\cap<=maxLen/\cur.size=cap*1/\cur.toList.take (l.length*1)=Lib.byteCells l:=by
  rcases hown.2 with ⟨_,hz⟩|⟨g,cap,cur,fz,hv,r⟩
  ·exact absurd hz hl0
  ·exact⟨g,cap,cur,fz,hv,r⟩
 have c1:w.drew.cell? ⟨b,1,none⟩=some (.slice (some ⟨g,0,none⟩) l.length cap):=by
  have:w.drew.heap[b]?=some (.cells (p :: .slice (some ⟨g,0,none⟩) l.length cap::ext).toArray T (0,0)):=hbk
  rw[Lib.cell_of_heap this];rfl
 have hSD:(Builtin.unsafeSliceData_ #[166] 316 #[.slice (some ⟨g,0,none⟩) l.length cap]).run Tryz.prog w.drew=.ok (.pointer (some ⟨g,0,none⟩)) w.drew:=
  Lib.run_unsafeSliceData_row _ _ _ _ _ _ (by omega)
 have hUS:(Builtin.unsafeString_ #[316,3] 9 #[.pointer (some ⟨g,0,none⟩),.int .i64 l.length]).run Tryz.prog w.drew=.ok (.string ⟨l.toArray⟩) (w.drew.freeze ⟨g,0,none⟩ l.length):=by
  refine Lib.run_unsafeString_row w.drew 316 3 9 5 Tryz.underlying316 (by kernel_rfl) g cur.size (by have hg':w.drew.heap[g]?=some (.cells cur 5 fz):=hg;simp[World.shape?,hg']) l h0 (by omega) (by unfold maxLen at hcm;omega) ?_
  intro j x hx
  have:=hown.cells (g:=g) rfl j (.int .u8 x.toNat) (by simp[Lib.byteCells,hx])
  exact this
 have hkeep:WIs T ext B b (Lib.byteCells l) (w.drew.freeze ⟨g,0,none⟩ l.length):=by
  have hA:WAt T ext B b p (Lib.byteCells l) w.drew:=⟨hB,_,hbk,by rw[Lib.byteCells_length];exact hown,hne⟩
  have hF:=hA.froze (g:=g) (cap:=cap) (by rw[Lib.byteCells_length];exact c1)
  rw[Lib.byteCells_length]at hF
  rcases hp with rfl|rfl
  ·exact .inl hF
  ·exact .inr hF
 have hbel:Below B w (w.drew.freeze ⟨g,0,none⟩ l.length):=Lib.below_freeze (Below.drew (Below.refl B w)) (p:=⟨g,0,none⟩) hbg _
 have HK:=Lib.hid hkeep
 clear hkeep h hown hp hbk
 have mixed:Tryz.prog.follows Departure.mixedOrders=true:=by kernel_rfl
 go_enter Tryz.func228,Tryz.ntmps228
 go_wp2
 go_region_o
 all_goals (go_wp2;go_ret;exact⟨rfl,HK.out,hbel⟩)
open Um Fm
theorem mL:∀(n:Nat) (l:List UInt8),l.length<=n->(sgn l).2.2=Lib.validD l
 | 0,l,h=>by
  have:l=[]:=List.eq_nil_of_length_eq_zero (by omega)
  subst this;rfl
 | n+1,l,h=>by
  by_cases hne:l=[]
  ·subst hne;rfl
  ·have hl:0<l.length:=List.length_pos_iff.2 hne
   have hp:=gQ l.length (l.getD 0 0).toNat (l.getD 1 0).toNat (l.getD 2 0).toNat (l.getD 3 0).toNat
   rw[Lib.validD_step l hne,Lib.decodeL_N]
   have hnx:nx l=if Lib.decodeN l.length (l.getD 0 0).toNat (l.getD 1 0).toNat (l.getD 2 0).toNat (l.getD 3 0).toNat=(65533,1) then (0,0) else Lib.decodeN l.length (l.getD 0 0).toNat (l.getD 1 0).toNat (l.getD 2 0).toNat (l.getD 3 0).toNat:=by
    unfold nx;rw[if_neg (by omega)]
   generalize Lib.decodeN l.length (l.getD 0 0).toNat (l.getD 1 0).toNat (l.getD 2 0).toNat (l.getD 3 0).toNat=d at *
   obtain⟨a,b⟩:=d
   by_cases hb:a=65533/\b=1
   ·obtain⟨rfl,rfl⟩:=hb
    rw[if_pos rfl]at hnx
    rw[xh l (by omega) (by rw[hnx])]
    simp
   ·rw[if_neg (by simpa using hb)]at hnx
    rw[sU l (by omega) (by rw[hnx];simp only at hp ⊢;omega),hnx]
    rw[if_neg (by simpa using hb)]
    exact mL n _ (by simp only at hp ⊢;rw[List.length_drop];omega)
theorem mK (s:ByteArray):((ix s.data.toList).2.2 == 0)=aG s:=by
 unfold ix aG
 rw[←mL _ s.data.toList (Nat.le_refl _)]
 cases (sgn s.data.toList).2.2<;>rfl
theorem oV {s:ByteArray} (h:aG s=true):(ix s.data.toList).2.2=0:=by rw[←mK]at h;exact eq_of_beq h
theorem sT {s:ByteArray} (h:aG s=false):(ix s.data.toList).2.2=11:=by
 rw[←mK]at h
 revert h
 unfold ix
 split<;>simp
def upB (b:UInt8):Bool:=decide (65<=b.toNat) && decide (b.toNat<=90)
def dF (l:List UInt8):Bool:=l.all λb => !upB b
theorem tM (b:UInt8) (t:List UInt8) (h:b.toNat<128):Lib.mapD iA (b::t)=(if upB b then UInt8.ofNat (b.toNat+32) else b)::Lib.mapD iA t:=by
 rw[Lib.mapD_step iA (b::t) (by simp),Lib.decodeL_ascii b t h]
 have hlow:0<=iA (b.toNat:Int)/\iA (b.toNat:Int)<=127:=by unfold iA;split<;>omega
 have he:Lib.encodeRune (iA (b.toNat:Int))=[(iA (b.toNat:Int)).toNat.toUInt8]:=by unfold Lib.encodeRune;rw[Lib.encodeRuneZ_one hlow.1 hlow.2];rfl
 simp only[List.drop_succ_cons,List.drop_zero]
 rw[if_pos hlow.1,he]
 simp only[List.cons_append,List.nil_append,List.cons.injEq,and_true]
 unfold iA upB
 by_cases h1:65<=b.toNat
 ·by_cases h2:b.toNat<=90
  ·rw[if_pos (by omega)]
   simp only[h1,h2,decide_true,Bool.and_self,if_true]
   congr 1
  ·rw[if_neg (by omega)]
   simp[h2]
 ·rw[if_neg (by omega)]
  simp[h1]
theorem jR:∀(l:List UInt8),(∀b∈l,b.toNat<128)->(decide (Lib.mapD iA l=l))=dF l
 | [],_=>rfl
 | b::t,h=>by
  have hb:=h b (by simp)
  have ih:=jR t λx hx=>h x (by simp[hx])
  rw[tM b t hb]
  unfold dF at ih ⊢
  rw[List.all_cons,←ih]
  cases hu:upB b
  ·simp
  ·have hne:UInt8.ofNat (b.toNat+32)≠b:=by
    intro e
    have h1:=congrArg UInt8.toNat e
    unfold upB at hu
    simp at hu
    rw[UInt8.toNat_ofNat']at h1
    omega
   simp
theorem vo (s:ByteArray):vp s=(((tag s.data.toList:Int) == s.size) && dF s.data.toList):=by
 unfold vp
 cases h:((tag s.data.toList:Int) == s.size)
 ·rfl
 ·have hp:=pJ h
  rw[Bool.true_and,Bool.true_and,←jR]
  ·rw[ByteArray.toList_mk,ByteArray.toList_eq]
   rw[Bool.eq_iff_iff];simp
  ·intro b hb
   obtain⟨i,hi,e⟩:=List.getElem_of_mem hb
   have:=hp i (by rw[←ar];exact hi)
   have e2:s[i]'(by rw[←ar];exact hi)=b:=by rw[←e];cases s;rfl
   rw[e2]at this;exact this
namespace Lx
open Go.Lib
def FB (c:Nat):Option Nat:=if 48<=c/\c<=57 then some (c-48) else if 65<=c/\c<=70 then some (c-55) else if 97<=c/\c<=102 then some (c-87) else none
def Ie:List UInt8->Nat->Option Nat
 | [],n=>some n
 | c::r,n=>(FB c.toNat).bind λd=>Ie r (16*n+d)
end Lx
end Go.Proofs.YtfcbghmbbjolcaaGreatDoor
namespace Go.Proofs.YtfcbghmbbjolcaaGreatDoor.Tx
open Go Go.RowKit Um Fm Lx
def hxD (d:Nat):UInt8:=if d<10 then UInt8.ofNat (48+d) else UInt8.ofNat (55+d)
def rG (c:UInt8):Bool:=decide (c.toNat<128) && !fF c.toNat
def eR (c:UInt8):List UInt8:=if rG c then [92,117,48,48,hxD (c.toNat / 16),hxD (c.toNat % 16)] else [c]
def aU (l:List UInt8):List UInt8:=l.flatMap eR
def de (c:UInt8):List UInt8:=if c=34 then [92,34] else if c=92 then [92,92] else if c=10 then [92,110] else if c=13 then [92,114] else [c]
def am (l:List UInt8):List UInt8:=l.flatMap de
def ba (t:Tm):List UInt8:=
 if t.k=1 then 60::(aU t.x.data.toList++[62])
 else if t.k=2 then 95::58::t.x.data.toList
 else if t.k=4 then 34::(am t.x.data.toList++34::94::94::60::(aU t.y.data.toList++[62]))
 else if t.l.data.toList=[] then 34::(am t.x.data.toList++[34])
 else 34::(am t.x.data.toList++34::64::t.l.data.toList)
def rdF (p:List UInt8->Option Nat):Nat->List UInt8->List UInt8
 | 0,_=>[]
 | _+1,[]=>[]
 | _+1,[c]=>[c]
 | f+1,c::d::r =>
  if c≠92 then c::rdF p f (d::r)
  else if d=117/\(p r).isSome then UInt8.ofNat ((p r).getD 0)::rdF p f (r.drop 4)
  else (if d=110 then 10 else if d=114 then 13 else d)::rdF p f r
def rdG (p:List UInt8->Option Nat) (l:List UInt8):List UInt8:=rdF p (l.length+1) l
theorem gB (p:List UInt8->Option Nat):∀(f g:Nat) (l:List UInt8),l.length<f->l.length<g->rdF p f l=rdF p g l
 | 0,_,_,h,_=>by omega
 | _,0,_,_,h=>by omega
 | f+1,g+1,[],_,_=>rfl
 | f+1,g+1,[c],_,_=>rfl
 | f+1,g+1,c::d::r,h1,h2=>by
  simp only[List.length_cons]at h1 h2
  have e1:=gB p f g (d::r) (by simp;omega) (by simp;omega)
  have e2:=gB p f g r (by omega) (by omega)
  have e3:=gB p f g (r.drop 4) (by simp;omega) (by simp;omega)
  rw[rdF,rdF,e1,e2,e3]
theorem pS (p:List UInt8->Option Nat) (c:UInt8) (t:List UInt8) (h:c≠92):rdG p (c::t)=c::rdG p t:=by
 cases t with
 | nil=>rfl
 | cons d r=>unfold rdG;rw[rdF,if_pos h];rfl
theorem J7 (p:List UInt8->Option Nat) (n:Nat) (r:List UInt8) (h:p r=some n):rdG p (92::117::r)=UInt8.ofNat n::rdG p (r.drop 4):=by
 unfold rdG
 rw[rdF,if_neg (by simp),if_pos (by rw[h];simp),h]
 simp only[Option.getD_some,List.cons.injEq,true_and]
 exact gB p _ _ _ (by simp;omega) (by simp)
theorem mf (p:List UInt8->Option Nat) (d:UInt8) (r:List UInt8) (h:d≠117∨p r=none):rdG p (92::d::r)=(if d=110 then 10 else if d=114 then 13 else d)::rdG p r:=by
 unfold rdG
 have hn:¬ (d=117/\(p r).isSome):=by
  rintro⟨h1,h2⟩
  rcases h with h|h
  ·exact h h1
  ·rw[h]at h2;cases h2
 rw[rdF,if_neg (by simp),if_neg hn]
 simp only[List.cons.injEq,true_and]
 exact gB p _ _ _ (by simp;omega) (by simp)
def pu8 (l:List UInt8):Option Nat:=if l=[] then none else (Ie l 0).bind λn=>if n<256 then some n else none
def puP (r:List UInt8):Option Nat:=if 3<r.length then pu8 (r.take 4) else none
def hxV (c:Nat):Option Nat:=if 48<=c/\c<=57 then some (c-48) else if 65<=c/\c<=70 then some (c-55) else none
theorem zL:∀d:Fin 16,FB (hxD d.val).toNat=some d.val/\hxV (hxD d.val).toNat=some d.val:=by decide
theorem ue {d:Nat} (h:d<16):FB (hxD d).toNat=some d:=(zL ⟨d,h⟩).1
theorem xx (c:Nat) (r:List UInt8) (h:c<256):puP (48::48::hxD (c / 16)::hxD (c % 16)::r)=some c:=by
 unfold puP
 rw[if_pos (by simp)]
 unfold pu8
 rw[if_neg (by simp)]
 simp only[List.take_succ_cons,List.take_zero]
 have h0:FB (48:UInt8).toNat=some 0:=by decide
 simp only[Ie,h0,ue (show c / 16<16 by omega),ue (show c % 16<16 by omega),Option.bind_some]
 have e:16*(16*(16*(16*0+0)+0)+c / 16)+c % 16=c:=by omega
 rw[e,if_pos h]
theorem Ae:rG 92=true:=by decide
theorem vJ (p:List UInt8->Option Nat) (hp:∀(c:Nat) (r:List UInt8),c<256->p (48::48::hxD (c / 16)::hxD (c % 16)::r)=some c):∀l:List UInt8,rdG p (aU l)=l
 | []=>rfl
 | c::t=>by
  have ih:=vJ p hp t
  unfold aU at ih ⊢
  rw[List.flatMap_cons]
  cases h:rG c
  ·have e:eR c=[c]:=by unfold eR;rw[h];rfl
   rw[e,List.singleton_append,pS p c _ (by rintro rfl;rw[Ae]at h;cases h),ih]
  ·have e:eR c=[92,117,48,48,hxD (c.toNat / 16),hxD (c.toNat % 16)]:=by unfold eR;rw[h];rfl
   rw[e]
   simp only[List.cons_append,List.nil_append]
   rw[J7 p c.toNat _ (hp c.toNat _ c.toNat_lt)]
   simp only[List.drop_succ_cons,List.drop_zero]
   rw[ih]
   simp
theorem qU (p:List UInt8->Option Nat):∀l:List UInt8,rdG p (am l)=l
 | []=>rfl
 | c::t=>by
  have ih:=qU p t
  have e:am (c::t)=de c++am t:=by unfold am;rw[List.flatMap_cons]
  rw[e]
  by_cases h1:c=34
  ·subst h1;rw[show de 34=[92,34] from rfl,List.cons_append,List.cons_append,List.nil_append,mf p _ _ (.inl (by decide)),ih];rfl
  by_cases h2:c=92
  ·subst h2;rw[show de 92=[92,92] from rfl,List.cons_append,List.cons_append,List.nil_append,mf p _ _ (.inl (by decide)),ih];rfl
  by_cases h3:c=10
  ·subst h3;rw[show de 10=[92,110] from rfl,List.cons_append,List.cons_append,List.nil_append,mf p _ _ (.inl (by decide)),ih];rfl
  by_cases h4:c=13
  ·subst h4;rw[show de 13=[92,114] from rfl,List.cons_append,List.cons_append,List.nil_append,mf p _ _ (.inl (by decide)),ih];rfl
  have e:de c=[c]:=by unfold de;rw[if_neg h1,if_neg h2,if_neg h3,if_neg h4]
  rw[e,List.singleton_append,pS p c _ h2,ih]
def qtF:List UInt8->Nat->Nat
 | [],_=>0
 | [c],k=>if c=34 then k+1 else 0
 | c::d::r,k=>if c=34 then k+1 else if c=92 then qtF r (k+2) else qtF (d::r) (k+1)
theorem ER (t:List UInt8) (k:Nat):qtF (34::t) k=k+1:=by cases t<;>rfl
theorem EQ (d:UInt8) (r:List UInt8) (k:Nat):qtF (92::d::r) k=qtF r (k+2):=rfl
theorem yZ (c:UInt8) (t:List UInt8) (k:Nat) (h1:c≠34) (h2:c≠92):qtF (c::t) k=qtF t (k+1):=by
 cases t with
 | nil=>unfold qtF;rw[if_neg h1]
 | cons d r=>rw[qtF,if_neg h1,if_neg h2]
theorem xt (z:List UInt8):∀(l:List UInt8) (k:Nat),qtF (am l++34::z) k=k+(am l).length+1
 | [],k=>ER z k
 | c::t,k=>by
  have ih:=λk=>xt z t k
  have e:am (c::t)=de c++am t:=by unfold am;rw[List.flatMap_cons]
  rw[e,List.append_assoc,List.length_append]
  have two:∀d:UInt8,de c=[92,d]->qtF (de c++(am t++34::z)) k=k+((de c).length+(am t).length)+1:=by
   intro d hd
   rw[hd]
   simp only[List.cons_append,List.nil_append,List.length_cons,List.length_nil]
   rw[EQ,ih];omega
  by_cases h1:c=34
  ·exact two 34 (by unfold de;rw[if_pos h1])
  by_cases h2:c=92
  ·exact two 92 (by unfold de;rw[if_neg h1,if_pos h2])
  by_cases h3:c=10
  ·exact two 110 (by unfold de;rw[if_neg h1,if_neg h2,if_pos h3])
  by_cases h4:c=13
  ·exact two 114 (by unfold de;rw[if_neg h1,if_neg h2,if_neg h3,if_pos h4])
  have e:de c=[c]:=by unfold de;rw[if_neg h1,if_neg h2,if_neg h3,if_neg h4]
  rw[e]
  simp only[List.cons_append,List.nil_append,List.length_cons,List.length_nil]
  rw[yZ c _ k h1 h2,ih];omega
def qtL (l:List UInt8):Nat:=qtF (l.drop 1) 1
def xa (l:List UInt8):List UInt8:=if [62].isSuffixOf l then l.take (l.length-1) else l
theorem sF (l:List UInt8):xa (l++[62])=l:=by
 unfold xa
 rw[if_pos (by rw[List.isSuffixOf_iff_suffix];exact List.suffix_append _ _)]
 simp
abbrev mkS (l:List UInt8):ByteArray:=⟨l.toArray⟩
def kO (l:List UInt8):Tm:=
 if [60].isPrefixOf l then ⟨1,mkS (rdG puP (xa (l.drop 1))),⟨#[]⟩,⟨#[]⟩⟩
 else if [95,58].isPrefixOf l then ⟨2,mkS (l.drop 2),⟨#[]⟩,⟨#[]⟩⟩
 else if ![34].isPrefixOf l || qtL l == 0 then ⟨0,⟨#[]⟩,⟨#[]⟩,⟨#[]⟩⟩
 else if [64].isPrefixOf (l.drop (qtL l)) then ⟨3,mkS (rdG puP ((l.drop 1).take (qtL l-2))),mkS ((l.drop (qtL l)).drop 1),⟨#[]⟩⟩
 else if [94,94,60].isPrefixOf (l.drop (qtL l)) then ⟨4,mkS (rdG puP ((l.drop 1).take (qtL l-2))),⟨#[]⟩,mkS (rdG puP (xa ((l.drop (qtL l)).drop 3)))⟩
 else ⟨3,mkS (rdG puP ((l.drop 1).take (qtL l-2))),⟨#[]⟩,⟨#[]⟩⟩
theorem db (s:ByteArray):ci s=true↔s.data.toList=[]:=by unfold ci;rw[ByteArray.toList_eq];exact List.isEmpty_iff
theorem il (a b:ByteArray):ci (a++b)=(ci a && ci b):=by
 unfold ci
 rw[ByteArray.toList_eq,ByteArray.toList_eq,ByteArray.toList_eq,ByteArray.data_append,Array.toList_append]
 cases a.data.toList<;>simp
theorem du {a b:ByteArray} (h:a.data.toList=b.data.toList):a=b:=by
 obtain⟨⟨x⟩⟩:=a;obtain⟨⟨y⟩⟩:=b;simp at h;rw[h]
theorem lC (s:ByteArray):mkS s.data.toList=s:=by obtain⟨⟨x⟩⟩:=s;rfl
theorem gH {s:ByteArray} (h:s.data.toList=[]):s=⟨#[]⟩:=du (by rw[h])
theorem lv {t:Tm} (h:aB t=true) :
  (t.k=1/\t.l=⟨#[]⟩/\t.y=⟨#[]⟩/\aG t.x=true)∨(t.k=2/\t.l=⟨#[]⟩/\t.y=⟨#[]⟩/\kL t.x=true)
  ∨ (t.k=3/\t.y=⟨#[]⟩/\aG t.x=true/\vp t.l=true)∨(t.k=4/\t.l=⟨#[]⟩/\¬ t.y.toList=En/\aG t.x=true/\aG t.y=true):=by
 unfold aB at h
 split at h
 ·rename_i hk
  rw[il,Bool.and_eq_true,Bool.and_eq_true,db,db]at h
  exact .inl ⟨hk,gH h.1.1,gH h.1.2,h.2⟩
 split at h
 ·rename_i hk
  rw[il,Bool.and_eq_true,Bool.and_eq_true,db,db]at h
  exact .inr (.inl ⟨hk,gH h.1.1,gH h.1.2,h.2⟩)
 split at h
 ·rename_i hk
  rw[Bool.and_eq_true,Bool.and_eq_true,db]at h
  exact .inr (.inr (.inl ⟨hk,gH h.1.1,h.1.2,h.2⟩))
 split at h
 ·rename_i hk
  rw[Bool.and_eq_true,Bool.and_eq_true,Bool.and_eq_true,db]at h
  exact .inr (.inr (.inr ⟨hk,gH h.1.1,by simpa using h.1.2,h.2⟩))
 ·cases h
theorem jh (m z:List UInt8):((34:UInt8)::(m++34::z)).drop (1+m.length+1)=z:=by
 rw[show 1+m.length+1=(m.length+1)+1 by omega,List.drop_succ_cons,←List.drop_drop,List.drop_left];rfl
theorem iU (m z:List UInt8):(((34:UInt8)::(m++34::z)).drop 1).take (1+m.length+1-2)=m:=by
 rw[show 1+m.length+1-2=m.length by omega,List.drop_succ_cons,List.drop_zero,List.take_left]
theorem qY (x z:List UInt8):qtL (34::(am x++34::z))=1+(am x).length+1:=xt z x 1
theorem lF {t:Tm} (h:aB t=true):kO (ba t)=t:=by
 obtain⟨k,x,l,y⟩:=t
 rcases lv h with ⟨rfl,rfl,rfl,-⟩|⟨rfl,rfl,rfl,-⟩|⟨rfl,rfl,-,-⟩|⟨rfl,rfl,-,-⟩
 ·have e:ba ⟨1,x,⟨#[]⟩,⟨#[]⟩⟩=60::(aU x.data.toList++[62]):=rfl
  rw[e]
  unfold kO
  rw[if_pos (by rfl),List.drop_succ_cons,List.drop_zero,sF,vJ puP xx,lC]
 ·have e:ba ⟨2,x,⟨#[]⟩,⟨#[]⟩⟩=95::58::x.data.toList:=rfl
  rw[e]
  unfold kO
  rw[if_neg (by simp[List.isPrefixOf]),if_pos (by simp[List.isPrefixOf]),List.drop_succ_cons,List.drop_succ_cons,List.drop_zero,lC]
 ·by_cases hl:l.data.toList=[]
  ·have e:ba ⟨3,x,l,⟨#[]⟩⟩=34::(am x.data.toList++34::[]):=by unfold ba;rw[if_neg (by simp),if_neg (by simp),if_neg (by simp),if_pos hl]
   rw[e]
   unfold kO
   rw[qY,jh,iU,qU,lC,if_neg (by simp[List.isPrefixOf]),if_neg (by simp[List.isPrefixOf]),if_neg (by simp[List.isPrefixOf]),if_neg (by simp[List.isPrefixOf]),if_neg (by simp[List.isPrefixOf]),gH hl]
  ·have e:ba ⟨3,x,l,⟨#[]⟩⟩=34::(am x.data.toList++34::(64::l.data.toList)):=by unfold ba;rw[if_neg (by simp),if_neg (by simp),if_neg (by simp),if_neg hl]
   rw[e]
   unfold kO
   rw[qY,jh,iU,qU,lC,if_neg (by simp[List.isPrefixOf]),if_neg (by simp[List.isPrefixOf]),if_neg (by simp[List.isPrefixOf]),if_pos (by simp[List.isPrefixOf]),List.drop_succ_cons,List.drop_zero,lC]
 ·have e:ba ⟨4,x,⟨#[]⟩,y⟩=34::(am x.data.toList++34::(94::94::60::(aU y.data.toList++[62]))):=rfl
  rw[e]
  unfold kO
  rw[qY,jh,iU,qU,lC,if_neg (by simp[List.isPrefixOf]),if_neg (by simp[List.isPrefixOf]),if_neg (by simp[List.isPrefixOf]),if_neg (by simp[List.isPrefixOf]),if_pos (by simp[List.isPrefixOf])]
  simp only[List.drop_succ_cons,List.drop_zero]
  rw[sF,vJ puP xx,lC]
theorem B9 {a b:Tm} (ha:aB a=true) (hb:aB b=true) (h:ba a=ba b):a=b:=by
 rw[←lF ha,←lF hb,h]
end Go.Proofs.YtfcbghmbbjolcaaGreatDoor.Tx
namespace Go.Proofs.YtfcbghmbbjolcaaGreatDoor.Tx
open Go Go.RowKit Um Fm Lx
theorem Du {c:UInt8} (h:128<=c.toNat):rG c=false:=by
 unfold rG
 rw[decide_eq_false (by omega)];rfl
theorem nZ (a b:List UInt8):aU (a++b)=aU a++aU b:=List.flatMap_append
theorem qw:∀l:List UInt8,(∀b∈l,128<=b.toNat)->aU l=l
 | [],_=>rfl
 | c::t,h=>by
  have e:aU (c::t)=eR c++aU t:=by unfold aU;rw[List.flatMap_cons]
  have e2:eR c=[c]:=by unfold eR;rw[Du (h c (by simp))];rfl
  rw[e,e2,qw t (λb hb=>h b (by simp[hb]))];rfl
theorem Dy {r:Int} (h:128<=r):∀b∈Lib.encodeRune r,128<=b.toNat:=by
 intro b hb
 unfold Lib.encodeRune at hb
 obtain⟨x,hx,rfl⟩:=List.mem_map.1 hb
 have h1:=Lib.encodeRuneZ_byte r x hx
 have h2:128<=x:=by
  unfold Lib.encodeRuneZ at hx
  repeat' split at hx
  all_goals simp at hx;omega
 have h3:x.toNat.toUInt8.toNat=x.toNat:=by
  show (UInt8.ofNat x.toNat).toNat=_
  rw[UInt8.toNat_ofNat'];omega
 omega
def lX (r:Nat):List UInt8:=if fF (r:Int) then Lib.encodeRune (r:Int) else [92,117,48,48,hxD (r / 16),hxD (r % 16)]
theorem D6 {l:List UInt8} (hne:l≠[]) (hv:Lib.validD l=true) :
  aU l=lX (Lib.decodeL l).1++aU (l.drop (Lib.decodeL l).2)/\(fF ((Lib.decodeL l).1:Int)=false->(Lib.decodeL l).1<128)/\Lib.validD (l.drop (Lib.decodeL l).2)=true/\1<=(Lib.decodeL l).2/\(Lib.decodeL l).2<=l.length/\(lX (Lib.decodeL l).1).length<=6*(Lib.decodeL l).2:=by
 rw[Lib.validD_step l hne]at hv
 have hl:0<l.length:=List.length_pos_iff.2 hne
 split at hv
 ·cases hv
 rename_i hb
 have hw:=Lib.decodeL_width l
 have hle:=Lib.decodeL_le l hne
 have hnx:nx l=Lib.decodeL l:=by
  rw[Lib.decodeL_N]at hb ⊢
  unfold nx
  rw[if_neg (by omega),if_neg (λe=>hb (by rw[e];exact⟨rfl,rfl⟩))]
 obtain⟨hB,-,henc,-,-⟩:=ra l (by rw[hnx];omega)
 rw[hnx]at hB henc
 generalize hd:Lib.decodeL l=d at *
 obtain⟨r,n⟩:=d
 simp only at *
 have hsplit:l=l.take n++l.drop n:=(List.take_append_drop n l).symm
 have hlen4:(Lib.encodeRune (r:Int)).length<=4:=by unfold Lib.encodeRune;rw[List.length_map];exact(Lib.encodeRuneZ_length _).2
 have hel:(Lib.encodeRune (r:Int)).length=n:=by rw[←henc,List.length_take];omega
 rcases Nat.lt_or_ge r 128 with hr|hr
 ·have e1:Lib.encodeRune (r:Int)=[UInt8.ofNat r]:=by
   unfold Lib.encodeRune
   rw[Lib.encodeRuneZ_one (by omega) (by omega)]
   simp
  have hn1:n=1:=by rw[e1]at hel;simpa using hel.symm
  have hc:(UInt8.ofNat r).toNat=r:=by rw[UInt8.toNat_ofNat'];omega
  refine⟨?_,λ_=>hr,hv,hw,hle,?_⟩
  ·conv=>lhs;rw[hsplit,henc,e1]
   rw[nZ]
   congr 1
   unfold lX aU
   rw[List.flatMap_cons,List.flatMap_nil,List.append_nil]
   unfold eR rG
   rw[hc,decide_eq_true hr,Bool.true_and]
   cases fF (r:Int)
   ·rfl
   ·rw[if_neg (by simp),if_pos rfl,e1]
  ·unfold lX;split
   ·omega
   ·simp;omega
 ·have hraw:fF (r:Int)=true:=by
   unfold fF
   rw[hB,decide_eq_true (by omega:(32:Int)<r)]
   have:jo.contains (r:Int)=false:=by
    unfold jo
    simp;omega
   rw[this];rfl
  refine⟨?_,λh=>(by rw[hraw]at h;cases h),hv,hw,hle,?_⟩
  ·conv=>lhs;rw[hsplit,henc]
   rw[nZ]
   congr 1
   unfold lX
   rw[hraw,if_pos rfl]
   exact qw _ (Dy (by omega))
  ·unfold lX;rw[hraw,if_pos rfl];omega
theorem D8:aU []=[]:=rfl
theorem ub:∀l:List UInt8,(aU l).length<=6*l.length
 | []=>by simp[aU]
 | c::t=>by
  have e:aU (c::t)=eR c++aU t:=by unfold aU;rw[List.flatMap_cons]
  have h1:(eR c).length<=6:=by unfold eR;split<;>simp
  have:=ub t
  rw[e,List.length_append,List.length_cons];omega
theorem nS:∀l:List UInt8,(am l).length<=2*l.length
 | []=>by simp[am]
 | c::t=>by
  have e:am (c::t)=de c++am t:=by unfold am;rw[List.flatMap_cons]
  have h1:(de c).length<=2:=by unfold de;(repeat' split);all_goals simp
  have:=nS t
  rw[e,List.length_append,List.length_cons];omega
end Go.Proofs.YtfcbghmbbjolcaaGreatDoor.Tx
namespace Go.Proofs.YtfcbghmbbjolcaaGreatDoor
open Go Go.RowKit Um Fm Tx
theorem wTy:WTy 266 2:=⟨by kernel_rfl,by decide⟩
abbrev WI (B b:Nat) (acc:List UInt8) (w:World):Prop:=WIs 266 [] B b (Lib.byteCells acc) w
theorem GD (B b:Nat) (acc:List UInt8) (s:ByteArray) (w:World) (h:WI B b acc w) (ha:acc.length<=1000000000) (hs:s.size<=1000000000) (hBw:B<=w.heap.size) :
  Calls Tryz.prog 264 #[.pointer (some ⟨b,0,none⟩),.string s] w λe w'=>(∃u,e=.returned u)/\WI B b (acc++s.data.toList) w'/\Below B w w'/\OK8 b w w':=by
 refine(Ep wTy B b _ s w h (by rw[Lib.byteCells_length];omega) hBw).mono ?_
 rintro e w' ⟨rfl,h1,h2,h3⟩
 rw[Lib.strCells_eq,←Lib.byteCells_append]at h1
 exact⟨⟨_,rfl⟩,.inr h1,h2,h3⟩
theorem uZ (B b:Nat) (acc:List UInt8) (r:Nat) (hr:r<=1114111) (w:World) (h:WI B b acc w) (ha:acc.length<=1000000000) (hBw:B<=w.heap.size) :
  Calls Tryz.prog 266 #[.pointer (some ⟨b,0,none⟩),.int .i32 r] w λe w'=>(∃u,e=.returned u)/\WI B b (acc++Lib.encodeRune r) w'/\Below B w w'/\OK8 b w w':=by
 refine(IZ wTy B b _ r (by omega) (by omega) w h (by rw[Lib.byteCells_length];omega) hBw).mono ?_
 rintro e w' ⟨rfl,h1,h2,h3⟩
 rw[←Lib.byteCells_encodeRune,←Lib.byteCells_append]at h1
 exact⟨⟨_,rfl⟩,.inr h1,h2,h3⟩
theorem mn (l:List ByteArray) (k m:Nat) (hz:∀s∈l,s.size<=m) (hk:k<=l.length):((l.take k).flatMap λs=>s.data.toList).length<=k*m:=by
 induction k with
 | zero=>simp
 | succ k ih =>
  have hlt:k<l.length:=by omega
  rw[List.take_add_one,List.getElem?_eq_getElem hlt,Option.toList_some,List.flatMap_append,List.length_append]
  have h1:=ih (by omega)
  have h2:=hz l[k] (List.getElem_mem hlt)
  have h3:((([l[k]]:List ByteArray).flatMap λs=>s.data.toList)).length=l[k].size:=by
   rw[List.flatMap_cons,List.flatMap_nil,List.append_nil,ar]
  rw[h3,Nat.succ_mul];omega
theorem wX (B b g:Nat) (acc:List UInt8) (l:List ByteArray) (c:Nat) (w:World) (h:WI B b acc w) (hA:w.heap[g]?=some (.cells (l.map Value.string).toArray 9 (0,0))) (hg:g≠b)
  (hl:l.length<=4) (hlen:acc.length<=100000000) (hz:∀s∈l,s.size<=100000000) (hBw:B<=w.heap.size) :
  Calls Tryz.prog 224 #[.pointer (some ⟨b,0,none⟩),.slice (some ⟨g,0,none⟩) l.length c] w λe w' =>
   e=.returned (.pointer (some ⟨b,0,none⟩))/\WI B b (acc++l.flatMap λs=>s.data.toList) w'/\Below B w w'/\OK8 b w w':=by
 go_enter Tryz.func224,Tryz.ntmps224
 go_wp2
 go_loopw [9] (λi wr=>∃k:Nat,k<=l.length/\i=.int .i64 k/\Hid (WI B b (acc++(l.take k).flatMap λs=>s.data.toList) wr)/\Hid (OK8 b w wr)/\Below B w wr) (λi _=>l.length-(intOf i).toNat)
 case atStart=>exact⟨0,by omega,rfl,by show WI B b _ w;simpa using h,Lib.OthersKept.refl _ _ _,Below.refl _ _⟩
 case round =>
  obtain⟨k,hk,rfl,HW,HO,hB⟩:=hrel
  by_cases hlt:k<l.length
  ·obtain⟨y,hx⟩:∃x,l[k]?=some x:=⟨_,List.getElem?_eq_getElem hlt⟩
   have hblk:=HO.out g _ hA (by simpa using hg) (by intro c fz e;cases e)
   have hcx:wr.cell? ⟨g,k,none⟩=some (.string y):=by rw[Lib.cell_of_heap hblk];simp[hx]
   have hy:=hz y (List.mem_of_getElem? hx)
   have hfl:=mn l k 100000000 hz (by omega)
   have hww:=GD B b _ y wr HW.out (by rw[List.length_append];omega) (by omega) (Nat.le_trans hBw hB.size)
   have e2:(l.take (k+1)).flatMap (λs=>s.data.toList)=(l.take k).flatMap (λs=>s.data.toList)++y.data.toList:=by
    rw[List.take_add_one,hx,Option.toList_some,List.flatMap_append];simp
   rw[List.append_assoc,←e2]at hww
   clear HW hx hblk e2 hfl h hz
   go_wp2_with (go_at_call 264;refine hww.mono ?_;rintro e w2 ⟨⟨u,rfl⟩,h1,h2,h3⟩)
   go_roundw
   case rel=>exact⟨k+1,by omega,by go_num,h1,HO.out.trans h3,hB.trans h2⟩
   case measure=>simp[intOf];omega
  ·have e2:(l.take k).flatMap (λs=>s.data.toList)=l.flatMap (λs=>s.data.toList):=by rw[List.take_of_length_le (by omega)]
   rw[e2]at HW
   clear e2 h hz
   go_wp2
   go_ret
   exact⟨rfl,HW.out,hB,HO.out⟩
end Go.Proofs.YtfcbghmbbjolcaaGreatDoor
