/- A map from texts to values, as it lies, known by what each t -/
import Derived.Test.YtfcbghmbbjolcaaGreatDoorJMR8
set_option maxHeartbeats 8000000
set_option maxRecDepth 100000
namespace Go.Proofs.YtfcbghmbbjolcaaGreatDoor.Mv
open Go Go.RowKit Go.Maps Go.ChangeMaps
abbrev Fmv:=ByteArray->Option Value
def noF:Fmv:=λ_=>none
def Cd (f:Fmv) (s:ByteArray) (v:Value):Fmv:=λx=>if x=s then some v else f x
def DK (f:Fmv) (s:ByteArray):Fmv:=λx=>if x=s then none else f x
def dP (e:MapEntry):ByteArray:=match e.key with
 | .string s=>s
 | _=>.empty
def Txt (l:List MapEntry):Prop:=(∀e∈l,e.key=.string (dP e))/\l.Pairwise λa b=>dP a≠dP b
def cL:List MapEntry->ByteArray->Nat->Option (Nat × Value)
 | [],_,_=>none
 | e::l,s,j=>if dP e=s then some (j,e.val) else cL l s (j+1)
def dQ (l:List MapEntry) (s:ByteArray):Option Value:=(cL l s 0).map (·.2)
theorem xA (s:ByteArray):∀(l:List MapEntry) (j:Nat),cL l s (j+1)=(cL l s j).map λx=>(x.1+1,x.2)
 | [],_=>rfl
 | e::l,j=>by
  unfold cL
  split
  ·rfl
  ·exact xA s l (j+1)
theorem bp (e:MapEntry) (l:List MapEntry) (s:ByteArray):dQ (e::l) s=if dP e=s then some e.val else dQ l s:=by
 unfold dQ
 rw[cL]
 split
 ·rfl
 ·rw[xA];cases cL l s 0<;>rfl
theorem gL (s:ByteArray):∀(l:List MapEntry) (j:Nat),(∀e∈l,e.key=.string (dP e))->Instr.findNow .string (.string s) l j=some (cL l s j)
 | [],_,_=>rfl
 | e::l,j,h=>by
  unfold Instr.findNow cL
  rw[h e (by simp)]
  simp only[Instr.sameNow]
  by_cases hs:dP e=s
  ·have hb:(s == dP e)=true:=(MapKept.bytes_beq _ _).2 hs.symm
   rw[hb,if_pos hs]
  ·have hb:(s == dP e)=false:=by
    cases hx:(s == dP e)
    ·rfl
    ·exact absurd ((MapKept.bytes_beq _ _).1 hx).symm hs
   rw[hb,if_neg hs]
   exact gL s l (j+1) λe he=>h e (List.mem_cons_of_mem _ he)
theorem qZ {s:ByteArray}:∀{l:List MapEntry} {j i:Nat} {v:Value},cL l s j=some (i,v)->∃k e,i=j+k/\l[k]?=some e/\dP e=s/\e.val=v
 | [],_,_,_,h=>by cases h
 | e::l,j,i,v,h=>by
  unfold cL at h
  split at h
  ·next hs =>
   injection h with h
   injection h with h1 h2
   exact⟨0,e,by omega,rfl,hs,h2⟩
  ·obtain⟨k,e',rfl,h1,h2,h3⟩:=qZ h
   exact⟨k+1,e',by omega,h1,h2,h3⟩
theorem kP {s:ByteArray}:∀{l:List MapEntry} {j:Nat},cL l s j=none->∀e∈l,dP e≠s
 | [],_,_,e,he=>by simp at he
 | a::l,j,h,e,he=>by
  unfold cL at h
  split at h
  ·cases h
  ·next hs =>
   rw[List.mem_cons]at he
   rcases he with rfl|he
   ·exact hs
   ·exact kP h e he
theorem qx {s:ByteArray} {v:Value} {b:Nat} (t:ByteArray):∀{l:List MapEntry},(∀e∈l,dP e≠s)->dQ (l++[{key:=.string s,val:=v,born:=b}]) t=if t=s then some v else dQ l t
 | [],_=>by
  rw[List.nil_append,bp]
  show (if s=t then some v else dQ [] t)=if t=s then some v else dQ [] t
  by_cases h:t=s
  ·rw[if_pos h,if_pos h.symm]
  ·rw[if_neg h,if_neg (Ne.symm h)]
 | e::l,h=>by
  rw[List.cons_append,bp,bp,qx t λe he=>h e (List.mem_cons_of_mem _ he)]
  have hs:=h e (by simp)
  by_cases ht:t=s
  ·subst ht
   rw[if_neg hs,if_pos rfl,if_pos rfl]
  ·rw[if_neg ht,if_neg ht]
theorem un {s:ByteArray} {v:Value} (t:ByteArray):∀{l:List MapEntry} {k:Nat} {e:MapEntry},l.Pairwise (λa b=>dP a≠dP b)->l[k]?=some e->dP e=s->dQ (l.modify k λe=>{e with key:=.string s,val:=v}) t=if t=s then some v else dQ l t
 | [],_,_,_,h,_=>by simp at h
 | a::l,0,e,_,h,hs=>by
  simp only[List.getElem?_cons_zero,Option.some.injEq]at h
  subst h
  rw[List.modify_zero_cons,bp,bp]
  show (if s=t then some v else dQ l t)=_
  by_cases ht:t=s
  ·rw[if_pos ht,if_pos ht.symm]
  ·rw[if_neg ht,if_neg (Ne.symm ht),if_neg (by rw[hs];exact Ne.symm ht)]
 | a::l,k+1,e,hp,h,hs=>by
  have hc:=List.pairwise_cons.1 hp
  rw[List.modify_succ_cons,bp,bp,un t hc.2 (by simpa using h) hs]
  have hm:e∈l:=List.mem_of_getElem? (by simpa using h:l[k]?=some e)
  have hne:dP a≠s:=by rw[←hs];exact hc.1 e hm
  by_cases ht:t=s
  ·subst ht
   rw[if_neg hne,if_pos rfl,if_pos rfl]
  ·rw[if_neg ht,if_neg ht]
theorem zQ {l:List MapEntry} {s:ByteArray} (h:∀e∈l,dP e≠s):dQ l s=none:=by
 induction l with
 | nil=>rfl
 | cons a l ih=>rw[bp,if_neg (h a (by simp)),ih λe he=>h e (List.mem_cons_of_mem _ he)]
theorem ob {s:ByteArray} (t:ByteArray):∀{l:List MapEntry} {k:Nat} {e:MapEntry},l.Pairwise (λa b=>dP a≠dP b)->l[k]?=some e->dP e=s->dQ (l.eraseIdx k) t=if t=s then none else dQ l t
 | [],_,_,_,h,_=>by simp at h
 | a::l,0,e,hp,h,hs=>by
  simp only[List.getElem?_cons_zero,Option.some.injEq]at h
  subst h
  have hc:=List.pairwise_cons.1 hp
  rw[List.eraseIdx_zero,List.tail_cons,bp]
  by_cases ht:t=s
  ·subst ht
   rw[if_pos rfl]
   exact zQ λe he=>by rw[←hs];exact(hc.1 e he).symm
  ·rw[if_neg ht,if_neg (by rw[hs];exact Ne.symm ht)]
 | a::l,k+1,e,hp,h,hs=>by
  have hc:=List.pairwise_cons.1 hp
  rw[List.eraseIdx_cons_succ,bp,bp,ob t hc.2 (by simpa using h) hs]
  have hm:e∈l:=List.mem_of_getElem? (by simpa using h:l[k]?=some e)
  have hne:dP a≠s:=by rw[←hs];exact hc.1 e hm
  by_cases ht:t=s
  ·subst ht
   rw[if_neg hne,if_pos rfl,if_pos rfl]
  ·rw[if_neg ht,if_neg ht]
theorem Et {l:List MapEntry} {s:ByteArray} {v:Value} {k:Nat} {e:MapEntry} (h:Txt l) (he:l[k]?=some e) (hs:dP e=s):Txt (l.modify k λe=>{e with key:=.string s,val:=v}):=by
 refine⟨λx hx=>?_,?_⟩
 ·obtain⟨j,hj⟩:=List.mem_iff_getElem?.1 hx
  rw[List.getElem?_modify]at hj
  split at hj
  ·obtain⟨y,hy,rfl⟩:=Option.map_eq_some_iff.1 hj;rfl
  ·obtain⟨y,hy,rfl⟩:=Option.map_eq_some_iff.1 hj
   exact h.1 _ (List.mem_of_getElem? hy)
 ·rw[List.pairwise_iff_getElem]
  intro i j hi hj hij
  have hp:=List.pairwise_iff_getElem.1 h.2 i j (by simpa using hi) (by simpa using hj) hij
  have key:∀(n:Nat) (hn:n<(l.modify k λe=>{e with key:=.string s,val:=v}).length),dP (l.modify k λe=>{e with key:=.string s,val:=v})[n]=dP (l[n]'(by simpa using hn)):=by
   intro n hn
   rw[List.getElem_modify]
   split
   ·next hk =>
    subst hk
    have:l[k]'(by simpa using hn)=e:=(List.getElem?_eq_some_iff.1 he).2
    rw[this,hs];rfl
   ·rfl
  rw[key,key];exact hp
theorem AZ {l:List MapEntry} {s:ByteArray} {v:Value} {b:Nat} (h:Txt l) (hn:∀e∈l,dP e≠s):Txt (l++[{key:=.string s,val:=v,born:=b}]):=by
 refine⟨λx hx=>?_,?_⟩
 ·rw[List.mem_append,List.mem_singleton]at hx
  rcases hx with hx|rfl
  ·exact h.1 x hx
  ·rfl
 ·rw[List.pairwise_append]
  refine⟨h.2,by simp,λa ha b hb=>?_⟩
  rw[List.mem_singleton]at hb
  subst hb
  exact hn a ha
theorem yx {l:List MapEntry} (h:Txt l) (k:Nat):Txt (l.eraseIdx k):=
 ⟨λx hx=>h.1 x (List.mem_of_mem_eraseIdx hx),h.2.sublist (List.eraseIdx_sublist l k)⟩
def aY (w:World) (r:Nat) (f:Fmv):Prop:=∃es clock,w.heap[r]?=some (.map es clock)/\Txt es.toList/\∀s,dQ es.toList s=f s
theorem qO {w:World} {r:Nat} (h:r<w.heap.size) (o:Obj):({w with heap:=w.heap.setIfInBounds r o}:World).heap[r]?=some o:=by simp[h]
theorem tO {w:World} {r:Nat} {f:Fmv} (h:aY w r f):r<w.heap.size:=by
 obtain⟨es,c,h,_⟩:=h
 exact(Array.getElem?_eq_some_iff.1 h).1
theorem aY.on {w w':World} {r:Nat} {f:Fmv} (h:aY w r f) (hb:Below w.heap.size w w'):aY w' r f:=by
 have hl:=tO h
 obtain⟨es,c,h,h2⟩:=h
 exact⟨es,c,by rw[hb.block r hl];exact h,h2⟩
theorem aY.same {w w':World} {r:Nat} {f:Fmv} (h:aY w r f) (hb:w'.heap[r]?=w.heap[r]?):aY w' r f:=by
 obtain⟨es,c,h,h2⟩:=h
 exact⟨es,c,by rw[hb];exact h,h2⟩
theorem aY.new (w:World):aY (w.alloc (.map #[] 0)) w.heap.size noF:=⟨#[],0,heap_alloc_new _ _,⟨λe he=>by simp at he,List.Pairwise.nil⟩,λ_=>rfl⟩
theorem i8 (w:World) (r:Nat) (o:Obj):w.grownBy {w with heap:=w.heap.setIfInBounds r o} (some r):=
 ⟨rfl,rfl,rfl,by simp,λk _ hne=>Array.getElem?_setIfInBounds_ne (λe:r=k=>hne (congrArg some e.symm))⟩
theorem nX (s:ByteArray) (w:World) {P:Program}:(Instr.keyThatStays (.string s) (.string s)).run P w=.ok (.string s) w:=by
 have h:Instr.sameBits 10000 (.string s) (.string s)=true:=(MapKept.bytes_beq s s).2 rfl
 unfold Instr.keyThatStays
 rw[if_pos h];rfl
variable {P:Program} {T K E:TypeId}
theorem By (hT:P.underlying T=some (.map K E)) (hK:P.underlying K=some .string) {w:World} {z:Value} (hz:(zeroValue E).run P w=.ok z w)
  {r:Nat} {f:Fmv} (h:aY w r f) (s:ByteArray):(Instr.lookup T (.map (some r)) (.string s) false).run P w=.ok ((f s).getD z) w:=by
 obtain⟨es,c,h,ht,hf⟩:=h
 have hc:(Instr.checkKey es.isEmpty 10000 K (.string s)).run P w=.ok () w:=MapKept.run_checkKey hK (show MapKept.IsKey .string (.string s) from trivial) _ 9999
 have hq:(Instr.findKey K (.string s) es.toList).run P w=.ok (cL es.toList s 0) w:=MapKept.run_findKey hK (gL s es.toList 0 ht.1)
 have hg:(getObj r).run P w=.ok (.map es c) w:=MapKept.run_getObj_map h
 rw[←hf s]
 unfold Instr.lookup dQ
 simp only[Sem.run_bind,run_underlying hT,Result.andThen,hg,Sem.run_pure,hc,hq]
 cases hi:cL es.toList s 0 with
 | none=>simp[hz]
 | some i=>simp
theorem yU (hT:P.underlying T=some (.map K E)) (hK:P.underlying K=some .string) {w:World} {z:Value} (hz:(zeroValue E).run P w=.ok z w)
  {r:Nat} {f:Fmv} (h:aY w r f) (s:ByteArray):(Instr.lookup T (.map (some r)) (.string s) true).run P w=.ok (.tuple #[(f s).getD z,.bool (f s).isSome]) w:=by
 obtain⟨es,c,h,ht,hf⟩:=h
 have hc:(Instr.checkKey es.isEmpty 10000 K (.string s)).run P w=.ok () w:=MapKept.run_checkKey hK (show MapKept.IsKey .string (.string s) from trivial) _ 9999
 have hq:(Instr.findKey K (.string s) es.toList).run P w=.ok (cL es.toList s 0) w:=MapKept.run_findKey hK (gL s es.toList 0 ht.1)
 have hg:(getObj r).run P w=.ok (.map es c) w:=MapKept.run_getObj_map h
 rw[←hf s]
 unfold Instr.lookup dQ
 simp only[Sem.run_bind,run_underlying hT,Result.andThen,hg,Sem.run_pure,hc,hq]
 cases hi:cL es.toList s 0 with
 | none=>simp[hz]
 | some i=>simp
theorem EL (hT:P.underlying T=some (.map K E)) (hK:P.underlying K=some .string) {w:World} {r:Nat} {f:Fmv} (h:aY w r f) (s:ByteArray) (v:Value) :
  ∃w',(Instr.mapUpdate T (.map (some r)) (.string s) v).run P w=.ok () w'/\aY w' r (Cd f s v)/\w.grownBy w' (some r):=by
 obtain⟨es,c,h,ht,hf⟩:=h
 have hlt:r<w.heap.size:=(Array.getElem?_eq_some_iff.1 h).1
 have hc:(Instr.checkKey false 10000 K (.string s)).run P w=.ok () w:=MapKept.run_checkKey hK (show MapKept.IsKey .string (.string s) from trivial) _ 9999
 have hq:(Instr.findKey K (.string s) es.toList).run P w=.ok (cL es.toList s 0) w:=MapKept.run_findKey hK (gL s es.toList 0 ht.1)
 have hg:(getObj r).run P w=.ok (.map es c) w:=MapKept.run_getObj_map h
 cases hi:cL es.toList s 0 with
 | none =>
  refine⟨_,?_,?_,i8 w r (.map (es.push {key:=.string s,val:=v,born:=c}) (c+1))⟩
  ·unfold Instr.mapUpdate
   simp only[Sem.run_bind,run_underlying hT,Result.andThen,hg,hc,hq,hi,MapKept.run_setObj_map _ h]
  ·refine⟨_,_,qO hlt _,?_,λt=>?_⟩
   ·rw[Array.toList_push];exact AZ ht (kP hi)
   ·rw[Array.toList_push,qx t (kP hi),hf t];rfl
 | some iv =>
  obtain⟨i,v0⟩:=iv
  obtain⟨k,e,hk,hat,hs,_⟩:=qZ hi
  rw[Nat.zero_add]at hk
  subst hk
  have hky:((es[i]?).map (·.key)).getD (.string s)=.string s:=by
   rw[←Array.getElem?_toList,hat,Option.map_some,Option.getD_some,ht.1 e (List.mem_of_getElem? hat),hs]
  refine⟨_,?_,?_,i8 w r (.map (es.modify i λe=>{e with key:=.string s,val:=v}) c)⟩
  ·unfold Instr.mapUpdate
   simp only[Sem.run_bind,run_underlying hT,Result.andThen,hg,hc,hq,hi,hky,nX,MapKept.run_setObj_map _ h]
  ·refine⟨_,_,qO hlt _,?_,λt=>?_⟩
   ·rw[Array.toList_modify];exact Et ht hat hs
   ·rw[Array.toList_modify,un t ht.2 hat hs,hf t];rfl
theorem EM (hT:P.underlying T=some (.map K E)) (hK:P.underlying K=some .string) {w:World} {r:Nat} {f:Fmv} (h:aY w r f) (s:ByteArray) (t ty:TypeId) :
  ∃w',(Builtin.delete_ #[T,t] ty #[.map (some r),.string s]).run P w=.ok (.tuple #[]) w'/\aY w' r (DK f s)/\w.grownBy w' (some r):=by
 obtain⟨es,c,h,ht,hf⟩:=h
 have hlt:r<w.heap.size:=(Array.getElem?_eq_some_iff.1 h).1
 have hc:(Instr.checkKey es.isEmpty 10000 K (.string s)).run P w=.ok () w:=MapKept.run_checkKey hK (show MapKept.IsKey .string (.string s) from trivial) _ 9999
 have hq:(Instr.findKey K (.string s) es.toList).run P w=.ok (cL es.toList s 0) w:=MapKept.run_findKey hK (gL s es.toList 0 ht.1)
 have hg:(getObj r).run P w=.ok (.map es c) w:=MapKept.run_getObj_map h
 cases hi:cL es.toList s 0 with
 | none =>
  refine⟨_,?_,?_,i8 w r (.map es c)⟩
  ·unfold Builtin.delete_
   simp[Sem.run_bind,run_underlying hT,Result.andThen,hg,hc,hq,hi,MapKept.run_setObj_map _ h]
  ·refine⟨_,_,qO hlt _,ht,λt=>?_⟩
   unfold DK
   split
   ·next hts=>subst hts;unfold dQ;rw[hi];rfl
   ·exact hf t
 | some iv =>
  obtain⟨i,v0⟩:=iv
  obtain⟨k,e,hk,hat,hs,_⟩:=qZ hi
  rw[Nat.zero_add]at hk
  subst hk
  refine⟨_,?_,?_,i8 w r (.map (es.eraseIdxIfInBounds i) c)⟩
  ·unfold Builtin.delete_
   simp[Sem.run_bind,run_underlying hT,Result.andThen,hg,hc,hq,hi,MapKept.run_setObj_map _ h]
  ·have hl:(es.eraseIdxIfInBounds i).toList=es.toList.eraseIdx i:=by
    have:i<es.size:=by simpa using(List.getElem?_eq_some_iff.1 hat).1
    unfold Array.eraseIdxIfInBounds
    rw[dif_pos this,Array.toList_eraseIdx]
   refine⟨_,_,qO hlt _,?_,λt=>?_⟩
   ·rw[hl];exact yx ht i
   ·rw[hl,ob t ht.2 hat hs,hf t];rfl
theorem oN {w:World} {ops:Array Oper} {rest:List Oper} {o:Oper} {a:Act} {Q:Exit->Act->World->Prop}
  (hgd:o.guard=none) (mp x v:Operand) (T:TypeId) (hop:o.op=Op.mapUpdate T mp x v) {K E:TypeId} (hT:P.underlying T=some (.map K E)) (hK:P.underlying K=some .string)
  {r:Nat} {f:Fmv} (hm:a.eval mp=.map (some r)) (h:aY w r f) (s:ByteArray) (u:Value) (hx:a.eval x=.string s) (hv:a.eval v=u)
  (hQ:∀w',aY w' r (Cd f s u)->w.grownBy w' (some r)->wpList P ops Q rest (a.put o.dst undef) w'):wpList P ops Q (o::rest) a w:=by
 refine wpList_plain hgd λK' hK'=>?_
 obtain⟨w',hrun,h1,h2⟩:=EL (P:=P) hT hK h s u
 unfold Oper.wp
 simp[execOp,hop,hm,hx,hv,hrun,Result.andThen]
 exact hK' _ _ (hQ _ h1 h2)
theorem oO {w:World} {ops:Array Oper} {rest:List Oper} {o:Oper} {a:Act} {Q:Exit->Act->World->Prop}
  (hgd:o.guard=none) (mp x:Operand) (T t:TypeId) (hop:o.op=Op.call {callee:=Callee.builtin Builtin.delete,args:=#[mp,x],argTypes:=#[T,t]}) {K E:TypeId} (hT:P.underlying T=some (.map K E)) (hK:P.underlying K=some .string)
  {r:Nat} {f:Fmv} (hm:a.eval mp=.map (some r)) (h:aY w r f) (s:ByteArray) (hx:a.eval x=.string s)
  (hQ:∀w',aY w' r (DK f s)->w.grownBy w' (some r)->wpList P ops Q rest (a.put o.dst (.tuple #[])) w'):wpList P ops Q (o::rest) a w:=by
 refine wpList_plain hgd λK' hK'=>?_
 obtain⟨w',hrun,h1,h2⟩:=EM (P:=P) hT hK h s t o.type
 unfold Oper.wp
 simp[execOp,hop,resolve,invoke,builtin,hm,hx,hrun,Result.andThen]
 exact hK' _ _ (hQ _ h1 h2)
end Go.Proofs.YtfcbghmbbjolcaaGreatDoor.Mv
namespace Go.Proofs.YtfcbghmbbjolcaaGreatDoor
open Go Go.RowKit Go.Maps Go.ChangeMaps Um Fm Mt Tx Om Mv Mn
theorem yg:Tryz.prog.underlying 92=some (.map 9 62):=by kernel_rfl
theorem yh:Tryz.prog.underlying 9=some .string:=by kernel_rfl
theorem Gw (w:World):(zeroValue 62).run Tryz.prog w=.ok (.agg #[.int .i64 0,.string ⟨#[]⟩,.string ⟨#[]⟩,.string ⟨#[]⟩]) w:=by kernel_rfl
def cg (β:Bd):Fmv:=λs=>(β s).map tmV
theorem FM (β:Bd) (s:ByteArray) (t:Tm):Cd (cg β) s (tmV t)=cg (oW β s t):=by
 funext x
 unfold Cd cg oW
 by_cases h:x=s
 ·rw[if_pos h,if_pos h];rfl
 ·rw[if_neg h,if_neg h]
def m7 (β:Bd) (s:ByteArray):Bd:=λx=>if x=s then none else β x
theorem FO (β:Bd) (s:ByteArray):DK (cg β) s=cg (m7 β s):=by
 funext x
 unfold DK cg m7
 by_cases h:x=s
 ·rw[if_pos h,if_pos h];rfl
 ·rw[if_neg h,if_neg h]
theorem FC (w:World) (a b c:Obj):(((w.alloc a).alloc b).alloc c).heap[w.heap.size]?=some a:=by rw[Below.heap_alloc _ _ _ (by simp;omega)];exact aL w a b
theorem xP (w:World) (a b c:Obj):(((w.alloc a).alloc b).alloc c).heap[w.heap.size+1]?=some b:=by rw[Below.heap_alloc _ _ _ (by simp)];exact av w a b
theorem rD (w:World) (a b c:Obj):(((w.alloc a).alloc b).alloc c).heap[w.heap.size+2]?=some c:=by
 have:=heap_alloc_new ((w.alloc a).alloc b) c
 simpa using this
theorem wM {W:World} {b:Nat} {v0 v1 v2 v3:Value} {T:TypeId} (h:W.heap[b]?=some (Obj.cells #[v0,v1,v2,v3] T (0,0))) :
  W.cell? ⟨b,0,none⟩=some v0/\W.cell? ⟨b,1,none⟩=some v1/\W.cell? ⟨b,2,none⟩=some v2/\W.cell? ⟨b,3,none⟩=some v3:=
 ⟨by rw[World.cell?,h];rfl,by rw[World.cell?,h];rfl,by rw[World.cell?,h];rfl,by rw[World.cell?,h];rfl⟩
theorem cells5 {W:World} {b:Nat} {v0 v1 v2 v3 v4:Value} {T:TypeId} (h:W.heap[b]?=some (Obj.cells #[v0,v1,v2,v3,v4] T (0,0))) :
  W.cell? ⟨b,0,none⟩=some v0/\W.cell? ⟨b,1,none⟩=some v1/\W.cell? ⟨b,2,none⟩=some v2/\W.cell? ⟨b,3,none⟩=some v3/\W.cell? ⟨b,4,none⟩=some v4:=
 ⟨by rw[World.cell?,h];rfl,by rw[World.cell?,h];rfl,by rw[World.cell?,h];rfl,by rw[World.cell?,h];rfl,by rw[World.cell?,h];rfl⟩
def eJ (β:Bd) (x:Sl):Bool:=!x.v.toList.isEmpty && (β x.v).isNone
def uV (r:Nat) (β:Bd) (x:Sl) (t:Tm) (w:World) (e:Ending) (w':World):Prop:=
 e=.returned (.tuple #[.bool (eJ β x),.bool (b1 β x t).isSome])/\aY w' r (cg ((b1 β x t).getD β))/\w.grownBy w' (some r)
theorem aC {w w':World} {r:Nat} (h:Below w.heap.size w w'):w.grownBy w' (some r):=⟨h.os,h.tape,h.output,h.size,λk hk _=>h.block k hk⟩
theorem bo {a b c:World} {r:Nat} (h:a.grownBy b (some r)) (k:b.grownBy c (some r)):a.grownBy c (some r):=
 ⟨k.os.trans h.os,k.tape.trans h.tape,k.output.trans h.output,Nat.le_trans h.size k.size,λi hi hn=>(k.block i (Nat.lt_of_lt_of_le hi h.size) hn).trans (h.block i hi hn)⟩
theorem Ji (r:Nat) (β:Bd) (x:Sl) (t:Tm) (w:World) (hM:aY w r (cg β)) :
  Calls Tryz.prog 214 #[.agg #[.map (some r)],.agg #[.string x.v,.int .i64 x.t.k,.string x.t.x,.string x.t.l,.string x.t.y],.agg #[.int .i64 t.k,.string t.x,.string t.l,.string t.y]] w (uV r β x t w):=by
 obtain⟨v,u⟩:=x
 obtain⟨W,hW⟩:∃W:World,((w.alloc (.cells #[.map (some r)] 94)).alloc (.cells #[.string v,.int .i64 u.k,.string u.x,.string u.l,.string u.y] 70)).alloc (.cells #[.int .i64 t.k,.string t.x,.string t.l,.string t.y] 62)=W:=⟨_,rfl⟩
 have hB0:Below w.heap.size w W:=by rw[←hW];exact blw
 have hM1:=hM.on hB0
 obtain⟨t0,t1,t2,t3⟩:_/\_/\_/\_:=wM (W:=W) (b:=w.heap.size+2) (by rw[←hW];exact rD _ _ _ _)
 have hz:W.heap.size=w.heap.size+3:=by rw[←hW];simp
 have hG:=Lib.hid (aC (r:=r) hB0)
 obtain⟨res,hres⟩:∃R,uV r β ⟨v,u⟩ t w=R:=⟨_,rfl⟩
 rw[hres]
 have heu:=λW=>dH u t W
 simp only
 cases he:v.toList.isEmpty
 ·have hl:=yU (P:=Tryz.prog) yg yh (Gw W) hM1 v
  rw[←hW]at hl
  cases hb:β v with
  | some o =>
   have hv:cg β v=some (tmV o):=by unfold cg;rw[hb];rfl
   rw[hv]at hl
   have heo:=λW=>dH o t W
   have hR:∀w',aY w' r (cg β)->w.grownBy w' (some r)->res (.returned (.tuple #[.bool false,.bool (az o t)])) w':=by
    intro w' h1 h2
    rw[←hres]
    unfold uV eJ b1
    simp only[he,hb,Bool.false_eq_true,if_false]
    by_cases hs:o=t
    ·rw[if_pos hs,aw.2 hs];exact⟨rfl,h1,h2⟩
    ·rw[if_neg hs,show az o t=false from by rw[←Bool.not_eq_true,aw];exact hs];exact⟨rfl,h1,h2⟩
   obtain⟨W2,hW2⟩:∃V:World,W.alloc (.cells #[.int .i64 o.k,.string o.x,.string o.l,.string o.y] 62)=V:=⟨_,rfl⟩
   have hB2:Below W.heap.size W W2:=by rw[←hW2];exact blw
   obtain⟨o0,o1,o2,o3⟩:_/\_/\_/\_:=wM (W:=W2) (b:=w.heap.size+3) (by rw[←hW2,←hz];exact heap_alloc_new _ _)
   have p0:=λd os=>ac o0 (below_regrown W2 d os)
   have p1:=λd os=>ac o1 (below_regrown W2 d os)
   have p2:=λd os=>ac o2 (below_regrown W2 d os)
   have p3:=λd os=>ac o3 (below_regrown W2 d os)
   have q0:=λd os=>ac (ac t0 hB2) (below_regrown W2 d os)
   have q1:=λd os=>ac (ac t1 hB2) (below_regrown W2 d os)
   have q2:=λd os=>ac (ac t2 hB2) (below_regrown W2 d os)
   have q3:=λd os=>ac (ac t3 hB2) (below_regrown W2 d os)
   have HB2:=Lib.hid hB2
   have HG:=Lib.hid hG.out
   rw[←hW]at hW2
   have HR:=Lib.hid hR
   have HM:=Lib.hid hM1
   have HW2:=Lib.hid hW2
   simp only[tmV,Option.getD_some,Option.isSome_some]at hl
   generalize az o t=q at *
   clear hM hM1 hR hv hb hres heu hB0 hW hW2 hB2 t0 t1 t2 t3 o0 o1 o2 o3 hz
   go_enter Tryz.func214,Tryz.ntmps214
   go_wp2
   simp only[HW2.out]
   refine wrq ?_;(repeat (any_goals (go_big_quiet_step ((fail)))));all_goals (refine wqn ?_;intro d9 os9)
   have kq:=below_regrown W2 d9 os9
   clear p0 p1 p2 p3 q0 q1 q2 q3
   generalize Sort.grow (redrawn W2 d9) os9=w3 at *
   go_wp2
   exact HR.out _ ((HM.out.on HB2.out).on kq) (bo HG.out (aC (aa HB2.out kq)))
  | none =>
   have hv:cg β v=none:=by unfold cg;rw[hb];rfl
   rw[hv]at hl
   have hR:∀w',aY w' r (Cd (cg β) v (tmV t))->w.grownBy w' (some r)->res (.returned (.tuple #[.bool true,.bool true])) w':=by
    intro w' h1 h2
    rw[←hres]
    unfold uV eJ b1
    simp only[he,hb,Bool.false_eq_true,if_false]
    rw[FM]at h1
    exact⟨rfl,h1,h2⟩
   have HR:=Lib.hid hR
   have hM2:aY (W.alloc (.cells #[.int .i64 0,.string ⟨#[]⟩,.string ⟨#[]⟩,.string ⟨#[]⟩] 62)) r (cg β):=hM1.on blw
   have hg2:w.grownBy (W.alloc (.cells #[.int .i64 0,.string ⟨#[]⟩,.string ⟨#[]⟩,.string ⟨#[]⟩] 62)) (some r):=bo hG.out (aC blw)
   rw[←hW]at hM2 hg2
   have HM:=Lib.hid hM2
   have HG:=Lib.hid hg2
   simp only[Option.getD_none,Option.isSome_none]at hl
   clear hM hM1 hR hv hb hres heu hB0 hW t0 t1 t2 t3 hz hM2 hg2 hG
   go_enter Tryz.func214,Tryz.ntmps214
   go_wp2_with (first
    | (at_mapUpdate;refine oN rfl _ _ _ _ rfl yg yh rfl HM.out _ _ rfl rfl ?_;intro w4 hM4 hg4)
    | fail)
   exact HR.out _ hM4 (bo HG.out hg4)
 ·have hR:∀w',aY w' r (cg β)->w.grownBy w' (some r)->res (.returned (.tuple #[.bool false,.bool (az u t)])) w':=by
   intro w' h1 h2
   rw[←hres]
   unfold uV eJ b1
   simp only[he,if_true]
   by_cases hs:u=t
   ·rw[if_pos hs,aw.2 hs];exact⟨rfl,h1,h2⟩
   ·rw[if_neg hs,show az u t=false from by rw[←Bool.not_eq_true,aw];exact hs];exact⟨rfl,h1,h2⟩
  obtain⟨s0,s1,s2,s3,s4⟩:_/\_/\_/\_/\_:=cells5 (W:=W) (b:=w.heap.size+1) (by rw[←hW];exact xP _ _ _ _)
  have p0:=λd os=>ac s1 (below_regrown W d os)
  have p1:=λd os=>ac s2 (below_regrown W d os)
  have p2:=λd os=>ac s3 (below_regrown W d os)
  have p3:=λd os=>ac s4 (below_regrown W d os)
  have q0:=λd os=>ac t0 (below_regrown W d os)
  have q1:=λd os=>ac t1 (below_regrown W d os)
  have q2:=λd os=>ac t2 (below_regrown W d os)
  have q3:=λd os=>ac t3 (below_regrown W d os)
  have HR:=Lib.hid hR
  have HM:=Lib.hid hM1
  have HW:=Lib.hid hW
  generalize az u t=q at *
  clear hM hM1 hR hres hB0 hW t0 t1 t2 t3 s0 s1 s2 s3 s4 hz
  go_enter Tryz.func214,Tryz.ntmps214
  go_wp2
  simp only[HW.out]
  refine wrq ?_;(repeat (any_goals (go_big_quiet_step ((fail)))));all_goals (refine wqn ?_;intro d9 os9)
  have kq:=below_regrown W d9 os9
  clear p0 p1 p2 p3 q0 q1 q2 q3
  generalize Sort.grow (redrawn W d9) os9=w3 at *
  go_wp2
  exact HR.out _ (HM.out.on kq) (bo hG.out (aC kq))
open Mp
theorem xB {w:World} {base size n k cap g:Nat} {e:TypeId} {xs vs:List Value} (h:w.ownsRow base e size (.slice (some ⟨g,0,none⟩) n cap) n xs) (hk:k<n) (hv:vs.length=size) :
  (w.setCells g (k*size) vs).ownsRow base e size (.slice (some ⟨g,0,none⟩) n cap) n (xs.take (k*size)++(vs++xs.drop (k*size+size))):=by
 obtain⟨hx,h|⟨g',cap',cur,hv',hb,hh,hn,hm,hs,ht⟩⟩:=h
 ·cases h.1
 ·injection hv' with h1 _ h2
  injection h1 with h1
  injection h1 with h1
  subst h1 h2
  have h3:(k+1)*size<=n*size:=Nat.mul_le_mul_right _ hk
  have h4:n*size<=cap*size:=Nat.mul_le_mul_right _ hn
  rw[Nat.add_mul,Nat.one_mul]at h3
  generalize k*size=a at *
  obtain⟨N,hN⟩:∃N,n*size=N:=⟨_,rfl⟩
  obtain⟨C,hC⟩:∃C,cap*size=C:=⟨_,rfl⟩
  rw[hN]at hx h3 h4 ht
  rw[hC]at hs h4
  have hP:(cur.toList.take a).length=a:=by rw[List.length_take,Array.length_toList];omega
  have hO:((cur.toList.drop a).take size).length=vs.length:=by rw[List.length_take,List.length_drop,Array.length_toList];omega
  have e1:(cur.toList.take a++((cur.toList.drop a).take size++cur.toList.drop (a+size))).toArray=cur:=by
   rw[←List.drop_drop,List.take_append_drop,List.take_append_drop]
  have h5:=kw vs (cur.toList.take a) ((cur.toList.drop a).take size) (cur.toList.drop (a+size)) hO
  rw[hP,e1]at h5
  refine⟨?_,.inr ⟨g,cap,putAt cur a vs,rfl,hb,cO _ _ _ _ _ _ _ hh,hn,hm,by rw[fP,hC];exact hs,?_⟩⟩
  ·rw[hN]
   simp only[List.length_append,List.length_take,List.length_drop,hv,hx];omega
  ·rw[h5,hN,←ht]
   simp only[List.take_append,hP,hv]
   rw[List.take_take,List.take_take,List.drop_take,Nat.min_eq_left (by omega:a<=N),Nat.min_eq_right (by omega:a<=N),List.take_of_length_le (by rw[hv];omega:vs.length<=N-a),show N-a-size=N-(a+size) by omega]
theorem mM {α:Type} (f:α->List Value) (size:Nat) (hf:∀a,(f a).length=size):∀(l:List α) (k:Nat) (t:α),k<l.length->(l.set k t).flatMap f=(l.flatMap f).take (k*size)++(f t++(l.flatMap f).drop (k*size+size))
 | [],k,t,h=>by cases h
 | a::l,0,t,_=>by
  have h1:(f a++l.flatMap f).drop size=l.flatMap f:=by rw[←hf a];exact List.drop_left
  simp[h1]
 | a::l,k+1,t,h=>by
  have ih:=mM f size hf l k t (by simpa using h)
  rw[List.set_cons_succ,List.flatMap_cons,ih,List.flatMap_cons,Nat.add_mul,Nat.one_mul]
  have h1:(f a++l.flatMap f).take (k*size+size)=f a++(l.flatMap f).take (k*size):=by
   rw[List.take_append,hf a,List.take_of_length_le (by rw[hf a];omega),Nat.add_sub_cancel]
  have h2:(f a++l.flatMap f).drop (k*size+size+size)=(l.flatMap f).drop (k*size+size):=by
   rw[List.drop_append,hf a,List.drop_eq_nil_of_le (by rw[hf a];omega),Nat.add_sub_cancel,List.nil_append]
  rw[h1,h2,List.append_assoc]
theorem nY {e T:TypeId} {w:World} {b o:Nat} {vs:List Value} {cur:Array Value} {fr:Nat × Nat} (hb:w.heap[b]?=some (.cells cur T fr)) (hT:T≠e):KeepT e w (w.setCells b o vs):=λg c f x=>by
 rw[cA (λh=>by
  subst h
  rw[hb]at x
  injection x with x;injection x with _ x _;exact hT x)]
 exact x
theorem na {w:World} {base n:Nat} {e:TypeId} {size:Nat} {v:Value} {xs:List Value} (h:w.ownsRow base e size v n xs) (hn:0<n):∃g cap cur,v=.slice (some ⟨g,0,none⟩) n cap/\base<=g/\n<=cap/\w.heap[g]?=some (.cells cur e (0,0))/\cur.size=cap*size:=by
 rcases h.2 with ⟨_,h0⟩|⟨g,cap,cur,rfl,hb,hh,h1,_,hs,_⟩
 ·omega
 ·exact⟨g,cap,cur,rfl,hb,h1,hh,hs⟩
theorem uM:(Tryz.prog.info? 4).map (λi=>(i.zero,i.size,i.bytes))=some (some (.bool false),1,1):=by kernel_rfl
def wV (vars:List ByteArray) (base n:Nat) (e:Pr) (x:Sl) (t:Tm) (w:World) (r:Ending) (w':World):Prop:=
 ∃va vb b,r=.returned (.tuple #[va,vb,.bool b])/\Below w.heap.size w w'/\b=(rb1 vars e x t).isSome/\∀e',rb1 vars e x t=some e'->w'.ownsRow base 62 4 va n (e'.1.flatMap tmC)/\w'.ownsRow base 4 1 vb n (e'.2.map Value.bool)
theorem oA {vars:List ByteArray} {base n:Nat} {e:Pr} {x:Sl} {t:Tm} {w w':World} {va vb:Value} {b:Bool} (hb:Below w.heap.size w w') (h:rb1 vars e x t=if b=true then some e else none) (h1:w.ownsRow base 62 4 va n (e.1.flatMap tmC)) (h2:w.ownsRow base 4 1 vb n (e.2.map Value.bool)):wV vars base n e x t w (.returned (.tuple #[va,vb,.bool b])) w':=by
 refine⟨va,vb,b,rfl,hb,by rw[h];cases b<;>rfl,λe' he=>?_⟩
 rw[h]at he
 cases b
 ·cases he
 ·injection he with he
  subst he
  exact⟨own_below h1 hb (Nat.le_refl _),own_below h2 hb (Nat.le_refl _)⟩
theorem yC:(Tryz.prog.info? 62).map (·.size)=some 4:=by kernel_rfl
theorem kl {w:World} {ops:Array Oper} {rest:List Oper} {op:Oper} {a:Act} {Q:Exit->Act->World->Prop} (hgd:op.guard=none) (x y:Operand) (ho:op.op=.store 62 x y)
  (g k:Nat) (t:Tm) (hx:a.eval x=.pointer (some ⟨g,k*4,none⟩)) (hy:a.eval y=.agg #[.int .i64 t.k,.string t.x,.string t.l,.string t.y]) (ht:w.there g (k*4) 4)
  (h:wpList Tryz.prog ops Q rest (a.put op.dst undef) (w.setCells g (k*4) [.int .i64 t.k,.string t.x,.string t.l,.string t.y])):wpList Tryz.prog ops Q (op::rest) a w:=
 wpList_store_mid hgd 62 x y ho g (k*4) #[.int .i64 t.k,.string t.x,.string t.l,.string t.y] hx hy ht yC (by simp[Value.oneCell']) h
def Gz (p:Prop):Prop:=p
theorem J3 {p:Prop} (h:Gz p):p:=h
theorem rl (vars:List ByteArray) (row:List Tm) (known:List Bool) (x:Sl) (t:Tm) (A B D:Option Addr) (n cv c d base:Nat) (w:World) (hn:vars.length=n) (hln:n<=100000) (hx:x.v.toList.isEmpty=false->x.v∈vars) (hbs:base<=w.heap.size) (hv:Rd w A (vars.map Value.string)) (hB:w.ownsRow base 62 4 (.slice B n c) n (row.flatMap tmC)) (hD:w.ownsRow base 4 1 (.slice D n d) n (known.map Value.bool)) :
  Calls Tryz.prog 54 #[.slice A n cv,.slice B n c,.slice D n d,.agg #[.string x.v,.int .i64 x.t.k,.string x.t.x,.string x.t.l,.string x.t.y],.agg #[.int .i64 t.k,.string t.x,.string t.l,.string t.y]] w (wV vars base n (row,known) x t w):=by
 obtain⟨v,u⟩:=x
 obtain⟨W,hW⟩:∃W:World,(w.alloc (.cells #[.string v,.int .i64 u.k,.string u.x,.string u.l,.string u.y] 70)).alloc (.cells #[.int .i64 t.k,.string t.x,.string t.l,.string t.y] 62)=W:=⟨_,rfl⟩
 have hB0:Below w.heap.size w W:=by rw[←hW];exact blw
 obtain⟨s0,s1,s2,s3,s4⟩:_/\_/\_/\_/\_:=cells5 (W:=W) (b:=w.heap.size) (by rw[←hW];exact aL _ _ _)
 obtain⟨t0,t1,t2,t3⟩:_/\_/\_/\_:=wM (W:=W) (b:=w.heap.size+1) (by rw[←hW];exact av _ _ _)
 obtain⟨R,hR⟩:∃R,wV vars base n (row,known) ⟨v,u⟩ t w=R:=⟨_,rfl⟩
 rw[hR]
 have hrl:row.length=n:=by
  have:=hB.1
  rw[tm_len]at this;omega
 have hkl:known.length=n:=by
  have:=hD.1
  rw[List.length_map]at this;omega
 have HW:=Lib.hid hW
 have HB0:=Lib.hid hB0
 simp only at hx ⊢
 cases he:v.toList.isEmpty
 ·have hm:=hx he
  have hat:=K2 vars v A cv n W hn (by omega) (hv.later hB0)
  obtain⟨k,hk⟩:∃k:Nat,Lib.idxOfS vars v=(k:Int):=⟨(Lib.idxOfS vars v).toNat,by have:=(Lib.idxOfS_nonneg_iff vars v).2 hm;omega⟩
  have hvk:=fU hm
  have hkn:k<n:=by
   have:=(List.getElem?_eq_some_iff.1 hvk).1
   rw[hk]at this;omega
  obtain⟨b0,hb0⟩:∃b0,known[k]?=some b0:=⟨_,List.getElem?_eq_getElem (by omega)⟩
  obtain⟨y,hy⟩:∃y,row[k]?=some y:=⟨_,List.getElem?_eq_getElem (by omega)⟩
  have hrb:rb1 vars (row,known) ⟨v,u⟩ t=if b0=true then (if y=t then some (row,known) else none) else some (row.set k t,known.set k true):=by
   unfold rb1
   rw[if_neg (by rw[he];decide)]
   simp only[hk,Int.toNat_natCast,hb0,hy,Option.some.injEq]
  rw[hk]at hat
  obtain⟨D',d',e4,_,hrD⟩:=own_slice (own_below hD hB0 (Nat.le_refl _))
  injection e4 with e4 _ e5
  subst e4 e5
  obtain⟨g2,o2,rfl,hcb⟩:=hrD.at_ (j:=k) (u:=.bool b0) (by rw[List.getElem?_map,hb0];rfl)
  cases b0 with
  | true =>
   obtain⟨B',c',e6,_,hrB⟩:=own_slice (own_below hB hB0 (Nat.le_refl _))
   injection e6 with e6 _ e7
   subst e6 e7
   obtain⟨g3,o3,rfl,a0,a1,a2,a3⟩:=(RdTs.of hrB).at4 hy
   have hF:∀w',Below w.heap.size w w'->R (.returned (.tuple #[.slice (some ⟨g3,o3,none⟩) n c,.slice (some ⟨g2,o2,none⟩) n d,.bool (az y t)])) w':=by
    intro w' hb
    rw[←hR]
    refine oA hb ?_ hB hD
    rw[hrb,if_pos rfl]
    by_cases hs:y=t
    ·rw[if_pos hs,if_pos (aw.2 hs)]
    ·rw[if_neg hs,if_neg (λh=>hs (aw.1 h))]
   have HF:=Lib.hid hF
   have heo:=λW=>dH y t W
   have p0:=λd os=>ac a0 (below_regrown W d os)
   have p1:=λd os=>ac a1 (below_regrown W d os)
   have p2:=λd os=>ac a2 (below_regrown W d os)
   have p3:=λd os=>ac a3 (below_regrown W d os)
   have q0:=λd os=>ac t0 (below_regrown W d os)
   have q1:=λd os=>ac t1 (below_regrown W d os)
   have q2:=λd os=>ac t2 (below_regrown W d os)
   have q3:=λd os=>ac t3 (below_regrown W d os)
   generalize az y t=q at *
   clear hn hx hv hB hD hW hB0 hR hF hrl hkl hm hvk hk hb0 hy hrb hrD hrB a0 a1 a2 a3 t0 t1 t2 t3 s1 s2 s3 s4
   go_enter Tryz.func54,Tryz.ntmps54
   go_upto_region 3 with fail
   simp only[HW.out]
   go_wp2_with (go_at_call 108;refine hat.mono ?_;rintro e w2 ⟨rfl,rfl⟩)
   refine wrq ?_;(repeat (any_goals (go_big_quiet_step ((fail)))));all_goals (refine wqn ?_;intro d9 os9)
   have kq:=below_regrown W d9 os9
   clear p0 p1 p2 p3 q0 q1 q2 q3
   generalize Sort.grow (redrawn W d9) os9=w3 at *
   go_wp2
   exact HF.out _ (aa HB0.out kq)
  | false =>
   have hBW:=own_below hB hB0 (Nat.le_refl _)
   obtain⟨B',c',e6,_,hrB⟩:=own_slice hBW
   injection e6 with e6 _ e7
   subst e6 e7
   have hF:∀(va vb:Value) (w':World),Below w.heap.size w w'->w'.ownsRow base 62 4 va n ((row.flatMap tmC).take (k*4)++(tmC t++(row.flatMap tmC).drop (k*4+4)))->w'.ownsRow base 4 1 vb n ((known.map Value.bool).take (k*1)++([Value.bool true]++(known.map Value.bool).drop (k*1+1)))->R (.returned (.tuple #[va,vb,.bool true])) w':=by
    intro va vb w' hb h1 h2
    rw[←hR]
    rw[←mM tmC 4 (λ_=>rfl) row k t (by omega)]at h1
    have h3:=mM (λb:Bool=>[Value.bool b]) 1 (λ_=>rfl) known k true (by omega)
    rw[←List.map_eq_flatMap,←List.map_eq_flatMap]at h3
    rw[←h3]at h2
    refine⟨va,vb,true,rfl,hb,by rw[hrb];rfl,λe' he=>?_⟩
    rw[hrb,if_neg (by decide)]at he
    injection he with he
    subst he
    exact⟨h1,h2⟩
   have HF:=Lib.hid hF
   have hal:Below W.heap.size W (W.alloc (.cells #[] 62)):=blw
   have ownE:=fa (w:=W) (base:=W.heap.size) (e:=62) (size:=4) (n:=0) (cs:=#[]) (Nat.le_refl _) rfl rfl (by decide)
   have hrE:=hrB.later hal
   have HD:=Lib.hid (And.intro hal (And.intro hrD (And.intro hrl hkl)))
   have hsW:base<=W.heap.size:=Nat.le_trans hbs hB0.size
   have HT:=Lib.hid (And.intro t0 (And.intro t1 (And.intro t2 t3)))
   clear hn hx hv hB hD hW hB0 hR hF hm hvk hk hb0 hy hrb hrD hrB t0 t1 t2 t3 s1 s2 s3 s4 hBW hal hrl hkl
   go_enter Tryz.func54,Tryz.ntmps54
   go_upto_region 3 with fail
   simp only[HW.out]
   go_upto_region 8 with (first
    | (go_at_call 108;refine hat.mono ?_;rintro e w2 ⟨rfl,rfl⟩;clear hat)
    | (at_builtin;with_reducible refine ak rfl rfl Tryz.underlying58 iT rfl (by omega) rfl ownE rfl hrE (by rw[tm_len,HD.out.2.2.1]) (tm1 _) (by omega) (by omega) (by simp) ?_;intro v6 w6 own6 hb6 hg6;have hb66:=HD.out.1.trans hb6;have hal6:Below w6.heap.size w6 (w6.alloc (.cells #[] 4)):=blw;have hrF:=(HD.out.2.1.later hb66).later hal6;have ownF:=fa (w:=w6) (base:=w6.heap.size) (e:=4) (size:=1) (n:=0) (cs:=#[]) (Nat.le_refl _) rfl rfl (by decide);have HB6:=Lib.hid (And.intro hb66 (And.intro own6 hal6));clear ownE hrE own6 hb6 hg6 hb66 hal6)
    | (at_builtin;refine ak rfl rfl Tryz.underlying104 uM rfl (by omega) rfl ownF rfl hrF (by rw[List.length_map,HD.out.2.2.2];omega) (by intro z hz;obtain⟨b,_,rfl⟩:=List.mem_map.1 hz;rfl) (by omega) (by omega) (by simp) ?_;intro v7 w7 own7 hb7 hg7;have HB7:=Lib.hid (And.intro own7 (HB6.out.2.2.trans hb7));clear ownF hrF own7 hb7 hg7))
   have o6:=own_below HB6.out.2.1 HB7.out.2 (Nat.le_refl _)
   have o7:=HB7.out.1
   rw[Nat.zero_add,List.nil_append]at o6 o7
   obtain⟨g6,cap6,cur6,rfl,hg6,hc6,hh6,hs6⟩:=na o6 (by omega)
   obtain⟨g7,cap7,cur7,rfl,hg7,hc7,hh7,hs7⟩:=na o7 (by omega)
   have hbW:=aa HB6.out.1 HB7.out.2
   have x0:=ac HT.out.1 hbW
   have x1:=ac HT.out.2.1 hbW
   have x2:=ac HT.out.2.2.1 hbW
   have x3:=ac HT.out.2.2.2 hbW
   have hth:w7.there g6 (k*4) 4:=λj hj=>⟨by rw[Lib.cell_of_heap hh6,Array.getElem?_eq_getElem (by omega)];rfl,Lib.frozen_of_heap hh6 _⟩
   have p6:=xB (k:=k) (vs:=tmC t) o6 hkn rfl
   have q7:=own_keep o7 (nY (o:=k*4) (vs:=tmC t) hh6 (by decide))
   obtain⟨w8,hw8⟩:∃V:World,w7.setCells g6 (k*4) (tmC t)=V:=⟨_,rfl⟩
   have hb8:Below w.heap.size w w8:=by
    rw[←hw8]
    exact(aa HB0.out hbW).trans (below_setCells (Nat.le_trans HB0.out.size (by omega)) _ _ _)
   rw[hw8]at p6 q7
   have hs76:=HB6.out.1.size
   obtain⟨g9,cap9,cur9,e9,_,_,hh9,hs9⟩:=na q7 (by omega)
   injection e9 with e9 _ e10
   injection e9 with e9
   injection e9 with e9
   subst e9 e10
   obtain⟨z9,hz9⟩:∃z,cur9[k]?=some z:=⟨_,Array.getElem?_eq_getElem (by omega)⟩
   have f9:w8.frozen? ⟨g7,k,none⟩=false:=Lib.frozen_of_heap hh9 _
   have c9:w8.cell? ⟨g7,k,none⟩=some z9:=by rw[Lib.cell_of_heap hh9];exact hz9
   have p9:=xB (k:=k) (vs:=[Value.bool true]) q7 hkn rfl
   have q9:=own_keep p6 (nY (o:=k*1) (vs:=[Value.bool true]) hh9 (by decide))
   have hb9:Below w.heap.size w (w8.setCells g7 (k*1) [Value.bool true]):=hb8.trans (below_setCells (Nat.le_trans HB0.out.size (by omega)) _ _ _)
   have HP:=Lib.hid (HF.out _ _ _ hb9 (own_lower q9 hsW) (own_lower p9 (Nat.le_trans hsW hs76)))
   have HW8:=Lib.hid hw8
   clear o6 o7 hbW p6 q7 hb8 p9 q9 hb9 hh9 hh7 hh6 hz9 hw8
   go_wp2_with (with_reducible refine(?_:wpList _ _ _ (_::[]) _ _);with_reducible refine J3 ?_)
   unfold Gz
   with_reducible refine kl ?gd ?px ?py ?ho g6 k t ?hx ?hy ?ht ?hh
   case ho=>rfl
   case gd=>rfl
   case hx=>rfl
   case hy=>rfl
   case ht=>exact hth
   rw[show w7.setCells g6 (k*4) [.int .i64 t.k,.string t.x,.string t.l,.string t.y]=w8 from HW8.out]
   clear x0 x1 x2 x3
   go_wp2
   have h:=HP.out
   rw[World.setCells,World.setCells,Nat.mul_one]at h
   exact h
 ·have heu:=λW=>dH u t W
  have hF:∀w',Below w.heap.size w w'->R (.returned (.tuple #[.slice B n c,.slice D n d,.bool (az u t)])) w':=by
   intro w' hb
   rw[←hR]
   refine oA hb ?_ hB hD
   unfold rb1
   rw[if_pos (by exact he)]
   by_cases hs:u=t
   ·rw[if_pos hs,if_pos (aw.2 hs)]
   ·rw[if_neg hs,if_neg (λh=>hs (aw.1 h))]
  have HF:=Lib.hid hF
  have p0:=λd os=>ac s1 (below_regrown W d os)
  have p1:=λd os=>ac s2 (below_regrown W d os)
  have p2:=λd os=>ac s3 (below_regrown W d os)
  have p3:=λd os=>ac s4 (below_regrown W d os)
  have q0:=λd os=>ac t0 (below_regrown W d os)
  have q1:=λd os=>ac t1 (below_regrown W d os)
  have q2:=λd os=>ac t2 (below_regrown W d os)
  have q3:=λd os=>ac t3 (below_regrown W d os)
  generalize az u t=q at *
  clear hn hx hv hB hD hW hB0 hR hF hrl hkl t0 t1 t2 t3 s0 s1 s2 s3 s4
  go_enter Tryz.func54,Tryz.ntmps54
  go_upto_region 2 with fail
  simp only[HW.out]
  refine wrq ?_;(repeat (any_goals (go_big_quiet_step ((fail)))));all_goals (refine wqn ?_;intro d9 os9)
  have kq:=below_regrown W d9 os9
  clear p0 p1 p2 p3 q0 q1 q2 q3
  generalize Sort.grow (redrawn W d9) os9=w3 at *
  go_wp2
  exact HF.out _ (aa HB0.out kq)
end Go.Proofs.YtfcbghmbbjolcaaGreatDoor
