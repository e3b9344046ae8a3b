/- A map from texts to values, as it lies, known by what each t -/
import Derived.Test.YtoaemihcbmlkgaaGreatDoorJCloseM
namespace Go.Proofs.YtoaemihcbmlkgaaGreatDoor.Mv
open Go Go.RowKit Go.Maps Go.ChangeMaps
abbrev Fmv:=ByteArray->Option Value
def noF:Fmv:=λ_=>none
def putF (f:Fmv) (s:ByteArray) (v:Value):Fmv:=λx=>if x=s then some v else f x
def delF (f:Fmv) (s:ByteArray):Fmv:=λx=>if x=s then none else f x
def keyT (e:MapEntry):ByteArray:=match e.key with
 | .string s=>s
 | _=>.empty
def Txt (l:List MapEntry):Prop:=(∀e∈l,e.key=.string (keyT e))/\l.Pairwise λa b=>keyT a≠keyT b
def pairF:List MapEntry->ByteArray->Nat->Option (Nat × Value)
 | [],_,_=>none
 | e::l,s,j=>if keyT e=s then some (j,e.val) else pairF l s (j+1)
def findF (l:List MapEntry) (s:ByteArray):Option Value:=(pairF l s 0).map (·.2)
theorem pair_up (s:ByteArray):∀(l:List MapEntry) (j:Nat),pairF l s (j+1)=(pairF l s j).map λx=>(x.1+1,x.2)
 | [],_=>rfl
 | e::l,j=>by
  unfold pairF
  split
  ·rfl
  ·exact pair_up s l (j+1)
theorem findF_cons (e:MapEntry) (l:List MapEntry) (s:ByteArray):findF (e::l) s=if keyT e=s then some e.val else findF l s:=by
 unfold findF
 rw[pairF]
 split
 ·rfl
 ·rw[pair_up];cases pairF l s 0<;>rfl
theorem find_now (s:ByteArray):∀(l:List MapEntry) (j:Nat),(∀e∈l,e.key=.string (keyT e))->Instr.findNow .string (.string s) l j=some (pairF l s j)
 | [],_,_=>rfl
 | e::l,j,h=>by
  unfold Instr.findNow pairF
  rw[h e (by simp)]
  simp only[Instr.sameNow]
  by_cases hs:keyT e=s
  ·have hb:(s == keyT e)=true:=(MapKept.bytes_beq _ _).2 hs.symm
   rw[hb,if_pos hs]
  ·have hb:(s == keyT e)=false:=by
    cases hx:(s == keyT e)
    ·rfl
    ·exact absurd ((MapKept.bytes_beq _ _).1 hx).symm hs
   rw[hb,if_neg hs]
   exact find_now s l (j+1) λe he=>h e (List.mem_cons_of_mem _ he)
theorem pair_at {s:ByteArray}:∀{l:List MapEntry} {j i:Nat} {v:Value},pairF l s j=some (i,v)->∃k e,i=j+k/\l[k]?=some e/\keyT e=s/\e.val=v
 | [],_,_,_,h=>by cases h
 | e::l,j,i,v,h=>by
  unfold pairF at h
  split at h
  ·next hs =>
   injection h with h
   injection h with h1 h2
   exact⟨0,e,by omega,rfl,hs,h2⟩
  ·obtain⟨k,e',rfl,h1,h2,h3⟩:=pair_at h
   exact⟨k+1,e',by omega,h1,h2,h3⟩
theorem find_none {s:ByteArray}:∀{l:List MapEntry} {j:Nat},pairF l s j=none->∀e∈l,keyT e≠s
 | [],_,_,e,he=>by simp at he
 | a::l,j,h,e,he=>by
  unfold pairF at h
  split at h
  ·cases h
  ·next hs =>
   rw[List.mem_cons]at he
   rcases he with rfl|he
   ·exact hs
   ·exact find_none h e he
theorem find_push {s:ByteArray} {v:Value} {b:Nat} (t:ByteArray):∀{l:List MapEntry},(∀e∈l,keyT e≠s)->findF (l++[{key:=.string s,val:=v,born:=b}]) t=if t=s then some v else findF l t
 | [],_=>by
  rw[List.nil_append,findF_cons]
  show (if s=t then some v else findF [] t)=if t=s then some v else findF [] t
  by_cases h:t=s
  ·rw[if_pos h,if_pos h.symm]
  ·rw[if_neg h,if_neg (Ne.symm h)]
 | e::l,h=>by
  rw[List.cons_append,findF_cons,findF_cons,find_push t λe he=>h e (List.mem_cons_of_mem _ he)]
  have hs:=h e (by simp)
  by_cases ht:t=s
  ·subst ht
   rw[if_neg hs,if_pos rfl,if_pos rfl]
  ·rw[if_neg ht,if_neg ht]
theorem find_mod {s:ByteArray} {v:Value} (t:ByteArray):∀{l:List MapEntry} {k:Nat} {e:MapEntry},l.Pairwise (λa b=>keyT a≠keyT b)->l[k]?=some e->keyT e=s->findF (l.modify k λe=>{e with key:=.string s,val:=v}) t=if t=s then some v else findF l t
 | [],_,_,_,h,_=>by simp at h
 | a::l,0,e,_,h,hs=>by
  simp only[List.getElem?_cons_zero,Option.some.injEq]at h
  subst h
  rw[List.modify_zero_cons,findF_cons,findF_cons]
  show (if s=t then some v else findF l t)=_
  by_cases ht:t=s
  ·rw[if_pos ht,if_pos ht.symm]
  ·rw[if_neg ht,if_neg (Ne.symm ht),if_neg (by rw[hs];exact Ne.symm ht)]
 | a::l,k+1,e,hp,h,hs=>by
  have hc:=List.pairwise_cons.1 hp
  rw[List.modify_succ_cons,findF_cons,findF_cons,find_mod t hc.2 (by simpa using h) hs]
  have hm:e∈l:=List.mem_of_getElem? (by simpa using h:l[k]?=some e)
  have hne:keyT a≠s:=by rw[←hs];exact hc.1 e hm
  by_cases ht:t=s
  ·subst ht
   rw[if_neg hne,if_pos rfl,if_pos rfl]
  ·rw[if_neg ht,if_neg ht]
theorem find_gone {l:List MapEntry} {s:ByteArray} (h:∀e∈l,keyT e≠s):findF l s=none:=by
 induction l with
 | nil=>rfl
 | cons a l ih=>rw[findF_cons,if_neg (h a (by simp)),ih λe he=>h e (List.mem_cons_of_mem _ he)]
theorem find_erase {s:ByteArray} (t:ByteArray):∀{l:List MapEntry} {k:Nat} {e:MapEntry},l.Pairwise (λa b=>keyT a≠keyT b)->l[k]?=some e->keyT e=s->findF (l.eraseIdx k) t=if t=s then none else findF l t
 | [],_,_,_,h,_=>by simp at h
 | a::l,0,e,hp,h,hs=>by
  simp only[List.getElem?_cons_zero,Option.some.injEq]at h
  subst h
  have hc:=List.pairwise_cons.1 hp
  rw[List.eraseIdx_zero,List.tail_cons,findF_cons]
  by_cases ht:t=s
  ·subst ht
   rw[if_pos rfl]
   exact find_gone λe he=>by rw[←hs];exact(hc.1 e he).symm
  ·rw[if_neg ht,if_neg (by rw[hs];exact Ne.symm ht)]
 | a::l,k+1,e,hp,h,hs=>by
  have hc:=List.pairwise_cons.1 hp
  rw[List.eraseIdx_cons_succ,findF_cons,findF_cons,find_erase t hc.2 (by simpa using h) hs]
  have hm:e∈l:=List.mem_of_getElem? (by simpa using h:l[k]?=some e)
  have hne:keyT a≠s:=by rw[←hs];exact hc.1 e hm
  by_cases ht:t=s
  ·subst ht
   rw[if_neg hne,if_pos rfl,if_pos rfl]
  ·rw[if_neg ht,if_neg ht]
theorem txt_mod {l:List MapEntry} {s:ByteArray} {v:Value} {k:Nat} {e:MapEntry} (h:Txt l) (he:l[k]?=some e) (hs:keyT e=s):Txt (l.modify k λe=>{e with key:=.string s,val:=v}):=by
 refine⟨λx hx=>?_,?_⟩
 ·obtain⟨j,hj⟩:=List.mem_iff_getElem?.1 hx
  rw[List.getElem?_modify]at hj
  split at hj
  ·obtain⟨y,hy,rfl⟩:=Option.map_eq_some_iff.1 hj;rfl
  ·obtain⟨y,hy,rfl⟩:=Option.map_eq_some_iff.1 hj
   exact h.1 _ (List.mem_of_getElem? hy)
 ·rw[List.pairwise_iff_getElem]
  intro i j hi hj hij
  have hp:=List.pairwise_iff_getElem.1 h.2 i j (by simpa using hi) (by simpa using hj) hij
  have key:∀(n:Nat) (hn:n<(l.modify k λe=>{e with key:=.string s,val:=v}).length),keyT (l.modify k λe=>{e with key:=.string s,val:=v})[n]=keyT (l[n]'(by simpa using hn)):=by
   intro n hn
   rw[List.getElem_modify]
   split
   ·next hk =>
    subst hk
    have:l[k]'(by simpa using hn)=e:=(List.getElem?_eq_some_iff.1 he).2
    rw[this,hs];rfl
   ·rfl
  rw[key,key];exact hp
theorem txt_push {l:List MapEntry} {s:ByteArray} {v:Value} {b:Nat} (h:Txt l) (hn:∀e∈l,keyT e≠s):Txt (l++[{key:=.string s,val:=v,born:=b}]):=by
 refine⟨λx hx=>?_,?_⟩
 ·rw[List.mem_append,List.mem_singleton]at hx
  rcases hx with hx|rfl
  ·exact h.1 x hx
  ·rfl
 ·rw[List.pairwise_append]
  refine⟨h.2,by simp,λa ha b hb=>?_⟩
  rw[List.mem_singleton]at hb
  subst hb
  exact hn a ha
theorem txt_erase {l:List MapEntry} (h:Txt l) (k:Nat):Txt (l.eraseIdx k):=
 ⟨λx hx=>h.1 x (List.mem_of_mem_eraseIdx hx),h.2.sublist (List.eraseIdx_sublist l k)⟩
def FdOf (w:World) (r:Nat) (f:Fmv):Prop:=∃es clock,w.heap[r]?=some (.map es clock)/\Txt es.toList/\∀s,findF es.toList s=f s
theorem set_at {w:World} {r:Nat} (h:r<w.heap.size) (o:Obj):({w with heap:=w.heap.setIfInBounds r o}:World).heap[r]?=some o:=by simp[h]
theorem lt_of_fd {w:World} {r:Nat} {f:Fmv} (h:FdOf w r f):r<w.heap.size:=by
 obtain⟨es,c,h,_⟩:=h
 exact(Array.getElem?_eq_some_iff.1 h).1
theorem FdOf.on {w w':World} {r:Nat} {f:Fmv} (h:FdOf w r f) (hb:Below w.heap.size w w'):FdOf w' r f:=by
 have hl:=lt_of_fd h
 obtain⟨es,c,h,h2⟩:=h
 exact⟨es,c,by rw[hb.block r hl];exact h,h2⟩
theorem FdOf.same {w w':World} {r:Nat} {f:Fmv} (h:FdOf w r f) (hb:w'.heap[r]?=w.heap[r]?):FdOf w' r f:=by
 obtain⟨es,c,h,h2⟩:=h
 exact⟨es,c,by rw[hb];exact h,h2⟩
theorem FdOf.new (w:World):FdOf (w.alloc (.map #[] 0)) w.heap.size noF:=⟨#[],0,heap_alloc_new _ _,⟨λe he=>by simp at he,List.Pairwise.nil⟩,λ_=>rfl⟩
theorem set_grown (w:World) (r:Nat) (o:Obj):w.grownBy {w with heap:=w.heap.setIfInBounds r o} (some r):=
 ⟨rfl,rfl,rfl,by simp,λk _ hne=>Array.getElem?_setIfInBounds_ne (λe:r=k=>hne (congrArg some e.symm))⟩
theorem keyStays (s:ByteArray) (w:World) {P:Program}:(Instr.keyThatStays (.string s) (.string s)).run P w=.ok (.string s) w:=by
 have h:Instr.sameBits 10000 (.string s) (.string s)=true:=(MapKept.bytes_beq s s).2 rfl
 unfold Instr.keyThatStays
 rw[if_pos h];rfl
variable {P:Program} {T K E:TypeId}
theorem run_look (hT:P.underlying T=some (.map K E)) (hK:P.underlying K=some .string) {w:World} {z:Value} (hz:(zeroValue E).run P w=.ok z w)
  {r:Nat} {f:Fmv} (h:FdOf w r f) (s:ByteArray):(Instr.lookup T (.map (some r)) (.string s) false).run P w=.ok ((f s).getD z) w:=by
 obtain⟨es,c,h,ht,hf⟩:=h
 have hc:(Instr.checkKey es.isEmpty 10000 K (.string s)).run P w=.ok () w:=MapKept.run_checkKey hK (show MapKept.IsKey .string (.string s) from trivial) _ 9999
 have hq:(Instr.findKey K (.string s) es.toList).run P w=.ok (pairF es.toList s 0) w:=MapKept.run_findKey hK (find_now s es.toList 0 ht.1)
 have hg:(getObj r).run P w=.ok (.map es c) w:=MapKept.run_getObj_map h
 rw[←hf s]
 unfold Instr.lookup findF
 simp only[Sem.run_bind,run_underlying hT,Result.andThen,hg,Sem.run_pure,hc,hq]
 cases hi:pairF es.toList s 0 with
 | none=>simp[hz]
 | some i=>simp
theorem run_look2 (hT:P.underlying T=some (.map K E)) (hK:P.underlying K=some .string) {w:World} {z:Value} (hz:(zeroValue E).run P w=.ok z w)
  {r:Nat} {f:Fmv} (h:FdOf w r f) (s:ByteArray):(Instr.lookup T (.map (some r)) (.string s) true).run P w=.ok (.tuple #[(f s).getD z,.bool (f s).isSome]) w:=by
 obtain⟨es,c,h,ht,hf⟩:=h
 have hc:(Instr.checkKey es.isEmpty 10000 K (.string s)).run P w=.ok () w:=MapKept.run_checkKey hK (show MapKept.IsKey .string (.string s) from trivial) _ 9999
 have hq:(Instr.findKey K (.string s) es.toList).run P w=.ok (pairF es.toList s 0) w:=MapKept.run_findKey hK (find_now s es.toList 0 ht.1)
 have hg:(getObj r).run P w=.ok (.map es c) w:=MapKept.run_getObj_map h
 rw[←hf s]
 unfold Instr.lookup findF
 simp only[Sem.run_bind,run_underlying hT,Result.andThen,hg,Sem.run_pure,hc,hq]
 cases hi:pairF es.toList s 0 with
 | none=>simp[hz]
 | some i=>simp
theorem run_put (hT:P.underlying T=some (.map K E)) (hK:P.underlying K=some .string) {w:World} {r:Nat} {f:Fmv} (h:FdOf w r f) (s:ByteArray) (v:Value) :
  ∃w',(Instr.mapUpdate T (.map (some r)) (.string s) v).run P w=.ok () w'/\FdOf w' r (putF f s v)/\w.grownBy w' (some r):=by
 obtain⟨es,c,h,ht,hf⟩:=h
 have hlt:r<w.heap.size:=(Array.getElem?_eq_some_iff.1 h).1
 have hc:(Instr.checkKey false 10000 K (.string s)).run P w=.ok () w:=MapKept.run_checkKey hK (show MapKept.IsKey .string (.string s) from trivial) _ 9999
 have hq:(Instr.findKey K (.string s) es.toList).run P w=.ok (pairF es.toList s 0) w:=MapKept.run_findKey hK (find_now s es.toList 0 ht.1)
 have hg:(getObj r).run P w=.ok (.map es c) w:=MapKept.run_getObj_map h
 cases hi:pairF es.toList s 0 with
 | none =>
  refine⟨_,?_,?_,set_grown w r (.map (es.push {key:=.string s,val:=v,born:=c}) (c+1))⟩
  ·unfold Instr.mapUpdate
   simp only[Sem.run_bind,run_underlying hT,Result.andThen,hg,hc,hq,hi,MapKept.run_setObj_map _ h]
  ·refine⟨_,_,set_at hlt _,?_,λt=>?_⟩
   ·rw[Array.toList_push];exact txt_push ht (find_none hi)
   ·rw[Array.toList_push,find_push t (find_none hi),hf t];rfl
 | some iv =>
  obtain⟨i,v0⟩:=iv
  obtain⟨k,e,hk,hat,hs,_⟩:=pair_at hi
  rw[Nat.zero_add]at hk
  subst hk
  have hky:((es[i]?).map (·.key)).getD (.string s)=.string s:=by
   rw[←Array.getElem?_toList,hat,Option.map_some,Option.getD_some,ht.1 e (List.mem_of_getElem? hat),hs]
  refine⟨_,?_,?_,set_grown w r (.map (es.modify i λe=>{e with key:=.string s,val:=v}) c)⟩
  ·unfold Instr.mapUpdate
   simp only[Sem.run_bind,run_underlying hT,Result.andThen,hg,hc,hq,hi,hky,keyStays,MapKept.run_setObj_map _ h]
  ·refine⟨_,_,set_at hlt _,?_,λt=>?_⟩
   ·rw[Array.toList_modify];exact txt_mod ht hat hs
   ·rw[Array.toList_modify,find_mod t ht.2 hat hs,hf t];rfl
theorem run_del (hT:P.underlying T=some (.map K E)) (hK:P.underlying K=some .string) {w:World} {r:Nat} {f:Fmv} (h:FdOf w r f) (s:ByteArray) (t ty:TypeId) :
  ∃w',(Builtin.delete_ #[T,t] ty #[.map (some r),.string s]).run P w=.ok (.tuple #[]) w'/\FdOf w' r (delF f s)/\w.grownBy w' (some r):=by
 obtain⟨es,c,h,ht,hf⟩:=h
 have hlt:r<w.heap.size:=(Array.getElem?_eq_some_iff.1 h).1
 have hc:(Instr.checkKey es.isEmpty 10000 K (.string s)).run P w=.ok () w:=MapKept.run_checkKey hK (show MapKept.IsKey .string (.string s) from trivial) _ 9999
 have hq:(Instr.findKey K (.string s) es.toList).run P w=.ok (pairF es.toList s 0) w:=MapKept.run_findKey hK (find_now s es.toList 0 ht.1)
 have hg:(getObj r).run P w=.ok (.map es c) w:=MapKept.run_getObj_map h
 cases hi:pairF es.toList s 0 with
 | none =>
  refine⟨_,?_,?_,set_grown w r (.map es c)⟩
  ·unfold Builtin.delete_
   simp[Sem.run_bind,run_underlying hT,Result.andThen,hg,hc,hq,hi,MapKept.run_setObj_map _ h]
  ·refine⟨_,_,set_at hlt _,ht,λt=>?_⟩
   unfold delF
   split
   ·next hts=>subst hts;unfold findF;rw[hi];rfl
   ·exact hf t
 | some iv =>
  obtain⟨i,v0⟩:=iv
  obtain⟨k,e,hk,hat,hs,_⟩:=pair_at hi
  rw[Nat.zero_add]at hk
  subst hk
  refine⟨_,?_,?_,set_grown w r (.map (es.eraseIdxIfInBounds i) c)⟩
  ·unfold Builtin.delete_
   simp[Sem.run_bind,run_underlying hT,Result.andThen,hg,hc,hq,hi,MapKept.run_setObj_map _ h]
  ·have hl:(es.eraseIdxIfInBounds i).toList=es.toList.eraseIdx i:=by
    have:i<es.size:=by simpa using(List.getElem?_eq_some_iff.1 hat).1
    unfold Array.eraseIdxIfInBounds
    rw[dif_pos this,Array.toList_eraseIdx]
   refine⟨_,_,set_at hlt _,?_,λt=>?_⟩
   ·rw[hl];exact txt_erase ht i
   ·rw[hl,find_erase t ht.2 hat hs,hf t];rfl
theorem wpList_put_fd {w:World} {ops:Array Oper} {rest:List Oper} {o:Oper} {a:Act} {Q:Exit->Act->World->Prop}
  (hgd:o.guard=none) (mp x v:Operand) (T:TypeId) (hop:o.op=Op.mapUpdate T mp x v) {K E:TypeId} (hT:P.underlying T=some (.map K E)) (hK:P.underlying K=some .string)
  {r:Nat} {f:Fmv} (hm:a.eval mp=.map (some r)) (h:FdOf w r f) (s:ByteArray) (u:Value) (hx:a.eval x=.string s) (hv:a.eval v=u)
  (hQ:∀w',FdOf w' r (putF f s u)->w.grownBy w' (some r)->wpList P ops Q rest (a.put o.dst undef) w'):wpList P ops Q (o::rest) a w:=by
 refine wpList_plain hgd λK' hK'=>?_
 obtain⟨w',hrun,h1,h2⟩:=run_put (P:=P) hT hK h s u
 unfold Oper.wp
 simp[execOp,hop,hm,hx,hv,hrun,Result.andThen]
 exact hK' _ _ (hQ _ h1 h2)
theorem wpList_del_fd {w:World} {ops:Array Oper} {rest:List Oper} {o:Oper} {a:Act} {Q:Exit->Act->World->Prop}
  (hgd:o.guard=none) (mp x:Operand) (T t:TypeId) (hop:o.op=Op.call {callee:=Callee.builtin Builtin.delete,args:=#[mp,x],argTypes:=#[T,t]}) {K E:TypeId} (hT:P.underlying T=some (.map K E)) (hK:P.underlying K=some .string)
  {r:Nat} {f:Fmv} (hm:a.eval mp=.map (some r)) (h:FdOf w r f) (s:ByteArray) (hx:a.eval x=.string s)
  (hQ:∀w',FdOf w' r (delF f s)->w.grownBy w' (some r)->wpList P ops Q rest (a.put o.dst (.tuple #[])) w'):wpList P ops Q (o::rest) a w:=by
 refine wpList_plain hgd λK' hK'=>?_
 obtain⟨w',hrun,h1,h2⟩:=run_del (P:=P) hT hK h s t o.type
 unfold Oper.wp
 simp[execOp,hop,resolve,invoke,builtin,hm,hx,hrun,Result.andThen]
 exact hK' _ _ (hQ _ h1 h2)
end Go.Proofs.YtoaemihcbmlkgaaGreatDoor.Mv
namespace Go.Proofs.YtoaemihcbmlkgaaGreatDoor
open Go Go.RowKit Um Fm Tx
theorem sameTm_iffT {a b:Tm}:sameTm a b=true↔a=b:=by
 obtain⟨k,x,l,y⟩:=a
 obtain⟨k',x',l',y'⟩:=b
 unfold sameTm
 simp only[Bool.and_eq_true,beq_iff_eq,Tm.mk.injEq,ByteArray.toList_eq]
 constructor
 ·rintro⟨⟨⟨h1,h2⟩,h3⟩,h4⟩
  exact⟨h1,ba_ext h2,ba_ext h3,ba_ext h4⟩
 ·rintro⟨rfl,rfl,rfl,rfl⟩
  exact⟨⟨⟨rfl,rfl⟩,rfl⟩,rfl⟩
instance decTm:DecidableEq Tm:=λ_ _=>decidable_of_iff _ sameTm_iffT
set_option maxRecDepth 100000 in
set_option maxHeartbeats 2000000 in
theorem run_eqTmT (a b:Tm) (W:World):(binOp .eql 26 (.agg #[.int .i64 a.k,.string a.x,.string a.l,.string a.y]) (.agg #[.int .i64 b.k,.string b.x,.string b.l,.string b.y])).run Tryz.prog W=.ok (.bool (sameTm a b)) W:=by
 have h0:=Tryz.underlying26
 have h1:=Tryz.underlying24
 have h2:=Tryz.underlying9
 unfold sameTm
 simp only[go_sem,h0]
 cases e1:(a.k == b.k)
 ·simp[go_sem,h0,h1,h2,e1]
 cases e2:(a.x.toList == b.x.toList)
 ·simp[go_sem,h0,h1,h2,e1,e2]
 cases e3:(a.l.toList == b.l.toList)
 ·simp[go_sem,h0,h1,h2,e1,e2,e3]
 cases e4:(a.y.toList == b.y.toList)
 ·simp[go_sem,h0,h1,h2,e1,e2,e3,e4]
 simp[go_sem,h0,h1,h2,e1,e2,e3,e4]
end Go.Proofs.YtoaemihcbmlkgaaGreatDoor
namespace Go.Proofs.YtoaemihcbmlkgaaGreatDoor.Mt
open Go
def hasS (l:List ByteArray) (s:ByteArray):Bool:=decide (0<=Lib.idxOfS l s)
theorem hasS_iff {l:List ByteArray} {s:ByteArray}:hasS l s=true↔s∈l:=by unfold hasS;rw[decide_eq_true_iff,Lib.idxOfS_nonneg_iff]
theorem hasS_no {l:List ByteArray} {s:ByteArray}:hasS l s=false↔s ∉ l:=by unfold hasS;rw[decide_eq_false_iff_not,Lib.idxOfS_nonneg_iff]
def metN (l:List ByteArray) (s:ByteArray):List ByteArray:=if hasS l s then l else l++[s]
def metsN (l names:List ByteArray):List ByteArray:=names.foldl metN l
theorem metsN_nil (l:List ByteArray):metsN l []=l:=rfl
theorem metsN_cons (l:List ByteArray) (s:ByteArray) (r:List ByteArray):metsN l (s::r)=metsN (metN l s) r:=rfl
theorem metsN_app (l a b:List ByteArray):metsN l (a++b)=metsN (metsN l a) b:=List.foldl_append
theorem metN_has {l:List ByteArray} {s:ByteArray} (h:hasS l s=true):metN l s=l:=by unfold metN;rw[if_pos h]
theorem metN_new {l:List ByteArray} {s:ByteArray} (h:hasS l s=false):metN l s=l++[s]:=by unfold metN;rw[h];rfl
theorem metN_ext (l:List ByteArray) (s:ByteArray):∃r,metN l s=l++r/\r.length<=1:=by
 unfold metN;split
 ·exact⟨[],by simp,by simp⟩
 ·exact⟨[s],rfl,by simp⟩
theorem metsN_ext:∀(names l:List ByteArray),∃r,metsN l names=l++r/\r.length<=names.length
 | [],l=>⟨[],by simp[metsN_nil],by simp⟩
 | s::t,l=>by
  obtain⟨r1,h1,k1⟩:=metN_ext l s
  obtain⟨r2,h2,k2⟩:=metsN_ext t (metN l s)
  exact⟨r1++r2,by rw[metsN_cons,h2,h1,List.append_assoc],by simp;omega⟩
theorem metN_mem {l:List ByteArray} {s x:ByteArray}:x∈metN l s↔x∈l∨x=s:=by
 unfold metN;split
 ·rename_i h
  rw[hasS_iff]at h
  exact⟨.inl,λe=>e.elim id λe=>e ▸ h⟩
 ·simp
theorem metsN_mem {x:ByteArray}:∀(names l:List ByteArray),x∈metsN l names↔x∈l∨x∈names
 | [],l=>by simp[metsN_nil]
 | s::t,l=>by rw[metsN_cons,metsN_mem t,metN_mem,List.mem_cons,or_assoc]
theorem metN_nodup {l:List ByteArray} (s:ByteArray) (h:l.Nodup):(metN l s).Nodup:=by
 unfold metN;split
 ·exact h
 ·rename_i hs
  have:s ∉ l:=hasS_no.1 (by simpa using hs)
  rw[List.nodup_append]
  exact⟨h,by simp,λa ha b hb e=>by simp at hb;subst hb;subst e;exact this ha⟩
theorem metsN_nodup:∀(names:List ByteArray) {l:List ByteArray},l.Nodup->(metsN l names).Nodup
 | [],_,h=>h
 | _::t,_,h=>by rw[metsN_cons];exact metsN_nodup t (metN_nodup _ h)
theorem metsN_len (names l:List ByteArray):(metsN l names).length<=l.length+names.length:=by
 obtain⟨r,h,k⟩:=metsN_ext names l
 rw[h,List.length_append];omega
theorem metN_len (l:List ByteArray) (s:ByteArray):(metN l s).length<=l.length+1:=by
 obtain⟨r,h,k⟩:=metN_ext l s
 rw[h,List.length_append];omega
end Go.Proofs.YtoaemihcbmlkgaaGreatDoor.Mt
namespace Go.Proofs.YtoaemihcbmlkgaaGreatDoor
open Go Go.RowKit Um Fm Mt
def occS (l:List Sl):List ByteArray:=(l.map (·.v)).filter λv => !v.toList.isEmpty
def occP (p:Pat):List ByteArray:=occS [p.s,p.p,p.o]
def varsN (l:List Pat):List ByteArray:=metsN [] (l.flatMap occP)
theorem occS_cons (x:Sl) (l:List Sl):occS (x::l)=(if x.v.toList.isEmpty then [] else [x.v])++occS l:=by
 unfold occS
 rw[List.map_cons,List.filter_cons]
 cases x.v.toList.isEmpty<;>simp
theorem occS_len (l:List Sl):(occS l).length<=l.length:=by
 unfold occS
 exact Nat.le_trans (List.length_filter_le _ _) (by simp)
theorem occP_len (p:Pat):(occP p).length<=3:=occS_len _
theorem occ_len:∀l:List Pat,(l.flatMap occP).length<=3*l.length
 | []=>by simp
 | p::l=>by
  have h1:=occ_len l
  have h2:=occP_len p
  rw[List.flatMap_cons,List.length_append,List.length_cons];omega
theorem varsN_len (l:List Pat):(varsN l).length<=3*l.length:=by
 have h1:=metsN_len (l.flatMap occP) []
 have h2:=occ_len l
 unfold varsN
 rw[List.length_nil]at h1;omega
theorem varsN_mem {l:List Pat} {x:ByteArray}:x∈varsN l↔∃p∈l,x∈occP p:=by
 unfold varsN;rw[metsN_mem];simp
theorem occS_ne {l:List Sl} {x:ByteArray} (h:x∈occS l):x.toList.isEmpty=false:=by
 unfold occS at h
 simpa using(List.mem_filter.1 h).2
theorem varsN_ne {l:List Pat} {x:ByteArray} (h:x∈varsN l):x.toList.isEmpty=false:=by
 obtain⟨p,_,hp⟩:=varsN_mem.1 h
 exact occS_ne hp
theorem varsN_nodup (l:List Pat):(varsN l).Nodup:=metsN_nodup _ List.nodup_nil
def ptV:Pt->List ByteArray
 | ⟨0,_⟩=>[]
 | ⟨_+1,(k,s,_,_)⟩=>if k == 1 then [s] else []
def usedN (n:Nat) (l:List (ExT n)):List ByteArray:=metsN [] ((l.flatMap (preE n)).flatMap ptV)
theorem ptV_len (p:Pt):(ptV p).length<=1:=by
 obtain⟨n,x⟩:=p
 cases n with
 | zero=>simp[ptV]
 | succ n=>obtain⟨k,s,t,kids⟩:=x;simp only[ptV];split<;>simp
theorem occ_empty {x:Sl} (r:List Sl) (h:x.v.toList.isEmpty=true):occS (x::r)=occS r:=by rw[occS_cons,h];rfl
theorem occ_named {x:Sl} (r:List Sl) (h:x.v.toList.isEmpty=false):occS (x::r)=x.v::occS r:=by rw[occS_cons,h];rfl
theorem ptV_flat:∀l:List Pt,(l.flatMap ptV).length<=l.length
 | []=>by simp
 | p::l=>by have h1:=ptV_flat l;have h2:=ptV_len p;rw[List.flatMap_cons,List.length_append,List.length_cons];omega
theorem usedN_len (n:Nat) (l:List (ExT n)):(usedN n l).length<=(l.flatMap (preE n)).length:=by
 have h1:=metsN_len ((l.flatMap (preE n)).flatMap ptV) []
 have h2:=ptV_flat (l.flatMap (preE n))
 rw[List.length_nil]at h1
 unfold usedN;omega
end Go.Proofs.YtoaemihcbmlkgaaGreatDoor
namespace Go.Proofs.YtoaemihcbmlkgaaGreatDoor.Tx
open Go Go.RowKit Um Fm Lx
def ltTp (a b:Tp):Bool:=decide (cmpTp a b<0)
theorem tp_self (a:Tp):cmpTp a a=0:=ordF_Tp.self a
theorem tp_three (a b:Tp):cmpTp a b<0∨a=b∨cmpTp b a<0:=by
 have h1:=ordF_Tp.neg a b
 rcases Int.lt_trichotomy (cmpTp a b) 0 with h|h|h
 ·exact .inl h
 ·exact .inr (.inl (ordF_Tp.zero a b h))
 ·exact .inr (.inr (by omega))
theorem tp_irr {a b:Tp} (h:cmpTp a b<0):¬ cmpTp b a<0:=by have:=ordF_Tp.neg a b;omega
theorem tp_ne {a b:Tp} (h:cmpTp a b<0):a≠b:=by rintro rfl;rw[tp_self]at h;omega
def Rise (l:List Tp):Prop:=l.Pairwise λa b=>cmpTp a b<0
theorem rise_one:∀{a b:List Tp},Rise a->Rise b->(∀t,t∈a↔t∈b)->a=b
 | [],[],_,_,_=>rfl
 | [],y::b,_,_,h=>absurd ((h y).2 (by simp)) (by simp)
 | x::a,[],_,_,h=>absurd ((h x).1 (by simp)) (by simp)
 | x::a,y::b,ha,hb,h=>by
  unfold Rise at ha hb
  rw[List.pairwise_cons]at ha hb
  have hxy:x=y:=by
   rcases tp_three x y with h1|h1|h1
   ·have hx:=(h x).1 (by simp)
    rw[List.mem_cons]at hx
    rcases hx with rfl|hx
    ·rfl
    ·exact absurd h1 (tp_irr (hb.1 x hx))
   ·exact h1
   ·have hy:=(h y).2 (by simp)
    rw[List.mem_cons]at hy
    rcases hy with rfl|hy
    ·rfl
    ·exact absurd h1 (tp_irr (ha.1 y hy))
  subst hxy
  congr 1
  refine rise_one ha.2 hb.2 λt=>?_
  have ht:=h t
  rw[List.mem_cons,List.mem_cons]at ht
  constructor
  ·intro hm
   rcases ht.1 (.inr hm) with rfl|hm2
   ·exact absurd rfl (tp_ne (ha.1 t hm))
   ·exact hm2
  ·intro hm
   rcases ht.2 (.inr hm) with rfl|hm2
   ·exact absurd rfl (tp_ne (hb.1 t hm))
   ·exact hm2
def insTp:List Tp->Tp->List Tp
 | [],t=>[t]
 | x::r,t=>if cmpTp x t<0 then x::insTp r t else if cmpTp x t=0 then x::r else t::x::r
theorem ins_mem (t u:Tp):∀l:List Tp,u∈insTp l t↔u=t∨u∈l
 | []=>by simp[insTp]
 | x::r=>by
  rw[insTp]
  have ih:=ins_mem t u r
  split
  ·rw[List.mem_cons,ih,List.mem_cons]
   constructor
   ·rintro(h|h|h)
    ·exact .inr (.inl h)
    ·exact .inl h
    ·exact .inr (.inr h)
   ·rintro(h|h|h)
    ·exact .inr (.inl h)
    ·exact .inl h
    ·exact .inr (.inr h)
  ·split
   ·next h =>
    have:=ordF_Tp.zero _ _ h
    subst this
    rw[List.mem_cons]
    constructor
    ·exact λh=>.inr h
    ·rintro(h|h)
     ·exact .inl h
     ·exact h
   ·rw[List.mem_cons]
theorem ins_rise (t:Tp):∀l:List Tp,Rise l->Rise (insTp l t)
 | [],_=>by simp[insTp,Rise]
 | x::r,h=>by
  unfold Rise at h ⊢
  rw[insTp]
  have hc:=List.pairwise_cons.1 h
  split
  ·next h1 =>
   rw[List.pairwise_cons]
   refine⟨λu hu=>?_,ins_rise t r hc.2⟩
   rw[ins_mem]at hu
   rcases hu with rfl|hu
   ·exact h1
   ·exact hc.1 u hu
  ·split
   ·exact h
   ·next h1 h2 =>
    have h3:cmpTp t x<0:=by
     rcases tp_three x t with h4|h4|h4
     ·exact absurd h4 h1
     ·exact absurd (by rw[h4];exact tp_self t) h2
     ·exact h4
    rw[List.pairwise_cons]
    refine⟨λu hu=>?_,h⟩
    rw[List.mem_cons]at hu
    rcases hu with rfl|hu
    ·exact h3
    ·exact ordF_Tp.tr _ _ _ h3 (hc.1 u hu)
def setTp (l:List Tp):List Tp:=l.foldl insTp []
theorem fold_ins:∀(l out:List Tp),Rise out->Rise (l.foldl insTp out)/\∀u,u∈l.foldl insTp out↔u∈out∨u∈l
 | [],out,h=>⟨h,λu=>by simp⟩
 | t::l,out,h=>by
  obtain⟨h1,h2⟩:=fold_ins l (insTp out t) (ins_rise t out h)
  refine⟨h1,λu=>?_⟩
  rw[List.foldl_cons,h2,ins_mem,List.mem_cons]
  constructor
  ·rintro((h|h)|h)
   ·exact .inr (.inl h)
   ·exact .inl h
   ·exact .inr (.inr h)
  ·rintro(h|h|h)
   ·exact .inl (.inr h)
   ·exact .inl (.inl h)
   ·exact .inr h
theorem set_rise (l:List Tp):Rise (setTp l):=(fold_ins l [] (by simp[Rise])).1
theorem set_mem (l:List Tp) (u:Tp):u∈setTp l↔u∈l:=by
 have:=(fold_ins l [] (by simp[Rise])).2 u
 unfold setTp
 simpa using this
def compTp:List Tp->List Tp
 | []=>[]
 | [x]=>[x]
 | x::y::r=>if cmpTp x y=0 then compTp (y::r) else x::compTp (y::r)
theorem comp_mem (u:Tp):∀l:List Tp,u∈compTp l↔u∈l:=by
 intro l
 induction l using compTp.induct with
 | case1=>simp[compTp]
 | case2 x=>simp[compTp]
 | case3 x y r h ih =>
  rw[compTp,if_pos h,ih]
  have:=ordF_Tp.zero _ _ h
  subst this
  simp
 | case4 x y r h ih =>
  rw[compTp,if_neg h,List.mem_cons,ih,List.mem_cons (a:=u) (b:=x)]
theorem comp_rise:∀l:List Tp,l.Pairwise (λa b=>cmpTp a b<=0)->Rise (compTp l):=by
 intro l
 induction l using compTp.induct with
 | case1=>intro _;simp[compTp,Rise]
 | case2 x=>intro _;simp[compTp,Rise]
 | case3 x y r h ih =>
  intro hp
  rw[compTp,if_pos h]
  exact ih (List.pairwise_cons.1 hp).2
 | case4 x y r h ih =>
  intro hp
  have hc:=List.pairwise_cons.1 hp
  rw[compTp,if_neg h]
  unfold Rise
  rw[List.pairwise_cons]
  refine⟨λu hu=>?_,ih hc.2⟩
  rw[comp_mem]at hu
  have hxy:cmpTp x y<0:=by have:=hc.1 y (by simp);omega
  rw[List.mem_cons]at hu
  rcases hu with rfl|hu
  ·exact hxy
  ·have h2:=(List.pairwise_cons.1 hc.2).1 u hu
   rcases Int.lt_or_eq_of_le h2 with h3|h3
   ·exact ordF_Tp.tr _ _ _ hxy h3
   ·rw[←ordF_Tp.zero _ _ h3];exact hxy
theorem comp_set {l m:List Tp} (hm:∀u,u∈m↔u∈l) (hs:m.Pairwise λa b=>cmpTp a b<=0):compTp m=setTp l:=
 rise_one (comp_rise m hs) (set_rise l) λt=>by rw[comp_mem,set_mem,hm]
theorem comp_snoc (y x:Tp):∀l:List Tp,compTp (l++[y]++[x])=compTp (l++[y])++(if cmpTp y x=0 then [] else [x])
 | []=>by
  have e1:compTp ([]++[y]++[x])=if cmpTp y x=0 then [x] else y::[x]:=rfl
  rw[e1]
  by_cases h:cmpTp y x=0
  ·rw[if_pos h,if_pos h,ordF_Tp.zero _ _ h]
   rfl
  ·rw[if_neg h,if_neg h]
   rfl
 | [a]=>by
  have ih:=comp_snoc y x []
  have e1:compTp ([a]++[y]++[x])=if cmpTp a y=0 then compTp ([]++[y]++[x]) else a::compTp ([]++[y]++[x]):=rfl
  have e2:compTp ([a]++[y])=if cmpTp a y=0 then compTp ([]++[y]) else a::compTp ([]++[y]):=rfl
  rw[e1,e2,ih]
  by_cases h:cmpTp a y=0
  ·rw[if_pos h,if_pos h]
  ·rw[if_neg h,if_neg h]
   rfl
 | a::b::l=>by
  have ih:=comp_snoc y x (b::l)
  have e1:compTp (a::b::l++[y]++[x])=if cmpTp a b=0 then compTp (b::l++[y]++[x]) else a::compTp (b::l++[y]++[x]):=rfl
  have e2:compTp (a::b::l++[y])=if cmpTp a b=0 then compTp (b::l++[y]) else a::compTp (b::l++[y]):=rfl
  rw[e1,e2,ih]
  by_cases h:cmpTp a b=0
  ·rw[if_pos h,if_pos h]
  ·rw[if_neg h,if_neg h]
   rfl
theorem sort_pair (l:List Tp):(l.mergeSort λx y => !ltTp y x).Pairwise λa b=>cmpTp a b<=0:=by
 have h:=List.pairwise_mergeSort (le:=λx y => !ltTp y x) (λa b c h1 h2=>by
  unfold ltTp at h1 h2 ⊢
  simp only[Bool.not_eq_true',decide_eq_false_iff_not]at h1 h2 ⊢
  have n1:=ordF_Tp.neg a b;have n2:=ordF_Tp.neg b c;have n3:=ordF_Tp.neg a c
  have:=ordF_Tp.le (a:=a) (b:=b) (c:=c) (by omega) (by omega)
  omega) (λa b=>by
  unfold ltTp
  simp only[Bool.or_eq_true,Bool.not_eq_true',decide_eq_false_iff_not]
  have n1:=ordF_Tp.neg a b
  omega) l
 refine h.imp λ{a b} hab=>?_
 unfold ltTp at hab
 simp only[Bool.not_eq_true',decide_eq_false_iff_not]at hab
 have n1:=ordF_Tp.neg a b
 omega
theorem sort_mem (l:List Tp) (u:Tp):u∈(l.mergeSort λx y => !ltTp y x)↔u∈l:=List.mem_mergeSort
theorem set_prog (l:List Tp):compTp (l.mergeSort λx y => !ltTp y x)=setTp l:=comp_set (sort_mem l) (sort_pair l)
theorem ins_len (t:Tp):∀l:List Tp,(insTp l t).length<=l.length+1
 | []=>by simp[insTp]
 | x::r=>by
  rw[insTp]
  have:=ins_len t r
  split
  ·simp;omega
  ·split<;>simp
theorem set_len (l:List Tp):(setTp l).length<=l.length:=by
 have h:∀(l out:List Tp),(l.foldl insTp out).length<=out.length+l.length:=by
  intro l
  induction l with
  | nil=>intro out;exact Nat.le_refl _
  | cons t l ih =>
   intro out
   rw[List.foldl_cons]
   have h1:=ih (insTp out t)
   have h2:=ins_len t out
   rw[List.length_cons]
   omega
 have:=h l []
 simpa[setTp] using this
theorem comp_take {l:List Tp} {m:Nat} {y x:Tp} (hy:l[m]?=some y) (hx:l[m+1]?=some x):compTp (l.take (m+2))=compTp (l.take (m+1))++(if cmpTp y x=0 then [] else [x]):=by
 have e1:l.take (m+1)=l.take m++[y]:=by rw[List.take_add_one,hy];rfl
 have e2:l.take (m+2)=l.take m++[y]++[x]:=by rw[show m+2=(m+1)+1 by omega,List.take_add_one,hx,e1];rfl
 rw[e2,e1,comp_snoc]
theorem comp_first (l:List Tp):compTp (l.take 1)=l.take 1:=by
 cases l with
 | nil=>rfl
 | cons x r=>rfl
def rowTp (l out:List Tp):List Tp:=out++l.drop out.length
theorem row_set {l out:List Tp} {x:Tp} (h:out.length<l.length):(rowTp l out).set out.length x=rowTp l (out++[x]):=by
 unfold rowTp
 rw[List.set_append_right _ _ (Nat.le_refl _),Nat.sub_self,List.length_append,List.length_cons,List.length_nil,List.append_assoc,Nat.zero_add,List.drop_eq_getElem_cons h]
 rfl
theorem row_get {l out:List Tp} {j:Nat} (h:out.length<=j):(rowTp l out)[j]?=l[j]?:=by
 unfold rowTp
 rw[List.getElem?_append_right h,List.getElem?_drop]
 congr 1
 omega
theorem row_len {l out:List Tp} (h:out.length<=l.length):(rowTp l out).length=l.length:=by
 unfold rowTp
 rw[List.length_append,List.length_drop]
 omega
theorem row_take (l out:List Tp):(rowTp l out).take out.length=out:=by unfold rowTp;exact List.take_left' rfl
end Go.Proofs.YtoaemihcbmlkgaaGreatDoor.Tx
namespace Go.Proofs.YtoaemihcbmlkgaaGreatDoor
open Go Go.RowKit Um Fm Lx Tx
namespace Om
instance:Inhabited Tm:=⟨⟨0,.empty,.empty,.empty⟩⟩
def cmpRow:List Tm->List Tm->Int
 | [],[]=>0
 | [],_::_ => -1
 | _::_,[]=>1
 | a::l,b::m=>orZ (cmpTm a b) (cmpRow l m)
theorem orZ_neg (a b:Int):orZ (-a) (-b) = -orZ a b:=by
 unfold orZ
 by_cases h:a=0
 ·rw[if_pos (by omega),if_pos h]
 ·rw[if_neg (by omega),if_neg h]
theorem orZ_lt {a b:Int} (h:orZ a b<0):a<0∨a=0/\b<0:=by
 unfold orZ at h
 by_cases e:a=0
 ·rw[if_pos e]at h
  exact Or.inr ⟨e,h⟩
 ·rw[if_neg e]at h
  exact Or.inl h
theorem orZ_of_lt {a b:Int} (h:a<0):orZ a b<0:=by
 unfold orZ
 rw[if_neg (by omega)]
 exact h
theorem orZ_of_zero {a b:Int} (h:a=0):orZ a b=b:=by
 unfold orZ
 rw[if_pos h]
theorem orZ_zero {a b:Int} (h:orZ a b=0):a=0/\b=0:=by
 unfold orZ at h
 by_cases e:a=0
 ·rw[if_pos e]at h
  exact⟨e,h⟩
 ·rw[if_neg e]at h
  exact absurd h e
theorem orZ_rng {a b:Int} (h1 : -1<=a/\a<=1) (h2 : -1<=b/\b<=1) : -1<=orZ a b/\orZ a b<=1:=by
 unfold orZ
 by_cases e:a=0
 ·rw[if_pos e]
  exact h2
 ·rw[if_neg e]
  exact h1
theorem cmpRow_neg:∀a b:List Tm,cmpRow b a = -cmpRow a b
 | [],[]=>rfl
 | [],_::_=>rfl
 | _::_,[]=>rfl
 | a::l,b::m=>by
  show orZ (cmpTm b a) (cmpRow m l) = -orZ (cmpTm a b) (cmpRow l m)
  rw[cmpRow_neg l m,ordF_Tm.neg a b,orZ_neg]
theorem cmpRow_zero:∀a b:List Tm,cmpRow a b=0->a=b
 | [],[],_=>rfl
 | [],_::_,h=>by cases h
 | _::_,[],h=>by cases h
 | a::l,b::m,h=>by
  obtain⟨h1,h2⟩:=orZ_zero h
  rw[ordF_Tm.zero _ _ h1,cmpRow_zero l m h2]
theorem cmpRow_tr:∀a b c:List Tm,cmpRow a b<0->cmpRow b c<0->cmpRow a c<0
 | [],[],_,h,_=>by cases h
 | [],_::_,[],_,h=>by cases h
 | [],_::_,_::_,_,_=>by show (-1:Int)<0;decide
 | _::_,[],_,h,_=>by cases h
 | _::_,_::_,[],_,h=>by cases h
 | a::l,b::m,c::n,h,h'=>by
  show orZ (cmpTm a c) (cmpRow l n)<0
  rcases orZ_lt h with h1|⟨h1,h2⟩
  ·rcases orZ_lt h' with k1|⟨k1,k2⟩
   ·exact orZ_of_lt (ordF_Tm.tr _ _ _ h1 k1)
   ·rw[←ordF_Tm.zero _ _ k1]
    exact orZ_of_lt h1
  ·rcases orZ_lt h' with k1|⟨k1,k2⟩
   ·rw[ordF_Tm.zero _ _ h1]
    exact orZ_of_lt k1
   ·rw[orZ_of_zero (by rw[ordF_Tm.zero _ _ h1];exact k1)]
    exact cmpRow_tr l m n h2 k2
theorem cmpRow_rng:∀a b:List Tm,-1<=cmpRow a b/\cmpRow a b<=1
 | [],[]=>by decide
 | [],_::_=>by show (-1:Int) <= -1/\(-1:Int)<=1;decide
 | _::_,[]=>by show (-1:Int)<=1/\(1:Int)<=1;decide
 | a::l,b::m=>orZ_rng (ordF_Tm.rng a b) (cmpRow_rng l m)
theorem ordF_row:OrdF cmpRow:=⟨cmpRow_neg,cmpRow_zero,cmpRow_tr,cmpRow_rng⟩
def way (down:Bool) (n:Int):Int:=if down then -n else n
def cmpKeys:List (Nat × Bool)->List Tm->List Tm->Int
 | [],a,b=>cmpRow a b
 | k::ks,a,b=>orZ (way k.2 (cmpTm a[k.1]! b[k.1]!)) (cmpKeys ks a b)
theorem way_neg (d:Bool) (n:Int):way d (-n) = -way d n:=by cases d<;>simp[way]
theorem way_zero {d:Bool} {n:Int} (h:way d n=0):n=0:=by
 cases d with
 | false=>exact h
 | true =>
  have : -n=0:=h
  omega
theorem way_tr (d:Bool) {a b c:Tm} (h1:way d (cmpTm a b)<0) (h2:way d (cmpTm b c)<0):way d (cmpTm a c)<0:=by
 cases d with
 | false=>exact ordF_Tm.tr _ _ _ h1 h2
 | true =>
  have h1 : -cmpTm a b<0:=h1
  have h2 : -cmpTm b c<0:=h2
  show -cmpTm a c<0
  rw[←ordF_Tm.neg]at h1 h2 ⊢
  exact ordF_Tm.tr _ _ _ h2 h1
theorem ordF_keys:∀ks,OrdF (cmpKeys ks)
 | []=>ordF_row
 | k::ks=>{
  neg:=λa b=>by
   show orZ _ _ = -orZ _ _
   rw[(ordF_keys ks).neg a b,ordF_Tm.neg a[k.1]! b[k.1]!,way_neg,orZ_neg]
  zero:=λa b h=>(ordF_keys ks).zero a b (orZ_zero h).2
  tr:=λa b c h h'=>by
   show orZ (way k.2 (cmpTm a[k.1]! c[k.1]!)) (cmpKeys ks a c)<0
   rcases orZ_lt h with h1|⟨h1,h2⟩
   ·rcases orZ_lt h' with k1|⟨k1,k2⟩
    ·exact orZ_of_lt (way_tr _ h1 k1)
    ·rw[←ordF_Tm.zero _ _ (way_zero k1)]
     exact orZ_of_lt h1
   ·rcases orZ_lt h' with k1|⟨k1,k2⟩
    ·rw[ordF_Tm.zero _ _ (way_zero h1)]
     exact orZ_of_lt k1
    ·rw[orZ_of_zero (by rw[ordF_Tm.zero _ _ (way_zero h1)];exact k1)]
     exact(ordF_keys ks).tr a b c h2 k2
  rng:=λa b=>orZ_rng (by
   have:=ordF_Tm.rng a[k.1]! b[k.1]!
   cases hk:k.2 with
   | false=>exact this
   | true =>
    show -1 <= -cmpTm a[k.1]! b[k.1]! /\ -cmpTm a[k.1]! b[k.1]!<=1
    omega) ((ordF_keys ks).rng a b)}
def lessK (ks:List (Nat × Bool)) (a b:List Tm):Bool:=decide (cmpKeys ks a b<0)
theorem lessK_not {ks:List (Nat × Bool)} {a b:List Tm}:lessK ks a b=false↔cmpKeys ks b a<=0:=by
 unfold lessK
 rw[decide_eq_false_iff_not,(ordF_keys ks).neg b a]
 omega
theorem swo_K (ks:List (Nat × Bool)):Sort.SWO (lessK ks) where
 irrefl:=λx=>by
  rw[lessK_not,(ordF_keys ks).self x]
  exact Int.le_refl 0
 trans:=λx y z h1 h2=>decide_eq_true ((ordF_keys ks).tr x y z (of_decide_eq_true h1) (of_decide_eq_true h2))
 ntrans:=λx y z h1 h2=>by
  rw[lessK_not]at h1 h2 ⊢
  exact(ordF_keys ks).le h2 h1
theorem level_K {ks:List (Nat × Bool)} (x y:List Tm) (h1:lessK ks x y=false) (h2:lessK ks y x=false):x=y:=by
 rw[lessK_not]at h1 h2
 refine(ordF_keys ks).zero x y ?_
 rw[(ordF_keys ks).neg x y]at h1
 omega
def sortK (ks:List (Nat × Bool)) (l:List (List Tm)):List (List Tm):=l.mergeSort (λx y => !lessK ks y x)
theorem sorted_is {ks:List (Nat × Bool)} {d D:Array (List Tm)} (hP:Sort.PermIn 0 d.size d D) (hs:Sort.SortedIn (lessK ks) 0 d.size D) :
  D.toList=sortK ks d.toList:=
 Sort.sorted_unique_holds (swo_K ks) level_K d D hP hs
theorem sorted_list {ks:List (Nat × Bool)} {l m:List (List Tm)} (hp:m.Perm l) (hs:m.Pairwise λx y=>lessK ks y x=false):m=sortK ks l:=by
 have hl:=hp.length_eq
 have:=sorted_is (ks:=ks) (d:=l.toArray) (D:=m.toArray) ⟨by simpa using hl,λi hi=>by
  rcases hi with hi|hi
  ·omega
  ·have hi:l.length<=i:=by simpa using hi
   rw[getElem!_neg _ _ (by simp;omega),getElem!_neg _ _ (by simp;omega)],by
  have e1:(m.toArray.extract 0 l.toArray.size).toList=m:=by simp[←hl]
  have e2:(l.toArray.extract 0 l.toArray.size).toList=l:=by simp
  rw[e1,e2]
  exact hp⟩ (by
  intro i j _ hij hj
  have hj:j<m.length:=by
   rw[hl]
   simpa using hj
  rw[getElem!_pos _ i (by simp;omega),getElem!_pos _ j (by simp;omega)]
  exact List.pairwise_iff_getElem.1 hs i j (by omega) hj hij)
 simpa using this
end Om
end Go.Proofs.YtoaemihcbmlkgaaGreatDoor
