/- The program's package order, walked: a worker at a copy of a -/
import Derived.Test.YtfcbghmbbjolcaaGreatDoorJRegion7
import Derived.Deep.MidRow
import Derived.Lib.AppendIntMem
import Derived.Lib.ItoaLen
namespace Go.Proofs.YtfcbghmbbjolcaaGreatDoor
open Go Go.RowKit Fm Om
theorem bM {w:World} {b:Nat} {cur:Array Value} {T:TypeId} {fr:Nat × Nat} (h:w.heap[b]?=some (Obj.cells cur T fr)) (i:Nat) (v:Value):(w.setCell ⟨b,i,none⟩ v).heap[b]?=some (Obj.cells (cur.setIfInBounds i v) T fr):=by
 simp[World.setCell,Array.getElem?_modify,h]
theorem Gc (x y:ByteArray):(x.toList == y.toList)=decide (y=x):=by
 by_cases h:y=x
 ·subst h;simp
 ·simp only[h,decide_false];rw[Lib.bytes_beq_false_iff];exact λe=>h e.symm
theorem wg (l:List ByteArray) (x:ByteArray) (A:Option Addr) (c:Nat) (w:World) (hl:l.length<=281474976710656) (hr:Rd w A (l.map Value.string)) :
  Calls Tryz.prog 132 #[.slice A l.length c,.string x] w λe w'=>e=.returned (.int .i64 (Lib.idxOfS l x))/\w=w':=by
 go_enter Tryz.func132,Tryz.ntmps132
 go_wp2
 go_loop [8] (λi=>∃k:Nat,k<=l.length/\i=.int .i64 k/\Hid (Lib.idxOfS l x=Lib.idxFromS (l.drop k) x k)) (λi=>l.length-(intOf i).toNat)
 case atStart=>exact⟨0,by omega,rfl,rfl⟩
 case round =>
  obtain⟨k,hk,rfl,H⟩:=hrel
  by_cases hlt:k<l.length
  ·obtain⟨y,hx⟩:∃x,l[k]?=some x:=⟨_,List.getElem?_eq_getElem hlt⟩
   obtain⟨g,o,rfl,hcx⟩:=hr.at_ (j:=k) (u:=.string y) (by simp[hx])
   have hd:l.drop k=y::l.drop (k+1):=by
    rw[List.drop_eq_getElem_cons hlt]
    rw[List.getElem?_eq_getElem hlt]at hx
    injection hx with hx;rw[hx]
   have H2:Hid (Lib.idxOfS l x=if (x.toList == y.toList) then (k:Int) else Lib.idxFromS (l.drop (k+1)) x (k+1)):=by
    show Lib.idxOfS l x=_
    rw[H.out,hd,Lib.idxFromS,Gc];simp
   clear hx hd H hr
   cases hx0:(x.toList == y.toList)
   ·rw[hx0]at H2
    go_wp2
    go_round
    case rel=>exact⟨k+1,by omega,by go_num,H2⟩
    case measure=>simp[intOf];omega
   ·rw[hx0]at H2
    go_wp2
    go_ret
    exact⟨by rw[H2.out];rfl,rfl⟩
  ·have H2:Hid (Lib.idxOfS l x = -1):=by
    show Lib.idxOfS l x=_
    rw[H.out,List.drop_eq_nil_of_le (by omega)];rfl
   clear H
   go_wp2
   go_ret
   exact⟨by rw[H2.out];rfl,rfl⟩
open Um
theorem xE:(Tryz.prog.info? 3).map (λi=>(i.zero,i.size,i.bytes))=some (some (.int .i64 0),1,8):=by kernel_rfl
def ax (vars names:List ByteArray):List Int:=names.map λs=>Lib.idxOfS vars s
open Lx Tx
def cY (ps:List Int) (keys:List Ky):List (Nat × Bool):=List.zipWith (λp k=>(p.toNat,k.d)) ps keys
theorem vZ {ps:List Int} {keys:List Ky} {k:Nat} {p:Int} {y:Ky} (hp:ps[k]?=some p) (hy:keys[k]?=some y):cY (ps.drop k) (keys.drop k)=(p.toNat,y.d)::cY (ps.drop (k+1)) (keys.drop (k+1)):=by
 rw[ai hp,ai hy];rfl
def putAt (cur:Array Value):Nat->List Value->Array Value
 | _,[]=>cur
 | o,v::r=>putAt (cur.setIfInBounds o v) (o+1) r
theorem fP:∀(vs:List Value) (o:Nat) (cur:Array Value),(putAt cur o vs).size=cur.size
 | [],_,_=>rfl
 | v::r,o,cur=>by rw[putAt,fP r];simp
theorem kw:∀(vs pre old post:List Value),old.length=vs.length->putAt (pre++(old++post)).toArray pre.length vs=(pre++(vs++post)).toArray
 | [],pre,old,post,h=>by
  have:old=[]:=List.eq_nil_of_length_eq_zero h
  subst this;rfl
 | v::r,pre,[],post,h=>by cases h
 | v::r,pre,u::old,post,h=>by
  have ih:=kw r (pre++[v]) old post (by simpa using h)
  rw[List.length_append,List.length_singleton]at ih
  have e:(pre++(u::old++post)).toArray.setIfInBounds pre.length v=(pre++[v]++(old++post)).toArray:=by
   rw[List.setIfInBounds_toArray,List.set_append_right _ _ (Nat.le_refl _),Nat.sub_self]
   simp
  rw[putAt,e,ih]
  simp
theorem pV:∀(vs:List Value) (o:Nat) (cur:Array Value) (k:Nat),k<=o->(putAt cur o vs).toList.take k=cur.toList.take k
 | [],_,_,_,_=>rfl
 | v::r,o,cur,k,h=>by
  rw[putAt,pV r (o+1) _ k (by omega),Array.toList_setIfInBounds,List.take_set_of_le h]
theorem cO (b:Nat) (T:TypeId) (fr:Nat × Nat):∀(vs:List Value) (o:Nat) (w:World) (cur:Array Value),w.heap[b]?=some (.cells cur T fr)->(w.setCells b o vs).heap[b]?=some (.cells (putAt cur o vs) T fr)
 | [],_,_,_,h=>h
 | v::r,o,w,cur,h=>by
  rw[World.setCells,putAt]
  refine cO b T fr r (o+1) _ _ ?_
  simp[World.setCell,Array.getElem?_modify,h]
theorem below_setCells {B b:Nat} (hB:B<=b):∀(vs:List Value) (o:Nat) (w:World),Below B w (w.setCells b o vs)
 | [],_,w=>Below.refl B w
 | v::r,o,w=>by
  rw[World.setCells]
  exact((Below.refl B w).setCell (p:=⟨b,o,none⟩) hB v).trans (below_setCells hB r (o+1) _)
theorem lR {P:Program} (w:World) (t e ty:TypeId) (z:Value) (ht:P.underlying t=some (.slice e)) (hv:∀w,(zeroValue e).run P w=.ok z w) (b o n c:Nat) (hn:0<n)
  (h1:∀u∈(Builtin.zeroCells z.cells n).toList,u.oneCell'=true) (hc:∀j,j<(Builtin.zeroCells z.cells n).size->(w.cell? ⟨b,o+j,none⟩).isSome=true/\w.frozen? ⟨b,o+j,none⟩=false) :
  (Builtin.clear_ #[t] ty #[.slice (some ⟨b,o,none⟩) n c]).run P w=.ok (.tuple #[]) (w.setCells b o (Builtin.zeroCells z.cells n).toList):=by
 have hst:=run_storeCells_cells (P:=P) b o (Builtin.zeroCells z.cells n).toList 0 w (λj hj=>(hc j (by simpa using hj)).1) (λj hj=>(hc j (by simpa using hj)).2) h1
 simp only[Nat.add_zero]at hst
 obtain⟨m,rfl⟩:∃m,n=m+1:=⟨n-1,by omega⟩
 simp[Builtin.clear_,run_underlying ht,hv,hst]
theorem cA {b k:Nat} (h:b≠k):∀{vs:List Value} {o:Nat} {w:World},(w.setCells b o vs).heap[k]?=w.heap[k]?
 | [],_,_=>rfl
 | v::r,o,w=>by
  rw[World.setCells,cA h,Below.heap_setCell _ _ _ _ (λe=>h e.symm)]
def eM (g:Nat) (vs rest:List Value) (w:World):Prop:=w.heap[g]?=some (Obj.cells (vs++rest).toArray 58 (0,0))
theorem eM.cell {g:Nat} {vs rest:List Value} {w:World} (h:eM g vs rest w) {j:Nat} {v:Value} (hv:vs[j]?=some v):w.cell? ⟨g,j,none⟩=some v:=by
 rw[Lib.cell_of_heap h,List.getElem?_toArray,List.getElem?_append_left (List.getElem?_eq_some_iff.1 hv).1];exact hv
theorem eM.frozen {g:Nat} {vs rest:List Value} {w:World} (h:eM g vs rest w) (i:Nat):w.frozen? ⟨g,i,none⟩=false:=Lib.frozen_of_heap h i
theorem eM.lt {g:Nat} {vs rest:List Value} {w:World} (h:eM g vs rest w):g<w.heap.size:=(Array.getElem?_eq_some_iff.1 h).1
end Go.Proofs.YtfcbghmbbjolcaaGreatDoor
namespace Go.Proofs.YtfcbghmbbjolcaaGreatDoor.Mp
open Go Go.RowKit Go.Maps Go.ChangeMaps
def bc:Nat->List (ByteArray × Int)->List MapEntry
 | _,[]=>[]
 | k,p::m=>{key:=.string p.1,val:=.int .i64 p.2,born:=k}::bc (k+1) m
def jg (m:List (ByteArray × Int)):Array MapEntry:=(bc 0 m).toArray
def bV (w:World) (r:Nat) (m:List (ByteArray × Int)):Prop:=w.heap[r]?=some (.map (jg m) m.length)
def aK:List (ByteArray × Int)->ByteArray->Int
 | [],_=>0
 | p::m,s=>if p.1=s then p.2 else aK m s
def gK:List (ByteArray × Int)->ByteArray->Option Nat
 | [],_=>none
 | p::m,s=>if p.1=s then some 0 else (gK m s).map (· + 1)
def eA:List (ByteArray × Int)->ByteArray->Int->List (ByteArray × Int)
 | [],s,v=>[(s,v)]
 | p::m,s,v=>if p.1=s then (s,v)::m else p::eA m s v
theorem kG (s t:ByteArray) (v:Int):∀m:List (ByteArray × Int),aK (eA m s v) t=if s=t then v else aK m t
 | []=>by simp[eA,aK]
 | p::m=>by
  unfold eA
  by_cases h:p.1=s
  ·rw[if_pos h]
   simp only[aK,h]
   by_cases h2:s=t<;>simp[h2]
  ·rw[if_neg h]
   simp only[aK]
   rw[kG s t v m]
   by_cases h2:p.1=t
   ·have:¬ s=t:=λe=>h (h2.trans e.symm)
    simp[h2,this]
   ·simp[h2]
theorem kQ (s:ByteArray):∀(m:List (ByteArray × Int)) (k j:Nat),Instr.findNow .string (.string s) (bc k m) j=some ((gK m s).map λi=>(j+i,.int .i64 (aK m s)))
 | [],_,_=>rfl
 | p::m,k,j=>by
  unfold bc Instr.findNow
  simp only[Instr.sameNow]
  by_cases h:p.1=s
  ·have hb:(s == p.1)=true:=(MapKept.bytes_beq _ _).2 h.symm
   rw[hb]
   simp[gK,aK,h]
  ·have hb:(s == p.1)=false:=by
    cases hx:(s == p.1)
    ·rfl
    ·exact absurd ((MapKept.bytes_beq _ _).1 hx).symm h
   simp only[hb,gK,aK,h,if_false]
   rw[kQ s m (k+1) (j+1)]
   cases gK m s with
   | none=>rfl
   | some i=>simp;omega
theorem xU:∀(m:List (ByteArray × Int)) (k i:Nat) (s:ByteArray),gK m s=some i->(bc k m)[i]?=some {key:=.string s,val:=.int .i64 (aK m s),born:=k+i}
 | [],_,_,_,h=>by cases h
 | p::m,k,i,s,h=>by
  unfold gK at h
  by_cases hp:p.1=s
  ·rw[if_pos hp]at h
   obtain rfl:0=i:=by simpa using h
   simp[bc,aK,hp]
  ·rw[if_neg hp]at h
   obtain⟨j,hj,rfl⟩:=Option.map_eq_some_iff.1 h
   simp only[bc,List.getElem?_cons_succ,aK,hp,if_false]
   rw[xU m (k+1) j s hj]
   simp;omega
theorem ux:∀(m:List (ByteArray × Int)) (k i:Nat) (s:ByteArray) (v:Int),gK m s=some i ->
  (bc k m).modify i (λe=>{e with val:=.int .i64 v})=bc k (eA m s v)/\(eA m s v).length=m.length
 | [],_,_,_,_,h=>by cases h
 | p::m,k,i,s,v,h=>by
  unfold gK at h
  by_cases hp:p.1=s
  ·rw[if_pos hp]at h
   obtain rfl:0=i:=by simpa using h
   simp[bc,eA,hp]
  ·rw[if_neg hp]at h
   obtain⟨j,hj,rfl⟩:=Option.map_eq_some_iff.1 h
   obtain⟨h1,h2⟩:=ux m (k+1) j s v hj
   simp[bc,eA,hp,List.modify_succ_cons,h1,h2]
theorem uy:∀(m:List (ByteArray × Int)) (k:Nat) (s:ByteArray) (v:Int),gK m s=none ->
  bc k (eA m s v)=bc k m++[{key:=.string s,val:=.int .i64 v,born:=k+m.length}]/\(eA m s v).length=m.length+1
 | [],k,s,v,_=>by simp[bc,eA]
 | p::m,k,s,v,h=>by
  unfold gK at h
  by_cases hp:p.1=s
  ·rw[if_pos hp]at h;cases h
  ·rw[if_neg hp]at h
   obtain⟨h1,h2⟩:=uy m (k+1) s v (by simpa using h)
   simp[bc,eA,hp,h1,h2];omega
theorem qn:∀(m:List (ByteArray × Int)) (s:ByteArray),gK m s=none->aK m s=0
 | [],_,_=>rfl
 | p::m,s,h=>by
  unfold gK at h
  by_cases hp:p.1=s
  ·rw[if_pos hp]at h;cases h
  ·rw[if_neg hp]at h
   simp only[aK,hp,if_false]
   exact qn m s (by simpa using h)
theorem kF {w:World} {r:Nat} {m:List (ByteArray × Int)} (h:bV w r m):r<w.heap.size:=(Array.getElem?_eq_some_iff.1 h).1
theorem bV.on {w w':World} {r:Nat} {m:List (ByteArray × Int)} (h:bV w r m) (hb:Below w.heap.size w w'):bV w' r m:=by
 unfold bV;rw[hb.block r (kF h)];exact h
variable {P:Program} {T K E:TypeId}
theorem eE (hT:P.underlying T=some (.map K E)) (hK:P.underlying K=some .string) {w:World} (hz:(zeroValue E).run P w=.ok (.int .i64 0) w)
  {r:Nat} {m:List (ByteArray × Int)} (h:bV w r m) (s:ByteArray):(Instr.lookup T (.map (some r)) (.string s) false).run P w=.ok (.int .i64 (aK m s)) w:=by
 have hc:(Instr.checkKey (jg m).isEmpty 10000 K (.string s)).run P w=.ok () w:=MapKept.run_checkKey hK (show MapKept.IsKey .string (.string s) from trivial) _ 9999
 have hf:(Instr.findKey K (.string s) (jg m).toList).run P w=.ok ((gK m s).map λi=>(0+i,.int .i64 (aK m s))) w:=MapKept.run_findKey hK (kQ s m 0 0)
 have hg:(getObj r).run P w=.ok (.map (jg m) m.length) w:=MapKept.run_getObj_map h
 unfold Instr.lookup
 simp only[Sem.run_bind,run_underlying hT,Result.andThen,hg,Sem.run_pure,hc,hf]
 cases hi:gK m s with
 | none=>simp[hz,qn m s hi]
 | some i=>simp
def mT (w:World) (r:Nat) (m:List (ByteArray × Int)):World:={w with heap:=w.heap.setIfInBounds r (.map (jg m) m.length)}
theorem Cb {w:World} {r:Nat} (h:r<w.heap.size) (m:List (ByteArray × Int)):bV (mT w r m) r m:=by
 unfold bV mT;simp[h]
theorem iZ (w:World) (r:Nat) (m:List (ByteArray × Int)):w.grownBy (mT w r m) (some r):=
 ⟨rfl,rfl,rfl,by simp[mT],λk _ hne=>Array.getElem?_setIfInBounds_ne (λe:r=k=>hne (congrArg some e.symm))⟩
theorem nX (s:ByteArray) (w:World):(Instr.keyThatStays (.string s) (.string s)).run P w=.ok (.string s) w:=by
 have h:Instr.sameBits 10000 (.string s) (.string s)=true:=(MapKept.bytes_beq s s).2 rfl
 unfold Instr.keyThatStays
 rw[if_pos h];rfl
theorem ng {α:Type} (l:List α) (i:Nat) (f:α->α):l.toArray.modify i f=(l.modify i f).toArray:=by simp
theorem jy (hT:P.underlying T=some (.map K E)) (hK:P.underlying K=some .string) {w:World} {r:Nat} {m:List (ByteArray × Int)} (h:bV w r m) (s:ByteArray) (v:Int) :
  (Instr.mapUpdate T (.map (some r)) (.string s) (.int .i64 v)).run P w=.ok () (mT w r (eA m s v)):=by
 have hc:(Instr.checkKey false 10000 K (.string s)).run P w=.ok () w:=MapKept.run_checkKey hK (show MapKept.IsKey .string (.string s) from trivial) _ 9999
 have hf:(Instr.findKey K (.string s) (jg m).toList).run P w=.ok ((gK m s).map λi=>(0+i,.int .i64 (aK m s))) w:=MapKept.run_findKey hK (kQ s m 0 0)
 have hg:(getObj r).run P w=.ok (.map (jg m) m.length) w:=MapKept.run_getObj_map h
 unfold Instr.mapUpdate
 simp only[Sem.run_bind,run_underlying hT,Result.andThen,hg,hc,hf]
 cases hi:gK m s with
 | none =>
  obtain⟨h1,h2⟩:=uy m 0 s v hi
  have e1:(jg m).push {key:=.string s,val:=.int .i64 v,born:=m.length}=jg (eA m s v):=by
   unfold jg;rw[h1];simp
  simp only[Option.map_none,MapKept.run_setObj_map _ h,e1]
  unfold mT
  rw[h2]
 | some i =>
  have ha:=xU m 0 i s hi
  have hk:(((jg m)[0+i]?).map (·.key)).getD (.string s)=.string s:=by unfold jg;simp[ha]
  obtain⟨h1,h2⟩:=ux m 0 i s v hi
  have hm:(jg m).modify (0+i) (λe=>{e with key:=.string s,val:=.int .i64 v})=jg (eA m s v):=by
   have e2:(bc 0 m).modify i (λe=>{e with key:=.string s,val:=.int .i64 v})=(bc 0 m).modify i (λe=>{e with val:=.int .i64 v}):=by
    apply List.ext_getElem?
    intro j
    rw[List.getElem?_modify,List.getElem?_modify]
    by_cases hj:i=j
    ·subst hj;rw[ha];simp
    ·simp[hj]
   unfold jg
   rw[ng,Nat.zero_add,e2,h1]
  simp only[Option.map_some,hk,Sem.run_bind,nX,Result.andThen,MapKept.run_setObj_map _ h,hm]
  unfold mT
  rw[h2]
theorem dM {w:World} {ops:Array Oper} {rest:List Oper} {o:Oper} {a:Act} {Q:Exit->Act->World->Prop}
  (hgd:o.guard=none) (mp x v:Operand) (T:TypeId) (hop:o.op=Op.mapUpdate T mp x v) {K E:TypeId} (hT:P.underlying T=some (.map K E)) (hK:P.underlying K=some .string)
  {r:Nat} {m:List (ByteArray × Int)} (hm:a.eval mp=.map (some r)) (h:bV w r m) (s:ByteArray) (n:Int) (hx:a.eval x=.string s) (hv:a.eval v=.int .i64 n)
  (hQ:wpList P ops Q rest (a.put o.dst undef) (mT w r (eA m s n))):wpList P ops Q (o::rest) a w:=by
 refine wpList_plain hgd λK' hK'=>?_
 have hrun:=jy (E:=E) (P:=P) hT hK h s n
 unfold Oper.wp
 simp[execOp,hop,hm,hx,hv,hrun,Result.andThen]
 exact hK' _ _ hQ
end Go.Proofs.YtfcbghmbbjolcaaGreatDoor.Mp
namespace Go.Proofs.YtfcbghmbbjolcaaGreatDoor
open Go Go.RowKit Um Fm Tx
theorem aw {a b:Tm}:az a b=true↔a=b:=by
 obtain⟨k,x,l,y⟩:=a
 obtain⟨k',x',l',y'⟩:=b
 unfold az
 simp only[Bool.and_eq_true,beq_iff_eq,Tm.mk.injEq,ByteArray.toList_eq]
 constructor
 ·rintro⟨⟨⟨h1,h2⟩,h3⟩,h4⟩
  exact⟨h1,du h2,du h3,du h4⟩
 ·rintro⟨rfl,rfl,rfl,rfl⟩
  exact⟨⟨⟨rfl,rfl⟩,rfl⟩,rfl⟩
instance decTm:DecidableEq Tm:=λ_ _=>decidable_of_iff _ aw
set_option maxRecDepth 100000 in
set_option maxHeartbeats 2000000 in
theorem dH (a b:Tm) (W:World):(binOp .eql 62 (.agg #[.int .i64 a.k,.string a.x,.string a.l,.string a.y]) (.agg #[.int .i64 b.k,.string b.x,.string b.l,.string b.y])).run Tryz.prog W=.ok (.bool (az a b)) W:=by
 have h0:=Tryz.underlying62
 have h1:=Tryz.underlying60
 have h2:=Tryz.underlying9
 unfold az
 simp only[go_sem,h0]
 cases e1:(a.k == b.k)
 ·simp[go_sem,h0,h1,h2,e1]
 cases e2:(a.x.toList == b.x.toList)
 ·simp[go_sem,h0,h1,h2,e1,e2]
 cases e3:(a.l.toList == b.l.toList)
 ·simp[go_sem,h0,h1,h2,e1,e2,e3]
 cases e4:(a.y.toList == b.y.toList)
 ·simp[go_sem,h0,h1,h2,e1,e2,e3,e4]
 simp[go_sem,h0,h1,h2,e1,e2,e3,e4]
open Om Mp
section
variable {base b g:Nat} {va vr:Value} {vars:List ByteArray} {qc vs:List Value} {rows:List (List Tm)} {W W':World}
end
theorem eM.of_own {base n:Nat} {v:Value} {xs:List Value} {w:World} (h:w.ownsRow base 58 1 v n xs):(v=.slice none 0 0/\n=0/\xs=[])∨∃g cap rest,v=.slice (some ⟨g,0,none⟩) n cap/\base<=g/\eM g xs rest w/\n<=cap/\cap<=maxLen/\xs.length=n/\n+rest.length=cap:=by
 have hl:=h.1
 rw[Nat.mul_one]at hl
 rcases h.2 with ⟨rfl,h0⟩|⟨g,cap,cur,rfl,hg,hh,hn,hm,hs,ht⟩
 ·subst h0
  exact .inl ⟨rfl,rfl,List.eq_nil_of_length_eq_zero hl⟩
 ·refine .inr ⟨g,cap,cur.toList.drop n,rfl,hg,?_,hn,hm,hl,by rw[List.length_drop,Array.length_toList,hs];omega⟩
  unfold eM
  rw[Nat.mul_one]at ht
  rw[←ht,List.take_append_drop,Array.toArray_toList]
  exact hh
theorem eM.own {base g cap n:Nat} {xs rest:List Value} {w:World} (h:eM g xs rest w) (hb:base<=g) (hn:xs.length=n) (hc:n+rest.length=cap) (hm:cap<=maxLen):w.ownsRow base 58 1 (.slice (some ⟨g,0,none⟩) n cap) n xs:=by
 refine⟨by omega,.inr ⟨g,cap,_,rfl,hb,h,by omega,hm,by simp;omega,?_⟩⟩
 rw[Nat.mul_one,←hn,List.take_left' rfl]
end Go.Proofs.YtfcbghmbbjolcaaGreatDoor
