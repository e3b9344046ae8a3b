/- How terms and triples stand, in plain words. How rows of ter -/
import Derived.Test.YtjldjeenfnahoaaGreatDoorJTxMath
import Derived.Laws.CopyOwn
namespace Go.Proofs.YtjldjeenfnahoaaGreatDoor.Tx
open Go Go.RowKit Um Fm Lx
def orZ (a b:Int):Int:=if a=0 then b else a
theorem vy (a:Int):orZ a 0=a:=by unfold orZ;split<;>omega
structure io {α:Type} (f:α->α->Int):Prop where
 neg:∀a b,f b a = -f a b
 zero:∀a b,f a b=0->a=b
 tr:∀a b c,f a b<0->f b c<0->f a c<0
 rng:∀a b,-1<=f a b/\f a b<=1
theorem io.self {α:Type} {f:α->α->Int} (h:io f) (a:α):f a a=0:=by have:=h.neg a a;omega
theorem io.le {α:Type} {f:α->α->Int} (h:io f) {a b c:α} (h1:f a b<=0) (h2:f b c<=0):f a c<=0:=by
 rcases Int.lt_or_eq_of_le h1 with h1|h1
 ·rcases Int.lt_or_eq_of_le h2 with h2|h2
  ·exact Int.le_of_lt (h.tr a b c h1 h2)
  ·rw[←h.zero _ _ h2];omega
 ·rw[h.zero _ _ h1];exact h2
theorem gB:io bc where
 neg:=λa b=>mc a b
 zero:=λa b h=>(dO a b).1 h
 tr:=λa b c=>un a b c
 rng:=λa b=>by unfold bc;split<;>(try split)<;>omega
theorem yh:io Lib.compareInt where
 neg:=λa b=>by unfold Lib.compareInt;(repeat' split);all_goals omega
 zero:=λa b h=>(cz a b).1 h
 tr:=λa b c=>by unfold Lib.compareInt;(repeat' split);all_goals omega
 rng:=λa b=>by unfold Lib.compareInt;(repeat' split);all_goals omega
theorem yg {α β:Type} {f:β->β->Int} (h:io f) (g:α->β) (hg:∀a b,g a=g b->a=b):io (λa b=>f (g a) (g b)) where
 neg:=λ_a _b=>h.neg _ _
 zero:=λa b e=>hg a b (h.zero _ _ e)
 tr:=λ_a _b _c=>h.tr _ _ _
 rng:=λ_a _b=>h.rng _ _
theorem oX {α β:Type} {f:α->α->Int} {g:β->β->Int} (hf:io f) (hg:io g):io (λ(a b:α × β)=>orZ (f a.1 b.1) (g a.2 b.2)) where
 neg:=λa b=>by
  have:=hf.neg a.1 b.1;have:=hg.neg a.2 b.2
  unfold orZ;repeat' split
  all_goals omega
 zero:=λa b e=>by
  unfold orZ at e
  split at e
  ·rename_i h;exact Prod.ext (hf.zero _ _ h) (hg.zero _ _ e)
  ·rename_i h;exact absurd e h
 tr:=λa b c h1 h2=>by
  unfold orZ at h1 h2 ⊢
  by_cases e1:f a.1 b.1=0
  ·rw[if_pos e1]at h1
   have q1:=hf.zero _ _ e1
   rw[q1]
   by_cases e2:f b.1 c.1=0
   ·rw[if_pos e2]at h2 ⊢;exact hg.tr _ _ _ h1 h2
   ·rw[if_neg e2]at h2 ⊢;exact h2
  ·rw[if_neg e1]at h1
   by_cases e2:f b.1 c.1=0
   ·rw[←hf.zero _ _ e2,if_neg e1];exact h1
   ·rw[if_neg e2]at h2
    have h3:=hf.tr _ _ _ h1 h2
    rw[if_neg (by omega)];exact h3
 rng:=λa b=>by
  have:=hf.rng a.1 b.1;have:=hg.rng a.2 b.2
  unfold orZ;split<;>omega
abbrev bl (s:ByteArray):List UInt8:=s.data.toList
def cmpW (a b:Tm):Int:=orZ (Lib.compareInt a.k b.k) (orZ (bc (bl a.x) (bl b.x)) (orZ (bc (bl a.l) (bl b.l)) (bc (bl a.y) (bl b.y))))
theorem oY:io cmpW:=
 yg (oX yh (oX gB (oX gB gB))) (λt:Tm=>(t.k,bl t.x,bl t.l,bl t.y)) λa b h=>by
  obtain⟨k,x,l,y⟩:=a;obtain⟨k',x',l',y'⟩:=b
  simp only[Prod.mk.injEq]at h
  rw[h.1,cc h.2.1,cc h.2.2.1,cc h.2.2.2]
def aJ (a b:Tm):Int:=if aN a && aN b then bc (bh a) (bh b) else if aN a then -1 else if aN b then 1 else cmpW a b
theorem bF:io aJ where
 neg:=λa b=>by
  have h1:=mc (bh a) (bh b);have h2:=oY.neg a b
  unfold aJ
  cases aN a<;>cases aN b<;>simp[h1,h2]
 zero:=λa b h=>by
  unfold aJ at h
  cases ha:aN a<;>cases hb:aN b<;>rw[ha,hb]at h
  ·exact oY.zero a b h
  ·cases h
  ·cases h
  ·exact xd ha hb ((dO _ _).1 h)
 tr:=λa b c h1 h2=>by
  unfold aJ at h1 h2 ⊢
  cases ha:aN a<;>cases hb:aN b<;>cases hc:aN c<;>rw[ha,hb]at h1<;>rw[hb,hc]at h2 <;>
   simp only[Bool.and_true,Bool.and_false,if_true,Bool.false_eq_true,if_false]at h1 h2 ⊢
  ·exact oY.tr a b c h1 h2
  ·omega
  ·omega
  ·omega
  ·omega
  ·omega
  ·omega
  ·exact un _ _ _ h1 h2
 rng:=λa b=>by
  have h1:=gB.rng (bh a) (bh b);have h2:=oY.rng a b
  unfold aJ
  split
  ·exact h1
  split
  ·omega
  split
  ·omega
  ·exact h2
end Go.Proofs.YtjldjeenfnahoaaGreatDoor.Tx
namespace Go.Proofs.YtjldjeenfnahoaaGreatDoor
open Go Go.RowKit Um Fm Lx Tx
namespace Om
instance:Inhabited Tm:=⟨⟨0,.empty,.empty,.empty⟩⟩
def cmpRow:List Tm->List Tm->Int
 | [],[]=>0
 | [],_::_ => -1
 | _::_,[]=>1
 | a::l,b::m=>orZ (aJ a b) (cmpRow l m)
theorem tR (a b:Int):orZ (-a) (-b) = -orZ a b:=by
 unfold orZ
 by_cases h:a=0
 ·rw[if_pos (by omega),if_pos h]
 ·rw[if_neg (by omega),if_neg h]
theorem jl {a b:Int} (h:orZ a b<0):a<0∨a=0/\b<0:=by
 unfold orZ at h
 by_cases e:a=0
 ·rw[if_pos e]at h
  exact Or.inr ⟨e,h⟩
 ·rw[if_neg e]at h
  exact Or.inl h
theorem dM {a b:Int} (h:a<0):orZ a b<0:=by
 unfold orZ
 rw[if_neg (by omega)]
 exact h
theorem jY {a b:Int} (h:a=0):orZ a b=b:=by
 unfold orZ
 rw[if_pos h]
theorem qv {a b:Int} (h:orZ a b=0):a=0/\b=0:=by
 unfold orZ at h
 by_cases e:a=0
 ·rw[if_pos e]at h
  exact⟨e,h⟩
 ·rw[if_neg e]at h
  exact absurd h e
theorem tQ {a b:Int} (h1 : -1<=a/\a<=1) (h2 : -1<=b/\b<=1) : -1<=orZ a b/\orZ a b<=1:=by
 unfold orZ
 by_cases e:a=0
 ·rw[if_pos e]
  exact h2
 ·rw[if_neg e]
  exact h1
theorem me:∀a b:List Tm,cmpRow b a = -cmpRow a b
 | [],[]=>rfl
 | [],_::_=>rfl
 | _::_,[]=>rfl
 | a::l,b::m=>by
  show orZ (aJ b a) (cmpRow m l) = -orZ (aJ a b) (cmpRow l m)
  rw[me l m,bF.neg a b,tR]
theorem ki:∀a b:List Tm,cmpRow a b=0->a=b
 | [],[],_=>rfl
 | [],_::_,h=>by cases h
 | _::_,[],h=>by cases h
 | a::l,b::m,h=>by
  obtain⟨h1,h2⟩:=qv h
  rw[bF.zero _ _ h1,ki l m h2]
theorem om:∀a b c:List Tm,cmpRow a b<0->cmpRow b c<0->cmpRow a c<0
 | [],[],_,h,_=>by cases h
 | [],_::_,[],_,h=>by cases h
 | [],_::_,_::_,_,_=>by show (-1:Int)<0;decide
 | _::_,[],_,h,_=>by cases h
 | _::_,_::_,[],_,h=>by cases h
 | a::l,b::m,c::n,h,h'=>by
  show orZ (aJ a c) (cmpRow l n)<0
  rcases jl h with h1|⟨h1,h2⟩
  ·rcases jl h' with k1|⟨k1,k2⟩
   ·exact dM (bF.tr _ _ _ h1 k1)
   ·rw[←bF.zero _ _ k1]
    exact dM h1
  ·rcases jl h' with k1|⟨k1,k2⟩
   ·rw[bF.zero _ _ h1]
    exact dM k1
   ·rw[jY (by rw[bF.zero _ _ h1];exact k1)]
    exact om l m n h2 k2
theorem md:∀a b:List Tm,-1<=cmpRow a b/\cmpRow a b<=1
 | [],[]=>by decide
 | [],_::_=>by show (-1:Int) <= -1/\(-1:Int)<=1;decide
 | _::_,[]=>by show (-1:Int)<=1/\(1:Int)<=1;decide
 | a::l,b::m=>tQ (bF.rng a b) (md l m)
theorem yf:io cmpRow:=⟨me,ki,om,md⟩
def way (down:Bool) (n:Int):Int:=if down then -n else n
def au:List (Nat × Bool)->List Tm->List Tm->Int
 | [],a,b=>cmpRow a b
 | k::ks,a,b=>orZ (way k.2 (aJ a[k.1]! b[k.1]!)) (au ks a b)
theorem zW (d:Bool) (n:Int):way d (-n) = -way d n:=by cases d<;>simp[way]
theorem kL {d:Bool} {n:Int} (h:way d n=0):n=0:=by
 cases d with
 | false=>exact h
 | true =>
  have : -n=0:=h
  omega
theorem C7 (d:Bool) {a b c:Tm} (h1:way d (aJ a b)<0) (h2:way d (aJ b c)<0):way d (aJ a c)<0:=by
 cases d with
 | false=>exact bF.tr _ _ _ h1 h2
 | true =>
  have h1 : -aJ a b<0:=h1
  have h2 : -aJ b c<0:=h2
  show -aJ a c<0
  rw[←bF.neg]at h1 h2 ⊢
  exact bF.tr _ _ _ h2 h1
theorem bT:∀ks,io (au ks)
 | []=>yf
 | k::ks=>{
  neg:=λa b=>by
   show orZ _ _ = -orZ _ _
   rw[(bT ks).neg a b,bF.neg a[k.1]! b[k.1]!,zW,tR]
  zero:=λa b h=>(bT ks).zero a b (qv h).2
  tr:=λa b c h h'=>by
   show orZ (way k.2 (aJ a[k.1]! c[k.1]!)) (au ks a c)<0
   rcases jl h with h1|⟨h1,h2⟩
   ·rcases jl h' with k1|⟨k1,k2⟩
    ·exact dM (C7 _ h1 k1)
    ·rw[←bF.zero _ _ (kL k1)]
     exact dM h1
   ·rcases jl h' with k1|⟨k1,k2⟩
    ·rw[bF.zero _ _ (kL h1)]
     exact dM k1
    ·rw[jY (by rw[bF.zero _ _ (kL h1)];exact k1)]
     exact(bT ks).tr a b c h2 k2
  rng:=λa b=>tQ (by
   have:=bF.rng a[k.1]! b[k.1]!
   cases hk:k.2 with
   | false=>exact this
   | true =>
    show -1 <= -aJ a[k.1]! b[k.1]! /\ -aJ a[k.1]! b[k.1]!<=1
    omega) ((bT ks).rng a b)}
def eA (ks:List (Nat × Bool)) (a b:List Tm):Bool:=decide (au ks a b<0)
theorem gC {ks:List (Nat × Bool)} {a b:List Tm}:eA ks a b=false↔au ks b a<=0:=by
 unfold eA
 rw[decide_eq_false_iff_not,(bT ks).neg b a]
 omega
theorem qa (ks:List (Nat × Bool)):Sort.SWO (eA ks) where
 irrefl:=λx=>by
  rw[gC,(bT ks).self x]
  exact Int.le_refl 0
 trans:=λx y z h1 h2=>decide_eq_true ((bT ks).tr x y z (of_decide_eq_true h1) (of_decide_eq_true h2))
 ntrans:=λx y z h1 h2=>by
  rw[gC]at h1 h2 ⊢
  exact(bT ks).le h2 h1
theorem Bb {ks:List (Nat × Bool)} (x y:List Tm) (h1:eA ks x y=false) (h2:eA ks y x=false):x=y:=by
 rw[gC]at h1 h2
 refine(bT ks).zero x y ?_
 rw[(bT ks).neg x y]at h1
 omega
def dS (ks:List (Nat × Bool)) (l:List (List Tm)):List (List Tm):=l.mergeSort (λx y => !eA ks y x)
theorem uT {ks:List (Nat × Bool)} {d D:Array (List Tm)} (hP:Sort.PermIn 0 d.size d D) (hs:Sort.SortedIn (eA ks) 0 d.size D) :
  D.toList=dS ks d.toList:=
 Sort.sorted_unique_holds (qa ks) Bb d D hP hs
theorem fP {ks:List (Nat × Bool)} {l m:List (List Tm)} (hp:m.Perm l) (hs:m.Pairwise λx y=>eA ks y x=false):m=dS ks l:=by
 have hl:=hp.length_eq
 have:=uT (ks:=ks) (d:=l.toArray) (D:=m.toArray) ⟨by simpa using hl,λi hi=>by
  rcases hi with hi|hi
  ·omega
  ·have hi:l.length<=i:=by simpa using hi
   rw[getElem!_neg _ _ (by simp;omega),getElem!_neg _ _ (by simp;omega)],by
  have e1:(m.toArray.extract 0 l.toArray.size).toList=m:=by simp[←hl]
  have e2:(l.toArray.extract 0 l.toArray.size).toList=l:=by simp
  rw[e1,e2]
  exact hp⟩ (by
  intro i j _ hij hj
  have hj:j<m.length:=by
   rw[hl]
   simpa using hj
  rw[getElem!_pos _ i (by simp;omega),getElem!_pos _ j (by simp;omega)]
  exact List.pairwise_iff_getElem.1 hs i j (by omega) hj hij)
 simpa using this
end Om
theorem ar {P:Program} {w:World} {ops:Array Oper} {rest:List Oper} {o:Oper} {a:Act} {Q:Exit->Act->World->Prop} {s x:Operand} {t:TypeId}
  (ho:o.op=.call {callee:=.builtin .append,args:=#[s,x],argTypes:=#[t,t]}) (hgd:o.guard=none)
  {e:TypeId} {z:Value} {size bytes:Nat} (ht:P.underlying t=some (.slice e)) (hinfo:(P.info? e).map (λi=>(i.zero,i.size,i.bytes))=some (some z,size,bytes))
  (hzs:z.cells.size=size) (hsz:0<size)
  {base:Nat} {v:Value} {n:Nat} {xs:List Value} (hs:a.eval s=v) (hown:w.ownsRow base e size v n xs)
  {A:Option Addr} {m c:Nat} {news:List Value} (hx:a.eval x=.slice A m c) (hr:Rd w A news) (hl:news.length=m*size) (h1:∀u∈news,u.oneCell'=true)
  (hbytes:(n+m)*bytes<=140737488355328) (h63:n+m<=9223372036854775807) (hbase:base<=w.heap.size)
  (h:∀v' w',w'.ownsRow base e size v' (n+m) (xs++news)->Below base w w'->w.grownBy w' v.ownBlock->wpList P ops Q rest (a.put o.dst v') w'):wpList P ops Q (o::rest) a w:=by
 obtain⟨i,hi,hz,hsize,hby⟩:=info_parts hinfo
 have below:∀{w':World},w.grownBy w' v.ownBlock->Below base w w':=λhg=>(Below.refl _ _).grown hg hbase λk hk=>(hown.lt k hk).1
 rcases hr with rfl|⟨g,off,rfl,hc⟩
 ·have hm:m=0:=by
   rcases Nat.eq_zero_or_pos m with h0|h0
   ·exact h0
   ·have:=Nat.mul_pos h0 hsz
    simp at hl;omega
  subst hm
  rcases A with _|ad
  ·refine wpList_plain hgd λK hK=>?_
   have hrun:(Builtin.append_ #[t,t] o.type #[v,.slice none 0 c]).run P w=.ok v w:=by
    rcases hown.2 with ⟨rfl,rfl⟩|⟨g,cap,cur,rfl,_,_,hnc,_⟩
    ·simp[Builtin.append_,run_underlying ht,sizeOf,typeInfo,hi,Builtin.lenOf,Builtin.firstCells]
    ·simp[Builtin.append_,run_underlying ht,sizeOf,typeInfo,hi,Builtin.lenOf,Builtin.firstCells,hnc,storeCells]
   unfold Oper.wp execOp
   simp only[ho,resolve,invoke,builtin,Sem.run_bind,Sem.run_pure,Result.andThen_ok,List.map_toArray,List.map_cons,List.map_nil,hs,hx,hrun]
   exact hK _ _ (h v w (by simpa using hown) (Below.refl _ _) ⟨rfl,rfl,rfl,Nat.le_refl _,λ_ _ _=>rfl⟩)
  ·exact wpList_append_own w hgd s x t ho base e i z size bytes ht hi hz hsize hby hzs hsz v n xs hs hown ad 0 c [] hx hl (by simp) (by simp) h63 hbytes hbase (λv' w' a b _=>h v' w' a (below b) b)
 ·exact wpList_append_own w hgd s x t ho base e i z size bytes ht hi hz hsize hby hzs hsz v n xs hs hown ⟨g,off,none⟩ m c news hx hl (λj u hu=>by rw[bU];exact hc j u hu) h1 h63 hbytes hbase (λv' w' a b _=>h v' w' a (below b) b)
theorem oC {P:Program} {w:World} {t:TypeId} {g:Nat} {ty:TypeId} {cur vs:Array Value} (hi:(P.info? t).map (·.size)=some vs.size) (hg:w.heap[g]?=some (.cells cur ty (0,0))) (hl:vs.size=cur.size) (h1:vs.toList.all (·.oneCell')=true) :
  (Instr.storeAt t (.pointer (some ⟨g,0,none⟩)) (.agg vs)).run P w=.ok () (w.setRow g vs):=by
 obtain⟨i,hi1,hi2⟩:=Option.map_eq_some_iff.1 hi
 have hs:∀w,(sizeOf t).run P w=.ok vs.size w:=λw=>by simp[sizeOf,typeInfo,hi1,hi2]
 have h:=run_storeCells_from (P:=P) g ty vs.toList 0 cur w hg (by simp[hl]) (λv hv=>List.all_eq_true.1 h1 v hv)
 simp only[List.take_zero,List.nil_append,Array.toArray_toList]at h
 unfold Instr.storeAt storeVar
 simp[Instr.sureAddr,hs,Value.cells,Result.andThen,h]
theorem wpList_store_row {P:Program} {w:World} {ops:Array Oper} {rest:List Oper} {o:Oper} {a:Act} {Q:Exit->Act->World->Prop}
  (hgd:o.guard=none) (t:TypeId) (ad x:Operand) (hop:o.op=Op.store t ad x) {g:Nat} {ty:TypeId} {cur vs:Array Value} (had:a.eval ad=.pointer (some ⟨g,0,none⟩)) (hx:a.eval x=.agg vs)
  (hi:(P.info? t).map (·.size)=some vs.size) (hg:w.heap[g]?=some (.cells cur ty (0,0))) (hl:vs.size=cur.size) (h1:vs.toList.all (·.oneCell')=true)
  (hQ:wpList P ops Q rest (a.put o.dst undef) (w.setRow g vs)):wpList P ops Q (o::rest) a w:=by
 refine wpList_plain hgd λK hK=>?_
 have hrun:=oC (P:=P) (w:=w) hi hg hl h1
 unfold Oper.wp
 simp[execOp,hop,had,hx,hrun,Result.andThen]
 exact hK _ _ hQ
theorem tm1 (l:List Tm):∀u∈l.flatMap tmC,u.oneCell'=true:=by
 intro u hu
 obtain⟨t,_,ht⟩:=List.mem_flatMap.1 hu
 simp only[tmC,List.mem_cons,List.not_mem_nil,or_false]at ht
 rcases ht with rfl|rfl|rfl|rfl<;>rfl
theorem tm_len (l:List Tm):(l.flatMap tmC).length=l.length*4:=by
 induction l with
 | nil=>rfl
 | cons a r ih=>simp[List.flatMap_cons,ih,tmC,Nat.add_mul]
theorem RdTs.flat {w:World} {A:Option Addr} {l:List Tm} (h:RdTs w A l):Rd w A (l.flatMap tmC):=by
 obtain⟨xs,h1,h2⟩:=h
 rw[←h2.flat];exact h1
theorem RdTs.of {w:World} {A:Option Addr} {l:List Tm} (h:Rd w A (l.flatMap tmC)):RdTs w A l:=⟨_,h,All.of_flat l λ_ _=>rfl⟩
def RdRow (w:World) (cs:List Value) (row:List Tm):Prop:=∃A c,cs=[.slice A row.length c]/\row.length<=c/\RdTs w A row
abbrev RdRs (w:World) (A:Option Addr) (rows:List (List Tm)):Prop:=RdL 1 (RdRow w) w A rows
theorem RdRow.later {w w':World} {cs:List Value} {row:List Tm} (h:RdRow w cs row) (hb:Below w.heap.size w w'):RdRow w' cs row:=by
 obtain⟨A,c,h1,h2,h3⟩:=h
 exact⟨A,c,h1,h2,h3.later hb⟩
theorem RdRs.later {w w':World} {A:Option Addr} {rows:List (List Tm)} (h:RdRs w A rows) (hb:Below w.heap.size w w'):RdRs w' A rows:=RdL.mono h hb λ_ _ _ h=>h.later hb
theorem RdRs.at1 {w:World} {A:Option Addr} {rows:List (List Tm)} (h:RdRs w A rows) {j:Nat} {row:List Tm} (hj:rows[j]?=some row) :
  ∃g o A' c',A=some ⟨g,o,none⟩/\w.cell? ⟨g,o+j,none⟩=some (.slice A' row.length c')/\row.length<=c'/\RdTs w A' row:=by
 obtain⟨g,o,cs,hA,_,⟨A',c',rfl,h2,h3⟩,hx⟩:=RdL.at_ h (by omega) hj
 have:=hx 0 _ rfl
 rw[Nat.mul_one,Nat.add_zero]at this
 exact⟨g,o,A',c',hA,this,h2,h3⟩
def KeepT (e:TypeId) (w w':World):Prop:=∀(g:Nat) (cur:Array Value) (fr:Nat × Nat),w.heap[g]?=some (Obj.cells cur e fr)->w'.heap[g]?=some (Obj.cells cur e fr)
theorem KeepT.refl (e:TypeId) (w:World):KeepT e w w:=λ_ _ _ h=>h
theorem KeepT.trans {e:TypeId} {a b c:World} (h:KeepT e a b) (k:KeepT e b c):KeepT e a c:=λg cur fr x=>k g cur fr (h g cur fr x)
theorem KeepT.below {e:TypeId} {w w':World} (h:Below w.heap.size w w'):KeepT e w w':=λg cur fr x=>by
 rw[h.block g (Array.getElem?_eq_some_iff.1 x).1];exact x
theorem KeepT.setCell {e T:TypeId} {w:World} {b i:Nat} {v:Value} {cur:Array Value} {fr:Nat × Nat} (hb:w.heap[b]?=some (.cells cur T fr)) (hT:T≠e):KeepT e w (w.setCell ⟨b,i,none⟩ v):=λg c f x=>by
 have hne:g≠b:=λh=>by
  subst h
  rw[hb]at x
  injection x with x;injection x with _ x _;exact hT x
 rw[Below.heap_setCell w ⟨b,i,none⟩ v g (λh=>hne h)];exact x
theorem KeepT.grown {e T:TypeId} {w w':World} {row:Option Nat} (h:w.grownBy w' row) (hr:∀b,row=some b->∃cur fr,w.heap[b]?=some (.cells cur T fr)) (hT:T≠e):KeepT e w w':=λg c f x=>by
 have hlt:=(Array.getElem?_eq_some_iff.1 x).1
 rw[h.block g hlt (λh2=>by
  obtain⟨cur,fr,hc⟩:=hr g h2.symm
  rw[hc]at x
  injection x with x;injection x with _ x _;exact hT x)]
 exact x
theorem own_keep {w w':World} {base:Nat} {e:TypeId} {size n:Nat} {v:Value} {xs:List Value} (h:w.ownsRow base e size v n xs) (hk:KeepT e w w'):w'.ownsRow base e size v n xs:=by
 refine⟨h.1,?_⟩
 rcases h.2 with h0|⟨g,cap,cur,hv,hg,hh,r⟩
 ·exact .inl h0
 ·exact .inr ⟨g,cap,cur,hv,hg,hk g cur _ hh,r⟩
theorem own_lower {w:World} {base base':Nat} {e:TypeId} {size n:Nat} {v:Value} {xs:List Value} (h:w.ownsRow base e size v n xs) (hb:base'<=base):w.ownsRow base' e size v n xs:=by
 refine⟨h.1,?_⟩
 rcases h.2 with h0|⟨g,cap,cur,hv,hg,r⟩
 ·exact .inl h0
 ·exact .inr ⟨g,cap,cur,hv,Nat.le_trans hb hg,r⟩
theorem own_blockR {w:World} {base:Nat} {e:TypeId} {size n:Nat} {v:Value} {xs:List Value} (h:w.ownsRow base e size v n xs):∀b,v.ownBlock=some b->∃cur fr,w.heap[b]?=some (.cells cur e fr):=by
 intro b hb
 rcases h.2 with ⟨rfl,_⟩|⟨g,cap,cur,rfl,hg,hh,r⟩
 ·cases hb
 ·have:g=b:=by simpa[Value.ownBlock] using hb
  subst this
  exact⟨cur,_,hh⟩
def OwnRow (base:Nat) (w:World) (cs:List Value) (row:List Tm):Prop:=∃v,cs=[v]/\w.ownsRow base 65 4 v row.length (row.flatMap tmC)
def OwnRs (base:Nat) (w:World) (v:Value) (rows:List (List Tm)):Prop:=∃xs,w.ownsRow base 69 1 v rows.length xs/\All 1 (OwnRow base w) xs rows
theorem OwnRow.rd {base:Nat} {w:World} {cs:List Value} {row:List Tm} (h:OwnRow base w cs row):RdRow w cs row:=by
 obtain⟨v,rfl,h⟩:=h
 obtain⟨A,c,rfl,h1,h2⟩:=own_slice h
 exact⟨A,c,rfl,h1,.of h2⟩
theorem OwnRow.keep {base:Nat} {w w':World} {cs:List Value} {row:List Tm} (h:OwnRow base w cs row) (hk:KeepT 65 w w'):OwnRow base w' cs row:=by
 obtain⟨v,h1,h2⟩:=h
 exact⟨v,h1,own_keep h2 hk⟩
theorem OwnRs.keep {base:Nat} {w w':World} {v:Value} {rows:List (List Tm)} (h:OwnRs base w v rows) (hk:KeepT 65 w w') (hk2:KeepT 69 w w'):OwnRs base w' v rows:=by
 obtain⟨xs,h1,h2⟩:=h
 exact⟨xs,own_keep h1 hk2,h2.mono λ_ _ _ h=>h.keep hk⟩
theorem OwnRs.rd {base:Nat} {w:World} {v:Value} {rows:List (List Tm)} (h:OwnRs base w v rows):∃A c,v=.slice A rows.length c/\rows.length<=c/\RdRs w A rows:=by
 obtain⟨xs,h1,h2⟩:=h
 obtain⟨A,c,rfl,h3,h4⟩:=own_slice h1
 exact⟨A,c,rfl,h3,xs,h4,h2.mono λ_ _ _ h=>h.rd⟩
theorem OwnRs.nil (base:Nat) (w:World):OwnRs base w (.slice none 0 0) []:=⟨[],World.ownsRow_nil _ _ _ _,rfl⟩
theorem OwnRow.lower {base base':Nat} {w:World} {cs:List Value} {row:List Tm} (h:OwnRow base w cs row) (hb:base'<=base):OwnRow base' w cs row:=by
 obtain⟨v,h1,h2,h3⟩:=h
 refine⟨v,h1,h2,?_⟩
 rcases h3 with h0|⟨g,cap,cur,hv,hg,r⟩
 ·exact .inl h0
 ·exact .inr ⟨g,cap,cur,hv,Nat.le_trans hb hg,r⟩
end Go.Proofs.YtjldjeenfnahoaaGreatDoor
