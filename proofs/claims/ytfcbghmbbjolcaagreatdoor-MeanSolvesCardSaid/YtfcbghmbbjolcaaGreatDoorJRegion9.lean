/- A region that draws its order, walked by what is said of eac -/
import Derived.Test.YtfcbghmbbjolcaaGreatDoorJOpen2m
namespace Go.Proofs.YtfcbghmbbjolcaaGreatDoor.Ro
open Go Go.Sort Go.RowKit Rg Rh Rf
section
variable {P:Program} {ops:Array Oper}
def bH (ops:Array Oper) (j:Nat):Option Tmp:=(ops[j]?).bind (·.dst)
def Inv (ops:Array Oper) (a0:Act) (vals:Nat->Value) (D:Nat->Prop) (a:Act):Prop:=
 ∃T:Array Value,a={a0 with tmps:=T}/\T.size=a0.tmps.size/\(∀j d,bH ops j=some d->D j->d<T.size->T[d]?=some (vals j)) /\
  ∀d,(∀j,bH ops j=some d->¬ D j)->T[d]?=a0.tmps[d]?
theorem Fw {a0:Act} {vals:Nat->Value}:Inv ops a0 vals (λ_=>False) a0:=⟨a0.tmps,rfl,rfl,λ_ _ _ h=>h.elim,λ_ _=>rfl⟩
theorem Inv.of {a0 a:Act} {vals vals':Nat->Value} {D D':Nat->Prop} (h:Inv ops a0 vals D a) (hv:∀j,D j->vals j=vals' j) (hD:∀j,D j↔D' j):Inv ops a0 vals' D' a:=by
 obtain⟨T,h0,h1,h2,h3⟩:=h
 exact⟨T,h0,h1,λj d hj hd hl=>by rw[h2 j d hj ((hD j).2 hd) hl,hv j ((hD j).2 hd)],λd hd=>h3 d λj hj hDj=>hd j hj ((hD j).1 hDj)⟩
theorem rB (hd:∀i j d,bH ops i=some d->bH ops j=some d->i=j) {a0 a:Act} {vals:Nat->Value} {D:Nat->Prop} (i:Nat) (h:Inv ops a0 vals D a) :
  Inv ops a0 vals (λj=>D j∨j=i) (a.put (bH ops i) (vals i)):=by
 obtain⟨T,rfl,h1,h2,h3⟩:=h
 cases hi:bH ops i with
 | none =>
  refine⟨T,rfl,h1,λj d hj hD hl=>?_,λd hd'=>h3 d λj hj hDj=>hd' j hj (.inl hDj)⟩
  rcases hD with hD|rfl
  ·exact h2 j d hj hD hl
  ·rw[hi]at hj;cases hj
 | some e =>
  refine⟨T.setIfInBounds e (vals i),rfl,by simpa using h1,λj d hj hD hl=>?_,λd hd'=>?_⟩
  ·rw[Array.size_setIfInBounds]at hl
   by_cases hji:j=i
   ·subst hji
    rw[hi]at hj
    cases hj
    simp[hl]
   ·have hne:e≠d:=λhe=>hji (hd j i d hj (he ▸ hi))
    rw[Array.getElem?_setIfInBounds_ne hne]
    exact h2 j d hj (hD.resolve_right hji) hl
  ·have hne:e≠d:=λhe=>hd' i (he ▸ hi) (.inr rfl)
   rw[Array.getElem?_setIfInBounds_ne hne]
   exact h3 d λj hj hDj=>hd' j hj (.inl hDj)
def putL (vals:Nat->Value):List (Nat × Option Tmp)->Act->Act
 | [],a=>a
 | (j,d)::r,a=>putL vals r (a.put d (vals j))
def sI (ops:Array Oper) (rd:List (Nat × Option Tmp)):Bool:=rd.all λp=>p.2 == bH ops p.1
theorem jT (hd:∀i j d,bH ops i=some d->bH ops j=some d->i=j) {a0:Act} {vals:Nat->Value}:∀(rd:List (Nat × Option Tmp)) (D:Nat->Prop) (a:Act),sI ops rd=true->Inv ops a0 vals D a ->
  Inv ops a0 vals (λj=>D j∨j∈rd.map (·.1)) (putL vals rd a)
 | [],D,a,_,h=>h.of (λ_ _=>rfl) λj=>by simp
 | (j,d)::r,D,a,ht,h=>by
  simp only[sI,List.all_cons,Bool.and_eq_true,beq_iff_eq]at ht
  have h1:=jT hd r _ _ (show sI ops r=true from ht.2) (rB hd j h)
  rw[←ht.1]at h1
  exact h1.of (λ_ _=>rfl) λk=>by simp only[List.map_cons,List.mem_cons];exact or_assoc
theorem km (_hd:∀i j d,bH ops i=some d->bH ops j=some d->i=j) {a0 a c:Act} {vals:Nat->Value} {D D':Nat->Prop} (ha:Inv ops a0 vals D a) (hc:Inv ops a0 vals D' c) {d:Tmp}
  (h:∀k,bH ops k=some d->(D k↔D' k)):a.tmps[d]?=c.tmps[d]?:=by
 obtain⟨T,rfl,h1,h2,h3⟩:=ha
 obtain⟨U,rfl,k1,k2,k3⟩:=hc
 show T[d]?=U[d]?
 by_cases hk:∃k,bH ops k=some d/\D k
 ·obtain⟨k,hk,hD⟩:=hk
  rcases Nat.lt_or_ge d T.size with hl|hl
  ·rw[h2 k d hk hD hl,k2 k d hk ((h k hk).1 hD) (by rw[k1,←h1];exact hl)]
  ·have hl2:U.size<=d:=by rw[k1,←h1];exact hl
   rw[Array.getElem?_eq_none hl,Array.getElem?_eq_none hl2]
 ·rw[h3 d λj hj hD=>hk ⟨j,hj,hD⟩,k3 d λj hj hD=>hk ⟨j,hj,(h j hj).2 hD⟩]
theorem qz {o:Oper} (hs:∀cs b,o.op≠.select cs b) {a c:Act} (h:∀d∈o.looksAt ops,a.tmps[d]?=c.tmps[d]?):execOp a.eval o=execOp c.eval o:=
 execOp_congr o hs λx hx=>by
  cases x with
  | tmp t =>
   have ht:=h t (List.mem_append_left _ (List.mem_filterMap.2 ⟨.tmp t,by simpa using hx,rfl⟩))
   simp only[Act.eval,Array.getD_eq_getD_getElem?,ht]
  | _=>rfl
theorem ln {o:Oper} {a c:Act} (h:∀d∈o.looksAt ops,a.tmps[d]?=c.tmps[d]?):Region.wanted o (yielded ops a.tmps)=Region.wanted o (yielded ops c.tmps):=by
 unfold Region.wanted
 cases hg:o.guard with
 | none=>rfl
 | some gw =>
  obtain⟨g,want⟩:=gw
  have hy:yielded ops a.tmps g=yielded ops c.tmps g:=by
   unfold yielded
   cases ht:(ops[g]?).bind (·.dst) with
   | none=>rfl
   | some t =>
    have h1:=h t (by simp[Oper.looksAt,hg,ht])
    simp only[Option.bind_some,h1]
  simp only[hy]
theorem C9 {a c:Act} {d:Option Tmp} {u v:Value} (h:c.put d u=c.put d v) (hz:a.tmps.size=c.tmps.size):a.put d u=a.put d v:=by
 cases d with
 | none=>rfl
 | some d =>
  rcases Nat.lt_or_ge d c.tmps.size with hl|hl
  ·have h1:(c.tmps.setIfInBounds d u)[d]?=(c.tmps.setIfInBounds d v)[d]?:=congrArg (λx:Act=>x.tmps[d]?) h
   have h2:u=v:=by simpa[hl] using h1
   rw[h2]
  ·have hl':¬ d<a.tmps.size:=by rw[hz];exact Nat.not_lt.2 hl
   simp[Act.put,Array.setIfInBounds,hl']
theorem oX {c:Act} {d:Option Tmp} {x:Deferred} {u v:Value}:({c with defers:=x::c.defers}:Act).put d u≠c.put d v:=by
 intro h
 have h1:=congrArg (λx:Act=>x.defers.length) h
 cases d<;>simp[Act.put]at h1
theorem yo {i:Nat} {o:Oper} (hi:ops[i]?=some o) {a c:Act} (he:execOp a.eval o=execOp c.eval o) (hw:Region.wanted o (yielded ops a.tmps)=Region.wanted o (yielded ops c.tmps)) (hz:a.tmps.size=c.tmps.size)
  {F:Value->World->Prop} {w:World} (h:wpOp P ops Bot i (λa' W'=>∃v,a'=c.put o.dst v/\F v W') c w):wpOp P ops Bot i (λa' W'=>∃v,a'=a.put o.dst v/\F v W') a w:=by
 have key:∀u W',(∃v,c.put o.dst u=c.put o.dst v/\F v W')->∃v,a.put o.dst u=a.put o.dst v/\F v W':=λu W' ⟨v,h1,h2⟩=>⟨v,C9 h1 hz,h2⟩
 unfold wpOp at *
 simp only[hi]at *
 rw[hw]
 split
 ·rename_i hw'
  simp only[hw',if_true]at h
  rcases h with h|⟨_,_,_,hf⟩
  case inr=>exact hf.elim
  refine .inl ?_
  unfold Oper.wp at *
  rw[he]
  generalize (execOp c.eval o).run P w=r at *
  cases r with
  | ok n w' =>
   cases n<;>simp only[Oper.upon]at h ⊢
   case value u=>exact key u _ h
   case skip=>exact key _ _ h
   case defer d =>
    obtain⟨v,h1,_⟩:=h
    exact(oX h1).elim
   case enter f args =>
    refine Calls.mono h λe w'' he=>?_
    cases e with
    | returned u=>exact key u _ he
    | panicked c=>exact he.elim
    | outgrown=>obtain⟨_,_,hf⟩:=he;exact hf.elim
   case row row args=>exact Rows.mono h λu w'' he=>key u _ he
  | halt x w' =>
   cases x<;>simp only[Oper.upon]at h ⊢
   case panic u=>exact h.elim
 ·rename_i hw'
  simp only[hw']at h
  exact key _ _ h
def Hld (F:Nat->Value->World->Prop) (j:Nat) (v:Value) (W:World):Prop:=∃W1,Below W1.heap.size W1 W/\F j v W1
theorem Hld.later {F:Nat->Value->World->Prop} {j:Nat} {v:Value} {W W':World} (h:Hld F j v W) (hb:Below W.heap.size W W'):Hld F j v W':=by
 obtain⟨W1,h1,h2⟩:=h
 exact⟨W1,tr h1 hb,h2⟩
def oL (F:Nat->Value->World->Prop) (vals:Nat->Value) (W:World):List (Nat × Option Tmp)->Prop
 | []=>True
 | (j,_)::r=>Hld F j (vals j) W/\oL F vals W r
theorem jU {F:Nat->Value->World->Prop} {vals:Nat->Value} {W:World}:∀(l:List (Nat × Option Tmp)),(∀p∈l,Hld F p.1 (vals p.1) W)->oL F vals W l
 | [],_=>trivial
 | (j,d)::r,h=>⟨h (j,d) (by simp),jU r λp hp=>h p (by simp[hp])⟩
def Obl (P:Program) (ops:Array Oper) (a0:Act) (w0:World) (F:Nat->Value->World->Prop) (i:Nat) (o:Oper) (rd:List (Nat × Option Tmp)):Prop:=
 ∀vals W,Below w0.heap.size w0 W->oL F vals W rd->wpList P ops (Exit.then (λa' W'=>Below W.heap.size W W'/\∃v,a'=(putL vals rd a0).put o.dst v/\F i v W') Bot) [o] (putL vals rd a0) W
abbrev Tab:=List (Option (List (Nat × Option Tmp)))
def oI (P:Program) (ops:Array Oper) (a0:Act) (w0:World) (F:Nat->Value->World->Prop):Nat->List Oper->Tab->Prop
 | i,o::os,some rd::ts=>Obl P ops a0 w0 F i o rd/\oI P ops a0 w0 F (i+1) os ts
 | i,_::os,none::ts=>oI P ops a0 w0 F (i+1) os ts
 | _,_,_=>True
theorem o_cons {a0:Act} {w0:World} {F:Nat->Value->World->Prop} {i:Nat} {o:Oper} {os:List Oper} {rd:List (Nat × Option Tmp)} {ts:Tab} (h:Obl P ops a0 w0 F i o rd) (r:oI P ops a0 w0 F (i+1) os ts):oI P ops a0 w0 F i (o::os) (some rd::ts):=⟨h,r⟩
theorem o_skip {a0:Act} {w0:World} {F:Nat->Value->World->Prop} {i:Nat} {o:Oper} {os:List Oper} {ts:Tab} (r:oI P ops a0 w0 F (i+1) os ts):oI P ops a0 w0 F i (o::os) (none::ts):=r
theorem o_nil {a0:Act} {w0:World} {F:Nat->Value->World->Prop} {i:Nat} {ts:Tab}:oI P ops a0 w0 F i [] ts:=by unfold oI;trivial
theorem r8 {a0:Act} {w0:World} {F:Nat->Value->World->Prop}:∀(k:Nat) (os:List Oper) (ts:Tab),oI P ops a0 w0 F k os ts->∀i o rd,os[i]?=some o->ts[i]?=some (some rd)->Obl P ops a0 w0 F (k+i) o rd
 | k,[],_,_,i,o,rd,h,_=>by simp at h
 | k,_::_,[],_,i,o,rd,_,h=>by simp at h
 | k,o'::os,some rd'::ts,H,0,o,rd,h,h'=>by simp at h h';subst h h';exact H.1
 | k,o'::os,some rd'::ts,H,i+1,o,rd,h,h'=>by
  rw[show k+(i+1)=k+1+i by omega]
  exact r8 (k+1) os ts H.2 i o rd (by simpa using h) (by simpa using h')
 | k,o'::os,none::ts,H,0,o,rd,h,h'=>by simp at h'
 | k,o'::os,none::ts,H,i+1,o,rd,h,h'=>by
  rw[show k+(i+1)=k+1+i by omega]
  exact r8 (k+1) os ts H i o rd (by simpa using h) (by simpa using h')
def dL (ops:Array Oper) (j:Nat):List Nat:=match ops[j]? with
 | some o=>(o.after.toList.filter λe=>Region.binds .any e).map (·.on)
 | none=>[]
def Ed (l xs:List Nat):List Nat:=xs.foldl (λl x=>if l.contains x then l else x::l) l
def anc (ops:Array Oper):Nat->List Nat->List Nat
 | 0,l=>l
 | n+1,l=>anc ops n (Ed l (l.flatMap (dL ops)))
theorem nj {j:Nat}:∀(xs l:List Nat),j∈Ed l xs->j∈l∨j∈xs
 | [],l,h=>.inl h
 | x::xs,l,h=>by
  have h1:=nj xs (if l.contains x then l else x::l) h
  rcases h1 with h1|h1
  ·split at h1
   ·exact .inl h1
   ·rcases List.mem_cons.1 h1 with rfl|h1
    ·exact .inr (by simp)
    ·exact .inl h1
  ·exact .inr (by simp[h1])
theorem yk {S:Nat->Prop} (hS:∀j,S j->∀k∈dL ops j,S k):∀(n:Nat) (l:List Nat),(∀j∈l,S j)->∀j∈anc ops n l,S j
 | 0,_,h,j,hj=>h j hj
 | n+1,l,h,j,hj=>yk hS n _ (λk hk=>by
   rcases nj _ _ hk with hk|hk
   ·exact h k hk
   ·obtain⟨m,hm,hk⟩:=List.mem_flatMap.1 hk
    exact hS m (h m hm) k hk) j hj
theorem el {j:Nat} {listed:Array Bool}:j∈Region.ready .any ops listed↔listed.getD j true=false/\(∃o,ops[j]?=some o)/\∀k∈dL ops j,listed.getD k false=true:=by
 rw[mem_ready]
 constructor
 ·rintro⟨h0,o,ho,h⟩
  refine⟨h0,⟨o,ho⟩,λk hk=>?_⟩
  simp only[dL,ho,List.mem_map,List.mem_filter]at hk
  obtain⟨e,⟨he,hb⟩,rfl⟩:=hk
  exact h e (by simpa using he) hb
 ·rintro⟨h0,⟨o,ho⟩,h⟩
  refine⟨h0,o,ho,λe he hb=>h _ ?_⟩
  simp only[dL,ho,List.mem_map,List.mem_filter]
  exact⟨e,⟨by simpa using he,hb⟩,rfl⟩
def isS (tb:Tab) (i:Nat):Bool:=match tb[i]? with
 | some (some _)=>true
 | _=>false
def pQ (ops:Array Oper) (tb:Tab) (x:Nat) (i:Nat):Bool:=match ops[i]?,tb[i]? with
 | some o,some (some rd)=>sI ops rd && (rd.all λp=>(dL ops i).contains p.1) &&
   (List.range ops.size).all λk=>match bH ops k with
    | some d => !(o.looksAt ops).contains d || (rd.map (·.1)).contains k
    | none=>true
 | some _,some none=>(List.range ops.size).all λk => !isS tb k || k == x || (anc ops ops.size (dL ops i)).contains k
 | _,_=>false
def DF (ops:Array Oper):Bool:=(List.range ops.size).all λi=>(List.range ops.size).all λj=>i == j || (bH ops i).isNone || bH ops i != bH ops j
def bh (ops:Array Oper) (tb:Tab) (x:Nat) (b:Bool):Array Bool:=((List.range ops.size).map λi=>isS tb i && (b || i != x)).toArray
def GL (ops:Array Oper) (tb:Tab) (x:Nat) (SL:List (Nat × Option Tmp)) (p:Pl):Bool:=
 Region.noSelect ops && DF ops && (List.range ops.size).all (pQ ops tb x) && ((List.range ops.size).all λi=>(dL ops i).all (λk=>decide (k<i))) && sI ops SL && (SL.all λq=>isS tb q.1 && decide (q.1<ops.size)) &&
  ((List.range ops.size).all λi => !isS tb i || (SL.map (·.1)).contains i) && plB ops p (bh ops tb x true) && (p.len+(bh ops tb x true).toList.count true == ops.size) && (decide (ops.size<=x) || (isS tb x && Region.free .any ops (bh ops tb x false) x && (Region.ready .any ops (bh ops tb x false)).contains x))
theorem rJ {i:Nat} {d:Tmp} (h:bH ops i=some d):i<ops.size:=by
 unfold bH at h
 rcases Nat.lt_or_ge i ops.size with hl|hl
 ·exact hl
 ·simp[Array.getElem?_eq_none hl]at h
theorem Ak (h:DF ops=true):∀i j d,bH ops i=some d->bH ops j=some d->i=j:=by
 intro i j d hi hj
 have h1:=List.all_eq_true.1 (List.all_eq_true.1 h i (List.mem_range.2 (rJ hi))) j (List.mem_range.2 (rJ hj))
 simp only[hi,hj,Option.isNone_some,Bool.or_false,bne_self_eq_false,beq_iff_eq]at h1
 exact h1
theorem gR {l:Array Bool} {i:Nat} (hi:i<l.size) (h:l.getD i true=false):(l.setIfInBounds i true).toList.count true=l.toList.count true+1:=by
 have h1:l.toList[i]'(by simpa using hi)=false:=by simpa[hi] using h
 rw[Array.toList_setIfInBounds,List.count_set (by simpa using hi),h1]
 simp
theorem kK {listed:Array Bool} (hz:listed.size=ops.size) {j:Nat} (h:listed.getD j false=true):j<ops.size:=by
 rcases Nat.lt_or_ge j listed.size with hl|hl
 ·omega
 ·simp[Array.getElem?_eq_none hl]at h
theorem Bh {a0:Act} {w0:World} {F:Nat->Value->World->Prop} {Q:Exit->Act->World->Prop} {tb:Tab} (x:Nat) (hsel:Region.noSelect ops=true) (hd:∀i j d,bH ops i=some d->bH ops j=some d->i=j)
  (hrow:∀i,i<ops.size->pQ ops tb x i=true) (hlow:∀i,i<ops.size->∀k∈dL ops i,k<i) (hobl:∀i o rd,ops[i]?=some o->tb[i]?=some (some rd)->Obl P ops a0 w0 F i o rd)
  (hlast:∀vals a W b,(b=false->x<ops.size)->Inv ops a0 vals (λj=>j<ops.size/\isS tb j=true/\(b=true∨j≠x)) a->Below w0.heap.size w0 W->(∀j,j<ops.size->isS tb j=true->(b=true∨j≠x)->Hld F j (vals j) W) ->
   wpAny P .any ops Q (ops.size-(bh ops tb x b).toList.count true) (bh ops tb x b) a W) :
  ∀(fuel:Nat) (listed:Array Bool) (vals:Nat->Value) (a:Act) (w:World),listed.size=ops.size->fuel+listed.toList.count true=ops.size->(∀j,listed.getD j false=true->isS tb j=true) ->
   (∀j,listed.getD j false=true->∀k∈dL ops j,listed.getD k false=true)->Inv ops a0 vals (λj=>listed.getD j false=true) a->Below w0.heap.size w0 w->(∀j,listed.getD j false=true->Hld F j (vals j) w) ->
   wpAny P .any ops Q fuel listed a w:=by
 intro fuel
 induction fuel with
 | zero =>
  intro listed vals a w hz hc hS hcl hI hb hH
  have hall:∀j,j<ops.size->listed.getD j false=true:=by
   intro j hj
   have h1:listed.toList.count true=listed.toList.length:=by simpa[hz] using hc
   have h2:=List.count_eq_length.1 h1 (listed.toList[j]'(by simpa[hz] using hj)) (List.getElem_mem _)
   have hj':j<listed.size:=by omega
   simpa[hj'] using h2.symm
  have ht:bh ops tb x true=listed:=by
   refine Array.ext (by simp[bh,hz]) λj h1 h2=>?_
   have h3:=hall j (by omega)
   have h4:listed[j]=true:=by simpa[h2] using h3
   simp[bh,h4,hS j h3]
  have h5:=hlast vals a w true (λh=>by cases h) (hI.of (λ_ _=>rfl) λj=>⟨λh=>⟨kK hz h,hS j h,.inl rfl⟩,λh=>hall j h.1⟩) hb λj hj _ _=>hH j (hall j hj)
  rw[ht]at h5
  rwa [show ops.size-listed.toList.count true=0 by omega]at h5
 | succ fuel ih =>
  intro listed vals a w hz hc hS hcl hI hb hH
  by_cases hall:∀j,j<ops.size->isS tb j=true->j≠x->listed.getD j false=true
  ·obtain⟨bx,hbx⟩:∃b,(listed.getD x false || decide (ops.size<=x))=b:=⟨_,rfl⟩
   have hin:∀j,j<ops.size->(listed.getD j false=true↔isS tb j=true/\(bx=true∨j≠x)):=λj hj=>by
    constructor
    ·intro h
     refine⟨hS j h,?_⟩
     by_cases hjx:j=x
     ·subst hjx;exact .inl (by rw[←hbx,h];rfl)
     ·exact .inr hjx
    ·rintro⟨hs,h⟩
     by_cases hjx:j=x
     ·subst hjx
      rcases h with h|h
      ·rw[←hbx,decide_eq_false (by omega),Bool.or_false]at h;exact h
      ·exact absurd rfl h
     ·exact hall j hj hs hjx
   have ht:bh ops tb x bx=listed:=by
    refine Array.ext (by simp[bh,hz]) λj h1 h2=>?_
    have hj:j<ops.size:=by omega
    have h3:=hin j hj
    cases h4:listed[j] with
    | true =>
     have h5:=h3.1 (by simpa[h2] using h4)
     rcases h5.2 with h6|h6<;>simp[bh,h5.1,h6]
    | false =>
     have h5:¬ (isS tb j=true/\(bx=true∨j≠x)):=λh=>by
      have:=h3.2 h
      simp[h2,h4]at this
     cases hs:isS tb j with
     | false=>simp[bh,hs]
     | true =>
      have h6:¬ (bx=true∨j≠x):=λh=>h5 ⟨hs,h⟩
      have h7:bx=false:=by
       cases hb':bx with
       | false=>rfl
       | true=>exact absurd (.inl hb') h6
      have h8:j=x:=Classical.byContradiction λh=>h6 (.inr h)
      simp[bh,h7,h8]
   have h5:=hlast vals a w bx (λh=>by rw[h]at hbx;simp only[Bool.or_eq_false_iff,decide_eq_false_iff_not]at hbx;omega)
    (hI.of (λ_ _=>rfl) λj=>⟨λh=>⟨kK hz h,(hin j (kK hz h)).1 h⟩,λh=>(hin j h.1).2 h.2⟩) hb λj hj hs hx=>hH j ((hin j hj).2 ⟨hs,hx⟩)
   rw[ht]at h5
   rwa [show ops.size-listed.toList.count true=fuel+1 by omega]at h5
  ·refine⟨λh0=>?_,λi hi=>?_⟩
   ·-- something is ready: the least that is not listed
    exfalso
    have hex:∃j,j<ops.size/\listed.getD j false=false:=by
     apply Classical.byContradiction
     intro hno
     exact hall λj hj _ _=>by
      cases h1:listed.getD j false with
      | true=>rfl
      | false=>exact absurd ⟨j,hj,h1⟩ hno
    obtain⟨j,hj,hl⟩:=hex
    have:∀m j,j<=m->j<ops.size->listed.getD j false=false->False:=by
     intro m
     induction m with
     | zero =>
      intro j hm hj hl
      have hj':j<listed.size:=by omega
      have:j∈Region.ready .any ops listed:=el.2 ⟨by simpa[hj'] using hl,⟨_,Array.getElem?_eq_getElem hj⟩,λk hk=>absurd (hlow j hj k hk) (by omega)⟩
      rw[h0]at this
      cases this
     | succ m ihm =>
      intro j hm hj hl
      have hj':j<listed.size:=by omega
      have:j∈Region.ready .any ops listed:=el.2 ⟨by simpa[hj'] using hl,⟨_,Array.getElem?_eq_getElem hj⟩,λk hk=>by
       cases h1:listed.getD k false with
       | true=>rfl
       | false=>exact(ihm k (by have:=hlow j hj k hk;omega) (by have:=hlow j hj k hk;omega) h1).elim⟩
      rw[h0]at this
      cases this
    exact this j j (Nat.le_refl _) hj hl
   ·obtain⟨hun,⟨o,ho⟩,hbef⟩:=el.1 hi
    have hin:i<ops.size:=(Array.getElem?_eq_some_iff.1 ho).1
    have hil:i<listed.size:=by omega
    have hunf:listed.getD i false=false:=by simpa[hil] using hun
    have hr:=hrow i hin
    cases ht:tb[i]? with
    | none=>simp[pQ,ho,ht]at hr
    | some e =>
     cases e with
     | none =>
      exfalso
      refine hall λj hj hs hx=>?_
      simp only[pQ,ho,ht]at hr
      have h1:=List.all_eq_true.1 hr j (List.mem_range.2 hj)
      simp only[hs,Bool.not_true,Bool.false_or,beq_eq_false_iff_ne.2 hx,List.contains_iff_mem]at h1
      exact yk hcl _ _ hbef j h1
     | some rd =>
      simp only[pQ,ho,ht,Bool.and_eq_true]at hr
      obtain⟨⟨hr1,hr2⟩,hr3⟩:=hr
      have hrdl:∀p∈rd,listed.getD p.1 false=true:=λp hp=>hbef _ (by simpa using List.all_eq_true.1 hr2 p hp)
      have hcan:=jT hd rd (λ_=>False) a0 hr1 (Fw (vals:=vals))
      have hlook:∀d∈o.looksAt ops,a.tmps[d]?=(putL vals rd a0).tmps[d]?:=λd hdl=>km hd hI hcan λk hk=>by
       have h1:=List.all_eq_true.1 hr3 k (List.mem_range.2 (rJ hk))
       simp only[hk,List.contains_iff_mem.2 hdl,Bool.not_true,Bool.false_or,List.contains_iff_mem]at h1
       obtain⟨q,hq,rfl⟩:=List.mem_map.1 h1
       exact⟨λ_=>.inr h1,λ_=>hrdl q hq⟩
      have hsz:a.tmps.size=(putL vals rd a0).tmps.size:=by
       obtain⟨T,rfl,h1,_⟩:=hI
       obtain⟨U,h0,k1,_⟩:=hcan
       rw[h0]
       exact h1.trans k1.symm
      have h1:=hobl i o rd ho ht vals w hb (jU rd λp hp=>hH _ (hrdl p hp))
      have h2:wpOp P ops Bot i (λa' W'=>∃v,a'=(putL vals rd a0).put o.dst v/\(Below w.heap.size w W'/\F i v W')) (putL vals rd a0) w:=
       eH ho h1 λa' W' hb' ⟨v,hv,hF⟩=>⟨v,hv,hb',hF⟩
      have h3:=yo ho (qz (λcs b=>Region.noSelect_spec hsel i o cs b ho) hlook) (ln hlook) hsz h2
      refine js (wpOp_mono (λa' W' h4=>?_) h3)
      obtain⟨v,rfl,hbw,hF⟩:=h4
      have hset:∀j,(listed.setIfInBounds i true).getD j false=true↔listed.getD j false=true∨j=i:=λj=>by
       by_cases hji:j=i
       ·subst hji;simp[hil]
       ·rw[getD_set_ne false (Ne.symm hji)];simp[hji]
      have hdo:bH ops i=o.dst:=by simp[bH,ho]
      have hI':=rB hd i (hI.of (vals':=λj=>if j=i then v else vals j) (λj hj=>by
       by_cases hji:j=i
       ·subst hji;rw[hunf]at hj;cases hj
       ·simp[hji]) λ_=>Iff.rfl)
      simp only[if_true,hdo]at hI'
      refine ih _ (λj=>if j=i then v else vals j) _ _ (by simpa using hz) (by rw[gR hil hun];omega) (λj hj=>?_) (λj hj k hk=>?_) (hI'.of (λ_ _=>rfl) λj=>(hset j).symm) (tr hb (hbw)) λj hj=>?_
      ·rcases(hset j).1 hj with hj|rfl
       ·exact hS j hj
       ·simp[isS,ht]
      ·refine(hset k).2 (.inl ?_)
       rcases(hset j).1 hj with hj|rfl
       ·exact hcl j hj k hk
       ·exact hbef k hk
      ·rcases(hset j).1 hj with hj2|rfl
       ·by_cases hji:j=i
        ·subst hji;rw[hunf]at hj2;cases hj2
        ·simp only[hji,if_false];exact(hH j hj2).later hbw
       ·simp only[if_true];exact⟨W',Below.refl _ _,hF⟩
theorem qT {n j:Nat} (h:(Array.replicate n false).getD j false=true):False:=by
 rw[Array.getD_eq_getD_getElem?,Array.getElem?_replicate]at h
 split at h<;>cases h
theorem qH (B:Nat) (F:Nat->Value->World->Prop) {id:Nat} {Q:Exit->Act->World->Prop} {a:Act} {w:World} {l:List Oper} (tb:Tab) (x:Nat) (rdx SL:List (Nat × Option Tmp)) (p:Pl) {p':PlO} (hm:P.follows .mixedOrders=true) (hB:GL l.toArray tb x SL p=true)
  (hrx:tb.getD x none=some rdx∨l.length<=x) (hp:p.pick l.toArray=p') (h0:∀wd,Below w.heap.size w wd->wd.heap.size=w.heap.size->oI P l.toArray a wd F 0 l tb /\
   (∀vals W o,l[x]?=some o->Below wd.heap.size wd W->oL F vals W rdx->∃v,YB P l.toArray B o v (putL vals rdx a) W/\F x v W) /\
   ∀vals W,Below wd.heap.size wd W->oL F vals W SL->ei P l.toArray B (Q .normal) p' (putL vals SL a) W):(Code.region id l.toArray true).wp P Q a w:=by
 subst hp
 simp only[GL,Bool.and_eq_true,beq_iff_eq]at hB
 obtain⟨⟨⟨⟨⟨⟨⟨⟨⟨h1,h2⟩,h3⟩,h4⟩,h5⟩,h6⟩,h7⟩,h8⟩,h9⟩,hx0⟩:=hB
 obtain⟨ho,hX,hpl⟩:=h0 w.drew (Below.refl _ _).drew rfl
 have hd:=Ak h2
 have full:∀vals a' W,Inv l.toArray a vals (λj=>j<l.toArray.size/\isS tb j=true) a'->Below w.drew.heap.size w.drew W->(∀j,j<l.toArray.size->isS tb j=true->Hld F j (vals j) W)->eQ P l.toArray B (Q .normal) p.len (bh l.toArray tb x true) a' W:=by
  intro vals a' W hI hb hH
  have hcan:=jT hd SL (λ_=>False) a h5 (Fw (vals:=vals))
  have heq:a'=putL vals SL a:=by
   have hs:∀d,a'.tmps[d]?=(putL vals SL a).tmps[d]?:=λd=>km hd hI hcan λk hk=>by
    constructor
    ·rintro⟨hk1,hk2⟩
     have:=List.all_eq_true.1 h7 k (List.mem_range.2 hk1)
     simp only[hk2,Bool.not_true,Bool.false_or,List.contains_iff_mem]at this
     exact .inr this
    ·rintro(h|h)
     ·exact h.elim
     ·obtain⟨q,hq,rfl⟩:=List.mem_map.1 h
      have:=List.all_eq_true.1 h6 q hq
      simp only[Bool.and_eq_true,decide_eq_true_eq]at this
      exact⟨this.2,this.1⟩
   obtain⟨T,rfl,_,_,_⟩:=hI
   obtain⟨U,hU,_,_,_⟩:=hcan
   rw[hU]at hs ⊢
   have hTU:T=U:=Array.ext_getElem? hs
   rw[hTU]
  rw[heq]
  exact dl (P:=P) (Q:=Q .normal) h1 p _ (putL vals SL a) W h8 (hpl vals W hb (jU SL λq hq=>by
   have:=List.all_eq_true.1 h6 q hq
   simp only[Bool.and_eq_true,decide_eq_true_eq]at this
   exact hH q.1 this.2 this.1))
 refine wp_region_any hm ?_
 refine Bh (F:=F) (tb:=tb) (a0:=a) (w0:=w.drew) x h1 hd (λi hi=>List.all_eq_true.1 h3 i (List.mem_range.2 hi))
  (λi hi k hk=>by simpa using List.all_eq_true.1 (List.all_eq_true.1 h4 i (List.mem_range.2 hi)) k hk)
  (λi o rd hio hir=>by have:=r8 0 l tb ho i o rd (by simpa using hio) hir;simpa using this) ?_ _ _ (λ_=>undef) _ _ (by simp) (by simp[List.count_replicate]) (λj hj=>?_) (λj hj=>?_)
  (Inv.of (vals:=λ_=>undef) (vals':=λ_=>undef) Fw (λ_ h=>h.elim) λj=>⟨λh=>h.elim,λh=>?_⟩) (Below.refl _ _) λj hj=>?_
 ·intro vals a' W b hbx hI hb hH
  cases b with
  | true =>
   have h10:=full vals a' W (hI.of (λ_ _=>rfl) λj=>⟨λh=>⟨h.1,h.2.1⟩,λh=>⟨h.1,h.2,.inl rfl⟩⟩) hb λj hj hs=>hH j hj hs (.inl rfl)
   rw[show p.len=l.toArray.size-(bh l.toArray tb x true).toList.count true by omega]at h10
   exact eQ.sound (λ_ _ h=>h) _ _ _ _ h10
  | false =>
   have hxl:=hbx rfl
   rw[decide_eq_false (by omega),Bool.false_or]at hx0
   simp only[Bool.and_eq_true,List.contains_iff_mem]at hx0
   obtain⟨⟨hxs,hfr⟩,hrd⟩:=hx0
   have hrx':tb[x]?=some (some rdx):=by
    rcases hrx with h|h
    ·rw[List.getD_eq_getElem?_getD]at h
     cases ht:tb[x]? with
     | none=>rw[ht]at h;simp at h
     | some e=>rw[ht]at h;simp at h;rw[h]
    ·simp at hxl;omega
   obtain⟨o,ho'⟩:∃o,l.toArray[x]?=some o:=⟨_,Array.getElem?_eq_getElem hxl⟩
   have hr:=List.all_eq_true.1 h3 x (List.mem_range.2 hxl)
   simp only[pQ,ho',hrx',Bool.and_eq_true]at hr
   obtain⟨⟨hr1,hr2⟩,hr3⟩:=hr
   obtain⟨hun,_,hbef⟩:=el.1 hrd
   have hS:∀k,(bh l.toArray tb x false).getD k false=true->k<l.toArray.size/\isS tb k=true/\k≠x:=λk hk=>by
    have hkl:k<l.toArray.size:=by
     rcases Nat.lt_or_ge k (bh l.toArray tb x false).size with h|h
     ·simpa[bh] using h
     ·simp[Array.getElem?_eq_none h]at hk
    have hkl':k<l.length:=by simpa using hkl
    simp[bh,hkl']at hk
    exact⟨hkl,hk.1,hk.2⟩
   have hrdl:∀q∈rdx,q.1<l.toArray.size/\isS tb q.1=true/\q.1≠x:=λq hq=>hS _ (hbef _ (by simpa using List.all_eq_true.1 hr2 q hq))
   have hcan:=jT hd rdx (λ_=>False) a hr1 (Fw (vals:=vals))
   have hlook:∀d∈o.looksAt l.toArray,a'.tmps[d]?=(putL vals rdx a).tmps[d]?:=λd hdl=>km hd hI hcan λk hk=>by
    have h1:=List.all_eq_true.1 hr3 k (List.mem_range.2 (rJ hk))
    simp only[hk,List.contains_iff_mem.2 hdl,Bool.not_true,Bool.false_or,List.contains_iff_mem]at h1
    obtain⟨q,hq,rfl⟩:=List.mem_map.1 h1
    exact⟨λ_=>.inr h1,λ_=>⟨(hrdl q hq).1,(hrdl q hq).2.1,.inr (hrdl q hq).2.2⟩⟩
   obtain⟨v,hy,hF⟩:=hX vals W o (by simpa using ho') hb (jU rdx λq hq=>hH _ (hrdl q hq).1 (hrdl q hq).2.1 (.inr (hrdl q hq).2.2))
   have hy':YB P l.toArray B o v a' W:=hy.of_same (qz (λcs b=>Region.noSelect_spec h1 x o cs b ho') hlook) (ln hlook)
   have hset:(bh l.toArray tb x false).setIfInBounds x true=bh l.toArray tb x true:=by
    refine Array.ext (by simp[bh]) λj h1 h2=>?_
    have hj:j<l.length:=by simpa[bh] using h2
    rw[Array.getElem_setIfInBounds (by simpa[bh] using hj)]
    split
    ·next he=>subst he;simp[bh,hxs]
    ·next he=>simp[bh,Ne.symm he]
   have hdo:bH l.toArray x=o.dst:=by simp[bH,ho']
   have hI':=rB hd x (hI.of (vals':=λj=>if j=x then v else vals j) (λj hj=>by
    rcases hj.2.2 with h|h
    ·cases h
    ·simp[h]) λ_=>Iff.rfl)
   simp only[if_true,hdo]at hI'
   have h10:=full (λj=>if j=x then v else vals j) (a'.put o.dst v) W (hI'.of (λ_ _=>rfl) λj=>⟨λh=>by
     rcases h with h|rfl
     ·exact⟨h.1,h.2.1⟩
     ·exact⟨hxl,hxs⟩,λh=>by
     by_cases hjx:j=x
     ·exact .inr hjx
     ·exact .inl ⟨h.1,h.2,.inr hjx⟩⟩) hb λj hj hs=>by
    by_cases hjx:j=x
    ·subst hjx;simp only[if_true];exact⟨W,Below.refl _ _,hF⟩
    ·simp only[hjx,if_false];exact hH j hj hs (.inr hjx)
   rw[←hset]at h10
   have h11:=eQ.first ho' (Region.noSelect_spec h1) _ _ a' W (Region.free_spec ho' hfr) hrd hy' h10
   have hcnt:(bh l.toArray tb x true).toList.count true=(bh l.toArray tb x false).toList.count true+1:=by
    rw[←hset]
    exact gR (by simp[bh]at hxl ⊢;exact hxl) hun
   rw[show p.len+1=l.toArray.size-(bh l.toArray tb x false).toList.count true by omega]at h11
   exact eQ.sound (λ_ _ h=>h) _ _ _ _ h11
 ·exact(qT hj).elim
 ·exact(qT hj).elim
 ·exact(qT h).elim
 ·exact(qT hj).elim
theorem p0 (B:Nat) (F:Nat->Value->World->Prop) {id:Nat} {Q:Exit->Act->World->Prop} {a:Act} {w:World} {l:List Oper} (tb:Tab) (x:Nat) (rdx SL:List (Nat × Option Tmp)) (p:Pl) {p':PlO} (h0:∀wd,Below w.heap.size w wd->wd.heap.size=w.heap.size->oI P l.toArray a wd F 0 l tb /\
   (∀vals W o,l[x]?=some o->Below wd.heap.size wd W->oL F vals W rdx->∃v,YB P l.toArray B o v (putL vals rdx a) W/\F x v W) /\
   ∀vals W,Below wd.heap.size wd W->oL F vals W SL->ei P l.toArray B (Q .normal) p' (putL vals SL a) W) (hm:P.follows .mixedOrders=true:=by kernel_rfl) (hB:GL l.toArray tb x SL p=true:=by kernel_rfl)
  (hrx:tb.getD x none=some rdx∨l.length<=x:=by first|exact .inl rfl|exact .inr (by decide))
  (hp:p.pick l.toArray=p':=by simp only[Rf.Pl.pick,Rf.pickO,List.map_cons,List.map_nil,Rg.pickOps,List.getElem?_toArray,List.getElem?_cons_zero,List.getElem?_cons_succ,Option.getD_some];rfl):(Code.region id l.toArray true).wp P Q a w:=qH B F tb x rdx SL p hm hB hrx hp h0
end
end Go.Proofs.YtfcbghmbbjolcaaGreatDoor.Ro
