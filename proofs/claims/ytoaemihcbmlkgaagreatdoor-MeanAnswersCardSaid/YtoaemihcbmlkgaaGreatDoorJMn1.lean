/- Solutions of patterns over triples, plainly: bindings of var -/
import Derived.Test.YtoaemihcbmlkgaaGreatDoorJRowMath
namespace Go.Proofs.YtoaemihcbmlkgaaGreatDoor
open Go Go.RowKit Um Fm Mt Tx Om
namespace Mn
abbrev Bd:=ByteArray->Option Tm
def noB:Bd:=λ_=>none
def setB (β:Bd) (s:ByteArray) (t:Tm):Bd:=λx=>if x=s then some t else β x
def b1 (β:Bd) (x:Sl) (t:Tm):Option Bd:=
 if x.v.toList.isEmpty then (if x.t=t then some β else none)
 else match β x.v with
  | some o=>if o=t then some β else none
  | none=>some (setB β x.v t)
def b3 (β:Bd) (p:Pat) (t:Tp):Option Bd:=(b1 β p.s t.s).bind λβ=>(b1 β p.p t.p).bind λβ=>b1 β p.o t.o
def dfs (set:List Tp):List Pat->Bd->List Bd
 | [],β=>[β]
 | p::ps,β=>set.flatMap λt=>match b3 β p t with
  | none=>[]
  | some β'=>dfs set ps β'
def valS (σ:ByteArray->Tm) (x:Sl):Tm:=if x.v.toList.isEmpty then x.t else σ x.v
def inst (σ:ByteArray->Tm) (p:Pat):Tp:=⟨valS σ p.s,valS σ p.p,valS σ p.o⟩
def Agr (σ:ByteArray->Tm) (β:Bd):Prop:=∀s t,β s=some t->σ s=t
theorem agr_no (σ:ByteArray->Tm):Agr σ noB:=λ_ _ h=>by cases h
theorem b1_iff {β:Bd} {x:Sl} {t:Tm} {σ:ByteArray->Tm}:(∃β',b1 β x t=some β'/\Agr σ β')↔Agr σ β/\valS σ x=t:=by
 unfold b1 valS
 by_cases he:x.v.toList.isEmpty=true
 ·rw[if_pos he,if_pos he]
  by_cases ht:x.t=t
  ·rw[if_pos ht]
   constructor
   ·rintro⟨β',h,ha⟩;injection h with h;subst h;exact⟨ha,ht⟩
   ·rintro⟨ha,_⟩;exact⟨β,rfl,ha⟩
  ·rw[if_neg ht]
   constructor
   ·rintro⟨β',h,_⟩;cases h
   ·rintro⟨_,h⟩;exact absurd h ht
 ·rw[if_neg he,if_neg he]
  cases hb:β x.v with
  | some o =>
   simp only
   by_cases ho:o=t
   ·rw[if_pos ho]
    constructor
    ·rintro⟨β',h,ha⟩;injection h with h;subst h;exact⟨ha,(ha _ _ hb).trans ho⟩
    ·rintro⟨ha,_⟩;exact⟨β,rfl,ha⟩
   ·rw[if_neg ho]
    constructor
    ·rintro⟨β',h,_⟩;cases h
    ·rintro⟨ha,h⟩;exact absurd ((ha _ _ hb).symm.trans h) ho
  | none =>
   simp only
   constructor
   ·rintro⟨β',h,ha⟩
    injection h with h;subst h
    refine⟨λs u hs=>ha s u ?_,ha x.v t (by unfold setB;rw[if_pos rfl])⟩
    unfold setB
    rw[if_neg (by rintro rfl;rw[hb]at hs;cases hs)];exact hs
   ·rintro⟨ha,hv⟩
    refine⟨_,rfl,λs u hs=>?_⟩
    unfold setB at hs
    split at hs
    ·next h=>subst h;injection hs with hs;rw[hv,hs]
    ·exact ha s u hs
theorem b3_iff {β:Bd} {p:Pat} {t:Tp} {σ:ByteArray->Tm}:(∃β',b3 β p t=some β'/\Agr σ β')↔Agr σ β/\inst σ p=t:=by
 unfold b3 inst
 constructor
 ·rintro⟨β',h,ha⟩
  rw[Option.bind_eq_some_iff]at h
  obtain⟨β1,h1,h⟩:=h
  rw[Option.bind_eq_some_iff]at h
  obtain⟨β2,h2,h3⟩:=h
  obtain⟨a2,e3⟩:=b1_iff.1 ⟨_,h3,ha⟩
  obtain⟨a1,e2⟩:=b1_iff.1 ⟨_,h2,a2⟩
  obtain⟨a0,e1⟩:=b1_iff.1 ⟨_,h1,a1⟩
  exact⟨a0,by rw[e1,e2,e3]⟩
 ·rintro⟨a0,e⟩
  subst e
  obtain⟨β1,h1,a1⟩:=b1_iff.2 ⟨a0,rfl⟩
  obtain⟨β2,h2,a2⟩:=b1_iff.2 ⟨a1,rfl⟩
  obtain⟨β3,h3,a3⟩:=b1_iff.2 ⟨a2,rfl⟩
  exact⟨β3,by rw[h1,Option.bind_some,h2,Option.bind_some];exact h3,a3⟩
theorem dfs_iff {set:List Tp} {σ:ByteArray->Tm}:∀{ps:List Pat} {β:Bd},(∃β'∈dfs set ps β,Agr σ β')↔Agr σ β/\∀p∈ps,inst σ p∈set
 | [],β=>by simp[dfs]
 | p::ps,β=>by
  rw[dfs]
  constructor
  ·rintro⟨β',h,ha⟩
   rw[List.mem_flatMap]at h
   obtain⟨t,ht,h⟩:=h
   cases hb:b3 β p t with
   | none=>rw[hb]at h;cases h
   | some β1 =>
    rw[hb]at h
    obtain⟨a1,hq⟩:=dfs_iff.1 ⟨β',h,ha⟩
    obtain⟨a0,e⟩:=b3_iff.1 ⟨β1,hb,a1⟩
    refine⟨a0,λq hq'=>?_⟩
    rw[List.mem_cons]at hq'
    rcases hq' with rfl|hq'
    ·rw[e];exact ht
    ·exact hq q hq'
  ·rintro⟨a0,hq⟩
   obtain⟨β1,hb,a1⟩:=b3_iff.2 ⟨a0,rfl⟩
   obtain⟨β',h,ha⟩:=dfs_iff.2 ⟨a1,λq h=>hq q (List.mem_cons_of_mem _ h)⟩
   refine⟨β',?_,ha⟩
   rw[List.mem_flatMap]
   exact⟨inst σ p,hq p (by simp),by rw[hb];exact h⟩
theorem b1_dom {β β':Bd} {x:Sl} {t:Tm} (h:b1 β x t=some β') (s:ByteArray):(β' s).isSome=true↔(β s).isSome=true∨s∈occS [x]:=by
 unfold b1 at h
 by_cases he:x.v.toList.isEmpty=true
 ·rw[if_pos he]at h
  split at h
  ·injection h with h;subst h;rw[occ_empty [] he];simp[occS]
  ·cases h
 ·rw[if_neg he]at h
  have ho:occS [x]=[x.v]:=by rw[occ_named [] (by simpa using he)];rfl
  rw[ho,List.mem_singleton]
  cases hb:β x.v with
  | some o =>
   rw[hb]at h
   simp only at h
   split at h
   ·injection h with h;subst h
    exact⟨.inl,λh=>h.elim id λh=>by rw[h,hb];rfl⟩
   ·cases h
  | none =>
   rw[hb]at h
   simp only at h
   injection h with h;subst h
   unfold setB
   split
   ·next h=>exact⟨λ_=>.inr h,λ_=>rfl⟩
   ·next h=>exact⟨.inl,λk=>k.elim id λk=>absurd k h⟩
theorem occP_parts (p:Pat) (s:ByteArray):s∈occP p↔(s∈occS [p.s]∨s∈occS [p.p])∨s∈occS [p.o]:=by
 unfold occP
 rw[occS_cons p.s [p.p,p.o],occS_cons p.p [p.o],occS_cons p.s [],occS_cons p.p []]
 have:occS []=[]:=rfl
 rw[this]
 simp only[List.mem_append,List.append_nil,or_assoc]
theorem b3_dom {β β':Bd} {p:Pat} {t:Tp} (h:b3 β p t=some β') (s:ByteArray):(β' s).isSome=true↔(β s).isSome=true∨s∈occP p:=by
 unfold b3 at h
 rw[Option.bind_eq_some_iff]at h
 obtain⟨β1,h1,h⟩:=h
 rw[Option.bind_eq_some_iff]at h
 obtain⟨β2,h2,h3⟩:=h
 rw[b1_dom h3,b1_dom h2,b1_dom h1,occP_parts]
 simp only[or_assoc]
theorem dfs_dom {set:List Tp}:∀{ps:List Pat} {β β':Bd},β'∈dfs set ps β->∀s,(β' s).isSome=true↔(β s).isSome=true∨s∈ps.flatMap occP
 | [],β,β',h,s=>by
  rw[dfs,List.mem_singleton]at h;subst h;simp
 | p::ps,β,β',h,s=>by
  rw[dfs,List.mem_flatMap]at h
  obtain⟨t,_,h⟩:=h
  cases hb:b3 β p t with
  | none=>rw[hb]at h;cases h
  | some β1 =>
   rw[hb]at h
   rw[dfs_dom h,b3_dom hb,List.flatMap_cons,List.mem_append,or_assoc]
def Apart (a b:Bd):Prop:=∀σ,Agr σ a->¬ Agr σ b
theorem dfs_apart {set:List Tp} (hn:set.Nodup):∀(ps:List Pat) (β:Bd),(dfs set ps β).Pairwise Apart
 | [],β=>by simp[dfs]
 | p::ps,β=>by
  rw[dfs,List.pairwise_flatMap]
  refine⟨λt _=>?_,?_⟩
  ·split
   ·exact List.Pairwise.nil
   ·exact dfs_apart hn ps _
  ·refine List.Pairwise.imp ?_ hn
   intro t u htu a ha b hb σ sa sb
   cases h1:b3 β p t with
   | none=>rw[h1]at ha;cases ha
   | some β1 =>
    cases h2:b3 β p u with
    | none=>rw[h2]at hb;cases hb
    | some β2 =>
     rw[h1]at ha;rw[h2]at hb
     have e1:=(b3_iff.1 ⟨β1,h1,(dfs_iff.1 ⟨a,ha,sa⟩).1⟩).2
     have e2:=(b3_iff.1 ⟨β2,h2,(dfs_iff.1 ⟨b,hb,sb⟩).1⟩).2
     exact htu (e1.symm.trans e2)
def toS (β:Bd):ByteArray->Tm:=λs=>(β s).getD zTm
def rowB (vars:List ByteArray) (β:Bd):List Tm:=vars.map (toS β)
theorem agr_toS (β:Bd):Agr (toS β) β:=λs t h=>by unfold toS;rw[h];rfl
theorem agr_row {vars:List ByteArray} {β:Bd} {σ:ByteArray->Tm} (hd:∀s,(β s).isSome=true↔s∈vars):Agr σ β↔vars.map σ=rowB vars β:=by
 unfold rowB toS
 constructor
 ·intro h
  refine List.map_congr_left λs hs=>?_
  obtain⟨t,ht⟩:=Option.isSome_iff_exists.1 ((hd s).2 hs)
  rw[h s t ht,ht];rfl
 ·intro h s t hs
  have hm:=(hd s).1 (by rw[hs];rfl)
  have:=List.map_inj_left.1 h s hm
  rw[this,hs];rfl
def solD (set:List Tp) (ps:List Pat):List (List Tm):=(dfs set ps noB).map (rowB (varsN ps))
def Sol (vars:List ByteArray) (set:List Tp) (ps:List Pat) (r:List Tm):Prop:=∃σ:ByteArray->Tm,r=vars.map σ/\∀p∈ps,inst σ p∈set
theorem dfs_all {set:List Tp} {ps:List Pat} {β:Bd} (h:β∈dfs set ps noB) (s:ByteArray):(β s).isSome=true↔s∈varsN ps:=by
 rw[dfs_dom h]
 unfold varsN
 rw[metsN_mem]
 simp[noB]
theorem solD_iff {set:List Tp} {ps:List Pat} {r:List Tm}:r∈solD set ps↔Sol (varsN ps) set ps r:=by
 unfold solD Sol
 rw[List.mem_map]
 constructor
 ·rintro⟨β,hb,rfl⟩
  exact⟨toS β,rfl,(dfs_iff.1 ⟨β,hb,agr_toS β⟩).2⟩
 ·rintro⟨σ,rfl,h⟩
  obtain⟨β,hb,ha⟩:=dfs_iff.2 ⟨agr_no σ,h⟩
  exact⟨β,hb,((agr_row (dfs_all hb)).1 ha).symm⟩
theorem solD_nodup {set:List Tp} (hn:set.Nodup) (ps:List Pat):(solD set ps).Nodup:=by
 unfold solD
 unfold List.Nodup
 rw[List.pairwise_map]
 refine List.Pairwise.imp_of_mem ?_ (dfs_apart hn ps noB)
 intro a b ha hb hab he
 refine hab (toS a) (agr_toS a) ?_
 rw[agr_row (dfs_all hb)]
 exact he
theorem solD_row {set:List Tp} {ps:List Pat} {r:List Tm} (h:r∈solD set ps):r.length=(varsN ps).length:=by
 unfold solD at h
 obtain⟨β,_,rfl⟩:=List.mem_map.1 h
 simp[rowB]
theorem rise_nodup {l:List Tp} (h:Rise l):l.Nodup:=List.Pairwise.imp (λh=>tp_ne h) h
def fitS (x:Sl) (t:Tm):Bool:=!x.v.toList.isEmpty || decide (x.t=t)
def fitP (p:Pat) (t:Tp):Bool:=fitS p.s t.s && fitS p.p t.p && fitS p.o t.o
def cntP (set:List Tp) (p:Pat):Nat:=set.countP (fitP p)
def prodP (set:List Tp):List Pat->Nat
 | []=>1
 | p::ps=>max (cntP set p) 1*prodP set ps
theorem b1_fit {β β':Bd} {x:Sl} {t:Tm} (h:b1 β x t=some β'):fitS x t=true:=by
 unfold b1 at h
 unfold fitS
 by_cases he:x.v.toList.isEmpty=true
 ·rw[if_pos he]at h
  split at h
  ·next hx=>rw[decide_eq_true hx,Bool.or_true]
  ·cases h
 ·simp[he]
theorem b3_fit {β β':Bd} {p:Pat} {t:Tp} (h:b3 β p t=some β'):fitP p t=true:=by
 unfold b3 at h
 rw[Option.bind_eq_some_iff]at h
 obtain⟨β1,h1,h⟩:=h
 rw[Option.bind_eq_some_iff]at h
 obtain⟨β2,h2,h3⟩:=h
 unfold fitP
 rw[b1_fit h1,b1_fit h2,b1_fit h3];rfl
theorem flat_le {α β:Type} (f:α->List β) (q:α->Bool) (K:Nat) (h:∀t,(f t).length<=if q t=true then K else 0):∀l:List α,(l.flatMap f).length<=l.countP q*K
 | []=>by simp
 | t::l=>by
  have ih:=flat_le f q K h l
  have ht:=h t
  rw[List.flatMap_cons,List.length_append,List.countP_cons,Nat.add_mul]
  cases hq:q t<;>rw[hq]at ht<;>simp only[if_true,if_false,Bool.false_eq_true]at ht ⊢<;>omega
theorem prodP_pos (set:List Tp):∀ps,1<=prodP set ps
 | []=>Nat.le_refl _
 | p::ps=>by
  have h1:=prodP_pos set ps
  have h2:1<=max (cntP set p) 1:=by omega
  exact Nat.mul_le_mul h2 h1
theorem dfs_len (set:List Tp):∀(ps:List Pat) (β:Bd),(dfs set ps β).length<=prodP set ps
 | [],β=>by simp[dfs,prodP]
 | p::ps,β=>by
  rw[dfs,prodP]
  refine Nat.le_trans (flat_le _ (fitP p) (prodP set ps) (λt=>?_) set) (Nat.mul_le_mul_right _ (by unfold cntP;omega))
  cases hb:b3 β p t with
  | none=>simp
  | some β1=>rw[if_pos (b3_fit hb)];exact dfs_len set ps β1
theorem ins_cnt (q:Tp->Bool) (t:Tp):∀l:List Tp,(insTp l t).countP q<=l.countP q+(if q t=true then 1 else 0)
 | []=>by simp[insTp]
 | x::r=>by
  have ih:=ins_cnt q t r
  rw[insTp]
  split
  ·rw[List.countP_cons,List.countP_cons];omega
  ·split
   ·omega
   ·rw[List.countP_cons];exact Nat.le_refl _
theorem fold_cnt (q:Tp->Bool):∀(l out:List Tp),(l.foldl insTp out).countP q<=out.countP q+l.countP q
 | [],out=>by simp
 | t::l,out=>by
  have h1:=fold_cnt q l (insTp out t)
  have h2:=ins_cnt q t out
  rw[List.foldl_cons,List.countP_cons];omega
theorem set_cnt (l:List Tp) (p:Pat):cntP (setTp l) p<=cntP l p:=by
 have:=fold_cnt (fitP p) l []
 unfold cntP setTp
 simpa using this
theorem prodP_le {a b:List Tp} (h:∀p,cntP a p<=cntP b p):∀ps,prodP a ps<=prodP b ps
 | []=>Nat.le_refl _
 | p::ps=>Nat.mul_le_mul (by have:=h p;omega) (prodP_le h ps)
def heavyP (set:List Tp):List Pat->Nat->Bool
 | [],_=>false
 | p::ps,m=>if 1500<m*max (cntP set p) 1 then true else heavyP set ps (m*max (cntP set p) 1)
theorem heavy_le (set:List Tp):∀(ps:List Pat) (m:Nat),heavyP set ps m=false->m<=1500->m*prodP set ps<=1500
 | [],m,_,hm=>by simpa[prodP] using hm
 | p::ps,m,h,hm=>by
  rw[heavyP]at h
  split at h
  ·cases h
  ·next h1 =>
   have:=heavy_le set ps _ h (by omega)
   rw[prodP,←Nat.mul_assoc];exact this
theorem heavy_no {set:List Tp} {ps:List Pat} (h:heavyP set ps 1=false):prodP set ps<=1500:=by
 have:=heavy_le set ps 1 h (by omega)
 omega
def solP (set:List Tp) (ps:List Pat):List (List Tm):=sortK [] (solD (setTp set) ps)
theorem solP_perm (set:List Tp) (ps:List Pat):(solP set ps).Perm (solD (setTp set) ps):=List.mergeSort_perm _ _
theorem solP_nodup (set:List Tp) (ps:List Pat):(solP set ps).Nodup:=(solP_perm set ps).nodup_iff.2 (solD_nodup (rise_nodup (set_rise set)) ps)
theorem sol_set {vars:List ByteArray} {set:List Tp} {ps:List Pat} {r:List Tm}:Sol vars (setTp set) ps r↔Sol vars set ps r:=by
 unfold Sol;simp only[set_mem]
theorem solP_iff {set:List Tp} {ps:List Pat} {r:List Tm}:r∈solP set ps↔Sol (varsN ps) set ps r:=by
 rw[(solP_perm set ps).mem_iff,solD_iff,sol_set]
theorem solP_row {set:List Tp} {ps:List Pat} {r:List Tm} (h:r∈solP set ps):r.length=(varsN ps).length:=solD_row ((solP_perm set ps).mem_iff.1 h)
theorem solD_len (set:List Tp) (ps:List Pat):(solD (setTp set) ps).length<=prodP set ps:=by
 unfold solD
 rw[List.length_map]
 exact Nat.le_trans (dfs_len _ _ _) (prodP_le (set_cnt set) ps)
theorem solP_len (set:List Tp) (ps:List Pat):(solP set ps).length<=prodP set ps:=by
 rw[(solP_perm set ps).length_eq];exact solD_len set ps
end Mn
namespace Mn
theorem from_at (x:ByteArray):∀(l:List ByteArray) (i:Nat),x∈l->∃k:Nat,Lib.idxFromS l x i=((i+k:Nat):Int)/\l[k]?=some x
 | [],_,h=>by simp at h
 | a::l,i,h=>by
  unfold Lib.idxFromS
  by_cases e:a=x
  ·exact⟨0,by simp[e],by simp[e]⟩
  ·rw[if_neg e]
   obtain⟨k,h1,h2⟩:=from_at x l (i+1) (by simpa[Ne.symm e,eq_comm,e] using h)
   exact⟨k+1,by rw[h1];congr 1;omega,by simpa using h2⟩
theorem idx_atM {vars:List ByteArray} {s:ByteArray} (h:s∈vars):vars[(Lib.idxOfS vars s).toNat]?=some s:=by
 obtain⟨k,h1,h2⟩:=from_at s vars 0 h
 unfold Lib.idxOfS
 rw[h1,Nat.zero_add,Int.toNat_natCast];exact h2
theorem occ_in {ps:List Pat} {p:Pat} (hp:p∈ps):∀s∈occP p,s∈varsN ps:=λ_ hs=>varsN_mem.2 ⟨p,hp,hs⟩
end Mn
namespace Mn
def valueP (vars:List ByteArray) (row:List Tm) (x:Sl):Tm:=if x.v.toList.isEmpty=false/\hasS vars x.v=true then (row[(Lib.idxOfS vars x.v).toNat]?).getD zTm else x.t
theorem value_at {vars:List ByteArray} {σ:ByteArray->Tm} {s:ByteArray} (t:Tm) (hm:s∈vars) (he:s.toList.isEmpty=false):valueP vars (vars.map σ) ⟨s,t⟩=σ s:=by
 unfold valueP
 rw[if_pos ⟨he,hasS_iff.2 hm⟩,List.getElem?_map,idx_atM hm];rfl
theorem value_inst {vars:List ByteArray} {σ:ByteArray->Tm} {x:Sl} (hx:∀s∈occS [x],s∈vars):valueP vars (vars.map σ) x=valS σ x:=by
 obtain⟨v,t⟩:=x
 by_cases he:v.toList.isEmpty=true
 ·unfold valueP valS
  rw[if_neg (by simp[he]),if_pos he]
 ·have he2:v.toList.isEmpty=false:=by simpa using he
  rw[value_at t (hx v (by rw[occ_named [] he2];simp)) he2]
  unfold valS
  rw[if_neg he]
theorem sol_there {set:List Tp} {ps:List Pat} {r:List Tm} (h:r∈solP set ps) {p:Pat} (hp:p∈ps):(⟨valueP (varsN ps) r p.s,valueP (varsN ps) r p.p,valueP (varsN ps) r p.o⟩:Tp)∈set:=by
 obtain⟨σ,rfl,hs⟩:=solP_iff.1 h
 have hx:=occ_in hp
 rw[value_inst λs hs=>hx s ((occP_parts p s).2 (.inl (.inl hs))),value_inst λs hs=>hx s ((occP_parts p s).2 (.inl (.inr hs))),value_inst λs hs=>hx s ((occP_parts p s).2 (.inr hs))]
 exact hs p hp
theorem b1_val {β β':Bd} {x:Sl} {t v:Tm} {s:ByteArray} (h:b1 β x t=some β') (hs:β' s=some v):β s=some v∨v=t:=by
 unfold b1 at h
 split at h
 ·split at h
  ·injection h with h;subst h;exact .inl hs
  ·cases h
 ·split at h
  ·split at h
   ·injection h with h;subst h;exact .inl hs
   ·cases h
  ·injection h with h;subst h
   unfold setB at hs
   split at hs
   ·injection hs with hs;exact .inr hs.symm
   ·exact .inl hs
def inTp (v:Tm) (t:Tp):Prop:=v=t.s∨v=t.p∨v=t.o
theorem b3_val {β β':Bd} {p:Pat} {t:Tp} {v:Tm} {s:ByteArray} (h:b3 β p t=some β') (hs:β' s=some v):β s=some v∨inTp v t:=by
 unfold b3 at h
 rw[Option.bind_eq_some_iff]at h
 obtain⟨β1,h1,h⟩:=h
 rw[Option.bind_eq_some_iff]at h
 obtain⟨β2,h2,h3⟩:=h
 rcases b1_val h3 hs with h|h
 ·rcases b1_val h2 h with h|h
  ·rcases b1_val h1 h with h|h
   ·exact .inl h
   ·exact .inr (.inl h)
  ·exact .inr (.inr (.inl h))
 ·exact .inr (.inr (.inr h))
theorem dfs_val {set:List Tp}:∀{ps:List Pat} {β β':Bd},β'∈dfs set ps β->∀{s v},β' s=some v->β s=some v∨∃t∈set,inTp v t
 | [],β,β',h,s,v,hs=>by
  rw[dfs,List.mem_singleton]at h;subst h;exact .inl hs
 | p::ps,β,β',h,s,v,hs=>by
  rw[dfs,List.mem_flatMap]at h
  obtain⟨t,ht,h⟩:=h
  cases hb:b3 β p t with
  | none=>rw[hb]at h;cases h
  | some β1 =>
   rw[hb]at h
   rcases dfs_val h hs with h|h
   ·rcases b3_val hb h with h|h
    ·exact .inl h
    ·exact .inr ⟨t,ht,h⟩
   ·exact .inr h
theorem solD_val {set:List Tp} {ps:List Pat} {r:List Tm} (h:r∈solD set ps) {v:Tm} (hv:v∈r):∃t∈set,inTp v t:=by
 unfold solD at h
 obtain⟨β,hb,rfl⟩:=List.mem_map.1 h
 unfold rowB at hv
 obtain⟨s,hs,rfl⟩:=List.mem_map.1 hv
 obtain⟨u,hu⟩:=Option.isSome_iff_exists.1 ((dfs_all hb s).2 hs)
 unfold toS
 rw[hu]
 rcases dfs_val hb hu with h|h
 ·cases h
 ·exact h
theorem solP_val {set:List Tp} {ps:List Pat} {r:List Tm} (h:r∈solP set ps) {v:Tm} (hv:v∈r):∃t∈set,inTp v t:=by
 obtain⟨t,ht,h2⟩:=solD_val ((solP_perm set ps).mem_iff.1 h) hv
 exact⟨t,(set_mem set t).1 ht,h2⟩
end Mn
open Go.Maps Go.ChangeMaps Mv Mn
theorem bMapT:Tryz.prog.underlying 68=some (.map 9 26):=by kernel_rfl
theorem bMapK:Tryz.prog.underlying 9=some .string:=by kernel_rfl
theorem bMapZ (w:World):(zeroValue 26).run Tryz.prog w=.ok (.agg #[.int .i64 0,.string ⟨#[]⟩,.string ⟨#[]⟩,.string ⟨#[]⟩]) w:=by kernel_rfl
def encB (β:Bd):Fmv:=λs=>(β s).map tmV
theorem enc_set (β:Bd) (s:ByteArray) (t:Tm):putF (encB β) s (tmV t)=encB (setB β s t):=by
 funext x
 unfold putF encB setB
 by_cases h:x=s
 ·rw[if_pos h,if_pos h];rfl
 ·rw[if_neg h,if_neg h]
def delB (β:Bd) (s:ByteArray):Bd:=λx=>if x=s then none else β x
theorem enc_del (β:Bd) (s:ByteArray):delF (encB β) s=encB (delB β s):=by
 funext x
 unfold delF encB delB
 by_cases h:x=s
 ·rw[if_pos h,if_pos h];rfl
 ·rw[if_neg h,if_neg h]
theorem heap3_1 (w:World) (a b c:Obj):(((w.alloc a).alloc b).alloc c).heap[w.heap.size]?=some a:=by rw[Below.heap_alloc _ _ _ (by simp;omega)];exact heap_two_1 w a b
theorem heap3_2 (w:World) (a b c:Obj):(((w.alloc a).alloc b).alloc c).heap[w.heap.size+1]?=some b:=by rw[Below.heap_alloc _ _ _ (by simp)];exact heap_two_2 w a b
theorem heap3_3 (w:World) (a b c:Obj):(((w.alloc a).alloc b).alloc c).heap[w.heap.size+2]?=some c:=by
 have:=heap_alloc_new ((w.alloc a).alloc b) c
 simpa using this
theorem cells4 {W:World} {b:Nat} {v0 v1 v2 v3:Value} {T:TypeId} (h:W.heap[b]?=some (Obj.cells #[v0,v1,v2,v3] T (0,0))) :
  W.cell? ⟨b,0,none⟩=some v0/\W.cell? ⟨b,1,none⟩=some v1/\W.cell? ⟨b,2,none⟩=some v2/\W.cell? ⟨b,3,none⟩=some v3:=
 ⟨by rw[World.cell?,h];rfl,by rw[World.cell?,h];rfl,by rw[World.cell?,h];rfl,by rw[World.cell?,h];rfl⟩
theorem cells5 {W:World} {b:Nat} {v0 v1 v2 v3 v4:Value} {T:TypeId} (h:W.heap[b]?=some (Obj.cells #[v0,v1,v2,v3,v4] T (0,0))) :
  W.cell? ⟨b,0,none⟩=some v0/\W.cell? ⟨b,1,none⟩=some v1/\W.cell? ⟨b,2,none⟩=some v2/\W.cell? ⟨b,3,none⟩=some v3/\W.cell? ⟨b,4,none⟩=some v4:=
 ⟨by rw[World.cell?,h];rfl,by rw[World.cell?,h];rfl,by rw[World.cell?,h];rfl,by rw[World.cell?,h];rfl,by rw[World.cell?,h];rfl⟩
def freshB (β:Bd) (x:Sl):Bool:=!x.v.toList.isEmpty && (β x.v).isNone
def BindR (r:Nat) (β:Bd) (x:Sl) (t:Tm) (w:World) (e:Ending) (w':World):Prop:=
 e=.returned (.tuple #[.bool (freshB β x),.bool (b1 β x t).isSome])/\FdOf w' r (encB ((b1 β x t).getD β))/\w.grownBy w' (some r)
theorem grown_below {w w':World} {r:Nat} (h:Below w.heap.size w w'):w.grownBy w' (some r):=⟨h.os,h.tape,h.output,h.size,λk hk _=>h.block k hk⟩
theorem grown_tr {a b c:World} {r:Nat} (h:a.grownBy b (some r)) (k:b.grownBy c (some r)):a.grownBy c (some r):=
 ⟨k.os.trans h.os,k.tape.trans h.tape,k.output.trans h.output,Nat.le_trans h.size k.size,λi hi hn=>(k.block i (Nat.lt_of_lt_of_le hi h.size) hn).trans (h.block i hi hn)⟩
set_option maxHeartbeats 4000000 in
set_option maxRecDepth 100000 in
theorem mBind (r:Nat) (β:Bd) (x:Sl) (t:Tm) (w:World) (hM:FdOf w r (encB β)) :
  Calls Tryz.prog 141 #[.agg #[.map (some r)],.agg #[.string x.v,.int .i64 x.t.k,.string x.t.x,.string x.t.l,.string x.t.y],.agg #[.int .i64 t.k,.string t.x,.string t.l,.string t.y]] w (BindR r β x t w):=by
 obtain⟨v,u⟩:=x
 obtain⟨W,hW⟩:∃W:World,((w.alloc (.cells #[.map (some r)] 70)).alloc (.cells #[.string v,.int .i64 u.k,.string u.x,.string u.l,.string u.y] 41)).alloc (.cells #[.int .i64 t.k,.string t.x,.string t.l,.string t.y] 26)=W:=⟨_,rfl⟩
 have hB0:Below w.heap.size w W:=by rw[←hW];exact blw
 have hM1:=hM.on hB0
 obtain⟨t0,t1,t2,t3⟩:_/\_/\_/\_:=cells4 (W:=W) (b:=w.heap.size+2) (by rw[←hW];exact heap3_3 _ _ _ _)
 have hz:W.heap.size=w.heap.size+3:=by rw[←hW];simp
 have hG:=Lib.hid (grown_below (r:=r) hB0)
 obtain⟨res,hres⟩:∃R,BindR r β ⟨v,u⟩ t w=R:=⟨_,rfl⟩
 rw[hres]
 have heu:=λW=>run_eqTmT u t W
 simp only
 cases he:v.toList.isEmpty
 ·have hl:=run_look2 (P:=Tryz.prog) bMapT bMapK (bMapZ W) hM1 v
  rw[←hW]at hl
  cases hb:β v with
  | some o =>
   have hv:encB β v=some (tmV o):=by unfold encB;rw[hb];rfl
   rw[hv]at hl
   have heo:=λW=>run_eqTmT o t W
   have hR:∀w',FdOf w' r (encB β)->w.grownBy w' (some r)->res (.returned (.tuple #[.bool false,.bool (sameTm o t)])) w':=by
    intro w' h1 h2
    rw[←hres]
    unfold BindR freshB b1
    simp only[he,hb,Bool.false_eq_true,if_false]
    by_cases hs:o=t
    ·rw[if_pos hs,sameTm_iffT.2 hs];exact⟨rfl,h1,h2⟩
    ·rw[if_neg hs,show sameTm o t=false from by rw[←Bool.not_eq_true,sameTm_iffT];exact hs];exact⟨rfl,h1,h2⟩
   obtain⟨W2,hW2⟩:∃V:World,W.alloc (.cells #[.int .i64 o.k,.string o.x,.string o.l,.string o.y] 26)=V:=⟨_,rfl⟩
   have hB2:Below W.heap.size W W2:=by rw[←hW2];exact blw
   obtain⟨o0,o1,o2,o3⟩:_/\_/\_/\_:=cells4 (W:=W2) (b:=w.heap.size+3) (by rw[←hW2,←hz];exact heap_alloc_new _ _)
   have p0:=λd os=>cell_on o0 (below_regrown W2 d os)
   have p1:=λd os=>cell_on o1 (below_regrown W2 d os)
   have p2:=λd os=>cell_on o2 (below_regrown W2 d os)
   have p3:=λd os=>cell_on o3 (below_regrown W2 d os)
   have q0:=λd os=>cell_on (cell_on t0 hB2) (below_regrown W2 d os)
   have q1:=λd os=>cell_on (cell_on t1 hB2) (below_regrown W2 d os)
   have q2:=λd os=>cell_on (cell_on t2 hB2) (below_regrown W2 d os)
   have q3:=λd os=>cell_on (cell_on t3 hB2) (below_regrown W2 d os)
   have HB2:=Lib.hid hB2
   have HG:=Lib.hid hG.out
   rw[←hW]at hW2
   have HR:=Lib.hid hR
   have HM:=Lib.hid hM1
   have HW2:=Lib.hid hW2
   simp only[tmV,Option.getD_some,Option.isSome_some]at hl
   generalize sameTm o t=q at *
   clear hM hM1 hR hv hb hres heu hB0 hW hW2 hB2 t0 t1 t2 t3 o0 o1 o2 o3 hz
   go_enter Tryz.func141,Tryz.ntmps141
   go_wp2
   simp only[HW2.out]
   refine wrq ?_;(repeat (any_goals (go_big_quiet_step ((fail)))));all_goals (refine wqn ?_;intro d9 os9)
   have kq:=below_regrown W2 d9 os9
   clear p0 p1 p2 p3 q0 q1 q2 q3
   generalize Sort.grow (redrawn W2 d9) os9=w3 at *
   go_wp2
   exact HR.out _ ((HM.out.on HB2.out).on kq) (grown_tr HG.out (grown_below (below_tr HB2.out kq)))
  | none =>
   have hv:encB β v=none:=by unfold encB;rw[hb];rfl
   rw[hv]at hl
   have hR:∀w',FdOf w' r (putF (encB β) v (tmV t))->w.grownBy w' (some r)->res (.returned (.tuple #[.bool true,.bool true])) w':=by
    intro w' h1 h2
    rw[←hres]
    unfold BindR freshB b1
    simp only[he,hb,Bool.false_eq_true,if_false]
    rw[enc_set]at h1
    exact⟨rfl,h1,h2⟩
   have HR:=Lib.hid hR
   have hM2:FdOf (W.alloc (.cells #[.int .i64 0,.string ⟨#[]⟩,.string ⟨#[]⟩,.string ⟨#[]⟩] 26)) r (encB β):=hM1.on blw
   have hg2:w.grownBy (W.alloc (.cells #[.int .i64 0,.string ⟨#[]⟩,.string ⟨#[]⟩,.string ⟨#[]⟩] 26)) (some r):=grown_tr hG.out (grown_below blw)
   rw[←hW]at hM2 hg2
   have HM:=Lib.hid hM2
   have HG:=Lib.hid hg2
   simp only[Option.getD_none,Option.isSome_none]at hl
   clear hM hM1 hR hv hb hres heu hB0 hW t0 t1 t2 t3 hz hM2 hg2 hG
   go_enter Tryz.func141,Tryz.ntmps141
   go_wp2_with (first
    | (at_mapUpdate;refine wpList_put_fd rfl _ _ _ _ rfl bMapT bMapK rfl HM.out _ _ rfl rfl ?_;intro w4 hM4 hg4)
    | fail)
   exact HR.out _ hM4 (grown_tr HG.out hg4)
 ·have hR:∀w',FdOf w' r (encB β)->w.grownBy w' (some r)->res (.returned (.tuple #[.bool false,.bool (sameTm u t)])) w':=by
   intro w' h1 h2
   rw[←hres]
   unfold BindR freshB b1
   simp only[he,if_true]
   by_cases hs:u=t
   ·rw[if_pos hs,sameTm_iffT.2 hs];exact⟨rfl,h1,h2⟩
   ·rw[if_neg hs,show sameTm u t=false from by rw[←Bool.not_eq_true,sameTm_iffT];exact hs];exact⟨rfl,h1,h2⟩
  obtain⟨s0,s1,s2,s3,s4⟩:_/\_/\_/\_/\_:=cells5 (W:=W) (b:=w.heap.size+1) (by rw[←hW];exact heap3_2 _ _ _ _)
  have p0:=λd os=>cell_on s1 (below_regrown W d os)
  have p1:=λd os=>cell_on s2 (below_regrown W d os)
  have p2:=λd os=>cell_on s3 (below_regrown W d os)
  have p3:=λd os=>cell_on s4 (below_regrown W d os)
  have q0:=λd os=>cell_on t0 (below_regrown W d os)
  have q1:=λd os=>cell_on t1 (below_regrown W d os)
  have q2:=λd os=>cell_on t2 (below_regrown W d os)
  have q3:=λd os=>cell_on t3 (below_regrown W d os)
  have HR:=Lib.hid hR
  have HM:=Lib.hid hM1
  have HW:=Lib.hid hW
  generalize sameTm u t=q at *
  clear hM hM1 hR hres hB0 hW t0 t1 t2 t3 s0 s1 s2 s3 s4 hz
  go_enter Tryz.func141,Tryz.ntmps141
  go_wp2
  simp only[HW.out]
  refine wrq ?_;(repeat (any_goals (go_big_quiet_step ((fail)))));all_goals (refine wqn ?_;intro d9 os9)
  have kq:=below_regrown W d9 os9
  clear p0 p1 p2 p3 q0 q1 q2 q3
  generalize Sort.grow (redrawn W d9) os9=w3 at *
  go_wp2
  exact HR.out _ (HM.out.on kq) (grown_tr hG.out (grown_below kq))
end Go.Proofs.YtoaemihcbmlkgaaGreatDoor
