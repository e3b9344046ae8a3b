/- The document's solutions, plainly: rows with what is known o -/
import Derived.Test.YtfcbghmbbjolcaaGreatDoorJMnMath
namespace Go.Proofs.YtfcbghmbbjolcaaGreatDoor
open Go Go.RowKit Um Fm Mt Tx Om
namespace Mn
abbrev Pr:=List Tm × List Bool
def kn (vars:List ByteArray) (e:Pr):Bd:=λs=>if dz vars s=true/\e.2[(Lib.idxOfS vars s).toNat]?=some true then e.1[(Lib.idxOfS vars s).toNat]? else none
def rb1 (vars:List ByteArray) (e:Pr) (x:Sl) (t:Tm):Option Pr:=
 if x.v.toList.isEmpty then (if x.t=t then some e else none)
 else if e.2[(Lib.idxOfS vars x.v).toNat]?=some true then (if e.1[(Lib.idxOfS vars x.v).toNat]?=some t then some e else none)
 else some (e.1.set (Lib.idxOfS vars x.v).toNat t,e.2.set (Lib.idxOfS vars x.v).toNat true)
def rb3 (vars:List ByteArray) (e:Pr) (p:Pat) (t:Tp):Option Pr:=(rb1 vars e p.s t.s).bind λe=>(rb1 vars e p.p t.p).bind λe=>rb1 vars e p.o t.o
def iG (vars:List ByteArray) (e:Pr):Prop:=e.1.length=vars.length/\e.2.length=vars.length
theorem xR (x:ByteArray):∀(l:List ByteArray) (i:Nat),x∈l->∃k:Nat,Lib.idxFromS l x i=((i+k:Nat):Int)/\l[k]?=some x
 | [],_,h=>by simp at h
 | a::l,i,h=>by
  unfold Lib.idxFromS
  by_cases e:a=x
  ·exact⟨0,by simp[e],by simp[e]⟩
  ·rw[if_neg e]
   obtain⟨k,h1,h2⟩:=xR x l (i+1) (by simpa[Ne.symm e,eq_comm,e] using h)
   exact⟨k+1,by rw[h1];congr 1;omega,by simpa using h2⟩
theorem fU {vars:List ByteArray} {s:ByteArray} (h:s∈vars):vars[(Lib.idxOfS vars s).toNat]?=some s:=by
 obtain⟨k,h1,h2⟩:=xR s vars 0 h
 unfold Lib.idxOfS
 rw[h1,Nat.zero_add,Int.toNat_natCast];exact h2
theorem qh {vars:List ByteArray} (hn:vars.Nodup) {i j:Nat} {s:ByteArray} (hi:vars[i]?=some s) (hj:vars[j]?=some s):i=j:=by
 obtain⟨h1,e1⟩:=List.getElem?_eq_some_iff.1 hi
 obtain⟨h2,e2⟩:=List.getElem?_eq_some_iff.1 hj
 rcases Nat.lt_trichotomy i j with h|h|h
 ·exact absurd (e1.trans e2.symm) (List.pairwise_iff_getElem.1 hn i j h1 h2 h)
 ·exact h
 ·exact absurd (e2.trans e1.symm) (List.pairwise_iff_getElem.1 hn j i h2 h1 h)
theorem I8 {vars:List ByteArray} {s u:ByteArray} (h:s∈vars) (k:u∈vars) (hne:s≠u):(Lib.idxOfS vars s).toNat≠(Lib.idxOfS vars u).toNat:=by
 intro e
 have h1:=fU h
 rw[e,fU k]at h1
 injection h1 with h1
 exact hne h1.symm
theorem jB {vars:List ByteArray} {e e':Pr} {x:Sl} {t:Tm} (hf:iG vars e) (h:rb1 vars e x t=some e'):iG vars e':=by
 unfold rb1 at h
 split at h
 ·split at h
  ·injection h with h;subst h;exact hf
  ·cases h
 ·split at h
  ·split at h
   ·injection h with h;subst h;exact hf
   ·cases h
  ·injection h with h;subst h
   unfold iG
   simp only[List.length_set]
   exact hf
theorem vK {vars:List ByteArray} {e:Pr} {x:Sl} {t:Tm} (hf:iG vars e) (hx:x.v.toList.isEmpty=false->x.v∈vars):(rb1 vars e x t).map (kn vars)=b1 (kn vars e) x t:=by
 unfold rb1 b1
 by_cases he:x.v.toList.isEmpty=true
 ·rw[if_pos he,if_pos he]
  split<;>rfl
 ·have hm:=hx (by simpa using he)
  rw[if_neg he,if_neg he]
  have hat:=fU hm
  have hlt:(Lib.idxOfS vars x.v).toNat<vars.length:=(List.getElem?_eq_some_iff.1 hat).1
  by_cases hk:e.2[(Lib.idxOfS vars x.v).toNat]?=some true
  ·rw[if_pos hk]
   have hv:kn vars e x.v=e.1[(Lib.idxOfS vars x.v).toNat]?:=by unfold kn;rw[if_pos ⟨bm.2 hm,hk⟩]
   obtain⟨o,ho⟩:∃o,e.1[(Lib.idxOfS vars x.v).toNat]?=some o:=⟨_,List.getElem?_eq_getElem (by rw[hf.1];exact hlt)⟩
   rw[hv,ho]
   simp only[Option.some.injEq]
   split<;>rfl
  ·rw[if_neg hk]
   have hv:kn vars e x.v=none:=by unfold kn;rw[if_neg (λh=>hk h.2)]
   rw[hv]
   simp only[Option.map_some,Option.some.injEq]
   funext s
   unfold oW
   by_cases hs:s=x.v
   ·subst hs
    rw[if_pos rfl]
    unfold kn
    simp only
    rw[List.getElem?_set_self (by rw[hf.2];exact hlt),List.getElem?_set_self (by rw[hf.1];exact hlt),if_pos ⟨bm.2 hm,rfl⟩]
   ·rw[if_neg hs]
    unfold kn
    simp only
    by_cases hsm:s∈vars
    ·have hne:=I8 hsm hm hs
     rw[List.getElem?_set_ne (Ne.symm hne),List.getElem?_set_ne (Ne.symm hne)]
    ·rw[if_neg (λh=>hsm (bm.1 h.1)),if_neg (λh=>hsm (bm.1 h.1))]
theorem qX {vars:List ByteArray} {e e':Pr} {p:Pat} {t:Tp} (hf:iG vars e) (h:rb3 vars e p t=some e'):iG vars e':=by
 unfold rb3 at h
 rw[Option.bind_eq_some_iff]at h
 obtain⟨e1,h1,h⟩:=h
 rw[Option.bind_eq_some_iff]at h
 obtain⟨e2,h2,h3⟩:=h
 exact jB (jB (jB hf h1) h2) h3
theorem qW {vars:List ByteArray} {e:Pr} {p:Pat} {t:Tp} (hf:iG vars e) (hx:∀s∈cW p,s∈vars):(rb3 vars e p t).map (kn vars)=b3 (kn vars e) p t:=by
 have ho:∀x:Sl,(∀s∈bF [x],s∈vars)->x.v.toList.isEmpty=false->x.v∈vars:=λx h k=>h x.v (by rw[kA [] k];simp)
 have h1:=ho p.s λs hs=>hx s ((cV p s).2 (.inl (.inl hs)))
 have h2:=ho p.p λs hs=>hx s ((cV p s).2 (.inl (.inr hs)))
 have h3:=ho p.o λs hs=>hx s ((cV p s).2 (.inr hs))
 unfold rb3 b3
 rw[←vK hf h1]
 cases e1:rb1 vars e p.s t.s with
 | none=>rfl
 | some a =>
  have f1:=jB hf e1
  rw[Option.bind_some,Option.map_some,Option.bind_some,←vK f1 h2]
  cases e2:rb1 vars a p.p t.p with
  | none=>rfl
  | some b =>
   have f2:=jB f1 e2
   rw[Option.bind_some,Option.map_some,Option.bind_some,←vK f2 h3]
def known (vars D:List ByteArray):List Bool:=vars.map (dz D)
theorem xI {vars D:List ByteArray} {e:Pr} (hf:iG vars e) (hk:e.2=known vars D) (s:ByteArray):(kn vars e s).isSome=true↔s∈vars/\s∈D:=by
 unfold kn
 by_cases hs:s∈vars
 ·have hat:=fU hs
  have hlt:(Lib.idxOfS vars s).toNat<vars.length:=(List.getElem?_eq_some_iff.1 hat).1
  have hd:e.2[(Lib.idxOfS vars s).toNat]?=some (dz D s):=by rw[hk];unfold known;rw[List.getElem?_map,hat];rfl
  rw[hd]
  by_cases hD:s∈D
  ·rw[if_pos ⟨bm.2 hs,by rw[bm.2 hD]⟩,List.getElem?_eq_getElem (by rw[hf.1];exact hlt)];simp[hs,hD]
  ·rw[if_neg (λh=>hD (bm.1 (by simpa using h.2)))];simp[hD]
 ·rw[if_neg (λh=>hs (bm.1 h.1))];simp[hs]
theorem CX {vars D:List ByteArray} {e:Pr} (hn:vars.Nodup) (hf:iG vars e) (h:∀s,(kn vars e s).isSome=true↔s∈vars/\s∈D):e.2=known vars D:=by
 refine List.ext_getElem? λk=>?_
 unfold known
 rw[List.getElem?_map]
 by_cases hk:k<vars.length
 ·have hv:vars[k]?=some vars[k]:=List.getElem?_eq_getElem hk
  have hm:vars[k]∈vars:=List.getElem_mem hk
  have hi:(Lib.idxOfS vars vars[k]).toNat=k:=by
   have hat:=fU hm
   obtain⟨hlt,he⟩:=List.getElem?_eq_some_iff.1 hat
   exact qh hn hat hv
  have hs:=h vars[k]
  rw[hv,Option.map_some]
  obtain⟨b,hb⟩:∃b,e.2[k]?=some b:=⟨_,List.getElem?_eq_getElem (by rw[hf.2];exact hk)⟩
  unfold kn at hs
  rw[hi,hb]at hs
  rw[hb]
  congr 1
  cases b
  ·rw[if_neg (by simp)]at hs
   have:vars[k] ∉ D:=λhD=>by simpa using hs.2 ⟨hm,hD⟩
   exact(ij.2 this).symm
  ·rw[if_pos ⟨bm.2 hm,rfl⟩,List.getElem?_eq_getElem (by rw[hf.1];exact hk)]at hs
   exact(bm.2 (hs.1 rfl).2).symm
 ·rw[List.getElem?_eq_none (by rw[hf.2];omega),List.getElem?_eq_none (by omega)];rfl
def iC (next:List Pr) (e:Pr):List Pr:=if e.1∈next.map (·.1) then next else next++[e]
def bW (vars:List ByteArray) (set:List Tp) (p:Pat) (L:List Pr):List Pr:=L.flatMap λe=>set.filterMap (rb3 vars e p)
def iI (vars:List ByteArray) (set:List Tp) (L:List Pr) (p:Pat):List Pr:=(bW vars set p L).foldl iC []
def kr (vars:List ByteArray):Pr:=(vars.map λ_=>zTm,vars.map λ_=>false)
def bfs (vars:List ByteArray) (set:List Tp) (ps:List Pat):List Pr:=ps.foldl (iI vars set) [kr vars]
theorem uP:∀(l out:List Pr),(∀a∈out++l,∀b∈out++l,a.1=b.1->a=b)->∀e,e∈l.foldl iC out↔e∈out∨e∈l
 | [],out,_,e=>by simp
 | a::l,out,h,e=>by
  rw[List.foldl_cons]
  have hout:(∀x,x∈iC out a↔x∈out∨x=a):=by
   intro x
   unfold iC
   split
   ·next hm =>
    obtain⟨b,hb,he⟩:=List.mem_map.1 hm
    have:=h b (by simp[hb]) a (by simp) he
    subst this
    exact⟨.inl,λh=>h.elim id λh=>h ▸ hb⟩
   ·simp
  rw[uP l (iC out a) (λx hx y hy=>h x (by
   rw[List.mem_append,hout]at hx;rw[List.mem_append,List.mem_cons]
   rcases hx with (hx|hx)|hx
   ·exact .inl hx
   ·exact .inr (.inl hx)
   ·exact .inr (.inr hx)) y (by
   rw[List.mem_append,hout]at hy;rw[List.mem_append,List.mem_cons]
   rcases hy with (hy|hy)|hy
   ·exact .inl hy
   ·exact .inr (.inl hy)
   ·exact .inr (.inr hy))) e,hout,List.mem_cons,or_assoc]
theorem oG:∀(l out:List Pr),(l.foldl iC out).length<=out.length+l.length
 | [],out=>by simp
 | a::l,out=>by
  have h1:=oG l (iC out a)
  have h2:(iC out a).length<=out.length+1:=by unfold iC;split<;>simp
  rw[List.foldl_cons,List.length_cons];omega
def Lev (vars:List ByteArray) (set:List Tp) (ps:List Pat) (L:List Pr):Prop:=
 (∀e∈L,iG vars e/\e.2=known vars (ps.flatMap cW))/\∀σ,(∃e∈L,Agr σ (kn vars e))↔∀p∈ps,zJ σ p∈set
theorem qp (vars:List ByteArray) (set:List Tp):Lev vars set [] [kr vars]:=by
 refine⟨λe he=>?_,λσ=>?_⟩
 ·rw[List.mem_singleton]at he;subst he
  refine⟨⟨by simp[kr],by simp[kr]⟩,?_⟩
  show (vars.map λ_=>false)=vars.map (dz [])
  exact List.map_congr_left λs _=>(ij.2 (by simp)).symm
 ·simp only[List.mem_singleton,exists_eq_left,List.not_mem_nil,false_imp_iff,implies_true,iff_true]
  intro s t h
  unfold kn kr at h
  split at h
  ·next h1 =>
   have:=h1.2
   simp only[List.getElem?_map]at this
   cases hh:vars[(Lib.idxOfS vars s).toNat]?<;>rw[hh]at this<;>simp at this
  ·cases h
theorem uJ {vars:List ByteArray} {set:List Tp} {p:Pat} {L:List Pr} {e:Pr}:e∈bW vars set p L↔∃a∈L,∃t∈set,rb3 vars a p t=some e:=by
 unfold bW
 simp only[List.mem_flatMap,List.mem_filterMap]
theorem ow {vars:List ByteArray} (hn:vars.Nodup) {set:List Tp} {ps:List Pat} {L:List Pr} {p:Pat} (h:Lev vars set ps L) (hx:∀s∈cW p,s∈vars) {e:Pr} (he:e∈bW vars set p L):iG vars e/\e.2=known vars ((ps++[p]).flatMap cW):=by
 obtain⟨a,ha,t,_,hb⟩:=uJ.1 he
 obtain⟨hf,hk⟩:=h.1 a ha
 have hf2:=qX hf hb
 have hb2:b3 (kn vars a) p t=some (kn vars e):=by rw[←qW hf hx,hb];rfl
 refine⟨hf2,CX hn hf2 λs=>?_⟩
 rw[Eb hb2,xI hf hk,List.flatMap_append,List.mem_append]
 simp only[List.flatMap_cons,List.flatMap_nil,List.append_nil]
 constructor
 ·rintro(⟨h1,h2⟩|h1)
  ·exact⟨h1,.inl h2⟩
  ·exact⟨hx s h1,.inr h1⟩
 ·rintro⟨h1,h2|h2⟩
  ·exact .inl ⟨h1,h2⟩
  ·exact .inr h2
theorem CR {vars:List ByteArray} (hn:vars.Nodup) {set:List Tp} {ps:List Pat} {L:List Pr} {p:Pat} (h:Lev vars set ps L) (hx:∀s∈cW p,s∈vars):Lev vars set (ps++[p]) (iI vars set L p):=by
 have hm:∀e,e∈iI vars set L p↔e∈bW vars set p L:=λe=>by
  unfold iI
  rw[uP _ [] (λa ha b hb hab=>?_)]
  ·simp
  ·rw[List.nil_append]at ha hb
   have h1:=(ow hn h hx ha).2
   have h2:=(ow hn h hx hb).2
   obtain⟨a1,a2⟩:=a;obtain⟨b1,b2⟩:=b
   simp only at hab h1 h2
   rw[hab,h1,h2]
 refine⟨λe he=>ow hn h hx ((hm e).1 he),λσ=>?_⟩
 simp only[hm,uJ]
 constructor
 ·rintro⟨e,⟨a,ha,t,ht,hb⟩,hs⟩ q hq
  have hb2:b3 (kn vars a) p t=some (kn vars e):=by rw[←qW (h.1 a ha).1 hx,hb];rfl
  obtain⟨s0,e0⟩:=kX.1 ⟨_,hb2,hs⟩
  rw[List.mem_append,List.mem_singleton]at hq
  rcases hq with hq|rfl
  ·exact(h.2 σ).1 ⟨a,ha,s0⟩ q hq
  ·rw[e0];exact ht
 ·intro hq
  obtain⟨a,ha,s0⟩:=(h.2 σ).2 λq h=>hq q (by simp[h])
  obtain⟨β,hb,hs⟩:=kX.2 ⟨s0,rfl⟩
  rw[←qW (h.1 a ha).1 hx]at hb
  obtain⟨e,he,rfl⟩:=Option.map_eq_some_iff.1 hb
  exact⟨e,⟨a,ha,_,hq p (by simp),he⟩,hs⟩
theorem rn {vars:List ByteArray} (hn:vars.Nodup) {set:List Tp}:∀(qs ps:List Pat) (L:List Pr),Lev vars set ps L->(∀p∈qs,∀s∈cW p,s∈vars)->Lev vars set (ps++qs) (qs.foldl (iI vars set) L)
 | [],ps,L,h,_=>by simpa using h
 | q::qs,ps,L,h,hx=>by
  have h1:=rn hn qs (ps++[q]) _ (CR hn h (hx q (by simp))) λp hp=>hx p (List.mem_cons_of_mem _ hp)
  rw[List.foldl_cons]
  simpa using h1
theorem nd {ps:List Pat} {p:Pat} (hp:p∈ps):∀s∈cW p,s∈ae ps:=λ_ hs=>pz.2 ⟨p,hp,hs⟩
theorem Gb (set:List Tp) (ps:List Pat):Lev (ae ps) set ps (bfs (ae ps) set ps):=by
 have:=rn (eT ps) (set:=set) ps [] _ (qp _ set) λp hp=>nd hp
 simpa[bfs] using this
theorem oB (set:List Tp) (ps:List Pat) (k:Nat):Lev (ae ps) set (ps.take k) (bfs (ae ps) set (ps.take k)):=by
 have:=rn (eT ps) (set:=set) (ps.take k) [] _ (qp _ set) λp hp=>nd (List.mem_of_mem_take hp)
 simpa[bfs] using this
theorem uN (vars:List ByteArray) (set:List Tp) {ps:List Pat} {k:Nat} {p:Pat} (h:ps[k]?=some p):bfs vars set (ps.take (k+1))=iI vars set (bfs vars set (ps.take k)) p:=by
 unfold bfs
 obtain⟨hk,rfl⟩:=List.getElem?_eq_some_iff.1 h
 rw[List.take_succ_eq_append_getElem hk,List.foldl_append];rfl
theorem yd {set:List Tp} {ps:List Pat} {r:List Tm}:r∈(bfs (ae ps) set ps).map (·.1)↔Sol (ae ps) set ps r:=by
 have hL:=Gb set ps
 have key:∀e∈bfs (ae ps) set ps,∀σ,Agr σ (kn (ae ps) e)↔e.1=(ae ps).map σ:=by
  intro e he σ
  obtain⟨hf,hk⟩:=hL.1 e he
  have hd:∀s,(kn (ae ps) e s).isSome=true↔s∈ae ps:=λs=>by
   rw[xI hf hk]
   exact⟨λh=>h.1,λh=>⟨h,by rw[List.mem_flatMap];exact pz.1 h⟩⟩
  rw[rT hd,eq_comm]
  have hr:ej (ae ps) (kn (ae ps) e)=e.1:=by
   refine List.ext_getElem? λk=>?_
   unfold ej toS
   rw[List.getElem?_map]
   by_cases hlt:k<(ae ps).length
   ·have hm:(ae ps)[k]∈ae ps:=List.getElem_mem hlt
    rw[List.getElem?_eq_getElem hlt,Option.map_some]
    have hi:(Lib.idxOfS (ae ps) (ae ps)[k]).toNat=k:=by
     exact qh (eT ps) (fU hm) (List.getElem?_eq_getElem hlt)
    obtain⟨u,hu⟩:=Option.isSome_iff_exists.1 ((hd _).2 hm)
    have hu2:=hu
    unfold kn at hu2
    split at hu2
    ·rw[hi]at hu2
     rw[hu,hu2];rfl
    ·cases hu2
   ·rw[List.getElem?_eq_none (by omega),List.getElem?_eq_none (by rw[hf.1];omega)];rfl
  rw[hr]
 rw[List.mem_map]
 constructor
 ·rintro⟨e,he,rfl⟩
  have ha:∃σ,Agr σ (kn (ae ps) e):=⟨_,rS _⟩
  obtain⟨σ,ha⟩:=ha
  exact⟨σ,(key e he σ).1 ha,(hL.2 σ).1 ⟨e,he,ha⟩⟩
 ·rintro⟨σ,rfl,h⟩
  obtain⟨e,he,ha⟩:=(hL.2 σ).2 h
  exact⟨e,he,(key e he σ).1 ha⟩
theorem iQ {vars:List ByteArray} {e:Pr} {p:Pat} (hf:iG vars e) (hx:∀s∈cW p,s∈vars):∀set:List Tp,(set.filterMap (rb3 vars e p)).length<=ck set p
 | []=>by simp
 | t::l=>by
  have ih:=iQ hf hx l
  unfold ck at ih ⊢
  rw[List.countP_cons,List.filterMap_cons]
  cases hb:rb3 vars e p t with
  | none=>simp only;omega
  | some e' =>
   have hb2:b3 (kn vars e) p t=some (kn vars e'):=by rw[←qW hf hx,hb];rfl
   simp only[List.length_cons]
   rw[if_pos (Ea hb2)];omega
theorem oz {vars:List ByteArray} {set:List Tp} {p:Pat} (hx:∀s∈cW p,s∈vars):∀(L:List Pr),(∀e∈L,iG vars e)->(bW vars set p L).length<=L.length*ck set p
 | [],_=>by simp[bW]
 | e::L,h=>by
  have ih:=oz (set:=set) hx L λe he=>h e (List.mem_cons_of_mem _ he)
  have h1:=iQ (h e (by simp)) hx set
  unfold bW at ih ⊢
  rw[List.flatMap_cons,List.length_append,List.length_cons,Nat.add_mul];omega
theorem mr (set:List Tp) (ps:List Pat):∀k,k<=ps.length->(bfs (ae ps) set (ps.take k)).length<=aP set (ps.take k)
 | 0,_=>by simp[bfs,aP]
 | k+1,hk=>by
  have ih:=mr set ps k (by omega)
  obtain⟨p,hp⟩:∃p,ps[k]?=some p:=⟨_,List.getElem?_eq_getElem (by omega)⟩
  rw[uN _ _ hp]
  have h1:=oG (bW (ae ps) set p (bfs (ae ps) set (ps.take k))) []
  have h2:=oz (set:=set) (nd (List.mem_of_getElem? hp)) (bfs (ae ps) set (ps.take k)) λe he=>((oB set ps k).1 e he).1
  have e1:ps.take (k+1)=ps.take k++[p]:=by
   obtain⟨hlt,rfl⟩:=List.getElem?_eq_some_iff.1 hp
   exact List.take_succ_eq_append_getElem hlt
  rw[e1,ic]
  unfold iI
  have h3:aP set [p]=max (ck set p) 1:=by simp[aP]
  rw[h3]
  have h4:=Nat.mul_le_mul ih (show ck set p<=max (ck set p) 1 by omega)
  simp only[List.length_nil]at h1
  omega
def cH (l:List (List Tm)) (row:List Tm):List (List Tm):=if row∈l then l else l.takeWhile (λx=>decide (cmpRow x row<=0))++row::l.dropWhile (λx=>decide (cmpRow x row<=0))
def dw (l:List (List Tm)):Prop:=l.Pairwise λx y=>cmpRow x y<0
theorem yV (a b:List Tm):cmpRow a b<0∨a=b∨cmpRow b a<0:=by
 have h1:=eG.neg a b
 rcases Int.lt_trichotomy (cmpRow a b) 0 with h|h|h
 ·exact .inl h
 ·exact .inr (.inl (eG.zero a b h))
 ·exact .inr (.inr (by omega))
theorem put_mem (l:List (List Tm)) (row x:List Tm):x∈cH l row↔x∈l∨x=row:=by
 unfold cH
 split
 ·next h=>exact⟨.inl,λk=>k.elim id λk=>k ▸ h⟩
 ·conv=>rhs;rw[←List.takeWhile_append_dropWhile (p:=λx=>decide (cmpRow x row<=0)) (l:=l)]
  simp only[List.mem_append,List.mem_cons]
  constructor
  ·rintro(h|h|h)
   ·exact .inl (.inl h)
   ·exact .inr h
   ·exact .inl (.inr h)
  ·rintro((h|h)|h)
   ·exact .inl h
   ·exact .inr (.inr h)
   ·exact .inr (.inl h)
theorem Ca (row:List Tm):∀l:List (List Tm),row ∉ l->dw l->dw (l.takeWhile (λx=>decide (cmpRow x row<=0))++row::l.dropWhile (λx=>decide (cmpRow x row<=0)))
 | [],_,_=>by simp[dw]
 | x::l,hm,h=>by
  unfold dw at h ⊢
  have hc:=List.pairwise_cons.1 h
  have hxr:x≠row:=λe=>hm (by simp[e])
  by_cases hq:cmpRow x row<=0
  ·have ih:=Ca row l (λk=>hm (List.mem_cons_of_mem _ k)) hc.2
   unfold dw at ih
   rw[List.takeWhile_cons,List.dropWhile_cons,if_pos (by simpa using hq),if_pos (by simpa using hq),List.cons_append,List.pairwise_cons]
   refine⟨λy hy=>?_,ih⟩
   have:y∈l∨y=row:=by
    rw[←put_mem l row y]
    unfold cH
    rw[if_neg (λk=>hm (List.mem_cons_of_mem _ k))];exact hy
   rcases this with h1|rfl
   ·exact hc.1 y h1
   ·rcases yV x y with h2|h2|h2
    ·exact h2
    ·exact absurd h2 hxr
    ·have:=eG.neg x y;omega
  ·rw[List.takeWhile_cons,List.dropWhile_cons,if_neg (by simpa using hq),if_neg (by simpa using hq),List.nil_append,List.pairwise_cons]
   have hrx:cmpRow row x<0:=by have:=eG.neg x row;omega
   refine⟨λy hy=>?_,h⟩
   rw[List.mem_cons]at hy
   rcases hy with rfl|hy
   ·exact hrx
   ·exact eG.tr _ _ _ hrx (hc.1 y hy)
theorem vN {l:List (List Tm)} {row:List Tm} (h:dw l):dw (cH l row):=by
 unfold cH
 split
 ·exact h
 ·next hm=>exact Ca row l hm h
theorem gC:∀(rows l:List (List Tm)),dw l->dw (rows.foldl cH l)/\∀x,x∈rows.foldl cH l↔x∈l∨x∈rows
 | [],l,h=>⟨h,λx=>by simp⟩
 | r::rows,l,h=>by
  obtain⟨h1,h2⟩:=gC rows (cH l r) (vN h)
  refine⟨h1,λx=>?_⟩
  rw[List.foldl_cons,h2,put_mem,List.mem_cons,or_assoc]
theorem ES (l:List (List Tm)) (row:List Tm):(cH l row).length<=l.length+1:=by
 unfold cH
 split
 ·omega
 ·conv=>rhs;rw[←List.takeWhile_append_dropWhile (p:=λx=>decide (cmpRow x row<=0)) (l:=l)]
  simp only[List.length_append,List.length_cons];omega
theorem tl:∀(rows l:List (List Tm)),(rows.foldl cH l).length<=l.length+rows.length
 | [],l=>by simp
 | r::rows,l=>by
  have h1:=tl rows (cH l r)
  have h2:=ES l r
  rw[List.foldl_cons,List.length_cons];omega
theorem qK {l:List (List Tm)} (h:dw l):l.Nodup:=List.Pairwise.imp (λ{a b} h e=>by subst e;rw[eG.self]at h;omega) h
theorem oU {l:List (List Tm)} (h:dw l):l.Pairwise λx y=>iL [] y x=false:=List.Pairwise.imp (λ{a b} h=>by rw[ig];show cmpRow a b<=0;omega) h
theorem Bj (set:List Tp) (ps:List Pat):((bfs (ae ps) set ps).map (·.1)).foldl cH []=bi set ps:=by
 obtain⟨h1,h2⟩:=gC ((bfs (ae ps) set ps).map (·.1)) [] List.Pairwise.nil
 refine lr ?_ (oU h1)
 refine(List.perm_ext_iff_of_nodup (qK h1) (vB (vG (sV set)) ps)).2 λr=>?_
 rw[h2,sR,xg,yd]
 simp
end Mn
namespace Mn
theorem wO {β β':Bd} {x:Sl} {t v:Tm} {s:ByteArray} (h:b1 β x t=some β') (hs:β' s=some v):β s=some v∨v=t:=by
 unfold b1 at h
 split at h
 ·split at h
  ·injection h with h;subst h;exact .inl hs
  ·cases h
 ·split at h
  ·split at h
   ·injection h with h;subst h;exact .inl hs
   ·cases h
  ·injection h with h;subst h
   unfold oW at hs
   split at hs
   ·injection hs with hs;exact .inr hs.symm
   ·exact .inl hs
def Da (v:Tm) (t:Tp):Prop:=v=t.s∨v=t.p∨v=t.o
theorem IF {β β':Bd} {p:Pat} {t:Tp} {v:Tm} {s:ByteArray} (h:b3 β p t=some β') (hs:β' s=some v):β s=some v∨Da v t:=by
 unfold b3 at h
 rw[Option.bind_eq_some_iff]at h
 obtain⟨β1,h1,h⟩:=h
 rw[Option.bind_eq_some_iff]at h
 obtain⟨β2,h2,h3⟩:=h
 rcases wO h3 hs with h|h
 ·rcases wO h2 h with h|h
  ·rcases wO h1 h with h|h
   ·exact .inl h
   ·exact .inr (.inl h)
  ·exact .inr (.inr (.inl h))
 ·exact .inr (.inr (.inr h))
theorem xW {set:List Tp}:∀{ps:List Pat} {β β':Bd},β'∈dfs set ps β->∀{s v},β' s=some v->β s=some v∨∃t∈set,Da v t
 | [],β,β',h,s,v,hs=>by
  rw[dfs,List.mem_singleton]at h;subst h;exact .inl hs
 | p::ps,β,β',h,s,v,hs=>by
  rw[dfs,List.mem_flatMap]at h
  obtain⟨t,ht,h⟩:=h
  cases hb:b3 β p t with
  | none=>rw[hb]at h;cases h
  | some β1 =>
   rw[hb]at h
   rcases xW h hs with h|h
   ·rcases IF hb h with h|h
    ·exact .inl h
    ·exact .inr ⟨t,ht,h⟩
   ·exact .inr h
theorem sP {set:List Tp} {ps:List Pat} {r:List Tm} (h:r∈dy set ps) {v:Tm} (hv:v∈r):∃t∈set,Da v t:=by
 unfold dy at h
 obtain⟨β,hb,rfl⟩:=List.mem_map.1 h
 unfold ej at hv
 obtain⟨s,hs,rfl⟩:=List.mem_map.1 hv
 obtain⟨u,hu⟩:=Option.isSome_iff_exists.1 ((rL hb s).2 hs)
 unfold toS
 rw[hu]
 rcases xW hb hu with h|h
 ·cases h
 ·exact h
theorem sN {set:List Tp} {ps:List Pat} {r:List Tm} (h:r∈bi set ps) {v:Tm} (hv:v∈r):∃t∈set,Da v t:=by
 obtain⟨t,ht,h2⟩:=sP ((dE set ps).mem_iff.1 h) hv
 exact⟨t,(me set t).1 ht,h2⟩
end Mn
namespace Mn
def cj (vars:List ByteArray) (set:List Tp) (p:Pat) (L:List Pr) (k m:Nat):List Pr:=(((L.take k).flatMap λe=>set.filterMap (rb3 vars e p))++((L[k]?).toList.flatMap λe=>(set.take m).filterMap (rb3 vars e p))).foldl iC []
theorem DO {vars:List ByteArray} {set:List Tp} {p:Pat} {L:List Pr} {k m:Nat} {e:Pr} {t:Tp} (he:L[k]?=some e) (ht:set[m]?=some t) (h:rb3 vars e p t=none):cj vars set p L k (m+1)=cj vars set p L k m:=by
 unfold cj
 rw[he]
 simp only[Option.toList_some,List.flatMap_cons,List.flatMap_nil,List.append_nil]
 rw[ah ht,List.filterMap_append]
 simp[h]
theorem DN {vars:List ByteArray} {set:List Tp} {p:Pat} {L:List Pr} {k m:Nat} {e e':Pr} {t:Tp} (he:L[k]?=some e) (ht:set[m]?=some t) (h:rb3 vars e p t=some e'):cj vars set p L k (m+1)=iC (cj vars set p L k m) e':=by
 unfold cj
 rw[he]
 simp only[Option.toList_some,List.flatMap_cons,List.flatMap_nil,List.append_nil]
 rw[ah ht,List.filterMap_append,←List.append_assoc,List.foldl_append (l':=List.filterMap _ [t])]
 simp[h]
theorem DR {vars:List ByteArray} {set:List Tp} {p:Pat} {L:List Pr} {k m:Nat} {e:Pr} (he:L[k]?=some e) (hm:set.length<=m):cj vars set p L (k+1) 0=cj vars set p L k m:=by
 unfold cj
 rw[he,ah he,List.take_of_length_le hm]
 simp only[Option.toList_some,List.flatMap_cons,List.flatMap_nil,List.append_nil,List.take_zero,List.filterMap_nil,List.flatMap_append]
 rw[show ((L[k+1]?).toList.flatMap λ_=>([]:List Pr))=[] by simp,List.append_nil]
theorem Aq (vars:List ByteArray) (set:List Tp) (p:Pat) (L:List Pr):cj vars set p L 0 0=[]:=by
 unfold cj
 cases L[0]?<;>simp
theorem FU (vars:List ByteArray) (set:List Tp) (p:Pat) (L:List Pr):cj vars set p L L.length 0=iI vars set L p:=by
 unfold cj iI bW
 simp
theorem uO:∀(l out:List Pr) (e:Pr),e∈l.foldl iC out->e∈out∨e∈l
 | [],out,e,h=>.inl h
 | a::l,out,e,h=>by
  rw[List.foldl_cons]at h
  rcases uO l _ e h with h|h
  ·unfold iC at h
   split at h
   ·exact .inl h
   ·rw[List.mem_append,List.mem_singleton]at h
    rcases h with h|rfl
    ·exact .inl h
    ·exact .inr (by simp)
  ·exact .inr (List.mem_cons_of_mem _ h)
theorem FR {vars:List ByteArray} {set:List Tp} {p:Pat} {L:List Pr} {k m:Nat} {e:Pr} (h:e∈cj vars set p L k m):∃a∈L,∃t∈set,rb3 vars a p t=some e:=by
 rcases uO _ _ _ h with h|h
 ·cases h
 ·rcases List.mem_append.1 h with h|h
  ·obtain⟨a,ha,h⟩:=List.mem_flatMap.1 h
   obtain⟨t,ht,h⟩:=List.mem_filterMap.1 h
   exact⟨a,List.mem_of_mem_take ha,t,ht,h⟩
  ·obtain⟨a,ha,h⟩:=List.mem_flatMap.1 h
   obtain⟨t,ht,h⟩:=List.mem_filterMap.1 h
   exact⟨a,List.mem_of_getElem? (Option.mem_toList.1 ha),t,List.mem_of_mem_take ht,h⟩
theorem FT {vars:List ByteArray} {set:List Tp} {p:Pat} {L:List Pr} (hf:∀e∈L,iG vars e) {k m:Nat} {e:Pr} (h:e∈cj vars set p L k m):iG vars e:=by
 obtain⟨a,ha,t,_,h⟩:=FR h
 exact qX (hf a ha) h
theorem FS (vars:List ByteArray) (set:List Tp) (p:Pat) (L:List Pr) (k m:Nat):(cj vars set p L k m).length<=(bW vars set p L).length:=by
 unfold cj
 refine Nat.le_trans (oG _ _) ?_
 rw[List.length_nil,Nat.zero_add,List.length_append]
 cases he:L[k]? with
 | none =>
  have h1:L.length<=k:=List.getElem?_eq_none_iff.1 he
  rw[List.take_of_length_le h1]
  simp[bW]
 | some e =>
  have h1:L=L.take k++e::L.drop (k+1):=by
   obtain⟨hk,rfl⟩:=List.getElem?_eq_some_iff.1 he
   rw[List.getElem_cons_drop,List.take_append_drop]
  have h2:(bW vars set p L).length=(bW vars set p (L.take k++e::L.drop (k+1))).length:=by rw[←h1]
  rw[h2]
  unfold bW
  rw[List.flatMap_append,List.flatMap_cons,List.length_append,List.length_append]
  have h3:((set.take m).filterMap (rb3 vars e p)).length<=(set.filterMap (rb3 vars e p)).length:=by
   conv=>rhs;rw[←List.take_append_drop m set]
   rw[List.filterMap_append,List.length_append];omega
  simp only[Option.toList_some,List.flatMap_cons,List.flatMap_nil,List.append_nil]
  omega
theorem It {set:List Tp} {ps:List Pat} {i:Nat} {p:Pat} (hp:ps[i]?=some p) (k m:Nat):(cj (ae ps) set p (bfs (ae ps) set (ps.take i)) k m).length<=aP set ps:=by
 have h1:=FS (ae ps) set p (bfs (ae ps) set (ps.take i)) k m
 have h2:=oz (set:=set) (nd (List.mem_of_getElem? hp)) (bfs (ae ps) set (ps.take i)) λe he=>((oB set ps i).1 e he).1
 have hi:=(List.getElem?_eq_some_iff.1 hp).1
 have h3:=mr set ps i (by omega)
 have h4:=Nat.mul_le_mul h3 (show ck set p<=max (ck set p) 1 by omega)
 have h5:aP set (ps.take (i+1))=aP set (ps.take i)*max (ck set p) 1:=by
  rw[ah hp,ic]
  simp[aP]
 have h6:=fR set ps (i+1)
 omega
theorem sA {α:Type} {q:α->Bool}:∀{l:List α} {k:Nat},(∀j y,j<k->l[j]?=some y->q y=true)->(∀y,l[k]?=some y->q y=false)->l.takeWhile q=l.take k/\l.dropWhile q=l.drop k
 | [],k,_,_=>by simp
 | a::l,0,_,h=>by
  have:=h a rfl
  simp[this]
 | a::l,k+1,h,h2=>by
  have h0:=h 0 a (by omega) rfl
  obtain⟨e1,e2⟩:=sA (l:=l) (k:=k) (λj y hj hy=>h (j+1) y (by omega) (by simpa using hy)) λy hy=>h2 y (by simpa using hy)
  simp[h0,e1,e2]
theorem xw {l:List (List Tm)} {row:List Tm} {k:Nat} (hn:row ∉ l) (h:∀j y,j<k->l[j]?=some y->cmpRow y row<=0) (h2:∀y,l[k]?=some y->0<cmpRow y row):cH l row=l.take k++row::l.drop k:=by
 obtain⟨e1,e2⟩:=sA (q:=λx=>decide (cmpRow x row<=0)) (l:=l) (k:=k) (λj y hj hy=>decide_eq_true (h j y hj hy)) λy hy=>decide_eq_false (by have:=h2 y hy;omega)
 unfold cH
 rw[if_neg hn,e1,e2]
theorem zh {l:List (List Tm)} {row:List Tm} (h:row∈l):cH l row=l:=by
 unfold cH
 rw[if_pos h]
theorem yc {set:List Tp} {ps:List Pat} {r:List Tm} (h:r∈(bfs (ae ps) set ps).map (·.1)):r.length=(ae ps).length/\∀v∈r,∃t∈set,Da v t:=by
 have h1:r∈bi set ps:=Bl.2 (yd.1 h)
 exact⟨mI h1,λv hv=>sN h1 hv⟩
theorem C8 {rows:List (List Tm)} {x:List Tm} (h:x∈rows.foldl cH []):x∈rows:=by
 have:=((gC rows [] List.Pairwise.nil).2 x).1 h
 simpa using this
end Mn
open Mn Mp
theorem row_one {w:World}:∀{l:List (List Tm)} {xs:List Value},All 1 (RdRow w) xs l->∀u∈xs,u.oneCell'=true
 | [],xs,h,u,hu=>by
  have:xs=[]:=h
  subst this;cases hu
 | e::l,xs,h,u,hu=>by
  obtain⟨cs,rest,rfl,hc,⟨A,c,rfl,_,_⟩,ht⟩:=h
  rcases List.mem_append.1 hu with hu|hu
  ·rw[List.mem_singleton]at hu;subst hu;rfl
  ·exact row_one ht u hu
def IR (L:List (List Tm)) (w:World) (e:Ending) (w':World):Prop:=∃A c,e=.returned (.slice A L.length c)/\L.length<=c/\RdRs w' A L/\Below w.heap.size w w'
theorem tm {l:List (List Tm)} {row:List Tm} {k N n m d:Nat} {B A8:Option Addr} {c8:Nat} {w wq w8:World} {xs:List Value} (hall:All 1 (RdRow wq) xs l) (hm:row.length=m) (hmd:m<=d) (hr:RdTs wq B row) (hb:Below w.heap.size w wq) (hB8:Below wq.heap.size wq w8) (hrd:Rd w8 A8 (xs.take k ++ .slice B m d::xs.drop (k*1))) (hL:cH l row=l.take k++row::l.drop k) (hN:N=n+1) (hn:l.length=n) (hk:k<=n) (hc:N<=c8) :
  IR (cH l row) w (.returned (.slice A8 N c8)) w8:=by
 have h7:=hall.take k
 rw[Nat.mul_one]at h7
 have h8:All 1 (RdRow wq) (xs.take k ++ .slice B m d::xs.drop (k*1)) (cH l row):=by
  rw[hL]
  exact h7.append ⟨[.slice B m d],_,rfl,rfl,⟨B,d,by rw[hm],by omega,hr⟩,hall.drop k⟩
 have hlen:(cH l row).length=N:=by
  rw[hL,List.length_append,List.length_cons,List.length_take,List.length_drop];omega
 refine⟨A8,c8,by rw[hlen],by omega,⟨_,hrd,h8.mono λ_ _ _ h=>h.later hB8⟩,aa hb hB8⟩
set_option maxHeartbeats 8000000 in
set_option maxRecDepth 100000 in
theorem Jg (l:List (List Tm)) (row:List Tm) (A B:Option Addr) (n c m d:Nat) (w:World) (hn:l.length=n) (hm:row.length=m) (hln:n<=100000) (hnc:n<=c) (hmd:m<=d) (hz:∀y∈l,aN y) (hzr:aN row) (hw:∀y∈l,y.length=m) (hl:RdRs w A l) (hr:RdTs w B row) :
  Calls Tryz.prog 56 #[.slice A n c,.slice B m d] w (IR (cH l row) w):=by
 have hlm:m<=1000000:=by rw[←hm];exact hzr.1
 have hhas:=Gq l row A B n c m d w hn hm (by omega) hlm (λy hy=>(hz y hy).1) hl hr
 obtain⟨R,hR⟩:∃R,IR (cH l row) w=R:=⟨_,rfl⟩
 have H:=Lib.hid (And.intro hn (And.intro hm (And.intro hz (And.intro hzr (And.intro hw (And.intro hl hr))))))
 rw[hR]
 by_cases hin:row∈l
 ·rw[decide_eq_true hin]at hhas
  have HF:Hid (∀w',Below w.heap.size w w'->R (.returned (.slice A n c)) w'):=λw' hb=>by
   rw[←hR,zh hin]
   exact⟨A,c,by rw[hn],by omega,hl.later hb,hb⟩
  clear hn hm hz hzr hw hl hr hR hin
  go_enter Tryz.func56,Tryz.ntmps56
  go_wp2_with (go_at_call 55;refine hhas.mono ?_;rintro e w2 ⟨rfl,hb2⟩)
  exact HF.out _ hb2
 rw[decide_eq_false hin]at hhas
 have HNI:=Lib.hid hin
 have HR:=Lib.hid hR
 clear hn hm hz hzr hw hl hr hR hin
 go_enter Tryz.func56,Tryz.ntmps56
 go_wp2_with (go_at_call 55;refine hhas.mono ?_;rintro e w2 ⟨rfl,hb2⟩)
 have HB2:=Lib.hid hb2
 clear hb2 hhas
 go_loopw [5] (λi wr=>∃k:Nat,k<=n/\i=.int .i64 k/\Hid (∀j y,j<k->l[j]?=some y->cmpRow y row<=0)/\Hid (Below w.heap.size w wr)) (λi _=>n-(intOf i).toNat)
 case atStart=>exact⟨0,by omega,rfl,λj y hj _=>by omega,HB2.out⟩
 case round =>
  obtain⟨k,hk,rfl,HJ,HB⟩:=hrel
  obtain⟨hn,hm,hz,hzr,hw,hl,hr⟩:=H.out
  by_cases hlt:k<n
  ·obtain⟨y,hy⟩:∃y,l[k]?=some y:=⟨_,List.getElem?_eq_getElem (by omega)⟩
   have hym:=List.mem_of_getElem? hy
   obtain⟨g,o,A',c',rfl,hcy,hle,hry⟩:=(RdRs.later hl HB.out).at1 hy
   have hyl:=hw y hym
   rw[hyl]at hcy
   have hC:=zA y row m c' d A' B wr hyl hm hry (RdTs.later hr HB.out) (hz y hym) hzr
   obtain⟨z,hzz⟩:∃z,cmpRow y row=z:=⟨_,rfl⟩
   rw[hzz]at hC
   by_cases hz0:z<=0
   ·have hd:decide (z<=0)=true:=decide_eq_true hz0
    have HJ2:Hid (∀j y,j<k+1->l[j]?=some y->cmpRow y row<=0):=λj y' hj hy'=>by
     by_cases e:j=k
     ·subst e
      rw[hy]at hy'
      injection hy' with hy'
      subst hy'
      omega
     ·exact HJ.out j y' (by omega) hy'
    clear hn hm hz hzr hw hl hr hy hym hyl hry hzz hz0 hle
    go_wp2_with (go_at_call 110;refine hC.mono ?_;rintro e w3 ⟨rfl,hb3⟩)
    go_roundw
    case rel=>exact⟨k+1,by omega,by go_num,HJ2,aa HB.out hb3⟩
    case measure=>simp[intOf];omega
   ·have hd:decide (z<=0)=false:=decide_eq_false hz0
    have HX:Hid (∀y,l[k]?=some y->0<cmpRow y row):=λy' hy'=>by
     rw[hy]at hy'
     injection hy' with hy'
     subst hy'
     omega
    clear hn hm hz hzr hw hl hr hy hym hyl hry hzz hz0 hle
    go_upto_region 6 with (go_at_call 110;refine hC.mono ?_;rintro e w3 ⟨rfl,hb3⟩)
    have HB3:=Lib.hid (aa HB.out hb3)
    clear hb3 hC hcy
    obtain⟨hn,hm,hz,hzr,hw,hl,hr⟩:=H.out
    obtain⟨xs,hrd,hall⟩:=RdRs.later hl HB3.out
    have hL:=xw HNI.out HJ.out HX.out
    have hxl:xs.length=n*1:=by rw[hall.len,hn]
    have hpart:=hrd.fromG (sz:=1) (n:=n) (c:=c) (q:=k) hxl hnc hk
    have hto:=hrd.take k
    have hrun1:=ia (P:=Tryz.prog) Tryz.underlying35 Tryz.sizeOf58 (some ⟨g,o,none⟩) c k n hk
    have hrun2:=jx (P:=Tryz.prog) Tryz.underlying35 Tryz.sizeOf58 (some ⟨g,o,none⟩) c k n (by omega)
    have hin:Tryz.prog.underlying 35=some (.slice 58):=Tryz.underlying35
    have hxd:(xs.drop (k*1)).length=(n-k)*1:=by rw[List.length_drop,hxl];omega
    have hxt:(xs.take k).length=k*1:=by rw[List.length_take,hxl];omega
    have hone:=row_one hall
    have HD:=Lib.hid (λ(N c8:Nat) (A8:Option Addr) (w8:World) (h1:Below w3.heap.size w3 w8) (h2:Rd w8 A8 (xs.take k ++ .slice B m d::xs.drop (k*1))) (h3:N=n+1) (h4:N<=c8)=>tm (A8:=A8) hall hm hmd (RdTs.later hr HB3.out) HB3.out h1 h2 hL h3 hn hk h4)
    have hal2:Below w3.heap.size w3 (w3.alloc (.cells #[.slice B m d] 58)):=blw
    have ownL:=fa (w:=w3) (base:=w3.heap.size) (e:=58) (size:=1) (n:=1) (cs:=#[.slice B m d]) (Nat.le_refl _) rfl rfl (by decide)
    have hrP:=hpart.later hal2
    have HK:=Lib.hid (And.intro hone (And.intro hxd (And.intro hxt (And.intro hto hal2))))
    have hkl:(k:Int)<=(n:Int):=by omega
    have hk4:(k:Int)<=(c:Int):=by omega
    clear hn hm hz hzr hw hl hr hrd hall hL hxl hpart hto hxd hxt hone hal2 HJ HX
    go_wp2_with (first
     | (at_builtin;refine ak rfl rfl hin dj rfl (by omega) rfl ownL rfl hrP HK.out.2.1 (λu hu=>HK.out.1 u (List.mem_of_mem_drop hu)) (by omega) (by omega) (by simp) ?_;intro v15 w15 own15 hb15 hg15;obtain⟨A15,c15,rfl,_,hr15⟩:=own_slice own15;have hB15:=HK.out.2.2.2.2.trans hb15;have halE:Below w15.heap.size w15 (w15.alloc (.cells #[] 58)):=blw;have ownE:=fa (w:=w15) (base:=w15.heap.size) (e:=58) (size:=1) (n:=0) (cs:=#[]) (Nat.le_refl _) rfl rfl (by decide);have hrT:=(HK.out.2.2.2.1.later hB15).later halE;have hrR:=Lib.hid (show Rd w15 A15 (.slice B m d::xs.drop (k*1)) from by simpa using hr15);have HAE:=Lib.hid halE;have HB15:=Lib.hid hB15;clear ownL hrP hr15 own15 hb15 hg15 hB15 halE)
     | (at_builtin;with_reducible refine ak rfl rfl hin dj rfl (by omega) rfl ownE rfl hrT HK.out.2.2.1 (λu hu=>HK.out.1 u (List.mem_of_mem_take hu)) (by omega) (by omega) (by simp) ?_;intro v7 w7 own7 hb7 hg7;have hB7:=HAE.out.trans hb7;have hrR7:=hrR.out.later hB7;clear ownE hrT hg7 hb7)
     | (at_builtin;refine ak rfl rfl hin dj rfl (by omega) rfl own7 rfl hrR7 (by rw[List.length_cons,HK.out.2.1];omega) (λu hu=>(List.mem_cons.1 hu).elim (λh=>by rw[h];rfl) (λh=>HK.out.1 u (List.mem_of_mem_drop h))) (by omega) (by omega) hB7.size ?_;intro v8 w8 own8 hb8 hg8;obtain⟨A8,c8,rfl,hc8,hr8⟩:=own_slice own8;have HF:=Lib.hid (HD.out _ c8 A8 w8 (HB15.out.trans ((hB7.trans hb8).mono HB15.out.size)) hr8 (by omega) hc8);clear own8 hb8 hg8 hB7 hr8 hc8 own7 hrR7))
    rw[←HR.out]
    have h:=HF.out
    simp only[Nat.zero_add]at h
    exact h
  ·have HX:Hid (∀y,l[k]?=some y->0<cmpRow y row):=λy' hy'=>by
    rw[List.getElem?_eq_none (by omega)]at hy';cases hy'
   clear hn hm hz hzr hw hl hr
   go_upto_region 6 with fail
   obtain⟨hn,hm,hz,hzr,hw,hl,hr⟩:=H.out
   obtain⟨xs,hrd,hall⟩:=RdRs.later hl HB.out
   have hL:=xw HNI.out HJ.out HX.out
   have hxl:xs.length=n*1:=by rw[hall.len,hn]
   have hpart:=hrd.fromG (sz:=1) (n:=n) (c:=c) (q:=k) hxl hnc hk
   have hto:=hrd.take k
   have hrun1:=ia (P:=Tryz.prog) Tryz.underlying35 Tryz.sizeOf58 A c k n hk
   have hrun2:=jx (P:=Tryz.prog) Tryz.underlying35 Tryz.sizeOf58 A c k n (by omega)
   have hin:Tryz.prog.underlying 35=some (.slice 58):=Tryz.underlying35
   have hxd:(xs.drop (k*1)).length=(n-k)*1:=by rw[List.length_drop,hxl];omega
   have hxt:(xs.take k).length=k*1:=by rw[List.length_take,hxl];omega
   have hone:=row_one hall
   have HD:=Lib.hid (λ(N c8:Nat) (A8:Option Addr) (w8:World) (h1:Below wr.heap.size wr w8) (h2:Rd w8 A8 (xs.take k ++ .slice B m d::xs.drop (k*1))) (h3:N=n+1) (h4:N<=c8)=>tm (A8:=A8) hall hm hmd (RdTs.later hr HB.out) HB.out h1 h2 hL h3 hn hk h4)
   have hal2:Below wr.heap.size wr (wr.alloc (.cells #[.slice B m d] 58)):=blw
   have ownL:=fa (w:=wr) (base:=wr.heap.size) (e:=58) (size:=1) (n:=1) (cs:=#[.slice B m d]) (Nat.le_refl _) rfl rfl (by decide)
   have hrP:=hpart.later hal2
   have HK:=Lib.hid (And.intro hone (And.intro hxd (And.intro hxt (And.intro hto hal2))))
   have hkl:(k:Int)<=(n:Int):=by omega
   have hk4:(k:Int)<=(c:Int):=by omega
   clear hn hm hz hzr hw hl hr hrd hall hL hxl hpart hto hxd hxt hone hal2 HJ HX
   go_wp2_with (first
    | (at_builtin;refine ak rfl rfl hin dj rfl (by omega) rfl ownL rfl hrP HK.out.2.1 (λu hu=>HK.out.1 u (List.mem_of_mem_drop hu)) (by omega) (by omega) (by simp) ?_;intro v15 w15 own15 hb15 hg15;obtain⟨A15,c15,rfl,_,hr15⟩:=own_slice own15;have hB15:=HK.out.2.2.2.2.trans hb15;have halE:Below w15.heap.size w15 (w15.alloc (.cells #[] 58)):=blw;have ownE:=fa (w:=w15) (base:=w15.heap.size) (e:=58) (size:=1) (n:=0) (cs:=#[]) (Nat.le_refl _) rfl rfl (by decide);have hrT:=(HK.out.2.2.2.1.later hB15).later halE;have hrR:=Lib.hid (show Rd w15 A15 (.slice B m d::xs.drop (k*1)) from by simpa using hr15);have HAE:=Lib.hid halE;have HB15:=Lib.hid hB15;clear ownL hrP hr15 own15 hb15 hg15 hB15 halE)
    | (at_builtin;with_reducible refine ak rfl rfl hin dj rfl (by omega) rfl ownE rfl hrT HK.out.2.2.1 (λu hu=>HK.out.1 u (List.mem_of_mem_take hu)) (by omega) (by omega) (by simp) ?_;intro v7 w7 own7 hb7 hg7;have hB7:=HAE.out.trans hb7;have hrR7:=hrR.out.later hB7;clear ownE hrT hg7 hb7)
    | (at_builtin;refine ak rfl rfl hin dj rfl (by omega) rfl own7 rfl hrR7 (by rw[List.length_cons,HK.out.2.1];omega) (λu hu=>(List.mem_cons.1 hu).elim (λh=>by rw[h];rfl) (λh=>HK.out.1 u (List.mem_of_mem_drop h))) (by omega) (by omega) hB7.size ?_;intro v8 w8 own8 hb8 hg8;obtain⟨A8,c8,rfl,hc8,hr8⟩:=own_slice own8;have HF:=Lib.hid (HD.out _ c8 A8 w8 (HB15.out.trans ((hB7.trans hb8).mono HB15.out.size)) hr8 (by omega) hc8);clear own8 hb8 hg8 hB7 hr8 hc8 own7 hrR7))
   rw[←HR.out]
   have h:=HF.out
   simp only[Nat.zero_add]at h
   exact h
end Go.Proofs.YtfcbghmbbjolcaaGreatDoor
