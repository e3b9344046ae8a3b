/- A region that draws its order: what is read stays over steps -/
import Derived.Test.YtjldjeenfnahoaaGreatDoorJOrd2
namespace Go.Proofs.YtjldjeenfnahoaaGreatDoor.Rc
open Go Go.Sort Go.RowKit Rg Rn
structure Pre (C:World->World->Prop):Prop where
 refl:∀w,C w w
 trans:∀{a b c},C a b->C b c->C a c
theorem AJ:Pre (λ_ _=>True):=⟨λ_=>trivial,λ_ _=>trivial⟩
structure LaterC (C:World->World->Prop) (w:World) where
 W:World
 h:C w W
class IsPre (C:World->World->Prop):Prop where
 pre:Pre C
instance:IsPre (λ_ _=>True):=⟨AJ⟩
instance {C:World->World->Prop} [h:IsPre C] {w:World}:Inhabited (LaterC C w):=⟨⟨w,h.pre.refl w⟩⟩
abbrev rJ (C:World->World->Prop) (w:World):World->Prop:=λw'=>∃p:LaterC C w,w'=p.W
section
variable {P:Program} {ops:Array Oper}
def YB (P:Program) (ops:Array Oper) (C:World->World->Prop) (o:Oper) (v:Value) (a:Act) (w:World):Prop:=
 (Region.wanted o (yielded ops a.tmps)=true/\∀W,C w W->(execOp a.eval o).run P W=.ok (.value v) W) ∨
 (Region.wanted o (yielded ops a.tmps)=false/\v=undef)
theorem YB.later {C:World->World->Prop} (hC:Pre C) {o:Oper} {v:Value} {a:Act} {w w':World} (h:YB P ops C o v a w) (hb:C w w'):YB P ops C o v a w':=
 h.imp (λ⟨h1,h2⟩=>⟨h1,λW hW=>h2 W (hC.trans hb hW)⟩) id
theorem YB.of_same {C:World->World->Prop} {o:Oper} {v:Value} {a a':Act} {w:World} (hy:YB P ops C o v a w) (he:execOp a'.eval o=execOp a.eval o)
  (hw:Region.wanted o (yielded ops a'.tmps)=Region.wanted o (yielded ops a.tmps)):YB P ops C o v a' w:=by
 unfold YB at *
 rw[he,hw]
 exact hy
theorem YB.wpOp {C:World->World->Prop} (hC:Pre C) {i:Nat} {o:Oper} {v:Value} {a:Act} {w:World} (hi:ops[i]?=some o) (hy:YB P ops C o v a w)
  {K:Act->World->Prop} (h:K (a.put o.dst v) w):wpOp P ops Bot i K a w:=by
 unfold Go.wpOp
 simp only[hi]
 rcases hy with ⟨hw,hv⟩|⟨hw,rfl⟩
 ·simp only[hw,if_true,Oper.wp,hv w (hC.refl _),Oper.upon];exact .inl h
 ·simp only[hw,Bool.false_eq_true,if_false];exact h
theorem dK {C:World->World->Prop} {j:Nat} {oi oj:Oper} {v:Value} (hj:ops[j]?=some oj) (hap:oi.apart ops oj=true)
  (hsi:∀cs b,oi.op≠.select cs b) (hsj:∀cs b,oj.op≠.select cs b) {K:Act->World->Prop} {a:Act} {w W:World}
  (hy:YB P ops C oi v a w) (h:wpOp P ops Bot j K (a.put oi.dst v) W) :
  wpOp P ops Bot j (λa' w'=>YB P ops C oi v a' w/\K (a'.put oi.dst v) w') a W:=by
 obtain⟨h1,h2,h3⟩:=Oper.apart_spec hap
 have keep:∀(a:Act),YB P ops C oi v a w->∀u,YB P ops C oi v (a.put oj.dst u) w:=λa hy u =>
  hy.of_same (execOp_put oi hsi a oj.dst u h3) (wanted_put oi a oj.dst u h3)
 have keepD:∀d,YB P ops C oi v {a with defers:=d::a.defers} w:=λd=>hy.of_same rfl rfl
 unfold wpOp at *
 simp only[hj]at *
 rw[wanted_put oj a oi.dst v h1]at h
 split
 ·rename_i hw
  simp only[hw,if_true]at h
  rcases h with h|⟨_,_,_,hf⟩
  case inr=>exact hf.elim
  refine .inl ?_
  unfold Oper.wp at *
  rw[execOp_put oj hsj a oi.dst v h1]at h
  generalize (execOp a.eval oj).run P W=r at *
  cases r with
  | ok n w' =>
   cases n<;>simp only[Oper.upon]at h ⊢
   case value u=>exact⟨keep a hy u,by rw[←Act.put_comm a v u h2];exact h⟩
   case skip=>exact⟨keep a hy _,by rw[←Act.put_comm a v undef h2];exact h⟩
   case defer d =>
    refine⟨keep _ (keepD d) _,?_⟩
    rw[←Act.put_comm _ v undef h2,←Act.put_defers]
    exact h
   case enter f args =>
    refine Calls.mono h λe w'' he=>?_
    cases e with
    | returned u=>exact⟨keep a hy u,by rw[←Act.put_comm a v u h2];exact he⟩
    | panicked c=>exact he.elim
    | outgrown=>obtain⟨_,_,hf⟩:=he;exact hf.elim
   case row row args=>exact Rows.mono h λu w'' he=>⟨keep a hy u,by rw[←Act.put_comm a v u h2];exact he⟩
  | halt x w' =>
   cases x<;>simp only[Oper.upon]at h ⊢
   case panic u=>exact h.elim
 ·rename_i hw
  simp only[hw]at h
  exact⟨keep a hy _,by rw[←Act.put_comm a v undef h2];exact h⟩
theorem cB {C:World->World->Prop} {o:Oper} {a:Act} {w:World} {K:Act->Prop} (hq:jh o=true)
  (h:if Region.wanted o (yielded ops a.tmps) then o.quiet P a (rJ C w) K else K (a.put o.dst undef)):∃v,YB P ops C o v a w/\K (a.put o.dst v):=by
 by_cases hw:Region.wanted o (yielded ops a.tmps)=true
 ·rw[if_pos hw]at h
  obtain⟨v,h1,h2⟩:=h
  refine⟨v,.inl ⟨hw,λW hW=>?_⟩,h2⟩
  have h3:=h1 W ⟨⟨W,hW⟩,rfl⟩
  unfold Oper.quietAt at h3
  generalize hr:(execOp a.eval o).run P W=r at h3
  cases r with
  | ok n w' =>
   obtain⟨x,rfl⟩:=fp hq hr
   simp only[Oper.quietUpon]at h3
   obtain⟨rfl,rfl⟩:=h3
   rfl
  | halt x w'=>simp only[Oper.quietUpon]at h3
 ·rw[if_neg hw]at h
  exact⟨undef,.inr ⟨by simpa using hw,rfl⟩,h⟩
def bv (P:Program) (ops:Array Oper) (C:World->World->Prop) (Ls:List Nat) (Q:Act->World->Prop):Nat->Array Bool->Act->World->Prop
 | 0,listed,a,w=>Region.ready .any ops listed=[]/\Q a w
 | fuel+1,listed,a,w=>(Region.ready .any ops listed=[]->Q a w) /\
   ∀i∈Region.ready .any ops listed,wpOp P ops Bot i (λa' W'=>(i∈Ls∨C w W')/\bv P ops C Ls Q fuel (listed.setIfInBounds i true) a' W') a w
theorem bv.sound {C:World->World->Prop} {Ls:List Nat} {Q:Act->World->Prop} {Q':Exit->Act->World->Prop} (hQ:∀a w,Q a w->Q' .normal a w):∀(fuel:Nat) (listed:Array Bool) (a:Act) (w:World),
  bv P ops C Ls Q fuel listed a w->wpAny P .any ops Q' fuel listed a w
 | 0,_,_,_,h=>⟨h.1,hQ _ _ h.2⟩
 | fuel+1,_,a,w,h=>by
  obtain⟨h0,h1⟩:=h
  exact⟨λe=>hQ _ _ (h0 e),λi hi=>iq (wpOp_mono (λa' W' h2=>bv.sound hQ fuel _ a' W' h2.2) (h1 i hi))⟩
theorem sI {C:World->World->Prop} (hC:Pre C) {Ls:List Nat} {Q:Act->World->Prop} {i:Nat} {oi:Oper} {v:Value} (hi:ops[i]?=some oi) (hsel:∀(j:Nat) (o:Oper) cs b,ops[j]?=some o->o.op≠.select cs b) :
  ∀(fuel:Nat) (listed:Array Bool) (a:Act) (w:World),
   (∀j oj,ops[j]?=some oj->j≠i->listed.getD j true=false->(∀e∈oj.after,Region.binds .any e=true->e.on≠i)->oi.apart ops oj=true) ->
   (∀L∈Ls,Holds ops L i listed)->i∈Region.ready .any ops listed->YB P ops C oi v a w ->
   bv P ops C Ls Q fuel (listed.setIfInBounds i true) (a.put oi.dst v) w->bv P ops C Ls Q (fuel+1) listed a w:=by
 intro fuel
 induction fuel with
 | zero =>
  intro listed a w _ _ hr hy H
  refine⟨λh=>(by rw[h]at hr;cases hr),λj hj=>?_⟩
  by_cases hji:j=i
  ·subst hji;exact hy.wpOp hC hi ⟨.inr (hC.refl _),H⟩
  ·have:=ready_mono hj hji
   rw[H.1]at this
   cases this
 | succ fuel ih =>
  intro listed a w hfree hho hr hy H
  refine⟨λh=>(by rw[h]at hr;cases hr),λj hj=>?_⟩
  by_cases hji:j=i
  ·subst hji;exact hy.wpOp hC hi ⟨.inr (hC.refl _),H⟩
  ·have hjL:j ∉ Ls:=λhm=>(hho j hm).open_ hji hj rfl
   have h1:=H.2 j (ready_mono hj hji)
   obtain⟨hjun,oj,hoj,hall⟩:=mem_ready.1 hj
   have hnot:∀e∈oj.after,Region.binds .any e=true->e.on≠i:=λe he hb heq=>by
    have h1:=hall e he hb
    have h0:=(mem_ready.1 hr).1
    rw[heq]at h1
    rcases Nat.lt_or_ge i listed.size with h'|h'
    ·simp[h']at h0 h1;rw[h0]at h1;cases h1
    ·simp[Array.getElem?_eq_none h']at h1
   have h2:=dK hoj (hfree j oj hoj hji hjun hnot) (λcs b=>hsel i oi cs b hi) (λcs b=>hsel j oj cs b hoj) hy h1
   have hfree':∀k ok,ops[k]?=some ok->k≠i->(listed.setIfInBounds j true).getD k true=false ->
     (∀e∈ok.after,Region.binds .any e=true->e.on≠i)->oi.apart ops ok=true:=λk ok hk hki hun hno=>by
    refine hfree k ok hk hki ?_ hno
    by_cases hjk:j=k
    ·subst hjk;exact hjun
    ·rw[getD_set_ne true hjk]at hun;exact hun
   refine wpOp_mono (λa' W' h3=>?_) h2
   obtain⟨hy',hb1,h4⟩:=h3
   have hb1':=hb1.resolve_left hjL
   refine⟨hb1,ih (listed.setIfInBounds j true) a' W' hfree' (λL hL=>(hho L hL).set hji hj) (ready_mono hr (Ne.symm hji)) (hy'.later hC hb1') ?_⟩
   rw[Array.setIfInBounds_comm _ _ hji]
   exact h4
theorem sM {C:World->World->Prop} (hC:Pre C) {Ls:List Nat} {Q:Act->World->Prop} {i:Nat} {oi:Oper} {v:Value} (hi:ops[i]?=some oi) (hsel:∀(j:Nat) (o:Oper) cs b,ops[j]?=some o->o.op≠.select cs b) :
  ∀(fuel:Nat) (listed:Array Bool) (a:Act) (w:World),
   (∀j oj,ops[j]?=some oj->j≠i->listed.getD j true=false->(∀e∈oj.after,Region.binds .any e=true->e.on≠i)->oi.apart ops oj=true) ->
   i∈Region.ready .any ops listed->YB P ops (λ_ _=>True) oi v a w ->
   bv P ops C Ls Q fuel (listed.setIfInBounds i true) (a.put oi.dst v) w->bv P ops C Ls Q (fuel+1) listed a w:=by
 intro fuel
 induction fuel with
 | zero =>
  intro listed a w _ hr hy H
  refine⟨λh=>(by rw[h]at hr;cases hr),λj hj=>?_⟩
  by_cases hji:j=i
  ·subst hji;exact hy.wpOp AJ hi ⟨.inr (hC.refl _),H⟩
  ·have:=ready_mono hj hji
   rw[H.1]at this
   cases this
 | succ fuel ih =>
  intro listed a w hfree hr hy H
  refine⟨λh=>(by rw[h]at hr;cases hr),λj hj=>?_⟩
  by_cases hji:j=i
  ·subst hji;exact hy.wpOp AJ hi ⟨.inr (hC.refl _),H⟩
  ·have h1:=H.2 j (ready_mono hj hji)
   obtain⟨hjun,oj,hoj,hall⟩:=mem_ready.1 hj
   have hnot:∀e∈oj.after,Region.binds .any e=true->e.on≠i:=λe he hb heq=>by
    have h1:=hall e he hb
    have h0:=(mem_ready.1 hr).1
    rw[heq]at h1
    rcases Nat.lt_or_ge i listed.size with h'|h'
    ·simp[h']at h0 h1;rw[h0]at h1;cases h1
    ·simp[Array.getElem?_eq_none h']at h1
   have h2:=dK hoj (hfree j oj hoj hji hjun hnot) (λcs b=>hsel i oi cs b hi) (λcs b=>hsel j oj cs b hoj) hy h1
   have hfree':∀k ok,ops[k]?=some ok->k≠i->(listed.setIfInBounds j true).getD k true=false ->
     (∀e∈ok.after,Region.binds .any e=true->e.on≠i)->oi.apart ops ok=true:=λk ok hk hki hun hno=>by
    refine hfree k ok hk hki ?_ hno
    by_cases hjk:j=k
    ·subst hjk;exact hjun
    ·rw[getD_set_ne true hjk]at hun;exact hun
   refine wpOp_mono (λa' W' h3=>?_) h2
   obtain⟨hy',hb1,h4⟩:=h3
   refine⟨hb1,ih (listed.setIfInBounds j true) a' W' hfree' (ready_mono hr (Ne.symm hji)) (hy'.later AJ trivial) ?_⟩
   rw[Array.setIfInBounds_comm _ _ hji]
   exact h4
theorem cQ {C:World->World->Prop} (hC:Pre C) {Ls:List Nat} {Q:Act->World->Prop} (hs:Region.noSelect ops=true) {w:World} {K:Act->Prop} {fuel:Nat} {l':Array Bool} (hK:∀a,K a->bv P ops C Ls Q fuel l' a w) :
  ∀(is:List Nat) (listed:Array Bool) (a:Act),aA ops is listed=some l'->Rs.holdSeq ops Ls is listed=true->wpQuiet P ops (rJ C w) K (pickOps ops is) a->bv P ops C Ls Q (is.length+fuel) listed a w
 | [],listed,a,hq,_,h=>by
  simp only[aA,Option.some.injEq]at hq
  subst hq
  simp only[List.length_nil,Nat.zero_add]
  exact hK a h
 | i::is,listed,a,hq,hh,h=>by
  simp only[Rs.holdSeq,Bool.and_eq_true,List.all_eq_true]at hh
  simp only[aA]at hq
  split at hq
  case isFalse=>cases hq
  rename_i hc
  simp only[Bool.and_eq_true]at hc
  obtain⟨⟨hr,hf⟩,hb⟩:=hc
  cases ho:ops[i]? with
  | none=>simp[ho]at hb
  | some o =>
   simp only[ho,Option.map_some,Option.getD_some]at hb
   simp only[pickOps,List.map_cons,ho,Option.getD_some]at h
   obtain⟨v,hy,hn⟩:=cB (K:=wpQuiet P ops (rJ C w) K (pickOps ops is)) hb h
   have:=cQ hC hs hK is _ _ hq hh.2 hn
   rw[List.length_cons,Nat.add_right_comm]
   exact sI hC ho (Region.noSelect_spec hs) _ listed a w (Region.free_spec ho hf) (λL hL=>holds_of (hh.1 L hL)) (by simpa using hr) hy this
theorem cT {C:World->World->Prop} (hC:Pre C) {Ls:List Nat} {Q:Act->World->Prop} (hs:Region.noSelect ops=true) {w:World} {K:Act->Prop} {fuel:Nat} {l':Array Bool} (hK:∀a,K a->bv P ops C Ls Q fuel l' a w) :
  ∀(is:List Nat) (listed:Array Bool) (a:Act),aA ops is listed=some l'->wpQuiet P ops (rJ (λ_ _=>True) w) K (pickOps ops is) a->bv P ops C Ls Q (is.length+fuel) listed a w
 | [],listed,a,hq,h=>by
  simp only[aA,Option.some.injEq]at hq
  subst hq
  simp only[List.length_nil,Nat.zero_add]
  exact hK a h
 | i::is,listed,a,hq,h=>by
  simp only[aA]at hq
  split at hq
  case isFalse=>cases hq
  rename_i hc
  simp only[Bool.and_eq_true]at hc
  obtain⟨⟨hr,hf⟩,hb⟩:=hc
  cases ho:ops[i]? with
  | none=>simp[ho]at hb
  | some o =>
   simp only[ho,Option.map_some,Option.getD_some]at hb
   simp only[pickOps,List.map_cons,ho,Option.getD_some]at h
   obtain⟨v,hy,hn⟩:=cB (K:=wpQuiet P ops (rJ (λ_ _=>True) w) K (pickOps ops is)) hb h
   have:=cT hC hs hK is _ _ hq hn
   rw[List.length_cons,Nat.add_right_comm]
   exact sM hC ho (Region.noSelect_spec hs) _ listed a w (Region.free_spec ho hf) (by simpa using hr) hy this
def bd (P:Program) (ops:Array Oper) (C:World->World->Prop) (Q:Act->World->Prop):List (Nat × List Oper)->Act->World->Prop
 | [],a,w=>Q a w
 | (0,l)::r,a,w=>wpQuiet P ops (rJ C w) (λa'=>bd P ops C Q r a' w) l a
 | (1,l)::r,a,w=>wpList P ops (Exit.then (λa' W'=>C w W'/\bd P ops C Q r a' W') Bot) l a w
 | (2,l)::r,a,w=>wpList P ops (Exit.then (λa' W'=>bd P ops C Q r a' W') Bot) l a w
 | (_+3,l)::r,a,w=>wpQuiet P ops (rJ (λ_ _=>True) w) (λa'=>bd P ops C Q r a' w) l a
theorem st_quiet {C:World->World->Prop} {Q:Act->World->Prop} {l:List Oper} {r:List (Nat × List Oper)} {a:Act} {w:World} (h:wpQuiet P ops (rJ C w) (λa'=>bd P ops C Q r a' w) l a):bd P ops C Q ((0,l)::r) a w:=h
theorem st_one {C:World->World->Prop} {Q:Act->World->Prop} {l:List Oper} {r:List (Nat × List Oper)} {a:Act} {w:World} (h:wpList P ops (Exit.then (λa' W'=>C w W'/\bd P ops C Q r a' W') Bot) l a w):bd P ops C Q ((1,l)::r) a w:=h
theorem st_free {C:World->World->Prop} {Q:Act->World->Prop} {l:List Oper} {r:List (Nat × List Oper)} {a:Act} {w:World} (h:wpList P ops (Exit.then (λa' W'=>bd P ops C Q r a' W') Bot) l a w):bd P ops C Q ((2,l)::r) a w:=h
theorem st_done {C:World->World->Prop} {Q:Act->World->Prop} {a:Act} {w:World} (h:Q a w):bd P ops C Q [] a w:=h
theorem eQ {C:World->World->Prop} (hC:Pre C) {Ls:List Nat} {Q:Act->World->Prop} (hs:Region.noSelect ops=true):∀(p:List (Nat × List Nat)) (listed:Array Bool) (a:Act) (w:World),
  Rs.st7 ops Ls p listed=true->bd P ops C Q (p.map λx=>(x.1,pickOps ops x.2)) a w->bv P ops C Ls Q (qH p) listed a w
 | [],listed,a,w,hB,h=>by
  simp only[Rs.st7,List.isEmpty_iff]at hB
  exact⟨hB,h⟩
 | (0,is)::r,listed,a,w,hB,h=>by
  simp only[Rs.st7]at hB
  cases hq:aA ops is listed with
  | none=>simp[hq]at hB
  | some l' =>
   simp only[hq,Bool.and_eq_true]at hB
   simp only[List.map_cons,bd]at h
   exact cQ hC hs (λa' ha'=>eQ hC hs r l' a' w hB.2 ha') is listed a hq hB.1 h
 | (3,is)::r,listed,a,w,hB,h=>by
  simp only[Rs.st7]at hB
  cases hq:aA ops is listed with
  | none=>simp[hq]at hB
  | some l' =>
   simp only[hq]at hB
   simp only[List.map_cons,bd]at h
   exact cT hC hs (λa' ha'=>eQ hC hs r l' a' w hB ha') is listed a hq h
 | (1,[i])::r,listed,a,w,hB,h=>by
  simp only[Rs.st7,Bool.and_eq_true,beq_iff_eq]at hB
  obtain⟨⟨hr,ho⟩,hB⟩:=hB
  obtain⟨oi,ho⟩:=Option.isSome_iff_exists.1 ho
  simp only[List.map_cons,List.map_nil,bd,pickOps,ho,Option.getD_some]at h
  show bv P ops C Ls Q (1+qH r) listed a w
  rw[Nat.add_comm]
  refine⟨λh0=>(by rw[hr]at h0;cases h0),λj hj=>?_⟩
  rw[hr]at hj
  simp only[List.mem_singleton]at hj
  subst hj
  exact Rl.last_step ho h λa' W' hg=>⟨.inr hg.1,eQ hC hs r _ a' W' hB hg.2⟩
 | (2,[i])::r,listed,a,w,hB,h=>by
  simp only[Rs.st7,Bool.and_eq_true,beq_iff_eq,List.contains_iff_mem]at hB
  obtain⟨⟨⟨hL,hr⟩,ho⟩,hB⟩:=hB
  obtain⟨oi,ho⟩:=Option.isSome_iff_exists.1 ho
  simp only[List.map_cons,List.map_nil,bd,pickOps,ho,Option.getD_some]at h
  show bv P ops C Ls Q (1+qH r) listed a w
  rw[Nat.add_comm]
  refine⟨λh0=>(by rw[hr]at h0;cases h0),λj hj=>?_⟩
  rw[hr]at hj
  simp only[List.mem_singleton]at hj
  subst hj
  exact Rl.last_step ho h λa' W' hg=>⟨.inl hL,eQ hC hs r _ a' W' hB hg⟩
 | (1,[])::r,listed,a,w,hB,h=>by simp[Rs.st7]at hB
 | (1,_::_::_)::r,listed,a,w,hB,h=>by simp[Rs.st7]at hB
 | (2,[])::r,listed,a,w,hB,h=>by simp[Rs.st7]at hB
 | (2,_::_::_)::r,listed,a,w,hB,h=>by simp[Rs.st7]at hB
 | (n+4,_)::r,listed,a,w,hB,h=>by simp[Rs.st7]at hB
theorem mw (C:World->World->Prop) (hC:Pre C) (Ls:List Nat) (R:Act->World->Prop) {id:Nat} {Q:Exit->Act->World->Prop} {a:Act} {w:World} {l:List Oper} (p:List (Nat × List Nat)) (p':List (Nat × List Oper)) (hm:P.follows .mixedOrders=true) (hB:Rs.ok7 l.toArray Ls p=true)
  (hp:(p.map λx=>(x.1,pickOps l.toArray x.2))=p') (h0:∀wd,Below w.heap.size w wd->wd.heap.size=w.heap.size->bd P l.toArray C R p' a wd) (hR:∀a w,R a w->Q .normal a w):(Code.region id l.toArray true).wp P Q a w:=by
 subst hp
 unfold Rs.ok7 at hB
 simp only[Bool.and_eq_true,beq_iff_eq]at hB
 obtain⟨⟨h1,h3⟩,h4⟩:=hB
 refine wp_region_any hm ?_
 have:=eQ (P:=P) (Q:=R) (C:=C) hC (Ls:=Ls) h1 p _ a w.drew h3 (h0 _ (Below.refl _ _).drew rfl)
 rw[h4]at this
 exact bv.sound hR _ _ a w.drew this
theorem p0 (C:World->World->Prop) (hC:Pre C) (Ls:List Nat) (R:Act->World->Prop) {id:Nat} {Q:Exit->Act->World->Prop} {a:Act} {w:World} {l:List Oper} (p:List (Nat × List Nat)) {p':List (Nat × List Oper)} (h0:∀wd,Below w.heap.size w wd->wd.heap.size=w.heap.size->bd P l.toArray C R p' a wd) (hR:∀a w,R a w->Q .normal a w) (hm:P.follows .mixedOrders=true:=by kernel_rfl) (hB:Rs.ok7 l.toArray Ls p=true:=by kernel_rfl) (hp:(p.map λx=>(x.1,pickOps l.toArray x.2))=p':=by simp only[List.map_cons,List.map_nil,Rg.pickOps,List.getElem?_toArray,List.getElem?_cons_zero,List.getElem?_cons_succ,Option.getD_some];rfl):(Code.region id l.toArray true).wp P Q a w:=mw C hC Ls R p p' hm hB hp h0 hR
end
end Go.Proofs.YtjldjeenfnahoaaGreatDoor.Rc
