/- A region that draws its order and holds calls that make memo -/
import Derived.Test.YtoaemihcbmlkgaaGreatDoorJExprMath
namespace Go.Proofs.YtoaemihcbmlkgaaGreatDoor.Rg
open Go Go.Sort Go.RowKit
section
variable {P:Program} {ops:Array Oper}
abbrev Cls (w:World):World->Prop:=λw'=>∃p:Regrown,w'=grow (redrawn w p.d) p.os
theorem cls_of {w W:World} (h:Below w.heap.size w W):Cls w W:=regrown_of_below h
theorem tr {a b c:World} (h:Below a.heap.size a b) (k:Below b.heap.size b c):Below a.heap.size a c:=
 h.trans (k.mono h.size)
def Bot:Exit->Act->World->Prop:=λ_ _ _=>False
theorem upon_bot {o:Oper} {a:Act} {K:Act->World->Prop} {Q:Exit->Act->World->Prop} {r:Result Next} (h:o.upon P a K Bot r):o.upon P a K Q r:=by
 cases r with
 | ok n w' =>
  cases n<;>simp only[Oper.upon]at h ⊢
  case value u=>exact h
  case skip=>exact h
  case defer d=>exact h
  case enter f args =>
   refine Calls.mono h λe w'' he=>?_
   cases e with
   | returned u=>exact he
   | panicked c=>exact he.elim
   | outgrown=>obtain⟨_,_,hf⟩:=he;exact hf.elim
  case row row args=>exact h
 | halt x w' =>
  cases x<;>simp only[Oper.upon]at h ⊢
  case panic u=>exact h.elim
theorem upon_exit {o:Oper} {a:Act} {K:Act->World->Prop} {Q Q':Exit->Act->World->Prop} (hp:∀c a w,Q (.panic c) a w->Q' (.panic c) a w) (ho:LetsOut Q->LetsOut Q') {r:Result Next} (h:o.upon P a K Q r):o.upon P a K Q' r:=by
 cases r with
 | ok n w' =>
  cases n<;>simp only[Oper.upon]at h ⊢
  case value u=>exact h
  case skip=>exact h
  case defer d=>exact h
  case enter f args =>
   refine Calls.mono h λe w'' he=>?_
   cases e with
   | returned u=>exact he
   | panicked c=>exact hp _ _ _ he
   | outgrown=>exact ho he
  case row row args=>exact h
 | halt x w' =>
  cases x<;>simp only[Oper.upon]at h ⊢
  case panic u=>exact hp _ _ _ h
theorem wpOp_bot {i:Nat} {K:Act->World->Prop} {Q:Exit->Act->World->Prop} {a:Act} {w:World} (h:wpOp P ops Bot i K a w):wpOp P ops Q i K a w:=by
 unfold wpOp at *
 split
 ·rename_i ho;simp only[ho]at h;exact h
 ·rename_i o ho
  simp only[ho]at h
  split
  ·rename_i hw
   simp only[hw,if_true]at h
   rcases h with h|⟨_,_,_,hf⟩
   ·exact .inl (upon_bot h)
   ·exact hf.elim
  ·rename_i hw;simp only[hw]at h;exact h
def AnyG (P:Program) (ops:Array Oper) (Q:Act->World->Prop):Nat->Array Bool->Act->World->Prop
 | 0,listed,a,w=>Region.ready .any ops listed=[]/\∀W,Below w.heap.size w W->Q a W
 | fuel+1,listed,a,w=>∀W,Below w.heap.size w W->(Region.ready .any ops listed=[]->Q a W) /\
   ∀i∈Region.ready .any ops listed,wpOp P ops Bot i (λa' W'=>∃w',Below w.heap.size w w'/\Below w'.heap.size w' W'/\AnyG P ops Q fuel (listed.setIfInBounds i true) a' w') a W
theorem AnyG.sound {Q:Act->World->Prop} {Q':Exit->Act->World->Prop} (hQ:∀a w,Q a w->Q' .normal a w):∀(fuel:Nat) (listed:Array Bool) (a:Act) (w W:World),
  Below w.heap.size w W->AnyG P ops Q fuel listed a w->wpAny P .any ops Q' fuel listed a W
 | 0,_,_,_,_,hb,h=>⟨h.1,hQ _ _ (h.2 _ hb)⟩
 | fuel+1,_,_,_,W,hb,h=>by
  obtain⟨h0,h1⟩:=h W hb
  refine⟨λe=>hQ _ _ (h0 e),λi hi=>wpOp_bot (wpOp_mono (λa' W' h2=>?_) (h1 i hi))⟩
  obtain⟨w',_,hb',h3⟩:=h2
  exact AnyG.sound hQ fuel _ a' w' W' hb' h3
def YG (P:Program) (ops:Array Oper) (o:Oper) (v:Value) (a:Act) (w:World):Prop:=
 (Region.wanted o (yielded ops a.tmps)=true/\∀W,Below w.heap.size w W->(execOp a.eval o).run P W=.ok (.value v) W) ∨
 (Region.wanted o (yielded ops a.tmps)=false/\v=undef)
theorem YG.later {o:Oper} {v:Value} {a:Act} {w w':World} (h:YG P ops o v a w) (hb:Below w.heap.size w w'):YG P ops o v a w':=
 h.imp (λ⟨h1,h2⟩=>⟨h1,λW hW=>h2 W (tr hb hW)⟩) id
theorem YG.of_same {o:Oper} {v:Value} {a a':Act} {w:World} (hy:YG P ops o v a w) (he:execOp a'.eval o=execOp a.eval o)
  (hw:Region.wanted o (yielded ops a'.tmps)=Region.wanted o (yielded ops a.tmps)):YG P ops o v a' w:=by
 unfold YG at *
 rw[he,hw]
 exact hy
theorem YG.wpOp {i:Nat} {o:Oper} {v:Value} {a:Act} {w W:World} (hi:ops[i]?=some o) (hy:YG P ops o v a w) (hb:Below w.heap.size w W)
  {K:Act->World->Prop} (h:K (a.put o.dst v) W):wpOp P ops Bot i K a W:=by
 unfold Go.wpOp
 simp only[hi]
 rcases hy with ⟨hw,hv⟩|⟨hw,rfl⟩
 ·simp only[hw,if_true,Oper.wp,hv W hb,Oper.upon];exact .inl h
 ·simp only[hw,Bool.false_eq_true,if_false];exact h
theorem wpOp_putG {j:Nat} {oi oj:Oper} {v:Value} (hj:ops[j]?=some oj) (hap:oi.apart ops oj=true)
  (hsi:∀cs b,oi.op≠.select cs b) (hsj:∀cs b,oj.op≠.select cs b) {K:Act->World->Prop} {a:Act} {w W:World}
  (hy:YG P ops oi v a w) (h:wpOp P ops Bot j K (a.put oi.dst v) W) :
  wpOp P ops Bot j (λa' w'=>YG P ops oi v a' w/\K (a'.put oi.dst v) w') a W:=by
 obtain⟨h1,h2,h3⟩:=Oper.apart_spec hap
 have keep:∀(a:Act),YG P ops oi v a w->∀u,YG P ops oi v (a.put oj.dst u) w:=λa hy u =>
  hy.of_same (execOp_put oi hsi a oj.dst u h3) (wanted_put oi a oj.dst u h3)
 have keepD:∀d,YG P ops oi v {a with defers:=d::a.defers} w:=λd=>hy.of_same rfl rfl
 unfold wpOp at *
 simp only[hj]at *
 rw[wanted_put oj a oi.dst v h1]at h
 split
 ·rename_i hw
  simp only[hw,if_true]at h
  rcases h with h|⟨_,_,_,hf⟩
  case inr=>exact hf.elim
  refine .inl ?_
  unfold Oper.wp at *
  rw[execOp_put oj hsj a oi.dst v h1]at h
  generalize (execOp a.eval oj).run P W=r at *
  cases r with
  | ok n w' =>
   cases n<;>simp only[Oper.upon]at h ⊢
   case value u=>exact⟨keep a hy u,by rw[←Act.put_comm a v u h2];exact h⟩
   case skip=>exact⟨keep a hy _,by rw[←Act.put_comm a v undef h2];exact h⟩
   case defer d =>
    refine⟨keep _ (keepD d) _,?_⟩
    rw[←Act.put_comm _ v undef h2,←Act.put_defers]
    exact h
   case enter f args =>
    refine Calls.mono h λe w'' he=>?_
    cases e with
    | returned u=>exact⟨keep a hy u,by rw[←Act.put_comm a v u h2];exact he⟩
    | panicked c=>exact he.elim
    | outgrown=>obtain⟨_,_,hf⟩:=he;exact hf.elim
   case row row args=>exact Rows.mono h λu w'' he=>⟨keep a hy u,by rw[←Act.put_comm a v u h2];exact he⟩
  | halt x w' =>
   cases x<;>simp only[Oper.upon]at h ⊢
   case panic u=>exact h.elim
 ·rename_i hw
  simp only[hw]at h
  exact⟨keep a hy _,by rw[←Act.put_comm a v undef h2];exact h⟩
theorem AnyG.first {Q:Act->World->Prop} {i:Nat} {oi:Oper} {v:Value} (hi:ops[i]?=some oi) (hsel:∀(j:Nat) (o:Oper) cs b,ops[j]?=some o->o.op≠.select cs b) :
  ∀(fuel:Nat) (listed:Array Bool) (a:Act) (w:World),
   (∀j oj,ops[j]?=some oj->j≠i->listed.getD j true=false->(∀e∈oj.after,Region.binds .any e=true->e.on≠i)->oi.apart ops oj=true) ->
   i∈Region.ready .any ops listed->YG P ops oi v a w ->
   AnyG P ops Q fuel (listed.setIfInBounds i true) (a.put oi.dst v) w->AnyG P ops Q (fuel+1) listed a w:=by
 intro fuel
 induction fuel with
 | zero =>
  intro listed a w _ hr hy H W hW
  refine⟨λh=>(by rw[h]at hr;cases hr),λj hj=>?_⟩
  by_cases hji:j=i
  ·subst hji;exact hy.wpOp hi hW ⟨w,Below.refl _ _,hW,H⟩
  ·have:=ready_mono hj hji
   rw[H.1]at this
   cases this
 | succ fuel ih =>
  intro listed a w hfree hr hy H W hW
  refine⟨λh=>(by rw[h]at hr;cases hr),λj hj=>?_⟩
  by_cases hji:j=i
  ·subst hji;exact hy.wpOp hi hW ⟨w,Below.refl _ _,hW,H⟩
  ·have h1:=(H W hW).2 j (ready_mono hj hji)
   obtain⟨hjun,oj,hoj,hall⟩:=mem_ready.1 hj
   have hnot:∀e∈oj.after,Region.binds .any e=true->e.on≠i:=λe he hb heq=>by
    have h1:=hall e he hb
    have h0:=(mem_ready.1 hr).1
    rw[heq]at h1
    rcases Nat.lt_or_ge i listed.size with h'|h'
    ·simp[h']at h0 h1;rw[h0]at h1;cases h1
    ·simp[Array.getElem?_eq_none h']at h1
   have h2:=wpOp_putG hoj (hfree j oj hoj hji hjun hnot) (λcs b=>hsel i oi cs b hi) (λcs b=>hsel j oj cs b hoj) hy h1
   have hfree':∀k ok,ops[k]?=some ok->k≠i->(listed.setIfInBounds j true).getD k true=false ->
     (∀e∈ok.after,Region.binds .any e=true->e.on≠i)->oi.apart ops ok=true:=λk ok hk hki hun hno=>by
    refine hfree k ok hk hki ?_ hno
    by_cases hjk:j=k
    ·subst hjk;exact hjun
    ·rw[getD_set_ne true hjk]at hun;exact hun
   refine wpOp_mono (λa' W' h3=>?_) h2
   obtain⟨hy',w',hb1,hb2,h4⟩:=h3
   refine⟨w',hb1,hb2,ih (listed.setIfInBounds j true) a' w' hfree' (ready_mono hr (Ne.symm hji)) (hy'.later hb1) ?_⟩
   rw[Array.setIfInBounds_comm _ _ hji]
   exact h4
def quietB (o:Oper):Bool:=
 match o.op with
 | .move _ | .assign _ | .pick .. | .load .. | .nilCheck _ | .binOp .. | .unOp .. | .convert .. | .slice .. | .fieldAddr .. | .field .. | .indexAddr .. | .index .. | .extract .. | .build .. | .makeInterface .. | .lookup .. => true
 | .call {callee:=.builtin .len,..}=>true
 | _=>false
theorem run_v {s:Sem Value} {W W':World} {n:Next} (h:((do pure (.value (←s))):Sem Next).run P W=.ok n W'):∃x,n=.value x:=by
 rw[Sem.run_bind]at h
 generalize s.run P W=r at h
 cases r with
 | ok x w=>simp only[Result.andThen,Sem.run_pure]at h;injection h with h _;exact⟨x,h.symm⟩
 | halt x w=>simp only[Result.andThen]at h;cases h
theorem run_nilCheck {x:Operand} {d:Option Tmp} {ty:TypeId} {pos:String} {af:Array Edge} {g:Option (Nat × Bool)} {ρ:Operand->Value} {W W':World} {n:Next}
  (h:(execOp ρ ⟨d,.nilCheck x,ty,pos,af,g⟩).run P W=.ok n W'):∃x,n=.value x:=by
 simp only[execOp]at h
 split at h
 ·simp[runtimePanic]at h
 ·simp[runtimePanic]at h
 ·simp[runtimePanic]at h
 ·split at h
  ·simp[runtimePanic]at h
  ·simp only[Sem.run_bind]at h
   generalize (Sem.run P program W)=r0 at h
   cases r0 with
   | halt x w=>simp only[Result.andThen]at h;cases h
   | ok p w =>
    simp only[Result.andThen]at h
    split at h
    ·rename_i a w1 hr
     split at h
     ·simp[unsupported]at h
     ·injection h with h _;exact⟨_,h.symm⟩
    ·cases h
  ·injection h with h _;exact⟨_,h.symm⟩
 ·injection h with h _;exact⟨_,h.symm⟩
theorem quietB_value {o:Oper} (hq:quietB o=true) {ρ:Operand->Value} {W W':World} {n:Next} (h:(execOp ρ o).run P W=.ok n W'):∃x,n=.value x:=by
 obtain⟨d,op,ty,pos,af,g⟩:=o
 cases op<;>simp only[quietB,Bool.false_eq_true]at hq
 case move x=>injection h with h _;exact⟨_,h.symm⟩
 case assign x=>injection h with h _;exact⟨_,h.symm⟩
 case pick c a b =>
  simp only[execOp,Sem.run_bind]at h
  generalize (asBool (ρ c)).run P W=r at h
  cases r with
  | ok x w=>simp only[Result.andThen,Sem.run_pure]at h;injection h with h _;exact⟨_,h.symm⟩
  | halt x w=>simp only[Result.andThen]at h;cases h
 case call c =>
  obtain⟨cal,args,ats⟩:=c
  cases cal<;>try (simp at hq;done)
  case builtin b =>
   cases b<;>try (simp at hq;done)
   case len =>
    rw[BigFrame.execOp_builtin,BigFrame.builtin_len]at h
    exact run_v h
 case binOp=>exact run_v h
 case nilCheck x=>exact run_nilCheck h
 all_goals exact run_v h
theorem yg_of_quiet {o:Oper} {a:Act} {w:World} {K:Act->Prop} (hq:quietB o=true)
  (h:if Region.wanted o (yielded ops a.tmps) then o.quiet P a (Cls w) K else K (a.put o.dst undef)):∃v,YG P ops o v a w/\K (a.put o.dst v):=by
 by_cases hw:Region.wanted o (yielded ops a.tmps)=true
 ·rw[if_pos hw]at h
  obtain⟨v,h1,h2⟩:=h
  refine⟨v,.inl ⟨hw,λW hW=>?_⟩,h2⟩
  have h3:=h1 W (cls_of hW)
  unfold Oper.quietAt at h3
  generalize hr:(execOp a.eval o).run P W=r at h3
  cases r with
  | ok n w' =>
   obtain⟨x,rfl⟩:=quietB_value hq hr
   simp only[Oper.quietUpon]at h3
   obtain⟨rfl,rfl⟩:=h3
   rfl
  | halt x w'=>simp only[Oper.quietUpon]at h3
 ·rw[if_neg hw]at h
  exact⟨undef,.inr ⟨by simpa using hw,rfl⟩,h⟩
def noOper:Oper:=⟨none,.move (.const undef),0,default,#[],none⟩
def pickOps (ops:Array Oper) (l:List Nat):List Oper:=l.map λi=>(ops[i]?).getD noOper
def wpPlan (P:Program) (ops:Array Oper) (Q:Act->World->Prop):List (Bool × List Oper)->Act->World->Prop
 | [],a,w=>∀W,Below w.heap.size w W->Q a W
 | (true,l)::r,a,w=>wpQuiet P ops (Cls w) (λa'=>wpPlan P ops Q r a' w) l a
 | (false,l)::r,a,w=>∀W,Below w.heap.size w W->wpList P ops (Exit.then (λa' W'=>Below W.heap.size W W'/\wpPlan P ops Q r a' W') Bot) l a W
theorem plan_quiet {Q:Act->World->Prop} {l:List Oper} {r:List (Bool × List Oper)} {a:Act} {w:World} (h:wpQuiet P ops (Cls w) (λa'=>wpPlan P ops Q r a' w) l a):wpPlan P ops Q ((true,l)::r) a w:=h
theorem plan_chain {Q:Act->World->Prop} {l:List Oper} {r:List (Bool × List Oper)} {a:Act} {w:World}
  (h:∀W,Below w.heap.size w W->wpList P ops (Exit.then (λa' W'=>Below W.heap.size W W'/\wpPlan P ops Q r a' W') Bot) l a W):wpPlan P ops Q ((false,l)::r) a w:=h
theorem plan_end {Q:Act->World->Prop} {a:Act} {w:World} (h:∀W,Below w.heap.size w W->Q a W):wpPlan P ops Q [] a w:=h
def quietSeq (ops:Array Oper):List Nat->Array Bool->Option (Array Bool)
 | [],l=>some l
 | i::is,l=>if (Region.ready .any ops l).contains i && Region.free .any ops l i && ((ops[i]?).map quietB).getD false then quietSeq ops is (l.setIfInBounds i true) else none
def chainOne (ops:Array Oper) (is:List Nat) (l:Array Bool):Option (Array Bool):=
 match is with
 | [i]=>if (Region.ready .any ops l == [i]) && (ops[i]?).isSome then some (l.setIfInBounds i true) else none
 | _=>none
def planB (ops:Array Oper):List (Bool × List Nat)->Array Bool->Bool
 | [],l=>(Region.ready .any ops l).isEmpty
 | (true,is)::r,l=>match quietSeq ops is l with|some l'=>planB ops r l'|none=>false
 | (false,is)::r,l=>match chainOne ops is l with|some l'=>planB ops r l'|none=>false
def planLen:List (Bool × List Nat)->Nat
 | []=>0
 | (_,is)::r=>is.length+planLen r
def planOK (ops:Array Oper) (p:List (Bool × List Nat)):Bool:=
 Region.noSelect ops && planB ops p (Array.replicate ops.size false) && (planLen p == ops.size)
theorem quiet_sound {Q:Act->World->Prop} (hs:Region.noSelect ops=true) {w:World} {K:Act->Prop} {fuel:Nat} {l':Array Bool} (hK:∀a,K a->AnyG P ops Q fuel l' a w) :
  ∀(is:List Nat) (listed:Array Bool) (a:Act),quietSeq ops is listed=some l'->wpQuiet P ops (Cls w) K (pickOps ops is) a->AnyG P ops Q (is.length+fuel) listed a w
 | [],listed,a,hq,h=>by
  simp only[quietSeq,Option.some.injEq]at hq
  subst hq
  simp only[List.length_nil,Nat.zero_add]
  exact hK a h
 | i::is,listed,a,hq,h=>by
  simp only[quietSeq]at hq
  split at hq
  case isFalse=>cases hq
  rename_i hc
  simp only[Bool.and_eq_true]at hc
  obtain⟨⟨hr,hf⟩,hb⟩:=hc
  cases ho:ops[i]? with
  | none=>simp[ho]at hb
  | some o =>
   simp only[ho,Option.map_some,Option.getD_some]at hb
   simp only[pickOps,List.map_cons,ho,Option.getD_some]at h
   obtain⟨v,hy,hn⟩:=yg_of_quiet (K:=wpQuiet P ops (Cls w) K (pickOps ops is)) hb h
   have:=quiet_sound hs hK is _ _ hq hn
   rw[List.length_cons,Nat.add_right_comm]
   exact AnyG.first ho (Region.noSelect_spec hs) _ listed a w (Region.free_spec ho hf) (by simpa using hr) hy this
theorem plan_sound {Q:Act->World->Prop} (hs:Region.noSelect ops=true):∀(p:List (Bool × List Nat)) (listed:Array Bool) (a:Act) (w:World),
  planB ops p listed=true->wpPlan P ops Q (p.map λx=>(x.1,pickOps ops x.2)) a w->AnyG P ops Q (planLen p) listed a w
 | [],listed,a,w,hB,h=>⟨by simpa[planB] using hB,h⟩
 | (true,is)::r,listed,a,w,hB,h=>by
  simp only[planB]at hB
  cases hq:quietSeq ops is listed with
  | none=>simp[hq]at hB
  | some l' =>
   simp only[hq]at hB
   simp only[List.map_cons,wpPlan]at h
   exact quiet_sound hs (λa' ha'=>plan_sound hs r l' a' w hB ha') is listed a hq h
 | (false,is)::r,listed,a,w,hB,h=>by
  simp only[planB]at hB
  cases hq:chainOne ops is listed with
  | none=>simp[hq]at hB
  | some l' =>
   simp only[hq]at hB
   simp only[List.map_cons,wpPlan]at h
   unfold chainOne at hq
   split at hq
   case h_2=>cases hq
   rename_i i
   split at hq
   case isFalse=>cases hq
   rename_i hc
   simp only[Bool.and_eq_true,beq_iff_eq]at hc
   obtain⟨hr,ho⟩:=hc
   simp only[Option.some.injEq]at hq
   subst hq
   obtain⟨o,ho⟩:=Option.isSome_iff_exists.1 ho
   simp only[pickOps,List.map_cons,ho,Option.getD_some,List.map_nil]at h
   show AnyG P ops Q (1+planLen r) listed a w
   rw[Nat.add_comm]
   intro W hW
   refine⟨λh0=>(by rw[hr]at h0;cases h0),λj hj=>?_⟩
   rw[hr]at hj
   simp only[List.mem_singleton]at hj
   subst hj
   have h1:=h W hW
   unfold wpOp
   simp only[ho]
   have next:∀a' W',wpList P ops (Exit.then (λa' W'=>Below W.heap.size W W'/\wpPlan P ops Q (r.map λx=>(x.1,pickOps ops x.2)) a' W') Bot) [] a' W' ->
     ∃w',Below w.heap.size w w'/\Below w'.heap.size w' W'/\AnyG P ops Q (planLen r) (listed.setIfInBounds j true) a' w':=λa' W' hh =>
    ⟨W',tr hW hh.1,Below.refl _ _,plan_sound hs r _ a' W' hB hh.2⟩
   simp only[wpList]at h1
   split at h1
   ·rename_i hw
    rw[if_pos hw]
    rcases h1 with h1|h1
    ·left
     exact upon_exit (λc a w h=>h) (λh=>h) (Oper.wp_mono next h1)
    ·obtain⟨_,hl⟩:=h1
     obtain⟨_,_,hf⟩:=hl
     exact hf.elim
   ·rename_i hw
    rw[if_neg hw]
    exact next _ _ h1
theorem wp_region_plan {id:Nat} {Q:Exit->Act->World->Prop} {a:Act} {w:World} {l:List Oper} (p:List (Bool × List Nat)) (p':List (Bool × List Oper)) (hm:P.follows .mixedOrders=true) (hB:planOK l.toArray p=true)
  (hp:p.map (λx=>(x.1,pickOps l.toArray x.2))=p')
  (h0:∀K:Act->World->Prop,(∀a w,Q .normal a w->K a w)->wpPlan P l.toArray K p' a w):(Code.region id l.toArray true).wp P Q a w:=by
 subst hp
 have h:=h0 (λa' w'=>Q .normal a' w') (λ_ _ h=>h)
 unfold planOK at hB
 simp only[Bool.and_eq_true,beq_iff_eq]at hB
 obtain⟨⟨h1,h2⟩,h3⟩:=hB
 refine wp_region_any hm ?_
 have:=plan_sound (P:=P) (Q:=λa' w'=>Q .normal a' w') h1 p _ a w h2 h
 rw[h3]at this
 exact AnyG.sound (λ_ _ h=>h) _ _ a w _ ((Below.refl _ _).drew) this
end
end Go.Proofs.YtoaemihcbmlkgaaGreatDoor.Rg
namespace Go.Proofs.YtoaemihcbmlkgaaGreatDoor.Rh
open Go Go.Sort Go.RowKit Rg
section
variable {P:Program} {ops:Array Oper}
structure Later (B:Nat) (w:World) where
 W:World
 h:Below B w W
instance {B:Nat} {w:World}:Inhabited (Later B w):=⟨⟨w,Below.refl _ _⟩⟩
abbrev ClsB (B:Nat) (w:World):World->Prop:=λw'=>∃p:Later B w,w'=p.W
def YB (P:Program) (ops:Array Oper) (B:Nat) (o:Oper) (v:Value) (a:Act) (w:World):Prop:=
 (Region.wanted o (yielded ops a.tmps)=true/\∀W,Below B w W->(execOp a.eval o).run P W=.ok (.value v) W) ∨
 (Region.wanted o (yielded ops a.tmps)=false/\v=undef)
theorem YB.later {B:Nat} {o:Oper} {v:Value} {a:Act} {w w':World} (h:YB P ops B o v a w) (hb:Below B w w'):YB P ops B o v a w':=
 h.imp (λ⟨h1,h2⟩=>⟨h1,λW hW=>h2 W (hb.trans hW)⟩) id
theorem YB.of_same {B:Nat} {o:Oper} {v:Value} {a a':Act} {w:World} (hy:YB P ops B o v a w) (he:execOp a'.eval o=execOp a.eval o)
  (hw:Region.wanted o (yielded ops a'.tmps)=Region.wanted o (yielded ops a.tmps)):YB P ops B o v a' w:=by
 unfold YB at *
 rw[he,hw]
 exact hy
theorem YB.wpOp {B:Nat} {i:Nat} {o:Oper} {v:Value} {a:Act} {w:World} (hi:ops[i]?=some o) (hy:YB P ops B o v a w)
  {K:Act->World->Prop} (h:K (a.put o.dst v) w):wpOp P ops Bot i K a w:=by
 unfold Go.wpOp
 simp only[hi]
 rcases hy with ⟨hw,hv⟩|⟨hw,rfl⟩
 ·simp only[hw,if_true,Oper.wp,hv w (Below.refl _ _),Oper.upon];exact .inl h
 ·simp only[hw,Bool.false_eq_true,if_false];exact h
theorem wpOp_putB {B:Nat} {j:Nat} {oi oj:Oper} {v:Value} (hj:ops[j]?=some oj) (hap:oi.apart ops oj=true)
  (hsi:∀cs b,oi.op≠.select cs b) (hsj:∀cs b,oj.op≠.select cs b) {K:Act->World->Prop} {a:Act} {w W:World}
  (hy:YB P ops B oi v a w) (h:wpOp P ops Bot j K (a.put oi.dst v) W) :
  wpOp P ops Bot j (λa' w'=>YB P ops B oi v a' w/\K (a'.put oi.dst v) w') a W:=by
 obtain⟨h1,h2,h3⟩:=Oper.apart_spec hap
 have keep:∀(a:Act),YB P ops B oi v a w->∀u,YB P ops B oi v (a.put oj.dst u) w:=λa hy u =>
  hy.of_same (execOp_put oi hsi a oj.dst u h3) (wanted_put oi a oj.dst u h3)
 have keepD:∀d,YB P ops B oi v {a with defers:=d::a.defers} w:=λd=>hy.of_same rfl rfl
 unfold wpOp at *
 simp only[hj]at *
 rw[wanted_put oj a oi.dst v h1]at h
 split
 ·rename_i hw
  simp only[hw,if_true]at h
  rcases h with h|⟨_,_,_,hf⟩
  case inr=>exact hf.elim
  refine .inl ?_
  unfold Oper.wp at *
  rw[execOp_put oj hsj a oi.dst v h1]at h
  generalize (execOp a.eval oj).run P W=r at *
  cases r with
  | ok n w' =>
   cases n<;>simp only[Oper.upon]at h ⊢
   case value u=>exact⟨keep a hy u,by rw[←Act.put_comm a v u h2];exact h⟩
   case skip=>exact⟨keep a hy _,by rw[←Act.put_comm a v undef h2];exact h⟩
   case defer d =>
    refine⟨keep _ (keepD d) _,?_⟩
    rw[←Act.put_comm _ v undef h2,←Act.put_defers]
    exact h
   case enter f args =>
    refine Calls.mono h λe w'' he=>?_
    cases e with
    | returned u=>exact⟨keep a hy u,by rw[←Act.put_comm a v u h2];exact he⟩
    | panicked c=>exact he.elim
    | outgrown=>obtain⟨_,_,hf⟩:=he;exact hf.elim
   case row row args=>exact Rows.mono h λu w'' he=>⟨keep a hy u,by rw[←Act.put_comm a v u h2];exact he⟩
  | halt x w' =>
   cases x<;>simp only[Oper.upon]at h ⊢
   case panic u=>exact h.elim
 ·rename_i hw
  simp only[hw]at h
  exact⟨keep a hy _,by rw[←Act.put_comm a v undef h2];exact h⟩
def AnyB (P:Program) (ops:Array Oper) (B:Nat) (Q:Act->World->Prop):Nat->Array Bool->Act->World->Prop
 | 0,listed,a,w=>Region.ready .any ops listed=[]/\Q a w
 | fuel+1,listed,a,w=>(Region.ready .any ops listed=[]->Q a w) /\
   ∀i∈Region.ready .any ops listed,wpOp P ops Bot i (λa' W'=>Below B w W'/\AnyB P ops B Q fuel (listed.setIfInBounds i true) a' W') a w
theorem AnyB.sound {B:Nat} {Q:Act->World->Prop} {Q':Exit->Act->World->Prop} (hQ:∀a w,Q a w->Q' .normal a w):∀(fuel:Nat) (listed:Array Bool) (a:Act) (w:World),
  AnyB P ops B Q fuel listed a w->wpAny P .any ops Q' fuel listed a w
 | 0,_,_,_,h=>⟨h.1,hQ _ _ h.2⟩
 | fuel+1,_,a,w,h=>by
  obtain⟨h0,h1⟩:=h
  exact⟨λe=>hQ _ _ (h0 e),λi hi=>wpOp_bot (wpOp_mono (λa' W' h2=>AnyB.sound hQ fuel _ a' W' h2.2) (h1 i hi))⟩
theorem AnyB.first {B:Nat} {Q:Act->World->Prop} {i:Nat} {oi:Oper} {v:Value} (hi:ops[i]?=some oi) (hsel:∀(j:Nat) (o:Oper) cs b,ops[j]?=some o->o.op≠.select cs b) :
  ∀(fuel:Nat) (listed:Array Bool) (a:Act) (w:World),
   (∀j oj,ops[j]?=some oj->j≠i->listed.getD j true=false->(∀e∈oj.after,Region.binds .any e=true->e.on≠i)->oi.apart ops oj=true) ->
   i∈Region.ready .any ops listed->YB P ops B oi v a w ->
   AnyB P ops B Q fuel (listed.setIfInBounds i true) (a.put oi.dst v) w->AnyB P ops B Q (fuel+1) listed a w:=by
 intro fuel
 induction fuel with
 | zero =>
  intro listed a w _ hr hy H
  refine⟨λh=>(by rw[h]at hr;cases hr),λj hj=>?_⟩
  by_cases hji:j=i
  ·subst hji;exact hy.wpOp hi ⟨Below.refl _ _,H⟩
  ·have:=ready_mono hj hji
   rw[H.1]at this
   cases this
 | succ fuel ih =>
  intro listed a w hfree hr hy H
  refine⟨λh=>(by rw[h]at hr;cases hr),λj hj=>?_⟩
  by_cases hji:j=i
  ·subst hji;exact hy.wpOp hi ⟨Below.refl _ _,H⟩
  ·have h1:=H.2 j (ready_mono hj hji)
   obtain⟨hjun,oj,hoj,hall⟩:=mem_ready.1 hj
   have hnot:∀e∈oj.after,Region.binds .any e=true->e.on≠i:=λe he hb heq=>by
    have h1:=hall e he hb
    have h0:=(mem_ready.1 hr).1
    rw[heq]at h1
    rcases Nat.lt_or_ge i listed.size with h'|h'
    ·simp[h']at h0 h1;rw[h0]at h1;cases h1
    ·simp[Array.getElem?_eq_none h']at h1
   have h2:=wpOp_putB hoj (hfree j oj hoj hji hjun hnot) (λcs b=>hsel i oi cs b hi) (λcs b=>hsel j oj cs b hoj) hy h1
   have hfree':∀k ok,ops[k]?=some ok->k≠i->(listed.setIfInBounds j true).getD k true=false ->
     (∀e∈ok.after,Region.binds .any e=true->e.on≠i)->oi.apart ops ok=true:=λk ok hk hki hun hno=>by
    refine hfree k ok hk hki ?_ hno
    by_cases hjk:j=k
    ·subst hjk;exact hjun
    ·rw[getD_set_ne true hjk]at hun;exact hun
   refine wpOp_mono (λa' W' h3=>?_) h2
   obtain⟨hy',hb1,h4⟩:=h3
   refine⟨hb1,ih (listed.setIfInBounds j true) a' W' hfree' (ready_mono hr (Ne.symm hji)) (hy'.later hb1) ?_⟩
   rw[Array.setIfInBounds_comm _ _ hji]
   exact h4
theorem yb_of_quiet {B:Nat} {o:Oper} {a:Act} {w:World} {K:Act->Prop} (hq:quietB o=true)
  (h:if Region.wanted o (yielded ops a.tmps) then o.quiet P a (ClsB B w) K else K (a.put o.dst undef)):∃v,YB P ops B o v a w/\K (a.put o.dst v):=by
 by_cases hw:Region.wanted o (yielded ops a.tmps)=true
 ·rw[if_pos hw]at h
  obtain⟨v,h1,h2⟩:=h
  refine⟨v,.inl ⟨hw,λW hW=>?_⟩,h2⟩
  have h3:=h1 W ⟨⟨W,hW⟩,rfl⟩
  unfold Oper.quietAt at h3
  generalize hr:(execOp a.eval o).run P W=r at h3
  cases r with
  | ok n w' =>
   obtain⟨x,rfl⟩:=quietB_value hq hr
   simp only[Oper.quietUpon]at h3
   obtain⟨rfl,rfl⟩:=h3
   rfl
  | halt x w'=>simp only[Oper.quietUpon]at h3
 ·rw[if_neg hw]at h
  exact⟨undef,.inr ⟨by simpa using hw,rfl⟩,h⟩
theorem quiet_sound {B:Nat} {Q:Act->World->Prop} (hs:Region.noSelect ops=true) {w:World} {K:Act->Prop} {fuel:Nat} {l':Array Bool} (hK:∀a,K a->AnyB P ops B Q fuel l' a w) :
  ∀(is:List Nat) (listed:Array Bool) (a:Act),quietSeq ops is listed=some l'->wpQuiet P ops (ClsB B w) K (pickOps ops is) a->AnyB P ops B Q (is.length+fuel) listed a w
 | [],listed,a,hq,h=>by
  simp only[quietSeq,Option.some.injEq]at hq
  subst hq
  simp only[List.length_nil,Nat.zero_add]
  exact hK a h
 | i::is,listed,a,hq,h=>by
  simp only[quietSeq]at hq
  split at hq
  case isFalse=>cases hq
  rename_i hc
  simp only[Bool.and_eq_true]at hc
  obtain⟨⟨hr,hf⟩,hb⟩:=hc
  cases ho:ops[i]? with
  | none=>simp[ho]at hb
  | some o =>
   simp only[ho,Option.map_some,Option.getD_some]at hb
   simp only[pickOps,List.map_cons,ho,Option.getD_some]at h
   obtain⟨v,hy,hn⟩:=yb_of_quiet (K:=wpQuiet P ops (ClsB B w) K (pickOps ops is)) hb h
   have:=quiet_sound hs hK is _ _ hq hn
   rw[List.length_cons,Nat.add_right_comm]
   exact AnyB.first ho (Region.noSelect_spec hs) _ listed a w (Region.free_spec ho hf) (by simpa using hr) hy this
end
end Go.Proofs.YtoaemihcbmlkgaaGreatDoor.Rh
namespace Go.Proofs.YtoaemihcbmlkgaaGreatDoor.Rf
open Go Go.Sort Go.RowKit Rg Rh
inductive Pl where
 | done
 | quiet (is:List Nat) (r:Pl)
 | one (i:Nat) (r:Pl)
 | fork (i j:Nat) (ri rj:Pl)
 | fork3 (i j k:Nat) (ri rj rk:Pl)
inductive PlO where
 | done
 | quiet (l:List Oper) (r:PlO)
 | one (o:Oper) (r:PlO)
 | fork (oi oj:Oper) (ri rj:PlO)
 | fork3 (oi oj ok:Oper) (ri rj rk:PlO)
def pickO (ops:Array Oper) (i:Nat):Oper:=(ops[i]?).getD noOper
def Pl.pick (ops:Array Oper):Pl->PlO
 | .done=>.done
 | .quiet is r=>.quiet (pickOps ops is) (r.pick ops)
 | .one i r=>.one (pickO ops i) (r.pick ops)
 | .fork i j ri rj=>.fork (pickO ops i) (pickO ops j) (ri.pick ops) (rj.pick ops)
 | .fork3 i j k ri rj rk=>.fork3 (pickO ops i) (pickO ops j) (pickO ops k) (ri.pick ops) (rj.pick ops) (rk.pick ops)
def Pl.len:Pl->Nat
 | .done=>0
 | .quiet is r=>is.length+r.len
 | .one _ r=>1+r.len
 | .fork _ _ ri _=>1+ri.len
 | .fork3 _ _ _ ri _ _=>1+ri.len
section
variable {P:Program} {ops:Array Oper}
def wpPl (P:Program) (ops:Array Oper) (B:Nat) (Q:Act->World->Prop):PlO->Act->World->Prop
 | .done,a,w=>Q a w
 | .quiet l r,a,w=>wpQuiet P ops (ClsB B w) (λa'=>wpPl P ops B Q r a' w) l a
 | .one o r,a,w=>wpList P ops (Exit.then (λa' W'=>Below B w W'/\wpPl P ops B Q r a' W') Bot) [o] a w
 | .fork oi oj ri rj,a,w=>wpList P ops (Exit.then (λa' W'=>Below B w W'/\wpPl P ops B Q ri a' W') Bot) [oi] a w /\
   wpList P ops (Exit.then (λa' W'=>Below B w W'/\wpPl P ops B Q rj a' W') Bot) [oj] a w
 | .fork3 oi oj ok ri rj rk,a,w=>wpList P ops (Exit.then (λa' W'=>Below B w W'/\wpPl P ops B Q ri a' W') Bot) [oi] a w /\
   wpList P ops (Exit.then (λa' W'=>Below B w W'/\wpPl P ops B Q rj a' W') Bot) [oj] a w /\
   wpList P ops (Exit.then (λa' W'=>Below B w W'/\wpPl P ops B Q rk a' W') Bot) [ok] a w
theorem pl_done {B:Nat} {Q:Act->World->Prop} {a:Act} {w:World} (h:Q a w):wpPl P ops B Q .done a w:=h
theorem pl_quiet {B:Nat} {Q:Act->World->Prop} {l:List Oper} {r:PlO} {a:Act} {w:World} (h:wpQuiet P ops (ClsB B w) (λa'=>wpPl P ops B Q r a' w) l a):wpPl P ops B Q (.quiet l r) a w:=h
theorem pl_one {B:Nat} {Q:Act->World->Prop} {o:Oper} {r:PlO} {a:Act} {w:World} (h:wpList P ops (Exit.then (λa' W'=>Below B w W'/\wpPl P ops B Q r a' W') Bot) [o] a w):wpPl P ops B Q (.one o r) a w:=h
theorem pl_fork {B:Nat} {Q:Act->World->Prop} {oi oj:Oper} {ri rj:PlO} {a:Act} {w:World} (h:wpList P ops (Exit.then (λa' W'=>Below B w W'/\wpPl P ops B Q ri a' W') Bot) [oi] a w)
  (h2:wpList P ops (Exit.then (λa' W'=>Below B w W'/\wpPl P ops B Q rj a' W') Bot) [oj] a w):wpPl P ops B Q (.fork oi oj ri rj) a w:=⟨h,h2⟩
def plB (ops:Array Oper):Pl->Array Bool->Bool
 | .done,l=>(Region.ready .any ops l).isEmpty
 | .quiet is r,l=>match quietSeq ops is l with|some l'=>plB ops r l'|none=>false
 | .one i r,l=>(Region.ready .any ops l == [i]) && (ops[i]?).isSome && plB ops r (l.setIfInBounds i true)
 | .fork i j ri rj,l=>(Region.ready .any ops l == [i,j]) && (ops[i]?).isSome && (ops[j]?).isSome && plB ops ri (l.setIfInBounds i true) && plB ops rj (l.setIfInBounds j true) && (ri.len == rj.len)
 | .fork3 i j k ri rj rk,l=>(Region.ready .any ops l == [i,j,k]) && (ops[i]?).isSome && (ops[j]?).isSome && (ops[k]?).isSome && plB ops ri (l.setIfInBounds i true) && plB ops rj (l.setIfInBounds j true) && plB ops rk (l.setIfInBounds k true) && (ri.len == rj.len) && (ri.len == rk.len)
def plOK (ops:Array Oper) (p:Pl):Bool:=Region.noSelect ops && plB ops p (Array.replicate ops.size false) && (p.len == ops.size)
theorem one_step {B:Nat} {j:Nat} {o:Oper} (ho:ops[j]?=some o) {G X:Act->World->Prop} {a:Act} {w:World}
  (h:wpList P ops (Exit.then (λa' W'=>Below B w W'/\G a' W') Bot) [o] a w) (hx:∀a' W',Below B w W'->G a' W'->X a' W'):wpOp P ops Bot j X a w:=by
 unfold wpOp
 simp only[ho]
 have next:∀a' W',wpList P ops (Exit.then (λa' W'=>Below B w W'/\G a' W') Bot) [] a' W'->X a' W':=λa' W' hh=>hx a' W' hh.1 hh.2
 simp only[wpList]at h
 split at h
 ·rename_i hw
  rw[if_pos hw]
  rcases h with h|h
  ·left
   exact upon_exit (λc a w h=>h) (λh=>h) (Oper.wp_mono next h)
  ·obtain⟨_,hl⟩:=h
   obtain⟨_,_,hf⟩:=hl
   exact hf.elim
 ·rename_i hw
  rw[if_neg hw]
  exact next _ _ h
theorem pl_sound {B:Nat} {Q:Act->World->Prop} (hs:Region.noSelect ops=true):∀(p:Pl) (listed:Array Bool) (a:Act) (w:World),
  plB ops p listed=true->wpPl P ops B Q (p.pick ops) a w->AnyB P ops B Q p.len listed a w
 | .done,listed,a,w,hB,h=>⟨by simpa[plB] using hB,h⟩
 | .quiet is r,listed,a,w,hB,h=>by
  simp only[plB]at hB
  cases hq:quietSeq ops is listed with
  | none=>simp[hq]at hB
  | some l' =>
   simp only[hq]at hB
   simp only[Pl.pick,wpPl]at h
   exact Rh.quiet_sound hs (λa' ha'=>pl_sound hs r l' a' w hB ha') is listed a hq h
 | .one i r,listed,a,w,hB,h=>by
  simp only[plB,Bool.and_eq_true,beq_iff_eq]at hB
  obtain⟨⟨hr,ho⟩,hB⟩:=hB
  obtain⟨o,ho⟩:=Option.isSome_iff_exists.1 ho
  simp only[Pl.pick,wpPl,pickO,ho,Option.getD_some]at h
  show AnyB P ops B Q (1+r.len) listed a w
  rw[Nat.add_comm]
  refine⟨λh0=>(by rw[hr]at h0;cases h0),λj hj=>?_⟩
  rw[hr]at hj
  simp only[List.mem_singleton]at hj
  subst hj
  exact one_step ho h λa' W' hb hg=>⟨hb,pl_sound hs r _ a' W' hB hg⟩
 | .fork i j ri rj,listed,a,w,hB,h=>by
  simp only[plB,Bool.and_eq_true,beq_iff_eq]at hB
  obtain⟨⟨⟨⟨⟨hr,ho⟩,ho2⟩,hB⟩,hB2⟩,hl⟩:=hB
  obtain⟨o,ho⟩:=Option.isSome_iff_exists.1 ho
  obtain⟨o2,ho2⟩:=Option.isSome_iff_exists.1 ho2
  simp only[Pl.pick,wpPl,pickO,ho,ho2,Option.getD_some]at h
  show AnyB P ops B Q (1+ri.len) listed a w
  rw[Nat.add_comm]
  refine⟨λh0=>(by rw[hr]at h0;cases h0),λk hk=>?_⟩
  rw[hr]at hk
  simp only[List.mem_cons,List.not_mem_nil,or_false]at hk
  rcases hk with rfl|rfl
  ·exact one_step ho h.1 λa' W' hb hg=>⟨hb,pl_sound hs ri _ a' W' hB hg⟩
  ·exact one_step ho2 h.2 λa' W' hb hg=>⟨hb,by rw[hl];exact pl_sound hs rj _ a' W' hB2 hg⟩
 | .fork3 i j k ri rj rk,listed,a,w,hB,h=>by
  simp only[plB,Bool.and_eq_true,beq_iff_eq]at hB
  obtain⟨⟨⟨⟨⟨⟨⟨⟨hr,ho⟩,ho2⟩,ho3⟩,hB⟩,hB2⟩,hB3⟩,hl⟩,hl3⟩:=hB
  obtain⟨o,ho⟩:=Option.isSome_iff_exists.1 ho
  obtain⟨o2,ho2⟩:=Option.isSome_iff_exists.1 ho2
  obtain⟨o3,ho3⟩:=Option.isSome_iff_exists.1 ho3
  simp only[Pl.pick,wpPl,pickO,ho,ho2,ho3,Option.getD_some]at h
  show AnyB P ops B Q (1+ri.len) listed a w
  rw[Nat.add_comm]
  refine⟨λh0=>(by rw[hr]at h0;cases h0),λm hj=>?_⟩
  rw[hr]at hj
  simp only[List.mem_cons,List.not_mem_nil,or_false]at hj
  rcases hj with rfl|rfl|rfl
  ·exact one_step ho h.1 λa' W' hb hg=>⟨hb,pl_sound hs ri _ a' W' hB hg⟩
  ·exact one_step ho2 h.2.1 λa' W' hb hg=>⟨hb,by rw[hl];exact pl_sound hs rj _ a' W' hB2 hg⟩
  ·exact one_step ho3 h.2.2 λa' W' hb hg=>⟨hb,by rw[hl3];exact pl_sound hs rk _ a' W' hB3 hg⟩
theorem wp_region_pl (B:Nat) (R:Act->World->Prop) {id:Nat} {Q:Exit->Act->World->Prop} {a:Act} {w:World} {l:List Oper} (p:Pl) (p':PlO) (hm:P.follows .mixedOrders=true) (hB:plOK l.toArray p=true)
  (hp:p.pick l.toArray=p') (h0:∀wd,Below w.heap.size w wd->wd.heap.size=w.heap.size->wpPl P l.toArray B R p' a wd) (hR:∀a w,R a w->Q .normal a w):(Code.region id l.toArray true).wp P Q a w:=by
 subst hp
 unfold plOK at hB
 simp only[Bool.and_eq_true,beq_iff_eq]at hB
 obtain⟨⟨h1,h2⟩,h3⟩:=hB
 refine wp_region_any hm ?_
 have:=pl_sound (P:=P) (Q:=R) h1 p _ a w.drew h2 (h0 _ (Below.refl _ _).drew rfl)
 rw[h3]at this
 exact AnyB.sound hR _ _ a w.drew this
theorem p0 (B:Nat) (R:Act->World->Prop) {id:Nat} {Q:Exit->Act->World->Prop} {a:Act} {w:World} {l:List Oper} (p:Pl) {p':PlO} (h0:∀wd,Below w.heap.size w wd->wd.heap.size=w.heap.size->wpPl P l.toArray B R p' a wd) (hR:∀a w,R a w->Q .normal a w) (hm:P.follows .mixedOrders=true:=by kernel_rfl) (hB:plOK l.toArray p=true:=by kernel_rfl) (hp:p.pick l.toArray=p':=by simp only[Rf.Pl.pick,Rf.pickO,List.map_cons,List.map_nil,Rg.pickOps,List.getElem?_toArray,List.getElem?_cons_zero,List.getElem?_cons_succ,Option.getD_some];rfl):(Code.region id l.toArray true).wp P Q a w:=wp_region_pl B R p p' hm hB hp h0 hR
end
end Go.Proofs.YtoaemihcbmlkgaaGreatDoor.Rf
namespace Go.Proofs.YtoaemihcbmlkgaaGreatDoor
open Go Go.RowKit
theorem drop_cons_of {α:Type} {l:List α} {k:Nat} {x:α} (h:l[k]?=some x):l.drop k=x::l.drop (k+1):=by
 have hlt:k<l.length:=(List.getElem?_eq_some_iff.1 h).1
 rw[List.drop_eq_getElem_cons hlt]
 rw[List.getElem?_eq_getElem hlt]at h
 injection h with h;rw[h]
theorem take_snoc_of {α:Type} {l:List α} {k:Nat} {x:α} (h:l[k]?=some x):l.take (k+1)=l.take k++[x]:=by
 have hlt:k<l.length:=(List.getElem?_eq_some_iff.1 h).1
 rw[List.take_succ_eq_append_getElem hlt]
 rw[List.getElem?_eq_getElem hlt]at h
 injection h with h;rw[h]
theorem below_tr {a b c:World} (h:Below a.heap.size a b) (k:Below b.heap.size b c):Below a.heap.size a c:=
 h.trans (k.mono h.size)
theorem below_alloc {a b:World} {o:Obj} (h:Below a.heap.size a b):Below a.heap.size a (b.alloc o):=h.alloc h.size o
theorem blw {n:Nat} {w v:World} (h:Below n w v:=by repeat (first|exact Below.refl _ _|assumption|exact(Below.refl _ _).alloc (Nat.le_refl _) _|refine below_tr ?_ (by assumption)|refine below_alloc ?_|refine below_tr ?_ (below_regrown _ _ _))):Below n w v:=h
theorem Rd.later {w w':World} {A:Option Addr} {xs:List Value} (h:Rd w A xs) (hb:Below w.heap.size w w'):Rd w' A xs:=h.below hb (Nat.le_refl _)
theorem cellB {B:Nat} {w:World} {a:Addr} {v:Value} (h:w.cell? a=some v) (hlt:a.block<B) (p:Rh.Later B w):p.W.cell? a=some v:=by rw[p.h.cell hlt];exact h
theorem cellL {W wd:World} {a:Addr} {v:Value} (h:W.cell? a=some v) (hb:Below W.heap.size W wd) (p:Rh.Later W.heap.size wd):p.W.cell? a=some v:=by
 have:=cell_lt h
 rw[p.h.cell this,hb.cell this];exact h
theorem cell_on {W W1:World} {a:Addr} {v:Value} (h:W.cell? a=some v) (hb:Below W.heap.size W W1):W1.cell? a=some v:=by rw[hb.cell (cell_lt h)];exact h
theorem below_reset {B:Nat} {w:World} (h:B<=w.heap.size) (X Y:Obj):Below B (w.alloc X) (w.alloc Y):=
 ⟨rfl,rfl,rfl,by simp,λk hk=>by rw[Below.heap_alloc _ _ _ (by omega),Below.heap_alloc _ _ _ (by omega)]⟩
theorem below_set4 {B b:Nat} {w:World} (h:B<=b) (v0 v1 v2 v3:Value):Below B w ((((w.setCell ⟨b,0,none⟩ v0).setCell ⟨b,1,none⟩ v1).setCell ⟨b,2,none⟩ v2).setCell ⟨b,3,none⟩ v3):=
 ((((Below.refl B w).setCell (p:=⟨b,0,none⟩) h _).setCell (p:=⟨b,1,none⟩) h _).setCell (p:=⟨b,2,none⟩) h _).setCell (p:=⟨b,3,none⟩) h _
def OwnI (w:World) (base:Nat) (ty:TypeId) (v:Value) (l:List Int):Prop:=w.ownsRow base ty 1 v l.length (l.map (Value.int .i64))
theorem ints1 (l:List Int):∀u∈l.map (Value.int .i64),u.oneCell'=true:=ints_oneCell _ l
theorem own_open {w:World} {base:Nat} {ty:TypeId} {v:Value} {l:List Int} (h:OwnI w base ty v l):∃A c,v=.slice A l.length c/\l.length<=c/\Rd w A (l.map (Value.int .i64)):=by
 obtain⟨h1,h2⟩:=h
 rcases h2 with ⟨rfl,hx⟩|⟨g,cap,cur,rfl,hg,hh,hnc,hr⟩
 ·have:l=[]:=by simpa using hx
  subst this
  exact⟨none,0,rfl,by simp,Rd.nil _ _⟩
 ·exact⟨_,cap,rfl,hnc,Rd.of_own ⟨h1,.inr ⟨g,cap,cur,rfl,hg,hh,hnc,hr⟩⟩⟩
theorem own_slice {w:World} {base:Nat} {e:TypeId} {size n:Nat} {v:Value} {xs:List Value} (h:w.ownsRow base e size v n xs):∃A c,v=.slice A n c/\n<=c/\Rd w A xs:=by
 obtain⟨h1,h2⟩:=h
 rcases h2 with ⟨rfl,hx⟩|⟨g,cap,cur,rfl,hg,hh,hnc,hr⟩
 ·subst hx
  have h0:xs=[]:=by simpa using h1
  subst h0
  exact⟨none,0,rfl,Nat.le_refl _,Rd.nil _ _⟩
 ·exact⟨_,cap,rfl,hnc,Rd.of_own ⟨h1,.inr ⟨g,cap,cur,rfl,hg,hh,hnc,hr⟩⟩⟩
open Fm
def zTm:Tm:=⟨0,⟨#[]⟩,⟨#[]⟩,⟨#[]⟩⟩
def tmC (t:Tm):List Value:=[.int .i64 t.k,.string t.x,.string t.l,.string t.y]
def tmV (t:Tm):Value:=.agg #[.int .i64 t.k,.string t.x,.string t.l,.string t.y]
def optV (o:Option Tm):Value:=.tuple #[tmV (o.getD zTm),.bool o.isSome]
abbrev RdTs (w:World) (A:Option Addr) (l:List Tm):Prop:=RdL 4 (λcs t=>cs=tmC t) w A l
theorem RdTs.at4 {w:World} {A:Option Addr} {l:List Tm} (h:RdTs w A l) {j:Nat} {t:Tm} (he:l[j]?=some t) :
  ∃g o,A=some ⟨g,o,none⟩/\w.cell? ⟨g,o+j*4,none⟩=some (.int .i64 t.k)/\w.cell? ⟨g,o+j*4+1,none⟩=some (.string t.x) /\
   w.cell? ⟨g,o+j*4+2,none⟩=some (.string t.l)/\w.cell? ⟨g,o+j*4+3,none⟩=some (.string t.y):=by
 obtain⟨g,o,cs,hA,_,hcs,hx⟩:=RdL.at_ h (by omega) he
 subst hcs
 exact⟨g,o,hA,hx 0 _ rfl,hx 1 _ rfl,hx 2 _ rfl,hx 3 _ rfl⟩
theorem RdTs.later {w w':World} {A:Option Addr} {l:List Tm} (h:RdTs w A l) (hb:Below w.heap.size w w'):RdTs w' A l:=h.mono hb λ_ _ _ h=>h
theorem idxOfS_lt (l:List ByteArray) (x:ByteArray) : -1<=Lib.idxOfS l x/\Lib.idxOfS l x<l.length:=by
 have key:∀(l:List ByteArray) (i:Nat),-1<=Lib.idxFromS l x i/\Lib.idxFromS l x i<i+l.length∨l=[]/\Lib.idxFromS l x i = -1:=by
  intro l
  induction l with
  | nil=>intro i;exact .inr ⟨rfl,rfl⟩
  | cons z zs ih =>
   intro i
   unfold Lib.idxFromS
   split
   ·left;simp;omega
   ·rcases ih (i+1) with h|⟨h1,h2⟩
    ·left;simp;omega
    ·left;rw[h2];simp;omega
 rcases key l 0 with h|⟨h1,h2⟩
 ·unfold Lib.idxOfS;omega
 ·unfold Lib.idxOfS;rw[h2,h1];simp
end Go.Proofs.YtoaemihcbmlkgaaGreatDoor
