/- A region that draws its order and holds calls that make memo -/
import Derived.Lib.QuietBelow
import Derived.WalkKit
import Derived.BigQuiet
namespace Go.Proofs.YtfcbghmbbjolcaaGreatDoor.Rg
open Go Go.Sort Go.RowKit
section
variable {P:Program} {ops:Array Oper}
abbrev Cls (w:World):World->Prop:=λw'=>∃p:Regrown,w'=grow (redrawn w p.d) p.os
theorem IC {w W:World} (h:Below w.heap.size w W):Cls w W:=regrown_of_below h
theorem tr {a b c:World} (h:Below a.heap.size a b) (k:Below b.heap.size b c):Below a.heap.size a c:=
 h.trans (k.mono h.size)
def Bot:Exit->Act->World->Prop:=λ_ _ _=>False
theorem AX {o:Oper} {a:Act} {K:Act->World->Prop} {Q:Exit->Act->World->Prop} {r:Result Next} (h:o.upon P a K Bot r):o.upon P a K Q r:=by
 cases r with
 | ok n w' =>
  cases n<;>simp only[Oper.upon]at h ⊢
  case value u=>exact h
  case skip=>exact h
  case defer d=>exact h
  case enter f args =>
   refine Calls.mono h λe w'' he=>?_
   cases e with
   | returned u=>exact he
   | panicked c=>exact he.elim
   | outgrown=>obtain⟨_,_,hf⟩:=he;exact hf.elim
  case row row args=>exact h
 | halt x w' =>
  cases x<;>simp only[Oper.upon]at h ⊢
  case panic u=>exact h.elim
theorem gZ {o:Oper} {a:Act} {K:Act->World->Prop} {Q Q':Exit->Act->World->Prop} (hp:∀c a w,Q (.panic c) a w->Q' (.panic c) a w) (ho:LetsOut Q->LetsOut Q') {r:Result Next} (h:o.upon P a K Q r):o.upon P a K Q' r:=by
 cases r with
 | ok n w' =>
  cases n<;>simp only[Oper.upon]at h ⊢
  case value u=>exact h
  case skip=>exact h
  case defer d=>exact h
  case enter f args =>
   refine Calls.mono h λe w'' he=>?_
   cases e with
   | returned u=>exact he
   | panicked c=>exact hp _ _ _ he
   | outgrown=>exact ho he
  case row row args=>exact h
 | halt x w' =>
  cases x<;>simp only[Oper.upon]at h ⊢
  case panic u=>exact hp _ _ _ h
theorem js {i:Nat} {K:Act->World->Prop} {Q:Exit->Act->World->Prop} {a:Act} {w:World} (h:wpOp P ops Bot i K a w):wpOp P ops Q i K a w:=by
 unfold wpOp at *
 split
 ·rename_i ho;simp only[ho]at h;exact h
 ·rename_i o ho
  simp only[ho]at h
  split
  ·rename_i hw
   simp only[hw,if_true]at h
   rcases h with h|⟨_,_,_,hf⟩
   ·exact .inl (AX h)
   ·exact hf.elim
  ·rename_i hw;simp only[hw]at h;exact h
def kh (P:Program) (ops:Array Oper) (Q:Act->World->Prop):Nat->Array Bool->Act->World->Prop
 | 0,listed,a,w=>Region.ready .any ops listed=[]/\∀W,Below w.heap.size w W->Q a W
 | fuel+1,listed,a,w=>∀W,Below w.heap.size w W->(Region.ready .any ops listed=[]->Q a W) /\
   ∀i∈Region.ready .any ops listed,wpOp P ops Bot i (λa' W'=>∃w',Below w.heap.size w w'/\Below w'.heap.size w' W'/\kh P ops Q fuel (listed.setIfInBounds i true) a' w') a W
theorem kh.sound {Q:Act->World->Prop} {Q':Exit->Act->World->Prop} (hQ:∀a w,Q a w->Q' .normal a w):∀(fuel:Nat) (listed:Array Bool) (a:Act) (w W:World),
  Below w.heap.size w W->kh P ops Q fuel listed a w->wpAny P .any ops Q' fuel listed a W
 | 0,_,_,_,_,hb,h=>⟨h.1,hQ _ _ (h.2 _ hb)⟩
 | fuel+1,_,_,_,W,hb,h=>by
  obtain⟨h0,h1⟩:=h W hb
  refine⟨λe=>hQ _ _ (h0 e),λi hi=>js (wpOp_mono (λa' W' h2=>?_) (h1 i hi))⟩
  obtain⟨w',_,hb',h3⟩:=h2
  exact kh.sound hQ fuel _ a' w' W' hb' h3
def YG (P:Program) (ops:Array Oper) (o:Oper) (v:Value) (a:Act) (w:World):Prop:=
 (Region.wanted o (yielded ops a.tmps)=true/\∀W,Below w.heap.size w W->(execOp a.eval o).run P W=.ok (.value v) W) ∨
 (Region.wanted o (yielded ops a.tmps)=false/\v=undef)
theorem YG.later {o:Oper} {v:Value} {a:Act} {w w':World} (h:YG P ops o v a w) (hb:Below w.heap.size w w'):YG P ops o v a w':=
 h.imp (λ⟨h1,h2⟩=>⟨h1,λW hW=>h2 W (tr hb hW)⟩) id
theorem YG.of_same {o:Oper} {v:Value} {a a':Act} {w:World} (hy:YG P ops o v a w) (he:execOp a'.eval o=execOp a.eval o)
  (hw:Region.wanted o (yielded ops a'.tmps)=Region.wanted o (yielded ops a.tmps)):YG P ops o v a' w:=by
 unfold YG at *
 rw[he,hw]
 exact hy
theorem YG.wpOp {i:Nat} {o:Oper} {v:Value} {a:Act} {w W:World} (hi:ops[i]?=some o) (hy:YG P ops o v a w) (hb:Below w.heap.size w W)
  {K:Act->World->Prop} (h:K (a.put o.dst v) W):wpOp P ops Bot i K a W:=by
 unfold Go.wpOp
 simp only[hi]
 rcases hy with ⟨hw,hv⟩|⟨hw,rfl⟩
 ·simp only[hw,if_true,Oper.wp,hv W hb,Oper.upon];exact .inl h
 ·simp only[hw,Bool.false_eq_true,if_false];exact h
theorem yp {j:Nat} {oi oj:Oper} {v:Value} (hj:ops[j]?=some oj) (hap:oi.apart ops oj=true)
  (hsi:∀cs b,oi.op≠.select cs b) (hsj:∀cs b,oj.op≠.select cs b) {K:Act->World->Prop} {a:Act} {w W:World}
  (hy:YG P ops oi v a w) (h:wpOp P ops Bot j K (a.put oi.dst v) W) :
  wpOp P ops Bot j (λa' w'=>YG P ops oi v a' w/\K (a'.put oi.dst v) w') a W:=by
 obtain⟨h1,h2,h3⟩:=Oper.apart_spec hap
 have keep:∀(a:Act),YG P ops oi v a w->∀u,YG P ops oi v (a.put oj.dst u) w:=λa hy u =>
  hy.of_same (execOp_put oi hsi a oj.dst u h3) (wanted_put oi a oj.dst u h3)
 have keepD:∀d,YG P ops oi v {a with defers:=d::a.defers} w:=λd=>hy.of_same rfl rfl
 unfold wpOp at *
 simp only[hj]at *
 rw[wanted_put oj a oi.dst v h1]at h
 split
 ·rename_i hw
  simp only[hw,if_true]at h
  rcases h with h|⟨_,_,_,hf⟩
  case inr=>exact hf.elim
  refine .inl ?_
  unfold Oper.wp at *
  rw[execOp_put oj hsj a oi.dst v h1]at h
  generalize (execOp a.eval oj).run P W=r at *
  cases r with
  | ok n w' =>
   cases n<;>simp only[Oper.upon]at h ⊢
   case value u=>exact⟨keep a hy u,by rw[←Act.put_comm a v u h2];exact h⟩
   case skip=>exact⟨keep a hy _,by rw[←Act.put_comm a v undef h2];exact h⟩
   case defer d =>
    refine⟨keep _ (keepD d) _,?_⟩
    rw[←Act.put_comm _ v undef h2,←Act.put_defers]
    exact h
   case enter f args =>
    refine Calls.mono h λe w'' he=>?_
    cases e with
    | returned u=>exact⟨keep a hy u,by rw[←Act.put_comm a v u h2];exact he⟩
    | panicked c=>exact he.elim
    | outgrown=>obtain⟨_,_,hf⟩:=he;exact hf.elim
   case row row args=>exact Rows.mono h λu w'' he=>⟨keep a hy u,by rw[←Act.put_comm a v u h2];exact he⟩
  | halt x w' =>
   cases x<;>simp only[Oper.upon]at h ⊢
   case panic u=>exact h.elim
 ·rename_i hw
  simp only[hw]at h
  exact⟨keep a hy _,by rw[←Act.put_comm a v undef h2];exact h⟩
theorem kh.first {Q:Act->World->Prop} {i:Nat} {oi:Oper} {v:Value} (hi:ops[i]?=some oi) (hsel:∀(j:Nat) (o:Oper) cs b,ops[j]?=some o->o.op≠.select cs b) :
  ∀(fuel:Nat) (listed:Array Bool) (a:Act) (w:World),
   (∀j oj,ops[j]?=some oj->j≠i->listed.getD j true=false->(∀e∈oj.after,Region.binds .any e=true->e.on≠i)->oi.apart ops oj=true) ->
   i∈Region.ready .any ops listed->YG P ops oi v a w ->
   kh P ops Q fuel (listed.setIfInBounds i true) (a.put oi.dst v) w->kh P ops Q (fuel+1) listed a w:=by
 intro fuel
 induction fuel with
 | zero =>
  intro listed a w _ hr hy H W hW
  refine⟨λh=>(by rw[h]at hr;cases hr),λj hj=>?_⟩
  by_cases hji:j=i
  ·subst hji;exact hy.wpOp hi hW ⟨w,Below.refl _ _,hW,H⟩
  ·have:=ready_mono hj hji
   rw[H.1]at this
   cases this
 | succ fuel ih =>
  intro listed a w hfree hr hy H W hW
  refine⟨λh=>(by rw[h]at hr;cases hr),λj hj=>?_⟩
  by_cases hji:j=i
  ·subst hji;exact hy.wpOp hi hW ⟨w,Below.refl _ _,hW,H⟩
  ·have h1:=(H W hW).2 j (ready_mono hj hji)
   obtain⟨hjun,oj,hoj,hall⟩:=mem_ready.1 hj
   have hnot:∀e∈oj.after,Region.binds .any e=true->e.on≠i:=λe he hb heq=>by
    have h1:=hall e he hb
    have h0:=(mem_ready.1 hr).1
    rw[heq]at h1
    rcases Nat.lt_or_ge i listed.size with h'|h'
    ·simp[h']at h0 h1;rw[h0]at h1;cases h1
    ·simp[Array.getElem?_eq_none h']at h1
   have h2:=yp hoj (hfree j oj hoj hji hjun hnot) (λcs b=>hsel i oi cs b hi) (λcs b=>hsel j oj cs b hoj) hy h1
   have hfree':∀k ok,ops[k]?=some ok->k≠i->(listed.setIfInBounds j true).getD k true=false ->
     (∀e∈ok.after,Region.binds .any e=true->e.on≠i)->oi.apart ops ok=true:=λk ok hk hki hun hno=>by
    refine hfree k ok hk hki ?_ hno
    by_cases hjk:j=k
    ·subst hjk;exact hjun
    ·rw[getD_set_ne true hjk]at hun;exact hun
   refine wpOp_mono (λa' W' h3=>?_) h2
   obtain⟨hy',w',hb1,hb2,h4⟩:=h3
   refine⟨w',hb1,hb2,ih (listed.setIfInBounds j true) a' w' hfree' (ready_mono hr (Ne.symm hji)) (hy'.later hb1) ?_⟩
   rw[Array.setIfInBounds_comm _ _ hji]
   exact h4
def mS (o:Oper):Bool:=
 match o.op with
 | .move _ | .assign _ | .pick .. | .load .. | .nilCheck _ | .binOp .. | .unOp .. | .convert .. | .slice .. | .fieldAddr .. | .field .. | .indexAddr .. | .index .. | .extract .. | .build .. | .makeInterface .. | .lookup .. => true
 | .call {callee:=.builtin .len,..}=>true
 | _=>false
theorem Bv {s:Sem Value} {W W':World} {n:Next} (h:((do pure (.value (←s))):Sem Next).run P W=.ok n W'):∃x,n=.value x:=by
 rw[Sem.run_bind]at h
 generalize s.run P W=r at h
 cases r with
 | ok x w=>simp only[Result.andThen,Sem.run_pure]at h;injection h with h _;exact⟨x,h.symm⟩
 | halt x w=>simp only[Result.andThen]at h;cases h
theorem qQ {x:Operand} {d:Option Tmp} {ty:TypeId} {pos:String} {af:Array Edge} {g:Option (Nat × Bool)} {ρ:Operand->Value} {W W':World} {n:Next}
  (h:(execOp ρ ⟨d,.nilCheck x,ty,pos,af,g⟩).run P W=.ok n W'):∃x,n=.value x:=by
 simp only[execOp]at h
 split at h
 ·simp[runtimePanic]at h
 ·simp[runtimePanic]at h
 ·simp[runtimePanic]at h
 ·split at h
  ·simp[runtimePanic]at h
  ·simp only[Sem.run_bind]at h
   generalize (Sem.run P program W)=r0 at h
   cases r0 with
   | halt x w=>simp only[Result.andThen]at h;cases h
   | ok p w =>
    simp only[Result.andThen]at h
    split at h
    ·rename_i a w1 hr
     split at h
     ·simp[unsupported]at h
     ·injection h with h _;exact⟨_,h.symm⟩
    ·cases h
  ·injection h with h _;exact⟨_,h.symm⟩
 ·injection h with h _;exact⟨_,h.symm⟩
theorem jE {o:Oper} (hq:mS o=true) {ρ:Operand->Value} {W W':World} {n:Next} (h:(execOp ρ o).run P W=.ok n W'):∃x,n=.value x:=by
 obtain⟨d,op,ty,pos,af,g⟩:=o
 cases op<;>simp only[mS,Bool.false_eq_true]at hq
 case move x=>injection h with h _;exact⟨_,h.symm⟩
 case assign x=>injection h with h _;exact⟨_,h.symm⟩
 case pick c a b =>
  simp only[execOp,Sem.run_bind]at h
  generalize (asBool (ρ c)).run P W=r at h
  cases r with
  | ok x w=>simp only[Result.andThen,Sem.run_pure]at h;injection h with h _;exact⟨_,h.symm⟩
  | halt x w=>simp only[Result.andThen]at h;cases h
 case call c =>
  obtain⟨cal,args,ats⟩:=c
  cases cal<;>try (simp at hq;done)
  case builtin b =>
   cases b<;>try (simp at hq;done)
   case len =>
    rw[BigFrame.execOp_builtin,BigFrame.builtin_len]at h
    exact Bv h
 case binOp=>exact Bv h
 case nilCheck x=>exact qQ h
 all_goals exact Bv h
theorem sr {o:Oper} {a:Act} {w:World} {K:Act->Prop} (hq:mS o=true)
  (h:if Region.wanted o (yielded ops a.tmps) then o.quiet P a (Cls w) K else K (a.put o.dst undef)):∃v,YG P ops o v a w/\K (a.put o.dst v):=by
 by_cases hw:Region.wanted o (yielded ops a.tmps)=true
 ·rw[if_pos hw]at h
  obtain⟨v,h1,h2⟩:=h
  refine⟨v,.inl ⟨hw,λW hW=>?_⟩,h2⟩
  have h3:=h1 W (IC hW)
  unfold Oper.quietAt at h3
  generalize hr:(execOp a.eval o).run P W=r at h3
  cases r with
  | ok n w' =>
   obtain⟨x,rfl⟩:=jE hq hr
   simp only[Oper.quietUpon]at h3
   obtain⟨rfl,rfl⟩:=h3
   rfl
  | halt x w'=>simp only[Oper.quietUpon]at h3
 ·rw[if_neg hw]at h
  exact⟨undef,.inr ⟨by simpa using hw,rfl⟩,h⟩
def Cq:Oper:=⟨none,.move (.const undef),0,default,#[],none⟩
def pickOps (ops:Array Oper) (l:List Nat):List Oper:=l.map λi=>(ops[i]?).getD Cq
def bb (P:Program) (ops:Array Oper) (Q:Act->World->Prop):List (Bool × List Oper)->Act->World->Prop
 | [],a,w=>∀W,Below w.heap.size w W->Q a W
 | (true,l)::r,a,w=>wpQuiet P ops (Cls w) (λa'=>bb P ops Q r a' w) l a
 | (false,l)::r,a,w=>∀W,Below w.heap.size w W->wpList P ops (Exit.then (λa' W'=>Below W.heap.size W W'/\bb P ops Q r a' W') Bot) l a W
theorem plan_quiet {Q:Act->World->Prop} {l:List Oper} {r:List (Bool × List Oper)} {a:Act} {w:World} (h:wpQuiet P ops (Cls w) (λa'=>bb P ops Q r a' w) l a):bb P ops Q ((true,l)::r) a w:=h
theorem plan_chain {Q:Act->World->Prop} {l:List Oper} {r:List (Bool × List Oper)} {a:Act} {w:World}
  (h:∀W,Below w.heap.size w W->wpList P ops (Exit.then (λa' W'=>Below W.heap.size W W'/\bb P ops Q r a' W') Bot) l a W):bb P ops Q ((false,l)::r) a w:=h
theorem plan_end {Q:Act->World->Prop} {a:Act} {w:World} (h:∀W,Below w.heap.size w W->Q a W):bb P ops Q [] a w:=h
def aE (ops:Array Oper):List Nat->Array Bool->Option (Array Bool)
 | [],l=>some l
 | i::is,l=>if (Region.ready .any ops l).contains i && Region.free .any ops l i && ((ops[i]?).map mS).getD false then aE ops is (l.setIfInBounds i true) else none
def gU (ops:Array Oper) (is:List Nat) (l:Array Bool):Option (Array Bool):=
 match is with
 | [i]=>if (Region.ready .any ops l == [i]) && (ops[i]?).isSome then some (l.setIfInBounds i true) else none
 | _=>none
def gD (ops:Array Oper):List (Bool × List Nat)->Array Bool->Bool
 | [],l=>(Region.ready .any ops l).isEmpty
 | (true,is)::r,l=>match aE ops is l with|some l'=>gD ops r l'|none=>false
 | (false,is)::r,l=>match gU ops is l with|some l'=>gD ops r l'|none=>false
def f8:List (Bool × List Nat)->Nat
 | []=>0
 | (_,is)::r=>is.length+f8 r
def mX (ops:Array Oper) (p:List (Bool × List Nat)):Bool:=
 Region.noSelect ops && gD ops p (Array.replicate ops.size false) && (f8 p == ops.size)
theorem quiet_sound {Q:Act->World->Prop} (hs:Region.noSelect ops=true) {w:World} {K:Act->Prop} {fuel:Nat} {l':Array Bool} (hK:∀a,K a->kh P ops Q fuel l' a w) :
  ∀(is:List Nat) (listed:Array Bool) (a:Act),aE ops is listed=some l'->wpQuiet P ops (Cls w) K (pickOps ops is) a->kh P ops Q (is.length+fuel) listed a w
 | [],listed,a,hq,h=>by
  simp only[aE,Option.some.injEq]at hq
  subst hq
  simp only[List.length_nil,Nat.zero_add]
  exact hK a h
 | i::is,listed,a,hq,h=>by
  simp only[aE]at hq
  split at hq
  case isFalse=>cases hq
  rename_i hc
  simp only[Bool.and_eq_true]at hc
  obtain⟨⟨hr,hf⟩,hb⟩:=hc
  cases ho:ops[i]? with
  | none=>simp[ho]at hb
  | some o =>
   simp only[ho,Option.map_some,Option.getD_some]at hb
   simp only[pickOps,List.map_cons,ho,Option.getD_some]at h
   obtain⟨v,hy,hn⟩:=sr (K:=wpQuiet P ops (Cls w) K (pickOps ops is)) hb h
   have:=quiet_sound hs hK is _ _ hq hn
   rw[List.length_cons,Nat.add_right_comm]
   exact kh.first ho (Region.noSelect_spec hs) _ listed a w (Region.free_spec ho hf) (by simpa using hr) hy this
theorem cU {Q:Act->World->Prop} (hs:Region.noSelect ops=true):∀(p:List (Bool × List Nat)) (listed:Array Bool) (a:Act) (w:World),
  gD ops p listed=true->bb P ops Q (p.map λx=>(x.1,pickOps ops x.2)) a w->kh P ops Q (f8 p) listed a w
 | [],listed,a,w,hB,h=>⟨by simpa[gD] using hB,h⟩
 | (true,is)::r,listed,a,w,hB,h=>by
  simp only[gD]at hB
  cases hq:aE ops is listed with
  | none=>simp[hq]at hB
  | some l' =>
   simp only[hq]at hB
   simp only[List.map_cons,bb]at h
   exact quiet_sound hs (λa' ha'=>cU hs r l' a' w hB ha') is listed a hq h
 | (false,is)::r,listed,a,w,hB,h=>by
  simp only[gD]at hB
  cases hq:gU ops is listed with
  | none=>simp[hq]at hB
  | some l' =>
   simp only[hq]at hB
   simp only[List.map_cons,bb]at h
   unfold gU at hq
   split at hq
   case h_2=>cases hq
   rename_i i
   split at hq
   case isFalse=>cases hq
   rename_i hc
   simp only[Bool.and_eq_true,beq_iff_eq]at hc
   obtain⟨hr,ho⟩:=hc
   simp only[Option.some.injEq]at hq
   subst hq
   obtain⟨o,ho⟩:=Option.isSome_iff_exists.1 ho
   simp only[pickOps,List.map_cons,ho,Option.getD_some,List.map_nil]at h
   show kh P ops Q (1+f8 r) listed a w
   rw[Nat.add_comm]
   intro W hW
   refine⟨λh0=>(by rw[hr]at h0;cases h0),λj hj=>?_⟩
   rw[hr]at hj
   simp only[List.mem_singleton]at hj
   subst hj
   have h1:=h W hW
   unfold wpOp
   simp only[ho]
   have next:∀a' W',wpList P ops (Exit.then (λa' W'=>Below W.heap.size W W'/\bb P ops Q (r.map λx=>(x.1,pickOps ops x.2)) a' W') Bot) [] a' W' ->
     ∃w',Below w.heap.size w w'/\Below w'.heap.size w' W'/\kh P ops Q (f8 r) (listed.setIfInBounds j true) a' w':=λa' W' hh =>
    ⟨W',tr hW hh.1,Below.refl _ _,cU hs r _ a' W' hB hh.2⟩
   simp only[wpList]at h1
   split at h1
   ·rename_i hw
    rw[if_pos hw]
    rcases h1 with h1|h1
    ·left
     exact gZ (λc a w h=>h) (λh=>h) (Oper.wp_mono next h1)
    ·obtain⟨_,hl⟩:=h1
     obtain⟨_,_,hf⟩:=hl
     exact hf.elim
   ·rename_i hw
    rw[if_neg hw]
    exact next _ _ h1
theorem wp_region_plan {id:Nat} {Q:Exit->Act->World->Prop} {a:Act} {w:World} {l:List Oper} (p:List (Bool × List Nat)) (p':List (Bool × List Oper)) (hm:P.follows .mixedOrders=true) (hB:mX l.toArray p=true)
  (hp:p.map (λx=>(x.1,pickOps l.toArray x.2))=p')
  (h0:∀K:Act->World->Prop,(∀a w,Q .normal a w->K a w)->bb P l.toArray K p' a w):(Code.region id l.toArray true).wp P Q a w:=by
 subst hp
 have h:=h0 (λa' w'=>Q .normal a' w') (λ_ _ h=>h)
 unfold mX at hB
 simp only[Bool.and_eq_true,beq_iff_eq]at hB
 obtain⟨⟨h1,h2⟩,h3⟩:=hB
 refine wp_region_any hm ?_
 have:=cU (P:=P) (Q:=λa' w'=>Q .normal a' w') h1 p _ a w h2 h
 rw[h3]at this
 exact kh.sound (λ_ _ h=>h) _ _ a w _ ((Below.refl _ _).drew) this
end
end Go.Proofs.YtfcbghmbbjolcaaGreatDoor.Rg
namespace Go.Proofs.YtfcbghmbbjolcaaGreatDoor.Rh
open Go Go.Sort Go.RowKit Rg
section
variable {P:Program} {ops:Array Oper}
structure Later (B:Nat) (w:World) where
 W:World
 h:Below B w W
instance {B:Nat} {w:World}:Inhabited (Later B w):=⟨⟨w,Below.refl _ _⟩⟩
abbrev jr (B:Nat) (w:World):World->Prop:=λw'=>∃p:Later B w,w'=p.W
def YB (P:Program) (ops:Array Oper) (B:Nat) (o:Oper) (v:Value) (a:Act) (w:World):Prop:=
 (Region.wanted o (yielded ops a.tmps)=true/\∀W,Below B w W->(execOp a.eval o).run P W=.ok (.value v) W) ∨
 (Region.wanted o (yielded ops a.tmps)=false/\v=undef)
theorem YB.later {B:Nat} {o:Oper} {v:Value} {a:Act} {w w':World} (h:YB P ops B o v a w) (hb:Below B w w'):YB P ops B o v a w':=
 h.imp (λ⟨h1,h2⟩=>⟨h1,λW hW=>h2 W (hb.trans hW)⟩) id
theorem YB.of_same {B:Nat} {o:Oper} {v:Value} {a a':Act} {w:World} (hy:YB P ops B o v a w) (he:execOp a'.eval o=execOp a.eval o)
  (hw:Region.wanted o (yielded ops a'.tmps)=Region.wanted o (yielded ops a.tmps)):YB P ops B o v a' w:=by
 unfold YB at *
 rw[he,hw]
 exact hy
theorem YB.wpOp {B:Nat} {i:Nat} {o:Oper} {v:Value} {a:Act} {w:World} (hi:ops[i]?=some o) (hy:YB P ops B o v a w)
  {K:Act->World->Prop} (h:K (a.put o.dst v) w):wpOp P ops Bot i K a w:=by
 unfold Go.wpOp
 simp only[hi]
 rcases hy with ⟨hw,hv⟩|⟨hw,rfl⟩
 ·simp only[hw,if_true,Oper.wp,hv w (Below.refl _ _),Oper.upon];exact .inl h
 ·simp only[hw,Bool.false_eq_true,if_false];exact h
theorem ki {B:Nat} {j:Nat} {oi oj:Oper} {v:Value} (hj:ops[j]?=some oj) (hap:oi.apart ops oj=true)
  (hsi:∀cs b,oi.op≠.select cs b) (hsj:∀cs b,oj.op≠.select cs b) {K:Act->World->Prop} {a:Act} {w W:World}
  (hy:YB P ops B oi v a w) (h:wpOp P ops Bot j K (a.put oi.dst v) W) :
  wpOp P ops Bot j (λa' w'=>YB P ops B oi v a' w/\K (a'.put oi.dst v) w') a W:=by
 obtain⟨h1,h2,h3⟩:=Oper.apart_spec hap
 have keep:∀(a:Act),YB P ops B oi v a w->∀u,YB P ops B oi v (a.put oj.dst u) w:=λa hy u =>
  hy.of_same (execOp_put oi hsi a oj.dst u h3) (wanted_put oi a oj.dst u h3)
 have keepD:∀d,YB P ops B oi v {a with defers:=d::a.defers} w:=λd=>hy.of_same rfl rfl
 unfold wpOp at *
 simp only[hj]at *
 rw[wanted_put oj a oi.dst v h1]at h
 split
 ·rename_i hw
  simp only[hw,if_true]at h
  rcases h with h|⟨_,_,_,hf⟩
  case inr=>exact hf.elim
  refine .inl ?_
  unfold Oper.wp at *
  rw[execOp_put oj hsj a oi.dst v h1]at h
  generalize (execOp a.eval oj).run P W=r at *
  cases r with
  | ok n w' =>
   cases n<;>simp only[Oper.upon]at h ⊢
   case value u=>exact⟨keep a hy u,by rw[←Act.put_comm a v u h2];exact h⟩
   case skip=>exact⟨keep a hy _,by rw[←Act.put_comm a v undef h2];exact h⟩
   case defer d =>
    refine⟨keep _ (keepD d) _,?_⟩
    rw[←Act.put_comm _ v undef h2,←Act.put_defers]
    exact h
   case enter f args =>
    refine Calls.mono h λe w'' he=>?_
    cases e with
    | returned u=>exact⟨keep a hy u,by rw[←Act.put_comm a v u h2];exact he⟩
    | panicked c=>exact he.elim
    | outgrown=>obtain⟨_,_,hf⟩:=he;exact hf.elim
   case row row args=>exact Rows.mono h λu w'' he=>⟨keep a hy u,by rw[←Act.put_comm a v u h2];exact he⟩
  | halt x w' =>
   cases x<;>simp only[Oper.upon]at h ⊢
   case panic u=>exact h.elim
 ·rename_i hw
  simp only[hw]at h
  exact⟨keep a hy _,by rw[←Act.put_comm a v undef h2];exact h⟩
def eQ (P:Program) (ops:Array Oper) (B:Nat) (Q:Act->World->Prop):Nat->Array Bool->Act->World->Prop
 | 0,listed,a,w=>Region.ready .any ops listed=[]/\Q a w
 | fuel+1,listed,a,w=>(Region.ready .any ops listed=[]->Q a w) /\
   ∀i∈Region.ready .any ops listed,wpOp P ops Bot i (λa' W'=>Below B w W'/\eQ P ops B Q fuel (listed.setIfInBounds i true) a' W') a w
theorem eQ.sound {B:Nat} {Q:Act->World->Prop} {Q':Exit->Act->World->Prop} (hQ:∀a w,Q a w->Q' .normal a w):∀(fuel:Nat) (listed:Array Bool) (a:Act) (w:World),
  eQ P ops B Q fuel listed a w->wpAny P .any ops Q' fuel listed a w
 | 0,_,_,_,h=>⟨h.1,hQ _ _ h.2⟩
 | fuel+1,_,a,w,h=>by
  obtain⟨h0,h1⟩:=h
  exact⟨λe=>hQ _ _ (h0 e),λi hi=>js (wpOp_mono (λa' W' h2=>eQ.sound hQ fuel _ a' W' h2.2) (h1 i hi))⟩
theorem eQ.first {B:Nat} {Q:Act->World->Prop} {i:Nat} {oi:Oper} {v:Value} (hi:ops[i]?=some oi) (hsel:∀(j:Nat) (o:Oper) cs b,ops[j]?=some o->o.op≠.select cs b) :
  ∀(fuel:Nat) (listed:Array Bool) (a:Act) (w:World),
   (∀j oj,ops[j]?=some oj->j≠i->listed.getD j true=false->(∀e∈oj.after,Region.binds .any e=true->e.on≠i)->oi.apart ops oj=true) ->
   i∈Region.ready .any ops listed->YB P ops B oi v a w ->
   eQ P ops B Q fuel (listed.setIfInBounds i true) (a.put oi.dst v) w->eQ P ops B Q (fuel+1) listed a w:=by
 intro fuel
 induction fuel with
 | zero =>
  intro listed a w _ hr hy H
  refine⟨λh=>(by rw[h]at hr;cases hr),λj hj=>?_⟩
  by_cases hji:j=i
  ·subst hji;exact hy.wpOp hi ⟨Below.refl _ _,H⟩
  ·have:=ready_mono hj hji
   rw[H.1]at this
   cases this
 | succ fuel ih =>
  intro listed a w hfree hr hy H
  refine⟨λh=>(by rw[h]at hr;cases hr),λj hj=>?_⟩
  by_cases hji:j=i
  ·subst hji;exact hy.wpOp hi ⟨Below.refl _ _,H⟩
  ·have h1:=H.2 j (ready_mono hj hji)
   obtain⟨hjun,oj,hoj,hall⟩:=mem_ready.1 hj
   have hnot:∀e∈oj.after,Region.binds .any e=true->e.on≠i:=λe he hb heq=>by
    have h1:=hall e he hb
    have h0:=(mem_ready.1 hr).1
    rw[heq]at h1
    rcases Nat.lt_or_ge i listed.size with h'|h'
    ·simp[h']at h0 h1;rw[h0]at h1;cases h1
    ·simp[Array.getElem?_eq_none h']at h1
   have h2:=ki hoj (hfree j oj hoj hji hjun hnot) (λcs b=>hsel i oi cs b hi) (λcs b=>hsel j oj cs b hoj) hy h1
   have hfree':∀k ok,ops[k]?=some ok->k≠i->(listed.setIfInBounds j true).getD k true=false ->
     (∀e∈ok.after,Region.binds .any e=true->e.on≠i)->oi.apart ops ok=true:=λk ok hk hki hun hno=>by
    refine hfree k ok hk hki ?_ hno
    by_cases hjk:j=k
    ·subst hjk;exact hjun
    ·rw[getD_set_ne true hjk]at hun;exact hun
   refine wpOp_mono (λa' W' h3=>?_) h2
   obtain⟨hy',hb1,h4⟩:=h3
   refine⟨hb1,ih (listed.setIfInBounds j true) a' W' hfree' (ready_mono hr (Ne.symm hji)) (hy'.later hb1) ?_⟩
   rw[Array.setIfInBounds_comm _ _ hji]
   exact h4
theorem gq {B:Nat} {o:Oper} {a:Act} {w:World} {K:Act->Prop} (hq:mS o=true)
  (h:if Region.wanted o (yielded ops a.tmps) then o.quiet P a (jr B w) K else K (a.put o.dst undef)):∃v,YB P ops B o v a w/\K (a.put o.dst v):=by
 by_cases hw:Region.wanted o (yielded ops a.tmps)=true
 ·rw[if_pos hw]at h
  obtain⟨v,h1,h2⟩:=h
  refine⟨v,.inl ⟨hw,λW hW=>?_⟩,h2⟩
  have h3:=h1 W ⟨⟨W,hW⟩,rfl⟩
  unfold Oper.quietAt at h3
  generalize hr:(execOp a.eval o).run P W=r at h3
  cases r with
  | ok n w' =>
   obtain⟨x,rfl⟩:=jE hq hr
   simp only[Oper.quietUpon]at h3
   obtain⟨rfl,rfl⟩:=h3
   rfl
  | halt x w'=>simp only[Oper.quietUpon]at h3
 ·rw[if_neg hw]at h
  exact⟨undef,.inr ⟨by simpa using hw,rfl⟩,h⟩
def bb (P:Program) (ops:Array Oper) (B:Nat) (Q:Act->World->Prop):List (Bool × List Oper)->Act->World->Prop
 | [],a,w=>Q a w
 | (true,l)::r,a,w=>wpQuiet P ops (jr B w) (λa'=>bb P ops B Q r a' w) l a
 | (false,l)::r,a,w=>wpList P ops (Exit.then (λa' W'=>Below B w W'/\bb P ops B Q r a' W') Bot) l a w
theorem plan_quiet {B:Nat} {Q:Act->World->Prop} {l:List Oper} {r:List (Bool × List Oper)} {a:Act} {w:World} (h:wpQuiet P ops (jr B w) (λa'=>bb P ops B Q r a' w) l a):bb P ops B Q ((true,l)::r) a w:=h
theorem plan_chain {B:Nat} {Q:Act->World->Prop} {l:List Oper} {r:List (Bool × List Oper)} {a:Act} {w:World}
  (h:wpList P ops (Exit.then (λa' W'=>Below B w W'/\bb P ops B Q r a' W') Bot) l a w):bb P ops B Q ((false,l)::r) a w:=h
theorem plan_end {B:Nat} {Q:Act->World->Prop} {a:Act} {w:World} (h:Q a w):bb P ops B Q [] a w:=h
theorem quiet_sound {B:Nat} {Q:Act->World->Prop} (hs:Region.noSelect ops=true) {w:World} {K:Act->Prop} {fuel:Nat} {l':Array Bool} (hK:∀a,K a->eQ P ops B Q fuel l' a w) :
  ∀(is:List Nat) (listed:Array Bool) (a:Act),aE ops is listed=some l'->wpQuiet P ops (jr B w) K (pickOps ops is) a->eQ P ops B Q (is.length+fuel) listed a w
 | [],listed,a,hq,h=>by
  simp only[aE,Option.some.injEq]at hq
  subst hq
  simp only[List.length_nil,Nat.zero_add]
  exact hK a h
 | i::is,listed,a,hq,h=>by
  simp only[aE]at hq
  split at hq
  case isFalse=>cases hq
  rename_i hc
  simp only[Bool.and_eq_true]at hc
  obtain⟨⟨hr,hf⟩,hb⟩:=hc
  cases ho:ops[i]? with
  | none=>simp[ho]at hb
  | some o =>
   simp only[ho,Option.map_some,Option.getD_some]at hb
   simp only[pickOps,List.map_cons,ho,Option.getD_some]at h
   obtain⟨v,hy,hn⟩:=gq (K:=wpQuiet P ops (jr B w) K (pickOps ops is)) hb h
   have:=quiet_sound hs hK is _ _ hq hn
   rw[List.length_cons,Nat.add_right_comm]
   exact eQ.first ho (Region.noSelect_spec hs) _ listed a w (Region.free_spec ho hf) (by simpa using hr) hy this
theorem cU {B:Nat} {Q:Act->World->Prop} (hs:Region.noSelect ops=true):∀(p:List (Bool × List Nat)) (listed:Array Bool) (a:Act) (w:World),
  gD ops p listed=true->bb P ops B Q (p.map λx=>(x.1,pickOps ops x.2)) a w->eQ P ops B Q (f8 p) listed a w
 | [],listed,a,w,hB,h=>⟨by simpa[gD] using hB,h⟩
 | (true,is)::r,listed,a,w,hB,h=>by
  simp only[gD]at hB
  cases hq:aE ops is listed with
  | none=>simp[hq]at hB
  | some l' =>
   simp only[hq]at hB
   simp only[List.map_cons,bb]at h
   exact quiet_sound hs (λa' ha'=>cU hs r l' a' w hB ha') is listed a hq h
 | (false,is)::r,listed,a,w,hB,h=>by
  simp only[gD]at hB
  cases hq:gU ops is listed with
  | none=>simp[hq]at hB
  | some l' =>
   simp only[hq]at hB
   simp only[List.map_cons,bb]at h
   unfold gU at hq
   split at hq
   case h_2=>cases hq
   rename_i i
   split at hq
   case isFalse=>cases hq
   rename_i hc
   simp only[Bool.and_eq_true,beq_iff_eq]at hc
   obtain⟨hr,ho⟩:=hc
   simp only[Option.some.injEq]at hq
   subst hq
   obtain⟨o,ho⟩:=Option.isSome_iff_exists.1 ho
   simp only[pickOps,List.map_cons,ho,Option.getD_some,List.map_nil]at h
   show eQ P ops B Q (1+f8 r) listed a w
   rw[Nat.add_comm]
   refine⟨λh0=>(by rw[hr]at h0;cases h0),λj hj=>?_⟩
   rw[hr]at hj
   simp only[List.mem_singleton]at hj
   subst hj
   have h1:=h
   unfold wpOp
   simp only[ho]
   have next:∀a' W',wpList P ops (Exit.then (λa' W'=>Below B w W'/\bb P ops B Q (r.map λx=>(x.1,pickOps ops x.2)) a' W') Bot) [] a' W' ->
     Below B w W'/\eQ P ops B Q (f8 r) (listed.setIfInBounds j true) a' W':=λa' W' hh =>
    ⟨hh.1,cU hs r _ a' W' hB hh.2⟩
   simp only[wpList]at h1
   split at h1
   ·rename_i hw
    rw[if_pos hw]
    rcases h1 with h1|h1
    ·left
     exact gZ (λc a w h=>h) (λh=>h) (Oper.wp_mono next h1)
    ·obtain⟨_,hl⟩:=h1
     obtain⟨_,_,hf⟩:=hl
     exact hf.elim
   ·rename_i hw
    rw[if_neg hw]
    exact next _ _ h1
theorem wp_region_plan (B:Nat) {id:Nat} {Q:Exit->Act->World->Prop} {a:Act} {w:World} {l:List Oper} (p:List (Bool × List Nat)) (p':List (Bool × List Oper)) (hm:P.follows .mixedOrders=true) (hB:mX l.toArray p=true)
  (hp:p.map (λx=>(x.1,pickOps l.toArray x.2))=p')
  (h0:∀(K:Act->World->Prop) (wd:World),(∀a w,Q .normal a w->K a w)->wd=w.drew->bb P l.toArray B K p' a wd):(Code.region id l.toArray true).wp P Q a w:=by
 subst hp
 have h:=h0 (λa' w'=>Q .normal a' w') _ (λ_ _ h=>h) rfl
 unfold mX at hB
 simp only[Bool.and_eq_true,beq_iff_eq]at hB
 obtain⟨⟨h1,h2⟩,h3⟩:=hB
 refine wp_region_any hm ?_
 have:=cU (P:=P) (Q:=λa' w'=>Q .normal a' w') h1 p _ a w.drew h2 h
 rw[h3]at this
 exact eQ.sound (λ_ _ h=>h) _ _ a w.drew this
theorem p0 (B:Nat) {id:Nat} {Q:Exit->Act->World->Prop} {a:Act} {w:World} {l:List Oper} (p:List (Bool × List Nat)) {p':List (Bool × List Oper)} (h0:∀(K:Act->World->Prop) (wd:World),(∀a w,Q .normal a w->K a w)->wd=w.drew->bb P l.toArray B K p' a wd) (hm:P.follows .mixedOrders=true:=by kernel_rfl) (hB:mX l.toArray p=true:=by kernel_rfl) (hp:p.map (λx=>(x.1,pickOps l.toArray x.2))=p':=by simp only[List.map_cons,List.map_nil,Rg.pickOps,List.getElem?_toArray,List.getElem?_cons_zero,List.getElem?_cons_succ,Option.getD_some];rfl):(Code.region id l.toArray true).wp P Q a w:=wp_region_plan B p p' hm hB hp h0
end
end Go.Proofs.YtfcbghmbbjolcaaGreatDoor.Rh
