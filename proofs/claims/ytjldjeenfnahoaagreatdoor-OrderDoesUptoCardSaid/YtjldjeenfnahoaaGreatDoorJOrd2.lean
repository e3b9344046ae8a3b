/- A region that draws its order, some operations of which (Ls) -/
import Derived.Test.YtjldjeenfnahoaaGreatDoorJRegion5
namespace Go.Proofs.YtjldjeenfnahoaaGreatDoor.Rs
open Go Go.Sort Go.RowKit Rg Rh Rf Rl Rn
section
variable {P:Program} {ops:Array Oper}
def bv (P:Program) (ops:Array Oper) (B:Nat) (Ls:List Nat) (Q:Act->World->Prop):Nat->Array Bool->Act->World->Prop
 | 0,listed,a,w=>Region.ready .any ops listed=[]/\Q a w
 | fuel+1,listed,a,w=>(Region.ready .any ops listed=[]->Q a w) /\
   ∀i∈Region.ready .any ops listed,wpOp P ops Bot i (λa' W'=>(i∈Ls/\Below 0 w W'∨Below B w W')/\bv P ops B Ls Q fuel (listed.setIfInBounds i true) a' W') a w
theorem bv.sound {B:Nat} {Ls:List Nat} {Q:Act->World->Prop} {Q':Exit->Act->World->Prop} (hQ:∀a w,Q a w->Q' .normal a w):∀(fuel:Nat) (listed:Array Bool) (a:Act) (w:World),
  bv P ops B Ls Q fuel listed a w->wpAny P .any ops Q' fuel listed a w
 | 0,_,_,_,h=>⟨h.1,hQ _ _ h.2⟩
 | fuel+1,_,a,w,h=>by
  obtain⟨h0,h1⟩:=h
  exact⟨λe=>hQ _ _ (h0 e),λi hi=>iq (wpOp_mono (λa' W' h2=>bv.sound hQ fuel _ a' W' h2.2) (h1 i hi))⟩
theorem sI {B:Nat} {Ls:List Nat} {Q:Act->World->Prop} {i:Nat} {oi:Oper} {v:Value} (hi:ops[i]?=some oi) (hsel:∀(j:Nat) (o:Oper) cs b,ops[j]?=some o->o.op≠.select cs b) :
  ∀(fuel:Nat) (listed:Array Bool) (a:Act) (w:World),
   (∀j oj,ops[j]?=some oj->j≠i->listed.getD j true=false->(∀e∈oj.after,Region.binds .any e=true->e.on≠i)->oi.apart ops oj=true) ->
   (∀L∈Ls,Holds ops L i listed)->i∈Region.ready .any ops listed->YB P ops B oi v a w ->
   bv P ops B Ls Q fuel (listed.setIfInBounds i true) (a.put oi.dst v) w->bv P ops B Ls Q (fuel+1) listed a w:=by
 intro fuel
 induction fuel with
 | zero =>
  intro listed a w _ _ hr hy H
  refine⟨λh=>(by rw[h]at hr;cases hr),λj hj=>?_⟩
  by_cases hji:j=i
  ·subst hji;exact hy.wpOp hi ⟨.inr (Below.refl _ _),H⟩
  ·have:=ready_mono hj hji
   rw[H.1]at this
   cases this
 | succ fuel ih =>
  intro listed a w hfree hho hr hy H
  refine⟨λh=>(by rw[h]at hr;cases hr),λj hj=>?_⟩
  by_cases hji:j=i
  ·subst hji;exact hy.wpOp hi ⟨.inr (Below.refl _ _),H⟩
  ·have hjL:j ∉ Ls:=λhm=>(hho j hm).open_ hji hj rfl
   have h1:=H.2 j (ready_mono hj hji)
   obtain⟨hjun,oj,hoj,hall⟩:=mem_ready.1 hj
   have hnot:∀e∈oj.after,Region.binds .any e=true->e.on≠i:=λe he hb heq=>by
    have h1:=hall e he hb
    have h0:=(mem_ready.1 hr).1
    rw[heq]at h1
    rcases Nat.lt_or_ge i listed.size with h'|h'
    ·simp[h']at h0 h1;rw[h0]at h1;cases h1
    ·simp[Array.getElem?_eq_none h']at h1
   have h2:=dK hoj (hfree j oj hoj hji hjun hnot) (λcs b=>hsel i oi cs b hi) (λcs b=>hsel j oj cs b hoj) hy h1
   have hfree':∀k ok,ops[k]?=some ok->k≠i->(listed.setIfInBounds j true).getD k true=false ->
     (∀e∈ok.after,Region.binds .any e=true->e.on≠i)->oi.apart ops ok=true:=λk ok hk hki hun hno=>by
    refine hfree k ok hk hki ?_ hno
    by_cases hjk:j=k
    ·subst hjk;exact hjun
    ·rw[getD_set_ne true hjk]at hun;exact hun
   refine wpOp_mono (λa' W' h3=>?_) h2
   obtain⟨hy',hb1,h4⟩:=h3
   have hb1':=hb1.resolve_left (λh=>hjL h.1)
   refine⟨hb1,ih (listed.setIfInBounds j true) a' W' hfree' (λL hL=>(hho L hL).set hji hj) (ready_mono hr (Ne.symm hji)) (hy'.later hb1') ?_⟩
   rw[Array.setIfInBounds_comm _ _ hji]
   exact h4
theorem sM {B:Nat} {Ls:List Nat} {Q:Act->World->Prop} {i:Nat} {oi:Oper} {v:Value} (hi:ops[i]?=some oi) (hsel:∀(j:Nat) (o:Oper) cs b,ops[j]?=some o->o.op≠.select cs b) :
  ∀(fuel:Nat) (listed:Array Bool) (a:Act) (w:World),
   (∀j oj,ops[j]?=some oj->j≠i->listed.getD j true=false->(∀e∈oj.after,Region.binds .any e=true->e.on≠i)->oi.apart ops oj=true) ->
   i∈Region.ready .any ops listed->YB P ops 0 oi v a w ->
   bv P ops B Ls Q fuel (listed.setIfInBounds i true) (a.put oi.dst v) w->bv P ops B Ls Q (fuel+1) listed a w:=by
 intro fuel
 induction fuel with
 | zero =>
  intro listed a w _ hr hy H
  refine⟨λh=>(by rw[h]at hr;cases hr),λj hj=>?_⟩
  by_cases hji:j=i
  ·subst hji;exact hy.wpOp hi ⟨.inr (Below.refl _ _),H⟩
  ·have:=ready_mono hj hji
   rw[H.1]at this
   cases this
 | succ fuel ih =>
  intro listed a w hfree hr hy H
  refine⟨λh=>(by rw[h]at hr;cases hr),λj hj=>?_⟩
  by_cases hji:j=i
  ·subst hji;exact hy.wpOp hi ⟨.inr (Below.refl _ _),H⟩
  ·have h1:=H.2 j (ready_mono hj hji)
   obtain⟨hjun,oj,hoj,hall⟩:=mem_ready.1 hj
   have hnot:∀e∈oj.after,Region.binds .any e=true->e.on≠i:=λe he hb heq=>by
    have h1:=hall e he hb
    have h0:=(mem_ready.1 hr).1
    rw[heq]at h1
    rcases Nat.lt_or_ge i listed.size with h'|h'
    ·simp[h']at h0 h1;rw[h0]at h1;cases h1
    ·simp[Array.getElem?_eq_none h']at h1
   have h2:=dK hoj (hfree j oj hoj hji hjun hnot) (λcs b=>hsel i oi cs b hi) (λcs b=>hsel j oj cs b hoj) hy h1
   have hfree':∀k ok,ops[k]?=some ok->k≠i->(listed.setIfInBounds j true).getD k true=false ->
     (∀e∈ok.after,Region.binds .any e=true->e.on≠i)->oi.apart ops ok=true:=λk ok hk hki hun hno=>by
    refine hfree k ok hk hki ?_ hno
    by_cases hjk:j=k
    ·subst hjk;exact hjun
    ·rw[getD_set_ne true hjk]at hun;exact hun
   refine wpOp_mono (λa' W' h3=>?_) h2
   obtain⟨hy',hb1,h4⟩:=h3
   have hb1':Below 0 w W':=hb1.elim (λh=>h.2) (λh=>h.mono (Nat.zero_le _))
   refine⟨hb1,ih (listed.setIfInBounds j true) a' W' hfree' (ready_mono hr (Ne.symm hji)) (hy'.later hb1') ?_⟩
   rw[Array.setIfInBounds_comm _ _ hji]
   exact h4
def holdSeq (ops:Array Oper) (Ls:List Nat):List Nat->Array Bool->Bool
 | [],_=>true
 | i::is,l=>(Ls.all λL=>sG ops L i l) && holdSeq ops Ls is (l.setIfInBounds i true)
theorem cQ {B:Nat} {Ls:List Nat} {Q:Act->World->Prop} (hs:Region.noSelect ops=true) {w:World} {K:Act->Prop} {fuel:Nat} {l':Array Bool} (hK:∀a,K a->bv P ops B Ls Q fuel l' a w) :
  ∀(is:List Nat) (listed:Array Bool) (a:Act),aA ops is listed=some l'->holdSeq ops Ls is listed=true->wpQuiet P ops (jR B w) K (pickOps ops is) a->bv P ops B Ls Q (is.length+fuel) listed a w
 | [],listed,a,hq,_,h=>by
  simp only[aA,Option.some.injEq]at hq
  subst hq
  simp only[List.length_nil,Nat.zero_add]
  exact hK a h
 | i::is,listed,a,hq,hh,h=>by
  simp only[holdSeq,Bool.and_eq_true,List.all_eq_true]at hh
  simp only[aA]at hq
  split at hq
  case isFalse=>cases hq
  rename_i hc
  simp only[Bool.and_eq_true]at hc
  obtain⟨⟨hr,hf⟩,hb⟩:=hc
  cases ho:ops[i]? with
  | none=>simp[ho]at hb
  | some o =>
   simp only[ho,Option.map_some,Option.getD_some]at hb
   simp only[pickOps,List.map_cons,ho,Option.getD_some]at h
   obtain⟨v,hy,hn⟩:=cB (K:=wpQuiet P ops (jR B w) K (pickOps ops is)) hb h
   have:=cQ hs hK is _ _ hq hh.2 hn
   rw[List.length_cons,Nat.add_right_comm]
   exact sI ho (Region.noSelect_spec hs) _ listed a w (Region.free_spec ho hf) (λL hL=>holds_of (hh.1 L hL)) (by simpa using hr) hy this
theorem cT {B:Nat} {Ls:List Nat} {Q:Act->World->Prop} (hs:Region.noSelect ops=true) {w:World} {K:Act->Prop} {fuel:Nat} {l':Array Bool} (hK:∀a,K a->bv P ops B Ls Q fuel l' a w) :
  ∀(is:List Nat) (listed:Array Bool) (a:Act),aA ops is listed=some l'->wpQuiet P ops (jR 0 w) K (pickOps ops is) a->bv P ops B Ls Q (is.length+fuel) listed a w
 | [],listed,a,hq,h=>by
  simp only[aA,Option.some.injEq]at hq
  subst hq
  simp only[List.length_nil,Nat.zero_add]
  exact hK a h
 | i::is,listed,a,hq,h=>by
  simp only[aA]at hq
  split at hq
  case isFalse=>cases hq
  rename_i hc
  simp only[Bool.and_eq_true]at hc
  obtain⟨⟨hr,hf⟩,hb⟩:=hc
  cases ho:ops[i]? with
  | none=>simp[ho]at hb
  | some o =>
   simp only[ho,Option.map_some,Option.getD_some]at hb
   simp only[pickOps,List.map_cons,ho,Option.getD_some]at h
   obtain⟨v,hy,hn⟩:=cB (K:=wpQuiet P ops (jR 0 w) K (pickOps ops is)) hb h
   have:=cT hs hK is _ _ hq hn
   rw[List.length_cons,Nat.add_right_comm]
   exact sM ho (Region.noSelect_spec hs) _ listed a w (Region.free_spec ho hf) (by simpa using hr) hy this
def aU (P:Program) (ops:Array Oper) (B:Nat) (Q:Act->World->Prop):List (Nat × List Oper)->Act->World->Prop
 | [],a,w=>Q a w
 | (0,l)::r,a,w=>wpQuiet P ops (jR B w) (λa'=>aU P ops B Q r a' w) l a
 | (1,l)::r,a,w=>wpList P ops (Exit.then (λa' W'=>Below B w W'/\aU P ops B Q r a' W') Bot) l a w
 | (2,l)::r,a,w=>wpList P ops (Exit.then (λa' W'=>Below 0 w W'/\aU P ops B Q r a' W') Bot) l a w
 | (_+3,l)::r,a,w=>wpQuiet P ops (jR 0 w) (λa'=>aU P ops B Q r a' w) l a
theorem st_quiet {B:Nat} {Q:Act->World->Prop} {l:List Oper} {r:List (Nat × List Oper)} {a:Act} {w:World} (h:wpQuiet P ops (jR B w) (λa'=>aU P ops B Q r a' w) l a):aU P ops B Q ((0,l)::r) a w:=h
theorem st_pure {B:Nat} {Q:Act->World->Prop} {l:List Oper} {r:List (Nat × List Oper)} {a:Act} {w:World} (h:wpQuiet P ops (jR 0 w) (λa'=>aU P ops B Q r a' w) l a):aU P ops B Q ((3,l)::r) a w:=h
theorem st_one {B:Nat} {Q:Act->World->Prop} {l:List Oper} {r:List (Nat × List Oper)} {a:Act} {w:World} (h:wpList P ops (Exit.then (λa' W'=>Below B w W'/\aU P ops B Q r a' W') Bot) l a w):aU P ops B Q ((1,l)::r) a w:=h
theorem st_free {B:Nat} {Q:Act->World->Prop} {l:List Oper} {r:List (Nat × List Oper)} {a:Act} {w:World} (h:wpList P ops (Exit.then (λa' W'=>Below 0 w W'/\aU P ops B Q r a' W') Bot) l a w):aU P ops B Q ((2,l)::r) a w:=h
theorem st_done {B:Nat} {Q:Act->World->Prop} {a:Act} {w:World} (h:Q a w):aU P ops B Q [] a w:=h
def st7 (ops:Array Oper) (Ls:List Nat):List (Nat × List Nat)->Array Bool->Bool
 | [],l=>(Region.ready .any ops l).isEmpty
 | (0,is)::r,l=>match aA ops is l with|some l'=>holdSeq ops Ls is l && st7 ops Ls r l'|none=>false
 | (3,is)::r,l=>match aA ops is l with|some l'=>st7 ops Ls r l'|none=>false
 | (1,[i])::r,l=>(Region.ready .any ops l == [i]) && (ops[i]?).isSome && st7 ops Ls r (l.setIfInBounds i true)
 | (2,[i])::r,l=>Ls.contains i && (Region.ready .any ops l == [i]) && (ops[i]?).isSome && st7 ops Ls r (l.setIfInBounds i true)
 | _,_=>false
def ok7 (ops:Array Oper) (Ls:List Nat) (p:List (Nat × List Nat)):Bool:=Region.noSelect ops && st7 ops Ls p (Array.replicate ops.size false) && (qH p == ops.size)
theorem eR {B:Nat} {Ls:List Nat} {Q:Act->World->Prop} (hs:Region.noSelect ops=true):∀(p:List (Nat × List Nat)) (listed:Array Bool) (a:Act) (w:World),
  st7 ops Ls p listed=true->aU P ops B Q (p.map λx=>(x.1,pickOps ops x.2)) a w->bv P ops B Ls Q (qH p) listed a w
 | [],listed,a,w,hB,h=>by
  simp only[st7,List.isEmpty_iff]at hB
  exact⟨hB,h⟩
 | (0,is)::r,listed,a,w,hB,h=>by
  simp only[st7]at hB
  cases hq:aA ops is listed with
  | none=>simp[hq]at hB
  | some l' =>
   simp only[hq,Bool.and_eq_true]at hB
   simp only[List.map_cons,aU]at h
   exact cQ hs (λa' ha'=>eR hs r l' a' w hB.2 ha') is listed a hq hB.1 h
 | (3,is)::r,listed,a,w,hB,h=>by
  simp only[st7]at hB
  cases hq:aA ops is listed with
  | none=>simp[hq]at hB
  | some l' =>
   simp only[hq]at hB
   simp only[List.map_cons,aU]at h
   exact cT hs (λa' ha'=>eR hs r l' a' w hB ha') is listed a hq h
 | (1,[i])::r,listed,a,w,hB,h=>by
  simp only[st7,Bool.and_eq_true,beq_iff_eq]at hB
  obtain⟨⟨hr,ho⟩,hB⟩:=hB
  obtain⟨oi,ho⟩:=Option.isSome_iff_exists.1 ho
  simp only[List.map_cons,List.map_nil,aU,pickOps,ho,Option.getD_some]at h
  show bv P ops B Ls Q (1+qH r) listed a w
  rw[Nat.add_comm]
  refine⟨λh0=>(by rw[hr]at h0;cases h0),λj hj=>?_⟩
  rw[hr]at hj
  simp only[List.mem_singleton]at hj
  subst hj
  exact last_step ho h λa' W' hg=>⟨.inr hg.1,eR hs r _ a' W' hB hg.2⟩
 | (2,[i])::r,listed,a,w,hB,h=>by
  simp only[st7,Bool.and_eq_true,beq_iff_eq,List.contains_iff_mem]at hB
  obtain⟨⟨⟨hL,hr⟩,ho⟩,hB⟩:=hB
  obtain⟨oi,ho⟩:=Option.isSome_iff_exists.1 ho
  simp only[List.map_cons,List.map_nil,aU,pickOps,ho,Option.getD_some]at h
  show bv P ops B Ls Q (1+qH r) listed a w
  rw[Nat.add_comm]
  refine⟨λh0=>(by rw[hr]at h0;cases h0),λj hj=>?_⟩
  rw[hr]at hj
  simp only[List.mem_singleton]at hj
  subst hj
  exact last_step ho h λa' W' hg=>⟨.inl ⟨hL,hg.1⟩,eR hs r _ a' W' hB hg.2⟩
 | (1,[])::r,listed,a,w,hB,h=>by simp[st7]at hB
 | (1,_::_::_)::r,listed,a,w,hB,h=>by simp[st7]at hB
 | (2,[])::r,listed,a,w,hB,h=>by simp[st7]at hB
 | (2,_::_::_)::r,listed,a,w,hB,h=>by simp[st7]at hB
 | (n+4,_)::r,listed,a,w,hB,h=>by simp[st7]at hB
theorem mx (B:Nat) (Ls:List Nat) (R:Act->World->Prop) {id:Nat} {Q:Exit->Act->World->Prop} {a:Act} {w:World} {l:List Oper} (p:List (Nat × List Nat)) (p':List (Nat × List Oper)) (hm:P.follows .mixedOrders=true) (hB:ok7 l.toArray Ls p=true)
  (hp:(p.map λx=>(x.1,pickOps l.toArray x.2))=p') (h0:∀wd,Below w.heap.size w wd->wd.heap.size=w.heap.size->aU P l.toArray B R p' a wd) (hR:∀a w,R a w->Q .normal a w):(Code.region id l.toArray true).wp P Q a w:=by
 subst hp
 unfold ok7 at hB
 simp only[Bool.and_eq_true,beq_iff_eq]at hB
 obtain⟨⟨h1,h3⟩,h4⟩:=hB
 refine wp_region_any hm ?_
 have:=eR (P:=P) (Q:=R) (B:=B) (Ls:=Ls) h1 p _ a w.drew h3 (h0 _ (Below.refl _ _).drew rfl)
 rw[h4]at this
 exact bv.sound hR _ _ a w.drew this
theorem p0 (B:Nat) (Ls:List Nat) (R:Act->World->Prop) {id:Nat} {Q:Exit->Act->World->Prop} {a:Act} {w:World} {l:List Oper} (p:List (Nat × List Nat)) {p':List (Nat × List Oper)} (h0:∀wd,Below w.heap.size w wd->wd.heap.size=w.heap.size->aU P l.toArray B R p' a wd) (hR:∀a w,R a w->Q .normal a w) (hm:P.follows .mixedOrders=true:=by kernel_rfl) (hB:ok7 l.toArray Ls p=true:=by kernel_rfl) (hp:(p.map λx=>(x.1,pickOps l.toArray x.2))=p':=by simp only[List.map_cons,List.map_nil,Rg.pickOps,List.getElem?_toArray,List.getElem?_cons_zero,List.getElem?_cons_succ,Option.getD_some];rfl):(Code.region id l.toArray true).wp P Q a w:=mx B Ls R p p' hm hB hp h0 hR
end
end Go.Proofs.YtjldjeenfnahoaaGreatDoor.Rs
namespace Go.Proofs.YtjldjeenfnahoaaGreatDoor
open Go Go.RowKit Fm Om
def dH (base:Nat) (w:World) (b:Nat) (vars:List ByteArray) (rows:List (List Tm)) (qc:List Value):Prop:=
 base<=b/\∃va vr,w.heap[b]?=some (Obj.cells (va::vr::qc).toArray 109 (0,0))/\w.ownsRow base 9 1 va vars.length (vars.map Value.string)/\OwnRs base w vr rows
def zQ:List Value:=[.bool false,.bool false,.slice none 0 0,.slice none 0 0,.slice none 0 0,.slice none 0 0,.int .i64 0,.int .i64 0]
theorem aR {w:World} {b:Nat} {cur:Array Value} {T:TypeId} {fr:Nat × Nat} (h:w.heap[b]?=some (Obj.cells cur T fr)) (i:Nat) (v:Value):(w.setCell ⟨b,i,none⟩ v).heap[b]?=some (Obj.cells (cur.setIfInBounds i v) T fr):=by
 simp[World.setCell,Array.getElem?_modify,h]
theorem zV {base b:Nat} {wr W2 w5:World} {va v v' v2:Value} {qc xs:List Value} {vars:List ByteArray} {l:List (List Tm)} {row:List Tm} (hbb:base<=b) (hblk:wr.heap[b]?=some (Obj.cells (va::v::qc).toArray 109 (0,0)))
  (hva:wr.ownsRow base 9 1 va vars.length (vars.map Value.string)) (own:wr.ownsRow base 69 1 v l.length xs) (hall:All 1 (OwnRow base wr) xs l)
  (hb1:Below wr.heap.size wr W2) (hrow:W2.ownsRow base 65 4 v2 row.length (row.flatMap tmC)) (own5:w5.ownsRow base 69 1 v' (l.length+1) (xs++[v2])) (hg5:W2.grownBy w5 v.ownBlock) :
  w5.heap[b]?=some (Obj.cells (va::v::qc).toArray 109 (0,0))/\dH base (w5.setCell ⟨b,1,none⟩ v') b vars (l++[row]) qc:=by
 have own2:=own_below own hb1 (Nat.le_refl _)
 have k1:KeepT 65 wr W2:=KeepT.below hb1
 have hlt:b<wr.heap.size:=(Array.getElem?_eq_some_iff.1 hblk).1
 have hblk2:W2.heap[b]?=some (Obj.cells (va::v::qc).toArray 109 (0,0)):=by rw[hb1.block b hlt];exact hblk
 have k5:∀e,69≠e->KeepT e W2 w5:=λe he=>KeepT.grown hg5 (own_blockR own2) he
 have hblk5:=k5 109 (by decide) b _ _ hblk2
 have k6:∀e,109≠e->KeepT e w5 (w5.setCell ⟨b,1,none⟩ v'):=λe he=>KeepT.setCell hblk5 he
 refine⟨hblk5,hbb,va,v',?_,own_keep (own_keep (own_below hva hb1 (Nat.le_refl _)) (k5 _ (by decide))) (k6 _ (by decide)),xs++[v2],?_,?_⟩
 ·have:=aR hblk5 1 v'
  simpa using this
 ·rw[List.length_append]
  exact own_keep own5 (k6 _ (by decide))
 ·have kk:KeepT 65 W2 (w5.setCell ⟨b,1,none⟩ v'):=(k5 _ (by decide)).trans (k6 _ (by decide))
  exact(hall.mono λ_ _ _ h=>(h.keep k1).keep kk).append (All.one rfl ⟨v2,rfl,own_keep hrow kk⟩)
theorem dH.cell0 {base b:Nat} {w:World} {vars:List ByteArray} {rows:List (List Tm)} {qc:List Value} (h:dH base w b vars rows qc):∃A c B d,w.cell? ⟨b,0,none⟩=some (.slice A vars.length c)/\vars.length<=c/\Rd w A (vars.map Value.string)/\w.cell? ⟨b,1,none⟩=some (.slice B rows.length d)/\rows.length<=d/\RdRs w B rows:=by
 obtain⟨_,va,vr,hb,h1,h2⟩:=h
 obtain⟨A,c,rfl,h3,h4⟩:=own_slice h1
 obtain⟨B,d,rfl,h5,h6⟩:=h2.rd
 exact⟨A,c,B,d,by simp[World.cell?,hb],h3,h4,by simp[World.cell?,hb],h5,h6⟩
def OnR (base:Nat) (vars:List ByteArray) (rows:List (List Tm)) (w:World) (e:Ending) (w':World):Prop:=∃b,e=.returned (.tuple #[.pointer (some ⟨b,0,none⟩),.int .i64 0])/\dH base w' b vars rows zQ/\Below base w w'
set_option maxHeartbeats 4000000 in
set_option maxRecDepth 100000 in
theorem Dm (vars:List ByteArray) (rows:List (List Tm)) (A B:Option Addr) (n c m d:Nat) (w:World) (hn:vars.length=n) (hm:rows.length=m) (hln:n<=1000000) (hlm:m<=1000000) (hnc:n<=c) (hv:Rd w A (vars.map Value.string)) (hr:RdRs w B rows) (hz:∀r∈rows,r.length<=1000000) (hR:aw vars rows=true) :
  Calls Tryz.prog 67 #[.agg #[.slice A n c,.slice B m d]] w (OnR w.heap.size vars rows w):=by
 have hb:Below w.heap.size w (w.alloc (.cells #[.slice A n c,.slice B m d] 25)):=blw
 have hRt:=lE vars rows A B n c m d _ hn hm (by omega) (by omega) hnc (hv.later hb) (hr.later hb)
 rw[hR]at hRt
 have hCv:=λW (h:Below w.heap.size w W)=>oo vars A c W (hv.later h) (by omega)
 rw[hn]at hCv
 have HN:=Lib.hid hn
 have HM:=Lib.hid hm
 have HR:=Lib.hid hr
 have HZ:=Lib.hid hz
 have HB:=Lib.hid hb
 clear hn hm hv hr hz hR hb
 go_enter Tryz.func67,Tryz.ntmps67
 go_wp2_with fail
 refine hRt.mono ?_
 rintro e w1 ⟨rfl,hb1⟩
 have hb1':=aa HB.out hb1
 have b0:w1.cell? ⟨w.heap.size,0,none⟩=some (.slice A n c):=ab (by rw[World.cell?,heap_alloc_new];rfl) hb1
 have b1:w1.cell? ⟨w.heap.size,1,none⟩=some (.slice B m d):=ab (by rw[World.cell?,heap_alloc_new];rfl) hb1
 have hCv1:=hCv w1 hb1'
 have HB1:=Lib.hid hb1'
 clear hb1 hb1' hRt hCv
 go_wp2_with fail
 refine hCv1.mono ?_
 rintro e w2 ⟨va,rfl,hva,hb2⟩
 have b2:w2.cell? ⟨w.heap.size,1,none⟩=some (.slice B m d):=ab b1 hb2
 have HVA:=Lib.hid hva
 have HB2:=Lib.hid (aa HB1.out hb2)
 have hz2:w.heap.size<=w2.heap.size:=HB2.out.size
 have hz3:w.heap.size<w2.heap.size:=Nat.lt_of_lt_of_le (ae b1) hb2.size
 obtain⟨Av,cv,rfl,_,_⟩:=own_slice hva
 clear hva hb2 b0 b1 hCv1
 have hW0:dH w.heap.size (w2.alloc (.cells #[.slice Av n cv,.slice none 0 0,.bool false,.bool false,.slice none 0 0,.slice none 0 0,.slice none 0 0,.slice none 0 0,.int .i64 0,.int .i64 0] 109)) w2.heap.size vars (rows.take 0) zQ:=by
  have hl:=own_below HVA.out (base:=_) ((Below.refl w2.heap.size w2).alloc (Nat.le_refl _) (.cells #[.slice Av n cv,.slice none 0 0,.bool false,.bool false,.slice none 0 0,.slice none 0 0,.slice none 0 0,.slice none 0 0,.int .i64 0,.int .i64 0] 109)) (Nat.le_refl _)
  refine⟨hz2,_,_,heap_alloc_new w2 _,?_,by simpa using OwnRs.nil _ _⟩
  rw[HN.out]
  refine⟨hl.1,?_⟩
  rcases hl.2 with h0|⟨g,cap,cur,h1,h2,h3⟩
  ·exact .inl h0
  ·exact .inr ⟨g,cap,cur,h1,Nat.le_trans HB1.out.size h2,h3⟩
 have HW0:=Lib.hid hW0
 have hb3:Below w.heap.size w (w2.alloc (.cells #[.slice Av n cv,.slice none 0 0,.bool false,.bool false,.slice none 0 0,.slice none 0 0,.slice none 0 0,.slice none 0 0,.int .i64 0,.int .i64 0] 109)):=HB2.out.alloc hz2 _
 have HB3:=Lib.hid hb3
 have hzw:w2.heap.size<(w2.alloc (.cells #[.slice Av n cv,.slice none 0 0,.bool false,.bool false,.slice none 0 0,.slice none 0 0,.slice none 0 0,.slice none 0 0,.int .i64 0,.int .i64 0] 109)).heap.size:=by simp
 have HZW:=Lib.hid hzw
 clear hW0 hb3 hzw
 go_wp2
 go_loopw [6,19] (λu i wr=>∃k:Nat,k<=m/\i=.int .i64 k/\Hid (dH w.heap.size wr w2.heap.size vars (rows.take k) zQ)/\Hid (Below w.heap.size w wr)/\w2.heap.size<wr.heap.size) (λ_ i _=>m-(intOf i).toNat)
 case atStart=>exact⟨0,by omega,rfl,HW0,HB3,HZW.out⟩
 case round =>
  clear HW0 HB3 HZW
  obtain⟨k,hk,rfl,HW,HBw,hzw⟩:=hrel
  by_cases hlt:k<m
  ·obtain⟨row,hrow⟩:∃row,rows[k]?=some row:=⟨_,List.getElem?_eq_getElem (by rw[HM.out];exact hlt)⟩
   obtain⟨g,o,A',c',rfl,hcell,hle,hrd⟩:=(HR.out.later HBw.out).at1 hrow
   obtain⟨hbb,va,v,hblk,hva,xs,hown,hall⟩:=HW.out
   obtain⟨Ar,cr,rfl,hcr,_⟩:=own_slice hown
   have hlk:(rows.take k).length=k:=by rw[List.length_take,HM.out];omega
   have c1:wr.cell? ⟨w2.heap.size,1,none⟩=some (.slice Ar (rows.take k).length cr):=by simp[World.cell?,hblk]
   have hfz:wr.frozen? ⟨w2.heap.size,1,none⟩=false:=by simp[World.frozen?,hblk]
   rw[hlk]at c1 hown
   have HLK:=Lib.hid hlk
   have hCl:=λW (h:Below wr.heap.size wr W)=>zB row A' c' W (hrd.later h).flat (by have:=HZ.out row (List.mem_of_getElem? hrow);omega)
   have hin:Tryz.prog.underlying 23=some (.slice 69):=Tryz.underlying23
   have HX:=Lib.hid (And.intro hbb (And.intro hblk (And.intro hva (And.intro hown (And.intro hall hrow)))))
   clear hrow hrd hle hbb hblk hva hown hall hcr hlk
   go_wp2_with fail
   refine Rs.p0 wr.heap.size [9,13] _ [(3,[0,1,2,3,4,6]),(0,[5]),(1,[7]),(1,[8]),(2,[9]),(3,[10,11,12]),(2,[13])] ?_ (λa w h=>h)
   intro wd hbd hwz
   have c1d:=cellL c1 hbd
   have HWZ:=Lib.hid hwz
   clear c1 hwz hcell
   refine Rs.st_pure ?_
   iterate 6 go_big_quiet_step (fail)
   refine wpQuiet_nil (Rs.st_quiet ?_)
   iterate 1 go_big_quiet_step (fail)
   refine wpQuiet_nil (Rs.st_one ?_)
   go_wp2_with (refine(hCl _ hbd).mono ?_;rintro e w5 ⟨v2,rfl,hrow2,hb7⟩)
   obtain⟨A2,c2,rfl,_,_⟩:=own_slice hrow2
   have hb5:=aa hbd hb7
   have hlt5:=hb5.size
   refine⟨hb7.mono hbd.size,Rs.st_one ?_⟩
   clear c1d hCl
   go_wp2
   refine⟨(Below.refl _ _).alloc hlt5 _,Rs.st_free ?_⟩
   have hown5:=own_below (own_below HX.out.2.2.2.1 hb5 (Nat.le_refl _)) ((Below.refl w5.heap.size w5).alloc (Nat.le_refl _) (.cells #[.slice A2 row.length c2] 69)) (Nat.le_refl _)
   have HR2:=Lib.hid (And.intro hrow2 hb5)
   have HB7:=Lib.hid hb7
   have HBD:=Lib.hid hbd
   clear hrow2 hb5 hb7 hbd
   go_wp2_with (at_builtin;refine ar rfl rfl hin cw rfl (by omega) rfl hown5 rfl (Rd.of_block (heap_alloc_new w5 _) rfl) rfl (by intro u hu;simp only[List.mem_cons,List.not_mem_nil,or_false]at hu;subst hu;rfl) (by omega) (by omega) (by simp;omega) ?_;intro v' w6 own6 hb6 hg6)
   obtain⟨A9,c9,rfl,_,_⟩:=own_slice own6
   obtain⟨hbb,hblk,hva,hown,hall,hrow⟩:=HX.out
   have hal:Below w5.heap.size w5 (w5.alloc (.cells #[.slice A2 row.length c2] 69)):=(Below.refl _ _).alloc (Nat.le_refl _) _
   have hz1:w.heap.size<=wr.heap.size:=HBw.out.size
   obtain⟨h6,hfin⟩:=zV (row:=row) hbb hblk hva (by rw[HLK.out];exact hown) hall (aa HR2.out.2 hal) (own_lower (own_below HR2.out.1 hal (Nat.le_refl _)) (Nat.le_trans hz1 HBD.out.size)) (by rw[HLK.out];exact own6) (by rw[HLK.out];exact hg6)
   have c6:w6.cell? ⟨w2.heap.size,1,none⟩=some (.slice Ar k cr):=by
    have:w6.cell? ⟨w2.heap.size,1,none⟩=some (.slice Ar (rows.take k).length cr):=by simp[World.cell?,h6]
    rw[HLK.out]at this;exact this
   have f6:w6.frozen? ⟨w2.heap.size,1,none⟩=false:=by simp[World.frozen?,h6]
   have hbw6:Below w.heap.size w w6:=(HBw.out.trans ((aa HR2.out.2 hal).mono hz1)).trans hb6
   have HF:=Lib.hid (And.intro hfin (And.intro hbw6 hrow))
   have hz6:w2.heap.size<w6.heap.size:=ae c6
   refine⟨hb6.mono (Nat.zero_le _),Rs.st_pure ?_⟩
   clear h6 hfin hbw6 hrow hbb hblk hva hown hall hal hz1 hb6 hg6 own6 hown5 hlt5
   iterate 3 go_big_quiet_step (fail)
   refine wpQuiet_nil (Rs.st_free ?_)
   go_wp2
   refine⟨(Below.refl 0 _).setCell (p:=⟨w2.heap.size,1,none⟩) (Nat.zero_le _) _,Rs.st_done ?_⟩
   go_wp2
   go_roundw
   case rel =>
    refine⟨k+1,by omega,by go_num,?_,?_,by simpa using hz6⟩
    ·show dH _ _ _ _ _ _
     rw[ah HF.out.2.2];exact HF.out.1
    ·exact HF.out.2.1.setCell (p:=⟨w2.heap.size,1,none⟩) hz2 _
   case measure=>simp[intOf];omega
  ·obtain rfl:k=m:=by omega
   have HF:Hid (OnR w.heap.size vars rows w (.returned (.tuple #[.pointer (some ⟨w2.heap.size,0,none⟩),.int .i64 0])) wr):=by
    have:=HW.out
    rw[List.take_of_length_le (by rw[HM.out];exact Nat.le_refl _)]at this
    exact⟨_,rfl,this,HBw.out⟩
   clear HW
   go_wp2
   go_ret2
   exact HF.out
end Go.Proofs.YtjldjeenfnahoaaGreatDoor
