/- A region that draws its order, some operations of which (Ls) -/
import Derived.Test.YtoejnneknpoanaaGreatDoorJRegion5
import Derived.Deep.MidRow
set_option maxHeartbeats 8000000
set_option maxRecDepth 100000
namespace Go.Proofs.YtoejnneknpoanaaGreatDoor.Rs
open Go Go.Sort Go.RowKit Rg Rh Rf Rl Rn
section
variable {P:Program} {ops:Array Oper}
def bA (P:Program) (ops:Array Oper) (B:Nat) (Ls:List Nat) (Q:Act->World->Prop):Nat->Array Bool->Act->World->Prop
 | 0,listed,a,w=>Region.ready .any ops listed=[]/\Q a w
 | fuel+1,listed,a,w=>(Region.ready .any ops listed=[]->Q a w) /\
   ∀i∈Region.ready .any ops listed,wpOp P ops Bot i (λa' W'=>(i∈Ls/\Below 0 w W'∨Below B w W')/\bA P ops B Ls Q fuel (listed.setIfInBounds i true) a' W') a w
theorem bA.sound {B:Nat} {Ls:List Nat} {Q:Act->World->Prop} {Q':Exit->Act->World->Prop} (hQ:∀a w,Q a w->Q' .normal a w):∀(fuel:Nat) (listed:Array Bool) (a:Act) (w:World),
  bA P ops B Ls Q fuel listed a w->wpAny P .any ops Q' fuel listed a w
 | 0,_,_,_,h=>⟨h.1,hQ _ _ h.2⟩
 | fuel+1,_,a,w,h=>by
  obtain⟨h0,h1⟩:=h
  exact⟨λe=>hQ _ _ (h0 e),λi hi=>iK (wpOp_mono (λa' W' h2=>bA.sound hQ fuel _ a' W' h2.2) (h1 i hi))⟩
theorem uG {B:Nat} {Ls:List Nat} {Q:Act->World->Prop} {i:Nat} {oi:Oper} {v:Value} (hi:ops[i]?=some oi) (hsel:∀(j:Nat) (o:Oper) cs b,ops[j]?=some o->o.op≠.select cs b) :
  ∀(fuel:Nat) (listed:Array Bool) (a:Act) (w:World),
   (∀j oj,ops[j]?=some oj->j≠i->listed.getD j true=false->(∀e∈oj.after,Region.binds .any e=true->e.on≠i)->oi.apart ops oj=true) ->
   (∀L∈Ls,Holds ops L i listed)->i∈Region.ready .any ops listed->YB P ops B oi v a w ->
   bA P ops B Ls Q fuel (listed.setIfInBounds i true) (a.put oi.dst v) w->bA P ops B Ls Q (fuel+1) listed a w:=by
 intro fuel
 induction fuel with
 | zero =>
  intro listed a w _ _ hr hy H
  refine⟨λh=>(by rw[h]at hr;cases hr),λj hj=>?_⟩
  by_cases hji:j=i
  ·subst hji;exact hy.wpOp hi ⟨.inr (Below.refl _ _),H⟩
  ·have:=ready_mono hj hji
   rw[H.1]at this
   cases this
 | succ fuel ih =>
  intro listed a w hfree hho hr hy H
  refine⟨λh=>(by rw[h]at hr;cases hr),λj hj=>?_⟩
  by_cases hji:j=i
  ·subst hji;exact hy.wpOp hi ⟨.inr (Below.refl _ _),H⟩
  ·have hjL:j ∉ Ls:=λhm=>(hho j hm).open_ hji hj rfl
   have h1:=H.2 j (ready_mono hj hji)
   obtain⟨hjun,oj,hoj,hall⟩:=mem_ready.1 hj
   have hnot:∀e∈oj.after,Region.binds .any e=true->e.on≠i:=λe he hb heq=>by
    have h1:=hall e he hb
    have h0:=(mem_ready.1 hr).1
    rw[heq]at h1
    rcases Nat.lt_or_ge i listed.size with h'|h'
    ·simp[h']at h0 h1;rw[h0]at h1;cases h1
    ·simp[Array.getElem?_eq_none h']at h1
   have h2:=dT hoj (hfree j oj hoj hji hjun hnot) (λcs b=>hsel i oi cs b hi) (λcs b=>hsel j oj cs b hoj) hy h1
   have hfree':∀k ok,ops[k]?=some ok->k≠i->(listed.setIfInBounds j true).getD k true=false ->
     (∀e∈ok.after,Region.binds .any e=true->e.on≠i)->oi.apart ops ok=true:=λk ok hk hki hun hno=>by
    refine hfree k ok hk hki ?_ hno
    by_cases hjk:j=k
    ·subst hjk;exact hjun
    ·rw[getD_set_ne true hjk]at hun;exact hun
   refine wpOp_mono (λa' W' h3=>?_) h2
   obtain⟨hy',hb1,h4⟩:=h3
   have hb1':=hb1.resolve_left (λh=>hjL h.1)
   refine⟨hb1,ih (listed.setIfInBounds j true) a' W' hfree' (λL hL=>(hho L hL).set hji hj) (ready_mono hr (Ne.symm hji)) (hy'.later hb1') ?_⟩
   rw[Array.setIfInBounds_comm _ _ hji]
   exact h4
theorem uJ {B:Nat} {Ls:List Nat} {Q:Act->World->Prop} {i:Nat} {oi:Oper} {v:Value} (hi:ops[i]?=some oi) (hsel:∀(j:Nat) (o:Oper) cs b,ops[j]?=some o->o.op≠.select cs b) :
  ∀(fuel:Nat) (listed:Array Bool) (a:Act) (w:World),
   (∀j oj,ops[j]?=some oj->j≠i->listed.getD j true=false->(∀e∈oj.after,Region.binds .any e=true->e.on≠i)->oi.apart ops oj=true) ->
   i∈Region.ready .any ops listed->YB P ops 0 oi v a w ->
   bA P ops B Ls Q fuel (listed.setIfInBounds i true) (a.put oi.dst v) w->bA P ops B Ls Q (fuel+1) listed a w:=by
 intro fuel
 induction fuel with
 | zero =>
  intro listed a w _ hr hy H
  refine⟨λh=>(by rw[h]at hr;cases hr),λj hj=>?_⟩
  by_cases hji:j=i
  ·subst hji;exact hy.wpOp hi ⟨.inr (Below.refl _ _),H⟩
  ·have:=ready_mono hj hji
   rw[H.1]at this
   cases this
 | succ fuel ih =>
  intro listed a w hfree hr hy H
  refine⟨λh=>(by rw[h]at hr;cases hr),λj hj=>?_⟩
  by_cases hji:j=i
  ·subst hji;exact hy.wpOp hi ⟨.inr (Below.refl _ _),H⟩
  ·have h1:=H.2 j (ready_mono hj hji)
   obtain⟨hjun,oj,hoj,hall⟩:=mem_ready.1 hj
   have hnot:∀e∈oj.after,Region.binds .any e=true->e.on≠i:=λe he hb heq=>by
    have h1:=hall e he hb
    have h0:=(mem_ready.1 hr).1
    rw[heq]at h1
    rcases Nat.lt_or_ge i listed.size with h'|h'
    ·simp[h']at h0 h1;rw[h0]at h1;cases h1
    ·simp[Array.getElem?_eq_none h']at h1
   have h2:=dT hoj (hfree j oj hoj hji hjun hnot) (λcs b=>hsel i oi cs b hi) (λcs b=>hsel j oj cs b hoj) hy h1
   have hfree':∀k ok,ops[k]?=some ok->k≠i->(listed.setIfInBounds j true).getD k true=false ->
     (∀e∈ok.after,Region.binds .any e=true->e.on≠i)->oi.apart ops ok=true:=λk ok hk hki hun hno=>by
    refine hfree k ok hk hki ?_ hno
    by_cases hjk:j=k
    ·subst hjk;exact hjun
    ·rw[getD_set_ne true hjk]at hun;exact hun
   refine wpOp_mono (λa' W' h3=>?_) h2
   obtain⟨hy',hb1,h4⟩:=h3
   have hb1':Below 0 w W':=hb1.elim (λh=>h.2) (λh=>h.mono (Nat.zero_le _))
   refine⟨hb1,ih (listed.setIfInBounds j true) a' W' hfree' (ready_mono hr (Ne.symm hji)) (hy'.later hb1') ?_⟩
   rw[Array.setIfInBounds_comm _ _ hji]
   exact h4
def holdSeq (ops:Array Oper) (Ls:List Nat):List Nat->Array Bool->Bool
 | [],_=>true
 | i::is,l=>(Ls.all λL=>uE ops L i l) && holdSeq ops Ls is (l.setIfInBounds i true)
theorem db {B:Nat} {Ls:List Nat} {Q:Act->World->Prop} (hs:Region.noSelect ops=true) {w:World} {K:Act->Prop} {fuel:Nat} {l':Array Bool} (hK:∀a,K a->bA P ops B Ls Q fuel l' a w) :
  ∀(is:List Nat) (listed:Array Bool) (a:Act),aA ops is listed=some l'->holdSeq ops Ls is listed=true->wpQuiet P ops (l0 B w) K (pickOps ops is) a->bA P ops B Ls Q (is.length+fuel) listed a w
 | [],listed,a,hq,_,h=>by
  simp only[aA,Option.some.injEq]at hq
  subst hq
  simp only[List.length_nil,Nat.zero_add]
  exact hK a h
 | i::is,listed,a,hq,hh,h=>by
  simp only[holdSeq,Bool.and_eq_true,List.all_eq_true]at hh
  simp only[aA]at hq
  split at hq
  case isFalse=>cases hq
  rename_i hc
  simp only[Bool.and_eq_true]at hc
  obtain⟨⟨hr,hf⟩,hb⟩:=hc
  cases ho:ops[i]? with
  | none=>simp[ho]at hb
  | some o =>
   simp only[ho,Option.map_some,Option.getD_some]at hb
   simp only[pickOps,List.map_cons,ho,Option.getD_some]at h
   obtain⟨v,hy,hn⟩:=cK (K:=wpQuiet P ops (l0 B w) K (pickOps ops is)) hb h
   have:=db hs hK is _ _ hq hh.2 hn
   rw[List.length_cons,Nat.add_right_comm]
   exact uG ho (Region.noSelect_spec hs) _ listed a w (Region.free_spec ho hf) (λL hL=>holds_of (hh.1 L hL)) (by simpa using hr) hy this
theorem dc {B:Nat} {Ls:List Nat} {Q:Act->World->Prop} (hs:Region.noSelect ops=true) {w:World} {K:Act->Prop} {fuel:Nat} {l':Array Bool} (hK:∀a,K a->bA P ops B Ls Q fuel l' a w) :
  ∀(is:List Nat) (listed:Array Bool) (a:Act),aA ops is listed=some l'->wpQuiet P ops (l0 0 w) K (pickOps ops is) a->bA P ops B Ls Q (is.length+fuel) listed a w
 | [],listed,a,hq,h=>by
  simp only[aA,Option.some.injEq]at hq
  subst hq
  simp only[List.length_nil,Nat.zero_add]
  exact hK a h
 | i::is,listed,a,hq,h=>by
  simp only[aA]at hq
  split at hq
  case isFalse=>cases hq
  rename_i hc
  simp only[Bool.and_eq_true]at hc
  obtain⟨⟨hr,hf⟩,hb⟩:=hc
  cases ho:ops[i]? with
  | none=>simp[ho]at hb
  | some o =>
   simp only[ho,Option.map_some,Option.getD_some]at hb
   simp only[pickOps,List.map_cons,ho,Option.getD_some]at h
   obtain⟨v,hy,hn⟩:=cK (K:=wpQuiet P ops (l0 0 w) K (pickOps ops is)) hb h
   have:=dc hs hK is _ _ hq hn
   rw[List.length_cons,Nat.add_right_comm]
   exact uJ ho (Region.noSelect_spec hs) _ listed a w (Region.free_spec ho hf) (by simpa using hr) hy this
def aZ (P:Program) (ops:Array Oper) (B:Nat) (Q:Act->World->Prop):List (Nat × List Oper)->Act->World->Prop
 | [],a,w=>Q a w
 | (0,l)::r,a,w=>wpQuiet P ops (l0 B w) (λa'=>aZ P ops B Q r a' w) l a
 | (1,l)::r,a,w=>wpList P ops (Exit.then (λa' W'=>Below B w W'/\aZ P ops B Q r a' W') Bot) l a w
 | (2,l)::r,a,w=>wpList P ops (Exit.then (λa' W'=>Below 0 w W'/\aZ P ops B Q r a' W') Bot) l a w
 | (_+3,l)::r,a,w=>wpQuiet P ops (l0 0 w) (λa'=>aZ P ops B Q r a' w) l a
theorem st_quiet {B:Nat} {Q:Act->World->Prop} {l:List Oper} {r:List (Nat × List Oper)} {a:Act} {w:World} (h:wpQuiet P ops (l0 B w) (λa'=>aZ P ops B Q r a' w) l a):aZ P ops B Q ((0,l)::r) a w:=h
theorem st_pure {B:Nat} {Q:Act->World->Prop} {l:List Oper} {r:List (Nat × List Oper)} {a:Act} {w:World} (h:wpQuiet P ops (l0 0 w) (λa'=>aZ P ops B Q r a' w) l a):aZ P ops B Q ((3,l)::r) a w:=h
theorem st_one {B:Nat} {Q:Act->World->Prop} {l:List Oper} {r:List (Nat × List Oper)} {a:Act} {w:World} (h:wpList P ops (Exit.then (λa' W'=>Below B w W'/\aZ P ops B Q r a' W') Bot) l a w):aZ P ops B Q ((1,l)::r) a w:=h
theorem st_free {B:Nat} {Q:Act->World->Prop} {l:List Oper} {r:List (Nat × List Oper)} {a:Act} {w:World} (h:wpList P ops (Exit.then (λa' W'=>Below 0 w W'/\aZ P ops B Q r a' W') Bot) l a w):aZ P ops B Q ((2,l)::r) a w:=h
theorem st_done {B:Nat} {Q:Act->World->Prop} {a:Act} {w:World} (h:Q a w):aZ P ops B Q [] a w:=h
def st7 (ops:Array Oper) (Ls:List Nat):List (Nat × List Nat)->Array Bool->Bool
 | [],l=>(Region.ready .any ops l).isEmpty
 | (0,is)::r,l=>match aA ops is l with|some l'=>holdSeq ops Ls is l && st7 ops Ls r l'|none=>false
 | (3,is)::r,l=>match aA ops is l with|some l'=>st7 ops Ls r l'|none=>false
 | (1,[i])::r,l=>(Region.ready .any ops l == [i]) && (ops[i]?).isSome && st7 ops Ls r (l.setIfInBounds i true)
 | (2,[i])::r,l=>Ls.contains i && (Region.ready .any ops l == [i]) && (ops[i]?).isSome && st7 ops Ls r (l.setIfInBounds i true)
 | _,_=>false
def ok7 (ops:Array Oper) (Ls:List Nat) (p:List (Nat × List Nat)):Bool:=Region.noSelect ops && st7 ops Ls p (Array.replicate ops.size false) && (sH p == ops.size)
theorem fb {B:Nat} {Ls:List Nat} {Q:Act->World->Prop} (hs:Region.noSelect ops=true):∀(p:List (Nat × List Nat)) (listed:Array Bool) (a:Act) (w:World),
  st7 ops Ls p listed=true->aZ P ops B Q (p.map λx=>(x.1,pickOps ops x.2)) a w->bA P ops B Ls Q (sH p) listed a w
 | [],listed,a,w,hB,h=>by
  simp only[st7,List.isEmpty_iff]at hB
  exact⟨hB,h⟩
 | (0,is)::r,listed,a,w,hB,h=>by
  simp only[st7]at hB
  cases hq:aA ops is listed with
  | none=>simp[hq]at hB
  | some l' =>
   simp only[hq,Bool.and_eq_true]at hB
   simp only[List.map_cons,aZ]at h
   exact db hs (λa' ha'=>fb hs r l' a' w hB.2 ha') is listed a hq hB.1 h
 | (3,is)::r,listed,a,w,hB,h=>by
  simp only[st7]at hB
  cases hq:aA ops is listed with
  | none=>simp[hq]at hB
  | some l' =>
   simp only[hq]at hB
   simp only[List.map_cons,aZ]at h
   exact dc hs (λa' ha'=>fb hs r l' a' w hB ha') is listed a hq h
 | (1,[i])::r,listed,a,w,hB,h=>by
  simp only[st7,Bool.and_eq_true,beq_iff_eq]at hB
  obtain⟨⟨hr,ho⟩,hB⟩:=hB
  obtain⟨oi,ho⟩:=Option.isSome_iff_exists.1 ho
  simp only[List.map_cons,List.map_nil,aZ,pickOps,ho,Option.getD_some]at h
  show bA P ops B Ls Q (1+sH r) listed a w
  rw[Nat.add_comm]
  refine⟨λh0=>(by rw[hr]at h0;cases h0),λj hj=>?_⟩
  rw[hr]at hj
  simp only[List.mem_singleton]at hj
  subst hj
  exact last_step ho h λa' W' hg=>⟨.inr hg.1,fb hs r _ a' W' hB hg.2⟩
 | (2,[i])::r,listed,a,w,hB,h=>by
  simp only[st7,Bool.and_eq_true,beq_iff_eq,List.contains_iff_mem]at hB
  obtain⟨⟨⟨hL,hr⟩,ho⟩,hB⟩:=hB
  obtain⟨oi,ho⟩:=Option.isSome_iff_exists.1 ho
  simp only[List.map_cons,List.map_nil,aZ,pickOps,ho,Option.getD_some]at h
  show bA P ops B Ls Q (1+sH r) listed a w
  rw[Nat.add_comm]
  refine⟨λh0=>(by rw[hr]at h0;cases h0),λj hj=>?_⟩
  rw[hr]at hj
  simp only[List.mem_singleton]at hj
  subst hj
  exact last_step ho h λa' W' hg=>⟨.inl ⟨hL,hg.1⟩,fb hs r _ a' W' hB hg.2⟩
 | (1,[])::r,listed,a,w,hB,h=>by simp[st7]at hB
 | (1,_::_::_)::r,listed,a,w,hB,h=>by simp[st7]at hB
 | (2,[])::r,listed,a,w,hB,h=>by simp[st7]at hB
 | (2,_::_::_)::r,listed,a,w,hB,h=>by simp[st7]at hB
 | (n+4,_)::r,listed,a,w,hB,h=>by simp[st7]at hB
theorem nY (B:Nat) (Ls:List Nat) (R:Act->World->Prop) {id:Nat} {Q:Exit->Act->World->Prop} {a:Act} {w:World} {l:List Oper} (p:List (Nat × List Nat)) (p':List (Nat × List Oper)) (hm:P.follows .mixedOrders=true) (hB:ok7 l.toArray Ls p=true)
  (hp:(p.map λx=>(x.1,pickOps l.toArray x.2))=p') (h0:∀wd,Below w.heap.size w wd->wd.heap.size=w.heap.size->aZ P l.toArray B R p' a wd) (hR:∀a w,R a w->Q .normal a w):(Code.region id l.toArray true).wp P Q a w:=by
 subst hp
 unfold ok7 at hB
 simp only[Bool.and_eq_true,beq_iff_eq]at hB
 obtain⟨⟨h1,h3⟩,h4⟩:=hB
 refine wp_region_any hm ?_
 have:=fb (P:=P) (Q:=R) (B:=B) (Ls:=Ls) h1 p _ a w.drew h3 (h0 _ (Below.refl _ _).drew rfl)
 rw[h4]at this
 exact bA.sound hR _ _ a w.drew this
theorem p0 (B:Nat) (Ls:List Nat) (R:Act->World->Prop) {id:Nat} {Q:Exit->Act->World->Prop} {a:Act} {w:World} {l:List Oper} (p:List (Nat × List Nat)) {p':List (Nat × List Oper)} (h0:∀wd,Below w.heap.size w wd->wd.heap.size=w.heap.size->aZ P l.toArray B R p' a wd) (hR:∀a w,R a w->Q .normal a w) (hm:P.follows .mixedOrders=true:=by kernel_rfl) (hB:ok7 l.toArray Ls p=true:=by kernel_rfl) (hp:(p.map λx=>(x.1,pickOps l.toArray x.2))=p':=by simp only[List.map_cons,List.map_nil,Rg.pickOps,List.getElem?_toArray,List.getElem?_cons_zero,List.getElem?_cons_succ,Option.getD_some];rfl):(Code.region id l.toArray true).wp P Q a w:=nY B Ls R p p' hm hB hp h0 hR
end
end Go.Proofs.YtoejnneknpoanaaGreatDoor.Rs
namespace Go.Proofs.YtoejnneknpoanaaGreatDoor
open Go Go.RowKit Fm Om
def cD (base:Nat) (w:World) (b:Nat) (vars:List ByteArray) (rows:List (List Tm)) (qc:List Value):Prop:=
 base<=b/\∃va vr,w.heap[b]?=some (Obj.cells (va::vr::qc).toArray 110 (0,0))/\w.ownsRow base 9 1 va vars.length (vars.map Value.string)/\OwnRs base w vr rows
def zQ:List Value:=[.bool false,.bool false,.slice none 0 0,.slice none 0 0,.slice none 0 0,.slice none 0 0,.int .i64 0,.int .i64 0]
theorem aU {w:World} {b:Nat} {cur:Array Value} {T:TypeId} {fr:Nat × Nat} (h:w.heap[b]?=some (Obj.cells cur T fr)) (i:Nat) (v:Value):(w.setCell ⟨b,i,none⟩ v).heap[b]?=some (Obj.cells (cur.setIfInBounds i v) T fr):=by
 simp[World.setCell,Array.getElem?_modify,h]
theorem BK {base b:Nat} {wr W2 w5:World} {va v v' v2:Value} {qc xs:List Value} {vars:List ByteArray} {l:List (List Tm)} {row:List Tm} (hbb:base<=b) (hblk:wr.heap[b]?=some (Obj.cells (va::v::qc).toArray 110 (0,0)))
  (hva:wr.ownsRow base 9 1 va vars.length (vars.map Value.string)) (own:wr.ownsRow base 59 1 v l.length xs) (hall:All 1 (OwnRow base wr) xs l)
  (hb1:Below wr.heap.size wr W2) (hrow:W2.ownsRow base 76 4 v2 row.length (row.flatMap tmC)) (own5:w5.ownsRow base 59 1 v' (l.length+1) (xs++[v2])) (hg5:W2.grownBy w5 v.ownBlock) :
  w5.heap[b]?=some (Obj.cells (va::v::qc).toArray 110 (0,0))/\cD base (w5.setCell ⟨b,1,none⟩ v') b vars (l++[row]) qc:=by
 have own2:=own_below own hb1 (Nat.le_refl _)
 have k1:KeepT 76 wr W2:=KeepT.below hb1
 have hlt:b<wr.heap.size:=(Array.getElem?_eq_some_iff.1 hblk).1
 have hblk2:W2.heap[b]?=some (Obj.cells (va::v::qc).toArray 110 (0,0)):=by rw[hb1.block b hlt];exact hblk
 have k5:∀e,59≠e->KeepT e W2 w5:=λe he=>KeepT.grown hg5 (own_blockR own2) he
 have hblk5:=k5 110 (by decide) b _ _ hblk2
 have k6:∀e,110≠e->KeepT e w5 (w5.setCell ⟨b,1,none⟩ v'):=λe he=>KeepT.setCell hblk5 he
 refine⟨hblk5,hbb,va,v',?_,own_keep (own_keep (own_below hva hb1 (Nat.le_refl _)) (k5 _ (by decide))) (k6 _ (by decide)),xs++[v2],?_,?_⟩
 ·have:=aU hblk5 1 v'
  simpa using this
 ·rw[List.length_append]
  exact own_keep own5 (k6 _ (by decide))
 ·have kk:KeepT 76 W2 (w5.setCell ⟨b,1,none⟩ v'):=(k5 _ (by decide)).trans (k6 _ (by decide))
  exact(hall.mono λ_ _ _ h=>(h.keep k1).keep kk).append (All.one rfl ⟨v2,rfl,own_keep hrow kk⟩)
theorem cD.cell0 {base b:Nat} {w:World} {vars:List ByteArray} {rows:List (List Tm)} {qc:List Value} (h:cD base w b vars rows qc):∃A c B d,w.cell? ⟨b,0,none⟩=some (.slice A vars.length c)/\vars.length<=c/\Rd w A (vars.map Value.string)/\w.cell? ⟨b,1,none⟩=some (.slice B rows.length d)/\rows.length<=d/\RdRs w B rows:=by
 obtain⟨_,va,vr,hb,h1,h2⟩:=h
 obtain⟨A,c,rfl,h3,h4⟩:=own_slice h1
 obtain⟨B,d,rfl,h5,h6⟩:=h2.rd
 exact⟨A,c,B,d,by simp[World.cell?,hb],h3,h4,by simp[World.cell?,hb],h5,h6⟩
def OnR (base:Nat) (vars:List ByteArray) (rows:List (List Tm)) (w:World) (e:Ending) (w':World):Prop:=∃b,e=.returned (.tuple #[.pointer (some ⟨b,0,none⟩),.int .i64 0])/\cD base w' b vars rows zQ/\Below base w w'
theorem Dq (vars:List ByteArray) (rows:List (List Tm)) (A B:Option Addr) (n c m d:Nat) (w:World) (hn:vars.length=n) (hm:rows.length=m) (hln:n<=1000000) (hlm:m<=1000000) (hnc:n<=c) (hv:Rd w A (vars.map Value.string)) (hr:RdRs w B rows) (hz:∀r∈rows,r.length<=1000000) (hR:ar vars rows=true) :
  Calls Tryz.prog 74 #[.agg #[.slice A n c,.slice B m d]] w (OnR w.heap.size vars rows w):=by
 have hb:Below w.heap.size w (w.alloc (.cells #[.slice A n c,.slice B m d] 25)):=blw
 have hRt:=mW vars rows A B n c m d _ hn hm (by omega) (by omega) hnc (hv.later hb) (hr.later hb)
 rw[hR]at hRt
 have hCv:=λW (h:Below w.heap.size w W)=>pT vars A c W (hv.later h) (by omega)
 rw[hn]at hCv
 have HN:=Lib.hid hn
 have HM:=Lib.hid hm
 have HR:=Lib.hid hr
 have HZ:=Lib.hid hz
 have HB:=Lib.hid hb
 clear hn hm hv hr hz hR hb
 go_enter Tryz.func74,Tryz.ntmps74
 go_wp2_with fail
 refine hRt.mono ?_
 rintro e w1 ⟨rfl,hb1⟩
 have hb1':=aa HB.out hb1
 have b0:w1.cell? ⟨w.heap.size,0,none⟩=some (.slice A n c):=ab (by rw[World.cell?,heap_alloc_new];rfl) hb1
 have b1:w1.cell? ⟨w.heap.size,1,none⟩=some (.slice B m d):=ab (by rw[World.cell?,heap_alloc_new];rfl) hb1
 have hCv1:=hCv w1 hb1'
 have HB1:=Lib.hid hb1'
 clear hb1 hb1' hRt hCv
 go_wp2_with fail
 refine hCv1.mono ?_
 rintro e w2 ⟨va,rfl,hva,hb2⟩
 have b2:w2.cell? ⟨w.heap.size,1,none⟩=some (.slice B m d):=ab b1 hb2
 have HVA:=Lib.hid hva
 have HB2:=Lib.hid (aa HB1.out hb2)
 have hz2:w.heap.size<=w2.heap.size:=HB2.out.size
 have hz3:w.heap.size<w2.heap.size:=Nat.lt_of_lt_of_le (ae b1) hb2.size
 obtain⟨Av,cv,rfl,_,_⟩:=own_slice hva
 clear hva hb2 b0 b1 hCv1
 have hW0:cD w.heap.size (w2.alloc (.cells #[.slice Av n cv,.slice none 0 0,.bool false,.bool false,.slice none 0 0,.slice none 0 0,.slice none 0 0,.slice none 0 0,.int .i64 0,.int .i64 0] 110)) w2.heap.size vars (rows.take 0) zQ:=by
  have hl:=own_below HVA.out (base:=_) ((Below.refl w2.heap.size w2).alloc (Nat.le_refl _) (.cells #[.slice Av n cv,.slice none 0 0,.bool false,.bool false,.slice none 0 0,.slice none 0 0,.slice none 0 0,.slice none 0 0,.int .i64 0,.int .i64 0] 110)) (Nat.le_refl _)
  refine⟨hz2,_,_,heap_alloc_new w2 _,?_,by simpa using OwnRs.nil _ _⟩
  rw[HN.out]
  refine⟨hl.1,?_⟩
  rcases hl.2 with h0|⟨g,cap,cur,h1,h2,h3⟩
  ·exact .inl h0
  ·exact .inr ⟨g,cap,cur,h1,Nat.le_trans HB1.out.size h2,h3⟩
 have HW0:=Lib.hid hW0
 have hb3:Below w.heap.size w (w2.alloc (.cells #[.slice Av n cv,.slice none 0 0,.bool false,.bool false,.slice none 0 0,.slice none 0 0,.slice none 0 0,.slice none 0 0,.int .i64 0,.int .i64 0] 110)):=HB2.out.alloc hz2 _
 have HB3:=Lib.hid hb3
 have hzw:w2.heap.size<(w2.alloc (.cells #[.slice Av n cv,.slice none 0 0,.bool false,.bool false,.slice none 0 0,.slice none 0 0,.slice none 0 0,.slice none 0 0,.int .i64 0,.int .i64 0] 110)).heap.size:=by simp
 have HZW:=Lib.hid hzw
 clear hW0 hb3 hzw
 go_wp2
 go_loopw [6,19] (λu i wr=>∃k:Nat,k<=m/\i=.int .i64 k/\Hid (cD w.heap.size wr w2.heap.size vars (rows.take k) zQ)/\Hid (Below w.heap.size w wr)/\w2.heap.size<wr.heap.size) (λ_ i _=>m-(intOf i).toNat)
 case atStart=>exact⟨0,by omega,rfl,HW0,HB3,HZW.out⟩
 case round =>
  clear HW0 HB3 HZW
  obtain⟨k,hk,rfl,HW,HBw,hzw⟩:=hrel
  by_cases hlt:k<m
  ·obtain⟨row,hrow⟩:∃row,rows[k]?=some row:=⟨_,List.getElem?_eq_getElem (by rw[HM.out];exact hlt)⟩
   obtain⟨g,o,A',c',rfl,hcell,hle,hrd⟩:=(HR.out.later HBw.out).at1 hrow
   obtain⟨hbb,va,v,hblk,hva,xs,hown,hall⟩:=HW.out
   obtain⟨Ar,cr,rfl,hcr,_⟩:=own_slice hown
   have hlk:(rows.take k).length=k:=by rw[List.length_take,HM.out];omega
   have c1:wr.cell? ⟨w2.heap.size,1,none⟩=some (.slice Ar (rows.take k).length cr):=by simp[World.cell?,hblk]
   have hfz:wr.frozen? ⟨w2.heap.size,1,none⟩=false:=by simp[World.frozen?,hblk]
   rw[hlk]at c1 hown
   have HLK:=Lib.hid hlk
   have hCl:=λW (h:Below wr.heap.size wr W)=>Bn row A' c' W (hrd.later h).flat (by have:=HZ.out row (List.mem_of_getElem? hrow);omega)
   have hin:Tryz.prog.underlying 23=some (.slice 59):=Tryz.underlying23
   have HX:=Lib.hid (And.intro hbb (And.intro hblk (And.intro hva (And.intro hown (And.intro hall hrow)))))
   clear hrow hrd hle hbb hblk hva hown hall hcr hlk
   go_wp2_with fail
   refine Rs.p0 wr.heap.size [9,13] _ [(3,[0,1,2,3,4,6]),(0,[5]),(1,[7]),(1,[8]),(2,[9]),(3,[10,11,12]),(2,[13])] ?_ (λa w h=>h)
   intro wd hbd hwz
   have c1d:=cellL c1 hbd
   have HWZ:=Lib.hid hwz
   clear c1 hwz hcell
   refine Rs.st_pure ?_
   iterate 6 go_big_quiet_step (fail)
   refine wpQuiet_nil (Rs.st_quiet ?_)
   iterate 1 go_big_quiet_step (fail)
   refine wpQuiet_nil (Rs.st_one ?_)
   go_wp2_with (refine(hCl _ hbd).mono ?_;rintro e w5 ⟨v2,rfl,hrow2,hb7⟩)
   obtain⟨A2,c2,rfl,_,_⟩:=own_slice hrow2
   have hb5:=aa hbd hb7
   have hlt5:=hb5.size
   refine⟨hb7.mono hbd.size,Rs.st_one ?_⟩
   clear c1d hCl
   go_wp2
   refine⟨(Below.refl _ _).alloc hlt5 _,Rs.st_free ?_⟩
   have hown5:=own_below (own_below HX.out.2.2.2.1 hb5 (Nat.le_refl _)) ((Below.refl w5.heap.size w5).alloc (Nat.le_refl _) (.cells #[.slice A2 row.length c2] 59)) (Nat.le_refl _)
   have HR2:=Lib.hid (And.intro hrow2 hb5)
   have HB7:=Lib.hid hb7
   have HBD:=Lib.hid hbd
   clear hrow2 hb5 hb7 hbd
   go_wp2_with (at_builtin;refine aw rfl rfl hin cF rfl (by omega) rfl hown5 rfl (Rd.of_block (heap_alloc_new w5 _) rfl) rfl (by intro u hu;simp only[List.mem_cons,List.not_mem_nil,or_false]at hu;subst hu;rfl) (by omega) (by omega) (by simp;omega) ?_;intro v' w6 own6 hb6 hg6)
   obtain⟨A9,c9,rfl,_,_⟩:=own_slice own6
   obtain⟨hbb,hblk,hva,hown,hall,hrow⟩:=HX.out
   have hal:Below w5.heap.size w5 (w5.alloc (.cells #[.slice A2 row.length c2] 59)):=(Below.refl _ _).alloc (Nat.le_refl _) _
   have hz1:w.heap.size<=wr.heap.size:=HBw.out.size
   obtain⟨h6,hfin⟩:=BK (row:=row) hbb hblk hva (by rw[HLK.out];exact hown) hall (aa HR2.out.2 hal) (own_lower (own_below HR2.out.1 hal (Nat.le_refl _)) (Nat.le_trans hz1 HBD.out.size)) (by rw[HLK.out];exact own6) (by rw[HLK.out];exact hg6)
   have c6:w6.cell? ⟨w2.heap.size,1,none⟩=some (.slice Ar k cr):=by
    have:w6.cell? ⟨w2.heap.size,1,none⟩=some (.slice Ar (rows.take k).length cr):=by simp[World.cell?,h6]
    rw[HLK.out]at this;exact this
   have f6:w6.frozen? ⟨w2.heap.size,1,none⟩=false:=by simp[World.frozen?,h6]
   have hbw6:Below w.heap.size w w6:=(HBw.out.trans ((aa HR2.out.2 hal).mono hz1)).trans hb6
   have HF:=Lib.hid (And.intro hfin (And.intro hbw6 hrow))
   have hz6:w2.heap.size<w6.heap.size:=ae c6
   refine⟨hb6.mono (Nat.zero_le _),Rs.st_pure ?_⟩
   clear h6 hfin hbw6 hrow hbb hblk hva hown hall hal hz1 hb6 hg6 own6 hown5 hlt5
   iterate 3 go_big_quiet_step (fail)
   refine wpQuiet_nil (Rs.st_free ?_)
   go_wp2
   refine⟨(Below.refl 0 _).setCell (p:=⟨w2.heap.size,1,none⟩) (Nat.zero_le _) _,Rs.st_done ?_⟩
   go_wp2
   go_roundw
   case rel =>
    refine⟨k+1,by omega,by go_num,?_,?_,by simpa using hz6⟩
    ·show cD _ _ _ _ _ _
     rw[ai HF.out.2.2];exact HF.out.1
    ·exact HF.out.2.1.setCell (p:=⟨w2.heap.size,1,none⟩) hz2 _
   case measure=>simp[intOf];omega
  ·obtain rfl:k=m:=by omega
   have HF:Hid (OnR w.heap.size vars rows w (.returned (.tuple #[.pointer (some ⟨w2.heap.size,0,none⟩),.int .i64 0])) wr):=by
    have:=HW.out
    rw[List.take_of_length_le (by rw[HM.out];exact Nat.le_refl _)]at this
    exact⟨_,rfl,this,HBw.out⟩
   clear HW
   go_wp2
   go_ret2
   exact HF.out
theorem Dd (x y:ByteArray):(x.toList == y.toList)=decide (y=x):=by
 by_cases h:y=x
 ·subst h;simp
 ·simp only[h,decide_false];rw[Lib.bytes_beq_false_iff];exact λe=>h e.symm
theorem AQ (l:List ByteArray) (x:ByteArray) (A:Option Addr) (c:Nat) (w:World) (hl:l.length<=281474976710656) (hr:Rd w A (l.map Value.string)) :
  Calls Tryz.prog 123 #[.slice A l.length c,.string x] w λe w'=>e=.returned (.int .i64 (Lib.idxOfS l x))/\w=w':=by
 go_enter Tryz.func123,Tryz.ntmps123
 go_wp2
 go_loop [8] (λi=>∃k:Nat,k<=l.length/\i=.int .i64 k/\Hid (Lib.idxOfS l x=Lib.idxFromS (l.drop k) x k)) (λi=>l.length-(intOf i).toNat)
 case atStart=>exact⟨0,by omega,rfl,rfl⟩
 case round =>
  obtain⟨k,hk,rfl,H⟩:=hrel
  by_cases hlt:k<l.length
  ·obtain⟨y,hx⟩:∃x,l[k]?=some x:=⟨_,List.getElem?_eq_getElem hlt⟩
   obtain⟨g,o,rfl,hcx⟩:=hr.at_ (j:=k) (u:=.string y) (by simp[hx])
   have hd:l.drop k=y::l.drop (k+1):=by
    rw[List.drop_eq_getElem_cons hlt]
    rw[List.getElem?_eq_getElem hlt]at hx
    injection hx with hx;rw[hx]
   have H2:Hid (Lib.idxOfS l x=if (x.toList == y.toList) then (k:Int) else Lib.idxFromS (l.drop (k+1)) x (k+1)):=by
    show Lib.idxOfS l x=_
    rw[H.out,hd,Lib.idxFromS,Dd];simp
   clear hx hd H hr
   cases hx0:(x.toList == y.toList)
   ·rw[hx0]at H2
    go_wp2
    go_round
    case rel=>exact⟨k+1,by omega,by go_num,H2⟩
    case measure=>simp[intOf];omega
   ·rw[hx0]at H2
    go_wp2
    go_ret
    exact⟨by rw[H2.out];rfl,rfl⟩
  ·have H2:Hid (Lib.idxOfS l x = -1):=by
    show Lib.idxOfS l x=_
    rw[H.out,List.drop_eq_nil_of_le (by omega)];rfl
   clear H
   go_wp2
   go_ret
   exact⟨by rw[H2.out];rfl,rfl⟩
open Um
theorem Cu:(Tryz.prog.info? 3).map (λi=>(i.zero,i.size,i.bytes))=some (some (.int .i64 0),1,8):=by kernel_rfl
def am (vars names:List ByteArray):List Int:=names.map λs=>Lib.idxOfS vars s
def rI (l:List Int) (w:World) (e:Ending) (w':World):Prop:=∃v,e=.returned v/\w'.ownsRow w.heap.size 3 1 v l.length (l.map (Value.int .i64))/\Below w.heap.size w w'
theorem pw (vars names:List ByteArray) (b nv cv m c:Nat) (Av A:Option Addr) (w:World) (hnv:vars.length=nv) (hm:names.length=m) (hlv:nv<=1000000) (hlm:m<=1000000) (h0:w.cell? ⟨b,0,none⟩=some (.slice Av nv cv)) (hv:Rd w Av (vars.map Value.string)) (hr:Rd w A (names.map Value.string)) :
  Calls Tryz.prog 92 #[.pointer (some ⟨b,0,none⟩),.slice A m c] w (rI (am vars names) w):=by
 have HM:=Lib.hid hm
 have H:=Lib.hid (And.intro h0 (And.intro hv (And.intro hr hnv)))
 have hin:Tryz.prog.underlying 69=some (.slice 3):=Tryz.underlying69
 have HS:Hid (w.ownsRow w.heap.size 3 1 (.slice none 0 0) 0 ((am vars (names.take 0)).map (Value.int .i64))/\Below w.heap.size w w):=⟨World.ownsRow_nil _ _ _ _,Below.refl _ _⟩
 clear hm h0 hv hr hnv
 go_enter Tryz.func92,Tryz.ntmps92
 go_wp2
 go_loopw [4,6,9] (λv u i wr=>∃k:Nat,k<=m/\i=.int .i64 k/\Hid (wr.ownsRow w.heap.size 3 1 v k ((am vars (names.take k)).map (Value.int .i64))/\Below w.heap.size w wr)) (λ_ _ i _=>m-(intOf i).toNat)
 case atStart=>exact⟨0,by omega,rfl,HS⟩
 case round =>
  clear HS
  obtain⟨k,hk,rfl,HK⟩:=hrel
  obtain⟨A4,c4,rfl,_,_⟩:=own_slice HK.out.1
  by_cases hlt:k<m
  ·obtain⟨s,hs⟩:∃s,names[k]?=some s:=⟨_,List.getElem?_eq_getElem (by rw[HM.out];exact hlt)⟩
   obtain⟨g,o,rfl,hcx⟩:=(H.out.2.2.1.later HK.out.2).at_ (j:=k) (u:=.string s) (by rw[List.getElem?_map,hs];rfl)
   have hc0:=ab H.out.1 HK.out.2
   have hI:=AQ vars s Av cv wr (by rw[H.out.2.2.2];omega) (H.out.2.1.later HK.out.2)
   rw[H.out.2.2.2]at hI
   have hsn:Hid ((am vars (names.take (k+1))).map (Value.int .i64)=(am vars (names.take k)).map (Value.int .i64)++[.int .i64 (Lib.idxOfS vars s)]):=by
    show _=_
    rw[ai hs];simp[am]
   generalize Lib.idxOfS vars s=z at *
   have hown:=HK.out.1.alloc (.cells #[.int .i64 z] 3)
   have hzz:=HK.out.2.size
   clear hs
   go_wp2_with (first
    | (go_at_call 123;refine hI.mono ?_;rintro e w1 ⟨rfl,rfl⟩)
    | (at_builtin;refine aw rfl rfl hin Cu rfl (by omega) rfl hown rfl (Rd.of_block (heap_alloc_new wr _) rfl) rfl (by intro u hu;simp only[List.mem_cons,List.not_mem_nil,or_false]at hu;subst hu;rfl) (by omega) (by omega) (by simp;omega) ?_;intro v' w6 own6 hb6 hg6))
   have HF:Hid (w6.ownsRow w.heap.size 3 1 v' (k+1) ((am vars (names.take (k+1))).map (Value.int .i64))/\Below w.heap.size w w6):=⟨by rw[hsn.out];exact own6,(HK.out.2.alloc hzz _).trans hb6⟩
   clear own6 hb6 hg6 hown
   go_roundw
   case rel=>exact⟨k+1,by omega,by go_num,HF⟩
   case measure=>simp[intOf];omega
  ·obtain rfl:k=m:=by omega
   have HF:Hid (rI (am vars names) w (.returned (.slice A4 k c4)) wr):=by
    have:=HK.out
    rw[List.take_of_length_le (by rw[HM.out];exact Nat.le_refl _)]at this
    exact⟨_,rfl,by unfold am at this ⊢;rw[List.length_map,HM.out];exact this.1,this.2⟩
   clear HK
   go_wp2
   go_ret
   exact HF.out
def Dy (l:List ByteArray) (w:World) (e:Ending) (w':World):Prop:=∃v,e=.returned v/\w'.ownsRow w.heap.size 9 1 v l.length (l.map Value.string)/\Below w.heap.size w w'
theorem zN (keys:List Ky) (m c:Nat) (A:Option Addr) (w:World) (hm:keys.length=m) (hlm:m<=1000000) (hr:dl w A keys) :
  Calls Tryz.prog 93 #[.slice A m c] w (Dy (keys.map (·.v)) w):=by
 have HM:=Lib.hid hm
 have H:=Lib.hid hr
 have hin:Tryz.prog.underlying 22=some (.slice 9):=Tryz.underlying22
 have HS:Hid (w.ownsRow w.heap.size 9 1 (.slice none 0 0) 0 (((keys.take 0).map (·.v)).map Value.string)/\Below w.heap.size w w):=⟨World.ownsRow_nil _ _ _ _,Below.refl _ _⟩
 clear hm hr
 go_enter Tryz.func93,Tryz.ntmps93
 go_wp2
 go_loopw [2,4,7] (λv u i wr=>∃k:Nat,k<=m/\i=.int .i64 k/\Hid (wr.ownsRow w.heap.size 9 1 v k (((keys.take k).map (·.v)).map Value.string)/\Below w.heap.size w wr)) (λ_ _ i _=>m-(intOf i).toNat)
 case atStart=>exact⟨0,by omega,rfl,HS⟩
 case round =>
  clear HS
  obtain⟨k,hk,rfl,HK⟩:=hrel
  obtain⟨A4,c4,rfl,_,_⟩:=own_slice HK.out.1
  by_cases hlt:k<m
  ·obtain⟨s,hs⟩:∃s,keys[k]?=some s:=⟨_,List.getElem?_eq_getElem (by rw[HM.out];exact hlt)⟩
   obtain⟨g,o,cs,rfl,_,rfl,hx⟩:=(RdL.mono H.out HK.out.2 (λ_ _ _ h=>h)).at_ (by omega) hs
   have c0:wr.cell? ⟨g,o+k*2,none⟩=some (.string s.v):=hx 0 _ rfl
   have c1:wr.cell? ⟨g,o+k*2+1,none⟩=some (.bool s.d):=hx 1 _ rfl
   have hsn:Hid (((keys.take (k+1)).map (·.v)).map Value.string=((keys.take k).map (·.v)).map Value.string++[.string s.v]):=by
    show _=_
    rw[ai hs];simp
   have hown:=(HK.out.1.alloc (.cells #[.string s.v,.bool s.d] 72)).alloc (.cells #[.string s.v] 9)
   have hzz:=HK.out.2.size
   have hB2:Below w.heap.size w ((wr.alloc (.cells #[.string s.v,.bool s.d] 72)).alloc (.cells #[.string s.v] 9)):=(HK.out.2.alloc hzz _).alloc (by simp;omega) _
   have HB2:=Lib.hid hB2
   clear hs hx hB2
   go_wp2_with (at_builtin;refine aw rfl rfl hin vt rfl (by omega) rfl hown rfl (Rd.of_block (ah wr _ _) rfl) rfl (by intro u hu;simp only[List.mem_cons,List.not_mem_nil,or_false]at hu;subst hu;rfl) (by omega) (by omega) (by simp;omega) ?_;intro v' w6 own6 hb6 hg6)
   have HF:Hid (w6.ownsRow w.heap.size 9 1 v' (k+1) (((keys.take (k+1)).map (·.v)).map Value.string)/\Below w.heap.size w w6):=⟨by rw[hsn.out];exact own6,HB2.out.trans hb6⟩
   clear own6 hb6 hg6 hown
   go_roundw
   case rel=>exact⟨k+1,by omega,by go_num,HF⟩
   case measure=>simp[intOf];omega
  ·obtain rfl:k=m:=by omega
   have HF:Hid (Dy (keys.map (·.v)) w (.returned (.slice A4 k c4)) wr):=by
    have:=HK.out
    rw[List.take_of_length_le (by rw[HM.out];exact Nat.le_refl _)]at this
    exact⟨_,rfl,by rw[List.length_map,HM.out];exact this.1,this.2⟩
   clear HK
   go_wp2
   go_ret
   exact HF.out
open Lx Tx
def aT (ps:List Int) (keys:List Ky):List (Nat × Bool):=List.zipWith (λp k=>(p.toNat,k.d)) ps keys
theorem ns {ps:List Int} {keys:List Ky} {k:Nat} {p:Int} {y:Ky} (hp:ps[k]?=some p) (hy:keys[k]?=some y):aT (ps.drop k) (keys.drop k)=(p.toNat,y.d)::aT (ps.drop (k+1)) (keys.drop (k+1)):=by
 rw[av hp,av hy];rfl
theorem Ec (a b:List Tm) (ps:List Int) (keys:List Ky) (pb kb wb n m c d np cp no co:Nat) (A B Ap Ao:Option Addr) (w:World) (hn:a.length=n) (hm:b.length=m) (hnp:ps.length=np) (hno:keys.length=no) (hpn:np=no) (hlp:np<=1000000)
  (hpl:∀p∈ps,0<=p/\p<n/\p<m) (hC:dq w) (ha:RdTs w A a) (hb:RdTs w B b) (za:bu a) (zb:bu b)
  (h0:w.cell? ⟨pb,0,none⟩=some (.slice Ap np cp)) (h1:w.cell? ⟨kb,0,none⟩=some (.pointer (some ⟨wb,0,none⟩))) (h2:w.cell? ⟨wb,7,none⟩=some (.slice Ao no co)) (hp:Rd w Ap (ps.map (Value.int .i64))) (hk:dl w Ao keys) :
  Calls Tryz.prog 95 #[.slice A n c,.slice B m d,.pointer (some ⟨pb,0,none⟩),.pointer (some ⟨kb,0,none⟩)] w λe w'=>e=.returned (.int .i64 (az (aT ps keys) a b))/\Below w.heap.size w w':=by
 subst hpn
 have hln:n<=1000000:=by rw[←hn];exact za.1
 have hlm:m<=1000000:=by rw[←hm];exact zb.1
 have H:=Lib.hid (And.intro hn (And.intro hm (And.intro hnp (And.intro hno (And.intro hpl (And.intro hC (And.intro ha (And.intro hb (And.intro za (And.intro zb (And.intro h1 (And.intro h2 (And.intro hp hk)))))))))))))
 clear hn hm hnp hno hpl hC ha hb za zb h1 h2 hp hk
 go_enter Tryz.func95,Tryz.ntmps95
 go_wp2
 go_loopw [7,8,9,12] (λu7 u8 u9 i wr=>∃k:Nat,k<=np/\i=.int .i64 k/\Hid (az (aT ps keys) a b=az (aT (ps.drop k) (keys.drop k)) a b)/\Hid (Below w.heap.size w wr)) (λ_ _ _ i _=>np-(intOf i).toNat)
 case atStart=>exact⟨0,by omega,rfl,rfl,Below.refl _ _⟩
 case round =>
  obtain⟨k,hk,rfl,H1,HB⟩:=hrel
  obtain⟨hn,hm,hnp,hno,hpl,hC,ha,hb,za,zb,h1,h2,hp,hky⟩:=H.out
  by_cases hlt:k<np
  ·obtain⟨p,hp1⟩:∃p,ps[k]?=some p:=⟨_,List.getElem?_eq_getElem (by rw[hnp];exact hlt)⟩
   obtain⟨y,hy1⟩:∃y,keys[k]?=some y:=⟨_,List.getElem?_eq_getElem (by rw[hno];exact hlt)⟩
   obtain⟨g,o,rfl,hcp⟩:=(hp.later HB.out).at_ (j:=k) (u:=.int .i64 p) (by rw[List.getElem?_map,hp1];rfl)
   obtain⟨g3,o3,cs,rfl,_,rfl,hx⟩:=(RdL.mono hky HB.out (λ_ _ _ h=>h)).at_ (by omega) hy1
   have hcd:wr.cell? ⟨g3,o3+k*2+1,none⟩=some (.bool y.d):=hx 1 _ rfl
   obtain⟨q0,q1,q2⟩:=hpl p (List.mem_of_getElem? hp1)
   obtain⟨q,rfl⟩:∃q:Nat,p=(q:Int):=⟨p.toNat,by omega⟩
   obtain⟨x,hx1⟩:∃x,a[q]?=some x:=⟨_,List.getElem?_eq_getElem (by omega)⟩
   obtain⟨z,hz1⟩:∃z,b[q]?=some z:=⟨_,List.getElem?_eq_getElem (by omega)⟩
   obtain⟨g1,o1,rfl,a0,a1,a2,a3⟩:=(RdTs.later ha HB.out).at4 hx1
   obtain⟨g2,o2,rfl,b0,b1,b2,b3⟩:=(RdTs.later hb HB.out).at4 hz1
   have hst:Hid (az (aT ps keys) a b=orZ (way y.d (aK x z)) (az (aT (ps.drop (k+1)) (keys.drop (k+1))) a b)):=by
    show _=_
    rw[H1.out,ns hp1 hy1]
    show orZ (way y.d (aK a[(q:Int).toNat]! b[(q:Int).toNat]!)) _=_
    rw[Int.toNat_natCast,List.getElem!_of_getElem? hx1,List.getElem!_of_getElem? hz1]
   have hcall:=λW (h:Below wr.heap.size wr W)=>lg x z W (hC.step (aa HB.out h)) (za.2 x (List.mem_of_getElem? hx1)) (zb.2 z (List.mem_of_getElem? hz1))
   have hrg:=bJ.rng x z
   have hk1:=ab h1 HB.out
   have hk2:=ab h2 HB.out
   generalize aK x z=r at *
   generalize y.d=dn at *
   have x0:=λd os=>ab a0 (below_regrown wr d os)
   have x1:=λd os=>ab a1 (below_regrown wr d os)
   have x2:=λd os=>ab a2 (below_regrown wr d os)
   have x3:=λd os=>ab a3 (below_regrown wr d os)
   have y0:=λd os=>ab b0 (below_regrown wr d os)
   have y1:=λd os=>ab b1 (below_regrown wr d os)
   have y2:=λd os=>ab b2 (below_regrown wr d os)
   have y3:=λd os=>ab b3 (below_regrown wr d os)
   have q1':(q:Int)<(n:Int):=by omega
   have q2':(q:Int)<(m:Int):=by omega
   have HC:=Lib.hid (And.intro hk1 (And.intro hk2 hcd))
   clear hp1 hy1 hx hx1 hz1 a0 a1 a2 a3 b0 b1 b2 b3 hn hm hnp hno hpl hC ha hb za zb h1 h2 hp hky H1 hk1 hk2 hcd
   go_wp2
   refine wrq ?_;(repeat (any_goals (go_big_quiet_step ((go_at_call 69;exact Calls.regrown_of (hcall _ (below_regrown _ _ _)))))));all_goals (refine wqn ?_;intro d9 os9)
   have kq:=below_regrown wr d9 os9
   have e1:=ab HC.out.1 kq
   have e2:=ab HC.out.2.1 kq
   have e3:=ab HC.out.2.2 kq
   have HB2:=Lib.hid (aa HB.out kq)
   clear x0 x1 x2 x3 y0 y1 y2 y3 hcall kq hcp
   generalize Sort.grow (redrawn wr d9) os9=w2 at *
   obtain⟨r1,r2⟩:=hrg
   by_cases hz:r=0
   ·subst hz
    have hst2:Hid (az (aT ps keys) a b=az (aT (ps.drop (k+1)) (keys.drop (k+1))) a b):=by
     show _=_
     rw[hst.out]
     cases dn<;>rfl
    clear hst
    cases dn
    ·go_wp2
     go_roundw
     case rel=>exact⟨k+1,by omega,by go_num,hst2,HB2⟩
     case measure=>simp[intOf];omega
    ·go_wp2
     go_roundw
     case rel=>exact⟨k+1,by omega,by go_num,hst2,HB2⟩
     case measure=>simp[intOf];omega
   ·cases dn
    ·have hst2:Hid (az (aT ps keys) a b=r):=by
      show _=_
      rw[hst.out]
      show orZ r _=r
      unfold orZ;rw[if_neg hz]
     have hq:(r != 0)=true:=by rw[bne_iff_ne];exact hz
     clear hst hz
     go_wp2
     go_ret
     exact⟨by rw[hst2.out];rfl,HB2.out⟩
    ·have hst2:Hid (az (aT ps keys) a b = -r):=by
      show _=_
      rw[hst.out]
      show orZ (-r) _ = -r
      unfold orZ;rw[if_neg (by omega)]
     obtain⟨s,hs⟩:∃s,-r=s:=⟨_,rfl⟩
     have hq:(s != 0)=true:=by rw[bne_iff_ne];omega
     have hw:IntKind.i64.wrap (-r)=s:=by rw[IntKind.wrap_i64];omega
     rw[hs]at hst2
     clear hst hz
     go_wp2
     go_ret
     exact⟨by rw[hst2.out];rfl,HB2.out⟩
  ·obtain rfl:k=np:=by omega
   have hcall:=D6 a b A B c d n m wr hn hm (hC.step HB.out) (RdTs.later ha HB.out) (RdTs.later hb HB.out) za zb
   have hst2:Hid (az (aT ps keys) a b=cmpRow a b):=by
    show _=_
    rw[H1.out,List.drop_eq_nil_of_le (by omega)];rfl
   generalize cmpRow a b=z at *
   clear hn hm hnp hno hpl hC ha hb za zb h1 h2 hp hky H1
   go_wp2_with (go_at_call 96;refine hcall.mono ?_;rintro e w1 ⟨rfl,hb1⟩;have HF:=Lib.hid (aa HB.out hb1);clear hb1 hcall)
   go_ret
   exact⟨by rw[hst2.out];rfl,HF.out⟩
def putAt (cur:Array Value):Nat->List Value->Array Value
 | _,[]=>cur
 | o,v::r=>putAt (cur.setIfInBounds o v) (o+1) r
theorem mM:∀(vs:List Value) (o:Nat) (cur:Array Value),(putAt cur o vs).size=cur.size
 | [],_,_=>rfl
 | v::r,o,cur=>by rw[putAt,mM r];simp
theorem pp:∀(vs pre old post:List Value),old.length=vs.length->putAt (pre++(old++post)).toArray pre.length vs=(pre++(vs++post)).toArray
 | [],pre,old,post,h=>by
  have:old=[]:=List.eq_nil_of_length_eq_zero h
  subst this;rfl
 | v::r,pre,[],post,h=>by cases h
 | v::r,pre,u::old,post,h=>by
  have ih:=pp r (pre++[v]) old post (by simpa using h)
  rw[List.length_append,List.length_singleton]at ih
  have e:(pre++(u::old++post)).toArray.setIfInBounds pre.length v=(pre++[v]++(old++post)).toArray:=by
   rw[List.setIfInBounds_toArray,List.set_append_right _ _ (Nat.le_refl _),Nat.sub_self]
   simp
  rw[putAt,e,ih]
  simp
theorem eV (b:Nat) (T:TypeId) (fr:Nat × Nat):∀(vs:List Value) (o:Nat) (w:World) (cur:Array Value),w.heap[b]?=some (.cells cur T fr)->(w.setCells b o vs).heap[b]?=some (.cells (putAt cur o vs) T fr)
 | [],_,_,_,h=>h
 | v::r,o,w,cur,h=>by
  rw[World.setCells,putAt]
  refine eV b T fr r (o+1) _ _ ?_
  simp[World.setCell,Array.getElem?_modify,h]
theorem below_setCells {B b:Nat} (hB:B<=b):∀(vs:List Value) (o:Nat) (w:World),Below B w (w.setCells b o vs)
 | [],_,w=>Below.refl B w
 | v::r,o,w=>by
  rw[World.setCells]
  exact((Below.refl B w).setCell (p:=⟨b,o,none⟩) hB v).trans (below_setCells hB r (o+1) _)
theorem lH {P:Program} (w:World) (t e ty:TypeId) (z:Value) (ht:P.underlying t=some (.slice e)) (hv:∀w,(zeroValue e).run P w=.ok z w) (b o n c:Nat) (hn:0<n)
  (h1:∀u∈(Builtin.zeroCells z.cells n).toList,u.oneCell'=true) (hc:∀j,j<(Builtin.zeroCells z.cells n).size->(w.cell? ⟨b,o+j,none⟩).isSome=true/\w.frozen? ⟨b,o+j,none⟩=false) :
  (Builtin.clear_ #[t] ty #[.slice (some ⟨b,o,none⟩) n c]).run P w=.ok (.tuple #[]) (w.setCells b o (Builtin.zeroCells z.cells n).toList):=by
 have hst:=run_storeCells_cells (P:=P) b o (Builtin.zeroCells z.cells n).toList 0 w (λj hj=>(hc j (by simpa using hj)).1) (λj hj=>(hc j (by simpa using hj)).2) h1
 simp only[Nat.add_zero]at hst
 obtain⟨m,rfl⟩:∃m,n=m+1:=⟨n-1,by omega⟩
 simp[Builtin.clear_,run_underlying ht,hv,hst]
theorem bD {b k:Nat} (h:b≠k):∀{vs:List Value} {o:Nat} {w:World},(w.setCells b o vs).heap[k]?=w.heap[k]?
 | [],_,_=>rfl
 | v::r,o,w=>by
  rw[World.setCells,bD h,Below.heap_setCell _ _ _ _ (λe=>h e.symm)]
end Go.Proofs.YtoejnneknpoanaaGreatDoor
