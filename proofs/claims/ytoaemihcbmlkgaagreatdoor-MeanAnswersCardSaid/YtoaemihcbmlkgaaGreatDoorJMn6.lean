/- A range over an iterator that keeps a state of its own in a -/
import Derived.Maps.OwnIn
import Derived.Test.YtoaemihcbmlkgaaGreatDoorJMn3
set_option maxHeartbeats 16000000
set_option maxRecDepth 100000
namespace Go.Proofs.YtoaemihcbmlkgaaGreatDoor
open Go Go.RowKit Go.Maps Go.Shelf
def goesOn (R:World->Prop) (W:World):Exit->Act->World->Prop
 | .normal,_,W'=>KeepsOthers W W'/\R W'
 | _,_,_=>False
def Books (l D:Nat) (rec:LoopState->Loop) (W:World):Prop:=W.heap[l]?=some (.loop (rec .ready))/\W.heap[D]?=some (.deferred (some []))
theorem ownFrom_at {β:Type} {B:Nat} {I:β->World->Prop} (h:OwnFrom B I) {s:β} {W:World} {l:Nat} {x:Loop} (y:Obj) (hs:I s W) (hB:B<=l) (hl:W.heap[l]?=some (.loop x)):I s (W.putObj l y):=h.putObj y hs hB hl rfl
theorem books_new (w:World) (rec:LoopState->Loop):Books (w.heap.size+1) w.heap.size rec ((w.alloc (.deferred (some []))).alloc (.loop (rec .ready))):=by
 refine⟨?_,(Below.heap_alloc _ _ _ (by simp)).trans (World.alloc_heap_new w _)⟩
 have:=World.alloc_heap_new (w.alloc (.deferred (some []))) (.loop (rec .ready))
 rwa [World.size_alloc]at this
variable {F:Fence} {n:Nat} {P:Program}
theorem one_round {l D B:Nat} {fn:FuncId} {tmps:Array Value} {ps:Array Tmp} {assign body:Code} {W:World} {args:Array Value} {a₁:Act} {J R:World->Prop} {m:Nat}
  (hfn:F.fn fn) (hlD:l≠D) (hlB:B<=l) (hJ:OwnFrom B (λ(_:Unit)=>J)) (hR:OwnFrom B (λ(_:Unit)=>R)) (hps:args.size=ps.size)
  (hb:Books l D (λs=>{state:=s,pending:=none,fn,tmps,params:=ps,assign,body,defers:=D}) W) (h0:J W)
  (ha:∀(K:Act->World->Prop),K a₁ W->assign.wpIn (F.inRound l) m P (Exit.then K (λ_ _ _=>False)) {tmps:=(ps.zip args).foldl (λt (p,v)=>t.setIfInBounds p v) tmps,defers:=[]} W)
  (hbody:∀W2:World,J W2->body.wpIn (F.inRound l) m P (goesOn R W2) a₁ W2) :
  YieldAt F m P l args W λe W'=>e=.returned (.bool true)/\R W'/\Books l D (λs=>{state:=s,pending:=none,fn,tmps,params:=ps,assign,body,defers:=D}) W':=by
 obtain⟨hl,hd⟩:=hb
 refine⟨fn,_,assign,body,run_yield hl hps,roundIn_of_wpIn hfn (ha _ ⟨_,run_beginRound hl rfl,?_⟩)⟩
 have hlt:=(Array.getElem?_eq_some_iff.1 hl).1
 refine wpIn_mono (hbody _ (ownFrom_at hJ (s:=()) _ h0 hlB hl)) ?_
 intro e a3 W3 hp
 cases e with
 | normal =>
  obtain⟨hk,hr⟩:=hp
  have hl3:=hk.same _ _ (World.putObj_heap_same (o:=.loop {state:=.busy,pending:=none,fn,tmps,params:=ps,assign,body,defers:=D}) hlt) rfl
  have hd3:=hk.same _ _ ((World.putObj_heap_other (Ne.symm hlD)).trans hd) rfl
  refine⟨_,_,run_endRound none hl3,rfl,ownFrom_at hR (s:=()) _ hr hlB hl3,World.putObj_heap_same (Array.getElem?_eq_some_iff.1 hl3).1,(World.putObj_heap_other (Ne.symm hlD)).trans hd3⟩
 | ret=>exact hp.elim
 | exit id=>exact hp.elim
 | goto t=>exact hp.elim
 | panic ch=>exact hp.elim
 | outgrown=>exact hp.elim
def KeepsBut (r:Nat) (W W':World):Prop:=W.heap.size<=W'.heap.size/\∀(k:Nat) (o:Obj),k≠r->W.heap[k]?=some o->o.isCells=false->W'.heap[k]?=some o
theorem KeepsBut.grown {r:Nat} {W W':World} (h:W.grownBy W' (some r)):KeepsBut r W W':=⟨h.size,λk o hk ho _=>by rw[h.block k (Array.getElem?_eq_some_iff.1 ho).1 (λe=>hk (by injection e))];exact ho⟩
theorem Books.but {l D r:Nat} {rec:LoopState->Loop} {W W':World} (h:Books l D rec W) (hl:l≠r) (hD:D≠r) (hk:KeepsBut r W W'):Books l D rec W':=⟨hk.2 _ _ hl h.1 rfl,hk.2 _ _ hD h.2 rfl⟩
variable {F:Fence} {n:Nat} {P:Program}
theorem wpIn_range_sm {α:Type} {g:Operand} {ps:Array Tmp} {assign body:Code} {Q:Exit->Act->World->Prop} {a:Act} {w:World}
  (r:Nat) (hrw:r<w.heap.size) (hro:F.round=none) (h1:1<=n) {gf:Nat} {lb:Array Value} (hg:a.eval g=.func (.func gf) #[] lb) (hFg:F.fn gf) (eg:∀args w,(callFunc gf args).run P w=.ok (.enter gf args) w)
  (encs:α->Array Value) (hps:∀x,(encs x).size=ps.size) (I:List α->World->Prop) (J Ip:List α->α->World->Prop) (S:List α->Prop)
  (hI:∀pre,OwnFrom w.heap.size (λ(_:Unit)=>I pre)) (hJ:∀pre x,OwnFrom w.heap.size (λ(_:Unit)=>J pre x)) (hIp:∀pre x,OwnFrom w.heap.size (λ(_:Unit)=>Ip pre x)) (h0:I [] w) (a₁:α->Act)
  (hassign:∀(l:Nat) (x:α) (W:World) (K:Act->World->Prop),K (a₁ x) W ->
   assign.wpIn (F.inRound l) (n-1-1) P (Exit.then K (λ_ _ _=>False)) {tmps:=(ps.zip (encs x)).foldl (λt (p,v)=>t.setIfInBounds p v) a.tmps,defers:=[]} W)
  (hbody:∀(l:Nat) (pre:List α) (x:α) (W:World),J pre x W->body.wpIn (F.inRound l) (n-1-1) P (goesOn (Ip pre x) W) (a₁ x) W)
  (hiter:∀(l:Nat) (K:World->Prop) (W:World),I [] W->K W->(∀X Y,K X->KeepsBut r X Y->K Y) ->
   (∀pre x X,J pre x X->K X->YieldAt F (n-1-1) P l (encs x) X λe Y=>e=.returned (.bool true)/\Ip pre x Y/\K Y) ->
   CallsIn F (n-1) P gf (#[.func (.yield l) #[] #[]]++lb) W λe Y=>(∃v,e=.returned v)/\∃xs,S xs/\I xs Y/\K Y)
  (hdone:∀(D:Nat) (xs:List α) (W:World),w.heap.size<=D->S xs->I xs W->W.heap[D]?=some (.deferred (some []))->Q .normal {a with defers:={target:=.collected D,args:=#[]}::a.defers} W) :
  (Code.rangeFunc g ps assign body).wpIn F n P Q a w:=by
 refine wpIn_rangeFunc λfn hfn=>?_
 have hB:Books (w.heap.size+1) w.heap.size (λs=>{state:=s,pending:=none,fn,tmps:=a.tmps,params:=ps,assign,body,defers:=w.heap.size}) ((w.alloc (.deferred (some []))).alloc (.loop {state:=.ready,pending:=none,fn,tmps:=a.tmps,params:=ps,assign,body,defers:=w.heap.size})):=books_new w _
 have hI1:=(hI []).alloc (s:=()) (.loop {state:=.ready,pending:=none,fn,tmps:=a.tmps,params:=ps,assign,body,defers:=w.heap.size}) ((hI []).alloc (s:=()) (.deferred (some [])) h0)
 have hcall:=hiter (w.heap.size+1) (Books (w.heap.size+1) w.heap.size (λs=>{state:=s,pending:=none,fn,tmps:=a.tmps,params:=ps,assign,body,defers:=w.heap.size})) _ hI1 hB (λX Y h k=>h.but (by omega) (by omega) k)
  (λpre x X hj hk=>one_round (a₁:=a₁ x) (J:=J pre x) (R:=Ip pre x) hfn (by omega) (B:=w.heap.size) (by omega) (hJ pre x) (hIp pre x) (hps x) hk hj (λK hK=>hassign _ x X K hK) (λW2 hj2=>hbody _ pre x W2 hj2))
 have he:=run_enterLoop_outer (P:=P) (w:=w) fn a.tmps ps assign body
 generalize (w.alloc (.deferred (some []))).alloc (.loop {state:=.ready,pending:=none,fn,tmps:=a.tmps,params:=ps,assign,body,defers:=w.heap.size})=W1 at *
 have hres:(resolve a.eval (rangeCall g (w.heap.size+1)) 0).run P W1=.ok {target:=.fn (.func gf) lb,args:=#[.func (.yield (w.heap.size+1)) #[] #[]]} W1:=by
  simp only[resolve,hg]
  simp[go_sem]
 have hinv:(invoke (.fn (.func gf) lb) #[.func (.yield (w.heap.size+1)) #[] #[]]).run P W1=.ok (.enter gf (#[.func (.yield (w.heap.size+1)) #[] #[]]++lb)) W1:=by
  simp[invoke,go_sem,eg]
 have hlead:∀f',Target.leads P W1 (.fn (.func gf) lb) #[.func (.yield (w.heap.size+1)) #[] #[]]=some f'->F.fn f':=by
  intro f' hf'
  simp[Target.leads]at hf'
  subst hf'
  exact hFg
 have hfin:∀(e:Ending) (W2:World),((∃v,e=.returned v)/\∃xs,S xs/\I xs W2/\Books (w.heap.size+1) w.heap.size (λs=>{state:=s,pending:=none,fn,tmps:=a.tmps,params:=ps,assign,body,defers:=w.heap.size}) W2)->rangePost F n P (w.heap.size+1) Q {a with defers:=[{target:=.collected w.heap.size,args:=#[]}]++a.defers} e W2:=by
  rintro e W2 ⟨⟨v,rfl⟩,xs,hS,hi,hl,hd⟩
  exact⟨none,_,run_endLoop hl (by simp),hdone _ xs _ (Nat.le_refl _) hS (ownFrom_at (hI xs) (s:=()) _ hi (by omega) hl) ((World.putObj_heap_other (by omega)).trans hd)⟩
 rw[←hro]at he
 exact⟨w.heap.size+1,_,W1,_,W1,gf,_,W1,he,hres,hlead,hinv,λ_=>h1,hcall.mono hfin⟩
open Um Fm Lx Tx
def zTp:Tp:=⟨zTm,zTm,zTm⟩
def zCs:Array Value:=#[.int .i64 0,.string ⟨#[]⟩,.string ⟨#[]⟩,.string ⟨#[]⟩,.int .i64 0,.string ⟨#[]⟩,.string ⟨#[]⟩,.string ⟨#[]⟩,.int .i64 0,.string ⟨#[]⟩,.string ⟨#[]⟩,.string ⟨#[]⟩]
def smallP3 (t:Tp):Prop:=smallT t.s/\smallT t.p/\smallT t.o
theorem small_z:smallT zTm:=⟨by decide,by decide,by decide⟩
def tpL (t:Tp):List Value:=(tpC t).toList
theorem tpL_len (ts:List Tp):(ts.flatMap tpL).length=ts.length*12:=by
 induction ts with
 | nil=>rfl
 | cons t r ih=>rw[List.flatMap_cons,List.length_append,ih,List.length_cons];simp[tpL];omega
theorem tpL_one (t:Tp):∀u∈tpL t,u.oneCell'=true:=by
 intro u hu
 simp only[tpL,List.mem_cons,List.not_mem_nil,or_false]at hu
 rcases hu with rfl|rfl|rfl|rfl|rfl|rfl|rfl|rfl|rfl|rfl|rfl|rfl<;>rfl
theorem info_trip:(Tryz.prog.info? 28).map (λi=>(i.zero,i.size,i.bytes))=some (some (.agg zCs),12,168):=by kernel_rfl
theorem flat12:∀{ts:List Tp} {i:Nat} {t:Tp},ts[i]?=some t->∀j,j<12->(ts.flatMap tpL)[i*12+j]?=(tpL t)[j]?
 | [],_,_,h,_,_=>by simp at h
 | u::r,0,t,h,j,hj=>by
  simp only[List.getElem?_cons_zero,Option.some.injEq]at h
  subst h
  rw[List.flatMap_cons,Nat.zero_mul,Nat.zero_add,List.getElem?_append_left (by simpa[tpL] using hj)]
 | u::r,i+1,t,h,j,hj=>by
  rw[List.getElem?_cons_succ]at h
  have hl:(tpL u).length=12:=rfl
  rw[List.flatMap_cons,List.getElem?_append_right (by rw[hl];omega),hl,show (i+1)*12+j-12=i*12+j by omega]
  exact flat12 h j hj
theorem rd_at12 {w:World} {A:Option Addr} {ts:List Tp} (h:Rd w A (ts.flatMap tpL)) {i:Nat} {t:Tp} (ht:ts[i]?=some t) :
  ∃g o,A=some ⟨g,o,none⟩/\w.cell? ⟨g,o+i*12,none⟩=some (.int .i64 t.s.k)/\w.cell? ⟨g,o+i*12+1,none⟩=some (.string t.s.x)/\w.cell? ⟨g,o+i*12+2,none⟩=some (.string t.s.l)/\w.cell? ⟨g,o+i*12+3,none⟩=some (.string t.s.y)/\w.cell? ⟨g,o+i*12+4,none⟩=some (.int .i64 t.p.k)/\w.cell? ⟨g,o+i*12+5,none⟩=some (.string t.p.x)/\w.cell? ⟨g,o+i*12+6,none⟩=some (.string t.p.l)/\w.cell? ⟨g,o+i*12+7,none⟩=some (.string t.p.y)/\w.cell? ⟨g,o+i*12+8,none⟩=some (.int .i64 t.o.k)/\w.cell? ⟨g,o+i*12+9,none⟩=some (.string t.o.x)/\w.cell? ⟨g,o+i*12+10,none⟩=some (.string t.o.l)/\w.cell? ⟨g,o+i*12+11,none⟩=some (.string t.o.y):=by
 have hf:=flat12 ht
 rcases h with h0|⟨g,o,hA,hc⟩
 ·have h1:=hf 0 (by omega)
  rw[h0]at h1;cases h1
 ·exact⟨g,o,hA,hc _ _ (hf 0 (by omega)),by rw[Nat.add_assoc];exact hc _ _ (hf 1 (by omega)),by rw[Nat.add_assoc];exact hc _ _ (hf 2 (by omega)),by rw[Nat.add_assoc];exact hc _ _ (hf 3 (by omega)),by rw[Nat.add_assoc];exact hc _ _ (hf 4 (by omega)),by rw[Nat.add_assoc];exact hc _ _ (hf 5 (by omega)),by rw[Nat.add_assoc];exact hc _ _ (hf 6 (by omega)),by rw[Nat.add_assoc];exact hc _ _ (hf 7 (by omega)),by rw[Nat.add_assoc];exact hc _ _ (hf 8 (by omega)),by rw[Nat.add_assoc];exact hc _ _ (hf 9 (by omega)),by rw[Nat.add_assoc];exact hc _ _ (hf 10 (by omega)),by rw[Nat.add_assoc];exact hc _ _ (hf 11 (by omega))⟩
open Go.ChangeMaps Mt Om Mv Mn
attribute [local go_sem] Oper.semAt_some
def hdR (base:Nat) (k:Nat) (o:Obj):Bool:=decide (base<=k) && match o with
 | .cells _ T _=>T == 33 || T == 36
 | _=>false
def Sw (base:Nat) (X Y:World):Prop:=X.heap.size<=Y.heap.size/\∀(k:Nat) (o:Obj),X.heap[k]?=some o->hdR base k o=false->o.isCells=true->Y.heap[k]?=some o
def Sv (base B:Nat) (X Y:World):Prop:=X.heap.size<=Y.heap.size/\∀(k:Nat) (o:Obj),X.heap[k]?=some o->hdR base k o=false->k<B∨o.isCells=true->Y.heap[k]?=some o
section
variable {base B:Nat} {X Y Z:World}
theorem Sw.refl (base:Nat) (X:World):Sw base X X:=⟨Nat.le_refl _,λ_ _ h _ _=>h⟩
theorem Sw.trans (h:Sw base X Y) (k:Sw base Y Z):Sw base X Z:=⟨Nat.le_trans h.1 k.1,λi o hi hd hc=>k.2 i o (h.2 i o hi hd hc) hd hc⟩
theorem Sv.sw (h:Sv base B X Y):Sw base X Y:=⟨h.1,λk o hk hd hc=>h.2 k o hk hd (.inr hc)⟩
theorem Sw.below (h:Below X.heap.size X Y):Sw base X Y:=⟨h.size,λk o hk _ _=>by rw[h.block k (Array.getElem?_eq_some_iff.1 hk).1];exact hk⟩
theorem Sw.grown {r:Nat} {f:Fmv} (hM:FdOf X r f) (h:X.grownBy Y (some r)):Sw base X Y:=⟨h.size,λk o hk _ hc=>by
 have hne:k≠r:=λe=>by
  subst e
  obtain⟨es,c,hh,_⟩:=hM
  rw[hh]at hk;injection hk with hk;subst hk;cases hc
 rw[h.block k (Array.getElem?_eq_some_iff.1 hk).1 (λe=>hne (by injection e))];exact hk⟩
theorem Sw.cm (h:Sw base X Y):CM (wo (hdR base) X) (wo (hdR base) Y):=λp u hu=>by
 rw[wo_cell]at hu ⊢
 obtain⟨hc,o,ho,hd⟩:=hu
 have hi:o.isCells=true:=by
  rw[World.cell?,ho]at hc
  cases o<;>simp[Obj.isCells]at hc ⊢
 have ho':=h.2 _ _ ho hd hi
 exact⟨by rw[World.cell?,ho'];rw[World.cell?,ho]at hc;exact hc,o,ho',hd⟩
theorem Rd.of_wo {h:Nat->Obj->Bool} {W:World} {A:Option Addr} {xs:List Value} (hr:Rd (wo h W) A xs):Rd W A xs:=hr.cm λ_ _ x=>(wo_cell.1 x).1
theorem hdR_of {k:Nat} {cs:Array Value} {T:TypeId} {fr:Nat × Nat} (h1:T≠33) (h2:T≠36):hdR base k (.cells cs T fr)=false:=by
 unfold hdR
 simp[h1,h2]
theorem Sw.keepT (h:Sw base X Y) {e:TypeId} (h1:e≠33) (h2:e≠36):KeepT e X Y:=λg _cur _fr hg=>h.2 g _ hg (hdR_of h1 h2) rfl
theorem Sw.at_ (h:Sw base X Y) {k:Nat} {cs:Array Value} {T:TypeId} {fr:Nat × Nat} (hk:X.heap[k]?=some (.cells cs T fr)) (h1:T≠33) (h2:T≠36):Y.heap[k]?=some (.cells cs T fr):=h.2 k _ hk (hdR_of h1 h2) rfl
theorem Sv.fd (h:Sv base B X Y) {r:Nat} {f:Fmv} (hM:FdOf X r f) (hr:r<B):FdOf Y r f:=by
 obtain⟨es,c,hh,hx⟩:=hM
 exact⟨es,c,h.2 r _ hh (by unfold hdR;simp) (.inl hr),hx⟩
end
structure EnvM (base ab r b1 b2:Nat) (As Ap Av:Option Addr) (ns cs np cp nv cv:Nat) (set:List Tp) (pats:List Pat) (vars:List ByteArray) (W:World):Prop where
 ask:W.heap[ab]?=some (.cells #[.map (some r),.slice As ns cs,.slice Ap np cp] 73 (0,0))
 bx1:W.heap[b1]?=some (.cells #[.slice Av nv cv] 32 (0,0))
 bx2:W.heap[b2]?=some (.cells #[.pointer (some ⟨ab,0,none⟩)] 67 (0,0))
 set:Rd (wo (hdR base) W) As (set.flatMap tpL)
 pats:RdPat (wo (hdR base) W) Ap pats
 vars:Rd (wo (hdR base) W) Av (vars.map Value.string)
theorem EnvM.keep {base ab r b1 b2:Nat} {As Ap Av:Option Addr} {ns cs np cp nv cv:Nat} {set:List Tp} {pats:List Pat} {vars:List ByteArray} {X Y:World} (E:EnvM base ab r b1 b2 As Ap Av ns cs np cp nv cv set pats vars X) (h:Sw base X Y):EnvM base ab r b1 b2 As Ap Av ns cs np cp nv cv set pats vars Y:=
 ⟨h.at_ E.ask (by decide) (by decide),h.at_ E.bx1 (by decide) (by decide),h.at_ E.bx2 (by decide) (by decide),E.set.cm h.cm,RdL.cm E.pats h.cm λ_ _ _ h=>h,E.vars.cm h.cm⟩
structure Yl (base B:Nat) where
 v:Value
 row:List Tm
 P:World->Prop
 stab:∀X Y,P X->Sv base B X Y->P Y
theorem tmInfo:(Tryz.prog.info? 26).map (λi=>(i.zero,i.size,i.bytes))=some (some (.agg #[.int .i64 0,.string ⟨#[]⟩,.string ⟨#[]⟩,.string ⟨#[]⟩]),4,56):=by kernel_rfl
theorem rowInfo:(Tryz.prog.info? 36).map (λi=>(i.zero,i.size,i.bytes))=some (some (.slice none 0 0),1,24):=by kernel_rfl
def IdxDone (b:Nat->Bool) (n:Nat) (S:Nat->World->Prop) (e:Ending) (w':World):Prop:=
 (e=.returned (.int .i64 (-1))/\(∀j,j<n->b j=false)/\S n w')∨∃k:Nat,k<n/\e=.returned (.int .i64 k)/\b k=true/\(∀j,j<k->b j=false)/\S (k+1) w'
theorem idxRows (F:Nat) (cb:Array Value) (eg:∀args w,(callFunc F args).run Tryz.prog w=.ok (.enter F args) w) (b:Nat->Bool) (S:Nat->World->Prop) (rows:List (List Tm)) (n:Nat) (A:Option Addr) (c:Nat) (w:World) (hn:rows.length=n) (hl:n<=1000000000)
  (hR:∀k W,S k W->RdRs W A rows)
  (hc:∀k row W A' c',rows[k]?=some row->S k W->row.length<=c'->RdTs W A' row->Calls Tryz.prog F (#[.slice A' row.length c']++cb) W λe W'=>e=.returned (.bool (b k))/\S (k+1) W')
  (h0:S 0 w):Calls Tryz.prog 67 #[.slice A n c,.func (.func F) #[] cb] w (IdxDone b n S):=by
 have HN:=Lib.hid hn
 have HR:=Lib.hid hR
 have HC:=Lib.hid hc
 have H0:Hid ((∀j,j<0->b j=false)/\S 0 w):=⟨λ_ h=>by omega,h0⟩
 clear hR hc hn h0
 go_enter Tryz.func67,Tryz.ntmps67
 go_wp2
 go_loopw [5,8] (λv i wr=>∃k:Nat,k<=n/\i=.int .i64 k/\Hid ((∀j,j<k->b j=false)/\S k wr)) (λ_ i _=>n-(intOf i).toNat)
 case atStart=>exact⟨0,by omega,rfl,H0⟩
 case round =>
  clear H0
  obtain⟨k,hk,rfl,H1⟩:=hrel
  by_cases hlt:k<n
  ·obtain⟨row,hrow⟩:∃row,rows[k]?=some row:=⟨_,List.getElem?_eq_getElem (by rw[HN.out];exact hlt)⟩
   obtain⟨g,o,A',c',rfl,hcell,hle,hrd⟩:=(HR.out k wr H1.out.2).at1 hrow
   have hcall:=HC.out k row wr A' c' hrow H1.out.2 hle hrd
   clear hrow hrd hle
   cases hb:b k
   ·have H2:Hid (∀W',S (k+1) W'->(∀j,j<k+1->b j=false)/\S (k+1) W'):=λW' h=>⟨λj hj=>by
     by_cases e:j=k
     ·rw[e];exact hb
     ·exact H1.out.1 j (by omega),h⟩
    rw[hb]at hcall
    clear hb H1
    go_wp2_with (go_at_fn F;refine hcall.mono ?_;rintro e w1 ⟨rfl,hS⟩;have HS:=Lib.hid hS;clear hS hcall hcell)
    go_roundw
    case rel=>exact⟨k+1,by omega,by go_num,H2.out _ HS.out⟩
    case measure=>simp[intOf];omega
   ·have H2:Hid (∀W',S (k+1) W'->IdxDone b n S (.returned (.int .i64 k)) W'):=λW' h=>.inr ⟨k,hlt,rfl,hb,H1.out.1,h⟩
    rw[hb]at hcall
    clear hb H1
    go_wp2_with (go_at_fn F;refine hcall.mono ?_;rintro e w1 ⟨rfl,hS⟩;have HS:=Lib.hid hS;clear hS hcall hcell)
    go_ret
    exact H2.out _ HS.out
  ·obtain rfl:k=n:=by omega
   have H2:Hid (IdxDone b k S (.returned (.int .i64 (-1))) wr):=.inl ⟨rfl,H1.out.1,H1.out.2⟩
   clear H1
   go_wp2
   go_ret
   exact H2.out
attribute [local go_sem] Oper.semAt_some
theorem enc_look (β:Bd) (s:ByteArray):(encB β s).getD (.agg #[.int .i64 0,.string ⟨#[]⟩,.string ⟨#[]⟩,.string ⟨#[]⟩])=.agg #[.int .i64 (toS β s).k,.string (toS β s).x,.string (toS β s).l,.string (toS β s).y]:=by
 unfold encB toS
 cases β s<;>rfl
def YieldJ {base B:Nat} (O:List (List Tm)->World->Prop) (N:Nat) (pre:List (Yl base B)) (x:Yl base B) (X:World):Prop:=
 O (pre.map (·.row)) X/\x.P X/\OwnRow base X [x.v] x.row/\pre.length<N
def YieldP {base B:Nat} (O:List (List Tm)->World->Prop) (pre:List (Yl base B)) (x:Yl base B) (Y:World):Prop:=O ((pre++[x]).map (·.row)) Y/\x.P Y
theorem mAll11 {base B ab r b1 b2 b3 l m N:Nat} {As Ap Av:Option Addr} {ns cs np cp nv cv:Nat} {set:List Tp} {pats:List Pat} {vars:List ByteArray} {O:List (List Tm)->World->Prop} {K:World->Prop}
  (hO:∀rows X Y,O rows X->X.grownBy Y (some r)->(∃f,FdOf Y r f)->O rows Y) (hK:∀X Y,K X->KeepsBut r X Y->K Y)
  (hY:∀pre x X,YieldJ (base:=base) (B:=B) O N pre x X->K X->YieldAt Fence.wide m Tryz.prog l #[x.v] X λe Y=>e=.returned (.bool true)/\YieldP O pre x Y/\K Y)
  (hrB:r<B) (hnv:vars.length=nv) (hln:nv<=1000) (β:Bd) (W:World) (E:EnvM base ab r b1 b2 As Ap Av ns cs np cp nv cv set pats vars W) (h3:W.heap[b3]?=some (.cells #[.func (.yield l) #[] #[]] 85 (0,0)))
  (hM:FdOf W r (encB β)) (pre:List (Yl base B)) (hN:pre.length<N) (hbs:base<=W.heap.size) (ho:O (pre.map (·.row)) W) (hk:K W) :
  Calls Tryz.prog 52 #[.pointer (some ⟨b1,0,none⟩),.pointer (some ⟨b2,0,none⟩),.pointer (some ⟨b3,0,none⟩)] W λe Y =>
   e=.returned (.bool true)/\∃x:Yl base B,x.row=rowB vars β/\O ((pre++[x]).map (·.row)) Y/\K Y/\FdOf Y r (encB β)/\Sw base W Y:=by
 refine(callsIn_wide (n:=m+1)).1 ?_
 have c1:W.cell? ⟨b1,0,none⟩=some (.slice Av nv cv):=by rw[World.cell?,E.bx1];rfl
 have H:=Lib.hid (And.intro E (And.intro h3 (And.intro hM (And.intro ho hk))))
 have hl':(nv:Int)<=1000:=by omega
 clear E h3 hM ho hk
 refine callsIn_of_wp Tryz.func52 rfl trivial ?_ rfl
 simp only[Tryz.ntmps52,List.size_toArray,List.length_cons,List.length_nil,Nat.reduceAdd,Nat.reduceSub,Array.replicate_succ,Array.replicate_zero,List.push_toArray,List.append_toArray,List.nil_append,List.cons_append]
 gi_wp2
 gi_loopw [4,6,9] (λv _ i wr=>∃(k:Nat) (v':Value),k<=nv/\i=.int .i64 k/\v'=v/\wr.ownsRow W.heap.size 26 4 v' k (((rowB vars β).take k).flatMap tmC)/\Below W.heap.size W wr) (λ_ _ i _=>nv-(intOf i).toNat)
 case atStart=>exact⟨0,_,by omega,rfl,rfl,World.ownsRow_nil _ _ _ _,Below.refl _ _⟩
 case round =>
  obtain⟨k,v,hkl,rfl,rfl,own,hb⟩:=hrel
  obtain⟨E,h3,hM,ho,hkk⟩:=H.out
  by_cases hlt:k<nv
  ·obtain⟨s,hs⟩:∃s,vars[k]?=some s:=⟨_,List.getElem?_eq_getElem (by omega)⟩
   obtain⟨g,o,rfl,hx⟩:=(E.vars.of_wo.later hb).at_ (j:=k) (u:=.string s) (by rw[List.getElem?_map,hs];rfl)
   have hl:=run_look (P:=Tryz.prog) bMapT bMapK (bMapZ wr) (hM.on hb) s
   rw[enc_look]at hl
   have hrow:(rowB vars β)[k]?=some (toS β s):=by unfold rowB;rw[List.getElem?_map,hs];rfl
   have Hr:Hid (((rowB vars β).take (k+1)).flatMap tmC=((rowB vars β).take k).flatMap tmC++tmC (toS β s)):=flat_take hrow tmC
   have a2:wr.cell? ⟨b2,0,none⟩=some (.pointer (some ⟨ab,0,none⟩)):=cell_on (by rw[World.cell?,E.bx2];rfl) hb
   have a3:wr.cell? ⟨ab,0,none⟩=some (.map (some r)):=cell_on (by rw[World.cell?,E.ask];rfl) hb
   have hbs2:W.heap.size<=wr.heap.size:=hb.size
   generalize toS β s=t at *
   have hba:Below wr.heap.size wr (wr.alloc (.cells #[.int .i64 t.k,.string t.x,.string t.l,.string t.y] 26)):=blw
   have own0:=own_below own hba (Nat.le_refl _)
   have hnew:∀(j:Nat) (u:Value),(tmC t)[j]?=some u->(wr.alloc (.cells #[.int .i64 t.k,.string t.x,.string t.l,.string t.y] 26)).cell? ((⟨wr.heap.size,0,none⟩:Addr).add j)=some u:=by
    intro j u hu
    rw[add_zero_spot,Nat.zero_add,World.cell?,heap_alloc_new]
    simpa[tmC] using hu
   obtain⟨i,hi,hz,hsize,hby⟩:=info_parts tmInfo
   have Hb:=Lib.hid hb
   have HO:=Lib.hid own.lt
   clear hs hM E h3 ho hkk hrow own hb
   gi_wp2_with (gi_at_builtin;(refine wpListIn_append_own_at _ rfl _ _ 36 rfl W.heap.size 26 i _ 4 56 Tryz.underlying36 hi hz hsize hby rfl (by omega) _ k _ rfl own0 ⟨wr.heap.size,0,none⟩ 1 1 (tmC t) rfl rfl hnew (by intro u hu;simp only[tmC,List.mem_cons,List.not_mem_nil,or_false]at hu;rcases hu with rfl|rfl|rfl|rfl<;>rfl) (by unfold maxLen;omega) (by omega) (by simp;omega) ?_;intro v4 w4 own4 hg4 _ _))
   go_roundw
   case rel=>exact⟨k+1,v4,by omega,by go_num,rfl,by rw[Hr.out];exact own4,(Hb.out.trans (hba.mono hbs2)).grown hg4 (by simp;omega) (λq e=>(HO.out q e).1)⟩
   case measure=>simp[intOf];omega
  ·obtain rfl:k=nv:=by omega
   have hlen:(rowB vars β).length=k:=by unfold rowB;rw[List.length_map,hnv]
   have hfull:(rowB vars β).take k=rowB vars β:=List.take_of_length_le (by omega)
   rw[hfull]at own
   obtain⟨A,c,rfl,hc,_⟩:=own_slice own
   have hyb:wr.cell? ⟨b3,0,none⟩=some (.func (.yield l) #[] #[]):=cell_on (by rw[World.cell?,h3];rfl) hb
   have hyY:=hY pre {v:=.slice A k c,row:=rowB vars β,P:=λY=>FdOf Y r (encB β)/\Sw base W Y,stab:=λX Y hp hs=>⟨hs.fd hp.1 hrB,hp.2.trans hs.sw⟩} wr
    ⟨hO _ _ _ ho (grown_below hb) ⟨_,hM.on hb⟩,⟨hM.on hb,Sw.below hb⟩,⟨_,rfl,by rw[hlen];exact own_lower own hbs⟩,hN⟩ (hK _ _ hkk (KeepsBut.grown (grown_below hb)))
   obtain⟨fn,tmps,assign,body,hy',hR⟩:=hyY
   clear hY hO hK E h3 hM ho hkk own hb hc H
   gi_wp2_with ((try refine⟨λh=>by cases h,?_⟩);refine hR.mono ?_;clear hR;rintro e W2 ⟨rfl,⟨ho2,hp2⟩,hk2⟩)
   go_ret
   exact⟨rfl,_,rfl,ho2,hk2,hp2.1,hp2.2⟩
def dfsT (set:List Tp) (p:Pat) (ps:List Pat) (β:Bd) (ts:List Tp):List Bd:=ts.flatMap λt=>match b3 β p t with
 | none=>[]
 | some β'=>dfs set ps β'
theorem dfsT_snoc {set:List Tp} {p:Pat} {ps:List Pat} {β:Bd} {i:Nat} {t:Tp} (h:set[i]?=some t):dfsT set p ps β (set.take (i+1))=dfsT set p ps β (set.take i)++(match b3 β p t with
  | none=>[]
  | some β'=>dfs set ps β'):=by
 unfold dfsT
 rw[take_snoc_of h,List.flatMap_append,List.flatMap_cons,List.flatMap_nil,List.append_nil]
theorem flat_take_le {α β:Type} (f:α->List β) (l:List α) (i:Nat):((l.take i).flatMap f).length<=(l.flatMap f).length:=by
 conv=>rhs;rw[←List.take_append_drop i l]
 rw[List.flatMap_append,List.length_append];omega
theorem dfsT_le {set:List Tp} {p:Pat} {ps:List Pat} {β:Bd} (i:Nat):(dfsT set p ps β (set.take i)).length<=(dfs set (p::ps) β).length:=by
 rw[dfs]
 unfold dfsT
 exact flat_take_le _ _ _
def FromR {base B:Nat} (O:List (List Tm)->World->Prop) (K:World->Prop) (r:Nat) (β:Bd) (vars:List ByteArray) (pre:List (Yl base B)) (L:List Bd) (W:World) (e:Ending) (Y:World):Prop:=
 e=.returned (.bool true)/\∃xs:List (Yl base B),xs.map (·.row)=L.map (rowB vars)/\O ((pre++xs).map (·.row)) Y/\K Y/\FdOf Y r (encB β)/\Sw base W Y
def FromI {base B:Nat} (O:List (List Tm)->World->Prop) (K:World->Prop) (r:Nat) (β:Bd) (vars:List ByteArray) (pre:List (Yl base B)) (L:Nat->List Bd) (ns:Nat) (W:World) (i:Value) (wr:World):Prop:=
 ∃(k:Nat) (xs:List (Yl base B)),k<=ns/\i=.int .i64 k/\xs.map (·.row)=(L k).map (rowB vars)/\O ((pre++xs).map (·.row)) wr/\K wr/\FdOf wr r (encB β)/\Sw base W wr
section
variable {base B ab r b1 b2 b3' l m N:Nat} {As Ap Av:Option Addr} {ns cs np cp nv cv:Nat} {set:List Tp} {pats:List Pat} {vars:List ByteArray} {O:List (List Tm)->World->Prop} {K:World->Prop}
theorem mFrom
  (hO:∀rows X Y,O rows X->X.grownBy Y (some r)->(∃f,FdOf Y r f)->O rows Y) (hK:∀X Y,K X->KeepsBut r X Y->K Y)
  (hY:∀pre x X,YieldJ (base:=base) (B:=B) O N pre x X->K X->YieldAt Fence.wide m Tryz.prog l #[x.v] X λe Y=>e=.returned (.bool true)/\YieldP O pre x Y/\K Y)
  (hrB:r<B) (hnv:vars.length=nv) (hln:nv<=1000) (hns:set.length=ns) (hls:ns<=1000000) (hnp:pats.length=np) (hlp:np<=1000000) :
  ∀(ps:List Pat) (k:Nat),pats.drop k=ps->k<=np->∀(β:Bd) (W:World) (pre:List (Yl base B)),EnvM base ab r b1 b2 As Ap Av ns cs np cp nv cv set pats vars W->W.heap[b3']?=some (.cells #[.func (.yield l) #[] #[]] 85 (0,0)) ->
  FdOf W r (encB β)->pre.length+(dfs set ps β).length<=N->base<=W.heap.size->O (pre.map (·.row)) W->K W ->
  Calls Tryz.prog 51 #[.pointer (some ⟨ab,0,none⟩),.int .i64 k,.func (.func 52) #[] #[.pointer (some ⟨b1,0,none⟩),.pointer (some ⟨b2,0,none⟩),.pointer (some ⟨b3',0,none⟩)]] W (FromR O K r β vars pre (dfs set ps β) W)
 | [],k,hd,hk,β,W,pre,E,h3,hM,hN,hbs,ho,hkk=>by
  obtain rfl:k=np:=by
   have:=List.drop_eq_nil_iff.1 hd
   omega
  have hcall:=mAll11 hO hK hY hrB hnv hln β W E h3 hM pre (by simp[dfs]at hN;omega) hbs ho hkk
  have a2:W.cell? ⟨ab,2,none⟩=some (.slice Ap k cp):=by rw[World.cell?,E.ask];rfl
  clear E h3 hM ho hkk
  go_enter Tryz.func51,Tryz.ntmps51
  go_wp2_with (go_at_call 52;refine hcall.mono ?_;rintro e Y ⟨rfl,x,hx,h1,h2,h3,h4⟩)
  go_ret
  exact⟨rfl,[x],by simp[dfs,hx],h1,h2,h3,h4⟩
 | p::ps,k,hd,hk,β,W,pre,E,h3,hM,hN,hbs,ho,hkk=>by
  have hlt:k<np:=by
   rcases Nat.lt_or_ge k np with h|h
   ·exact h
   ·rw[List.drop_eq_nil_of_le (by omega)]at hd;cases hd
  have hpk:pats[k]?=some p:=by
   have:=congrArg (λx=>x[0]?) hd
   simpa using this
  have hd2:pats.drop (k+1)=ps:=by rw[drop_cons_of hpk]at hd;injection hd
  have ih:=mFrom hO hK hY hrB hnv hln hns hls hnp hlp ps (k+1) hd2 (by omega)
  have hne:((k:Int) == (np:Int))=false:=by simp;omega
  have a2:W.cell? ⟨ab,2,none⟩=some (.slice Ap np cp):=by rw[World.cell?,E.ask];rfl
  have a1:W.cell? ⟨ab,1,none⟩=some (.slice As ns cs):=by rw[World.cell?,E.ask];rfl
  have H:=Lib.hid (And.intro E (And.intro h3 (And.intro hM (And.intro ho (And.intro hkk (And.intro hpk ih))))))
  clear E h3 hM ho hkk hpk ih hd hd2
  go_enter Tryz.func51,Tryz.ntmps51
  go_wp2
  go_loopw [8,9,10,11,26] (λ_ _ _ _ i wr=>FromI O K r β vars pre (λk=>dfsT set p ps β (set.take k)) ns W i wr) (λ_ _ _ _ i _=>ns-(intOf i).toNat)
  case atStart=>exact⟨0,[],by omega,rfl,by simp[dfsT],by simpa using H.out.2.2.2.1,H.out.2.2.2.2.1,H.out.2.2.1,Sw.refl _ _⟩
  case round =>
   obtain⟨i,xs,hi,rfl,hxs,ho,hkk,hM,hw⟩:=hrel
   replace hxs:xs.map (·.row)=(dfsT set p ps β (set.take i)).map (rowB vars):=hxs
   by_cases hlt2:i<ns
   ·obtain⟨t,ht⟩:∃t,set[i]?=some t:=⟨_,List.getElem?_eq_getElem (by omega)⟩
    obtain⟨E,h3,hM0,_,_,hpk,ih⟩:=H.out
    have Ew:=E.keep hw
    have h3w:=hw.at_ h3 (by decide) (by decide)
    obtain⟨g,o,rfl,c0,c1,c2,c3,c4,c5,c6,c7,c8,c9,c10,c11⟩:=rd_at12 Ew.set.of_wo ht
    obtain⟨g2,o2,cs2,rfl,_,rfl,hx⟩:=(RdL.cm Ew.pats (λ_ _ x=>(wo_cell.1 x).1) (λ_ _ _ h=>h)).at_ (by omega) hpk
    obtain⟨W4,hW4⟩:∃V:World,wr.alloc (.cells #[.int .i64 t.s.k,.string t.s.x,.string t.s.l,.string t.s.y,.int .i64 t.p.k,.string t.p.x,.string t.p.l,.string t.p.y,.int .i64 t.o.k,.string t.o.x,.string t.o.l,.string t.o.y] 28)=V:=⟨_,rfl⟩
    have hb4:Below wr.heap.size wr W4:=by rw[←hW4];exact blw
    have hk4:W4.heap[wr.heap.size]?=some (.cells #[.int .i64 t.s.k,.string t.s.x,.string t.s.l,.string t.s.y,.int .i64 t.p.k,.string t.p.x,.string t.p.l,.string t.p.y,.int .i64 t.o.k,.string t.o.x,.string t.o.l,.string t.o.y] 28 (0,0)):=by rw[←hW4];exact heap_alloc_new _ _
    have s0:∀(j:Nat) (v:Value),#[Value.int .i64 t.s.k,.string t.s.x,.string t.s.l,.string t.s.y,.int .i64 t.p.k,.string t.p.x,.string t.p.l,.string t.p.y,.int .i64 t.o.k,.string t.o.x,.string t.o.l,.string t.o.y][j]?=some v->W4.cell? ⟨wr.heap.size,j,none⟩=some v:=λj v h=>by rw[World.cell?,hk4];simpa using h
    have e2:W4.cell? ⟨ab,2,none⟩=some (.slice (some ⟨g2,o2,none⟩) np cp):=cell_on (by rw[World.cell?,Ew.ask];rfl) hb4
    have e0:W4.cell? ⟨ab,0,none⟩=some (.map (some r)):=cell_on (by rw[World.cell?,Ew.ask];rfl) hb4
    have hM4:=hM.on hb4
    have hcall:∀wd,Below W4.heap.size W4 wd->Calls Tryz.prog 84 _ wd (TripR r β p t wd):=λwd h=>mTriple ab r β p t wd (hM4.on h) (cell_on e0 h)
    have hstep:=dfsT_snoc (p:=p) (ps:=ps) (β:=β) ht
    have hle:=dfsT_le (set:=set) (p:=p) (ps:=ps) (β:=β) (i+1)
    have HX:=Lib.hid (And.intro hxs (And.intro ho (And.intro hkk (And.intro hM (And.intro hw (And.intro Ew (And.intro h3w (And.intro hb4 (And.intro ih (And.intro hstep (And.intro hle hM4)))))))))))
    have hp:∀(j:Nat) (u:Value),(cPat p)[j]?=some u->W4.cell? ⟨g2,o2+k*15+j,none⟩=some u:=λj u h=>cell_on (hx j u h) hb4
    clear hxs ho hkk hM hw Ew h3w hb4 ih hstep hle hM4 E h3 hM0 hpk hk4 hx ht
    go_wp2
    clear c0 c1 c2 c3 c4 c5 c6 c7 c8 c9 c10 c11
    refine Rs.p0 W4.heap.size [9] _ [(3,[0,1,5]),(0,[2,3,4,6,7,8]),(2,[9]),(3,[10,11,12,13,14])] ?_ (λa w h=>h)
    intro wd hbd hwz
    have y0:=cellL e2 hbd
    have z0:=cellL (s0 0 _ rfl) hbd
    have z1:=cellL (s0 1 _ rfl) hbd
    have z2:=cellL (s0 2 _ rfl) hbd
    have z3:=cellL (s0 3 _ rfl) hbd
    have z4:=cellL (s0 4 _ rfl) hbd
    have z5:=cellL (s0 5 _ rfl) hbd
    have z6:=cellL (s0 6 _ rfl) hbd
    have z7:=cellL (s0 7 _ rfl) hbd
    have z8:=cellL (s0 8 _ rfl) hbd
    have z9:=cellL (s0 9 _ rfl) hbd
    have z10:=cellL (s0 10 _ rfl) hbd
    have z11:=cellL (s0 11 _ rfl) hbd
    have q0:W4.cell? ⟨g2,o2+k*15,none⟩=some (.string p.s.v):=hp 0 _ rfl
    have p0:=cellL q0 hbd
    have p1:=cellL (hp 1 _ rfl) hbd
    have p2:=cellL (hp 2 _ rfl) hbd
    have p3:=cellL (hp 3 _ rfl) hbd
    have p4:=cellL (hp 4 _ rfl) hbd
    have p5:=cellL (hp 5 _ rfl) hbd
    have p6:=cellL (hp 6 _ rfl) hbd
    have p7:=cellL (hp 7 _ rfl) hbd
    have p8:=cellL (hp 8 _ rfl) hbd
    have p9:=cellL (hp 9 _ rfl) hbd
    have p10:=cellL (hp 10 _ rfl) hbd
    have p11:=cellL (hp 11 _ rfl) hbd
    have p12:=cellL (hp 12 _ rfl) hbd
    have p13:=cellL (hp 13 _ rfl) hbd
    have p14:=cellL (hp 14 _ rfl) hbd
    have HBD:=Lib.hid hbd
    clear hwz e2 s0 hp hbd hW4 q0
    refine Rs.st_pure ?_
    iterate 3 go_big_quiet_step (fail)
    refine wpQuiet_nil (Rs.st_quiet ?_)
    iterate 6 go_big_quiet_step (fail)
    refine wpQuiet_nil (Rs.st_free ?_)
    clear y0 z0 z1 z2 z3 z4 z5 z6 z7 z8 z9 z10 z11 p0 p1 p2 p3 p4 p5 p6 p7 p8 p9 p10 p11 p12 p13 p14
    go_wp2_with (go_at_call 84;refine(hcall wd HBD.out).mono ?_;rintro e w5 ⟨v,fr,γ,rfl,own,hM5,hg5,hu,hfr,heq⟩)
    obtain⟨A5,c5,rfl,_,hrd5⟩:=own_slice own
    refine⟨⟨hg5.os,hg5.tape,hg5.output,hg5.size,λ_ h=>absurd h (Nat.not_lt_zero _)⟩,Rs.st_pure ?_⟩
    iterate 5 go_big_quiet_step (fail)
    refine wpQuiet_nil (Rs.st_done ?_)
    have hgt:wr.grownBy w5 (some r):=grown_tr (grown_below (below_tr HX.out.2.2.2.2.2.2.2.1 HBD.out)) hg5
    have hfl:fr.length<=1000000:=by omega
    obtain⟨hxs,ho,hkk,hM,hw,Ew,h3w,hb4,ih,hstep,hle,hM4⟩:=HX.out
    have e5:w5.cell? ⟨ab,0,none⟩=some (.map (some r)):=cell_grownM hM (by rw[World.cell?,Ew.ask];rfl) hgt
    cases hb:b3 β p t with
    | none =>
     simp only[Option.isSome_none]
     rw[hb]at hstep
     have hloose:=mLoose r γ fr A5 c5 fr.length w5 rfl hfl hM5 hrd5
     have HZ:=Lib.hid (And.intro hxs (And.intro ho (And.intro hkk (And.intro hM (And.intro hw (And.intro hgt (And.intro hu hstep)))))))
     clear hxs ho hkk hM hw Ew h3w hb4 ih hstep hle hM4 hgt hu heq hb own hrd5 hM5 hg5 hcall e0
     go_wp2_with (go_at_call 85;refine hloose.mono ?_;rintro e w6 ⟨⟨v6,rfl⟩,hM6,hg6⟩)
     go_roundw
     case rel =>
      obtain⟨hxs,ho,hkk,hM,hw,hgt,hu,hstep⟩:=HZ.out
      have hg:=grown_tr hgt hg6
      exact⟨i+1,xs,by omega,by go_num,by show _=(dfsT set p ps β (set.take (i+1))).map (rowB vars);rw[hstep,List.append_nil];exact hxs,hO _ _ _ ho hg ⟨_,hM6⟩,hK _ _ hkk (KeepsBut.grown hg),by rw[show dels γ fr=β from hu]at hM6;exact hM6,hw.trans (Sw.grown hM hg)⟩
     case measure=>simp[intOf];omega
    | some γ' =>
     obtain rfl:=heq γ' hb
     simp only[Option.isSome_some]
     rw[hb]at hstep
     simp only at hstep
     have hsw5:Sw base wr w5:=Sw.grown hM hgt
     have hN2:(pre++xs).length+(dfs set ps γ).length<=N:=by
      have h1:xs.length=(dfsT set p ps β (set.take i)).length:=by simpa using congrArg List.length hxs
      rw[hstep,List.length_append]at hle
      rw[List.length_append];omega
     have hrec:=ih γ w5 (pre++xs) (Ew.keep hsw5) (hsw5.at_ h3w (by decide) (by decide)) hM5 hN2 (Nat.le_trans hbs (hw.trans hsw5).1) (hO _ _ _ ho hgt ⟨_,hM5⟩) (hK _ _ hkk (KeepsBut.grown hgt))
     have HA:Hid (w5.heap[ab]?=_):=hsw5.at_ Ew.ask (by decide) (by decide)
     have HZ:=Lib.hid (And.intro hxs (And.intro (hw.trans hsw5) (And.intro hu hstep)))
     have HW:=Lib.hid own
     clear hxs ho hkk hM hw Ew h3w hb4 ih hstep hle hM4 hgt hu heq hb own hrd5 hM5 hg5 hcall e0 hN2 hsw5
     go_wp2_with (first
      | (go_at_call 51;refine hrec.mono ?_;rintro e w6 ⟨rfl,ys,hys,ho6,hk6,hM6,hw6⟩;have a6:=hw6.at_ HA.out (by decide) (by decide);have e6:w6.cell? ⟨ab,0,none⟩=some (.map (some r)):=(by rw[World.cell?,a6];rfl);clear a6;have own6:=own_keep HW.out (hw6.keepT (by decide) (by decide));obtain⟨A6,c6,ea,_,hrd6⟩:=own_slice own6;injection ea with ea1 ea2 ea3;subst ea1;subst ea3;have hloose:=mLoose r γ fr A5 c5 fr.length w6 rfl hfl hM6 hrd6;clear own6 hrd6 ea2)
      | (go_at_call 85;refine hloose.mono ?_;rintro e w7 ⟨⟨v7,rfl⟩,hM7,hg7⟩))
     go_roundw
     case rel =>
      obtain⟨hxs,hw,hu,hstep⟩:=HZ.out
      exact⟨i+1,xs++ys,by omega,by go_num,by show _=(dfsT set p ps β (set.take (i+1))).map (rowB vars);rw[hstep,List.map_append,List.map_append,hxs,hys],by rw[←List.append_assoc];exact hO _ _ _ ho6 hg7 ⟨_,hM7⟩,hK _ _ hk6 (KeepsBut.grown hg7),by rw[show dels γ fr=β from hu]at hM7;exact hM7,(hw.trans hw6).trans (Sw.grown hM6 hg7)⟩
     case measure=>simp[intOf];omega
   ·obtain rfl:i=ns:=by omega
    have hfull:set.take i=set:=List.take_of_length_le (by omega)
    rw[hfull]at hxs
    have HR:Hid (FromR O K r β vars pre (dfs set (p::ps) β) W (.returned (.bool true)) wr):=⟨rfl,xs,hxs,ho,hkk,hM,hw⟩
    clear hxs ho hkk hM hw H
    go_wp2
    go_ret
    exact HR.out
end
end Go.Proofs.YtoaemihcbmlkgaaGreatDoor
