/- What was drawn stays drawn: of every call. -/
import Derived.Calls
namespace Go.Proofs.YtoejnneknpoanaaGreatDoor.Dr
open Go
theorem ask_leD {α:Type} (k:Ask α):∀w:World,w.drawn<=(w.ask k).2.drawn:=by
 induction k with
 | done a=>intro w;simp[World.ask]
 | ask what range k ih =>
  intro w
  rw[World.ask]
  split
  ·exact ih _ w
  ·exact Nat.le_trans (Nat.le_succ _) (ih _ {w with drawn:=w.drawn+1})
theorem sys_le (w:World) (c:Sys):w.drawn<=(w.sys c).2.drawn:=by
 have h:=ask_leD (Kernel.perform c w.os) w
 unfold World.sys
 generalize w.ask (Kernel.perform c w.os)=r at *
 obtain⟨⟨r,os⟩,w'⟩:=r
 cases r<;>first|exact Nat.le_refl _|exact h
theorem view_le {p:Program} {w:World} {at_:Addr} {u:TypeId} {k:Addr} {v:Value} {atomic:Bool} {r:World × List Addr} (h:w.viewStore p at_ u k v atomic=.ok r):r.1.drawn=w.drawn:=by
 unfold World.viewStore at h
 simp only[bind,Except.bind,pure,Except.pure]at h
 repeat' split at h
 all_goals first|(cases h;rfl)|cases h
theorem far_le {p:Program} {w:World} {a:Addr} {v:Value} {atomic:Bool} {r:World × List Addr} (h:w.farStore p a v atomic=.ok r):r.1.drawn=w.drawn:=by
 unfold World.farStore at h
 split at h
 ·next at_ u _ =>
  cases hq:w.viewStore p at_ u a v atomic with
  | ok r'=>rw[hq]at h;cases h;exact view_le hq
  | error e=>rw[hq]at h;cases h
 ·cases h
def Result.w {α:Type}:Result α->World
 | .ok _ w=>w
 | .halt _ w=>w
theorem freeze_le (w:World) (a:Addr) (n:Nat):(w.freeze a n).drawn=w.drawn:=by unfold World.freeze;split<;>rfl
theorem run_le {α:Type} (p:Program) (s:Sem α):∀w:World,w.drawn<=(Result.w (s.run p w)).drawn:=by
 induction s with
 | pure a=>intro w;rw[Sem.run];exact Nat.le_refl _
 | load m a k ih =>
  intro w;rw[Sem.run]
  split
  ·exact ih _ w
  ·split
   ·exact ih _ w
   ·exact Nat.le_refl _
 | store m a v k ih =>
  intro w
  have key:∀(u:Value),w.drawn<=(Result.w (match w.cell? a with
    | some _=>if w.frozen? a then .halt (.unsupported (.unsafePointer "a write to bytes that a string shares")) w else k.run p (w.setCell a u)
    | none=>match w.farStore p a u (m == .atomic) with
     | .ok (w,_)=>k.run p w
     | .error h=>.halt h w)).drawn:=by
   intro u
   split
   ·split
    ·exact Nat.le_refl _
    ·exact ih (w.setCell a u)
   ·split
    ·next h=>exact Nat.le_trans (Nat.le_of_eq (far_le h).symm) (ih _)
    ·exact Nat.le_refl _
  cases v<;>first|exact key _|exact Nat.le_refl _
 | new o k ih=>intro w;rw[Sem.run];exact ih w.heap.size {w with heap:=w.heap.push o}
 | shape r k ih=>intro w;rw[Sem.run];exact ih _ _
 | freeze a n k ih=>intro w;rw[Sem.run];exact Nat.le_trans (Nat.le_of_eq (freeze_le w a n).symm) (ih _)
 | frozen a k ih=>intro w;rw[Sem.run];exact ih _ _
 | getObj r k ih =>
  intro w;rw[Sem.run]
  split
  ·exact Nat.le_refl _
  ·exact ih _ _
  ·exact Nat.le_refl _
 | setObj r o k ih =>
  intro w;rw[Sem.run]
  split
  ·exact Nat.le_refl _
  ·exact ih {w with heap:=w.heap.setIfInBounds r o}
  ·exact Nat.le_refl _
 | choose q k ih =>
  intro w;rw[Sem.run]
  split
  ·exact ih _ _
  ·exact Nat.le_trans (Nat.le_succ _) (ih _ {w with drawn:=w.drawn+1})
 | sys c k ih=>intro w;rw[Sem.run];exact Nat.le_trans (sys_le w c) (ih _ _)
 | program k ih=>intro w;rw[Sem.run];exact ih _ _
 | mark m k ih=>intro w;rw[Sem.run];exact ih _
 | halt h=>intro w;rw[Sem.run];exact Nat.le_refl _
def Up (n:Nat):GStep->Prop
 | .go _ w _ | .comm _ _ _ _ w _ | .spawn _ _ w _ | .count _ w _ | .timer _ _ w _ | .alone _ _ w _ | .newcoro _ _ _ w _ | .coroswitch _ _ _ w _ | .collect _ w _ | .watch _ w _=>n<=w.drawn
 | .ended .. => True
theorem Up.after {n:Nat} {es:Array Event} {s:GStep} (h:Up n s):Up n (s.after es):=by cases s<;>exact h
theorem Up.mono {n m:Nat} {s:GStep} (hn:n<=m) (h:Up m s):Up n s:=by cases s<;>first|exact Nat.le_trans hn h|trivial
theorem run_ok {α:Type} {p:Program} {s:Sem α} {w w':World} {a:α} (h:s.run p w=.ok a w'):w.drawn<=w'.drawn:=by have:=run_le p s w;rw[h]at this;exact this
theorem run_halt {α:Type} {p:Program} {s:Sem α} {w w':World} {a:Halt} (h:s.run p w=.halt a w'):w.drawn<=w'.drawn:=by have:=run_le p s w;rw[h]at this;exact this
theorem ite_up {n:Nat} {c:Prop} [Decidable c] {a b:GStep} (ha:Up n a) (hb:Up n b):Up n (if c then a else b):=by split<;>assumption
theorem elim_up {α:Type} {n:Nat} {o:Option α} {b:GStep} {f:α->GStep} (hb:Up n b) (hf:∀x,Up n (f x)):Up n (o.elim b f):=by cases o<;>first|exact hb|exact hf _
theorem endWith_up (w:World) (fd:Nat) (text:ByteArray) (o:Outcome):Up w.drawn (endWith w fd text o):=by
 unfold endWith
 dsimp only
 split
 ·split<;>trivial
 ·trivial
 ·trivial
theorem dieOf_up (fr:Frame) (ahead:List ByteArray) (m:String) (whole:Bool) (w:World):Up w.drawn (dieOf fr ahead m whole w):=Nat.le_refl _
theorem endThrow_up (fr:Frame) (m:String) (w:World):Up w.drawn (endThrow fr m w):=Nat.le_refl _
theorem endPrinting_up (p:Program) (fr:Frame) (v:Value) (w:World):Up w.drawn (endPrinting p fr v w):=by
 unfold endPrinting
 dsimp only
 split
 ·exact endThrow_up _ _ _
 ·trivial
theorem endFatal_up (p:Program) (fr:Frame) (callers:List Frame) (dying:Option Dying) (m:String) (w:World):Up w.drawn (endFatal p fr callers dying m w):=by
 unfold endFatal
 dsimp only
 split
 ·next h=>exact(dieOf_up _ _ _ _ _).mono (run_ok h)
 ·trivial
 ·trivial
theorem writeOn_up (p:Program) (fr:Frame) (d:Dying) (f:Fatal) (w:World):Up w.drawn (writeOn p fr d f w):=by
 unfold writeOn
 dsimp only
 split
 ·trivial
 ·simp only[Sem.runT_eq]
  split
  ·next h=>rw[Prod.mk.injEq]at h;exact run_ok h.1
  ·next h=>rw[Prod.mk.injEq]at h;exact run_halt h.1
  ·trivial
  ·trivial
theorem die_up (p:Program) (fr:Frame) (d:Dying) (w:World):Up w.drawn (die p fr d w):=by
 unfold die
 split
 ·exact writeOn_up _ _ _ _ _
 ·split
  ·split
   ·exact Nat.le_refl _
   ·exact endWith_up _ _ _ _
  ·dsimp only
   split
   ·exact Nat.le_refl _
   ·split
    ·next h=>exact run_ok h
    ·trivial
   ·simp only[Sem.runT_eq]
    apply Up.after
    split
    ·next h=>exact run_ok h
    ·next h=>exact run_ok h
    ·trivial
    ·next h=>exact(endPrinting_up _ _ _ _).mono (run_halt h)
    ·trivial
   ·trivial
theorem doReturn_up (p:Program) (main:Bool) (fr:Frame) (callers:List Frame) (dying:Option Dying) (v:Value) (w:World):Up w.drawn (doReturn p main fr callers dying v w):=by
 unfold doReturn
 repeat' first
  | exact Nat.le_refl _
  | trivial
  | split
theorem callDeferred_up (p:Program) (fr:Frame) (callers:List Frame) (dying:Option Dying) (d:Deferred) (w:World):Up w.drawn (callDeferred p fr callers dying d w):=by
 unfold callDeferred
 simp only[Sem.runT_eq]
 refine ite_up ?_ ?_
 ·trivial
 ·apply Up.after
  split
  all_goals first
   | trivial
   | exact run_ok ‹_›
   | exact run_halt ‹_›
   | exact(endFatal_up _ _ _ _ _ _).mono (run_halt ‹_›)
   | exact(endThrow_up _ _ _).mono (run_halt ‹_›)
   | (split<;>exact run_ok ‹_›)
theorem unwind_up (p:Program) (main:Bool) (fr:Frame) (callers:List Frame) (dying:Option Dying) (w:World):Up w.drawn (unwind p main fr callers dying w):=by
 unfold unwind
 split
 ·simp only[Sem.runT_eq]
  apply Up.after
  split
  ·next h=>exact run_ok h
  ·trivial
 ·exact callDeferred_up _ _ _ _ _ _
 ·split
  ·trivial
  ·split
   ·trivial
   ·split
    ·exact Nat.le_refl _
    ·split
     ·split
      ·exact Nat.le_refl _
      ·split
       ·next h=>exact run_ok h
       ·trivial
       ·trivial
     ·split
      ·exact endPrinting_up _ _ _ _
      ·trivial
  ·split
   ·exact doReturn_up _ _ _ _ _ _ _
   ·simp only[Sem.runT_eq]
    apply Up.after
    split
    ·next h=>exact(doReturn_up _ _ _ _ _ _ _).mono (run_ok h)
    ·trivial
    ·trivial
theorem early_up (p:Program) (fr:Frame) (callers:List Frame) (dying:Option Dying) (g:Nat) (w:World):Up w.drawn (early p fr callers dying g w):=by
 unfold early
 dsimp only
 repeat' first
  | exact Nat.le_refl _
  | trivial
  | exact run_ok ‹_›
  | (dsimp only[Up];exact run_ok ‹_›)
  | split
theorem apply_up (p:Program) (fr:Frame) (callers:List Frame) (dying:Option Dying) (s:Sem Next) (w:World) (listen:Bool):Up w.drawn (stepG.apply p listen fr callers dying s w):=by
 have key:∀(r:Result Next) (es:Array Event),r=s.run p w->Up w.drawn (stepG.apply p listen fr callers dying s w):=by
  intro r es hr
  unfold stepG.apply
  dsimp only
  apply Up.after
  have e:(if listen=true then s.runT p w #[] else (s.run p w,#[])).1=s.run p w:=by
   split
   ·rw[Sem.runT_eq]
   ·rfl
  rw[e]
  split
  all_goals first
   | trivial
   | exact run_ok ‹_›
   | exact run_halt ‹_›
   | exact(endFatal_up _ _ _ _ _ _).mono (run_halt ‹_›)
   | exact(endThrow_up _ _ _).mono (run_halt ‹_›)
   | exact(early_up _ _ _ _ _ _).mono (run_halt ‹_›)
   | (repeat' first|exact run_ok ‹_› | exact(endThrow_up _ _ _).mono (run_ok ‹_›)|split)
 exact key _ #[] rfl
theorem oper_up (p:Program) (fr:Frame) (callers:List Frame) (dying:Option Dying) (w:World) (listen:Bool):Up w.drawn (stepG.oper p listen fr callers dying w):=by
 unfold stepG.oper
 repeat' first
  | trivial
  | exact apply_up _ _ _ _ _ _ _
  | split
theorem exec_up (p:Program) (main:Bool) (fr:Frame) (callers:List Frame) (dying:Option Dying) (w:World) (listen:Bool):Up w.drawn (stepG.exec p main listen fr callers dying w):=by
 unfold stepG.exec
 simp only[Sem.runT_eq]
 repeat' first
  | trivial
  | exact Nat.le_refl _
  | exact apply_up _ _ _ _ _ _ _
  | exact oper_up _ _ _ _ _ _
  | exact run_ok ‹_›
  | exact run_halt ‹_›
  | exact(doReturn_up _ _ _ _ _ _ _).mono (run_ok ‹_›)
  | exact(apply_up _ _ _ _ _ _ _).mono (run_ok ‹_›)
  | refine elim_up ?_ λ_=>?_
  | (refine Up.mono (run_ok ‹_›) (elim_up ?_ λ_=>?_))
  | apply Up.after
  | split
theorem stepG_up (p:Program) (main:Bool) (g:Goroutine) (w:World) (listen:Bool):Up w.drawn (stepG p main g w listen):=by
 obtain⟨frame,callers,status,dying,offers⟩:=g
 unfold stepG
 dsimp only
 split
 ·exact die_up _ _ _ _
 ·exact exec_up _ _ _ _ _ _ _
 ·exact unwind_up _ _ _ _ _ _
theorem waiting_le {rest:Rest} {cases:Array CommCase} {w w':World} (h:waitingAt rest cases w=some w'):w'.drawn=w.drawn:=by
 unfold waitingAt at h
 repeat' first
  | (cases h;rfl)
  | (cases h;done)
  | split at h
theorem comm_le (p:Program) (rest:Rest) (gs:Array Goroutine) (i:Nat) (g:Goroutine) (cases:Array CommCase) (blocking:Bool)
  (shape:CommShape) (w:World) (m':Machine) (h:(communicate p rest gs i g cases blocking shape w).1=.next m'):w.drawn<=m'.world.drawn:=by
 unfold communicate at h
 simp only[]at h
 repeat' first
  | (simp at h;done)
  | (simp only[Stepped.next.injEq]at h;subst h;first
    | exact Nat.le_refl _
    | exact Nat.le_of_eq (waiting_le (by assumption)).symm
    | (dsimp only;exact run_ok (by assumption))
    | (dsimp only;exact run_halt (by assumption))
    | (dsimp only;refine Nat.le_trans ?_ (run_halt (by assumption));exact run_ok (by assumption))
    | (dsimp only;refine Nat.le_trans ?_ (run_ok (by assumption));exact run_ok (by assumption)))
  | split at h
theorem look_le (p:Program) (gs:Array Goroutine) (rest:Rest) (w:World) (m':Machine)
  (h:look p gs rest w=.next m'):w.drawn<=m'.world.drawn:=by
 unfold look at h
 simp only[]at h
 repeat' first
  | (simp at h;done)
  | (simp only[Stepped.next.injEq]at h;subst h;dsimp only;exact run_ok (by assumption))
  | split at h
theorem serve_le (p:Program) (m m':Machine) (k:Nat) (h:serve p m k=.next m'):m'.world.drawn=m.world.drawn:=by
 unfold serve at h
 simp only[]at h
 repeat' first
  | (simp at h;done)
  | (simp only[Stepped.next.injEq]at h;subst h;rfl)
  | split at h
theorem drain_le (w:World) (c:Nat):(drain w c).2.drawn=w.drawn:=by unfold drain;split<;>rfl
theorem retime_le (m:Machine) (k:Nat) (t:Timer) (a b:Nat):(retime m k t a b).2.world.drawn=m.world.drawn:=by
 unfold retime
 cases t.chan with
 | none=>rfl
 | some c=>exact drain_le m.world c
theorem named_le {m:Machine} {var:Addr} {f:Nat->Timer->Value × Machine} {r:Value × Machine} {n:Nat} (hf:∀k t,(f k t).2.world.drawn=n) (h:timerOp.named m var f=.ok r):r.2.world.drawn=n:=by
 unfold timerOp.named at h
 split at h
 ·cases h;exact hf _ _
 ·cases h
theorem opened_le {m m':Machine} {var:Addr} (h:timerOp.opened m var=some m'):m'.world.drawn=m.world.drawn:=by
 unfold timerOp.opened at h
 repeat' first
  | (cases h;rfl)
  | (cases h;done)
  | split at h
theorem timer_le (m:Machine) (op:TimerOp) (v:Value) (m':Machine) (h:timerOp m op=.ok (v,m')):m'.world.drawn=m.world.drawn:=by
 unfold timerOp at h
 simp only[]at h
 split at h
 ·repeat' first
   | (cases h;rfl)
   | (cases h;done)
   | split at h
 ·exact named_le (r:=(v,m')) (λ_ _=>retime_le _ _ _ _ _) h
 ·split at h
  ·next hm=>exact(named_le (r:=(v,m')) (λ_ _=>retime_le _ _ _ _ _) h).trans (opened_le hm)
  ·cases h
 ·cases h;rfl
theorem throw_eq {fr:Frame} {msg:String} {w w':World} {g:Goroutine} {es:Array Event} (h:endThrow fr msg w=.go g w' es):w'.drawn=w.drawn:=by
 unfold endThrow dieOf at h
 cases h
 rfl
theorem runT_le (p:Program) (m m':Machine) (i:Nat) (b:Bool) (h:(Go.runT p m i b).1=.next m'):m.world.drawn<=m'.world.drawn:=by
 simp only[Go.runT]at h
 generalize m.gs.swapAt! _ _=gg at h
 have hu:=stepG_up p (i == 0) gg.1 m.world b
 generalize stepG p (i == 0) gg.1 m.world b=s at h hu
 cases s<;>simp only[]at h<;>simp only[Up]at hu
 all_goals first
  | (simp at h;done)
  | exact Nat.le_trans hu (comm_le _ _ _ _ _ _ _ _ _ _ h)
  | exact Nat.le_trans hu (look_le _ _ _ _ _ h)
  | (simp only[Stepped.next.injEq]at h;subst h;exact hu)
  | (repeat' first
    | (simp at h;done)
    | (simp only[Stepped.next.injEq]at h;subst h;exact hu)
    | (simp only[Stepped.next.injEq]at h;subst h;exact Nat.le_trans hu (Nat.le_of_eq (timer_le _ _ _ _ (by assumption)).symm))
    | (simp only[Stepped.next.injEq]at h;subst h;exact Nat.le_trans hu (Nat.le_of_eq (throw_eq (by assumption)).symm))
    | split at h)
theorem run_adv {α:Type} {p:Program} {s:Sem α} {m:Machine} {t:Nat} {w':World} {a:α} (h:s.run p (m.advanceTo t).world=.ok a w'):m.world.drawn<=w'.drawn:=run_ok (w:=(m.advanceTo t).world) h
theorem askOn_go (p:Program) (m m':Machine) (i:Nat) (h:askOn p m=.goroutine m' i):m.world.drawn<=m'.world.drawn:=by
 unfold askOn at h
 simp only[]at h
 repeat' first
  | (simp at h;done)
  | (simp only[Move.goroutine.injEq]at h;obtain⟨rfl,_⟩:=h;repeat' first
    | exact run_ok (by assumption)
    | exact run_adv (by assumption)
    | refine Nat.le_trans ?_ (run_adv (by assumption))
    | refine Nat.le_trans ?_ (run_ok (by assumption)))
  | split at h
theorem askOn_on (p:Program) (m m':Machine) (ops:Array MemOp) (h:askOn p m=.machine (.next m') ops):m.world.drawn<=m'.world.drawn:=by
 unfold askOn at h
 simp only[]at h
 repeat' first
  | (simp at h;done)
  | (simp only[Move.machine.injEq]at h;have hs:=serve_le _ _ _ _ h.1;rw[hs];exact run_ok (by assumption))
  | (simp only[Move.machine.injEq,Stepped.next.injEq]at h;obtain⟨rfl,_⟩:=h;first
    | (dsimp only[Machine.advanceTo];exact run_ok (by assumption))
    | (dsimp only[Machine.advanceTo];refine Nat.le_trans ?_ (run_ok (by assumption));exact run_ok (by assumption)))
  | split at h
theorem ask_go (p:Program) (m m':Machine) (i:Nat) (h:ask p m=.goroutine m' i):m.world.drawn<=m'.world.drawn:=by
 unfold ask at h
 repeat' first
  | (simp at h;done)
  | exact askOn_go p m m' i h
  | exact Nat.le_trans (Nat.le_trans (run_ok (by assumption)) (look_le _ _ _ _ _ (by assumption))) (askOn_go p _ m' i h)
  | exact Nat.le_trans (run_ok (by assumption)) (askOn_go p _ m' i h)
  | split at h
theorem ask_on (p:Program) (m m':Machine) (ops:Array MemOp) (h:ask p m=.machine (.next m') ops):m.world.drawn<=m'.world.drawn:=by
 unfold ask at h
 repeat' first
  | (simp at h;done)
  | exact askOn_on p m m' ops h
  | (simp only[Move.machine.injEq]at h;exact Nat.le_trans (run_ok (by assumption)) (look_le _ _ _ _ _ h.1))
  | exact Nat.le_trans (Nat.le_trans (run_ok (by assumption)) (look_le _ _ _ _ _ (by assumption))) (askOn_on p _ m' ops h)
  | exact Nat.le_trans (run_ok (by assumption)) (askOn_on p _ m' ops h)
  | split at h
theorem move_go (p:Program) (m m':Machine) (i:Nat) (h:move p m=.goroutine m' i):m.world.drawn<=m'.world.drawn:=by
 unfold move at h
 repeat' first
  | (simp at h;done)
  | (have:=ask_go p _ m' i h;exact this)
  | (simp only[Move.goroutine.injEq]at h;obtain⟨rfl,_⟩:=h;exact Nat.le_refl _)
  | split at h
theorem move_on (p:Program) (m m':Machine) (ops:Array MemOp) (h:move p m=.machine (.next m') ops):m.world.drawn<=m'.world.drawn:=by
 unfold move at h
 repeat' first
  | (simp at h;done)
  | (have:=ask_on p _ m' ops h;exact this)
  | split at h
theorem step_le (p:Program) (m m':Machine) (h:step p m=.next m'):m.world.drawn<=m'.world.drawn:=by
 unfold step at h
 simp only[stepT]at h
 split at h
 next m₁ i hm=>exact Nat.le_trans (move_go p m m₁ i hm) (runT_le p m₁ m' i _ h)
 next s ops hm =>
  simp only[]at h
  subst h
  exact move_on p m m' ops hm
theorem runN_le (p:Program):∀(n:Nat) (m m':Machine),runN p n m=.next m'->m.world.drawn<=m'.world.drawn
 | 0,m,m',h=>by
  rw[runN]at h
  cases h
  exact Nat.le_refl _
 | n+1,m,m',h=>by
  rw[runN]at h
  cases hs:step p m with
  | next m1 =>
   rw[hs]at h
   exact Nat.le_trans (step_le p m m1 hs) (runN_le p n m1 m' h)
  | ended o w=>rw[hs]at h;cases h
theorem steps_le {p:Program} {m m':Machine} (h:Steps p m m'):m.world.drawn<=m'.world.drawn:=by
 obtain⟨n,hn⟩:=h
 exact runN_le p n m m' hn
theorem calls_le {P:Program} {f:FuncId} {args:Array Value} {w:World} {R:Ending->World->Prop} (h:Calls P f args w R) (hR:∀e w',R e w'->∃v,e=.returned v) :
  Calls P f args w λe w'=>R e w'/\w.drawn<=w'.drawn:=by
 intro cs
 obtain⟨e,w',fr,h1,h2,h3,h4⟩:=h cs
 obtain⟨v,rfl⟩:=hR e w' h1
 exact⟨_,w',fr,⟨h1,steps_le h2⟩,h2,h3,h4⟩
end Go.Proofs.YtoejnneknpoanaaGreatDoor.Dr
