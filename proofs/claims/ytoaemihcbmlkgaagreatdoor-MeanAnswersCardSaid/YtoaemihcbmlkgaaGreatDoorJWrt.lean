/- The program's package query, walked: Right, behind its guard -/
import Derived.Test.YtoaemihcbmlkgaaGreatDoorJQRight2
set_option maxHeartbeats 4000000
set_option maxRecDepth 100000
namespace Go.Proofs.YtoaemihcbmlkgaaGreatDoor
open Go Go.RowKit Go.Shelf Um Fm
attribute [local go_sem] Oper.semAt_some
def and4 (a b c d:Bool):Bool:=a && b && c && d
theorem qRightAll (ask dist:Bool) (np nf nv nk:Nat) (lim off:Int) (a1 a2 a3 a4:Option Addr) (c1 c2 c3 c4:Nat) (q1 q2 q3 q4:Bool) (w:World) (h:fitQ np nf nv nk=true) (hn:numsQ lim off=true) (ha:askQ ask dist nv nk lim off=true)
  (hP:∀W,Below w.heap.size w W->Calls Tryz.prog 109 #[.func (.func 110) #[] #[],.slice a2 np c2] W λe w'=>e=.returned (.bool q1)/\Below W.heap.size W w')
  (hE:∀W,Below w.heap.size w W->Calls Tryz.prog 111 #[.func (.func 112) #[] #[],.slice a3 nf c3] W λe w'=>e=.returned (.bool q2)/\Below W.heap.size W w')
  (hV:∀W,Below w.heap.size w W->Calls Tryz.prog 113 #[.func (.func 107) #[] #[],.slice a1 nv c1] W λe w'=>e=.returned (.bool q3)/\Below W.heap.size W w')
  (hK:∀W,Below w.heap.size w W->Calls Tryz.prog 114 #[.func (.func 106) #[] #[],.slice a4 nk c4] W λe w'=>e=.returned (.bool q4)/\Below W.heap.size W w') :
  Calls Tryz.prog 61 #[.agg #[.bool ask,.bool dist,.slice a1 nv c1,.slice a2 np c2,.slice a3 nf c3,.slice a4 nk c4,.int .i64 lim,.int .i64 off]] w λe w'=>e=.returned (.bool (and4 q1 q2 q3 q4))/\Below w.heap.size w w':=by
 have hB0:Below w.heap.size w (w.alloc (.cells #[.bool ask,.bool dist,.slice a1 nv c1,.slice a2 np c2,.slice a3 nf c3,.slice a4 nk c4,.int .i64 lim,.int .i64 off] 50)):=blw
 obtain⟨h1,h2,h3,h4⟩:(np:Int)<=6/\(nf:Int)<=6/\(nv:Int)<=12/\(nk:Int)<=4:=by
  simp[fitQ]at h
  omega
 clear h
 have hN:=λW=>qNum off W
 have hM:=λW=>qNum lim W
 unfold numsQ at hn
 obtain⟨h5,h6⟩:0<=off/\off<=1099511627776:=by
  simp[numB]at hn
  omega
 have hn1:numB off=true:=by simp[numB,h5,h6]
 have hn2:lim = -1∨(lim ≠ -1/\numB lim=true):=by
  rw[hn1]at hn
  by_cases e:lim = -1
  ·exact .inl e
  ·exact .inr ⟨e,by simpa[e] using hn⟩
 rw[hn1]at hN
 clear hn hn1
 have hd:ask=false∨(ask=true/\dist=false/\(nv:Int)+nk+off<=0/\lim = -1):=by
  cases ask
  ·exact .inl rfl
  ·right
   simp[askQ]at ha
   exact⟨rfl,ha.1.1,by omega,ha.2⟩
 clear ha
 obtain⟨res,hres⟩:∃r,and4 q1 q2 q3 q4=r:=⟨_,rfl⟩
 rw[hres]
 have Hres:=Lib.hid hres
 clear hres
 have hP0:=hP _ hB0
 clear hP
 have hway:(ask=false/\lim = -1)∨(ask=false/\lim ≠ -1/\numB lim=true)∨(ask=true/\dist=false/\(nv:Int)+nk+off<=0/\lim = -1):=by
  rcases hd with rfl|⟨rfl,rfl,hs,rfl⟩
  ·rcases hn2 with rfl|⟨hl,hl2⟩
   ·exact .inl ⟨rfl,rfl⟩
   ·exact .inr (.inl ⟨rfl,hl,hl2⟩)
  ·exact .inr (.inr ⟨rfl,rfl,hs,rfl⟩)
 clear hd hn2
 rcases hway with ⟨rfl,rfl⟩|⟨rfl,hl,hl2⟩|⟨rfl,rfl,hs,rfl⟩
 ·clear hM
  go_enter Tryz.func61,Tryz.ntmps61
  go_wp2_with (go_at_call 108;first|(refine(hN _).mono ?_;rintro e w' ⟨rfl,rfl⟩))
  go_wp2_with fail
  refine hP0.mono ?_
  rintro e w2 ⟨rfl,hb2⟩
  have hb02:=below_tr hB0 hb2
  obtain⟨hc,hf⟩:=bcell hb2
  have hE0:=hE _ hb02
  clear hP0 hE
  cases q1
  ·go_wp2
   go_ret
   exact⟨by rw[←Hres.out];rfl,hb02⟩
  go_wp2_with fail
  refine hE0.mono ?_
  rintro e w3 ⟨rfl,hb3⟩
  have hb03:=below_tr hb02 hb3
  have hb23:=below_tr hb2 hb3
  clear hc hf
  obtain⟨hc,hf⟩:=bcell hb23
  have hV0:=hV _ hb03
  clear hE0 hV hb2 hb3 hb02
  cases q2
  ·go_wp2
   go_ret
   exact⟨by rw[←Hres.out];rfl,hb03⟩
  go_wp2_with fail
  refine hV0.mono ?_
  rintro e w4 ⟨rfl,hb4⟩
  have hb04:=below_tr hb03 hb4
  have hb24:=below_tr hb23 hb4
  clear hc hf
  obtain⟨hc,hf⟩:=bcell hb24
  have hK0:=hK _ hb04
  clear hV0 hK hb4 hb03 hb23
  cases q3
  ·go_wp2
   go_ret
   exact⟨by rw[←Hres.out];rfl,hb04⟩
  go_wp2_with fail
  refine hK0.mono ?_
  rintro e w5 ⟨rfl,hb5⟩
  have hb05:=below_tr hb04 hb5
  clear hK0 hc hf hb24 hb04
  go_wp2
  go_ret
  exact⟨by rw[←Hres.out];cases q4<;>rfl,hb05⟩
 ·rw[hl2]at hM
  clear hl2
  go_enter Tryz.func61,Tryz.ntmps61
  go_wp2_with (go_at_call 108;first|(refine(hN _).mono ?_;rintro e w' ⟨rfl,rfl⟩)|(refine(hM _).mono ?_;rintro e w' ⟨rfl,rfl⟩))
  go_wp2_with fail
  refine hP0.mono ?_
  rintro e w2 ⟨rfl,hb2⟩
  have hb02:=below_tr hB0 hb2
  obtain⟨hc,hf⟩:=bcell hb2
  have hE0:=hE _ hb02
  clear hP0 hE
  cases q1
  ·go_wp2
   go_ret
   exact⟨by rw[←Hres.out];rfl,hb02⟩
  go_wp2_with fail
  refine hE0.mono ?_
  rintro e w3 ⟨rfl,hb3⟩
  have hb03:=below_tr hb02 hb3
  have hb23:=below_tr hb2 hb3
  clear hc hf
  obtain⟨hc,hf⟩:=bcell hb23
  have hV0:=hV _ hb03
  clear hE0 hV hb2 hb3 hb02
  cases q2
  ·go_wp2
   go_ret
   exact⟨by rw[←Hres.out];rfl,hb03⟩
  go_wp2_with fail
  refine hV0.mono ?_
  rintro e w4 ⟨rfl,hb4⟩
  have hb04:=below_tr hb03 hb4
  have hb24:=below_tr hb23 hb4
  clear hc hf
  obtain⟨hc,hf⟩:=bcell hb24
  have hK0:=hK _ hb04
  clear hV0 hK hb4 hb03 hb23
  cases q3
  ·go_wp2
   go_ret
   exact⟨by rw[←Hres.out];rfl,hb04⟩
  go_wp2_with fail
  refine hK0.mono ?_
  rintro e w5 ⟨rfl,hb5⟩
  have hb05:=below_tr hb04 hb5
  clear hK0 hc hf hb24 hb04
  go_wp2
  go_ret
  exact⟨by rw[←Hres.out];cases q4<;>rfl,hb05⟩
 ·clear hM
  go_enter Tryz.func61,Tryz.ntmps61
  go_wp2_with (go_at_call 108;first|(refine(hN _).mono ?_;rintro e w' ⟨rfl,rfl⟩))
  go_wp2_with fail
  refine hP0.mono ?_
  rintro e w2 ⟨rfl,hb2⟩
  have hb02:=below_tr hB0 hb2
  obtain⟨hc,hf⟩:=bcell hb2
  have hE0:=hE _ hb02
  clear hP0 hE
  cases q1
  ·go_wp2
   go_ret
   exact⟨by rw[←Hres.out];rfl,hb02⟩
  go_wp2_with fail
  refine hE0.mono ?_
  rintro e w3 ⟨rfl,hb3⟩
  have hb03:=below_tr hb02 hb3
  have hb23:=below_tr hb2 hb3
  clear hc hf
  obtain⟨hc,hf⟩:=bcell hb23
  have hV0:=hV _ hb03
  clear hE0 hV hb2 hb3 hb02
  cases q2
  ·go_wp2
   go_ret
   exact⟨by rw[←Hres.out];rfl,hb03⟩
  go_wp2_with fail
  refine hV0.mono ?_
  rintro e w4 ⟨rfl,hb4⟩
  have hb04:=below_tr hb03 hb4
  have hb24:=below_tr hb23 hb4
  clear hc hf
  obtain⟨hc,hf⟩:=bcell hb24
  have hK0:=hK _ hb04
  clear hV0 hK hb4 hb03 hb23
  cases q3
  ·go_wp2
   go_ret
   exact⟨by rw[←Hres.out];rfl,hb04⟩
  go_wp2_with fail
  refine hK0.mono ?_
  rintro e w5 ⟨rfl,hb5⟩
  have hb05:=below_tr hb04 hb5
  clear hK0 hc hf hb24 hb04
  go_wp2
  go_ret
  exact⟨by rw[←Hres.out];cases q4<;>rfl,hb05⟩
def RdQ (n:Nat) (w:World) (cs:List Value) (q:Qy n):Prop:=∃(a1 a2 a3 a4:Option Addr) (c1 c2 c3 c4:Nat),
 cs=[.bool q.ask,.bool q.dist,.slice a1 q.vars.length c1,.slice a2 q.pats.length c2,.slice a3 q.fils.length c3,.slice a4 q.ord.length c4,.int .i64 q.lim,.int .i64 q.off] /\
 (q.vars.length<=c1/\q.pats.length<=c2/\q.fils.length<=c3/\q.ord.length<=c4)/\Rd w a1 (q.vars.map Value.string)/\RdPat w a2 q.pats/\RdEs n w a3 q.fils/\RdKey w a4 q.ord
def szQ {n:Nat} (q:Qy n):Prop:=q.vars.length<=281474976710656/\q.pats.length<=281474976710656/\q.fils.length<=1353245080300/\q.ord.length<=281474976710656/\(∀x∈q.vars,x.size<=281474976710656)/\(∀x∈q.pats,szP x)/\(∀x∈q.fils,szX n x)/\∀x∈q.ord,x.v.size<=281474976710656
theorem RdStr_of {w:World} {A:Option Addr} {l:List ByteArray} (h:Rd w A (l.map Value.string)):RdStr w A l:=by
 refine⟨_,h,?_⟩
 clear h
 induction l with
 | nil=>rfl
 | cons a r ih=>exact⟨[.string a],_,rfl,rfl,rfl,ih⟩
theorem qRight (n:Nat) (q:Qy n) (cs:List Value) (w:World) (hC:Ctx w) (hr:RdQ n w cs q) (hz:szQ q) :
  Calls Tryz.prog 61 #[.agg cs.toArray] w λe w'=>e=.returned (.bool (rightQ q))/\Below w.heap.size w w':=by
 obtain⟨a1,a2,a3,a4,c1,c2,c3,c4,rfl,_,h1,h2,h3,h4⟩:=hr
 obtain⟨z1,z2,z3,z4,y1,y2,y3,y4⟩:=hz
 unfold rightQ
 cases hf:fitQ q.pats.length q.fils.length q.vars.length q.ord.length
 ·exact qRightFit q.ask q.dist q.pats.length q.fils.length q.vars.length q.ord.length q.lim q.off a1 a2 a3 a4 c1 c2 c3 c4 w hf (by omega)
 cases hn:numsQ q.lim q.off
 ·exact qRightNum q.ask q.dist q.pats.length q.fils.length q.vars.length q.ord.length q.lim q.off a1 a2 a3 a4 c1 c2 c3 c4 w hf hn
 cases ha:askQ q.ask q.dist q.vars.length q.ord.length q.lim q.off
 ·exact qRightAsk q.ask q.dist q.pats.length q.fils.length q.vars.length q.ord.length q.lim q.off a1 a2 a3 a4 c1 c2 c3 c4 w hf hn ha
 obtain⟨f1,f2,f3,f4⟩:q.pats.length<=6/\q.fils.length<=6/\q.vars.length<=12/\q.ord.length<=4:=by
  simpa[fitQ] using hf
 exact qRightAll q.ask q.dist q.pats.length q.fils.length q.vars.length q.ord.length q.lim q.off a1 a2 a3 a4 c1 c2 c3 c4 (q.pats.all patB) (q.fils.all (exprB n)) (q.vars.all nameB) (q.ord.all λy=>nameB y.v) w hf hn ha
  (λW hb=>everyPats q.pats a2 c2 W (hC.step hb) (by omega) (RdL.mono h2 hb λ_ _ _ h=>h) y2)
  (λW hb=>everyExprs n q.fils a3 c3 W (hC.step hb) (by omega) (RdEs.later h3 hb) y3)
  (λW hb=>everyNames q.vars a1 c1 W (by omega) (RdL.mono (RdStr_of h1) hb λ_ _ _ h=>h) y1)
  (λW hb=>everyKeys q.ord a4 c4 W (by omega) (RdL.mono h4 hb λ_ _ _ h=>h) y4)
def SomeZ (P:Bool->Prop) (w:World) (e:Ending) (w':World):Prop:=∃b,e=.returned (.bool b)/\P b/\Below w.heap.size w w'
def cntQ {n:Nat} (q:Qy n):Nat:=q.vars.length+q.pats.length+q.ord.length+q.fils.length
def allQ {n:Nat} (q:Qy n):Nat:=cntQ q+(q.fils.flatMap (preE n)).length
theorem RdQ.later {n:Nat} {w w':World} {cs:List Value} {q:Qy n} (h:RdQ n w cs q) (hb:Below w.heap.size w w'):RdQ n w' cs q:=by
 obtain⟨a1,a2,a3,a4,c1,c2,c3,c4,h0,hc,h1,h2,h3,h4⟩:=h
 exact⟨a1,a2,a3,a4,c1,c2,c3,c4,h0,hc,h1.later hb,RdL.mono h2 hb (λ_ _ _ h=>h),RdEs.later h3 hb,RdL.mono h4 hb (λ_ _ _ h=>h)⟩
def szL {n:Nat} (q:Qy n):Prop:=q.vars.length<=281474976710656/\q.pats.length<=281474976710656/\q.fils.length<=1353245080300/\q.ord.length<=281474976710656/\∀x∈q.fils,szE n x
open Go.ChangeShapes Go.WideShapes Go.ChangeAt Go.Lib Go.Joins Go.Deep
def szTw (t:Tm):Prop:=t.x.size<=140737488351232/\t.l.size<=140737488351232/\t.y.size<=140737488351232
def szW:(n:Nat)->ExT n->Prop
 | 0,_=>True
 | n+1,(_,s,t,kids)=>s.size<=140737488351232/\szTw t/\kids.length<=1353245080300/\∀x∈kids,szW n x
def szSw (s:Sl):Prop:=s.v.size<=140737488351232/\szTw s.t
def szPw (p:Pat):Prop:=szSw p.s/\szSw p.p/\szSw p.o
def szQw {n:Nat} (q:Qy n):Prop:=q.vars.length<=281474976710656/\q.pats.length<=281474976710656/\q.fils.length<=1353245080300/\q.ord.length<=281474976710656/\(∀x∈q.vars,x.size<=140737488351232)/\(∀x∈q.pats,szPw x)/\(∀x∈q.fils,szW n x)/\∀x∈q.ord,x.v.size<=140737488351232
theorem szTw.t {t:Tm} (h:szTw t):szT t:=⟨Nat.le_trans h.1 (by decide),h.2.1,Nat.le_trans h.2.2 (by decide)⟩
theorem szSw.s {s:Sl} (h:szSw s):szS s:=⟨Nat.le_trans h.1 (by decide),h.2.t⟩
theorem szPw.p {p:Pat} (h:szPw p):szP p:=⟨h.1.s,h.2.1.s,h.2.2.s⟩
theorem szW.x:∀{n:Nat} {e:ExT n},szW n e->szX n e
 | 0,_,_=>trivial
 | _+1,(_,_,_,_),⟨h1,h2,h3,h4⟩=>⟨Nat.le_trans h1 (by decide),h2.t,h3,λy hy=>(h4 y hy).x⟩
theorem szW.e:∀{n:Nat} {e:ExT n},szW n e->szE n e
 | 0,_,_=>trivial
 | _+1,(_,_,_,_),⟨h1,h2,h3,h4⟩=>⟨h1,h2.1,h3,λy hy=>(h4 y hy).e⟩
theorem szQw.q {n:Nat} {q:Qy n} (h:szQw q):szQ q:=
 ⟨h.1,h.2.1,h.2.2.1,h.2.2.2.1,λx hx=>Nat.le_trans (h.2.2.2.2.1 x hx) (by decide),
  λx hx=>(h.2.2.2.2.2.1 x hx).p,λx hx=>(h.2.2.2.2.2.2.1 x hx).x,λx hx=>Nat.le_trans (h.2.2.2.2.2.2.2 x hx) (by decide)⟩
theorem szQw.l {n:Nat} {q:Qy n} (h:szQw q):szL q:=⟨h.1,h.2.1,h.2.2.1,h.2.2.2.1,λx hx=>(h.2.2.2.2.2.2.1 x hx).e⟩
namespace Wd
section
variable {H:Type} {enc:TypeId × Value->H}
theorem opens_term (w:World) (f:Nat):Opens enc Tryz.prog w f 26 4 (λcs (t:Tm)=>cs=tmC t) szTw:=by
 intro cs d ps h hs
 obtain⟨xs,n,_,hx,hl,hlen,hf⟩:=DataW.trod_struct Tryz.underlying26 h
 have hd:d=.agg (xs.map (·.1)):=congrArg Prod.fst hx
 subst hd
 have hc:Tryz.prog.cellsOf 26=4:=by kernel_rfl
 have c1:Tryz.prog.cellsOf 9=1:=by kernel_rfl
 have c0:Tryz.prog.cellsOf 24=1:=by kernel_rfl
 rw[hc]at hl
 match cs,hl,xs,hlen with
 | [v0,v1,v2,v3],_,[y0,y1,y2,y3],_ =>
  have g0:=hf 0 _ rfl
  have g1:=hf 1 _ rfl
  have g2:=hf 2 _ rfl
  have g3:=hf 3 _ rfl
  simp[c0,c1]at g0 g1 g2 g3
  obtain⟨k,e0,_,_⟩:=DataW.trod_int Tryz.underlying24 g0
  obtain⟨x,e1,q1,_⟩:=DataW.trod_string Tryz.underlying9 g1
  obtain⟨l,e2,q2,_⟩:=DataW.trod_string Tryz.underlying9 g2
  obtain⟨y,e3,q3,_⟩:=DataW.trod_string Tryz.underlying9 g3
  simp at e0 e1 e2 e3
  refine⟨⟨k,x,l,y⟩,by simp[tmC,e0,e1,e2,e3],rfl,?_⟩
  have hs1:Sized Tryz.prog 9 y1.1:=hs.field Tryz.underlying26 (i:=1) rfl rfl
  have hs2:Sized Tryz.prog 9 y2.1:=hs.field Tryz.underlying26 (i:=2) rfl rfl
  have hs3:Sized Tryz.prog 9 y3.1:=hs.field Tryz.underlying26 (i:=3) rfl rfl
  rw[q1]at hs1
  rw[q2]at hs2
  rw[q3]at hs3
  exact⟨sized_str hs1,sized_str hs2,sized_str hs3⟩
theorem opens_expr (w:World):∀f:Nat,Opens enc Tryz.prog w f 82 7 (RdE f w) (szW f)
 | 0=>by intro cs d ps h _;simp[DataW.trod]at h
 | f+1=>by
  intro cs d ps h hs
  have ih:=opens_expr w f
  obtain⟨xs,n,hfn,hx,hl,hlen,hf⟩:=DataW.trod_struct Tryz.underlying82 h
  obtain rfl:f=n:=by omega
  have hd:d=.agg (xs.map (·.1)):=congrArg Prod.fst hx
  subst hd
  have hc:Tryz.prog.cellsOf 82=7:=by kernel_rfl
  have c1:Tryz.prog.cellsOf 9=1:=by kernel_rfl
  have c0:Tryz.prog.cellsOf 80=1:=by kernel_rfl
  have c2:Tryz.prog.cellsOf 26=4:=by kernel_rfl
  have c3:Tryz.prog.cellsOf 47=1:=by kernel_rfl
  have hby:Tryz.prog.bytesOf 82=104:=by kernel_rfl
  rw[hc]at hl
  match cs,hl,xs,hlen with
  | [v0,v1,v2,v3,v4,v5,v6],_,[y0,y1,y2,y3],_ =>
   have g0:=hf 0 _ rfl
   have g1:=hf 1 _ rfl
   have g2:=hf 2 _ rfl
   have g3:=hf 3 _ rfl
   simp[c0,c1,c2,c3]at g0 g1 g2 g3
   obtain⟨k,e0,_,_⟩:=DataW.trod_int Tryz.underlying80 g0
   obtain⟨s,e1,q1,_⟩:=DataW.trod_string Tryz.underlying9 g1
   have hs1:Sized Tryz.prog 9 y1.1:=hs.field Tryz.underlying82 (i:=1) rfl rfl
   have hs2:Sized Tryz.prog 26 y2.1:=hs.field Tryz.underlying82 (i:=2) rfl rfl
   have hs3:Sized Tryz.prog 47 y3.1:=hs.field Tryz.underlying82 (i:=3) rfl rfl
   obtain⟨t,e2,_,zt⟩:=opens_term w f _ y2.1 y2.2 g2 hs2
   obtain⟨l,A,c,e3,hle,hrd,hz,hcap⟩:=open_list Tryz.underlying47 hc (by omega) (Nat.le_succ f) ih (d:=y3.1) (ps:=y3.2) g3 hs3
   rw[q1]at hs1
   simp[tmC]at e0 e1 e2 e3
   obtain⟨e2a,e2b,e2c,e2d⟩:=e2
   refine⟨(k,s,t,l),⟨A,c,?_,hle,hrd⟩,rfl,sized_str hs1,zt,?_,hz⟩
   ·rw[e0,e1,e2a,e2b,e2c,e2d,e3]
   ·rw[hby]at hcap
    unfold reachBytes at hcap
    omega
theorem opens_slot (w:World) (f:Nat):Opens enc Tryz.prog w f 41 5 (λcs (s:Sl)=>cs=slC s) szSw:=by
 intro cs d ps h hs
 obtain⟨xs,n,_,hx,hl,hlen,hf⟩:=DataW.trod_struct Tryz.underlying41 h
 have hd:d=.agg (xs.map (·.1)):=congrArg Prod.fst hx
 subst hd
 have hc:Tryz.prog.cellsOf 41=5:=by kernel_rfl
 have c1:Tryz.prog.cellsOf 9=1:=by kernel_rfl
 have c2:Tryz.prog.cellsOf 26=4:=by kernel_rfl
 rw[hc]at hl
 match cs,hl,xs,hlen with
 | [v0,v1,v2,v3,v4],_,[y0,y1],_ =>
  have g0:=hf 0 _ rfl
  have g1:=hf 1 _ rfl
  simp[c1,c2]at g0 g1
  have hs1:Sized Tryz.prog 26 y1.1:=hs.field Tryz.underlying41 (i:=1) rfl rfl
  have hs0:Sized Tryz.prog 9 y0.1:=hs.field Tryz.underlying41 (i:=0) rfl rfl
  obtain⟨v,e0,q0,_⟩:=DataW.trod_string Tryz.underlying9 g0
  rw[q0]at hs0
  obtain⟨t,e1,_,zt⟩:=opens_term w _ _ y1.1 y1.2 g1 hs1
  simp[tmC]at e0 e1
  obtain⟨e1a,e1b,e1c,e1d⟩:=e1
  exact⟨⟨v,t⟩,by simp[slC,e0,e1a,e1b,e1c,e1d],rfl,sized_str hs0,zt⟩
theorem opens_pat (w:World) (f:Nat):Opens enc Tryz.prog w f 43 15 (λcs (p:Pat)=>cs=cPat p) szPw:=by
 intro cs d ps h hs
 obtain⟨xs,n,_,hx,hl,hlen,hf⟩:=DataW.trod_struct Tryz.underlying43 h
 have hd:d=.agg (xs.map (·.1)):=congrArg Prod.fst hx
 subst hd
 have hc:Tryz.prog.cellsOf 43=15:=by kernel_rfl
 have c1:Tryz.prog.cellsOf 41=5:=by kernel_rfl
 rw[hc]at hl
 match cs,hl,xs,hlen with
 | [v0,v1,v2,v3,v4,v5,v6,v7,v8,v9,v10,v11,v12,v13,v14],_,[y0,y1,y2],_ =>
  have g0:=hf 0 _ rfl
  have g1:=hf 1 _ rfl
  have g2:=hf 2 _ rfl
  simp[c1]at g0 g1 g2
  obtain⟨s,e0,_,z0⟩:=opens_slot w _ _ y0.1 y0.2 g0 (hs.field Tryz.underlying43 (i:=0) rfl rfl)
  obtain⟨p,e1,_,z1⟩:=opens_slot w _ _ y1.1 y1.2 g1 (hs.field Tryz.underlying43 (i:=1) rfl rfl)
  obtain⟨o,e2,_,z2⟩:=opens_slot w _ _ y2.1 y2.2 g2 (hs.field Tryz.underlying43 (i:=2) rfl rfl)
  simp[slC]at e0 e1 e2
  refine⟨⟨s,p,o⟩,?_,rfl,z0,z1,z2⟩
  simp[cPat,e0,e1,e2]
theorem opens_key (w:World) (f:Nat):Opens enc Tryz.prog w f 177 2 (λcs (y:Ky)=>cs=[.string y.v,.bool y.d]) (λy=>y.v.size<=140737488351232):=by
 intro cs d ps h hs
 obtain⟨xs,n,_,hx,hl,hlen,hf⟩:=DataW.trod_struct Tryz.underlying177 h
 have hd:d=.agg (xs.map (·.1)):=congrArg Prod.fst hx
 subst hd
 have hc:Tryz.prog.cellsOf 177=2:=by kernel_rfl
 have c1:Tryz.prog.cellsOf 9=1:=by kernel_rfl
 have c2:Tryz.prog.cellsOf 4=1:=by kernel_rfl
 rw[hc]at hl
 match cs,hl,xs,hlen with
 | [v0,v1],_,[y0,y1],_ =>
  have g0:=hf 0 _ rfl
  have g1:=hf 1 _ rfl
  simp[c1,c2]at g0 g1
  have hs0:Sized Tryz.prog 9 y0.1:=hs.field Tryz.underlying177 (i:=0) rfl rfl
  obtain⟨s,e0,q0,_⟩:=DataW.trod_string Tryz.underlying9 g0
  rw[q0]at hs0
  obtain⟨b,e1,_⟩:=DataW.trod_bool Tryz.underlying4 g1
  simp at e0 e1
  exact⟨⟨s,b⟩,by simp[e0,e1],rfl,sized_str hs0⟩
theorem opens_query (w:World) (f:Nat):Opens enc Tryz.prog w (f+1) 50 8 (λcs (q:Qy f)=>RdQ f w cs q) (λq=>szQw q):=by
 intro cs d ps h hs
 obtain⟨xs,n,hfn,hx,hl,hlen,hf⟩:=DataW.trod_struct Tryz.underlying50 h
 obtain rfl:f=n:=by omega
 have hd:d=.agg (xs.map (·.1)):=congrArg Prod.fst hx
 subst hd
 have hc:Tryz.prog.cellsOf 50=8:=by kernel_rfl
 have c0:Tryz.prog.cellsOf 4=1:=by kernel_rfl
 have c1:Tryz.prog.cellsOf 32=1:=by kernel_rfl
 have c2:Tryz.prog.cellsOf 23=1:=by kernel_rfl
 have c3:Tryz.prog.cellsOf 47=1:=by kernel_rfl
 have c4:Tryz.prog.cellsOf 48=1:=by kernel_rfl
 have c5:Tryz.prog.cellsOf 3=1:=by kernel_rfl
 have b1:Tryz.prog.bytesOf 9=16:=by kernel_rfl
 have b2:Tryz.prog.bytesOf 43=216:=by kernel_rfl
 have b3:Tryz.prog.bytesOf 82=104:=by kernel_rfl
 have b4:Tryz.prog.bytesOf 177=24:=by kernel_rfl
 rw[hc]at hl
 match cs,hl,xs,hlen with
 | [v0,v1,v2,v3,v4,v5,v6,v7],_,[y0,y1,y2,y3,y4,y5,y6,y7],_ =>
  have g0:=hf 0 _ rfl
  have g1:=hf 1 _ rfl
  have g2:=hf 2 _ rfl
  have g3:=hf 3 _ rfl
  have g4:=hf 4 _ rfl
  have g5:=hf 5 _ rfl
  have g6:=hf 6 _ rfl
  have g7:=hf 7 _ rfl
  simp[c0,c1,c2,c3,c4,c5]at g0 g1 g2 g3 g4 g5 g6 g7
  obtain⟨ask,e0,_⟩:=DataW.trod_bool Tryz.underlying4 g0
  obtain⟨dist,e1,_⟩:=DataW.trod_bool Tryz.underlying4 g1
  obtain⟨l2,A2,k2,e2,hle2,⟨ws,hrd2,ha2⟩,hz2,hcap2⟩:=open_list (F:=f) Tryz.underlying32 (by kernel_rfl) (by omega) (Nat.le_succ f) (opens_str w f) (d:=y2.1) (ps:=y2.2) g2 (hs.field Tryz.underlying50 (i:=2) rfl rfl)
  obtain⟨l3,A3,k3,e3,hle3,hrd3,hz3,hcap3⟩:=open_list (F:=f) Tryz.underlying23 (by kernel_rfl) (by omega) (Nat.le_succ f) (opens_pat w f) (d:=y3.1) (ps:=y3.2) g3 (hs.field Tryz.underlying50 (i:=3) rfl rfl)
  obtain⟨l4,A4,k4,e4,hle4,hrd4,hz4,hcap4⟩:=open_list (F:=f) Tryz.underlying47 (by kernel_rfl) (by omega) (Nat.le_succ f) (opens_expr w f) (d:=y4.1) (ps:=y4.2) g4 (hs.field Tryz.underlying50 (i:=4) rfl rfl)
  obtain⟨l5,A5,k5,e5,hle5,hrd5,hz5,hcap5⟩:=open_list (F:=f) Tryz.underlying48 (by kernel_rfl) (by omega) (Nat.le_succ f) (opens_key w f) (d:=y5.1) (ps:=y5.2) g5 (hs.field Tryz.underlying50 (i:=5) rfl rfl)
  obtain⟨lim,e6,_,_⟩:=DataW.trod_int Tryz.underlying3 g6
  obtain⟨off,e7,_,_⟩:=DataW.trod_int Tryz.underlying3 g7
  simp at e0 e1 e2 e3 e4 e5 e6 e7
  have hx2:=ha2.flat (f:=λs=>[Value.string s])
  have hm:l2.flatMap (λs=>[Value.string s])=l2.map Value.string:=by
   clear hrd2 ha2 hz2 hle2 e2 hx2
   induction l2 with
   | nil=>rfl
   | cons a r ih=>simp[List.flatMap_cons,ih]
  rw[hm]at hx2
  subst hx2
  rw[b1]at hcap2
  rw[b2]at hcap3
  rw[b3]at hcap4
  rw[b4]at hcap5
  unfold reachBytes at hcap2 hcap3 hcap4 hcap5
  refine⟨⟨ask,dist,l2,l3,l4,l5,lim,off⟩,⟨A2,A3,A4,A5,k2,k3,k4,k5,?_,⟨hle2,hle3,hle4,hle5⟩,hrd2,hrd3,hrd4,hrd5⟩,rfl,?_,?_,?_,?_,hz2,hz3,hz4,hz5⟩
  ·rw[e0,e1,e2,e3,e4,e5,e6,e7]
  ·show l2.length<=_;omega
  ·show l3.length<=_;omega
  ·show l4.length<=_;omega
  ·show l5.length<=_;omega
theorem arg_query {r:Reach} {b0:Nat} {w:World} {v:Value} {d:DataW H} {ps:List MemPlace} (hv:Value.okWide Tryz.prog w r b0 50 v) (hd:DataW.Trod enc Tryz.prog w 0 (λ_=>true) true 50 v d ps) (hs:Sized Tryz.prog 50 d) :
  ∃(n:Nat) (q:Qy n) (cs:List Value),v=.agg cs.toArray/\RdQ n w cs q/\szQw q:=by
 obtain⟨cs,rfl,hsz⟩:=okWide_struct Tryz.underlying50 hv
 obtain⟨fuel,hf⟩:=hd
 obtain⟨q,e,_,z⟩:=opens_query w fuel cs.toList d ps (DataW.trod_le (Nat.le_succ _) hf) hs
 exact⟨fuel,q,cs.toList,rfl,e,z⟩
end
end Wd
def WAt (T:TypeId) (ext:List Value) (B b:Nat) (p:Value) (bs:List Value) (w:World):Prop:=
 B<=b/\∃v,w.heap[b]?=some (.cells (p::v::ext).toArray T (0,0))/\w.ownsRowF B 5 1 v bs.length bs/\v.ownBlock≠some b
def WIs (T:TypeId) (ext:List Value) (B b:Nat) (bs:List Value) (w:World):Prop:=WAt T ext B b (.pointer none) bs w∨WAt T ext B b (.pointer (some ⟨b,0,none⟩)) bs w
abbrev OK8 (b:Nat) (w w':World):Prop:=Lib.OthersKept 5 (some b) w w'
section
variable {T:TypeId} {ext:List Value} {B b:Nat} {p:Value} {bs:List Value} {w:World}
theorem WAt.cell0 (h:WAt T ext B b p bs w):w.cell? ⟨b,0,none⟩=some p:=by
 obtain⟨_,v,hb,_⟩:=h
 simp[World.cell?,hb]
theorem WAt.shape (h:WAt T ext B b p bs w):w.shape? b=some (T,ext.length+2):=by
 obtain⟨_,v,hb,_⟩:=h
 simp[World.shape?,hb]
theorem WAt.lt (h:WAt T ext B b p bs w):b<w.heap.size:=cell_lt h.cell0
theorem WAt.frozen (h:WAt T ext B b p bs w) (i:Nat):w.frozen? ⟨b,i,none⟩=false:=by
 obtain⟨_,v,hb,_⟩:=h
 simp[World.frozen?,hb]
theorem WAt.used (h:WAt T ext B b p bs w) (q:Value):WAt T ext B b q bs (w.setCell ⟨b,0,none⟩ q):=by
 obtain⟨hB,v,hb,hown,hne⟩:=h
 refine⟨hB,v,?_,?_,hne⟩
 ·simp[World.setCell,Array.getElem?_modify,hb]
 ·exact hown.kept (row:=some b) ⟨rfl,rfl,rfl,by simp[World.setCell],λk _ hk=>Below.heap_setCell _ _ _ _ (λe=>hk (by simp[e]))⟩ (Or.inr hne)
theorem WAt.put {v v':Value} {bs':List Value} (hB:B<=b) (hb:w.heap[b]?=some (.cells (p::v::ext).toArray T (0,0))) (hown:w.ownsRowF B 5 1 v' bs'.length bs') (hT:T≠5) :
  WAt T ext B b p bs' (w.setCell ⟨b,1,none⟩ v'):=by
 have hne:=Lib.ownBlock_neF hown hb hT
 refine⟨hB,v',?_,?_,hne⟩
 ·simp[World.setCell,Array.getElem?_modify,hb]
 ·exact hown.kept (row:=some b) ⟨rfl,rfl,rfl,by simp[World.setCell],λk _ hk=>Below.heap_setCell _ _ _ _ (λe=>hk (by simp[e]))⟩ (Or.inr hne)
theorem WAt.alloc (h:WAt T ext B b p bs w) (o:Obj):WAt T ext B b p bs (w.alloc o):=by
 have hlt:=h.lt
 obtain⟨hB,v,hb,hown,hne⟩:=h
 exact⟨hB,v,(Lib.alloc_old w o b hlt).trans hb,hown.kept (World.grownBy_alloc w o none) (by cases hv:v.ownBlock<;>simp),hne⟩
theorem WAt.step {w':World} (h:WAt T ext B b p bs w) (hb:Below w.heap.size w w'):WAt T ext B b p bs w':=by
 have hlt:=h.lt
 obtain⟨hB,v,hh,hown,hne⟩:=h
 refine⟨hB,v,by rw[hb.block b hlt];exact hh,⟨hown.1,?_⟩,hne⟩
 rcases hown.2 with hn|⟨g,cap,cur,fz,hv,hbg,hg,rest⟩
 ·exact .inl hn
 ·exact .inr ⟨g,cap,cur,fz,hv,hbg,by rw[hb.block g (Array.getElem?_eq_some_iff.1 hg).1];exact hg,rest⟩
theorem WAt.iterAt (h:WAt T ext B b p bs w) {k:Nat} {s:ByteArray} {pos:Nat} (hk:w.heap[k]?=some (.stringIter s pos)) (pos':Nat):WAt T ext B b p bs (w.iterAt k s pos'):=by
 obtain⟨hB,v,hb,hown,hne⟩:=h
 have hkb:b≠k:=by
  intro e1
  rw[e1,hk]at hb
  cases hb
 refine⟨hB,v,(Lib.iterAt_other w k b s pos' hkb).trans hb,⟨hown.1,?_⟩,hne⟩
 rcases hown.2 with hn|⟨g,cap,cur,fz,hv,hbg,hg,rest⟩
 ·exact .inl hn
 ·have hkg:g≠k:=by
   intro e1
   rw[e1,hk]at hg
   cases hg
  exact .inr ⟨g,cap,cur,fz,hv,hbg,(Lib.iterAt_other w k g s pos' hkg).trans hg,rest⟩
theorem WAt.froze {g cap:Nat} (h:WAt T ext B b p bs w) (hc:w.cell? ⟨b,1,none⟩=some (.slice (some ⟨g,0,none⟩) bs.length cap)):WAt T ext B b p bs (w.freeze ⟨g,0,none⟩ bs.length):=by
 obtain⟨hB,v,hb,hown,hne⟩:=h
 have hv:v=.slice (some ⟨g,0,none⟩) bs.length cap:=by
  rw[Lib.cell_of_heap hb]at hc
  simpa using hc
 subst hv
 have hgb:g≠b:=λe=>hne (by simp[Value.ownBlock,e])
 unfold World.freeze
 split
 ·exact⟨hB,_,hb,hown,hne⟩
 ·rename_i hn0
  refine⟨hB,_,?_,⟨hown.1,?_⟩,hne⟩
  ·simp only[Array.getElem?_modify]
   rw[if_neg hgb]
   exact hb
  ·rcases hown.2 with ⟨hv,_⟩|⟨g',cap',cur,fz,hv,hbg,hg,hfz,rest⟩
   ·cases hv
   ·injection hv with ha _ hcap
    injection ha with ha
    injection ha with hgg _ _
    subst hgg
    subst hcap
    obtain⟨lo,hi⟩:=fz
    refine .inr ⟨g,_,cur,(if lo == hi then (0,0+bs.length) else (min lo 0,max hi (0+bs.length))),rfl,hbg,?_,?_,rest⟩
    ·simp[Array.getElem?_modify,hg]
    ·simp only at hfz
     split<;>simp<;>omega
theorem WIs.lt (h:WIs T ext B b bs w):b<w.heap.size:=h.elim (λx=>x.lt) (λx=>x.lt)
theorem WIs.step {w':World} (h:WIs T ext B b bs w) (hb:Below w.heap.size w w'):WIs T ext B b bs w':=h.elim (λx=>.inl (x.step hb)) (λx=>.inr (x.step hb))
theorem WIs.alloc (h:WIs T ext B b bs w) (o:Obj):WIs T ext B b bs (w.alloc o):=h.elim (λx=>.inl (x.alloc o)) (λx=>.inr (x.alloc o))
theorem WIs.iterAt (h:WIs T ext B b bs w) {k:Nat} {s:ByteArray} {pos:Nat} (hk:w.heap[k]?=some (.stringIter s pos)) (pos':Nat):WIs T ext B b bs (w.iterAt k s pos'):=
 h.elim (λx=>.inl (x.iterAt hk pos')) (λx=>.inr (x.iterAt hk pos'))
theorem WAt.new (w:World) (T:TypeId) (ext:List Value):WAt T ext w.heap.size w.heap.size (.pointer none) [] (w.alloc (.cells (.pointer none :: .slice none 0 0::ext).toArray T)):=
 ⟨Nat.le_refl _,.slice none 0 0,heap_alloc_new w _,World.ownsRowF_nil _ _ _ _,by simp[Value.ownBlock]⟩
end
structure WTy (T:TypeId) (n:Nat):Prop where
 lies:liesAt Tryz.prog Tryz.prog.depth T (n / Tryz.prog.cellsOf T) 0 165 1=true
 ne:T≠5
theorem wCheck {T:TypeId} {ext:List Value} (X:WTy T (ext.length+2)) (B b:Nat) (bs:List Value) (w:World) (h:WIs T ext B b bs w) :
  Calls Tryz.prog 201 #[.pointer (some ⟨b,0,none⟩)] w λe w'=>e=.returned (.tuple #[])/\WAt T ext B b (.pointer (some ⟨b,0,none⟩)) bs w'/\Below B w w'/\OK8 b w w':=by
 obtain⟨j,hj,hjs⟩:=Option.map_eq_some_iff.1 (show (Tryz.prog.info? 165).map (·.size)=some 2 by kernel_rfl)
 rcases h with h|h
 ·have h0:=h.cell0
  have hsh:=h.shape
  have hfz:=h.frozen 0
  have H:=Lib.hid h
  clear h
  go_enter Tryz.func201,Tryz.ntmps201
  go_wp2
  rw[Lib.run_to_unsafe w ⟨b,0,none⟩ Tryz.underlying162 Tryz.underlying313 hj (by rw[hjs];decide) hsh (by simp)]
  simp only[Result.andThen]
  rw[Oper.upon_value]
  go_wp2
  rw[run_callFunc_extern Tryz.func239 (by kernel_rfl) (by kernel_rfl) (by kernel_rfl) (e:=Extern.AbiNoEscape.same) (by kernel_rfl)]
  rw[Lib.run_noEscape]
  simp only[Result.andThen]
  rw[Oper.upon_value]
  go_wp2
  rw[Lib.run_from_unsafe w ⟨b,0,none⟩ Tryz.underlying313 Tryz.underlying162 hj hsh X.lies]
  simp only[Result.andThen]
  rw[Oper.upon_value]
  go_wp2
  go_end0
  exact⟨rfl,H.out.used _,(Below.refl B w).setCell (p:=⟨b,0,none⟩) H.out.1 _,(Lib.OthersKept.refl _ _ w).setCell ⟨b,0,none⟩ rfl _⟩
 ·have h0:=h.cell0
  have H:=Lib.hid h
  clear h
  go_enter Tryz.func201,Tryz.ntmps201
  go_wp2
  rw[Lib.run_neq_ptr_same w _ Tryz.underlying162 hj]
  go_wp2
  go_end0
  exact⟨rfl,H.out,Below.refl B _,Lib.OthersKept.refl _ _ _⟩
theorem w8Info:∃i0,Tryz.prog.info? 5=some i0/\i0.zero=some (.int .u8 0)/\i0.size=1/\i0.bytes=1:=info_parts (by kernel_rfl)
theorem wString {T:TypeId} {ext:List Value} (X:WTy T (ext.length+2)) (B b:Nat) (bs:List Value) (s:ByteArray) (w:World) (h:WIs T ext B b bs w) (hlen:bs.length+s.size<=140737488355328) (hBw:B<=w.heap.size) :
  Calls Tryz.prog 152 #[.pointer (some ⟨b,0,none⟩),.string s] w λe w'=>e=.returned (.tuple #[.int .i64 s.size,.nilIface])/\WAt T ext B b (.pointer (some ⟨b,0,none⟩)) (bs++Lib.strCells s) w'/\Below B w w'/\OK8 b w w':=by
 obtain⟨i0,hi,hz0,hz1,hz2⟩:=w8Info
 have hcc:=wCheck X B b bs w h
 clear h
 go_enter Tryz.func152,Tryz.ntmps152
 go_wp2_with (go_at_call 201;refine hcc.mono ?_)
 rintro e w1 ⟨rfl,h1,hb1,hk1⟩
 obtain⟨hB,v,hbk,hown,hne⟩:=h1
 have c0:w1.cell? ⟨b,0,none⟩=some (.pointer (some ⟨b,0,none⟩)):=by rw[Lib.cell_of_heap hbk];rfl
 have c1:w1.cell? ⟨b,1,none⟩=some v:=by rw[Lib.cell_of_heap hbk];rfl
 go_wp2_with (at_builtin;refine Lib.wpList_append_own_stringF _ rfl _ _ 163 9 rfl B 5 i0 Tryz.underlying163 Tryz.underlying9 hi hz0 hz1 hz2 _ _ _ rfl hown s rfl ?c3 ?c4 ?c5 ?_)
 case c3=>unfold maxLen;omega
 case c4=>omega
 case c5=>have:=hb1.size;omega
 intro v' w2 hown' hgrow _
 have hlt:b<w1.heap.size:=cell_lt c0
 have hb2:w2.heap[b]?=some (.cells (.pointer (some ⟨b,0,none⟩)::v::ext).toArray T (0,0)):=by
  rw[hgrow.block b hlt (λe=>hne e.symm)]
  exact hbk
 have d1:w2.cell? ⟨b,1,none⟩=some v:=by rw[Lib.cell_of_heap hb2];rfl
 have f1:w2.frozen? ⟨b,1,none⟩=false:=Lib.frozen_of_heap hb2 1
 obtain⟨ao,n',cap,rfl⟩:∃ao n' cap,v'=.slice ao n' cap:=by
  rcases hown'.2 with ⟨hv,_⟩|⟨g,cap,cur,fz,hv,_⟩
  ·exact⟨_,_,_,hv⟩
  ·exact⟨_,_,_,hv⟩
 go_wp2
 go_ret2
 refine⟨rfl,?_,?_,(hk1.grown hgrow (Lib.ownsRowF_kind hown)).setCell ⟨b,1,none⟩ rfl _⟩
 ·exact WAt.put hB hb2 (bs':=bs++Lib.strCells s) (by simpa[Lib.strCells_length] using hown') X.ne
 ·exact(hb1.grown hgrow (by have:=hb1.size;omega) (λk hk=>(hown.lt k hk).1)).setCell (p:=⟨b,1,none⟩) hB _
theorem wRune {T:TypeId} {ext:List Value} (X:WTy T (ext.length+2)) (B b:Nat) (bs:List Value) (r:Int) (hr0 : -2147483648<=r) (hr1:r<=2147483647) (w:World) (h:WIs T ext B b bs w) (hlen:bs.length+4<=140737488355328) (hBw:B<=w.heap.size) :
  Calls Tryz.prog 154 #[.pointer (some ⟨b,0,none⟩),.int .i32 r] w λe w'=>e=.returned (.tuple #[.int .i64 (Lib.runeCells r).length,.nilIface])/\WAt T ext B b (.pointer (some ⟨b,0,none⟩)) (bs++Lib.runeCells r) w'/\Below B w w'/\OK8 b w w':=by
 have hk4:=Lib.runeCells_le r
 have hcc:=wCheck X B b bs w h
 clear h
 go_enter Tryz.func154,Tryz.ntmps154
 go_wp2_with (go_at_call 201;refine hcc.mono ?_)
 rintro e w1 ⟨rfl,h1,hb1,hk1⟩
 obtain⟨hB,v,hbk,hown,hne⟩:=h1
 obtain⟨ao,cap,rfl⟩:∃ao cap,v=.slice ao bs.length cap:=by
  rcases hown.2 with ⟨hv,h0⟩|⟨g,cap,cur,fz,hv,_⟩
  ·exact⟨none,0,by rw[hv,h0]⟩
  ·exact⟨_,_,hv⟩
 have c1:w1.cell? ⟨b,1,none⟩=some (.slice ao bs.length cap):=by rw[Lib.cell_of_heap hbk];rfl
 have hlt:b<w1.heap.size:=cell_lt c1
 have hap1:=Tryz.utf8_AppendRune_row B _ bs.length bs r hr0 hr1 w1 hown hlen (by have:=hb1.size;omega)
 go_wp2_with (go_at_call 204;refine hap1.mono ?_)
 rintro e w2 ⟨v',rfl,hown',o,hgrow⟩
 have hb2:w2.heap[b]?=some (.cells (.pointer (some ⟨b,0,none⟩) :: .slice ao bs.length cap::ext).toArray T (0,0)):=by
  rw[hgrow.block b (by simp;omega) (λe=>hne e.symm),Lib.alloc_old w1 _ b hlt]
  exact hbk
 have d1:w2.cell? ⟨b,1,none⟩=some (.slice ao bs.length cap):=by rw[Lib.cell_of_heap hb2];rfl
 have f1:w2.frozen? ⟨b,1,none⟩=false:=Lib.frozen_of_heap hb2 1
 obtain⟨g,cap',rfl⟩:∃g cap',v'=.slice (some ⟨g,0,none⟩) (bs.length+(Lib.runeCells r).length) cap':=by
  rcases hown'.2 with ⟨_,h0⟩|⟨g,cap',cur,fz,hv,_⟩
  ·omega
  ·exact⟨g,cap',hv⟩
 go_wp2
 go_ret2
 refine⟨?_,?_,?_,((hk1.alloc _).grown hgrow (Lib.ownsRowF_kind (hown.alloc _))).setCell ⟨b,1,none⟩ rfl _⟩
 ·have e:((bs.length:Int)+((Lib.runeCells r).length:Int)-(bs.length:Int))=((Lib.runeCells r).length:Int):=by omega
  simp[e]
 ·exact WAt.put hB hb2 (bs':=bs++Lib.runeCells r) (by simpa using hown') X.ne
 ·exact((hb1.alloc (by have:=hb1.size;omega) _).grown hgrow (by have:=hb1.size;simp;omega) (λk hk=>(hown.lt k hk).1)).setCell (p:=⟨b,1,none⟩) hB _
theorem wStr {T:TypeId} {ext:List Value} (B b:Nat) (l:List UInt8) (w:World) (h:WIs T ext B b (Lib.byteCells l) w) (h0:l≠[]) :
  Calls Tryz.prog 104 #[.pointer (some ⟨b,0,none⟩)] w λe w'=>e=.returned (.string ⟨l.toArray⟩)/\WIs T ext B b (Lib.byteCells l) w'/\Below B w w':=by
 obtain⟨p,hp,hAt⟩:∃p,(p=.pointer none∨p=.pointer (some ⟨b,0,none⟩))/\WAt T ext B b p (Lib.byteCells l) w:=by
  rcases h with h|h
  ·exact⟨_,.inl rfl,h⟩
  ·exact⟨_,.inr rfl,h⟩
 obtain⟨hB,v,hbk,hown,hne⟩:=hAt
 have hl0:l.length≠0:=by simpa using h0
 rw[Lib.byteCells_length]at hown
 obtain⟨g,cap,cur,fz,rfl,hbg,hg,hfz,hnc,hcm,hcs,htake⟩:∃g cap cur fz,v=.slice (some ⟨g,0,none⟩) l.length cap/\B<=g/\w.heap[g]?=some (.cells cur 5 fz)/\fz.2<=l.length*1/\l.length<=cap/\cap<=maxLen/\cur.size=cap*1/\cur.toList.take (l.length*1)=Lib.byteCells l:=by
  rcases hown.2 with ⟨_,hz⟩|⟨g,cap,cur,fz,hv,r⟩
  ·exact absurd hz hl0
  ·exact⟨g,cap,cur,fz,hv,r⟩
 have c1:w.drew.cell? ⟨b,1,none⟩=some (.slice (some ⟨g,0,none⟩) l.length cap):=by
  have:w.drew.heap[b]?=some (.cells (p :: .slice (some ⟨g,0,none⟩) l.length cap::ext).toArray T (0,0)):=hbk
  rw[Lib.cell_of_heap this];rfl
 have hSD:(Builtin.unsafeSliceData_ #[163] 243 #[.slice (some ⟨g,0,none⟩) l.length cap]).run Tryz.prog w.drew=.ok (.pointer (some ⟨g,0,none⟩)) w.drew:=
  Lib.run_unsafeSliceData_row _ _ _ _ _ _ (by omega)
 have hUS:(Builtin.unsafeString_ #[243,3] 9 #[.pointer (some ⟨g,0,none⟩),.int .i64 l.length]).run Tryz.prog w.drew=.ok (.string ⟨l.toArray⟩) (w.drew.freeze ⟨g,0,none⟩ l.length):=by
  refine Lib.run_unsafeString_row w.drew 243 3 9 5 Tryz.underlying243 (by kernel_rfl) g cur.size (by have hg':w.drew.heap[g]?=some (.cells cur 5 fz):=hg;simp[World.shape?,hg']) l h0 (by omega) (by unfold maxLen at hcm;omega) ?_
  intro j x hx
  have:=hown.cells (g:=g) rfl j (.int .u8 x.toNat) (by simp[Lib.byteCells,hx])
  exact this
 have hkeep:WIs T ext B b (Lib.byteCells l) (w.drew.freeze ⟨g,0,none⟩ l.length):=by
  have hA:WAt T ext B b p (Lib.byteCells l) w.drew:=⟨hB,_,hbk,by rw[Lib.byteCells_length];exact hown,hne⟩
  have hF:=hA.froze (g:=g) (cap:=cap) (by rw[Lib.byteCells_length];exact c1)
  rw[Lib.byteCells_length]at hF
  rcases hp with rfl|rfl
  ·exact .inl hF
  ·exact .inr hF
 have hbel:Below B w (w.drew.freeze ⟨g,0,none⟩ l.length):=Lib.below_freeze (Below.drew (Below.refl B w)) (p:=⟨g,0,none⟩) hbg _
 have HK:=Lib.hid hkeep
 clear hkeep h hown hp hbk
 have mixed:Tryz.prog.follows Departure.mixedOrders=true:=by kernel_rfl
 go_enter Tryz.func104,Tryz.ntmps104
 go_wp2
 go_region_o
 all_goals (go_wp2;go_ret;exact⟨rfl,HK.out,hbel⟩)
end Go.Proofs.YtoaemihcbmlkgaaGreatDoor
