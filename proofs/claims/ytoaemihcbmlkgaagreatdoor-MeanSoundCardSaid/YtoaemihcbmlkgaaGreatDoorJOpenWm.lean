/- The program's package query, walked: every at conditions. Th -/
import Derived.Test.YtoaemihcbmlkgaaGreatDoorJQEvery
set_option maxHeartbeats 4000000
set_option maxRecDepth 100000
namespace Go.Proofs.YtoaemihcbmlkgaaGreatDoor
open Go Go.RowKit Go.Shelf Um Fm
attribute [local go_sem] Oper.semAt_some
theorem every1Expr (G:FuncId) (eg:∀args W,(callFunc G args).run Tryz.prog W=.ok (.enter G args) W) (n:Nat) (x:ExT n) (cs:List Value) (b:Bool) (k:Nat) (w:World) (hc:w.cell? ⟨k,0,none⟩=some (.func (.func G) #[] #[])) (hr:RdE n w cs x)
  (h:∀W,Below w.heap.size w W->Calls Tryz.prog G #[.agg cs.toArray] W λe w'=>e=.returned (.bool b)/\Below W.heap.size W w') :
  Calls Tryz.prog 165 #[.agg cs.toArray,.pointer (some ⟨k,0,none⟩)] w λe w'=>e=.returned (.bool (!b))/\Below w.heap.size w w':=by
 obtain⟨k',s,t,A,m,c,rfl,_⟩:=rd_spell hr
 have hB0:Below w.heap.size w (w.alloc (.cells #[.int .i64 k',.string s,.int .i64 t.k,.string t.x,.string t.l,.string t.y,.slice A m c] 82)):=blw
 have hk:=cell_lt hc
 have hk2:k<w.heap.size:=hk
 have hq:=h _ hB0
 clear h hr
 go_enter Tryz.func165,Tryz.ntmps165
 go_wp2_with (go_at_fn G;refine hq.mono ?_;rintro e w2 ⟨rfl,hb2⟩)
 go_ret
 exact⟨rfl,below_tr hB0 hb2⟩
theorem everyExpr (G:FuncId) (eg:∀args W,(callFunc G args).run Tryz.prog W=.ok (.enter G args) W) (n:Nat) (p:ExT n->Bool) (l:List (ExT n)) (A:Option Addr) (c:Nat) (w:World) (hl:l.length<=1000) (hr:RdEs n w A l)
  (hS:∀x∈l,FnSays G #[] n p w x) :
  Calls Tryz.prog 111 #[.func (.func G) #[] #[],.slice A l.length c] w λe w'=>e=.returned (.bool (l.all p))/\Below w.heap.size w w':=by
 obtain⟨W1,hW1⟩:∃W,w.alloc (.cells #[.func (.func G) #[] #[]] 92)=W:=⟨_,rfl⟩
 have hB0:Below w.heap.size w W1:=by rw[←hW1];exact blw
 have hcell:W1.cell? ⟨w.heap.size,0,none⟩=some (.func (.func G) #[] #[]):=by rw[←hW1,World.cell?,heap_alloc_new];rfl
 have hh:=hasExpr 165 #[.pointer (some ⟨w.heap.size,0,none⟩)] (enters_of Tryz.func165 (by kernel_rfl) rfl) n (λx => !p x) l A c W1 (by omega) (RdEs.later hr hB0) (λx hx cs W hW hrx=>every1Expr G eg n x cs (p x) w.heap.size W (cell_on hcell hW) hrx λW' hW'=>hS x hx cs W' (below_tr (below_tr hB0 hW) hW') (hrx.cm (CM.of_below hW')))
 rw[←any_not]
 subst hW1
 clear hr hS hcell
 go_enter Tryz.func111,Tryz.ntmps111
 go_wp2_with (go_at_call 36;refine hh.mono ?_;rintro e w2 ⟨rfl,hb2⟩)
 go_ret
 exact⟨rfl,below_tr hB0 hb2⟩
theorem everyExprs (n:Nat) (l:List (ExT n)) (A:Option Addr) (c:Nat) (w:World) (hC:Ctx w) (hl:l.length<=1000) (hr:RdEs n w A l) (hz:∀x∈l,szX n x) :
  Calls Tryz.prog 111 #[.func (.func 112) #[] #[],.slice A l.length c] w λe w'=>e=.returned (.bool (l.all (exprB n)))/\Below w.heap.size w w':=
 everyExpr 112 (enters_of Tryz.func112 (by kernel_rfl) rfl) n (exprB n) l A c w hl hr λx hx cs W hW hrx=>qExpr n x cs W (hC.step hW) hrx (hz x hx)
theorem everyPats (l:List Pat) (A:Option Addr) (c:Nat) (w:World) (hC:Ctx w) (hl:l.length<=1000) (hr:RdPat w A l) (hz:∀x∈l,szP x) :
  Calls Tryz.prog 109 #[.func (.func 110) #[] #[],.slice A l.length c] w λe w'=>e=.returned (.bool (l.all patB))/\Below w.heap.size w w':=
 everyPat 110 (enters_of Tryz.func110 (by kernel_rfl) rfl) patB l A c w hl hr λx hx W hW=>qPattern x W (hC.step hW) (hz x hx)
theorem everyNames (l:List ByteArray) (A:Option Addr) (c:Nat) (w:World) (hl:l.length<=1000) (hr:RdStr w A l) (hz:∀x∈l,x.size<=281474976710656) :
  Calls Tryz.prog 113 #[.func (.func 107) #[] #[],.slice A l.length c] w λe w'=>e=.returned (.bool (l.all nameB))/\Below w.heap.size w w':=
 everyStr 107 (enters_of Tryz.func107 (by kernel_rfl) rfl) nameB l A c w hl hr λx hx W _=>qName x W (hz x hx)
theorem qKey (y:Ky) (w:World) (hz:y.v.size<=281474976710656):Calls Tryz.prog 106 #[.agg #[.string y.v,.bool y.d]] w λe w'=>e=.returned (.bool (nameB y.v))/\Below w.heap.size w w':=by
 have hB0:Below w.heap.size w (w.alloc (.cells #[.string y.v,.bool y.d] 177)):=blw
 have hN:=qName y.v (w.alloc (.cells #[.string y.v,.bool y.d] 177)) hz
 clear hz
 generalize nameB y.v=q at *
 go_enter Tryz.func106,Tryz.ntmps106
 go_wp2_with (go_at_call 107;refine hN.mono ?_;rintro e w2 ⟨rfl,hb2⟩)
 go_ret
 exact⟨rfl,below_tr hB0 hb2⟩
theorem everyKeys (l:List Ky) (A:Option Addr) (c:Nat) (w:World) (hl:l.length<=1000) (hr:RdKey w A l) (hz:∀x∈l,x.v.size<=281474976710656) :
  Calls Tryz.prog 114 #[.func (.func 106) #[] #[],.slice A l.length c] w λe w'=>e=.returned (.bool (l.all λy=>nameB y.v))/\Below w.heap.size w w':=
 everyKey 106 (enters_of Tryz.func106 (by kernel_rfl) rfl) (λy=>nameB y.v) l A c w hl hr λx hx W _=>qKey x W (hz x hx)
def numB (n:Int):Bool:=decide (0<=n/\n<=1099511627776)
theorem qNum (n:Int) (w:World):Calls Tryz.prog 108 #[.int .i64 n] w λe w'=>e=.returned (.bool (numB n))/\w=w':=by
 unfold numB
 by_cases h1:0<=n
 ·by_cases h2:n<=1099511627776
  ·go_enter Tryz.func108,Tryz.ntmps108
   go_wp2
   go_ret
   exact⟨by simp;omega,rfl⟩
  ·go_enter Tryz.func108,Tryz.ntmps108
   go_wp2
   go_ret
   exact⟨by simp;omega,rfl⟩
 ·go_enter Tryz.func108,Tryz.ntmps108
  go_wp2
  go_ret
  exact⟨by simp;omega,rfl⟩
attribute [local go_sem] Oper.semAt_some
structure Qy (n:Nat) where
 ask:Bool
 dist:Bool
 vars:List ByteArray
 pats:List Pat
 fils:List (ExT n)
 ord:List Ky
 lim:Int
 off:Int
def fitQ (np nf nv nk:Nat):Bool:=decide (np<=6/\nf<=6/\nv<=12/\nk<=4)
def numsQ (lim off:Int):Bool:=numB off && (decide (lim = -1) || numB lim)
def askQ (ask dist:Bool) (nv nk:Nat) (lim off:Int):Bool:=!(ask && (dist || decide ((nv:Int)+nk+off > 0) || decide (lim ≠ -1)))
def rightQ {n:Nat} (q:Qy n):Bool:=
 fitQ q.pats.length q.fils.length q.vars.length q.ord.length && numsQ q.lim q.off && askQ q.ask q.dist q.vars.length q.ord.length q.lim q.off &&
  (q.pats.all patB && q.fils.all (exprB n) && q.vars.all nameB && q.ord.all λy=>nameB y.v)
theorem qRightFit (ask dist:Bool) (np nf nv nk:Nat) (lim off:Int) (a1 a2 a3 a4:Option Addr) (c1 c2 c3 c4:Nat) (w:World) (h:fitQ np nf nv nk=false) (hb:np<=4611686018427387904/\nf<=4611686018427387904/\nv<=4611686018427387904/\nk<=4611686018427387904) :
  Calls Tryz.prog 61 #[.agg #[.bool ask,.bool dist,.slice a1 nv c1,.slice a2 np c2,.slice a3 nf c3,.slice a4 nk c4,.int .i64 lim,.int .i64 off]] w λe w'=>e=.returned (.bool false)/\Below w.heap.size w w':=by
 have hB0:Below w.heap.size w (w.alloc (.cells #[.bool ask,.bool dist,.slice a1 nv c1,.slice a2 np c2,.slice a3 nf c3,.slice a4 nk c4,.int .i64 lim,.int .i64 off] 50)):=blw
 obtain⟨hb1,hb2,hb3,hb4⟩:=hb
 by_cases h1:(np:Int)<=6
 ·by_cases h2:(nf:Int)<=6
  ·by_cases h3:(nv:Int)<=12
   ·have h4:4<(nk:Int):=by
     simp[fitQ]at h
     have:=h (by omega) (by omega) (by omega)
     omega
    clear h
    go_enter Tryz.func61,Tryz.ntmps61
    go_wp2
    go_ret
    exact⟨rfl,hB0⟩
   ·clear h
    go_enter Tryz.func61,Tryz.ntmps61
    go_wp2
    go_ret
    exact⟨rfl,hB0⟩
  ·clear h
   go_enter Tryz.func61,Tryz.ntmps61
   go_wp2
   go_ret
   exact⟨rfl,hB0⟩
 ·clear h
  go_enter Tryz.func61,Tryz.ntmps61
  go_wp2
  go_ret
  exact⟨rfl,hB0⟩
theorem qRightNum (ask dist:Bool) (np nf nv nk:Nat) (lim off:Int) (a1 a2 a3 a4:Option Addr) (c1 c2 c3 c4:Nat) (w:World) (h:fitQ np nf nv nk=true) (hn:numsQ lim off=false) :
  Calls Tryz.prog 61 #[.agg #[.bool ask,.bool dist,.slice a1 nv c1,.slice a2 np c2,.slice a3 nf c3,.slice a4 nk c4,.int .i64 lim,.int .i64 off]] w λe w'=>e=.returned (.bool false)/\Below w.heap.size w w':=by
 have hB0:Below w.heap.size w (w.alloc (.cells #[.bool ask,.bool dist,.slice a1 nv c1,.slice a2 np c2,.slice a3 nf c3,.slice a4 nk c4,.int .i64 lim,.int .i64 off] 50)):=blw
 obtain⟨h1,h2,h3,h4⟩:(np:Int)<=6/\(nf:Int)<=6/\(nv:Int)<=12/\(nk:Int)<=4:=by
  simp[fitQ]at h
  omega
 clear h
 have hN:=λW=>qNum off W
 have hM:=λW=>qNum lim W
 unfold numsQ at hn
 generalize numB off=q1 at *
 generalize numB lim=q2 at *
 cases q1
 ·clear hn hM
  go_enter Tryz.func61,Tryz.ntmps61
  go_wp2_with (go_at_call 108;first|(refine(hN _).mono ?_;rintro e w' ⟨rfl,rfl⟩)|(refine(hM _).mono ?_;rintro e w' ⟨rfl,rfl⟩))
  go_ret
  exact⟨rfl,hB0⟩
 ·have hq2:lim ≠ -1/\q2=false:=by
   cases q2<;>simp_all
  obtain⟨hl,rfl⟩:=hq2
  clear hn
  go_enter Tryz.func61,Tryz.ntmps61
  go_wp2_with (go_at_call 108;first|(refine(hN _).mono ?_;rintro e w' ⟨rfl,rfl⟩)|(refine(hM _).mono ?_;rintro e w' ⟨rfl,rfl⟩))
  go_ret
  exact⟨rfl,hB0⟩
attribute [local go_sem] Oper.semAt_some
theorem qRightAsk (ask dist:Bool) (np nf nv nk:Nat) (lim off:Int) (a1 a2 a3 a4:Option Addr) (c1 c2 c3 c4:Nat) (w:World) (h:fitQ np nf nv nk=true) (hn:numsQ lim off=true) (ha:askQ ask dist nv nk lim off=false) :
  Calls Tryz.prog 61 #[.agg #[.bool ask,.bool dist,.slice a1 nv c1,.slice a2 np c2,.slice a3 nf c3,.slice a4 nk c4,.int .i64 lim,.int .i64 off]] w λe w'=>e=.returned (.bool false)/\Below w.heap.size w w':=by
 have hB0:Below w.heap.size w (w.alloc (.cells #[.bool ask,.bool dist,.slice a1 nv c1,.slice a2 np c2,.slice a3 nf c3,.slice a4 nk c4,.int .i64 lim,.int .i64 off] 50)):=blw
 obtain⟨h1,h2,h3,h4⟩:(np:Int)<=6/\(nf:Int)<=6/\(nv:Int)<=12/\(nk:Int)<=4:=by
  simp[fitQ]at h
  omega
 clear h
 have hN:=λW=>qNum off W
 have hM:=λW=>qNum lim W
 unfold numsQ at hn
 obtain⟨h5,h6⟩:0<=off/\off<=1099511627776:=by
  simp[numB]at hn
  omega
 have hn1:numB off=true:=by simp[numB,h5,h6]
 have hn2:lim = -1∨(lim ≠ -1/\numB lim=true):=by
  rw[hn1]at hn
  by_cases e:lim = -1
  ·exact .inl e
  ·exact .inr ⟨e,by simpa[e] using hn⟩
 rw[hn1]at hN
 clear hn hn1
 obtain⟨rfl,hd⟩:ask=true/\(dist=true∨0<(nv:Int)+nk+off∨lim ≠ -1):=by
  cases ask<;>simp[askQ]at ha
  refine⟨rfl,?_⟩
  by_cases e:dist=true
  ·exact .inl e
  ·by_cases e2:lim = -1
   ·right;left;simp_all
   ·exact .inr (.inr e2)
 clear ha
 rcases hn2 with rfl|⟨hl,hl2⟩
 ·clear hM
  cases dist
  ·have hs:0<(nv:Int)+nk+off:=by simpa using hd
   clear hd
   go_enter Tryz.func61,Tryz.ntmps61
   go_wp2_with (go_at_call 108;first|(refine(hN _).mono ?_;rintro e w' ⟨rfl,rfl⟩)|(refine(hM _).mono ?_;rintro e w' ⟨rfl,rfl⟩))
   go_ret
   exact⟨rfl,hB0⟩
  ·clear hd
   go_enter Tryz.func61,Tryz.ntmps61
   go_wp2_with (go_at_call 108;first|(refine(hN _).mono ?_;rintro e w' ⟨rfl,rfl⟩)|(refine(hM _).mono ?_;rintro e w' ⟨rfl,rfl⟩))
   go_ret
   exact⟨rfl,hB0⟩
 ·rw[hl2]at hM
  clear hl2 hd
  cases dist
  ·by_cases hs:0<(nv:Int)+nk+off
   ·go_enter Tryz.func61,Tryz.ntmps61
    go_wp2_with (go_at_call 108;first|(refine(hN _).mono ?_;rintro e w' ⟨rfl,rfl⟩)|(refine(hM _).mono ?_;rintro e w' ⟨rfl,rfl⟩))
    go_ret
    exact⟨rfl,hB0⟩
   ·go_enter Tryz.func61,Tryz.ntmps61
    go_wp2_with (go_at_call 108;first|(refine(hN _).mono ?_;rintro e w' ⟨rfl,rfl⟩)|(refine(hM _).mono ?_;rintro e w' ⟨rfl,rfl⟩))
    ·go_ret
     exact⟨rfl,hB0⟩
    ·have hx:(nv:Int)+nk+off<=0/\(lim != -1)=false:=by assumption
     exact absurd hx.2 (by simp[hl])
  ·go_enter Tryz.func61,Tryz.ntmps61
   go_wp2_with (go_at_call 108;first|(refine(hN _).mono ?_;rintro e w' ⟨rfl,rfl⟩)|(refine(hM _).mono ?_;rintro e w' ⟨rfl,rfl⟩))
   go_ret
   exact⟨rfl,hB0⟩
attribute [local go_sem] Oper.semAt_some
def and4 (a b c d:Bool):Bool:=a && b && c && d
theorem qRightAll (ask dist:Bool) (np nf nv nk:Nat) (lim off:Int) (a1 a2 a3 a4:Option Addr) (c1 c2 c3 c4:Nat) (q1 q2 q3 q4:Bool) (w:World) (h:fitQ np nf nv nk=true) (hn:numsQ lim off=true) (ha:askQ ask dist nv nk lim off=true)
  (hP:∀W,Below w.heap.size w W->Calls Tryz.prog 109 #[.func (.func 110) #[] #[],.slice a2 np c2] W λe w'=>e=.returned (.bool q1)/\Below W.heap.size W w')
  (hE:∀W,Below w.heap.size w W->Calls Tryz.prog 111 #[.func (.func 112) #[] #[],.slice a3 nf c3] W λe w'=>e=.returned (.bool q2)/\Below W.heap.size W w')
  (hV:∀W,Below w.heap.size w W->Calls Tryz.prog 113 #[.func (.func 107) #[] #[],.slice a1 nv c1] W λe w'=>e=.returned (.bool q3)/\Below W.heap.size W w')
  (hK:∀W,Below w.heap.size w W->Calls Tryz.prog 114 #[.func (.func 106) #[] #[],.slice a4 nk c4] W λe w'=>e=.returned (.bool q4)/\Below W.heap.size W w') :
  Calls Tryz.prog 61 #[.agg #[.bool ask,.bool dist,.slice a1 nv c1,.slice a2 np c2,.slice a3 nf c3,.slice a4 nk c4,.int .i64 lim,.int .i64 off]] w λe w'=>e=.returned (.bool (and4 q1 q2 q3 q4))/\Below w.heap.size w w':=by
 have hB0:Below w.heap.size w (w.alloc (.cells #[.bool ask,.bool dist,.slice a1 nv c1,.slice a2 np c2,.slice a3 nf c3,.slice a4 nk c4,.int .i64 lim,.int .i64 off] 50)):=blw
 obtain⟨h1,h2,h3,h4⟩:(np:Int)<=6/\(nf:Int)<=6/\(nv:Int)<=12/\(nk:Int)<=4:=by
  simp[fitQ]at h
  omega
 clear h
 have hN:=λW=>qNum off W
 have hM:=λW=>qNum lim W
 unfold numsQ at hn
 obtain⟨h5,h6⟩:0<=off/\off<=1099511627776:=by
  simp[numB]at hn
  omega
 have hn1:numB off=true:=by simp[numB,h5,h6]
 have hn2:lim = -1∨(lim ≠ -1/\numB lim=true):=by
  rw[hn1]at hn
  by_cases e:lim = -1
  ·exact .inl e
  ·exact .inr ⟨e,by simpa[e] using hn⟩
 rw[hn1]at hN
 clear hn hn1
 have hd:ask=false∨(ask=true/\dist=false/\(nv:Int)+nk+off<=0/\lim = -1):=by
  cases ask
  ·exact .inl rfl
  ·right
   simp[askQ]at ha
   exact⟨rfl,ha.1.1,by omega,ha.2⟩
 clear ha
 obtain⟨res,hres⟩:∃r,and4 q1 q2 q3 q4=r:=⟨_,rfl⟩
 rw[hres]
 have Hres:=Lib.hid hres
 clear hres
 have hP0:=hP _ hB0
 clear hP
 have hway:(ask=false/\lim = -1)∨(ask=false/\lim ≠ -1/\numB lim=true)∨(ask=true/\dist=false/\(nv:Int)+nk+off<=0/\lim = -1):=by
  rcases hd with rfl|⟨rfl,rfl,hs,rfl⟩
  ·rcases hn2 with rfl|⟨hl,hl2⟩
   ·exact .inl ⟨rfl,rfl⟩
   ·exact .inr (.inl ⟨rfl,hl,hl2⟩)
  ·exact .inr (.inr ⟨rfl,rfl,hs,rfl⟩)
 clear hd hn2
 rcases hway with ⟨rfl,rfl⟩|⟨rfl,hl,hl2⟩|⟨rfl,rfl,hs,rfl⟩
 ·clear hM
  go_enter Tryz.func61,Tryz.ntmps61
  go_wp2_with (go_at_call 108;first|(refine(hN _).mono ?_;rintro e w' ⟨rfl,rfl⟩))
  go_wp2_with fail
  refine hP0.mono ?_
  rintro e w2 ⟨rfl,hb2⟩
  have hb02:=below_tr hB0 hb2
  obtain⟨hc,hf⟩:=bcell hb2
  have hE0:=hE _ hb02
  clear hP0 hE
  cases q1
  ·go_wp2
   go_ret
   exact⟨by rw[←Hres.out];rfl,hb02⟩
  go_wp2_with fail
  refine hE0.mono ?_
  rintro e w3 ⟨rfl,hb3⟩
  have hb03:=below_tr hb02 hb3
  have hb23:=below_tr hb2 hb3
  clear hc hf
  obtain⟨hc,hf⟩:=bcell hb23
  have hV0:=hV _ hb03
  clear hE0 hV hb2 hb3 hb02
  cases q2
  ·go_wp2
   go_ret
   exact⟨by rw[←Hres.out];rfl,hb03⟩
  go_wp2_with fail
  refine hV0.mono ?_
  rintro e w4 ⟨rfl,hb4⟩
  have hb04:=below_tr hb03 hb4
  have hb24:=below_tr hb23 hb4
  clear hc hf
  obtain⟨hc,hf⟩:=bcell hb24
  have hK0:=hK _ hb04
  clear hV0 hK hb4 hb03 hb23
  cases q3
  ·go_wp2
   go_ret
   exact⟨by rw[←Hres.out];rfl,hb04⟩
  go_wp2_with fail
  refine hK0.mono ?_
  rintro e w5 ⟨rfl,hb5⟩
  have hb05:=below_tr hb04 hb5
  clear hK0 hc hf hb24 hb04
  go_wp2
  go_ret
  exact⟨by rw[←Hres.out];cases q4<;>rfl,hb05⟩
 ·rw[hl2]at hM
  clear hl2
  go_enter Tryz.func61,Tryz.ntmps61
  go_wp2_with (go_at_call 108;first|(refine(hN _).mono ?_;rintro e w' ⟨rfl,rfl⟩)|(refine(hM _).mono ?_;rintro e w' ⟨rfl,rfl⟩))
  go_wp2_with fail
  refine hP0.mono ?_
  rintro e w2 ⟨rfl,hb2⟩
  have hb02:=below_tr hB0 hb2
  obtain⟨hc,hf⟩:=bcell hb2
  have hE0:=hE _ hb02
  clear hP0 hE
  cases q1
  ·go_wp2
   go_ret
   exact⟨by rw[←Hres.out];rfl,hb02⟩
  go_wp2_with fail
  refine hE0.mono ?_
  rintro e w3 ⟨rfl,hb3⟩
  have hb03:=below_tr hb02 hb3
  have hb23:=below_tr hb2 hb3
  clear hc hf
  obtain⟨hc,hf⟩:=bcell hb23
  have hV0:=hV _ hb03
  clear hE0 hV hb2 hb3 hb02
  cases q2
  ·go_wp2
   go_ret
   exact⟨by rw[←Hres.out];rfl,hb03⟩
  go_wp2_with fail
  refine hV0.mono ?_
  rintro e w4 ⟨rfl,hb4⟩
  have hb04:=below_tr hb03 hb4
  have hb24:=below_tr hb23 hb4
  clear hc hf
  obtain⟨hc,hf⟩:=bcell hb24
  have hK0:=hK _ hb04
  clear hV0 hK hb4 hb03 hb23
  cases q3
  ·go_wp2
   go_ret
   exact⟨by rw[←Hres.out];rfl,hb04⟩
  go_wp2_with fail
  refine hK0.mono ?_
  rintro e w5 ⟨rfl,hb5⟩
  have hb05:=below_tr hb04 hb5
  clear hK0 hc hf hb24 hb04
  go_wp2
  go_ret
  exact⟨by rw[←Hres.out];cases q4<;>rfl,hb05⟩
 ·clear hM
  go_enter Tryz.func61,Tryz.ntmps61
  go_wp2_with (go_at_call 108;first|(refine(hN _).mono ?_;rintro e w' ⟨rfl,rfl⟩))
  go_wp2_with fail
  refine hP0.mono ?_
  rintro e w2 ⟨rfl,hb2⟩
  have hb02:=below_tr hB0 hb2
  obtain⟨hc,hf⟩:=bcell hb2
  have hE0:=hE _ hb02
  clear hP0 hE
  cases q1
  ·go_wp2
   go_ret
   exact⟨by rw[←Hres.out];rfl,hb02⟩
  go_wp2_with fail
  refine hE0.mono ?_
  rintro e w3 ⟨rfl,hb3⟩
  have hb03:=below_tr hb02 hb3
  have hb23:=below_tr hb2 hb3
  clear hc hf
  obtain⟨hc,hf⟩:=bcell hb23
  have hV0:=hV _ hb03
  clear hE0 hV hb2 hb3 hb02
  cases q2
  ·go_wp2
   go_ret
   exact⟨by rw[←Hres.out];rfl,hb03⟩
  go_wp2_with fail
  refine hV0.mono ?_
  rintro e w4 ⟨rfl,hb4⟩
  have hb04:=below_tr hb03 hb4
  have hb24:=below_tr hb23 hb4
  clear hc hf
  obtain⟨hc,hf⟩:=bcell hb24
  have hK0:=hK _ hb04
  clear hV0 hK hb4 hb03 hb23
  cases q3
  ·go_wp2
   go_ret
   exact⟨by rw[←Hres.out];rfl,hb04⟩
  go_wp2_with fail
  refine hK0.mono ?_
  rintro e w5 ⟨rfl,hb5⟩
  have hb05:=below_tr hb04 hb5
  clear hK0 hc hf hb24 hb04
  go_wp2
  go_ret
  exact⟨by rw[←Hres.out];cases q4<;>rfl,hb05⟩
def RdQ (n:Nat) (w:World) (cs:List Value) (q:Qy n):Prop:=∃(a1 a2 a3 a4:Option Addr) (c1 c2 c3 c4:Nat),
 cs=[.bool q.ask,.bool q.dist,.slice a1 q.vars.length c1,.slice a2 q.pats.length c2,.slice a3 q.fils.length c3,.slice a4 q.ord.length c4,.int .i64 q.lim,.int .i64 q.off] /\
 (q.vars.length<=c1/\q.pats.length<=c2/\q.fils.length<=c3/\q.ord.length<=c4)/\Rd w a1 (q.vars.map Value.string)/\RdPat w a2 q.pats/\RdEs n w a3 q.fils/\RdKey w a4 q.ord
def szQ {n:Nat} (q:Qy n):Prop:=q.vars.length<=281474976710656/\q.pats.length<=281474976710656/\q.fils.length<=1353245080300/\q.ord.length<=281474976710656/\(∀x∈q.vars,x.size<=281474976710656)/\(∀x∈q.pats,szP x)/\(∀x∈q.fils,szX n x)/\∀x∈q.ord,x.v.size<=281474976710656
theorem RdStr_of {w:World} {A:Option Addr} {l:List ByteArray} (h:Rd w A (l.map Value.string)):RdStr w A l:=by
 refine⟨_,h,?_⟩
 clear h
 induction l with
 | nil=>rfl
 | cons a r ih=>exact⟨[.string a],_,rfl,rfl,rfl,ih⟩
theorem qRight (n:Nat) (q:Qy n) (cs:List Value) (w:World) (hC:Ctx w) (hr:RdQ n w cs q) (hz:szQ q) :
  Calls Tryz.prog 61 #[.agg cs.toArray] w λe w'=>e=.returned (.bool (rightQ q))/\Below w.heap.size w w':=by
 obtain⟨a1,a2,a3,a4,c1,c2,c3,c4,rfl,_,h1,h2,h3,h4⟩:=hr
 obtain⟨z1,z2,z3,z4,y1,y2,y3,y4⟩:=hz
 unfold rightQ
 cases hf:fitQ q.pats.length q.fils.length q.vars.length q.ord.length
 ·exact qRightFit q.ask q.dist q.pats.length q.fils.length q.vars.length q.ord.length q.lim q.off a1 a2 a3 a4 c1 c2 c3 c4 w hf (by omega)
 cases hn:numsQ q.lim q.off
 ·exact qRightNum q.ask q.dist q.pats.length q.fils.length q.vars.length q.ord.length q.lim q.off a1 a2 a3 a4 c1 c2 c3 c4 w hf hn
 cases ha:askQ q.ask q.dist q.vars.length q.ord.length q.lim q.off
 ·exact qRightAsk q.ask q.dist q.pats.length q.fils.length q.vars.length q.ord.length q.lim q.off a1 a2 a3 a4 c1 c2 c3 c4 w hf hn ha
 obtain⟨f1,f2,f3,f4⟩:q.pats.length<=6/\q.fils.length<=6/\q.vars.length<=12/\q.ord.length<=4:=by
  simpa[fitQ] using hf
 exact qRightAll q.ask q.dist q.pats.length q.fils.length q.vars.length q.ord.length q.lim q.off a1 a2 a3 a4 c1 c2 c3 c4 (q.pats.all patB) (q.fils.all (exprB n)) (q.vars.all nameB) (q.ord.all λy=>nameB y.v) w hf hn ha
  (λW hb=>everyPats q.pats a2 c2 W (hC.step hb) (by omega) (RdL.mono h2 hb λ_ _ _ h=>h) y2)
  (λW hb=>everyExprs n q.fils a3 c3 W (hC.step hb) (by omega) (RdEs.later h3 hb) y3)
  (λW hb=>everyNames q.vars a1 c1 W (by omega) (RdL.mono (RdStr_of h1) hb λ_ _ _ h=>h) y1)
  (λW hb=>everyKeys q.ord a4 c4 W (by omega) (RdL.mono h4 hb λ_ _ _ h=>h) y4)
theorem RdQ.later {n:Nat} {w w':World} {cs:List Value} {q:Qy n} (h:RdQ n w cs q) (hb:Below w.heap.size w w'):RdQ n w' cs q:=by
 obtain⟨a1,a2,a3,a4,c1,c2,c3,c4,h0,hc,h1,h2,h3,h4⟩:=h
 exact⟨a1,a2,a3,a4,c1,c2,c3,c4,h0,hc,h1.later hb,RdL.mono h2 hb (λ_ _ _ h=>h),RdEs.later h3 hb,RdL.mono h4 hb (λ_ _ _ h=>h)⟩
open Go.ChangeShapes Go.WideShapes Go.ChangeAt Go.Lib Go.Joins Go.Deep
def szTw (t:Tm):Prop:=t.x.size<=140737488351232/\t.l.size<=140737488351232/\t.y.size<=140737488351232
def szSw (s:Sl):Prop:=s.v.size<=140737488351232/\szTw s.t
def szPw (p:Pat):Prop:=szSw p.s/\szSw p.p/\szSw p.o
namespace Wd
section
variable {H:Type} {enc:TypeId × Value->H}
theorem opens_term (w:World) (f:Nat):Opens enc Tryz.prog w f 26 4 (λcs (t:Tm)=>cs=tmC t) szTw:=by
 intro cs d ps h hs
 obtain⟨xs,n,_,hx,hl,hlen,hf⟩:=DataW.trod_struct Tryz.underlying26 h
 have hd:d=.agg (xs.map (·.1)):=congrArg Prod.fst hx
 subst hd
 have hc:Tryz.prog.cellsOf 26=4:=by kernel_rfl
 have c1:Tryz.prog.cellsOf 9=1:=by kernel_rfl
 have c0:Tryz.prog.cellsOf 24=1:=by kernel_rfl
 rw[hc]at hl
 match cs,hl,xs,hlen with
 | [v0,v1,v2,v3],_,[y0,y1,y2,y3],_ =>
  have g0:=hf 0 _ rfl
  have g1:=hf 1 _ rfl
  have g2:=hf 2 _ rfl
  have g3:=hf 3 _ rfl
  simp[c0,c1]at g0 g1 g2 g3
  obtain⟨k,e0,_,_⟩:=DataW.trod_int Tryz.underlying24 g0
  obtain⟨x,e1,q1,_⟩:=DataW.trod_string Tryz.underlying9 g1
  obtain⟨l,e2,q2,_⟩:=DataW.trod_string Tryz.underlying9 g2
  obtain⟨y,e3,q3,_⟩:=DataW.trod_string Tryz.underlying9 g3
  simp at e0 e1 e2 e3
  refine⟨⟨k,x,l,y⟩,by simp[tmC,e0,e1,e2,e3],rfl,?_⟩
  have hs1:Sized Tryz.prog 9 y1.1:=hs.field Tryz.underlying26 (i:=1) rfl rfl
  have hs2:Sized Tryz.prog 9 y2.1:=hs.field Tryz.underlying26 (i:=2) rfl rfl
  have hs3:Sized Tryz.prog 9 y3.1:=hs.field Tryz.underlying26 (i:=3) rfl rfl
  rw[q1]at hs1
  rw[q2]at hs2
  rw[q3]at hs3
  exact⟨sized_str hs1,sized_str hs2,sized_str hs3⟩
theorem opens_slot (w:World) (f:Nat):Opens enc Tryz.prog w f 41 5 (λcs (s:Sl)=>cs=slC s) szSw:=by
 intro cs d ps h hs
 obtain⟨xs,n,_,hx,hl,hlen,hf⟩:=DataW.trod_struct Tryz.underlying41 h
 have hd:d=.agg (xs.map (·.1)):=congrArg Prod.fst hx
 subst hd
 have hc:Tryz.prog.cellsOf 41=5:=by kernel_rfl
 have c1:Tryz.prog.cellsOf 9=1:=by kernel_rfl
 have c2:Tryz.prog.cellsOf 26=4:=by kernel_rfl
 rw[hc]at hl
 match cs,hl,xs,hlen with
 | [v0,v1,v2,v3,v4],_,[y0,y1],_ =>
  have g0:=hf 0 _ rfl
  have g1:=hf 1 _ rfl
  simp[c1,c2]at g0 g1
  have hs1:Sized Tryz.prog 26 y1.1:=hs.field Tryz.underlying41 (i:=1) rfl rfl
  have hs0:Sized Tryz.prog 9 y0.1:=hs.field Tryz.underlying41 (i:=0) rfl rfl
  obtain⟨v,e0,q0,_⟩:=DataW.trod_string Tryz.underlying9 g0
  rw[q0]at hs0
  obtain⟨t,e1,_,zt⟩:=opens_term w _ _ y1.1 y1.2 g1 hs1
  simp[tmC]at e0 e1
  obtain⟨e1a,e1b,e1c,e1d⟩:=e1
  exact⟨⟨v,t⟩,by simp[slC,e0,e1a,e1b,e1c,e1d],rfl,sized_str hs0,zt⟩
theorem opens_pat (w:World) (f:Nat):Opens enc Tryz.prog w f 43 15 (λcs (p:Pat)=>cs=cPat p) szPw:=by
 intro cs d ps h hs
 obtain⟨xs,n,_,hx,hl,hlen,hf⟩:=DataW.trod_struct Tryz.underlying43 h
 have hd:d=.agg (xs.map (·.1)):=congrArg Prod.fst hx
 subst hd
 have hc:Tryz.prog.cellsOf 43=15:=by kernel_rfl
 have c1:Tryz.prog.cellsOf 41=5:=by kernel_rfl
 rw[hc]at hl
 match cs,hl,xs,hlen with
 | [v0,v1,v2,v3,v4,v5,v6,v7,v8,v9,v10,v11,v12,v13,v14],_,[y0,y1,y2],_ =>
  have g0:=hf 0 _ rfl
  have g1:=hf 1 _ rfl
  have g2:=hf 2 _ rfl
  simp[c1]at g0 g1 g2
  obtain⟨s,e0,_,z0⟩:=opens_slot w _ _ y0.1 y0.2 g0 (hs.field Tryz.underlying43 (i:=0) rfl rfl)
  obtain⟨p,e1,_,z1⟩:=opens_slot w _ _ y1.1 y1.2 g1 (hs.field Tryz.underlying43 (i:=1) rfl rfl)
  obtain⟨o,e2,_,z2⟩:=opens_slot w _ _ y2.1 y2.2 g2 (hs.field Tryz.underlying43 (i:=2) rfl rfl)
  simp[slC]at e0 e1 e2
  refine⟨⟨s,p,o⟩,?_,rfl,z0,z1,z2⟩
  simp[cPat,e0,e1,e2]
end
end Wd
end Go.Proofs.YtoaemihcbmlkgaaGreatDoor
