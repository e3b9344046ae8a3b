/- The program's package query, walked: every (printed by gen/e -/
import Derived.Test.YtfcbghmbbjolcaaGreatDoorJQExpr
set_option maxHeartbeats 4000000
set_option maxRecDepth 100000
namespace Go.Proofs.YtfcbghmbbjolcaaGreatDoor
open Go Go.RowKit Go.Shelf Um Fm
attribute [local go_sem] Oper.semAt_some
structure Ky where
 v:ByteArray
 d:Bool
def FnS (F:FuncId) (caps:Array Value) (V:Value) (b:Bool) (w:World):Prop:=
 ∀W:World,Below w.heap.size w W->Calls Tryz.prog F (#[V]++caps) W λe w'=>e=.returned (.bool b)/\Below W.heap.size W w'
theorem FnS.later {F:FuncId} {caps:Array Value} {V:Value} {b:Bool} {w w':World} (h:FnS F caps V b w) (hb:Below w.heap.size w w'):FnS F caps V b w':=λW hW=>h W (aa hb hW)
theorem ms {α:Type} (l:List α) (p:α->Bool):(!l.any λx => !p x)=l.all p:=by
 induction l with
 | nil=>rfl
 | cons a l ih=>rw[List.any_cons,List.all_cons,←ih];cases p a<;>simp
def cPat (y:Pat):List Value:=[.string y.s.v,.int .i64 y.s.t.k,.string y.s.t.x,.string y.s.t.l,.string y.s.t.y,.string y.p.v,.int .i64 y.p.t.k,.string y.p.t.x,.string y.p.t.l,.string y.p.t.y,.string y.o.v,.int .i64 y.o.t.k,.string y.o.t.x,.string y.o.t.l,.string y.o.t.y]
def lQ (y:Pat):Value:=.agg #[.string y.s.v,.int .i64 y.s.t.k,.string y.s.t.x,.string y.s.t.l,.string y.s.t.y,.string y.p.v,.int .i64 y.p.t.k,.string y.p.t.x,.string y.p.t.l,.string y.p.t.y,.string y.o.v,.int .i64 y.o.t.k,.string y.o.t.x,.string y.o.t.l,.string y.o.t.y]
abbrev bI (w:World) (A:Option Addr) (l:List Pat):Prop:=RdL 15 (λcs y=>cs=cPat y) w A l
theorem Ia (F:FuncId) (caps:Array Value) (eg:∀args W,(callFunc F args).run Tryz.prog W=.ok (.enter F args) W) (p:Pat->Bool) (l:List Pat) (A:Option Addr) (c:Nat) (w:World) (hl:l.length<=1000) (hr:bI w A l)
  (hS:∀x∈l,FnS F caps (lQ x) (p x) w) :
  Calls Tryz.prog 231 #[.slice A l.length c,.func (.func F) #[] caps] w λe w'=>∃i:Int,e=.returned (.int .i64 i)/\fh i (l.any p)/\Below w.heap.size w w':=by
 have hl':(l.length:Int)<=1000:=by omega
 go_enter Tryz.func231,Tryz.ntmps231
 go_wp2
 go_loopw [8] (λi wr=>∃k:Nat,k<=l.length/\i=.int .i64 k/\Hid (l.any p=(l.drop k).any p)/\Below w.heap.size w wr) (λi _=>l.length-(intOf i).toNat)
 case atStart=>exact⟨0,by omega,rfl,rfl,Below.refl _ _⟩
 case round =>
  obtain⟨k,hk,rfl,H,hB⟩:=hrel
  by_cases hlt:k<l.length
  ·obtain⟨y,hx⟩:∃x,l[k]?=some x:=⟨_,List.getElem?_eq_getElem hlt⟩
   obtain⟨g,o,cs,rfl,-,hR,hx2⟩:=(RdL.mono hr hB (λ_ _ _ h=>h)).at_ (by omega) hx
   subst hR
   have c0:wr.cell? ⟨g,o+k*15,none⟩=some (.string y.s.v):=hx2 0 _ rfl
   have c1:wr.cell? ⟨g,o+k*15+1,none⟩=some (.int .i64 y.s.t.k):=hx2 1 _ rfl
   have c2:wr.cell? ⟨g,o+k*15+2,none⟩=some (.string y.s.t.x):=hx2 2 _ rfl
   have c3:wr.cell? ⟨g,o+k*15+3,none⟩=some (.string y.s.t.l):=hx2 3 _ rfl
   have c4:wr.cell? ⟨g,o+k*15+4,none⟩=some (.string y.s.t.y):=hx2 4 _ rfl
   have c5:wr.cell? ⟨g,o+k*15+5,none⟩=some (.string y.p.v):=hx2 5 _ rfl
   have c6:wr.cell? ⟨g,o+k*15+6,none⟩=some (.int .i64 y.p.t.k):=hx2 6 _ rfl
   have c7:wr.cell? ⟨g,o+k*15+7,none⟩=some (.string y.p.t.x):=hx2 7 _ rfl
   have c8:wr.cell? ⟨g,o+k*15+8,none⟩=some (.string y.p.t.l):=hx2 8 _ rfl
   have c9:wr.cell? ⟨g,o+k*15+9,none⟩=some (.string y.p.t.y):=hx2 9 _ rfl
   have c10:wr.cell? ⟨g,o+k*15+10,none⟩=some (.string y.o.v):=hx2 10 _ rfl
   have c11:wr.cell? ⟨g,o+k*15+11,none⟩=some (.int .i64 y.o.t.k):=hx2 11 _ rfl
   have c12:wr.cell? ⟨g,o+k*15+12,none⟩=some (.string y.o.t.x):=hx2 12 _ rfl
   have c13:wr.cell? ⟨g,o+k*15+13,none⟩=some (.string y.o.t.l):=hx2 13 _ rfl
   have c14:wr.cell? ⟨g,o+k*15+14,none⟩=some (.string y.o.t.y):=hx2 14 _ rfl
   have hd:=ai hx
   have hc:=hS y (List.mem_of_getElem? hx) wr hB
   have H2:Hid (l.any p=(p y || (l.drop (k+1)).any p)):=by
    show _=_
    rw[H.out,hd,List.any_cons]
   have HBB:=Lib.hid hB
   unfold lQ at hc
   clear hx hd H hr hS hB hx2
   generalize p y=q at *
   cases q
   ·go_wp2_with (go_at_fn F;refine hc.mono ?_;rintro e w1 ⟨rfl,hb1⟩)
    go_roundw
    case rel=>exact⟨k+1,by omega,by go_num,by show _=_;rw[H2.out];rfl,aa HBB.out hb1⟩
    case measure=>simp[intOf];omega
   ·go_wp2_with (go_at_fn F;refine hc.mono ?_;rintro e w1 ⟨rfl,hb1⟩)
    go_ret
    exact⟨k,rfl,by show decide _=_;rw[H2.out];simp,aa HBB.out hb1⟩
  ·have H2:Hid (l.any p=false):=by
    show _=_
    rw[H.out,List.drop_eq_nil_of_le (by omega)];rfl
   clear H hS hr
   go_wp2
   go_ret
   exact⟨-1,rfl,by show decide _=_;rw[H2.out];rfl,hB⟩
theorem Ih (F:FuncId) (caps:Array Value) (eg:∀args W,(callFunc F args).run Tryz.prog W=.ok (.enter F args) W) (p:Pat->Bool) (l:List Pat) (A:Option Addr) (c:Nat) (w:World) (hl:l.length<=1000) (hr:bI w A l)
  (hS:∀x∈l,FnS F caps (lQ x) (p x) w) :
  Calls Tryz.prog 169 #[.slice A l.length c,.func (.func F) #[] caps] w λe w'=>e=.returned (.bool (l.any p))/\Below w.heap.size w w':=by
 have hi:=Ia F caps eg p l A c w hl hr hS
 clear hr hS
 go_enter Tryz.func169,Tryz.ntmps169
 go_wp2_with (go_at_call 231;refine hi.mono ?_;rintro e w1 ⟨i,rfl,hd,hb1⟩;have Hd:=Lib.hid hd;clear hd)
 go_ret
 exact⟨by have:=Hd.out;unfold fh at this;rw[←this];rfl,hb1⟩
theorem Aa (G:FuncId) (eg:∀args W,(callFunc G args).run Tryz.prog W=.ok (.enter G args) W) (y:Pat) (b:Bool) (k:Nat) (w:World) (hc:w.cell? ⟨k,0,none⟩=some (.func (.func G) #[] #[])) (h:FnS G #[] (lQ y) b w) :
  Calls Tryz.prog 170 #[lQ y,.pointer (some ⟨k,0,none⟩)] w λe w'=>e=.returned (.bool (!b))/\Below w.heap.size w w':=by
 have hB0:Below w.heap.size w (w.alloc (.cells #[.string y.s.v,.int .i64 y.s.t.k,.string y.s.t.x,.string y.s.t.l,.string y.s.t.y,.string y.p.v,.int .i64 y.p.t.k,.string y.p.t.x,.string y.p.t.l,.string y.p.t.y,.string y.o.v,.int .i64 y.o.t.k,.string y.o.t.x,.string y.o.t.l,.string y.o.t.y] 72)):=blw
 have hk:=ag hc
 have hk2:k<w.heap.size:=hk
 have hq:=h _ hB0
 unfold lQ at hq ⊢
 clear h
 go_enter Tryz.func170,Tryz.ntmps170
 go_wp2_with (go_at_fn G;refine hq.mono ?_;rintro e w2 ⟨rfl,hb2⟩)
 go_ret
 exact⟨rfl,aa hB0 hb2⟩
theorem Ds (G:FuncId) (eg:∀args W,(callFunc G args).run Tryz.prog W=.ok (.enter G args) W) (p:Pat->Bool) (l:List Pat) (A:Option Addr) (c:Nat) (w:World) (hl:l.length<=1000) (hr:bI w A l)
  (hS:∀x∈l,FnS G #[] (lQ x) (p x) w) :
  Calls Tryz.prog 114 #[.func (.func G) #[] #[],.slice A l.length c] w λe w'=>e=.returned (.bool (l.all p))/\Below w.heap.size w w':=by
 obtain⟨W1,hW1⟩:∃W,w.alloc (.cells #[.func (.func G) #[] #[]] 170)=W:=⟨_,rfl⟩
 have hB0:Below w.heap.size w W1:=by rw[←hW1];exact blw
 have hcell:W1.cell? ⟨w.heap.size,0,none⟩=some (.func (.func G) #[] #[]):=by rw[←hW1,World.cell?,heap_alloc_new];rfl
 have hh:=Ih 170 #[.pointer (some ⟨w.heap.size,0,none⟩)] (enters_of Tryz.func170 (by kernel_rfl) rfl) (λx => !p x) l A c W1 hl (RdL.mono hr hB0 (λ_ _ _ h=>h)) (λx hx W hW=>Aa G eg x (p x) w.heap.size W (ac hcell hW) ((hS x hx).later (aa hB0 hW)))
 rw[←ms]
 subst hW1
 clear hr hS hcell
 go_enter Tryz.func114,Tryz.ntmps114
 go_wp2_with (go_at_call 169;refine hh.mono ?_;rintro e w2 ⟨rfl,hb2⟩)
 go_ret
 exact⟨rfl,aa hB0 hb2⟩
def K6 (y:ByteArray):List Value:=[.string y]
def vc (y:ByteArray):Value:=.string y
abbrev uS (w:World) (A:Option Addr) (l:List ByteArray):Prop:=RdL 1 (λcs y=>cs=K6 y) w A l
theorem I9 (F:FuncId) (caps:Array Value) (eg:∀args W,(callFunc F args).run Tryz.prog W=.ok (.enter F args) W) (p:ByteArray->Bool) (l:List ByteArray) (A:Option Addr) (c:Nat) (w:World) (hl:l.length<=1000) (hr:uS w A l)
  (hS:∀x∈l,FnS F caps (vc x) (p x) w) :
  Calls Tryz.prog 237 #[.slice A l.length c,.func (.func F) #[] caps] w λe w'=>∃i:Int,e=.returned (.int .i64 i)/\fh i (l.any p)/\Below w.heap.size w w':=by
 have hl':(l.length:Int)<=1000:=by omega
 go_enter Tryz.func237,Tryz.ntmps237
 go_wp2
 go_loopw [8] (λi wr=>∃k:Nat,k<=l.length/\i=.int .i64 k/\Hid (l.any p=(l.drop k).any p)/\Below w.heap.size w wr) (λi _=>l.length-(intOf i).toNat)
 case atStart=>exact⟨0,by omega,rfl,rfl,Below.refl _ _⟩
 case round =>
  obtain⟨k,hk,rfl,H,hB⟩:=hrel
  by_cases hlt:k<l.length
  ·obtain⟨y,hx⟩:∃x,l[k]?=some x:=⟨_,List.getElem?_eq_getElem hlt⟩
   obtain⟨g,o,cs,rfl,-,hR,hx2⟩:=(RdL.mono hr hB (λ_ _ _ h=>h)).at_ (by omega) hx
   subst hR
   have c0:wr.cell? ⟨g,o+k,none⟩=some (.string y):=by have:=hx2 0 _ rfl;rw[Nat.mul_one]at this;exact this
   have hd:=ai hx
   have hc:=hS y (List.mem_of_getElem? hx) wr hB
   have H2:Hid (l.any p=(p y || (l.drop (k+1)).any p)):=by
    show _=_
    rw[H.out,hd,List.any_cons]
   have HBB:=Lib.hid hB
   unfold vc at hc
   clear hx hd H hr hS hB hx2
   generalize p y=q at *
   cases q
   ·go_wp2_with (go_at_fn F;refine hc.mono ?_;rintro e w1 ⟨rfl,hb1⟩)
    go_roundw
    case rel=>exact⟨k+1,by omega,by go_num,by show _=_;rw[H2.out];rfl,aa HBB.out hb1⟩
    case measure=>simp[intOf];omega
   ·go_wp2_with (go_at_fn F;refine hc.mono ?_;rintro e w1 ⟨rfl,hb1⟩)
    go_ret
    exact⟨k,rfl,by show decide _=_;rw[H2.out];simp,aa HBB.out hb1⟩
  ·have H2:Hid (l.any p=false):=by
    show _=_
    rw[H.out,List.drop_eq_nil_of_le (by omega)];rfl
   clear H hS hr
   go_wp2
   go_ret
   exact⟨-1,rfl,by show decide _=_;rw[H2.out];rfl,hB⟩
theorem Ig (F:FuncId) (caps:Array Value) (eg:∀args W,(callFunc F args).run Tryz.prog W=.ok (.enter F args) W) (p:ByteArray->Bool) (l:List ByteArray) (A:Option Addr) (c:Nat) (w:World) (hl:l.length<=1000) (hr:uS w A l)
  (hS:∀x∈l,FnS F caps (vc x) (p x) w) :
  Calls Tryz.prog 176 #[.slice A l.length c,.func (.func F) #[] caps] w λe w'=>e=.returned (.bool (l.any p))/\Below w.heap.size w w':=by
 have hi:=I9 F caps eg p l A c w hl hr hS
 clear hr hS
 go_enter Tryz.func176,Tryz.ntmps176
 go_wp2_with (go_at_call 237;refine hi.mono ?_;rintro e w1 ⟨i,rfl,hd,hb1⟩;have Hd:=Lib.hid hd;clear hd)
 go_ret
 exact⟨by have:=Hd.out;unfold fh at this;rw[←this];rfl,hb1⟩
theorem zZ (G:FuncId) (eg:∀args W,(callFunc G args).run Tryz.prog W=.ok (.enter G args) W) (y:ByteArray) (b:Bool) (k:Nat) (w:World) (hc:w.cell? ⟨k,0,none⟩=some (.func (.func G) #[] #[])) (h:FnS G #[] (vc y) b w) :
  Calls Tryz.prog 177 #[vc y,.pointer (some ⟨k,0,none⟩)] w λe w'=>e=.returned (.bool (!b))/\Below w.heap.size w w':=by
 have hB0:Below w.heap.size w w:=blw
 have hk:=ag hc
 have hk2:k<w.heap.size:=hk
 have hq:=h _ hB0
 unfold vc at hq ⊢
 clear h
 go_enter Tryz.func177,Tryz.ntmps177
 go_wp2_with (go_at_fn G;refine hq.mono ?_;rintro e w2 ⟨rfl,hb2⟩)
 go_ret
 exact⟨rfl,aa hB0 hb2⟩
theorem Dq (G:FuncId) (eg:∀args W,(callFunc G args).run Tryz.prog W=.ok (.enter G args) W) (p:ByteArray->Bool) (l:List ByteArray) (A:Option Addr) (c:Nat) (w:World) (hl:l.length<=1000) (hr:uS w A l)
  (hS:∀x∈l,FnS G #[] (vc x) (p x) w) :
  Calls Tryz.prog 118 #[.func (.func G) #[] #[],.slice A l.length c] w λe w'=>e=.returned (.bool (l.all p))/\Below w.heap.size w w':=by
 obtain⟨W1,hW1⟩:∃W,w.alloc (.cells #[.func (.func G) #[] #[]] 129)=W:=⟨_,rfl⟩
 have hB0:Below w.heap.size w W1:=by rw[←hW1];exact blw
 have hcell:W1.cell? ⟨w.heap.size,0,none⟩=some (.func (.func G) #[] #[]):=by rw[←hW1,World.cell?,heap_alloc_new];rfl
 have hh:=Ig 177 #[.pointer (some ⟨w.heap.size,0,none⟩)] (enters_of Tryz.func177 (by kernel_rfl) rfl) (λx => !p x) l A c W1 hl (RdL.mono hr hB0 (λ_ _ _ h=>h)) (λx hx W hW=>zZ G eg x (p x) w.heap.size W (ac hcell hW) ((hS x hx).later (aa hB0 hW)))
 rw[←ms]
 subst hW1
 clear hr hS hcell
 go_enter Tryz.func118,Tryz.ntmps118
 go_wp2_with (go_at_call 176;refine hh.mono ?_;rintro e w2 ⟨rfl,hb2⟩)
 go_ret
 exact⟨rfl,aa hB0 hb2⟩
def K8 (y:Ky):List Value:=[.string y.v,.bool y.d]
def vd (y:Ky):Value:=.agg #[.string y.v,.bool y.d]
abbrev eN (w:World) (A:Option Addr) (l:List Ky):Prop:=RdL 2 (λcs y=>cs=K8 y) w A l
theorem Ic (F:FuncId) (caps:Array Value) (eg:∀args W,(callFunc F args).run Tryz.prog W=.ok (.enter F args) W) (p:Ky->Bool) (l:List Ky) (A:Option Addr) (c:Nat) (w:World) (hl:l.length<=1000) (hr:eN w A l)
  (hS:∀x∈l,FnS F caps (vd x) (p x) w) :
  Calls Tryz.prog 238 #[.slice A l.length c,.func (.func F) #[] caps] w λe w'=>∃i:Int,e=.returned (.int .i64 i)/\fh i (l.any p)/\Below w.heap.size w w':=by
 have hl':(l.length:Int)<=1000:=by omega
 go_enter Tryz.func238,Tryz.ntmps238
 go_wp2
 go_loopw [8] (λi wr=>∃k:Nat,k<=l.length/\i=.int .i64 k/\Hid (l.any p=(l.drop k).any p)/\Below w.heap.size w wr) (λi _=>l.length-(intOf i).toNat)
 case atStart=>exact⟨0,by omega,rfl,rfl,Below.refl _ _⟩
 case round =>
  obtain⟨k,hk,rfl,H,hB⟩:=hrel
  by_cases hlt:k<l.length
  ·obtain⟨y,hx⟩:∃x,l[k]?=some x:=⟨_,List.getElem?_eq_getElem hlt⟩
   obtain⟨g,o,cs,rfl,-,hR,hx2⟩:=(RdL.mono hr hB (λ_ _ _ h=>h)).at_ (by omega) hx
   subst hR
   have c0:wr.cell? ⟨g,o+k*2,none⟩=some (.string y.v):=hx2 0 _ rfl
   have c1:wr.cell? ⟨g,o+k*2+1,none⟩=some (.bool y.d):=hx2 1 _ rfl
   have hd:=ai hx
   have hc:=hS y (List.mem_of_getElem? hx) wr hB
   have H2:Hid (l.any p=(p y || (l.drop (k+1)).any p)):=by
    show _=_
    rw[H.out,hd,List.any_cons]
   have HBB:=Lib.hid hB
   unfold vd at hc
   clear hx hd H hr hS hB hx2
   generalize p y=q at *
   cases q
   ·go_wp2_with (go_at_fn F;refine hc.mono ?_;rintro e w1 ⟨rfl,hb1⟩)
    go_roundw
    case rel=>exact⟨k+1,by omega,by go_num,by show _=_;rw[H2.out];rfl,aa HBB.out hb1⟩
    case measure=>simp[intOf];omega
   ·go_wp2_with (go_at_fn F;refine hc.mono ?_;rintro e w1 ⟨rfl,hb1⟩)
    go_ret
    exact⟨k,rfl,by show decide _=_;rw[H2.out];simp,aa HBB.out hb1⟩
  ·have H2:Hid (l.any p=false):=by
    show _=_
    rw[H.out,List.drop_eq_nil_of_le (by omega)];rfl
   clear H hS hr
   go_wp2
   go_ret
   exact⟨-1,rfl,by show decide _=_;rw[H2.out];rfl,hB⟩
theorem Ij (F:FuncId) (caps:Array Value) (eg:∀args W,(callFunc F args).run Tryz.prog W=.ok (.enter F args) W) (p:Ky->Bool) (l:List Ky) (A:Option Addr) (c:Nat) (w:World) (hl:l.length<=1000) (hr:eN w A l)
  (hS:∀x∈l,FnS F caps (vd x) (p x) w) :
  Calls Tryz.prog 178 #[.slice A l.length c,.func (.func F) #[] caps] w λe w'=>e=.returned (.bool (l.any p))/\Below w.heap.size w w':=by
 have hi:=Ic F caps eg p l A c w hl hr hS
 clear hr hS
 go_enter Tryz.func178,Tryz.ntmps178
 go_wp2_with (go_at_call 238;refine hi.mono ?_;rintro e w1 ⟨i,rfl,hd,hb1⟩;have Hd:=Lib.hid hd;clear hd)
 go_ret
 exact⟨by have:=Hd.out;unfold fh at this;rw[←this];rfl,hb1⟩
theorem Ab (G:FuncId) (eg:∀args W,(callFunc G args).run Tryz.prog W=.ok (.enter G args) W) (y:Ky) (b:Bool) (k:Nat) (w:World) (hc:w.cell? ⟨k,0,none⟩=some (.func (.func G) #[] #[])) (h:FnS G #[] (vd y) b w) :
  Calls Tryz.prog 179 #[vd y,.pointer (some ⟨k,0,none⟩)] w λe w'=>e=.returned (.bool (!b))/\Below w.heap.size w w':=by
 have hB0:Below w.heap.size w (w.alloc (.cells #[.string y.v,.bool y.d] 116)):=blw
 have hk:=ag hc
 have hk2:k<w.heap.size:=hk
 have hq:=h _ hB0
 unfold vd at hq ⊢
 clear h
 go_enter Tryz.func179,Tryz.ntmps179
 go_wp2_with (go_at_fn G;refine hq.mono ?_;rintro e w2 ⟨rfl,hb2⟩)
 go_ret
 exact⟨rfl,aa hB0 hb2⟩
theorem Dt (G:FuncId) (eg:∀args W,(callFunc G args).run Tryz.prog W=.ok (.enter G args) W) (p:Ky->Bool) (l:List Ky) (A:Option Addr) (c:Nat) (w:World) (hl:l.length<=1000) (hr:eN w A l)
  (hS:∀x∈l,FnS G #[] (vd x) (p x) w) :
  Calls Tryz.prog 119 #[.func (.func G) #[] #[],.slice A l.length c] w λe w'=>e=.returned (.bool (l.all p))/\Below w.heap.size w w':=by
 obtain⟨W1,hW1⟩:∃W,w.alloc (.cells #[.func (.func G) #[] #[]] 167)=W:=⟨_,rfl⟩
 have hB0:Below w.heap.size w W1:=by rw[←hW1];exact blw
 have hcell:W1.cell? ⟨w.heap.size,0,none⟩=some (.func (.func G) #[] #[]):=by rw[←hW1,World.cell?,heap_alloc_new];rfl
 have hh:=Ij 179 #[.pointer (some ⟨w.heap.size,0,none⟩)] (enters_of Tryz.func179 (by kernel_rfl) rfl) (λx => !p x) l A c W1 hl (RdL.mono hr hB0 (λ_ _ _ h=>h)) (λx hx W hW=>Ab G eg x (p x) w.heap.size W (ac hcell hW) ((hS x hx).later (aa hB0 hW)))
 rw[←ms]
 subst hW1
 clear hr hS hcell
 go_enter Tryz.func119,Tryz.ntmps119
 go_wp2_with (go_at_call 178;refine hh.mono ?_;rintro e w2 ⟨rfl,hb2⟩)
 go_ret
 exact⟨rfl,aa hB0 hb2⟩
attribute [local go_sem] Oper.semAt_some
theorem wF (G:FuncId) (eg:∀args W,(callFunc G args).run Tryz.prog W=.ok (.enter G args) W) (n:Nat) (x:ExT n) (cs:List Value) (b:Bool) (k:Nat) (w:World) (hc:w.cell? ⟨k,0,none⟩=some (.func (.func G) #[] #[])) (hr:RdE n w cs x)
  (h:∀W,Below w.heap.size w W->Calls Tryz.prog G #[.agg cs.toArray] W λe w'=>e=.returned (.bool b)/\Below W.heap.size W w') :
  Calls Tryz.prog 172 #[.agg cs.toArray,.pointer (some ⟨k,0,none⟩)] w λe w'=>e=.returned (.bool (!b))/\Below w.heap.size w w':=by
 obtain⟨k',s,t,A,m,c,rfl,_⟩:=gA hr
 have hB0:Below w.heap.size w (w.alloc (.cells #[.int .i64 k',.string s,.int .i64 t.k,.string t.x,.string t.l,.string t.y,.slice A m c] 68)):=blw
 have hk:=ag hc
 have hk2:k<w.heap.size:=hk
 have hq:=h _ hB0
 clear h hr
 go_enter Tryz.func172,Tryz.ntmps172
 go_wp2_with (go_at_fn G;refine hq.mono ?_;rintro e w2 ⟨rfl,hb2⟩)
 go_ret
 exact⟨rfl,aa hB0 hb2⟩
theorem zY (G:FuncId) (eg:∀args W,(callFunc G args).run Tryz.prog W=.ok (.enter G args) W) (n:Nat) (p:ExT n->Bool) (l:List (ExT n)) (A:Option Addr) (c:Nat) (w:World) (hl:l.length<=1000) (hr:aJ n w A l)
  (hS:∀x∈l,wU G #[] n p w x) :
  Calls Tryz.prog 116 #[.func (.func G) #[] #[],.slice A l.length c] w λe w'=>e=.returned (.bool (l.all p))/\Below w.heap.size w w':=by
 obtain⟨W1,hW1⟩:∃W,w.alloc (.cells #[.func (.func G) #[] #[]] 136)=W:=⟨_,rfl⟩
 have hB0:Below w.heap.size w W1:=by rw[←hW1];exact blw
 have hcell:W1.cell? ⟨w.heap.size,0,none⟩=some (.func (.func G) #[] #[]):=by rw[←hW1,World.cell?,heap_alloc_new];rfl
 have hh:=xQ 172 #[.pointer (some ⟨w.heap.size,0,none⟩)] (enters_of Tryz.func172 (by kernel_rfl) rfl) n (λx => !p x) l A c W1 (by omega) (aJ.later hr hB0) (λx hx cs W hW hrx=>wF G eg n x cs (p x) w.heap.size W (ac hcell hW) hrx λW' hW'=>hS x hx cs W' (aa (aa hB0 hW) hW') (hrx.cm (CM.of_below hW')))
 rw[←ms]
 subst hW1
 clear hr hS hcell
 go_enter Tryz.func116,Tryz.ntmps116
 go_wp2_with (go_at_call 72;refine hh.mono ?_;rintro e w2 ⟨rfl,hb2⟩)
 go_ret
 exact⟨rfl,aa hB0 hb2⟩
theorem wE (n:Nat) (l:List (ExT n)) (A:Option Addr) (c:Nat) (w:World) (hC:Ctx w) (hl:l.length<=1000) (hr:aJ n w A l) (hz:∀x∈l,szX n x) :
  Calls Tryz.prog 116 #[.func (.func 117) #[] #[],.slice A l.length c] w λe w'=>e=.returned (.bool (l.all (jW n)))/\Below w.heap.size w w':=
 zY 117 (enters_of Tryz.func117 (by kernel_rfl) rfl) n (jW n) l A c w hl hr λx hx cs W hW hrx=>Ja n x cs W (hC.step hW) hrx (hz x hx)
theorem zW (l:List Pat) (A:Option Addr) (c:Nat) (w:World) (hC:Ctx w) (hl:l.length<=1000) (hr:bI w A l) (hz:∀x∈l,szP x) :
  Calls Tryz.prog 114 #[.func (.func 115) #[] #[],.slice A l.length c] w λe w'=>e=.returned (.bool (l.all zl))/\Below w.heap.size w w':=
 Ds 115 (enters_of Tryz.func115 (by kernel_rfl) rfl) zl l A c w hl hr λx hx W hW=>C7 x W (hC.step hW) (hz x hx)
theorem wD (l:List ByteArray) (A:Option Addr) (c:Nat) (w:World) (hl:l.length<=1000) (hr:uS w A l) (hz:∀x∈l,x.size<=281474976710656) :
  Calls Tryz.prog 118 #[.func (.func 112) #[] #[],.slice A l.length c] w λe w'=>e=.returned (.bool (l.all dO))/\Below w.heap.size w w':=
 Dq 112 (enters_of Tryz.func112 (by kernel_rfl) rfl) dO l A c w hl hr λx hx W _=>xu x W (hz x hx)
theorem JX (y:Ky) (w:World) (hz:y.v.size<=281474976710656):Calls Tryz.prog 111 #[.agg #[.string y.v,.bool y.d]] w λe w'=>e=.returned (.bool (dO y.v))/\Below w.heap.size w w':=by
 have hB0:Below w.heap.size w (w.alloc (.cells #[.string y.v,.bool y.d] 116)):=blw
 have hN:=xu y.v (w.alloc (.cells #[.string y.v,.bool y.d] 116)) hz
 clear hz
 generalize dO y.v=q at *
 go_enter Tryz.func111,Tryz.ntmps111
 go_wp2_with (go_at_call 112;refine hN.mono ?_;rintro e w2 ⟨rfl,hb2⟩)
 go_ret
 exact⟨rfl,aa hB0 hb2⟩
theorem zX (l:List Ky) (A:Option Addr) (c:Nat) (w:World) (hl:l.length<=1000) (hr:eN w A l) (hz:∀x∈l,x.v.size<=281474976710656) :
  Calls Tryz.prog 119 #[.func (.func 111) #[] #[],.slice A l.length c] w λe w'=>e=.returned (.bool (l.all λy=>dO y.v))/\Below w.heap.size w w':=
 Dt 111 (enters_of Tryz.func111 (by kernel_rfl) rfl) (λy=>dO y.v) l A c w hl hr λx hx W _=>JX x W (hz x hx)
def gG (n:Int):Bool:=decide (0<=n/\n<=1099511627776)
theorem zg (n:Int) (w:World):Calls Tryz.prog 113 #[.int .i64 n] w λe w'=>e=.returned (.bool (gG n))/\w=w':=by
 unfold gG
 by_cases h1:0<=n
 ·by_cases h2:n<=1099511627776
  ·go_enter Tryz.func113,Tryz.ntmps113
   go_wp2
   go_ret
   exact⟨by simp;omega,rfl⟩
  ·go_enter Tryz.func113,Tryz.ntmps113
   go_wp2
   go_ret
   exact⟨by simp;omega,rfl⟩
 ·go_enter Tryz.func113,Tryz.ntmps113
  go_wp2
  go_ret
  exact⟨by simp;omega,rfl⟩
attribute [local go_sem] Oper.semAt_some
structure Qy (n:Nat) where
 ask:Bool
 dist:Bool
 vars:List ByteArray
 pats:List Pat
 fils:List (ExT n)
 ord:List Ky
 lim:Int
 off:Int
def m6 (np nf nv nk:Nat):Bool:=decide (np<=6/\nf<=6/\nv<=12/\nk<=4)
def jM (lim off:Int):Bool:=gG off && (decide (lim = -1) || gG lim)
def AN (ask dist:Bool) (nv nk:Nat) (lim off:Int):Bool:=!(ask && (dist || decide ((nv:Int)+nk+off > 0) || decide (lim ≠ -1)))
def fj {n:Nat} (q:Qy n):Bool:=
 m6 q.pats.length q.fils.length q.vars.length q.ord.length && jM q.lim q.off && AN q.ask q.dist q.vars.length q.ord.length q.lim q.off &&
  (q.pats.all zl && q.fils.all (jW n) && q.vars.all dO && q.ord.all λy=>dO y.v)
theorem zd (ask dist:Bool) (np nf nv nk:Nat) (lim off:Int) (a1 a2 a3 a4:Option Addr) (c1 c2 c3 c4:Nat) (w:World) (h:m6 np nf nv nk=false) (hb:np<=4611686018427387904/\nf<=4611686018427387904/\nv<=4611686018427387904/\nk<=4611686018427387904) :
  Calls Tryz.prog 64 #[.agg #[.bool ask,.bool dist,.slice a1 nv c1,.slice a2 np c2,.slice a3 nf c3,.slice a4 nk c4,.int .i64 lim,.int .i64 off]] w λe w'=>e=.returned (.bool false)/\Below w.heap.size w w':=by
 have hB0:Below w.heap.size w (w.alloc (.cells #[.bool ask,.bool dist,.slice a1 nv c1,.slice a2 np c2,.slice a3 nf c3,.slice a4 nk c4,.int .i64 lim,.int .i64 off] 28)):=blw
 obtain⟨hb1,hb2,hb3,hb4⟩:=hb
 by_cases h1:(np:Int)<=6
 ·by_cases h2:(nf:Int)<=6
  ·by_cases h3:(nv:Int)<=12
   ·have h4:4<(nk:Int):=by
     simp[m6]at h
     have:=h (by omega) (by omega) (by omega)
     omega
    clear h
    go_enter Tryz.func64,Tryz.ntmps64
    go_wp2
    go_ret
    exact⟨rfl,hB0⟩
   ·clear h
    go_enter Tryz.func64,Tryz.ntmps64
    go_wp2
    go_ret
    exact⟨rfl,hB0⟩
  ·clear h
   go_enter Tryz.func64,Tryz.ntmps64
   go_wp2
   go_ret
   exact⟨rfl,hB0⟩
 ·clear h
  go_enter Tryz.func64,Tryz.ntmps64
  go_wp2
  go_ret
  exact⟨rfl,hB0⟩
theorem zc (ask dist:Bool) (np nf nv nk:Nat) (lim off:Int) (a1 a2 a3 a4:Option Addr) (c1 c2 c3 c4:Nat) (w:World) (h:m6 np nf nv nk=true) (hn:jM lim off=false) :
  Calls Tryz.prog 64 #[.agg #[.bool ask,.bool dist,.slice a1 nv c1,.slice a2 np c2,.slice a3 nf c3,.slice a4 nk c4,.int .i64 lim,.int .i64 off]] w λe w'=>e=.returned (.bool false)/\Below w.heap.size w w':=by
 have hB0:Below w.heap.size w (w.alloc (.cells #[.bool ask,.bool dist,.slice a1 nv c1,.slice a2 np c2,.slice a3 nf c3,.slice a4 nk c4,.int .i64 lim,.int .i64 off] 28)):=blw
 obtain⟨h1,h2,h3,h4⟩:(np:Int)<=6/\(nf:Int)<=6/\(nv:Int)<=12/\(nk:Int)<=4:=by
  simp[m6]at h
  omega
 clear h
 have hN:=λW=>zg off W
 have hM:=λW=>zg lim W
 unfold jM at hn
 generalize gG off=q1 at *
 generalize gG lim=q2 at *
 cases q1
 ·clear hn hM
  go_enter Tryz.func64,Tryz.ntmps64
  go_wp2_with (go_at_call 113;first|(refine(hN _).mono ?_;rintro e w' ⟨rfl,rfl⟩)|(refine(hM _).mono ?_;rintro e w' ⟨rfl,rfl⟩))
  go_ret
  exact⟨rfl,hB0⟩
 ·have hq2:lim ≠ -1/\q2=false:=by
   cases q2<;>simp_all
  obtain⟨hl,rfl⟩:=hq2
  clear hn
  go_enter Tryz.func64,Tryz.ntmps64
  go_wp2_with (go_at_call 113;first|(refine(hN _).mono ?_;rintro e w' ⟨rfl,rfl⟩)|(refine(hM _).mono ?_;rintro e w' ⟨rfl,rfl⟩))
  go_ret
  exact⟨rfl,hB0⟩
attribute [local go_sem] Oper.semAt_some
theorem ze (ask dist:Bool) (np nf nv nk:Nat) (lim off:Int) (a1 a2 a3 a4:Option Addr) (c1 c2 c3 c4:Nat) (w:World) (h:m6 np nf nv nk=true) (hn:jM lim off=true) (ha:AN ask dist nv nk lim off=false) :
  Calls Tryz.prog 64 #[.agg #[.bool ask,.bool dist,.slice a1 nv c1,.slice a2 np c2,.slice a3 nf c3,.slice a4 nk c4,.int .i64 lim,.int .i64 off]] w λe w'=>e=.returned (.bool false)/\Below w.heap.size w w':=by
 have hB0:Below w.heap.size w (w.alloc (.cells #[.bool ask,.bool dist,.slice a1 nv c1,.slice a2 np c2,.slice a3 nf c3,.slice a4 nk c4,.int .i64 lim,.int .i64 off] 28)):=blw
 obtain⟨h1,h2,h3,h4⟩:(np:Int)<=6/\(nf:Int)<=6/\(nv:Int)<=12/\(nk:Int)<=4:=by
  simp[m6]at h
  omega
 clear h
 have hN:=λW=>zg off W
 have hM:=λW=>zg lim W
 unfold jM at hn
 obtain⟨h5,h6⟩:0<=off/\off<=1099511627776:=by
  simp[gG]at hn
  omega
 have hn1:gG off=true:=by simp[gG,h5,h6]
 have hn2:lim = -1∨(lim ≠ -1/\gG lim=true):=by
  rw[hn1]at hn
  by_cases e:lim = -1
  ·exact .inl e
  ·exact .inr ⟨e,by simpa[e] using hn⟩
 rw[hn1]at hN
 clear hn hn1
 obtain⟨rfl,hd⟩:ask=true/\(dist=true∨0<(nv:Int)+nk+off∨lim ≠ -1):=by
  cases ask<;>simp[AN]at ha
  refine⟨rfl,?_⟩
  by_cases e:dist=true
  ·exact .inl e
  ·by_cases e2:lim = -1
   ·right;left;simp_all
   ·exact .inr (.inr e2)
 clear ha
 rcases hn2 with rfl|⟨hl,hl2⟩
 ·clear hM
  cases dist
  ·have hs:0<(nv:Int)+nk+off:=by simpa using hd
   clear hd
   go_enter Tryz.func64,Tryz.ntmps64
   go_wp2_with (go_at_call 113;first|(refine(hN _).mono ?_;rintro e w' ⟨rfl,rfl⟩)|(refine(hM _).mono ?_;rintro e w' ⟨rfl,rfl⟩))
   go_ret
   exact⟨rfl,hB0⟩
  ·clear hd
   go_enter Tryz.func64,Tryz.ntmps64
   go_wp2_with (go_at_call 113;first|(refine(hN _).mono ?_;rintro e w' ⟨rfl,rfl⟩)|(refine(hM _).mono ?_;rintro e w' ⟨rfl,rfl⟩))
   go_ret
   exact⟨rfl,hB0⟩
 ·rw[hl2]at hM
  clear hl2 hd
  cases dist
  ·by_cases hs:0<(nv:Int)+nk+off
   ·go_enter Tryz.func64,Tryz.ntmps64
    go_wp2_with (go_at_call 113;first|(refine(hN _).mono ?_;rintro e w' ⟨rfl,rfl⟩)|(refine(hM _).mono ?_;rintro e w' ⟨rfl,rfl⟩))
    go_ret
    exact⟨rfl,hB0⟩
   ·go_enter Tryz.func64,Tryz.ntmps64
    go_wp2_with (go_at_call 113;first|(refine(hN _).mono ?_;rintro e w' ⟨rfl,rfl⟩)|(refine(hM _).mono ?_;rintro e w' ⟨rfl,rfl⟩))
    ·go_ret
     exact⟨rfl,hB0⟩
    ·have hx:(nv:Int)+nk+off<=0/\(lim != -1)=false:=by assumption
     exact absurd hx.2 (by simp[hl])
  ·go_enter Tryz.func64,Tryz.ntmps64
   go_wp2_with (go_at_call 113;first|(refine(hN _).mono ?_;rintro e w' ⟨rfl,rfl⟩)|(refine(hM _).mono ?_;rintro e w' ⟨rfl,rfl⟩))
   go_ret
   exact⟨rfl,hB0⟩
attribute [local go_sem] Oper.semAt_some
def Ju (a b c d:Bool):Bool:=a && b && c && d
theorem zf (ask dist:Bool) (np nf nv nk:Nat) (lim off:Int) (a1 a2 a3 a4:Option Addr) (c1 c2 c3 c4:Nat) (q1 q2 q3 q4:Bool) (w:World) (h:m6 np nf nv nk=true) (hn:jM lim off=true) (ha:AN ask dist nv nk lim off=true)
  (hP:∀W,Below w.heap.size w W->Calls Tryz.prog 114 #[.func (.func 115) #[] #[],.slice a2 np c2] W λe w'=>e=.returned (.bool q1)/\Below W.heap.size W w')
  (hE:∀W,Below w.heap.size w W->Calls Tryz.prog 116 #[.func (.func 117) #[] #[],.slice a3 nf c3] W λe w'=>e=.returned (.bool q2)/\Below W.heap.size W w')
  (hV:∀W,Below w.heap.size w W->Calls Tryz.prog 118 #[.func (.func 112) #[] #[],.slice a1 nv c1] W λe w'=>e=.returned (.bool q3)/\Below W.heap.size W w')
  (hK:∀W,Below w.heap.size w W->Calls Tryz.prog 119 #[.func (.func 111) #[] #[],.slice a4 nk c4] W λe w'=>e=.returned (.bool q4)/\Below W.heap.size W w') :
  Calls Tryz.prog 64 #[.agg #[.bool ask,.bool dist,.slice a1 nv c1,.slice a2 np c2,.slice a3 nf c3,.slice a4 nk c4,.int .i64 lim,.int .i64 off]] w λe w'=>e=.returned (.bool (Ju q1 q2 q3 q4))/\Below w.heap.size w w':=by
 have hB0:Below w.heap.size w (w.alloc (.cells #[.bool ask,.bool dist,.slice a1 nv c1,.slice a2 np c2,.slice a3 nf c3,.slice a4 nk c4,.int .i64 lim,.int .i64 off] 28)):=blw
 obtain⟨h1,h2,h3,h4⟩:(np:Int)<=6/\(nf:Int)<=6/\(nv:Int)<=12/\(nk:Int)<=4:=by
  simp[m6]at h
  omega
 clear h
 have hN:=λW=>zg off W
 have hM:=λW=>zg lim W
 unfold jM at hn
 obtain⟨h5,h6⟩:0<=off/\off<=1099511627776:=by
  simp[gG]at hn
  omega
 have hn1:gG off=true:=by simp[gG,h5,h6]
 have hn2:lim = -1∨(lim ≠ -1/\gG lim=true):=by
  rw[hn1]at hn
  by_cases e:lim = -1
  ·exact .inl e
  ·exact .inr ⟨e,by simpa[e] using hn⟩
 rw[hn1]at hN
 clear hn hn1
 have hd:ask=false∨(ask=true/\dist=false/\(nv:Int)+nk+off<=0/\lim = -1):=by
  cases ask
  ·exact .inl rfl
  ·right
   simp[AN]at ha
   exact⟨rfl,ha.1.1,by omega,ha.2⟩
 clear ha
 obtain⟨res,hres⟩:∃r,Ju q1 q2 q3 q4=r:=⟨_,rfl⟩
 rw[hres]
 have Hres:=Lib.hid hres
 clear hres
 have hP0:=hP _ hB0
 clear hP
 have hway:(ask=false/\lim = -1)∨(ask=false/\lim ≠ -1/\gG lim=true)∨(ask=true/\dist=false/\(nv:Int)+nk+off<=0/\lim = -1):=by
  rcases hd with rfl|⟨rfl,rfl,hs,rfl⟩
  ·rcases hn2 with rfl|⟨hl,hl2⟩
   ·exact .inl ⟨rfl,rfl⟩
   ·exact .inr (.inl ⟨rfl,hl,hl2⟩)
  ·exact .inr (.inr ⟨rfl,rfl,hs,rfl⟩)
 clear hd hn2
 rcases hway with ⟨rfl,rfl⟩|⟨rfl,hl,hl2⟩|⟨rfl,rfl,hs,rfl⟩
 ·clear hM
  go_enter Tryz.func64,Tryz.ntmps64
  go_wp2_with (go_at_call 113;first|(refine(hN _).mono ?_;rintro e w' ⟨rfl,rfl⟩))
  go_wp2_with fail
  refine hP0.mono ?_
  rintro e w2 ⟨rfl,hb2⟩
  have hb02:=aa hB0 hb2
  obtain⟨hc,hf⟩:=bD hb2
  have hE0:=hE _ hb02
  clear hP0 hE
  cases q1
  ·go_wp2
   go_ret
   exact⟨by rw[←Hres.out];rfl,hb02⟩
  go_wp2_with fail
  refine hE0.mono ?_
  rintro e w3 ⟨rfl,hb3⟩
  have hb03:=aa hb02 hb3
  have hb23:=aa hb2 hb3
  clear hc hf
  obtain⟨hc,hf⟩:=bD hb23
  have hV0:=hV _ hb03
  clear hE0 hV hb2 hb3 hb02
  cases q2
  ·go_wp2
   go_ret
   exact⟨by rw[←Hres.out];rfl,hb03⟩
  go_wp2_with fail
  refine hV0.mono ?_
  rintro e w4 ⟨rfl,hb4⟩
  have hb04:=aa hb03 hb4
  have hb24:=aa hb23 hb4
  clear hc hf
  obtain⟨hc,hf⟩:=bD hb24
  have hK0:=hK _ hb04
  clear hV0 hK hb4 hb03 hb23
  cases q3
  ·go_wp2
   go_ret
   exact⟨by rw[←Hres.out];rfl,hb04⟩
  go_wp2_with fail
  refine hK0.mono ?_
  rintro e w5 ⟨rfl,hb5⟩
  have hb05:=aa hb04 hb5
  clear hK0 hc hf hb24 hb04
  go_wp2
  go_ret
  exact⟨by rw[←Hres.out];cases q4<;>rfl,hb05⟩
 ·rw[hl2]at hM
  clear hl2
  go_enter Tryz.func64,Tryz.ntmps64
  go_wp2_with (go_at_call 113;first|(refine(hN _).mono ?_;rintro e w' ⟨rfl,rfl⟩)|(refine(hM _).mono ?_;rintro e w' ⟨rfl,rfl⟩))
  go_wp2_with fail
  refine hP0.mono ?_
  rintro e w2 ⟨rfl,hb2⟩
  have hb02:=aa hB0 hb2
  obtain⟨hc,hf⟩:=bD hb2
  have hE0:=hE _ hb02
  clear hP0 hE
  cases q1
  ·go_wp2
   go_ret
   exact⟨by rw[←Hres.out];rfl,hb02⟩
  go_wp2_with fail
  refine hE0.mono ?_
  rintro e w3 ⟨rfl,hb3⟩
  have hb03:=aa hb02 hb3
  have hb23:=aa hb2 hb3
  clear hc hf
  obtain⟨hc,hf⟩:=bD hb23
  have hV0:=hV _ hb03
  clear hE0 hV hb2 hb3 hb02
  cases q2
  ·go_wp2
   go_ret
   exact⟨by rw[←Hres.out];rfl,hb03⟩
  go_wp2_with fail
  refine hV0.mono ?_
  rintro e w4 ⟨rfl,hb4⟩
  have hb04:=aa hb03 hb4
  have hb24:=aa hb23 hb4
  clear hc hf
  obtain⟨hc,hf⟩:=bD hb24
  have hK0:=hK _ hb04
  clear hV0 hK hb4 hb03 hb23
  cases q3
  ·go_wp2
   go_ret
   exact⟨by rw[←Hres.out];rfl,hb04⟩
  go_wp2_with fail
  refine hK0.mono ?_
  rintro e w5 ⟨rfl,hb5⟩
  have hb05:=aa hb04 hb5
  clear hK0 hc hf hb24 hb04
  go_wp2
  go_ret
  exact⟨by rw[←Hres.out];cases q4<;>rfl,hb05⟩
 ·clear hM
  go_enter Tryz.func64,Tryz.ntmps64
  go_wp2_with (go_at_call 113;first|(refine(hN _).mono ?_;rintro e w' ⟨rfl,rfl⟩))
  go_wp2_with fail
  refine hP0.mono ?_
  rintro e w2 ⟨rfl,hb2⟩
  have hb02:=aa hB0 hb2
  obtain⟨hc,hf⟩:=bD hb2
  have hE0:=hE _ hb02
  clear hP0 hE
  cases q1
  ·go_wp2
   go_ret
   exact⟨by rw[←Hres.out];rfl,hb02⟩
  go_wp2_with fail
  refine hE0.mono ?_
  rintro e w3 ⟨rfl,hb3⟩
  have hb03:=aa hb02 hb3
  have hb23:=aa hb2 hb3
  clear hc hf
  obtain⟨hc,hf⟩:=bD hb23
  have hV0:=hV _ hb03
  clear hE0 hV hb2 hb3 hb02
  cases q2
  ·go_wp2
   go_ret
   exact⟨by rw[←Hres.out];rfl,hb03⟩
  go_wp2_with fail
  refine hV0.mono ?_
  rintro e w4 ⟨rfl,hb4⟩
  have hb04:=aa hb03 hb4
  have hb24:=aa hb23 hb4
  clear hc hf
  obtain⟨hc,hf⟩:=bD hb24
  have hK0:=hK _ hb04
  clear hV0 hK hb4 hb03 hb23
  cases q3
  ·go_wp2
   go_ret
   exact⟨by rw[←Hres.out];rfl,hb04⟩
  go_wp2_with fail
  refine hK0.mono ?_
  rintro e w5 ⟨rfl,hb5⟩
  have hb05:=aa hb04 hb5
  clear hK0 hc hf hb24 hb04
  go_wp2
  go_ret
  exact⟨by rw[←Hres.out];cases q4<;>rfl,hb05⟩
def RdQ (n:Nat) (w:World) (cs:List Value) (q:Qy n):Prop:=∃(a1 a2 a3 a4:Option Addr) (c1 c2 c3 c4:Nat),
 cs=[.bool q.ask,.bool q.dist,.slice a1 q.vars.length c1,.slice a2 q.pats.length c2,.slice a3 q.fils.length c3,.slice a4 q.ord.length c4,.int .i64 q.lim,.int .i64 q.off] /\
 (q.vars.length<=c1/\q.pats.length<=c2/\q.fils.length<=c3/\q.ord.length<=c4)/\Rd w a1 (q.vars.map Value.string)/\bI w a2 q.pats/\aJ n w a3 q.fils/\eN w a4 q.ord
def szQ {n:Nat} (q:Qy n):Prop:=q.vars.length<=281474976710656/\q.pats.length<=281474976710656/\q.fils.length<=1353245080300/\q.ord.length<=281474976710656/\(∀x∈q.vars,x.size<=281474976710656)/\(∀x∈q.pats,szP x)/\(∀x∈q.fils,szX n x)/\∀x∈q.ord,x.v.size<=281474976710656
theorem Ej {w:World} {A:Option Addr} {l:List ByteArray} (h:Rd w A (l.map Value.string)):uS w A l:=by
 refine⟨_,h,?_⟩
 clear h
 induction l with
 | nil=>rfl
 | cons a r ih=>exact⟨[.string a],_,rfl,rfl,rfl,ih⟩
theorem GT (n:Nat) (q:Qy n) (cs:List Value) (w:World) (hC:Ctx w) (hr:RdQ n w cs q) (hz:szQ q) :
  Calls Tryz.prog 64 #[.agg cs.toArray] w λe w'=>e=.returned (.bool (fj q))/\Below w.heap.size w w':=by
 obtain⟨a1,a2,a3,a4,c1,c2,c3,c4,rfl,_,h1,h2,h3,h4⟩:=hr
 obtain⟨z1,z2,z3,z4,y1,y2,y3,y4⟩:=hz
 unfold fj
 cases hf:m6 q.pats.length q.fils.length q.vars.length q.ord.length
 ·exact zd q.ask q.dist q.pats.length q.fils.length q.vars.length q.ord.length q.lim q.off a1 a2 a3 a4 c1 c2 c3 c4 w hf (by omega)
 cases hn:jM q.lim q.off
 ·exact zc q.ask q.dist q.pats.length q.fils.length q.vars.length q.ord.length q.lim q.off a1 a2 a3 a4 c1 c2 c3 c4 w hf hn
 cases ha:AN q.ask q.dist q.vars.length q.ord.length q.lim q.off
 ·exact ze q.ask q.dist q.pats.length q.fils.length q.vars.length q.ord.length q.lim q.off a1 a2 a3 a4 c1 c2 c3 c4 w hf hn ha
 obtain⟨f1,f2,f3,f4⟩:q.pats.length<=6/\q.fils.length<=6/\q.vars.length<=12/\q.ord.length<=4:=by
  simpa[m6] using hf
 exact zf q.ask q.dist q.pats.length q.fils.length q.vars.length q.ord.length q.lim q.off a1 a2 a3 a4 c1 c2 c3 c4 (q.pats.all zl) (q.fils.all (jW n)) (q.vars.all dO) (q.ord.all λy=>dO y.v) w hf hn ha
  (λW hb=>zW q.pats a2 c2 W (hC.step hb) (by omega) (RdL.mono h2 hb λ_ _ _ h=>h) y2)
  (λW hb=>wE n q.fils a3 c3 W (hC.step hb) (by omega) (aJ.later h3 hb) y3)
  (λW hb=>wD q.vars a1 c1 W (by omega) (RdL.mono (Ej h1) hb λ_ _ _ h=>h) y1)
  (λW hb=>zX q.ord a4 c4 W (by omega) (RdL.mono h4 hb λ_ _ _ h=>h) y4)
theorem RdQ.later {n:Nat} {w w':World} {cs:List Value} {q:Qy n} (h:RdQ n w cs q) (hb:Below w.heap.size w w'):RdQ n w' cs q:=by
 obtain⟨a1,a2,a3,a4,c1,c2,c3,c4,h0,hc,h1,h2,h3,h4⟩:=h
 exact⟨a1,a2,a3,a4,c1,c2,c3,c4,h0,hc,h1.later hb,RdL.mono h2 hb (λ_ _ _ h=>h),aJ.later h3 hb,RdL.mono h4 hb (λ_ _ _ h=>h)⟩
open Go.ChangeShapes Go.WideShapes Go.ChangeAt Go.Lib Go.Joins Go.Deep
def szTw (t:Tm):Prop:=t.x.size<=140737488351232/\t.l.size<=140737488351232/\t.y.size<=140737488351232
def szSw (s:Sl):Prop:=s.v.size<=140737488351232/\szTw s.t
def szPw (p:Pat):Prop:=szSw p.s/\szSw p.p/\szSw p.o
namespace Wd
section
variable {H:Type} {enc:TypeId × Value->H}
theorem opens_term (w:World) (f:Nat):qG enc Tryz.prog w f 62 4 (λcs (t:Tm)=>cs=tmC t) szTw:=by
 intro cs d ps h hs
 obtain⟨xs,n,_,hx,hl,hlen,hf⟩:=DataW.trod_struct Tryz.underlying62 h
 have hd:d=.agg (xs.map (·.1)):=congrArg Prod.fst hx
 subst hd
 have hc:Tryz.prog.cellsOf 62=4:=by kernel_rfl
 have c1:Tryz.prog.cellsOf 9=1:=by kernel_rfl
 have c0:Tryz.prog.cellsOf 60=1:=by kernel_rfl
 rw[hc]at hl
 match cs,hl,xs,hlen with
 | [v0,v1,v2,v3],_,[y0,y1,y2,y3],_ =>
  have g0:=hf 0 _ rfl
  have g1:=hf 1 _ rfl
  have g2:=hf 2 _ rfl
  have g3:=hf 3 _ rfl
  simp[c0,c1]at g0 g1 g2 g3
  obtain⟨k,e0,_,_⟩:=DataW.trod_int Tryz.underlying60 g0
  obtain⟨x,e1,q1,_⟩:=DataW.trod_string Tryz.underlying9 g1
  obtain⟨l,e2,q2,_⟩:=DataW.trod_string Tryz.underlying9 g2
  obtain⟨y,e3,q3,_⟩:=DataW.trod_string Tryz.underlying9 g3
  simp at e0 e1 e2 e3
  refine⟨⟨k,x,l,y⟩,by simp[tmC,e0,e1,e2,e3],rfl,?_⟩
  have hs1:dB Tryz.prog 9 y1.1:=hs.field Tryz.underlying62 (i:=1) rfl rfl
  have hs2:dB Tryz.prog 9 y2.1:=hs.field Tryz.underlying62 (i:=2) rfl rfl
  have hs3:dB Tryz.prog 9 y3.1:=hs.field Tryz.underlying62 (i:=3) rfl rfl
  rw[q1]at hs1
  rw[q2]at hs2
  rw[q3]at hs3
  exact⟨dG hs1,dG hs2,dG hs3⟩
theorem jc (w:World) (f:Nat):qG enc Tryz.prog w f 70 5 (λcs (s:Sl)=>cs=slC s) szSw:=by
 intro cs d ps h hs
 obtain⟨xs,n,_,hx,hl,hlen,hf⟩:=DataW.trod_struct Tryz.underlying70 h
 have hd:d=.agg (xs.map (·.1)):=congrArg Prod.fst hx
 subst hd
 have hc:Tryz.prog.cellsOf 70=5:=by kernel_rfl
 have c1:Tryz.prog.cellsOf 9=1:=by kernel_rfl
 have c2:Tryz.prog.cellsOf 62=4:=by kernel_rfl
 rw[hc]at hl
 match cs,hl,xs,hlen with
 | [v0,v1,v2,v3,v4],_,[y0,y1],_ =>
  have g0:=hf 0 _ rfl
  have g1:=hf 1 _ rfl
  simp[c1,c2]at g0 g1
  have hs1:dB Tryz.prog 62 y1.1:=hs.field Tryz.underlying70 (i:=1) rfl rfl
  have hs0:dB Tryz.prog 9 y0.1:=hs.field Tryz.underlying70 (i:=0) rfl rfl
  obtain⟨v,e0,q0,_⟩:=DataW.trod_string Tryz.underlying9 g0
  rw[q0]at hs0
  obtain⟨t,e1,_,zt⟩:=opens_term w _ _ y1.1 y1.2 g1 hs1
  simp[tmC]at e0 e1
  obtain⟨e1a,e1b,e1c,e1d⟩:=e1
  exact⟨⟨v,t⟩,by simp[slC,e0,e1a,e1b,e1c,e1d],rfl,dG hs0,zt⟩
theorem opens_pat (w:World) (f:Nat):qG enc Tryz.prog w f 72 15 (λcs (p:Pat)=>cs=cPat p) szPw:=by
 intro cs d ps h hs
 obtain⟨xs,n,_,hx,hl,hlen,hf⟩:=DataW.trod_struct Tryz.underlying72 h
 have hd:d=.agg (xs.map (·.1)):=congrArg Prod.fst hx
 subst hd
 have hc:Tryz.prog.cellsOf 72=15:=by kernel_rfl
 have c1:Tryz.prog.cellsOf 70=5:=by kernel_rfl
 rw[hc]at hl
 match cs,hl,xs,hlen with
 | [v0,v1,v2,v3,v4,v5,v6,v7,v8,v9,v10,v11,v12,v13,v14],_,[y0,y1,y2],_ =>
  have g0:=hf 0 _ rfl
  have g1:=hf 1 _ rfl
  have g2:=hf 2 _ rfl
  simp[c1]at g0 g1 g2
  obtain⟨s,e0,_,z0⟩:=jc w _ _ y0.1 y0.2 g0 (hs.field Tryz.underlying72 (i:=0) rfl rfl)
  obtain⟨p,e1,_,z1⟩:=jc w _ _ y1.1 y1.2 g1 (hs.field Tryz.underlying72 (i:=1) rfl rfl)
  obtain⟨o,e2,_,z2⟩:=jc w _ _ y2.1 y2.2 g2 (hs.field Tryz.underlying72 (i:=2) rfl rfl)
  simp[slC]at e0 e1 e2
  refine⟨⟨s,p,o⟩,?_,rfl,z0,z1,z2⟩
  simp[cPat,e0,e1,e2]
end
end Wd
end Go.Proofs.YtfcbghmbbjolcaaGreatDoor
