/- The program's package query, walked: every (printed by gen/e -/
import Derived.Test.YtoaemihcbmlkgaaGreatDoorJQExpr
set_option maxHeartbeats 4000000
set_option maxRecDepth 100000
namespace Go.Proofs.YtoaemihcbmlkgaaGreatDoor
open Go Go.RowKit Go.Shelf Um Fm
attribute [local go_sem] Oper.semAt_some
structure Ky where
 v:ByteArray
 d:Bool
def FnS (F:FuncId) (caps:Array Value) (V:Value) (b:Bool) (w:World):Prop:=
 ∀W:World,Below w.heap.size w W->Calls Tryz.prog F (#[V]++caps) W λe w'=>e=.returned (.bool b)/\Below W.heap.size W w'
theorem FnS.later {F:FuncId} {caps:Array Value} {V:Value} {b:Bool} {w w':World} (h:FnS F caps V b w) (hb:Below w.heap.size w w'):FnS F caps V b w':=λW hW=>h W (below_tr hb hW)
theorem any_not {α:Type} (l:List α) (p:α->Bool):(!l.any λx => !p x)=l.all p:=by
 induction l with
 | nil=>rfl
 | cons a l ih=>rw[List.any_cons,List.all_cons,←ih];cases p a<;>simp
def cPat (y:Pat):List Value:=[.string y.s.v,.int .i64 y.s.t.k,.string y.s.t.x,.string y.s.t.l,.string y.s.t.y,.string y.p.v,.int .i64 y.p.t.k,.string y.p.t.x,.string y.p.t.l,.string y.p.t.y,.string y.o.v,.int .i64 y.o.t.k,.string y.o.t.x,.string y.o.t.l,.string y.o.t.y]
def vPat (y:Pat):Value:=.agg #[.string y.s.v,.int .i64 y.s.t.k,.string y.s.t.x,.string y.s.t.l,.string y.s.t.y,.string y.p.v,.int .i64 y.p.t.k,.string y.p.t.x,.string y.p.t.l,.string y.p.t.y,.string y.o.v,.int .i64 y.o.t.k,.string y.o.t.x,.string y.o.t.l,.string y.o.t.y]
abbrev RdPat (w:World) (A:Option Addr) (l:List Pat):Prop:=RdL 15 (λcs y=>cs=cPat y) w A l
theorem idxPat (F:FuncId) (caps:Array Value) (eg:∀args W,(callFunc F args).run Tryz.prog W=.ok (.enter F args) W) (p:Pat->Bool) (l:List Pat) (A:Option Addr) (c:Nat) (w:World) (hl:l.length<=1000) (hr:RdPat w A l)
  (hS:∀x∈l,FnS F caps (vPat x) (p x) w) :
  Calls Tryz.prog 211 #[.slice A l.length c,.func (.func F) #[] caps] w λe w'=>∃i:Int,e=.returned (.int .i64 i)/\IdxIs i (l.any p)/\Below w.heap.size w w':=by
 have hl':(l.length:Int)<=1000:=by omega
 go_enter Tryz.func211,Tryz.ntmps211
 go_wp2
 go_loopw [8] (λi wr=>∃k:Nat,k<=l.length/\i=.int .i64 k/\Hid (l.any p=(l.drop k).any p)/\Below w.heap.size w wr) (λi _=>l.length-(intOf i).toNat)
 case atStart=>exact⟨0,by omega,rfl,rfl,Below.refl _ _⟩
 case round =>
  obtain⟨k,hk,rfl,H,hB⟩:=hrel
  by_cases hlt:k<l.length
  ·obtain⟨y,hx⟩:∃x,l[k]?=some x:=⟨_,List.getElem?_eq_getElem hlt⟩
   obtain⟨g,o,cs,rfl,-,hR,hx2⟩:=(RdL.mono hr hB (λ_ _ _ h=>h)).at_ (by omega) hx
   subst hR
   have c0:wr.cell? ⟨g,o+k*15,none⟩=some (.string y.s.v):=hx2 0 _ rfl
   have c1:wr.cell? ⟨g,o+k*15+1,none⟩=some (.int .i64 y.s.t.k):=hx2 1 _ rfl
   have c2:wr.cell? ⟨g,o+k*15+2,none⟩=some (.string y.s.t.x):=hx2 2 _ rfl
   have c3:wr.cell? ⟨g,o+k*15+3,none⟩=some (.string y.s.t.l):=hx2 3 _ rfl
   have c4:wr.cell? ⟨g,o+k*15+4,none⟩=some (.string y.s.t.y):=hx2 4 _ rfl
   have c5:wr.cell? ⟨g,o+k*15+5,none⟩=some (.string y.p.v):=hx2 5 _ rfl
   have c6:wr.cell? ⟨g,o+k*15+6,none⟩=some (.int .i64 y.p.t.k):=hx2 6 _ rfl
   have c7:wr.cell? ⟨g,o+k*15+7,none⟩=some (.string y.p.t.x):=hx2 7 _ rfl
   have c8:wr.cell? ⟨g,o+k*15+8,none⟩=some (.string y.p.t.l):=hx2 8 _ rfl
   have c9:wr.cell? ⟨g,o+k*15+9,none⟩=some (.string y.p.t.y):=hx2 9 _ rfl
   have c10:wr.cell? ⟨g,o+k*15+10,none⟩=some (.string y.o.v):=hx2 10 _ rfl
   have c11:wr.cell? ⟨g,o+k*15+11,none⟩=some (.int .i64 y.o.t.k):=hx2 11 _ rfl
   have c12:wr.cell? ⟨g,o+k*15+12,none⟩=some (.string y.o.t.x):=hx2 12 _ rfl
   have c13:wr.cell? ⟨g,o+k*15+13,none⟩=some (.string y.o.t.l):=hx2 13 _ rfl
   have c14:wr.cell? ⟨g,o+k*15+14,none⟩=some (.string y.o.t.y):=hx2 14 _ rfl
   have hd:=drop_cons_of hx
   have hc:=hS y (List.mem_of_getElem? hx) wr hB
   have H2:Hid (l.any p=(p y || (l.drop (k+1)).any p)):=by
    show _=_
    rw[H.out,hd,List.any_cons]
   have HBB:=Lib.hid hB
   unfold vPat at hc
   clear hx hd H hr hS hB hx2
   generalize p y=q at *
   cases q
   ·go_wp2_with (go_at_fn F;refine hc.mono ?_;rintro e w1 ⟨rfl,hb1⟩)
    go_roundw
    case rel=>exact⟨k+1,by omega,by go_num,by show _=_;rw[H2.out];rfl,below_tr HBB.out hb1⟩
    case measure=>simp[intOf];omega
   ·go_wp2_with (go_at_fn F;refine hc.mono ?_;rintro e w1 ⟨rfl,hb1⟩)
    go_ret
    exact⟨k,rfl,by show decide _=_;rw[H2.out];simp,below_tr HBB.out hb1⟩
  ·have H2:Hid (l.any p=false):=by
    show _=_
    rw[H.out,List.drop_eq_nil_of_le (by omega)];rfl
   clear H hS hr
   go_wp2
   go_ret
   exact⟨-1,rfl,by show decide _=_;rw[H2.out];rfl,hB⟩
theorem hasPat (F:FuncId) (caps:Array Value) (eg:∀args W,(callFunc F args).run Tryz.prog W=.ok (.enter F args) W) (p:Pat->Bool) (l:List Pat) (A:Option Addr) (c:Nat) (w:World) (hl:l.length<=1000) (hr:RdPat w A l)
  (hS:∀x∈l,FnS F caps (vPat x) (p x) w) :
  Calls Tryz.prog 162 #[.slice A l.length c,.func (.func F) #[] caps] w λe w'=>e=.returned (.bool (l.any p))/\Below w.heap.size w w':=by
 have hi:=idxPat F caps eg p l A c w hl hr hS
 clear hr hS
 go_enter Tryz.func162,Tryz.ntmps162
 go_wp2_with (go_at_call 211;refine hi.mono ?_;rintro e w1 ⟨i,rfl,hd,hb1⟩;have Hd:=Lib.hid hd;clear hd)
 go_ret
 exact⟨by have:=Hd.out;unfold IdxIs at this;rw[←this];rfl,hb1⟩
theorem every1Pat (G:FuncId) (eg:∀args W,(callFunc G args).run Tryz.prog W=.ok (.enter G args) W) (y:Pat) (b:Bool) (k:Nat) (w:World) (hc:w.cell? ⟨k,0,none⟩=some (.func (.func G) #[] #[])) (h:FnS G #[] (vPat y) b w) :
  Calls Tryz.prog 163 #[vPat y,.pointer (some ⟨k,0,none⟩)] w λe w'=>e=.returned (.bool (!b))/\Below w.heap.size w w':=by
 have hB0:Below w.heap.size w (w.alloc (.cells #[.string y.s.v,.int .i64 y.s.t.k,.string y.s.t.x,.string y.s.t.l,.string y.s.t.y,.string y.p.v,.int .i64 y.p.t.k,.string y.p.t.x,.string y.p.t.l,.string y.p.t.y,.string y.o.v,.int .i64 y.o.t.k,.string y.o.t.x,.string y.o.t.l,.string y.o.t.y] 43)):=blw
 have hk:=cell_lt hc
 have hk2:k<w.heap.size:=hk
 have hq:=h _ hB0
 unfold vPat at hq ⊢
 clear h
 go_enter Tryz.func163,Tryz.ntmps163
 go_wp2_with (go_at_fn G;refine hq.mono ?_;rintro e w2 ⟨rfl,hb2⟩)
 go_ret
 exact⟨rfl,below_tr hB0 hb2⟩
theorem everyPat (G:FuncId) (eg:∀args W,(callFunc G args).run Tryz.prog W=.ok (.enter G args) W) (p:Pat->Bool) (l:List Pat) (A:Option Addr) (c:Nat) (w:World) (hl:l.length<=1000) (hr:RdPat w A l)
  (hS:∀x∈l,FnS G #[] (vPat x) (p x) w) :
  Calls Tryz.prog 109 #[.func (.func G) #[] #[],.slice A l.length c] w λe w'=>e=.returned (.bool (l.all p))/\Below w.heap.size w w':=by
 obtain⟨W1,hW1⟩:∃W,w.alloc (.cells #[.func (.func G) #[] #[]] 181)=W:=⟨_,rfl⟩
 have hB0:Below w.heap.size w W1:=by rw[←hW1];exact blw
 have hcell:W1.cell? ⟨w.heap.size,0,none⟩=some (.func (.func G) #[] #[]):=by rw[←hW1,World.cell?,heap_alloc_new];rfl
 have hh:=hasPat 163 #[.pointer (some ⟨w.heap.size,0,none⟩)] (enters_of Tryz.func163 (by kernel_rfl) rfl) (λx => !p x) l A c W1 hl (RdL.mono hr hB0 (λ_ _ _ h=>h)) (λx hx W hW=>every1Pat G eg x (p x) w.heap.size W (cell_on hcell hW) ((hS x hx).later (below_tr hB0 hW)))
 rw[←any_not]
 subst hW1
 clear hr hS hcell
 go_enter Tryz.func109,Tryz.ntmps109
 go_wp2_with (go_at_call 162;refine hh.mono ?_;rintro e w2 ⟨rfl,hb2⟩)
 go_ret
 exact⟨rfl,below_tr hB0 hb2⟩
def cStr (y:ByteArray):List Value:=[.string y]
def vStr (y:ByteArray):Value:=.string y
abbrev RdStr (w:World) (A:Option Addr) (l:List ByteArray):Prop:=RdL 1 (λcs y=>cs=cStr y) w A l
theorem idxStr (F:FuncId) (caps:Array Value) (eg:∀args W,(callFunc F args).run Tryz.prog W=.ok (.enter F args) W) (p:ByteArray->Bool) (l:List ByteArray) (A:Option Addr) (c:Nat) (w:World) (hl:l.length<=1000) (hr:RdStr w A l)
  (hS:∀x∈l,FnS F caps (vStr x) (p x) w) :
  Calls Tryz.prog 217 #[.slice A l.length c,.func (.func F) #[] caps] w λe w'=>∃i:Int,e=.returned (.int .i64 i)/\IdxIs i (l.any p)/\Below w.heap.size w w':=by
 have hl':(l.length:Int)<=1000:=by omega
 go_enter Tryz.func217,Tryz.ntmps217
 go_wp2
 go_loopw [8] (λi wr=>∃k:Nat,k<=l.length/\i=.int .i64 k/\Hid (l.any p=(l.drop k).any p)/\Below w.heap.size w wr) (λi _=>l.length-(intOf i).toNat)
 case atStart=>exact⟨0,by omega,rfl,rfl,Below.refl _ _⟩
 case round =>
  obtain⟨k,hk,rfl,H,hB⟩:=hrel
  by_cases hlt:k<l.length
  ·obtain⟨y,hx⟩:∃x,l[k]?=some x:=⟨_,List.getElem?_eq_getElem hlt⟩
   obtain⟨g,o,cs,rfl,-,hR,hx2⟩:=(RdL.mono hr hB (λ_ _ _ h=>h)).at_ (by omega) hx
   subst hR
   have c0:wr.cell? ⟨g,o+k,none⟩=some (.string y):=by have:=hx2 0 _ rfl;rw[Nat.mul_one]at this;exact this
   have hd:=drop_cons_of hx
   have hc:=hS y (List.mem_of_getElem? hx) wr hB
   have H2:Hid (l.any p=(p y || (l.drop (k+1)).any p)):=by
    show _=_
    rw[H.out,hd,List.any_cons]
   have HBB:=Lib.hid hB
   unfold vStr at hc
   clear hx hd H hr hS hB hx2
   generalize p y=q at *
   cases q
   ·go_wp2_with (go_at_fn F;refine hc.mono ?_;rintro e w1 ⟨rfl,hb1⟩)
    go_roundw
    case rel=>exact⟨k+1,by omega,by go_num,by show _=_;rw[H2.out];rfl,below_tr HBB.out hb1⟩
    case measure=>simp[intOf];omega
   ·go_wp2_with (go_at_fn F;refine hc.mono ?_;rintro e w1 ⟨rfl,hb1⟩)
    go_ret
    exact⟨k,rfl,by show decide _=_;rw[H2.out];simp,below_tr HBB.out hb1⟩
  ·have H2:Hid (l.any p=false):=by
    show _=_
    rw[H.out,List.drop_eq_nil_of_le (by omega)];rfl
   clear H hS hr
   go_wp2
   go_ret
   exact⟨-1,rfl,by show decide _=_;rw[H2.out];rfl,hB⟩
theorem hasStr (F:FuncId) (caps:Array Value) (eg:∀args W,(callFunc F args).run Tryz.prog W=.ok (.enter F args) W) (p:ByteArray->Bool) (l:List ByteArray) (A:Option Addr) (c:Nat) (w:World) (hl:l.length<=1000) (hr:RdStr w A l)
  (hS:∀x∈l,FnS F caps (vStr x) (p x) w) :
  Calls Tryz.prog 169 #[.slice A l.length c,.func (.func F) #[] caps] w λe w'=>e=.returned (.bool (l.any p))/\Below w.heap.size w w':=by
 have hi:=idxStr F caps eg p l A c w hl hr hS
 clear hr hS
 go_enter Tryz.func169,Tryz.ntmps169
 go_wp2_with (go_at_call 217;refine hi.mono ?_;rintro e w1 ⟨i,rfl,hd,hb1⟩;have Hd:=Lib.hid hd;clear hd)
 go_ret
 exact⟨by have:=Hd.out;unfold IdxIs at this;rw[←this];rfl,hb1⟩
theorem every1Str (G:FuncId) (eg:∀args W,(callFunc G args).run Tryz.prog W=.ok (.enter G args) W) (y:ByteArray) (b:Bool) (k:Nat) (w:World) (hc:w.cell? ⟨k,0,none⟩=some (.func (.func G) #[] #[])) (h:FnS G #[] (vStr y) b w) :
  Calls Tryz.prog 170 #[vStr y,.pointer (some ⟨k,0,none⟩)] w λe w'=>e=.returned (.bool (!b))/\Below w.heap.size w w':=by
 have hB0:Below w.heap.size w w:=blw
 have hk:=cell_lt hc
 have hk2:k<w.heap.size:=hk
 have hq:=h _ hB0
 unfold vStr at hq ⊢
 clear h
 go_enter Tryz.func170,Tryz.ntmps170
 go_wp2_with (go_at_fn G;refine hq.mono ?_;rintro e w2 ⟨rfl,hb2⟩)
 go_ret
 exact⟨rfl,below_tr hB0 hb2⟩
theorem everyStr (G:FuncId) (eg:∀args W,(callFunc G args).run Tryz.prog W=.ok (.enter G args) W) (p:ByteArray->Bool) (l:List ByteArray) (A:Option Addr) (c:Nat) (w:World) (hl:l.length<=1000) (hr:RdStr w A l)
  (hS:∀x∈l,FnS G #[] (vStr x) (p x) w) :
  Calls Tryz.prog 113 #[.func (.func G) #[] #[],.slice A l.length c] w λe w'=>e=.returned (.bool (l.all p))/\Below w.heap.size w w':=by
 obtain⟨W1,hW1⟩:∃W,w.alloc (.cells #[.func (.func G) #[] #[]] 127)=W:=⟨_,rfl⟩
 have hB0:Below w.heap.size w W1:=by rw[←hW1];exact blw
 have hcell:W1.cell? ⟨w.heap.size,0,none⟩=some (.func (.func G) #[] #[]):=by rw[←hW1,World.cell?,heap_alloc_new];rfl
 have hh:=hasStr 170 #[.pointer (some ⟨w.heap.size,0,none⟩)] (enters_of Tryz.func170 (by kernel_rfl) rfl) (λx => !p x) l A c W1 hl (RdL.mono hr hB0 (λ_ _ _ h=>h)) (λx hx W hW=>every1Str G eg x (p x) w.heap.size W (cell_on hcell hW) ((hS x hx).later (below_tr hB0 hW)))
 rw[←any_not]
 subst hW1
 clear hr hS hcell
 go_enter Tryz.func113,Tryz.ntmps113
 go_wp2_with (go_at_call 169;refine hh.mono ?_;rintro e w2 ⟨rfl,hb2⟩)
 go_ret
 exact⟨rfl,below_tr hB0 hb2⟩
def cKey (y:Ky):List Value:=[.string y.v,.bool y.d]
def vKey (y:Ky):Value:=.agg #[.string y.v,.bool y.d]
abbrev RdKey (w:World) (A:Option Addr) (l:List Ky):Prop:=RdL 2 (λcs y=>cs=cKey y) w A l
theorem idxKey (F:FuncId) (caps:Array Value) (eg:∀args W,(callFunc F args).run Tryz.prog W=.ok (.enter F args) W) (p:Ky->Bool) (l:List Ky) (A:Option Addr) (c:Nat) (w:World) (hl:l.length<=1000) (hr:RdKey w A l)
  (hS:∀x∈l,FnS F caps (vKey x) (p x) w) :
  Calls Tryz.prog 218 #[.slice A l.length c,.func (.func F) #[] caps] w λe w'=>∃i:Int,e=.returned (.int .i64 i)/\IdxIs i (l.any p)/\Below w.heap.size w w':=by
 have hl':(l.length:Int)<=1000:=by omega
 go_enter Tryz.func218,Tryz.ntmps218
 go_wp2
 go_loopw [8] (λi wr=>∃k:Nat,k<=l.length/\i=.int .i64 k/\Hid (l.any p=(l.drop k).any p)/\Below w.heap.size w wr) (λi _=>l.length-(intOf i).toNat)
 case atStart=>exact⟨0,by omega,rfl,rfl,Below.refl _ _⟩
 case round =>
  obtain⟨k,hk,rfl,H,hB⟩:=hrel
  by_cases hlt:k<l.length
  ·obtain⟨y,hx⟩:∃x,l[k]?=some x:=⟨_,List.getElem?_eq_getElem hlt⟩
   obtain⟨g,o,cs,rfl,-,hR,hx2⟩:=(RdL.mono hr hB (λ_ _ _ h=>h)).at_ (by omega) hx
   subst hR
   have c0:wr.cell? ⟨g,o+k*2,none⟩=some (.string y.v):=hx2 0 _ rfl
   have c1:wr.cell? ⟨g,o+k*2+1,none⟩=some (.bool y.d):=hx2 1 _ rfl
   have hd:=drop_cons_of hx
   have hc:=hS y (List.mem_of_getElem? hx) wr hB
   have H2:Hid (l.any p=(p y || (l.drop (k+1)).any p)):=by
    show _=_
    rw[H.out,hd,List.any_cons]
   have HBB:=Lib.hid hB
   unfold vKey at hc
   clear hx hd H hr hS hB hx2
   generalize p y=q at *
   cases q
   ·go_wp2_with (go_at_fn F;refine hc.mono ?_;rintro e w1 ⟨rfl,hb1⟩)
    go_roundw
    case rel=>exact⟨k+1,by omega,by go_num,by show _=_;rw[H2.out];rfl,below_tr HBB.out hb1⟩
    case measure=>simp[intOf];omega
   ·go_wp2_with (go_at_fn F;refine hc.mono ?_;rintro e w1 ⟨rfl,hb1⟩)
    go_ret
    exact⟨k,rfl,by show decide _=_;rw[H2.out];simp,below_tr HBB.out hb1⟩
  ·have H2:Hid (l.any p=false):=by
    show _=_
    rw[H.out,List.drop_eq_nil_of_le (by omega)];rfl
   clear H hS hr
   go_wp2
   go_ret
   exact⟨-1,rfl,by show decide _=_;rw[H2.out];rfl,hB⟩
theorem hasKey (F:FuncId) (caps:Array Value) (eg:∀args W,(callFunc F args).run Tryz.prog W=.ok (.enter F args) W) (p:Ky->Bool) (l:List Ky) (A:Option Addr) (c:Nat) (w:World) (hl:l.length<=1000) (hr:RdKey w A l)
  (hS:∀x∈l,FnS F caps (vKey x) (p x) w) :
  Calls Tryz.prog 171 #[.slice A l.length c,.func (.func F) #[] caps] w λe w'=>e=.returned (.bool (l.any p))/\Below w.heap.size w w':=by
 have hi:=idxKey F caps eg p l A c w hl hr hS
 clear hr hS
 go_enter Tryz.func171,Tryz.ntmps171
 go_wp2_with (go_at_call 218;refine hi.mono ?_;rintro e w1 ⟨i,rfl,hd,hb1⟩;have Hd:=Lib.hid hd;clear hd)
 go_ret
 exact⟨by have:=Hd.out;unfold IdxIs at this;rw[←this];rfl,hb1⟩
theorem every1Key (G:FuncId) (eg:∀args W,(callFunc G args).run Tryz.prog W=.ok (.enter G args) W) (y:Ky) (b:Bool) (k:Nat) (w:World) (hc:w.cell? ⟨k,0,none⟩=some (.func (.func G) #[] #[])) (h:FnS G #[] (vKey y) b w) :
  Calls Tryz.prog 172 #[vKey y,.pointer (some ⟨k,0,none⟩)] w λe w'=>e=.returned (.bool (!b))/\Below w.heap.size w w':=by
 have hB0:Below w.heap.size w (w.alloc (.cells #[.string y.v,.bool y.d] 177)):=blw
 have hk:=cell_lt hc
 have hk2:k<w.heap.size:=hk
 have hq:=h _ hB0
 unfold vKey at hq ⊢
 clear h
 go_enter Tryz.func172,Tryz.ntmps172
 go_wp2_with (go_at_fn G;refine hq.mono ?_;rintro e w2 ⟨rfl,hb2⟩)
 go_ret
 exact⟨rfl,below_tr hB0 hb2⟩
theorem everyKey (G:FuncId) (eg:∀args W,(callFunc G args).run Tryz.prog W=.ok (.enter G args) W) (p:Ky->Bool) (l:List Ky) (A:Option Addr) (c:Nat) (w:World) (hl:l.length<=1000) (hr:RdKey w A l)
  (hS:∀x∈l,FnS G #[] (vKey x) (p x) w) :
  Calls Tryz.prog 114 #[.func (.func G) #[] #[],.slice A l.length c] w λe w'=>e=.returned (.bool (l.all p))/\Below w.heap.size w w':=by
 obtain⟨W1,hW1⟩:∃W,w.alloc (.cells #[.func (.func G) #[] #[]] 178)=W:=⟨_,rfl⟩
 have hB0:Below w.heap.size w W1:=by rw[←hW1];exact blw
 have hcell:W1.cell? ⟨w.heap.size,0,none⟩=some (.func (.func G) #[] #[]):=by rw[←hW1,World.cell?,heap_alloc_new];rfl
 have hh:=hasKey 172 #[.pointer (some ⟨w.heap.size,0,none⟩)] (enters_of Tryz.func172 (by kernel_rfl) rfl) (λx => !p x) l A c W1 hl (RdL.mono hr hB0 (λ_ _ _ h=>h)) (λx hx W hW=>every1Key G eg x (p x) w.heap.size W (cell_on hcell hW) ((hS x hx).later (below_tr hB0 hW)))
 rw[←any_not]
 subst hW1
 clear hr hS hcell
 go_enter Tryz.func114,Tryz.ntmps114
 go_wp2_with (go_at_call 171;refine hh.mono ?_;rintro e w2 ⟨rfl,hb2⟩)
 go_ret
 exact⟨rfl,below_tr hB0 hb2⟩
attribute [local go_sem] Oper.semAt_some
theorem every1Expr (G:FuncId) (eg:∀args W,(callFunc G args).run Tryz.prog W=.ok (.enter G args) W) (n:Nat) (x:ExT n) (cs:List Value) (b:Bool) (k:Nat) (w:World) (hc:w.cell? ⟨k,0,none⟩=some (.func (.func G) #[] #[])) (hr:RdE n w cs x)
  (h:∀W,Below w.heap.size w W->Calls Tryz.prog G #[.agg cs.toArray] W λe w'=>e=.returned (.bool b)/\Below W.heap.size W w') :
  Calls Tryz.prog 165 #[.agg cs.toArray,.pointer (some ⟨k,0,none⟩)] w λe w'=>e=.returned (.bool (!b))/\Below w.heap.size w w':=by
 obtain⟨k',s,t,A,m,c,rfl,_⟩:=rd_spell hr
 have hB0:Below w.heap.size w (w.alloc (.cells #[.int .i64 k',.string s,.int .i64 t.k,.string t.x,.string t.l,.string t.y,.slice A m c] 82)):=blw
 have hk:=cell_lt hc
 have hk2:k<w.heap.size:=hk
 have hq:=h _ hB0
 clear h hr
 go_enter Tryz.func165,Tryz.ntmps165
 go_wp2_with (go_at_fn G;refine hq.mono ?_;rintro e w2 ⟨rfl,hb2⟩)
 go_ret
 exact⟨rfl,below_tr hB0 hb2⟩
theorem everyExpr (G:FuncId) (eg:∀args W,(callFunc G args).run Tryz.prog W=.ok (.enter G args) W) (n:Nat) (p:ExT n->Bool) (l:List (ExT n)) (A:Option Addr) (c:Nat) (w:World) (hl:l.length<=1000) (hr:RdEs n w A l)
  (hS:∀x∈l,FnSays G #[] n p w x) :
  Calls Tryz.prog 111 #[.func (.func G) #[] #[],.slice A l.length c] w λe w'=>e=.returned (.bool (l.all p))/\Below w.heap.size w w':=by
 obtain⟨W1,hW1⟩:∃W,w.alloc (.cells #[.func (.func G) #[] #[]] 92)=W:=⟨_,rfl⟩
 have hB0:Below w.heap.size w W1:=by rw[←hW1];exact blw
 have hcell:W1.cell? ⟨w.heap.size,0,none⟩=some (.func (.func G) #[] #[]):=by rw[←hW1,World.cell?,heap_alloc_new];rfl
 have hh:=hasExpr 165 #[.pointer (some ⟨w.heap.size,0,none⟩)] (enters_of Tryz.func165 (by kernel_rfl) rfl) n (λx => !p x) l A c W1 (by omega) (RdEs.later hr hB0) (λx hx cs W hW hrx=>every1Expr G eg n x cs (p x) w.heap.size W (cell_on hcell hW) hrx λW' hW'=>hS x hx cs W' (below_tr (below_tr hB0 hW) hW') (hrx.cm (CM.of_below hW')))
 rw[←any_not]
 subst hW1
 clear hr hS hcell
 go_enter Tryz.func111,Tryz.ntmps111
 go_wp2_with (go_at_call 36;refine hh.mono ?_;rintro e w2 ⟨rfl,hb2⟩)
 go_ret
 exact⟨rfl,below_tr hB0 hb2⟩
theorem everyExprs (n:Nat) (l:List (ExT n)) (A:Option Addr) (c:Nat) (w:World) (hC:Ctx w) (hl:l.length<=1000) (hr:RdEs n w A l) (hz:∀x∈l,szX n x) :
  Calls Tryz.prog 111 #[.func (.func 112) #[] #[],.slice A l.length c] w λe w'=>e=.returned (.bool (l.all (exprB n)))/\Below w.heap.size w w':=
 everyExpr 112 (enters_of Tryz.func112 (by kernel_rfl) rfl) n (exprB n) l A c w hl hr λx hx cs W hW hrx=>qExpr n x cs W (hC.step hW) hrx (hz x hx)
theorem everyPats (l:List Pat) (A:Option Addr) (c:Nat) (w:World) (hC:Ctx w) (hl:l.length<=1000) (hr:RdPat w A l) (hz:∀x∈l,szP x) :
  Calls Tryz.prog 109 #[.func (.func 110) #[] #[],.slice A l.length c] w λe w'=>e=.returned (.bool (l.all patB))/\Below w.heap.size w w':=
 everyPat 110 (enters_of Tryz.func110 (by kernel_rfl) rfl) patB l A c w hl hr λx hx W hW=>qPattern x W (hC.step hW) (hz x hx)
theorem everyNames (l:List ByteArray) (A:Option Addr) (c:Nat) (w:World) (hl:l.length<=1000) (hr:RdStr w A l) (hz:∀x∈l,x.size<=281474976710656) :
  Calls Tryz.prog 113 #[.func (.func 107) #[] #[],.slice A l.length c] w λe w'=>e=.returned (.bool (l.all nameB))/\Below w.heap.size w w':=
 everyStr 107 (enters_of Tryz.func107 (by kernel_rfl) rfl) nameB l A c w hl hr λx hx W _=>qName x W (hz x hx)
theorem qKey (y:Ky) (w:World) (hz:y.v.size<=281474976710656):Calls Tryz.prog 106 #[.agg #[.string y.v,.bool y.d]] w λe w'=>e=.returned (.bool (nameB y.v))/\Below w.heap.size w w':=by
 have hB0:Below w.heap.size w (w.alloc (.cells #[.string y.v,.bool y.d] 177)):=blw
 have hN:=qName y.v (w.alloc (.cells #[.string y.v,.bool y.d] 177)) hz
 clear hz
 generalize nameB y.v=q at *
 go_enter Tryz.func106,Tryz.ntmps106
 go_wp2_with (go_at_call 107;refine hN.mono ?_;rintro e w2 ⟨rfl,hb2⟩)
 go_ret
 exact⟨rfl,below_tr hB0 hb2⟩
theorem everyKeys (l:List Ky) (A:Option Addr) (c:Nat) (w:World) (hl:l.length<=1000) (hr:RdKey w A l) (hz:∀x∈l,x.v.size<=281474976710656) :
  Calls Tryz.prog 114 #[.func (.func 106) #[] #[],.slice A l.length c] w λe w'=>e=.returned (.bool (l.all λy=>nameB y.v))/\Below w.heap.size w w':=
 everyKey 106 (enters_of Tryz.func106 (by kernel_rfl) rfl) (λy=>nameB y.v) l A c w hl hr λx hx W _=>qKey x W (hz x hx)
def numB (n:Int):Bool:=decide (0<=n/\n<=1099511627776)
theorem qNum (n:Int) (w:World):Calls Tryz.prog 108 #[.int .i64 n] w λe w'=>e=.returned (.bool (numB n))/\w=w':=by
 unfold numB
 by_cases h1:0<=n
 ·by_cases h2:n<=1099511627776
  ·go_enter Tryz.func108,Tryz.ntmps108
   go_wp2
   go_ret
   exact⟨by simp;omega,rfl⟩
  ·go_enter Tryz.func108,Tryz.ntmps108
   go_wp2
   go_ret
   exact⟨by simp;omega,rfl⟩
 ·go_enter Tryz.func108,Tryz.ntmps108
  go_wp2
  go_ret
  exact⟨by simp;omega,rfl⟩
attribute [local go_sem] Oper.semAt_some
structure Qy (n:Nat) where
 ask:Bool
 dist:Bool
 vars:List ByteArray
 pats:List Pat
 fils:List (ExT n)
 ord:List Ky
 lim:Int
 off:Int
def fitQ (np nf nv nk:Nat):Bool:=decide (np<=6/\nf<=6/\nv<=12/\nk<=4)
def numsQ (lim off:Int):Bool:=numB off && (decide (lim = -1) || numB lim)
def askQ (ask dist:Bool) (nv nk:Nat) (lim off:Int):Bool:=!(ask && (dist || decide ((nv:Int)+nk+off > 0) || decide (lim ≠ -1)))
def rightQ {n:Nat} (q:Qy n):Bool:=
 fitQ q.pats.length q.fils.length q.vars.length q.ord.length && numsQ q.lim q.off && askQ q.ask q.dist q.vars.length q.ord.length q.lim q.off &&
  (q.pats.all patB && q.fils.all (exprB n) && q.vars.all nameB && q.ord.all λy=>nameB y.v)
theorem qRightFit (ask dist:Bool) (np nf nv nk:Nat) (lim off:Int) (a1 a2 a3 a4:Option Addr) (c1 c2 c3 c4:Nat) (w:World) (h:fitQ np nf nv nk=false) (hb:np<=4611686018427387904/\nf<=4611686018427387904/\nv<=4611686018427387904/\nk<=4611686018427387904) :
  Calls Tryz.prog 61 #[.agg #[.bool ask,.bool dist,.slice a1 nv c1,.slice a2 np c2,.slice a3 nf c3,.slice a4 nk c4,.int .i64 lim,.int .i64 off]] w λe w'=>e=.returned (.bool false)/\Below w.heap.size w w':=by
 have hB0:Below w.heap.size w (w.alloc (.cells #[.bool ask,.bool dist,.slice a1 nv c1,.slice a2 np c2,.slice a3 nf c3,.slice a4 nk c4,.int .i64 lim,.int .i64 off] 50)):=blw
 obtain⟨hb1,hb2,hb3,hb4⟩:=hb
 by_cases h1:(np:Int)<=6
 ·by_cases h2:(nf:Int)<=6
  ·by_cases h3:(nv:Int)<=12
   ·have h4:4<(nk:Int):=by
     simp[fitQ]at h
     have:=h (by omega) (by omega) (by omega)
     omega
    clear h
    go_enter Tryz.func61,Tryz.ntmps61
    go_wp2
    go_ret
    exact⟨rfl,hB0⟩
   ·clear h
    go_enter Tryz.func61,Tryz.ntmps61
    go_wp2
    go_ret
    exact⟨rfl,hB0⟩
  ·clear h
   go_enter Tryz.func61,Tryz.ntmps61
   go_wp2
   go_ret
   exact⟨rfl,hB0⟩
 ·clear h
  go_enter Tryz.func61,Tryz.ntmps61
  go_wp2
  go_ret
  exact⟨rfl,hB0⟩
theorem qRightNum (ask dist:Bool) (np nf nv nk:Nat) (lim off:Int) (a1 a2 a3 a4:Option Addr) (c1 c2 c3 c4:Nat) (w:World) (h:fitQ np nf nv nk=true) (hn:numsQ lim off=false) :
  Calls Tryz.prog 61 #[.agg #[.bool ask,.bool dist,.slice a1 nv c1,.slice a2 np c2,.slice a3 nf c3,.slice a4 nk c4,.int .i64 lim,.int .i64 off]] w λe w'=>e=.returned (.bool false)/\Below w.heap.size w w':=by
 have hB0:Below w.heap.size w (w.alloc (.cells #[.bool ask,.bool dist,.slice a1 nv c1,.slice a2 np c2,.slice a3 nf c3,.slice a4 nk c4,.int .i64 lim,.int .i64 off] 50)):=blw
 obtain⟨h1,h2,h3,h4⟩:(np:Int)<=6/\(nf:Int)<=6/\(nv:Int)<=12/\(nk:Int)<=4:=by
  simp[fitQ]at h
  omega
 clear h
 have hN:=λW=>qNum off W
 have hM:=λW=>qNum lim W
 unfold numsQ at hn
 generalize numB off=q1 at *
 generalize numB lim=q2 at *
 cases q1
 ·clear hn hM
  go_enter Tryz.func61,Tryz.ntmps61
  go_wp2_with (go_at_call 108;first|(refine(hN _).mono ?_;rintro e w' ⟨rfl,rfl⟩)|(refine(hM _).mono ?_;rintro e w' ⟨rfl,rfl⟩))
  go_ret
  exact⟨rfl,hB0⟩
 ·have hq2:lim ≠ -1/\q2=false:=by
   cases q2<;>simp_all
  obtain⟨hl,rfl⟩:=hq2
  clear hn
  go_enter Tryz.func61,Tryz.ntmps61
  go_wp2_with (go_at_call 108;first|(refine(hN _).mono ?_;rintro e w' ⟨rfl,rfl⟩)|(refine(hM _).mono ?_;rintro e w' ⟨rfl,rfl⟩))
  go_ret
  exact⟨rfl,hB0⟩
attribute [local go_sem] Oper.semAt_some
theorem qRightAsk (ask dist:Bool) (np nf nv nk:Nat) (lim off:Int) (a1 a2 a3 a4:Option Addr) (c1 c2 c3 c4:Nat) (w:World) (h:fitQ np nf nv nk=true) (hn:numsQ lim off=true) (ha:askQ ask dist nv nk lim off=false) :
  Calls Tryz.prog 61 #[.agg #[.bool ask,.bool dist,.slice a1 nv c1,.slice a2 np c2,.slice a3 nf c3,.slice a4 nk c4,.int .i64 lim,.int .i64 off]] w λe w'=>e=.returned (.bool false)/\Below w.heap.size w w':=by
 have hB0:Below w.heap.size w (w.alloc (.cells #[.bool ask,.bool dist,.slice a1 nv c1,.slice a2 np c2,.slice a3 nf c3,.slice a4 nk c4,.int .i64 lim,.int .i64 off] 50)):=blw
 obtain⟨h1,h2,h3,h4⟩:(np:Int)<=6/\(nf:Int)<=6/\(nv:Int)<=12/\(nk:Int)<=4:=by
  simp[fitQ]at h
  omega
 clear h
 have hN:=λW=>qNum off W
 have hM:=λW=>qNum lim W
 unfold numsQ at hn
 obtain⟨h5,h6⟩:0<=off/\off<=1099511627776:=by
  simp[numB]at hn
  omega
 have hn1:numB off=true:=by simp[numB,h5,h6]
 have hn2:lim = -1∨(lim ≠ -1/\numB lim=true):=by
  rw[hn1]at hn
  by_cases e:lim = -1
  ·exact .inl e
  ·exact .inr ⟨e,by simpa[e] using hn⟩
 rw[hn1]at hN
 clear hn hn1
 obtain⟨rfl,hd⟩:ask=true/\(dist=true∨0<(nv:Int)+nk+off∨lim ≠ -1):=by
  cases ask<;>simp[askQ]at ha
  refine⟨rfl,?_⟩
  by_cases e:dist=true
  ·exact .inl e
  ·by_cases e2:lim = -1
   ·right;left;simp_all
   ·exact .inr (.inr e2)
 clear ha
 rcases hn2 with rfl|⟨hl,hl2⟩
 ·clear hM
  cases dist
  ·have hs:0<(nv:Int)+nk+off:=by simpa using hd
   clear hd
   go_enter Tryz.func61,Tryz.ntmps61
   go_wp2_with (go_at_call 108;first|(refine(hN _).mono ?_;rintro e w' ⟨rfl,rfl⟩)|(refine(hM _).mono ?_;rintro e w' ⟨rfl,rfl⟩))
   go_ret
   exact⟨rfl,hB0⟩
  ·clear hd
   go_enter Tryz.func61,Tryz.ntmps61
   go_wp2_with (go_at_call 108;first|(refine(hN _).mono ?_;rintro e w' ⟨rfl,rfl⟩)|(refine(hM _).mono ?_;rintro e w' ⟨rfl,rfl⟩))
   go_ret
   exact⟨rfl,hB0⟩
 ·rw[hl2]at hM
  clear hl2 hd
  cases dist
  ·by_cases hs:0<(nv:Int)+nk+off
   ·go_enter Tryz.func61,Tryz.ntmps61
    go_wp2_with (go_at_call 108;first|(refine(hN _).mono ?_;rintro e w' ⟨rfl,rfl⟩)|(refine(hM _).mono ?_;rintro e w' ⟨rfl,rfl⟩))
    go_ret
    exact⟨rfl,hB0⟩
   ·go_enter Tryz.func61,Tryz.ntmps61
    go_wp2_with (go_at_call 108;first|(refine(hN _).mono ?_;rintro e w' ⟨rfl,rfl⟩)|(refine(hM _).mono ?_;rintro e w' ⟨rfl,rfl⟩))
    ·go_ret
     exact⟨rfl,hB0⟩
    ·have hx:(nv:Int)+nk+off<=0/\(lim != -1)=false:=by assumption
     exact absurd hx.2 (by simp[hl])
  ·go_enter Tryz.func61,Tryz.ntmps61
   go_wp2_with (go_at_call 108;first|(refine(hN _).mono ?_;rintro e w' ⟨rfl,rfl⟩)|(refine(hM _).mono ?_;rintro e w' ⟨rfl,rfl⟩))
   go_ret
   exact⟨rfl,hB0⟩
end Go.Proofs.YtoaemihcbmlkgaaGreatDoor
