/- Patterns' variables, conditions' variables, in plain words. -/
import Derived.Test.YtjldjeenfnahoaaGreatDoorJRK1
import Derived.Lib.AppendZerosOnto
import Derived.Maps.OwnIn
set_option maxHeartbeats 4000000
set_option maxRecDepth 100000
namespace Go.Proofs.YtjldjeenfnahoaaGreatDoor
open Go Go.RowKit Um Fm
def mkT (k i:Int):ByteArray:=strOfNums [35,k % 256,k / 256,k / 65536,47,i % 256,i / 256 % 256,i / 65536]
theorem wz (xs:List Int) (n:Nat) (hn:xs.length=n) (W:World) (o:Obj) (c:Nat) (hr:Rd (W.alloc o) (some ⟨W.heap.size,0,none⟩) (xs.map (Value.int .u8))) :
  (convert 96 9 (.slice (some ⟨W.heap.size,0,none⟩) n c)).run Tryz.prog (W.alloc o)=.ok (.string (strOfNums xs)) (W.alloc o):=
 aY 96 9 5 Tryz.underlying96 Tryz.underlying5 Tryz.underlying9 hr hn
theorem kC (k i:Int) (w:World) (hk0:0<=k) (hk1:k<=1000) (hi0:0<=i) (hi1:i<=1000000) :
  Calls Tryz.prog 33 #[.int .i64 k,.int .i64 i] w λe w'=>e=.returned (.string (mkT k i))/\Below w.heap.size w w':=by
 have hcv:=wz [35,k % 256,k / 256,k / 65536,47,i % 256,i / 256 % 256,i / 65536] 8 rfl w (.cells #[.int .u8 35,.int .u8 (k % 256),.int .u8 (k / 256),.int .u8 (k / 65536),.int .u8 47,.int .u8 (i % 256),.int .u8 (i / 256 % 256),.int .u8 (i / 65536)] 5) 8 (Rd.of_block (heap_alloc_new w _) rfl)
 rw[show strOfNums [35,k % 256,k / 256,k / 65536,47,i % 256,i / 256 % 256,i / 65536]=mkT k i from rfl]at hcv
 generalize mkT k i=s at *
 go_enter Tryz.func33,Tryz.ntmps33
 go_wp2
 go_ret
 exact⟨rfl,blw⟩
def eZ (i:Int):Tm:=⟨8000024+i,⟨#[]⟩,⟨#[]⟩,⟨#[]⟩⟩
theorem yA (i:Int) (w:World) (h0:0<=i) (h1:i<=1000000) :
  Calls Tryz.prog 62 #[.int .i64 1,.int .i64 i] w λe w'=>e=.returned (.agg #[.int .i64 (8000024+i),.string ⟨#[]⟩,.string ⟨#[]⟩,.string ⟨#[]⟩])/\Below w.heap.size w w':=by
 have hm:=λW=>lP i W h0 h1
 generalize 8000024+i=v at *
 go_enter Tryz.func62,Tryz.ntmps62
 go_wp2_with (refine(hm _).mono ?_;rintro e w3 ⟨rfl,rfl⟩)
 exact bodyPost_ret (v:=.agg #[.int .i64 v,.string ⟨#[]⟩,.string ⟨#[]⟩,.string ⟨#[]⟩]) (by simp[results,Tryz.results62,go_sem]) rfl ⟨rfl,blw⟩
def mkE (i:Int):List Value:=[.int .i64 (8000024+i),.string ⟨#[]⟩,.int .i64 0,.string ⟨#[]⟩,.string ⟨#[]⟩,.string ⟨#[]⟩,.slice none 0 0]
theorem yD (i:Int) (w:World) (h0:0<=i) (h1:i<=1000000) :
  Calls Tryz.prog 65 #[.int .i64 1,.int .i64 i] w λe w'=>e=.returned (.agg (mkE i).toArray)/\Below w.heap.size w w':=by
 have hm:=λW=>lP i W h0 h1
 unfold mkE
 generalize 8000024+i=v at *
 go_enter Tryz.func65,Tryz.ntmps65
 go_wp2_with (refine(hm _).mono ?_;rintro e w3 ⟨rfl,rfl⟩)
 exact bodyPost_ret (v:=.agg #[.int .i64 v,.string ⟨#[]⟩,.int .i64 0,.string ⟨#[]⟩,.string ⟨#[]⟩,.string ⟨#[]⟩,.slice none 0 0]) (by simp[results,Tryz.results65,go_sem]) rfl ⟨rfl,blw⟩
theorem yB (i:Int) (w:World) (h0:0<=i) (h1:i<=1000000) :
  Calls Tryz.prog 63 #[.int .i64 1,.int .i64 i] w λe w'=>e=.returned (wS ⟨⟨⟨#[]⟩,eZ i⟩,⟨⟨#[]⟩,zTm⟩,⟨⟨#[]⟩,zTm⟩⟩)/\Below w.heap.size w w':=by
 have hm:=λW=>lP i W h0 h1
 unfold wS eZ zTm
 simp only
 generalize 8000024+i=v at *
 go_enter Tryz.func63,Tryz.ntmps63
 go_wp2_with (refine(hm _).mono ?_;rintro e w3 ⟨rfl,rfl⟩)
 exact bodyPost_ret (v:=.agg #[.string ⟨#[]⟩,.int .i64 v,.string ⟨#[]⟩,.string ⟨#[]⟩,.string ⟨#[]⟩,.string ⟨#[]⟩,.int .i64 0,.string ⟨#[]⟩,.string ⟨#[]⟩,.string ⟨#[]⟩,.string ⟨#[]⟩,.int .i64 0,.string ⟨#[]⟩,.string ⟨#[]⟩,.string ⟨#[]⟩]) (by simp[results,Tryz.results63,go_sem]) rfl ⟨rfl,blw⟩
theorem yC (i:Int) (w:World) (h0:0<=i) (h1:i<=1000000) :
  Calls Tryz.prog 66 #[.int .i64 1,.int .i64 i] w λe w'=>e=.returned (.agg #[.string (mkT 1 i),.bool false])/\Below w.heap.size w w':=by
 have hm:=λW=>kC 1 i W (by omega) (by omega) h0 h1
 generalize mkT 1 i=v at *
 go_enter Tryz.func66,Tryz.ntmps66
 go_wp2_with fail
 refine(hm _).mono ?_
 rintro e w3 ⟨rfl,b3⟩
 have hz:w.heap.size<w3.heap.size:=by have:=b3.size;simp at this;omega
 have hc0:w3.cell? ⟨w.heap.size,0,none⟩=some (.string ⟨#[]⟩):=by rw[b3.cell (p:=⟨w.heap.size,0,none⟩) (by simp),World.cell?,heap_alloc_new];rfl
 have hc1:w3.cell? ⟨w.heap.size,1,none⟩=some (.bool false):=by rw[b3.cell (p:=⟨w.heap.size,1,none⟩) (by simp),World.cell?,heap_alloc_new];rfl
 have hf0:w3.frozen? ⟨w.heap.size,0,none⟩=false:=by rw[b3.frozen (p:=⟨w.heap.size,0,none⟩) (by simp),World.frozen?,heap_alloc_new];rfl
 have hf1:w3.frozen? ⟨w.heap.size,1,none⟩=false:=by rw[b3.frozen (p:=⟨w.heap.size,1,none⟩) (by simp),World.frozen?,heap_alloc_new];rfl
 have hB:Below w.heap.size w ((w3.setCell ⟨w.heap.size,0,none⟩ (.string v)).setCell ⟨w.heap.size,1,none⟩ (.bool false)):=((((Below.refl w.heap.size w).alloc (Nat.le_refl _) _).trans (b3.mono (by simp))).setCell (p:=⟨w.heap.size,0,none⟩) (Nat.le_refl _) _).setCell (p:=⟨w.heap.size,1,none⟩) (Nat.le_refl _) _
 clear hm b3
 go_wp2
 exact bodyPost_ret (v:=.agg #[.string v,.bool false]) (by simp[results,Tryz.results66,go_sem,hc0,hc1]) rfl ⟨rfl,hB⟩
def eqL {α:Type} (p:α->α->Bool):List α->List α->Bool
 | [],[]=>true
 | a::l,b::m=>p a b && eqL p l m
 | [],_::_=>false
 | _::_,[]=>false
theorem fA {α:Type} {p:α->α->Bool}:∀{l m:List α},(∀a∈l,∀b,p a b=true↔a=b)->(eqL p l m=true↔l=m)
 | [],[],_=>by simp[eqL]
 | a::l,b::m,h=>by
  rw[eqL,Bool.and_eq_true,h a (by simp) b,fA (λa ha b=>h a (by simp[ha]) b)]
  simp
 | [],_::_,_=>by simp[eqL]
 | _::_,[],_=>by simp[eqL]
theorem kJ {α:Type} {p:α->α->Bool}:∀{l m:List α},l.length≠m.length->eqL p l m=false
 | [],[],h=>absurd rfl h
 | a::l,b::m,h=>by rw[eqL,kJ (λe=>h (by simp[e])),Bool.and_false]
 | [],_::_,_=>rfl
 | _::_,[],_=>rfl
def ni (a b:ByteArray):Bool:=a.toList == b.toList
theorem gn {a b:ByteArray}:ni a b=true↔a=b:=Lib.bytes_beq_iff a b
theorem lf {a b:Tm}:bg a b=true↔a=b:=by
 obtain⟨k,x,l,y⟩:=a
 obtain⟨k',x',l',y'⟩:=b
 unfold bg
 simp only[Bool.and_eq_true,beq_iff_eq,Tm.mk.injEq,and_assoc]
 rw[←Lib.bytes_beq_iff x x',←Lib.bytes_beq_iff l l',←Lib.bytes_beq_iff y y']
 simp
def cI:(n:Nat)->ExT n->ExT n->Bool
 | 0,_,_=>true
 | n+1,(k,s,t,ks),(k',s',t',ks')=>k == k' && ni s s' && bg t t' && eqL (cI n) ks ks'
theorem jg:∀{n:Nat} {a b:ExT n},cI n a b=true↔a=b
 | 0,a,_=>nomatch (show Empty from a)
 | n+1,(k,s,t,ks),(k',s',t',ks')=>by
  rw[cI]
  simp only[Bool.and_eq_true,beq_iff_eq,gn,lf]
  rw[fA (λa _ b=>jg)]
  constructor
  ·rintro⟨⟨⟨rfl,rfl⟩,rfl⟩,rfl⟩;rfl
  ·intro h
   have h1:=congrArg Prod.fst h
   have h2:=congrArg (λx=>x.2.1) h
   have h3:=congrArg (λx=>x.2.2.1) h
   have h4:=congrArg (λx=>x.2.2.2) h
   exact⟨⟨⟨h1,h2⟩,h3⟩,h4⟩
def jf (a b:Sl):Bool:=ni a.v b.v && bg a.t b.t
theorem rZ {a b:Sl}:jf a b=true↔a=b:=by
 obtain⟨v,t⟩:=a;obtain⟨v',t'⟩:=b
 unfold jf
 simp only[Bool.and_eq_true,gn,lf,Sl.mk.injEq]
def bJ (a b:Pat):Bool:=jf a.s b.s && jf a.p b.p && jf a.o b.o
theorem qg {a b:Pat}:bJ a b=true↔a=b:=by
 obtain⟨v,t,u⟩:=a;obtain⟨v',t',u'⟩:=b
 unfold bJ
 simp only[Bool.and_eq_true,rZ,Pat.mk.injEq,and_assoc]
def cn (a b:Ky):Bool:=ni a.v b.v && a.d == b.d
theorem s8 {a b:Ky}:cn a b=true↔a=b:=by
 obtain⟨v,t⟩:=a;obtain⟨v',t'⟩:=b
 unfold cn
 simp only[Bool.and_eq_true,gn,beq_iff_eq,Ky.mk.injEq]
def nF {n:Nat} (a b:Qy n):Bool:=a.ask == b.ask && a.dist == b.dist && a.lim == b.lim && a.off == b.off && eqL ni a.vars b.vars && eqL bJ a.pats b.pats && eqL cn a.ord b.ord && eqL (cI n) a.fils b.fils
theorem uW {n:Nat} {a b:Qy n}:nF a b=true↔a=b:=by
 obtain⟨a1,a2,a3,a4,a5,a6,a7,a8⟩:=a
 obtain⟨b1,b2,b3,b4,b5,b6,b7,b8⟩:=b
 unfold nF
 simp only[Bool.and_eq_true,beq_iff_eq,fA (λa _ b=>gn),fA (λa _ b=>qg),fA (λa _ b=>s8),fA (λa _ b=>jg),Qy.mk.injEq]
 constructor
 ·rintro⟨⟨⟨⟨⟨⟨⟨rfl,rfl⟩,rfl⟩,rfl⟩,rfl⟩,rfl⟩,rfl⟩,rfl⟩;simp
 ·rintro⟨rfl,rfl,rfl,rfl,rfl,rfl,rfl,rfl⟩;simp
theorem iY {B:Nat} {a w:World} (h:Below B a w) (n:Nat):Below B a (w.drewN n):=⟨h.os,h.tape,h.output,h.size,h.block⟩
theorem m5 {α:Type} {q:α->α->Bool} {l m:List α} {k:Nat} {x y:α} (hx:l[k]?=some x) (hy:m[k]?=some y):eqL q (l.drop k) (m.drop k)=(q x y && eqL q (l.drop (k+1)) (m.drop (k+1))):=by
 rw[an hx,an hy,eqL]
theorem lZ {α:Type} {q:α->α->Bool} {l m:List α} {k:Nat} (h:l.length<=k) (h2:m.length<=k):eqL q (l.drop k) (m.drop k)=true:=by
 rw[List.drop_eq_nil_of_le h,List.drop_eq_nil_of_le h2];rfl
theorem uY (a b:Pat) (W:World):(binOp .neq 101 (.agg #[.string a.s.v,.int .i64 a.s.t.k,.string a.s.t.x,.string a.s.t.l,.string a.s.t.y,.string a.p.v,.int .i64 a.p.t.k,.string a.p.t.x,.string a.p.t.l,.string a.p.t.y,.string a.o.v,.int .i64 a.o.t.k,.string a.o.t.x,.string a.o.t.l,.string a.o.t.y]) (.agg #[.string b.s.v,.int .i64 b.s.t.k,.string b.s.t.x,.string b.s.t.l,.string b.s.t.y,.string b.p.v,.int .i64 b.p.t.k,.string b.p.t.x,.string b.p.t.l,.string b.p.t.y,.string b.o.v,.int .i64 b.o.t.k,.string b.o.t.x,.string b.o.t.l,.string b.o.t.y])).run Tryz.prog W=.ok (.bool (!bJ a b)) W:=by
 have h1:=Tryz.underlying101
 have h2:=Tryz.underlying9
 have h3:=Tryz.underlying99
 have h4:=Tryz.underlying65
 have h5:=Tryz.underlying63
 simp only[go_sem,h1]
 simp[go_sem,h1,h2,h3,h4,h5]
 unfold bJ
 simp only[jf,bg,ni]
 by_cases e0:a.s.v.toList=b.s.v.toList
 case neg=>simp[e0]
 by_cases e1:a.s.t.k=b.s.t.k
 case neg=>simp[e0,e1]
 by_cases e2:a.s.t.x.toList=b.s.t.x.toList
 case neg=>simp[e0,e1,e2]
 by_cases e3:a.s.t.l.toList=b.s.t.l.toList
 case neg=>simp[e0,e1,e2,e3]
 by_cases e4:a.s.t.y.toList=b.s.t.y.toList
 case neg=>simp[e0,e1,e2,e3,e4]
 by_cases e5:a.p.v.toList=b.p.v.toList
 case neg=>simp[e0,e1,e2,e3,e4,e5]
 by_cases e6:a.p.t.k=b.p.t.k
 case neg=>simp[e0,e1,e2,e3,e4,e5,e6]
 by_cases e7:a.p.t.x.toList=b.p.t.x.toList
 case neg=>simp[e0,e1,e2,e3,e4,e5,e6,e7]
 by_cases e8:a.p.t.l.toList=b.p.t.l.toList
 case neg=>simp[e0,e1,e2,e3,e4,e5,e6,e7,e8]
 by_cases e9:a.p.t.y.toList=b.p.t.y.toList
 case neg=>simp[e0,e1,e2,e3,e4,e5,e6,e7,e8,e9]
 by_cases e10:a.o.v.toList=b.o.v.toList
 case neg=>simp[e0,e1,e2,e3,e4,e5,e6,e7,e8,e9,e10]
 by_cases e11:a.o.t.k=b.o.t.k
 case neg=>simp[e0,e1,e2,e3,e4,e5,e6,e7,e8,e9,e10,e11]
 by_cases e12:a.o.t.x.toList=b.o.t.x.toList
 case neg=>simp[e0,e1,e2,e3,e4,e5,e6,e7,e8,e9,e10,e11,e12]
 by_cases e13:a.o.t.l.toList=b.o.t.l.toList
 case neg=>simp[e0,e1,e2,e3,e4,e5,e6,e7,e8,e9,e10,e11,e12,e13]
 by_cases e14:a.o.t.y.toList=b.o.t.y.toList
 case neg=>simp[e0,e1,e2,e3,e4,e5,e6,e7,e8,e9,e10,e11,e12,e13,e14]
 simp[e0,e1,e2,e3,e4,e5,e6,e7,e8,e9,e10,e11,e12,e13,e14]
theorem xp (a b:Ky) (W:World):(binOp .neq 61 (.agg #[.string a.v,.bool a.d]) (.agg #[.string b.v,.bool b.d])).run Tryz.prog W=.ok (.bool (!cn a b)) W:=by
 have h1:=Tryz.underlying61
 have h2:=Tryz.underlying9
 have h3:=Tryz.underlying4
 simp only[go_sem,h1]
 simp[go_sem,h1,h2,h3]
 unfold cn
 simp only[ni]
 by_cases e0:a.v.toList=b.v.toList
 case neg=>simp[e0]
 by_cases e1:a.d=b.d
 case neg=>simp[e0,e1]
 simp[e0,e1]
theorem Bf (a b:List Pat) (A B:Option Addr) (c d:Nat) (w:World) (ha:rH w A a) (hb:rH w B b) (hl:a.length<=281474976710656) (hl2:b.length<=281474976710656) :
  Calls Tryz.prog 85 #[.slice A a.length c,.slice B b.length d] w λe w'=>e=.returned (.bool (eqL bJ a b))/\Below w.heap.size w w':=by
 by_cases hlen:a.length=b.length
 case neg =>
  have hne:eqL bJ a b=false:=kJ hlen
  have h1:((a.length:Int) != (b.length:Int))=true:=by rw[bne_iff_ne];omega
  rw[hne]
  clear hne hlen
  go_enter Tryz.func85,Tryz.ntmps85
  go_wp2
  go_ret
  exact⟨rfl,Below.refl _ _⟩
 have h1:((a.length:Int) != (b.length:Int))=false:=by simp;omega
 have hab:a.length<=b.length:=by omega
 have Hlen:=Lib.hid hlen
 clear hlen
 go_enter Tryz.func85,Tryz.ntmps85
 go_wp2
 go_loopw [5] (λi wr=>∃k:Nat,k<=a.length/\i=.int .i64 k/\Below w.heap.size w wr/\Hid (eqL bJ a b=eqL bJ (a.drop k) (b.drop k))) (λi _=>a.length-(intOf i).toNat)
 case atStart=>exact⟨0,by omega,rfl,Below.refl _ _,rfl⟩
 case round =>
  obtain⟨k,hk,rfl,hB,H⟩:=hrel
  by_cases hlt:k<a.length
  ·obtain⟨x,hx⟩:∃x,a[k]?=some x:=⟨_,List.getElem?_eq_getElem hlt⟩
   obtain⟨y,hy⟩:∃x,b[k]?=some x:=⟨_,List.getElem?_eq_getElem (by omega)⟩
   have H2:Hid (eqL bJ a b=(bJ x y && eqL bJ (a.drop (k+1)) (b.drop (k+1)))):=by show _=_;rw[H.out,m5 hx hy]
   obtain⟨g,o,csx,rfl,-,rfl,hcx⟩:=(RdL.mono ha hB (λ_ _ _ h=>h)).at_ (by omega) hx
   have c0:wr.cell? ⟨g,o+k*15,none⟩=some (.string x.s.v):=hcx 0 _ rfl
   have c1:wr.cell? ⟨g,o+k*15+1,none⟩=some (.int .i64 x.s.t.k):=hcx 1 _ rfl
   have c2:wr.cell? ⟨g,o+k*15+2,none⟩=some (.string x.s.t.x):=hcx 2 _ rfl
   have c3:wr.cell? ⟨g,o+k*15+3,none⟩=some (.string x.s.t.l):=hcx 3 _ rfl
   have c4:wr.cell? ⟨g,o+k*15+4,none⟩=some (.string x.s.t.y):=hcx 4 _ rfl
   have c5:wr.cell? ⟨g,o+k*15+5,none⟩=some (.string x.p.v):=hcx 5 _ rfl
   have c6:wr.cell? ⟨g,o+k*15+6,none⟩=some (.int .i64 x.p.t.k):=hcx 6 _ rfl
   have c7:wr.cell? ⟨g,o+k*15+7,none⟩=some (.string x.p.t.x):=hcx 7 _ rfl
   have c8:wr.cell? ⟨g,o+k*15+8,none⟩=some (.string x.p.t.l):=hcx 8 _ rfl
   have c9:wr.cell? ⟨g,o+k*15+9,none⟩=some (.string x.p.t.y):=hcx 9 _ rfl
   have c10:wr.cell? ⟨g,o+k*15+10,none⟩=some (.string x.o.v):=hcx 10 _ rfl
   have c11:wr.cell? ⟨g,o+k*15+11,none⟩=some (.int .i64 x.o.t.k):=hcx 11 _ rfl
   have c12:wr.cell? ⟨g,o+k*15+12,none⟩=some (.string x.o.t.x):=hcx 12 _ rfl
   have c13:wr.cell? ⟨g,o+k*15+13,none⟩=some (.string x.o.t.l):=hcx 13 _ rfl
   have c14:wr.cell? ⟨g,o+k*15+14,none⟩=some (.string x.o.t.y):=hcx 14 _ rfl
   obtain⟨g',o',csy,rfl,-,rfl,hcy⟩:=(RdL.mono hb hB (λ_ _ _ h=>h)).at_ (by omega) hy
   have d0:wr.cell? ⟨g',o'+k*15,none⟩=some (.string y.s.v):=hcy 0 _ rfl
   have d1:wr.cell? ⟨g',o'+k*15+1,none⟩=some (.int .i64 y.s.t.k):=hcy 1 _ rfl
   have d2:wr.cell? ⟨g',o'+k*15+2,none⟩=some (.string y.s.t.x):=hcy 2 _ rfl
   have d3:wr.cell? ⟨g',o'+k*15+3,none⟩=some (.string y.s.t.l):=hcy 3 _ rfl
   have d4:wr.cell? ⟨g',o'+k*15+4,none⟩=some (.string y.s.t.y):=hcy 4 _ rfl
   have d5:wr.cell? ⟨g',o'+k*15+5,none⟩=some (.string y.p.v):=hcy 5 _ rfl
   have d6:wr.cell? ⟨g',o'+k*15+6,none⟩=some (.int .i64 y.p.t.k):=hcy 6 _ rfl
   have d7:wr.cell? ⟨g',o'+k*15+7,none⟩=some (.string y.p.t.x):=hcy 7 _ rfl
   have d8:wr.cell? ⟨g',o'+k*15+8,none⟩=some (.string y.p.t.l):=hcy 8 _ rfl
   have d9:wr.cell? ⟨g',o'+k*15+9,none⟩=some (.string y.p.t.y):=hcy 9 _ rfl
   have d10:wr.cell? ⟨g',o'+k*15+10,none⟩=some (.string y.o.v):=hcy 10 _ rfl
   have d11:wr.cell? ⟨g',o'+k*15+11,none⟩=some (.int .i64 y.o.t.k):=hcy 11 _ rfl
   have d12:wr.cell? ⟨g',o'+k*15+12,none⟩=some (.string y.o.t.x):=hcy 12 _ rfl
   have d13:wr.cell? ⟨g',o'+k*15+13,none⟩=some (.string y.o.t.l):=hcy 13 _ rfl
   have d14:wr.cell? ⟨g',o'+k*15+14,none⟩=some (.string y.o.t.y):=hcy 14 _ rfl
   have hlt2:k<b.length:=by omega
   have hne:=λW=>uY x y W
   cases hq:bJ x y
   ·rw[hq]at H2
    rw[hq]at hne
    simp only[Bool.not_false]at hne
    clear hx hy ha hb hcx hcy hq H
    go_wp2
    go_quiet (fail)
    go_wp2
    go_ret
    exact⟨by rw[H2.out];rfl,iY hB nq⟩
   ·rw[hq]at H2
    rw[hq]at hne
    simp only[Bool.not_true]at hne
    clear hx hy ha hb hcx hcy hq H
    go_wp2
    go_quiet (fail)
    go_wp2
    go_roundw
    case rel=>exact⟨k+1,by omega,by go_num,iY hB nq,by show _=_;rw[H2.out];rfl⟩
    case measure=>simp[intOf];omega
  ·have H2:Hid (eqL bJ a b=true):=by show _=_;rw[H.out,lZ (by omega) (by have:=Hlen.out;omega)]
   clear ha hb H
   go_wp2
   go_ret
   exact⟨by rw[H2.out];rfl,hB⟩
theorem Bg (a b:List Ky) (A B:Option Addr) (c d:Nat) (w:World) (ha:eF w A a) (hb:eF w B b) (hl:a.length<=281474976710656) (hl2:b.length<=281474976710656) :
  Calls Tryz.prog 87 #[.slice A a.length c,.slice B b.length d] w λe w'=>e=.returned (.bool (eqL cn a b))/\Below w.heap.size w w':=by
 by_cases hlen:a.length=b.length
 case neg =>
  have hne:eqL cn a b=false:=kJ hlen
  have h1:((a.length:Int) != (b.length:Int))=true:=by rw[bne_iff_ne];omega
  rw[hne]
  clear hne hlen
  go_enter Tryz.func87,Tryz.ntmps87
  go_wp2
  go_ret
  exact⟨rfl,Below.refl _ _⟩
 have h1:((a.length:Int) != (b.length:Int))=false:=by simp;omega
 have hab:a.length<=b.length:=by omega
 have Hlen:=Lib.hid hlen
 clear hlen
 go_enter Tryz.func87,Tryz.ntmps87
 go_wp2
 go_loopw [5] (λi wr=>∃k:Nat,k<=a.length/\i=.int .i64 k/\Below w.heap.size w wr/\Hid (eqL cn a b=eqL cn (a.drop k) (b.drop k))) (λi _=>a.length-(intOf i).toNat)
 case atStart=>exact⟨0,by omega,rfl,Below.refl _ _,rfl⟩
 case round =>
  obtain⟨k,hk,rfl,hB,H⟩:=hrel
  by_cases hlt:k<a.length
  ·obtain⟨x,hx⟩:∃x,a[k]?=some x:=⟨_,List.getElem?_eq_getElem hlt⟩
   obtain⟨y,hy⟩:∃x,b[k]?=some x:=⟨_,List.getElem?_eq_getElem (by omega)⟩
   have H2:Hid (eqL cn a b=(cn x y && eqL cn (a.drop (k+1)) (b.drop (k+1)))):=by show _=_;rw[H.out,m5 hx hy]
   obtain⟨g,o,csx,rfl,-,rfl,hcx⟩:=(RdL.mono ha hB (λ_ _ _ h=>h)).at_ (by omega) hx
   have c0:wr.cell? ⟨g,o+k*2,none⟩=some (.string x.v):=hcx 0 _ rfl
   have c1:wr.cell? ⟨g,o+k*2+1,none⟩=some (.bool x.d):=hcx 1 _ rfl
   obtain⟨g',o',csy,rfl,-,rfl,hcy⟩:=(RdL.mono hb hB (λ_ _ _ h=>h)).at_ (by omega) hy
   have d0:wr.cell? ⟨g',o'+k*2,none⟩=some (.string y.v):=hcy 0 _ rfl
   have d1:wr.cell? ⟨g',o'+k*2+1,none⟩=some (.bool y.d):=hcy 1 _ rfl
   have hlt2:k<b.length:=by omega
   have hne:=λW=>xp x y W
   cases hq:cn x y
   ·rw[hq]at H2
    rw[hq]at hne
    simp only[Bool.not_false]at hne
    clear hx hy ha hb hcx hcy hq H
    go_wp2
    go_quiet (fail)
    go_wp2
    go_ret
    exact⟨by rw[H2.out];rfl,iY hB nq⟩
   ·rw[hq]at H2
    rw[hq]at hne
    simp only[Bool.not_true]at hne
    clear hx hy ha hb hcx hcy hq H
    go_wp2
    go_quiet (fail)
    go_wp2
    go_roundw
    case rel=>exact⟨k+1,by omega,by go_num,iY hB nq,by show _=_;rw[H2.out];rfl⟩
    case measure=>simp[intOf];omega
  ·have H2:Hid (eqL cn a b=true):=by show _=_;rw[H.out,lZ (by omega) (by have:=Hlen.out;omega)]
   clear ha hb H
   go_wp2
   go_ret
   exact⟨by rw[H2.out];rfl,hB⟩
def EqE (F:FuncId) (n:Nat):Prop:=∀(x y:ExT n) (cs ds:List Value) (W:World),RdE n W cs x->RdE n W ds y->szE n x->szE n y ->
 Calls Tryz.prog F #[.agg cs.toArray,.agg ds.toArray] W λe w'=>e=.returned (.bool (cI n x y))/\Below W.heap.size W w'
theorem nI {n:Nat} {w:World} {cs:List Value} {x:ExT n} (h:RdE n w cs x):∃(k:Int) (s:ByteArray) (t:Tm) (A:Option Addr) (m c:Nat),cs=[.int .i64 k,.string s,.int .i64 t.k,.string t.x,.string t.l,.string t.y,.slice A m c]:=by
 match n,x,h with
 | n+1,(k,s,t,kids),⟨A,c,h,_⟩=>exact⟨k,s,t,A,_,c,h⟩
theorem qL (n:Nat) (hE:EqE 89 n) (a b:List (ExT n)) (A B:Option Addr) (c d:Nat) (w:World) (ha:aF n w A a) (hb:aF n w B b) (hl:a.length<=1353245080300) (hl2:b.length<=1353245080300) (hza:∀x∈a,szE n x) (hzb:∀x∈b,szE n x) :
  Calls Tryz.prog 86 #[.slice A a.length c,.slice B b.length d] w λe w'=>e=.returned (.bool (eqL (cI n) a b))/\Below w.heap.size w w':=by
 by_cases hlen:a.length=b.length
 case neg =>
  have hne:eqL (cI n) a b=false:=kJ hlen
  have h1:((a.length:Int) != (b.length:Int))=true:=by rw[bne_iff_ne];omega
  rw[hne]
  clear hne hlen
  go_enter Tryz.func86,Tryz.ntmps86
  go_wp2
  go_ret
  exact⟨rfl,Below.refl _ _⟩
 have h1:((a.length:Int) != (b.length:Int))=false:=by simp;omega
 have hab:a.length<=b.length:=by omega
 have Hlen:=Lib.hid hlen
 clear hlen
 go_enter Tryz.func86,Tryz.ntmps86
 go_wp2
 go_loopw [5] (λi wr=>∃k:Nat,k<=a.length/\i=.int .i64 k/\Below w.heap.size w wr/\Hid (eqL (cI n) a b=eqL (cI n) (a.drop k) (b.drop k))) (λi _=>a.length-(intOf i).toNat)
 case atStart=>exact⟨0,by omega,rfl,Below.refl _ _,rfl⟩
 case round =>
  obtain⟨k,hk,rfl,hB,H⟩:=hrel
  by_cases hlt:k<a.length
  ·obtain⟨x,hx⟩:∃x,a[k]?=some x:=⟨_,List.getElem?_eq_getElem hlt⟩
   obtain⟨y,hy⟩:∃x,b[k]?=some x:=⟨_,List.getElem?_eq_getElem (by omega)⟩
   have H2:Hid (eqL (cI n) a b=(cI n x y && eqL (cI n) (a.drop (k+1)) (b.drop (k+1)))):=by show _=_;rw[H.out,m5 hx hy]
   obtain⟨g,o,k1,s1,t1,A1,m1,e1,rfl,hR,c0,c1,c2,c3,c4,c5,c6⟩:=(aF.later ha hB).atv hx
   obtain⟨g',o',k2,s2,t2,A2,m2,e2,rfl,hS,d0,d1,d2,d3,d4,d5,d6⟩:=(aF.later hb hB).atv hy
   have hzx:=hza x (List.mem_of_getElem? hx)
   have hzy:=hzb y (List.mem_of_getElem? hy)
   have hlt2:k<b.length:=by omega
   have hc:=λd os=>hE x y [.int .i64 k1,.string s1,.int .i64 t1.k,.string t1.x,.string t1.l,.string t1.y,.slice A1 m1 e1] [.int .i64 k2,.string s2,.int .i64 t2.k,.string t2.x,.string t2.l,.string t2.y,.slice A2 m2 e2] (Sort.grow (redrawn wr d) os) (hR.later (below_regrown wr d os)) (hS.later (below_regrown wr d os)) hzx hzy
   have p0:=λd os=>cell_regrown c0 d os
   have q0:=λd os=>cell_regrown d0 d os
   have p1:=λd os=>cell_regrown c1 d os
   have q1:=λd os=>cell_regrown d1 d os
   have p2:=λd os=>cell_regrown c2 d os
   have q2:=λd os=>cell_regrown d2 d os
   have p3:=λd os=>cell_regrown c3 d os
   have q3:=λd os=>cell_regrown d3 d os
   have p4:=λd os=>cell_regrown c4 d os
   have q4:=λd os=>cell_regrown d4 d os
   have p5:=λd os=>cell_regrown c5 d os
   have q5:=λd os=>cell_regrown d5 d os
   have p6:=λd os=>cell_regrown c6 d os
   have q6:=λd os=>cell_regrown d6 d os
   have HB:=Lib.hid hB
   generalize cI n x y=q at *
   clear hx hy ha hb hR hS hza hzb hE H hB c0 c1 c2 c3 c4 c5 c6 d0 d1 d2 d3 d4 d5 d6
   cases q
   ·go_wp2
    refine wrq ?_;(repeat (any_goals (go_big_quiet_step ((go_at_call 89;with_reducible exact Calls.regrown_of (hc _ _))))));all_goals (refine wqn ?_;intro d9 os9)
    have hB9:=below_regrown wr d9 os9
    clear p0 p1 p2 p3 p4 p5 p6 q0 q1 q2 q3 q4 q5 q6 hc
    go_wp2
    go_ret
    exact⟨by rw[H2.out];rfl,aa HB.out hB9⟩
   ·go_wp2
    refine wrq ?_;(repeat (any_goals (go_big_quiet_step ((go_at_call 89;with_reducible exact Calls.regrown_of (hc _ _))))));all_goals (refine wqn ?_;intro d9 os9)
    have hB9:=below_regrown wr d9 os9
    clear p0 p1 p2 p3 p4 p5 p6 q0 q1 q2 q3 q4 q5 q6 hc
    go_wp2
    go_roundw
    case rel=>exact⟨k+1,by omega,by go_num,aa HB.out hB9,by show _=_;rw[H2.out];rfl⟩
    case measure=>simp[intOf];omega
  ·have H2:Hid (eqL (cI n) a b=true):=by show _=_;rw[H.out,lZ (by omega) (by have:=Hlen.out;omega)]
   clear ha hb H hE
   go_wp2
   go_ret
   exact⟨by rw[H2.out];rfl,hB⟩
theorem kF:∀n:Nat,EqE 89 n
 | 0=>λx _ _ _ _ h _ _ _=>h.elim
 | n+1=>by
  rintro⟨k,s,t,ks⟩ ⟨k',s',t',ks'⟩ cs ds W ⟨A,c,rfl,hc1,hr⟩ ⟨B,d,rfl,hd1,hr'⟩ ⟨z1,z2,z3,z4⟩ ⟨y1,y2,y3,y4⟩
  have hB2:Below W.heap.size W ((W.alloc (.cells #[.int .i64 k,.string s,.int .i64 t.k,.string t.x,.string t.l,.string t.y,.slice A ks.length c] 67)).alloc (.cells #[.int .i64 k',.string s',.int .i64 t'.k,.string t'.x,.string t'.l,.string t'.y,.slice B ks'.length d] 67)):=blw
  have hL:=qL n (kF n) ks ks' A B c d _ (aF.later hr hB2) (aF.later hr' hB2) z3 y3 z4 y4
  have heq:=λW=>xr t t' W
  obtain⟨res,hres⟩:∃r,cI (n+1) (k,s,t,ks) (k',s',t',ks')=r:=⟨_,rfl⟩
  rw[hres]
  have Hres:Hid (res=(k == k' && (s.toList == s'.toList) && bg t t' && eqL (cI n) ks ks')):=by show _=_;rw[←hres];rfl
  have HB:=Lib.hid hB2
  generalize eqL (cI n) ks ks'=q4 at *
  generalize bg t t'=q3 at *
  clear hres hr hr' z1 z2 z3 z4 y1 y2 y3 y4 hB2 hc1 hd1
  cases h1:(k == k')
  ·have H0:Hid (res=false):=by show _=_;rw[Hres.out,h1];rfl
   clear hL heq Hres
   go_enter Tryz.func89,Tryz.ntmps89
   go_wp2
   go_ret
   exact⟨by rw[H0.out];rfl,HB.out⟩
  ·cases h2:(s.toList == s'.toList)
   ·have H0:Hid (res=false):=by show _=_;rw[Hres.out,h2];simp
    clear hL heq Hres
    go_enter Tryz.func89,Tryz.ntmps89
    go_wp2
    go_ret
    exact⟨by rw[H0.out];rfl,HB.out⟩
   ·cases q3
    ·have H0:Hid (res=false):=by show _=_;rw[Hres.out];simp
     clear hL Hres
     go_enter Tryz.func89,Tryz.ntmps89
     go_wp2
     go_ret
     exact⟨by rw[H0.out];rfl,HB.out⟩
    ·have H0:Hid (res=q4):=by show _=_;rw[Hres.out,h1,h2];simp
     clear Hres
     go_enter Tryz.func89,Tryz.ntmps89
     go_wp2_with (go_at_call 86;refine hL.mono ?_;rintro e w2 ⟨rfl,hb2⟩)
     go_ret
     exact⟨by rw[H0.out];rfl,aa HB.out hb2⟩
theorem sB (p p' d d':Bool) (l l' f f':Int) (a1 a2 a3 a4 b1 b2 b3 b4:Option Addr) (m1 m2 m3 m4 k1 k2 k3 k4 c1 c2 c3 c4 e1 e2 e3 e4:Nat) (q1 q2 q3 q4:Bool) (w:World)
  (hV:∀W,Below w.heap.size w W->Calls Tryz.prog 45 #[.slice a1 m1 c1,.slice b1 k1 e1] W λe w'=>e=.returned (.bool q1)/\Below W.heap.size W w')
  (hP:∀W,Below w.heap.size w W->Calls Tryz.prog 85 #[.slice a2 m2 c2,.slice b2 k2 e2] W λe w'=>e=.returned (.bool q2)/\Below W.heap.size W w')
  (hE:∀W,Below w.heap.size w W->Calls Tryz.prog 86 #[.slice a3 m3 c3,.slice b3 k3 e3] W λe w'=>e=.returned (.bool q3)/\Below W.heap.size W w')
  (hK:∀W,Below w.heap.size w W->Calls Tryz.prog 87 #[.slice a4 m4 c4,.slice b4 k4 e4] W λe w'=>e=.returned (.bool q4)/\Below W.heap.size W w') :
  Calls Tryz.prog 55 #[.agg #[.bool p,.bool d,.slice a1 m1 c1,.slice a2 m2 c2,.slice a3 m3 c3,.slice a4 m4 c4,.int .i64 l,.int .i64 f],.agg #[.bool p',.bool d',.slice b1 k1 e1,.slice b2 k2 e2,.slice b3 k3 e3,.slice b4 k4 e4,.int .i64 l',.int .i64 f']] w λe w'=>e=.returned (.bool (p == p' && d == d' && q1 && q2 && q3 && q4 && l == l' && f == f'))/\Below w.heap.size w w':=by
 have hB0:Below w.heap.size w ((w.alloc (.cells #[.bool p,.bool d,.slice a1 m1 c1,.slice a2 m2 c2,.slice a3 m3 c3,.slice a4 m4 c4,.int .i64 l,.int .i64 f] 30)).alloc (.cells #[.bool p',.bool d',.slice b1 k1 e1,.slice b2 k2 e2,.slice b3 k3 e3,.slice b4 k4 e4,.int .i64 l',.int .i64 f'] 30)):=blw
 have HB:=Lib.hid hB0
 obtain⟨res,hres⟩:∃r,(p == p' && d == d' && q1 && q2 && q3 && q4 && l == l' && f == f')=r:=⟨_,rfl⟩
 rw[hres]
 have Hres:=Lib.hid hres
 clear hres
 cases g0:(p == p')
 case false =>
  have H0:Hid (res=false):=by show _=_;rw[←Hres.out];simp[g0]
  clear Hres hV hP hK hE hB0
  go_enter Tryz.func55,Tryz.ntmps55
  go_wp2
  go_ret
  exact⟨by rw[H0.out];rfl,HB.out⟩
 obtain rfl:p=p':=by simpa using g0
 clear g0
 cases g1:(d == d')
 case false =>
  have H0:Hid (res=false):=by show _=_;rw[←Hres.out];simp[g1]
  clear Hres hV hP hK hE hB0
  go_enter Tryz.func55,Tryz.ntmps55
  go_wp2
  go_ret
  exact⟨by rw[H0.out];rfl,HB.out⟩
 obtain rfl:d=d':=by simpa using g1
 clear g1
 replace Hres:Hid ((q1 && q2 && q3 && q4 && l == l' && f == f')=res):=by show _=_;rw[←Hres.out];simp
 have hc0:=hV _ hB0
 clear hV HB
 go_enter Tryz.func55,Tryz.ntmps55
 go_wp2_with fail
 refine hc0.mono ?_
 rintro e w2 ⟨rfl,hb2⟩
 have hs2:=aa hB0 hb2
 obtain⟨hc,hf⟩:=aB hb2
 clear hc0
 have hc1:=hP _ hs2
 clear hP
 cases q1
 case false =>
  have H0:Hid (res=false):=by show _=_;rw[←Hres.out];simp[]
  clear Hres hc1
  go_wp2
  go_ret
  exact⟨by rw[H0.out];rfl,hs2⟩
 replace Hres:Hid ((q2 && q3 && q4 && l == l' && f == f')=res):=by show _=_;rw[←Hres.out];simp
 go_wp2_with fail
 refine hc1.mono ?_
 rintro e w3 ⟨rfl,hb3⟩
 have ht3:=aa hb2 hb3
 have hs3:=aa hB0 ht3
 clear hc hf
 obtain⟨hc,hf⟩:=aB ht3
 clear hc1
 have hc2:=hE _ hs3
 clear hE
 cases q2
 case false =>
  have H0:Hid (res=false):=by show _=_;rw[←Hres.out];simp[]
  clear Hres hc2
  go_wp2
  go_ret
  exact⟨by rw[H0.out];rfl,hs3⟩
 replace Hres:Hid ((q3 && q4 && l == l' && f == f')=res):=by show _=_;rw[←Hres.out];simp
 go_wp2_with fail
 refine hc2.mono ?_
 rintro e w4 ⟨rfl,hb4⟩
 have ht4:=aa ht3 hb4
 have hs4:=aa hB0 ht4
 clear hc hf
 obtain⟨hc,hf⟩:=aB ht4
 clear hc2
 have hc3:=hK _ hs4
 clear hK
 cases q3
 case false =>
  have H0:Hid (res=false):=by show _=_;rw[←Hres.out];simp[]
  clear Hres hc3
  go_wp2
  go_ret
  exact⟨by rw[H0.out];rfl,hs4⟩
 replace Hres:Hid ((q4 && l == l' && f == f')=res):=by show _=_;rw[←Hres.out];simp
 go_wp2_with fail
 refine hc3.mono ?_
 rintro e w5 ⟨rfl,hb5⟩
 have ht5:=aa ht4 hb5
 have hs5:=aa hB0 ht5
 clear hc hf
 obtain⟨hc,hf⟩:=aB ht5
 clear hc3
 cases q4
 case false =>
  have H0:Hid (res=false):=by show _=_;rw[←Hres.out];simp[]
  clear Hres
  go_wp2
  go_ret
  exact⟨by rw[H0.out];rfl,hs5⟩
 replace Hres:Hid ((l == l' && f == f')=res):=by show _=_;rw[←Hres.out];simp
 cases g5:(l == l')
 case false =>
  have H0:Hid (res=false):=by show _=_;rw[←Hres.out];simp[g5]
  clear Hres
  go_wp2
  go_ret
  exact⟨by rw[H0.out];rfl,hs5⟩
 go_wp2
 go_ret
 exact⟨by rw[←Hres.out,g5];rfl,hs5⟩
theorem lv:(Tryz.prog.info? 101).map (λi=>(i.zero,i.size,i.bytes))=some (some (wS ⟨⟨⟨#[]⟩,zTm⟩,⟨⟨#[]⟩,zTm⟩,⟨⟨#[]⟩,zTm⟩⟩),15,216):=by kernel_rfl
theorem lS:(Tryz.prog.info? 61).map (λi=>(i.zero,i.size,i.bytes))=some (some (DI ⟨⟨#[]⟩,false⟩),2,24):=by kernel_rfl
theorem jz:(Tryz.prog.info? 67).map (λi=>(i.zero,i.size,i.bytes))=some (some (.agg #[.int .i64 0,.string ⟨#[]⟩,.int .i64 0,.string ⟨#[]⟩,.string ⟨#[]⟩,.string ⟨#[]⟩,.slice none 0 0]),7,104):=by kernel_rfl
theorem Ce (l:List ByteArray):∀u∈l.map Value.string,u.oneCell'=true:=by intro u hu;obtain⟨x,_,rfl⟩:=List.mem_map.1 hu;rfl
theorem Cr (l:List Pat):∀u∈l.flatMap cPat,u.oneCell'=true:=by
 intro u hu
 obtain⟨t,_,ht⟩:=List.mem_flatMap.1 hu
 simp only[cPat,List.mem_cons,List.not_mem_nil,or_false]at ht
 rcases ht with rfl|rfl|rfl|rfl|rfl|rfl|rfl|rfl|rfl|rfl|rfl|rfl|rfl|rfl|rfl<;>rfl
theorem CI (l:List Ky):∀u∈l.flatMap cKey,u.oneCell'=true:=by
 intro u hu
 obtain⟨t,_,ht⟩:=List.mem_flatMap.1 hu
 simp only[cKey,List.mem_cons,List.not_mem_nil,or_false]at ht
 rcases ht with rfl|rfl<;>rfl
theorem vo (l:List Pat):(l.flatMap cPat).length=l.length*15:=by
 induction l with
 | nil=>rfl
 | cons a r ih=>simp[List.flatMap_cons,ih,cPat,Nat.add_mul]
theorem vU (l:List Ky):(l.flatMap cKey).length=l.length*2:=by
 induction l with
 | nil=>rfl
 | cons a r ih=>simp[List.flatMap_cons,ih,cKey,Nat.add_mul]
theorem RdL.flatC {α:Type} {f:α->List Value} {sz:Nat} (hf:∀e,(f e).length=sz) {w:World} {A:Option Addr} {l:List α}:RdL sz (λcs y=>cs=f y) w A l↔Rd w A (l.flatMap f):=by
 constructor
 ·rintro⟨xs,h,ha⟩
  rw[←ha.flat];exact h
 ·intro h
  exact⟨_,h,All.of_flat l λe _=>hf e⟩
end Go.Proofs.YtjldjeenfnahoaaGreatDoor
