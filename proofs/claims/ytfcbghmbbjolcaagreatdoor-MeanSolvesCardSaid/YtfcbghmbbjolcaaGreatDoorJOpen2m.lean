/- A region that draws its order, by a plan that may part: wher -/
import Derived.Test.YtfcbghmbbjolcaaGreatDoorJRegion2
import Derived.Test.YtfcbghmbbjolcaaGreatDoorJExprMath
import Derived.Lib.SmallJoins
import Derived.Test.YtfcbghmbbjolcaaGreatDoorCards
import Derived.Test.YtfcbghmbbjolcaaGreatDoorTie
import Derived.Lib.LaidU8
import Derived.Lib.LaidIn
import Derived.Deep.DeepWitnessRowRef
namespace Go.Proofs.YtfcbghmbbjolcaaGreatDoor.Rf
open Go Go.Sort Go.RowKit Rg Rh
inductive Pl where
 | done
 | quiet (is:List Nat) (r:Pl)
 | one (i:Nat) (r:Pl)
 | fork (i j:Nat) (ri rj:Pl)
 | fork3 (i j k:Nat) (ri rj rk:Pl)
inductive PlO where
 | done
 | quiet (l:List Oper) (r:PlO)
 | one (o:Oper) (r:PlO)
 | fork (oi oj:Oper) (ri rj:PlO)
 | fork3 (oi oj ok:Oper) (ri rj rk:PlO)
def pickO (ops:Array Oper) (i:Nat):Oper:=(ops[i]?).getD Cq
def Pl.pick (ops:Array Oper):Pl->PlO
 | .done=>.done
 | .quiet is r=>.quiet (pickOps ops is) (r.pick ops)
 | .one i r=>.one (pickO ops i) (r.pick ops)
 | .fork i j ri rj=>.fork (pickO ops i) (pickO ops j) (ri.pick ops) (rj.pick ops)
 | .fork3 i j k ri rj rk=>.fork3 (pickO ops i) (pickO ops j) (pickO ops k) (ri.pick ops) (rj.pick ops) (rk.pick ops)
def Pl.len:Pl->Nat
 | .done=>0
 | .quiet is r=>is.length+r.len
 | .one _ r=>1+r.len
 | .fork _ _ ri _=>1+ri.len
 | .fork3 _ _ _ ri _ _=>1+ri.len
section
variable {P:Program} {ops:Array Oper}
def ei (P:Program) (ops:Array Oper) (B:Nat) (Q:Act->World->Prop):PlO->Act->World->Prop
 | .done,a,w=>Q a w
 | .quiet l r,a,w=>wpQuiet P ops (jr B w) (λa'=>ei P ops B Q r a' w) l a
 | .one o r,a,w=>wpList P ops (Exit.then (λa' W'=>Below B w W'/\ei P ops B Q r a' W') Bot) [o] a w
 | .fork oi oj ri rj,a,w=>wpList P ops (Exit.then (λa' W'=>Below B w W'/\ei P ops B Q ri a' W') Bot) [oi] a w /\
   wpList P ops (Exit.then (λa' W'=>Below B w W'/\ei P ops B Q rj a' W') Bot) [oj] a w
 | .fork3 oi oj ok ri rj rk,a,w=>wpList P ops (Exit.then (λa' W'=>Below B w W'/\ei P ops B Q ri a' W') Bot) [oi] a w /\
   wpList P ops (Exit.then (λa' W'=>Below B w W'/\ei P ops B Q rj a' W') Bot) [oj] a w /\
   wpList P ops (Exit.then (λa' W'=>Below B w W'/\ei P ops B Q rk a' W') Bot) [ok] a w
theorem pl_done {B:Nat} {Q:Act->World->Prop} {a:Act} {w:World} (h:Q a w):ei P ops B Q .done a w:=h
theorem pl_quiet {B:Nat} {Q:Act->World->Prop} {l:List Oper} {r:PlO} {a:Act} {w:World} (h:wpQuiet P ops (jr B w) (λa'=>ei P ops B Q r a' w) l a):ei P ops B Q (.quiet l r) a w:=h
theorem pl_one {B:Nat} {Q:Act->World->Prop} {o:Oper} {r:PlO} {a:Act} {w:World} (h:wpList P ops (Exit.then (λa' W'=>Below B w W'/\ei P ops B Q r a' W') Bot) [o] a w):ei P ops B Q (.one o r) a w:=h
theorem pl_fork {B:Nat} {Q:Act->World->Prop} {oi oj:Oper} {ri rj:PlO} {a:Act} {w:World} (h:wpList P ops (Exit.then (λa' W'=>Below B w W'/\ei P ops B Q ri a' W') Bot) [oi] a w)
  (h2:wpList P ops (Exit.then (λa' W'=>Below B w W'/\ei P ops B Q rj a' W') Bot) [oj] a w):ei P ops B Q (.fork oi oj ri rj) a w:=⟨h,h2⟩
def plB (ops:Array Oper):Pl->Array Bool->Bool
 | .done,l=>(Region.ready .any ops l).isEmpty
 | .quiet is r,l=>match aE ops is l with|some l'=>plB ops r l'|none=>false
 | .one i r,l=>(Region.ready .any ops l == [i]) && (ops[i]?).isSome && plB ops r (l.setIfInBounds i true)
 | .fork i j ri rj,l=>(Region.ready .any ops l == [i,j]) && (ops[i]?).isSome && (ops[j]?).isSome && plB ops ri (l.setIfInBounds i true) && plB ops rj (l.setIfInBounds j true) && (ri.len == rj.len)
 | .fork3 i j k ri rj rk,l=>(Region.ready .any ops l == [i,j,k]) && (ops[i]?).isSome && (ops[j]?).isSome && (ops[k]?).isSome && plB ops ri (l.setIfInBounds i true) && plB ops rj (l.setIfInBounds j true) && plB ops rk (l.setIfInBounds k true) && (ri.len == rj.len) && (ri.len == rk.len)
def GY (ops:Array Oper) (p:Pl):Bool:=Region.noSelect ops && plB ops p (Array.replicate ops.size false) && (p.len == ops.size)
theorem eH {B:Nat} {j:Nat} {o:Oper} (ho:ops[j]?=some o) {G X:Act->World->Prop} {a:Act} {w:World}
  (h:wpList P ops (Exit.then (λa' W'=>Below B w W'/\G a' W') Bot) [o] a w) (hx:∀a' W',Below B w W'->G a' W'->X a' W'):wpOp P ops Bot j X a w:=by
 unfold wpOp
 simp only[ho]
 have next:∀a' W',wpList P ops (Exit.then (λa' W'=>Below B w W'/\G a' W') Bot) [] a' W'->X a' W':=λa' W' hh=>hx a' W' hh.1 hh.2
 simp only[wpList]at h
 split at h
 ·rename_i hw
  rw[if_pos hw]
  rcases h with h|h
  ·left
   exact gZ (λc a w h=>h) (λh=>h) (Oper.wp_mono next h)
  ·obtain⟨_,hl⟩:=h
   obtain⟨_,_,hf⟩:=hl
   exact hf.elim
 ·rename_i hw
  rw[if_neg hw]
  exact next _ _ h
theorem dl {B:Nat} {Q:Act->World->Prop} (hs:Region.noSelect ops=true):∀(p:Pl) (listed:Array Bool) (a:Act) (w:World),
  plB ops p listed=true->ei P ops B Q (p.pick ops) a w->eQ P ops B Q p.len listed a w
 | .done,listed,a,w,hB,h=>⟨by simpa[plB] using hB,h⟩
 | .quiet is r,listed,a,w,hB,h=>by
  simp only[plB]at hB
  cases hq:aE ops is listed with
  | none=>simp[hq]at hB
  | some l' =>
   simp only[hq]at hB
   simp only[Pl.pick,ei]at h
   exact Rh.quiet_sound hs (λa' ha'=>dl hs r l' a' w hB ha') is listed a hq h
 | .one i r,listed,a,w,hB,h=>by
  simp only[plB,Bool.and_eq_true,beq_iff_eq]at hB
  obtain⟨⟨hr,ho⟩,hB⟩:=hB
  obtain⟨o,ho⟩:=Option.isSome_iff_exists.1 ho
  simp only[Pl.pick,ei,pickO,ho,Option.getD_some]at h
  show eQ P ops B Q (1+r.len) listed a w
  rw[Nat.add_comm]
  refine⟨λh0=>(by rw[hr]at h0;cases h0),λj hj=>?_⟩
  rw[hr]at hj
  simp only[List.mem_singleton]at hj
  subst hj
  exact eH ho h λa' W' hb hg=>⟨hb,dl hs r _ a' W' hB hg⟩
 | .fork i j ri rj,listed,a,w,hB,h=>by
  simp only[plB,Bool.and_eq_true,beq_iff_eq]at hB
  obtain⟨⟨⟨⟨⟨hr,ho⟩,ho2⟩,hB⟩,hB2⟩,hl⟩:=hB
  obtain⟨o,ho⟩:=Option.isSome_iff_exists.1 ho
  obtain⟨o2,ho2⟩:=Option.isSome_iff_exists.1 ho2
  simp only[Pl.pick,ei,pickO,ho,ho2,Option.getD_some]at h
  show eQ P ops B Q (1+ri.len) listed a w
  rw[Nat.add_comm]
  refine⟨λh0=>(by rw[hr]at h0;cases h0),λk hk=>?_⟩
  rw[hr]at hk
  simp only[List.mem_cons,List.not_mem_nil,or_false]at hk
  rcases hk with rfl|rfl
  ·exact eH ho h.1 λa' W' hb hg=>⟨hb,dl hs ri _ a' W' hB hg⟩
  ·exact eH ho2 h.2 λa' W' hb hg=>⟨hb,by rw[hl];exact dl hs rj _ a' W' hB2 hg⟩
 | .fork3 i j k ri rj rk,listed,a,w,hB,h=>by
  simp only[plB,Bool.and_eq_true,beq_iff_eq]at hB
  obtain⟨⟨⟨⟨⟨⟨⟨⟨hr,ho⟩,ho2⟩,ho3⟩,hB⟩,hB2⟩,hB3⟩,hl⟩,hl3⟩:=hB
  obtain⟨o,ho⟩:=Option.isSome_iff_exists.1 ho
  obtain⟨o2,ho2⟩:=Option.isSome_iff_exists.1 ho2
  obtain⟨o3,ho3⟩:=Option.isSome_iff_exists.1 ho3
  simp only[Pl.pick,ei,pickO,ho,ho2,ho3,Option.getD_some]at h
  show eQ P ops B Q (1+ri.len) listed a w
  rw[Nat.add_comm]
  refine⟨λh0=>(by rw[hr]at h0;cases h0),λm hj=>?_⟩
  rw[hr]at hj
  simp only[List.mem_cons,List.not_mem_nil,or_false]at hj
  rcases hj with rfl|rfl|rfl
  ·exact eH ho h.1 λa' W' hb hg=>⟨hb,dl hs ri _ a' W' hB hg⟩
  ·exact eH ho2 h.2.1 λa' W' hb hg=>⟨hb,by rw[hl];exact dl hs rj _ a' W' hB2 hg⟩
  ·exact eH ho3 h.2.2 λa' W' hb hg=>⟨hb,by rw[hl3];exact dl hs rk _ a' W' hB3 hg⟩
theorem qI (B:Nat) (R:Act->World->Prop) {id:Nat} {Q:Exit->Act->World->Prop} {a:Act} {w:World} {l:List Oper} (p:Pl) (p':PlO) (hm:P.follows .mixedOrders=true) (hB:GY l.toArray p=true)
  (hp:p.pick l.toArray=p') (h0:∀wd,Below w.heap.size w wd->wd.heap.size=w.heap.size->ei P l.toArray B R p' a wd) (hR:∀a w,R a w->Q .normal a w):(Code.region id l.toArray true).wp P Q a w:=by
 subst hp
 unfold GY at hB
 simp only[Bool.and_eq_true,beq_iff_eq]at hB
 obtain⟨⟨h1,h2⟩,h3⟩:=hB
 refine wp_region_any hm ?_
 have:=dl (P:=P) (Q:=R) h1 p _ a w.drew h2 (h0 _ (Below.refl _ _).drew rfl)
 rw[h3]at this
 exact eQ.sound hR _ _ a w.drew this
theorem p0 (B:Nat) (R:Act->World->Prop) {id:Nat} {Q:Exit->Act->World->Prop} {a:Act} {w:World} {l:List Oper} (p:Pl) {p':PlO} (h0:∀wd,Below w.heap.size w wd->wd.heap.size=w.heap.size->ei P l.toArray B R p' a wd) (hR:∀a w,R a w->Q .normal a w) (hm:P.follows .mixedOrders=true:=by kernel_rfl) (hB:GY l.toArray p=true:=by kernel_rfl) (hp:p.pick l.toArray=p':=by simp only[Rf.Pl.pick,Rf.pickO,List.map_cons,List.map_nil,Rg.pickOps,List.getElem?_toArray,List.getElem?_cons_zero,List.getElem?_cons_succ,Option.getD_some];rfl):(Code.region id l.toArray true).wp P Q a w:=qI B R p p' hm hB hp h0 hR
end
end Go.Proofs.YtfcbghmbbjolcaaGreatDoor.Rf
namespace Go.Proofs.YtfcbghmbbjolcaaGreatDoor
open Go Go.RowKit
theorem ai {α:Type} {l:List α} {k:Nat} {x:α} (h:l[k]?=some x):l.drop k=x::l.drop (k+1):=by
 have hlt:k<l.length:=(List.getElem?_eq_some_iff.1 h).1
 rw[List.drop_eq_getElem_cons hlt]
 rw[List.getElem?_eq_getElem hlt]at h
 injection h with h;rw[h]
theorem ah {α:Type} {l:List α} {k:Nat} {x:α} (h:l[k]?=some x):l.take (k+1)=l.take k++[x]:=by
 have hlt:k<l.length:=(List.getElem?_eq_some_iff.1 h).1
 rw[List.take_succ_eq_append_getElem hlt]
 rw[List.getElem?_eq_getElem hlt]at h
 injection h with h;rw[h]
theorem aa {a b c:World} (h:Below a.heap.size a b) (k:Below b.heap.size b c):Below a.heap.size a c:=
 h.trans (k.mono h.size)
theorem dS {a b:World} {o:Obj} (h:Below a.heap.size a b):Below a.heap.size a (b.alloc o):=h.alloc h.size o
theorem blw {n:Nat} {w v:World} (h:Below n w v:=by repeat (first|exact Below.refl _ _|assumption|exact(Below.refl _ _).alloc (Nat.le_refl _) _|refine aa ?_ (by assumption)|refine dS ?_|refine aa ?_ (below_regrown _ _ _))):Below n w v:=h
theorem Rd.later {w w':World} {A:Option Addr} {xs:List Value} (h:Rd w A xs) (hb:Below w.heap.size w w'):Rd w' A xs:=h.below hb (Nat.le_refl _)
theorem eK {B:Nat} {w:World} {a:Addr} {v:Value} (h:w.cell? a=some v) (hlt:a.block<B) (p:Rh.Later B w):p.W.cell? a=some v:=by rw[p.h.cell hlt];exact h
theorem cellL {W wd:World} {a:Addr} {v:Value} (h:W.cell? a=some v) (hb:Below W.heap.size W wd) (p:Rh.Later W.heap.size wd):p.W.cell? a=some v:=by
 have:=ag h
 rw[p.h.cell this,hb.cell this];exact h
theorem ac {W W1:World} {a:Addr} {v:Value} (h:W.cell? a=some v) (hb:Below W.heap.size W W1):W1.cell? a=some v:=by rw[hb.cell (ag h)];exact h
theorem fg {B:Nat} {w:World} (h:B<=w.heap.size) (X Y:Obj):Below B (w.alloc X) (w.alloc Y):=
 ⟨rfl,rfl,rfl,by simp,λk hk=>by rw[Below.heap_alloc _ _ _ (by omega),Below.heap_alloc _ _ _ (by omega)]⟩
theorem ct {B b:Nat} {w:World} (h:B<=b) (v0 v1 v2 v3:Value):Below B w ((((w.setCell ⟨b,0,none⟩ v0).setCell ⟨b,1,none⟩ v1).setCell ⟨b,2,none⟩ v2).setCell ⟨b,3,none⟩ v3):=
 ((((Below.refl B w).setCell (p:=⟨b,0,none⟩) h _).setCell (p:=⟨b,1,none⟩) h _).setCell (p:=⟨b,2,none⟩) h _).setCell (p:=⟨b,3,none⟩) h _
def El (w:World) (base:Nat) (ty:TypeId) (v:Value) (l:List Int):Prop:=w.ownsRow base ty 1 v l.length (l.map (Value.int .i64))
theorem Jm (l:List Int):∀u∈l.map (Value.int .i64),u.oneCell'=true:=ints_oneCell _ l
theorem Cf {w:World} {base:Nat} {ty:TypeId} {v:Value} {l:List Int} (h:El w base ty v l):∃A c,v=.slice A l.length c/\l.length<=c/\Rd w A (l.map (Value.int .i64)):=by
 obtain⟨h1,h2⟩:=h
 rcases h2 with ⟨rfl,hx⟩|⟨g,cap,cur,rfl,hg,hh,hnc,hr⟩
 ·have:l=[]:=by simpa using hx
  subst this
  exact⟨none,0,rfl,by simp,Rd.nil _ _⟩
 ·exact⟨_,cap,rfl,hnc,Rd.of_own ⟨h1,.inr ⟨g,cap,cur,rfl,hg,hh,hnc,hr⟩⟩⟩
theorem fa {w:World} {base:Nat} {e:TypeId} {size n:Nat} {cs:Array Value} {xs:List Value} (hb:base<=w.heap.size) (hx:cs.toList=xs) (hn:xs.length=n*size) (hm:n<=1000000) :
  (w.alloc (.cells cs e)).ownsRow base e size (.slice (some ⟨w.heap.size,0,none⟩) n n) n xs:=by
 subst hx
 refine⟨hn,.inr ⟨w.heap.size,n,cs,rfl,hb,heap_alloc_new w _,Nat.le_refl _,by simp[maxLen];omega,by simpa using hn,?_⟩⟩
 rw[List.take_of_length_le (by omega)]
theorem own_slice {w:World} {base:Nat} {e:TypeId} {size n:Nat} {v:Value} {xs:List Value} (h:w.ownsRow base e size v n xs):∃A c,v=.slice A n c/\n<=c/\Rd w A xs:=by
 obtain⟨h1,h2⟩:=h
 rcases h2 with ⟨rfl,hx⟩|⟨g,cap,cur,rfl,hg,hh,hnc,hr⟩
 ·subst hx
  have h0:xs=[]:=by simpa using h1
  subst h0
  exact⟨none,0,rfl,Nat.le_refl _,Rd.nil _ _⟩
 ·exact⟨_,cap,rfl,hnc,Rd.of_own ⟨h1,.inr ⟨g,cap,cur,rfl,hg,hh,hnc,hr⟩⟩⟩
open Fm
def zTm:Tm:=⟨0,⟨#[]⟩,⟨#[]⟩,⟨#[]⟩⟩
def tmC (t:Tm):List Value:=[.int .i64 t.k,.string t.x,.string t.l,.string t.y]
def tmV (t:Tm):Value:=.agg #[.int .i64 t.k,.string t.x,.string t.l,.string t.y]
def r7 (o:Option Tm):Value:=.tuple #[tmV (o.getD zTm),.bool o.isSome]
abbrev RdTs (w:World) (A:Option Addr) (l:List Tm):Prop:=RdL 4 (λcs t=>cs=tmC t) w A l
theorem RdTs.at4 {w:World} {A:Option Addr} {l:List Tm} (h:RdTs w A l) {j:Nat} {t:Tm} (he:l[j]?=some t) :
  ∃g o,A=some ⟨g,o,none⟩/\w.cell? ⟨g,o+j*4,none⟩=some (.int .i64 t.k)/\w.cell? ⟨g,o+j*4+1,none⟩=some (.string t.x) /\
   w.cell? ⟨g,o+j*4+2,none⟩=some (.string t.l)/\w.cell? ⟨g,o+j*4+3,none⟩=some (.string t.y):=by
 obtain⟨g,o,cs,hA,_,hcs,hx⟩:=RdL.at_ h (by omega) he
 subst hcs
 exact⟨g,o,hA,hx 0 _ rfl,hx 1 _ rfl,hx 2 _ rfl,hx 3 _ rfl⟩
theorem RdTs.later {w w':World} {A:Option Addr} {l:List Tm} (h:RdTs w A l) (hb:Below w.heap.size w w'):RdTs w' A l:=h.mono hb λ_ _ _ h=>h
theorem kN (l:List ByteArray) (x:ByteArray) : -1<=Lib.idxOfS l x/\Lib.idxOfS l x<l.length:=by
 have key:∀(l:List ByteArray) (i:Nat),-1<=Lib.idxFromS l x i/\Lib.idxFromS l x i<i+l.length∨l=[]/\Lib.idxFromS l x i = -1:=by
  intro l
  induction l with
  | nil=>intro i;exact .inr ⟨rfl,rfl⟩
  | cons z zs ih =>
   intro i
   unfold Lib.idxFromS
   split
   ·left;simp;omega
   ·rcases ih (i+1) with h|⟨h1,h2⟩
    ·left;simp;omega
    ·left;rw[h2];simp;omega
 rcases key l 0 with h|⟨h1,h2⟩
 ·unfold Lib.idxOfS;omega
 ·unfold Lib.idxOfS;rw[h2,h1];simp
open Go.ChangeShapes Go.WideShapes Go.ChangeAt Go.Lib Go.Joins Go.Deep
section
variable {H:Type} {enc:TypeId × Value->H} {P:Program}
def dB (P:Program) (t:TypeId) (d:DataW H):Prop:=∀m∈d.weights P t,m<=reachBytes
def qG (enc:TypeId × Value->H) (P:Program) (w:World) (f:Nat) (t:TypeId) (sz:Nat) {α:Type} (R:List Value->α->Prop) (Z:α->Prop):Prop:=
 ∀(cs:List Value) (d:DataW H) (ps:List MemPlace),DataW.trod enc P w 0 (λ_=>true) true f t cs=some (d,ps)->dB P t d->∃a,R cs a/\cs.length=sz/\Z a
theorem gu {e:TypeId}:∀{l:List (DataW H)} {d:DataW H},d∈l->∀m∈d.weights P e,m∈DataW.weightsAll P e l
 | x::r,d,hd,m,hm=>by
  rw[DataW.weightsAll,List.mem_append]
  rcases List.mem_cons.1 hd with h|h
  ·left;rw[←h];exact hm
  ·right;exact gu h m hm
theorem lP:∀{ts:List TypeId} {ds:List (DataW H)} {i:Nat} {t:TypeId} {d:DataW H},ts[i]?=some t->ds[i]?=some d->∀m∈d.weights P t,m∈DataW.weightsEach P ts ds:=λht hd m hm=>DataW.weights_mem_each ht hd m hm
theorem dB.field {t u:TypeId} {fs:Array Field} {parts:List (DataW H)} (h:dB P t (.agg parts)) (hu:P.underlying t=some (.struct fs)) {i:Nat} {d:DataW H} (ht:(fs.toList.map (·.type))[i]?=some u) (hd:parts[i]?=some d):dB P u d:=by
 intro m hm
 refine h m ?_
 simp only[DataW.weights,hu]
 exact lP ht hd m hm
theorem dG {t:TypeId} {s:ByteArray} (h:dB P t (.lit (.string s.data.toList):DataW H)):s.size<=140737488351232:=by
 have:=h s.data.toList.length (by simp[DataW.weights])
 rw[ar]at this
 exact Nat.le_trans this (by decide)
theorem open_list {w:World} {f F:Nat} {t e:TypeId} {sz:Nat} {α:Type} {R:List Value->α->Prop} {Z:α->Prop} (ht:P.underlying t=some (.slice e)) (hc:P.cellsOf e=sz) (hsz:0<sz) (hf:f<=F+1)
  (he:qG enc P w F e sz R Z) {cs:List Value} {d:DataW H} {ps:List MemPlace} (h:DataW.trod enc P w 0 (λ_=>true) true f t cs=some (d,ps)) (hs:dB P t d) :
  ∃(l:List α) (A:Option Addr) (c:Nat),cs=[.slice A l.length c]/\l.length<=c/\RdL sz R w A l/\(∀a∈l,Z a)/\c*P.bytesOf e<=reachBytes:=by
 rcases DataW.trod_slice ht h with ⟨hv,hx⟩|⟨a,len,cap,elems,rest,n,rfl,rfl,hx,hb,hl,hm,hlen,hel,hsp,hns⟩
 ·exact⟨[],none,0,hv,Nat.le_refl _,RdL.nil _ _ _ _,(by intro a ha;simp at ha),(by simp)⟩
 ·have hd:d=.slice (elems.map (·.1)) (rest.map (·.1)):=congrArg Prod.fst hx
  subst hd
  have hcap:cap*P.bytesOf e<=reachBytes:=by
   have:=hs (((elems.map (·.1)).length+(rest.map (·.1)).length)*P.bytesOf e) (by simp[DataW.weights,ht])
   rw[List.length_map,List.length_map,hlen,(hsp rfl).1]at this
   rwa [show len+(cap-len)=cap by omega]at this
  by_cases h0:len=0
  ·subst h0
   exact⟨[],some a,cap,rfl,hl,RdL.nil _ _ _ _,(by intro a ha;simp at ha),hcap⟩
  have hspot:∃b o,a=⟨b,o,none⟩:=by
   obtain⟨y,hy⟩:∃y,elems[0]?=some y:=⟨_,List.getElem?_eq_getElem (by omega)⟩
   have hk2:=hel 0 (by omega)
   rw[hy,Option.bind_eq_some_iff]at hk2
   obtain⟨ds,hcs,htr⟩:=hk2
   obtain⟨_,hdl,hcell⟩:=World.cells?_some hcs
   have h1:=hcell 0 (by omega)
   rw[List.getElem?_eq_getElem (by omega)]at h1
   have h2:=World.cell?_spot h1
   obtain⟨b,o,s⟩:=a
   have h3:s=none:=by simpa[Addr.add] using h2
   exact⟨b,o,by rw[h3]⟩
  obtain⟨b,o,rfl⟩:=hspot
  have step:∀k,k<=len->∃(l:List α) (xs:List Value),l.length=k/\All sz R xs l/\(∀a∈l,Z a)/\∀j u,xs[j]?=some u->w.cell? ⟨b,o+j,none⟩=some u:=by
   intro k
   induction k with
   | zero=>exact λ_=>⟨[],[],rfl,rfl,(by intro a ha;simp at ha),λj u hu=>by simp at hu⟩
   | succ k ih =>
    intro hk
    obtain⟨l,xs,h1,h2,h3,h4⟩:=ih (by omega)
    obtain⟨y,hy⟩:∃y,elems[k]?=some y:=⟨_,List.getElem?_eq_getElem (by omega)⟩
    have hk2:=hel k (by omega)
    rw[hy,Option.bind_eq_some_iff]at hk2
    obtain⟨ds,hcs,htr⟩:=hk2
    obtain⟨_,hdl,hcell⟩:=World.cells?_some hcs
    have hsy:dB P e y.1:=λm hm=>hs m (by
     simp only[DataW.weights,ht,List.mem_cons,List.mem_append]
     exact .inr (.inl (gu (List.mem_map_of_mem (List.mem_of_getElem? hy)) m hm)))
    obtain⟨x,hx1,hx2,hx3⟩:=he ds y.1 y.2 (DataW.trod_le (by omega) htr) hsy
    rw[hc]at hdl hcell
    refine⟨l++[x],xs++ds,by simp[h1],h2.append (All.one hx2 hx1),?_,?_⟩
    ·intro z hz
     rcases List.mem_append.1 hz with hz|hz
     ·exact h3 z hz
     ·simp only[List.mem_singleton]at hz;rw[hz];exact hx3
    ·intro j u hu
     have hxl:xs.length=k*sz:=by rw[h2.len,h1]
     by_cases hj:j<k*sz
     ·rw[List.getElem?_append_left (by omega)]at hu
      exact h4 j u hu
     ·rw[List.getElem?_append_right (by omega),hxl]at hu
      have hj2:j-k*sz<sz:=by
       have:=(List.getElem?_eq_some_iff.1 hu).1
       omega
      have h5:=hcell (j-k*sz) hj2
      rw[hu,aR,aR]at h5
      rw[show o+j=o+k*sz+(j-k*sz) by omega]
      exact h5
  obtain⟨l,xs,h1,h2,h3,h4⟩:=step len (Nat.le_refl _)
  subst h1
  exact⟨l,some ⟨b,o,none⟩,cap,rfl,hl,⟨xs,.inr ⟨b,o,rfl,h4⟩,h2⟩,h3,hcap⟩
end
open Go.ChangeMaps (open_string shut_string)
section
variable {H:Type} {enc:TypeId × Value->H} {P:Program}
theorem iH (hl:laidOutB P=true) {W W':World} (hb:Below W.heap.size W W') {sp:Nat->Bool} :
  ∀(ts:List TypeId) (vs:List Value) (ds:List (DataW H)) (ps:List MemPlace),(∀t∈ts,P.readableRec t=true/\t<P.types.size)->DataW.TrodAll enc P W 0 (λ_=>true) true ts vs ds ps ->
   (∀x∈ps,x.block<W.heap.size)->(∀x∈ps,sp x.block=true)->DataW.TrodAll enc P W' 0 sp true ts vs ds ps
 | [],[],[],_,_,h,_,_=>h
 | t::ts,v::vs,d::ds,ps,hr,h,hlt,hsp=>by
  obtain⟨p,q,h1,h2,rfl⟩:=h
  exact⟨p,q,WideElems.Trod_stays hl (hr t (by simp)).1 (hr t (by simp)).2 h1 (λx hx=>hb.same (hlt x (by simp[hx]))) (λx hx=>hsp x (by simp[hx])),
   iH hl hb ts vs ds q (λt ht=>hr t (by simp[ht])) h2 (λx hx=>hlt x (by simp[hx])) (λx hx=>hsp x (by simp[hx])),rfl⟩
 | [],[],_::_,_,_,h,_,_=>h.elim
 | [],_::_,_,_,_,h,_,_=>h.elim
 | _::_,[],_,_,_,h,_,_=>h.elim
 | _::_,_::_,[],_,_,h,_,_=>h.elim
theorem zj {fn:Func} {s:ChangeSpec} {apart fresh handsOn again:Bool} {W W':World} {args:Array Value} {ds gs:List (DataW H)} {before:List MemPlace} {tb:TypeId}
  (hl:laidOutB P=true) (hr:fn.params.toList.all (λt=>P.readableRec t && decide (t<P.types.size))=true) (hres:fn.resultTypes=#[tb]) (htb:P.underlying tb=some .bool) (hs:s.vars=[])
  (hW:DataW.Whole enc P fn.params.toList s.vars apart W args.toList ds gs before) (hf:s.fn H (ds++gs)={results:=[.lit (.bool true)],args:=ds}) (hb:Below W.heap.size W W') :
  s.post enc P fn apart fresh handsOn again W args (.bool true) W':=by
 have hlt:∀p∈before,p.block<W.heap.size:=λp hp=>hW.lt p hp
 have hW':=hW
 obtain⟨p,q,hA,hV,rfl,hz,hn⟩:=hW
 rw[hs]at hV
 obtain⟨rfl,rfl⟩:=trodVars_none hV
 rw[List.append_nil]at hf hW' hz hn hlt
 have hr':∀t∈fn.params.toList,P.readableRec t=true/\t<P.types.size:=λt ht=>by
  have:=List.all_eq_true.1 hr t ht
  simpa using this
 have hargs:∀sp:Nat->Bool,(∀x∈p,sp x.block=true)->DataW.TrodAll enc P W' 0 sp true fn.params.toList args.toList ds p:=λsp hsp=>iH hl hb _ _ _ _ hr' hA hlt hsp
 have hold:∀x∈p,(λb=>decide (b<W.heap.size)) x.block=true:=λx hx=>by simpa using hlt x hx
 have hout:∀(b:Nat) (sp:Nat->Bool) (hd:Bool),DataW.TrodAll enc P W' b sp hd fn.resultTypes.toList ((Value.bool true).resultList fn.resultTypes.size) [.lit (.bool true)] []:=λb sp hd=>by
  rw[hres];exact trodAll_cons_mk (shut_bool htb _) trodAll_mk0
 refine⟨ds,[],p,[],p,[],hW',?_,?_,?_,World.keptBut_mono (λx hx=>⟨hx,?_⟩) (hb.frame (· ∈ p)),λ_=>?_⟩
 ·rw[List.append_nil,hf];exact hout _ _ _
 ·rw[List.append_nil,hf];exact hargs _ hold
 ·rw[List.append_nil,hf,hs];rfl
 ·exact Or.inr (by simpa using hx)
 ·refine⟨ok_one (t:=tb) hres rfl (okWide_bool_mk htb _),_,([]:List (DataW H)),([]++p)++[],⟨[]++p,[],trodAll_append (hargs _ (λ_ _=>rfl)) (hout _ _ _),?_,rfl,?_,?_⟩,?_⟩
  ·rw[hs];rfl
  ·intro b off hp
   have hin:MemPlace.cell b off∈p:=by simpa using hp
   rw[hb.frozen (hlt _ hin)]
   exact hz b off hin
  ·intro ha
   have:=hn ha
   simpa using this
  ·intro x hx _
   simpa using hx
end
end Go.Proofs.YtfcbghmbbjolcaaGreatDoor
