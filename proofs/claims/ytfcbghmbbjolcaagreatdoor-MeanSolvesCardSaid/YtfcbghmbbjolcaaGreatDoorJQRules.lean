/- The program's package query, walked: parts, an iterator that -/
import Derived.RangeFuncNested
import Derived.RangeFuncBound
import Derived.Shelf.RegionOpen
import Derived.OwnWalkIn
import Derived.LoopNIn
import Derived.LoopIn
import Derived.Test.YtfcbghmbbjolcaaGreatDoorJQSlot
set_option maxHeartbeats 4000000
set_option maxRecDepth 100000
namespace Go.Proofs.YtfcbghmbbjolcaaGreatDoor
open Go Go.RowKit Go.Shelf Um Fm
attribute [local go_sem] Oper.semAt_some
def CM (w w':World):Prop:=∀(p:Addr) (u:Value),w.cell? p=some u->w'.cell? p=some u
theorem CM.refl (w:World):CM w w:=λ_ _ h=>h
theorem CM.trans {a b c:World} (h:CM a b) (k:CM b c):CM a c:=λp u x=>k p u (h p u x)
theorem CM.of_below {w w':World} (h:Below w.heap.size w w'):CM w w':=λ_ _ x=>ac x h
theorem Rd.cm {w w':World} {A:Option Addr} {xs:List Value} (h:Rd w A xs) (hc:CM w w'):Rd w' A xs:=by
 rcases h with h|⟨g,o,hA,hx⟩
 ·exact .inl h
 ·exact .inr ⟨g,o,hA,λj u hu=>hc _ _ (hx j u hu)⟩
theorem RdL.cm {α:Type} {sz:Nat} {R R':List Value->α->Prop} {w w':World} {A:Option Addr} {l:List α} (h:RdL sz R w A l) (hc:CM w w') (hm:∀cs e,e∈l->R cs e->R' cs e):RdL sz R' w' A l:=by
 obtain⟨xs,hr,ha⟩:=h
 exact⟨xs,hr.cm hc,ha.mono hm⟩
theorem RdE.cm:∀{n:Nat} {w w':World} {v:List Value} {e:ExT n},RdE n w v e->CM w w'->RdE n w' v e
 | 0,_,_,_,_,h,_=>h.elim
 | _+1,_,_,_,(_,_,_,_),⟨A,c,hv,hc,hk⟩,hb=>⟨A,c,hv,hc,hk.cm hb λ_ _ _ h=>h.cm hb⟩
theorem aJ.cm {n:Nat} {w w':World} {A:Option Addr} {l:List (ExT n)} (h:aJ n w A l) (hc:CM w w'):aJ n w' A l:=RdL.cm h hc λ_ _ _ h=>h.cm hc
def wo (h:Nat->Obj->Bool) (w:World):World:={w with heap:=w.heap.mapIdx λk o=>if h k o=true then .cells #[] 0 (0,0) else o}
theorem aV {h:Nat->Obj->Bool} {w:World} {p:Addr} {u:Value}:(wo h w).cell? p=some u↔(w.cell? p=some u/\∃o,w.heap[p.block]?=some o/\h p.block o=false):=by
 unfold World.cell? wo
 simp only[Array.getElem?_mapIdx]
 cases hx:w.heap[p.block]? with
 | none=>simp
 | some o =>
  cases hb:h p.block o with
  | true=>simp[hb]
  | false=>simp[hb]
theorem gt {h:Nat->Bool} {w:World} {p:Addr} {u:Value}:(wo (λk _=>h k) w).cell? p=some u↔(w.cell? p=some u/\h p.block=false):=by
 rw[aV]
 constructor
 ·rintro⟨h1,_,_,h2⟩;exact⟨h1,h2⟩
 ·rintro⟨h1,h2⟩;exact⟨h1,_,Array.getElem?_eq_getElem (ag h1),h2⟩
structure Kb (h:Nat->Obj->Bool) (S:Nat) (w w':World):Prop where
 cells:CM (wo h w) (wo h w')
 old:∀k o,k<S->w.heap[k]?=some o->h k o=false->w'.heap[k]?=some o
 size:w.heap.size<=w'.heap.size
theorem Kb.refl (h:Nat->Obj->Bool) (S:Nat) (w:World):Kb h S w w:=⟨CM.refl _,λ_ _ _ h _=>h,Nat.le_refl _⟩
theorem Kb.trans {hd:Nat->Obj->Bool} {S:Nat} {a b c:World} (h:Kb hd S a b) (k:Kb hd S b c):Kb hd S a c:=⟨h.cells.trans k.cells,λi o hi1 ho hi2=>k.old i o hi1 (h.old i o hi1 ho hi2) hi2,Nat.le_trans h.size k.size⟩
theorem Kb.of_blocks {hd:Nat->Obj->Bool} {S:Nat} {w w':World} (h:∀k o,w.heap[k]?=some o->hd k o=false->o.isCells=true∨k<S->w'.heap[k]?=some o) (hs:w.heap.size<=w'.heap.size):Kb hd S w w':=by
 refine⟨λp u x=>?_,λk o hk ho hn=>h k o ho hn (.inr hk),hs⟩
 rw[aV]at x ⊢
 obtain⟨hc,o,ho,hn⟩:=x
 have ho':=h _ o ho hn (.inl (by
  rw[World.cell?,ho]at hc
  cases o<;>simp[Obj.isCells]at hc ⊢))
 exact⟨by rw[World.cell?,ho'];rw[World.cell?,ho]at hc;exact hc,o,ho',hn⟩
theorem Kb.of_below {hd:Nat->Obj->Bool} {S:Nat} {w w':World} (h:Below w.heap.size w w') (_:S<=w.heap.size):Kb hd S w w':=
 .of_blocks (λk o ho _ _=>by rw[h.block k (Array.getElem?_eq_some_iff.1 ho).1];exact ho) h.size
theorem Kb.put {hd:Nat->Obj->Bool} {S:Nat} {w:World} {l:Nat} {o o':Obj} (hl:S<=l) (ho:w.heap[l]?=some o) (hc:o.isCells=false):Kb hd S w (w.putObj l o'):=by
 have hne:∀k,k≠l->(w.putObj l o').heap[k]?=w.heap[k]?:=λk hk=>World.putObj_heap_other hk
 refine .of_blocks (λk q hq _ hor=>?_) (grownBy_putObj' w l o').size
 have:k≠l:=by
  rintro rfl
  rcases hor with h1|h1
  ·rw[ho]at hq;cases hq;rw[hc]at h1;cases h1
  ·omega
 rw[hne k this];exact hq
theorem FE {β γ:Type} {l:List β} {j:Nat} {y:β} (h:l[j]?=some y) (f:β->List γ):l.flatMap f=(l.take j).flatMap f++(f y++(l.drop (j+1)).flatMap f):=by
 conv=>lhs;rw[←List.take_append_drop j l,ai h]
 rw[List.flatMap_append,List.flatMap_cons]
theorem ew {β γ:Type} {l:List β} {j:Nat} {y:β} (h:l[j]?=some y) (f:β->List γ):(l.take (j+1)).flatMap f=(l.take j).flatMap f++f y:=by
 rw[ah h,List.flatMap_append,List.flatMap_cons,List.flatMap_nil,List.append_nil]
theorem qS {F:Fence} (hd:F.depth=none) (k:Nat):F.room k:=λd h=>by rw[hd]at h;cases h
theorem YieldAt.anyDepth' {F:Fence} (hd:F.depth=none) {m:Nat} (m':Nat) {P:Program} {l:Nat} {args:Array Value} {W:World} {R:Ending->World->Prop} (h:YieldAt F m P l args W R):YieldAt F m' P l args W R:=by
 obtain⟨fn,tmps,assign,body,hy,hR⟩:=h
 exact⟨fn,tmps,assign,body,hy,hR.1,λc cs _=>hR.2 c cs (qS hd _)⟩
abbrev Pt:=(n:Nat) × ExT n
def cI:(n:Nat)->ExT n->List Pt
 | 0,_=>[]
 | n+1,(k,s,t,kids)=>⟨n+1,(k,s,t,kids)⟩::kids.flatMap (cI n)
structure Prt (W0:World) (Z:(n:Nat)->ExT n->Prop) where
 n:Nat
 x:ExT n
 cs:List Value
 rd:RdE n W0 cs x
 z:Z n x
def pts {W0:World} {Z:(n:Nat)->ExT n->Prop} (q:List (Prt W0 Z)):List Pt:=q.map λa=>⟨a.n,a.x⟩
abbrev Jp {W0:World} {Z:(n:Nat)->ExT n->Prop} (a:Prt W0 Z):Array Value:=#[.agg a.cs.toArray]
theorem fQ {W0:World} {Z:(n:Nat)->ExT n->Prop} (q:List (Prt W0 Z)):(pts q).length=q.length:=List.length_map _
theorem ce {W0:World} {Z:(n:Nat)->ExT n->Prop} (p q:List (Prt W0 Z)):pts (p++q)=pts p++pts q:=List.map_append
def Gy {W0:World} {Z:(n:Nat)->ExT n->Prop} (h:Nat->Obj->Bool) (S:Nat) (J Jx:List (Prt W0 Z)->World->Prop) (pre:List (Prt W0 Z)) (all:List Pt) (W:World) (e:Ending) (W':World):Prop:=
 (e=.returned (.bool true)/\(∃q,pts q=all/\J (pre++q) W')/\Kb h S W W')∨(e=.returned (.bool false)/\∃q,pts q <+: all/\Jx (pre++q) W')
def Jw {W0:World} {Z:(n:Nat)->ExT n->Prop} (h:Nat->Obj->Bool) (S n:Nat) (J:List (Prt W0 Z)->World->Prop) (pre:List (Prt W0 Z)) (es:List (ExT n)) (W:World) (i:Value) (wr:World):Prop:=
 ∃j:Nat,j<=es.length/\i=.int .i64 j/\(∃q,pts q=(es.take j).flatMap (cI n)/\J (pre++q) wr)/\Kb h S W wr
theorem BZ (F:Fence) (hd:F.depth=none) (h6:F.fn 234) (hro:F.round=none) {h:Nat->Obj->Bool} {S:Nat} (hhi:∀k cs fr,S<=k->h k (.cells cs 68 fr)=false) (W0:World) (Z:(n:Nat)->ExT n->Prop) (hZ:∀n k s t (kids:List (ExT n)),Z (n+1) (k,s,t,kids)->kids.length<=1353245080300/\∀y∈kids,Z n y)
  (l N:Nat) (J Jx:List (Prt W0 Z)->World->Prop) (hJ:∀s W o,J s W->J s (W.alloc o))
  (hY:∀m pre a W,J pre W->pre.length<N->YieldAt F m Tryz.prog l (Jp a) W λe W' =>
   (e=.returned (.bool true)/\J (pre++[a]) W'/\Kb h S W W')∨(e=.returned (.bool false)/\Jx (pre++[a]) W')) (n:Nat) :
  ∀(m:Nat) (es:List (ExT n)) (A:Option Addr) (c:Nat) (pre:List (Prt W0 Z)) (W:World),aJ n W0 A es->es.length<=1353245080300->(∀x∈es,Z n x)->CM W0 (wo h W)->S<=W.heap.size->J pre W ->
   pre.length+(es.flatMap (cI n)).length<=N ->
   CallsIn F m Tryz.prog 234 #[.func (.yield l) #[] #[],.slice A es.length c] W (Gy h S J Jx pre (es.flatMap (cI n)) W):=by
 have hdd:∀k:Nat,(F.depth.isSome=true->1<=k):=λk h=>by rw[hd]at h;cases h
 induction n with
 | zero =>
  intro m es A c pre W _ _ _ _ _ hj _
  obtain rfl:es=[]:=ExT.none
  refine callsIn_of_wp Tryz.func234 rfl h6 ?_ hro
  simp only[Tryz.ntmps234,List.size_toArray,List.length_cons,List.length_nil,Nat.reduceAdd,Nat.reduceSub,Array.replicate_succ,Array.replicate_zero,List.push_toArray,List.append_toArray,List.nil_append,List.cons_append]
  gi_wp2
  gi_loopw [9] (λi wr=>i=.int .i64 0/\J pre wr/\Kb h S W wr) (λ_ _=>0)
  case atStart=>exact⟨rfl,hj,Kb.refl _ _ _⟩
  case round =>
   obtain⟨rfl,hj,hk⟩:=hrel
   gi_wp2
   go_ret
   exact .inl ⟨rfl,⟨[],rfl,by simpa using hj⟩,hk⟩
 | succ n ih =>
  intro m es A c pre W hr hl hz hc hSW hj hN
  have hl':(es.length:Int)<=1353245080300:=by omega
  refine callsIn_of_wp Tryz.func234 rfl h6 ?_ hro
  simp only[Tryz.ntmps234,List.size_toArray,List.length_cons,List.length_nil,Nat.reduceAdd,Nat.reduceSub,Array.replicate_succ,Array.replicate_zero,List.push_toArray,List.append_toArray,List.nil_append,List.cons_append]
  gi_wp2
  gi_loopw [9] (Jw h S (n+1) J pre es W) (λi _=>es.length-(intOf i).toNat)
  case atStart=>exact⟨0,by omega,rfl,⟨[],rfl,by simpa using hj⟩,Kb.refl _ _ _⟩
  case round =>
   obtain⟨j,hj1,rfl,⟨q,hq,hJq⟩,hk⟩:=hrel
   by_cases hlt:j<es.length
   ·obtain⟨⟨k',s',t',kids'⟩,hy⟩:∃y:ExT (n+1),es[j]?=some y:=⟨_,List.getElem?_eq_getElem hlt⟩
    have hmem:=List.mem_of_getElem? hy
    obtain⟨hkl,hkz⟩:=hZ n k' s' t' kids' (hz _ hmem)
    obtain⟨g,o,A',c',rfl,hle,hk',c0,c1,c2,c3,c4,c5,c6⟩:=aJ.at_ hr hy
    have hcm:=hc.trans hk.cells
    have e0:=(aV.1 (hcm _ _ c0)).1
    have e1:=(aV.1 (hcm _ _ c1)).1
    have e2:=(aV.1 (hcm _ _ c2)).1
    have e3:=(aV.1 (hcm _ _ c3)).1
    have e4:=(aV.1 (hcm _ _ c4)).1
    have e5:=(aV.1 (hcm _ _ c5)).1
    have e6:=(aV.1 (hcm _ _ c6)).1
    have hflat:es.flatMap (cI (n+1))=(es.take j).flatMap (cI (n+1))++((⟨n+1,(k',s',t',kids')⟩::kids'.flatMap (cI n))++(es.drop (j+1)).flatMap (cI (n+1))):=FE hy _
    have htake:(es.take (j+1)).flatMap (cI (n+1))=(es.take j).flatMap (cI (n+1))++(⟨n+1,(k',s',t',kids')⟩::kids'.flatMap (cI n)):=ew hy _
    have hql:q.length=((es.take j).flatMap (cI (n+1))).length:=by rw[←hq,fQ]
    have hN2:pre.length+(((es.take j).flatMap (cI (n+1))).length+(((kids'.flatMap (cI n)).length+1)+((es.drop (j+1)).flatMap (cI (n+1))).length))<=N:=by
     rw[hflat]at hN
     simp only[List.length_append,List.length_cons]at hN ⊢
     omega
    have hSw:S<=wr.heap.size:=Nat.le_trans hSW hk.size
    have ha:RdE (n+1) W0 [.int .i64 k',.string s',.int .i64 t'.k,.string t'.x,.string t'.l,.string t'.y,.slice A' kids'.length c'] (k',s',t',kids'):=⟨A',c',rfl,hle,hk'⟩
    have hB1:Below wr.heap.size wr (wr.alloc (.cells #[.int .i64 k',.string s',.int .i64 t'.k,.string t'.x,.string t'.l,.string t'.y,.slice A' kids'.length c'] 68)):=blw
    have hkb1:Kb h S wr (wr.alloc (.cells #[.int .i64 k',.string s',.int .i64 t'.k,.string t'.x,.string t'.l,.string t'.y,.slice A' kids'.length c'] 68)):=Kb.of_below hB1 hSw
    have hb6:(wr.alloc (.cells #[.int .i64 k',.string s',.int .i64 t'.k,.string t'.x,.string t'.l,.string t'.y,.slice A' kids'.length c'] 68)).cell? ⟨wr.heap.size,6,none⟩=some (.slice A' kids'.length c'):=by rw[World.cell?,heap_alloc_new];rfl
    have hyY:YieldAt F (m-1) Tryz.prog l #[.agg #[.int .i64 k',.string s',.int .i64 t'.k,.string t'.x,.string t'.l,.string t'.y,.slice A' kids'.length c']] (wr.alloc (.cells #[.int .i64 k',.string s',.int .i64 t'.k,.string t'.x,.string t'.l,.string t'.y,.slice A' kids'.length c'] 68)) λe W2 =>
      (e=.returned (.bool true)/\W2.cell? ⟨wr.heap.size,6,none⟩=some (.slice A' kids'.length c')/\Kb h S wr W2 /\
       CallsIn F (m-1) Tryz.prog 234 #[.func (.yield l) #[] #[],.slice A' kids'.length c'] W2 (Gy h S J Jx (pre++q++[⟨n+1,_,_,ha,hz _ hmem⟩]) (kids'.flatMap (cI n)) W2)) ∨
      (e=.returned (.bool false)/\Jx (pre++q++[⟨n+1,_,_,ha,hz _ hmem⟩]) W2):=by
     refine YieldAt.mono (hY (m-1) (pre++q) ⟨n+1,_,_,ha,hz _ hmem⟩ _ (hJ _ _ _ hJq) (by rw[List.length_append,hql];omega)) ?_
     rintro e W2 (⟨rfl,hJ2,hkb2⟩|hx2)
     ·refine .inl ⟨rfl,?_,hkb1.trans hkb2,ih (m-1) kids' A' c' _ W2 hk' hkl hkz ((hcm.trans hkb1.cells).trans hkb2.cells) (Nat.le_trans hSw (Nat.le_trans hkb1.size hkb2.size)) hJ2 (by simp only[List.length_append,List.length_cons,List.length_nil,hql];omega)⟩
      exact(aV.1 (hkb2.cells _ _ (aV.2 ⟨hb6,_,heap_alloc_new _ _,hhi _ _ _ hSw⟩))).1
     ·exact .inr hx2
    obtain⟨fn,tmps,assign,body,hy',hR⟩:=hyY
    have Hq:=Lib.hid hq
    have Hflat:=Lib.hid hflat
    have Htake:=Lib.hid htake
    have HN2:=Lib.hid hN2
    clear ih hY hJ hZ hr hc hcm hkz hq hflat htake hql hN hN2 hy c0 c1 c2 c3 c4 c5 c6 hB1 hkb1 hb6
    gi_wp2_with (first
     | ((try refine⟨hdd _,?_⟩);refine hR.mono ?_;clear hR;rintro e W2 (⟨rfl,f6,hkb2,hih⟩|⟨rfl,hx2⟩))
     | ((try refine⟨hdd _,?_⟩);gi_at_call 234;refine hih.mono ?_;clear hih;rintro e W3 (⟨rfl,⟨q3,hq3,hJ3⟩,hkb3⟩|⟨rfl,q3,hq3,hx3⟩)))
    ·go_roundw
     case rel =>
      refine⟨j+1,by omega,by go_num,⟨q++([⟨n+1,_,_,ha,hz _ hmem⟩]++q3),?_,?_⟩,hk.trans (hkb2.trans hkb3)⟩
      ·rw[ce,ce,Hq.out,hq3,Htake.out];rfl
      ·simpa[List.append_assoc] using hJ3
     case measure=>simp[intOf];omega
    ·go_ret
     refine .inr ⟨rfl,q++([⟨n+1,_,_,ha,hz _ hmem⟩]++q3),?_,by simpa[List.append_assoc] using hx3⟩
     obtain⟨r,hr'⟩:=hq3
     rw[ce,ce,Hq.out,Hflat.out]
     exact⟨r++(es.drop (j+1)).flatMap (cI (n+1)),by rw[←hr'];simp[pts,List.append_assoc]⟩
    ·go_ret
     refine .inr ⟨rfl,q++[⟨n+1,_,_,ha,hz _ hmem⟩],?_,by simpa[List.append_assoc] using hx2⟩
     rw[ce,Hq.out,Hflat.out]
     exact⟨kids'.flatMap (cI n)++(es.drop (j+1)).flatMap (cI (n+1)),by simp[pts,List.append_assoc]⟩
   ·have hk2:es.take j=es:=List.take_of_length_le (by omega)
    rw[hk2]at hq
    gi_wp2
    go_ret
    exact .inl ⟨rfl,⟨q,hq,hJq⟩,hk⟩
theorem jF (F:Fence) (hd:F.depth=none) (h5:F.fn 233) (h6:F.fn 234) (hro:F.round=none) (h:Nat->Obj->Bool) (m n:Nat) (w:World) (hhi:∀k cs fr,w.heap.size<=k->h k (.cells cs 68 fr)=false) (Z:(n:Nat)->ExT n->Prop) (hZ:∀n k s t (kids:List (ExT n)),Z (n+1) (k,s,t,kids)->kids.length<=1353245080300/\∀y∈kids,Z n y)
  (es:List (ExT n)) (A:Option Addr) (c Bp:Nat) (hr:aJ n (wo h w) A es) (hl:es.length<=1353245080300) (hz:∀x∈es,Z n x) (hb:(wo h w).cell? ⟨Bp,0,none⟩=some (.slice A es.length c)) :
  SeqStopsK F m Tryz.prog 233 #[.pointer (some ⟨Bp,0,none⟩)] (Jp (W0:=wo h w) (Z:=Z)) (Kb h w.heap.size) (λys=>pts ys=es.flatMap (cI n)) (λpre=>pts pre <+: es.flatMap (cI n)) (es.flatMap (cI n)).length w:=by
 intro l J Jx W hW hJ hJx hY h0
 have hdd:∀k:Nat,(F.depth.isSome=true->1<=k):=λk h=>by rw[hd]at h;cases h
 have hkb:=Kb.of_below (hd:=h) hW (Nat.le_refl _)
 have hb2:=(aV.1 (hkb.cells _ _ hb)).1
 have hp:=BZ F hd h6 hro hhi (wo h w) Z hZ l (es.flatMap (cI n)).length J Jx (λs W' o hs=>hJ s W' _ none hs (World.grownBy_alloc W' o none) (λr e=>by cases e))
  (λm' pre a W1 hj hlen=>YieldAt.anyDepth' hd m' (hY pre a W1 hj hlen)) n (m-1) es A c [] W hr hl hz hkb.cells hkb.size h0 (by simp)
 clear hr hz hZ hY hJ hJx hb
 refine callsIn_of_wp Tryz.func233 rfl h5 ?_ hro
 simp only[Tryz.ntmps233,List.size_toArray,List.length_cons,List.length_nil,Nat.reduceAdd,Nat.reduceSub,Array.replicate_succ,Array.replicate_zero,List.push_toArray,List.append_toArray,List.nil_append,List.cons_append]
 gi_wp2_with ((try refine⟨hdd _,?_⟩);gi_at_call 234;refine hp.mono ?_;clear hp;rintro e W1 (⟨rfl,⟨q,hq,hJ1⟩,_⟩|⟨rfl,q,hq,hx⟩))
 ·go_end0
  exact⟨⟨_,rfl⟩,.inl ⟨_,hq,by simpa using hJ1⟩⟩
 ·go_end0
  exact⟨⟨_,rfl⟩,.inr ⟨q,hq,by simpa using hx⟩⟩
attribute [local go_sem] Oper.semAt_some
theorem Kb.set {h:Nat->Obj->Bool} {S b:Nat} {w:World} {i:Nat} (v:Value) (h1:∀o,h b o=true):Kb h S w (w.setCell ⟨b,i,none⟩ v):=by
 have hne:∀k,k≠b->(w.setCell ⟨b,i,none⟩ v).heap[k]?=w.heap[k]?:=λk hk=>Below.heap_setCell _ _ _ k hk
 refine .of_blocks (λk o ho hn _=>?_) (KeepsWalks.setCell w _ v).size
 rw[hne k (by intro e;rw[e,h1]at hn;cases hn)];exact ho
theorem pU (F:Fence) (m:Nat) (h4:F.fn 174) (hro:F.round=none) (a:Option Addr) (len cap:Nat) (w:World) :
  CallsIn F m Tryz.prog 174 #[.slice a len cap] w λe w'=>e=.returned (.func (.func 233) #[] #[.pointer (some ⟨w.heap.size,0,none⟩)])/\w'=w.alloc (.cells #[.slice a len cap] 25):=by
 refine callsIn_of_wp Tryz.func174 rfl h4 ?_ hro
 simp only[Tryz.ntmps174,List.size_toArray,List.length_cons,List.length_nil,Nat.reduceAdd,Nat.reduceSub,Array.replicate_succ,Array.replicate_zero,List.push_toArray,List.append_toArray,List.nil_append,List.cons_append]
 gi_wp2
 go_ret
 exact⟨rfl,rfl⟩
open Go.Maps Go.ChangeMaps
def bE (w:World) (q:IntKind) (r:Nat) (kvs:List (Int × Value)):Prop:=
 ∃es clock,w.heap[r]?=some (.map es clock)/\es.toList.map (λe=>(e.key,e.val))=kvs.map (λp=>(Value.int q p.1,p.2))
theorem bE.later {w w':World} {q:IntKind} {r:Nat} {kvs:List (Int × Value)} (h:bE w q r kvs) (hb:Below w.heap.size w w'):bE w' q r kvs:=by
 obtain⟨es,cl,h1,h2⟩:=h
 refine⟨es,cl,?_,h2⟩
 rw[hb.block r (Array.getElem?_eq_some_iff.1 h1).1];exact h1
theorem en (q:IntKind) (x:Int):∀(kvs:List (Int × Value)) (es:List MapEntry) (i:Nat),es.map (λe=>(e.key,e.val))=kvs.map (λp=>(Value.int q p.1,p.2)) ->
  ∃o,Instr.findNow (.int q) (.int q x) es i=some o/\o.map (·.2)=(kvs.find? (λp=>p.1 == x)).map (·.2)
 | [],[],i,_=>⟨none,rfl,rfl⟩
 | [],e::es,i,h=>by simp at h
 | p::kvs,[],i,h=>by simp at h
 | p::kvs,e::es,i,h=>by
  simp only[List.map_cons,List.cons.injEq,Prod.mk.injEq]at h
  obtain⟨⟨hk,hv⟩,ht⟩:=h
  unfold Instr.findNow
  rw[hk]
  simp only[Instr.sameNow,if_true]
  by_cases hx:x=p.1
  ·subst hx
   refine⟨some (i,e.val),by simp,?_⟩
   simp[hv]
  ·have h1:(x == p.1)=false:=by simpa using hx
   have h2:(p.1 == x)=false:=by simpa using Ne.symm hx
   rw[h1]
   obtain⟨o,ho,hm⟩:=en q x kvs es (i+1) ht
   exact⟨o,ho,by rw[hm,List.find?_cons,h2]⟩
theorem iK {P:Program} {T K E:TypeId} {q:IntKind} (hT:P.underlying T=some (.map K E)) (hK:P.underlying K=some (.int q)) {z:Value} {w:World} (hz:(zeroValue E).run P w=.ok z w)
  {r:Nat} {kvs:List (Int × Value)} (h:bE w q r kvs) (x:Int) :
  (Instr.lookup T (.map (some r)) (.int q x) false).run P w=.ok (((kvs.find? (λp=>p.1 == x)).map (·.2)).getD z) w:=by
 obtain⟨es,clock,hb,hes⟩:=h
 obtain⟨o,ho,hm⟩:=en q x kvs es.toList 0 hes
 have hc:(Instr.checkKey es.isEmpty 10000 K (.int q x)).run P w=.ok () w:=by
  have:=Go.MapKept.run_checkKey (P:=P) (w:=w) (k:=.int q x) hK (show Go.MapKept.IsKey (.int q) (.int q x) from rfl) es.isEmpty 9999
  exact this
 have hf:(Instr.findKey K (.int q x) es.toList).run P w=.ok o w:=by
  simp[Instr.findKey,run_underlying hK,ho]
 have hg:(getObj r).run P w=.ok (.map es clock) w:=by simp[getObj,Sem.run,hb]
 unfold Instr.lookup
 simp only[Sem.run_bind,run_underlying hT,Result.andThen,hg,Sem.run_pure,hc,hf]
 rw[←hm]
 cases o with
 | none=>simp[hz]
 | some p=>simp
theorem mN {P:Program} {T K E:TypeId} {q:IntKind} (hT:P.underlying T=some (.map K E)) (hK:P.underlying K=some (.int q)) {z:Value} {w:World} (hz:(zeroValue E).run P w=.ok z w)
  {r:Nat} {kvs:List (Int × Value)} (h:bE w q r kvs) (x:Int) :
  (Instr.lookup T (.map (some r)) (.int q x) true).run P w=.ok (.tuple #[((kvs.find? (λp=>p.1 == x)).map (·.2)).getD z,.bool (kvs.find? (λp=>p.1 == x)).isSome]) w:=by
 obtain⟨es,clock,hb,hes⟩:=h
 obtain⟨o,ho,hm⟩:=en q x kvs es.toList 0 hes
 have hc:(Instr.checkKey es.isEmpty 10000 K (.int q x)).run P w=.ok () w:=by
  have:=Go.MapKept.run_checkKey (P:=P) (w:=w) (k:=.int q x) hK (show Go.MapKept.IsKey (.int q) (.int q x) from rfl) es.isEmpty 9999
  exact this
 have hf:(Instr.findKey K (.int q x) es.toList).run P w=.ok o w:=by
  simp[Instr.findKey,run_underlying hK,ho]
 have hg:(getObj r).run P w=.ok (.map es clock) w:=by simp[getObj,Sem.run,hb]
 have hs:(kvs.find? (λp=>p.1 == x)).isSome=o.isSome:=by
  cases o<;>cases hh:kvs.find? (λp=>p.1 == x)<;>simp[hh]at hm ⊢
 unfold Instr.lookup
 simp only[Sem.run_bind,run_underlying hT,Result.andThen,hg,Sem.run_pure,hc,hf]
 rw[←hm,hs]
 cases o with
 | none=>simp[hz]
 | some p=>simp
theorem iJ {P:Program} {T K E:TypeId} {q:IntKind} (hT:P.underlying T=some (.map K E)) (hK:P.underlying K=some (.int q)) {w:World}
  {r:Nat} {kvs:List (Int × Value)} (h:bE w q r kvs) (x:Int) (v:Value) (hx:kvs.find? (λp=>p.1 == x)=none) :
  ∃w',(Instr.mapUpdate T (.map (some r)) (.int q x) v).run P w=.ok () w'/\bE w' q r (kvs++[(x,v)])/\w.grownBy w' (some r):=by
 obtain⟨es,clock,hb,hes⟩:=h
 obtain⟨o,ho,hm⟩:=en q x kvs es.toList 0 hes
 rw[hx]at hm
 have ho2:o=none:=by cases o with|none=>rfl|some p=>simp at hm
 subst ho2
 have hc:(Instr.checkKey false 10000 K (.int q x)).run P w=.ok () w:=by
  have:=Go.MapKept.run_checkKey (P:=P) (w:=w) (k:=.int q x) hK (show Go.MapKept.IsKey (.int q) (.int q x) from rfl) false 9999
  exact this
 have hf:(Instr.findKey K (.int q x) es.toList).run P w=.ok none w:=by
  simp[Instr.findKey,run_underlying hK,ho]
 have hg:(getObj r).run P w=.ok (.map es clock) w:=by simp[getObj,Sem.run,hb]
 have hlt:r<w.heap.size:=by
  rcases Nat.lt_or_ge r w.heap.size with hlt|hge
  ·exact hlt
  ·rw[Array.getElem?_eq_none hge]at hb;cases hb
 refine⟨{w with heap:=w.heap.setIfInBounds r (.map (es.push {key:=.int q x,val:=v,born:=clock}) (clock+1))},?_,⟨es.push {key:=.int q x,val:=v,born:=clock},clock+1,?_,?_⟩,rfl,rfl,rfl,by simp,?_⟩
 ·unfold Instr.mapUpdate
  simp only[Sem.run_bind,run_underlying hT,Result.andThen,hg,hc,hf]
  simp[setObj,Sem.run,hb]
 ·simp[hlt]
 ·simp[hes]
 ·intro k _ hne
  have hrk:r≠k:=λe=>hne (e ▸ rfl)
  exact Array.getElem?_setIfInBounds_ne hrk
theorem cF {P:Program} (w:World) {ops:Array Oper} {rest:List Oper} {o:Oper} {a:Act} {Q:Exit->Act->World->Prop}
  (hgd:o.guard=none) (m x v:Operand) (T:TypeId) (hop:o.op=Op.mapUpdate T m x v) {K E:TypeId} {q:IntKind} (hT:P.underlying T=some (.map K E)) (hK:P.underlying K=some (.int q))
  {r:Nat} {kvs:List (Int × Value)} (hm:a.eval m=.map (some r)) (h:bE w q r kvs) (k:Int) (val:Value) (hx:a.eval x=.int q k) (hv:a.eval v=val) (hn:kvs.find? (λp=>p.1 == k)=none)
  (hQ:∀w',bE w' q r (kvs++[(k,val)])->w.grownBy w' (some r)->wpList P ops Q rest (a.put o.dst undef) w'):wpList P ops Q (o::rest) a w:=by
 refine wpList_plain hgd λK' hK'=>?_
 obtain⟨w',hrun,r1,r2⟩:=iJ hT hK h k val hn
 unfold Oper.wp
 simp[execOp,hop,hm,hx,hv,hrun,Result.andThen]
 exact hK' _ _ (hQ w' r1 r2)
theorem dC {P:Program} (w:World) {ops:Array Oper} {rest:List Oper} {o:Oper} {a:Act} {Q:Exit->Act->World->Prop}
  (hgd:o.guard=none) (m x v:Operand) (T:TypeId) (hop:o.op=Op.insert T m x v) {K E:TypeId} {q:IntKind} (hT:P.underlying T=some (.map K E)) (hK:P.underlying K=some (.int q))
  {r:Nat} {kvs:List (Int × Value)} (hm:a.eval m=.map (some r)) (h:bE w q r kvs) (k:Int) (val:Value) (hx:a.eval x=.int q k) (hv:a.eval v=val) (hn:kvs.find? (λp=>p.1 == k)=none)
  (hQ:∀w',bE w' q r (kvs++[(k,val)])->w.grownBy w' (some r)->wpList P ops Q rest (a.put o.dst undef) w'):wpList P ops Q (o::rest) a w:=by
 refine wpList_plain hgd λK' hK'=>?_
 obtain⟨w',hrun,r1,r2⟩:=iJ hT hK h k val hn
 unfold Oper.wp
 simp[execOp,hop,hm,hx,hv,hrun,Result.andThen]
 exact hK' _ _ (hQ w' r1 r2)
def cd (a b:Int) (q:Bool):Value:=.agg #[.int .i64 a,.int .i64 b,.bool q]
def rulesL:List (Int × Value):=[(3,cd 1 1 false),(4,cd 2 40 false),(5,cd 2 40 false)]++([6,7,8,9,10,11].map λk=>((k:Int),cd 2 2 true))++([12,13,14].map λk=>((k:Int),cd 1 1 true))
def IP (w:World) (e:Ending) (w':World):Prop:=∃r,e=.returned (.map (some r))/\bE w' .i64 r rulesL/\w.heap.size<=r/\Below w.heap.size w w'
def six (j:Nat):List (Int × Value):=(([6,7,8,9,10,11]:List Int).take j).map λk=>(k,cd 2 2 true)
def three (j:Nat):List (Int × Value):=(([12,13,14]:List Int).take j).map λk=>(k,cd 1 1 true)
def kv0:List (Int × Value):=[(3,cd 1 1 false),(4,cd 2 40 false),(5,cd 2 40 false)]
theorem yS:∀j,j<6->(kv0++six j).find? (λp=>p.1 == (6+(j:Int)))=none
 | 0,_=>rfl
 | 1,_=>rfl
 | 2,_=>rfl
 | 3,_=>rfl
 | 4,_=>rfl
 | 5,_=>rfl
 | n+6,h=>by omega
theorem Bn:∀j,j<6->six (j+1)=six j++[(6+(j:Int),cd 2 2 true)]
 | 0,_=>rfl
 | 1,_=>rfl
 | 2,_=>rfl
 | 3,_=>rfl
 | 4,_=>rfl
 | 5,_=>rfl
 | n+6,h=>by omega
theorem sG:∀j,j<3->(kv0++six 6++three j).find? (λp=>p.1 == (12+(j:Int)))=none
 | 0,_=>rfl
 | 1,_=>rfl
 | 2,_=>rfl
 | n+3,h=>by omega
theorem vn:∀j,j<3->three (j+1)=three j++[(12+(j:Int),cd 1 1 true)]
 | 0,_=>rfl
 | 1,_=>rfl
 | 2,_=>rfl
 | n+3,h=>by omega
theorem GR (w:World):Calls Tryz.prog 173 #[] w (IP w):=by
 have hmm:=@run_makeMap Tryz.prog
 have hT:=Tryz.underlying220
 have hK:=Tryz.underlying66
 have m0:bE (w.alloc (.map #[] 0)) .i64 w.heap.size []:=⟨#[],0,heap_alloc_new _ _,rfl⟩
 have b0:Below w.heap.size w (w.alloc (.map #[] 0)):=(Below.refl _ _).alloc (Nat.le_refl _) _
 have HT:=Lib.hid hT
 have HK:=Lib.hid hK
 clear hT hK
 go_enter Tryz.func173,Tryz.ntmps173
 go_wp2_with (first
  | (refine dC _ rfl _ _ _ _ rfl HT.out HK.out rfl m0 3 (cd 1 1 false) rfl rfl rfl ?_;clear m0;intro w1 m1 g1;have b1:=b0.grown g1 b0.size (λk e=>by cases e;exact Nat.le_refl _))
  | (refine dC _ rfl _ _ _ _ rfl HT.out HK.out rfl m1 4 (cd 2 40 false) rfl rfl rfl ?_;clear m1;intro w2 m2 g2;have b2:=b1.grown g2 b1.size (λk e=>by cases e;exact Nat.le_refl _))
  | (refine dC _ rfl _ _ _ _ rfl HT.out HK.out rfl m2 5 (cd 2 40 false) rfl rfl rfl ?_;clear m2;intro w3 m3 g3;have b3:=b2.grown g3 b2.size (λk e=>by cases e;exact Nat.le_refl _)))
 have n3:bE w3 .i64 w.heap.size (kv0++six 0):=m3
 have HB3:=Lib.hid b3
 clear m3 b0 b1 b2 b3 g1 g2 g3 hmm
 go_loopw [2] (λi wr=>∃j:Nat,j<=6/\i=.int .i64 (6+j)/\bE wr .i64 w.heap.size (kv0++six j)/\Below w.heap.size w wr) (λi _=>(12-intOf i).toNat)
 case atStart=>exact⟨0,by omega,rfl,n3,HB3.out⟩
 case round =>
  obtain⟨j,hj,rfl,hM,hB⟩:=hrel
  clear n3 HB3
  by_cases hlt:(j:Int)<6
  ·have hf:=yS j (by omega)
   have hs:=Bn j (by omega)
   have Hs:=Lib.hid hs
   clear hs
   go_wp2_with (at_mapUpdate;refine cF _ rfl _ _ _ _ rfl HT.out HK.out rfl hM (6+j) (cd 2 2 true) rfl rfl hf ?_;clear hM;intro w4 m4 g4)
   have hB4:=hB.grown g4 hB.size (λk e=>by cases e;exact Nat.le_refl _)
   go_roundw
   case rel=>exact⟨j+1,by omega,by go_num,by rw[Hs.out,←List.append_assoc];exact m4,hB4⟩
   case measure=>simp[intOf];omega
  ·obtain rfl:j=6:=by omega
   have n4:bE wr .i64 w.heap.size (kv0++six 6++three 0):=by simpa[three] using hM
   clear hM
   go_wp2
   go_loopw [3] (λi wr=>∃j:Nat,j<=3/\i=.int .i64 (12+j)/\bE wr .i64 w.heap.size (kv0++six 6++three j)/\Below w.heap.size w wr) (λi _=>(15-intOf i).toNat)
   case atStart=>exact⟨0,by omega,rfl,n4,hB⟩
   case round =>
    rename_i wr1
    obtain⟨j,hj,rfl,hM,hB1⟩:=hrel
    clear n4 hB
    by_cases hlt:(j:Int)<3
    ·have hf:=sG j (by omega)
     have hs:=vn j (by omega)
     have Hs:=Lib.hid hs
     clear hs
     go_wp2_with (at_mapUpdate;refine cF _ rfl _ _ _ _ rfl HT.out HK.out rfl hM (12+j) (cd 1 1 true) rfl rfl hf ?_;clear hM;intro w4 m4 g4)
     have hB4:=hB1.grown g4 hB1.size (λk e=>by cases e;exact Nat.le_refl _)
     go_roundw
     case rel=>exact⟨j+1,by omega,by go_num,by rw[Hs.out,←List.append_assoc];exact m4,hB4⟩
     case measure=>simp[intOf];omega
    ·obtain rfl:j=3:=by omega
     have hM2:=Lib.hid hM
     clear hM
     go_wp2
     go_ret
     exact⟨_,rfl,hM2.out,Nat.le_refl _,hB1⟩
end Go.Proofs.YtfcbghmbbjolcaaGreatDoor
