/- The answer for filter (ossuaryref25): Of, Keeps. The answer -/
import Derived.Test.YtjldjeenfnahoaaGreatDoorJR25b
set_option maxHeartbeats 4000000
set_option maxRecDepth 20000
namespace Go.Proofs.YtjldjeenfnahoaaGreatDoor
open Go Go.RowKit Fm
def fM (row:List Tm):Prop:=∀u∈row,u.x.size<=281474976710656
theorem kQ {vars:List ByteArray} {row:List Tm} {k:Int} {s:ByteArray} {t:Tm} {b:Bool} {u:Tm} (hz:fM row) (ht:t.x.size<=281474976710656) (h:cE vars row k s t b=some u):u.x.size<=281474976710656:=by
 unfold cE at h
 repeat' split at h
 all_goals (first|(injection h with h;subst h;exact ht)|cases h|exact hz u (List.mem_of_getElem? h))
theorem cF {vars:List ByteArray} {row:List Tm} {n:Nat} {w:World} {k:Int} {s:ByteArray} {t:Tm} {A:Option Addr} {m c:Nat} {x:ExT n} (h:RdE n w [.int .i64 k,.string s,.int .i64 t.k,.string t.x,.string t.l,.string t.y,.slice A m c] x) :
  bf vars row n x=cE vars row k s t (m == 0)/\(szE n x->t.x.size<=281474976710656/\m<=281474976710656):=by
 match n,x,h with
 | n+1,(k',s',t',kids),⟨A',c',he,hc,hk⟩ =>
  injection he with e0 he
  injection he with e1 he
  injection he with e2 he
  injection he with e3 he
  injection he with e4 he
  injection he with e5 he
  injection he with e6 he
  injection e0 with _ e0
  injection e1 with e1
  injection e2 with _ e2
  injection e3 with e3
  injection e4 with e4
  injection e5 with e5
  injection e6 with e6 e7 e8
  obtain⟨tk,tx,tl,ty⟩:=t
  obtain⟨tk',tx',tl',ty'⟩:=t'
  simp only at e2 e3 e4 e5
  subst e0 e1 e2 e3 e4 e5 e7
  refine⟨?_,λhz=>⟨by have:=hz.2.1;simp only at this ⊢;omega,by have:=hz.2.2.1;omega⟩⟩
  rw[bf,g8]
def szN:(n:Nat)->ExT n->Prop
 | 0,_=>True
 | n+1,(_,_,_,kids)=>kids.length<=1000000000/\∀x∈kids,szN n x
def td (vars:List ByteArray) (row:List Tm) (n:Nat):Prop:=∀(x:ExT n) (cs:List Value) (A1 A2:Option Addr) (c1 c2:Nat) (w:World),Rd w A1 (vars.map Value.string)->RdTs w A2 row->RdE n w cs x->szE n x->szN n x ->
 Calls Tryz.prog 71 #[.agg cs.toArray,.slice A1 vars.length c1,.slice A2 row.length c2] w λe w'=>e=.returned (.int .i64 (ofI vars row n x))/\Below w.heap.size w w'
def ou (vars:List ByteArray) (row:List Tm) (n:Nat) (k:Int):Prop:=∀(s:ByteArray) (t:Tm) (ks:List (ExT n)) (cs:List Value) (A1 A2:Option Addr) (c1 c2:Nat) (w:World),Rd w A1 (vars.map Value.string)->RdTs w A2 row->RdE (n+1) w cs ((k,s,t,ks):ExT (n+1))->szE (n+1) ((k,s,t,ks):ExT (n+1))->szN (n+1) ((k,s,t,ks):ExT (n+1)) ->
 Calls Tryz.prog 71 #[.agg cs.toArray,.slice A1 vars.length c1,.slice A2 row.length c2] w λe w'=>e=.returned (.int .i64 (ofI vars row (n+1) ((k,s,t,ks):ExT (n+1))))/\Below w.heap.size w w'
theorem vA:fU none=.tuple #[.agg #[.int .i64 0,.string ⟨#[]⟩,.string ⟨#[]⟩,.string ⟨#[]⟩],.bool false]:=rfl
theorem vz (u:Tm):fU (some u)=.tuple #[.agg #[.int .i64 u.k,.string u.x,.string u.l,.string u.y],.bool true]:=rfl
theorem AE (vars:List ByteArray) (row:List Tm) (hv:vars.length<=281474976710656) (hrl:row.length<=281474976710656) (hzr:fM row) (n:Nat) (_ih:td vars row n) (k:Int) (hkk:k=1∨k=2):ou vars row n k:=by
 rintro s t ks cs A1 A2 c1 c2 w hr1 hr2 ⟨A,c,rfl,hc1,hr⟩ ⟨z1,z2,z3,z4⟩ ⟨hkn,zn⟩
 obtain⟨res,hres⟩:∃r:Int,ofI vars row (n+1) ((k,s,t,ks):ExT (n+1))=r:=⟨_,rfl⟩
 rw[hres]
 have Hres:=Lib.hid hres
 obtain⟨W,hW⟩:∃W:World,w.alloc (.cells #[.int .i64 k,.string s,.int .i64 t.k,.string t.x,.string t.l,.string t.y,.slice A ks.length c] 67)=W:=⟨_,rfl⟩
 have hB0:Below w.heap.size w W:=by rw[←hW];exact blw
 have b0:W.cell? ⟨w.heap.size,0,none⟩=some (.int .i64 k):=by rw[←hW,World.cell?,heap_alloc_new];rfl
 have b1:W.cell? ⟨w.heap.size,1,none⟩=some (.string s):=by rw[←hW,World.cell?,heap_alloc_new];rfl
 have b2:W.cell? ⟨w.heap.size,2,none⟩=some (.int .i64 t.k):=by rw[←hW,World.cell?,heap_alloc_new];rfl
 have b3:W.cell? ⟨w.heap.size,3,none⟩=some (.string t.x):=by rw[←hW,World.cell?,heap_alloc_new];rfl
 have b4:W.cell? ⟨w.heap.size,4,none⟩=some (.string t.l):=by rw[←hW,World.cell?,heap_alloc_new];rfl
 have b5:W.cell? ⟨w.heap.size,5,none⟩=some (.string t.y):=by rw[←hW,World.cell?,heap_alloc_new];rfl
 have b6:W.cell? ⟨w.heap.size,6,none⟩=some (.slice A ks.length c):=by rw[←hW,World.cell?,heap_alloc_new];rfl
 have hk:=aF.later hr hB0
 have k1:=hr1.later hB0
 have k2:=RdTs.later hr2 hB0
 have HW:=Lib.hid hW
 have HB0:=Lib.hid hB0
 have z2':t.x.size<=281474976710656:=by omega
 clear hW hr hB0 hres hr1 hr2
 have hT:=kA vars row A1 A2 A c1 c2 ks.length c k s t W hv hrl (by omega) k1 k2
 have Ho:Hid (res=tW (cE vars row k s t (ks.length == 0))):=by
  show res=_
  rw[←Hres.out,ofI,if_pos (by rcases hkk with rfl|rfl<;>rfl),g8]
 have hsz:=λu h=>kQ (u:=u) (b:=(ks.length == 0)) (vars:=vars) (k:=k) (s:=s) hzr z2' h
 generalize cE vars row k s t (ks.length == 0)=tp at *
 clear hk k1 k2 z1 z2 z3 z4 zn z2' _ih Hres
 rcases hkk with rfl|rfl
 all_goals
  cases tp with
  | none =>
   rw[vA]at hT
   have Hw:Hid (res=3):=Ho.out
   clear hsz Ho
   go_enter Tryz.func71,Tryz.ntmps71
   go_wp2_with fail
   simp only[HW.out]
   go_wp2_with fail
   refine hT.mono ?_
   rintro e w2 ⟨rfl,hb⟩
   go_wp2
   go_ret
   exact⟨congrArg (λq=>Ending.returned (Value.int .i64 q)) Hw.out.symm,aa HB0.out blw⟩
  | some u =>
   rw[vz]at hT
   have Hw:Hid (res=gr u):=Ho.out
   have hA:=λW'=>xJ u.k u.x u.l u.y W' (hsz u rfl)
   clear hsz Ho
   go_enter Tryz.func71,Tryz.ntmps71
   go_wp2_with fail
   simp only[HW.out]
   go_wp2_with fail
   refine hT.mono ?_
   rintro e w2 ⟨rfl,hb⟩
   have hA2:=hA (w2.alloc (.cells #[.int .i64 u.k,.string u.x,.string u.l,.string u.y] 65))
   clear hT hA b0 b1 b2 b3 b4 b5 b6
   go_wp2_with (refine hA2.mono ?_;rintro e w3 ⟨rfl,hb3⟩)
   go_ret
   exact⟨congrArg (λq=>Ending.returned (Value.int .i64 q)) Hw.out.symm,aa HB0.out (aa hb (((Below.refl w2.heap.size w2).alloc (Nat.le_refl _) _).trans (hb3.mono (by simp))))⟩
theorem Ck (vars:List ByteArray) (row:List Tm) (_hv:vars.length<=281474976710656) (_hrl:row.length<=281474976710656) (_hzr:fM row) (n:Nat) (ih:td vars row n) (k:Int) (hkk:k=3):ou vars row n k:=by
 rintro s t ks cs A1 A2 c1 c2 w hr1 hr2 ⟨A,c,rfl,hc1,hr⟩ ⟨z1,z2,z3,z4⟩ ⟨hkn,zn⟩
 obtain⟨res,hres⟩:∃r:Int,ofI vars row (n+1) ((k,s,t,ks):ExT (n+1))=r:=⟨_,rfl⟩
 rw[hres]
 have Hres:=Lib.hid hres
 obtain⟨W,hW⟩:∃W:World,w.alloc (.cells #[.int .i64 k,.string s,.int .i64 t.k,.string t.x,.string t.l,.string t.y,.slice A ks.length c] 67)=W:=⟨_,rfl⟩
 have hB0:Below w.heap.size w W:=by rw[←hW];exact blw
 have b0:W.cell? ⟨w.heap.size,0,none⟩=some (.int .i64 k):=by rw[←hW,World.cell?,heap_alloc_new];rfl
 have b1:W.cell? ⟨w.heap.size,1,none⟩=some (.string s):=by rw[←hW,World.cell?,heap_alloc_new];rfl
 have b2:W.cell? ⟨w.heap.size,2,none⟩=some (.int .i64 t.k):=by rw[←hW,World.cell?,heap_alloc_new];rfl
 have b3:W.cell? ⟨w.heap.size,3,none⟩=some (.string t.x):=by rw[←hW,World.cell?,heap_alloc_new];rfl
 have b4:W.cell? ⟨w.heap.size,4,none⟩=some (.string t.l):=by rw[←hW,World.cell?,heap_alloc_new];rfl
 have b5:W.cell? ⟨w.heap.size,5,none⟩=some (.string t.y):=by rw[←hW,World.cell?,heap_alloc_new];rfl
 have b6:W.cell? ⟨w.heap.size,6,none⟩=some (.slice A ks.length c):=by rw[←hW,World.cell?,heap_alloc_new];rfl
 have hk:=aF.later hr hB0
 have k1:=hr1.later hB0
 have k2:=RdTs.later hr2 hB0
 have HW:=Lib.hid hW
 have HB0:=Lib.hid hB0
 have z2':t.x.size<=281474976710656:=by omega
 clear hW hr hB0 hres hr1 hr2
 subst hkk
 by_cases h1:(ks.length:Int)=1
 case neg =>
  have Hw:Hid (res=3):=by
   show res=_
   rw[←Hres.out,ofI]
   simp only[show ((3:Int) == 1 || (3:Int) == 2)=false from rfl,show ((3:Int) == 3)=true from rfl,Bool.false_eq_true,if_false,if_true]
   unfold noI
   split
   ·rename_i h;have:=congrArg List.length h;simp at this;omega
   ·rfl
  have hne:((ks.length:Int) != 1)=true:=by rw[bne_iff_ne];exact h1
  generalize ks.length=m at *
  clear hk k1 k2 ih z4 zn h1
  go_enter Tryz.func71,Tryz.ntmps71
  go_wp2_with fail
  try simp only[HW.out]
  go_wp2
  go_ret
  exact⟨congrArg (λq=>Ending.returned (Value.int .i64 q)) Hw.out.symm,by first|exact HB0.out|exact blw⟩
 obtain⟨x0,hx0⟩:∃x,ks[0]?=some x:=⟨_,List.getElem?_eq_getElem (show 0<ks.length by omega)⟩
 have Hw:Hid (res=dU (ofI vars row n x0)):=by
  show res=_
  rw[←Hres.out,ofI]
  simp only[show ((3:Int) == 1 || (3:Int) == 2)=false from rfl,show ((3:Int) == 3)=true from rfl,Bool.false_eq_true,if_false,if_true]
  have hl:ks=[x0]:=by
   cases ks with
   | nil=>cases hx0
   | cons a r =>
    simp at hx0
    subst hx0
    have:r.length=0:=by simp at h1;omega
    rw[List.eq_nil_of_length_eq_zero this]
  rw[hl];rfl
 obtain⟨g,o,k0,s0,t0,A0,m0,e0,rfl,hR,q0,q1,q2,q3,q4,q5,q6⟩:=aF.atv hk hx0
 have hS:=ih x0 _ A1 A2 c1 c2 W k1 k2 hR (z4 x0 (List.mem_of_getElem? hx0)) (zn x0 (List.mem_of_getElem? hx0))
 rw[Nat.zero_mul,Nat.add_zero]at q0 q1 q2 q3 q4 q5 q6
 have hne:((ks.length:Int) != 1)=false:=by simp;omega
 have hm1:ks.length=1:=by omega
 generalize ofI vars row n x0=v0 at *
 rw[hm1]at b6 hne ⊢
 have HW1:Hid (w.alloc (.cells #[.int .i64 3,.string s,.int .i64 t.k,.string t.x,.string t.l,.string t.y,.slice (some ⟨g,o,none⟩) 1 c] 67)=W):=by show _=_;rw[←HW.out,hm1]
 clear hx0 hR hk k1 k2 ih z4 zn h1 HW b0 b1 b2 b3 b4 b5 b6
 have hWe:=HW1.out
 subst hWe
 go_enter Tryz.func71,Tryz.ntmps71
 go_wp2_with (first
  | (go_at_call 71;refine hS.mono ?_;rintro e w2 ⟨rfl,hb⟩)
  | (go_at_call 99;refine(oH _ _).mono ?_;rintro e w3 ⟨rfl,rfl⟩))
 go_ret
 exact⟨congrArg (λq=>Ending.returned (Value.int .i64 q)) Hw.out.symm,aa HB0.out hb⟩
theorem vY:(Tryz.prog.info? 3).map (λi=>(i.zero,i.size,i.bytes))=some (some (.int .i64 0),1,8):=by kernel_rfl
theorem AD (vars:List ByteArray) (row:List Tm) (_hv:vars.length<=281474976710656) (_hrl:row.length<=281474976710656) (_hzr:fM row) (n:Nat) (ih:td vars row n) (k:Int) (hkk:(k=4∨k=5)):ou vars row n k:=by
 rintro s t ks cs A1 A2 c1 c2 w hr1 hr2 ⟨A,c,rfl,hc1,hr⟩ ⟨z1,z2,z3,z4⟩ ⟨hkn,zn⟩
 obtain⟨res,hres⟩:∃r:Int,ofI vars row (n+1) ((k,s,t,ks):ExT (n+1))=r:=⟨_,rfl⟩
 rw[hres]
 have Hres:=Lib.hid hres
 obtain⟨W,hW⟩:∃W:World,w.alloc (.cells #[.int .i64 k,.string s,.int .i64 t.k,.string t.x,.string t.l,.string t.y,.slice A ks.length c] 67)=W:=⟨_,rfl⟩
 have hB0:Below w.heap.size w W:=by rw[←hW];exact blw
 have b0:W.cell? ⟨w.heap.size,0,none⟩=some (.int .i64 k):=by rw[←hW,World.cell?,heap_alloc_new];rfl
 have b1:W.cell? ⟨w.heap.size,1,none⟩=some (.string s):=by rw[←hW,World.cell?,heap_alloc_new];rfl
 have b2:W.cell? ⟨w.heap.size,2,none⟩=some (.int .i64 t.k):=by rw[←hW,World.cell?,heap_alloc_new];rfl
 have b3:W.cell? ⟨w.heap.size,3,none⟩=some (.string t.x):=by rw[←hW,World.cell?,heap_alloc_new];rfl
 have b4:W.cell? ⟨w.heap.size,4,none⟩=some (.string t.l):=by rw[←hW,World.cell?,heap_alloc_new];rfl
 have b5:W.cell? ⟨w.heap.size,5,none⟩=some (.string t.y):=by rw[←hW,World.cell?,heap_alloc_new];rfl
 have b6:W.cell? ⟨w.heap.size,6,none⟩=some (.slice A ks.length c):=by rw[←hW,World.cell?,heap_alloc_new];rfl
 have hk:=aF.later hr hB0
 have k1:=hr1.later hB0
 have k2:=RdTs.later hr2 hB0
 have HW:=Lib.hid hW
 have HB0:=Lib.hid hB0
 have z2':t.x.size<=281474976710656:=by omega
 clear hW hr hB0 hres hr1 hr2
 have hl':(ks.length:Int)<=1353245080300:=by omega
 have Hw:Hid (res=if k == 4 then mo (ks.map (ofI vars row n)) else orI (ks.map (ofI vars row n))):=by
  show res=_
  rw[←Hres.out,ofI]
  rcases hkk with rfl|rfl<;>rfl
 have K1:=Lib.hid k1
 have K2:=Lib.hid k2
 have HK:=Lib.hid hk
 have HZ4:=Lib.hid z4
 have HZn:=Lib.hid zn
 have IH:=Lib.hid ih
 have B0:=Lib.hid b0
 have B6:=Lib.hid b6
 clear k1 k2 hk z4 zn ih b1 b2 b3 b4 b5 Hres z1 z2 z2' _hzr _hv _hrl
 have hlk:∀j,j<=ks.length->((ks.take j).map (ofI vars row n)).length=j:=λj hj=>by simp;omega
 have Hlk:=Lib.hid hlk
 clear hlk
 rcases hkk with rfl|rfl
 all_goals
  go_enter Tryz.func71,Tryz.ntmps71
  go_wp2_with fail
  simp only[HW.out]
  go_wp2
  go_loopw [9,10] (λv i wr=>∃(j:Nat) (v':Value),j<=ks.length/\i=.int .i64 j/\v=v'/\wr.ownsRow W.heap.size 3 1 v' j (((ks.take j).map (ofI vars row n)).map (Value.int .i64))/\Below W.heap.size W wr) (λ_ i _=>ks.length-(intOf i).toNat)
  case atStart=>exact⟨0,_,by omega,rfl,rfl,by simpa using World.ownsRow_nil _ _ _ _,Below.refl _ _⟩
  case round =>
   obtain⟨j,v',hj,rfl,rfl,own,hB⟩:=hrel
   clear b0 b6
   have b6:=ab B6.out hB
   have b0:=ab B0.out hB
   by_cases hlt:j<ks.length
   ·obtain⟨x,hx⟩:∃x,ks[j]?=some x:=⟨_,List.getElem?_eq_getElem hlt⟩
    obtain⟨g,o,k0,s0,t0,A0,m0,e0,rfl,hR,q0,q1,q2,q3,q4,q5,q6⟩:=(aF.later HK.out hB).atv hx
    have hS:=IH.out x _ A1 A2 c1 c2 wr (K1.out.later hB) (RdTs.later K2.out hB) hR (HZ4.out x (List.mem_of_getElem? hx)) (HZn.out x (List.mem_of_getElem? hx))
    have Hts:=Lib.hid (ah hx)
    have hle:W.heap.size<=wr.heap.size:=hB.size
    have HBr:=Lib.hid hB
    clear hx hR hB b0
    go_wp2_with (first
     | (go_at_call 71;refine hS.mono ?_;rintro e w2 ⟨rfl,hb2⟩;have B2:Below wr.heap.size wr (w2.alloc (.cells #[.int .i64 (ofI vars row n x)] 3)):=hb2.alloc hb2.size _;have own2:=own_below own B2 (Nat.le_refl _);have R2:Rd (w2.alloc (.cells #[.int .i64 (ofI vars row n x)] 3)) (some ⟨w2.heap.size,0,none⟩) [.int .i64 (ofI vars row n x)]:=Rd.of_block (heap_alloc_new w2 _) rfl;have hle2:W.heap.size<=w2.heap.size:=Nat.le_trans hle hb2.size)
     | (at_builtin;refine ar rfl rfl Tryz.underlying58 vY rfl (by omega) rfl own2 rfl R2 rfl (by intro u hu;simp at hu;subst hu;rfl) (by omega) (by omega) (by simp;omega) ?_;intro v5 w5 own5 hb5 _))
    go_roundw
    case rel=>exact⟨j+1,v5,by omega,by go_num,rfl,by rw[Hts.out,List.map_append,List.map_append];exact own5,(HBr.out.trans (B2.mono HBr.out.size)).trans hb5⟩
    case measure=>simp[intOf];omega
   ·obtain rfl:j=ks.length:=by omega
    have hk2:ks.take ks.length=ks:=List.take_length
    rw[hk2]at own
    obtain⟨A9,d9,rfl,hd9,r9⟩:=own_slice own
    have hlen:(ks.map (ofI vars row n)).length=ks.length:=List.length_map _
    have hAnd:=Cj (ks.map (ofI vars row n)) A9 d9 wr
    have hOr:=Dj (ks.map (ofI vars row n)) A9 d9 wr
    rw[hlen]at hAnd hOr
    have HBr:=Lib.hid hB
    by_cases hbig:ks.length<=1000000000
    ·have hAnd:=hAnd hbig r9
     have hOr:=hOr hbig r9
     clear hB own r9
     go_wp2_with (first
      | (go_at_call 100;refine hAnd.mono ?_;rintro e w3 ⟨rfl,hb3⟩)
      | (go_at_call 101;refine hOr.mono ?_;rintro e w3 ⟨rfl,hb3⟩))
     go_ret
     exact⟨congrArg (λq=>Ending.returned (Value.int .i64 q)) Hw.out.symm,aa HB0.out (aa HBr.out hb3)⟩
    ·exact absurd hkn hbig
theorem ud {o:Option Tm} (h:∀u,o=some u->u.x.size<=281474976710656):(o.getD zTm).x.size<=281474976710656:=by
 cases o with
 | none=>decide
 | some u=>exact h u rfl
theorem sq {o:Option Tm}:o=if o.isSome then some (o.getD zTm) else none:=by cases o<;>rfl
theorem Bc {α:Type} {l:List α} (h:l.length=2):∃a b,l=[a,b]:=by
 match l,h with
 | [a,b],_=>exact⟨a,b,rfl⟩
theorem Bd {α:Type} {l:List α} (h:l.length=1):∃a,l=[a]:=by
 match l,h with
 | [a],_=>exact⟨a,rfl⟩
theorem Ad {k:Int} {l:List (Option Tm)} (h:l.length≠2):kN k l=3:=by
 unfold kN
 split
 ·exact absurd rfl h
 ·rfl
theorem AQ {k:Int} {l:List (Option Tm)} (h:l.length≠1):lI k l=3:=by
 unfold lI
 split
 ·exact absurd rfl h
 ·rfl
theorem Cl (vars:List ByteArray) (row:List Tm) (hv:vars.length<=281474976710656) (hrl:row.length<=281474976710656) (hzr:fM row) (n:Nat) (_ih:td vars row n) (k:Int) (hkk:(k=6∨k=7∨k=8∨k=9∨k=10∨k=11)):ou vars row n k:=by
 rintro s t ks cs A1 A2 c1 c2 w hr1 hr2 ⟨A,c,rfl,hc1,hr⟩ ⟨z1,z2,z3,z4⟩ ⟨hkn,zn⟩
 obtain⟨res,hres⟩:∃r:Int,ofI vars row (n+1) ((k,s,t,ks):ExT (n+1))=r:=⟨_,rfl⟩
 rw[hres]
 have Hres:=Lib.hid hres
 obtain⟨W,hW⟩:∃W:World,w.alloc (.cells #[.int .i64 k,.string s,.int .i64 t.k,.string t.x,.string t.l,.string t.y,.slice A ks.length c] 67)=W:=⟨_,rfl⟩
 have hB0:Below w.heap.size w W:=by rw[←hW];exact blw
 have b0:W.cell? ⟨w.heap.size,0,none⟩=some (.int .i64 k):=by rw[←hW,World.cell?,heap_alloc_new];rfl
 have b1:W.cell? ⟨w.heap.size,1,none⟩=some (.string s):=by rw[←hW,World.cell?,heap_alloc_new];rfl
 have b2:W.cell? ⟨w.heap.size,2,none⟩=some (.int .i64 t.k):=by rw[←hW,World.cell?,heap_alloc_new];rfl
 have b3:W.cell? ⟨w.heap.size,3,none⟩=some (.string t.x):=by rw[←hW,World.cell?,heap_alloc_new];rfl
 have b4:W.cell? ⟨w.heap.size,4,none⟩=some (.string t.l):=by rw[←hW,World.cell?,heap_alloc_new];rfl
 have b5:W.cell? ⟨w.heap.size,5,none⟩=some (.string t.y):=by rw[←hW,World.cell?,heap_alloc_new];rfl
 have b6:W.cell? ⟨w.heap.size,6,none⟩=some (.slice A ks.length c):=by rw[←hW,World.cell?,heap_alloc_new];rfl
 have hk:=aF.later hr hB0
 have k1:=hr1.later hB0
 have k2:=RdTs.later hr2 hB0
 have HW:=Lib.hid hW
 have HB0:=Lib.hid hB0
 have z2':t.x.size<=281474976710656:=by omega
 clear hW hr hB0 hres hr1 hr2
 by_cases h1:(ks.length:Int)=2
 case neg =>
  have Hw:Hid (res=3):=by
   show res=_
   rw[←Hres.out,ofI]
   rcases hkk with rfl|rfl|rfl|rfl|rfl|rfl<;>exact Ad (by rw[List.length_map];omega)
  have hne:((ks.length:Int) != 2)=true:=by rw[bne_iff_ne];exact h1
  generalize ks.length=m at *
  clear hk k1 k2 _ih z4 zn h1 hkn
  rcases hkk with rfl|rfl|rfl|rfl|rfl|rfl
  all_goals
   go_enter Tryz.func71,Tryz.ntmps71
   go_wp2_with fail
   try simp only[HW.out]
   go_wp2
   go_ret
   exact⟨congrArg (λq=>Ending.returned (Value.int .i64 q)) Hw.out.symm,by first|exact HB0.out|exact blw⟩
 obtain⟨x0,x1,hl⟩:=Bc (l:=ks) (by omega)
 subst hl
 obtain⟨g,o,ka,sa,ta,Aa,ma,ea,rfl,hR0,q0,q1,q2,q3,q4,q5,q6⟩:=aF.atv (j:=0) (e:=x0) hk rfl
 obtain⟨g2,o2,kb,sb,tb,Ab,mb,eb,hg2,hR1,r0,r1,r2,r3,r4,r5,r6⟩:=aF.atv (j:=1) (e:=x1) hk rfl
 injection hg2 with hg2
 injection hg2 with hg2 ho2
 subst hg2 ho2
 rw[Nat.zero_mul,Nat.add_zero]at q0 q1 q2 q3 q4 q5 q6
 rw[Nat.one_mul]at r0 r1 r2 r3 r4 r5 r6
 have hm0:=(cF (vars:=vars) (row:=row) hR0).2 (z4 x0 (by simp))
 have hm1:=(cF (vars:=vars) (row:=row) hR1).2 (z4 x1 (by simp))
 have e0:=(cF (vars:=vars) (row:=row) hR0).1
 have e1:=(cF (vars:=vars) (row:=row) hR1).1
 have hT0:=λW' (hb:Below W.heap.size W W')=>kA vars row A1 A2 Aa c1 c2 ma ea ka sa ta W' hv hrl hm0.2 (k1.later hb) (RdTs.later k2 hb)
 have hT1:=λW' (hb:Below W.heap.size W W')=>kA vars row A1 A2 Ab c1 c2 mb eb kb sb tb W' hv hrl hm1.2 (k1.later hb) (RdTs.later k2 hb)
 rw[←e0]at hT0
 rw[←e1]at hT1
 have Hw0:Hid (res=kN k [bf vars row n x0,bf vars row n x1]):=by
  show res=_
  rw[←Hres.out,ofI]
  rcases hkk with rfl|rfl|rfl|rfl|rfl|rfl<;>rfl
 have y0:=ud λu h=>kQ (u:=u) hzr hm0.1 (e0.symm.trans h)
 have y1:=ud λu h=>kQ (u:=u) hzr hm1.1 (e1.symm.trans h)
 have i0:=sq (o:=bf vars row n x0)
 have i1:=sq (o:=bf vars row n x1)
 unfold fU tmV at hT0 hT1
 rw[i0,i1]at Hw0
 clear i0 i1 e0 e1
 generalize (bf vars row n x0).getD zTm=u0 at *
 generalize (bf vars row n x1).getD zTm=u1 at *
 generalize (bf vars row n x0).isSome=v0 at *
 generalize (bf vars row n x1).isSome=v1 at *
 have hC:=λW'=>qn k u0 u1 W' y0 y1
 have HT1:=Lib.hid hT1
 have HC:=Lib.hid hC
 have hT00:=hT0 W (Below.refl _ _)
 have Q:=Lib.hid (And.intro b0 (And.intro b6 (And.intro r0 (And.intro r1 (And.intro r2 (And.intro r3 (And.intro r4 (And.intro r5 r6))))))))
 have HWx:Hid (w.alloc (.cells #[.int .i64 k,.string s,.int .i64 t.k,.string t.x,.string t.l,.string t.y,.slice (some ⟨g,o,none⟩) 2 c] 67)=W):=HW.out
 clear hk k1 k2 _ih z4 zn hkn z1 z2 z3 z2' hR0 hR1 hm0 hm1 hT0 hT1 hC h1 Hres hv hrl hzr y0 y1 r0 r1 r2 r3 r4 r5 r6 b0 b1 b2 b3 b4 b5 b6 HW
 have hWe:=HWx.out
 subst hWe
 rcases hkk with rfl|rfl|rfl|rfl|rfl|rfl
 all_goals
  go_enter Tryz.func71,Tryz.ntmps71
  go_wp2_with fail
  refine hT00.mono ?_
  rintro e w2 ⟨rfl,hb2⟩
  have B2u:Below w2.heap.size w2 (w2.alloc (.cells #[.int .i64 u0.k,.string u0.x,.string u0.l,.string u0.y] 65)):=blw
  have BU:=aa hb2 B2u
  obtain⟨p0,p6,r0,r1,r2,r3,r4,r5,r6⟩:=Q.out
  replace p0:=ab p0 BU
  replace p6:=ab p6 BU
  replace r0:=ab r0 BU
  replace r1:=ab r1 BU
  replace r2:=ab r2 BU
  replace r3:=ab r3 BU
  replace r4:=ab r4 BU
  replace r5:=ab r5 BU
  replace r6:=ab r6 BU
  have hc:=HT1.out _ BU
  have s1:=ae p0
  have s2:=ae r0
  have hnew:=heap_alloc_new w2 (.cells #[.int .i64 u0.k,.string u0.x,.string u0.l,.string u0.y] 65)
  have HBU:=Lib.hid BU
  clear hT00 q0 q1 q2 q3 q4 q5 q6 hb2 B2u BU
  go_wp2_with fail
  refine hc.mono ?_
  rintro e w3 ⟨rfl,hb3⟩
  have B3u:Below w3.heap.size w3 (w3.alloc (.cells #[.int .i64 u1.k,.string u1.x,.string u1.l,.string u1.y] 65)):=blw
  have BU3:=aa hb3 B3u
  have a0:(w3.alloc (.cells #[.int .i64 u1.k,.string u1.x,.string u1.l,.string u1.y] 65)).cell? ⟨w2.heap.size,0,none⟩=some (.int .i64 u0.k):=ab (by rw[World.cell?,hnew];rfl) BU3
  have a1:(w3.alloc (.cells #[.int .i64 u1.k,.string u1.x,.string u1.l,.string u1.y] 65)).cell? ⟨w2.heap.size,1,none⟩=some (.string u0.x):=ab (by rw[World.cell?,hnew];rfl) BU3
  have a2:(w3.alloc (.cells #[.int .i64 u1.k,.string u1.x,.string u1.l,.string u1.y] 65)).cell? ⟨w2.heap.size,2,none⟩=some (.string u0.l):=ab (by rw[World.cell?,hnew];rfl) BU3
  have a3:(w3.alloc (.cells #[.int .i64 u1.k,.string u1.x,.string u1.l,.string u1.y] 65)).cell? ⟨w2.heap.size,3,none⟩=some (.string u0.y):=ab (by rw[World.cell?,hnew];rfl) BU3
  replace p0:=ab p0 BU3
  have HB3:=Lib.hid (HB0.out.trans ((aa HBU.out BU3).mono HB0.out.size))
  have hcc:=HC.out (w3.alloc (.cells #[.int .i64 u1.k,.string u1.x,.string u1.l,.string u1.y] 65))
  clear hc r0 r1 r2 r3 r4 r5 r6 p6 hb3 B3u BU3 hnew
  cases v0
  ·have Hw:Hid (res=3):=by show res=_;rw[Hw0.out];rfl
   clear hcc
   go_wp2
   go_ret
   exact⟨congrArg (λq=>Ending.returned (Value.int .i64 q)) Hw.out.symm,HB3.out⟩
  ·cases v1
   ·have Hw:Hid (res=3):=by show res=_;rw[Hw0.out];rfl
    clear hcc
    go_wp2
    go_ret
    exact⟨congrArg (λq=>Ending.returned (Value.int .i64 q)) Hw.out.symm,HB3.out⟩
   ·go_wp2_with (refine hcc.mono ?_;rintro e w4 ⟨rfl,hb4⟩)
    go_ret
    exact⟨congrArg (λq=>Ending.returned (Value.int .i64 q)) Hw0.out.symm,aa HB3.out hb4⟩
theorem Cm (vars:List ByteArray) (row:List Tm) (hv:vars.length<=281474976710656) (hrl:row.length<=281474976710656) (_hzr:fM row) (n:Nat) (_ih:td vars row n) (k:Int) (hkk:(k=12∨k=13∨k=14)):ou vars row n k:=by
 rintro s t ks cs A1 A2 c1 c2 w hr1 hr2 ⟨A,c,rfl,hc1,hr⟩ ⟨z1,z2,z3,z4⟩ ⟨hkn,zn⟩
 obtain⟨res,hres⟩:∃r:Int,ofI vars row (n+1) ((k,s,t,ks):ExT (n+1))=r:=⟨_,rfl⟩
 rw[hres]
 have Hres:=Lib.hid hres
 obtain⟨W,hW⟩:∃W:World,w.alloc (.cells #[.int .i64 k,.string s,.int .i64 t.k,.string t.x,.string t.l,.string t.y,.slice A ks.length c] 67)=W:=⟨_,rfl⟩
 have hB0:Below w.heap.size w W:=by rw[←hW];exact blw
 have b0:W.cell? ⟨w.heap.size,0,none⟩=some (.int .i64 k):=by rw[←hW,World.cell?,heap_alloc_new];rfl
 have b1:W.cell? ⟨w.heap.size,1,none⟩=some (.string s):=by rw[←hW,World.cell?,heap_alloc_new];rfl
 have b2:W.cell? ⟨w.heap.size,2,none⟩=some (.int .i64 t.k):=by rw[←hW,World.cell?,heap_alloc_new];rfl
 have b3:W.cell? ⟨w.heap.size,3,none⟩=some (.string t.x):=by rw[←hW,World.cell?,heap_alloc_new];rfl
 have b4:W.cell? ⟨w.heap.size,4,none⟩=some (.string t.l):=by rw[←hW,World.cell?,heap_alloc_new];rfl
 have b5:W.cell? ⟨w.heap.size,5,none⟩=some (.string t.y):=by rw[←hW,World.cell?,heap_alloc_new];rfl
 have b6:W.cell? ⟨w.heap.size,6,none⟩=some (.slice A ks.length c):=by rw[←hW,World.cell?,heap_alloc_new];rfl
 have hk:=aF.later hr hB0
 have k1:=hr1.later hB0
 have k2:=RdTs.later hr2 hB0
 have HW:=Lib.hid hW
 have HB0:=Lib.hid hB0
 have z2':t.x.size<=281474976710656:=by omega
 clear hW hr hB0 hres hr1 hr2
 by_cases h1:(ks.length:Int)=1
 case neg =>
  have Hw:Hid (res=3):=by
   show res=_
   rw[←Hres.out,ofI]
   rcases hkk with rfl|rfl|rfl<;>exact AQ (by rw[List.length_map];omega)
  have hne:((ks.length:Int) != 1)=true:=by rw[bne_iff_ne];exact h1
  generalize ks.length=m at *
  clear hk k1 k2 _ih z4 zn h1 hkn
  rcases hkk with rfl|rfl|rfl
  all_goals
   go_enter Tryz.func71,Tryz.ntmps71
   go_wp2_with fail
   try simp only[HW.out]
   go_wp2
   go_ret
   exact⟨congrArg (λq=>Ending.returned (Value.int .i64 q)) Hw.out.symm,by first|exact HB0.out|exact blw⟩
 obtain⟨x0,hl⟩:=Bd (l:=ks) (by omega)
 subst hl
 obtain⟨g,o,ka,sa,ta,Aa,ma,ea,rfl,hR0,q0,q1,q2,q3,q4,q5,q6⟩:=aF.atv (j:=0) (e:=x0) hk rfl
 rw[Nat.zero_mul,Nat.add_zero]at q0 q1 q2 q3 q4 q5 q6
 have hm0:=(cF (vars:=vars) (row:=row) hR0).2 (z4 x0 (by simp))
 have e0:=(cF (vars:=vars) (row:=row) hR0).1
 have hT0:=kA vars row A1 A2 Aa c1 c2 ma ea ka sa ta W hv hrl hm0.2 k1 k2
 rw[←e0]at hT0
 have Hw0:Hid (res=lI k [bf vars row n x0]):=by
  show res=_
  rw[←Hres.out,ofI]
  rcases hkk with rfl|rfl|rfl<;>rfl
 have i0:=sq (o:=bf vars row n x0)
 unfold fU tmV at hT0
 rw[i0]at Hw0
 clear i0 e0
 generalize (bf vars row n x0).getD zTm=u0 at *
 generalize (bf vars row n x0).isSome=v0 at *
 have Q:=Lib.hid b0
 have HWx:Hid (w.alloc (.cells #[.int .i64 k,.string s,.int .i64 t.k,.string t.x,.string t.l,.string t.y,.slice (some ⟨g,o,none⟩) 1 c] 67)=W):=HW.out
 clear hk k1 k2 _ih z4 zn hkn z1 z2 z3 z2' hR0 hm0 h1 Hres hv hrl _hzr b0 b1 b2 b3 b4 b5 b6 HW
 have hWe:=HWx.out
 subst hWe
 obtain⟨uk,ux,ul,uy⟩:=u0
 simp only at hT0
 rcases hkk with rfl|rfl|rfl
 all_goals
  go_enter Tryz.func71,Tryz.ntmps71
  go_wp2_with fail
  refine hT0.mono ?_
  rintro e w2 ⟨rfl,hb2⟩
  have B2u:Below w2.heap.size w2 (w2.alloc (.cells #[.int .i64 uk,.string ux,.string ul,.string uy] 65)):=blw
  have BU:=aa hb2 B2u
  have p0:=ab Q.out BU
  have hLit:=gZ uk ux ul uy (w2.alloc (.cells #[.int .i64 uk,.string ux,.string ul,.string uy] 65))
  have HBU:=Lib.hid (HB0.out.trans (BU.mono HB0.out.size))
  clear hT0 q0 q1 q2 q3 q4 q5 q6 hb2 B2u BU
  cases v0
  ·have Hw:Hid (res=3):=by show res=_;rw[Hw0.out];rfl
   clear hLit
   go_wp2
   go_ret
   exact⟨congrArg (λq=>Ending.returned (Value.int .i64 q)) Hw.out.symm,HBU.out⟩
  ·go_wp2_with (first
    | (go_at_call 104;refine hLit.mono ?_;rintro e w3 ⟨rfl,hb3⟩)
    | (go_at_call 103;refine(cy _ _).mono ?_;rintro e w4 ⟨rfl,rfl⟩))
   go_ret
   exact⟨congrArg (λq=>Ending.returned (Value.int .i64 q)) Hw0.out.symm,by first|exact HBU.out|exact aa HBU.out hb3⟩
theorem Cn (vars:List ByteArray) (row:List Tm) (_hv:vars.length<=281474976710656) (_hrl:row.length<=281474976710656) (_hzr:fM row) (n:Nat) (_ih:td vars row n) (k:Int) (hkk:(k<1∨14<k)):ou vars row n k:=by
 rintro s t ks cs A1 A2 c1 c2 w hr1 hr2 ⟨A,c,rfl,hc1,hr⟩ ⟨z1,z2,z3,z4⟩ ⟨hkn,zn⟩
 obtain⟨res,hres⟩:∃r:Int,ofI vars row (n+1) ((k,s,t,ks):ExT (n+1))=r:=⟨_,rfl⟩
 rw[hres]
 have Hres:=Lib.hid hres
 obtain⟨W,hW⟩:∃W:World,w.alloc (.cells #[.int .i64 k,.string s,.int .i64 t.k,.string t.x,.string t.l,.string t.y,.slice A ks.length c] 67)=W:=⟨_,rfl⟩
 have hB0:Below w.heap.size w W:=by rw[←hW];exact blw
 have b0:W.cell? ⟨w.heap.size,0,none⟩=some (.int .i64 k):=by rw[←hW,World.cell?,heap_alloc_new];rfl
 have b1:W.cell? ⟨w.heap.size,1,none⟩=some (.string s):=by rw[←hW,World.cell?,heap_alloc_new];rfl
 have b2:W.cell? ⟨w.heap.size,2,none⟩=some (.int .i64 t.k):=by rw[←hW,World.cell?,heap_alloc_new];rfl
 have b3:W.cell? ⟨w.heap.size,3,none⟩=some (.string t.x):=by rw[←hW,World.cell?,heap_alloc_new];rfl
 have b4:W.cell? ⟨w.heap.size,4,none⟩=some (.string t.l):=by rw[←hW,World.cell?,heap_alloc_new];rfl
 have b5:W.cell? ⟨w.heap.size,5,none⟩=some (.string t.y):=by rw[←hW,World.cell?,heap_alloc_new];rfl
 have b6:W.cell? ⟨w.heap.size,6,none⟩=some (.slice A ks.length c):=by rw[←hW,World.cell?,heap_alloc_new];rfl
 have hk:=aF.later hr hB0
 have k1:=hr1.later hB0
 have k2:=RdTs.later hr2 hB0
 have HW:=Lib.hid hW
 have HB0:=Lib.hid hB0
 have z2':t.x.size<=281474976710656:=by omega
 clear hW hr hB0 hres hr1 hr2
 have Hw:Hid (res=3):=by
  show res=_
  rw[←Hres.out,ofI]
  have e:∀i:Int,k≠i->(k == i)=false:=λi h=>by simpa using h
  have f1:oe k=false:=by unfold oe;simp;omega
  have f2:isKind k=false:=by unfold isKind;simp;omega
  rw[e 1 (by omega),e 2 (by omega),e 3 (by omega),e 4 (by omega),e 5 (by omega),f1,f2];rfl
 have n1:¬ k=1:=by omega
 have n2:¬ k=2:=by omega
 have n3:¬ k=3:=by omega
 have n4:¬ k=4:=by omega
 have n5:¬ k=5:=by omega
 have n6:¬ k=6:=by omega
 have n7:¬ k=7:=by omega
 have n8:¬ k=8:=by omega
 have n9:¬ k=9:=by omega
 have n10:¬ k=10:=by omega
 have n11:¬ k=11:=by omega
 have n12:¬ k=12:=by omega
 have n13:¬ k=13:=by omega
 have n14:¬ k=14:=by omega
 clear hk k1 k2 _ih z4 zn hkk
 go_enter Tryz.func71,Tryz.ntmps71
 go_wp2_with fail
 try simp only[HW.out]
 go_wp2
 go_ret
 exact⟨congrArg (λq=>Ending.returned (Value.int .i64 q)) Hw.out.symm,by first|exact HB0.out|exact blw⟩
theorem BV (vars:List ByteArray) (row:List Tm) (hv:vars.length<=281474976710656) (hrl:row.length<=281474976710656) (hzr:fM row):∀n:Nat,td vars row n
 | 0=>λ_ _ _ _ _ _ _ _ _ h _ _=>h.elim
 | n+1=>by
  have ih:=BV vars row hv hrl hzr n
  rintro⟨k,s,t,ks⟩ cs A1 A2 c1 c2 w h1 h2 hr hz hn
  by_cases h:k<1∨14<k
  ·exact Cn vars row hv hrl hzr n ih k h s t ks cs A1 A2 c1 c2 w h1 h2 hr hz hn
  by_cases ha:k=1∨k=2
  ·exact AE vars row hv hrl hzr n ih k ha s t ks cs A1 A2 c1 c2 w h1 h2 hr hz hn
  by_cases hb:k=3
  ·exact Ck vars row hv hrl hzr n ih k hb s t ks cs A1 A2 c1 c2 w h1 h2 hr hz hn
  by_cases hc:k=4∨k=5
  ·exact AD vars row hv hrl hzr n ih k hc s t ks cs A1 A2 c1 c2 w h1 h2 hr hz hn
  by_cases hd:k=12∨k=13∨k=14
  ·exact Cm vars row hv hrl hzr n ih k hd s t ks cs A1 A2 c1 c2 w h1 h2 hr hz hn
  ·exact Cl vars row hv hrl hzr n ih k (by omega) s t ks cs A1 A2 c1 c2 w h1 h2 hr hz hn
theorem xK (vars:List ByteArray) (row:List Tm) (hv:vars.length<=281474976710656) (hrl:row.length<=281474976710656) (hzr:fM row) (n:Nat) (l:List (ExT n)) (A A1 A2:Option Addr) (c c1 c2:Nat) (w:World)
  (hr:aF n w A l) (h1:Rd w A1 (vars.map Value.string)) (h2:RdTs w A2 row) (hl:l.length<=1000000000) (hz:∀x∈l,szE n x) (hn:∀x∈l,szN n x) :
  Calls Tryz.prog 40 #[.slice A l.length c,.slice A1 vars.length c1,.slice A2 row.length c2] w λe w'=>e=.returned (.bool (!bb vars row n l))/\Below w.heap.size w w':=by
 have HR:=Lib.hid hr
 have H1:=Lib.hid h1
 have H2:=Lib.hid h2
 have HZ:=Lib.hid hz
 have HN:=Lib.hid hn
 have hO:=BV vars row hv hrl hzr n
 have HO:=Lib.hid hO
 have hl':(l.length:Int)<=1000000000:=by omega
 clear hr h1 h2 hz hn hO
 go_enter Tryz.func40,Tryz.ntmps40
 go_wp2
 go_loopw [7] (λi wr=>∃j:Nat,j<=l.length/\i=.int .i64 j/\Hid (bb vars row n l=bb vars row n (l.drop j))/\Below w.heap.size w wr) (λi _=>l.length-(intOf i).toNat)
 case atStart=>exact⟨0,by omega,rfl,rfl,Below.refl _ _⟩
 case round =>
  obtain⟨j,hj,rfl,H,hB⟩:=hrel
  by_cases hlt:j<l.length
  ·obtain⟨x,hx⟩:∃x,l[j]?=some x:=⟨_,List.getElem?_eq_getElem hlt⟩
   obtain⟨g,o,k0,s0,t0,A0,m0,e0,rfl,hR,q0,q1,q2,q3,q4,q5,q6⟩:=(aF.later HR.out hB).atv hx
   have hS:=HO.out x _ A1 A2 c1 c2 wr (H1.out.later hB) (RdTs.later H2.out hB) hR (HZ.out x (List.mem_of_getElem? hx)) (HN.out x (List.mem_of_getElem? hx))
   have Hf:Hid (bb vars row n l=(!(ofI vars row n x == 1) || bb vars row n (l.drop (j+1)))):=by show _=_;rw[H.out,an hx];rfl
   have HB:=Lib.hid hB
   generalize ofI vars row n x=v at *
   clear hx hR H hB
   by_cases hv1:v=1
   ·subst hv1
    go_wp2_with (go_at_call 71;refine hS.mono ?_;rintro e w2 ⟨rfl,hb2⟩)
    go_roundw
    case rel=>exact⟨j+1,by omega,by go_num,by show _=_;rw[Hf.out];rfl,aa HB.out hb2⟩
    case measure=>simp[intOf];omega
   ·have hne:(v != 1)=true:=by simpa using hv1
    have Hw:Hid (bb vars row n l=true):=by
     show _=_
     rw[Hf.out,show (v == 1)=false by simpa using hv1];rfl
    go_wp2_with (go_at_call 71;refine hS.mono ?_;rintro e w2 ⟨rfl,hb2⟩)
    go_ret
    exact⟨congrArg (λq=>Ending.returned (Value.bool (!q))) Hw.out.symm,aa HB.out hb2⟩
  ·have Hw:Hid (bb vars row n l=false):=by show _=_;rw[H.out,List.drop_eq_nil_of_le (by omega)];rfl
   go_wp2
   go_ret
   exact⟨congrArg (λq=>Ending.returned (Value.bool (!q))) Hw.out.symm,hB⟩
end Go.Proofs.YtjldjeenfnahoaaGreatDoor
