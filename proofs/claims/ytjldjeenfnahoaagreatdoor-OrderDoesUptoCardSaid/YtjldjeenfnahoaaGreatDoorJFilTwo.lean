/- The program's package filter, walked: Alone. The program's p -/
import Derived.Test.YtjldjeenfnahoaaGreatDoorJFilProg4
set_option maxHeartbeats 4000000
set_option maxRecDepth 20000
namespace Go.Proofs.YtjldjeenfnahoaaGreatDoor
open Go Go.RowKit Fm
theorem zj (k:Int) (x l y:ByteArray) (w:World) (hs:x.size<=281474976710656) :
  Calls Tryz.prog 151 #[.agg #[.int .i64 k,.string x,.string l,.string y]] w λe w'=>e=.returned (.int .i64 (gr ⟨k,x,l,y⟩))/\Below w.heap.size w w':=by
 have hN:=λW=>jx k x l y W hs
 have hT:=λW=>po k x l y W
 have ho:=λty W=>lX k x l y ty W
 obtain⟨D,hD⟩:∃D:ByteArray,(⟨(bu ⟨k,x,l,y⟩).toArray⟩:ByteArray)=D:=⟨_,rfl⟩
 simp only[ew,hD]at hN
 have hl:D.toList=bu ⟨k,x,l,y⟩:=by rw[←hD,toList_mk]
 have hv:gr ⟨k,x,l,y⟩=if aM ⟨k,x,l,y⟩ aK then bC (bH ⟨k,x,l,y⟩ && eG ⟨k,x,l,y⟩) else if aM ⟨k,x,l,y⟩ aO then bC (bP ⟨k,x,l,y⟩ && !(D.toList == [48])) else if k == 3 then bC (!x.toList.isEmpty) else 3:=by
  unfold gr
  rw[←hl]
 rw[hv]
 have ho1:=ho aK
 have ho2:=ho aO
 clear hv hl hD ho hs
 generalize aM ⟨k,x,l,y⟩ aK=q1 at *
 generalize aM ⟨k,x,l,y⟩ aO=q2 at *
 generalize bP ⟨k,x,l,y⟩=i at *
 generalize cV ⟨k,x,l,y⟩=m at *
 generalize bH ⟨k,x,l,y⟩=b at *
 generalize eG ⟨k,x,l,y⟩=ye at *
 unfold aK at ho1
 unfold aO at ho2
 go_enter Tryz.func151,Tryz.ntmps151
 go_wp2_with fail
 refine(ho1 _).mono ?_
 rintro e w2 ⟨rfl,hb2⟩
 obtain⟨hc2,hf2⟩:=aB hb2
 cases q1
 ·go_wp2_with fail
  refine(ho2 _).mono ?_
  rintro e w3 ⟨rfl,hb⟩
  have hb3:=aa hb2 hb
  clear hb2 hb hc2 hf2
  obtain⟨hc3,hf3⟩:=aB hb3
  cases q2
  ·by_cases hk:k=3
   ·have hk3:(k == 3)=true:=by simp[hk]
    clear hk
    go_wp2_with ((refine(dG _ _).mono ?_);(rintro e w4 ⟨rfl,rfl⟩))
    go_ret
    exact⟨by simp,blw⟩
   ·have hk3:(k == 3)=false:=by simp[hk]
    clear hk
    go_wp2_with ((refine(dG _ _).mono ?_);(rintro e w4 ⟨rfl,rfl⟩))
    go_ret
    exact⟨by simp,blw⟩
  ·go_wp2_with fail
   refine(hN _).mono ?_
   rintro e w4 ⟨rfl,hb⟩
   have hb4:=aa hb3 hb
   clear hb3 hb hc3 hf3
   cases i
   all_goals
    go_wp2_with ((refine(dG _ _).mono ?_);(rintro e w4 ⟨rfl,rfl⟩))
    go_ret
    exact⟨by simp,blw⟩
 ·go_wp2_with fail
  refine(hT _).mono ?_
  rintro e w3 ⟨rfl,hb⟩
  have hb3:=aa hb2 hb
  clear hb2 hb hc2 hf2
  cases b
  all_goals
   go_wp2_with ((refine(dG _ _).mono ?_);(rintro e w4 ⟨rfl,rfl⟩))
   go_ret
   exact⟨by simp,blw⟩
open Go.Maps Go.ChangeMaps
def im (w:World) (b:Nat) (t:Tm):Prop:=w.cell? ⟨b,0,none⟩=some (.int .i64 t.k)/\w.cell? ⟨b,1,none⟩=some (.string t.x)/\w.cell? ⟨b,2,none⟩=some (.string t.l)/\w.cell? ⟨b,3,none⟩=some (.string t.y)
theorem im.set {w:World} {b:Nat} {u:Tm} (h:im w b u) (t:Tm):im ((((w.setCell ⟨b,0,none⟩ (.int .i64 t.k)).setCell ⟨b,1,none⟩ (.string t.x)).setCell ⟨b,2,none⟩ (.string t.l)).setCell ⟨b,3,none⟩ (.string t.y)) b t:=by
 obtain⟨h0,h1,h2,h3⟩:=h
 have ne:∀{i j:Nat},i≠j->(⟨b,i,none⟩:Addr)≠⟨b,j,none⟩:=λh e=>h (by injection e)
 refine⟨?_,?_,?_,?_⟩
 ·rw[World.cell?_setCell_other (h:=ne (by decide)),World.cell?_setCell_other (h:=ne (by decide)),World.cell?_setCell_other (h:=ne (by decide)),World.cell?_setCell_same (h:=h0)]
 ·rw[World.cell?_setCell_other (h:=ne (by decide)),World.cell?_setCell_other (h:=ne (by decide)),World.cell?_setCell_same (u:=.string u.x) (h:=by rw[World.cell?_setCell_other (h:=ne (by decide))];exact h1)]
 ·rw[World.cell?_setCell_other (h:=ne (by decide)),World.cell?_setCell_same (u:=.string u.l) (h:=by rw[World.cell?_setCell_other (h:=ne (by decide)),World.cell?_setCell_other (h:=ne (by decide))];exact h2)]
 ·rw[World.cell?_setCell_same (u:=.string u.y) (h:=by rw[World.cell?_setCell_other (h:=ne (by decide)),World.cell?_setCell_other (h:=ne (by decide)),World.cell?_setCell_other (h:=ne (by decide))];exact h3)]
theorem fl (w:World) (t:Tm) (ty:TypeId):im (w.alloc (.cells #[.int .i64 t.k,.string t.x,.string t.l,.string t.y] ty)) w.heap.size t:=by
 refine⟨?_,?_,?_,?_⟩<;>(rw[World.cell?,heap_alloc_new];rfl)
theorem wl (vars:List ByteArray) (row:List Tm) (b:Nat) (k:Int) (s:ByteArray) (t:Tm) (A:Option Addr) (m c:Nat) (w:World) (hj:cZ w b vars row) (hv:vars.length<=281474976710656) (hrl:row.length<=281474976710656) (hm:m<=281474976710656)
  (hz:∀u,cE vars row k s t (m == 0)=some u->u.x.size<=281474976710656) :
  Calls Tryz.prog 120 #[.pointer (some ⟨b,0,none⟩),.agg #[.int .i64 k,.string s,.int .i64 t.k,.string t.x,.string t.l,.string t.y,.slice A m c]] w
   λe w'=>e=.returned (.int .i64 (tW (cE vars row k s t (m == 0))))/\Below w.heap.size w w':=by
 obtain⟨A1,A2,c1,c2,r,h0,h1,h2,h3,h4,h5⟩:=hj.ex
 have hR:=λW a b=>iU vars row A1 A2 A c1 c2 m c k s t W hv hrl hm a b
 generalize cE vars row k s t (m == 0)=o at *
 have ho:∀u,o=some u->o.getD zTm=u:=λu h=>by rw[h];rfl
 unfold fU tmV at hR
 generalize o.getD zTm=z at *
 have ho':=Lib.hid ho
 clear ho
 go_enter Tryz.func120,Tryz.ntmps120
 go_wp2
 obtain⟨W,hW⟩:∃W:World,w.alloc (.cells #[.int .i64 k,.string s,.int .i64 t.k,.string t.x,.string t.l,.string t.y,.slice A m c] 67)=W:=⟨_,rfl⟩
 have hB0:Below w.heap.size w W:=by rw[←hW];exact blw
 have hsz:w.heap.size<W.heap.size:=by rw[←hW];simp
 have hbx:∀(i:Nat) v,#[Value.int .i64 k,.string s,.int .i64 t.k,.string t.x,.string t.l,.string t.y,.slice A m c][i]?=some v->W.cell? ⟨w.heap.size,i,none⟩=some v:=by
  intro i v hv;rw[←hW,World.cell?,heap_alloc_new];exact hv
 simp only[hW]
 have HW:=Lib.hid hW
 clear hW
 refine Rf.p0 W.heap.size ?R (.quiet [0,1,2,3,4] (.fork 5 9 (.quiet [6,7,8] (.one 9 (.one 10 (.quiet [11] (.done))))) (.one 5 (.quiet [6,7,8] (.one 10 (.quiet [11] (.done))))))) ?_ ?_
 case R=>exact λa W'=>∃(B:Nat) (z:Tm) (u8 u9 u10 u11 u12 u13 u7 u14 u15:Value),a={tmps:=#[.pointer (some ⟨b,0,none⟩),.agg #[.int .i64 k,.string s,.int .i64 t.k,.string t.x,.string t.l,.string t.y,.slice A m c],undef,.pointer (some ⟨w.heap.size,0,none⟩),.int .i64 0,.pointer (some ⟨B,0,none⟩),.bool o.isSome,u7,u8,u9,u10,u11,u12,u13,u14,u15,undef,undef,undef,undef],defers:=[]}/\(∀u,o=some u->z=u)/\im W' B z/\Below W.heap.size W W'
 ·intro wd hbd hwz
  have key:∀{p:Addr} {u:Value},w.cell? p=some u->wd.cell? p=some u:=λh=>by have:=ae h;rw[hbd.cell (by omega),hB0.cell this];exact h
  have lt:∀{p:Addr} {u:Value},w.cell? p=some u->p.block<W.heap.size:=λh=>by have:=ae h;omega
  have hbx':∀(i:Nat) v,#[Value.int .i64 k,.string s,.int .i64 t.k,.string t.x,.string t.l,.string t.y,.slice A m c][i]?=some v->wd.cell? ⟨w.heap.size,i,none⟩=some v:=λi v hv=>by rw[hbd.cell (p:=⟨w.heap.size,i,none⟩) hsz];exact hbx i v hv
  have j0:=dY (key h0) (lt h0)
  have j1:=dY (key h1) (lt h1)
  have b0:=dY (hbx' 0 _ rfl) hsz
  have b1:=dY (hbx' 1 _ rfl) hsz
  have b2:=dY (hbx' 2 _ rfl) hsz
  have b3:=dY (hbx' 3 _ rfl) hsz
  have b4:=dY (hbx' 4 _ rfl) hsz
  have b5:=dY (hbx' 5 _ rfl) hsz
  have b6:=dY (hbx' 6 _ rfl) hsz
  have hr1:=(h4.later hB0).later hbd
  have hr2:=(h5.later hB0).later hbd
  have HB0:=Lib.hid hB0
  have Hz:=Lib.hid hwz
  have hle:W.heap.size<=wd.heap.size:=hbd.size
  clear hbx hbx' key lt hB0 h0 h1 h2 h3 h4 h5 hwz
  refine Rf.pl_quiet ?_
  iterate 5 go_big_quiet_step (fail)
  refine wpQuiet_nil (Rf.pl_fork ?_ ?_)
  ·go_wp2_with (refine(hR _ hr1 hr2).mono ?_;rintro e w1 ⟨rfl,hb1⟩)
   have hb2:=hb1.mono hle
   refine⟨hb2,Rf.pl_quiet ?_⟩
   iterate 3 go_big_quiet_step (fail)
   refine wpQuiet_nil (Rf.pl_one ?_)
   go_wp2
   refine⟨(Below.refl _ _).alloc (Nat.le_trans hle hb1.size) _,Rf.pl_one ?_⟩
   go_wp2
   refine⟨eE (Nat.le_trans hle hb1.size) _ _,Rf.pl_quiet ?_⟩
   iterate 1 go_big_quiet_step (fail)
   exact wpQuiet_nil (Rf.pl_done ⟨_,z,_,_,_,_,_,_,_,_,_,rfl,ho'.out,fl _ _ _,(hbd.trans hb2).alloc (Nat.le_trans hle hb1.size) _⟩)
  ·go_wp2
   refine⟨(Below.refl _ _).alloc hle _,Rf.pl_one ?_⟩
   go_wp2_with (refine(hR _ (hr1.later blw) (hr2.later blw)).mono ?_;rintro e w1 ⟨rfl,hb1⟩)
   obtain⟨hc,hf⟩:=aB hb1
   refine⟨hb1.mono (by simp;omega),Rf.pl_quiet ?_⟩
   iterate 3 go_big_quiet_step (fail)
   refine wpQuiet_nil (Rf.pl_one ?_)
   go_wp2
   have hle2:W.heap.size<=wd.heap.size:=hle
   refine⟨bp hle2 _ _ _ _,Rf.pl_quiet ?_⟩
   have hT:im w1 wd.heap.size zTm:=by
    refine⟨?_,?_,?_,?_⟩<;>(rw[hb1.cell (by simp),World.cell?,heap_alloc_new];rfl)
   iterate 1 go_big_quiet_step (fail)
   exact wpQuiet_nil (Rf.pl_done ⟨_,z,_,_,_,_,_,_,_,_,_,rfl,ho'.out,hT.set z,((hbd.trans ((Below.refl _ _).alloc hle _)).trans (hb1.mono (by simp;omega))).trans (bp hle2 _ _ _ _)⟩)
 ·rintro a W1 ⟨B,z,u8,u9,u10,u11,u12,u13,u7,u14,u15,rfl,hz1,⟨t0,t1,t2,t3⟩,hb1⟩
  have Hb1:=Lib.hid hb1
  have Hz1:=Lib.hid hz1
  have HB0:=Lib.hid hB0
  clear hb1 hz1 hB0 hbx h0 h1 h2 h3 h4 h5 hR ho' hj
  cases o with
  | none =>
   simp only[Option.isSome_none]
   clear t0 t1 t2 t3 hz
   go_wp2
   go_ret
   exact⟨rfl,aa HB0.out Hb1.out⟩
  | some u =>
   obtain rfl:=Hz1.out u rfl
   have hza:=hz z rfl
   simp only[Option.isSome_some]
   clear hz
   go_wp2_with (refine(zj z.k z.x z.l z.y _ hza).mono ?_;rintro e w2 ⟨rfl,hb2⟩)
   go_ret
   exact⟨rfl,aa (aa HB0.out Hb1.out) hb2⟩
theorem Cc {α:Type} (l:List α) (h:l.length=2):∃x y,l=[x,y]:=by
 match l,h with
 | [x,y],_=>exact⟨x,y,rfl⟩
theorem yo (k:Int) (l:List (Option Tm)) (h:l.length≠1):lI k l=3:=by
 unfold lI;split
 ·exact(h rfl).elim
 ·rfl
theorem wY (k:Int) (l:List (Option Tm)) (h:l.length≠2):kN k l=3:=by
 unfold kN;split
 ·exact(h rfl).elim
 ·rfl
theorem im.on {W W1:World} {b:Nat} {t:Tm} (h:im W b t) (hb:Below W.heap.size W W1):im W1 b t:=⟨ab h.1 hb,ab h.2.1 hb,ab h.2.2.1 hb,ab h.2.2.2 hb⟩
theorem kU {n:Nat} {x:ExT n} {w:World} {k:Int} {s:ByteArray} {t:Tm} {A:Option Addr} {m c:Nat} (h:szE n x) (hr:RdE n w [.int .i64 k,.string s,.int .i64 t.k,.string t.x,.string t.l,.string t.y,.slice A m c] x) :
  t.x.size<=140737488351232/\m<=1353245080300:=by
 match n,x,h,hr with
 | n+1,(k',s',t',kids),⟨h1,h2,h3,h4⟩,⟨A',c',he,hc,hk⟩ =>
  simp only[List.cons.injEq,Value.int.injEq,Value.string.injEq,Value.slice.injEq,and_true,true_and]at he
  obtain⟨rfl,rfl,e3,e4,e5,e6,rfl,rfl,rfl⟩:=he
  rw[e4];exact⟨h2,h3⟩
theorem jb (vars:List ByteArray) (row:List Tm) {n:Nat} {x:ExT n} {w:World} {k:Int} {s:ByteArray} {t:Tm} {A:Option Addr} {m c:Nat} (hr:RdE n w [.int .i64 k,.string s,.int .i64 t.k,.string t.x,.string t.l,.string t.y,.slice A m c] x) :
  bf vars row n x=cE vars row k s t (m == 0):=by
 match n,x,hr with
 | n+1,(k',s',t',kids),⟨A',c',he,hc,hk⟩ =>
  simp only[List.cons.injEq,Value.int.injEq,Value.string.injEq,Value.slice.injEq,and_true,true_and]at he
  obtain⟨rfl,rfl,e3,e4,e5,e6,rfl,rfl,rfl⟩:=he
  have et:t'=t:=by cases t';cases t;simp at e3 e4 e5 e6;simp[e3,e4,e5,e6]
  subst et
  unfold bf
  cases kids<;>rfl
theorem ep (vars:List ByteArray) (row:List Tm) (k:Int) (s:ByteArray) (t:Tm) (q:Bool) (h:t.x.size<=140737488351232) (hr:∀u∈row,u.x.size<=281474976710656):∀u,cE vars row k s t q=some u->u.x.size<=281474976710656:=by
 intro u hu
 unfold cE at hu
 split at hu
 ·split at hu
  ·injection hu with hu;subst hu;omega
  ·split at hu
   ·split at hu
    ·cases hu
    ·exact hr u (List.mem_of_getElem? hu)
   ·cases hu
 ·cases hu
theorem zi (vars:List ByteArray) (row:List Tm) (b:Nat) (k:Int) (s:ByteArray) (t:Tm) (A:Option Addr) (c n:Nat) (kids:List (ExT n)) (w:World) (hk:aF n w A kids) (hkl:kids.length<=1353245080300)
  (hj:cZ w b vars row) (hv:vars.length<=281474976710656) (hrl:row.length<=281474976710656) (hzr:∀u∈row,u.x.size<=281474976710656) (hzk:∀x∈kids,szE n x) :
  Calls Tryz.prog 124 #[.pointer (some ⟨b,0,none⟩),.agg #[.int .i64 k,.string s,.int .i64 t.k,.string t.x,.string t.l,.string t.y,.slice A kids.length c]] w
   λe w'=>e=.returned (.int .i64 (lI k (kids.map (bf vars row n))))/\Below w.heap.size w w':=by
 have hl':(kids.length:Int)<=1353245080300:=by omega
 by_cases hn:(kids.length:Int)=1
 case neg =>
  have hv:lI k (kids.map (bf vars row n))=3:=by
   exact yo _ _ (by rw[List.length_map];omega)
  rw[hv]
  clear hk hv hj hzr hzk
  go_enter Tryz.func124,Tryz.ntmps124
  go_wp2
  go_ret
  exact⟨rfl,blw⟩
 case pos =>
  obtain⟨x0,rfl⟩:∃x,kids=[x]:=List.length_eq_one_iff.1 (by omega)
  clear hn
  obtain⟨A1,A2,c1,c2,r,h0',h1',h2',h3',h4',h5'⟩:=hj.ex
  obtain⟨W,hW⟩:∃W:World,w.alloc (.cells #[.int .i64 k,.string s,.int .i64 t.k,.string t.x,.string t.l,.string t.y,.slice A 1 c] 67)=W:=⟨_,rfl⟩
  have hB0:Below w.heap.size w W:=by rw[←hW];exact blw
  have hbx:∀(i:Nat) v,#[.int .i64 k,.string s,.int .i64 t.k,.string t.x,.string t.l,.string t.y,.slice A 1 c][i]?=some v->W.cell? ⟨w.heap.size,i,none⟩=some v:=by
   intro i v hv;rw[←hW,World.cell?,heap_alloc_new];exact hv
  obtain⟨g0,e0,k0,s0,t0,K0,m0,d0,rfl,hR0',q0_0,q0_1,q0_2,q0_3,q0_4,q0_5,q0_6⟩:=(aF.later hk hB0).atv (j:=0) (e:=x0) rfl
  have hm0:=kU (hzk x0 (by simp)) hR0'
  have hR0:=λW a b=>iU vars row A1 A2 K0 c1 c2 m0 d0 k0 s0 t0 W hv hrl (by omega) a b
  have hz0:=ep vars row k0 s0 t0 (m0 == 0) hm0.1 hzr
  rw[←jb vars row hR0']at hR0 hz0
  simp only[List.map_cons,List.map_nil,List.length_cons,List.length_nil,Nat.zero_add]at hl' ⊢
  simp only[Nat.zero_mul,Nat.add_zero]at q0_0 q0_1 q0_2 q0_3 q0_4 q0_5 q0_6
  generalize bf vars row n x0=o0 at *
  obtain⟨v,hvv⟩:∃v:Int,lI k ([o0])=v:=⟨_,rfl⟩
  rw[hvv]
  have Hv:=Lib.hid hvv
  have ho0:=Lib.hid (show ∀u,o0=some u->o0.getD zTm=u from λu h=>by rw[h];rfl)
  unfold fU tmV at hR0
  generalize o0.getD zTm=z0 at *
  have h0:W.cell? ⟨b,0,none⟩=some (.slice A1 vars.length c1):=by rw[hB0.cell (ae h0')];exact h0'
  have h1:W.cell? ⟨b,1,none⟩=some (.slice A2 row.length c2):=by rw[hB0.cell (ae h1')];exact h1'
  have h4:=Rd.later h4' hB0
  have h5:=RdTs.later h5' hB0
  have hb6:=hbx 6 _ rfl
  have hb0:=hbx 0 _ rfl
  have HB0:=Lib.hid hB0
  clear hbx hk hj hzr hzk hvv hB0 h0' h1' h2' h3' h4' h5' hR0'
  go_enter Tryz.func124,Tryz.ntmps124
  go_wp2
  try simp only[hW]
  have HW:=Lib.hid hW
  clear hW
  refine Rf.p0 W.heap.size ?R0 (.quiet [0,1,2,3,4,5,6,7] (.fork 8 12 (.quiet [9,10,11] (.one 12 (.one 13 (.quiet [14] (.done))))) (.one 8 (.quiet [9,10,11] (.one 13 (.quiet [14] (.done))))))) ?_ ?_
  case R0=>exact λa W'=>∃(B:Nat) (z:Tm) (u12 u13 u14 u15 u16 u17 u18 u19 u20 u11 u21 u22:Value),a={tmps:=#[.pointer (some ⟨b,0,none⟩),.agg #[.int .i64 k,.string s,.int .i64 t.k,.string t.x,.string t.l,.string t.y,.slice (some ⟨g0,e0,none⟩) 1 c],undef,.pointer (some ⟨w.heap.size,0,none⟩),.int .i64 0,.pointer (some ⟨B,0,none⟩),.bool o0.isSome,.pointer (some ⟨w.heap.size,6,none⟩),.slice (some ⟨g0,e0,none⟩) 1 c,.int .i64 1,.bool false,u11,u12,u13,u14,u15,u16,u17,u18,u19,u20,u21,u22,undef,undef,undef,undef,undef,undef,undef,undef,undef,undef,undef,undef,undef,undef,undef,undef,undef,undef,undef],defers:=[]}/\(∀u,o0=some u->z=u)/\im W' B z/\Below W.heap.size W W'
  ·intro wd hbd hwz
   have L_h0:=cellL h0 hbd
   have L_h1:=cellL h1 hbd
   have L_hb6:=cellL hb6 hbd
   have L_q0_0:=cellL q0_0 hbd
   have L_q0_1:=cellL q0_1 hbd
   have L_q0_2:=cellL q0_2 hbd
   have L_q0_3:=cellL q0_3 hbd
   have L_q0_4:=cellL q0_4 hbd
   have L_q0_5:=cellL q0_5 hbd
   have L_q0_6:=cellL q0_6 hbd
   have hr1:=(h4).later hbd
   have hr2:=RdTs.later h5 hbd
   have Hz:=Lib.hid hwz
   have hle:W.heap.size<=wd.heap.size:=hbd.size
   clear h0 h1 hb6 q0_0 q0_1 q0_2 q0_3 q0_4 q0_5 q0_6 hwz
   refine Rf.pl_quiet ?_
   iterate 8 go_big_quiet_step (fail)
   refine wpQuiet_nil (Rf.pl_fork ?_ ?_)
   ·go_wp2_with (refine(hR0 _ hr1 hr2).mono ?_;rintro e w1 ⟨rfl,hb1⟩)
    have hb2:=hb1.mono hle
    refine⟨hb2,Rf.pl_quiet ?_⟩
    iterate 3 go_big_quiet_step (fail)
    refine wpQuiet_nil (Rf.pl_one ?_)
    go_wp2
    refine⟨(Below.refl _ _).alloc (Nat.le_trans hle hb1.size) _,Rf.pl_one ?_⟩
    go_wp2
    refine⟨eE (Nat.le_trans hle hb1.size) _ _,Rf.pl_quiet ?_⟩
    iterate 1 go_big_quiet_step (fail)
    exact wpQuiet_nil (Rf.pl_done ⟨_,z0,_,_,_,_,_,_,_,_,_,_,_,_,rfl,ho0.out,fl _ _ _,(hbd.trans hb2).alloc (Nat.le_trans hle hb1.size) _⟩)
   ·go_wp2
    refine⟨(Below.refl _ _).alloc hle _,Rf.pl_one ?_⟩
    go_wp2_with (refine(hR0 _ (hr1.later blw) (RdTs.later hr2 blw)).mono ?_;rintro e w1 ⟨rfl,hb1⟩)
    obtain⟨hc,hf⟩:=aB hb1
    refine⟨hb1.mono (by simp;omega),Rf.pl_quiet ?_⟩
    iterate 3 go_big_quiet_step (fail)
    refine wpQuiet_nil (Rf.pl_one ?_)
    go_wp2
    have hle2:W.heap.size<=wd.heap.size:=hle
    refine⟨bp hle2 _ _ _ _,Rf.pl_quiet ?_⟩
    have hT:im w1 wd.heap.size zTm:=by
     refine⟨?_,?_,?_,?_⟩<;>(rw[hb1.cell (by simp),World.cell?,heap_alloc_new];rfl)
    iterate 1 go_big_quiet_step (fail)
    exact wpQuiet_nil (Rf.pl_done ⟨_,z0,_,_,_,_,_,_,_,_,_,_,_,_,rfl,ho0.out,hT.set z0,((hbd.trans ((Below.refl _ _).alloc hle _)).trans (hb1.mono (by simp;omega))).trans (bp hle2 _ _ _ _)⟩)
  ·rintro a W1 ⟨B,z,u12,u13,u14,u15,u16,u17,u18,u19,u20,u11,u21,u22,rfl,hz1,⟨w0,w1,w2,w3⟩,hb1⟩
   have hb0':=ab hb0 hb1
   have Hb1:=Lib.hid hb1
   have Hz1:=Lib.hid hz1
   clear hb1 hz1 h0 h1 hb6 hb0 h4 h5 hR0 ho0 q0_0 q0_1 q0_2 q0_3 q0_4 q0_5 q0_6
   cases o0 with
   | none =>
    simp only[Option.isSome_none]
    go_wp2
    go_ret
    exact⟨by rw[←Hv.out];rfl,aa HB0.out Hb1.out⟩
   | some u =>
    obtain rfl:=Hz1.out u rfl
    clear hz0
    simp only[Option.isSome_some]
    have hvk:lI k [some z]=yM k z:=rfl
    rw[hvk]at Hv
    by_cases h12:k=12
    ·subst h12
     go_wp2_with ((refine(dG _ _).mono ?_);(rintro e w4 ⟨rfl,rfl⟩))
     go_ret
     exact⟨by rw[←Hv.out];rfl,aa HB0.out Hb1.out⟩
    ·have h12':(k == 12)=false:=by simpa using h12
     by_cases h13:k=13
     ·subst h13
      go_wp2_with fail
      refine(lY _ _ _ _ _).mono ?_
      rintro e w4 ⟨rfl,hb4⟩
      go_wp2_with ((refine(dG _ _).mono ?_);(rintro e w5 ⟨rfl,rfl⟩))
      go_ret
      exact⟨by rw[←Hv.out];rfl,aa (aa HB0.out Hb1.out) hb4⟩
     ·have h13':(k == 13)=false:=by simpa using h13
      go_wp2_with ((refine(dG _ _).mono ?_);(rintro e w4 ⟨rfl,rfl⟩))
      go_ret
      have hvv:v=bC (z.k == 2):=by rw[←Hv.out];unfold yM;rw[if_neg (by simp[h12]),if_neg (by simp[h13])]
      exact⟨by rw[hvv];rfl,aa HB0.out Hb1.out⟩
theorem Br (vars:List ByteArray) (row:List Tm) (b:Nat) (k:Int) (s:ByteArray) (t:Tm) (A:Option Addr) (c n:Nat) (kids:List (ExT n)) (w:World) (hk:aF n w A kids) (hkl:kids.length<=1353245080300)
  (hj:cZ w b vars row) (hv:vars.length<=281474976710656) (hrl:row.length<=281474976710656) (hzr:∀u∈row,u.x.size<=281474976710656) (hzk:∀x∈kids,szE n x) :
  Calls Tryz.prog 123 #[.pointer (some ⟨b,0,none⟩),.agg #[.int .i64 k,.string s,.int .i64 t.k,.string t.x,.string t.l,.string t.y,.slice A kids.length c]] w
   λe w'=>e=.returned (.int .i64 (kN k (kids.map (bf vars row n))))/\Below w.heap.size w w':=by
 have hl':(kids.length:Int)<=1353245080300:=by omega
 by_cases hn:(kids.length:Int)=2
 case neg =>
  have hv:kN k (kids.map (bf vars row n))=3:=by
   exact wY _ _ (by rw[List.length_map];omega)
  rw[hv]
  clear hk hv hj hzr hzk
  go_enter Tryz.func123,Tryz.ntmps123
  go_wp2
  go_ret
  exact⟨rfl,blw⟩
 case pos =>
  obtain⟨x0,x1,rfl⟩:∃x y,kids=[x,y]:=Cc _ (by omega)
  clear hn
  obtain⟨A1,A2,c1,c2,r,h0',h1',h2',h3',h4',h5'⟩:=hj.ex
  obtain⟨W,hW⟩:∃W:World,w.alloc (.cells #[.int .i64 k,.string s,.int .i64 t.k,.string t.x,.string t.l,.string t.y,.slice A 2 c] 67)=W:=⟨_,rfl⟩
  have hB0:Below w.heap.size w W:=by rw[←hW];exact blw
  have hbx:∀(i:Nat) v,#[.int .i64 k,.string s,.int .i64 t.k,.string t.x,.string t.l,.string t.y,.slice A 2 c][i]?=some v->W.cell? ⟨w.heap.size,i,none⟩=some v:=by
   intro i v hv;rw[←hW,World.cell?,heap_alloc_new];exact hv
  obtain⟨g0,e0,k0,s0,t0,K0,m0,d0,rfl,hR0',q0_0,q0_1,q0_2,q0_3,q0_4,q0_5,q0_6⟩:=(aF.later hk hB0).atv (j:=0) (e:=x0) rfl
  obtain⟨g1,e1,k1,s1,t1,K1,m1,d1,he,hR1',q1_0,q1_1,q1_2,q1_3,q1_4,q1_5,q1_6⟩:=(aF.later hk hB0).atv (j:=1) (e:=x1) rfl
  injection he with he;injection he with he1 he2;subst he1 he2
  have hm0:=kU (hzk x0 (by simp)) hR0'
  have hR0:=λW a b=>iU vars row A1 A2 K0 c1 c2 m0 d0 k0 s0 t0 W hv hrl (by omega) a b
  have hz0:=ep vars row k0 s0 t0 (m0 == 0) hm0.1 hzr
  rw[←jb vars row hR0']at hR0 hz0
  have hm1:=kU (hzk x1 (by simp)) hR1'
  have hR1:=λW a b=>iU vars row A1 A2 K1 c1 c2 m1 d1 k1 s1 t1 W hv hrl (by omega) a b
  have hz1':=ep vars row k1 s1 t1 (m1 == 0) hm1.1 hzr
  rw[←jb vars row hR1']at hR1 hz1'
  simp only[List.map_cons,List.map_nil,List.length_cons,List.length_nil,Nat.zero_add,Nat.reduceAdd]at hl' ⊢
  simp only[Nat.zero_mul,Nat.one_mul,Nat.add_zero,Nat.add_assoc,Nat.reduceAdd]at q0_0 q0_1 q0_2 q0_3 q0_4 q0_5 q0_6 q1_0 q1_1 q1_2 q1_3 q1_4 q1_5 q1_6
  generalize bf vars row n x0=o0 at *
  generalize bf vars row n x1=o1 at *
  obtain⟨v,hvv⟩:∃v:Int,kN k ([o0,o1])=v:=⟨_,rfl⟩
  rw[hvv]
  have Hv:=Lib.hid hvv
  have ho0:=Lib.hid (show ∀u,o0=some u->o0.getD zTm=u from λu h=>by rw[h];rfl)
  unfold fU tmV at hR0
  generalize o0.getD zTm=z0 at *
  have ho1:=Lib.hid (show ∀u,o1=some u->o1.getD zTm=u from λu h=>by rw[h];rfl)
  unfold fU tmV at hR1
  generalize o1.getD zTm=z1 at *
  have h0:W.cell? ⟨b,0,none⟩=some (.slice A1 vars.length c1):=by rw[hB0.cell (ae h0')];exact h0'
  have h1:W.cell? ⟨b,1,none⟩=some (.slice A2 row.length c2):=by rw[hB0.cell (ae h1')];exact h1'
  have h4:=Rd.later h4' hB0
  have h5:=RdTs.later h5' hB0
  have hb6:=hbx 6 _ rfl
  have hb0:=hbx 0 _ rfl
  have HB0:=Lib.hid hB0
  clear hbx hk hj hzr hzk hvv hB0 h0' h1' h2' h3' h4' h5' hR0' hR1'
  go_enter Tryz.func123,Tryz.ntmps123
  go_wp2
  try simp only[hW]
  have HW:=Lib.hid hW
  clear hW
  refine Rf.p0 W.heap.size ?R0 (.quiet [0,1,2,3,4,5,6,7] (.fork 8 12 (.quiet [9,10,11] (.one 12 (.one 13 (.quiet [14] (.done))))) (.one 8 (.quiet [9,10,11] (.one 13 (.quiet [14] (.done))))))) ?_ ?_
  case R0=>exact λa W'=>∃(B:Nat) (z:Tm) (u14 u15 u16 u17 u18 u19 u20 u21 u22 u13 u23 u24:Value),a={tmps:=#[.pointer (some ⟨b,0,none⟩),.agg #[.int .i64 k,.string s,.int .i64 t.k,.string t.x,.string t.l,.string t.y,.slice (some ⟨g0,e0,none⟩) 2 c],undef,.pointer (some ⟨w.heap.size,0,none⟩),.int .i64 0,.pointer (some ⟨B,0,none⟩),.bool o0.isSome,undef,undef,.pointer (some ⟨w.heap.size,6,none⟩),.slice (some ⟨g0,e0,none⟩) 2 c,.int .i64 2,.bool false,u13,u14,u15,u16,u17,u18,u19,u20,u21,u22,u23,u24,undef,undef,undef,undef,undef,undef,undef,undef,undef,undef,undef,undef,undef,undef,undef,undef,undef,undef,undef,undef,undef,undef,undef,undef,undef,undef,undef,undef,undef,undef,undef,undef,undef,undef,undef,undef,undef,undef,undef,undef,undef,undef,undef,undef,undef,undef,undef,undef,undef,undef,undef],defers:=[]}/\(∀u,o0=some u->z=u)/\im W' B z/\Below W.heap.size W W'
  ·intro wd hbd hwz
   have L_h0:=cellL h0 hbd
   have L_h1:=cellL h1 hbd
   have L_hb6:=cellL hb6 hbd
   have L_q0_0:=cellL q0_0 hbd
   have L_q0_1:=cellL q0_1 hbd
   have L_q0_2:=cellL q0_2 hbd
   have L_q0_3:=cellL q0_3 hbd
   have L_q0_4:=cellL q0_4 hbd
   have L_q0_5:=cellL q0_5 hbd
   have L_q0_6:=cellL q0_6 hbd
   have hr1:=(h4).later hbd
   have hr2:=RdTs.later h5 hbd
   have Hz:=Lib.hid hwz
   have hle:W.heap.size<=wd.heap.size:=hbd.size
   clear h0 h1 hb6 q0_0 q0_1 q0_2 q0_3 q0_4 q0_5 q0_6 q1_0 q1_1 q1_2 q1_3 q1_4 q1_5 q1_6 hwz
   refine Rf.pl_quiet ?_
   iterate 8 go_big_quiet_step (fail)
   refine wpQuiet_nil (Rf.pl_fork ?_ ?_)
   ·go_wp2_with (refine(hR0 _ hr1 hr2).mono ?_;rintro e w1 ⟨rfl,hb1⟩)
    have hb2:=hb1.mono hle
    refine⟨hb2,Rf.pl_quiet ?_⟩
    iterate 3 go_big_quiet_step (fail)
    refine wpQuiet_nil (Rf.pl_one ?_)
    go_wp2
    refine⟨(Below.refl _ _).alloc (Nat.le_trans hle hb1.size) _,Rf.pl_one ?_⟩
    go_wp2
    refine⟨eE (Nat.le_trans hle hb1.size) _ _,Rf.pl_quiet ?_⟩
    iterate 1 go_big_quiet_step (fail)
    exact wpQuiet_nil (Rf.pl_done ⟨_,z0,_,_,_,_,_,_,_,_,_,_,_,_,rfl,ho0.out,fl _ _ _,(hbd.trans hb2).alloc (Nat.le_trans hle hb1.size) _⟩)
   ·go_wp2
    refine⟨(Below.refl _ _).alloc hle _,Rf.pl_one ?_⟩
    go_wp2_with (refine(hR0 _ (hr1.later blw) (RdTs.later hr2 blw)).mono ?_;rintro e w1 ⟨rfl,hb1⟩)
    obtain⟨hc,hf⟩:=aB hb1
    refine⟨hb1.mono (by simp;omega),Rf.pl_quiet ?_⟩
    iterate 3 go_big_quiet_step (fail)
    refine wpQuiet_nil (Rf.pl_one ?_)
    go_wp2
    have hle2:W.heap.size<=wd.heap.size:=hle
    refine⟨bp hle2 _ _ _ _,Rf.pl_quiet ?_⟩
    have hT:im w1 wd.heap.size zTm:=by
     refine⟨?_,?_,?_,?_⟩<;>(rw[hb1.cell (by simp),World.cell?,heap_alloc_new];rfl)
    iterate 1 go_big_quiet_step (fail)
    exact wpQuiet_nil (Rf.pl_done ⟨_,z0,_,_,_,_,_,_,_,_,_,_,_,_,rfl,ho0.out,hT.set z0,((hbd.trans ((Below.refl _ _).alloc hle _)).trans (hb1.mono (by simp;omega))).trans (bp hle2 _ _ _ _)⟩)
  ·rintro a W1 ⟨B0,y0,u14,u15,u16,u17,u18,u19,u20,u21,u22,u13,u23,u24,rfl,hz1,tm0,hb1⟩
   have h0b:=ab h0 hb1
   have h1b:=ab h1 hb1
   have hb6b:=ab hb6 hb1
   have hb0b:=ab hb0 hb1
   have h4b:=Rd.later h4 hb1
   have h5b:=RdTs.later h5 hb1
   have q1_0b:=ab q1_0 hb1
   have q1_1b:=ab q1_1 hb1
   have q1_2b:=ab q1_2 hb1
   have q1_3b:=ab q1_3 hb1
   have q1_4b:=ab q1_4 hb1
   have q1_5b:=ab q1_5 hb1
   have q1_6b:=ab q1_6 hb1
   have Hb1:=Lib.hid hb1
   have Hz1:=Lib.hid hz1
   have Htm:=Lib.hid tm0
   clear hb1 hz1 h0 h1 hb6 hb0 h4 h5 hR0 ho0 tm0 q0_0 q0_1 q0_2 q0_3 q0_4 q0_5 q0_6 q1_0 q1_1 q1_2 q1_3 q1_4 q1_5 q1_6
   try simp only[]
   go_wp2
   refine Rf.p0 W1.heap.size ?R1 (.quiet [0,1,2,3,4,5,6,7] (.fork 8 12 (.quiet [9,10,11] (.one 12 (.one 13 (.quiet [14] (.done))))) (.one 8 (.quiet [9,10,11] (.one 13 (.quiet [14] (.done))))))) ?_ ?_
   case R1=>exact λa W'=>∃(B:Nat) (z:Tm) (u26 u27 u28 u29 u30 u31 u32 u33 u34 u25 u35 u36:Value),a={tmps:=#[.pointer (some ⟨b,0,none⟩),.agg #[.int .i64 k,.string s,.int .i64 t.k,.string t.x,.string t.l,.string t.y,.slice (some ⟨g0,e0,none⟩) 2 c],undef,.pointer (some ⟨w.heap.size,0,none⟩),.int .i64 0,.pointer (some ⟨B0,0,none⟩),.bool o0.isSome,.pointer (some ⟨B,0,none⟩),.bool o1.isSome,.pointer (some ⟨w.heap.size,6,none⟩),.slice (some ⟨g0,e0,none⟩) 2 c,.int .i64 2,.bool false,u13,u14,u15,u16,u17,u18,u19,u20,u21,u22,u23,u24,u25,u26,u27,u28,u29,u30,u31,u32,u33,u34,u35,u36,undef,undef,undef,undef,undef,undef,undef,undef,undef,undef,undef,undef,undef,undef,undef,undef,undef,undef,undef,undef,undef,undef,undef,undef,undef,undef,undef,undef,undef,undef,undef,undef,undef,undef,undef,undef,undef,undef,undef],defers:=[]}/\(∀u,o1=some u->z=u)/\im W' B z/\Below W1.heap.size W1 W'
   ·intro wd hbd hwz
    have L_h0:=cellL h0b hbd
    have L_h1:=cellL h1b hbd
    have L_hb6:=cellL hb6b hbd
    have L_q1_0:=cellL q1_0b hbd
    have L_q1_1:=cellL q1_1b hbd
    have L_q1_2:=cellL q1_2b hbd
    have L_q1_3:=cellL q1_3b hbd
    have L_q1_4:=cellL q1_4b hbd
    have L_q1_5:=cellL q1_5b hbd
    have L_q1_6:=cellL q1_6b hbd
    have hr1:=(h4b).later hbd
    have hr2:=RdTs.later h5b hbd
    have Hz:=Lib.hid hwz
    have hle:W1.heap.size<=wd.heap.size:=hbd.size
    clear h0b h1b hb6b hb0b q1_0b q1_1b q1_2b q1_3b q1_4b q1_5b q1_6b hwz
    refine Rf.pl_quiet ?_
    iterate 8 go_big_quiet_step (fail)
    refine wpQuiet_nil (Rf.pl_fork ?_ ?_)
    ·go_wp2_with (refine(hR1 _ hr1 hr2).mono ?_;rintro e w1 ⟨rfl,hb1⟩)
     have hb2:=hb1.mono hle
     refine⟨hb2,Rf.pl_quiet ?_⟩
     iterate 3 go_big_quiet_step (fail)
     refine wpQuiet_nil (Rf.pl_one ?_)
     go_wp2
     refine⟨(Below.refl _ _).alloc (Nat.le_trans hle hb1.size) _,Rf.pl_one ?_⟩
     go_wp2
     refine⟨eE (Nat.le_trans hle hb1.size) _ _,Rf.pl_quiet ?_⟩
     iterate 1 go_big_quiet_step (fail)
     exact wpQuiet_nil (Rf.pl_done ⟨_,z1,_,_,_,_,_,_,_,_,_,_,_,_,rfl,ho1.out,fl _ _ _,(hbd.trans hb2).alloc (Nat.le_trans hle hb1.size) _⟩)
    ·go_wp2
     refine⟨(Below.refl _ _).alloc hle _,Rf.pl_one ?_⟩
     go_wp2_with (refine(hR1 _ (hr1.later blw) (RdTs.later hr2 blw)).mono ?_;rintro e w1 ⟨rfl,hb1⟩)
     obtain⟨hc,hf⟩:=aB hb1
     refine⟨hb1.mono (by simp;omega),Rf.pl_quiet ?_⟩
     iterate 3 go_big_quiet_step (fail)
     refine wpQuiet_nil (Rf.pl_one ?_)
     go_wp2
     have hle2:W1.heap.size<=wd.heap.size:=hle
     refine⟨bp hle2 _ _ _ _,Rf.pl_quiet ?_⟩
     have hT:im w1 wd.heap.size zTm:=by
      refine⟨?_,?_,?_,?_⟩<;>(rw[hb1.cell (by simp),World.cell?,heap_alloc_new];rfl)
     iterate 1 go_big_quiet_step (fail)
     exact wpQuiet_nil (Rf.pl_done ⟨_,z1,_,_,_,_,_,_,_,_,_,_,_,_,rfl,ho1.out,hT.set z1,((hbd.trans ((Below.refl _ _).alloc hle _)).trans (hb1.mono (by simp;omega))).trans (bp hle2 _ _ _ _)⟩)
   ·rintro a W2 ⟨B1,y1,u26,u27,u28,u29,u30,u31,u32,u33,u34,u25,u35,u36,rfl,hz2,tm1,hb2⟩
    obtain⟨v0,v1,v2,v3⟩:=Htm.out.on hb2
    obtain⟨w0,w1,w2,w3⟩:=tm1
    have hb0c:=ab hb0b hb2
    have HB:=Lib.hid (aa (aa HB0.out Hb1.out) hb2)
    have Hz2:=Lib.hid hz2
    clear hb2 hz2 h0b h1b hb6b hb0b h4b h5b hR1 ho1 q1_0b q1_1b q1_2b q1_3b q1_4b q1_5b q1_6b Htm
    cases o0 with
    | none =>
     simp only[Option.isSome_none]
     go_wp2
     go_ret
     exact⟨by rw[←Hv.out];rfl,HB.out⟩
    | some x =>
     obtain rfl:=Hz1.out x rfl
     cases o1 with
     | none =>
      simp only[Option.isSome_none,Option.isSome_some]
      go_wp2
      go_ret
      exact⟨by rw[←Hv.out];rfl,HB.out⟩
     | some x' =>
      obtain rfl:=Hz2.out x' rfl
      have hs0:=hz0 y0 rfl
      have hs1:=hz1' y1 rfl
      clear hz0 hz1'
      simp only[Option.isSome_some]
      have hvk:kN k [some y0,some y1]=zA k y0 y1:=rfl
      rw[hvk]at Hv
      by_cases k6:k=6
      ·subst k6
       go_wp2_with fail
       refine(ue _ _ _ _ _ _ _ _ _ hs0 hs1).mono ?_
       rintro e w4 ⟨rfl,hb4⟩
       go_wp2
       go_ret
       exact⟨by rw[←Hv.out];rfl,aa HB.out hb4⟩
      have k6':(k == 6)=false:=by simpa using k6
      by_cases k7:k=7
      ·subst k7
       go_wp2_with fail
       refine(ue _ _ _ _ _ _ _ _ _ hs0 hs1).mono ?_
       rintro e w4 ⟨rfl,hb4⟩
       go_wp2_with fail
       refine(jy _ _).mono ?_
       rintro e w5 ⟨rfl,rfl⟩
       go_wp2
       go_ret
       exact⟨by rw[←Hv.out];rfl,aa HB.out hb4⟩
      have k7':(k == 7)=false:=by simpa using k7
      by_cases k8:k=8
      ·subst k8
       go_wp2_with fail
       refine(kI _ _ _ _ _ _ _ _ _ hs0 hs1).mono ?_
       rintro e w4 ⟨rfl,hb4⟩
       go_wp2
       go_ret
       exact⟨by rw[←Hv.out];rfl,aa HB.out hb4⟩
      have k8':(k == 8)=false:=by simpa using k8
      by_cases k10:k=10
      ·subst k10
       go_wp2_with fail
       refine(kI _ _ _ _ _ _ _ _ _ hs1 hs0).mono ?_
       rintro e w4 ⟨rfl,hb4⟩
       go_wp2
       go_ret
       exact⟨by rw[←Hv.out];rfl,aa HB.out hb4⟩
      have k10':(k == 10)=false:=by simpa using k10
      by_cases k9:k=9
      ·subst k9
       go_wp2_with fail
       refine(kI _ _ _ _ _ _ _ _ _ hs1 hs0).mono ?_
       rintro e w4 ⟨rfl,hb4⟩
       go_wp2_with fail
       refine(jy _ _).mono ?_
       rintro e w5 ⟨rfl,rfl⟩
       go_wp2
       go_ret
       exact⟨by rw[←Hv.out];rfl,aa HB.out hb4⟩
      have k9':(k == 9)=false:=by simpa using k9
      have hvv:v=dU (dW y0 y1):=by rw[←Hv.out];unfold zA;rw[k6',k7',k8',k10',k9'];rfl
      have Hvv:=Lib.hid hvv
      clear hvv
      go_wp2_with fail
      refine(kI _ _ _ _ _ _ _ _ _ hs0 hs1).mono ?_
      rintro e w4 ⟨rfl,hb4⟩
      go_wp2_with fail
      refine(jy _ _).mono ?_
      rintro e w5 ⟨rfl,rfl⟩
      go_wp2
      go_ret
      exact⟨by rw[Hvv.out];rfl,aa HB.out hb4⟩
end Go.Proofs.YtjldjeenfnahoaaGreatDoor
