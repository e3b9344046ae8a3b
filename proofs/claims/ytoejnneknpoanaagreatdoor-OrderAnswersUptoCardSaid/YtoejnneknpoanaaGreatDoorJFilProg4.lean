/- The program's package filter, walked: order, Same, Less. The -/
import Derived.Test.YtoejnneknpoanaaGreatDoorJFilProg2
set_option maxHeartbeats 8000000
namespace Go.Proofs.YtoejnneknpoanaaGreatDoor
open Go Go.RowKit Fm
def mZ (l:List Int):Int:=(l.find? (λx => !(x == 0))).getD 0
theorem Ez (l:List Int) (A:Option Addr) (c:Nat) (w:World) (hl:l.length<=1000) (hr:Rd w A (l.map (Value.int .i64))) :
  Calls Tryz.prog 109 #[.slice A l.length c] w λe w'=>e=.returned (.int .i64 (mZ l))/\Below w.heap.size w w':=by
 go_enter Tryz.func109,Tryz.ntmps109
 go_wp2
 go_loop [8] (λi=>∃k:Nat,k<=l.length/\i=.int .i64 k/\Hid (mZ l=mZ (l.drop k))) (λi=>l.length-(intOf i).toNat)
 case atStart=>exact⟨0,by omega,rfl,rfl⟩
 case round =>
  obtain⟨k,hk,rfl,H⟩:=hrel
  by_cases hlt:k<l.length
  ·obtain⟨x,hx⟩:∃x,l[k]?=some x:=⟨_,List.getElem?_eq_getElem hlt⟩
   obtain⟨g,o,rfl,hcx⟩:=hr.at_ (j:=k) (u:=.int .i64 x) (by simp[hx])
   have hd:l.drop k=x::l.drop (k+1):=by
    rw[List.drop_eq_getElem_cons hlt]
    rw[List.getElem?_eq_getElem hlt]at hx
    injection hx with hx;rw[hx]
   have H2:Hid (mZ l=if x == 0 then mZ (l.drop (k+1)) else x):=by
    show mZ l=_
    rw[H.out,hd]
    unfold mZ
    rw[List.find?_cons]
    cases hx0:(x == 0)<;>simp
   clear hx hd H hr
   cases hx0:(x == 0)
   ·rw[hx0]at H2
    go_wp2
    go_ret
    exact⟨by rw[H2.out];rfl,Below.refl _ _⟩
   ·rw[hx0]at H2
    go_wp2
    go_round
    case rel=>exact⟨k+1,by omega,by go_num,H2⟩
    case measure=>simp[intOf];omega
  ·have H2:Hid (mZ l=0):=by
    show mZ l=_
    rw[H.out,List.drop_eq_nil_of_le (by omega)];rfl
   clear H
   go_wp2
   go_ret
   exact⟨by rw[H2.out];rfl,Below.refl _ _⟩
theorem Cm (a b:Int):mZ [a,b]=if a=0 then b else a:=by
 unfold mZ
 by_cases h:a=0
 ·subst h
  by_cases h2:b=0
  ·subst h2;simp
  ·simp[h2]
 ·simp[h]
theorem D5 (a b:List UInt8) : -1<=bp a b/\bp a b<=1:=by
 unfold bp;split
 ·omega
 ·split<;>omega
theorem oN (a b:Int) : -1<=Lib.compareInt a b/\Lib.compareInt a b<=1:=by
 unfold Lib.compareInt;split
 ·omega
 ·split<;>omega
theorem aE {w W:World} {cs1 cs2:Array Value} {t1 t2:TypeId} (hb:Below ((w.alloc (.cells cs1 t1)).alloc (.cells cs2 t2)).heap.size ((w.alloc (.cells cs1 t1)).alloc (.cells cs2 t2)) W) (j:Nat) (v:Value) (h:cs1[j]?=some v) (d:Nat) (os:Array Obj) :
  (Sort.grow (redrawn W d) os).cell? ⟨w.heap.size,j,none⟩=some v:=by
 refine cell_regrown ?_ d os
 rw[hb.cell (p:=⟨w.heap.size,j,none⟩) (by simp;omega),World.cell?,aj]
 exact h
theorem aD {w W:World} {cs1 cs2:Array Value} {t1 t2:TypeId} (hb:Below ((w.alloc (.cells cs1 t1)).alloc (.cells cs2 t2)).heap.size ((w.alloc (.cells cs1 t1)).alloc (.cells cs2 t2)) W) (j:Nat) (v:Value) (h:cs2[j]?=some v) (d:Nat) (os:Array Obj) :
  (Sort.grow (redrawn W d) os).cell? ⟨w.heap.size+1,j,none⟩=some v:=by
 refine cell_regrown ?_ d os
 rw[hb.cell (p:=⟨w.heap.size+1,j,none⟩) (by simp),World.cell?,ah]
 exact h
theorem Calls.quiet_tr {P:Program} {f:FuncId} {args:Array Value} {w:World} {d:Nat} {os:Array Obj} {v:Value}
  (h:Calls P f args (Sort.grow (redrawn w d) os) λe w'=>e=.returned v/\Sort.grow (redrawn w d) os=w'):Calls P f args (Sort.grow (redrawn w d) os) λe w''=>e=.returned v/\∃p:Regrown,w''=Sort.grow (redrawn w p.d) p.os:=
 h.mono λ_ _ ⟨he,hb⟩=>⟨he,⟨d,os⟩,hb.symm⟩
set_option maxRecDepth 100000 in
theorem te (k1 k2:Int) (x1 l1 y1 x2 l2 y2:ByteArray) (w:World) (hs1:x1.size<=281474976710656) (hs2:x2.size<=281474976710656) :
  Calls Tryz.prog 191 #[.agg #[.int .i64 k1,.string x1,.string l1,.string y1],.agg #[.int .i64 k2,.string x2,.string l2,.string y2]] w λe w' =>
   e=.returned (.tuple #[.int .i64 (lT ⟨k1,x1,l1,y1⟩ ⟨k2,x2,l2,y2⟩),.bool (sr ⟨k1,x1,l1,y1⟩ ⟨k2,x2,l2,y2⟩)])/\Below w.heap.size w w':=by
 have hN1:=λW=>kD k1 x1 l1 y1 W hs1
 have hN2:=λW=>kD k2 x2 l2 y2 W hs2
 have hS1:=λW=>qS k1 x1 l1 y1 W
 have hS2:=λW=>qS k2 x2 l2 y2 W
 have hP1:=λW=>td k1 x1 l1 y1 W
 have hP2:=λW=>td k2 x2 l2 y2 W
 have hC:=λW=>kG x1 x2 W
 obtain⟨D1,hD1⟩:∃D:ByteArray,(⟨(bz ⟨k1,x1,l1,y1⟩).toArray⟩:ByteArray)=D:=⟨_,rfl⟩
 obtain⟨D2,hD2⟩:∃D:ByteArray,(⟨(bz ⟨k2,x2,l2,y2⟩).toArray⟩:ByteArray)=D:=⟨_,rfl⟩
 simp only[eJ,hD1]at hN1
 simp only[eJ,hD2]at hN2
 have hz1:((bz ⟨k1,x1,l1,y1⟩).length:Int)=D1.size:=by rw[←hD1];show _=((bz ⟨k1,x1,l1,y1⟩).toArray.size:Int);simp
 have hz2:((bz ⟨k2,x2,l2,y2⟩).length:Int)=D2.size:=by rw[←hD2];show _=((bz ⟨k2,x2,l2,y2⟩).toArray.size:Int);simp
 have hl1:D1.toList=bz ⟨k1,x1,l1,y1⟩:=by rw[←hD1,toList_mk]
 have hl2:D2.toList=bz ⟨k2,x2,l2,y2⟩:=by rw[←hD2,toList_mk]
 have hCI:=λW=>gM D1.size D2.size W
 have hCS:=λW=>kG D1 D2 W
 rw[hl1,hl2]at hCS
 rw[←hz1,←hz2]at hCI
 have hc:=oN (bz ⟨k1,x1,l1,y1⟩).length (bz ⟨k2,x2,l2,y2⟩).length
 have hd:=D5 (bz ⟨k1,x1,l1,y1⟩) (bz ⟨k2,x2,l2,y2⟩)
 unfold lT sr jm
 generalize Lib.compareInt (bz ⟨k1,x1,l1,y1⟩).length (bz ⟨k2,x2,l2,y2⟩).length=c at *
 generalize bp (bz ⟨k1,x1,l1,y1⟩) (bz ⟨k2,x2,l2,y2⟩)=d at *
 rw[hz1,hz2]at hCI
 clear hz1 hz2 hl1 hl2 hD1 hD2
 have hO:=λg W c2 h=>Ez [c,d] (some ⟨g,0,none⟩) c2 W (by simp) h
 simp only[Cm]at hO
 have hob : -1<=(if c=0 then d else c)/\(if c=0 then d else c)<=1:=by split<;>omega
 generalize (if c=0 then d else c)=n at hO hob ⊢
 obtain⟨hob1,hob2⟩:=hob
 have hnn:IntKind.i64.wrap (-n) = -n:=IntWalk.i64_in _ (by omega)
 have hcmp:bp (⟨k1,x1,l1,y1⟩:Tm).x.toList (⟨k2,x2,l2,y2⟩:Tm).x.toList=bp x1.toList x2.toList:=rfl
 rw[hcmp]
 clear hcmp
 generalize bp x1.toList x2.toList=t at *
 generalize df ⟨k1,x1,l1,y1⟩=m1 at *
 generalize df ⟨k2,x2,l2,y2⟩=m2 at *
 generalize bU ⟨k1,x1,l1,y1⟩=i1 at *
 generalize bU ⟨k2,x2,l2,y2⟩=i2 at *
 generalize eQ ⟨k1,x1,l1,y1⟩=q1 at *
 generalize eQ ⟨k2,x2,l2,y2⟩=q2 at *
 generalize bL ⟨k1,x1,l1,y1⟩=b1 at *
 generalize bL ⟨k2,x2,l2,y2⟩=b2 at *
 generalize bf ⟨k1,x1,l1,y1⟩=p1 at *
 generalize bf ⟨k2,x2,l2,y2⟩=p2 at *
 clear hs1 hs2
 go_enter Tryz.func191,Tryz.ntmps191
 go_wp2_with fail
 refine(hN1 _).mono ?_
 rintro e w1 ⟨rfl,hb1⟩
 obtain⟨hc1,hf1⟩:=aC hb1
 go_wp2_with fail
 refine(hN2 _).mono ?_
 rintro e w2 ⟨rfl,hb2⟩
 have hb2':=aa hb1 hb2
 clear hc1 hf1 hb1 hb2
 obtain⟨hc2,hf2⟩:=aC hb2'
 go_wp2_with fail
 refine(hS1 _).mono ?_
 rintro e w3 ⟨rfl,hb3⟩
 have hb3':=aa hb2' hb3
 clear hc2 hf2 hb2' hb3
 obtain⟨hc3,hf3⟩:=aC hb3'
 go_wp2_with fail
 refine(hS2 _).mono ?_
 rintro e w4 ⟨rfl,hb4⟩
 have hb4':=aa hb3' hb4
 clear hc3 hf3 hb3' hb4
 cases i1
 ·cases b1
  ·have g01:=λd os=>aE hb4' 0 _ rfl d os
   have g02:=λd os=>aE hb4' 1 _ rfl d os
   have g03:=λd os=>aE hb4' 2 _ rfl d os
   have g04:=λd os=>aE hb4' 3 _ rfl d os
   have g11:=λd os=>aD hb4' 0 _ rfl d os
   have g12:=λd os=>aD hb4' 1 _ rfl d os
   have g13:=λd os=>aD hb4' 2 _ rfl d os
   have g14:=λd os=>aD hb4' 3 _ rfl d os
   cases p1
   all_goals
    go_wp2
    refine wrq ?_;(repeat (any_goals (go_big_quiet_step ((first|(go_at_call 107;with_reducible exact Calls.quiet_tr (hC _))|(go_at_call 236;with_reducible exact Calls.regrown_of (hP1 _))|(go_at_call 236;with_reducible exact Calls.regrown_of (hP2 _)))))));all_goals (refine wqn ?_;intro d9 os9)
    go_wp2
    go_ret2
    exact⟨by simp,blw⟩
  ·cases b2
   ·have g01:=λd os=>aE hb4' 0 _ rfl d os
    have g02:=λd os=>aE hb4' 1 _ rfl d os
    have g03:=λd os=>aE hb4' 2 _ rfl d os
    have g04:=λd os=>aE hb4' 3 _ rfl d os
    have g11:=λd os=>aD hb4' 0 _ rfl d os
    have g12:=λd os=>aD hb4' 1 _ rfl d os
    have g13:=λd os=>aD hb4' 2 _ rfl d os
    have g14:=λd os=>aD hb4' 3 _ rfl d os
    cases p1
    all_goals
     go_wp2
     refine wrq ?_;(repeat (any_goals (go_big_quiet_step ((first|(go_at_call 107;with_reducible exact Calls.quiet_tr (hC _))|(go_at_call 236;with_reducible exact Calls.regrown_of (hP1 _))|(go_at_call 236;with_reducible exact Calls.regrown_of (hP2 _)))))));all_goals (refine wqn ?_;intro d9 os9)
     go_wp2
     go_ret2
     exact⟨by simp,blw⟩
   ·go_wp2_with fail
    refine(cV _ _).mono ?_
    rintro e w8 ⟨rfl,rfl⟩
    go_wp2_with fail
    refine(cV _ _).mono ?_
    rintro e w9 ⟨rfl,rfl⟩
    have hq:wrap64 (wt q1-wt q2)=wt q1-wt q2:=IntWalk.wrap64_in _ (by cases q1<;>cases q2<;>decide)
    go_wp2
    go_ret2
    exact⟨by simp,blw⟩
 ·cases i2
  ·cases b1
   ·have g01:=λd os=>aE hb4' 0 _ rfl d os
    have g02:=λd os=>aE hb4' 1 _ rfl d os
    have g03:=λd os=>aE hb4' 2 _ rfl d os
    have g04:=λd os=>aE hb4' 3 _ rfl d os
    have g11:=λd os=>aD hb4' 0 _ rfl d os
    have g12:=λd os=>aD hb4' 1 _ rfl d os
    have g13:=λd os=>aD hb4' 2 _ rfl d os
    have g14:=λd os=>aD hb4' 3 _ rfl d os
    cases p1
    all_goals
     go_wp2
     refine wrq ?_;(repeat (any_goals (go_big_quiet_step ((first|(go_at_call 107;with_reducible exact Calls.quiet_tr (hC _))|(go_at_call 236;with_reducible exact Calls.regrown_of (hP1 _))|(go_at_call 236;with_reducible exact Calls.regrown_of (hP2 _)))))));all_goals (refine wqn ?_;intro d9 os9)
     go_wp2
     go_ret2
     exact⟨by simp,blw⟩
   ·cases b2
    ·have g01:=λd os=>aE hb4' 0 _ rfl d os
     have g02:=λd os=>aE hb4' 1 _ rfl d os
     have g03:=λd os=>aE hb4' 2 _ rfl d os
     have g04:=λd os=>aE hb4' 3 _ rfl d os
     have g11:=λd os=>aD hb4' 0 _ rfl d os
     have g12:=λd os=>aD hb4' 1 _ rfl d os
     have g13:=λd os=>aD hb4' 2 _ rfl d os
     have g14:=λd os=>aD hb4' 3 _ rfl d os
     cases p1
     all_goals
      go_wp2
      refine wrq ?_;(repeat (any_goals (go_big_quiet_step ((first|(go_at_call 107;with_reducible exact Calls.quiet_tr (hC _))|(go_at_call 236;with_reducible exact Calls.regrown_of (hP1 _))|(go_at_call 236;with_reducible exact Calls.regrown_of (hP2 _)))))));all_goals (refine wqn ?_;intro d9 os9)
      go_wp2
      go_ret2
      exact⟨by simp,blw⟩
    ·go_wp2_with fail
     refine(cV _ _).mono ?_
     rintro e w8 ⟨rfl,rfl⟩
     go_wp2_with fail
     refine(cV _ _).mono ?_
     rintro e w9 ⟨rfl,rfl⟩
     have hq:wrap64 (wt q1-wt q2)=wt q1-wt q2:=IntWalk.wrap64_in _ (by cases q1<;>cases q2<;>decide)
     go_wp2
     go_ret2
     exact⟨by simp,blw⟩
  ·go_wp2_with fail
   refine(hCI _).mono ?_
   rintro e w5 ⟨rfl,rfl⟩
   go_wp2_with fail
   refine(hCS _).mono ?_
   rintro e w6 ⟨rfl,rfl⟩
   go_wp2_with fail
   refine(hO _ _ _ (Rd.of_block (heap_alloc_new _ _) rfl)).mono ?_
   rintro e w7 ⟨rfl,hb7⟩
   have hb7':=aa (gJ hb4') hb7
   clear hb4' hb7
   cases m1
   ·cases m2
    ·go_wp2
     go_ret2
     exact⟨by simp,blw⟩
    ·go_wp2_with fail
     refine(cV _ _).mono ?_
     rintro e w8 ⟨rfl,rfl⟩
     go_wp2_with fail
     refine(cV _ _).mono ?_
     rintro e w9 ⟨rfl,rfl⟩
     go_wp2
     go_ret2
     exact⟨by simp[wt]<;>exact IntWalk.wrap64_in _ (by decide),blw⟩
   ·cases m2
    ·go_wp2_with fail
     refine(cV _ _).mono ?_
     rintro e w8 ⟨rfl,rfl⟩
     go_wp2_with fail
     refine(cV _ _).mono ?_
     rintro e w9 ⟨rfl,rfl⟩
     go_wp2
     go_ret2
     exact⟨by simp[wt]<;>exact IntWalk.wrap64_in _ (by decide),blw⟩
    ·go_wp2
     go_ret2
     exact⟨by simp,blw⟩
theorem wh (k1 k2:Int) (x1 l1 y1 x2 l2 y2:ByteArray) (w:World) (hs1:x1.size<=281474976710656) (hs2:x2.size<=281474976710656) :
  Calls Tryz.prog 155 #[.agg #[.int .i64 k1,.string x1,.string l1,.string y1],.agg #[.int .i64 k2,.string x2,.string l2,.string y2]] w λe w' =>
   e=.returned (.int .i64 (ie ⟨k1,x1,l1,y1⟩ ⟨k2,x2,l2,y2⟩))/\Below w.heap.size w w':=by
 have hO:=λW=>te k1 k2 x1 l1 y1 x2 l2 y2 W hs1 hs2
 unfold ie
 clear hs1 hs2
 generalize lT ⟨k1,x1,l1,y1⟩ ⟨k2,x2,l2,y2⟩=n at *
 generalize sr ⟨k1,x1,l1,y1⟩ ⟨k2,x2,l2,y2⟩=q at *
 obtain⟨v,hv⟩:∃v,(if bm ⟨k1,x1,l1,y1⟩ ⟨k2,x2,l2,y2⟩ then (1:Int) else if !je ⟨k1,x1,l1,y1⟩ || !je ⟨k2,x2,l2,y2⟩ then 2 else 3)=v:=⟨_,rfl⟩
 rw[hv]
 have Hv:=Lib.hid hv
 clear hv
 go_enter Tryz.func155,Tryz.ntmps155
 go_wp2_with fail
 refine(hO _).mono ?_
 rintro e w1 ⟨rfl,hb1⟩
 obtain⟨hc1,hf1⟩:=aC hb1
 cases q
 ·go_wp2_with (go_at_call 158;refine(nC _ _ _ _ _).mono ?_;rintro e w2 ⟨rfl,hb2⟩;have hb3:=aa hb1 hb2;clear hb1 hb2;have hb1:=hb3;clear hb3;obtain⟨hc2,hf2⟩:=aC hb1)
  all_goals
   go_ret
   refine⟨?_,blw⟩
   rw[←Hv.out]
   simp_all[bm,je]<;>(try split)<;>omega
 ·go_wp2_with fail
  refine(dR _ _).mono ?_
  rintro e w2 ⟨rfl,rfl⟩
  go_wp2
  go_ret
  exact⟨by simp,blw⟩
theorem mi (k1 k2:Int) (x1 l1 y1 x2 l2 y2:ByteArray) (w:World) (hs1:x1.size<=281474976710656) (hs2:x2.size<=281474976710656) :
  Calls Tryz.prog 156 #[.agg #[.int .i64 k1,.string x1,.string l1,.string y1],.agg #[.int .i64 k2,.string x2,.string l2,.string y2]] w λe w' =>
   e=.returned (.int .i64 (em ⟨k1,x1,l1,y1⟩ ⟨k2,x2,l2,y2⟩))/\Below w.heap.size w w':=by
 have hO:=λW=>te k1 k2 x1 l1 y1 x2 l2 y2 W hs1 hs2
 unfold em
 clear hs1 hs2
 generalize lT ⟨k1,x1,l1,y1⟩ ⟨k2,x2,l2,y2⟩=n at *
 generalize sr ⟨k1,x1,l1,y1⟩ ⟨k2,x2,l2,y2⟩=q at *
 go_enter Tryz.func156,Tryz.ntmps156
 go_wp2_with fail
 refine(hO _).mono ?_
 rintro e w1 ⟨rfl,hb1⟩
 cases q
 ·go_wp2
  go_ret
  exact⟨by simp,blw⟩
 ·go_wp2_with fail
  refine(dR _ _).mono ?_
  rintro e w2 ⟨rfl,rfl⟩
  go_wp2
  go_ret
  exact⟨by simp,blw⟩
theorem uN (t s:Int) (p:Addr) (w:World) (hp:w.cell? p=some (.int .i64 s)) :
  Calls Tryz.prog 230 #[.int .i64 t,.pointer (some p)] w λe w'=>e=.returned (.bool (t == el s))/\w=w':=by
 have hn:=λW=>kE s W
 generalize el s=n at *
 go_enter Tryz.func230,Tryz.ntmps230
 go_wp2_with (go_at_call 152;refine(hn _).mono ?_;rintro e w1 ⟨rfl,rfl⟩)
 go_ret
 exact⟨rfl,rfl⟩
theorem uM (t s:Int) (p q:Addr) (w:World) (hp:w.cell? p=some (.int .i64 s)) (hq:w.cell? q=some (.func (.func 230) #[] #[.pointer (some p)])) :
  Calls Tryz.prog 233 #[.int .i64 t,.pointer (some q)] w λe w'=>e=.returned (.bool (!(t == el s)))/\w=w':=by
 have hn:=λW h=>uN t s p W h
 generalize (t == el s)=n at *
 go_enter Tryz.func233,Tryz.ntmps233
 go_wp2_with (go_at_call 230;refine(hn _ ?_).mono ?_;exact hp;rintro e w1 ⟨rfl,rfl⟩)
 go_ret
 exact⟨rfl,rfl⟩
theorem AR (l:List Int) (x:Int) (A:Option Addr) (c:Nat) (w:World) (hl:l.length<=281474976710656) (hr:Rd w A (l.map (Value.int .i64))) :
  Calls Tryz.prog 271 #[.slice A l.length c,.int .i64 x] w λe w'=>∃i:Int,e=.returned (.int .i64 i)/\pY i (ia l x)/\w=w':=by
 go_enter Tryz.func271,Tryz.ntmps271
 go_wp2
 go_loop [8] (λi=>∃k:Nat,k<=l.length/\i=.int .i64 k/\Hid (ia l x=ia (l.drop k) x)) (λi=>l.length-(intOf i).toNat)
 case atStart=>exact⟨0,by omega,rfl,rfl⟩
 case round =>
  obtain⟨k,hk,rfl,H⟩:=hrel
  by_cases hlt:k<l.length
  ·obtain⟨y,hx⟩:∃x,l[k]?=some x:=⟨_,List.getElem?_eq_getElem hlt⟩
   obtain⟨g,o,rfl,hcx⟩:=hr.at_ (j:=k) (u:=.int .i64 y) (by simp[hx])
   have hd:l.drop k=y::l.drop (k+1):=by
    rw[List.drop_eq_getElem_cons hlt]
    rw[List.getElem?_eq_getElem hlt]at hx
    injection hx with hx;rw[hx]
   have H2:Hid (ia l x=((x == y) || ia (l.drop (k+1)) x)):=by
    show ia l x=_
    rw[H.out,hd,ia,List.contains_cons];rfl
   clear hx hd H hr
   cases hx0:(x == y)
   ·rw[hx0]at H2
    go_wp2
    go_round
    case rel=>exact⟨k+1,by omega,by go_num,by show _=_;rw[H2.out];rfl⟩
    case measure=>simp[intOf];omega
   ·rw[hx0]at H2
    go_wp2
    go_ret
    exact⟨k,rfl,by show decide _=_;rw[H2.out];simp,rfl⟩
  ·have H2:Hid (ia l x=false):=by
    show ia l x=_
    rw[H.out,List.drop_eq_nil_of_le (by omega)];rfl
   clear H
   go_wp2
   go_ret
   exact⟨-1,rfl,by show decide _=_;rw[H2.out];rfl,rfl⟩
theorem AS (l:List Int) (x:Int) (A:Option Addr) (c:Nat) (w:World) (hl:l.length<=281474976710656) (hr:Rd w A (l.map (Value.int .i64))) :
  Calls Tryz.prog 231 #[.slice A l.length c,.int .i64 x] w λe w'=>e=.returned (.bool (ia l x))/\w=w':=by
 have hi:=λW h=>AR l x A c W hl h
 go_enter Tryz.func231,Tryz.ntmps231
 go_wp2_with (go_at_call 271;refine(hi _ ?_).mono ?_;exact hr;rintro e w1 ⟨i,rfl,hd,rfl⟩;have Hd:=Lib.hid hd;clear hd)
 go_ret
 exact⟨by have:=Hd.out;unfold pY at this;rw[←this];rfl,rfl⟩
theorem En (l:List Int) (s:Int) (p q:Addr) (A:Option Addr) (c:Nat) (w:World) (hl:l.length<=281474976710656) (hr:Rd w A (l.map (Value.int .i64)))
  (hp:w.cell? p=some (.int .i64 s)) (hq:w.cell? q=some (.func (.func 230) #[] #[.pointer (some p)])) :
  Calls Tryz.prog 272 #[.slice A l.length c,.func (.func 233) #[] #[.pointer (some q)]] w λe w'=>∃i:Int,e=.returned (.int .i64 i)/\pY i (j5 l s)/\w=w':=by
 go_enter Tryz.func272,Tryz.ntmps272
 go_wp2
 go_loop [8] (λi=>∃k:Nat,k<=l.length/\i=.int .i64 k/\Hid (j5 l s=j5 (l.drop k) s)) (λi=>l.length-(intOf i).toNat)
 case atStart=>exact⟨0,by omega,rfl,rfl⟩
 case round =>
  obtain⟨k,hk,rfl,H⟩:=hrel
  by_cases hlt:k<l.length
  ·obtain⟨y,hx⟩:∃x,l[k]?=some x:=⟨_,List.getElem?_eq_getElem hlt⟩
   obtain⟨g,o,rfl,hcx⟩:=hr.at_ (j:=k) (u:=.int .i64 y) (by simp[hx])
   have hd:l.drop k=y::l.drop (k+1):=by
    rw[List.drop_eq_getElem_cons hlt]
    rw[List.getElem?_eq_getElem hlt]at hx
    injection hx with hx;rw[hx]
   have hc:=λW h1 h2=>uM y s p q W h1 h2
   have H2:Hid (j5 l s=(!(y == el s) || j5 (l.drop (k+1)) s)):=by
    show _=_
    rw[H.out,hd,j5,List.any_cons];rfl
   clear hx hd H hr
   generalize hn:(!(y == el s))=n at *
   clear hn
   cases n
   ·go_wp2_with (go_at_call 233;refine(hc _ ?_ ?_).mono ?_;exact hp;exact hq;rintro e w1 ⟨rfl,rfl⟩)
    go_round
    case rel=>exact⟨k+1,by omega,by go_num,by show _=_;rw[H2.out];rfl⟩
    case measure=>simp[intOf];omega
   ·go_wp2_with (go_at_call 233;refine(hc _ ?_ ?_).mono ?_;exact hp;exact hq;rintro e w1 ⟨rfl,rfl⟩)
    go_ret
    exact⟨k,rfl,by show decide _=_;rw[H2.out];simp,rfl⟩
  ·have H2:Hid (j5 l s=false):=by
    show _=_
    rw[H.out,List.drop_eq_nil_of_le (by omega)];rfl
   clear H
   go_wp2
   go_ret
   exact⟨-1,rfl,by show decide _=_;rw[H2.out];rfl,rfl⟩
theorem Ep (l:List Int) (s:Int) (p q:Addr) (A:Option Addr) (c:Nat) (w:World) (hl:l.length<=281474976710656) (hr:Rd w A (l.map (Value.int .i64)))
  (hp:w.cell? p=some (.int .i64 s)) (hq:w.cell? q=some (.func (.func 230) #[] #[.pointer (some p)])) :
  Calls Tryz.prog 232 #[.slice A l.length c,.func (.func 233) #[] #[.pointer (some q)]] w λe w'=>e=.returned (.bool (j5 l s))/\w=w':=by
 have hi:=λW h h1 h2=>En l s p q A c W hl h h1 h2
 go_enter Tryz.func232,Tryz.ntmps232
 go_wp2_with (go_at_call 272;refine(hi _ ?_ ?_ ?_).mono ?_;exact hr;exact hp;exact hq;rintro e w1 ⟨i,rfl,hd,rfl⟩;have Hd:=Lib.hid hd;clear hd)
 go_ret
 exact⟨by have:=Hd.out;unfold pY at this;rw[←this];rfl,rfl⟩
theorem pR (l:List Int) (s:Int) (A:Option Addr) (c:Nat) (w:World) (hl:l.length<=281474976710656) (hr:Rd w A (l.map (Value.int .i64))) :
  Calls Tryz.prog 190 #[.int .i64 s,.slice A l.length c] w λe w'=>e=.returned (.int .i64 (eO s l))/\Below w.heap.size w w':=by
 have h1:=λW h=>AS l s A c W hl h
 have h2:=λp q W h a b=>Ep l s p q A c W hl h a b
 have h3:=λW=>kE s W
 unfold eO
 generalize ia l s=b1 at *
 generalize j5 l s=b2 at *
 generalize el s=n at *
 go_enter Tryz.func190,Tryz.ntmps190
 go_wp2_with fail
 have hB:Below w.heap.size w ((w.alloc (.cells #[.int .i64 s] 104)).alloc (.cells #[.func (.func 230) #[] #[.pointer (some ⟨w.heap.size,0,none⟩)]] 261)):=((Below.refl _ _).alloc (Nat.le_refl _) _).alloc (by simp) _
 have hr2:=hr.later hB
 refine(h1 _ hr2).mono ?_
 rintro e w1 ⟨rfl,rfl⟩
 cases b1
 ·go_wp2_with fail
  refine(h2 ⟨w.heap.size,0,none⟩ ⟨w.heap.size+1,0,none⟩ _ hr2 (by rw[World.cell?,aj];rfl) (by rw[World.cell?,ah];rfl)).mono ?_
  rintro e w2 ⟨rfl,rfl⟩
  cases b2
  ·go_wp2_with fail
   refine(h3 _).mono ?_
   rintro e w3 ⟨rfl,rfl⟩
   go_wp2
   go_ret
   exact⟨by simp,hB⟩
  ·go_wp2
   go_ret
   exact⟨by simp,hB⟩
 ·go_wp2
  go_ret
  exact⟨by simp,hB⟩
theorem Er (l:List Int) (A:Option Addr) (c:Nat) (w:World) (hl:l.length<=281474976710656) (hr:Rd w A (l.map (Value.int .i64))) :
  Calls Tryz.prog 153 #[.slice A l.length c] w λe w'=>e=.returned (.int .i64 (nT l))/\Below w.heap.size w w':=by
 have h1:=pR l 2 A c w hl hr
 rw[show eO 2 l=nT l from rfl]at h1
 go_enter Tryz.func153,Tryz.ntmps153
 go_wp2_with (refine h1.mono ?_;rintro e w1 ⟨rfl,hb⟩)
 go_ret
 exact⟨rfl,hb⟩
theorem EY (l:List Int) (A:Option Addr) (c:Nat) (w:World) (hl:l.length<=281474976710656) (hr:Rd w A (l.map (Value.int .i64))) :
  Calls Tryz.prog 154 #[.slice A l.length c] w λe w'=>e=.returned (.int .i64 (orI l))/\Below w.heap.size w w':=by
 have h1:=pR l 1 A c w hl hr
 rw[show eO 1 l=orI l from rfl]at h1
 go_enter Tryz.func154,Tryz.ntmps154
 go_wp2_with (refine h1.mono ?_;rintro e w1 ⟨rfl,hb⟩)
 go_ret
 exact⟨rfl,hb⟩
end Go.Proofs.YtoejnneknpoanaaGreatDoor
