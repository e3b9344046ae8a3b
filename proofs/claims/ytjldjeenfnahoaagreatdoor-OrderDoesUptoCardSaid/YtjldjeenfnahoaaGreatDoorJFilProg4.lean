/- The program's package filter, walked: order, Same, Less. The -/
import Derived.Test.YtjldjeenfnahoaaGreatDoorJFilProg2
set_option maxHeartbeats 8000000
namespace Go.Proofs.YtjldjeenfnahoaaGreatDoor
open Go Go.RowKit Fm
def lG (l:List Int):Int:=(l.find? (λx => !(x == 0))).getD 0
theorem CX (l:List Int) (A:Option Addr) (c:Nat) (w:World) (hl:l.length<=1000) (hr:Rd w A (l.map (Value.int .i64))) :
  Calls Tryz.prog 111 #[.slice A l.length c] w λe w'=>e=.returned (.int .i64 (lG l))/\Below w.heap.size w w':=by
 go_enter Tryz.func111,Tryz.ntmps111
 go_wp2
 go_loop [8] (λi=>∃k:Nat,k<=l.length/\i=.int .i64 k/\Hid (lG l=lG (l.drop k))) (λi=>l.length-(intOf i).toNat)
 case atStart=>exact⟨0,by omega,rfl,rfl⟩
 case round =>
  obtain⟨k,hk,rfl,H⟩:=hrel
  by_cases hlt:k<l.length
  ·obtain⟨x,hx⟩:∃x,l[k]?=some x:=⟨_,List.getElem?_eq_getElem hlt⟩
   obtain⟨g,o,rfl,hcx⟩:=hr.at_ (j:=k) (u:=.int .i64 x) (by simp[hx])
   have hd:l.drop k=x::l.drop (k+1):=by
    rw[List.drop_eq_getElem_cons hlt]
    rw[List.getElem?_eq_getElem hlt]at hx
    injection hx with hx;rw[hx]
   have H2:Hid (lG l=if x == 0 then lG (l.drop (k+1)) else x):=by
    show lG l=_
    rw[H.out,hd]
    unfold lG
    rw[List.find?_cons]
    cases hx0:(x == 0)<;>simp
   clear hx hd H hr
   cases hx0:(x == 0)
   ·rw[hx0]at H2
    go_wp2
    go_ret
    exact⟨by rw[H2.out];rfl,Below.refl _ _⟩
   ·rw[hx0]at H2
    go_wp2
    go_round
    case rel=>exact⟨k+1,by omega,by go_num,H2⟩
    case measure=>simp[intOf];omega
  ·have H2:Hid (lG l=0):=by
    show lG l=_
    rw[H.out,List.drop_eq_nil_of_le (by omega)];rfl
   clear H
   go_wp2
   go_ret
   exact⟨by rw[H2.out];rfl,Below.refl _ _⟩
theorem AO (a b:Int):lG [a,b]=if a=0 then b else a:=by
 unfold lG
 by_cases h:a=0
 ·subst h
  by_cases h2:b=0
  ·subst h2;simp
  ·simp[h2]
 ·simp[h]
theorem BE (a b:List UInt8) : -1<=bc a b/\bc a b<=1:=by
 unfold bc;split
 ·omega
 ·split<;>omega
theorem nh (a b:Int) : -1<=Lib.compareInt a b/\Lib.compareInt a b<=1:=by
 unfold Lib.compareInt;split
 ·omega
 ·split<;>omega
theorem aD {w W:World} {cs1 cs2:Array Value} {t1 t2:TypeId} (hb:Below ((w.alloc (.cells cs1 t1)).alloc (.cells cs2 t2)).heap.size ((w.alloc (.cells cs1 t1)).alloc (.cells cs2 t2)) W) (j:Nat) (v:Value) (h:cs1[j]?=some v) (d:Nat) (os:Array Obj) :
  (Sort.grow (redrawn W d) os).cell? ⟨w.heap.size,j,none⟩=some v:=by
 refine cell_regrown ?_ d os
 rw[hb.cell (p:=⟨w.heap.size,j,none⟩) (by simp;omega),World.cell?,am]
 exact h
theorem aC {w W:World} {cs1 cs2:Array Value} {t1 t2:TypeId} (hb:Below ((w.alloc (.cells cs1 t1)).alloc (.cells cs2 t2)).heap.size ((w.alloc (.cells cs1 t1)).alloc (.cells cs2 t2)) W) (j:Nat) (v:Value) (h:cs2[j]?=some v) (d:Nat) (os:Array Obj) :
  (Sort.grow (redrawn W d) os).cell? ⟨w.heap.size+1,j,none⟩=some v:=by
 refine cell_regrown ?_ d os
 rw[hb.cell (p:=⟨w.heap.size+1,j,none⟩) (by simp),World.cell?,ai]
 exact h
theorem Calls.quiet_tr {P:Program} {f:FuncId} {args:Array Value} {w:World} {d:Nat} {os:Array Obj} {v:Value}
  (h:Calls P f args (Sort.grow (redrawn w d) os) λe w'=>e=.returned v/\Sort.grow (redrawn w d) os=w'):Calls P f args (Sort.grow (redrawn w d) os) λe w''=>e=.returned v/\∃p:Regrown,w''=Sort.grow (redrawn w p.d) p.os:=
 h.mono λ_ _ ⟨he,hb⟩=>⟨he,⟨d,os⟩,hb.symm⟩
set_option maxRecDepth 100000 in
theorem rh (k1 k2:Int) (x1 l1 y1 x2 l2 y2:ByteArray) (w:World) (hs1:x1.size<=281474976710656) (hs2:x2.size<=281474976710656) :
  Calls Tryz.prog 188 #[.agg #[.int .i64 k1,.string x1,.string l1,.string y1],.agg #[.int .i64 k2,.string x2,.string l2,.string y2]] w λe w' =>
   e=.returned (.tuple #[.int .i64 (ku ⟨k1,x1,l1,y1⟩ ⟨k2,x2,l2,y2⟩),.bool (qu ⟨k1,x1,l1,y1⟩ ⟨k2,x2,l2,y2⟩)])/\Below w.heap.size w w':=by
 have hN1:=λW=>jx k1 x1 l1 y1 W hs1
 have hN2:=λW=>jx k2 x2 l2 y2 W hs2
 have hS1:=λW=>po k1 x1 l1 y1 W
 have hS2:=λW=>po k2 x2 l2 y2 W
 have hP1:=λW=>re k1 x1 l1 y1 W
 have hP2:=λW=>re k2 x2 l2 y2 W
 have hC:=λW=>ij x1 x2 W
 obtain⟨D1,hD1⟩:∃D:ByteArray,(⟨(bu ⟨k1,x1,l1,y1⟩).toArray⟩:ByteArray)=D:=⟨_,rfl⟩
 obtain⟨D2,hD2⟩:∃D:ByteArray,(⟨(bu ⟨k2,x2,l2,y2⟩).toArray⟩:ByteArray)=D:=⟨_,rfl⟩
 simp only[ew,hD1]at hN1
 simp only[ew,hD2]at hN2
 have hz1:((bu ⟨k1,x1,l1,y1⟩).length:Int)=D1.size:=by rw[←hD1];show _=((bu ⟨k1,x1,l1,y1⟩).toArray.size:Int);simp
 have hz2:((bu ⟨k2,x2,l2,y2⟩).length:Int)=D2.size:=by rw[←hD2];show _=((bu ⟨k2,x2,l2,y2⟩).toArray.size:Int);simp
 have hl1:D1.toList=bu ⟨k1,x1,l1,y1⟩:=by rw[←hD1,toList_mk]
 have hl2:D2.toList=bu ⟨k2,x2,l2,y2⟩:=by rw[←hD2,toList_mk]
 have hCI:=λW=>gt D1.size D2.size W
 have hCS:=λW=>ij D1 D2 W
 rw[hl1,hl2]at hCS
 rw[←hz1,←hz2]at hCI
 have hc:=nh (bu ⟨k1,x1,l1,y1⟩).length (bu ⟨k2,x2,l2,y2⟩).length
 have hd:=BE (bu ⟨k1,x1,l1,y1⟩) (bu ⟨k2,x2,l2,y2⟩)
 unfold ku qu iX
 generalize Lib.compareInt (bu ⟨k1,x1,l1,y1⟩).length (bu ⟨k2,x2,l2,y2⟩).length=c at *
 generalize bc (bu ⟨k1,x1,l1,y1⟩) (bu ⟨k2,x2,l2,y2⟩)=d at *
 rw[hz1,hz2]at hCI
 clear hz1 hz2 hl1 hl2 hD1 hD2
 have hO:=λg W c2 h=>CX [c,d] (some ⟨g,0,none⟩) c2 W (by simp) h
 simp only[AO]at hO
 have hob : -1<=(if c=0 then d else c)/\(if c=0 then d else c)<=1:=by split<;>omega
 generalize (if c=0 then d else c)=n at hO hob ⊢
 obtain⟨hob1,hob2⟩:=hob
 have hnn:IntKind.i64.wrap (-n) = -n:=IntWalk.i64_in _ (by omega)
 have hcmp:bc (⟨k1,x1,l1,y1⟩:Tm).x.toList (⟨k2,x2,l2,y2⟩:Tm).x.toList=bc x1.toList x2.toList:=rfl
 rw[hcmp]
 clear hcmp
 generalize bc x1.toList x2.toList=t at *
 generalize cV ⟨k1,x1,l1,y1⟩=m1 at *
 generalize cV ⟨k2,x2,l2,y2⟩=m2 at *
 generalize bP ⟨k1,x1,l1,y1⟩=i1 at *
 generalize bP ⟨k2,x2,l2,y2⟩=i2 at *
 generalize eG ⟨k1,x1,l1,y1⟩=q1 at *
 generalize eG ⟨k2,x2,l2,y2⟩=q2 at *
 generalize bH ⟨k1,x1,l1,y1⟩=b1 at *
 generalize bH ⟨k2,x2,l2,y2⟩=b2 at *
 generalize ba ⟨k1,x1,l1,y1⟩=p1 at *
 generalize ba ⟨k2,x2,l2,y2⟩=p2 at *
 clear hs1 hs2
 go_enter Tryz.func188,Tryz.ntmps188
 go_wp2_with fail
 refine(hN1 _).mono ?_
 rintro e w1 ⟨rfl,hb1⟩
 obtain⟨hc1,hf1⟩:=aB hb1
 go_wp2_with fail
 refine(hN2 _).mono ?_
 rintro e w2 ⟨rfl,hb2⟩
 have hb2':=aa hb1 hb2
 clear hc1 hf1 hb1 hb2
 obtain⟨hc2,hf2⟩:=aB hb2'
 go_wp2_with fail
 refine(hS1 _).mono ?_
 rintro e w3 ⟨rfl,hb3⟩
 have hb3':=aa hb2' hb3
 clear hc2 hf2 hb2' hb3
 obtain⟨hc3,hf3⟩:=aB hb3'
 go_wp2_with fail
 refine(hS2 _).mono ?_
 rintro e w4 ⟨rfl,hb4⟩
 have hb4':=aa hb3' hb4
 clear hc3 hf3 hb3' hb4
 cases i1
 ·cases b1
  ·have g01:=λd os=>aD hb4' 0 _ rfl d os
   have g02:=λd os=>aD hb4' 1 _ rfl d os
   have g03:=λd os=>aD hb4' 2 _ rfl d os
   have g04:=λd os=>aD hb4' 3 _ rfl d os
   have g11:=λd os=>aC hb4' 0 _ rfl d os
   have g12:=λd os=>aC hb4' 1 _ rfl d os
   have g13:=λd os=>aC hb4' 2 _ rfl d os
   have g14:=λd os=>aC hb4' 3 _ rfl d os
   cases p1
   all_goals
    go_wp2
    refine wrq ?_;(repeat (any_goals (go_big_quiet_step ((first|(go_at_call 109;with_reducible exact Calls.quiet_tr (hC _))|(go_at_call 227;with_reducible exact Calls.regrown_of (hP1 _))|(go_at_call 227;with_reducible exact Calls.regrown_of (hP2 _)))))));all_goals (refine wqn ?_;intro d9 os9)
    go_wp2
    go_ret2
    exact⟨by simp,blw⟩
  ·cases b2
   ·have g01:=λd os=>aD hb4' 0 _ rfl d os
    have g02:=λd os=>aD hb4' 1 _ rfl d os
    have g03:=λd os=>aD hb4' 2 _ rfl d os
    have g04:=λd os=>aD hb4' 3 _ rfl d os
    have g11:=λd os=>aC hb4' 0 _ rfl d os
    have g12:=λd os=>aC hb4' 1 _ rfl d os
    have g13:=λd os=>aC hb4' 2 _ rfl d os
    have g14:=λd os=>aC hb4' 3 _ rfl d os
    cases p1
    all_goals
     go_wp2
     refine wrq ?_;(repeat (any_goals (go_big_quiet_step ((first|(go_at_call 109;with_reducible exact Calls.quiet_tr (hC _))|(go_at_call 227;with_reducible exact Calls.regrown_of (hP1 _))|(go_at_call 227;with_reducible exact Calls.regrown_of (hP2 _)))))));all_goals (refine wqn ?_;intro d9 os9)
     go_wp2
     go_ret2
     exact⟨by simp,blw⟩
   ·go_wp2_with fail
    refine(cK _ _).mono ?_
    rintro e w8 ⟨rfl,rfl⟩
    go_wp2_with fail
    refine(cK _ _).mono ?_
    rintro e w9 ⟨rfl,rfl⟩
    have hq:wrap64 (wt q1-wt q2)=wt q1-wt q2:=IntWalk.wrap64_in _ (by cases q1<;>cases q2<;>decide)
    go_wp2
    go_ret2
    exact⟨by simp,blw⟩
 ·cases i2
  ·cases b1
   ·have g01:=λd os=>aD hb4' 0 _ rfl d os
    have g02:=λd os=>aD hb4' 1 _ rfl d os
    have g03:=λd os=>aD hb4' 2 _ rfl d os
    have g04:=λd os=>aD hb4' 3 _ rfl d os
    have g11:=λd os=>aC hb4' 0 _ rfl d os
    have g12:=λd os=>aC hb4' 1 _ rfl d os
    have g13:=λd os=>aC hb4' 2 _ rfl d os
    have g14:=λd os=>aC hb4' 3 _ rfl d os
    cases p1
    all_goals
     go_wp2
     refine wrq ?_;(repeat (any_goals (go_big_quiet_step ((first|(go_at_call 109;with_reducible exact Calls.quiet_tr (hC _))|(go_at_call 227;with_reducible exact Calls.regrown_of (hP1 _))|(go_at_call 227;with_reducible exact Calls.regrown_of (hP2 _)))))));all_goals (refine wqn ?_;intro d9 os9)
     go_wp2
     go_ret2
     exact⟨by simp,blw⟩
   ·cases b2
    ·have g01:=λd os=>aD hb4' 0 _ rfl d os
     have g02:=λd os=>aD hb4' 1 _ rfl d os
     have g03:=λd os=>aD hb4' 2 _ rfl d os
     have g04:=λd os=>aD hb4' 3 _ rfl d os
     have g11:=λd os=>aC hb4' 0 _ rfl d os
     have g12:=λd os=>aC hb4' 1 _ rfl d os
     have g13:=λd os=>aC hb4' 2 _ rfl d os
     have g14:=λd os=>aC hb4' 3 _ rfl d os
     cases p1
     all_goals
      go_wp2
      refine wrq ?_;(repeat (any_goals (go_big_quiet_step ((first|(go_at_call 109;with_reducible exact Calls.quiet_tr (hC _))|(go_at_call 227;with_reducible exact Calls.regrown_of (hP1 _))|(go_at_call 227;with_reducible exact Calls.regrown_of (hP2 _)))))));all_goals (refine wqn ?_;intro d9 os9)
      go_wp2
      go_ret2
      exact⟨by simp,blw⟩
    ·go_wp2_with fail
     refine(cK _ _).mono ?_
     rintro e w8 ⟨rfl,rfl⟩
     go_wp2_with fail
     refine(cK _ _).mono ?_
     rintro e w9 ⟨rfl,rfl⟩
     have hq:wrap64 (wt q1-wt q2)=wt q1-wt q2:=IntWalk.wrap64_in _ (by cases q1<;>cases q2<;>decide)
     go_wp2
     go_ret2
     exact⟨by simp,blw⟩
  ·go_wp2_with fail
   refine(hCI _).mono ?_
   rintro e w5 ⟨rfl,rfl⟩
   go_wp2_with fail
   refine(hCS _).mono ?_
   rintro e w6 ⟨rfl,rfl⟩
   go_wp2_with fail
   refine(hO _ _ _ (Rd.of_block (heap_alloc_new _ _) rfl)).mono ?_
   rintro e w7 ⟨rfl,hb7⟩
   have hb7':=aa (gq hb4') hb7
   clear hb4' hb7
   cases m1
   ·cases m2
    ·go_wp2
     go_ret2
     exact⟨by simp,blw⟩
    ·go_wp2_with fail
     refine(cK _ _).mono ?_
     rintro e w8 ⟨rfl,rfl⟩
     go_wp2_with fail
     refine(cK _ _).mono ?_
     rintro e w9 ⟨rfl,rfl⟩
     go_wp2
     go_ret2
     exact⟨by simp[wt]<;>exact IntWalk.wrap64_in _ (by decide),blw⟩
   ·cases m2
    ·go_wp2_with fail
     refine(cK _ _).mono ?_
     rintro e w8 ⟨rfl,rfl⟩
     go_wp2_with fail
     refine(cK _ _).mono ?_
     rintro e w9 ⟨rfl,rfl⟩
     go_wp2
     go_ret2
     exact⟨by simp[wt]<;>exact IntWalk.wrap64_in _ (by decide),blw⟩
    ·go_wp2
     go_ret2
     exact⟨by simp,blw⟩
theorem ue (k1 k2:Int) (x1 l1 y1 x2 l2 y2:ByteArray) (w:World) (hs1:x1.size<=281474976710656) (hs2:x2.size<=281474976710656) :
  Calls Tryz.prog 155 #[.agg #[.int .i64 k1,.string x1,.string l1,.string y1],.agg #[.int .i64 k2,.string x2,.string l2,.string y2]] w λe w' =>
   e=.returned (.int .i64 (gN ⟨k1,x1,l1,y1⟩ ⟨k2,x2,l2,y2⟩))/\Below w.heap.size w w':=by
 have hO:=λW=>rh k1 k2 x1 l1 y1 x2 l2 y2 W hs1 hs2
 unfold gN
 clear hs1 hs2
 generalize ku ⟨k1,x1,l1,y1⟩ ⟨k2,x2,l2,y2⟩=n at *
 generalize qu ⟨k1,x1,l1,y1⟩ ⟨k2,x2,l2,y2⟩=q at *
 obtain⟨v,hv⟩:∃v,(if bg ⟨k1,x1,l1,y1⟩ ⟨k2,x2,l2,y2⟩ then (1:Int) else if !iR ⟨k1,x1,l1,y1⟩ || !iR ⟨k2,x2,l2,y2⟩ then 2 else 3)=v:=⟨_,rfl⟩
 rw[hv]
 have Hv:=Lib.hid hv
 clear hv
 go_enter Tryz.func155,Tryz.ntmps155
 go_wp2_with fail
 refine(hO _).mono ?_
 rintro e w1 ⟨rfl,hb1⟩
 obtain⟨hc1,hf1⟩:=aB hb1
 cases q
 ·go_wp2_with (go_at_call 158;refine(lY _ _ _ _ _).mono ?_;rintro e w2 ⟨rfl,hb2⟩;have hb3:=aa hb1 hb2;clear hb1 hb2;have hb1:=hb3;clear hb3;obtain⟨hc2,hf2⟩:=aB hb1)
  all_goals
   go_ret
   refine⟨?_,blw⟩
   rw[←Hv.out]
   simp_all[bg,iR]<;>(try split)<;>omega
 ·go_wp2_with fail
  refine(dG _ _).mono ?_
  rintro e w2 ⟨rfl,rfl⟩
  go_wp2
  go_ret
  exact⟨by simp,blw⟩
theorem kI (k1 k2:Int) (x1 l1 y1 x2 l2 y2:ByteArray) (w:World) (hs1:x1.size<=281474976710656) (hs2:x2.size<=281474976710656) :
  Calls Tryz.prog 156 #[.agg #[.int .i64 k1,.string x1,.string l1,.string y1],.agg #[.int .i64 k2,.string x2,.string l2,.string y2]] w λe w' =>
   e=.returned (.int .i64 (dW ⟨k1,x1,l1,y1⟩ ⟨k2,x2,l2,y2⟩))/\Below w.heap.size w w':=by
 have hO:=λW=>rh k1 k2 x1 l1 y1 x2 l2 y2 W hs1 hs2
 unfold dW
 clear hs1 hs2
 generalize ku ⟨k1,x1,l1,y1⟩ ⟨k2,x2,l2,y2⟩=n at *
 generalize qu ⟨k1,x1,l1,y1⟩ ⟨k2,x2,l2,y2⟩=q at *
 go_enter Tryz.func156,Tryz.ntmps156
 go_wp2_with fail
 refine(hO _).mono ?_
 rintro e w1 ⟨rfl,hb1⟩
 cases q
 ·go_wp2
  go_ret
  exact⟨by simp,blw⟩
 ·go_wp2_with fail
  refine(dG _ _).mono ?_
  rintro e w2 ⟨rfl,rfl⟩
  go_wp2
  go_ret
  exact⟨by simp,blw⟩
theorem sQ (t s:Int) (p:Addr) (w:World) (hp:w.cell? p=some (.int .i64 s)) :
  Calls Tryz.prog 221 #[.int .i64 t,.pointer (some p)] w λe w'=>e=.returned (.bool (t == dU s))/\w=w':=by
 have hn:=λW=>jy s W
 generalize dU s=n at *
 go_enter Tryz.func221,Tryz.ntmps221
 go_wp2_with (go_at_call 152;refine(hn _).mono ?_;rintro e w1 ⟨rfl,rfl⟩)
 go_ret
 exact⟨rfl,rfl⟩
theorem sP (t s:Int) (p q:Addr) (w:World) (hp:w.cell? p=some (.int .i64 s)) (hq:w.cell? q=some (.func (.func 221) #[] #[.pointer (some p)])) :
  Calls Tryz.prog 224 #[.int .i64 t,.pointer (some q)] w λe w'=>e=.returned (.bool (!(t == dU s)))/\w=w':=by
 have hn:=λW h=>sQ t s p W h
 generalize (t == dU s)=n at *
 go_enter Tryz.func224,Tryz.ntmps224
 go_wp2_with (go_at_call 221;refine(hn _ ?_).mono ?_;exact hp;rintro e w1 ⟨rfl,rfl⟩)
 go_ret
 exact⟨rfl,rfl⟩
theorem zc (l:List Int) (x:Int) (A:Option Addr) (c:Nat) (w:World) (hl:l.length<=281474976710656) (hr:Rd w A (l.map (Value.int .i64))) :
  Calls Tryz.prog 260 #[.slice A l.length c,.int .i64 x] w λe w'=>∃i:Int,e=.returned (.int .i64 i)/\ov i (gJ l x)/\w=w':=by
 go_enter Tryz.func260,Tryz.ntmps260
 go_wp2
 go_loop [8] (λi=>∃k:Nat,k<=l.length/\i=.int .i64 k/\Hid (gJ l x=gJ (l.drop k) x)) (λi=>l.length-(intOf i).toNat)
 case atStart=>exact⟨0,by omega,rfl,rfl⟩
 case round =>
  obtain⟨k,hk,rfl,H⟩:=hrel
  by_cases hlt:k<l.length
  ·obtain⟨y,hx⟩:∃x,l[k]?=some x:=⟨_,List.getElem?_eq_getElem hlt⟩
   obtain⟨g,o,rfl,hcx⟩:=hr.at_ (j:=k) (u:=.int .i64 y) (by simp[hx])
   have hd:l.drop k=y::l.drop (k+1):=by
    rw[List.drop_eq_getElem_cons hlt]
    rw[List.getElem?_eq_getElem hlt]at hx
    injection hx with hx;rw[hx]
   have H2:Hid (gJ l x=((x == y) || gJ (l.drop (k+1)) x)):=by
    show gJ l x=_
    rw[H.out,hd,gJ,List.contains_cons];rfl
   clear hx hd H hr
   cases hx0:(x == y)
   ·rw[hx0]at H2
    go_wp2
    go_round
    case rel=>exact⟨k+1,by omega,by go_num,by show _=_;rw[H2.out];rfl⟩
    case measure=>simp[intOf];omega
   ·rw[hx0]at H2
    go_wp2
    go_ret
    exact⟨k,rfl,by show decide _=_;rw[H2.out];simp,rfl⟩
  ·have H2:Hid (gJ l x=false):=by
    show gJ l x=_
    rw[H.out,List.drop_eq_nil_of_le (by omega)];rfl
   clear H
   go_wp2
   go_ret
   exact⟨-1,rfl,by show decide _=_;rw[H2.out];rfl,rfl⟩
theorem zd (l:List Int) (x:Int) (A:Option Addr) (c:Nat) (w:World) (hl:l.length<=281474976710656) (hr:Rd w A (l.map (Value.int .i64))) :
  Calls Tryz.prog 222 #[.slice A l.length c,.int .i64 x] w λe w'=>e=.returned (.bool (gJ l x))/\w=w':=by
 have hi:=λW h=>zc l x A c W hl h
 go_enter Tryz.func222,Tryz.ntmps222
 go_wp2_with (go_at_call 260;refine(hi _ ?_).mono ?_;exact hr;rintro e w1 ⟨i,rfl,hd,rfl⟩;have Hd:=Lib.hid hd;clear hd)
 go_ret
 exact⟨by have:=Hd.out;unfold ov at this;rw[←this];rfl,rfl⟩
theorem CL (l:List Int) (s:Int) (p q:Addr) (A:Option Addr) (c:Nat) (w:World) (hl:l.length<=281474976710656) (hr:Rd w A (l.map (Value.int .i64)))
  (hp:w.cell? p=some (.int .i64 s)) (hq:w.cell? q=some (.func (.func 221) #[] #[.pointer (some p)])) :
  Calls Tryz.prog 261 #[.slice A l.length c,.func (.func 224) #[] #[.pointer (some q)]] w λe w'=>∃i:Int,e=.returned (.int .i64 i)/\ov i (iI l s)/\w=w':=by
 go_enter Tryz.func261,Tryz.ntmps261
 go_wp2
 go_loop [8] (λi=>∃k:Nat,k<=l.length/\i=.int .i64 k/\Hid (iI l s=iI (l.drop k) s)) (λi=>l.length-(intOf i).toNat)
 case atStart=>exact⟨0,by omega,rfl,rfl⟩
 case round =>
  obtain⟨k,hk,rfl,H⟩:=hrel
  by_cases hlt:k<l.length
  ·obtain⟨y,hx⟩:∃x,l[k]?=some x:=⟨_,List.getElem?_eq_getElem hlt⟩
   obtain⟨g,o,rfl,hcx⟩:=hr.at_ (j:=k) (u:=.int .i64 y) (by simp[hx])
   have hd:l.drop k=y::l.drop (k+1):=by
    rw[List.drop_eq_getElem_cons hlt]
    rw[List.getElem?_eq_getElem hlt]at hx
    injection hx with hx;rw[hx]
   have hc:=λW h1 h2=>sP y s p q W h1 h2
   have H2:Hid (iI l s=(!(y == dU s) || iI (l.drop (k+1)) s)):=by
    show _=_
    rw[H.out,hd,iI,List.any_cons];rfl
   clear hx hd H hr
   generalize hn:(!(y == dU s))=n at *
   clear hn
   cases n
   ·go_wp2_with (go_at_call 224;refine(hc _ ?_ ?_).mono ?_;exact hp;exact hq;rintro e w1 ⟨rfl,rfl⟩)
    go_round
    case rel=>exact⟨k+1,by omega,by go_num,by show _=_;rw[H2.out];rfl⟩
    case measure=>simp[intOf];omega
   ·go_wp2_with (go_at_call 224;refine(hc _ ?_ ?_).mono ?_;exact hp;exact hq;rintro e w1 ⟨rfl,rfl⟩)
    go_ret
    exact⟨k,rfl,by show decide _=_;rw[H2.out];simp,rfl⟩
  ·have H2:Hid (iI l s=false):=by
    show _=_
    rw[H.out,List.drop_eq_nil_of_le (by omega)];rfl
   clear H
   go_wp2
   go_ret
   exact⟨-1,rfl,by show decide _=_;rw[H2.out];rfl,rfl⟩
theorem CN (l:List Int) (s:Int) (p q:Addr) (A:Option Addr) (c:Nat) (w:World) (hl:l.length<=281474976710656) (hr:Rd w A (l.map (Value.int .i64)))
  (hp:w.cell? p=some (.int .i64 s)) (hq:w.cell? q=some (.func (.func 221) #[] #[.pointer (some p)])) :
  Calls Tryz.prog 223 #[.slice A l.length c,.func (.func 224) #[] #[.pointer (some q)]] w λe w'=>e=.returned (.bool (iI l s))/\w=w':=by
 have hi:=λW h h1 h2=>CL l s p q A c W hl h h1 h2
 go_enter Tryz.func223,Tryz.ntmps223
 go_wp2_with (go_at_call 261;refine(hi _ ?_ ?_ ?_).mono ?_;exact hr;exact hp;exact hq;rintro e w1 ⟨i,rfl,hd,rfl⟩;have Hd:=Lib.hid hd;clear hd)
 go_ret
 exact⟨by have:=Hd.out;unfold ov at this;rw[←this];rfl,rfl⟩
theorem ol (l:List Int) (s:Int) (A:Option Addr) (c:Nat) (w:World) (hl:l.length<=281474976710656) (hr:Rd w A (l.map (Value.int .i64))) :
  Calls Tryz.prog 187 #[.int .i64 s,.slice A l.length c] w λe w'=>e=.returned (.int .i64 (eD s l))/\Below w.heap.size w w':=by
 have h1:=λW h=>zd l s A c W hl h
 have h2:=λp q W h a b=>CN l s p q A c W hl h a b
 have h3:=λW=>jy s W
 unfold eD
 generalize gJ l s=b1 at *
 generalize iI l s=b2 at *
 generalize dU s=n at *
 go_enter Tryz.func187,Tryz.ntmps187
 go_wp2_with fail
 have hB:Below w.heap.size w ((w.alloc (.cells #[.int .i64 s] 129)).alloc (.cells #[.func (.func 221) #[] #[.pointer (some ⟨w.heap.size,0,none⟩)]] 258)):=((Below.refl _ _).alloc (Nat.le_refl _) _).alloc (by simp) _
 have hr2:=hr.later hB
 refine(h1 _ hr2).mono ?_
 rintro e w1 ⟨rfl,rfl⟩
 cases b1
 ·go_wp2_with fail
  refine(h2 ⟨w.heap.size,0,none⟩ ⟨w.heap.size+1,0,none⟩ _ hr2 (by rw[World.cell?,am];rfl) (by rw[World.cell?,ai];rfl)).mono ?_
  rintro e w2 ⟨rfl,rfl⟩
  cases b2
  ·go_wp2_with fail
   refine(h3 _).mono ?_
   rintro e w3 ⟨rfl,rfl⟩
   go_wp2
   go_ret
   exact⟨by simp,hB⟩
  ·go_wp2
   go_ret
   exact⟨by simp,hB⟩
 ·go_wp2
  go_ret
  exact⟨by simp,hB⟩
theorem CP (l:List Int) (A:Option Addr) (c:Nat) (w:World) (hl:l.length<=281474976710656) (hr:Rd w A (l.map (Value.int .i64))) :
  Calls Tryz.prog 153 #[.slice A l.length c] w λe w'=>e=.returned (.int .i64 (mo l))/\Below w.heap.size w w':=by
 have h1:=ol l 2 A c w hl hr
 rw[show eD 2 l=mo l from rfl]at h1
 go_enter Tryz.func153,Tryz.ntmps153
 go_wp2_with (refine h1.mono ?_;rintro e w1 ⟨rfl,hb⟩)
 go_ret
 exact⟨rfl,hb⟩
theorem Dt (l:List Int) (A:Option Addr) (c:Nat) (w:World) (hl:l.length<=281474976710656) (hr:Rd w A (l.map (Value.int .i64))) :
  Calls Tryz.prog 154 #[.slice A l.length c] w λe w'=>e=.returned (.int .i64 (orI l))/\Below w.heap.size w w':=by
 have h1:=ol l 1 A c w hl hr
 rw[show eD 1 l=orI l from rfl]at h1
 go_enter Tryz.func154,Tryz.ntmps154
 go_wp2_with (refine h1.mono ?_;rintro e w1 ⟨rfl,hb⟩)
 go_ret
 exact⟨rfl,hb⟩
end Go.Proofs.YtjldjeenfnahoaaGreatDoor
