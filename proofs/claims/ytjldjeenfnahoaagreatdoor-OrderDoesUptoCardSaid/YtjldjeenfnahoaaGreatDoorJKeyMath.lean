/- The library's slices.Index, Contains over texts. The program -/
import Derived.Test.YtjldjeenfnahoaaGreatDoorJOrd2
import Derived.Deep.MidRow
set_option maxHeartbeats 8000000
set_option maxRecDepth 100000
namespace Go.Proofs.YtjldjeenfnahoaaGreatDoor
open Go Go.RowKit
theorem BN (x y:ByteArray):(x.toList == y.toList)=decide (y=x):=by
 by_cases h:y=x
 ·subst h;simp
 ·simp only[h,decide_false];rw[Lib.bytes_beq_false_iff];exact λe=>h e.symm
theorem z8 (l:List ByteArray) (x:ByteArray) (A:Option Addr) (c:Nat) (w:World) (hl:l.length<=281474976710656) (hr:Rd w A (l.map Value.string)) :
  Calls Tryz.prog 105 #[.slice A l.length c,.string x] w λe w'=>e=.returned (.int .i64 (Lib.idxOfS l x))/\w=w':=by
 go_enter Tryz.func105,Tryz.ntmps105
 go_wp2
 go_loop [8] (λi=>∃k:Nat,k<=l.length/\i=.int .i64 k/\Hid (Lib.idxOfS l x=Lib.idxFromS (l.drop k) x k)) (λi=>l.length-(intOf i).toNat)
 case atStart=>exact⟨0,by omega,rfl,rfl⟩
 case round =>
  obtain⟨k,hk,rfl,H⟩:=hrel
  by_cases hlt:k<l.length
  ·obtain⟨y,hx⟩:∃x,l[k]?=some x:=⟨_,List.getElem?_eq_getElem hlt⟩
   obtain⟨g,o,rfl,hcx⟩:=hr.at_ (j:=k) (u:=.string y) (by simp[hx])
   have hd:l.drop k=y::l.drop (k+1):=by
    rw[List.drop_eq_getElem_cons hlt]
    rw[List.getElem?_eq_getElem hlt]at hx
    injection hx with hx;rw[hx]
   have H2:Hid (Lib.idxOfS l x=if (x.toList == y.toList) then (k:Int) else Lib.idxFromS (l.drop (k+1)) x (k+1)):=by
    show Lib.idxOfS l x=_
    rw[H.out,hd,Lib.idxFromS,BN];simp
   clear hx hd H hr
   cases hx0:(x.toList == y.toList)
   ·rw[hx0]at H2
    go_wp2
    go_round
    case rel=>exact⟨k+1,by omega,by go_num,H2⟩
    case measure=>simp[intOf];omega
   ·rw[hx0]at H2
    go_wp2
    go_ret
    exact⟨by rw[H2.out];rfl,rfl⟩
  ·have H2:Hid (Lib.idxOfS l x = -1):=by
    show Lib.idxOfS l x=_
    rw[H.out,List.drop_eq_nil_of_le (by omega)];rfl
   clear H
   go_wp2
   go_ret
   exact⟨by rw[H2.out];rfl,rfl⟩
open Um Fm Om
theorem AW:(Tryz.prog.info? 3).map (λi=>(i.zero,i.size,i.bytes))=some (some (.int .i64 0),1,8):=by kernel_rfl
def av (vars names:List ByteArray):List Int:=names.map λs=>Lib.idxOfS vars s
def pR (l:List Int) (w:World) (e:Ending) (w':World):Prop:=∃v,e=.returned v/\w'.ownsRow w.heap.size 3 1 v l.length (l.map (Value.int .i64))/\Below w.heap.size w w'
theorem nO (vars names:List ByteArray) (b nv cv m c:Nat) (Av A:Option Addr) (w:World) (hnv:vars.length=nv) (hm:names.length=m) (hlv:nv<=1000000) (hlm:m<=1000000) (h0:w.cell? ⟨b,0,none⟩=some (.slice Av nv cv)) (hv:Rd w Av (vars.map Value.string)) (hr:Rd w A (names.map Value.string)) :
  Calls Tryz.prog 74 #[.pointer (some ⟨b,0,none⟩),.slice A m c] w (pR (av vars names) w):=by
 have HM:=Lib.hid hm
 have H:=Lib.hid (And.intro h0 (And.intro hv (And.intro hr hnv)))
 have hin:Tryz.prog.underlying 58=some (.slice 3):=Tryz.underlying58
 have HS:Hid (w.ownsRow w.heap.size 3 1 (.slice none 0 0) 0 ((av vars (names.take 0)).map (Value.int .i64))/\Below w.heap.size w w):=⟨World.ownsRow_nil _ _ _ _,Below.refl _ _⟩
 clear hm h0 hv hr hnv
 go_enter Tryz.func74,Tryz.ntmps74
 go_wp2
 go_loopw [4,6,9] (λv u i wr=>∃k:Nat,k<=m/\i=.int .i64 k/\Hid (wr.ownsRow w.heap.size 3 1 v k ((av vars (names.take k)).map (Value.int .i64))/\Below w.heap.size w wr)) (λ_ _ i _=>m-(intOf i).toNat)
 case atStart=>exact⟨0,by omega,rfl,HS⟩
 case round =>
  clear HS
  obtain⟨k,hk,rfl,HK⟩:=hrel
  obtain⟨A4,c4,rfl,_,_⟩:=own_slice HK.out.1
  by_cases hlt:k<m
  ·obtain⟨s,hs⟩:∃s,names[k]?=some s:=⟨_,List.getElem?_eq_getElem (by rw[HM.out];exact hlt)⟩
   obtain⟨g,o,rfl,hcx⟩:=(H.out.2.2.1.later HK.out.2).at_ (j:=k) (u:=.string s) (by rw[List.getElem?_map,hs];rfl)
   have hc0:=ab H.out.1 HK.out.2
   have hI:=z8 vars s Av cv wr (by rw[H.out.2.2.2];omega) (H.out.2.1.later HK.out.2)
   rw[H.out.2.2.2]at hI
   have hsn:Hid ((av vars (names.take (k+1))).map (Value.int .i64)=(av vars (names.take k)).map (Value.int .i64)++[.int .i64 (Lib.idxOfS vars s)]):=by
    show _=_
    rw[ah hs];simp[av]
   generalize Lib.idxOfS vars s=z at *
   have hown:=HK.out.1.alloc (.cells #[.int .i64 z] 3)
   have hzz:=HK.out.2.size
   clear hs
   go_wp2_with (first
    | (go_at_call 105;refine hI.mono ?_;rintro e w1 ⟨rfl,rfl⟩)
    | (at_builtin;refine ar rfl rfl hin AW rfl (by omega) rfl hown rfl (Rd.of_block (heap_alloc_new wr _) rfl) rfl (by intro u hu;simp only[List.mem_cons,List.not_mem_nil,or_false]at hu;subst hu;rfl) (by omega) (by omega) (by simp;omega) ?_;intro v' w6 own6 hb6 hg6))
   have HF:Hid (w6.ownsRow w.heap.size 3 1 v' (k+1) ((av vars (names.take (k+1))).map (Value.int .i64))/\Below w.heap.size w w6):=⟨by rw[hsn.out];exact own6,(HK.out.2.alloc hzz _).trans hb6⟩
   clear own6 hb6 hg6 hown
   go_roundw
   case rel=>exact⟨k+1,by omega,by go_num,HF⟩
   case measure=>simp[intOf];omega
  ·obtain rfl:k=m:=by omega
   have HF:Hid (pR (av vars names) w (.returned (.slice A4 k c4)) wr):=by
    have:=HK.out
    rw[List.take_of_length_le (by rw[HM.out];exact Nat.le_refl _)]at this
    exact⟨_,rfl,by unfold av at this ⊢;rw[List.length_map,HM.out];exact this.1,this.2⟩
   clear HK
   go_wp2
   go_ret
   exact HF.out
def BZ (l:List ByteArray) (w:World) (e:Ending) (w':World):Prop:=∃v,e=.returned v/\w'.ownsRow w.heap.size 9 1 v l.length (l.map Value.string)/\Below w.heap.size w w'
theorem yc (keys:List Ky) (m c:Nat) (A:Option Addr) (w:World) (hm:keys.length=m) (hlm:m<=1000000) (hr:eF w A keys) :
  Calls Tryz.prog 75 #[.slice A m c] w (BZ (keys.map (·.v)) w):=by
 have HM:=Lib.hid hm
 have H:=Lib.hid hr
 have hin:Tryz.prog.underlying 22=some (.slice 9):=Tryz.underlying22
 have HS:Hid (w.ownsRow w.heap.size 9 1 (.slice none 0 0) 0 (((keys.take 0).map (·.v)).map Value.string)/\Below w.heap.size w w):=⟨World.ownsRow_nil _ _ _ _,Below.refl _ _⟩
 clear hm hr
 go_enter Tryz.func75,Tryz.ntmps75
 go_wp2
 go_loopw [2,4,7] (λv u i wr=>∃k:Nat,k<=m/\i=.int .i64 k/\Hid (wr.ownsRow w.heap.size 9 1 v k (((keys.take k).map (·.v)).map Value.string)/\Below w.heap.size w wr)) (λ_ _ i _=>m-(intOf i).toNat)
 case atStart=>exact⟨0,by omega,rfl,HS⟩
 case round =>
  clear HS
  obtain⟨k,hk,rfl,HK⟩:=hrel
  obtain⟨A4,c4,rfl,_,_⟩:=own_slice HK.out.1
  by_cases hlt:k<m
  ·obtain⟨s,hs⟩:∃s,keys[k]?=some s:=⟨_,List.getElem?_eq_getElem (by rw[HM.out];exact hlt)⟩
   obtain⟨g,o,cs,rfl,_,rfl,hx⟩:=(RdL.mono H.out HK.out.2 (λ_ _ _ h=>h)).at_ (by omega) hs
   have c0:wr.cell? ⟨g,o+k*2,none⟩=some (.string s.v):=hx 0 _ rfl
   have c1:wr.cell? ⟨g,o+k*2+1,none⟩=some (.bool s.d):=hx 1 _ rfl
   have hsn:Hid (((keys.take (k+1)).map (·.v)).map Value.string=((keys.take k).map (·.v)).map Value.string++[.string s.v]):=by
    show _=_
    rw[ah hs];simp
   have hown:=(HK.out.1.alloc (.cells #[.string s.v,.bool s.d] 61)).alloc (.cells #[.string s.v] 9)
   have hzz:=HK.out.2.size
   have hB2:Below w.heap.size w ((wr.alloc (.cells #[.string s.v,.bool s.d] 61)).alloc (.cells #[.string s.v] 9)):=(HK.out.2.alloc hzz _).alloc (by simp;omega) _
   have HB2:=Lib.hid hB2
   clear hs hx hB2
   go_wp2_with (at_builtin;refine ar rfl rfl hin tu rfl (by omega) rfl hown rfl (Rd.of_block (ai wr _ _) rfl) rfl (by intro u hu;simp only[List.mem_cons,List.not_mem_nil,or_false]at hu;subst hu;rfl) (by omega) (by omega) (by simp;omega) ?_;intro v' w6 own6 hb6 hg6)
   have HF:Hid (w6.ownsRow w.heap.size 9 1 v' (k+1) (((keys.take (k+1)).map (·.v)).map Value.string)/\Below w.heap.size w w6):=⟨by rw[hsn.out];exact own6,HB2.out.trans hb6⟩
   clear own6 hb6 hg6 hown
   go_roundw
   case rel=>exact⟨k+1,by omega,by go_num,HF⟩
   case measure=>simp[intOf];omega
  ·obtain rfl:k=m:=by omega
   have HF:Hid (BZ (keys.map (·.v)) w (.returned (.slice A4 k c4)) wr):=by
    have:=HK.out
    rw[List.take_of_length_le (by rw[HM.out];exact Nat.le_refl _)]at this
    exact⟨_,rfl,by rw[List.length_map,HM.out];exact this.1,this.2⟩
   clear HK
   go_wp2
   go_ret
   exact HF.out
open Lx Tx
def aQ (ps:List Int) (keys:List Ky):List (Nat × Bool):=List.zipWith (λp k=>(p.toNat,k.d)) ps keys
theorem lQ {ps:List Int} {keys:List Ky} {k:Nat} {p:Int} {y:Ky} (hp:ps[k]?=some p) (hy:keys[k]?=some y):aQ (ps.drop k) (keys.drop k)=(p.toNat,y.d)::aQ (ps.drop (k+1)) (keys.drop (k+1)):=by
 rw[an hp,an hy];rfl
theorem Cx (a b:List Tm) (ps:List Int) (keys:List Ky) (pb kb wb n m c d np cp no co:Nat) (A B Ap Ao:Option Addr) (w:World) (hn:a.length=n) (hm:b.length=m) (hnp:ps.length=np) (hno:keys.length=no) (hpn:np=no) (hlp:np<=1000000)
  (hpl:∀p∈ps,0<=p/\p<n/\p<m) (hC:dJ w) (ha:RdTs w A a) (hb:RdTs w B b) (za:bD a) (zb:bD b)
  (h0:w.cell? ⟨pb,0,none⟩=some (.slice Ap np cp)) (h1:w.cell? ⟨kb,0,none⟩=some (.pointer (some ⟨wb,0,none⟩))) (h2:w.cell? ⟨wb,7,none⟩=some (.slice Ao no co)) (hp:Rd w Ap (ps.map (Value.int .i64))) (hk:eF w Ao keys) :
  Calls Tryz.prog 78 #[.slice A n c,.slice B m d,.pointer (some ⟨pb,0,none⟩),.pointer (some ⟨kb,0,none⟩)] w λe w'=>e=.returned (.int .i64 (au (aQ ps keys) a b))/\Below w.heap.size w w':=by
 subst hpn
 have hln:n<=1000000:=by rw[←hn];exact za.1
 have hlm:m<=1000000:=by rw[←hm];exact zb.1
 have H:=Lib.hid (And.intro hn (And.intro hm (And.intro hnp (And.intro hno (And.intro hpl (And.intro hC (And.intro ha (And.intro hb (And.intro za (And.intro zb (And.intro h1 (And.intro h2 (And.intro hp hk)))))))))))))
 clear hn hm hnp hno hpl hC ha hb za zb h1 h2 hp hk
 go_enter Tryz.func78,Tryz.ntmps78
 go_wp2
 go_loopw [7,8,9,12] (λu7 u8 u9 i wr=>∃k:Nat,k<=np/\i=.int .i64 k/\Hid (au (aQ ps keys) a b=au (aQ (ps.drop k) (keys.drop k)) a b)/\Hid (Below w.heap.size w wr)) (λ_ _ _ i _=>np-(intOf i).toNat)
 case atStart=>exact⟨0,by omega,rfl,rfl,Below.refl _ _⟩
 case round =>
  obtain⟨k,hk,rfl,H1,HB⟩:=hrel
  obtain⟨hn,hm,hnp,hno,hpl,hC,ha,hb,za,zb,h1,h2,hp,hky⟩:=H.out
  by_cases hlt:k<np
  ·obtain⟨p,hp1⟩:∃p,ps[k]?=some p:=⟨_,List.getElem?_eq_getElem (by rw[hnp];exact hlt)⟩
   obtain⟨y,hy1⟩:∃y,keys[k]?=some y:=⟨_,List.getElem?_eq_getElem (by rw[hno];exact hlt)⟩
   obtain⟨g,o,rfl,hcp⟩:=(hp.later HB.out).at_ (j:=k) (u:=.int .i64 p) (by rw[List.getElem?_map,hp1];rfl)
   obtain⟨g3,o3,cs,rfl,_,rfl,hx⟩:=(RdL.mono hky HB.out (λ_ _ _ h=>h)).at_ (by omega) hy1
   have hcd:wr.cell? ⟨g3,o3+k*2+1,none⟩=some (.bool y.d):=hx 1 _ rfl
   obtain⟨q0,q1,q2⟩:=hpl p (List.mem_of_getElem? hp1)
   obtain⟨q,rfl⟩:∃q:Nat,p=(q:Int):=⟨p.toNat,by omega⟩
   obtain⟨x,hx1⟩:∃x,a[q]?=some x:=⟨_,List.getElem?_eq_getElem (by omega)⟩
   obtain⟨z,hz1⟩:∃z,b[q]?=some z:=⟨_,List.getElem?_eq_getElem (by omega)⟩
   obtain⟨g1,o1,rfl,a0,a1,a2,a3⟩:=(RdTs.later ha HB.out).at4 hx1
   obtain⟨g2,o2,rfl,b0,b1,b2,b3⟩:=(RdTs.later hb HB.out).at4 hz1
   have hst:Hid (au (aQ ps keys) a b=orZ (way y.d (aJ x z)) (au (aQ (ps.drop (k+1)) (keys.drop (k+1))) a b)):=by
    show _=_
    rw[H1.out,lQ hp1 hy1]
    show orZ (way y.d (aJ a[(q:Int).toNat]! b[(q:Int).toNat]!)) _=_
    rw[Int.toNat_natCast,List.getElem!_of_getElem? hx1,List.getElem!_of_getElem? hz1]
   have hcall:=λW (h:Below wr.heap.size wr W)=>jT x z W (hC.step (aa HB.out h)) (za.2 x (List.mem_of_getElem? hx1)) (zb.2 z (List.mem_of_getElem? hz1))
   have hrg:=bF.rng x z
   have hk1:=ab h1 HB.out
   have hk2:=ab h2 HB.out
   generalize aJ x z=r at *
   generalize y.d=dn at *
   have x0:=λd os=>ab a0 (below_regrown wr d os)
   have x1:=λd os=>ab a1 (below_regrown wr d os)
   have x2:=λd os=>ab a2 (below_regrown wr d os)
   have x3:=λd os=>ab a3 (below_regrown wr d os)
   have y0:=λd os=>ab b0 (below_regrown wr d os)
   have y1:=λd os=>ab b1 (below_regrown wr d os)
   have y2:=λd os=>ab b2 (below_regrown wr d os)
   have y3:=λd os=>ab b3 (below_regrown wr d os)
   have q1':(q:Int)<(n:Int):=by omega
   have q2':(q:Int)<(m:Int):=by omega
   have HC:=Lib.hid (And.intro hk1 (And.intro hk2 hcd))
   clear hp1 hy1 hx hx1 hz1 a0 a1 a2 a3 b0 b1 b2 b3 hn hm hnp hno hpl hC ha hb za zb h1 h2 hp hky H1 hk1 hk2 hcd
   go_wp2
   refine wrq ?_;(repeat (any_goals (go_big_quiet_step ((go_at_call 79;exact Calls.regrown_of (hcall _ (below_regrown _ _ _)))))));all_goals (refine wqn ?_;intro d9 os9)
   have kq:=below_regrown wr d9 os9
   have e1:=ab HC.out.1 kq
   have e2:=ab HC.out.2.1 kq
   have e3:=ab HC.out.2.2 kq
   have HB2:=Lib.hid (aa HB.out kq)
   clear x0 x1 x2 x3 y0 y1 y2 y3 hcall kq hcp
   generalize Sort.grow (redrawn wr d9) os9=w2 at *
   obtain⟨r1,r2⟩:=hrg
   by_cases hz:r=0
   ·subst hz
    have hst2:Hid (au (aQ ps keys) a b=au (aQ (ps.drop (k+1)) (keys.drop (k+1))) a b):=by
     show _=_
     rw[hst.out]
     cases dn<;>rfl
    clear hst
    cases dn
    ·go_wp2
     go_roundw
     case rel=>exact⟨k+1,by omega,by go_num,hst2,HB2⟩
     case measure=>simp[intOf];omega
    ·go_wp2
     go_roundw
     case rel=>exact⟨k+1,by omega,by go_num,hst2,HB2⟩
     case measure=>simp[intOf];omega
   ·cases dn
    ·have hst2:Hid (au (aQ ps keys) a b=r):=by
      show _=_
      rw[hst.out]
      show orZ r _=r
      unfold orZ;rw[if_neg hz]
     have hq:(r != 0)=true:=by rw[bne_iff_ne];exact hz
     clear hst hz
     go_wp2
     go_ret
     exact⟨by rw[hst2.out];rfl,HB2.out⟩
    ·have hst2:Hid (au (aQ ps keys) a b = -r):=by
      show _=_
      rw[hst.out]
      show orZ (-r) _ = -r
      unfold orZ;rw[if_neg (by omega)]
     obtain⟨s,hs⟩:∃s,-r=s:=⟨_,rfl⟩
     have hq:(s != 0)=true:=by rw[bne_iff_ne];omega
     have hw:IntKind.i64.wrap (-r)=s:=by rw[IntKind.wrap_i64];omega
     rw[hs]at hst2
     clear hst hz
     go_wp2
     go_ret
     exact⟨by rw[hst2.out];rfl,HB2.out⟩
  ·obtain rfl:k=np:=by omega
   have hcall:=BF a b A B c d n m wr hn hm (hC.step HB.out) (RdTs.later ha HB.out) (RdTs.later hb HB.out) za zb
   have hst2:Hid (au (aQ ps keys) a b=cmpRow a b):=by
    show _=_
    rw[H1.out,List.drop_eq_nil_of_le (by omega)];rfl
   generalize cmpRow a b=z at *
   clear hn hm hnp hno hpl hC ha hb za zb h1 h2 hp hky H1
   go_wp2_with (go_at_call 80;refine hcall.mono ?_;rintro e w1 ⟨rfl,hb1⟩;have HF:=Lib.hid (aa HB.out hb1);clear hb1 hcall)
   go_ret
   exact⟨by rw[hst2.out];rfl,HF.out⟩
def putAt (cur:Array Value):Nat->List Value->Array Value
 | _,[]=>cur
 | o,v::r=>putAt (cur.setIfInBounds o v) (o+1) r
theorem lp:∀(vs:List Value) (o:Nat) (cur:Array Value),(putAt cur o vs).size=cur.size
 | [],_,_=>rfl
 | v::r,o,cur=>by rw[putAt,lp r];simp
theorem nL:∀(vs pre old post:List Value),old.length=vs.length->putAt (pre++(old++post)).toArray pre.length vs=(pre++(vs++post)).toArray
 | [],pre,old,post,h=>by
  have:old=[]:=List.eq_nil_of_length_eq_zero h
  subst this;rfl
 | v::r,pre,[],post,h=>by cases h
 | v::r,pre,u::old,post,h=>by
  have ih:=nL r (pre++[v]) old post (by simpa using h)
  rw[List.length_append,List.length_singleton]at ih
  have e:(pre++(u::old++post)).toArray.setIfInBounds pre.length v=(pre++[v]++(old++post)).toArray:=by
   rw[List.setIfInBounds_toArray,List.set_append_right _ _ (Nat.le_refl _),Nat.sub_self]
   simp
  rw[putAt,e,ih]
  simp
theorem eL (b:Nat) (T:TypeId) (fr:Nat × Nat):∀(vs:List Value) (o:Nat) (w:World) (cur:Array Value),w.heap[b]?=some (.cells cur T fr)->(w.setCells b o vs).heap[b]?=some (.cells (putAt cur o vs) T fr)
 | [],_,_,_,h=>h
 | v::r,o,w,cur,h=>by
  rw[World.setCells,putAt]
  refine eL b T fr r (o+1) _ _ ?_
  simp[World.setCell,Array.getElem?_modify,h]
theorem below_setCells {B b:Nat} (hB:B<=b):∀(vs:List Value) (o:Nat) (w:World),Below B w (w.setCells b o vs)
 | [],_,w=>Below.refl B w
 | v::r,o,w=>by
  rw[World.setCells]
  exact((Below.refl B w).setCell (p:=⟨b,o,none⟩) hB v).trans (below_setCells hB r (o+1) _)
theorem kr {P:Program} (w:World) (t e ty:TypeId) (z:Value) (ht:P.underlying t=some (.slice e)) (hv:∀w,(zeroValue e).run P w=.ok z w) (b o n c:Nat) (hn:0<n)
  (h1:∀u∈(Builtin.zeroCells z.cells n).toList,u.oneCell'=true) (hc:∀j,j<(Builtin.zeroCells z.cells n).size->(w.cell? ⟨b,o+j,none⟩).isSome=true/\w.frozen? ⟨b,o+j,none⟩=false) :
  (Builtin.clear_ #[t] ty #[.slice (some ⟨b,o,none⟩) n c]).run P w=.ok (.tuple #[]) (w.setCells b o (Builtin.zeroCells z.cells n).toList):=by
 have hst:=run_storeCells_cells (P:=P) b o (Builtin.zeroCells z.cells n).toList 0 w (λj hj=>(hc j (by simpa using hj)).1) (λj hj=>(hc j (by simpa using hj)).2) h1
 simp only[Nat.add_zero]at hst
 obtain⟨m,rfl⟩:∃m,n=m+1:=⟨n-1,by omega⟩
 simp[Builtin.clear_,run_underlying ht,hv,hst]
theorem bA {b k:Nat} (h:b≠k):∀{vs:List Value} {o:Nat} {w:World},(w.setCells b o vs).heap[k]?=w.heap[k]?
 | [],_,_=>rfl
 | v::r,o,w=>by
  rw[World.setCells,bA h,Below.heap_setCell _ _ _ _ (λe=>h e.symm)]
def bN (b:Nat->Bool) (vs:List Value) (j:Nat):List Value:=aI b vs j++vs.drop (aI b vs j).length
theorem m7 (b:Nat->Bool) (vs:List Value) {j:Nat} (hj:j<=vs.length):(bN b vs j).length=vs.length:=by
 have:=kG b vs j
 unfold bN
 rw[List.length_append,List.length_drop];omega
theorem ww (b:Nat->Bool) (vs:List Value) {j:Nat}:(bN b vs j)[j]?=vs[j]?:=by
 have:=kG b vs j
 unfold bN
 rw[List.getElem?_append_right this,List.getElem?_drop]
 congr 1;omega
theorem lT {b:Nat->Bool} {vs:List Value} {k:Nat} (_hk:k<vs.length) (h1:b k=true) (h2:∀j,j<k->b j=false):aI b vs (k+1)=vs.take k:=by
 have h3:∀j,j<=k->aI b vs j=vs.take j:=by
  intro j
  induction j with
  | zero=>intro _;rfl
  | succ j ih =>
   intro hj
   rw[aI,h2 j (by omega),ih (by omega),iu]
   simp
 rw[aI,if_pos h1,h3 k (Nat.le_refl _)]
theorem yR {b:Nat->Bool} {vs:List Value} {n:Nat} (h2:∀j,j<n->b j=false):aI b vs n=vs.take n:=by
 induction n with
 | zero=>rfl
 | succ j ih =>
  rw[aI,h2 j (by omega),ih (λk hk=>h2 k (by omega)),iu]
  simp
theorem pt {b:Nat->Bool} {vs:List Value} {k:Nat} (hk:k<vs.length) (h1:b k=true) (h2:∀j,j<k->b j=false):bN b vs (k+1)=vs/\(aI b vs (k+1)).length=k:=by
 have hl:(aI b vs (k+1)).length=k:=by rw[lT hk h1 h2,List.length_take];omega
 refine⟨?_,hl⟩
 unfold bN
 rw[hl,lT hk h1 h2,List.take_append_drop]
theorem rB {b:Nat->Bool} {vs:List Value} {j:Nat} (h:b j=true):bN b vs (j+1)=bN b vs j/\(aI b vs (j+1)).length=(aI b vs j).length:=by
 have:aI b vs (j+1)=aI b vs j:=by rw[aI,if_pos h]
 exact⟨by unfold bN;rw[this],by rw[this]⟩
theorem sT {b:Nat->Bool} {vs:List Value} {j:Nat} {v:Value} (hv:vs[j]?=some v) (h:b j=false):bN b vs (j+1)=(bN b vs j).set (aI b vs j).length v/\(aI b vs (j+1)).length=(aI b vs j).length+1:=by
 have hk:aI b vs (j+1)=aI b vs j++[v]:=by rw[aI,h,hv];simp
 have hle:=kG b vs j
 have hj:j<vs.length:=(List.getElem?_eq_some_iff.1 hv).1
 refine⟨?_,by rw[hk,List.length_append];rfl⟩
 unfold bN
 rw[hk,List.length_append,List.set_append_right _ _ (Nat.le_refl _),Nat.sub_self,List.drop_eq_getElem_cons (l:=vs) (i:=(aI b vs j).length) (by omega),List.append_assoc]
 rfl
def bI (g:Nat) (vs rest:List Value) (w:World):Prop:=w.heap[g]?=some (Obj.cells (vs++rest).toArray 69 (0,0))
theorem bI.cell {g:Nat} {vs rest:List Value} {w:World} (h:bI g vs rest w) {j:Nat} {v:Value} (hv:vs[j]?=some v):w.cell? ⟨g,j,none⟩=some v:=by
 rw[Lib.cell_of_heap h,List.getElem?_toArray,List.getElem?_append_left (List.getElem?_eq_some_iff.1 hv).1];exact hv
theorem bI.frozen {g:Nat} {vs rest:List Value} {w:World} (h:bI g vs rest w) (i:Nat):w.frozen? ⟨g,i,none⟩=false:=Lib.frozen_of_heap h i
theorem bI.lt {g:Nat} {vs rest:List Value} {w:World} (h:bI g vs rest w):g<w.heap.size:=(Array.getElem?_eq_some_iff.1 h).1
theorem bI.put {g:Nat} {vs rest:List Value} {w:World} (h:bI g vs rest w) {i:Nat} (hi:i<vs.length) (v:Value):bI g (vs.set i v) rest (w.setCell ⟨g,i,none⟩ v):=by
 unfold bI at h ⊢
 simp only[World.setCell,Array.getElem?_modify,h,if_true,Option.map_some]
 simp[List.set_append_left _ _ hi]
theorem bI.rd {g:Nat} {vs rest:List Value} {w:World} (h:bI g vs rest w):Rd w (some ⟨g,0,none⟩) vs:=.inr ⟨g,0,rfl,λj u hu=>by rw[Nat.zero_add];exact h.cell hu⟩
def Dc (g n cap r0:Nat) (b:Nat->Bool) (vs:List Value) (S:Nat->World->Prop) (e:Ending) (w':World):Prop:=
 ∃rest',e=.returned (.slice (some ⟨g,0,none⟩) (aI b vs n).length cap)/\bI g (aI b vs n) rest' w'/\(aI b vs n).length+rest'.length=n+r0/\S n w'
theorem nn (n:Nat):(Builtin.zeroCells (Value.slice none 0 0).cells n).size=n:=by
 unfold Builtin.zeroCells
 simp[Value.cells]
theorem wO (n:Nat):∀u∈(Builtin.zeroCells (Value.slice none 0 0).cells n).toList,u.oneCell'=true:=by
 intro u hu
 unfold Builtin.zeroCells at hu
 simp only[Array.toList_map,List.mem_map,Value.cells]at hu
 obtain⟨i,_,rfl⟩:=hu
 have:i % 1=0:=Nat.mod_one i
 simp[this]
 rfl
theorem pS (n:Nat):(Builtin.zeroCells (Value.slice none 0 0).cells n).toList.length=n:=by rw[Array.length_toList,nn]
theorem uh (F:Nat) (cb:Array Value) (eg:∀args w,(callFunc F args).run Tryz.prog w=.ok (.enter F args) w) (b:Nat->Bool) (S:Nat->World->Prop) (rows:List (List Tm)) (vs rest:List Value) (g n cap r0:Nat) (w:World) (hn:rows.length=n) (hvn:vs.length=n) (hr0:rest.length=r0) (hl:n<=1000000000) (hcap:n<=cap)
  (hR:∀k W,S k W->All 1 (RdRow W) vs rows) (hP:∀k W i v,S k W->S k (W.setCell ⟨g,i,none⟩ v)) (hQ:∀k W o us,S k W->S k (W.setCells g o us))
  (hc:∀k row W A' c' us,rows[k]?=some row->S k W->bI g us rest W->row.length<=c'->RdTs W A' row->Calls Tryz.prog F (#[.slice A' row.length c']++cb) W λe W'=>e=.returned (.bool (b k))/\S (k+1) W'/\bI g us rest W')
  (h0:S 0 w) (hg:bI g vs rest w):Calls Tryz.prog 68 #[.slice (some ⟨g,0,none⟩) n cap,.func (.func F) #[] cb] w (Dc g n cap r0 b vs S):=by
 have hI:=pk F cb eg b (λk W=>S k W/\bI g vs rest W) rows n (some ⟨g,0,none⟩) cap w hn hl (λk W h=>⟨vs,h.2.rd,hR k W h.1⟩)
  (λk row W A' c' h1 h2 h3 h4=>(hc k row W A' c' vs h1 h2.1 h2.2 h3 h4).mono λ_ _ h=>⟨h.1,h.2⟩) ⟨h0,hg⟩
 have H:=Lib.hid (And.intro hn (And.intro hvn (And.intro hr0 (And.intro hR (And.intro hP hQ)))))
 have HC:=Lib.hid hc
 clear hn hvn hr0 hR hP hQ hc h0 hg
 go_enter Tryz.func68,Tryz.ntmps68
 go_wp2_with fail
 refine hI.mono ?_
 intro e w1 hD
 rcases hD with ⟨rfl,h1,h2⟩|⟨k,hk,rfl,h1,h2,h3⟩
 ·have HF:Hid (Dc g n cap r0 b vs S (.returned (.slice (some ⟨g,0,none⟩) n cap)) w1):=by
   obtain⟨e1,e2,e3,_⟩:=H.out
   have hk:aI b vs n=vs:=by rw[yR h1,List.take_of_length_le (by omega)]
   exact⟨rest,by rw[hk,e2],by rw[hk];exact h2.2,by rw[hk,e2,e3],h2.1⟩
  clear h1 h2 hI
  go_wp2
  go_ret
  exact HF.out
 ·have hkn:((k:Int) == -1)=false:=by rw[beq_eq_false_iff_ne];omega
  have HD:Hid (k=(aI b vs (k+1)).length/\S (k+1) w1/\bI g (bN b vs (k+1)) rest w1):=by
   obtain⟨e1,e2,e3,_⟩:=H.out
   obtain⟨d1,d2⟩:=pt (b:=b) (vs:=vs) (k:=k) (by omega) h1 h2
   exact⟨d2.symm,h3.1,by rw[d1];exact h3.2⟩
  clear h1 h2 h3 hI
  go_wp2
  go_loopw [5,6,7] (λvi vj u wr=>∃i j:Nat,vi=.int .i64 i/\vj=.int .i64 j/\i<j/\j<=n/\Hid (i=(aI b vs j).length/\S j wr/\bI g (bN b vs j) rest wr)) (λ_ j _ _=>n-(intOf j).toNat)
  case atStart=>exact⟨k,k+1,rfl,by go_num,by omega,by omega,HD⟩
  case round =>
   clear HD
   obtain⟨i,j,rfl,rfl,hij,hj,HJ⟩:=hrel
   by_cases hlt:j<n
   ·obtain⟨row,hrow⟩:∃row,rows[j]?=some row:=⟨_,List.getElem?_eq_getElem (by rw[H.out.1];exact hlt)⟩
    obtain⟨cs,hcs,⟨A',c',rfl,hle,hrd⟩,hx⟩:=(H.out.2.2.2.1 j wr HJ.out.2.1).at_ hrow
    have hv:=hx 0 _ rfl
    rw[Nat.mul_one,Nat.add_zero]at hv
    have hcell:=HJ.out.2.2.cell (j:=j) (by rw[ww];exact hv)
    have hcall:=HC.out j row wr A' c' _ hrow HJ.out.2.1 HJ.out.2.2 hle hrd
    have HV:=Lib.hid hv
    clear hrow hcs hle hrd hx hv
    cases hb:b j
    ·rw[hb]at hcall
     have HB:=Lib.hid hb
     clear hb
     go_wp2_with fail
     refine hcall.mono ?_
     rintro e w2 ⟨rfl,hS2,hV2⟩
     have hi2:i<(bN b vs j).length:=by rw[m7 _ _ (by rw[H.out.2.1];omega),H.out.2.1];omega
     obtain⟨vold,ci⟩:∃u,w2.cell? ⟨g,i,none⟩=some u:=⟨_,hV2.cell (j:=i) (List.getElem?_eq_getElem hi2)⟩
     have fi:=hV2.frozen i
     obtain⟨d1,d2⟩:=sT HV.out HB.out
     have HN:Hid (i+1=(aI b vs (j+1)).length/\S (j+1) (w2.setCell ⟨g,i,none⟩ (.slice A' row.length c'))/\bI g (bN b vs (j+1)) rest (w2.setCell ⟨g,i,none⟩ (.slice A' row.length c'))):=
      ⟨by rw[d2,←HJ.out.1],H.out.2.2.2.2.1 _ _ _ _ hS2,by rw[d1,←HJ.out.1];exact hV2.put hi2 _⟩
     clear hS2 hV2 hi2 d1 d2 HJ hcall hcell
     go_wp2
     go_roundw
     case rel=>exact⟨i+1,j+1,by go_num,by go_num,by omega,by omega,HN⟩
     case measure=>simp[intOf];omega
    ·rw[hb]at hcall
     have HB:=Lib.hid hb
     clear hb
     go_wp2_with fail
     refine hcall.mono ?_
     rintro e w2 ⟨rfl,hS2,hV2⟩
     obtain⟨d1,d2⟩:=rB (vs:=vs) HB.out
     have HN:Hid (i=(aI b vs (j+1)).length/\S (j+1) w2/\bI g (bN b vs (j+1)) rest w2):=⟨by rw[d2,←HJ.out.1],hS2,by rw[d1];exact hV2⟩
     clear hS2 hV2 d1 d2 HJ hcall hcell
     go_wp2
     go_roundw
     case rel=>exact⟨i,j+1,rfl,by go_num,by omega,by omega,HN⟩
     case measure=>simp[intOf];omega
   ·obtain rfl:j=n:=by omega
    have hzv:∀W,(zeroValue 69).run Tryz.prog W=.ok (.slice none 0 0) W:=Tryz.zeroValue69
    have hcl:∀ty,(Builtin.clear_ #[23] ty #[.slice (some ⟨g,i,none⟩) (j-i) (cap-i)]).run Tryz.prog wr=.ok (.tuple #[]) (wr.setCells g i (Builtin.zeroCells (Value.slice none 0 0).cells (j-i)).toList):=
     λty=>kr wr _ _ ty _ Tryz.underlying23 hzv g i _ _ (by omega) (wO _) (λq hq=>by
      rw[nn]at hq
      have hlen:(bN b vs j).length=j:=by rw[m7 _ _ (by rw[H.out.2.1];omega),H.out.2.1]
      exact⟨by rw[HJ.out.2.2.cell (List.getElem?_eq_getElem (by omega:i+q<_))];rfl,HJ.out.2.2.frozen _⟩)
    have HF:Hid (Dc g j cap r0 b vs S (.returned (.slice (some ⟨g,0,none⟩) i cap)) (wr.setCells g i (Builtin.zeroCells (Value.slice none 0 0).cells (j-i)).toList)):=by
     obtain⟨e1,e2,e3,e4,e5,e6⟩:=H.out
     have h1:=HJ.out.2.2
     have hpm:=nL (Builtin.zeroCells (Value.slice none 0 0).cells (j-i)).toList (aI b vs j) (vs.drop (aI b vs j).length) rest (by rw[List.length_drop,←HJ.out.1,pS,e2])
     have hh:=eL g _ _ (Builtin.zeroCells (Value.slice none 0 0).cells (j-i)).toList i wr _ h1
     refine⟨(Builtin.zeroCells (Value.slice none 0 0).cells (j-i)).toList++rest,by rw[HJ.out.1],?_,?_,e6 _ _ _ _ HJ.out.2.1⟩
     ·unfold bI
      rw[hh]
      congr 2
      rw[←hpm,←HJ.out.1]
      unfold bN
      rw[List.append_assoc,←HJ.out.1]
     ·rw[List.length_append,pS,e3,←HJ.out.1];omega
    generalize wr.setCells g i (Builtin.zeroCells (Value.slice none 0 0).cells (j-i)).toList=w9 at *
    clear HJ hzv
    go_wp2
    go_ret
    exact HF.out
namespace Om
def zZ (l:List UInt8):Nat:=l.foldl (λa c=>10*a+(c.toNat-48)) 0
theorem uw (l:List UInt8) (c:UInt8):zZ (l++[c])=10*zZ l+(c.toNat-48):=by simp[zZ,List.foldl_append]
theorem gu {k:Nat} (h:k<10):(UInt8.ofNat (48+k)).toNat=48+k:=by
 rw[UInt8.toNat_ofNat'];omega
theorem tn (u:Nat):zZ (Lib.decDigits u)=u:=by
 induction u using Nat.strongRecOn with
 | _ u ih =>
  by_cases h:u<10
  ·rw[Lib.decDigits,dif_pos h]
   show 10*0+((UInt8.ofNat (48+u)).toNat-48)=u
   rw[gu h];omega
  ·rw[Lib.decDigits,dif_neg h,uw,ih (u / 10) (by omega),gu (by omega)];omega
theorem uj {a b:Nat} (h:Lib.decDigits a=Lib.decDigits b):a=b:=by rw[←tn a,←tn b,h]
theorem m8 (u:Nat):∀c∈Lib.decDigits u,48<=c.toNat/\c.toNat<=57:=by
 induction u using Nat.strongRecOn with
 | _ u ih =>
  intro c hc
  by_cases h:u<10
  ·rw[Lib.decDigits,dif_pos h]at hc
   simp only[List.mem_cons,List.not_mem_nil,or_false]at hc
   subst hc;rw[gu h];omega
  ·rw[Lib.decDigits,dif_neg h]at hc
   rcases List.mem_append.1 hc with hc|hc
   ·exact ih (u / 10) (by omega) c hc
   ·simp only[List.mem_cons,List.not_mem_nil,or_false]at hc
    subst hc;rw[gu (by omega)];omega
theorem sC (n:Int):∀c∈Lib.itoa n,c.toNat=45∨48<=c.toNat/\c.toNat<=57:=by
 intro c hc
 unfold Lib.itoa at hc
 split at hc
 ·rcases List.mem_cons.1 hc with rfl|hc
  ·exact .inl rfl
  ·exact .inr (m8 _ c hc)
 ·exact .inr (m8 _ c hc)
theorem kH {n:Int} {c:UInt8} (h:c=32∨c=58):c ∉ Lib.itoa n:=by
 intro hc
 have:=sC n c hc
 rcases h with rfl|rfl
 ·rcases this with h|h
  ·cases h
  ·exact absurd h.1 (by decide)
 ·rcases this with h|h
  ·cases h
  ·exact absurd h.2 (by decide)
theorem qY {u:Nat} {l:List UInt8} (h:45::l=Lib.decDigits u):False:=by
 have:=m8 u 45 (by rw[←h];simp)
 exact absurd this.1 (by decide)
theorem qT {a b:Int} (h:Lib.itoa a=Lib.itoa b):a=b:=by
 unfold Lib.itoa at h
 split at h<;>split at h
 ·injection h with _ h
  have:=uj h
  omega
 ·exact(qY h).elim
 ·exact(qY h.symm).elim
 ·have:=uj h
  omega
theorem sV (c:UInt8):∀(a b:List UInt8) {x y:List UInt8},c ∉ a->c ∉ b->a++c::x=b++c::y->a=b/\x=y
 | [],[],_,_,_,_,h=>by injection h with _ h;exact⟨rfl,h⟩
 | [],d::b,_,_,_,hb,h=>by injection h with h _;exact absurd (by rw[h];simp) hb
 | d::a,[],_,_,ha,_,h=>by injection h with h _;exact absurd (by rw[h];simp) ha
 | d::a,e::b,_,_,ha,hb,h=>by
  injection h with h1 h2
  obtain⟨h3,h4⟩:=sV c a b (λk=>ha (by simp[k])) (λk=>hb (by simp[k])) h2
  exact⟨by rw[h1,h3],h4⟩
def bw (s:List UInt8):List UInt8:=32::(Lib.itoa s.length++58::s)
theorem ji {s t r q:List UInt8} (h:bw s++r=bw t++q):s=t/\r=q:=by
 unfold bw at h
 rw[List.cons_append,List.cons_append,List.append_assoc,List.append_assoc,List.cons_append,List.cons_append]at h
 injection h with _ h
 obtain⟨h1,h2⟩:=sV 58 _ _ (kH (.inr rfl)) (kH (.inr rfl)) h
 have:=qT h1
 exact List.append_inj h2 (by omega)
def qO (k:Int) (x l y:List UInt8):List UInt8:=Lib.itoa k++(bw x++(bw l++bw y))
theorem yN {k k':Int} {x l y x' l' y' r r':List UInt8} (h:qO k x l y++r=qO k' x' l' y'++r'):k=k'/\x=x'/\l=l'/\y=y'/\r=r':=by
 unfold qO at h
 simp only[List.append_assoc]at h
 have h0:∀(s q:List UInt8),bw s++q=32::(Lib.itoa s.length++58::(s++q)):=λs q=>by simp[bw]
 have hh:=h
 rw[h0,h0 x']at hh
 obtain⟨h1,h2⟩:=sV 32 _ _ (kH (.inl rfl)) (kH (.inl rfl)) hh
 have e1:=qT h1
 subst e1
 have h3:=List.append_cancel_left h
 obtain⟨e2,h4⟩:=ji h3
 obtain⟨e3,h5⟩:=ji h4
 obtain⟨e4,h6⟩:=ji h5
 exact⟨rfl,e2,e3,e4,h6⟩
theorem qN (k:Int) (x l y:List UInt8):qO k x l y≠[]:=by
 unfold qO bw;simp
end Om
end Go.Proofs.YtjldjeenfnahoaaGreatDoor
