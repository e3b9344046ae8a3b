/- The library's slices.Index, Contains over texts. The program -/
import Derived.Test.YtoejnneknpoanaaGreatDoorJOrd2
import Derived.Deep.MidRow
set_option maxHeartbeats 8000000
set_option maxRecDepth 100000
namespace Go.Proofs.YtoejnneknpoanaaGreatDoor
open Go Go.RowKit
theorem beq_str (x y:ByteArray):(x.toList == y.toList)=decide (y=x):=by
 by_cases h:y=x
 ·subst h;simp
 ·simp only[h,decide_false];rw[Lib.bytes_beq_false_iff];exact λe=>h e.symm
theorem idxTxt (l:List ByteArray) (x:ByteArray) (A:Option Addr) (c:Nat) (w:World) (hl:l.length<=281474976710656) (hr:Rd w A (l.map Value.string)) :
  Calls Tryz.prog 123 #[.slice A l.length c,.string x] w λe w'=>e=.returned (.int .i64 (Lib.idxOfS l x))/\w=w':=by
 go_enter Tryz.func123,Tryz.ntmps123
 go_wp2
 go_loop [8] (λi=>∃k:Nat,k<=l.length/\i=.int .i64 k/\Hid (Lib.idxOfS l x=Lib.idxFromS (l.drop k) x k)) (λi=>l.length-(intOf i).toNat)
 case atStart=>exact⟨0,by omega,rfl,rfl⟩
 case round =>
  obtain⟨k,hk,rfl,H⟩:=hrel
  by_cases hlt:k<l.length
  ·obtain⟨y,hx⟩:∃x,l[k]?=some x:=⟨_,List.getElem?_eq_getElem hlt⟩
   obtain⟨g,o,rfl,hcx⟩:=hr.at_ (j:=k) (u:=.string y) (by simp[hx])
   have hd:l.drop k=y::l.drop (k+1):=by
    rw[List.drop_eq_getElem_cons hlt]
    rw[List.getElem?_eq_getElem hlt]at hx
    injection hx with hx;rw[hx]
   have H2:Hid (Lib.idxOfS l x=if (x.toList == y.toList) then (k:Int) else Lib.idxFromS (l.drop (k+1)) x (k+1)):=by
    show Lib.idxOfS l x=_
    rw[H.out,hd,Lib.idxFromS,beq_str];simp
   clear hx hd H hr
   cases hx0:(x.toList == y.toList)
   ·rw[hx0]at H2
    go_wp2
    go_round
    case rel=>exact⟨k+1,by omega,by go_num,H2⟩
    case measure=>simp[intOf];omega
   ·rw[hx0]at H2
    go_wp2
    go_ret
    exact⟨by rw[H2.out];rfl,rfl⟩
  ·have H2:Hid (Lib.idxOfS l x = -1):=by
    show Lib.idxOfS l x=_
    rw[H.out,List.drop_eq_nil_of_le (by omega)];rfl
   clear H
   go_wp2
   go_ret
   exact⟨by rw[H2.out];rfl,rfl⟩
open Um Fm Om
theorem numInfo:(Tryz.prog.info? 3).map (λi=>(i.zero,i.size,i.bytes))=some (some (.int .i64 0),1,8):=by kernel_rfl
def placesL (vars names:List ByteArray):List Int:=names.map λs=>Lib.idxOfS vars s
def NumsRo (l:List Int) (w:World) (e:Ending) (w':World):Prop:=∃v,e=.returned v/\w'.ownsRow w.heap.size 3 1 v l.length (l.map (Value.int .i64))/\Below w.heap.size w w'
theorem ordPlaces (vars names:List ByteArray) (b nv cv m c:Nat) (Av A:Option Addr) (w:World) (hnv:vars.length=nv) (hm:names.length=m) (hlv:nv<=1000000) (hlm:m<=1000000) (h0:w.cell? ⟨b,0,none⟩=some (.slice Av nv cv)) (hv:Rd w Av (vars.map Value.string)) (hr:Rd w A (names.map Value.string)) :
  Calls Tryz.prog 92 #[.pointer (some ⟨b,0,none⟩),.slice A m c] w (NumsRo (placesL vars names) w):=by
 have HM:=Lib.hid hm
 have H:=Lib.hid (And.intro h0 (And.intro hv (And.intro hr hnv)))
 have hin:Tryz.prog.underlying 69=some (.slice 3):=Tryz.underlying69
 have HS:Hid (w.ownsRow w.heap.size 3 1 (.slice none 0 0) 0 ((placesL vars (names.take 0)).map (Value.int .i64))/\Below w.heap.size w w):=⟨World.ownsRow_nil _ _ _ _,Below.refl _ _⟩
 clear hm h0 hv hr hnv
 go_enter Tryz.func92,Tryz.ntmps92
 go_wp2
 go_loopw [4,6,9] (λv u i wr=>∃k:Nat,k<=m/\i=.int .i64 k/\Hid (wr.ownsRow w.heap.size 3 1 v k ((placesL vars (names.take k)).map (Value.int .i64))/\Below w.heap.size w wr)) (λ_ _ i _=>m-(intOf i).toNat)
 case atStart=>exact⟨0,by omega,rfl,HS⟩
 case round =>
  clear HS
  obtain⟨k,hk,rfl,HK⟩:=hrel
  obtain⟨A4,c4,rfl,_,_⟩:=own_slice HK.out.1
  by_cases hlt:k<m
  ·obtain⟨s,hs⟩:∃s,names[k]?=some s:=⟨_,List.getElem?_eq_getElem (by rw[HM.out];exact hlt)⟩
   obtain⟨g,o,rfl,hcx⟩:=(H.out.2.2.1.later HK.out.2).at_ (j:=k) (u:=.string s) (by rw[List.getElem?_map,hs];rfl)
   have hc0:=cell_on H.out.1 HK.out.2
   have hI:=idxTxt vars s Av cv wr (by rw[H.out.2.2.2];omega) (H.out.2.1.later HK.out.2)
   rw[H.out.2.2.2]at hI
   have hsn:Hid ((placesL vars (names.take (k+1))).map (Value.int .i64)=(placesL vars (names.take k)).map (Value.int .i64)++[.int .i64 (Lib.idxOfS vars s)]):=by
    show _=_
    rw[take_snoc_of hs];simp[placesL]
   generalize Lib.idxOfS vars s=z at *
   have hown:=HK.out.1.alloc (.cells #[.int .i64 z] 3)
   have hzz:=HK.out.2.size
   clear hs
   go_wp2_with (first
    | (go_at_call 123;refine hI.mono ?_;rintro e w1 ⟨rfl,rfl⟩)
    | (at_builtin;refine wpList_appG rfl rfl hin numInfo rfl (by omega) rfl hown rfl (Rd.of_block (heap_alloc_new wr _) rfl) rfl (by intro u hu;simp only[List.mem_cons,List.not_mem_nil,or_false]at hu;subst hu;rfl) (by omega) (by omega) (by simp;omega) ?_;intro v' w6 own6 hb6 hg6))
   have HF:Hid (w6.ownsRow w.heap.size 3 1 v' (k+1) ((placesL vars (names.take (k+1))).map (Value.int .i64))/\Below w.heap.size w w6):=⟨by rw[hsn.out];exact own6,(HK.out.2.alloc hzz _).trans hb6⟩
   clear own6 hb6 hg6 hown
   go_roundw
   case rel=>exact⟨k+1,by omega,by go_num,HF⟩
   case measure=>simp[intOf];omega
  ·obtain rfl:k=m:=by omega
   have HF:Hid (NumsRo (placesL vars names) w (.returned (.slice A4 k c4)) wr):=by
    have:=HK.out
    rw[List.take_of_length_le (by rw[HM.out];exact Nat.le_refl _)]at this
    exact⟨_,rfl,by unfold placesL at this ⊢;rw[List.length_map,HM.out];exact this.1,this.2⟩
   clear HK
   go_wp2
   go_ret
   exact HF.out
def TxtsR (l:List ByteArray) (w:World) (e:Ending) (w':World):Prop:=∃v,e=.returned v/\w'.ownsRow w.heap.size 9 1 v l.length (l.map Value.string)/\Below w.heap.size w w'
theorem ordNames (keys:List Ky) (m c:Nat) (A:Option Addr) (w:World) (hm:keys.length=m) (hlm:m<=1000000) (hr:RdKey w A keys) :
  Calls Tryz.prog 93 #[.slice A m c] w (TxtsR (keys.map (·.v)) w):=by
 have HM:=Lib.hid hm
 have H:=Lib.hid hr
 have hin:Tryz.prog.underlying 22=some (.slice 9):=Tryz.underlying22
 have HS:Hid (w.ownsRow w.heap.size 9 1 (.slice none 0 0) 0 (((keys.take 0).map (·.v)).map Value.string)/\Below w.heap.size w w):=⟨World.ownsRow_nil _ _ _ _,Below.refl _ _⟩
 clear hm hr
 go_enter Tryz.func93,Tryz.ntmps93
 go_wp2
 go_loopw [2,4,7] (λv u i wr=>∃k:Nat,k<=m/\i=.int .i64 k/\Hid (wr.ownsRow w.heap.size 9 1 v k (((keys.take k).map (·.v)).map Value.string)/\Below w.heap.size w wr)) (λ_ _ i _=>m-(intOf i).toNat)
 case atStart=>exact⟨0,by omega,rfl,HS⟩
 case round =>
  clear HS
  obtain⟨k,hk,rfl,HK⟩:=hrel
  obtain⟨A4,c4,rfl,_,_⟩:=own_slice HK.out.1
  by_cases hlt:k<m
  ·obtain⟨s,hs⟩:∃s,keys[k]?=some s:=⟨_,List.getElem?_eq_getElem (by rw[HM.out];exact hlt)⟩
   obtain⟨g,o,cs,rfl,_,rfl,hx⟩:=(RdL.mono H.out HK.out.2 (λ_ _ _ h=>h)).at_ (by omega) hs
   have c0:wr.cell? ⟨g,o+k*2,none⟩=some (.string s.v):=hx 0 _ rfl
   have c1:wr.cell? ⟨g,o+k*2+1,none⟩=some (.bool s.d):=hx 1 _ rfl
   have hsn:Hid (((keys.take (k+1)).map (·.v)).map Value.string=((keys.take k).map (·.v)).map Value.string++[.string s.v]):=by
    show _=_
    rw[take_snoc_of hs];simp
   have hown:=(HK.out.1.alloc (.cells #[.string s.v,.bool s.d] 72)).alloc (.cells #[.string s.v] 9)
   have hzz:=HK.out.2.size
   have hB2:Below w.heap.size w ((wr.alloc (.cells #[.string s.v,.bool s.d] 72)).alloc (.cells #[.string s.v] 9)):=(HK.out.2.alloc hzz _).alloc (by simp;omega) _
   have HB2:=Lib.hid hB2
   clear hs hx hB2
   go_wp2_with (at_builtin;refine wpList_appG rfl rfl hin txtInfo rfl (by omega) rfl hown rfl (Rd.of_block (heap_two_2 wr _ _) rfl) rfl (by intro u hu;simp only[List.mem_cons,List.not_mem_nil,or_false]at hu;subst hu;rfl) (by omega) (by omega) (by simp;omega) ?_;intro v' w6 own6 hb6 hg6)
   have HF:Hid (w6.ownsRow w.heap.size 9 1 v' (k+1) (((keys.take (k+1)).map (·.v)).map Value.string)/\Below w.heap.size w w6):=⟨by rw[hsn.out];exact own6,HB2.out.trans hb6⟩
   clear own6 hb6 hg6 hown
   go_roundw
   case rel=>exact⟨k+1,by omega,by go_num,HF⟩
   case measure=>simp[intOf];omega
  ·obtain rfl:k=m:=by omega
   have HF:Hid (TxtsR (keys.map (·.v)) w (.returned (.slice A4 k c4)) wr):=by
    have:=HK.out
    rw[List.take_of_length_le (by rw[HM.out];exact Nat.le_refl _)]at this
    exact⟨_,rfl,by rw[List.length_map,HM.out];exact this.1,this.2⟩
   clear HK
   go_wp2
   go_ret
   exact HF.out
open Lx Tx
def keysP (ps:List Int) (keys:List Ky):List (Nat × Bool):=List.zipWith (λp k=>(p.toNat,k.d)) ps keys
theorem keysP_drop {ps:List Int} {keys:List Ky} {k:Nat} {p:Int} {y:Ky} (hp:ps[k]?=some p) (hy:keys[k]?=some y):keysP (ps.drop k) (keys.drop k)=(p.toNat,y.d)::keysP (ps.drop (k+1)) (keys.drop (k+1)):=by
 rw[drop_cons_of hp,drop_cons_of hy];rfl
theorem ordCmp (a b:List Tm) (ps:List Int) (keys:List Ky) (pb kb wb n m c d np cp no co:Nat) (A B Ap Ao:Option Addr) (w:World) (hn:a.length=n) (hm:b.length=m) (hnp:ps.length=np) (hno:keys.length=no) (hpn:np=no) (hlp:np<=1000000)
  (hpl:∀p∈ps,0<=p/\p<n/\p<m) (hC:CtxT w) (ha:RdTs w A a) (hb:RdTs w B b) (za:smallRow a) (zb:smallRow b)
  (h0:w.cell? ⟨pb,0,none⟩=some (.slice Ap np cp)) (h1:w.cell? ⟨kb,0,none⟩=some (.pointer (some ⟨wb,0,none⟩))) (h2:w.cell? ⟨wb,7,none⟩=some (.slice Ao no co)) (hp:Rd w Ap (ps.map (Value.int .i64))) (hk:RdKey w Ao keys) :
  Calls Tryz.prog 95 #[.slice A n c,.slice B m d,.pointer (some ⟨pb,0,none⟩),.pointer (some ⟨kb,0,none⟩)] w λe w'=>e=.returned (.int .i64 (cmpKeys (keysP ps keys) a b))/\Below w.heap.size w w':=by
 subst hpn
 have hln:n<=1000000:=by rw[←hn];exact za.1
 have hlm:m<=1000000:=by rw[←hm];exact zb.1
 have H:=Lib.hid (And.intro hn (And.intro hm (And.intro hnp (And.intro hno (And.intro hpl (And.intro hC (And.intro ha (And.intro hb (And.intro za (And.intro zb (And.intro h1 (And.intro h2 (And.intro hp hk)))))))))))))
 clear hn hm hnp hno hpl hC ha hb za zb h1 h2 hp hk
 go_enter Tryz.func95,Tryz.ntmps95
 go_wp2
 go_loopw [7,8,9,12] (λu7 u8 u9 i wr=>∃k:Nat,k<=np/\i=.int .i64 k/\Hid (cmpKeys (keysP ps keys) a b=cmpKeys (keysP (ps.drop k) (keys.drop k)) a b)/\Hid (Below w.heap.size w wr)) (λ_ _ _ i _=>np-(intOf i).toNat)
 case atStart=>exact⟨0,by omega,rfl,rfl,Below.refl _ _⟩
 case round =>
  obtain⟨k,hk,rfl,H1,HB⟩:=hrel
  obtain⟨hn,hm,hnp,hno,hpl,hC,ha,hb,za,zb,h1,h2,hp,hky⟩:=H.out
  by_cases hlt:k<np
  ·obtain⟨p,hp1⟩:∃p,ps[k]?=some p:=⟨_,List.getElem?_eq_getElem (by rw[hnp];exact hlt)⟩
   obtain⟨y,hy1⟩:∃y,keys[k]?=some y:=⟨_,List.getElem?_eq_getElem (by rw[hno];exact hlt)⟩
   obtain⟨g,o,rfl,hcp⟩:=(hp.later HB.out).at_ (j:=k) (u:=.int .i64 p) (by rw[List.getElem?_map,hp1];rfl)
   obtain⟨g3,o3,cs,rfl,_,rfl,hx⟩:=(RdL.mono hky HB.out (λ_ _ _ h=>h)).at_ (by omega) hy1
   have hcd:wr.cell? ⟨g3,o3+k*2+1,none⟩=some (.bool y.d):=hx 1 _ rfl
   obtain⟨q0,q1,q2⟩:=hpl p (List.mem_of_getElem? hp1)
   obtain⟨q,rfl⟩:∃q:Nat,p=(q:Int):=⟨p.toNat,by omega⟩
   obtain⟨x,hx1⟩:∃x,a[q]?=some x:=⟨_,List.getElem?_eq_getElem (by omega)⟩
   obtain⟨z,hz1⟩:∃z,b[q]?=some z:=⟨_,List.getElem?_eq_getElem (by omega)⟩
   obtain⟨g1,o1,rfl,a0,a1,a2,a3⟩:=(RdTs.later ha HB.out).at4 hx1
   obtain⟨g2,o2,rfl,b0,b1,b2,b3⟩:=(RdTs.later hb HB.out).at4 hz1
   have hst:Hid (cmpKeys (keysP ps keys) a b=orZ (way y.d (cmpTm x z)) (cmpKeys (keysP (ps.drop (k+1)) (keys.drop (k+1))) a b)):=by
    show _=_
    rw[H1.out,keysP_drop hp1 hy1]
    show orZ (way y.d (cmpTm a[(q:Int).toNat]! b[(q:Int).toNat]!)) _=_
    rw[Int.toNat_natCast,List.getElem!_of_getElem? hx1,List.getElem!_of_getElem? hz1]
   have hcall:=λW (h:Below wr.heap.size wr W)=>termCompare x z W (hC.step (below_tr HB.out h)) (za.2 x (List.mem_of_getElem? hx1)) (zb.2 z (List.mem_of_getElem? hz1))
   have hrg:=ordF_Tm.rng x z
   have hk1:=cell_on h1 HB.out
   have hk2:=cell_on h2 HB.out
   generalize cmpTm x z=r at *
   generalize y.d=dn at *
   have x0:=λd os=>cell_on a0 (below_regrown wr d os)
   have x1:=λd os=>cell_on a1 (below_regrown wr d os)
   have x2:=λd os=>cell_on a2 (below_regrown wr d os)
   have x3:=λd os=>cell_on a3 (below_regrown wr d os)
   have y0:=λd os=>cell_on b0 (below_regrown wr d os)
   have y1:=λd os=>cell_on b1 (below_regrown wr d os)
   have y2:=λd os=>cell_on b2 (below_regrown wr d os)
   have y3:=λd os=>cell_on b3 (below_regrown wr d os)
   have q1':(q:Int)<(n:Int):=by omega
   have q2':(q:Int)<(m:Int):=by omega
   have HC:=Lib.hid (And.intro hk1 (And.intro hk2 hcd))
   clear hp1 hy1 hx hx1 hz1 a0 a1 a2 a3 b0 b1 b2 b3 hn hm hnp hno hpl hC ha hb za zb h1 h2 hp hky H1 hk1 hk2 hcd
   go_wp2
   refine wrq ?_;(repeat (any_goals (go_big_quiet_step ((go_at_call 69;exact Calls.regrown_of (hcall _ (below_regrown _ _ _)))))));all_goals (refine wqn ?_;intro d9 os9)
   have kq:=below_regrown wr d9 os9
   have e1:=cell_on HC.out.1 kq
   have e2:=cell_on HC.out.2.1 kq
   have e3:=cell_on HC.out.2.2 kq
   have HB2:=Lib.hid (below_tr HB.out kq)
   clear x0 x1 x2 x3 y0 y1 y2 y3 hcall kq hcp
   generalize Sort.grow (redrawn wr d9) os9=w2 at *
   obtain⟨r1,r2⟩:=hrg
   by_cases hz:r=0
   ·subst hz
    have hst2:Hid (cmpKeys (keysP ps keys) a b=cmpKeys (keysP (ps.drop (k+1)) (keys.drop (k+1))) a b):=by
     show _=_
     rw[hst.out]
     cases dn<;>rfl
    clear hst
    cases dn
    ·go_wp2
     go_roundw
     case rel=>exact⟨k+1,by omega,by go_num,hst2,HB2⟩
     case measure=>simp[intOf];omega
    ·go_wp2
     go_roundw
     case rel=>exact⟨k+1,by omega,by go_num,hst2,HB2⟩
     case measure=>simp[intOf];omega
   ·cases dn
    ·have hst2:Hid (cmpKeys (keysP ps keys) a b=r):=by
      show _=_
      rw[hst.out]
      show orZ r _=r
      unfold orZ;rw[if_neg hz]
     have hq:(r != 0)=true:=by rw[bne_iff_ne];exact hz
     clear hst hz
     go_wp2
     go_ret
     exact⟨by rw[hst2.out];rfl,HB2.out⟩
    ·have hst2:Hid (cmpKeys (keysP ps keys) a b = -r):=by
      show _=_
      rw[hst.out]
      show orZ (-r) _ = -r
      unfold orZ;rw[if_neg (by omega)]
     obtain⟨s,hs⟩:∃s,-r=s:=⟨_,rfl⟩
     have hq:(s != 0)=true:=by rw[bne_iff_ne];omega
     have hw:IntKind.i64.wrap (-r)=s:=by rw[IntKind.wrap_i64];omega
     rw[hs]at hst2
     clear hst hz
     go_wp2
     go_ret
     exact⟨by rw[hst2.out];rfl,HB2.out⟩
  ·obtain rfl:k=np:=by omega
   have hcall:=cmpRows a b A B c d n m wr hn hm (hC.step HB.out) (RdTs.later ha HB.out) (RdTs.later hb HB.out) za zb
   have hst2:Hid (cmpKeys (keysP ps keys) a b=cmpRow a b):=by
    show _=_
    rw[H1.out,List.drop_eq_nil_of_le (by omega)];rfl
   generalize cmpRow a b=z at *
   clear hn hm hnp hno hpl hC ha hb za zb h1 h2 hp hky H1
   go_wp2_with (go_at_call 96;refine hcall.mono ?_;rintro e w1 ⟨rfl,hb1⟩;have HF:=Lib.hid (below_tr HB.out hb1);clear hb1 hcall)
   go_ret
   exact⟨by rw[hst2.out];rfl,HF.out⟩
def putAt (cur:Array Value):Nat->List Value->Array Value
 | _,[]=>cur
 | o,v::r=>putAt (cur.setIfInBounds o v) (o+1) r
theorem putAt_mid:∀(vs pre old post:List Value),old.length=vs.length->putAt (pre++(old++post)).toArray pre.length vs=(pre++(vs++post)).toArray
 | [],pre,old,post,h=>by
  have:old=[]:=List.eq_nil_of_length_eq_zero h
  subst this;rfl
 | v::r,pre,[],post,h=>by cases h
 | v::r,pre,u::old,post,h=>by
  have ih:=putAt_mid r (pre++[v]) old post (by simpa using h)
  rw[List.length_append,List.length_singleton]at ih
  have e:(pre++(u::old++post)).toArray.setIfInBounds pre.length v=(pre++[v]++(old++post)).toArray:=by
   rw[List.setIfInBounds_toArray,List.set_append_right _ _ (Nat.le_refl _),Nat.sub_self]
   simp
  rw[putAt,e,ih]
  simp
theorem heap_setCells (b:Nat) (T:TypeId) (fr:Nat × Nat):∀(vs:List Value) (o:Nat) (w:World) (cur:Array Value),w.heap[b]?=some (.cells cur T fr)->(w.setCells b o vs).heap[b]?=some (.cells (putAt cur o vs) T fr)
 | [],_,_,_,h=>h
 | v::r,o,w,cur,h=>by
  rw[World.setCells,putAt]
  refine heap_setCells b T fr r (o+1) _ _ ?_
  simp[World.setCell,Array.getElem?_modify,h]
theorem below_setCells {B b:Nat} (hB:B<=b):∀(vs:List Value) (o:Nat) (w:World),Below B w (w.setCells b o vs)
 | [],_,w=>Below.refl B w
 | v::r,o,w=>by
  rw[World.setCells]
  exact((Below.refl B w).setCell (p:=⟨b,o,none⟩) hB v).trans (below_setCells hB r (o+1) _)
theorem run_clear_cells {P:Program} (w:World) (t e ty:TypeId) (z:Value) (ht:P.underlying t=some (.slice e)) (hv:∀w,(zeroValue e).run P w=.ok z w) (b o n c:Nat) (hn:0<n)
  (h1:∀u∈(Builtin.zeroCells z.cells n).toList,u.oneCell'=true) (hc:∀j,j<(Builtin.zeroCells z.cells n).size->(w.cell? ⟨b,o+j,none⟩).isSome=true/\w.frozen? ⟨b,o+j,none⟩=false) :
  (Builtin.clear_ #[t] ty #[.slice (some ⟨b,o,none⟩) n c]).run P w=.ok (.tuple #[]) (w.setCells b o (Builtin.zeroCells z.cells n).toList):=by
 have hst:=run_storeCells_cells (P:=P) b o (Builtin.zeroCells z.cells n).toList 0 w (λj hj=>(hc j (by simpa using hj)).1) (λj hj=>(hc j (by simpa using hj)).2) h1
 simp only[Nat.add_zero]at hst
 obtain⟨m,rfl⟩:∃m,n=m+1:=⟨n-1,by omega⟩
 simp[Builtin.clear_,run_underlying ht,hv,hst]
theorem heap_setCells_ne {b k:Nat} (h:b≠k):∀{vs:List Value} {o:Nat} {w:World},(w.setCells b o vs).heap[k]?=w.heap[k]?
 | [],_,_=>rfl
 | v::r,o,w=>by
  rw[World.setCells,heap_setCells_ne h,Below.heap_setCell _ _ _ _ (λe=>h e.symm)]
end Go.Proofs.YtoejnneknpoanaaGreatDoor
