/- The program's package filter, walked: Same, Less; And, Or. T -/
import Derived.Test.YtfcbghmbbjolcaaGreatDoorJFilProg3
set_option maxHeartbeats 4000000
set_option maxRecDepth 20000
namespace Go.Proofs.YtfcbghmbbjolcaaGreatDoor
open Go Go.RowKit Fm
theorem xS (k1 k2:Int) (x1 l1 y1 x2 l2 y2:ByteArray) (w:World) (hs1:x1.size<=281474976710656) (hs2:x2.size<=281474976710656) :
  Calls Tryz.prog 187 #[.agg #[.int .i64 k1,.string x1,.string l1,.string y1],.agg #[.int .i64 k2,.string x2,.string l2,.string y2]] w λe w' =>
   e=.returned (.int .i64 (xk ⟨k1,x1,l1,y1⟩ ⟨k2,x2,l2,y2⟩))/\Below w.heap.size w w':=by
 have hO:=λW=>us k1 k2 x1 l1 y1 x2 l2 y2 W hs1 hs2
 unfold xk
 clear hs1 hs2
 generalize zp ⟨k1,x1,l1,y1⟩ ⟨k2,x2,l2,y2⟩=n at *
 generalize zq ⟨k1,x1,l1,y1⟩ ⟨k2,x2,l2,y2⟩=q at *
 obtain⟨v,hv⟩:∃v,(if az ⟨k1,x1,l1,y1⟩ ⟨k2,x2,l2,y2⟩ then (1:Int) else if !tR ⟨k1,x1,l1,y1⟩ || !tR ⟨k2,x2,l2,y2⟩ then 2 else 3)=v:=⟨_,rfl⟩
 rw[hv]
 have Hv:=Lib.hid hv
 clear hv
 go_enter Tryz.func187,Tryz.ntmps187
 go_wp2_with fail
 refine(hO _).mono ?_
 rintro e w1 ⟨rfl,hb1⟩
 obtain⟨hc1,hf1⟩:=bD hb1
 cases q
 ·go_wp2_with (go_at_call 190;refine(od _ _ _ _ _).mono ?_;rintro e w2 ⟨rfl,hb2⟩;have hb3:=aa hb1 hb2;clear hb1 hb2;have hb1:=hb3;clear hb3;obtain⟨hc2,hf2⟩:=bD hb1)
  all_goals
   go_ret
   refine⟨?_,blw⟩
   rw[←Hv.out]
   simp_all[az,tR]<;>(try split)<;>omega
 ·go_wp2_with fail
  refine(eo _ _).mono ?_
  rintro e w2 ⟨rfl,rfl⟩
  go_wp2
  go_ret
  exact⟨by simp,blw⟩
theorem mo (k1 k2:Int) (x1 l1 y1 x2 l2 y2:ByteArray) (w:World) (hs1:x1.size<=281474976710656) (hs2:x2.size<=281474976710656) :
  Calls Tryz.prog 188 #[.agg #[.int .i64 k1,.string x1,.string l1,.string y1],.agg #[.int .i64 k2,.string x2,.string l2,.string y2]] w λe w' =>
   e=.returned (.int .i64 (nT ⟨k1,x1,l1,y1⟩ ⟨k2,x2,l2,y2⟩))/\Below w.heap.size w w':=by
 have hO:=λW=>us k1 k2 x1 l1 y1 x2 l2 y2 W hs1 hs2
 unfold nT
 clear hs1 hs2
 generalize zp ⟨k1,x1,l1,y1⟩ ⟨k2,x2,l2,y2⟩=n at *
 generalize zq ⟨k1,x1,l1,y1⟩ ⟨k2,x2,l2,y2⟩=q at *
 go_enter Tryz.func188,Tryz.ntmps188
 go_wp2_with fail
 refine(hO _).mono ?_
 rintro e w1 ⟨rfl,hb1⟩
 cases q
 ·go_wp2
  go_ret
  exact⟨by simp,blw⟩
 ·go_wp2_with fail
  refine(eo _ _).mono ?_
  rintro e w2 ⟨rfl,rfl⟩
  go_wp2
  go_ret
  exact⟨by simp,blw⟩
theorem wC (t s:Int) (p:Addr) (w:World) (hp:w.cell? p=some (.int .i64 s)) :
  Calls Tryz.prog 275 #[.int .i64 t,.pointer (some p)] w λe w'=>e=.returned (.bool (t == iy s))/\w=w':=by
 have hn:=λW=>kT s W
 generalize iy s=n at *
 go_enter Tryz.func275,Tryz.ntmps275
 go_wp2_with (go_at_call 184;refine(hn _).mono ?_;rintro e w1 ⟨rfl,rfl⟩)
 go_ret
 exact⟨rfl,rfl⟩
theorem wB (t s:Int) (p q:Addr) (w:World) (hp:w.cell? p=some (.int .i64 s)) (hq:w.cell? q=some (.func (.func 275) #[] #[.pointer (some p)])) :
  Calls Tryz.prog 278 #[.int .i64 t,.pointer (some q)] w λe w'=>e=.returned (.bool (!(t == iy s)))/\w=w':=by
 have hn:=λW h=>wC t s p W h
 generalize (t == iy s)=n at *
 go_enter Tryz.func278,Tryz.ntmps278
 go_wp2_with (go_at_call 275;refine(hn _ ?_).mono ?_;exact hp;rintro e w1 ⟨rfl,rfl⟩)
 go_ret
 exact⟨rfl,rfl⟩
theorem De (l:List Int) (x:Int) (A:Option Addr) (c:Nat) (w:World) (hl:l.length<=281474976710656) (hr:Rd w A (l.map (Value.int .i64))) :
  Calls Tryz.prog 324 #[.slice A l.length c,.int .i64 x] w λe w'=>∃i:Int,e=.returned (.int .i64 i)/\fh i (lY l x)/\w=w':=by
 go_enter Tryz.func324,Tryz.ntmps324
 go_wp2
 go_loop [8] (λi=>∃k:Nat,k<=l.length/\i=.int .i64 k/\Hid (lY l x=lY (l.drop k) x)) (λi=>l.length-(intOf i).toNat)
 case atStart=>exact⟨0,by omega,rfl,rfl⟩
 case round =>
  obtain⟨k,hk,rfl,H⟩:=hrel
  by_cases hlt:k<l.length
  ·obtain⟨y,hx⟩:∃x,l[k]?=some x:=⟨_,List.getElem?_eq_getElem hlt⟩
   obtain⟨g,o,rfl,hcx⟩:=hr.at_ (j:=k) (u:=.int .i64 y) (by simp[hx])
   have hd:l.drop k=y::l.drop (k+1):=by
    rw[List.drop_eq_getElem_cons hlt]
    rw[List.getElem?_eq_getElem hlt]at hx
    injection hx with hx;rw[hx]
   have H2:Hid (lY l x=((x == y) || lY (l.drop (k+1)) x)):=by
    show lY l x=_
    rw[H.out,hd,lY,List.contains_cons];rfl
   clear hx hd H hr
   cases hx0:(x == y)
   ·rw[hx0]at H2
    go_wp2
    go_round
    case rel=>exact⟨k+1,by omega,by go_num,by show _=_;rw[H2.out];rfl⟩
    case measure=>simp[intOf];omega
   ·rw[hx0]at H2
    go_wp2
    go_ret
    exact⟨k,rfl,by show decide _=_;rw[H2.out];simp,rfl⟩
  ·have H2:Hid (lY l x=false):=by
    show lY l x=_
    rw[H.out,List.drop_eq_nil_of_le (by omega)];rfl
   clear H
   go_wp2
   go_ret
   exact⟨-1,rfl,by show decide _=_;rw[H2.out];rfl,rfl⟩
theorem Dg (l:List Int) (x:Int) (A:Option Addr) (c:Nat) (w:World) (hl:l.length<=281474976710656) (hr:Rd w A (l.map (Value.int .i64))) :
  Calls Tryz.prog 276 #[.slice A l.length c,.int .i64 x] w λe w'=>e=.returned (.bool (lY l x))/\w=w':=by
 have hi:=λW h=>De l x A c W hl h
 go_enter Tryz.func276,Tryz.ntmps276
 go_wp2_with (go_at_call 324;refine(hi _ ?_).mono ?_;exact hr;rintro e w1 ⟨i,rfl,hd,rfl⟩;have Hd:=Lib.hid hd;clear hd)
 go_ret
 exact⟨by have:=Hd.out;unfold fh at this;rw[←this];rfl,rfl⟩
theorem Ib (l:List Int) (s:Int) (p q:Addr) (A:Option Addr) (c:Nat) (w:World) (hl:l.length<=281474976710656) (hr:Rd w A (l.map (Value.int .i64)))
  (hp:w.cell? p=some (.int .i64 s)) (hq:w.cell? q=some (.func (.func 275) #[] #[.pointer (some p)])) :
  Calls Tryz.prog 325 #[.slice A l.length c,.func (.func 278) #[] #[.pointer (some q)]] w λe w'=>∃i:Int,e=.returned (.int .i64 i)/\fh i (oY l s)/\w=w':=by
 go_enter Tryz.func325,Tryz.ntmps325
 go_wp2
 go_loop [8] (λi=>∃k:Nat,k<=l.length/\i=.int .i64 k/\Hid (oY l s=oY (l.drop k) s)) (λi=>l.length-(intOf i).toNat)
 case atStart=>exact⟨0,by omega,rfl,rfl⟩
 case round =>
  obtain⟨k,hk,rfl,H⟩:=hrel
  by_cases hlt:k<l.length
  ·obtain⟨y,hx⟩:∃x,l[k]?=some x:=⟨_,List.getElem?_eq_getElem hlt⟩
   obtain⟨g,o,rfl,hcx⟩:=hr.at_ (j:=k) (u:=.int .i64 y) (by simp[hx])
   have hd:l.drop k=y::l.drop (k+1):=by
    rw[List.drop_eq_getElem_cons hlt]
    rw[List.getElem?_eq_getElem hlt]at hx
    injection hx with hx;rw[hx]
   have hc:=λW h1 h2=>wB y s p q W h1 h2
   have H2:Hid (oY l s=(!(y == iy s) || oY (l.drop (k+1)) s)):=by
    show _=_
    rw[H.out,hd,oY,List.any_cons];rfl
   clear hx hd H hr
   generalize hn:(!(y == iy s))=n at *
   clear hn
   cases n
   ·go_wp2_with (go_at_call 278;refine(hc _ ?_ ?_).mono ?_;exact hp;exact hq;rintro e w1 ⟨rfl,rfl⟩)
    go_round
    case rel=>exact⟨k+1,by omega,by go_num,by show _=_;rw[H2.out];rfl⟩
    case measure=>simp[intOf];omega
   ·go_wp2_with (go_at_call 278;refine(hc _ ?_ ?_).mono ?_;exact hp;exact hq;rintro e w1 ⟨rfl,rfl⟩)
    go_ret
    exact⟨k,rfl,by show decide _=_;rw[H2.out];simp,rfl⟩
  ·have H2:Hid (oY l s=false):=by
    show _=_
    rw[H.out,List.drop_eq_nil_of_le (by omega)];rfl
   clear H
   go_wp2
   go_ret
   exact⟨-1,rfl,by show decide _=_;rw[H2.out];rfl,rfl⟩
theorem Ii (l:List Int) (s:Int) (p q:Addr) (A:Option Addr) (c:Nat) (w:World) (hl:l.length<=281474976710656) (hr:Rd w A (l.map (Value.int .i64)))
  (hp:w.cell? p=some (.int .i64 s)) (hq:w.cell? q=some (.func (.func 275) #[] #[.pointer (some p)])) :
  Calls Tryz.prog 277 #[.slice A l.length c,.func (.func 278) #[] #[.pointer (some q)]] w λe w'=>e=.returned (.bool (oY l s))/\w=w':=by
 have hi:=λW h h1 h2=>Ib l s p q A c W hl h h1 h2
 go_enter Tryz.func277,Tryz.ntmps277
 go_wp2_with (go_at_call 325;refine(hi _ ?_ ?_ ?_).mono ?_;exact hr;exact hp;exact hq;rintro e w1 ⟨i,rfl,hd,rfl⟩;have Hd:=Lib.hid hd;clear hd)
 go_ret
 exact⟨by have:=Hd.out;unfold fh at this;rw[←this];rfl,rfl⟩
theorem qy (l:List Int) (s:Int) (A:Option Addr) (c:Nat) (w:World) (hl:l.length<=281474976710656) (hr:Rd w A (l.map (Value.int .i64))) :
  Calls Tryz.prog 242 #[.int .i64 s,.slice A l.length c] w λe w'=>e=.returned (.int .i64 (im s l))/\Below w.heap.size w w':=by
 have h1:=λW h=>Dg l s A c W hl h
 have h2:=λp q W h a b=>Ii l s p q A c W hl h a b
 have h3:=λW=>kT s W
 unfold im
 generalize lY l s=b1 at *
 generalize oY l s=b2 at *
 generalize iy s=n at *
 go_enter Tryz.func242,Tryz.ntmps242
 go_wp2_with fail
 have hB:Below w.heap.size w ((w.alloc (.cells #[.int .i64 s] 134)).alloc (.cells #[.func (.func 275) #[] #[.pointer (some ⟨w.heap.size,0,none⟩)]] 318)):=((Below.refl _ _).alloc (Nat.le_refl _) _).alloc (by simp) _
 have hr2:=hr.later hB
 refine(h1 _ hr2).mono ?_
 rintro e w1 ⟨rfl,rfl⟩
 cases b1
 ·go_wp2_with fail
  refine(h2 ⟨w.heap.size,0,none⟩ ⟨w.heap.size+1,0,none⟩ _ hr2 (by rw[World.cell?,aL];rfl) (by rw[World.cell?,av];rfl)).mono ?_
  rintro e w2 ⟨rfl,rfl⟩
  cases b2
  ·go_wp2_with fail
   refine(h3 _).mono ?_
   rintro e w3 ⟨rfl,rfl⟩
   go_wp2
   go_ret
   exact⟨by simp,hB⟩
  ·go_wp2
   go_ret
   exact⟨by simp,hB⟩
 ·go_wp2
  go_ret
  exact⟨by simp,hB⟩
theorem Iq (l:List Int) (A:Option Addr) (c:Nat) (w:World) (hl:l.length<=281474976710656) (hr:Rd w A (l.map (Value.int .i64))) :
  Calls Tryz.prog 185 #[.slice A l.length c] w λe w'=>e=.returned (.int .i64 (AO l))/\Below w.heap.size w w':=by
 have h1:=qy l 2 A c w hl hr
 rw[show im 2 l=AO l from rfl]at h1
 go_enter Tryz.func185,Tryz.ntmps185
 go_wp2_with (refine h1.mono ?_;rintro e w1 ⟨rfl,hb⟩)
 go_ret
 exact⟨rfl,hb⟩
theorem Jn (l:List Int) (A:Option Addr) (c:Nat) (w:World) (hl:l.length<=281474976710656) (hr:Rd w A (l.map (Value.int .i64))) :
  Calls Tryz.prog 186 #[.slice A l.length c] w λe w'=>e=.returned (.int .i64 (orI l))/\Below w.heap.size w w':=by
 have h1:=qy l 1 A c w hl hr
 rw[show im 1 l=orI l from rfl]at h1
 go_enter Tryz.func186,Tryz.ntmps186
 go_wp2_with (refine h1.mono ?_;rintro e w1 ⟨rfl,hb⟩)
 go_ret
 exact⟨rfl,hb⟩
theorem Dp (k:Int) (x l y:ByteArray) (w:World) (hs:x.size<=281474976710656) :
  Calls Tryz.prog 183 #[.agg #[.int .i64 k,.string x,.string l,.string y]] w λe w'=>e=.returned (.int .i64 (rR ⟨k,x,l,y⟩))/\Below w.heap.size w w':=by
 have hN:=λW=>kR k x l y W hs
 have hT:=λW=>rE k x l y W
 have ho:=λty W=>oc k x l y ty W
 obtain⟨D,hD⟩:∃D:ByteArray,(⟨(em ⟨k,x,l,y⟩).toArray⟩:ByteArray)=D:=⟨_,rfl⟩
 simp only[rc,hD]at hN
 have hl:D.toList=em ⟨k,x,l,y⟩:=by rw[←hD,toList_mk]
 have hv:rR ⟨k,x,l,y⟩=if df ⟨k,x,l,y⟩ cP then fw (gV ⟨k,x,l,y⟩ && mu ⟨k,x,l,y⟩) else if df ⟨k,x,l,y⟩ cM then fw (pa ⟨k,x,l,y⟩ && !(D.toList == [48])) else if k == 3 then fw (!x.toList.isEmpty) else 3:=by
  unfold rR
  rw[←hl]
 rw[hv]
 have ho1:=ho cP
 have ho2:=ho cM
 clear hv hl hD ho hs
 generalize df ⟨k,x,l,y⟩ cP=q1 at *
 generalize df ⟨k,x,l,y⟩ cM=q2 at *
 generalize pa ⟨k,x,l,y⟩=i at *
 generalize re ⟨k,x,l,y⟩=m at *
 generalize gV ⟨k,x,l,y⟩=b at *
 generalize mu ⟨k,x,l,y⟩=ye at *
 unfold cP at ho1
 unfold cM at ho2
 go_enter Tryz.func183,Tryz.ntmps183
 go_wp2_with fail
 refine(ho1 _).mono ?_
 rintro e w2 ⟨rfl,hb2⟩
 obtain⟨hc2,hf2⟩:=bD hb2
 cases q1
 ·go_wp2_with fail
  refine(ho2 _).mono ?_
  rintro e w3 ⟨rfl,hb⟩
  have hb3:=aa hb2 hb
  clear hb2 hb hc2 hf2
  obtain⟨hc3,hf3⟩:=bD hb3
  cases q2
  ·by_cases hk:k=3
   ·have hk3:(k == 3)=true:=by simp[hk]
    clear hk
    go_wp2_with ((refine(eo _ _).mono ?_);(rintro e w4 ⟨rfl,rfl⟩))
    go_ret
    exact⟨by simp,blw⟩
   ·have hk3:(k == 3)=false:=by simp[hk]
    clear hk
    go_wp2_with ((refine(eo _ _).mono ?_);(rintro e w4 ⟨rfl,rfl⟩))
    go_ret
    exact⟨by simp,blw⟩
  ·go_wp2_with fail
   refine(hN _).mono ?_
   rintro e w4 ⟨rfl,hb⟩
   have hb4:=aa hb3 hb
   clear hb3 hb hc3 hf3
   cases i
   all_goals
    go_wp2_with ((refine(eo _ _).mono ?_);(rintro e w4 ⟨rfl,rfl⟩))
    go_ret
    exact⟨by simp,blw⟩
 ·go_wp2_with fail
  refine(hT _).mono ?_
  rintro e w3 ⟨rfl,hb⟩
  have hb3:=aa hb2 hb
  clear hb2 hb hc2 hf2
  cases b
  all_goals
   go_wp2_with ((refine(eo _ _).mono ?_);(rintro e w4 ⟨rfl,rfl⟩))
   go_ret
   exact⟨by simp,blw⟩
open Go.Maps Go.ChangeMaps
def jp (w:World) (b:Nat) (t:Tm):Prop:=w.cell? ⟨b,0,none⟩=some (.int .i64 t.k)/\w.cell? ⟨b,1,none⟩=some (.string t.x)/\w.cell? ⟨b,2,none⟩=some (.string t.l)/\w.cell? ⟨b,3,none⟩=some (.string t.y)
theorem jp.set {w:World} {b:Nat} {u:Tm} (h:jp w b u) (t:Tm):jp ((((w.setCell ⟨b,0,none⟩ (.int .i64 t.k)).setCell ⟨b,1,none⟩ (.string t.x)).setCell ⟨b,2,none⟩ (.string t.l)).setCell ⟨b,3,none⟩ (.string t.y)) b t:=by
 obtain⟨h0,h1,h2,h3⟩:=h
 have ne:∀{i j:Nat},i≠j->(⟨b,i,none⟩:Addr)≠⟨b,j,none⟩:=λh e=>h (by injection e)
 refine⟨?_,?_,?_,?_⟩
 ·rw[World.cell?_setCell_other (h:=ne (by decide)),World.cell?_setCell_other (h:=ne (by decide)),World.cell?_setCell_other (h:=ne (by decide)),World.cell?_setCell_same (h:=h0)]
 ·rw[World.cell?_setCell_other (h:=ne (by decide)),World.cell?_setCell_other (h:=ne (by decide)),World.cell?_setCell_same (u:=.string u.x) (h:=by rw[World.cell?_setCell_other (h:=ne (by decide))];exact h1)]
 ·rw[World.cell?_setCell_other (h:=ne (by decide)),World.cell?_setCell_same (u:=.string u.l) (h:=by rw[World.cell?_setCell_other (h:=ne (by decide)),World.cell?_setCell_other (h:=ne (by decide))];exact h2)]
 ·rw[World.cell?_setCell_same (u:=.string u.y) (h:=by rw[World.cell?_setCell_other (h:=ne (by decide)),World.cell?_setCell_other (h:=ne (by decide)),World.cell?_setCell_other (h:=ne (by decide))];exact h3)]
theorem fN (w:World) (t:Tm) (ty:TypeId):jp (w.alloc (.cells #[.int .i64 t.k,.string t.x,.string t.l,.string t.y] ty)) w.heap.size t:=by
 refine⟨?_,?_,?_,?_⟩<;>(rw[World.cell?,heap_alloc_new];rfl)
theorem zS (vars:List ByteArray) (row:List Tm) (b:Nat) (k:Int) (s:ByteArray) (t:Tm) (A:Option Addr) (m c:Nat) (w:World) (hj:dx w b vars row) (hv:vars.length<=281474976710656) (hrl:row.length<=281474976710656) (hm:m<=281474976710656)
  (hz:∀u,gy vars row k s t (m == 0)=some u->u.x.size<=281474976710656) :
  Calls Tryz.prog 124 #[.pointer (some ⟨b,0,none⟩),.agg #[.int .i64 k,.string s,.int .i64 t.k,.string t.x,.string t.l,.string t.y,.slice A m c]] w
   λe w'=>e=.returned (.int .i64 (CU (gy vars row k s t (m == 0))))/\Below w.heap.size w w':=by
 obtain⟨A1,A2,c1,c2,r,h0,h1,h2,h3,h4,h5⟩:=hj.ex
 have hR:=λW a b=>jV vars row A1 A2 A c1 c2 m c k s t W hv hrl hm a b
 generalize gy vars row k s t (m == 0)=o at *
 have ho:∀u,o=some u->o.getD zTm=u:=λu h=>by rw[h];rfl
 unfold r7 tmV at hR
 generalize o.getD zTm=z at *
 have ho':=Lib.hid ho
 clear ho
 go_enter Tryz.func124,Tryz.ntmps124
 go_wp2
 obtain⟨W,hW⟩:∃W:World,w.alloc (.cells #[.int .i64 k,.string s,.int .i64 t.k,.string t.x,.string t.l,.string t.y,.slice A m c] 68)=W:=⟨_,rfl⟩
 have hB0:Below w.heap.size w W:=by rw[←hW];exact blw
 have hsz:w.heap.size<W.heap.size:=by rw[←hW];simp
 have hbx:∀(i:Nat) v,#[Value.int .i64 k,.string s,.int .i64 t.k,.string t.x,.string t.l,.string t.y,.slice A m c][i]?=some v->W.cell? ⟨w.heap.size,i,none⟩=some v:=by
  intro i v hv;rw[←hW,World.cell?,heap_alloc_new];exact hv
 simp only[hW]
 have HW:=Lib.hid hW
 clear hW
 refine Rf.p0 W.heap.size ?R (.quiet [0,1,2,3,4] (.fork 5 9 (.quiet [6,7,8] (.one 9 (.one 10 (.quiet [11] (.done))))) (.one 5 (.quiet [6,7,8] (.one 10 (.quiet [11] (.done))))))) ?_ ?_
 case R=>exact λa W'=>∃(B:Nat) (z:Tm) (u8 u9 u10 u11 u12 u13 u7 u14 u15:Value),a={tmps:=#[.pointer (some ⟨b,0,none⟩),.agg #[.int .i64 k,.string s,.int .i64 t.k,.string t.x,.string t.l,.string t.y,.slice A m c],undef,.pointer (some ⟨w.heap.size,0,none⟩),.int .i64 0,.pointer (some ⟨B,0,none⟩),.bool o.isSome,u7,u8,u9,u10,u11,u12,u13,u14,u15,undef,undef,undef,undef],defers:=[]}/\(∀u,o=some u->z=u)/\jp W' B z/\Below W.heap.size W W'
 ·intro wd hbd hwz
  have key:∀{p:Addr} {u:Value},w.cell? p=some u->wd.cell? p=some u:=λh=>by have:=ag h;rw[hbd.cell (by omega),hB0.cell this];exact h
  have lt:∀{p:Addr} {u:Value},w.cell? p=some u->p.block<W.heap.size:=λh=>by have:=ag h;omega
  have hbx':∀(i:Nat) v,#[Value.int .i64 k,.string s,.int .i64 t.k,.string t.x,.string t.l,.string t.y,.slice A m c][i]?=some v->wd.cell? ⟨w.heap.size,i,none⟩=some v:=λi v hv=>by rw[hbd.cell (p:=⟨w.heap.size,i,none⟩) hsz];exact hbx i v hv
  have j0:=eK (key h0) (lt h0)
  have j1:=eK (key h1) (lt h1)
  have b0:=eK (hbx' 0 _ rfl) hsz
  have b1:=eK (hbx' 1 _ rfl) hsz
  have b2:=eK (hbx' 2 _ rfl) hsz
  have b3:=eK (hbx' 3 _ rfl) hsz
  have b4:=eK (hbx' 4 _ rfl) hsz
  have b5:=eK (hbx' 5 _ rfl) hsz
  have b6:=eK (hbx' 6 _ rfl) hsz
  have hr1:=(h4.later hB0).later hbd
  have hr2:=(h5.later hB0).later hbd
  have HB0:=Lib.hid hB0
  have Hz:=Lib.hid hwz
  have hle:W.heap.size<=wd.heap.size:=hbd.size
  clear hbx hbx' key lt hB0 h0 h1 h2 h3 h4 h5 hwz
  refine Rf.pl_quiet ?_
  iterate 5 go_big_quiet_step (fail)
  refine wpQuiet_nil (Rf.pl_fork ?_ ?_)
  ·go_wp2_with (refine(hR _ hr1 hr2).mono ?_;rintro e w1 ⟨rfl,hb1⟩)
   have hb2:=hb1.mono hle
   refine⟨hb2,Rf.pl_quiet ?_⟩
   iterate 3 go_big_quiet_step (fail)
   refine wpQuiet_nil (Rf.pl_one ?_)
   go_wp2
   refine⟨(Below.refl _ _).alloc (Nat.le_trans hle hb1.size) _,Rf.pl_one ?_⟩
   go_wp2
   refine⟨fg (Nat.le_trans hle hb1.size) _ _,Rf.pl_quiet ?_⟩
   iterate 1 go_big_quiet_step (fail)
   exact wpQuiet_nil (Rf.pl_done ⟨_,z,_,_,_,_,_,_,_,_,_,rfl,ho'.out,fN _ _ _,(hbd.trans hb2).alloc (Nat.le_trans hle hb1.size) _⟩)
  ·go_wp2
   refine⟨(Below.refl _ _).alloc hle _,Rf.pl_one ?_⟩
   go_wp2_with (refine(hR _ (hr1.later blw) (hr2.later blw)).mono ?_;rintro e w1 ⟨rfl,hb1⟩)
   obtain⟨hc,hf⟩:=bD hb1
   refine⟨hb1.mono (by simp;omega),Rf.pl_quiet ?_⟩
   iterate 3 go_big_quiet_step (fail)
   refine wpQuiet_nil (Rf.pl_one ?_)
   go_wp2
   have hle2:W.heap.size<=wd.heap.size:=hle
   refine⟨ct hle2 _ _ _ _,Rf.pl_quiet ?_⟩
   have hT:jp w1 wd.heap.size zTm:=by
    refine⟨?_,?_,?_,?_⟩<;>(rw[hb1.cell (by simp),World.cell?,heap_alloc_new];rfl)
   iterate 1 go_big_quiet_step (fail)
   exact wpQuiet_nil (Rf.pl_done ⟨_,z,_,_,_,_,_,_,_,_,_,rfl,ho'.out,hT.set z,((hbd.trans ((Below.refl _ _).alloc hle _)).trans (hb1.mono (by simp;omega))).trans (ct hle2 _ _ _ _)⟩)
 ·rintro a W1 ⟨B,z,u8,u9,u10,u11,u12,u13,u7,u14,u15,rfl,hz1,⟨t0,t1,t2,t3⟩,hb1⟩
  have Hb1:=Lib.hid hb1
  have Hz1:=Lib.hid hz1
  have HB0:=Lib.hid hB0
  clear hb1 hz1 hB0 hbx h0 h1 h2 h3 h4 h5 hR ho' hj
  cases o with
  | none =>
   simp only[Option.isSome_none]
   clear t0 t1 t2 t3 hz
   go_wp2
   go_ret
   exact⟨rfl,aa HB0.out Hb1.out⟩
  | some u =>
   obtain rfl:=Hz1.out u rfl
   have hza:=hz z rfl
   simp only[Option.isSome_some]
   clear hz
   go_wp2_with (refine(Dp z.k z.x z.l z.y _ hza).mono ?_;rintro e w2 ⟨rfl,hb2⟩)
   go_ret
   exact⟨rfl,aa (aa HB0.out Hb1.out) hb2⟩
theorem GH {α:Type} (l:List α) (h:l.length=2):∃x y,l=[x,y]:=by
 match l,h with
 | [x,y],_=>exact⟨x,y,rfl⟩
theorem Cj (k:Int) (l:List (Option Tm)) (h:l.length≠1):tu k l=3:=by
 unfold tu;split
 ·exact(h rfl).elim
 ·rfl
theorem B4 (k:Int) (l:List (Option Tm)) (h:l.length≠2):sE k l=3:=by
 unfold sE;split
 ·exact(h rfl).elim
 ·rfl
theorem jp.on {W W1:World} {b:Nat} {t:Tm} (h:jp W b t) (hb:Below W.heap.size W W1):jp W1 b t:=⟨ac h.1 hb,ac h.2.1 hb,ac h.2.2.1 hb,ac h.2.2.2 hb⟩
theorem mD {n:Nat} {x:ExT n} {w:World} {k:Int} {s:ByteArray} {t:Tm} {A:Option Addr} {m c:Nat} (h:szE n x) (hr:RdE n w [.int .i64 k,.string s,.int .i64 t.k,.string t.x,.string t.l,.string t.y,.slice A m c] x) :
  t.x.size<=140737488351232/\m<=1353245080300:=by
 match n,x,h,hr with
 | n+1,(k',s',t',kids),⟨h1,h2,h3,h4⟩,⟨A',c',he,hc,hk⟩ =>
  simp only[List.cons.injEq,Value.int.injEq,Value.string.injEq,Value.slice.injEq,and_true,true_and]at he
  obtain⟨rfl,rfl,e3,e4,e5,e6,rfl,rfl,rfl⟩:=he
  rw[e4];exact⟨h2,h3⟩
theorem ko (vars:List ByteArray) (row:List Tm) {n:Nat} {x:ExT n} {w:World} {k:Int} {s:ByteArray} {t:Tm} {A:Option Addr} {m c:Nat} (hr:RdE n w [.int .i64 k,.string s,.int .i64 t.k,.string t.x,.string t.l,.string t.y,.slice A m c] x) :
  dD vars row n x=gy vars row k s t (m == 0):=by
 match n,x,hr with
 | n+1,(k',s',t',kids),⟨A',c',he,hc,hk⟩ =>
  simp only[List.cons.injEq,Value.int.injEq,Value.string.injEq,Value.slice.injEq,and_true,true_and]at he
  obtain⟨rfl,rfl,e3,e4,e5,e6,rfl,rfl,rfl⟩:=he
  have et:t'=t:=by cases t';cases t;simp at e3 e4 e5 e6;simp[e3,e4,e5,e6]
  subst et
  unfold dD
  cases kids<;>rfl
theorem eW (vars:List ByteArray) (row:List Tm) (k:Int) (s:ByteArray) (t:Tm) (q:Bool) (h:t.x.size<=140737488351232) (hr:∀u∈row,u.x.size<=281474976710656):∀u,gy vars row k s t q=some u->u.x.size<=281474976710656:=by
 intro u hu
 unfold gy at hu
 split at hu
 ·split at hu
  ·injection hu with hu;subst hu;omega
  ·split at hu
   ·split at hu
    ·cases hu
    ·exact hr u (List.mem_of_getElem? hu)
   ·cases hu
 ·cases hu
theorem Do (vars:List ByteArray) (row:List Tm) (b:Nat) (k:Int) (s:ByteArray) (t:Tm) (A:Option Addr) (c n:Nat) (kids:List (ExT n)) (w:World) (hk:aJ n w A kids) (hkl:kids.length<=1353245080300)
  (hj:dx w b vars row) (hv:vars.length<=281474976710656) (hrl:row.length<=281474976710656) (hzr:∀u∈row,u.x.size<=281474976710656) (hzk:∀x∈kids,szE n x) :
  Calls Tryz.prog 128 #[.pointer (some ⟨b,0,none⟩),.agg #[.int .i64 k,.string s,.int .i64 t.k,.string t.x,.string t.l,.string t.y,.slice A kids.length c]] w
   λe w'=>e=.returned (.int .i64 (tu k (kids.map (dD vars row n))))/\Below w.heap.size w w':=by
 have hl':(kids.length:Int)<=1353245080300:=by omega
 by_cases hn:(kids.length:Int)=1
 case neg =>
  have hv:tu k (kids.map (dD vars row n))=3:=by
   exact Cj _ _ (by rw[List.length_map];omega)
  rw[hv]
  clear hk hv hj hzr hzk
  go_enter Tryz.func128,Tryz.ntmps128
  go_wp2
  go_ret
  exact⟨rfl,blw⟩
 case pos =>
  obtain⟨x0,rfl⟩:∃x,kids=[x]:=List.length_eq_one_iff.1 (by omega)
  clear hn
  obtain⟨A1,A2,c1,c2,r,h0',h1',h2',h3',h4',h5'⟩:=hj.ex
  obtain⟨W,hW⟩:∃W:World,w.alloc (.cells #[.int .i64 k,.string s,.int .i64 t.k,.string t.x,.string t.l,.string t.y,.slice A 1 c] 68)=W:=⟨_,rfl⟩
  have hB0:Below w.heap.size w W:=by rw[←hW];exact blw
  have hbx:∀(i:Nat) v,#[.int .i64 k,.string s,.int .i64 t.k,.string t.x,.string t.l,.string t.y,.slice A 1 c][i]?=some v->W.cell? ⟨w.heap.size,i,none⟩=some v:=by
   intro i v hv;rw[←hW,World.cell?,heap_alloc_new];exact hv
  obtain⟨g0,e0,k0,s0,t0,K0,m0,d0,rfl,hR0',q0_0,q0_1,q0_2,q0_3,q0_4,q0_5,q0_6⟩:=(aJ.later hk hB0).atv (j:=0) (e:=x0) rfl
  have hm0:=mD (hzk x0 (by simp)) hR0'
  have hR0:=λW a b=>jV vars row A1 A2 K0 c1 c2 m0 d0 k0 s0 t0 W hv hrl (by omega) a b
  have hz0:=eW vars row k0 s0 t0 (m0 == 0) hm0.1 hzr
  rw[←ko vars row hR0']at hR0 hz0
  simp only[List.map_cons,List.map_nil,List.length_cons,List.length_nil,Nat.zero_add]at hl' ⊢
  simp only[Nat.zero_mul,Nat.add_zero]at q0_0 q0_1 q0_2 q0_3 q0_4 q0_5 q0_6
  generalize dD vars row n x0=o0 at *
  obtain⟨v,hvv⟩:∃v:Int,tu k ([o0])=v:=⟨_,rfl⟩
  rw[hvv]
  have Hv:=Lib.hid hvv
  have ho0:=Lib.hid (show ∀u,o0=some u->o0.getD zTm=u from λu h=>by rw[h];rfl)
  unfold r7 tmV at hR0
  generalize o0.getD zTm=z0 at *
  have h0:W.cell? ⟨b,0,none⟩=some (.slice A1 vars.length c1):=by rw[hB0.cell (ag h0')];exact h0'
  have h1:W.cell? ⟨b,1,none⟩=some (.slice A2 row.length c2):=by rw[hB0.cell (ag h1')];exact h1'
  have h4:=Rd.later h4' hB0
  have h5:=RdTs.later h5' hB0
  have hb6:=hbx 6 _ rfl
  have hb0:=hbx 0 _ rfl
  have HB0:=Lib.hid hB0
  clear hbx hk hj hzr hzk hvv hB0 h0' h1' h2' h3' h4' h5' hR0'
  go_enter Tryz.func128,Tryz.ntmps128
  go_wp2
  try simp only[hW]
  have HW:=Lib.hid hW
  clear hW
  refine Rf.p0 W.heap.size ?R0 (.quiet [0,1,2,3,4,5,6,7] (.fork 8 12 (.quiet [9,10,11] (.one 12 (.one 13 (.quiet [14] (.done))))) (.one 8 (.quiet [9,10,11] (.one 13 (.quiet [14] (.done))))))) ?_ ?_
  case R0=>exact λa W'=>∃(B:Nat) (z:Tm) (u12 u13 u14 u15 u16 u17 u18 u19 u20 u11 u21 u22:Value),a={tmps:=#[.pointer (some ⟨b,0,none⟩),.agg #[.int .i64 k,.string s,.int .i64 t.k,.string t.x,.string t.l,.string t.y,.slice (some ⟨g0,e0,none⟩) 1 c],undef,.pointer (some ⟨w.heap.size,0,none⟩),.int .i64 0,.pointer (some ⟨B,0,none⟩),.bool o0.isSome,.pointer (some ⟨w.heap.size,6,none⟩),.slice (some ⟨g0,e0,none⟩) 1 c,.int .i64 1,.bool false,u11,u12,u13,u14,u15,u16,u17,u18,u19,u20,u21,u22,undef,undef,undef,undef,undef,undef,undef,undef,undef,undef,undef,undef,undef,undef,undef,undef,undef,undef,undef],defers:=[]}/\(∀u,o0=some u->z=u)/\jp W' B z/\Below W.heap.size W W'
  ·intro wd hbd hwz
   have L_h0:=cellL h0 hbd
   have L_h1:=cellL h1 hbd
   have L_hb6:=cellL hb6 hbd
   have L_q0_0:=cellL q0_0 hbd
   have L_q0_1:=cellL q0_1 hbd
   have L_q0_2:=cellL q0_2 hbd
   have L_q0_3:=cellL q0_3 hbd
   have L_q0_4:=cellL q0_4 hbd
   have L_q0_5:=cellL q0_5 hbd
   have L_q0_6:=cellL q0_6 hbd
   have hr1:=(h4).later hbd
   have hr2:=RdTs.later h5 hbd
   have Hz:=Lib.hid hwz
   have hle:W.heap.size<=wd.heap.size:=hbd.size
   clear h0 h1 hb6 q0_0 q0_1 q0_2 q0_3 q0_4 q0_5 q0_6 hwz
   refine Rf.pl_quiet ?_
   iterate 8 go_big_quiet_step (fail)
   refine wpQuiet_nil (Rf.pl_fork ?_ ?_)
   ·go_wp2_with (refine(hR0 _ hr1 hr2).mono ?_;rintro e w1 ⟨rfl,hb1⟩)
    have hb2:=hb1.mono hle
    refine⟨hb2,Rf.pl_quiet ?_⟩
    iterate 3 go_big_quiet_step (fail)
    refine wpQuiet_nil (Rf.pl_one ?_)
    go_wp2
    refine⟨(Below.refl _ _).alloc (Nat.le_trans hle hb1.size) _,Rf.pl_one ?_⟩
    go_wp2
    refine⟨fg (Nat.le_trans hle hb1.size) _ _,Rf.pl_quiet ?_⟩
    iterate 1 go_big_quiet_step (fail)
    exact wpQuiet_nil (Rf.pl_done ⟨_,z0,_,_,_,_,_,_,_,_,_,_,_,_,rfl,ho0.out,fN _ _ _,(hbd.trans hb2).alloc (Nat.le_trans hle hb1.size) _⟩)
   ·go_wp2
    refine⟨(Below.refl _ _).alloc hle _,Rf.pl_one ?_⟩
    go_wp2_with (refine(hR0 _ (hr1.later blw) (RdTs.later hr2 blw)).mono ?_;rintro e w1 ⟨rfl,hb1⟩)
    obtain⟨hc,hf⟩:=bD hb1
    refine⟨hb1.mono (by simp;omega),Rf.pl_quiet ?_⟩
    iterate 3 go_big_quiet_step (fail)
    refine wpQuiet_nil (Rf.pl_one ?_)
    go_wp2
    have hle2:W.heap.size<=wd.heap.size:=hle
    refine⟨ct hle2 _ _ _ _,Rf.pl_quiet ?_⟩
    have hT:jp w1 wd.heap.size zTm:=by
     refine⟨?_,?_,?_,?_⟩<;>(rw[hb1.cell (by simp),World.cell?,heap_alloc_new];rfl)
    iterate 1 go_big_quiet_step (fail)
    exact wpQuiet_nil (Rf.pl_done ⟨_,z0,_,_,_,_,_,_,_,_,_,_,_,_,rfl,ho0.out,hT.set z0,((hbd.trans ((Below.refl _ _).alloc hle _)).trans (hb1.mono (by simp;omega))).trans (ct hle2 _ _ _ _)⟩)
  ·rintro a W1 ⟨B,z,u12,u13,u14,u15,u16,u17,u18,u19,u20,u11,u21,u22,rfl,hz1,⟨w0,w1,w2,w3⟩,hb1⟩
   have hb0':=ac hb0 hb1
   have Hb1:=Lib.hid hb1
   have Hz1:=Lib.hid hz1
   clear hb1 hz1 h0 h1 hb6 hb0 h4 h5 hR0 ho0 q0_0 q0_1 q0_2 q0_3 q0_4 q0_5 q0_6
   cases o0 with
   | none =>
    simp only[Option.isSome_none]
    go_wp2
    go_ret
    exact⟨by rw[←Hv.out];rfl,aa HB0.out Hb1.out⟩
   | some u =>
    obtain rfl:=Hz1.out u rfl
    clear hz0
    simp only[Option.isSome_some]
    have hvk:tu k [some z]=CZ k z:=rfl
    rw[hvk]at Hv
    by_cases h12:k=12
    ·subst h12
     go_wp2_with ((refine(eo _ _).mono ?_);(rintro e w4 ⟨rfl,rfl⟩))
     go_ret
     exact⟨by rw[←Hv.out];rfl,aa HB0.out Hb1.out⟩
    ·have h12':(k == 12)=false:=by simpa using h12
     by_cases h13:k=13
     ·subst h13
      go_wp2_with fail
      refine(od _ _ _ _ _).mono ?_
      rintro e w4 ⟨rfl,hb4⟩
      go_wp2_with ((refine(eo _ _).mono ?_);(rintro e w5 ⟨rfl,rfl⟩))
      go_ret
      exact⟨by rw[←Hv.out];rfl,aa (aa HB0.out Hb1.out) hb4⟩
     ·have h13':(k == 13)=false:=by simpa using h13
      go_wp2_with ((refine(eo _ _).mono ?_);(rintro e w4 ⟨rfl,rfl⟩))
      go_ret
      have hvv:v=fw (z.k == 2):=by rw[←Hv.out];unfold CZ;rw[if_neg (by simp[h12]),if_neg (by simp[h13])]
      exact⟨by rw[hvv];rfl,aa HB0.out Hb1.out⟩
end Go.Proofs.YtfcbghmbbjolcaaGreatDoor
