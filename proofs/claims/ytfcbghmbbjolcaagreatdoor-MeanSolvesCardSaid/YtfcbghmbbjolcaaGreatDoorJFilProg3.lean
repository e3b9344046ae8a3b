/- The program's package filter, walked: numbers, order, Same, -/
import Derived.Test.YtfcbghmbbjolcaaGreatDoorJFilProg
set_option maxHeartbeats 8000000
namespace Go.Proofs.YtfcbghmbbjolcaaGreatDoor
open Go Go.RowKit Fm
theorem iR (p:UInt8->Bool):∀(l:List UInt8),l.dropWhile p=[]↔l.all p=true
 | []=>by simp
 | a::l=>by
  rw[List.dropWhile_cons]
  by_cases h:p a=true
  ·simp[h,iR p l]
  ·simp[h]
theorem lK (p:UInt8->Bool) (l:List UInt8):l.reverse.all p=l.all p:=by
 rw[Bool.eq_iff_iff];simp
theorem yA (l cs:List UInt8):(Lib.trimS l cs).isEmpty=l.all cs.contains:=by
 rw[Bool.eq_iff_iff,List.isEmpty_iff,Lib.trimS,Lib.trimLeftS,iR,Lib.trimRightS]
 show (l.reverse.dropWhile cs.contains).reverse.all cs.contains=true↔_
 rw[lK]
 have key:∀m:List UInt8,(m.dropWhile cs.contains).all cs.contains=true↔m.all cs.contains=true:=by
  intro m
  induction m with
  | nil=>simp
  | cons a m ih =>
   rw[List.dropWhile_cons]
   by_cases h:cs.contains a=true
   ·rw[if_pos h,ih,List.all_cons,h];simp
   ·rw[if_neg h]
 rw[key,lK]
theorem vg (s:ByteArray) (hs:s.size<=281474976710656):∃r:ByteArray,r.toList.isEmpty=s.toList.all Am.contains/\∀w,Calls Tryz.prog 273 #[.string s,.string ⟨#[48,49,50,51,52,53,54,55,56,57]⟩] w λe w'=>e=.returned (.string r)/\Below w.heap.size w w':=by
 refine⟨⟨(Lib.trimS s.data.toList Am).toArray⟩,?_,λw=>?_⟩
 ·rw[toList_mk,yA,ByteArray.toList_eq]
 ·exact Any.strings_Trim_laid se (by kernel_rfl) s ⟨#[48,49,50,51,52,53,54,55,56,57]⟩ w (by omega) (by decide) (ascii_of_all (by decide))
theorem yz (s:ByteArray) (w:World):Calls Tryz.prog 274 #[.string s,.string ⟨#[48]⟩] w λe w'=>e=.returned (.string ⟨(s.toList.dropWhile (· == 48)).toArray⟩)/\w=w':=by
 rw[ByteArray.toList_eq]
 exact(eS s 48 (by decide) w).mono λ_ _ ⟨he,hw⟩=>⟨he,hw.symm⟩
theorem wZ (s:ByteArray) (c:UInt8) (w:World):Calls Tryz.prog 272 #[.string s,.string ⟨#[c]⟩] w λe w'=>e=.returned (.string ⟨(Lib.trimPrefix s.toList [c]).toArray⟩)/\w=w':=by
 rw[ByteArray.toList_eq]
 exact(fK s ⟨#[c]⟩ w).mono λ_ _ ⟨he,hw⟩=>⟨he,hw.symm⟩
theorem pD (c:UInt8) (r:List UInt8):Lib.trimPrefix (c::r) [c]=r:=by
 simp[Lib.trimPrefix,Lib.hasPrefix,List.isPrefixOf]
theorem my (c d:UInt8) (r:List UInt8) (h:c≠d):Lib.trimPrefix (d::r) [c]=d::r:=by
 simp[Lib.trimPrefix,Lib.hasPrefix,List.isPrefixOf,h]
theorem pE (c:UInt8):Lib.trimPrefix [] [c]=[]:=by
 simp[Lib.trimPrefix,Lib.hasPrefix,List.isPrefixOf]
theorem vC (x:List UInt8):∃(m:Bool) (r:List UInt8),Fb x=oZ m r /\
  ((m=true/\Lib.trimPrefix x [45]=r/\(r == x)=false)∨(m=false/\Lib.trimPrefix x [45]=x/\Lib.trimPrefix x [43]=r))/\r.length<=x.length:=by
 rcases x with _|⟨d,r⟩
 ·exact⟨false,[],rfl,.inr ⟨rfl,pE _,pE _⟩,by simp⟩
 ·by_cases h1:d=45
  ·subst h1
   refine⟨true,r,rfl,.inl ⟨rfl,pD _ _,?_⟩,by simp⟩
   rw[beq_eq_false_iff_ne]
   intro h
   have:=congrArg List.length h
   simp at this
  ·by_cases h2:d=43
   ·subst h2
    exact⟨false,r,rfl,.inr ⟨rfl,my _ _ _ (by decide),pD _ _⟩,by simp⟩
   ·refine⟨false,d::r,?_,.inr ⟨rfl,my _ _ _ (Ne.symm h1),my _ _ _ (Ne.symm h2)⟩,by simp⟩
    unfold Fb
    split
    ·rename_i h;injection h with h _;exact(h1 h).elim
    ·rename_i h;injection h with h _;exact(h2 h).elim
    ·rfl
def vR (o:Option (Bool × List UInt8)):Value:=.tuple #[.bool ((o.map (·.1)).getD false),.string ⟨((o.map (·.2)).getD []).toArray⟩,.bool o.isSome]
theorem rc (t:Tm):vR (vS t)=.tuple #[.bool (re t),.string ⟨(em t).toArray⟩,.bool (pa t)]:=rfl
theorem EZ {m:Bool} {r:List UInt8} (h:r.isEmpty=true∨(r.all Am.contains)=false):vR (oZ m r)=.tuple #[.bool false,.string ⟨#[]⟩,.bool false]:=by
 unfold oZ
 rw[if_pos (by rcases h with h|h<;>simp[h])]
 rfl
theorem zz {m:Bool} {r:List UInt8} (h:r.isEmpty=false) (h2:(r.all Am.contains)=true) (h3:(r.dropWhile (· == 48)).isEmpty=true):vR (oZ m r)=.tuple #[.bool false,.string ⟨#[48]⟩,.bool true]:=by
 unfold oZ
 rw[if_neg (by simp only[h,h2];decide),if_pos h3]
 rfl
theorem Cp {m:Bool} {r:List UInt8} (h:r.isEmpty=false) (h2:(r.all Am.contains)=true) (h3:(r.dropWhile (· == 48)).isEmpty=false):vR (oZ m r)=.tuple #[.bool m,.string ⟨(r.dropWhile (· == 48)).toArray⟩,.bool true]:=by
 unfold oZ
 rw[if_neg (by simp only[h,h2];decide),if_neg (by simp[h3])]
 rfl
theorem Fa (x:ByteArray) (hs:x.size<=281474976710656):∃(m:Bool) (s rt z:ByteArray) (V:Value),vR (Fb x.toList)=V /\
  ((m=true/\(∀W,Calls Tryz.prog 272 #[.string x,.string ⟨#[45]⟩] W λe w'=>e=.returned (.string s)/\W=w')/\(s.toList == x.toList)=false) ∨
  (m=false/\(∀W,Calls Tryz.prog 272 #[.string x,.string ⟨#[45]⟩] W λe w'=>e=.returned (.string x)/\W=w') /\
    (∀W,Calls Tryz.prog 272 #[.string x,.string ⟨#[43]⟩] W λe w'=>e=.returned (.string s)/\W=w'))) /\
  (∀W,Calls Tryz.prog 273 #[.string s,.string ⟨#[48,49,50,51,52,53,54,55,56,57]⟩] W λe w'=>e=.returned (.string rt)/\Below W.heap.size W w') /\
  (∀W,Calls Tryz.prog 274 #[.string s,.string ⟨#[48]⟩] W λe w'=>e=.returned (.string z)/\W=w') /\
  (s.toList.isEmpty=true∨rt.toList.isEmpty=false->V=.tuple #[.bool false,.string ⟨#[]⟩,.bool false]) /\
  (s.toList.isEmpty=false->rt.toList.isEmpty=true->z.toList.isEmpty=true->V=.tuple #[.bool false,.string ⟨#[48]⟩,.bool true]) /\
  (s.toList.isEmpty=false->rt.toList.isEmpty=true->z.toList.isEmpty=false->V=.tuple #[.bool m,.string z,.bool true]):=by
 have h1:=λW=>wZ x 45 W
 have h2:=λW=>wZ x 43 W
 obtain⟨m,r,hn,hm,hl⟩:=vC x.toList
 have hrs:(⟨r.toArray⟩:ByteArray).size<=281474976710656:=by
  show r.toArray.size<=_
  rw[List.size_toArray]
  have:x.toList.length=x.size:=by rw[ByteArray.toList_eq];exact ar x
  omega
 obtain⟨rt,hrt,hT⟩:=vg ⟨r.toArray⟩ hrs
 have hz:=λW=>yz ⟨r.toArray⟩ W
 simp only[toList_mk]at hrt hz
 have hx:(⟨x.toList.toArray⟩:ByteArray)=x:=by rw[ByteArray.toList_eq]
 refine⟨m,⟨r.toArray⟩,rt,⟨(r.dropWhile (· == 48)).toArray⟩,_,rfl,?_,hT,hz,?_,?_,?_⟩
 ·rcases hm with ⟨rfl,e1,e2⟩|⟨rfl,e1,e2⟩
  ·rw[e1]at h1
   exact .inl ⟨rfl,h1,by rw[toList_mk];exact e2⟩
  ·rw[e1,hx]at h1
   rw[e2]at h2
   exact .inr ⟨rfl,h1,h2⟩
 ·rw[toList_mk r,hrt,hn];exact EZ
 ·rw[toList_mk r,toList_mk (r.dropWhile _),hrt,hn];exact zz
 ·rw[toList_mk r,toList_mk (r.dropWhile _),hrt,hn];exact Cp
theorem kR (k:Int) (x l y:ByteArray) (w:World) (hs:x.size<=281474976710656) :
  Calls Tryz.prog 241 #[.agg #[.int .i64 k,.string x,.string l,.string y]] w λe w'=>e=.returned (vR (vS ⟨k,x,l,y⟩))/\Below w.heap.size w w':=by
 have ht:=λW=>oc k x l y cM W
 obtain⟨m,s,rt,z,V,hV,hm,hT,hz,n1,n2,n3⟩:=Fa x hs
 have hfin:vR (vS ⟨k,x,l,y⟩)=if df ⟨k,x,l,y⟩ cM then V else .tuple #[.bool false,.string ⟨#[]⟩,.bool false]:=by
  unfold vS
  split
  ·rw[←hV]
  ·rfl
 rw[hfin]
 generalize df ⟨k,x,l,y⟩ cM=q at ht ⊢
 unfold cM at ht
 have N:=Lib.hid (And.intro n1 (And.intro n2 n3))
 clear n1 n2 n3 hfin hV hs
 rcases hm with ⟨rfl,h1,hm⟩|⟨rfl,h1,h2⟩
 ·cases q
  ·go_enter Tryz.func241,Tryz.ntmps241
   go_wp2_with (first
    | (go_at_call 272;refine(h1 _).mono ?_;rintro e w1 ⟨rfl,rfl⟩)
    | (go_at_call 239;refine(ht _).mono ?_;rintro e w2 ⟨rfl,hb2⟩))
   go_ret3
   exact⟨rfl,blw⟩
  ·go_enter Tryz.func241,Tryz.ntmps241
   go_wp2_with (first
    | (go_at_call 272;refine(h1 _).mono ?_;rintro e w1 ⟨rfl,rfl⟩)
    | (go_at_call 273;refine(hT _).mono ?_;rintro e w3 ⟨rfl,hb3⟩)
    | (go_at_call 274;refine(hz _).mono ?_;rintro e w4 ⟨rfl,rfl⟩)
    | (go_at_call 239;refine(ht _).mono ?_;rintro e w2 ⟨rfl,hb2⟩))
   all_goals
    go_ret3
    obtain⟨n1,n2,n3⟩:=N.out
    refine⟨?_,blw⟩
    simp_all
 ·have hxx:(x.toList == x.toList)=true:=by simp
  cases q
  ·go_enter Tryz.func241,Tryz.ntmps241
   go_wp2_with fail
   refine(h1 _).mono ?_
   rintro e w1 ⟨rfl,rfl⟩
   go_wp2_with fail
   refine(h2 _).mono ?_
   rintro e w1 ⟨rfl,rfl⟩
   go_wp2_with (go_at_call 239;refine(ht _).mono ?_;rintro e w2 ⟨rfl,hb2⟩)
   go_ret3
   exact⟨rfl,blw⟩
  ·go_enter Tryz.func241,Tryz.ntmps241
   go_wp2_with fail
   refine(h1 _).mono ?_
   rintro e w1 ⟨rfl,rfl⟩
   go_wp2_with fail
   refine(h2 _).mono ?_
   rintro e w1 ⟨rfl,rfl⟩
   go_wp2_with (first
    | (go_at_call 273;refine(hT _).mono ?_;rintro e w3 ⟨rfl,hb3⟩)
    | (go_at_call 274;refine(hz _).mono ?_;rintro e w4 ⟨rfl,rfl⟩)
    | (go_at_call 239;refine(ht _).mono ?_;rintro e w2 ⟨rfl,hb2⟩))
   all_goals
    go_ret3
    obtain⟨n1,n2,n3⟩:=N.out
    refine⟨?_,blw⟩
    simp_all
def nb (l:List Int):Int:=(l.find? (λx => !(x == 0))).getD 0
theorem Iy (l:List Int) (A:Option Addr) (c:Nat) (w:World) (hl:l.length<=1000) (hr:Rd w A (l.map (Value.int .i64))) :
  Calls Tryz.prog 150 #[.slice A l.length c] w λe w'=>e=.returned (.int .i64 (nb l))/\Below w.heap.size w w':=by
 go_enter Tryz.func150,Tryz.ntmps150
 go_wp2
 go_loop [8] (λi=>∃k:Nat,k<=l.length/\i=.int .i64 k/\Hid (nb l=nb (l.drop k))) (λi=>l.length-(intOf i).toNat)
 case atStart=>exact⟨0,by omega,rfl,rfl⟩
 case round =>
  obtain⟨k,hk,rfl,H⟩:=hrel
  by_cases hlt:k<l.length
  ·obtain⟨x,hx⟩:∃x,l[k]?=some x:=⟨_,List.getElem?_eq_getElem hlt⟩
   obtain⟨g,o,rfl,hcx⟩:=hr.at_ (j:=k) (u:=.int .i64 x) (by simp[hx])
   have hd:l.drop k=x::l.drop (k+1):=by
    rw[List.drop_eq_getElem_cons hlt]
    rw[List.getElem?_eq_getElem hlt]at hx
    injection hx with hx;rw[hx]
   have H2:Hid (nb l=if x == 0 then nb (l.drop (k+1)) else x):=by
    show nb l=_
    rw[H.out,hd]
    unfold nb
    rw[List.find?_cons]
    cases hx0:(x == 0)<;>simp
   clear hx hd H hr
   cases hx0:(x == 0)
   ·rw[hx0]at H2
    go_wp2
    go_ret
    exact⟨by rw[H2.out];rfl,Below.refl _ _⟩
   ·rw[hx0]at H2
    go_wp2
    go_round
    case rel=>exact⟨k+1,by omega,by go_num,H2⟩
    case measure=>simp[intOf];omega
  ·have H2:Hid (nb l=0):=by
    show nb l=_
    rw[H.out,List.drop_eq_nil_of_le (by omega)];rfl
   clear H
   go_wp2
   go_ret
   exact⟨by rw[H2.out];rfl,Below.refl _ _⟩
theorem EW (a b:Int):nb [a,b]=if a=0 then b else a:=by
 unfold nb
 by_cases h:a=0
 ·subst h
  by_cases h2:b=0
  ·subst h2;simp
  ·simp[h2]
 ·simp[h]
theorem FZ (a b:List UInt8) : -1<=aZ a b/\aZ a b<=1:=by
 unfold aZ;split
 ·omega
 ·split<;>omega
theorem pt (a b:Int) : -1<=Lib.compareInt a b/\Lib.compareInt a b<=1:=by
 unfold Lib.compareInt;split
 ·omega
 ·split<;>omega
theorem aI {w W:World} {cs1 cs2:Array Value} {t1 t2:TypeId} (hb:Below ((w.alloc (.cells cs1 t1)).alloc (.cells cs2 t2)).heap.size ((w.alloc (.cells cs1 t1)).alloc (.cells cs2 t2)) W) (j:Nat) (v:Value) (h:cs1[j]?=some v) (d:Nat) (os:Array Obj) :
  (Sort.grow (redrawn W d) os).cell? ⟨w.heap.size,j,none⟩=some v:=by
 refine cell_regrown ?_ d os
 rw[hb.cell (p:=⟨w.heap.size,j,none⟩) (by simp;omega),World.cell?,aL]
 exact h
theorem aH {w W:World} {cs1 cs2:Array Value} {t1 t2:TypeId} (hb:Below ((w.alloc (.cells cs1 t1)).alloc (.cells cs2 t2)).heap.size ((w.alloc (.cells cs1 t1)).alloc (.cells cs2 t2)) W) (j:Nat) (v:Value) (h:cs2[j]?=some v) (d:Nat) (os:Array Obj) :
  (Sort.grow (redrawn W d) os).cell? ⟨w.heap.size+1,j,none⟩=some v:=by
 refine cell_regrown ?_ d os
 rw[hb.cell (p:=⟨w.heap.size+1,j,none⟩) (by simp),World.cell?,av]
 exact h
theorem Calls.quiet_tr {P:Program} {f:FuncId} {args:Array Value} {w:World} {d:Nat} {os:Array Obj} {v:Value}
  (h:Calls P f args (Sort.grow (redrawn w d) os) λe w'=>e=.returned v/\Sort.grow (redrawn w d) os=w'):Calls P f args (Sort.grow (redrawn w d) os) λe w''=>e=.returned v/\∃p:Regrown,w''=Sort.grow (redrawn w p.d) p.os:=
 h.mono λ_ _ ⟨he,hb⟩=>⟨he,⟨d,os⟩,hb.symm⟩
set_option maxRecDepth 100000 in
theorem us (k1 k2:Int) (x1 l1 y1 x2 l2 y2:ByteArray) (w:World) (hs1:x1.size<=281474976710656) (hs2:x2.size<=281474976710656) :
  Calls Tryz.prog 243 #[.agg #[.int .i64 k1,.string x1,.string l1,.string y1],.agg #[.int .i64 k2,.string x2,.string l2,.string y2]] w λe w' =>
   e=.returned (.tuple #[.int .i64 (zp ⟨k1,x1,l1,y1⟩ ⟨k2,x2,l2,y2⟩),.bool (zq ⟨k1,x1,l1,y1⟩ ⟨k2,x2,l2,y2⟩)])/\Below w.heap.size w w':=by
 have hN1:=λW=>kR k1 x1 l1 y1 W hs1
 have hN2:=λW=>kR k2 x2 l2 y2 W hs2
 have hS1:=λW=>rE k1 x1 l1 y1 W
 have hS2:=λW=>rE k2 x2 l2 y2 W
 have hP1:=λW=>uq k1 x1 l1 y1 W
 have hP2:=λW=>uq k2 x2 l2 y2 W
 have hC:=λW=>jk x1 x2 W
 obtain⟨D1,hD1⟩:∃D:ByteArray,(⟨(em ⟨k1,x1,l1,y1⟩).toArray⟩:ByteArray)=D:=⟨_,rfl⟩
 obtain⟨D2,hD2⟩:∃D:ByteArray,(⟨(em ⟨k2,x2,l2,y2⟩).toArray⟩:ByteArray)=D:=⟨_,rfl⟩
 simp only[rc,hD1]at hN1
 simp only[rc,hD2]at hN2
 have hz1:((em ⟨k1,x1,l1,y1⟩).length:Int)=D1.size:=by rw[←hD1];show _=((em ⟨k1,x1,l1,y1⟩).toArray.size:Int);simp
 have hz2:((em ⟨k2,x2,l2,y2⟩).length:Int)=D2.size:=by rw[←hD2];show _=((em ⟨k2,x2,l2,y2⟩).toArray.size:Int);simp
 have hl1:D1.toList=em ⟨k1,x1,l1,y1⟩:=by rw[←hD1,toList_mk]
 have hl2:D2.toList=em ⟨k2,x2,l2,y2⟩:=by rw[←hD2,toList_mk]
 have hCI:=λW=>gW D1.size D2.size W
 have hCS:=λW=>jk D1 D2 W
 rw[hl1,hl2]at hCS
 rw[←hz1,←hz2]at hCI
 have hc:=pt (em ⟨k1,x1,l1,y1⟩).length (em ⟨k2,x2,l2,y2⟩).length
 have hd:=FZ (em ⟨k1,x1,l1,y1⟩) (em ⟨k2,x2,l2,y2⟩)
 unfold zp zq Iz
 generalize Lib.compareInt (em ⟨k1,x1,l1,y1⟩).length (em ⟨k2,x2,l2,y2⟩).length=c at *
 generalize aZ (em ⟨k1,x1,l1,y1⟩) (em ⟨k2,x2,l2,y2⟩)=d at *
 rw[hz1,hz2]at hCI
 clear hz1 hz2 hl1 hl2 hD1 hD2
 have hO:=λg W c2 h=>Iy [c,d] (some ⟨g,0,none⟩) c2 W (by simp) h
 simp only[EW]at hO
 have hob : -1<=(if c=0 then d else c)/\(if c=0 then d else c)<=1:=by split<;>omega
 generalize (if c=0 then d else c)=n at hO hob ⊢
 obtain⟨hob1,hob2⟩:=hob
 have hnn:IntKind.i64.wrap (-n) = -n:=IntWalk.i64_in _ (by omega)
 have hcmp:aZ (⟨k1,x1,l1,y1⟩:Tm).x.toList (⟨k2,x2,l2,y2⟩:Tm).x.toList=aZ x1.toList x2.toList:=rfl
 rw[hcmp]
 clear hcmp
 generalize aZ x1.toList x2.toList=t at *
 generalize re ⟨k1,x1,l1,y1⟩=m1 at *
 generalize re ⟨k2,x2,l2,y2⟩=m2 at *
 generalize pa ⟨k1,x1,l1,y1⟩=i1 at *
 generalize pa ⟨k2,x2,l2,y2⟩=i2 at *
 generalize mu ⟨k1,x1,l1,y1⟩=q1 at *
 generalize mu ⟨k2,x2,l2,y2⟩=q2 at *
 generalize gV ⟨k1,x1,l1,y1⟩=b1 at *
 generalize gV ⟨k2,x2,l2,y2⟩=b2 at *
 generalize kx ⟨k1,x1,l1,y1⟩=p1 at *
 generalize kx ⟨k2,x2,l2,y2⟩=p2 at *
 clear hs1 hs2
 go_enter Tryz.func243,Tryz.ntmps243
 go_wp2_with fail
 refine(hN1 _).mono ?_
 rintro e w1 ⟨rfl,hb1⟩
 obtain⟨hc1,hf1⟩:=bD hb1
 go_wp2_with fail
 refine(hN2 _).mono ?_
 rintro e w2 ⟨rfl,hb2⟩
 have hb2':=aa hb1 hb2
 clear hc1 hf1 hb1 hb2
 obtain⟨hc2,hf2⟩:=bD hb2'
 go_wp2_with fail
 refine(hS1 _).mono ?_
 rintro e w3 ⟨rfl,hb3⟩
 have hb3':=aa hb2' hb3
 clear hc2 hf2 hb2' hb3
 obtain⟨hc3,hf3⟩:=bD hb3'
 go_wp2_with fail
 refine(hS2 _).mono ?_
 rintro e w4 ⟨rfl,hb4⟩
 have hb4':=aa hb3' hb4
 clear hc3 hf3 hb3' hb4
 cases i1
 ·cases b1
  ·have g01:=λd os=>aI hb4' 0 _ rfl d os
   have g02:=λd os=>aI hb4' 1 _ rfl d os
   have g03:=λd os=>aI hb4' 2 _ rfl d os
   have g04:=λd os=>aI hb4' 3 _ rfl d os
   have g11:=λd os=>aH hb4' 0 _ rfl d os
   have g12:=λd os=>aH hb4' 1 _ rfl d os
   have g13:=λd os=>aH hb4' 2 _ rfl d os
   have g14:=λd os=>aH hb4' 3 _ rfl d os
   cases p1
   all_goals
    go_wp2
    refine wrq ?_;(repeat (any_goals (go_big_quiet_step ((first|(go_at_call 164;with_reducible exact Calls.quiet_tr (hC _))|(go_at_call 281;with_reducible exact Calls.regrown_of (hP1 _))|(go_at_call 281;with_reducible exact Calls.regrown_of (hP2 _)))))));all_goals (refine wqn ?_;intro d9 os9)
    go_wp2
    go_ret2
    exact⟨by simp,blw⟩
  ·cases b2
   ·have g01:=λd os=>aI hb4' 0 _ rfl d os
    have g02:=λd os=>aI hb4' 1 _ rfl d os
    have g03:=λd os=>aI hb4' 2 _ rfl d os
    have g04:=λd os=>aI hb4' 3 _ rfl d os
    have g11:=λd os=>aH hb4' 0 _ rfl d os
    have g12:=λd os=>aH hb4' 1 _ rfl d os
    have g13:=λd os=>aH hb4' 2 _ rfl d os
    have g14:=λd os=>aH hb4' 3 _ rfl d os
    cases p1
    all_goals
     go_wp2
     refine wrq ?_;(repeat (any_goals (go_big_quiet_step ((first|(go_at_call 164;with_reducible exact Calls.quiet_tr (hC _))|(go_at_call 281;with_reducible exact Calls.regrown_of (hP1 _))|(go_at_call 281;with_reducible exact Calls.regrown_of (hP2 _)))))));all_goals (refine wqn ?_;intro d9 os9)
     go_wp2
     go_ret2
     exact⟨by simp,blw⟩
   ·go_wp2_with fail
    refine(da _ _).mono ?_
    rintro e w8 ⟨rfl,rfl⟩
    go_wp2_with fail
    refine(da _ _).mono ?_
    rintro e w9 ⟨rfl,rfl⟩
    have hq:wrap64 (wt q1-wt q2)=wt q1-wt q2:=IntWalk.wrap64_in _ (by cases q1<;>cases q2<;>decide)
    go_wp2
    go_ret2
    exact⟨by simp,blw⟩
 ·cases i2
  ·cases b1
   ·have g01:=λd os=>aI hb4' 0 _ rfl d os
    have g02:=λd os=>aI hb4' 1 _ rfl d os
    have g03:=λd os=>aI hb4' 2 _ rfl d os
    have g04:=λd os=>aI hb4' 3 _ rfl d os
    have g11:=λd os=>aH hb4' 0 _ rfl d os
    have g12:=λd os=>aH hb4' 1 _ rfl d os
    have g13:=λd os=>aH hb4' 2 _ rfl d os
    have g14:=λd os=>aH hb4' 3 _ rfl d os
    cases p1
    all_goals
     go_wp2
     refine wrq ?_;(repeat (any_goals (go_big_quiet_step ((first|(go_at_call 164;with_reducible exact Calls.quiet_tr (hC _))|(go_at_call 281;with_reducible exact Calls.regrown_of (hP1 _))|(go_at_call 281;with_reducible exact Calls.regrown_of (hP2 _)))))));all_goals (refine wqn ?_;intro d9 os9)
     go_wp2
     go_ret2
     exact⟨by simp,blw⟩
   ·cases b2
    ·have g01:=λd os=>aI hb4' 0 _ rfl d os
     have g02:=λd os=>aI hb4' 1 _ rfl d os
     have g03:=λd os=>aI hb4' 2 _ rfl d os
     have g04:=λd os=>aI hb4' 3 _ rfl d os
     have g11:=λd os=>aH hb4' 0 _ rfl d os
     have g12:=λd os=>aH hb4' 1 _ rfl d os
     have g13:=λd os=>aH hb4' 2 _ rfl d os
     have g14:=λd os=>aH hb4' 3 _ rfl d os
     cases p1
     all_goals
      go_wp2
      refine wrq ?_;(repeat (any_goals (go_big_quiet_step ((first|(go_at_call 164;with_reducible exact Calls.quiet_tr (hC _))|(go_at_call 281;with_reducible exact Calls.regrown_of (hP1 _))|(go_at_call 281;with_reducible exact Calls.regrown_of (hP2 _)))))));all_goals (refine wqn ?_;intro d9 os9)
      go_wp2
      go_ret2
      exact⟨by simp,blw⟩
    ·go_wp2_with fail
     refine(da _ _).mono ?_
     rintro e w8 ⟨rfl,rfl⟩
     go_wp2_with fail
     refine(da _ _).mono ?_
     rintro e w9 ⟨rfl,rfl⟩
     have hq:wrap64 (wt q1-wt q2)=wt q1-wt q2:=IntWalk.wrap64_in _ (by cases q1<;>cases q2<;>decide)
     go_wp2
     go_ret2
     exact⟨by simp,blw⟩
  ·go_wp2_with fail
   refine(hCI _).mono ?_
   rintro e w5 ⟨rfl,rfl⟩
   go_wp2_with fail
   refine(hCS _).mono ?_
   rintro e w6 ⟨rfl,rfl⟩
   go_wp2_with fail
   refine(hO _ _ _ (Rd.of_block (heap_alloc_new _ _) rfl)).mono ?_
   rintro e w7 ⟨rfl,hb7⟩
   have hb7':=aa (dS hb4') hb7
   clear hb4' hb7
   cases m1
   ·cases m2
    ·go_wp2
     go_ret2
     exact⟨by simp,blw⟩
    ·go_wp2_with fail
     refine(da _ _).mono ?_
     rintro e w8 ⟨rfl,rfl⟩
     go_wp2_with fail
     refine(da _ _).mono ?_
     rintro e w9 ⟨rfl,rfl⟩
     go_wp2
     go_ret2
     exact⟨by simp[wt]<;>exact IntWalk.wrap64_in _ (by decide),blw⟩
   ·cases m2
    ·go_wp2_with fail
     refine(da _ _).mono ?_
     rintro e w8 ⟨rfl,rfl⟩
     go_wp2_with fail
     refine(da _ _).mono ?_
     rintro e w9 ⟨rfl,rfl⟩
     go_wp2
     go_ret2
     exact⟨by simp[wt]<;>exact IntWalk.wrap64_in _ (by decide),blw⟩
    ·go_wp2
     go_ret2
     exact⟨by simp,blw⟩
end Go.Proofs.YtfcbghmbbjolcaaGreatDoor
