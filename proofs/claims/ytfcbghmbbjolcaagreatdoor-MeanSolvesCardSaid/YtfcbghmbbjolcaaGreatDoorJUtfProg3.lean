/- UTF-8 signs, in plain Lean: whether a number is a sign, whic -/
import Derived.Test.YtfcbghmbbjolcaaGreatDoorJExprMath
import Derived.Test.YtfcbghmbbjolcaaGreatDoorJRegion2
set_option maxHeartbeats 1000000
namespace Go.Proofs.YtfcbghmbbjolcaaGreatDoor.Um
open Go.Lib
def isB (n:Int):Bool:=decide (0<=n) && decide (n<=1114111) && (decide (n<55296) || decide (57343<n))
def inB (n:Int):List Int->Bool
 | a::b::l=>(decide (a<=n) && decide (n<=b)) || inB n l
 | _=>false
theorem o4 (n x y:Int) (l:List Int) (k:Nat) (hx:l[k]?=some x) (hy:l[k+1]?=some y) :
  inB n (l.drop k)=((decide (x<=n) && decide (n<=y)) || inB n (l.drop (k+2))):=by
 obtain⟨h1,rfl⟩:=List.getElem?_eq_some_iff.1 hx
 obtain⟨h2,rfl⟩:=List.getElem?_eq_some_iff.1 hy
 rw[List.drop_eq_getElem_cons h1,List.drop_eq_getElem_cons h2]
 simp[inB]
theorem xN (n:Int) (l:List Int) (k:Nat) (h:¬ k+1<l.length):inB n (l.drop k)=false:=by
 have:(l.drop k).length<=1:=by simp;omega
 generalize l.drop k=r at this
 match r,this with
 | [],_=>rfl
 | [_],_=>rfl
def wu:List Int:=[65,90,97,122,192,214,216,246,248,767,880,893,895,8191,8204,8205,8304,8591,11264,12271,12289,55295,63744,64975,65008,65533,65536,983039]
def cJ (n:Int):Bool:=inB n wu
def mj:List Int:=[95,95,58,58,45,45,48,57,183,183,768,879,8255,8256]
def cz (n:Int):Bool:=cJ n || inB n mj
def jn:List Int:=[95,95,58,58,48,57]
def cX (n:Int):Bool:=cJ n || inB n jn
def dt (n:Int):Bool:=decide (48<=n) && decide (n<=57)
def aM (n:Int):Bool:=inB n [65,90,97,122]
def jo:List Int:=[60,62,34,123,125,124,94,96,92]
def fF (n:Int):Bool:=isB n && decide (32<n) && !jo.contains n
def nx (l:List UInt8):Nat × Nat:=
 if l.length=0 then (0,0) else
 if decodeN l.length (l.getD 0 0).toNat (l.getD 1 0).toNat (l.getD 2 0).toNat (l.getD 3 0).toNat=(65533,1) then (0,0)
 else decodeN l.length (l.getD 0 0).toNat (l.getD 1 0).toNat (l.getD 2 0).toNat (l.getD 3 0).toNat
theorem bT (n:Int):isB n=true↔(0<=n/\n<=1114111)/\(n<55296∨57343<n):=by simp[isB]
theorem lp (a:UInt8):a.toNat<256:=a.toNat_lt
theorem yw (x:UInt8) (n:Int) (h:(x.toNat:Int)=n):n.toNat.toUInt8=x:=by
 subst h;simp
theorem gQ (n b0 b1 b2 b3:Nat):1<=(decodeN n b0 b1 b2 b3).2:=by
 unfold decodeN
 repeat' split
 all_goals simp
def bW (l:List UInt8):Nat->Int
 | 1=>(l.getD 0 0).toNat
 | 2=>64*((l.getD 0 0).toNat-192)+(l.getD 1 0).toNat-128
 | 3=>64*(64*((l.getD 0 0).toNat-224)+(l.getD 1 0).toNat-128)+(l.getD 2 0).toNat-128
 | 4=>64*(64*(64*((l.getD 0 0).toNat-240)+(l.getD 1 0).toNat-128)+(l.getD 2 0).toNat-128)+(l.getD 3 0).toNat-128
 | _=>0
theorem yI (l:List UInt8) (k i:Nat) (h:i<k):(l.take k).getD i 0=l.getD i 0:=by
 simp[List.getD_eq_getElem?_getD,h]
theorem FN (n:Int) (l:List UInt8) (k:Nat) (h:l.take k=encodeRune n) (i:Nat) (hi:i<(encodeRuneZ n).length) :
  ((l.getD i 0).toNat:Int)=(encodeRuneZ n).getD i 0/\(encodeRune n).length<=k:=by
 have hlen:(l.take k).length=(encodeRuneZ n).length:=by rw[h];simp[encodeRune]
 have hk:(encodeRuneZ n).length<=k:=by rw[←hlen];simp;omega
 have h1:(l.take k).getD i 0=l.getD i 0:=yI l k i (by omega)
 refine⟨?_,by simpa[encodeRune] using hk⟩
 rw[←h1,h]
 have hb:=encodeRuneZ_byte n (encodeRuneZ n)[i] (List.getElem_mem hi)
 simp only[encodeRune,List.getD_eq_getElem?_getD,List.getElem?_map,List.getElem?_eq_getElem hi,Option.map_some,Option.getD_some]
 have:((encodeRuneZ n)[i].toNat.toUInt8).toNat=(encodeRuneZ n)[i].toNat:=by
  simp;omega
 omega
theorem Jq (n b0 b1 b2 b3:Nat) (h:b0<128):decodeN n b0 b1 b2 b3=(b0,1):=by unfold decodeN;rw[if_pos h]
theorem zy (n:Int) (l:List UInt8) (hn:isB n=true) (k:Nat) (h:l.take k=encodeRune n) (hk:k<=l.length) :
  nx l=(n.toNat,k):=by
 have hlen:k=(encodeRuneZ n).length:=by
  have:(l.take k).length=(encodeRune n).length:=by rw[h]
  simp[encodeRune]at this;omega
 have hb:=λi hi=>(FN n l k h i hi).1
 rw[bT]at hn
 have hl1:=encodeRuneZ_length n
 unfold nx
 rw[if_neg (by omega)]
 have g0:=lp (l.getD 0 0)
 have g1:=lp (l.getD 1 0)
 have g2:=lp (l.getD 2 0)
 have g3:=lp (l.getD 3 0)
 generalize l.length=L at *
 have hb0:=hb 0
 have hb1:=hb 1
 have hb2:=hb 2
 have hb3:=hb 3
 clear hb
 generalize (l.getD 0 0).toNat=x0 at *
 generalize (l.getD 1 0).toNat=x1 at *
 generalize (l.getD 2 0).toNat=x2 at *
 generalize (l.getD 3 0).toNat=x3 at *
 have key:decodeN L x0 x1 x2 x3=(n.toNat,k):=by
  by_cases c1:n<=127
  ·have e:=encodeRuneZ_one hn.1.1 c1
   rw[e]at hb0 hlen
   have h0:=hb0 (by simp)
   simp only[List.getD_cons_zero,List.length_cons,List.length_nil]at h0 hlen
   rw[Jq _ _ _ _ _ (by omega)]
   ext<;>simp<;>omega
  ·by_cases c2:n<=2047
   ·have e:=encodeRuneZ_two (by omega:128<=n) c2
    rw[e]at hb0 hb1 hlen
    have h0:=hb0 (by simp)
    have h1:=hb1 (by simp)
    simp only[List.getD_cons_zero,List.getD_cons_succ,List.length_cons,List.length_nil]at h0 h1 hlen
    unfold decodeN
    rw[if_neg (by omega),if_pos (by omega),if_pos (by omega)]
    ext<;>simp<;>omega
   ·by_cases c3:n<=65535
    ·have e:=encodeRuneZ_three (r:=n) (by omega)
     rw[e]at hb0 hb1 hb2 hlen
     have h0:=hb0 (by simp)
     have h1:=hb1 (by simp)
     have h2:=hb2 (by simp)
     simp only[List.getD_cons_zero,List.getD_cons_succ,List.length_cons,List.length_nil]at h0 h1 h2 hlen
     unfold decodeN
     rw[if_neg (by omega),if_neg (by omega),if_pos (by omega),if_pos (by omega)]
     ext<;>simp<;>omega
    ·have e:=encodeRuneZ_four (r:=n) (by omega) (by omega)
     rw[e]at hb0 hb1 hb2 hb3 hlen
     have h0:=hb0 (by simp)
     have h1:=hb1 (by simp)
     have h2:=hb2 (by simp)
     have h3:=hb3 (by simp)
     simp only[List.getD_cons_zero,List.getD_cons_succ,List.length_cons,List.length_nil]at h0 h1 h2 h3 hlen
     unfold decodeN
     rw[if_neg (by omega),if_neg (by omega),if_neg (by omega),if_pos (by omega),if_pos (by omega)]
     ext<;>simp<;>omega
 rw[key,if_neg]
 intro hh
 injection hh with e1 e2
 subst e2
 have:(encodeRuneZ n).length=3:=by
  rw[encodeRuneZ_three (r:=n) (by omega)];rfl
 omega
theorem oR (l:List UInt8) (m:List Int) (hl:m.length<=l.length) (hm:∀i,i<m.length->((l.getD i 0).toNat:Int)=m.getD i 0) :
  l.take m.length=m.map λx=>x.toNat.toUInt8:=by
 apply List.ext_getElem?
 intro i
 by_cases hi:i<m.length
 ·have h1:=hm i hi
  rw[List.getElem?_take,if_pos hi,List.getElem?_map,List.getElem?_eq_getElem hi,List.getElem?_eq_getElem (by omega)]
  simp only[List.getD_eq_getElem?_getD,List.getElem?_eq_getElem hi,List.getElem?_eq_getElem (show i<l.length by omega),Option.getD_some]at h1
  simp only[Option.map_some,Option.some.injEq]
  exact(yw _ _ h1).symm
 ·rw[List.getElem?_eq_none (by simp;omega),List.getElem?_eq_none (by simp;omega)]
theorem ra (l:List UInt8) (h:(nx l).2≠0) :
  isB ((nx l).1:Int)=true/\(nx l).2<=l.length/\l.take (nx l).2=encodeRune ((nx l).1:Int)/\bW l (nx l).2=((nx l).1:Int)/\(nx l).2<=4:=by
 unfold nx at *
 split at h
 ·simp at h
 split at h
 ·simp at h
 rename_i hl0 hbad
 rw[if_neg hl0,if_neg hbad]
 have g0:=lp (l.getD 0 0)
 have g1:=lp (l.getD 1 0)
 have g2:=lp (l.getD 2 0)
 have g3:=lp (l.getD 3 0)
 have key:∀m:List Int,(∀i,i<m.length->((l.getD i 0).toNat:Int)=m.getD i 0)->m.length<=l.length->l.take m.length=m.map λx=>x.toNat.toUInt8:=λm a b=>oR l m b a
 obtain⟨b0,e0⟩:∃x,(l.getD 0 0).toNat=x:=⟨_,rfl⟩
 obtain⟨b1,e1⟩:∃x,(l.getD 1 0).toNat=x:=⟨_,rfl⟩
 obtain⟨b2,e2⟩:∃x,(l.getD 2 0).toNat=x:=⟨_,rfl⟩
 obtain⟨b3,e3⟩:∃x,(l.getD 3 0).toNat=x:=⟨_,rfl⟩
 rw[e0,e1,e2,e3]at hbad ⊢
 rw[e0]at g0
 rw[e1]at g1
 rw[e2]at g2
 rw[e3]at g3
 clear h
 have bad:∀x:Nat × Nat,x=(65533,1)->¬ x=(65533,1)->False:=λ_ a b=>b a
 unfold decodeN at hbad ⊢
 by_cases c1:b0<128
 ·rw[if_pos c1]
  refine⟨by rw[bT];omega,by omega,?_,by simp only[bW,e0],by simp only;omega⟩
  have e:=encodeRuneZ_one (r:=(b0:Int)) (by omega) (by omega)
  unfold encodeRune
  rw[e]
  refine key [(b0:Int)] ?_ (by simp;omega)
  intro i hi
  match i,hi with
  | 0,_=>rw[e0];rfl
 rw[if_neg c1]at hbad ⊢
 by_cases c2:b0 / 32=6/\(1<l.length/\b1 / 64=2)
 ·rw[if_pos c2]at hbad ⊢
  by_cases d:b0 % 32*64+b1 % 64≥128
  ·rw[if_pos d]
   refine⟨by rw[bT];simp only;omega,by simp only;omega,?_,by simp only[bW,e0,e1];omega,by simp⟩
   have e:=encodeRuneZ_two (r:=((b0 % 32*64+b1 % 64:Nat):Int)) (by omega) (by omega)
   unfold encodeRune
   simp only
   rw[e]
   refine key [_,_] ?_ (by simp;omega)
   intro i hi
   match i,hi with
   | 0,_=>rw[e0];simp only[List.getD_cons_zero];omega
   | 1,_=>rw[e1];simp only[List.getD_cons_succ,List.getD_cons_zero];omega
  ·rw[if_neg d]at hbad;exact absurd rfl hbad
 rw[if_neg c2]at hbad ⊢
 by_cases c3:b0 / 16=14/\(1<l.length/\b1 / 64=2)/\(2<l.length/\b2 / 64=2)
 ·rw[if_pos c3]at hbad ⊢
  split at hbad
  ·rename_i d
   rw[if_pos d]
   refine⟨by rw[bT];simp only;omega,by simp only;omega,?_,by simp only[bW,e0,e1,e2];omega,by simp⟩
   have e:=encodeRuneZ_three (r:=((b0 % 16*4096+b1 % 64*64+b2 % 64:Nat):Int)) (by omega)
   unfold encodeRune
   simp only
   rw[e]
   refine key [_,_,_] ?_ (by simp;omega)
   intro i hi
   match i,hi with
   | 0,_=>rw[e0];simp only[List.getD_cons_zero];omega
   | 1,_=>rw[e1];simp only[List.getD_cons_succ,List.getD_cons_zero];omega
   | 2,_=>rw[e2];simp only[List.getD_cons_succ,List.getD_cons_zero];omega
  ·exact absurd rfl hbad
 rw[if_neg c3]at hbad ⊢
 by_cases c4:b0 / 8=30/\(1<l.length/\b1 / 64=2)/\(2<l.length/\b2 / 64=2)/\(3<l.length/\b3 / 64=2)
 ·rw[if_pos c4]at hbad ⊢
  split at hbad
  ·rename_i d
   rw[if_pos d]
   refine⟨by rw[bT];simp only;omega,by simp only;omega,?_,by simp only[bW,e0,e1,e2,e3];omega,by simp⟩
   have e:=encodeRuneZ_four (r:=((b0 % 8*262144+b1 % 64*4096+b2 % 64*64+b3 % 64:Nat):Int)) (by omega) (by omega)
   unfold encodeRune
   simp only
   rw[e]
   refine key [_,_,_,_] ?_ (by simp;omega)
   intro i hi
   match i,hi with
   | 0,_=>rw[e0];simp only[List.getD_cons_zero];omega
   | 1,_=>rw[e1];simp only[List.getD_cons_succ,List.getD_cons_zero];omega
   | 2,_=>rw[e2];simp only[List.getD_cons_succ,List.getD_cons_zero];omega
   | 3,_=>rw[e3];simp only[List.getD_cons_succ,List.getD_cons_zero];omega
  ·exact absurd rfl hbad
 rw[if_neg c4]at hbad
 exact absurd rfl hbad
def sgF:Nat->List UInt8->List Int × Nat × Bool
 | 0,_=>([],0,true)
 | f+1,l=>if l.length=0 then ([],0,true) else
   if (nx l).2=0 then ([],0,false) else
   (((nx l).1:Int)::(sgF f (l.drop (nx l).2)).1,(nx l).2+(sgF f (l.drop (nx l).2)).2.1,(sgF f (l.drop (nx l).2)).2.2)
def sgn (l:List UInt8):List Int × Nat × Bool:=sgF l.length l
def ix (l:List UInt8):List Int × Nat × Int:=if (sgn l).2.2 then ((sgn l).1,0,0) else ([],(sgn l).2.1,11)
theorem Bo (f g:Nat):∀l:List UInt8,l.length<=f->l.length<=g->sgF f l=sgF g l:=by
 induction f generalizing g with
 | zero =>
  intro l h _
  have:l.length=0:=by omega
  cases g with
  | zero=>rfl
  | succ g=>simp[sgF,this]
 | succ f ih =>
  intro l h1 h2
  cases g with
  | zero =>
   have:l.length=0:=by omega
   simp[sgF,this]
  | succ g =>
   simp only[sgF]
   split
   ·rfl
   ·split
    ·rfl
    ·rename_i h3 h4
     rw[ih g (l.drop (nx l).2) (by simp;omega) (by simp;omega)]
theorem sU (l:List UInt8) (h:l.length≠0) (h0:(nx l).2≠0) :
  sgn l=(((nx l).1:Int)::(sgn (l.drop (nx l).2)).1,(nx l).2+(sgn (l.drop (nx l).2)).2.1,(sgn (l.drop (nx l).2)).2.2):=by
 unfold sgn
 obtain⟨f,hf⟩:∃f,l.length=f+1:=⟨l.length-1,by omega⟩
 rw[hf]
 simp only[sgF,if_neg h,if_neg h0]
 rw[Bo f (l.drop (nx l).2).length _ (by simp;omega) (Nat.le_refl _)]
theorem xh (l:List UInt8) (h:l.length≠0) (h0:(nx l).2=0):sgn l=([],0,false):=by
 unfold sgn
 obtain⟨f,hf⟩:∃f,l.length=f+1:=⟨l.length-1,by omega⟩
 rw[hf]
 simp only[sgF,if_neg h,if_pos h0]
theorem EK (l:List UInt8) (h:l.length=0):sgn l=([],0,true):=by
 unfold sgn
 rw[h];rfl
def fi (l:List UInt8) (k:Nat) (acc:List Int):Prop:=
 sgn l=(acc++(sgn (l.drop k)).1,k+(sgn (l.drop k)).2.1,(sgn (l.drop k)).2.2)
theorem qN (l:List UInt8):fi l 0 []:=by simp[fi]
theorem vD {l:List UInt8} {k:Nat} {acc:List Int} (h:fi l k acc) (hk:l.length<=k):ix l=(acc,0,0):=by
 unfold fi at h
 rw[EK (l.drop k) (by simp;omega)]at h
 unfold ix
 rw[h];simp
theorem vE {l:List UInt8} {k:Nat} {acc:List Int} (h:fi l k acc) (hk:k<l.length) (h0:(nx (l.drop k)).2=0):ix l=([],k,11):=by
 unfold fi at h
 rw[xh (l.drop k) (by simp;omega) h0]at h
 unfold ix
 rw[h];simp
theorem yT {l:List UInt8} {k:Nat} {acc:List Int} (h:fi l k acc) (hk:k<l.length) (h0:(nx (l.drop k)).2≠0) :
  fi l (k+(nx (l.drop k)).2) (acc++[((nx (l.drop k)).1:Int)]):=by
 unfold fi at h ⊢
 rw[sU (l.drop k) (by simp;omega) h0,List.drop_drop]at h
 rw[h]
 simp[Nat.add_assoc]
def tK:Bool->Int->Bool
 | true,n=>cX n
 | false,n=>cz n || decide (n=46)
def rv:Nat->Bool->List UInt8->Nat->Nat->Nat
 | 0,_,_,_,best=>best
 | f+1,start,l,at_,best =>
  if l.length=0∨(nx l).2=0 then best
  else if tK start (nx l).1=false then best
  else rv f false (l.drop (nx l).2) (at_+(nx l).2) (if (nx l).1=46 then best else at_+(nx l).2)
def jS (l:List UInt8):Nat:=rv (l.length+1) true l 0 0
theorem zG (f g:Nat):∀(st:Bool) (l:List UInt8) (a b:Nat),l.length<f->l.length<g->rv f st l a b=rv g st l a b:=by
 induction f generalizing g with
 | zero=>intro st l a b h;omega
 | succ f ih =>
  intro st l a b h1 h2
  cases g with
  | zero=>omega
  | succ g =>
   simp only[rv]
   split
   ·rfl
   ·rename_i h3
    split
    ·rfl
    ·rw[ih g false (l.drop (nx l).2) _ _ (by simp;omega) (by simp;omega)]
def bC (l:List UInt8) (start:Bool) (k best:Nat):Prop:=jS l=rv (l.length+1) start (l.drop k) k best
theorem iM (l:List UInt8):bC l true 0 0:=rfl
theorem gI {l:List UInt8} {st:Bool} {k best:Nat} (h:bC l st k best) (hk:l.length<=k∨(nx (l.drop k)).2=0):jS l=best:=by
 unfold bC at h
 rw[h]
 simp only[rv]
 rw[if_pos (by simp;omega)]
theorem lE {l:List UInt8} {st:Bool} {k best:Nat} (h:bC l st k best)
  (ht:tK st (nx (l.drop k)).1=false):jS l=best:=by
 unfold bC at h
 rw[h]
 simp only[rv]
 split
 ·rfl
 ·first|rfl|rw[if_pos ht]
theorem nW {l:List UInt8} {st:Bool} {k best:Nat} (h:bC l st k best) (hk:k<l.length) (h0:(nx (l.drop k)).2≠0)
  (ht:tK st (nx (l.drop k)).1=true) :
  bC l false (k+(nx (l.drop k)).2) (if (nx (l.drop k)).1=46 then best else k+(nx (l.drop k)).2):=by
 unfold bC at h ⊢
 rw[h]
 obtain⟨m,hm⟩:∃m,l.length=m+1:=⟨l.length-1,by omega⟩
 have c1:¬ ((l.drop k).length=0∨(nx (l.drop k)).2=0):=by simp only[List.length_drop];omega
 have c2:¬ tK st (nx (l.drop k)).1=false:=by rw[ht];simp
 conv=>lhs;unfold rv
 rw[if_neg c1,if_neg c2,List.drop_drop]
 exact zG _ _ _ _ _ _ (by simp only[List.length_drop];omega) (by simp only[List.length_drop];omega)
theorem rP (n:Int) (h:cX n=true):cz n=true:=by
 simp only[cX,cz,jn,mj,inB,Bool.or_eq_true,Bool.and_eq_true,decide_eq_true_eq,Bool.false_eq_true,or_false]at h ⊢
 rcases h with h|h
 ·exact .inl h
 ·right;omega
def span (p:Int->Bool):List UInt8->Nat
 | []=>0
 | c::l=>if p c.toNat then span p l+1 else 0
def aO (c:Int):Bool:=aM c || dt c
def oS:Nat->List UInt8->Nat->Nat
 | 0,_,n=>n
 | f+1,l,n=>if 0<n/\n<l.length/\(l.getD n 0).toNat=45/\span aO (l.drop (n+1))≠0 then oS f l (n+1+span aO (l.drop (n+1))) else n
def tag (l:List UInt8):Nat:=oS l.length l (span aM l)
theorem qL (p:Int->Bool) (l:List UInt8):span p l<=l.length:=by
 induction l with
 | nil=>simp[span]
 | cons c l ih=>simp only[span];split<;>simp<;>omega
theorem fA (p:Int->Bool) (l:List UInt8) (k:Nat) (hk:k<l.length) :
  span p (l.drop k)=if p (l.getD k 0).toNat then span p (l.drop (k+1))+1 else 0:=by
 rw[List.drop_eq_getElem_cons hk]
 simp only[span,List.getD_eq_getElem?_getD,List.getElem?_eq_getElem hk,Option.getD_some]
theorem jt (p:Int->Bool) (l:List UInt8) (k:Nat) (hk:l.length<=k):span p (l.drop k)=0:=by
 rw[List.drop_eq_nil_of_le hk];rfl
theorem yK (f g:Nat):∀(l:List UInt8) (n:Nat),l.length<=n+f->l.length<=n+g->oS f l n=oS g l n:=by
 induction f generalizing g with
 | zero =>
  intro l n h _
  cases g with
  | zero=>rfl
  | succ g=>simp only[oS];rw[if_neg (by omega)]
 | succ f ih =>
  intro l n h1 h2
  cases g with
  | zero=>simp only[oS];rw[if_neg (by omega)]
  | succ g =>
   simp only[oS]
   split
   ·exact ih g l _ (by omega) (by omega)
   ·rfl
def di (l:List UInt8) (n:Nat):Prop:=tag l=oS l.length l n
theorem eX {l:List UInt8} {n:Nat} (h:di l n) (ht:¬ (0<n/\n<l.length/\(l.getD n 0).toNat=45/\span aO (l.drop (n+1))≠0)):tag l=n:=by
 unfold di at h
 rw[h]
 cases hl:l.length with
 | zero=>rfl
 | succ m=>simp only[oS];rw[if_neg ht]
theorem iV {l:List UInt8} {n:Nat} (h:di l n) (ht:0<n/\n<l.length/\(l.getD n 0).toNat=45/\span aO (l.drop (n+1))≠0):di l (n+1+span aO (l.drop (n+1))):=by
 unfold di at h ⊢
 rw[h]
 obtain⟨m,hm⟩:∃m,l.length=m+1:=⟨l.length-1,by omega⟩
 rw[hm]
 conv=>lhs;unfold oS
 rw[if_pos ht]
 exact yK _ _ _ _ (by omega) (by omega)
end Go.Proofs.YtfcbghmbbjolcaaGreatDoor.Um
namespace Go.Proofs.YtfcbghmbbjolcaaGreatDoor
open Go Go.RowKit Um
def badS:ByteArray:=⟨#[60,62,34,123,125,124,94,96,92]⟩
abbrev from_ (s:ByteArray) (k:Nat):List UInt8:=s.data.toList.drop k
theorem cZ (s:ByteArray) (k:Nat):(from_ s k).length=s.size-k:=by simp[from_]
theorem dm {w:World} {base:Nat} {e:TypeId} {size n:Nat} {v:Value} {xs:List Value} (h:w.ownsRow base e size v n xs):∃A c,v=.slice A n c:=by
 rcases h.2 with ⟨hv,hn⟩|⟨g',cap,cur,hv,_⟩
 ·subst hn;exact⟨none,0,hv⟩
 ·exact⟨_,cap,hv⟩
theorem jL (s:ByteArray) (k:Nat) (h:(nx (from_ s k)).2≠0):k+(nx (from_ s k)).2<=s.size/\(nx (from_ s k)).2<=4/\(nx (from_ s k)).1<=1114111:=by
 have h1:=ra (from_ s k) h
 rw[cZ]at h1
 have h2:=h1.1
 rw[bT]at h2
 omega
theorem fW (s:ByteArray) (k:Nat):(s.data.toList.getD k 0).toNat=bn s k:=rfl
theorem xf (a b r:Int) (w:World) :
  Calls Tryz.prog 333 #[.agg #[.int .i32 a,.int .i32 b],.int .i32 r] w λe w'=>e=.returned (.bool (decide (a<=r) && decide (r<=b)))/\Below w.heap.size w w':=by
 go_enter Tryz.func333,Tryz.ntmps333
 go_wp2
 all_goals
  go_ret
  refine⟨by congr 2;simp[*];try omega,?_⟩
  repeat (first|exact Below.refl _ _|apply Below.drew|refine Below.alloc ?_ (Nat.le_refl _) _)
theorem IK (a b r:Int) (p:Addr) (w:World) (hp:w.cell? p=some (.int .i32 r)) :
  Calls Tryz.prog 332 #[.agg #[.int .i32 a,.int .i32 b],.pointer (some p)] w λe w'=>e=.returned (.bool (decide (a<=r) && decide (r<=b)))/\Below w.heap.size w w':=by
 have hs:=λW=>xf a b r W
 have hlt:=ag hp
 have hp2:∀o,(w.alloc o).cell? p=some (.int .i32 r):=λo=>by rw[World.cell?_alloc_lt w o p hlt];exact hp
 clear hp hlt
 generalize (decide (a<=r) && decide (r<=b))=q at hs
 go_enter Tryz.func332,Tryz.ntmps332
 go_wp2_with (go_at_call 333;refine(hs _).mono ?_;rintro e w1 ⟨rfl,hb⟩)
 go_ret
 exact⟨rfl,((Below.refl _ _).alloc (Nat.le_refl _) _).trans (hb.mono (by simp))⟩
theorem Fy (n:Int) (l:List Int) (k:Nat) (x y:Int) (hx:l[2*k]?=some x) (hy:l[2*k+1]?=some y) (h:(decide (x<=n) && decide (n<=y))=true) (H:inB n (l.drop (2*k))=inB n l):inB n l=true:=by
 rw[←H,o4 n x y l (2*k) hx hy,h];rfl
theorem Db (n:Int) (l:List Int) (k:Nat) (x y:Int) (hx:l[2*k]?=some x) (hy:l[2*k+1]?=some y) (h:(decide (x<=n) && decide (n<=y))=false) (H:inB n (l.drop (2*k))=inB n l):inB n (l.drop (2*(k+1)))=inB n l:=by
 rw[←H,o4 n x y l (2*k) hx hy,h];rfl
theorem zK (r:Int) (p:Addr) (l:List Int) (m:Nat) (A:Option Addr) (c:Nat) (w:World) (hm:l.length=2*m) (hl:m<=1000000) (hr:Rd w A (l.map (Value.int .i32))) (hp:w.cell? p=some (.int .i32 r)) :
  Calls Tryz.prog 356 #[.slice A m c,.func (.func 332) #[] #[.pointer (some p)]] w λe w'=>∃i:Int,e=.returned (.int .i64 i)/\decide (0<=i)=inB r l/\Below w.heap.size w w':=by
 have Hm:=Lib.hid hm
 clear hm
 go_enter Tryz.func356,Tryz.ntmps356
 go_wp2
 go_loopw [8] (λi wr=>∃k:Nat,k<=m/\i=.int .i64 k/\Below w.heap.size w wr/\Hid (inB r (l.drop (2*k))=inB r l)) (λi _=>m-(intOf i).toNat)
 case atStart=>exact⟨0,by omega,rfl,Below.refl _ _,by show _=_;simp⟩
 case round =>
  obtain⟨k,hk,rfl,hB,H⟩:=hrel
  by_cases hlt:k<m
  ·have hll:=Hm.out
   obtain⟨x,hx⟩:∃x,l[2*k]?=some x:=⟨_,List.getElem?_eq_getElem (by omega)⟩
   obtain⟨y,hy⟩:∃x,l[2*k+1]?=some x:=⟨_,List.getElem?_eq_getElem (by omega)⟩
   clear hll
   have hrr:=hr.below hB (Nat.le_refl _)
   obtain⟨g,o,rfl,hcc⟩:=hrr.resolve_left (by intro h;simp at h;subst h;simp at hx)
   have h0:=hcc (2*k) (.int .i32 x) (by simp[hx])
   have h1:=hcc (2*k+1) (.int .i32 y) (by simp[hy])
   have hpw:wr.cell? p=some (.int .i32 r):=by rw[hB.cell (ag hp)];exact hp
   have ham:=λW h=>IK x y r p W h
   have hit:=Fy r l k x y hx hy
   have miss:=Db r l k x y hx hy
   have Hit:∀q,(decide (x<=r) && decide (r<=y))=q->Hid (q=true->inB r l=true):=λq e=>by subst e;exact λh=>hit h H.out
   have Miss:∀q,(decide (x<=r) && decide (r<=y))=q->Hid (q=false->inB r (l.drop (2*(k+1)))=inB r l):=λq e=>by subst e;exact λh=>miss h H.out
   clear hit miss hx hy hcc hrr hr
   rw[show o+2*k=o+k*2 from by omega]at h0
   rw[show o+(2*k+1)=o+k*2+1 from by omega]at h1
   replace Hit:=Hit _ rfl
   replace Miss:=Miss _ rfl
   generalize (decide (x<=r) && decide (r<=y))=q at ham Hit Miss
   cases q
   ·have miss:=Lib.hid (Miss.out rfl)
    clear Miss Hit
    go_wp2_with (go_at_call 332;refine(ham _ ?_).mono ?_;exact hpw;rintro e w1 ⟨rfl,hb⟩)
    go_roundw
    case rel=>exact⟨k+1,by omega,by go_num,hB.trans (hb.mono hB.size),miss⟩
    case measure=>simp[intOf];omega
   ·have hit:=Lib.hid (Hit.out rfl)
    go_wp2_with (go_at_call 332;refine(ham _ ?_).mono ?_;exact hpw;rintro e w1 ⟨rfl,hb⟩)
    go_ret
    exact⟨k,rfl,by rw[hit.out];simp,hB.trans (hb.mono hB.size)⟩
  ·have he:inB r l=false:=by
    rw[←H.out]
    exact xN r l (2*k) (by have:=Hm.out;omega)
   have He:=Lib.hid he
   clear he
   go_wp2
   go_ret
   exact⟨-1,rfl,by rw[He.out];rfl,hB⟩
theorem rM (r:Int) (p:Addr) (l:List Int) (m:Nat) (A:Option Addr) (c:Nat) (w:World) (hm:l.length=2*m) (hl:m<=1000000) (hr:Rd w A (l.map (Value.int .i32))) (hp:w.cell? p=some (.int .i32 r)) :
  Calls Tryz.prog 331 #[.slice A m c,.func (.func 332) #[] #[.pointer (some p)]] w λe w'=>e=.returned (.bool (inB r l))/\Below w.heap.size w w':=by
 have hi:=zK r p l m A c w hm hl hr hp
 clear hm hr hp
 go_enter Tryz.func331,Tryz.ntmps331
 go_wp2_with (go_at_call 356;refine hi.mono ?_;rintro e w1 ⟨i,rfl,hd,hb⟩;have Hd:=Lib.hid hd;clear hd)
 go_ret
 exact⟨by rw[←Hd.out];rfl,hb⟩
theorem Ec (r:Int) (l:List Int) (m:Nat) (A:Option Addr) (c:Nat) (w:World) (hm:l.length=2*m) (hl:m<=1000000) (hr:Rd w A (l.map (Value.int .i32))) :
  Calls Tryz.prog 298 #[.int .i32 r,.slice A m c] w λe w'=>e=.returned (.bool (inB r l))/\Below w.heap.size w w':=by
 have hc:=rM r ⟨w.heap.size,0,none⟩ l m A c (w.alloc (.cells #[.int .i32 r] 21)) hm hl (hr.below ((Below.refl _ _).alloc (Nat.le_refl _) _) (Nat.le_refl _)) (World.cell?_alloc_new _ _ _ 0)
 clear hm hr
 go_enter Tryz.func298,Tryz.ntmps298
 go_wp2_with (go_at_call 331;refine hc.mono ?_;rintro e w1 ⟨rfl,hb⟩)
 go_ret
 exact⟨rfl,((Below.refl _ _).alloc (Nat.le_refl _) _).trans (hb.mono (by simp))⟩
def Fu:List Int:=[65,90,97,122,192,214,216,246,248,767,880,893,895,8191]
def xO:List Int:=[8204,8205,8304,8591,11264,12271,12289,55295,63744,64975,65008,65533,65536,983039]
theorem ww (r:Int):cJ r=(inB r Fu || inB r xO):=by
 simp only[cJ,wu,Fu,xO,inB,Bool.or_false,Bool.or_assoc]
theorem AW (r:Int) (w:World) :
  Calls Tryz.prog 329 #[.int .i32 r] w λe w'=>e=.returned (.bool (cJ r))/\Below w.heap.size w w':=by
 have ha:=λ(l:List Int) (hl:l.length=14) (g:Nat) (W:World) h=>Ec r l 7 (some ⟨g,0,none⟩) 7 W hl (by decide) h
 rw[ww]
 go_enter Tryz.func329,Tryz.ntmps329
 have h1:=ha Fu rfl
 have h2:=ha xO rfl
 clear ha
 generalize inB r Fu=q1 at h1
 generalize inB r xO=q2 at h2
 cases q1
 ·go_wp2_with fail
  refine(h1 w.heap.size _ ?_).mono ?_
  exact Rd.of_block (aL w _ _) rfl
  rintro e w1 ⟨rfl,hb⟩
  go_wp2_with fail
  refine(h2 (w.heap.size+1) _ ?_).mono ?_
  exact(Rd.of_block (av w _ _) rfl).below hb (Nat.le_refl _)
  rintro e w2 ⟨rfl,hb2⟩
  go_wp2_with fail
  go_ret
  refine⟨by simp,?_⟩
  exact((((Below.refl _ _).alloc (Nat.le_refl _) _).alloc (by simp) _).trans (hb.mono (by simp;omega))).trans (hb2.mono (by have:=hb.size;simp at this;omega))
 ·go_wp2_with fail
  refine(h1 w.heap.size _ ?_).mono ?_
  exact Rd.of_block (aL w _ _) rfl
  rintro e w1 ⟨rfl,hb⟩
  go_wp2_with fail
  go_ret
  refine⟨by simp,?_⟩
  exact((((Below.refl _ _).alloc (Nat.le_refl _) _).alloc (by simp) _).trans (hb.mono (by simp;omega)))
theorem sC (r:Int) (w:World) :
  Calls Tryz.prog 301 #[.int .i32 r] w λe w'=>e=.returned (.bool (dt r))/\Below w.heap.size w w':=by
 have hs:=λW=>xf 48 57 r W
 unfold dt
 generalize (decide (48<=r) && decide (r<=57))=q at hs
 go_enter Tryz.func301,Tryz.ntmps301
 go_wp2_with (go_at_call 333;refine(hs _).mono ?_;rintro e w1 ⟨rfl,hb⟩)
 go_ret
 exact⟨rfl,hb⟩
theorem AL (r:Int):cX r=(cJ r || (r == 95) || (r == 58) || dt r):=by
 rw[Bool.eq_iff_iff]
 simp only[cX,jn,dt,inB,Bool.or_eq_true,Bool.and_eq_true,decide_eq_true_eq,beq_iff_eq,Bool.or_false]
 by_cases h:cJ r=true
 ·simp[h]
 ·have h':cJ r=false:=by simpa using h
  simp only[h',Bool.false_eq_true,false_or];omega
theorem vY (r:Int):cz r=(cX r || (r == 45) || (r == 183) || inB r [768,879,8255,8256]):=by
 rw[Bool.eq_iff_iff]
 simp only[cz,mj,cX,jn,inB,Bool.or_eq_true,Bool.and_eq_true,decide_eq_true_eq,beq_iff_eq,Bool.or_false]
 by_cases h:cJ r=true
 ·simp[h]
 ·have h':cJ r=false:=by simpa using h
  simp only[h',Bool.false_eq_true,false_or];omega
theorem pA (r:Int) (w:World) :
  Calls Tryz.prog 293 #[.int .i32 r] w λe w'=>e=.returned (.bool (cX r))/\Below w.heap.size w w':=by
 have hf:=AW r w
 have hd:=λW=>sC r W
 rw[AL]
 generalize cJ r=q1 at hf
 generalize dt r=q2 at hd
 go_enter Tryz.func293,Tryz.ntmps293
 cases q1
 ·by_cases h1:r=95
  ·have h1':(r == 95)=true:=by simpa using h1
   rw[h1']
   clear h1
   go_wp2_with (go_at_call 329;refine hf.mono ?_;rintro e w1 ⟨rfl,hb⟩)
   go_ret
   exact⟨by simp,hb⟩
  ·have h1':(r == 95)=false:=by simpa using h1
   rw[h1']
   clear h1
   by_cases h2:r=58
   ·have h2':(r == 58)=true:=by simpa using h2
    rw[h2']
    clear h2
    go_wp2_with (go_at_call 329;refine hf.mono ?_;rintro e w1 ⟨rfl,hb⟩)
    go_ret
    exact⟨by simp,hb⟩
   ·have h2':(r == 58)=false:=by simpa using h2
    rw[h2']
    clear h2
    go_wp2_with (first
     | (go_at_call 329;refine hf.mono ?_;rintro e w1 ⟨rfl,hb⟩)
     | (go_at_call 301;refine(hd _).mono ?_;rintro e w2 ⟨rfl,hb2⟩))
    go_ret
    exact⟨by simp,hb.trans (hb2.mono hb.size)⟩
 ·go_wp2_with (go_at_call 329;refine hf.mono ?_;rintro e w1 ⟨rfl,hb⟩)
  go_ret
  exact⟨by simp,hb⟩
theorem yq (r:Int) (w:World) :
  Calls Tryz.prog 296 #[.int .i32 r] w λe w'=>e=.returned (.bool (cz r))/\Below w.heap.size w w':=by
 have hf:=pA r w
 have ha:=λ(g:Nat) (W:World) h=>Ec r [768,879,8255,8256] 2 (some ⟨g,0,none⟩) 2 W rfl (by decide) h
 rw[vY]
 generalize cX r=q1 at hf
 generalize inB r [768,879,8255,8256]=q2 at ha
 go_enter Tryz.func296,Tryz.ntmps296
 cases q1
 ·by_cases h1:r=45
  ·have h1':(r == 45)=true:=by simpa using h1
   rw[h1']
   clear h1
   go_wp2_with (go_at_call 293;refine hf.mono ?_;rintro e w1 ⟨rfl,hb⟩)
   go_ret
   exact⟨by simp,hb⟩
  ·have h1':(r == 45)=false:=by simpa using h1
   rw[h1']
   clear h1
   by_cases h2:r=183
   ·have h2':(r == 183)=true:=by simpa using h2
    rw[h2']
    clear h2
    go_wp2_with (go_at_call 293;refine hf.mono ?_;rintro e w1 ⟨rfl,hb⟩)
    go_ret
    exact⟨by simp,hb⟩
   ·have h2':(r == 183)=false:=by simpa using h2
    rw[h2']
    clear h2
    go_wp2_with (first
     | (go_at_call 293;refine hf.mono ?_;rintro e w1 ⟨rfl,hb⟩)
     | (go_at_call 298;refine(ha _ _ ?_).mono ?_;exact Rd.of_block (heap_alloc_new w1 _) rfl;rintro e w2 ⟨rfl,hb2⟩))
    go_ret
    exact⟨by simp,(hb.alloc hb.size _).trans (hb2.mono (by have:=hb.size;simp;omega))⟩
 ·go_wp2_with (go_at_call 293;refine hf.mono ?_;rintro e w1 ⟨rfl,hb⟩)
  go_ret
  exact⟨by simp,hb⟩
theorem yr (r:Int) (w:World) :
  Calls Tryz.prog 295 #[.int .i32 r] w λe w'=>e=.returned (.bool (tK false r))/\Below w.heap.size w w':=by
 have hf:=yq r w
 rw[show tK false r=(cz r || decide (r=46)) from rfl]
 generalize cz r=q1 at hf
 go_enter Tryz.func295,Tryz.ntmps295
 cases q1
 ·by_cases h1:r=46
  ·have h1':(r == 46)=true:=by simpa using h1
   have h1'':decide (r=46)=true:=by simpa using h1
   rw[h1'']
   clear h1
   go_wp2_with (go_at_call 296;refine hf.mono ?_;rintro e w1 ⟨rfl,hb⟩)
   go_ret
   exact⟨by simp,hb⟩
  ·have h1':(r == 46)=false:=by simpa using h1
   have h1'':decide (r=46)=false:=by simpa using h1
   rw[h1'']
   clear h1
   go_wp2_with (go_at_call 296;refine hf.mono ?_;rintro e w1 ⟨rfl,hb⟩)
   go_ret
   exact⟨by simp,hb⟩
 ·go_wp2_with (go_at_call 296;refine hf.mono ?_;rintro e w1 ⟨rfl,hb⟩)
  go_ret
  exact⟨by simp,hb⟩
theorem get!_getD (t:ByteArray) (i:Nat):t.get! i=t.data.toList.getD i 0:=by
 cases t with
 | mk d =>
  show d[i]! = _
  by_cases h:i<d.size
  ·simp[List.getD_eq_getElem?_getD,h]
  ·simp[List.getD_eq_getElem?_getD,h]
   rfl
theorem uD (s:ByteArray) (k:Nat) (_hk:k<=s.size) :
  (if (Lib.decodeGo (s.extract k s.size)).1=65533/\(Lib.decodeGo (s.extract k s.size)).2<2 then (0,0) else Lib.decodeGo (s.extract k s.size))=nx (from_ s k):=by
 have hl:(s.extract k s.size).data.toList=from_ s k:=by
  rw[extract_toList,from_,List.take_of_length_le]
  simp
 have hsz:(s.extract k s.size).size=s.size-k:=by simp[ByteArray.size_extract]
 have hfl:=cZ s k
 unfold Lib.decodeGo nx
 by_cases h0:s.size-k=0
 ·rw[hsz,if_pos h0,hfl,if_pos h0,if_pos ⟨rfl,by decide⟩]
 ·rw[hsz,if_neg h0,hfl,if_neg h0,Lib.decode_at,hsz]
  simp only[get!_getD,hl,Nat.sub_zero,Nat.zero_add]
  have hp:=gQ (s.size-k) ((from_ s k).getD 0 0).toNat ((from_ s k).getD 1 0).toNat ((from_ s k).getD 2 0).toNat ((from_ s k).getD 3 0).toNat
  generalize Lib.decodeN (s.size-k) ((from_ s k).getD 0 0).toNat ((from_ s k).getD 1 0).toNat ((from_ s k).getD 2 0).toNat ((from_ s k).getD 3 0).toNat=d at hp
  by_cases hd:d=(65533,1)
  ·rw[if_pos hd,if_pos (by rw[hd];exact⟨rfl,by decide⟩)]
  ·rw[if_neg hd,if_neg]
   intro ⟨h1,h2⟩
   exact hd (Prod.ext h1 (by show d.2=1;omega))
theorem J1 (s:ByteArray) (k:Nat) (w:World) (hC:Ctx w) (hk:k<=s.size) (_hs:s.size<=281474976710656) :
  Calls Tryz.prog 330 #[.agg #[.string s],.int .i64 k] w λe w'=>e=.returned (.tuple #[.int .i32 (nx (from_ s k)).1,.int .i64 (nx (from_ s k)).2])/\Below w.heap.size w w':=by
 have hdec:=dV (s.extract k s.size) (w.alloc (.cells #[.string s] 334)) (hC.step ((Below.refl _ _).alloc (Nat.le_refl _) _)).tabs
 have hn:=uD s k hk
 rw[←hn]
 clear hn hC
 generalize Lib.decodeGo (s.extract k s.size)=d at hdec
 obtain⟨x,n⟩:=d
 simp only at hdec
 have fin:∀{w1:World},Below (w.alloc (.cells #[.string s] 334)).heap.size (w.alloc (.cells #[.string s] 334)) w1->Below w.heap.size w w1:=λh=>((Below.refl _ _).alloc (Nat.le_refl _) _).trans (h.mono (by simp))
 by_cases h1:x=65533
 ·have h1':((x:Int) == 65533)=true:=by simp;omega
  by_cases h2:n<2
  ·rw[if_pos ⟨h1,h2⟩]
   clear h1
   go_enter Tryz.func330,Tryz.ntmps330
   go_wp2_with (go_at_call 302;refine hdec.mono ?_;rintro e w1 ⟨rfl,hb⟩)
   go_ret2
   exact⟨rfl,fin hb⟩
  ·rw[if_neg (λh=>h2 h.2)]
   clear h1
   go_enter Tryz.func330,Tryz.ntmps330
   go_wp2_with (go_at_call 302;refine hdec.mono ?_;rintro e w1 ⟨rfl,hb⟩)
   go_ret2
   exact⟨rfl,fin hb⟩
 ·have h1':((x:Int) == 65533)=false:=by simp;omega
  rw[if_neg (λh=>h1 h.1)]
  clear h1
  go_enter Tryz.func330,Tryz.ntmps330
  go_wp2_with (go_at_call 302;refine hdec.mono ?_;rintro e w1 ⟨rfl,hb⟩)
  go_ret2
  exact⟨rfl,fin hb⟩
def cE (w:World) (g:Nat) (s:ByteArray) (k:Nat):Prop:=w.heap[g]?=some (.cells #[.string s,.int .i64 k] 336 (0,0))
theorem cE.c0 {w:World} {g:Nat} {s:ByteArray} {k:Nat} (h:cE w g s k):w.cell? ⟨g,0,none⟩=some (.string s):=by
 unfold cE at h;simp[World.cell?,h]
theorem cE.c1 {w:World} {g:Nat} {s:ByteArray} {k:Nat} (h:cE w g s k):w.cell? ⟨g,1,none⟩=some (.int .i64 k):=by
 unfold cE at h;simp[World.cell?,h]
theorem cE.fz {w:World} {g:Nat} {s:ByteArray} {k:Nat} (h:cE w g s k) (i:Nat):w.frozen? ⟨g,i,none⟩=false:=by
 unfold cE at h;simp[World.frozen?,h]
theorem cE.lt {w:World} {g:Nat} {s:ByteArray} {k:Nat} (h:cE w g s k):g<w.heap.size:=ag h.c0
theorem cE.below {w w':World} {g:Nat} {s:ByteArray} {k:Nat} (h:cE w g s k) {B:Nat} (hb:Below B w w') (hB:w.heap.size<=B):cE w' g s k:=by
 unfold cE
 rw[hb.block g (by have:=h.lt;omega)];exact h
theorem cE.set {w:World} {g:Nat} {s:ByteArray} {k:Nat} (h:cE w g s k) (k':Nat):cE (w.setCell ⟨g,1,none⟩ (.int .i64 k')) g s k':=by
 unfold cE at *
 simp[World.setCell,Array.getElem?_modify,h]
theorem Ch {a w:World} {g:Nat} (h:Below a.heap.size a w) (_hg:g<a.heap.size) (i:Nat) (u:Value):a.grownBy (w.setCell ⟨g,i,none⟩ u) (some g):=
 ⟨h.os,h.tape,h.output,by simpa[World.setCell] using h.size,λj hj hne=>(Below.heap_setCell w ⟨g,i,none⟩ u j (λe=>hne (by rw[e]))).trans (h.block j hj)⟩
theorem xY (s:ByteArray) (k g:Nat) (w:World) (hC:Ctx w) (hc:cE w g s k) (hk:k<=s.size) (hs:s.size<=281474976710656) :
  Calls Tryz.prog 294 #[.pointer (some ⟨g,0,none⟩)] w λe w'=>e=.returned (.tuple #[.int .i32 (nx (from_ s k)).1,.bool (decide (0<(nx (from_ s k)).2))]) /\
   w.grownBy w' (some g)/\cE w' g s (k+(nx (from_ s k)).2):=by
 have hat:=λW h=>J1 s k W h hk hs
 have hk4:(nx (from_ s k)).2<=4:=by
  by_cases h0:(nx (from_ s k)).2=0
  ·omega
  ·exact(jL s k h0).2.1
 generalize (nx (from_ s k)).1=x at hat
 generalize (nx (from_ s k)).2=n at hat hk4
 have hw0:∀(d:Nat) (os:Array Obj),(Sort.grow (redrawn w d) os).cell? ⟨g,0,none⟩=some (.string s):=λd os=>cell_regrown hc.c0 d os
 have hw1:∀(d:Nat) (os:Array Obj),(Sort.grow (redrawn w d) os).cell? ⟨g,1,none⟩=some (.int .i64 k):=λd os=>cell_regrown hc.c1 d os
 have Hc:=Lib.hid hc
 clear hc
 go_enter Tryz.func294,Tryz.ntmps294
 go_wp2
 refine Rg.wp_region_plan [(true,[0,1,2,3,4,5,6,7]),(false,[8]),(true,[9,10,11,12,13])] _ (by kernel_rfl) (by kernel_rfl)
  (by simp only[List.map_cons,List.map_nil,Rg.pickOps,List.getElem?_toArray,List.getElem?_cons_zero,List.getElem?_cons_succ,Option.getD_some];rfl) (λK hK=>?_)
 refine Rg.plan_quiet ?_
 iterate 8 go_big_quiet_step (fail)
 refine wpQuiet_nil (Rg.plan_chain ?_)
 clear hw0 hw1
 intro W1 hW1
 go_wp2_with (go_at_call 330;refine(hat _ ?_).mono ?_;exact hC.step hW1;rintro e w2 ⟨rfl,hb⟩)
 refine⟨hb,Rg.plan_quiet ?_⟩
 iterate 5 go_big_quiet_step (fail)
 refine wpQuiet_nil (Rg.plan_end ?_)
 intro W4 hW4
 refine hK _ _ ?_
 clear hK hat
 have hall:Below w.heap.size w W4:=Rg.tr hW1 (Rg.tr hb hW4)
 have hc4:=Hc.out.below hall (Nat.le_refl _)
 have f0:=hc4.c0
 have f1:=hc4.c1
 have f2:=hc4.fz 1
 have Hc4:=Lib.hid hc4
 clear hc4
 go_wp2
 go_ret2
 have e1:((k:Int)+(n:Int))=((k+n:Nat):Int):=by omega
 refine⟨?_,Ch hall Hc.out.lt 1 _,?_⟩
 ·congr 3
 ·rw[e1];exact Hc4.out.set (k+n)
theorem below_grown {B g:Nat} {a w w':World} (h:Below B a w) (hg:w.grownBy w' (some g)) (hB:B<=w.heap.size) (hgB:B<=g):Below B a w':=
 h.grown hg hB (λk hk=>by injection hk with hk;omega)
end Go.Proofs.YtfcbghmbbjolcaaGreatDoor
