/- The answer for term (ossuaryref08), in plain words: valid te -/
import Derived.Test.YtoejnneknpoanaaGreatDoorJSizeU
namespace Go.Proofs.YtoejnneknpoanaaGreatDoor
namespace Lx
open Go Go.Lib Um
def hexB (c:Nat):Option Nat:=if 48<=c/\c<=57 then some (c-48) else if 65<=c/\c<=70 then some (c-55) else if 97<=c/\c<=102 then some (c-87) else none
def hexN:List UInt8->Nat->Option Nat
 | [],n=>some n
 | c::r,n=>(hexB c.toNat).bind λd=>hexN r (16*n+d)
end Lx
end Go.Proofs.YtoejnneknpoanaaGreatDoor
namespace Go.Proofs.YtoejnneknpoanaaGreatDoor.Tx
open Go Go.RowKit Um Fm Lx
def hxD (d:Nat):UInt8:=if d<10 then UInt8.ofNat (48+d) else UInt8.ofNat (55+d)
def escC (c:UInt8):Bool:=decide (c.toNat<128) && !rawB c.toNat
def iriC (c:UInt8):List UInt8:=if escC c then [92,117,48,48,hxD (c.toNat / 16),hxD (c.toNat % 16)] else [c]
def iriL (l:List UInt8):List UInt8:=l.flatMap iriC
def litC (c:UInt8):List UInt8:=if c=34 then [92,34] else if c=92 then [92,92] else if c=10 then [92,110] else if c=13 then [92,114] else [c]
def litL (l:List UInt8):List UInt8:=l.flatMap litC
def textL (t:Tm):List UInt8:=
 if t.k=1 then 60::(iriL t.x.data.toList++[62])
 else if t.k=2 then 95::58::t.x.data.toList
 else if t.k=4 then 34::(litL t.x.data.toList++34::94::94::60::(iriL t.y.data.toList++[62]))
 else if t.l.data.toList=[] then 34::(litL t.x.data.toList++[34])
 else 34::(litL t.x.data.toList++34::64::t.l.data.toList)
def rdF (p:List UInt8->Option Nat):Nat->List UInt8->List UInt8
 | 0,_=>[]
 | _+1,[]=>[]
 | _+1,[c]=>[c]
 | f+1,c::d::r =>
  if c≠92 then c::rdF p f (d::r)
  else if d=117/\(p r).isSome then UInt8.ofNat ((p r).getD 0)::rdF p f (r.drop 4)
  else (if d=110 then 10 else if d=114 then 13 else d)::rdF p f r
def rdG (p:List UInt8->Option Nat) (l:List UInt8):List UInt8:=rdF p (l.length+1) l
theorem rdF_more (p:List UInt8->Option Nat):∀(f g:Nat) (l:List UInt8),l.length<f->l.length<g->rdF p f l=rdF p g l
 | 0,_,_,h,_=>by omega
 | _,0,_,_,h=>by omega
 | f+1,g+1,[],_,_=>rfl
 | f+1,g+1,[c],_,_=>rfl
 | f+1,g+1,c::d::r,h1,h2=>by
  simp only[List.length_cons]at h1 h2
  have e1:=rdF_more p f g (d::r) (by simp;omega) (by simp;omega)
  have e2:=rdF_more p f g r (by omega) (by omega)
  have e3:=rdF_more p f g (r.drop 4) (by simp;omega) (by simp;omega)
  rw[rdF,rdF,e1,e2,e3]
theorem rdG_plain (p:List UInt8->Option Nat) (c:UInt8) (t:List UInt8) (h:c≠92):rdG p (c::t)=c::rdG p t:=by
 cases t with
 | nil=>rfl
 | cons d r=>unfold rdG;rw[rdF,if_pos h];rfl
theorem rdG_u (p:List UInt8->Option Nat) (n:Nat) (r:List UInt8) (h:p r=some n):rdG p (92::117::r)=UInt8.ofNat n::rdG p (r.drop 4):=by
 unfold rdG
 rw[rdF,if_neg (by simp),if_pos (by rw[h];simp),h]
 simp only[Option.getD_some,List.cons.injEq,true_and]
 exact rdF_more p _ _ _ (by simp;omega) (by simp)
theorem rdG_esc (p:List UInt8->Option Nat) (d:UInt8) (r:List UInt8) (h:d≠117∨p r=none):rdG p (92::d::r)=(if d=110 then 10 else if d=114 then 13 else d)::rdG p r:=by
 unfold rdG
 have hn:¬ (d=117/\(p r).isSome):=by
  rintro⟨h1,h2⟩
  rcases h with h|h
  ·exact h h1
  ·rw[h]at h2;cases h2
 rw[rdF,if_neg (by simp),if_neg hn]
 simp only[List.cons.injEq,true_and]
 exact rdF_more p _ _ _ (by simp;omega) (by simp)
def pu8 (l:List UInt8):Option Nat:=if l=[] then none else (hexN l 0).bind λn=>if n<256 then some n else none
def puP (r:List UInt8):Option Nat:=if 3<r.length then pu8 (r.take 4) else none
def hxV (c:Nat):Option Nat:=if 48<=c/\c<=57 then some (c-48) else if 65<=c/\c<=70 then some (c-55) else none
theorem hxD_toNat:∀d:Fin 16,hexB (hxD d.val).toNat=some d.val/\hxV (hxD d.val).toNat=some d.val:=by decide
theorem hexB_hxD {d:Nat} (h:d<16):hexB (hxD d).toNat=some d:=(hxD_toNat ⟨d,h⟩).1
theorem puP_esc (c:Nat) (r:List UInt8) (h:c<256):puP (48::48::hxD (c / 16)::hxD (c % 16)::r)=some c:=by
 unfold puP
 rw[if_pos (by simp)]
 unfold pu8
 rw[if_neg (by simp)]
 simp only[List.take_succ_cons,List.take_zero]
 have h0:hexB (48:UInt8).toNat=some 0:=by decide
 simp only[hexN,h0,hexB_hxD (show c / 16<16 by omega),hexB_hxD (show c % 16<16 by omega),Option.bind_some]
 have e:16*(16*(16*(16*0+0)+0)+c / 16)+c % 16=c:=by omega
 rw[e,if_pos h]
theorem esc_slash:escC 92=true:=by decide
theorem rd_iri (p:List UInt8->Option Nat) (hp:∀(c:Nat) (r:List UInt8),c<256->p (48::48::hxD (c / 16)::hxD (c % 16)::r)=some c):∀l:List UInt8,rdG p (iriL l)=l
 | []=>rfl
 | c::t=>by
  have ih:=rd_iri p hp t
  unfold iriL at ih ⊢
  rw[List.flatMap_cons]
  cases h:escC c
  ·have e:iriC c=[c]:=by unfold iriC;rw[h];rfl
   rw[e,List.singleton_append,rdG_plain p c _ (by rintro rfl;rw[esc_slash]at h;cases h),ih]
  ·have e:iriC c=[92,117,48,48,hxD (c.toNat / 16),hxD (c.toNat % 16)]:=by unfold iriC;rw[h];rfl
   rw[e]
   simp only[List.cons_append,List.nil_append]
   rw[rdG_u p c.toNat _ (hp c.toNat _ c.toNat_lt)]
   simp only[List.drop_succ_cons,List.drop_zero]
   rw[ih]
   simp
theorem rd_lit (p:List UInt8->Option Nat):∀l:List UInt8,rdG p (litL l)=l
 | []=>rfl
 | c::t=>by
  have ih:=rd_lit p t
  have e:litL (c::t)=litC c++litL t:=by unfold litL;rw[List.flatMap_cons]
  rw[e]
  by_cases h1:c=34
  ·subst h1;rw[show litC 34=[92,34] from rfl,List.cons_append,List.cons_append,List.nil_append,rdG_esc p _ _ (.inl (by decide)),ih];rfl
  by_cases h2:c=92
  ·subst h2;rw[show litC 92=[92,92] from rfl,List.cons_append,List.cons_append,List.nil_append,rdG_esc p _ _ (.inl (by decide)),ih];rfl
  by_cases h3:c=10
  ·subst h3;rw[show litC 10=[92,110] from rfl,List.cons_append,List.cons_append,List.nil_append,rdG_esc p _ _ (.inl (by decide)),ih];rfl
  by_cases h4:c=13
  ·subst h4;rw[show litC 13=[92,114] from rfl,List.cons_append,List.cons_append,List.nil_append,rdG_esc p _ _ (.inl (by decide)),ih];rfl
  have e:litC c=[c]:=by unfold litC;rw[if_neg h1,if_neg h2,if_neg h3,if_neg h4]
  rw[e,List.singleton_append,rdG_plain p c _ h2,ih]
def qtF:List UInt8->Nat->Nat
 | [],_=>0
 | [c],k=>if c=34 then k+1 else 0
 | c::d::r,k=>if c=34 then k+1 else if c=92 then qtF r (k+2) else qtF (d::r) (k+1)
theorem qtF_end (t:List UInt8) (k:Nat):qtF (34::t) k=k+1:=by cases t<;>rfl
theorem qtF_esc (d:UInt8) (r:List UInt8) (k:Nat):qtF (92::d::r) k=qtF r (k+2):=rfl
theorem qtF_plain (c:UInt8) (t:List UInt8) (k:Nat) (h1:c≠34) (h2:c≠92):qtF (c::t) k=qtF t (k+1):=by
 cases t with
 | nil=>unfold qtF;rw[if_neg h1]
 | cons d r=>rw[qtF,if_neg h1,if_neg h2]
theorem qtF_lit (z:List UInt8):∀(l:List UInt8) (k:Nat),qtF (litL l++34::z) k=k+(litL l).length+1
 | [],k=>qtF_end z k
 | c::t,k=>by
  have ih:=λk=>qtF_lit z t k
  have e:litL (c::t)=litC c++litL t:=by unfold litL;rw[List.flatMap_cons]
  rw[e,List.append_assoc,List.length_append]
  have two:∀d:UInt8,litC c=[92,d]->qtF (litC c++(litL t++34::z)) k=k+((litC c).length+(litL t).length)+1:=by
   intro d hd
   rw[hd]
   simp only[List.cons_append,List.nil_append,List.length_cons,List.length_nil]
   rw[qtF_esc,ih];omega
  by_cases h1:c=34
  ·exact two 34 (by unfold litC;rw[if_pos h1])
  by_cases h2:c=92
  ·exact two 92 (by unfold litC;rw[if_neg h1,if_pos h2])
  by_cases h3:c=10
  ·exact two 110 (by unfold litC;rw[if_neg h1,if_neg h2,if_pos h3])
  by_cases h4:c=13
  ·exact two 114 (by unfold litC;rw[if_neg h1,if_neg h2,if_neg h3,if_pos h4])
  have e:litC c=[c]:=by unfold litC;rw[if_neg h1,if_neg h2,if_neg h3,if_neg h4]
  rw[e]
  simp only[List.cons_append,List.nil_append,List.length_cons,List.length_nil]
  rw[qtF_plain c _ k h1 h2,ih];omega
def qtL (l:List UInt8):Nat:=qtF (l.drop 1) 1
def trimL (l:List UInt8):List UInt8:=if [62].isSuffixOf l then l.take (l.length-1) else l
theorem trim_end (l:List UInt8):trimL (l++[62])=l:=by
 unfold trimL
 rw[if_pos (by rw[List.isSuffixOf_iff_suffix];exact List.suffix_append _ _)]
 simp
abbrev mkS (l:List UInt8):ByteArray:=⟨l.toArray⟩
def guessP (l:List UInt8):Tm:=
 if [60].isPrefixOf l then ⟨1,mkS (rdG puP (trimL (l.drop 1))),⟨#[]⟩,⟨#[]⟩⟩
 else if [95,58].isPrefixOf l then ⟨2,mkS (l.drop 2),⟨#[]⟩,⟨#[]⟩⟩
 else if ![34].isPrefixOf l || qtL l == 0 then ⟨0,⟨#[]⟩,⟨#[]⟩,⟨#[]⟩⟩
 else if [64].isPrefixOf (l.drop (qtL l)) then ⟨3,mkS (rdG puP ((l.drop 1).take (qtL l-2))),mkS ((l.drop (qtL l)).drop 1),⟨#[]⟩⟩
 else if [94,94,60].isPrefixOf (l.drop (qtL l)) then ⟨4,mkS (rdG puP ((l.drop 1).take (qtL l-2))),⟨#[]⟩,mkS (rdG puP (trimL ((l.drop (qtL l)).drop 3)))⟩
 else ⟨3,mkS (rdG puP ((l.drop 1).take (qtL l-2))),⟨#[]⟩,⟨#[]⟩⟩
theorem empty_iff (s:ByteArray):emptyB s=true↔s.data.toList=[]:=by unfold emptyB;rw[ByteArray.toList_eq];exact List.isEmpty_iff
theorem empty_app (a b:ByteArray):emptyB (a++b)=(emptyB a && emptyB b):=by
 unfold emptyB
 rw[ByteArray.toList_eq,ByteArray.toList_eq,ByteArray.toList_eq,ByteArray.data_append,Array.toList_append]
 cases a.data.toList<;>simp
theorem ba_ext {a b:ByteArray} (h:a.data.toList=b.data.toList):a=b:=by
 obtain⟨⟨x⟩⟩:=a;obtain⟨⟨y⟩⟩:=b;simp at h;rw[h]
theorem mk_of (s:ByteArray):mkS s.data.toList=s:=by obtain⟨⟨x⟩⟩:=s;rfl
theorem nil_of {s:ByteArray} (h:s.data.toList=[]):s=⟨#[]⟩:=ba_ext (by rw[h])
theorem right_cases {t:Tm} (h:rightB t=true) :
  (t.k=1/\t.l=⟨#[]⟩/\t.y=⟨#[]⟩/\validB t.x=true)∨(t.k=2/\t.l=⟨#[]⟩/\t.y=⟨#[]⟩/\labelB t.x=true)
  ∨ (t.k=3/\t.y=⟨#[]⟩/\validB t.x=true/\tagB t.l=true)∨(t.k=4/\t.l=⟨#[]⟩/\¬ t.y.toList=xsdL/\validB t.x=true/\validB t.y=true):=by
 unfold rightB at h
 split at h
 ·rename_i hk
  rw[empty_app,Bool.and_eq_true,Bool.and_eq_true,empty_iff,empty_iff]at h
  exact .inl ⟨hk,nil_of h.1.1,nil_of h.1.2,h.2⟩
 split at h
 ·rename_i hk
  rw[empty_app,Bool.and_eq_true,Bool.and_eq_true,empty_iff,empty_iff]at h
  exact .inr (.inl ⟨hk,nil_of h.1.1,nil_of h.1.2,h.2⟩)
 split at h
 ·rename_i hk
  rw[Bool.and_eq_true,Bool.and_eq_true,empty_iff]at h
  exact .inr (.inr (.inl ⟨hk,nil_of h.1.1,h.1.2,h.2⟩))
 split at h
 ·rename_i hk
  rw[Bool.and_eq_true,Bool.and_eq_true,Bool.and_eq_true,empty_iff]at h
  exact .inr (.inr (.inr ⟨hk,nil_of h.1.1,by simpa using h.1.2,h.2⟩))
 ·cases h
theorem drop_quote (m z:List UInt8):((34:UInt8)::(m++34::z)).drop (1+m.length+1)=z:=by
 rw[show 1+m.length+1=(m.length+1)+1 by omega,List.drop_succ_cons,←List.drop_drop,List.drop_left];rfl
theorem take_quote (m z:List UInt8):(((34:UInt8)::(m++34::z)).drop 1).take (1+m.length+1-2)=m:=by
 rw[show 1+m.length+1-2=m.length by omega,List.drop_succ_cons,List.drop_zero,List.take_left]
theorem qt_text (x z:List UInt8):qtL (34::(litL x++34::z))=1+(litL x).length+1:=qtF_lit z x 1
theorem guessP_text {t:Tm} (h:rightB t=true):guessP (textL t)=t:=by
 obtain⟨k,x,l,y⟩:=t
 rcases right_cases h with ⟨rfl,rfl,rfl,-⟩|⟨rfl,rfl,rfl,-⟩|⟨rfl,rfl,-,-⟩|⟨rfl,rfl,-,-⟩
 ·have e:textL ⟨1,x,⟨#[]⟩,⟨#[]⟩⟩=60::(iriL x.data.toList++[62]):=rfl
  rw[e]
  unfold guessP
  rw[if_pos (by rfl),List.drop_succ_cons,List.drop_zero,trim_end,rd_iri puP puP_esc,mk_of]
 ·have e:textL ⟨2,x,⟨#[]⟩,⟨#[]⟩⟩=95::58::x.data.toList:=rfl
  rw[e]
  unfold guessP
  rw[if_neg (by simp[List.isPrefixOf]),if_pos (by simp[List.isPrefixOf]),List.drop_succ_cons,List.drop_succ_cons,List.drop_zero,mk_of]
 ·by_cases hl:l.data.toList=[]
  ·have e:textL ⟨3,x,l,⟨#[]⟩⟩=34::(litL x.data.toList++34::[]):=by unfold textL;rw[if_neg (by simp),if_neg (by simp),if_neg (by simp),if_pos hl]
   rw[e]
   unfold guessP
   rw[qt_text,drop_quote,take_quote,rd_lit,mk_of,if_neg (by simp[List.isPrefixOf]),if_neg (by simp[List.isPrefixOf]),if_neg (by simp[List.isPrefixOf]),if_neg (by simp[List.isPrefixOf]),if_neg (by simp[List.isPrefixOf]),nil_of hl]
  ·have e:textL ⟨3,x,l,⟨#[]⟩⟩=34::(litL x.data.toList++34::(64::l.data.toList)):=by unfold textL;rw[if_neg (by simp),if_neg (by simp),if_neg (by simp),if_neg hl]
   rw[e]
   unfold guessP
   rw[qt_text,drop_quote,take_quote,rd_lit,mk_of,if_neg (by simp[List.isPrefixOf]),if_neg (by simp[List.isPrefixOf]),if_neg (by simp[List.isPrefixOf]),if_pos (by simp[List.isPrefixOf]),List.drop_succ_cons,List.drop_zero,mk_of]
 ·have e:textL ⟨4,x,⟨#[]⟩,y⟩=34::(litL x.data.toList++34::(94::94::60::(iriL y.data.toList++[62]))):=rfl
  rw[e]
  unfold guessP
  rw[qt_text,drop_quote,take_quote,rd_lit,mk_of,if_neg (by simp[List.isPrefixOf]),if_neg (by simp[List.isPrefixOf]),if_neg (by simp[List.isPrefixOf]),if_neg (by simp[List.isPrefixOf]),if_pos (by simp[List.isPrefixOf])]
  simp only[List.drop_succ_cons,List.drop_zero]
  rw[trim_end,rd_iri puP puP_esc,mk_of]
theorem text_inj {a b:Tm} (ha:rightB a=true) (hb:rightB b=true) (h:textL a=textL b):a=b:=by
 rw[←guessP_text ha,←guessP_text hb,h]
end Go.Proofs.YtoejnneknpoanaaGreatDoor.Tx
