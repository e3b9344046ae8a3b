/- The answer for term (ossuaryref08), in plain words: valid te -/
import Derived.Test.YtoaemihcbmlkgaaGreatDoorJWrt
set_option maxHeartbeats 4000000
set_option maxRecDepth 100000
namespace Go.Proofs.YtoaemihcbmlkgaaGreatDoor
namespace Lx
open Go Go.Lib Um
def hexB (c:Nat):Option Nat:=if 48<=c/\c<=57 then some (c-48) else if 65<=c/\c<=70 then some (c-55) else if 97<=c/\c<=102 then some (c-87) else none
def hexN:List UInt8->Nat->Option Nat
 | [],n=>some n
 | c::r,n=>(hexB c.toNat).bind λd=>hexN r (16*n+d)
end Lx
end Go.Proofs.YtoaemihcbmlkgaaGreatDoor
namespace Go.Proofs.YtoaemihcbmlkgaaGreatDoor.Tx
open Go Go.RowKit Um Fm Lx
def hxD (d:Nat):UInt8:=if d<10 then UInt8.ofNat (48+d) else UInt8.ofNat (55+d)
def escC (c:UInt8):Bool:=decide (c.toNat<128) && !rawB c.toNat
def iriC (c:UInt8):List UInt8:=if escC c then [92,117,48,48,hxD (c.toNat / 16),hxD (c.toNat % 16)] else [c]
def iriL (l:List UInt8):List UInt8:=l.flatMap iriC
def litC (c:UInt8):List UInt8:=if c=34 then [92,34] else if c=92 then [92,92] else if c=10 then [92,110] else if c=13 then [92,114] else [c]
def litL (l:List UInt8):List UInt8:=l.flatMap litC
def textL (t:Tm):List UInt8:=
 if t.k=1 then 60::(iriL t.x.data.toList++[62])
 else if t.k=2 then 95::58::t.x.data.toList
 else if t.k=4 then 34::(litL t.x.data.toList++34::94::94::60::(iriL t.y.data.toList++[62]))
 else if t.l.data.toList=[] then 34::(litL t.x.data.toList++[34])
 else 34::(litL t.x.data.toList++34::64::t.l.data.toList)
def rdF (p:List UInt8->Option Nat):Nat->List UInt8->List UInt8
 | 0,_=>[]
 | _+1,[]=>[]
 | _+1,[c]=>[c]
 | f+1,c::d::r =>
  if c≠92 then c::rdF p f (d::r)
  else if d=117/\(p r).isSome then UInt8.ofNat ((p r).getD 0)::rdF p f (r.drop 4)
  else (if d=110 then 10 else if d=114 then 13 else d)::rdF p f r
def rdG (p:List UInt8->Option Nat) (l:List UInt8):List UInt8:=rdF p (l.length+1) l
theorem rdF_more (p:List UInt8->Option Nat):∀(f g:Nat) (l:List UInt8),l.length<f->l.length<g->rdF p f l=rdF p g l
 | 0,_,_,h,_=>by omega
 | _,0,_,_,h=>by omega
 | f+1,g+1,[],_,_=>rfl
 | f+1,g+1,[c],_,_=>rfl
 | f+1,g+1,c::d::r,h1,h2=>by
  simp only[List.length_cons]at h1 h2
  have e1:=rdF_more p f g (d::r) (by simp;omega) (by simp;omega)
  have e2:=rdF_more p f g r (by omega) (by omega)
  have e3:=rdF_more p f g (r.drop 4) (by simp;omega) (by simp;omega)
  rw[rdF,rdF,e1,e2,e3]
theorem rdG_plain (p:List UInt8->Option Nat) (c:UInt8) (t:List UInt8) (h:c≠92):rdG p (c::t)=c::rdG p t:=by
 cases t with
 | nil=>rfl
 | cons d r=>unfold rdG;rw[rdF,if_pos h];rfl
theorem rdG_u (p:List UInt8->Option Nat) (n:Nat) (r:List UInt8) (h:p r=some n):rdG p (92::117::r)=UInt8.ofNat n::rdG p (r.drop 4):=by
 unfold rdG
 rw[rdF,if_neg (by simp),if_pos (by rw[h];simp),h]
 simp only[Option.getD_some,List.cons.injEq,true_and]
 exact rdF_more p _ _ _ (by simp;omega) (by simp)
theorem rdG_esc (p:List UInt8->Option Nat) (d:UInt8) (r:List UInt8) (h:d≠117∨p r=none):rdG p (92::d::r)=(if d=110 then 10 else if d=114 then 13 else d)::rdG p r:=by
 unfold rdG
 have hn:¬ (d=117/\(p r).isSome):=by
  rintro⟨h1,h2⟩
  rcases h with h|h
  ·exact h h1
  ·rw[h]at h2;cases h2
 rw[rdF,if_neg (by simp),if_neg hn]
 simp only[List.cons.injEq,true_and]
 exact rdF_more p _ _ _ (by simp;omega) (by simp)
def pu8 (l:List UInt8):Option Nat:=if l=[] then none else (hexN l 0).bind λn=>if n<256 then some n else none
def puP (r:List UInt8):Option Nat:=if 3<r.length then pu8 (r.take 4) else none
def hxV (c:Nat):Option Nat:=if 48<=c/\c<=57 then some (c-48) else if 65<=c/\c<=70 then some (c-55) else none
theorem hxD_toNat:∀d:Fin 16,hexB (hxD d.val).toNat=some d.val/\hxV (hxD d.val).toNat=some d.val:=by decide
theorem hexB_hxD {d:Nat} (h:d<16):hexB (hxD d).toNat=some d:=(hxD_toNat ⟨d,h⟩).1
theorem puP_esc (c:Nat) (r:List UInt8) (h:c<256):puP (48::48::hxD (c / 16)::hxD (c % 16)::r)=some c:=by
 unfold puP
 rw[if_pos (by simp)]
 unfold pu8
 rw[if_neg (by simp)]
 simp only[List.take_succ_cons,List.take_zero]
 have h0:hexB (48:UInt8).toNat=some 0:=by decide
 simp only[hexN,h0,hexB_hxD (show c / 16<16 by omega),hexB_hxD (show c % 16<16 by omega),Option.bind_some]
 have e:16*(16*(16*(16*0+0)+0)+c / 16)+c % 16=c:=by omega
 rw[e,if_pos h]
theorem esc_slash:escC 92=true:=by decide
theorem rd_iri (p:List UInt8->Option Nat) (hp:∀(c:Nat) (r:List UInt8),c<256->p (48::48::hxD (c / 16)::hxD (c % 16)::r)=some c):∀l:List UInt8,rdG p (iriL l)=l
 | []=>rfl
 | c::t=>by
  have ih:=rd_iri p hp t
  unfold iriL at ih ⊢
  rw[List.flatMap_cons]
  cases h:escC c
  ·have e:iriC c=[c]:=by unfold iriC;rw[h];rfl
   rw[e,List.singleton_append,rdG_plain p c _ (by rintro rfl;rw[esc_slash]at h;cases h),ih]
  ·have e:iriC c=[92,117,48,48,hxD (c.toNat / 16),hxD (c.toNat % 16)]:=by unfold iriC;rw[h];rfl
   rw[e]
   simp only[List.cons_append,List.nil_append]
   rw[rdG_u p c.toNat _ (hp c.toNat _ c.toNat_lt)]
   simp only[List.drop_succ_cons,List.drop_zero]
   rw[ih]
   simp
theorem rd_lit (p:List UInt8->Option Nat):∀l:List UInt8,rdG p (litL l)=l
 | []=>rfl
 | c::t=>by
  have ih:=rd_lit p t
  have e:litL (c::t)=litC c++litL t:=by unfold litL;rw[List.flatMap_cons]
  rw[e]
  by_cases h1:c=34
  ·subst h1;rw[show litC 34=[92,34] from rfl,List.cons_append,List.cons_append,List.nil_append,rdG_esc p _ _ (.inl (by decide)),ih];rfl
  by_cases h2:c=92
  ·subst h2;rw[show litC 92=[92,92] from rfl,List.cons_append,List.cons_append,List.nil_append,rdG_esc p _ _ (.inl (by decide)),ih];rfl
  by_cases h3:c=10
  ·subst h3;rw[show litC 10=[92,110] from rfl,List.cons_append,List.cons_append,List.nil_append,rdG_esc p _ _ (.inl (by decide)),ih];rfl
  by_cases h4:c=13
  ·subst h4;rw[show litC 13=[92,114] from rfl,List.cons_append,List.cons_append,List.nil_append,rdG_esc p _ _ (.inl (by decide)),ih];rfl
  have e:litC c=[c]:=by unfold litC;rw[if_neg h1,if_neg h2,if_neg h3,if_neg h4]
  rw[e,List.singleton_append,rdG_plain p c _ h2,ih]
def qtF:List UInt8->Nat->Nat
 | [],_=>0
 | [c],k=>if c=34 then k+1 else 0
 | c::d::r,k=>if c=34 then k+1 else if c=92 then qtF r (k+2) else qtF (d::r) (k+1)
theorem qtF_end (t:List UInt8) (k:Nat):qtF (34::t) k=k+1:=by cases t<;>rfl
theorem qtF_esc (d:UInt8) (r:List UInt8) (k:Nat):qtF (92::d::r) k=qtF r (k+2):=rfl
theorem qtF_plain (c:UInt8) (t:List UInt8) (k:Nat) (h1:c≠34) (h2:c≠92):qtF (c::t) k=qtF t (k+1):=by
 cases t with
 | nil=>unfold qtF;rw[if_neg h1]
 | cons d r=>rw[qtF,if_neg h1,if_neg h2]
theorem qtF_lit (z:List UInt8):∀(l:List UInt8) (k:Nat),qtF (litL l++34::z) k=k+(litL l).length+1
 | [],k=>qtF_end z k
 | c::t,k=>by
  have ih:=λk=>qtF_lit z t k
  have e:litL (c::t)=litC c++litL t:=by unfold litL;rw[List.flatMap_cons]
  rw[e,List.append_assoc,List.length_append]
  have two:∀d:UInt8,litC c=[92,d]->qtF (litC c++(litL t++34::z)) k=k+((litC c).length+(litL t).length)+1:=by
   intro d hd
   rw[hd]
   simp only[List.cons_append,List.nil_append,List.length_cons,List.length_nil]
   rw[qtF_esc,ih];omega
  by_cases h1:c=34
  ·exact two 34 (by unfold litC;rw[if_pos h1])
  by_cases h2:c=92
  ·exact two 92 (by unfold litC;rw[if_neg h1,if_pos h2])
  by_cases h3:c=10
  ·exact two 110 (by unfold litC;rw[if_neg h1,if_neg h2,if_pos h3])
  by_cases h4:c=13
  ·exact two 114 (by unfold litC;rw[if_neg h1,if_neg h2,if_neg h3,if_pos h4])
  have e:litC c=[c]:=by unfold litC;rw[if_neg h1,if_neg h2,if_neg h3,if_neg h4]
  rw[e]
  simp only[List.cons_append,List.nil_append,List.length_cons,List.length_nil]
  rw[qtF_plain c _ k h1 h2,ih];omega
def qtL (l:List UInt8):Nat:=qtF (l.drop 1) 1
def trimL (l:List UInt8):List UInt8:=if [62].isSuffixOf l then l.take (l.length-1) else l
theorem trim_end (l:List UInt8):trimL (l++[62])=l:=by
 unfold trimL
 rw[if_pos (by rw[List.isSuffixOf_iff_suffix];exact List.suffix_append _ _)]
 simp
abbrev mkS (l:List UInt8):ByteArray:=⟨l.toArray⟩
def guessP (l:List UInt8):Tm:=
 if [60].isPrefixOf l then ⟨1,mkS (rdG puP (trimL (l.drop 1))),⟨#[]⟩,⟨#[]⟩⟩
 else if [95,58].isPrefixOf l then ⟨2,mkS (l.drop 2),⟨#[]⟩,⟨#[]⟩⟩
 else if ![34].isPrefixOf l || qtL l == 0 then ⟨0,⟨#[]⟩,⟨#[]⟩,⟨#[]⟩⟩
 else if [64].isPrefixOf (l.drop (qtL l)) then ⟨3,mkS (rdG puP ((l.drop 1).take (qtL l-2))),mkS ((l.drop (qtL l)).drop 1),⟨#[]⟩⟩
 else if [94,94,60].isPrefixOf (l.drop (qtL l)) then ⟨4,mkS (rdG puP ((l.drop 1).take (qtL l-2))),⟨#[]⟩,mkS (rdG puP (trimL ((l.drop (qtL l)).drop 3)))⟩
 else ⟨3,mkS (rdG puP ((l.drop 1).take (qtL l-2))),⟨#[]⟩,⟨#[]⟩⟩
theorem empty_iff (s:ByteArray):emptyB s=true↔s.data.toList=[]:=by unfold emptyB;rw[ByteArray.toList_eq];exact List.isEmpty_iff
theorem empty_app (a b:ByteArray):emptyB (a++b)=(emptyB a && emptyB b):=by
 unfold emptyB
 rw[ByteArray.toList_eq,ByteArray.toList_eq,ByteArray.toList_eq,ByteArray.data_append,Array.toList_append]
 cases a.data.toList<;>simp
theorem ba_ext {a b:ByteArray} (h:a.data.toList=b.data.toList):a=b:=by
 obtain⟨⟨x⟩⟩:=a;obtain⟨⟨y⟩⟩:=b;simp at h;rw[h]
theorem mk_of (s:ByteArray):mkS s.data.toList=s:=by obtain⟨⟨x⟩⟩:=s;rfl
theorem nil_of {s:ByteArray} (h:s.data.toList=[]):s=⟨#[]⟩:=ba_ext (by rw[h])
theorem right_cases {t:Tm} (h:rightB t=true) :
  (t.k=1/\t.l=⟨#[]⟩/\t.y=⟨#[]⟩/\validB t.x=true)∨(t.k=2/\t.l=⟨#[]⟩/\t.y=⟨#[]⟩/\labelB t.x=true)
  ∨ (t.k=3/\t.y=⟨#[]⟩/\validB t.x=true/\tagB t.l=true)∨(t.k=4/\t.l=⟨#[]⟩/\¬ t.y.toList=xsdL/\validB t.x=true/\validB t.y=true):=by
 unfold rightB at h
 split at h
 ·rename_i hk
  rw[empty_app,Bool.and_eq_true,Bool.and_eq_true,empty_iff,empty_iff]at h
  exact .inl ⟨hk,nil_of h.1.1,nil_of h.1.2,h.2⟩
 split at h
 ·rename_i hk
  rw[empty_app,Bool.and_eq_true,Bool.and_eq_true,empty_iff,empty_iff]at h
  exact .inr (.inl ⟨hk,nil_of h.1.1,nil_of h.1.2,h.2⟩)
 split at h
 ·rename_i hk
  rw[Bool.and_eq_true,Bool.and_eq_true,empty_iff]at h
  exact .inr (.inr (.inl ⟨hk,nil_of h.1.1,h.1.2,h.2⟩))
 split at h
 ·rename_i hk
  rw[Bool.and_eq_true,Bool.and_eq_true,Bool.and_eq_true,empty_iff]at h
  exact .inr (.inr (.inr ⟨hk,nil_of h.1.1,by simpa using h.1.2,h.2⟩))
 ·cases h
theorem drop_quote (m z:List UInt8):((34:UInt8)::(m++34::z)).drop (1+m.length+1)=z:=by
 rw[show 1+m.length+1=(m.length+1)+1 by omega,List.drop_succ_cons,←List.drop_drop,List.drop_left];rfl
theorem take_quote (m z:List UInt8):(((34:UInt8)::(m++34::z)).drop 1).take (1+m.length+1-2)=m:=by
 rw[show 1+m.length+1-2=m.length by omega,List.drop_succ_cons,List.drop_zero,List.take_left]
theorem qt_text (x z:List UInt8):qtL (34::(litL x++34::z))=1+(litL x).length+1:=qtF_lit z x 1
theorem guessP_text {t:Tm} (h:rightB t=true):guessP (textL t)=t:=by
 obtain⟨k,x,l,y⟩:=t
 rcases right_cases h with ⟨rfl,rfl,rfl,-⟩|⟨rfl,rfl,rfl,-⟩|⟨rfl,rfl,-,-⟩|⟨rfl,rfl,-,-⟩
 ·have e:textL ⟨1,x,⟨#[]⟩,⟨#[]⟩⟩=60::(iriL x.data.toList++[62]):=rfl
  rw[e]
  unfold guessP
  rw[if_pos (by rfl),List.drop_succ_cons,List.drop_zero,trim_end,rd_iri puP puP_esc,mk_of]
 ·have e:textL ⟨2,x,⟨#[]⟩,⟨#[]⟩⟩=95::58::x.data.toList:=rfl
  rw[e]
  unfold guessP
  rw[if_neg (by simp[List.isPrefixOf]),if_pos (by simp[List.isPrefixOf]),List.drop_succ_cons,List.drop_succ_cons,List.drop_zero,mk_of]
 ·by_cases hl:l.data.toList=[]
  ·have e:textL ⟨3,x,l,⟨#[]⟩⟩=34::(litL x.data.toList++34::[]):=by unfold textL;rw[if_neg (by simp),if_neg (by simp),if_neg (by simp),if_pos hl]
   rw[e]
   unfold guessP
   rw[qt_text,drop_quote,take_quote,rd_lit,mk_of,if_neg (by simp[List.isPrefixOf]),if_neg (by simp[List.isPrefixOf]),if_neg (by simp[List.isPrefixOf]),if_neg (by simp[List.isPrefixOf]),if_neg (by simp[List.isPrefixOf]),nil_of hl]
  ·have e:textL ⟨3,x,l,⟨#[]⟩⟩=34::(litL x.data.toList++34::(64::l.data.toList)):=by unfold textL;rw[if_neg (by simp),if_neg (by simp),if_neg (by simp),if_neg hl]
   rw[e]
   unfold guessP
   rw[qt_text,drop_quote,take_quote,rd_lit,mk_of,if_neg (by simp[List.isPrefixOf]),if_neg (by simp[List.isPrefixOf]),if_neg (by simp[List.isPrefixOf]),if_pos (by simp[List.isPrefixOf]),List.drop_succ_cons,List.drop_zero,mk_of]
 ·have e:textL ⟨4,x,⟨#[]⟩,y⟩=34::(litL x.data.toList++34::(94::94::60::(iriL y.data.toList++[62]))):=rfl
  rw[e]
  unfold guessP
  rw[qt_text,drop_quote,take_quote,rd_lit,mk_of,if_neg (by simp[List.isPrefixOf]),if_neg (by simp[List.isPrefixOf]),if_neg (by simp[List.isPrefixOf]),if_neg (by simp[List.isPrefixOf]),if_pos (by simp[List.isPrefixOf])]
  simp only[List.drop_succ_cons,List.drop_zero]
  rw[trim_end,rd_iri puP puP_esc,mk_of]
theorem text_inj {a b:Tm} (ha:rightB a=true) (hb:rightB b=true) (h:textL a=textL b):a=b:=by
 rw[←guessP_text ha,←guessP_text hb,h]
end Go.Proofs.YtoaemihcbmlkgaaGreatDoor.Tx
namespace Go.Proofs.YtoaemihcbmlkgaaGreatDoor.Tx
open Go Go.RowKit Um Fm Lx
theorem esc_high {c:UInt8} (h:128<=c.toNat):escC c=false:=by
 unfold escC
 rw[decide_eq_false (by omega)];rfl
theorem iriL_app (a b:List UInt8):iriL (a++b)=iriL a++iriL b:=List.flatMap_append
theorem iriL_high:∀l:List UInt8,(∀b∈l,128<=b.toNat)->iriL l=l
 | [],_=>rfl
 | c::t,h=>by
  have e:iriL (c::t)=iriC c++iriL t:=by unfold iriL;rw[List.flatMap_cons]
  have e2:iriC c=[c]:=by unfold iriC;rw[esc_high (h c (by simp))];rfl
  rw[e,e2,iriL_high t (λb hb=>h b (by simp[hb]))];rfl
theorem enc_high {r:Int} (h:128<=r):∀b∈Lib.encodeRune r,128<=b.toNat:=by
 intro b hb
 unfold Lib.encodeRune at hb
 obtain⟨x,hx,rfl⟩:=List.mem_map.1 hb
 have h1:=Lib.encodeRuneZ_byte r x hx
 have h2:128<=x:=by
  unfold Lib.encodeRuneZ at hx
  repeat' split at hx
  all_goals simp at hx;omega
 have h3:x.toNat.toUInt8.toNat=x.toNat:=by
  show (UInt8.ofNat x.toNat).toNat=_
  rw[UInt8.toNat_ofNat'];omega
 omega
def iriR (r:Nat):List UInt8:=if rawB (r:Int) then Lib.encodeRune (r:Int) else [92,117,48,48,hxD (r / 16),hxD (r % 16)]
theorem iri_step {l:List UInt8} (hne:l≠[]) (hv:Lib.validD l=true) :
  iriL l=iriR (Lib.decodeL l).1++iriL (l.drop (Lib.decodeL l).2)/\(rawB ((Lib.decodeL l).1:Int)=false->(Lib.decodeL l).1<128)/\Lib.validD (l.drop (Lib.decodeL l).2)=true/\1<=(Lib.decodeL l).2/\(Lib.decodeL l).2<=l.length/\(iriR (Lib.decodeL l).1).length<=6*(Lib.decodeL l).2:=by
 rw[Lib.validD_step l hne]at hv
 have hl:0<l.length:=List.length_pos_iff.2 hne
 split at hv
 ·cases hv
 rename_i hb
 have hw:=Lib.decodeL_width l
 have hle:=Lib.decodeL_le l hne
 have hnx:nx l=Lib.decodeL l:=by
  rw[Lib.decodeL_N]at hb ⊢
  unfold nx
  rw[if_neg (by omega),if_neg (λe=>hb (by rw[e];exact⟨rfl,rfl⟩))]
 obtain⟨hB,-,henc,-,-⟩:=nx_enc l (by rw[hnx];omega)
 rw[hnx]at hB henc
 generalize hd:Lib.decodeL l=d at *
 obtain⟨r,n⟩:=d
 simp only at *
 have hsplit:l=l.take n++l.drop n:=(List.take_append_drop n l).symm
 have hlen4:(Lib.encodeRune (r:Int)).length<=4:=by unfold Lib.encodeRune;rw[List.length_map];exact(Lib.encodeRuneZ_length _).2
 have hel:(Lib.encodeRune (r:Int)).length=n:=by rw[←henc,List.length_take];omega
 rcases Nat.lt_or_ge r 128 with hr|hr
 ·have e1:Lib.encodeRune (r:Int)=[UInt8.ofNat r]:=by
   unfold Lib.encodeRune
   rw[Lib.encodeRuneZ_one (by omega) (by omega)]
   simp
  have hn1:n=1:=by rw[e1]at hel;simpa using hel.symm
  have hc:(UInt8.ofNat r).toNat=r:=by rw[UInt8.toNat_ofNat'];omega
  refine⟨?_,λ_=>hr,hv,hw,hle,?_⟩
  ·conv=>lhs;rw[hsplit,henc,e1]
   rw[iriL_app]
   congr 1
   unfold iriR iriL
   rw[List.flatMap_cons,List.flatMap_nil,List.append_nil]
   unfold iriC escC
   rw[hc,decide_eq_true hr,Bool.true_and]
   cases rawB (r:Int)
   ·rfl
   ·rw[if_neg (by simp),if_pos rfl,e1]
  ·unfold iriR;split
   ·omega
   ·simp;omega
 ·have hraw:rawB (r:Int)=true:=by
   unfold rawB
   rw[hB,decide_eq_true (by omega:(32:Int)<r)]
   have:badL.contains (r:Int)=false:=by
    unfold badL
    simp;omega
   rw[this];rfl
  refine⟨?_,λh=>(by rw[hraw]at h;cases h),hv,hw,hle,?_⟩
  ·conv=>lhs;rw[hsplit,henc]
   rw[iriL_app]
   congr 1
   unfold iriR
   rw[hraw,if_pos rfl]
   exact iriL_high _ (enc_high (by omega))
  ·unfold iriR;rw[hraw,if_pos rfl];omega
theorem iriL_nil:iriL []=[]:=rfl
theorem iriL_len:∀l:List UInt8,(iriL l).length<=6*l.length
 | []=>by simp[iriL]
 | c::t=>by
  have e:iriL (c::t)=iriC c++iriL t:=by unfold iriL;rw[List.flatMap_cons]
  have h1:(iriC c).length<=6:=by unfold iriC;split<;>simp
  have:=iriL_len t
  rw[e,List.length_append,List.length_cons];omega
theorem litL_len:∀l:List UInt8,(litL l).length<=2*l.length
 | []=>by simp[litL]
 | c::t=>by
  have e:litL (c::t)=litC c++litL t:=by unfold litL;rw[List.flatMap_cons]
  have h1:(litC c).length<=2:=by unfold litC;(repeat' split);all_goals simp
  have:=litL_len t
  rw[e,List.length_append,List.length_cons];omega
end Go.Proofs.YtoaemihcbmlkgaaGreatDoor.Tx
namespace Go.Proofs.YtoaemihcbmlkgaaGreatDoor
open Go Go.RowKit Um Fm Tx
theorem wTy:WTy 167 2:=⟨by kernel_rfl,by decide⟩
abbrev WI (B b:Nat) (acc:List UInt8) (w:World):Prop:=WIs 167 [] B b (Lib.byteCells acc) w
theorem wWrite (B b:Nat) (acc:List UInt8) (s:ByteArray) (w:World) (h:WI B b acc w) (ha:acc.length<=1000000000) (hs:s.size<=1000000000) (hBw:B<=w.heap.size) :
  Calls Tryz.prog 152 #[.pointer (some ⟨b,0,none⟩),.string s] w λe w'=>(∃u,e=.returned u)/\WI B b (acc++s.data.toList) w'/\Below B w w'/\OK8 b w w':=by
 refine(wString wTy B b _ s w h (by rw[Lib.byteCells_length];omega) hBw).mono ?_
 rintro e w' ⟨rfl,h1,h2,h3⟩
 rw[Lib.strCells_eq,←Lib.byteCells_append]at h1
 exact⟨⟨_,rfl⟩,.inr h1,h2,h3⟩
theorem wWriteRune (B b:Nat) (acc:List UInt8) (r:Nat) (hr:r<=1114111) (w:World) (h:WI B b acc w) (ha:acc.length<=1000000000) (hBw:B<=w.heap.size) :
  Calls Tryz.prog 154 #[.pointer (some ⟨b,0,none⟩),.int .i32 r] w λe w'=>(∃u,e=.returned u)/\WI B b (acc++Lib.encodeRune r) w'/\Below B w w'/\OK8 b w w':=by
 refine(wRune wTy B b _ r (by omega) (by omega) w h (by rw[Lib.byteCells_length];omega) hBw).mono ?_
 rintro e w' ⟨rfl,h1,h2,h3⟩
 rw[←Lib.byteCells_encodeRune,←Lib.byteCells_append]at h1
 exact⟨⟨_,rfl⟩,.inr h1,h2,h3⟩
theorem flat_le (l:List ByteArray) (k m:Nat) (hz:∀s∈l,s.size<=m) (hk:k<=l.length):((l.take k).flatMap λs=>s.data.toList).length<=k*m:=by
 induction k with
 | zero=>simp
 | succ k ih =>
  have hlt:k<l.length:=by omega
  rw[List.take_add_one,List.getElem?_eq_getElem hlt,Option.toList_some,List.flatMap_append,List.length_append]
  have h1:=ih (by omega)
  have h2:=hz l[k] (List.getElem_mem hlt)
  have h3:((([l[k]]:List ByteArray).flatMap λs=>s.data.toList)).length=l[k].size:=by
   rw[List.flatMap_cons,List.flatMap_nil,List.append_nil,size_toList]
  rw[h3,Nat.succ_mul];omega
theorem wPieces (B b g:Nat) (acc:List UInt8) (l:List ByteArray) (c:Nat) (w:World) (h:WI B b acc w) (hA:w.heap[g]?=some (.cells (l.map Value.string).toArray 9 (0,0))) (hg:g≠b)
  (hl:l.length<=4) (hlen:acc.length<=100000000) (hz:∀s∈l,s.size<=100000000) (hBw:B<=w.heap.size) :
  Calls Tryz.prog 100 #[.pointer (some ⟨b,0,none⟩),.slice (some ⟨g,0,none⟩) l.length c] w λe w' =>
   e=.returned (.pointer (some ⟨b,0,none⟩))/\WI B b (acc++l.flatMap λs=>s.data.toList) w'/\Below B w w'/\OK8 b w w':=by
 go_enter Tryz.func100,Tryz.ntmps100
 go_wp2
 go_loopw [9] (λi wr=>∃k:Nat,k<=l.length/\i=.int .i64 k/\Hid (WI B b (acc++(l.take k).flatMap λs=>s.data.toList) wr)/\Hid (OK8 b w wr)/\Below B w wr) (λi _=>l.length-(intOf i).toNat)
 case atStart=>exact⟨0,by omega,rfl,by show WI B b _ w;simpa using h,Lib.OthersKept.refl _ _ _,Below.refl _ _⟩
 case round =>
  obtain⟨k,hk,rfl,HW,HO,hB⟩:=hrel
  by_cases hlt:k<l.length
  ·obtain⟨y,hx⟩:∃x,l[k]?=some x:=⟨_,List.getElem?_eq_getElem hlt⟩
   have hblk:=HO.out g _ hA (by simpa using hg) (by intro c fz e;cases e)
   have hcx:wr.cell? ⟨g,k,none⟩=some (.string y):=by rw[Lib.cell_of_heap hblk];simp[hx]
   have hy:=hz y (List.mem_of_getElem? hx)
   have hfl:=flat_le l k 100000000 hz (by omega)
   have hww:=wWrite B b _ y wr HW.out (by rw[List.length_append];omega) (by omega) (Nat.le_trans hBw hB.size)
   have e2:(l.take (k+1)).flatMap (λs=>s.data.toList)=(l.take k).flatMap (λs=>s.data.toList)++y.data.toList:=by
    rw[List.take_add_one,hx,Option.toList_some,List.flatMap_append];simp
   rw[List.append_assoc,←e2]at hww
   clear HW hx hblk e2 hfl h hz
   go_wp2_with (go_at_call 152;refine hww.mono ?_;rintro e w2 ⟨⟨u,rfl⟩,h1,h2,h3⟩)
   go_roundw
   case rel=>exact⟨k+1,by omega,by go_num,h1,HO.out.trans h3,hB.trans h2⟩
   case measure=>simp[intOf];omega
  ·have e2:(l.take k).flatMap (λs=>s.data.toList)=l.flatMap (λs=>s.data.toList):=by rw[List.take_of_length_le (by omega)]
   rw[e2]at HW
   clear e2 h hz
   go_wp2
   go_ret
   exact⟨rfl,HW.out,hB,HO.out⟩
def hxd (d:Nat):UInt8:=if d<10 then UInt8.ofNat (48+d) else UInt8.ofNat (87+d)
def TzV (w:World):Prop:=w.cell? ⟨6,15,none⟩=some (.int .u8 4)
theorem TzV.step {w w':World} (h:TzV w) (hb:Below w.heap.size w w'):TzV w':=by
 unfold TzV at *
 rw[hb.cell (cell_lt h)];exact h
theorem tz64 (w:World) (hT:TzV w):Calls Tryz.prog 291 #[.int .u64 16] w λe w'=>e=.returned (.int .i64 4)/\w=w':=by
 have hT':w.cell? ⟨6,15,none⟩=some (.int .u8 4):=hT
 have key:IntKind.u64.wrap (bits BinOp.and IntKind.u64 16 (IntKind.u64.wrap (-16))*285870213051353865) / 288230376151711744=15:=by decide
 clear hT
 go_enter Tryz.func291,Tryz.ntmps291
 go_wp2
 go_ret
 exact⟨rfl,rfl⟩
theorem tz (w:World) (hT:TzV w):Calls Tryz.prog 273 #[.int .u64 16] w λe w'=>e=.returned (.int .i64 4)/\w=w':=by
 have h:=tz64 w hT
 go_enter Tryz.func273,Tryz.ntmps273
 go_wp2_with (go_at_call 291;refine h.mono ?_;rintro e w2 ⟨rfl,rfl⟩)
 go_ret
 exact⟨rfl,rfl⟩
theorem isPow (w:World):Calls Tryz.prog 272 #[.int .i64 16] w λe w'=>e=.returned (.bool true)/\w=w':=by
 have key:bits BinOp.and IntKind.i64 16 15=0:=by decide
 go_enter Tryz.func272,Tryz.ntmps272
 go_wp2
 go_ret
 exact⟨rfl,rfl⟩
abbrev digS:ByteArray:=⟨#[48,49,50,51,52,53,54,55,56,57,97,98,99,100,101,102,103,104,105,106,107,108,109,110,111,112,113,114,115,116,117,118,119,120,121,122]⟩
theorem dig_str:∀d:Fin 16,strOfNums [(bn digS d.val:Int)]=⟨#[hxd d.val]⟩:=by decide
theorem fmtBits (d:Nat) (hd:d<16) (w:World) (hT:TzV w):Calls Tryz.prog 247 #[.slice none 0 0,.int .u64 d,.int .i64 16,.bool false,.bool false] w λe w'=>e=.returned (.tuple #[.slice none 0 0,.string ⟨#[hxd d]⟩])/\Below w.heap.size w w':=by
 have hp:=isPow
 have ht:=λW hb=>tz W (hT.step hb)
 clear hT
 go_enter Tryz.func247,Tryz.ntmps247
 go_wp2_with (first|(go_at_call 272;refine(hp _).mono ?_;rintro e w2 ⟨rfl,rfl⟩)|(go_at_call 273;refine(ht _ blw).mono ?_;rintro e w2 ⟨rfl,rfl⟩))
 have hrd:Rd (w.alloc (.cells ((Array.replicate 65 (.int .u8 0)).setIfInBounds 64 (.int .u8 (bn digS d))) 351)) (some ⟨w.heap.size,64,none⟩) ([(bn digS d:Int)].map (Value.int .u8)):=by
  refine .inr ⟨w.heap.size,64,rfl,λj u hu=>?_⟩
  cases j with
  | succ j=>simp at hu
  | zero =>
   simp only[List.map_cons,List.map_nil,List.getElem?_cons_zero,Option.some.injEq]at hu
   subst hu
   rw[Lib.cell_of_heap (heap_alloc_new w _)]
   simp
 have hcs:=run_conv_bytes (P:=Tryz.prog) (n:=1) (c:=1) 163 9 5 Tryz.underlying163 Tryz.underlying5 Tryz.underlying9 hrd rfl
 have hst:strOfNums [(bn digS d:Int)]=⟨#[hxd d]⟩:=dig_str ⟨d,hd⟩
 rw[hst]at hcs
 clear hst hrd
 have hB:Below w.heap.size w (w.alloc (.cells ((Array.replicate 65 (.int .u8 0)).setIfInBounds 64 (.int .u8 (bn digS d))) 351)):=blw
 have HB:=Lib.hid hB
 clear hB
 go_loopw [1,13] (λu i wr=>u=.int .u64 d/\i=.int .i64 65/\wr=w.alloc (.cells (Array.replicate 65 (.int .u8 0)) 351)) (λ_ _ _=>0)
 case atStart=>exact⟨rfl,rfl,rfl⟩
 case round =>
  obtain⟨rfl,rfl,rfl⟩:=hrel
  go_wp2
  go_ret2
  exact⟨rfl,HB.out⟩
theorem fmtInt (d:Nat) (hd:d<16) (w:World) (hT:TzV w):Calls Tryz.prog 156 #[.int .i64 d,.int .i64 16] w λe w'=>e=.returned (.string ⟨#[hxd d]⟩)/\Below w.heap.size w w':=by
 have h1:=fmtBits d hd w hT
 have h2:Calls Tryz.prog 206 #[.int .i64 d,.int .i64 16] w λe w'=>e=.returned (.string ⟨#[hxd d]⟩)/\Below w.heap.size w w':=by
  go_enter Tryz.func206,Tryz.ntmps206
  go_wp2_with (go_at_call 247;refine h1.mono ?_;rintro e w2 ⟨rfl,hb⟩)
  go_ret
  exact⟨rfl,hb⟩
 clear h1
 go_enter Tryz.func156,Tryz.ntmps156
 go_wp2_with (go_at_call 206;refine h2.mono ?_;rintro e w2 ⟨rfl,hb⟩)
 go_ret
 exact⟨rfl,hb⟩
theorem upper_dig:∀d:Fin 16,(hxd d.val).toNat<128/\Lib.toUpperA [hxd d.val]=[hxD d.val]:=by decide
theorem upDig (d:Nat) (hd:d<16) (w:World):Calls Tryz.prog 155 #[.string ⟨#[hxd d]⟩] w λe w'=>e=.returned (.string ⟨#[hxD d]⟩)/\Below w.heap.size w w':=by
 obtain⟨h1,h2⟩:=upper_dig ⟨d,hd⟩
 have h:=Tryz.strings_ToUpper_ascii ⟨#[hxd d]⟩ w (by show 1<=_;omega) (by
  intro j b hj
  cases j with
  | zero=>simp at hj;subst hj;exact h1
  | succ j=>simp at hj)
 rw[h2]at h
 exact h
theorem validRune_isB (n:Int) (h0:0<=n) (h1:n<=1114111):Lib.validRune n=isB n:=by
 simp[Lib.validRune,isB,h0,h1]
theorem utfIs (n:Int) (w:World) :
  Calls Tryz.prog 202 #[.int .i64 n] w λe w'=>e=.returned (.bool (isB n))/\w=w':=by
 have hv:=λW=>Tryz.utf8_ValidRune n W
 by_cases h0:0<=n
 ·by_cases h1:n<=1114111
  ·rw[validRune_isB n h0 h1]at hv
   generalize isB n=q at hv
   go_enter Tryz.func202,Tryz.ntmps202
   go_wp2_with (go_at_call 240;refine(hv _).mono ?_;rintro e w1 ⟨rfl,rfl⟩)
   go_ret
   exact⟨rfl,rfl⟩
  ·have hi:isB n=false:=by simp[isB];omega
   rw[hi]
   clear hi hv
   go_enter Tryz.func202,Tryz.ntmps202
   go_wp2
   go_ret
   exact⟨rfl,rfl⟩
 ·have hi:isB n=false:=by simp[isB];omega
  rw[hi]
  clear hi hv
  go_enter Tryz.func202,Tryz.ntmps202
  go_wp2
  go_ret
  exact⟨rfl,rfl⟩
theorem encode_enc (n:Int) (h:isB n=true):(Utf8.encode n).data.toList=Lib.encodeRune n:=by
 rw[isB_iff]at h
 have hv:Utf8.valid n=true:=by simp[Utf8.valid];omega
 unfold Utf8.encode
 simp only[hv,if_true]
 by_cases c1:n<=127
 ·rw[if_pos (by omega)]
  unfold Lib.encodeRune
  rw[Lib.encodeRuneZ_one (by omega) c1]
  simp[Nat.toUInt8]
 ·rw[if_neg (by omega)]
  by_cases c2:n<=2047
  ·rw[if_pos (by omega)]
   unfold Lib.encodeRune
   rw[Lib.encodeRuneZ_two (by omega) c2]
   simp only[List.map_cons,List.map_nil]
   rw[show (192+n / 64).toNat=192+n.toNat / 64 by omega,show (128+n % 64).toNat=128+n.toNat % 64 by omega]
  ·rw[if_neg (by omega)]
   by_cases c3:n<=65535
   ·rw[if_pos (by omega)]
    unfold Lib.encodeRune
    rw[Lib.encodeRuneZ_three (by omega)]
    simp only[List.map_cons,List.map_nil]
    rw[show (224+n / 4096).toNat=224+n.toNat / 4096 by omega,show (128+n / 64 % 64).toNat=128+n.toNat / 64 % 64 by omega,show (128+n % 64).toNat=128+n.toNat % 64 by omega]
   ·rw[if_neg (by omega)]
    unfold Lib.encodeRune
    rw[Lib.encodeRuneZ_four (by omega) (by omega)]
    simp only[List.map_cons,List.map_nil]
    rw[show (240+n / 262144).toNat=240+n.toNat / 262144 by omega,show (128+n / 4096 % 64).toNat=128+n.toNat / 4096 % 64 by omega,show (128+n / 64 % 64).toNat=128+n.toNat / 64 % 64 by omega,show (128+n % 64).toNat=128+n.toNat % 64 by omega]
theorem contains_head (s t:List UInt8) (b:UInt8) (h:s.contains b=false):Lib.contains s (b::t)=false:=by
 have:Lib.index s (b::t) = -1:=by
  refine Lib.index_none λj _=>?_
  unfold Lib.occAt
  cases hd:s.drop j with
  | nil=>rfl
  | cons c l =>
   have hc:c∈s:=List.mem_of_mem_drop (i:=j) (by rw[hd];exact List.mem_cons_self)
   have hne:(b == c)=false:=by
    cases hbc:b == c with
    | false=>rfl
    | true =>
     have:b=c:=by simpa using hbc
     subst this
     have:s.contains b=true:=by simpa using hc
     rw[this]at h;cases h
   show ((b == c) && t.isPrefixOf l)=false
   rw[hne];rfl
 unfold Lib.contains
 rw[this];rfl
def badU:List UInt8:=[60,62,34,123,125,124,94,96,92]
theorem badS_badU:badS.data.toList=badU:=rfl
theorem bad_low:∀n:Fin 128,Lib.contains badU [n.val.toUInt8]=badL.contains (n.val:Int):=by decide
theorem bad_contains (n:Int) (h:isB n=true):Lib.contains badU (Lib.encodeRune n)=badL.contains n:=by
 rw[isB_iff]at h
 by_cases c1:n<=127
 ·unfold Lib.encodeRune
  rw[Lib.encodeRuneZ_one (by omega) c1]
  have:=bad_low ⟨n.toNat,by omega⟩
  rw[show (((⟨n.toNat,by omega⟩:Fin 128).val:Nat):Int)=n by show ((n.toNat:Nat):Int)=n;omega]at this
  exact this
 ·have hb:badL.contains n=false:=by
   simp[badL];omega
  rw[hb]
  have hd:∃(b:UInt8) (t:List UInt8),Lib.encodeRune n=b::t/\128<=b.toNat:=by
   unfold Lib.encodeRune
   by_cases c2:n<=2047
   ·rw[Lib.encodeRuneZ_two (by omega) c2];exact⟨_,_,rfl,by simp;omega⟩
   ·by_cases c3:n<=65535
    ·rw[Lib.encodeRuneZ_three (by omega)];exact⟨_,_,rfl,by simp;omega⟩
    ·rw[Lib.encodeRuneZ_four (by omega) (by omega)];exact⟨_,_,rfl,by simp;omega⟩
  obtain⟨b,t,he,hb2⟩:=hd
  rw[he]
  apply contains_head
  simp only[badU]
  cases hc:List.contains [60,62,34,123,125,124,94,96,92] b with
  | false=>rfl
  | true =>
   exfalso
   simp at hc
   rcases hc with h|h|h|h|h|h|h|h|h<;>(subst h;revert hb2;decide)
theorem utfRaw (n:Int) (w:World) (hC:Ctx w) :
  Calls Tryz.prog 153 #[.int .i64 n] w λe w'=>e=.returned (.bool (rawB n))/\w=w':=by
 obtain⟨m,hm⟩:=hC.maxl
 have his:=utfIs n w
 have hsc:=λt=>Tryz.strings_Contains badS t m w (by decide) hm
 clear hC
 by_cases h1:32<n
 ·by_cases h2:isB n=true
  ·have hr:rawB n = !badL.contains n:=by simp[rawB,h1,h2]
   rw[hr]
   replace hsc:=hsc (Utf8.encode n)
   rw[encode_enc n h2,badS_badU,bad_contains n h2]at hsc
   rw[h2]at his
   rw[isB_iff]at h2
   obtain⟨⟨h3,h4⟩,h5⟩:=h2
   clear hr hm h5
   generalize badL.contains n=q at hsc
   unfold badS at hsc
   go_enter Tryz.func153,Tryz.ntmps153
   go_wp2_with (first
    | (go_at_call 202;refine his.mono ?_;rintro e w1 ⟨rfl,rfl⟩)
    | (go_at_call 203;refine hsc.mono ?_;rintro e w1 ⟨rfl,rfl⟩))
   go_ret
   exact⟨rfl,rfl⟩
  ·have h2:isB n=false:=by simpa using h2
   have hr:rawB n=false:=by simp[rawB,h2]
   rw[hr]
   rw[h2]at his
   clear hr hm hsc h2
   go_enter Tryz.func153,Tryz.ntmps153
   go_wp2_with (go_at_call 202;refine his.mono ?_;rintro e w1 ⟨rfl,rfl⟩)
   go_ret
   exact⟨rfl,rfl⟩
 ·have hr:rawB n=false:=by simp[rawB];omega
  rw[hr]
  clear hr hm hsc his
  go_enter Tryz.func153,Tryz.ntmps153
  go_wp2
  go_ret
  exact⟨rfl,rfl⟩
theorem ok8_iter {b:Nat} {w wr:World} (h:OK8 b w wr) {k:Nat} (hk:w.heap.size<=k) (s:ByteArray) (pos:Nat):OK8 b w (wr.iterAt k s pos):=λi o hi hb ho=>by
 have hlt:i<w.heap.size:=(Array.getElem?_eq_some_iff.1 hi).1
 exact(Lib.iterAt_other wr k i s pos (by omega)).trans (h i o hi hb ho)
theorem ok8_below {b:Nat} {w w':World} (h:Below w.heap.size w w'):OK8 b w w':=λi o hi _ _=>by
 rw[h.block i (Array.getElem?_eq_some_iff.1 hi).1];exact hi
def CtxT (w:World):Prop:=Ctx w/\TzV w
theorem CtxT.step {w w':World} (h:CtxT w) (hb:Below w.heap.size w w'):CtxT w':=⟨h.1.step hb,h.2.step hb⟩
theorem and15:∀r:Fin 128,bits BinOp.and IntKind.i64 (r.val:Int) 15=((r.val % 16:Nat):Int):=by decide
theorem wIri (w0:World) (hC:CtxT w0) (b:Nat) (acc:List UInt8) (s:ByteArray) (w:World) (hw0:Below w0.heap.size w0 w) (h:WI w0.heap.size b acc w) (hv:validB s=true) (hs:s.size<=1048576) (hlen:acc.length<=50000000) :
  Calls Tryz.prog 101 #[.pointer (some ⟨b,0,none⟩),.string s] w λe w'=>e=.returned (.pointer (some ⟨b,0,none⟩))/\WI w0.heap.size b (acc++iriL s.data.toList) w'/\Below w0.heap.size w w'/\OK8 b w w':=by
 have hBw:=hw0.size
 have hlt0:b<w.heap.size:=h.lt
 have hz:s.data.toList.length=s.size:=size_toList s
 go_enter Tryz.func101,Tryz.ntmps101
 go_wp2
 go_loopg [] s.size (λgk wx=>∃(pos:Nat) (part:List UInt8),Hid (WI w0.heap.size b (acc++part) wx)/\wx.heap[w.heap.size]?=some (.stringIter s pos)/\Below w0.heap.size w wx/\Hid (OK8 b w wx) /\
  Hid (part++iriL (s.data.toList.drop pos)=iriL s.data.toList)/\Hid (Lib.validD (s.data.toList.drop pos)=true)/\part.length<=6*pos/\s.size<=pos+gk/\pos<=s.size)
 case atStart =>
  refine⟨0,[],?_,World.iter_heap w s 0,(Below.refl _ w).alloc hBw _,(Lib.OthersKept.refl _ _ w).alloc _,rfl,hv,by simp,by omega,by omega⟩
  show WI _ _ _ _
  rw[List.append_nil];exact h.alloc _
 case round =>
  obtain⟨pos,part,hW,hit,hB,hO,hpart,hvd,hpl,hfu,hps⟩:=hrel
  have hklt:w.heap.size<wr.heap.size:=(Array.getElem?_eq_some_iff.1 hit).1
  by_cases hlt:pos<s.size
  ·obtain⟨g',rfl⟩:∃g',gk=g'+1:=⟨gk-1,by omega⟩
   have hne:s.data.toList.drop pos≠[]:=by
    intro h0
    have:=congrArg List.length h0
    rw[List.length_drop,hz]at this
    simp at this;omega
   have hst:=iri_step hne hvd.out
   have hnx:∀ty,(Instr.next (.pointer (some ⟨w.heap.size,0,none⟩)) true ty).run Tryz.prog wr=_:=λty=>Lib.run_next_any_at wr w.heap.size s pos ty hit hlt
   have hrn:=Lib.decodeL_rune (s.data.toList.drop pos)
   rw[Lib.decodeL_drop]at hst hrn
   rw[List.drop_drop,List.length_drop,hz]at hst
   generalize hdd:Utf8.decode s pos=dd at *
   obtain⟨r,n⟩:=dd
   simp only at hnx hst hrn
   obtain⟨h1,h2,h3,h4,h5,h6⟩:=hst
   have hit2:=Lib.iterAt_heap wr w.heap.size s pos (pos+n) hit
   have hB2:=Lib.below_iterAt hB (k:=w.heap.size) hBw s (pos+n)
   have hO2:=ok8_iter hO.out (k:=w.heap.size) (Nat.le_refl _) s (pos+n)
   have hW2:WI w0.heap.size b (acc++part) (wr.iterAt w.heap.size s (pos+n)):=WIs.iterAt hW.out hit (pos+n)
   have hp2:(part++iriR r)++iriL (s.data.toList.drop (pos+n))=iriL s.data.toList:=by rw[List.append_assoc,←h1];exact hpart.out
   have hal:(acc++part).length<=100000000:=by rw[List.length_append];omega
   have hpl2:(part++iriR r).length<=6*(pos+n):=by rw[List.length_append];omega
   obtain⟨W,hWd⟩:∃W,wr.iterAt w.heap.size s (pos+n)=W:=⟨_,rfl⟩
   rw[hWd]at hnx hit2 hB2 hO2 hW2
   have hrw:=utfRaw (r:Int) W (hC.step (hw0.trans hB2)).1
   have HW2:=Lib.hid hW2
   have HO2:=Lib.hid hO2
   have Hp2:=Lib.hid hp2
   have H3:=Lib.hid h3
   have hBW:w0.heap.size<=W.heap.size:=Nat.le_trans hBw hB2.size
   have hkW:w.heap.size<W.heap.size:=(Array.getElem?_eq_some_iff.1 hit2).1
   clear hit hB hO hW hpart hvd hdd hWd h1 h3 hpl hW2 hO2 hp2 hne
   cases hr:rawB (r:Int)
   ·have h128:=h2 hr
    rw[hr]at hrw
    have hi:iriR r=[92,117,48,48,hxD (r / 16),hxD (r % 16)]:=by unfold iriR;rw[hr];rfl
    rw[hi]at Hp2 hpl2
    have ha15:=and15 ⟨r,h128⟩
    simp only at ha15
    have hf1:=λW' hb=>fmtInt (r / 16) (by omega) W' ((hC.step (hw0.trans hB2)).step hb).2
    have hf2:=λW' hb=>fmtInt (r % 16) (by omega) W' ((hC.step (hw0.trans hB2)).step hb).2
    rw[show ((r / 16:Nat):Int)=(r:Int) / 16 from by omega]at hf1
    rw[show ((r % 16:Nat):Int)=(r:Int) % 16 from by omega]at hf2 ha15
    have hu1:=λW'=>upDig (r / 16) (by omega) W'
    have hu2:=λW'=>upDig (r % 16) (by omega) W'
    have HI2:=Lib.hid hit2
    clear hi hr h2 hit2
    go_wp2_with (first|(go_at_call 153;refine hrw.mono ?_;rintro e w2 ⟨rfl,rfl⟩))
    refine(hf1 _ (Below.refl _ _)).mono ?_
    rintro e w2 ⟨rfl,c1⟩
    go_wp2_with (go_at_call 155;refine(hu1 _).mono ?_;rintro e w3 ⟨rfl,c2⟩)
    have c3:=below_tr c1 c2
    refine(hf2 _ c3).mono ?_
    rintro e w4 ⟨rfl,c4⟩
    go_wp2_with (go_at_call 155;refine(hu2 _).mono ?_;rintro e w5 ⟨rfl,c5⟩)
    have c6:=below_tr c3 (below_tr c4 c5)
    have c7:Below W.heap.size W (w5.alloc (.cells #[.string ⟨#[92,117,48,48]⟩,.string ⟨#[hxD (r / 16)]⟩,.string ⟨#[hxD (r % 16)]⟩] 9)):=c6.alloc c6.size _
    have hbW:b<W.heap.size:=WIs.lt HW2.out
    have hzW:=c6.size
    have hpc:=wPieces w0.heap.size b w5.heap.size (acc++part) [⟨#[92,117,48,48]⟩,⟨#[hxD (r / 16)]⟩,⟨#[hxD (r % 16)]⟩] 3 _ (WIs.step HW2.out c7) (heap_alloc_new w5 _) (by omega) (by simp) (by omega)
     (by intro x hx;simp at hx;rcases hx with rfl|rfl|rfl<;>simp[ByteArray.size]) (Nat.le_trans hBW c7.size)
    refine hpc.mono ?_
    rintro e w6 ⟨rfl,k1,k2,k3⟩
    have e1:(acc++part)++List.flatMap (λs:ByteArray=>s.data.toList) [⟨#[92,117,48,48]⟩,⟨#[hxD (r / 16)]⟩,⟨#[hxD (r % 16)]⟩]=acc++(part++[92,117,48,48,hxD (r / 16),hxD (r % 16)]):=by rw[List.append_assoc];rfl
    rw[e1]at k1
    have hit6:=Lib.OthersKept.iter ((ok8_below (b:=b) c7).trans k3) HI2.out (by omega)
    have hB6:=(hB2.trans (c7.mono hBW)).trans k2
    clear hpc hu1 hu2 hf1 hf2 c1 c2 c3 c4 c5 c6
    go_wp2
    go_roundg g'
    case measure=>omega
    case rel=>exact⟨pos+n,part++[92,117,48,48,hxD (r / 16),hxD (r % 16)],k1,hit6,hB6,HO2.out.trans ((ok8_below c7).trans k3),Hp2.out,H3.out,hpl2,by omega,by omega⟩
   ·rw[hr]at hrw
    have hi:iriR r=Lib.encodeRune (r:Int):=by unfold iriR;rw[hr];rfl
    rw[hi]at Hp2 hpl2
    have hww:=wWriteRune w0.heap.size b (acc++part) r hrn W HW2.out (by omega) hBW
    rw[List.append_assoc]at hww
    have hit3:=λw2 (hk:OK8 b W w2)=>Lib.OthersKept.iter hk hit2 (by omega)
    clear hi hr h2 hit2 HW2
    go_wp2_with (first|(go_at_call 153;refine hrw.mono ?_;rintro e w2 ⟨rfl,rfl⟩)|(go_at_call 154;refine hww.mono ?_;rintro e w2 ⟨⟨u,rfl⟩,k1,k2,k3⟩))
    go_roundg g'
    case measure=>omega
    case rel=>exact⟨pos+n,part++Lib.encodeRune (r:Int),k1,hit3 _ k3,hB2.trans k2,HO2.out.trans k3,Hp2.out,H3.out,hpl2,by omega,by omega⟩
  ·have hnx:∀ty,(Instr.next (.pointer (some ⟨w.heap.size,0,none⟩)) true ty).run Tryz.prog wr=_:=λty=>Lib.run_next_end_at wr w.heap.size s pos ty hit hlt
   have hpe:part=iriL s.data.toList:=by
    have:=hpart.out
    rw[List.drop_eq_nil_of_le (by rw[hz];omega),iriL_nil,List.append_nil]at this
    exact this
   rw[hpe]at hW
   clear hpe hpart hvd hit
   go_wp2
   go_ret
   exact⟨rfl,hW.out,hB,hO.out⟩
end Go.Proofs.YtoaemihcbmlkgaaGreatDoor
