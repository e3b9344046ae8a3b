/- What arguments that can be read as data are: lists, terms, c -/
import Derived.Test.YtoaemihcbmlkgaaGreatDoorJTms
import Derived.Lib.SmallJoins
import Derived.Test.YtoaemihcbmlkgaaGreatDoorCards
import Derived.Test.YtoaemihcbmlkgaaGreatDoorTie
import Derived.Lib.LaidU8
import Derived.Lib.LaidIn
import Derived.Deep.DeepWitnessRowRef
namespace Go.Proofs.YtoaemihcbmlkgaaGreatDoor
open Go Go.ChangeShapes Go.WideShapes Go.ChangeAt Go.RowKit Go.Lib Go.Joins Go.Deep Fm
section
variable {H:Type} {enc:TypeId × Value->H} {P:Program}
def Sized (P:Program) (t:TypeId) (d:DataW H):Prop:=∀m∈d.weights P t,m<=reachBytes
def Opens (enc:TypeId × Value->H) (P:Program) (w:World) (f:Nat) (t:TypeId) (sz:Nat) {α:Type} (R:List Value->α->Prop) (Z:α->Prop):Prop:=
 ∀(cs:List Value) (d:DataW H) (ps:List MemPlace),DataW.trod enc P w 0 (λ_=>true) true f t cs=some (d,ps)->Sized P t d->∃a,R cs a/\cs.length=sz/\Z a
theorem weightsAll_mem {e:TypeId}:∀{l:List (DataW H)} {d:DataW H},d∈l->∀m∈d.weights P e,m∈DataW.weightsAll P e l
 | x::r,d,hd,m,hm=>by
  rw[DataW.weightsAll,List.mem_append]
  rcases List.mem_cons.1 hd with h|h
  ·left;rw[←h];exact hm
  ·right;exact weightsAll_mem h m hm
theorem weightsEach_mem:∀{ts:List TypeId} {ds:List (DataW H)} {i:Nat} {t:TypeId} {d:DataW H},ts[i]?=some t->ds[i]?=some d->∀m∈d.weights P t,m∈DataW.weightsEach P ts ds:=λht hd m hm=>DataW.weights_mem_each ht hd m hm
theorem Sized.field {t u:TypeId} {fs:Array Field} {parts:List (DataW H)} (h:Sized P t (.agg parts)) (hu:P.underlying t=some (.struct fs)) {i:Nat} {d:DataW H} (ht:(fs.toList.map (·.type))[i]?=some u) (hd:parts[i]?=some d):Sized P u d:=by
 intro m hm
 refine h m ?_
 simp only[DataW.weights,hu]
 exact weightsEach_mem ht hd m hm
theorem sized_str {t:TypeId} {s:ByteArray} (h:Sized P t (.lit (.string s.data.toList):DataW H)):s.size<=140737488351232:=by
 have:=h s.data.toList.length (by simp[DataW.weights])
 rw[size_toList]at this
 exact Nat.le_trans this (by decide)
theorem open_list {w:World} {f F:Nat} {t e:TypeId} {sz:Nat} {α:Type} {R:List Value->α->Prop} {Z:α->Prop} (ht:P.underlying t=some (.slice e)) (hc:P.cellsOf e=sz) (hsz:0<sz) (hf:f<=F+1)
  (he:Opens enc P w F e sz R Z) {cs:List Value} {d:DataW H} {ps:List MemPlace} (h:DataW.trod enc P w 0 (λ_=>true) true f t cs=some (d,ps)) (hs:Sized P t d) :
  ∃(l:List α) (A:Option Addr) (c:Nat),cs=[.slice A l.length c]/\l.length<=c/\RdL sz R w A l/\(∀a∈l,Z a)/\c*P.bytesOf e<=reachBytes:=by
 rcases DataW.trod_slice ht h with ⟨hv,hx⟩|⟨a,len,cap,elems,rest,n,rfl,rfl,hx,hb,hl,hm,hlen,hel,hsp,hns⟩
 ·exact⟨[],none,0,hv,Nat.le_refl _,RdL.nil _ _ _ _,(by intro a ha;simp at ha),(by simp)⟩
 ·have hd:d=.slice (elems.map (·.1)) (rest.map (·.1)):=congrArg Prod.fst hx
  subst hd
  have hcap:cap*P.bytesOf e<=reachBytes:=by
   have:=hs (((elems.map (·.1)).length+(rest.map (·.1)).length)*P.bytesOf e) (by simp[DataW.weights,ht])
   rw[List.length_map,List.length_map,hlen,(hsp rfl).1]at this
   rwa [show len+(cap-len)=cap by omega]at this
  by_cases h0:len=0
  ·subst h0
   exact⟨[],some a,cap,rfl,hl,RdL.nil _ _ _ _,(by intro a ha;simp at ha),hcap⟩
  have hspot:∃b o,a=⟨b,o,none⟩:=by
   obtain⟨y,hy⟩:∃y,elems[0]?=some y:=⟨_,List.getElem?_eq_getElem (by omega)⟩
   have hk2:=hel 0 (by omega)
   rw[hy,Option.bind_eq_some_iff]at hk2
   obtain⟨ds,hcs,htr⟩:=hk2
   obtain⟨_,hdl,hcell⟩:=World.cells?_some hcs
   have h1:=hcell 0 (by omega)
   rw[List.getElem?_eq_getElem (by omega)]at h1
   have h2:=World.cell?_spot h1
   obtain⟨b,o,s⟩:=a
   have h3:s=none:=by simpa[Addr.add] using h2
   exact⟨b,o,by rw[h3]⟩
  obtain⟨b,o,rfl⟩:=hspot
  have step:∀k,k<=len->∃(l:List α) (xs:List Value),l.length=k/\All sz R xs l/\(∀a∈l,Z a)/\∀j u,xs[j]?=some u->w.cell? ⟨b,o+j,none⟩=some u:=by
   intro k
   induction k with
   | zero=>exact λ_=>⟨[],[],rfl,rfl,(by intro a ha;simp at ha),λj u hu=>by simp at hu⟩
   | succ k ih =>
    intro hk
    obtain⟨l,xs,h1,h2,h3,h4⟩:=ih (by omega)
    obtain⟨y,hy⟩:∃y,elems[k]?=some y:=⟨_,List.getElem?_eq_getElem (by omega)⟩
    have hk2:=hel k (by omega)
    rw[hy,Option.bind_eq_some_iff]at hk2
    obtain⟨ds,hcs,htr⟩:=hk2
    obtain⟨_,hdl,hcell⟩:=World.cells?_some hcs
    have hsy:Sized P e y.1:=λm hm=>hs m (by
     simp only[DataW.weights,ht,List.mem_cons,List.mem_append]
     exact .inr (.inl (weightsAll_mem (List.mem_map_of_mem (List.mem_of_getElem? hy)) m hm)))
    obtain⟨x,hx1,hx2,hx3⟩:=he ds y.1 y.2 (DataW.trod_le (by omega) htr) hsy
    rw[hc]at hdl hcell
    refine⟨l++[x],xs++ds,by simp[h1],h2.append (All.one hx2 hx1),?_,?_⟩
    ·intro z hz
     rcases List.mem_append.1 hz with hz|hz
     ·exact h3 z hz
     ·simp only[List.mem_singleton]at hz;rw[hz];exact hx3
    ·intro j u hu
     have hxl:xs.length=k*sz:=by rw[h2.len,h1]
     by_cases hj:j<k*sz
     ·rw[List.getElem?_append_left (by omega)]at hu
      exact h4 j u hu
     ·rw[List.getElem?_append_right (by omega),hxl]at hu
      have hj2:j-k*sz<sz:=by
       have:=(List.getElem?_eq_some_iff.1 hu).1
       omega
      have h5:=hcell (j-k*sz) hj2
      rw[hu,add_zero_spot,add_zero_spot]at h5
      rw[show o+j=o+k*sz+(j-k*sz) by omega]
      exact h5
  obtain⟨l,xs,h1,h2,h3,h4⟩:=step len (Nat.le_refl _)
  subst h1
  exact⟨l,some ⟨b,o,none⟩,cap,rfl,hl,⟨xs,.inr ⟨b,o,rfl,h4⟩,h2⟩,h3,hcap⟩
end
open Go.ChangeMaps (open_string shut_string)
section
variable {H:Type} {enc:TypeId × Value->H} {P:Program}
theorem trodAll_stays (hl:laidOutB P=true) {W W':World} (hb:Below W.heap.size W W') {sp:Nat->Bool} :
  ∀(ts:List TypeId) (vs:List Value) (ds:List (DataW H)) (ps:List MemPlace),(∀t∈ts,P.readableRec t=true/\t<P.types.size)->DataW.TrodAll enc P W 0 (λ_=>true) true ts vs ds ps ->
   (∀x∈ps,x.block<W.heap.size)->(∀x∈ps,sp x.block=true)->DataW.TrodAll enc P W' 0 sp true ts vs ds ps
 | [],[],[],_,_,h,_,_=>h
 | t::ts,v::vs,d::ds,ps,hr,h,hlt,hsp=>by
  obtain⟨p,q,h1,h2,rfl⟩:=h
  exact⟨p,q,WideElems.Trod_stays hl (hr t (by simp)).1 (hr t (by simp)).2 h1 (λx hx=>hb.same (hlt x (by simp[hx]))) (λx hx=>hsp x (by simp[hx])),
   trodAll_stays hl hb ts vs ds q (λt ht=>hr t (by simp[ht])) h2 (λx hx=>hlt x (by simp[hx])) (λx hx=>hsp x (by simp[hx])),rfl⟩
 | [],[],_::_,_,_,h,_,_=>h.elim
 | [],_::_,_,_,_,h,_,_=>h.elim
 | _::_,[],_,_,_,h,_,_=>h.elim
 | _::_,_::_,[],_,_,h,_,_=>h.elim
theorem post_true {fn:Func} {s:ChangeSpec} {apart fresh handsOn again:Bool} {W W':World} {args:Array Value} {ds gs:List (DataW H)} {before:List MemPlace} {tb:TypeId}
  (hl:laidOutB P=true) (hr:fn.params.toList.all (λt=>P.readableRec t && decide (t<P.types.size))=true) (hres:fn.resultTypes=#[tb]) (htb:P.underlying tb=some .bool) (hs:s.vars=[])
  (hW:DataW.Whole enc P fn.params.toList s.vars apart W args.toList ds gs before) (hf:s.fn H (ds++gs)={results:=[.lit (.bool true)],args:=ds}) (hb:Below W.heap.size W W') :
  s.post enc P fn apart fresh handsOn again W args (.bool true) W':=by
 have hlt:∀p∈before,p.block<W.heap.size:=λp hp=>hW.lt p hp
 have hW':=hW
 obtain⟨p,q,hA,hV,rfl,hz,hn⟩:=hW
 rw[hs]at hV
 obtain⟨rfl,rfl⟩:=trodVars_none hV
 rw[List.append_nil]at hf hW' hz hn hlt
 have hr':∀t∈fn.params.toList,P.readableRec t=true/\t<P.types.size:=λt ht=>by
  have:=List.all_eq_true.1 hr t ht
  simpa using this
 have hargs:∀sp:Nat->Bool,(∀x∈p,sp x.block=true)->DataW.TrodAll enc P W' 0 sp true fn.params.toList args.toList ds p:=λsp hsp=>trodAll_stays hl hb _ _ _ _ hr' hA hlt hsp
 have hold:∀x∈p,(λb=>decide (b<W.heap.size)) x.block=true:=λx hx=>by simpa using hlt x hx
 have hout:∀(b:Nat) (sp:Nat->Bool) (hd:Bool),DataW.TrodAll enc P W' b sp hd fn.resultTypes.toList ((Value.bool true).resultList fn.resultTypes.size) [.lit (.bool true)] []:=λb sp hd=>by
  rw[hres];exact trodAll_cons_mk (shut_bool htb _) trodAll_mk0
 refine⟨ds,[],p,[],p,[],hW',?_,?_,?_,World.keptBut_mono (λx hx=>⟨hx,?_⟩) (hb.frame (· ∈ p)),λ_=>?_⟩
 ·rw[List.append_nil,hf];exact hout _ _ _
 ·rw[List.append_nil,hf];exact hargs _ hold
 ·rw[List.append_nil,hf,hs];rfl
 ·exact Or.inr (by simpa using hx)
 ·refine⟨ok_one (t:=tb) hres rfl (okWide_bool_mk htb _),_,([]:List (DataW H)),([]++p)++[],⟨[]++p,[],trodAll_append (hargs _ (λ_ _=>rfl)) (hout _ _ _),?_,rfl,?_,?_⟩,?_⟩
  ·rw[hs];rfl
  ·intro b off hp
   have hin:MemPlace.cell b off∈p:=by simpa using hp
   rw[hb.frozen (hlt _ hin)]
   exact hz b off hin
  ·intro ha
   have:=hn ha
   simpa using this
  ·intro x hx _
   simpa using hx
end
section
variable {H:Type} {enc:TypeId × Value->H}
theorem sized_arg {P:Program} {ts:List TypeId} {ds:List (DataW H)} {j:Nat} {t:TypeId} {d:DataW H} (hreach:(DataW.weightsEach P ts ds).all (· <= reachBytes)=true) (htj:ts[j]?=some t) (hdj:ds[j]?=some d):Sized P t d:=by
 intro m hm
 have:=List.all_eq_true.1 hreach m (DataW.weights_mem_each htj hdj m hm)
 simpa using this
set_option maxRecDepth 100000 in
theorem opens_str (w:World) (f:Nat):Opens enc Tryz.prog w f 9 1 (λcs (s:ByteArray)=>cs=[.string s]) (λs=>s.size<=140737488351232):=by
 intro cs d ps h hs
 obtain⟨s,rfl,hx,_⟩:=DataW.trod_string Tryz.underlying9 h
 have hd:d=.lit (.string s.data.toList):=congrArg Prod.fst hx
 subst hd
 exact⟨s,rfl,rfl,sized_str hs⟩
end
end Go.Proofs.YtoaemihcbmlkgaaGreatDoor
namespace Go.Proofs.YtoaemihcbmlkgaaGreatDoor.Um
open Go.Lib
def isB (n:Int):Bool:=decide (0<=n) && decide (n<=1114111) && (decide (n<55296) || decide (57343<n))
def inB (n:Int):List Int->Bool
 | a::b::l=>(decide (a<=n) && decide (n<=b)) || inB n l
 | _=>false
theorem inB_drop (n x y:Int) (l:List Int) (k:Nat) (hx:l[k]?=some x) (hy:l[k+1]?=some y) :
  inB n (l.drop k)=((decide (x<=n) && decide (n<=y)) || inB n (l.drop (k+2))):=by
 obtain⟨h1,rfl⟩:=List.getElem?_eq_some_iff.1 hx
 obtain⟨h2,rfl⟩:=List.getElem?_eq_some_iff.1 hy
 rw[List.drop_eq_getElem_cons h1,List.drop_eq_getElem_cons h2]
 simp[inB]
theorem inB_end (n:Int) (l:List Int) (k:Nat) (h:¬ k+1<l.length):inB n (l.drop k)=false:=by
 have:(l.drop k).length<=1:=by simp;omega
 generalize l.drop k=r at this
 match r,this with
 | [],_=>rfl
 | [_],_=>rfl
def firstL:List Int:=[65,90,97,122,192,214,216,246,248,767,880,893,895,8191,8204,8205,8304,8591,11264,12271,12289,55295,63744,64975,65008,65533,65536,983039]
def firstB (n:Int):Bool:=inB n firstL
def letterL:List Int:=[95,95,58,58,45,45,48,57,183,183,768,879,8255,8256]
def letterB (n:Int):Bool:=firstB n || inB n letterL
def beginL:List Int:=[95,95,58,58,48,57]
def beginB (n:Int):Bool:=firstB n || inB n beginL
def digitB (n:Int):Bool:=decide (48<=n) && decide (n<=57)
def alphaB (n:Int):Bool:=inB n [65,90,97,122]
def badL:List Int:=[60,62,34,123,125,124,94,96,92]
def rawB (n:Int):Bool:=isB n && decide (32<n) && !badL.contains n
def nx (l:List UInt8):Nat × Nat:=
 if l.length=0 then (0,0) else
 if decodeN l.length (l.getD 0 0).toNat (l.getD 1 0).toNat (l.getD 2 0).toNat (l.getD 3 0).toNat=(65533,1) then (0,0)
 else decodeN l.length (l.getD 0 0).toNat (l.getD 1 0).toNat (l.getD 2 0).toNat (l.getD 3 0).toNat
theorem isB_iff (n:Int):isB n=true↔(0<=n/\n<=1114111)/\(n<55296∨57343<n):=by simp[isB]
theorem u8_lt (a:UInt8):a.toNat<256:=a.toNat_lt
theorem u8_of_int (x:UInt8) (n:Int) (h:(x.toNat:Int)=n):n.toNat.toUInt8=x:=by
 subst h;simp
theorem decodeN_pos (n b0 b1 b2 b3:Nat):1<=(decodeN n b0 b1 b2 b3).2:=by
 unfold decodeN
 repeat' split
 all_goals simp
def cand (l:List UInt8):Nat->Int
 | 1=>(l.getD 0 0).toNat
 | 2=>64*((l.getD 0 0).toNat-192)+(l.getD 1 0).toNat-128
 | 3=>64*(64*((l.getD 0 0).toNat-224)+(l.getD 1 0).toNat-128)+(l.getD 2 0).toNat-128
 | 4=>64*(64*(64*((l.getD 0 0).toNat-240)+(l.getD 1 0).toNat-128)+(l.getD 2 0).toNat-128)+(l.getD 3 0).toNat-128
 | _=>0
theorem dec1 (n b0 b1 b2 b3:Nat) (h:b0<128):decodeN n b0 b1 b2 b3=(b0,1):=by unfold decodeN;rw[if_pos h]
theorem take_of_bytes (l:List UInt8) (m:List Int) (hl:m.length<=l.length) (hm:∀i,i<m.length->((l.getD i 0).toNat:Int)=m.getD i 0) :
  l.take m.length=m.map λx=>x.toNat.toUInt8:=by
 apply List.ext_getElem?
 intro i
 by_cases hi:i<m.length
 ·have h1:=hm i hi
  rw[List.getElem?_take,if_pos hi,List.getElem?_map,List.getElem?_eq_getElem hi,List.getElem?_eq_getElem (by omega)]
  simp only[List.getD_eq_getElem?_getD,List.getElem?_eq_getElem hi,List.getElem?_eq_getElem (show i<l.length by omega),Option.getD_some]at h1
  simp only[Option.map_some,Option.some.injEq]
  exact(u8_of_int _ _ h1).symm
 ·rw[List.getElem?_eq_none (by simp;omega),List.getElem?_eq_none (by simp;omega)]
theorem nx_enc (l:List UInt8) (h:(nx l).2≠0) :
  isB ((nx l).1:Int)=true/\(nx l).2<=l.length/\l.take (nx l).2=encodeRune ((nx l).1:Int)/\cand l (nx l).2=((nx l).1:Int)/\(nx l).2<=4:=by
 unfold nx at *
 split at h
 ·simp at h
 split at h
 ·simp at h
 rename_i hl0 hbad
 rw[if_neg hl0,if_neg hbad]
 have g0:=u8_lt (l.getD 0 0)
 have g1:=u8_lt (l.getD 1 0)
 have g2:=u8_lt (l.getD 2 0)
 have g3:=u8_lt (l.getD 3 0)
 have key:∀m:List Int,(∀i,i<m.length->((l.getD i 0).toNat:Int)=m.getD i 0)->m.length<=l.length->l.take m.length=m.map λx=>x.toNat.toUInt8:=λm a b=>take_of_bytes l m b a
 obtain⟨b0,e0⟩:∃x,(l.getD 0 0).toNat=x:=⟨_,rfl⟩
 obtain⟨b1,e1⟩:∃x,(l.getD 1 0).toNat=x:=⟨_,rfl⟩
 obtain⟨b2,e2⟩:∃x,(l.getD 2 0).toNat=x:=⟨_,rfl⟩
 obtain⟨b3,e3⟩:∃x,(l.getD 3 0).toNat=x:=⟨_,rfl⟩
 rw[e0,e1,e2,e3]at hbad ⊢
 rw[e0]at g0
 rw[e1]at g1
 rw[e2]at g2
 rw[e3]at g3
 clear h
 have bad:∀x:Nat × Nat,x=(65533,1)->¬ x=(65533,1)->False:=λ_ a b=>b a
 unfold decodeN at hbad ⊢
 by_cases c1:b0<128
 ·rw[if_pos c1]
  refine⟨by rw[isB_iff];omega,by omega,?_,by simp only[cand,e0],by simp only;omega⟩
  have e:=encodeRuneZ_one (r:=(b0:Int)) (by omega) (by omega)
  unfold encodeRune
  rw[e]
  refine key [(b0:Int)] ?_ (by simp;omega)
  intro i hi
  match i,hi with
  | 0,_=>rw[e0];rfl
 rw[if_neg c1]at hbad ⊢
 by_cases c2:b0 / 32=6/\(1<l.length/\b1 / 64=2)
 ·rw[if_pos c2]at hbad ⊢
  by_cases d:b0 % 32*64+b1 % 64≥128
  ·rw[if_pos d]
   refine⟨by rw[isB_iff];simp only;omega,by simp only;omega,?_,by simp only[cand,e0,e1];omega,by simp⟩
   have e:=encodeRuneZ_two (r:=((b0 % 32*64+b1 % 64:Nat):Int)) (by omega) (by omega)
   unfold encodeRune
   simp only
   rw[e]
   refine key [_,_] ?_ (by simp;omega)
   intro i hi
   match i,hi with
   | 0,_=>rw[e0];simp only[List.getD_cons_zero];omega
   | 1,_=>rw[e1];simp only[List.getD_cons_succ,List.getD_cons_zero];omega
  ·rw[if_neg d]at hbad;exact absurd rfl hbad
 rw[if_neg c2]at hbad ⊢
 by_cases c3:b0 / 16=14/\(1<l.length/\b1 / 64=2)/\(2<l.length/\b2 / 64=2)
 ·rw[if_pos c3]at hbad ⊢
  split at hbad
  ·rename_i d
   rw[if_pos d]
   refine⟨by rw[isB_iff];simp only;omega,by simp only;omega,?_,by simp only[cand,e0,e1,e2];omega,by simp⟩
   have e:=encodeRuneZ_three (r:=((b0 % 16*4096+b1 % 64*64+b2 % 64:Nat):Int)) (by omega)
   unfold encodeRune
   simp only
   rw[e]
   refine key [_,_,_] ?_ (by simp;omega)
   intro i hi
   match i,hi with
   | 0,_=>rw[e0];simp only[List.getD_cons_zero];omega
   | 1,_=>rw[e1];simp only[List.getD_cons_succ,List.getD_cons_zero];omega
   | 2,_=>rw[e2];simp only[List.getD_cons_succ,List.getD_cons_zero];omega
  ·exact absurd rfl hbad
 rw[if_neg c3]at hbad ⊢
 by_cases c4:b0 / 8=30/\(1<l.length/\b1 / 64=2)/\(2<l.length/\b2 / 64=2)/\(3<l.length/\b3 / 64=2)
 ·rw[if_pos c4]at hbad ⊢
  split at hbad
  ·rename_i d
   rw[if_pos d]
   refine⟨by rw[isB_iff];simp only;omega,by simp only;omega,?_,by simp only[cand,e0,e1,e2,e3];omega,by simp⟩
   have e:=encodeRuneZ_four (r:=((b0 % 8*262144+b1 % 64*4096+b2 % 64*64+b3 % 64:Nat):Int)) (by omega) (by omega)
   unfold encodeRune
   simp only
   rw[e]
   refine key [_,_,_,_] ?_ (by simp;omega)
   intro i hi
   match i,hi with
   | 0,_=>rw[e0];simp only[List.getD_cons_zero];omega
   | 1,_=>rw[e1];simp only[List.getD_cons_succ,List.getD_cons_zero];omega
   | 2,_=>rw[e2];simp only[List.getD_cons_succ,List.getD_cons_zero];omega
   | 3,_=>rw[e3];simp only[List.getD_cons_succ,List.getD_cons_zero];omega
  ·exact absurd rfl hbad
 rw[if_neg c4]at hbad
 exact absurd rfl hbad
def mayB:Bool->Int->Bool
 | true,n=>beginB n
 | false,n=>letterB n || decide (n=46)
def labF:Nat->Bool->List UInt8->Nat->Nat->Nat
 | 0,_,_,_,best=>best
 | f+1,start,l,at_,best =>
  if l.length=0∨(nx l).2=0 then best
  else if mayB start (nx l).1=false then best
  else labF f false (l.drop (nx l).2) (at_+(nx l).2) (if (nx l).1=46 then best else at_+(nx l).2)
def label (l:List UInt8):Nat:=labF (l.length+1) true l 0 0
theorem labF_more (f g:Nat):∀(st:Bool) (l:List UInt8) (a b:Nat),l.length<f->l.length<g->labF f st l a b=labF g st l a b:=by
 induction f generalizing g with
 | zero=>intro st l a b h;omega
 | succ f ih =>
  intro st l a b h1 h2
  cases g with
  | zero=>omega
  | succ g =>
   simp only[labF]
   split
   ·rfl
   ·rename_i h3
    split
    ·rfl
    ·rw[ih g false (l.drop (nx l).2) _ _ (by simp;omega) (by simp;omega)]
def labRest (l:List UInt8) (start:Bool) (k best:Nat):Prop:=label l=labF (l.length+1) start (l.drop k) k best
theorem labRest_start (l:List UInt8):labRest l true 0 0:=rfl
theorem labRest_end {l:List UInt8} {st:Bool} {k best:Nat} (h:labRest l st k best) (hk:l.length<=k∨(nx (l.drop k)).2=0):label l=best:=by
 unfold labRest at h
 rw[h]
 simp only[labF]
 rw[if_pos (by simp;omega)]
theorem labRest_out {l:List UInt8} {st:Bool} {k best:Nat} (h:labRest l st k best)
  (ht:mayB st (nx (l.drop k)).1=false):label l=best:=by
 unfold labRest at h
 rw[h]
 simp only[labF]
 split
 ·rfl
 ·first|rfl|rw[if_pos ht]
theorem labRest_go {l:List UInt8} {st:Bool} {k best:Nat} (h:labRest l st k best) (hk:k<l.length) (h0:(nx (l.drop k)).2≠0)
  (ht:mayB st (nx (l.drop k)).1=true) :
  labRest l false (k+(nx (l.drop k)).2) (if (nx (l.drop k)).1=46 then best else k+(nx (l.drop k)).2):=by
 unfold labRest at h ⊢
 rw[h]
 obtain⟨m,hm⟩:∃m,l.length=m+1:=⟨l.length-1,by omega⟩
 have c1:¬ ((l.drop k).length=0∨(nx (l.drop k)).2=0):=by simp only[List.length_drop];omega
 have c2:¬ mayB st (nx (l.drop k)).1=false:=by rw[ht];simp
 conv=>lhs;unfold labF
 rw[if_neg c1,if_neg c2,List.drop_drop]
 exact labF_more _ _ _ _ _ _ (by simp only[List.length_drop];omega) (by simp only[List.length_drop];omega)
def span (p:Int->Bool):List UInt8->Nat
 | []=>0
 | c::l=>if p c.toNat then span p l+1 else 0
def alnumB (c:Int):Bool:=alphaB c || digitB c
def tagF:Nat->List UInt8->Nat->Nat
 | 0,_,n=>n
 | f+1,l,n=>if 0<n/\n<l.length/\(l.getD n 0).toNat=45/\span alnumB (l.drop (n+1))≠0 then tagF f l (n+1+span alnumB (l.drop (n+1))) else n
def tag (l:List UInt8):Nat:=tagF l.length l (span alphaB l)
theorem span_le (p:Int->Bool) (l:List UInt8):span p l<=l.length:=by
 induction l with
 | nil=>simp[span]
 | cons c l ih=>simp only[span];split<;>simp<;>omega
theorem span_drop (p:Int->Bool) (l:List UInt8) (k:Nat) (hk:k<l.length) :
  span p (l.drop k)=if p (l.getD k 0).toNat then span p (l.drop (k+1))+1 else 0:=by
 rw[List.drop_eq_getElem_cons hk]
 simp only[span,List.getD_eq_getElem?_getD,List.getElem?_eq_getElem hk,Option.getD_some]
theorem span_end (p:Int->Bool) (l:List UInt8) (k:Nat) (hk:l.length<=k):span p (l.drop k)=0:=by
 rw[List.drop_eq_nil_of_le hk];rfl
theorem tagF_more (f g:Nat):∀(l:List UInt8) (n:Nat),l.length<=n+f->l.length<=n+g->tagF f l n=tagF g l n:=by
 induction f generalizing g with
 | zero =>
  intro l n h _
  cases g with
  | zero=>rfl
  | succ g=>simp only[tagF];rw[if_neg (by omega)]
 | succ f ih =>
  intro l n h1 h2
  cases g with
  | zero=>simp only[tagF];rw[if_neg (by omega)]
  | succ g =>
   simp only[tagF]
   split
   ·exact ih g l _ (by omega) (by omega)
   ·rfl
def tagRest (l:List UInt8) (n:Nat):Prop:=tag l=tagF l.length l n
theorem tagRest_out {l:List UInt8} {n:Nat} (h:tagRest l n) (ht:¬ (0<n/\n<l.length/\(l.getD n 0).toNat=45/\span alnumB (l.drop (n+1))≠0)):tag l=n:=by
 unfold tagRest at h
 rw[h]
 cases hl:l.length with
 | zero=>rfl
 | succ m=>simp only[tagF];rw[if_neg ht]
theorem tagRest_go {l:List UInt8} {n:Nat} (h:tagRest l n) (ht:0<n/\n<l.length/\(l.getD n 0).toNat=45/\span alnumB (l.drop (n+1))≠0):tagRest l (n+1+span alnumB (l.drop (n+1))):=by
 unfold tagRest at h ⊢
 rw[h]
 obtain⟨m,hm⟩:∃m,l.length=m+1:=⟨l.length-1,by omega⟩
 rw[hm]
 conv=>lhs;unfold tagF
 rw[if_pos ht]
 exact tagF_more _ _ _ _ (by omega) (by omega)
end Go.Proofs.YtoaemihcbmlkgaaGreatDoor.Um
