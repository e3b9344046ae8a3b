/- A map from texts to numbers, as it lies: lookups, numbers la -/
import Derived.Test.YtoejnneknpoanaaGreatDoorJOrdKey
set_option maxHeartbeats 8000000
set_option maxRecDepth 100000
namespace Go.Proofs.YtoejnneknpoanaaGreatDoor.Mp
open Go Go.RowKit Go.Maps Go.ChangeMaps
def bv:Nat->List (ByteArray × Int)->List MapEntry
 | _,[]=>[]
 | k,p::m=>{key:=.string p.1,val:=.int .i64 p.2,born:=k}::bv (k+1) m
def iD (m:List (ByteArray × Int)):Array MapEntry:=(bv 0 m).toArray
def dJ (w:World) (r:Nat) (m:List (ByteArray × Int)):Prop:=w.heap[r]?=some (.map (iD m) m.length)
def ba:List (ByteArray × Int)->ByteArray->Int
 | [],_=>0
 | p::m,s=>if p.1=s then p.2 else ba m s
def gB:List (ByteArray × Int)->ByteArray->Option Nat
 | [],_=>none
 | p::m,s=>if p.1=s then some 0 else (gB m s).map (· + 1)
def dQ:List (ByteArray × Int)->ByteArray->Int->List (ByteArray × Int)
 | [],s,v=>[(s,v)]
 | p::m,s,v=>if p.1=s then (s,v)::m else p::dQ m s v
theorem kt (s t:ByteArray) (v:Int):∀m:List (ByteArray × Int),ba (dQ m s v) t=if s=t then v else ba m t
 | []=>by simp[dQ,ba]
 | p::m=>by
  unfold dQ
  by_cases h:p.1=s
  ·rw[if_pos h]
   simp only[ba,h]
   by_cases h2:s=t<;>simp[h2]
  ·rw[if_neg h]
   simp only[ba]
   rw[kt s t v m]
   by_cases h2:p.1=t
   ·have:¬ s=t:=λe=>h (h2.trans e.symm)
    simp[h2,this]
   ·simp[h2]
theorem kC (s:ByteArray):∀(m:List (ByteArray × Int)) (k j:Nat),Instr.findNow .string (.string s) (bv k m) j=some ((gB m s).map λi=>(j+i,.int .i64 (ba m s)))
 | [],_,_=>rfl
 | p::m,k,j=>by
  unfold bv Instr.findNow
  simp only[Instr.sameNow]
  by_cases h:p.1=s
  ·have hb:(s == p.1)=true:=(MapKept.bytes_beq _ _).2 h.symm
   rw[hb]
   simp[gB,ba,h]
  ·have hb:(s == p.1)=false:=by
    cases hx:(s == p.1)
    ·rfl
    ·exact absurd ((MapKept.bytes_beq _ _).1 hx).symm h
   simp only[hb,gB,ba,h,if_false]
   rw[kC s m (k+1) (j+1)]
   cases gB m s with
   | none=>rfl
   | some i=>simp;omega
theorem wi:∀(m:List (ByteArray × Int)) (k i:Nat) (s:ByteArray),gB m s=some i->(bv k m)[i]?=some {key:=.string s,val:=.int .i64 (ba m s),born:=k+i}
 | [],_,_,_,h=>by cases h
 | p::m,k,i,s,h=>by
  unfold gB at h
  by_cases hp:p.1=s
  ·rw[if_pos hp]at h
   obtain rfl:0=i:=by simpa using h
   simp[bv,ba,hp]
  ·rw[if_neg hp]at h
   obtain⟨j,hj,rfl⟩:=Option.map_eq_some_iff.1 h
   simp only[bv,List.getElem?_cons_succ,ba,hp,if_false]
   rw[wi m (k+1) j s hj]
   simp;omega
theorem tj:∀(m:List (ByteArray × Int)) (k i:Nat) (s:ByteArray) (v:Int),gB m s=some i ->
  (bv k m).modify i (λe=>{e with val:=.int .i64 v})=bv k (dQ m s v)/\(dQ m s v).length=m.length
 | [],_,_,_,_,h=>by cases h
 | p::m,k,i,s,v,h=>by
  unfold gB at h
  by_cases hp:p.1=s
  ·rw[if_pos hp]at h
   obtain rfl:0=i:=by simpa using h
   simp[bv,dQ,hp]
  ·rw[if_neg hp]at h
   obtain⟨j,hj,rfl⟩:=Option.map_eq_some_iff.1 h
   obtain⟨h1,h2⟩:=tj m (k+1) j s v hj
   simp[bv,dQ,hp,List.modify_succ_cons,h1,h2]
theorem tm:∀(m:List (ByteArray × Int)) (k:Nat) (s:ByteArray) (v:Int),gB m s=none ->
  bv k (dQ m s v)=bv k m++[{key:=.string s,val:=.int .i64 v,born:=k+m.length}]/\(dQ m s v).length=m.length+1
 | [],k,s,v,_=>by simp[bv,dQ]
 | p::m,k,s,v,h=>by
  unfold gB at h
  by_cases hp:p.1=s
  ·rw[if_pos hp]at h;cases h
  ·rw[if_neg hp]at h
   obtain⟨h1,h2⟩:=tm m (k+1) s v (by simpa using h)
   simp[bv,dQ,hp,h1,h2];omega
theorem pH:∀(m:List (ByteArray × Int)) (s:ByteArray),gB m s=none->ba m s=0
 | [],_,_=>rfl
 | p::m,s,h=>by
  unfold gB at h
  by_cases hp:p.1=s
  ·rw[if_pos hp]at h;cases h
  ·rw[if_neg hp]at h
   simp only[ba,hp,if_false]
   exact pH m s (by simpa using h)
theorem kr {w:World} {r:Nat} {m:List (ByteArray × Int)} (h:dJ w r m):r<w.heap.size:=(Array.getElem?_eq_some_iff.1 h).1
theorem dJ.on {w w':World} {r:Nat} {m:List (ByteArray × Int)} (h:dJ w r m) (hb:Below w.heap.size w w'):dJ w' r m:=by
 unfold dJ;rw[hb.block r (kr h)];exact h
variable {P:Program} {T K E:TypeId}
theorem gi (hT:P.underlying T=some (.map K E)) (hK:P.underlying K=some .string) {w:World} (hz:(zeroValue E).run P w=.ok (.int .i64 0) w)
  {r:Nat} {m:List (ByteArray × Int)} (h:dJ w r m) (s:ByteArray):(Instr.lookup T (.map (some r)) (.string s) false).run P w=.ok (.int .i64 (ba m s)) w:=by
 have hc:(Instr.checkKey (iD m).isEmpty 10000 K (.string s)).run P w=.ok () w:=MapKept.run_checkKey hK (show MapKept.IsKey .string (.string s) from trivial) _ 9999
 have hf:(Instr.findKey K (.string s) (iD m).toList).run P w=.ok ((gB m s).map λi=>(0+i,.int .i64 (ba m s))) w:=MapKept.run_findKey hK (kC s m 0 0)
 have hg:(getObj r).run P w=.ok (.map (iD m) m.length) w:=MapKept.run_getObj_map h
 unfold Instr.lookup
 simp only[Sem.run_bind,run_underlying hT,Result.andThen,hg,Sem.run_pure,hc,hf]
 cases hi:gB m s with
 | none=>simp[hz,pH m s hi]
 | some i=>simp
def putM (w:World) (r:Nat) (m:List (ByteArray × Int)):World:={w with heap:=w.heap.setIfInBounds r (.map (iD m) m.length)}
theorem sk {w:World} {r:Nat} (h:r<w.heap.size) (m:List (ByteArray × Int)):dJ (putM w r m) r m:=by
 unfold dJ putM;simp[h]
theorem iw (w:World) (r:Nat) (m:List (ByteArray × Int)):w.grownBy (putM w r m) (some r):=
 ⟨rfl,rfl,rfl,by simp[putM],λk _ hne=>Array.getElem?_setIfInBounds_ne (λe:r=k=>hne (congrArg some e.symm))⟩
theorem AF (s:ByteArray) (w:World):(Instr.keyThatStays (.string s) (.string s)).run P w=.ok (.string s) w:=by
 have h:Instr.sameBits 10000 (.string s) (.string s)=true:=(MapKept.bytes_beq s s).2 rfl
 unfold Instr.keyThatStays
 rw[if_pos h];rfl
theorem nd {α:Type} (l:List α) (i:Nat) (f:α->α):l.toArray.modify i f=(l.modify i f).toArray:=by simp
theorem iS (hT:P.underlying T=some (.map K E)) (hK:P.underlying K=some .string) {w:World} {r:Nat} {m:List (ByteArray × Int)} (h:dJ w r m) (s:ByteArray) (v:Int) :
  (Instr.mapUpdate T (.map (some r)) (.string s) (.int .i64 v)).run P w=.ok () (putM w r (dQ m s v)):=by
 have hc:(Instr.checkKey false 10000 K (.string s)).run P w=.ok () w:=MapKept.run_checkKey hK (show MapKept.IsKey .string (.string s) from trivial) _ 9999
 have hf:(Instr.findKey K (.string s) (iD m).toList).run P w=.ok ((gB m s).map λi=>(0+i,.int .i64 (ba m s))) w:=MapKept.run_findKey hK (kC s m 0 0)
 have hg:(getObj r).run P w=.ok (.map (iD m) m.length) w:=MapKept.run_getObj_map h
 unfold Instr.mapUpdate
 simp only[Sem.run_bind,run_underlying hT,Result.andThen,hg,hc,hf]
 cases hi:gB m s with
 | none =>
  obtain⟨h1,h2⟩:=tm m 0 s v hi
  have e1:(iD m).push {key:=.string s,val:=.int .i64 v,born:=m.length}=iD (dQ m s v):=by
   unfold iD;rw[h1];simp
  simp only[Option.map_none,MapKept.run_setObj_map _ h,e1]
  unfold putM
  rw[h2]
 | some i =>
  have ha:=wi m 0 i s hi
  have hk:(((iD m)[0+i]?).map (·.key)).getD (.string s)=.string s:=by unfold iD;simp[ha]
  obtain⟨h1,h2⟩:=tj m 0 i s v hi
  have hm:(iD m).modify (0+i) (λe=>{e with key:=.string s,val:=.int .i64 v})=iD (dQ m s v):=by
   have e2:(bv 0 m).modify i (λe=>{e with key:=.string s,val:=.int .i64 v})=(bv 0 m).modify i (λe=>{e with val:=.int .i64 v}):=by
    apply List.ext_getElem?
    intro j
    rw[List.getElem?_modify,List.getElem?_modify]
    by_cases hj:i=j
    ·subst hj;rw[ha];simp
    ·simp[hj]
   unfold iD
   rw[nd,Nat.zero_add,e2,h1]
  simp only[Option.map_some,hk,Sem.run_bind,AF,Result.andThen,MapKept.run_setObj_map _ h,hm]
  unfold putM
  rw[h2]
theorem dD {w:World} {ops:Array Oper} {rest:List Oper} {o:Oper} {a:Act} {Q:Exit->Act->World->Prop}
  (hgd:o.guard=none) (mp x v:Operand) (T:TypeId) (hop:o.op=Op.mapUpdate T mp x v) {K E:TypeId} (hT:P.underlying T=some (.map K E)) (hK:P.underlying K=some .string)
  {r:Nat} {m:List (ByteArray × Int)} (hm:a.eval mp=.map (some r)) (h:dJ w r m) (s:ByteArray) (n:Int) (hx:a.eval x=.string s) (hv:a.eval v=.int .i64 n)
  (hQ:wpList P ops Q rest (a.put o.dst undef) (putM w r (dQ m s n))):wpList P ops Q (o::rest) a w:=by
 refine wpList_plain hgd λK' hK'=>?_
 have hrun:=iS (E:=E) (P:=P) hT hK h s n
 unfold Oper.wp
 simp[execOp,hop,hm,hx,hv,hrun,Result.andThen]
 exact hK' _ _ hQ
end Go.Proofs.YtoejnneknpoanaaGreatDoor.Mp
namespace Go.Proofs.YtoejnneknpoanaaGreatDoor
open Go Go.RowKit Um Fm Tx
theorem dE {a b:Tm}:bm a b=true↔a=b:=by
 obtain⟨k,x,l,y⟩:=a
 obtain⟨k',x',l',y'⟩:=b
 unfold bm
 simp only[Bool.and_eq_true,beq_iff_eq,Tm.mk.injEq,ByteArray.toList_eq]
 constructor
 ·rintro⟨⟨⟨h1,h2⟩,h3⟩,h4⟩
  exact⟨h1,cm h2,cm h3,cm h4⟩
 ·rintro⟨rfl,rfl,rfl,rfl⟩
  exact⟨⟨⟨rfl,rfl⟩,rfl⟩,rfl⟩
open Om Mp
instance decTm:DecidableEq Tm:=λ_ _=>decidable_of_iff _ dE
theorem vR:Tryz.prog.underlying 137=some (.map 9 3):=by kernel_rfl
theorem vS:Tryz.prog.underlying 9=some .string:=by kernel_rfl
theorem Ds (w:World):(zeroValue 3).run Tryz.prog w=.ok (.int .i64 0) w:=by kernel_rfl
def eU (r:List Tm):ByteArray:=⟨(dx r).toArray⟩
theorem AG {a b:List Tm} (h:eU a=eU b):a=b:=by
 apply sR
 have:=congrArg (λx:ByteArray=>x.data.toList) h
 simpa[eU] using this
def BC (r:Nat) (m:List (ByteArray × Int)) (s:ByteArray) (w:World) (e:Ending) (w':World):Prop:=
 e=.returned (.bool (decide (0<ba m s)))/\∃w2,Below w.heap.size w w2/\w'=putM w2 r (dQ m s (ba m s+1))
theorem zM (row:List Tm) (A:Option Addr) (c n r:Nat) (m:List (ByteArray × Int)) (mb:Nat) (w:World) (hn:row.length=n) (hl:n<=1000000) (hP:eD w) (hr:RdTs w A row) (hz:∀t∈row,keyTm t)
  (hp:w.cell? ⟨mb,0,none⟩=some (.map (some r))) (hM:dJ w r m) (hm:0<=ba m (eU row)/\ba m (eU row)<=1000000) (hne:mb≠r) :
  Calls Tryz.prog 99 #[.slice A n c,.pointer (some ⟨mb,0,none⟩)] w (BC r m (eU row) w):=by
 have hK:=Eb row A c n w hn hl hP hr hz
 change Calls _ _ _ _ (λe w'=>e=.returned (.string (eU row))/\Below w.heap.size w w') at hK
 generalize eU row=s at *
 have HM:=Lib.hid hM
 have hmb:=ae hp
 clear hn hr hz hP hM
 go_enter Tryz.func99,Tryz.ntmps99
 go_wp2_with fail
 refine hK.mono ?_
 rintro e w2 ⟨rfl,hb2⟩
 have hp2:=ab hp hb2
 have hM2:=HM.out.on hb2
 have hrr:=kr hM2
 have hl1:=gi (P:=Tryz.prog) vR vS (Ds w2) hM2 s
 have hM3:=sk hrr (dQ m s (ba m s+1))
 have hp3:(putM w2 r (dQ m s (ba m s+1))).cell? ⟨mb,0,none⟩=some (.map (some r)):=by
  rw[(iw w2 r _).cell_far _ (ae hp2) (λe=>by injection e with e;exact hne e)];exact hp2
 have hl2:=gi (P:=Tryz.prog) vR vS (Ds _) hM3 s
 rw[kt,if_pos rfl]at hl2
 have HF:Hid (BC r m s w (.returned (.bool (decide (0<ba m s)))) (putM w2 r (dQ m s (ba m s+1)))):=⟨rfl,w2,hb2,rfl⟩
 obtain⟨hv0,hv1⟩:=hm
 generalize ba m s=v at *
 obtain⟨W2,hW2⟩:∃W,putM w2 r (dQ m s (v+1))=W:=⟨_,rfl⟩
 rw[hW2]at hp3 hl2 HF
 have HW2:=Lib.hid hW2
 clear hW2 hK hM3 hb2 hp
 cases hpos:decide (0<v)
 ·have hd:decide (1<v+1)=false:=by simp at hpos ⊢;omega
  rw[hpos]at HF
  clear hpos
  go_wp2_with (at_mapUpdate;refine dD rfl _ _ _ _ rfl vR vS rfl hM2 s (v+1) rfl rfl ?_;rw[HW2.out])
  go_ret
  exact HF.out
 ·have hd:decide (1<v+1)=true:=by simp at hpos ⊢;omega
  rw[hpos]at HF
  clear hpos
  go_wp2_with (at_mapUpdate;refine dD rfl _ _ _ _ rfl vR vS rfl hM2 s (v+1) rfl rfl ?_;rw[HW2.out])
  go_ret
  exact HF.out
def WkG (base b g:Nat) (va vr:Value) (vars:List ByteArray) (qc vs:List Value) (rows:List (List Tm)) (W:World):Prop:=
 W.heap[b]?=some (Obj.cells (va::vr::qc).toArray 110 (0,0))/\W.ownsRow base 9 1 va vars.length (vars.map Value.string)/\All 1 (OwnRow base W) vs rows/\∃cur,W.heap[g]?=some (Obj.cells cur 59 (0,0))
section
variable {base b g:Nat} {va vr:Value} {vars:List ByteArray} {qc vs:List Value} {rows:List (List Tm)} {W W':World}
theorem WkG.on (h:WkG base b g va vr vars qc vs rows W) (hb:Below W.heap.size W W'):WkG base b g va vr vars qc vs rows W':=by
 obtain⟨h1,h2,h3,cur,h4⟩:=h
 exact⟨KeepT.below hb _ _ _ h1,own_keep h2 (KeepT.below hb),h3.mono λ_ _ _ x=>x.keep (KeepT.below hb),cur,KeepT.below hb _ _ _ h4⟩
theorem WkG.keep (h:WkG base b g va vr vars qc vs rows W) (hk:∀e,e≠59->KeepT e W W') (hg:∃cur,W'.heap[g]?=some (Obj.cells cur 59 (0,0))):WkG base b g va vr vars qc vs rows W':=by
 obtain⟨h1,h2,h3,cur,h4⟩:=h
 exact⟨hk _ (by decide) _ _ _ h1,own_keep h2 (hk _ (by decide)),h3.mono λ_ _ _ x=>x.keep (hk _ (by decide)),hg⟩
theorem WkG.setCell (h:WkG base b g va vr vars qc vs rows W) (i:Nat) (v:Value):WkG base b g va vr vars qc vs rows (W.setCell ⟨g,i,none⟩ v):=by
 obtain⟨cur,h4⟩:=h.2.2.2
 exact h.keep (λe he=>KeepT.setCell h4 (λx=>he x.symm)) ⟨_,aU h4 i v⟩
theorem WkG.setCells (h:WkG base b g va vr vars qc vs rows W):∀(us:List Value) (o:Nat),WkG base b g va vr vars qc vs rows (W.setCells g o us):=by
 intro us
 induction us generalizing W with
 | nil=>intro o;exact h
 | cons u us ih=>intro o;rw[World.setCells];exact ih (h.setCell o u) (o+1)
theorem KeepT.putM (W:World) (r:Nat) (m m':List (ByteArray × Int)) (hM:dJ W r m) (e:TypeId):KeepT e W (putM W r m'):=λk cur fr x=>by
 have hne:k≠r:=λh=>by
  subst h
  unfold dJ at hM
  rw[hM]at x;cases x
 rw[(iw W r m').block k (Array.getElem?_eq_some_iff.1 x).1 (λh=>hne (by injection h))];exact x
theorem WkG.putM (h:WkG base b g va vr vars qc vs rows W) {r:Nat} {m:List (ByteArray × Int)} (hM:dJ W r m) (m':List (ByteArray × Int)):WkG base b g va vr vars qc vs rows (putM W r m'):=by
 obtain⟨cur,h4⟩:=h.2.2.2
 exact h.keep (λe _=>KeepT.putM W r m m' hM e) ⟨cur,KeepT.putM W r m m' hM _ _ _ _ h4⟩
end
theorem bM.of_own {base n:Nat} {v:Value} {xs:List Value} {w:World} (h:w.ownsRow base 59 1 v n xs):(v=.slice none 0 0/\n=0/\xs=[])∨∃g cap rest,v=.slice (some ⟨g,0,none⟩) n cap/\base<=g/\bM g xs rest w/\n<=cap/\cap<=maxLen/\xs.length=n/\n+rest.length=cap:=by
 have hl:=h.1
 rw[Nat.mul_one]at hl
 rcases h.2 with ⟨rfl,h0⟩|⟨g,cap,cur,rfl,hg,hh,hn,hm,hs,ht⟩
 ·subst h0
  exact .inl ⟨rfl,rfl,List.eq_nil_of_length_eq_zero hl⟩
 ·refine .inr ⟨g,cap,cur.toList.drop n,rfl,hg,?_,hn,hm,hl,by rw[List.length_drop,Array.length_toList,hs];omega⟩
  unfold bM
  rw[Nat.mul_one]at ht
  rw[←ht,List.take_append_drop,Array.toArray_toList]
  exact hh
theorem bM.own {base g cap n:Nat} {xs rest:List Value} {w:World} (h:bM g xs rest w) (hb:base<=g) (hn:xs.length=n) (hc:n+rest.length=cap) (hm:cap<=maxLen):w.ownsRow base 59 1 (.slice (some ⟨g,0,none⟩) n cap) n xs:=by
 refine⟨by omega,.inr ⟨g,cap,_,rfl,hb,h,by omega,hm,by simp;omega,?_⟩⟩
 rw[Nat.mul_one,←hn,List.take_left' rfl]
theorem All.kept {R:List Value->List Tm->Prop} {b:Nat->Bool} {vs:List Value} {rows:List (List Tm)} (h:All 1 R vs rows):∀k,k<=rows.length->All 1 R (aI b vs k) (aI b rows k)
 | 0,_=>rfl
 | k+1,hk=>by
  have ih:=h.kept (b:=b) k (by omega)
  unfold aI
  split
  ·exact ih
  ·obtain⟨r,hr⟩:∃r,rows[k]?=some r:=⟨_,List.getElem?_eq_getElem (by omega)⟩
   obtain⟨cs,hc,hR,hx⟩:=h.at_ hr
   match cs,hc with
   | [v],_ =>
    have hv:=hx 0 v rfl
    rw[Nat.mul_one,Nat.add_zero]at hv
    rw[hr,hv]
    exact ih.append (All.one rfl hR)
theorem wl (F:Nat) (cb:Array Value) (eg:∀args w,(callFunc F args).run Tryz.prog w=.ok (.enter F args) w) (w:World) :
  Calls Tryz.prog 87 #[.slice none 0 0,.func (.func F) #[] cb] w λe w'=>e=.returned (.slice none 0 0)/\w=w':=by
 have hI:=qP F cb eg (λ_=>false) (λ_ W=>w=W) [] 0 none 0 w rfl (by omega) (λk W _=>RdL.nil _ _ _ _) (λk row W A' c' h=>by simp at h) rfl
 go_enter Tryz.func87,Tryz.ntmps87
 go_wp2_with fail
 refine hI.mono ?_
 intro e w1 hD
 rcases hD with ⟨rfl,h1,h2⟩|⟨k,hk,_⟩
 ·subst h2
  clear h1 hI
  go_wp2
  go_ret
  exact⟨rfl,rfl⟩
 ·omega
def DC (W0:World) (b g r mb:Nat) (va vr:Value) (vars:List ByteArray) (qc vs:List Value) (rows:List (List Tm)) (k:Nat) (W:World):Prop:=
 ∃m,dJ W r m/\W.heap[mb]?=some (Obj.cells #[.map (some r)] 137 (0,0))/\(∀x,0<=ba m x/\ba m x<=k/\(0<ba m x↔∃q∈rows.take k,eU q=x)) /\
  WkG W0.heap.size b g va vr vars qc vs rows W/\Below W0.heap.size W0 W
theorem sx {rows:List (List Tm)} {k:Nat} {row:List Tm} {m:List (ByteArray × Int)} (hrow:rows[k]?=some row) (h:∀x,0<=ba m x/\ba m x<=k/\(0<ba m x↔∃q∈rows.take k,eU q=x)) (x:ByteArray) :
  0<=ba (dQ m (eU row) (ba m (eU row)+1)) x/\ba (dQ m (eU row) (ba m (eU row)+1)) x<=(k+1:Nat)/\(0<ba (dQ m (eU row) (ba m (eU row)+1)) x↔∃q∈rows.take (k+1),eU q=x):=by
 rw[kt,ai hrow]
 have h1:=h x
 have h2:=h (eU row)
 by_cases e:eU row=x
 ·rw[if_pos e]
  refine⟨by omega,by omega,λ_=>⟨row,by simp,e⟩,λ_=>by omega⟩
 ·rw[if_neg e]
  refine⟨h1.1,by omega,h1.2.2.trans ⟨λ⟨q,hq,he⟩=>⟨q,by simp[hq],he⟩,λ⟨q,hq,he⟩=>?_⟩⟩
  rcases List.mem_append.1 hq with hq|hq
  ·exact⟨q,hq,he⟩
  ·simp only[List.mem_cons,List.not_mem_nil,or_false]at hq
   subst hq;exact absurd he e
def en (r:List Tm):Prop:=r.length<=1000000/\∀t∈r,keyTm t
def cn (W0:World) (b:Nat) (vars:List ByteArray) (rows:List (List Tm)) (qc:List Value) (n:Int) (e:Ending) (w':World):Prop:=
 e=.returned (.int .i64 n)/\cD W0.heap.size w' b vars rows qc/\Below W0.heap.size W0 w'
theorem cD.on {base b:Nat} {w w':World} {vars:List ByteArray} {rows:List (List Tm)} {qc:List Value} (h:cD base w b vars rows qc) (hb:Below w.heap.size w w'):cD base w' b vars rows qc:=by
 obtain⟨h0,va,vr,h1,h2,h3⟩:=h
 exact⟨h0,va,vr,KeepT.below hb _ _ _ h1,own_keep h2 (KeepT.below hb),h3.keep (KeepT.below hb) (KeepT.below hb)⟩
theorem lY {base b:Nat} {W:World} {va vr vr':Value} {vars:List ByteArray} {rows:List (List Tm)} {qc:List Value} (hb:base<=b) (h1:W.heap[b]?=some (Obj.cells (va::vr::qc).toArray 110 (0,0))) (h2:W.ownsRow base 9 1 va vars.length (vars.map Value.string)) (h3:OwnRs base W vr' rows) :
  cD base (W.setCell ⟨b,1,none⟩ vr') b vars rows qc:=by
 have hk:∀e,110≠e->KeepT e W (W.setCell ⟨b,1,none⟩ vr'):=λe he=>KeepT.setCell h1 he
 refine⟨hb,va,vr',?_,own_keep h2 (hk _ (by decide)),h3.keep (hk _ (by decide)) (hk _ (by decide))⟩
 have:=aU h1 1 vr'
 simpa using this
theorem vM (W0:World) (hP:eD W0) (b:Nat) (vars:List ByteArray) (rows:List (List Tm)) (qc:List Value) (w:World) (hB:Below W0.heap.size W0 w) (hW:cD W0.heap.size w b vars rows qc) (hz:∀r∈rows,en r) (hl:rows.length<=1000000) :
  Calls Tryz.prog 61 #[.pointer (some ⟨b,0,none⟩)] w (cn W0 b vars (aS rows) qc 0):=by
 have eg:∀args w,(callFunc 99 args).run Tryz.prog w=.ok (.enter 99 args) w:=enters_of Tryz.func99 (by kernel_rfl) rfl
 have hmm:=@run_makeMap Tryz.prog
 obtain⟨hbb,va,vr,hblk,hva,xs,hown,hall⟩:=hW
 obtain⟨n,hn⟩:∃n,rows.length=n:=⟨_,rfl⟩
 rw[hn]at hown hl
 have hlt:b<w.heap.size:=(Array.getElem?_eq_some_iff.1 hblk).1
 rcases bM.of_own hown with ⟨rfl,rfl,rfl⟩|⟨g,cap,rest,rfl,hbg,hV,hnc,hcm,hxn,hrc⟩
 ·obtain rfl:rows=[]:=List.eq_nil_of_length_eq_zero hn
  have c1:w.cell? ⟨b,1,none⟩=some (.slice none 0 0):=by simp[World.cell?,hblk]
  have f1:w.frozen? ⟨b,1,none⟩=false:=by simp[World.frozen?,hblk]
  have H:=Lib.hid (And.intro hbb (And.intro hblk (And.intro hva (And.intro hown hB))))
  have hD:=λmb W=>wl 99 #[.pointer (some ⟨mb,0,none⟩)] eg W
  clear hbb hblk hva hown hB hall hn hz hP
  go_enter Tryz.func61,Tryz.ntmps61
  go_wp2_with (go_at_call 87;refine(hD _ _).mono ?_;rintro e w1 ⟨rfl,rfl⟩)
  have hF:cD W0.heap.size (w.setCell ⟨b,1,none⟩ (.slice none 0 0)) b vars (aS []) qc:=lY H.out.1 H.out.2.1 H.out.2.2.1 (OwnRs.nil _ _)
  have HF:=Lib.hid hF
  have hbb:=H.out.1
  have hsz:=H.out.2.2.2.2.size
  clear hF
  go_ret
  refine⟨rfl,(HF.out.on ((Below.refl _ _).alloc (Nat.le_refl _) _)).on ((Below.refl _ _).alloc (Nat.le_refl _) _),?_⟩
  exact((H.out.2.2.2.2.setCell (p:=⟨b,1,none⟩) hbb _).alloc (by simpa using hsz) _).alloc (by simp;omega) _
 ·have c1:w.cell? ⟨b,1,none⟩=some (.slice (some ⟨g,0,none⟩) n cap):=by simp[World.cell?,hblk]
  have hal:Below w.heap.size w ((w.alloc (.map #[] 0)).alloc (.cells #[.map (some w.heap.size)] 137)):=blw
  have hglt:=hV.lt
  have hS0:DC W0 b g w.heap.size (w.heap.size+1) va (.slice (some ⟨g,0,none⟩) n cap) vars qc xs rows 0 ((w.alloc (.map #[] 0)).alloc (.cells #[.map (some w.heap.size)] 137)):=by
   refine⟨[],?_,?_,λx=>⟨by simp[ba],by simp[ba],by simp[ba]⟩,WkG.on ⟨hblk,hva,hall,_,hV⟩ hal,hB.trans (hal.mono hB.size)⟩
   ·exact aj w _ _
   ·exact ah w _ _
  have hD:=wk 99 #[.pointer (some ⟨w.heap.size+1,0,none⟩)] eg (λk=>((rows[k]?).map λq=>decide (q∈rows.take k)).getD false) (DC W0 b g w.heap.size (w.heap.size+1) va (.slice (some ⟨g,0,none⟩) n cap) vars qc xs rows) rows xs rest g n cap rest.length _ hn hxn rfl (by omega) hnc
   (λk W h=>by
    obtain⟨m,_,_,_,hG,_⟩:=h
    exact hG.2.2.1.mono λ_ _ _ x=>x.rd)
   (λk W i v h=>by
    obtain⟨m,h1,h2,h3,h4,h5⟩:=h
    obtain⟨cur,h6⟩:=h4.2.2.2
    have hne:g≠w.heap.size:=by omega
    refine⟨m,?_,KeepT.setCell h6 (by decide) _ _ _ h2,h3,h4.setCell i v,h5.setCell (p:=⟨g,i,none⟩) hbg _⟩
    unfold dJ
    rw[Below.heap_setCell _ _ _ _ (λe=>hne e.symm)];exact h1)
   (λk W o us h=>by
    obtain⟨m,h1,h2,h3,h4,h5⟩:=h
    have hne:g≠w.heap.size:=by omega
    have hne2:g≠w.heap.size+1:=by omega
    refine⟨m,?_,?_,h3,h4.setCells us o,h5.trans (below_setCells hbg us o W)⟩
    ·unfold dJ
     rw[bD hne];exact h1
    ·rw[bD hne2];exact h2)
   (λk row W A' c' us hrow h hU hle hrd=>by
    obtain⟨m,h1,h2,h3,h4,h5⟩:=h
    have hzr:=hz row (List.mem_of_getElem? hrow)
    have hk:k<n:=by rw[←hn];exact(List.getElem?_eq_some_iff.1 hrow).1
    refine(zM row A' c' row.length w.heap.size m (w.heap.size+1) W rfl hzr.1 (hP.step h5) hrd hzr.2 (by rw[Lib.cell_of_heap h2];rfl) h1 ⟨(h3 _).1,by have:=(h3 (eU row)).2.1;omega⟩ (by omega)).mono ?_
    rintro e W' ⟨rfl,w2,hb2,rfl⟩
    have hM2:=h1.on hb2
    have hrr:=kr hM2
    refine⟨?_,⟨_,sk hrr _,?_,sx hrow h3,(h4.on hb2).putM hM2 _,?_⟩,?_⟩
    ·congr 2
     rw[hrow]
     show decide _=decide _
     rw[decide_eq_decide,(h3 (eU row)).2.2]
     exact⟨λ⟨q,hq,he⟩=>(AG he) ▸ hq,λhq=>⟨row,hq,rfl⟩⟩
    ·exact KeepT.putM _ _ _ _ hM2 _ _ _ _ (KeepT.below hb2 _ _ _ h2)
    ·exact(h5.trans (hb2.mono h5.size)).grown (iw _ _ _) (by have:=hb2.size;have:=h5.size;omega) (λq e=>by injection e with e;have:=hB.size;omega)
    ·exact KeepT.putM _ _ _ _ hM2 _ _ _ _ (KeepT.below hb2 _ _ _ hU))
   hS0 (KeepT.below hal _ _ _ hV)
  have hko:=pK (b:=λk=>((rows[k]?).map λq=>decide (q∈rows.take k)).getD false) (l:=rows) (λk x hx=>by simp[hx]) n (by omega)
  rw[List.take_of_length_le (by omega)]at hko
  have H:=Lib.hid (And.intro hbb (And.intro hcm (And.intro hrc (And.intro hbg (And.intro hko hn)))))
  clear hbb hblk hva hown hB hall hn hz hP hS0 hV hcm hrc hko hal hxn
  go_enter Tryz.func61,Tryz.ntmps61
  go_wp2_with fail
  refine hD.mono ?_
  rintro e w9 ⟨rest',rfl,hV',hlen,hS⟩
  obtain⟨m,_,_,_,hG,hB9⟩:=hS
  have c9:w9.cell? ⟨b,1,none⟩=some (.slice (some ⟨g,0,none⟩) n cap):=by simp[World.cell?,hG.1]
  have f9:w9.frozen? ⟨b,1,none⟩=false:=by simp[World.frozen?,hG.1]
  have hko:=H.out.2.2.2.2.1
  have hall:=hG.2.2.1.kept (b:=λk=>((rows[k]?).map λq=>decide (q∈rows.take k)).getD false) n (by rw[H.out.2.2.2.2.2];exact Nat.le_refl _)
  rw[hko]at hall
  generalize aI (λk=>((rows[k]?).map λq=>decide (q∈rows.take k)).getD false) xs n=ys at *
  have hyl:=hall.len
  obtain⟨n2,hn2⟩:∃n2,ys.length=n2:=⟨_,rfl⟩
  rw[hn2]at hlen hyl ⊢
  have hrs:OwnRs W0.heap.size w9 (.slice (some ⟨g,0,none⟩) n2 cap) (aS rows):=⟨ys,by rw[show (aS rows).length=n2 by omega];exact hV'.own hbg hn2 (by have:=H.out.2.2.1;omega) H.out.2.1,hall⟩
  have HF:Hid (cn W0 b vars (aS rows) qc 0 (.returned (.int .i64 0)) (w9.setCell ⟨b,1,none⟩ (.slice (some ⟨g,0,none⟩) n2 cap))):=
   ⟨rfl,lY H.out.1 hG.1 hG.2.1 hrs,hB9.setCell (p:=⟨b,1,none⟩) H.out.1 _⟩
  clear hV' hlen hG hB9 hko hall hyl hrs hn2 hD c1
  go_wp2
  go_ret
  exact HF.out
theorem so (W0:World) (hP:eD W0) (b:Nat) (vars:List ByteArray) (rows:List (List Tm)) (dist:Bool) (q0:Value) (qr:List Value) (w:World) (hB:Below W0.heap.size W0 w) (hW:cD W0.heap.size w b vars rows (q0 :: .bool dist::qr)) (hz:∀r∈rows,en r) (hl:rows.length<=1000000) :
  Calls Tryz.prog 75 #[.pointer (some ⟨b,0,none⟩)] w (cn W0 b vars (if dist then aS rows else rows) (q0 :: .bool dist::qr) 0):=by
 have hO:=vM W0 hP b vars rows _ w hB hW hz hl
 have c3:w.cell? ⟨b,3,none⟩=some (.bool dist):=by
  obtain⟨_,va,vr,h1,_⟩:=hW
  simp[World.cell?,h1]
 have H:=Lib.hid (And.intro hW hB)
 clear hW hB hP hz
 cases dist
 ·go_enter Tryz.func75,Tryz.ntmps75
  go_wp2
  go_ret
  exact⟨rfl,H.out⟩
 ·go_enter Tryz.func75,Tryz.ntmps75
  go_wp2_with (go_at_call 61;refine hO.mono ?_;rintro e w1 ⟨rfl,h1⟩;have H1:=Lib.hid h1;clear h1 hO)
  go_ret
  exact⟨rfl,H1.out⟩
open Go.Sort
namespace Sy
variable {α:Type} [Inhabited α] {lt:α->α->Bool}
def Ex (d D:Array α) (a b n:Nat):Prop:=
 D.size=d.size/\(∀k,a<=k->k<a+n->D[k]! = d[k+(b-a)]!)/\(∀k,b<=k->k<b+n->D[k]! = d[k-(b-a)]!) /\
  ∀k,(k<a∨a+n<=k)->(k<b∨b+n<=k)->D[k]! = d[k]!
theorem CW (d:Array α) (a b:Nat):Ex d d a b 0:=
 ⟨rfl,λ_ _ _=>by omega,λ_ _ _=>by omega,λ_ _ _=>rfl⟩
theorem CX {d D:Array α} {a b n:Nat} (h:Ex d D a b n) (hab:a+n<b) (hb:b+n<d.size) :
  Ex d (swp D (a+n) (b+n)) a b (n+1):=by
 obtain⟨h0,h1,h2,h3⟩:=h
 have g:=swp_get D (show a+n<D.size by omega) (show b+n<D.size by omega)
 refine⟨by rw[swp_size,h0],λk k1 k2=>?_,λk k1 k2=>?_,λk k1 k2=>?_⟩
 ·rw[g]
  by_cases e:k=a+n
  ·subst e
   rw[if_neg (by omega),if_pos rfl,h3 _ (by omega) (by omega),show a+n+(b-a)=b+n by omega]
  ·rw[if_neg (by omega),if_neg e,h1 k k1 (by omega)]
 ·rw[g]
  by_cases e:k=b+n
  ·subst e
   rw[if_pos rfl,h3 _ (by omega) (by omega),show b+n-(b-a)=a+n by omega]
  ·rw[if_neg e,if_neg (by omega),h2 k k1 (by omega)]
 ·rw[g,if_neg (by omega),if_neg (by omega),h3 k (by omega) (by omega)]
def Rot (d D:Array α) (s m e:Nat):Prop:=
 D.size=d.size/\(∀k,s<=k->k<s+(e-m)->D[k]! = d[k+(m-s)]!)/\(∀k,s+(e-m)<=k->k<e->D[k]! = d[k-(e-m)]!) /\
  ∀k,k<s∨e<=k->D[k]! = d[k]!
theorem iT {d:Array α} {s m e:Nat} (h:s=m∨m=e) (h1:s<=m) (h2:m<=e):Rot d d s m e:=by
 refine⟨rfl,λk k1 k2=>?_,λk k1 k2=>?_,λ_ _=>rfl⟩
 ·rw[show k+(m-s)=k by omega]
 ·rw[show k-(e-m)=k by omega]
theorem ze {d D:Array α} {m i:Nat} (hi:i<=m) (h:Ex d D (m-i) m i):Rot d D (m-i) m (m+i):=by
 obtain⟨h0,h1,h2,h3⟩:=h
 refine⟨h0,λk k1 k2=>h1 k k1 (by omega),λk k1 k2=>?_,λk k1=>h3 k (by omega) (by omega)⟩
 rw[h2 k (by omega) k2,show k-(m+i-m)=k-(m-(m-i)) by omega]
theorem zh {d d1 D:Array α} {m i j:Nat} (hi:i<=m) (hj:j<i) (h:Ex d d1 (m-i) m j) (h':Rot d1 D (m-(i-j)) m (m+j)) :
  Rot d D (m-i) m (m+j):=by
 obtain⟨h0,h1,h2,h3⟩:=h
 obtain⟨r0,r1,r2,r3⟩:=h'
 refine⟨by omega,λk k1 k2=>?_,λk k1 k2=>?_,λk k1=>?_⟩
 ·rw[r3 k (by omega),h1 k k1 (by omega)]
 ·by_cases e:k<m-(i-j)+(m+j-m)
  ·rw[r1 k (by omega) e,h2 _ (by omega) (by omega)]
   congr 1
   omega
  ·rw[r2 k (by omega) k2,h3 _ (by omega) (by omega)]
 ·rw[r3 k (by omega),h3 k (by omega) (by omega)]
theorem xe {d d1 D:Array α} {m i j:Nat} (hi:i<=m) (hj:i<j) (h:Ex d d1 (m-i) (m+j-i) i) (h':Rot d1 D (m-i) m (m+(j-i))) :
  Rot d D (m-i) m (m+j):=by
 obtain⟨h0,h1,h2,h3⟩:=h
 obtain⟨r0,r1,r2,r3⟩:=h'
 refine⟨by omega,λk k1 k2=>?_,λk k1 k2=>?_,λk k1=>?_⟩
 ·by_cases e:k<m-i+(m+(j-i)-m)
  ·rw[r1 k k1 e]
   exact h3 _ (by omega) (by omega)
  ·rw[r2 k (by omega) (by omega),h1 _ (by omega) (by omega)]
   congr 1
   omega
 ·rw[r3 k (by omega),h2 k (by omega) (by omega)]
  congr 1
  omega
 ·rw[r3 k (by omega),h3 k (by omega) (by omega)]
theorem zX (hS:SWO lt) {d D:Array α} {a b i:Nat} (hs:SortedIn lt (a+1) b d) (h1:a+1<=i) (h2:i<=b)
  (f1:i=a+1∨lt d[i-1]! d[a]! = true) (f2:i=b∨lt d[i]! d[a]! = false) (h:Rot d D a (a+1) i):SortedIn lt a b D:=by
 obtain⟨r0,r1,r2,r3⟩:=h
 intro p q k1 k2 k3
 by_cases c1:q<i-1
 ·rw[r1 q (by omega) (by omega),r1 p k1 (by omega)]
  exact hs _ _ (by omega) (by omega) (by omega)
 by_cases c2:q=i-1
 ·rw[r2 q (by omega) (by omega),r1 p k1 (by omega),show q-(i-(a+1))=a by omega,show p+(a+1-a)=p+1 by omega]
  cases hl:lt d[a]! d[p+1]! with
  | false=>rfl
  | true =>
   rcases f1 with f1|f1
   ·omega
   ·have t:=hS.trans _ _ _ f1 hl
    by_cases e:p+1=i-1
    ·rw[←e,hS.irrefl]at t
     cases t
    ·rw[hs (p+1) (i-1) (by omega) (by omega) (by omega)]at t
     cases t
 rw[r3 q (by omega)]
 by_cases c3:p<i-1
 ·rw[r1 p k1 (by omega)]
  exact hs _ _ (by omega) (by omega) k3
 by_cases c4:p=i-1
 ·rw[r2 p (by omega) (by omega),show p-(i-(a+1))=a by omega]
  rcases f2 with f2|f2
  ·omega
  ·by_cases e:q=i
   ·rw[e]
    exact f2
   ·exact hS.ntrans _ _ _ (hs i q (by omega) (by omega) k3) f2
 rw[r3 p (by omega)]
 exact hs _ _ (by omega) k2 k3
theorem xC (hS:SWO lt) {d D:Array α} {a m i:Nat} (hs:SortedIn lt a m d) (h1:a<=i) (h2:i<=m)
  (f1:i=a∨lt d[m]! d[i-1]! = false) (f2:i=m∨lt d[m]! d[i]! = true) (h:Rot d D i m (m+1)):SortedIn lt a (m+1) D:=by
 obtain⟨r0,r1,r2,r3⟩:=h
 intro p q k1 k2 k3
 by_cases c1:q<i
 ·rw[r3 q (by omega),r3 p (by omega)]
  exact hs _ _ k1 k2 (by omega)
 by_cases c2:q=i
 ·rw[r1 q (by omega) (by omega),r3 p (by omega),show q+(m-i)=m by omega]
  rcases f1 with f1|f1
  ·omega
  ·by_cases e:p=i-1
   ·rw[e]
    exact f1
   ·exact hS.ntrans _ _ _ f1 (hs p (i-1) k1 (by omega) (by omega))
 rw[r2 q (by omega) k3]
 by_cases c3:p<i
 ·rw[r3 p (by omega)]
  exact hs _ _ k1 (by omega) (by omega)
 by_cases c4:p=i
 ·rw[r1 p (by omega) (by omega),show p+(m-i)=m by omega]
  have asm:lt d[i]! d[m]! = false:=by
   rcases f2 with f2|f2
   ·omega
   ·exact hS.asymmA f2
  by_cases e:q-(m+1-m)=i
  ·rw[e]
   exact asm
  ·exact hS.ntrans _ _ _ (hs i _ h1 (by omega) (by omega)) asm
 rw[r2 p (by omega) (by omega)]
 exact hs _ _ (by omega) (by omega) (by omega)
theorem wV (hS:SWO lt) {d D:Array α} {a s mid m e b:Nat} (hl:SortedIn lt a m d) (hr:SortedIn lt m b d)
  (h1:a<=s) (h2:s<=m) (h3:m<=e) (h4:e<=b) (hm:s+(e-m)=mid)
  (f1:s=a∨e=b∨lt d[e]! d[s-1]! = false) (f2:s=m∨e=m∨lt d[e-1]! d[s]! = true) (h:Rot d D s m e) :
  SortedIn lt a s D/\SortedIn lt s mid D/\SortedIn lt mid e D/\SortedIn lt e b D /\
   ∀p q,a<=p->p<mid->mid<=q->q<b->lt D[q]! D[p]! = false:=by
 obtain⟨r0,r1,r2,r3⟩:=h
 refine⟨λp q k1 k2 k3=>?_,λp q k1 k2 k3=>?_,λp q k1 k2 k3=>?_,λp q k1 k2 k3=>?_,λp q k1 k2 k3 k4=>?_⟩
 ·rw[r3 q (by omega),r3 p (by omega)]
  exact hl _ _ k1 k2 (by omega)
 ·rw[r1 q (by omega) (by omega),r1 p k1 (by omega)]
  exact hr _ _ (by omega) (by omega) (by omega)
 ·rw[r2 q (by omega) k3,r2 p (by omega) (by omega)]
  exact hl _ _ (by omega) (by omega) (by omega)
 ·rw[r3 q (by omega),r3 p (by omega)]
  exact hr _ _ (by omega) k2 k3
 ·by_cases c1:p<s
  ·rw[r3 p (by omega)]
   by_cases c2:q<e
   ·rw[r2 q (by omega) c2]
    exact hl _ _ k1 (by omega) (by omega)
   ·rw[r3 q (by omega)]
    have f:lt d[e]! d[s-1]! = false:=by
     rcases f1 with f|f|f
     ·omega
     ·omega
     ·exact f
    have g:lt d[e]! d[p]! = false:=by
     by_cases c:p=s-1
     ·rw[c]
      exact f
     ·exact hS.ntrans _ _ _ f (hl p (s-1) k1 (by omega) (by omega))
    by_cases c:q=e
    ·rw[c]
     exact g
    ·exact hS.ntrans _ _ _ (hr e q h3 (by omega) k4) g
  ·rw[r1 p (by omega) (by omega)]
   by_cases c2:q<e
   ·rw[r2 q (by omega) c2]
    have f:lt d[s]! d[e-1]! = false:=by
     rcases f2 with f|f|f
     ·omega
     ·omega
     ·exact hS.asymmA f
    have g:lt d[s]! d[p+(m-s)]! = false:=by
     by_cases c:p+(m-s)=e-1
     ·rw[c]
      exact f
     ·exact hS.ntrans _ _ _ f (hr _ (e-1) (by omega) (by omega) (by omega))
    by_cases c:q-(e-m)=s
    ·rw[c]
     exact g
    ·exact hS.ntrans _ _ _ (hl s _ h1 (by omega) (by omega)) g
   ·rw[r3 q (by omega)]
    exact hr _ _ (by omega) (by omega) k4
theorem bY {d D:Array α} {a b x y:Nat} (h:SortedIn lt a b d) (hP:PermIn x y d D) (hd:b<=x∨y<=a):SortedIn lt a b D:=by
 intro p q k1 k2 k3
 rw[hP.2.1 p (by omega),hP.2.1 q (by omega)]
 exact h p q k1 k2 k3
theorem sorted_glue {D:Array α} {a mid b:Nat} (hl:SortedIn lt a mid D) (hr:SortedIn lt mid b D)
  (hx:∀p q,a<=p->p<mid->mid<=q->q<b->lt D[q]! D[p]! = false):SortedIn lt a b D:=by
 intro p q k1 k2 k3
 by_cases c1:q<mid
 ·exact hl p q k1 k2 c1
 by_cases c2:p<mid
 ·exact hx p q k1 c2 (by omega) k3
 ·exact hr p q (by omega) k2 k3
theorem tB {d d1 D:Array α} {a mid b:Nat} (hb:b<=d.size) (_h1:a<=mid) (h2:mid<=b)
  (hx:∀p q,a<=p->p<mid->mid<=q->q<b->lt d[q]! d[p]! = false) (hP:PermIn a mid d d1) (hQ:PermIn mid b d1 D) :
  ∀p q,a<=p->p<mid->mid<=q->q<b->lt D[q]! D[p]! = false:=by
 have x1:∀p q,a<=p->p<mid->mid<=q->q<b->lt d1[q]! d1[p]! = false:=by
  intro p q k1 k2 k3 k4
  rw[hP.2.1 q (by omega)]
  exact permIn_all d d1 a mid (λv=>lt d[q]! v=false) (by omega) hP (λi i1 i2=>hx i q i1 i2 k3 k4) p k1 k2
 intro p q k1 k2 k3 k4
 rw[hQ.2.1 p (by omega)]
 have hs:=hP.1
 exact permIn_all d1 D mid b (λv=>lt v d1[p]! = false) (by omega) hQ (λi i1 i2=>x1 p i k1 k2 i1 i2) q k3 k4
theorem zf {d D:Array α} {s k:Nat} (h:Rot d D s (s+1) (k+1)) (hs:s<=k) (hk:k+1<d.size):Rot d (swp D k (k+1)) s (s+1) (k+2):=by
 obtain⟨r0,r1,r2,r3⟩:=h
 have g:=swp_get D (show k<D.size by omega) (show k+1<D.size by omega)
 refine⟨by rw[swp_size,r0],λq k1 k2=>?_,λq k1 k2=>?_,λq k1=>?_⟩
 ·rw[g]
  by_cases e:q=k
  ·subst e
   rw[if_neg (by omega),if_pos rfl,r3 _ (by omega)]
   congr 1
   omega
  ·rw[if_neg (by omega),if_neg e,r1 q k1 (by omega)]
 ·obtain rfl:q=k+1:=by omega
  rw[g,if_pos rfl,r2 k (by omega) (by omega)]
  congr 1
  omega
 ·rw[g,if_neg (by omega),if_neg (by omega),r3 q (by omega)]
theorem zg {d D:Array α} {k m:Nat} (h:Rot d D k m (m+1)) (h1:1<=k) (hk:k<=m) (hm:m<d.size):Rot d (swp D k (k-1)) (k-1) m (m+1):=by
 obtain⟨r0,r1,r2,r3⟩:=h
 have g:=swp_get D (show k<D.size by omega) (show k-1<D.size by omega)
 refine⟨by rw[swp_size,r0],λq k1 k2=>?_,λq k1 k2=>?_,λq k1=>?_⟩
 ·obtain rfl:q=k-1:=by omega
  rw[g,if_pos rfl,r1 k (by omega) (by omega)]
  congr 1
  omega
 ·rw[g]
  by_cases e:q=k
  ·subst e
   rw[if_neg (by omega),if_pos rfl,r3 _ (by omega)]
   congr 1
   omega
  ·rw[if_neg (by omega),if_neg e,r2 q (by omega) (by omega)]
 ·rw[g,if_neg (by omega),if_neg (by omega),r3 q (by omega)]
end Sy
end Go.Proofs.YtoejnneknpoanaaGreatDoor
