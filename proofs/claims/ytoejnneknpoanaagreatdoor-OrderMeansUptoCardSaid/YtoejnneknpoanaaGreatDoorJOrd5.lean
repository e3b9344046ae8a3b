/- A map from texts to numbers, as it lies: lookups, numbers la -/
import Derived.Test.YtoejnneknpoanaaGreatDoorJOrdKey
namespace Go.Proofs.YtoejnneknpoanaaGreatDoor.Mp
open Go Go.RowKit Go.Maps Go.ChangeMaps
def entsFrom:Nat->List (ByteArray × Int)->List MapEntry
 | _,[]=>[]
 | k,p::m=>{key:=.string p.1,val:=.int .i64 p.2,born:=k}::entsFrom (k+1) m
def ents (m:List (ByteArray × Int)):Array MapEntry:=(entsFrom 0 m).toArray
def CntOf (w:World) (r:Nat) (m:List (ByteArray × Int)):Prop:=w.heap[r]?=some (.map (ents m) m.length)
def lookI:List (ByteArray × Int)->ByteArray->Int
 | [],_=>0
 | p::m,s=>if p.1=s then p.2 else lookI m s
def idxM:List (ByteArray × Int)->ByteArray->Option Nat
 | [],_=>none
 | p::m,s=>if p.1=s then some 0 else (idxM m s).map (· + 1)
def setM:List (ByteArray × Int)->ByteArray->Int->List (ByteArray × Int)
 | [],s,v=>[(s,v)]
 | p::m,s,v=>if p.1=s then (s,v)::m else p::setM m s v
theorem look_setM (s t:ByteArray) (v:Int):∀m:List (ByteArray × Int),lookI (setM m s v) t=if s=t then v else lookI m t
 | []=>by simp[setM,lookI]
 | p::m=>by
  unfold setM
  by_cases h:p.1=s
  ·rw[if_pos h]
   simp only[lookI,h]
   by_cases h2:s=t<;>simp[h2]
  ·rw[if_neg h]
   simp only[lookI]
   rw[look_setM s t v m]
   by_cases h2:p.1=t
   ·have:¬ s=t:=λe=>h (h2.trans e.symm)
    simp[h2,this]
   ·simp[h2]
theorem find_ents (s:ByteArray):∀(m:List (ByteArray × Int)) (k j:Nat),Instr.findNow .string (.string s) (entsFrom k m) j=some ((idxM m s).map λi=>(j+i,.int .i64 (lookI m s)))
 | [],_,_=>rfl
 | p::m,k,j=>by
  unfold entsFrom Instr.findNow
  simp only[Instr.sameNow]
  by_cases h:p.1=s
  ·have hb:(s == p.1)=true:=(MapKept.bytes_beq _ _).2 h.symm
   rw[hb]
   simp[idxM,lookI,h]
  ·have hb:(s == p.1)=false:=by
    cases hx:(s == p.1)
    ·rfl
    ·exact absurd ((MapKept.bytes_beq _ _).1 hx).symm h
   simp only[hb,idxM,lookI,h,if_false]
   rw[find_ents s m (k+1) (j+1)]
   cases idxM m s with
   | none=>rfl
   | some i=>simp;omega
theorem ents_at:∀(m:List (ByteArray × Int)) (k i:Nat) (s:ByteArray),idxM m s=some i->(entsFrom k m)[i]?=some {key:=.string s,val:=.int .i64 (lookI m s),born:=k+i}
 | [],_,_,_,h=>by cases h
 | p::m,k,i,s,h=>by
  unfold idxM at h
  by_cases hp:p.1=s
  ·rw[if_pos hp]at h
   obtain rfl:0=i:=by simpa using h
   simp[entsFrom,lookI,hp]
  ·rw[if_neg hp]at h
   obtain⟨j,hj,rfl⟩:=Option.map_eq_some_iff.1 h
   simp only[entsFrom,List.getElem?_cons_succ,lookI,hp,if_false]
   rw[ents_at m (k+1) j s hj]
   simp;omega
theorem ents_set:∀(m:List (ByteArray × Int)) (k i:Nat) (s:ByteArray) (v:Int),idxM m s=some i ->
  (entsFrom k m).modify i (λe=>{e with val:=.int .i64 v})=entsFrom k (setM m s v)/\(setM m s v).length=m.length
 | [],_,_,_,_,h=>by cases h
 | p::m,k,i,s,v,h=>by
  unfold idxM at h
  by_cases hp:p.1=s
  ·rw[if_pos hp]at h
   obtain rfl:0=i:=by simpa using h
   simp[entsFrom,setM,hp]
  ·rw[if_neg hp]at h
   obtain⟨j,hj,rfl⟩:=Option.map_eq_some_iff.1 h
   obtain⟨h1,h2⟩:=ents_set m (k+1) j s v hj
   simp[entsFrom,setM,hp,List.modify_succ_cons,h1,h2]
theorem ents_app:∀(m:List (ByteArray × Int)) (k:Nat) (s:ByteArray) (v:Int),idxM m s=none ->
  entsFrom k (setM m s v)=entsFrom k m++[{key:=.string s,val:=.int .i64 v,born:=k+m.length}]/\(setM m s v).length=m.length+1
 | [],k,s,v,_=>by simp[entsFrom,setM]
 | p::m,k,s,v,h=>by
  unfold idxM at h
  by_cases hp:p.1=s
  ·rw[if_pos hp]at h;cases h
  ·rw[if_neg hp]at h
   obtain⟨h1,h2⟩:=ents_app m (k+1) s v (by simpa using h)
   simp[entsFrom,setM,hp,h1,h2];omega
theorem look_none:∀(m:List (ByteArray × Int)) (s:ByteArray),idxM m s=none->lookI m s=0
 | [],_,_=>rfl
 | p::m,s,h=>by
  unfold idxM at h
  by_cases hp:p.1=s
  ·rw[if_pos hp]at h;cases h
  ·rw[if_neg hp]at h
   simp only[lookI,hp,if_false]
   exact look_none m s (by simpa using h)
theorem lt_of_cnt {w:World} {r:Nat} {m:List (ByteArray × Int)} (h:CntOf w r m):r<w.heap.size:=(Array.getElem?_eq_some_iff.1 h).1
theorem CntOf.on {w w':World} {r:Nat} {m:List (ByteArray × Int)} (h:CntOf w r m) (hb:Below w.heap.size w w'):CntOf w' r m:=by
 unfold CntOf;rw[hb.block r (lt_of_cnt h)];exact h
variable {P:Program} {T K E:TypeId}
theorem run_lookup_str (hT:P.underlying T=some (.map K E)) (hK:P.underlying K=some .string) {w:World} (hz:(zeroValue E).run P w=.ok (.int .i64 0) w)
  {r:Nat} {m:List (ByteArray × Int)} (h:CntOf w r m) (s:ByteArray):(Instr.lookup T (.map (some r)) (.string s) false).run P w=.ok (.int .i64 (lookI m s)) w:=by
 have hc:(Instr.checkKey (ents m).isEmpty 10000 K (.string s)).run P w=.ok () w:=MapKept.run_checkKey hK (show MapKept.IsKey .string (.string s) from trivial) _ 9999
 have hf:(Instr.findKey K (.string s) (ents m).toList).run P w=.ok ((idxM m s).map λi=>(0+i,.int .i64 (lookI m s))) w:=MapKept.run_findKey hK (find_ents s m 0 0)
 have hg:(getObj r).run P w=.ok (.map (ents m) m.length) w:=MapKept.run_getObj_map h
 unfold Instr.lookup
 simp only[Sem.run_bind,run_underlying hT,Result.andThen,hg,Sem.run_pure,hc,hf]
 cases hi:idxM m s with
 | none=>simp[hz,look_none m s hi]
 | some i=>simp
def putM (w:World) (r:Nat) (m:List (ByteArray × Int)):World:={w with heap:=w.heap.setIfInBounds r (.map (ents m) m.length)}
theorem putM_cnt {w:World} {r:Nat} (h:r<w.heap.size) (m:List (ByteArray × Int)):CntOf (putM w r m) r m:=by
 unfold CntOf putM;simp[h]
theorem putM_grown (w:World) (r:Nat) (m:List (ByteArray × Int)):w.grownBy (putM w r m) (some r):=
 ⟨rfl,rfl,rfl,by simp[putM],λk _ hne=>Array.getElem?_setIfInBounds_ne (λe:r=k=>hne (congrArg some e.symm))⟩
theorem keyStays (s:ByteArray) (w:World):(Instr.keyThatStays (.string s) (.string s)).run P w=.ok (.string s) w:=by
 have h:Instr.sameBits 10000 (.string s) (.string s)=true:=(MapKept.bytes_beq s s).2 rfl
 unfold Instr.keyThatStays
 rw[if_pos h];rfl
theorem modify_toArray {α:Type} (l:List α) (i:Nat) (f:α->α):l.toArray.modify i f=(l.modify i f).toArray:=by simp
theorem run_mapUpdate_str (hT:P.underlying T=some (.map K E)) (hK:P.underlying K=some .string) {w:World} {r:Nat} {m:List (ByteArray × Int)} (h:CntOf w r m) (s:ByteArray) (v:Int) :
  (Instr.mapUpdate T (.map (some r)) (.string s) (.int .i64 v)).run P w=.ok () (putM w r (setM m s v)):=by
 have hc:(Instr.checkKey false 10000 K (.string s)).run P w=.ok () w:=MapKept.run_checkKey hK (show MapKept.IsKey .string (.string s) from trivial) _ 9999
 have hf:(Instr.findKey K (.string s) (ents m).toList).run P w=.ok ((idxM m s).map λi=>(0+i,.int .i64 (lookI m s))) w:=MapKept.run_findKey hK (find_ents s m 0 0)
 have hg:(getObj r).run P w=.ok (.map (ents m) m.length) w:=MapKept.run_getObj_map h
 unfold Instr.mapUpdate
 simp only[Sem.run_bind,run_underlying hT,Result.andThen,hg,hc,hf]
 cases hi:idxM m s with
 | none =>
  obtain⟨h1,h2⟩:=ents_app m 0 s v hi
  have e1:(ents m).push {key:=.string s,val:=.int .i64 v,born:=m.length}=ents (setM m s v):=by
   unfold ents;rw[h1];simp
  simp only[Option.map_none,MapKept.run_setObj_map _ h,e1]
  unfold putM
  rw[h2]
 | some i =>
  have ha:=ents_at m 0 i s hi
  have hk:(((ents m)[0+i]?).map (·.key)).getD (.string s)=.string s:=by unfold ents;simp[ha]
  obtain⟨h1,h2⟩:=ents_set m 0 i s v hi
  have hm:(ents m).modify (0+i) (λe=>{e with key:=.string s,val:=.int .i64 v})=ents (setM m s v):=by
   have e2:(entsFrom 0 m).modify i (λe=>{e with key:=.string s,val:=.int .i64 v})=(entsFrom 0 m).modify i (λe=>{e with val:=.int .i64 v}):=by
    apply List.ext_getElem?
    intro j
    rw[List.getElem?_modify,List.getElem?_modify]
    by_cases hj:i=j
    ·subst hj;rw[ha];simp
    ·simp[hj]
   unfold ents
   rw[modify_toArray,Nat.zero_add,e2,h1]
  simp only[Option.map_some,hk,Sem.run_bind,keyStays,Result.andThen,MapKept.run_setObj_map _ h,hm]
  unfold putM
  rw[h2]
theorem wpList_mapUpdate_str {w:World} {ops:Array Oper} {rest:List Oper} {o:Oper} {a:Act} {Q:Exit->Act->World->Prop}
  (hgd:o.guard=none) (mp x v:Operand) (T:TypeId) (hop:o.op=Op.mapUpdate T mp x v) {K E:TypeId} (hT:P.underlying T=some (.map K E)) (hK:P.underlying K=some .string)
  {r:Nat} {m:List (ByteArray × Int)} (hm:a.eval mp=.map (some r)) (h:CntOf w r m) (s:ByteArray) (n:Int) (hx:a.eval x=.string s) (hv:a.eval v=.int .i64 n)
  (hQ:wpList P ops Q rest (a.put o.dst undef) (putM w r (setM m s n))):wpList P ops Q (o::rest) a w:=by
 refine wpList_plain hgd λK' hK'=>?_
 have hrun:=run_mapUpdate_str (E:=E) (P:=P) hT hK h s n
 unfold Oper.wp
 simp[execOp,hop,hm,hx,hv,hrun,Result.andThen]
 exact hK' _ _ hQ
end Go.Proofs.YtoejnneknpoanaaGreatDoor.Mp
namespace Go.Proofs.YtoejnneknpoanaaGreatDoor
open Go Go.RowKit Um Fm Tx
theorem sameTm_iffT {a b:Tm}:sameTm a b=true↔a=b:=by
 obtain⟨k,x,l,y⟩:=a
 obtain⟨k',x',l',y'⟩:=b
 unfold sameTm
 simp only[Bool.and_eq_true,beq_iff_eq,Tm.mk.injEq,ByteArray.toList_eq]
 constructor
 ·rintro⟨⟨⟨h1,h2⟩,h3⟩,h4⟩
  exact⟨h1,ba_ext h2,ba_ext h3,ba_ext h4⟩
 ·rintro⟨rfl,rfl,rfl,rfl⟩
  exact⟨⟨⟨rfl,rfl⟩,rfl⟩,rfl⟩
instance decTm:DecidableEq Tm:=λ_ _=>decidable_of_iff _ sameTm_iffT
open Om Mp
theorem oMapT:Tryz.prog.underlying 137=some (.map 9 3):=by kernel_rfl
theorem oMapK:Tryz.prog.underlying 9=some .string:=by kernel_rfl
theorem oMapZ (w:World):(zeroValue 3).run Tryz.prog w=.ok (.int .i64 0) w:=by kernel_rfl
def keyB (r:List Tm):ByteArray:=⟨(keyL r).toArray⟩
theorem keyB_inj {a b:List Tm} (h:keyB a=keyB b):a=b:=by
 apply keyL_inj
 have:=congrArg (λx:ByteArray=>x.data.toList) h
 simpa[keyB] using this
def Once1R (r:Nat) (m:List (ByteArray × Int)) (s:ByteArray) (w:World) (e:Ending) (w':World):Prop:=
 e=.returned (.bool (decide (0<lookI m s)))/\∃w2,Below w.heap.size w w2/\w'=putM w2 r (setM m s (lookI m s+1))
set_option maxHeartbeats 4000000 in
set_option maxRecDepth 100000 in
theorem ordOnce1 (row:List Tm) (A:Option Addr) (c n r:Nat) (m:List (ByteArray × Int)) (mb:Nat) (w:World) (hn:row.length=n) (hl:n<=1000000) (hP:PowV w) (hr:RdTs w A row) (hz:∀t∈row,keyTm t)
  (hp:w.cell? ⟨mb,0,none⟩=some (.map (some r))) (hM:CntOf w r m) (hm:0<=lookI m (keyB row)/\lookI m (keyB row)<=1000000) (hne:mb≠r) :
  Calls Tryz.prog 99 #[.slice A n c,.pointer (some ⟨mb,0,none⟩)] w (Once1R r m (keyB row) w):=by
 have hK:=ordKey row A c n w hn hl hP hr hz
 change Calls _ _ _ _ (λe w'=>e=.returned (.string (keyB row))/\Below w.heap.size w w') at hK
 generalize keyB row=s at *
 have HM:=Lib.hid hM
 have hmb:=cell_lt hp
 clear hn hr hz hP hM
 go_enter Tryz.func99,Tryz.ntmps99
 go_wp2_with fail
 refine hK.mono ?_
 rintro e w2 ⟨rfl,hb2⟩
 have hp2:=cell_on hp hb2
 have hM2:=HM.out.on hb2
 have hrr:=lt_of_cnt hM2
 have hl1:=run_lookup_str (P:=Tryz.prog) oMapT oMapK (oMapZ w2) hM2 s
 have hM3:=putM_cnt hrr (setM m s (lookI m s+1))
 have hp3:(putM w2 r (setM m s (lookI m s+1))).cell? ⟨mb,0,none⟩=some (.map (some r)):=by
  rw[(putM_grown w2 r _).cell_far _ (cell_lt hp2) (λe=>by injection e with e;exact hne e)];exact hp2
 have hl2:=run_lookup_str (P:=Tryz.prog) oMapT oMapK (oMapZ _) hM3 s
 rw[look_setM,if_pos rfl]at hl2
 have HF:Hid (Once1R r m s w (.returned (.bool (decide (0<lookI m s)))) (putM w2 r (setM m s (lookI m s+1)))):=⟨rfl,w2,hb2,rfl⟩
 obtain⟨hv0,hv1⟩:=hm
 generalize lookI m s=v at *
 obtain⟨W2,hW2⟩:∃W,putM w2 r (setM m s (v+1))=W:=⟨_,rfl⟩
 rw[hW2]at hp3 hl2 HF
 have HW2:=Lib.hid hW2
 clear hW2 hK hM3 hb2 hp
 cases hpos:decide (0<v)
 ·have hd:decide (1<v+1)=false:=by simp at hpos ⊢;omega
  rw[hpos]at HF
  clear hpos
  go_wp2_with (at_mapUpdate;refine wpList_mapUpdate_str rfl _ _ _ _ rfl oMapT oMapK rfl hM2 s (v+1) rfl rfl ?_;rw[HW2.out])
  go_ret
  exact HF.out
 ·have hd:decide (1<v+1)=true:=by simp at hpos ⊢;omega
  rw[hpos]at HF
  clear hpos
  go_wp2_with (at_mapUpdate;refine wpList_mapUpdate_str rfl _ _ _ _ rfl oMapT oMapK rfl hM2 s (v+1) rfl rfl ?_;rw[HW2.out])
  go_ret
  exact HF.out
def WkG (base b g:Nat) (va vr:Value) (vars:List ByteArray) (qc vs:List Value) (rows:List (List Tm)) (W:World):Prop:=
 W.heap[b]?=some (Obj.cells (va::vr::qc).toArray 110 (0,0))/\W.ownsRow base 9 1 va vars.length (vars.map Value.string)/\All 1 (OwnRow base W) vs rows/\∃cur,W.heap[g]?=some (Obj.cells cur 59 (0,0))
section
variable {base b g:Nat} {va vr:Value} {vars:List ByteArray} {qc vs:List Value} {rows:List (List Tm)} {W W':World}
theorem WkG.on (h:WkG base b g va vr vars qc vs rows W) (hb:Below W.heap.size W W'):WkG base b g va vr vars qc vs rows W':=by
 obtain⟨h1,h2,h3,cur,h4⟩:=h
 exact⟨KeepT.below hb _ _ _ h1,own_keep h2 (KeepT.below hb),h3.mono λ_ _ _ x=>x.keep (KeepT.below hb),cur,KeepT.below hb _ _ _ h4⟩
theorem WkG.keep (h:WkG base b g va vr vars qc vs rows W) (hk:∀e,e≠59->KeepT e W W') (hg:∃cur,W'.heap[g]?=some (Obj.cells cur 59 (0,0))):WkG base b g va vr vars qc vs rows W':=by
 obtain⟨h1,h2,h3,cur,h4⟩:=h
 exact⟨hk _ (by decide) _ _ _ h1,own_keep h2 (hk _ (by decide)),h3.mono λ_ _ _ x=>x.keep (hk _ (by decide)),hg⟩
theorem WkG.setCell (h:WkG base b g va vr vars qc vs rows W) (i:Nat) (v:Value):WkG base b g va vr vars qc vs rows (W.setCell ⟨g,i,none⟩ v):=by
 obtain⟨cur,h4⟩:=h.2.2.2
 exact h.keep (λe he=>KeepT.setCell h4 (λx=>he x.symm)) ⟨_,heap_setCell_at h4 i v⟩
theorem WkG.setCells (h:WkG base b g va vr vars qc vs rows W):∀(us:List Value) (o:Nat),WkG base b g va vr vars qc vs rows (W.setCells g o us):=by
 intro us
 induction us generalizing W with
 | nil=>intro o;exact h
 | cons u us ih=>intro o;rw[World.setCells];exact ih (h.setCell o u) (o+1)
theorem KeepT.putM (W:World) (r:Nat) (m m':List (ByteArray × Int)) (hM:CntOf W r m) (e:TypeId):KeepT e W (putM W r m'):=λk cur fr x=>by
 have hne:k≠r:=λh=>by
  subst h
  unfold CntOf at hM
  rw[hM]at x;cases x
 rw[(putM_grown W r m').block k (Array.getElem?_eq_some_iff.1 x).1 (λh=>hne (by injection h))];exact x
theorem WkG.putM (h:WkG base b g va vr vars qc vs rows W) {r:Nat} {m:List (ByteArray × Int)} (hM:CntOf W r m) (m':List (ByteArray × Int)):WkG base b g va vr vars qc vs rows (putM W r m'):=by
 obtain⟨cur,h4⟩:=h.2.2.2
 exact h.keep (λe _=>KeepT.putM W r m m' hM e) ⟨cur,KeepT.putM W r m m' hM _ _ _ _ h4⟩
end
theorem RowV.of_own {base n:Nat} {v:Value} {xs:List Value} {w:World} (h:w.ownsRow base 59 1 v n xs):(v=.slice none 0 0/\n=0/\xs=[])∨∃g cap rest,v=.slice (some ⟨g,0,none⟩) n cap/\base<=g/\RowV g xs rest w/\n<=cap/\cap<=maxLen/\xs.length=n/\n+rest.length=cap:=by
 have hl:=h.1
 rw[Nat.mul_one]at hl
 rcases h.2 with ⟨rfl,h0⟩|⟨g,cap,cur,rfl,hg,hh,hn,hm,hs,ht⟩
 ·subst h0
  exact .inl ⟨rfl,rfl,List.eq_nil_of_length_eq_zero hl⟩
 ·refine .inr ⟨g,cap,cur.toList.drop n,rfl,hg,?_,hn,hm,hl,by rw[List.length_drop,Array.length_toList,hs];omega⟩
  unfold RowV
  rw[Nat.mul_one]at ht
  rw[←ht,List.take_append_drop,Array.toArray_toList]
  exact hh
theorem RowV.own {base g cap n:Nat} {xs rest:List Value} {w:World} (h:RowV g xs rest w) (hb:base<=g) (hn:xs.length=n) (hc:n+rest.length=cap) (hm:cap<=maxLen):w.ownsRow base 59 1 (.slice (some ⟨g,0,none⟩) n cap) n xs:=by
 refine⟨by omega,.inr ⟨g,cap,_,rfl,hb,h,by omega,hm,by simp;omega,?_⟩⟩
 rw[Nat.mul_one,←hn,List.take_left' rfl]
theorem All.kept {R:List Value->List Tm->Prop} {b:Nat->Bool} {vs:List Value} {rows:List (List Tm)} (h:All 1 R vs rows):∀k,k<=rows.length->All 1 R (keptL b vs k) (keptL b rows k)
 | 0,_=>rfl
 | k+1,hk=>by
  have ih:=h.kept (b:=b) k (by omega)
  unfold keptL
  split
  ·exact ih
  ·obtain⟨r,hr⟩:∃r,rows[k]?=some r:=⟨_,List.getElem?_eq_getElem (by omega)⟩
   obtain⟨cs,hc,hR,hx⟩:=h.at_ hr
   match cs,hc with
   | [v],_ =>
    have hv:=hx 0 v rfl
    rw[Nat.mul_one,Nat.add_zero]at hv
    rw[hr,hv]
    exact ih.append (All.one rfl hR)
theorem delNone (F:Nat) (cb:Array Value) (eg:∀args w,(callFunc F args).run Tryz.prog w=.ok (.enter F args) w) (w:World) :
  Calls Tryz.prog 87 #[.slice none 0 0,.func (.func F) #[] cb] w λe w'=>e=.returned (.slice none 0 0)/\w=w':=by
 have hI:=idxRows F cb eg (λ_=>false) (λ_ W=>w=W) [] 0 none 0 w rfl (by omega) (λk W _=>RdL.nil _ _ _ _) (λk row W A' c' h=>by simp at h) rfl
 go_enter Tryz.func87,Tryz.ntmps87
 go_wp2_with fail
 refine hI.mono ?_
 intro e w1 hD
 rcases hD with ⟨rfl,h1,h2⟩|⟨k,hk,_⟩
 ·subst h2
  clear h1 hI
  go_wp2
  go_ret
  exact⟨rfl,rfl⟩
 ·omega
def OnceS (W0:World) (b g r mb:Nat) (va vr:Value) (vars:List ByteArray) (qc vs:List Value) (rows:List (List Tm)) (k:Nat) (W:World):Prop:=
 ∃m,CntOf W r m/\W.heap[mb]?=some (Obj.cells #[.map (some r)] 137 (0,0))/\(∀x,0<=lookI m x/\lookI m x<=k/\(0<lookI m x↔∃q∈rows.take k,keyB q=x)) /\
  WkG W0.heap.size b g va vr vars qc vs rows W/\Below W0.heap.size W0 W
theorem once_counts {rows:List (List Tm)} {k:Nat} {row:List Tm} {m:List (ByteArray × Int)} (hrow:rows[k]?=some row) (h:∀x,0<=lookI m x/\lookI m x<=k/\(0<lookI m x↔∃q∈rows.take k,keyB q=x)) (x:ByteArray) :
  0<=lookI (setM m (keyB row) (lookI m (keyB row)+1)) x/\lookI (setM m (keyB row) (lookI m (keyB row)+1)) x<=(k+1:Nat)/\(0<lookI (setM m (keyB row) (lookI m (keyB row)+1)) x↔∃q∈rows.take (k+1),keyB q=x):=by
 rw[look_setM,take_snoc_of hrow]
 have h1:=h x
 have h2:=h (keyB row)
 by_cases e:keyB row=x
 ·rw[if_pos e]
  refine⟨by omega,by omega,λ_=>⟨row,by simp,e⟩,λ_=>by omega⟩
 ·rw[if_neg e]
  refine⟨h1.1,by omega,h1.2.2.trans ⟨λ⟨q,hq,he⟩=>⟨q,by simp[hq],he⟩,λ⟨q,hq,he⟩=>?_⟩⟩
  rcases List.mem_append.1 hq with hq|hq
  ·exact⟨q,hq,he⟩
  ·simp only[List.mem_cons,List.not_mem_nil,or_false]at hq
   subst hq;exact absurd he e
end Go.Proofs.YtoejnneknpoanaaGreatDoor
