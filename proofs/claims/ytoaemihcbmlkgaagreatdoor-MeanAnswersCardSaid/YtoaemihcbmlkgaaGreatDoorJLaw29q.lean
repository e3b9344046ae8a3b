/- The program's package filter, walked: over, set, Of, Keeps. -/
import Derived.Test.YtoaemihcbmlkgaaGreatDoorJFilTruth
set_option maxHeartbeats 4000000
set_option maxRecDepth 100000
namespace Go.Proofs.YtoaemihcbmlkgaaGreatDoor
open Go Go.RowKit Go.Maps Go.ChangeMaps Fm
theorem cell_grown_map {w w':World} {r:Nat} {q:IntKind} {kvs:List (Int × Value)} (hm:MapOf w q r kvs) (hg:w.grownBy w' (some r)) {p:Addr} {u:Value} (h:w.cell? p=some u):w'.cell? p=some u:=by
 obtain⟨es,cl,hr,_⟩:=hm
 have hne:p.block≠r:=by
  intro e
  rw[World.cell?,e,hr]at h
  cases h
 have hb:=hg.block p.block (cell_lt h) (λe=>hne (by injection e))
 rw[World.cell?,hb]
 exact h
theorem rd_grown_map {w w':World} {r:Nat} {q:IntKind} {kvs:List (Int × Value)} (hm:MapOf w q r kvs) (hg:w.grownBy w' (some r)) {A:Option Addr} {xs:List Value} (h:Rd w A xs):Rd w' A xs:=by
 rcases h with h|⟨g,o,hA,hc⟩
 ·exact .inl h
 ·exact .inr ⟨g,o,hA,λj u hu=>cell_grown_map hm hg (hc j u hu)⟩
theorem grown_trans {a b c:World} {r:Nat} (h:a.grownBy b (some r)) (k:b.grownBy c (some r)):a.grownBy c (some r):=
 ⟨k.os.trans h.os,k.tape.trans h.tape,k.output.trans h.output,Nat.le_trans h.size k.size,λi hi hne=>(k.block i (Nat.lt_of_lt_of_le hi h.size) hne).trans (h.block i hi hne)⟩
theorem filSet (b r:Nat) (v:Value) (kvs:List (Int × Value)) (ks:List Int) (A:Option Addr) (c:Nat) (w:World) (hl:ks.length<=1000) (hr:Rd w A (ks.map (Value.int .i64))) (hm:MapOf w .i64 r kvs)
  (hj:w.cell? ⟨b,2,none⟩=some (.map (some r))) (hn:∀(j:Nat) x,ks[j]?=some x->(kvs++(ks.take j).map λk=>(k,v)).find? (λp=>p.1 == x)=none) :
  Calls Tryz.prog 74 #[.pointer (some ⟨b,0,none⟩),v,.slice A ks.length c] w λe w'=>(∃u,e=.returned u)/\MapOf w' .i64 r (kvs++ks.map λk=>(k,v))/\w.grownBy w' (some r):=by
 go_enter Tryz.func74,Tryz.ntmps74
 go_wp2
 go_loopw [10] (λi wr=>∃j:Nat,j<=ks.length/\i=.int .i64 j/\MapOf wr .i64 r (kvs++(ks.take j).map λk=>(k,v))/\w.grownBy wr (some r)) (λi _=>ks.length-(intOf i).toNat)
 case atStart=>exact⟨0,by omega,rfl,by simpa using hm,rfl,rfl,rfl,Nat.le_refl _,λ_ _ _=>rfl⟩
 case round =>
  obtain⟨j,hj1,rfl,hM,hg⟩:=hrel
  by_cases hlt:j<ks.length
  ·obtain⟨x,hx⟩:∃x,ks[j]?=some x:=⟨_,List.getElem?_eq_getElem hlt⟩
   obtain⟨g,o,rfl,hcx⟩:=(rd_grown_map hm hg hr).at_ (j:=j) (u:=.int .i64 x) (by simp[hx])
   have hj2:=cell_grown_map hm hg hj
   have hnn:=hn j x hx
   have Hts:=Lib.hid (take_snoc_of hx)
   have Hg:=Lib.hid hg
   have Hn:=Lib.hid hn
   have Hm:=Lib.hid hm
   clear hx hn hg hm hr hj
   go_wp2_with (at_mapUpdate;refine wpList_mapUpdate_fn _ rfl _ _ _ _ rfl Tryz.underlying137 Tryz.underlying80 rfl hM x v rfl rfl hnn ?_;intro w2 hM2 hg2)
   go_roundw
   case rel=>exact⟨j+1,by omega,by go_num,by rw[Hts.out];simpa using hM2,grown_trans Hg.out hg2⟩
   case measure=>simp[intOf];omega
  ·have hk2:ks.take j=ks:=List.take_of_length_le (by omega)
   rw[hk2]at hM
   clear hk2 hn hm hr
   go_wp2
   go_end0
   exact⟨⟨_,rfl⟩,hM,hg⟩
theorem find_fresh {kvs:List (Int × Value)} {ks:List Int} {v:Value} (h:(kvs.map (·.1)++ks).Nodup) (j:Nat) (x:Int) (hx:ks[j]?=some x):(kvs++(ks.take j).map λk=>(k,v)).find? (λp=>p.1 == x)=none:=by
 rw[List.nodup_append]at h
 obtain⟨_,h2,h3⟩:=h
 rw[List.find?_eq_none]
 intro p hp
 simp only[beq_iff_eq]
 intro e
 rcases List.mem_append.1 hp with hp|hp
 ·exact h3 _ (List.mem_map_of_mem hp) _ (List.mem_of_getElem? hx) e
 ·obtain⟨k,hk,rfl⟩:=List.mem_map.1 hp
  simp only at e
  subst e
  rw[←List.take_append_drop j ks,List.nodup_append]at h2
  exact h2.2.2 k hk k (by rw[drop_cons_of hx];simp) rfl
structure Makes (w0 w:World) (b r:Nat) (x0 x1:Value) (kvs:List (Int × Value)):Prop where
 below:Below w0.heap.size w0 w
 lo:w0.heap.size<=r
 c0:w.cell? ⟨b,0,none⟩=some x0
 c1:w.cell? ⟨b,1,none⟩=some x1
 c2:w.cell? ⟨b,2,none⟩=some (.map (some r))
 m:MapOf w .i64 r kvs
theorem Makes.set {w0 w:World} {b r:Nat} {x0 x1:Value} {kvs:List (Int × Value)} (h:Makes w0 w b r x0 x1 kvs) (v:Value) (ks:List Int) (n:Nat) (hn:ks.length=n) (hl:n<=1000) (ty:TypeId) (B:Nat) (hB:w.heap.size=B) (cs:Array Value) (hcs:cs.toList=ks.map (Value.int .i64)) (hd:(kvs.map (·.1)++ks).Nodup) :
  Calls Tryz.prog 74 #[.pointer (some ⟨b,0,none⟩),v,.slice (some ⟨B,0,none⟩) n n] (w.alloc (.cells cs ty))
   λe w'=>(∃u,e=.returned u)/\Makes w0 w' b r x0 x1 (kvs++ks.map λk=>(k,v)):=by
 subst hn hB
 have hb:Below w.heap.size w (w.alloc (.cells cs ty)):=blw
 have on:∀{p:Addr} {u:Value},w.cell? p=some u->(w.alloc (.cells cs ty)).cell? p=some u:=λh=>cell_on h hb
 refine(filSet b r v kvs ks (some ⟨w.heap.size,0,none⟩) ks.length _ hl (Rd.of_block (heap_alloc_new _ _) hcs) (h.m.later hb) (on h.c2) (λj x hx=>find_fresh hd j x hx)).mono ?_
 rintro e w' ⟨hu,hm,hg⟩
 exact⟨hu,(below_tr h.below hb).grown hg (below_tr h.below hb).size λk e=>by injection e with e;subst e;exact h.lo,h.lo,cell_grown_map (h.m.later hb) hg (on h.c0),cell_grown_map (h.m.later hb) hg (on h.c1),cell_grown_map (h.m.later hb) hg (on h.c2),hm⟩
theorem filOver (vars:List ByteArray) (row:List Tm) (A1 A2:Option Addr) (c1 c2:Nat) (w:World) (hr1:Rd w A1 (vars.map Value.string)) (hr2:RdTs w A2 row) :
  Calls Tryz.prog 35 #[.slice A1 vars.length c1,.slice A2 row.length c2] w λe w'=>∃b,e=.returned (.pointer (some ⟨b,0,none⟩))/\JudgeAt w' b vars row/\Below w.heap.size w w':=by
 have hmm:=@run_makeMap Tryz.prog
 go_enter Tryz.func35,Tryz.ntmps35
 have hM0:Makes w ((w.alloc (Obj.map #[] 0)).alloc (Obj.cells #[.slice A1 vars.length c1,.slice A2 row.length c2,.map (some w.heap.size)] 139)) (w.heap.size+1) w.heap.size (.slice A1 vars.length c1) (.slice A2 row.length c2) []:=by
  refine⟨blw,Nat.le_refl _,?_,?_,?_,⟨#[],0,?_,rfl⟩⟩
  ·rw[World.cell?,heap_two_2];rfl
  ·rw[World.cell?,heap_two_2];rfl
  ·rw[World.cell?,heap_two_2];rfl
  ·rw[heap_two_1]
 go_wp2_with fail
 have hs0:=λv=>hM0.set v [1,2] 2 rfl (by decide) 80 _ rfl #[.int .i64 1,.int .i64 2] rfl (show (([]:List Int)++[1,2]).Nodup by decide)
 try simp only[World.size_alloc]at hs0
 refine((hs0 _).mono ?_)
 rintro e w1 ⟨⟨u0,rfl⟩,hM1⟩
 go_wp2_with fail
 have hs1:=λv=>hM1.set v [3] 1 rfl (by decide) 80 _ rfl #[.int .i64 3] rfl (show (([1,2]:List Int)++[3]).Nodup by decide)
 try simp only[World.size_alloc]at hs1
 refine((hs1 _).mono ?_)
 rintro e w2 ⟨⟨u1,rfl⟩,hM2⟩
 go_wp2_with fail
 have hs2:=λv=>hM2.set v [4,5] 2 rfl (by decide) 80 _ rfl #[.int .i64 4,.int .i64 5] rfl (show (([1,2,3]:List Int)++[4,5]).Nodup by decide)
 try simp only[World.size_alloc]at hs2
 refine((hs2 _).mono ?_)
 rintro e w3 ⟨⟨u2,rfl⟩,hM3⟩
 go_wp2_with fail
 have hs3:=λv=>hM3.set v [6,7,8,9,10,11] 6 rfl (by decide) 80 _ rfl #[.int .i64 6,.int .i64 7,.int .i64 8,.int .i64 9,.int .i64 10,.int .i64 11] rfl (show (([1,2,3,4,5]:List Int)++[6,7,8,9,10,11]).Nodup by decide)
 try simp only[World.size_alloc]at hs3
 refine((hs3 _).mono ?_)
 rintro e w4 ⟨⟨u3,rfl⟩,hM4⟩
 go_wp2_with fail
 have hs4:=λv=>hM4.set v [12,13,14] 3 rfl (by decide) 80 _ rfl #[.int .i64 12,.int .i64 13,.int .i64 14] rfl (show (([1,2,3,4,5,6,7,8,9,10,11]:List Int)++[12,13,14]).Nodup by decide)
 try simp only[World.size_alloc]at hs4
 refine((hs4 _).mono ?_)
 rintro e w5 ⟨⟨u4,rfl⟩,hM5⟩
 go_wp2
 go_ret
 exact⟨_,rfl,⟨A1,A2,c1,c2,_,hM5.c0,hM5.c1,hM5.c2,hM5.m,hr1.later hM5.below,RdTs.later hr2 hM5.below⟩,hM5.below⟩
def failsI (vars:List ByteArray) (row:List Tm) (n:Nat) (l:List (ExT n)):Bool:=l.any λx => !(ofI vars row n x == 1)
theorem filKeeps1 (vars:List ByteArray) (row:List Tm) (n:Nat) (x:ExT n) (cs:List Value) (b:Nat) (p:Addr) (w:World) (hp:w.cell? p=some (.pointer (some ⟨b,0,none⟩))) (hx:RdE n w cs x) (hS:Says vars row b w n x) :
  Calls Tryz.prog 37 #[.agg cs.toArray,.pointer (some p)] w λe w'=>e=.returned (.bool (!(ofI vars row n x == 1)))/\Below w.heap.size w w':=by
 have hcs:∃(k:Int) (s:ByteArray) (t:Tm) (A:Option Addr) (m c:Nat),cs=[.int .i64 k,.string s,.int .i64 t.k,.string t.x,.string t.l,.string t.y,.slice A m c]:=by
  match n,x,hx with
  | n+1,(k,s,t,kids),⟨A,c,h,_⟩=>exact⟨k,s,t,A,_,c,h⟩
 obtain⟨k,s,t,A,m,c,rfl⟩:=hcs
 have hB0:Below w.heap.size w (w.alloc (.cells #[.int .i64 k,.string s,.int .i64 t.k,.string t.x,.string t.l,.string t.y,.slice A m c] 82)):=blw
 have hS':=hS _ _ hB0 (hx.later hB0)
 have hp':=cell_on hp hB0
 generalize ofI vars row n x=v at *
 have HB0:=Lib.hid hB0
 clear hS hx hB0
 go_enter Tryz.func37,Tryz.ntmps37
 go_wp2_with fail
 refine hS'.mono ?_
 rintro e w2 ⟨rfl,hb2⟩
 have HB:=Lib.hid (below_tr HB0.out hb2)
 clear hb2 hS'
 go_wp2
 go_ret
 exact⟨rfl,HB.out⟩
theorem filIdxKeeps (vars:List ByteArray) (row:List Tm) (n:Nat) (l:List (ExT n)) (A:Option Addr) (c:Nat) (b:Nat) (p:Addr) (w:World) (hl:l.length<=1353245080300) (hr:RdEs n w A l) (hp:w.cell? p=some (.pointer (some ⟨b,0,none⟩)))
  (hS:∀x∈l,∀W,Below w.heap.size w W->Says vars row b W n x) :
  Calls Tryz.prog 80 #[.slice A l.length c,.func (.func 37) #[] #[.pointer (some p)]] w λe w'=>∃i:Int,e=.returned (.int .i64 i)/\IdxIs i (failsI vars row n l)/\Below w.heap.size w w':=by
 have hl':(l.length:Int)<=1353245080300:=by omega
 go_enter Tryz.func80,Tryz.ntmps80
 go_wp2
 go_loopw [8] (λi wr=>∃k:Nat,k<=l.length/\i=.int .i64 k/\Hid (failsI vars row n l=failsI vars row n (l.drop k))/\Below w.heap.size w wr) (λi _=>l.length-(intOf i).toNat)
 case atStart=>exact⟨0,by omega,rfl,rfl,Below.refl _ _⟩
 case round =>
  obtain⟨k,hk,rfl,H,hB⟩:=hrel
  by_cases hlt:k<l.length
  ·obtain⟨y,hx⟩:∃x,l[k]?=some x:=⟨_,List.getElem?_eq_getElem hlt⟩
   obtain⟨g,o,k',s',t',A',m',d',rfl,hR,c0,c1,c2,c3,c4,c5,c6⟩:=(RdEs.later hr hB).atv hx
   have hd:=drop_cons_of hx
   have hc:=filKeeps1 vars row n y _ b p wr (cell_on hp hB) hR (hS y (List.mem_of_getElem? hx) wr hB)
   have H2:Hid (failsI vars row n l=(!(ofI vars row n y == 1) || failsI vars row n (l.drop (k+1)))):=by
    show _=_
    rw[H.out,hd,failsI,List.any_cons];rfl
   have HBB:=Lib.hid hB
   clear hx hd H hr hR hS hp hB
   generalize hn:(!(ofI vars row n y == 1))=q at *
   clear hn
   cases q
   ·go_wp2_with (go_at_call 37;refine hc.mono ?_;rintro e w1 ⟨rfl,hb1⟩)
    go_roundw
    case rel=>exact⟨k+1,by omega,by go_num,by show _=_;rw[H2.out];rfl,below_tr HBB.out hb1⟩
    case measure=>simp[intOf];omega
   ·go_wp2_with (go_at_call 37;refine hc.mono ?_;rintro e w1 ⟨rfl,hb1⟩)
    go_ret
    exact⟨k,rfl,by show decide _=_;rw[H2.out];simp,below_tr HBB.out hb1⟩
  ·have H2:Hid (failsI vars row n l=false):=by
    show _=_
    rw[H.out,List.drop_eq_nil_of_le (by omega)];rfl
   clear H hS hr hp
   go_wp2
   go_ret
   exact⟨-1,rfl,by show decide _=_;rw[H2.out];rfl,hB⟩
theorem filKeeps (vars:List ByteArray) (row:List Tm) (hv:vars.length<=281474976710656) (hrl:row.length<=281474976710656) (hzr:∀u∈row,u.x.size<=281474976710656) (n:Nat) (l:List (ExT n)) (A A1 A2:Option Addr) (c c1 c2:Nat) (w:World)
  (hr1:Rd w A1 (vars.map Value.string)) (hr2:RdTs w A2 row) (hr:RdEs n w A l) (hl:l.length<=1353245080300) (hz:∀x∈l,szE n x) :
  Calls Tryz.prog 16 #[.slice A l.length c,.slice A1 vars.length c1,.slice A2 row.length c2] w λe w'=>e=.returned (.bool (!failsI vars row n l))/\Below w.heap.size w w':=by
 have hC:∀(b:Nat) (p:Addr) (W:World),RdEs n W A l->W.cell? p=some (.pointer (some ⟨b,0,none⟩))->JudgeAt W b vars row ->
   Calls Tryz.prog 36 #[.slice A l.length c,.func (.func 37) #[] #[.pointer (some p)]] W λe w'=>e=.returned (.bool (failsI vars row n l))/\Below W.heap.size W w':=by
  intro b p W h1 h2 h3
  have hi:=filIdxKeeps vars row n l A c b p W hl h1 h2 λx hx W1 hW1 cs W2 hW2 hr=>filTruthAll vars row b hv hrl hzr n x cs W2 ((h3.later hW1).later hW2) hr (hz x hx)
  clear h1 h2 h3 hr hr1 hr2 hz hzr hl hv hrl
  go_enter Tryz.func36,Tryz.ntmps36
  go_wp2_with (go_at_call 80;refine hi.mono ?_;rintro e w1 ⟨i,rfl,hd,hb1⟩;have Hd:=Lib.hid hd;clear hd)
  go_ret
  exact⟨by have:=Hd.out;unfold IdxIs at this;rw[←this];rfl,hb1⟩
 have hO:=filOver vars row A1 A2 c1 c2 w hr1 hr2
 generalize failsI vars row n l=q at hC ⊢
 go_enter Tryz.func16,Tryz.ntmps16
 go_wp2_with fail
 refine hO.mono ?_
 rintro e w1 ⟨b,rfl,hj,hb1⟩
 have hb2:Below w1.heap.size w1 (w1.alloc (.cells #[.pointer (some ⟨b,0,none⟩)] 87)):=blw
 have hC2:=hC b ⟨w1.heap.size,0,none⟩ _ (RdEs.later (RdEs.later hr hb1) hb2) (by rw[World.cell?,heap_alloc_new];rfl) (hj.later hb2)
 clear hC hO hr hr1 hr2 hj hz hzr
 go_wp2_with fail
 refine hC2.mono ?_
 rintro e w2 ⟨rfl,hb3⟩
 cases q<;>(go_wp2;go_ret;exact⟨rfl,below_tr (below_tr hb1 hb2) hb3⟩)
open Tx Om Mp
def sortN (vars:List ByteArray) (keys:List Ky):Int:=if (placesL vars (keys.map (·.v))).contains (-1) then 15 else 0
def sortL (vars:List ByteArray) (keys:List Ky) (rows:List (List Tm)):List (List Tm):=if (placesL vars (keys.map (·.v))).contains (-1) then rows else sortK (keysP (placesL vars (keys.map (·.v))) keys) rows
theorem places_in {vars:List ByteArray} {names:List ByteArray} (h:(placesL vars names).contains (-1)=false):∀p∈placesL vars names,0<=p/\p<vars.length:=by
 intro p hp
 have hne:p ≠ -1:=λe=>by
  subst e
  rw[List.contains_iff_mem.2 hp]at h;cases h
 obtain⟨s,_,rfl⟩:=List.mem_map.1 hp
 have:=idxOfS_lt vars s
 omega
def projL (ps:List Int) (row:List Tm):List Tm:=ps.map λp=>row[p.toNat]!
def projN (vars names:List ByteArray):Int:=if !decide names.Nodup then 9 else if (placesL vars names).contains (-1) then 15 else 0
def keepL (vars:List ByteArray) (nf:Nat) (fils:List (ExT nf)) (rows:List (List Tm)):List (List Tm):=rows.filter λr => !failsI vars r nf fils
def subG (sz c q:Nat) (A:Option Addr):Option Addr:=if c=q then A else A.map (·.add (q*sz))
section
variable {P:Program} {T E:TypeId} {sz:Nat}
theorem run_fromG (hT:P.underlying T=some (.slice E)) (hs:∀w,(sizeOf E).run P w=.ok sz w) (A:Option Addr) (c q M:Nat) (hq:q<=M) (W:World) :
  (Instr.slice T (.slice A M c) (some (.int .i64 (q:Int))) none none).run P W=.ok (.slice (subG sz c q A) (M-q) (c-q)) W:=by
 have h1:(0:Int)<=(q:Int)/\(q:Int)<=(M:Int):=by omega
 unfold subG
 simp[Instr.slice,run_underlying hT,Instr.sliceBounds,Instr.sliceBound,asIntOf,h1,hs]
 intro h;omega
theorem run_toG (hT:P.underlying T=some (.slice E)) (hs:∀w,(sizeOf E).run P w=.ok sz w) (A:Option Addr) (c q M:Nat) (hq:q<=c) (W:World) :
  (Instr.slice T (.slice A M c) none (some (.int .i64 (q:Int))) none).run P W=.ok (.slice A q c) W:=by
 have h1:(0:Int)<=(q:Int)/\(q:Int)<=(c:Int):=by omega
 have hA:A.map (λx=>x.add 0)=A:=by
  cases A with
  | none=>rfl
  | some a=>simp[Addr.add]
 simp[Instr.slice,run_underlying hT,Instr.sliceBounds,Instr.sliceBound,asIntOf,h1,hs,hA]
 intro h;omega
end
theorem Rd.fromG {w:World} {A:Option Addr} {xs:List Value} {sz n c q:Nat} (h:Rd w A xs) (hx:xs.length=n*sz) (hn:n<=c) (hq:q<=n):Rd w (subG sz c q A) (xs.drop (q*sz)):=by
 unfold subG
 split
 ·next he =>
  obtain rfl:q=n:=by omega
  rw[List.drop_of_length_le (by omega)];exact .inl rfl
 ·rcases h with h0|⟨g,o,rfl,hc⟩
  ·subst h0;exact .inl (by simp)
  ·refine .inr ⟨g,o+q*sz,by rw[Option.map_some,Addr.add_mid],λj u hu=>?_⟩
   rw[Nat.add_assoc]
   exact hc _ _ (by rw[List.getElem?_drop]at hu;exact hu)
theorem RdL.fromG {α:Type} {sz:Nat} {R:List Value->α->Prop} {w:World} {A:Option Addr} {l:List α} {c q:Nat} (h:RdL sz R w A l) (hn:l.length<=c) (hq:q<=l.length):RdL sz R w (subG sz c q A) (l.drop q):=by
 obtain⟨xs,h1,h2⟩:=h
 exact⟨_,h1.fromG h2.len hn hq,h2.drop q⟩
def cutL (off lim:Int) (rows:List (List Tm)):List (List Tm):=if lim = -1 then rows.drop off.toNat else (rows.drop off.toNat).take lim.toNat
theorem results_row_tmp {P:Program} {fn:Func} {p u:Tmp} {ty:TypeId} (h:fn.results=#[.cell p ty,.tmp u]) (tmps:Array Value) (w:World) (g:Nat) (t:TypeId) (cs:Array Value) (fr:Nat × Nat) (d:TypeDesc) (v:Value)
  (hp:tmps.getD p undef=.pointer (some ⟨g,0,none⟩)) (hg:w.heap[g]?=some (Obj.cells cs t fr)) (hu:P.underlying ty=some d) (hd:(match d with | .struct _ | .array _ _=>true|_=>false)=true) (hi:(P.info? ty).map (·.size)=some cs.size) (hv:tmps.getD u undef=v) :
  (results fn tmps).run P w=.ok (.tuple #[.agg cs,v]) w:=by
 rw[results_cell_tmp h,hp,hv]
 simp[asAddr,Result.andThen,run_loadVar_row w g t ty cs fr d hg hu hd hi]
theorem right_rows {vars:List ByteArray} {rows:List (List Tm)} (h:rightT vars rows=true):∀r∈rows,r.length=vars.length:=by
 unfold rightT at h
 simp only[Bool.and_eq_true,Bool.not_eq_true',List.any_eq_false]at h
 intro r hr
 have:=h.2 r hr
 simpa using this
section
variable {w:World} {A B:Option Addr} {n c m d:Nat} {vars:List ByteArray} {rows:List (List Tm)}
end
section
variable {w:World} {A B:Option Addr} {n c m d:Nat} {vars:List ByteArray} {rows:List (List Tm)}
end
theorem keep_mem {vars:List ByteArray} {nf:Nat} {fils:List (ExT nf)} {rows:List (List Tm)} {r:List Tm} (h:r∈keepL vars nf fils rows):r∈rows:=(List.mem_filter.1 h).1
theorem keep_len (vars:List ByteArray) (nf:Nat) (fils:List (ExT nf)) (rows:List (List Tm)):(keepL vars nf fils rows).length<=rows.length:=List.length_filter_le _ _
theorem sortL_perm (vars:List ByteArray) (keys:List Ky) (rows:List (List Tm)):(sortL vars keys rows).Perm rows:=by
 unfold sortL
 split
 ·exact List.Perm.refl _
 ·exact List.mergeSort_perm _ _
theorem proj_mem {ps:List Int} {row:List Tm} (hp:∀p∈ps,0<=p/\p<(row.length:Int)) {t:Tm} (h:t∈projL ps row):t∈row:=by
 obtain⟨p,hm,rfl⟩:=List.mem_map.1 h
 have:=hp p hm
 rw[getElem!_pos row p.toNat (by omega)]
 exact List.getElem_mem _
theorem cmpRow_drop {a b:List Tm} {k:Nat} {x y:Tm} (hx:a[k]?=some x) (hy:b[k]?=some y):cmpRow (a.drop k) (b.drop k)=orZ (cmpTm x y) (cmpRow (a.drop (k+1)) (b.drop (k+1))):=by
 obtain⟨hl,e⟩:=List.getElem?_eq_some_iff.1 hx
 obtain⟨hl2,e2⟩:=List.getElem?_eq_some_iff.1 hy
 rw[List.drop_eq_getElem_cons hl,List.drop_eq_getElem_cons hl2,e,e2]
 rfl
theorem keep_step {vars:List ByteArray} {nf:Nat} {fils:List (ExT nf)} {rows:List (List Tm)} {r:List Tm} {k:Nat} (h:rows[k]?=some r):keepL vars nf fils (rows.take (k+1))=keepL vars nf fils (rows.take k)++(if failsI vars r nf fils then [] else [r]):=by
 unfold keepL
 rw[List.take_add_one,h,List.filter_append]
 congr 1
 cases hf:failsI vars r nf fils<;>simp[hf]
def ans3 (vars names:List ByteArray) (nf:Nat) (fils:List (ExT nf)) (keys:List Ky) (rows:List (List Tm)):List ByteArray × List (List Tm):=if projN vars names=0 then (names,(sortL vars keys (keepL vars nf fils rows)).map (projL (placesL vars names))) else (vars,sortL vars keys (keepL vars nf fils rows))
def ans4 (vars names:List ByteArray) (nf:Nat) (fils:List (ExT nf)) (keys:List Ky) (dist:Bool) (rows:List (List Tm)):List (List Tm):=if dist then onceL (ans3 vars names nf fils keys rows).2 else (ans3 vars names nf fils keys rows).2
theorem places_ok {vars names:List ByteArray} (h:projN vars names=0):∀p∈placesL vars names,0<=p/\p<vars.length:=by
 refine places_in ?_
 unfold projN at h
 split at h
 ·cases h
 ·split at h
  ·cases h
  ·rename_i h2
   simpa using h2
theorem once_len {α:Type} [DecidableEq α] (l:List α):(onceL l).length<=l.length:=by
 have h1:∀(acc:List α) (r:α),(onceF acc r).length<=acc.length+1:=λacc r=>by
  unfold onceF
  split<;>simp
 have h2:∀(l acc:List α),(l.foldl onceF acc).length<=acc.length+l.length:=by
  intro l
  induction l with
  | nil=>intro acc;simp
  | cons x l ih =>
   intro acc
   have:=ih (onceF acc x)
   have:=h1 acc x
   simp only[List.foldl_cons,List.length_cons]
   omega
 have:=h2 l []
 simpa[onceL] using this
section
variable {w:World} {A B:Option Addr} {n c m d:Nat} {vars:List ByteArray} {rows:List (List Tm)}
end
theorem idx_is:∀{vars:List ByteArray} {k:Nat} {x:ByteArray},vars[k]?=some x->x ∉ vars.take k->Lib.idxOfS vars x=(k:Int)
 | [],_,_,h,_=>by simp at h
 | z::zs,0,x,h,_=>by
  have hz:z=x:=by simpa using h
  subst hz
  unfold Lib.idxOfS Lib.idxFromS
  simp
 | z::zs,k+1,x,h,hm=>by
  rw[List.take_succ_cons,List.mem_cons,_root_.not_or]at hm
  rw[idxOfS_cons _ _ _ (λe=>hm.1 e.symm),idx_is (vars:=zs) (k:=k) (by simpa using h) hm.2,if_neg (by omega)]
  omega
open Um Lx
theorem run_neTm (a b:Tm) (W:World):(binOp .neq 26 (.agg #[.int .i64 a.k,.string a.x,.string a.l,.string a.y]) (.agg #[.int .i64 b.k,.string b.x,.string b.l,.string b.y])).run Tryz.prog W=.ok (.bool (!sameTm a b)) W:=by
 have h0:=Tryz.underlying26
 have h1:=Tryz.underlying24
 have h2:=Tryz.underlying9
 unfold sameTm
 simp only[go_sem,h0]
 cases e1:(a.k == b.k)
 ·simp[go_sem,h0,h1,h2,e1]
 cases e2:(a.x.toList == b.x.toList)
 ·simp[go_sem,h0,h1,h2,e1,e2]
 cases e3:(a.l.toList == b.l.toList)
 ·simp[go_sem,h0,h1,h2,e1,e2,e3]
 cases e4:(a.y.toList == b.y.toList)
 ·simp[go_sem,h0,h1,h2,e1,e2,e3,e4]
 simp[go_sem,h0,h1,h2,e1,e2,e3,e4]
theorem same_drop {a b:List Tm} {k:Nat} {x z:Tm} (hx:a[k]?=some x) (hz:b[k]?=some z):(a.drop k=b.drop k↔x=z/\a.drop (k+1)=b.drop (k+1)):=by
 rw[drop_cons_of hx,drop_cons_of hz,List.cons.injEq]
open Mt
theorem below_drewN' {B:Nat} {a w:World} (h:Below B a w) (n:Nat):Below B a (w.drewN n):=⟨h.os,h.tape,h.output,h.size,h.block⟩
def sameTs (a b:List ByteArray):Bool:=decide (a=b)
def sameTo (a b:List ByteArray) (k:Nat):Prop:=∀j,j<k->a[j]?=b[j]?
theorem sameTexts (a b:List ByteArray) (A B:Option Addr) (c d:Nat) (w:World) (ha:Rd w A (a.map Value.string)) (hb:Rd w B (b.map Value.string)) (hl:a.length<=281474976710656) (hl2:b.length<=281474976710656) :
  Calls Tryz.prog 23 #[.slice A a.length c,.slice B b.length d] w λe w'=>e=.returned (.bool (sameTs a b))/\Below w.heap.size w w':=by
 by_cases hlen:a.length=b.length
 case neg =>
  have hne:sameTs a b=false:=by unfold sameTs;simp;intro h;exact hlen (by rw[h])
  have h1:((a.length:Int) != (b.length:Int))=true:=by rw[bne_iff_ne];omega
  rw[hne]
  clear hne hlen
  go_enter Tryz.func23,Tryz.ntmps23
  go_wp2
  go_ret
  exact⟨rfl,Below.refl _ _⟩
 have h1:((a.length:Int) != (b.length:Int))=false:=by simp;omega
 have hab:a.length<=b.length:=by omega
 have Hlen:=Lib.hid hlen
 clear hlen
 go_enter Tryz.func23,Tryz.ntmps23
 go_wp2
 go_loopw [5] (λi wr=>∃k:Nat,k<=a.length/\i=.int .i64 k/\Below w.heap.size w wr/\Hid (sameTo a b k)) (λi _=>a.length-(intOf i).toNat)
 case atStart=>exact⟨0,by omega,rfl,Below.refl _ _,λj h=>by omega⟩
 case round =>
  obtain⟨k,hk,rfl,hB,H⟩:=hrel
  by_cases hlt:k<a.length
  ·obtain⟨x,hx⟩:∃x,a[k]?=some x:=⟨_,List.getElem?_eq_getElem hlt⟩
   obtain⟨y,hy⟩:∃x,b[k]?=some x:=⟨_,List.getElem?_eq_getElem (by omega)⟩
   obtain⟨g,o,rfl,hcx⟩:=(ha.below hB (Nat.le_refl _)).at_ (j:=k) (u:=.string x) (by simp[hx])
   obtain⟨g',o',rfl,hcy⟩:=(hb.below hB (Nat.le_refl _)).at_ (j:=k) (u:=.string y) (by simp[hy])
   have Hx:=Lib.hid hx
   have Hy:=Lib.hid hy
   have hlt2:k<b.length:=by omega
   clear hx hy ha hb
   cases hq:(x.toList == y.toList)
   ·have hne:sameTs a b=false:=by
     unfold sameTs;simp;intro h;subst h
     have:=Hx.out.symm.trans Hy.out
     injection this with this
     subst this
     simp at hq
    have hq2:(x.toList != y.toList)=true:=by rw[bne,hq];rfl
    have Hne:=Lib.hid hne
    clear hne
    go_wp2
    go_quiet (fail)
    go_wp2
    go_ret
    exact⟨by rw[Hne.out];rfl,below_drewN' hB nq⟩
   ·have hxy:Hid (x=y):=(Lib.bytes_beq_iff x y).1 hq
    have hq2:(x.toList != y.toList)=false:=by rw[bne,hq];rfl
    go_wp2
    go_quiet (fail)
    go_wp2
    go_roundw
    case rel=>exact⟨k+1,by omega,by go_num,below_drewN' hB nq,λj hj=>by
     rcases Nat.lt_or_ge j k with h|h
     ·exact H.out j h
     ·have:j=k:=by omega
      subst this;rw[Hx.out,Hy.out,hxy.out]⟩
    case measure=>simp[intOf];omega
  ·have he:sameTs a b=true:=by
    unfold sameTs;simp
    refine List.ext_getElem? λj=>?_
    rcases Nat.lt_or_ge j k with h|h
    ·exact H.out j h
    ·rw[List.getElem?_eq_none (by omega),List.getElem?_eq_none (by have:=Hlen.out;omega)]
   have He:=Lib.hid he
   clear he ha hb
   go_wp2
   go_ret
   exact⟨by rw[He.out];rfl,hB⟩
theorem kitSameTerms (a b:List Tm) (A B:Option Addr) (c d n m:Nat) (w:World) (hn:a.length=n) (hm:b.length=m) (hln:n<=1000000) (hlm:m<=1000000) (ha:RdTs w A a) (hb:RdTs w B b) :
  Calls Tryz.prog 43 #[.slice A n c,.slice B m d] w λe w'=>e=.returned (.bool (decide (a=b)))/\Below w.heap.size w w':=by
 obtain⟨res,hres⟩:∃r,decide (a=b)=r:=⟨_,rfl⟩
 rw[hres]
 by_cases hnm:n=m
 case neg =>
  have hr:res=false:=by
   rw[←hres,decide_eq_false_iff_not]
   intro h
   rw[h]at hn
   omega
  subst hr
  have hd:((n:Int) != (m:Int))=true:=by rw[bne_iff_ne];omega
  clear hn hm ha hb hres hnm
  go_enter Tryz.func43,Tryz.ntmps43
  go_wp2
  go_ret
  exact⟨rfl,Below.refl _ _⟩
 subst hnm
 have H:=Lib.hid (And.intro hn (And.intro hm (And.intro ha (And.intro hb hres))))
 clear hn hm ha hb hres
 go_enter Tryz.func43,Tryz.ntmps43
 go_wp2
 go_loopw [5] (λi wr=>∃k:Nat,k<=n/\i=.int .i64 k/\Hid (a=b↔a.drop k=b.drop k)/\Hid (Below w.heap.size w wr)) (λi _=>n-(intOf i).toNat)
 case atStart=>exact⟨0,by omega,rfl,Iff.rfl,Below.refl _ _⟩
 case round =>
  obtain⟨k,hk,rfl,H1,HB⟩:=hrel
  obtain⟨hn,hm,ha,hb,hres⟩:=H.out
  by_cases hlt:k<n
  ·obtain⟨x,hx1⟩:∃x,a[k]?=some x:=⟨_,List.getElem?_eq_getElem (by omega)⟩
   obtain⟨z,hz1⟩:∃z,b[k]?=some z:=⟨_,List.getElem?_eq_getElem (by omega)⟩
   obtain⟨g1,o1,rfl,b0,b1,b2,b3⟩:=(RdTs.later ha HB.out).at4 hx1
   obtain⟨g2,o2,rfl,d0,d1,d2,d3⟩:=(RdTs.later hb HB.out).at4 hz1
   have hsd:=same_drop hx1 hz1
   have x0:=λd os=>cell_on b0 (below_regrown wr d os)
   have x1:=λd os=>cell_on b1 (below_regrown wr d os)
   have x2:=λd os=>cell_on b2 (below_regrown wr d os)
   have x3:=λd os=>cell_on b3 (below_regrown wr d os)
   have y0:=λd os=>cell_on d0 (below_regrown wr d os)
   have y1:=λd os=>cell_on d1 (below_regrown wr d os)
   have y2:=λd os=>cell_on d2 (below_regrown wr d os)
   have y3:=λd os=>cell_on d3 (below_regrown wr d os)
   by_cases he:x=z
   ·have hne:=λW=>run_neTm x z W
    rw[show sameTm x z=true from sameTm_iffT.2 he]at hne
    have H2:Hid (a=b↔a.drop (k+1)=b.drop (k+1)):=by
     show _↔_
     rw[H1.out,hsd]
     exact⟨λh=>h.2,λh=>⟨he,h⟩⟩
    clear hx1 hz1 b0 b1 b2 b3 d0 d1 d2 d3 hn hm ha hb hres H1 hsd he
    go_wp2
    refine wrq ?_;(repeat (any_goals (go_big_quiet_step ((fail)))));all_goals (refine wqn ?_;intro d9 os9)
    have kq:=Lib.hid (below_tr HB.out (below_regrown wr d9 os9))
    clear x0 x1 x2 x3 y0 y1 y2 y3
    generalize Sort.grow (redrawn wr d9) os9=w3 at *
    go_wp2
    go_roundw
    case rel=>exact⟨k+1,by omega,by go_num,H2,kq⟩
    case measure=>simp[intOf];omega
   ·have hne:=λW=>run_neTm x z W
    rw[show sameTm x z=false from by
     cases h:sameTm x z with
     | false=>rfl
     | true=>exact absurd (sameTm_iffT.1 h) he]at hne
    have H2:Hid (res=false):=by
     show _=_
     rw[←hres,decide_eq_false_iff_not,H1.out,hsd]
     exact λh=>he h.1
    clear hx1 hz1 b0 b1 b2 b3 d0 d1 d2 d3 hn hm ha hb hres H1 hsd he
    go_wp2
    refine wrq ?_;(repeat (any_goals (go_big_quiet_step ((fail)))));all_goals (refine wqn ?_;intro d9 os9)
    have kq:=Lib.hid (below_tr HB.out (below_regrown wr d9 os9))
    clear x0 x1 x2 x3 y0 y1 y2 y3
    generalize Sort.grow (redrawn wr d9) os9=w3 at *
    go_wp2
    go_ret
    exact⟨by rw[H2.out];rfl,kq.out⟩
  ·obtain rfl:k=n:=by omega
   have H2:Hid (res=true):=by
    show _=_
    rw[←hres,decide_eq_true_iff,H1.out,drop_end a hn,drop_end b hm]
   clear hn hm ha hb hres H1
   go_wp2
   go_ret
   exact⟨by rw[H2.out];rfl,HB.out⟩
theorem same_dropR {a b:List (List Tm)} {k:Nat} {x z:List Tm} (hx:a[k]?=some x) (hz:b[k]?=some z):(a.drop k=b.drop k↔x=z/\a.drop (k+1)=b.drop (k+1)):=by
 rw[drop_cons_of hx,drop_cons_of hz,List.cons.injEq]
theorem kitSameRows (a b:List (List Tm)) (A B:Option Addr) (c d n m:Nat) (w:World) (hn:a.length=n) (hm:b.length=m) (hln:n<=1000000) (hlm:m<=1000000) (hza:∀r∈a,r.length<=1000000) (hzb:∀r∈b,r.length<=1000000) (ha:RdRs w A a) (hb:RdRs w B b) :
  Calls Tryz.prog 18 #[.slice A n c,.slice B m d] w λe w'=>e=.returned (.bool (decide (a=b)))/\Below w.heap.size w w':=by
 obtain⟨res,hres⟩:∃r,decide (a=b)=r:=⟨_,rfl⟩
 rw[hres]
 by_cases hnm:n=m
 case neg =>
  have hr:res=false:=by
   rw[←hres,decide_eq_false_iff_not]
   intro h
   rw[h]at hn
   omega
  subst hr
  have hd:((n:Int) != (m:Int))=true:=by rw[bne_iff_ne];omega
  clear hn hm ha hb hres hnm hza hzb
  go_enter Tryz.func18,Tryz.ntmps18
  go_wp2
  go_ret
  exact⟨rfl,Below.refl _ _⟩
 subst hnm
 have H:=Lib.hid (And.intro hn (And.intro hm (And.intro ha (And.intro hb (And.intro hza (And.intro hzb hres))))))
 clear hn hm ha hb hres hza hzb
 go_enter Tryz.func18,Tryz.ntmps18
 go_wp2
 go_loopw [5] (λi wr=>∃k:Nat,k<=n/\i=.int .i64 k/\Hid (a=b↔a.drop k=b.drop k)/\Hid (Below w.heap.size w wr)) (λi _=>n-(intOf i).toNat)
 case atStart=>exact⟨0,by omega,rfl,Iff.rfl,Below.refl _ _⟩
 case round =>
  obtain⟨k,hk,rfl,H1,HB⟩:=hrel
  obtain⟨hn,hm,ha,hb,hza,hzb,hres⟩:=H.out
  by_cases hlt:k<n
  ·obtain⟨x,hx1⟩:∃x,a[k]?=some x:=⟨_,List.getElem?_eq_getElem (by omega)⟩
   obtain⟨z,hz1⟩:∃z,b[k]?=some z:=⟨_,List.getElem?_eq_getElem (by omega)⟩
   obtain⟨g1,o1,A1,c1,rfl,hc1,_,hr1⟩:=(ha.later HB.out).at1 hx1
   obtain⟨g2,o2,A2,c2,rfl,hc2,_,hr2⟩:=(hb.later HB.out).at1 hz1
   have hsd:=same_dropR hx1 hz1
   have hS:=λd os=>kitSameTerms x z A1 A2 c1 c2 x.length z.length (Sort.grow (redrawn wr d) os) rfl rfl (hza x (List.mem_of_getElem? hx1)) (hzb z (List.mem_of_getElem? hz1)) (hr1.later (below_regrown wr d os)) (hr2.later (below_regrown wr d os))
   have e1:=λd os=>cell_on hc1 (below_regrown wr d os)
   have e2:=λd os=>cell_on hc2 (below_regrown wr d os)
   by_cases he:x=z
   ·rw[show decide (x=z)=true from decide_eq_true he]at hS
    have H2:Hid (a=b↔a.drop (k+1)=b.drop (k+1)):=by
     show _↔_
     rw[H1.out,hsd]
     exact⟨λh=>h.2,λh=>⟨he,h⟩⟩
    generalize x.length=lx at *
    generalize z.length=lz at *
    clear hx1 hz1 hn hm ha hb hres hza hzb H1 hsd he hc1 hc2 hr1 hr2
    go_wp2
    refine wrq ?_;(repeat (any_goals (go_big_quiet_step ((go_at_call 43;exact Calls.regrown_of (hS _ _))))));all_goals (refine wqn ?_;intro d9 os9)
    have kq:=Lib.hid (below_tr HB.out (below_regrown wr d9 os9))
    go_wp2
    go_roundw
    case rel=>exact⟨k+1,by omega,by go_num,H2,kq⟩
    case measure=>simp[intOf];omega
   ·rw[show decide (x=z)=false from decide_eq_false he]at hS
    have H2:Hid (res=false):=by
     show _=_
     rw[←hres,decide_eq_false_iff_not,H1.out,hsd]
     exact λh=>he h.1
    generalize x.length=lx at *
    generalize z.length=lz at *
    clear hx1 hz1 hn hm ha hb hres hza hzb H1 hsd he hc1 hc2 hr1 hr2
    go_wp2
    refine wrq ?_;(repeat (any_goals (go_big_quiet_step ((go_at_call 43;exact Calls.regrown_of (hS _ _))))));all_goals (refine wqn ?_;intro d9 os9)
    have kq:=Lib.hid (below_tr HB.out (below_regrown wr d9 os9))
    go_wp2
    go_ret
    exact⟨by rw[H2.out];rfl,kq.out⟩
  ·obtain rfl:k=n:=by omega
   have H2:Hid (res=true):=by
    show _=_
    rw[←hres,decide_eq_true_iff,H1.out,drop_end a hn,drop_end b hm]
   clear hn hm ha hb hres hza hzb H1
   go_wp2
   go_ret
   exact⟨by rw[H2.out];rfl,HB.out⟩
end Go.Proofs.YtoaemihcbmlkgaaGreatDoor
