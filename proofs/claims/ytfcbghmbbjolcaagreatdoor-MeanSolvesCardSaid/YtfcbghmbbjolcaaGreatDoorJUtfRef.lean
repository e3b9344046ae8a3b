/- The program's package filter, walked: over, set, Of, Keeps. -/
import Derived.Test.YtfcbghmbbjolcaaGreatDoorJFilTruth
set_option maxHeartbeats 1000000
set_option maxRecDepth 10000
namespace Go.Proofs.YtfcbghmbbjolcaaGreatDoor
open Go Go.RowKit Go.Maps Go.ChangeMaps Fm
theorem cn {w w':World} {r:Nat} {q:IntKind} {kvs:List (Int × Value)} (hm:bE w q r kvs) (hg:w.grownBy w' (some r)) {p:Addr} {u:Value} (h:w.cell? p=some u):w'.cell? p=some u:=by
 obtain⟨es,cl,hr,_⟩:=hm
 have hne:p.block≠r:=by
  intro e
  rw[World.cell?,e,hr]at h
  cases h
 have hb:=hg.block p.block (ag h) (λe=>hne (by injection e))
 rw[World.cell?,hb]
 exact h
theorem qV {w w':World} {r:Nat} {q:IntKind} {kvs:List (Int × Value)} (hm:bE w q r kvs) (hg:w.grownBy w' (some r)) {A:Option Addr} {xs:List Value} (h:Rd w A xs):Rd w' A xs:=by
 rcases h with h|⟨g,o,hA,hc⟩
 ·exact .inl h
 ·exact .inr ⟨g,o,hA,λj u hu=>cn hm hg (hc j u hu)⟩
theorem uj {a b c:World} {r:Nat} (h:a.grownBy b (some r)) (k:b.grownBy c (some r)):a.grownBy c (some r):=
 ⟨k.os.trans h.os,k.tape.trans h.tape,k.output.trans h.output,Nat.le_trans h.size k.size,λi hi hne=>(k.block i (Nat.lt_of_lt_of_le hi h.size) hne).trans (h.block i hi hne)⟩
theorem Io (b r:Nat) (v:Value) (kvs:List (Int × Value)) (ks:List Int) (A:Option Addr) (c:Nat) (w:World) (hl:ks.length<=1000) (hr:Rd w A (ks.map (Value.int .i64))) (hm:bE w .i64 r kvs)
  (hj:w.cell? ⟨b,2,none⟩=some (.map (some r))) (hn:∀(j:Nat) x,ks[j]?=some x->(kvs++(ks.take j).map λk=>(k,v)).find? (λp=>p.1 == x)=none) :
  Calls Tryz.prog 123 #[.pointer (some ⟨b,0,none⟩),v,.slice A ks.length c] w λe w'=>(∃u,e=.returned u)/\bE w' .i64 r (kvs++ks.map λk=>(k,v))/\w.grownBy w' (some r):=by
 go_enter Tryz.func123,Tryz.ntmps123
 go_wp2
 go_loopw [10] (λi wr=>∃j:Nat,j<=ks.length/\i=.int .i64 j/\bE wr .i64 r (kvs++(ks.take j).map λk=>(k,v))/\w.grownBy wr (some r)) (λi _=>ks.length-(intOf i).toNat)
 case atStart=>exact⟨0,by omega,rfl,by simpa using hm,rfl,rfl,rfl,Nat.le_refl _,λ_ _ _=>rfl⟩
 case round =>
  obtain⟨j,hj1,rfl,hM,hg⟩:=hrel
  by_cases hlt:j<ks.length
  ·obtain⟨x,hx⟩:∃x,ks[j]?=some x:=⟨_,List.getElem?_eq_getElem hlt⟩
   obtain⟨g,o,rfl,hcx⟩:=(qV hm hg hr).at_ (j:=j) (u:=.int .i64 x) (by simp[hx])
   have hj2:=cn hm hg hj
   have hnn:=hn j x hx
   have Hts:=Lib.hid (ah hx)
   have Hg:=Lib.hid hg
   have Hn:=Lib.hid hn
   have Hm:=Lib.hid hm
   clear hx hn hg hm hr hj
   go_wp2_with (at_mapUpdate;refine cF _ rfl _ _ _ _ rfl Tryz.underlying179 Tryz.underlying66 rfl hM x v rfl rfl hnn ?_;intro w2 hM2 hg2)
   go_roundw
   case rel=>exact⟨j+1,by omega,by go_num,by rw[Hts.out];simpa using hM2,uj Hg.out hg2⟩
   case measure=>simp[intOf];omega
  ·have hk2:ks.take j=ks:=List.take_of_length_le (by omega)
   rw[hk2]at hM
   clear hk2 hn hm hr
   go_wp2
   go_end0
   exact⟨⟨_,rfl⟩,hM,hg⟩
theorem wy {kvs:List (Int × Value)} {ks:List Int} {v:Value} (h:(kvs.map (·.1)++ks).Nodup) (j:Nat) (x:Int) (hx:ks[j]?=some x):(kvs++(ks.take j).map λk=>(k,v)).find? (λp=>p.1 == x)=none:=by
 rw[List.nodup_append]at h
 obtain⟨_,h2,h3⟩:=h
 rw[List.find?_eq_none]
 intro p hp
 simp only[beq_iff_eq]
 intro e
 rcases List.mem_append.1 hp with hp|hp
 ·exact h3 _ (List.mem_map_of_mem hp) _ (List.mem_of_getElem? hx) e
 ·obtain⟨k,hk,rfl⟩:=List.mem_map.1 hp
  simp only at e
  subst e
  rw[←List.take_append_drop j ks,List.nodup_append]at h2
  exact h2.2.2 k hk k (by rw[ai hx];simp) rfl
structure ym (w0 w:World) (b r:Nat) (x0 x1:Value) (kvs:List (Int × Value)):Prop where
 below:Below w0.heap.size w0 w
 lo:w0.heap.size<=r
 c0:w.cell? ⟨b,0,none⟩=some x0
 c1:w.cell? ⟨b,1,none⟩=some x1
 c2:w.cell? ⟨b,2,none⟩=some (.map (some r))
 m:bE w .i64 r kvs
theorem ym.set {w0 w:World} {b r:Nat} {x0 x1:Value} {kvs:List (Int × Value)} (h:ym w0 w b r x0 x1 kvs) (v:Value) (ks:List Int) (n:Nat) (hn:ks.length=n) (hl:n<=1000) (ty:TypeId) (B:Nat) (hB:w.heap.size=B) (cs:Array Value) (hcs:cs.toList=ks.map (Value.int .i64)) (hd:(kvs.map (·.1)++ks).Nodup) :
  Calls Tryz.prog 123 #[.pointer (some ⟨b,0,none⟩),v,.slice (some ⟨B,0,none⟩) n n] (w.alloc (.cells cs ty))
   λe w'=>(∃u,e=.returned u)/\ym w0 w' b r x0 x1 (kvs++ks.map λk=>(k,v)):=by
 subst hn hB
 have hb:Below w.heap.size w (w.alloc (.cells cs ty)):=blw
 have on:∀{p:Addr} {u:Value},w.cell? p=some u->(w.alloc (.cells cs ty)).cell? p=some u:=λh=>ac h hb
 refine(Io b r v kvs ks (some ⟨w.heap.size,0,none⟩) ks.length _ hl (Rd.of_block (heap_alloc_new _ _) hcs) (h.m.later hb) (on h.c2) (λj x hx=>wy hd j x hx)).mono ?_
 rintro e w' ⟨hu,hm,hg⟩
 exact⟨hu,(aa h.below hb).grown hg (aa h.below hb).size λk e=>by injection e with e;subst e;exact h.lo,h.lo,cn (h.m.later hb) hg (on h.c0),cn (h.m.later hb) hg (on h.c1),cn (h.m.later hb) hg (on h.c2),hm⟩
theorem FF (vars:List ByteArray) (row:List Tm) (A1 A2:Option Addr) (c1 c2:Nat) (w:World) (hr1:Rd w A1 (vars.map Value.string)) (hr2:RdTs w A2 row) :
  Calls Tryz.prog 71 #[.slice A1 vars.length c1,.slice A2 row.length c2] w λe w'=>∃b,e=.returned (.pointer (some ⟨b,0,none⟩))/\dx w' b vars row/\Below w.heap.size w w':=by
 have hmm:=@run_makeMap Tryz.prog
 go_enter Tryz.func71,Tryz.ntmps71
 have hM0:ym w ((w.alloc (Obj.map #[] 0)).alloc (Obj.cells #[.slice A1 vars.length c1,.slice A2 row.length c2,.map (some w.heap.size)] 181)) (w.heap.size+1) w.heap.size (.slice A1 vars.length c1) (.slice A2 row.length c2) []:=by
  refine⟨blw,Nat.le_refl _,?_,?_,?_,⟨#[],0,?_,rfl⟩⟩
  ·rw[World.cell?,av];rfl
  ·rw[World.cell?,av];rfl
  ·rw[World.cell?,av];rfl
  ·rw[aL]
 go_wp2_with fail
 have hs0:=λv=>hM0.set v [1,2] 2 rfl (by decide) 66 _ rfl #[.int .i64 1,.int .i64 2] rfl (show (([]:List Int)++[1,2]).Nodup by decide)
 try simp only[World.size_alloc]at hs0
 refine((hs0 _).mono ?_)
 rintro e w1 ⟨⟨u0,rfl⟩,hM1⟩
 go_wp2_with fail
 have hs1:=λv=>hM1.set v [3] 1 rfl (by decide) 66 _ rfl #[.int .i64 3] rfl (show (([1,2]:List Int)++[3]).Nodup by decide)
 try simp only[World.size_alloc]at hs1
 refine((hs1 _).mono ?_)
 rintro e w2 ⟨⟨u1,rfl⟩,hM2⟩
 go_wp2_with fail
 have hs2:=λv=>hM2.set v [4,5] 2 rfl (by decide) 66 _ rfl #[.int .i64 4,.int .i64 5] rfl (show (([1,2,3]:List Int)++[4,5]).Nodup by decide)
 try simp only[World.size_alloc]at hs2
 refine((hs2 _).mono ?_)
 rintro e w3 ⟨⟨u2,rfl⟩,hM3⟩
 go_wp2_with fail
 have hs3:=λv=>hM3.set v [6,7,8,9,10,11] 6 rfl (by decide) 66 _ rfl #[.int .i64 6,.int .i64 7,.int .i64 8,.int .i64 9,.int .i64 10,.int .i64 11] rfl (show (([1,2,3,4,5]:List Int)++[6,7,8,9,10,11]).Nodup by decide)
 try simp only[World.size_alloc]at hs3
 refine((hs3 _).mono ?_)
 rintro e w4 ⟨⟨u3,rfl⟩,hM4⟩
 go_wp2_with fail
 have hs4:=λv=>hM4.set v [12,13,14] 3 rfl (by decide) 66 _ rfl #[.int .i64 12,.int .i64 13,.int .i64 14] rfl (show (([1,2,3,4,5,6,7,8,9,10,11]:List Int)++[12,13,14]).Nodup by decide)
 try simp only[World.size_alloc]at hs4
 refine((hs4 _).mono ?_)
 rintro e w5 ⟨⟨u4,rfl⟩,hM5⟩
 go_wp2
 go_ret
 exact⟨_,rfl,⟨A1,A2,c1,c2,_,hM5.c0,hM5.c1,hM5.c2,hM5.m,hr1.later hM5.below,RdTs.later hr2 hM5.below⟩,hM5.below⟩
def bG (vars:List ByteArray) (row:List Tm) (n:Nat) (l:List (ExT n)):Bool:=l.any λx => !(ofI vars row n x == 1)
theorem zR (vars:List ByteArray) (row:List Tm) (n:Nat) (x:ExT n) (cs:List Value) (b:Nat) (p:Addr) (w:World) (hp:w.cell? p=some (.pointer (some ⟨b,0,none⟩))) (hx:RdE n w cs x) (hS:Eh vars row b w n x) :
  Calls Tryz.prog 73 #[.agg cs.toArray,.pointer (some p)] w λe w'=>e=.returned (.bool (!(ofI vars row n x == 1)))/\Below w.heap.size w w':=by
 have hcs:∃(k:Int) (s:ByteArray) (t:Tm) (A:Option Addr) (m c:Nat),cs=[.int .i64 k,.string s,.int .i64 t.k,.string t.x,.string t.l,.string t.y,.slice A m c]:=by
  match n,x,hx with
  | n+1,(k,s,t,kids),⟨A,c,h,_⟩=>exact⟨k,s,t,A,_,c,h⟩
 obtain⟨k,s,t,A,m,c,rfl⟩:=hcs
 have hB0:Below w.heap.size w (w.alloc (.cells #[.int .i64 k,.string s,.int .i64 t.k,.string t.x,.string t.l,.string t.y,.slice A m c] 68)):=blw
 have hS':=hS _ _ hB0 (hx.later hB0)
 have hp':=ac hp hB0
 generalize ofI vars row n x=v at *
 have HB0:=Lib.hid hB0
 clear hS hx hB0
 go_enter Tryz.func73,Tryz.ntmps73
 go_wp2_with fail
 refine hS'.mono ?_
 rintro e w2 ⟨rfl,hb2⟩
 have HB:=Lib.hid (aa HB0.out hb2)
 clear hb2 hS'
 go_wp2
 go_ret
 exact⟨rfl,HB.out⟩
theorem uu (vars:List ByteArray) (row:List Tm) (n:Nat) (l:List (ExT n)) (A:Option Addr) (c:Nat) (b:Nat) (p:Addr) (w:World) (hl:l.length<=1353245080300) (hr:aJ n w A l) (hp:w.cell? p=some (.pointer (some ⟨b,0,none⟩)))
  (hS:∀x∈l,∀W,Below w.heap.size w W->Eh vars row b W n x) :
  Calls Tryz.prog 129 #[.slice A l.length c,.func (.func 73) #[] #[.pointer (some p)]] w λe w'=>∃i:Int,e=.returned (.int .i64 i)/\fh i (bG vars row n l)/\Below w.heap.size w w':=by
 have hl':(l.length:Int)<=1353245080300:=by omega
 go_enter Tryz.func129,Tryz.ntmps129
 go_wp2
 go_loopw [8] (λi wr=>∃k:Nat,k<=l.length/\i=.int .i64 k/\Hid (bG vars row n l=bG vars row n (l.drop k))/\Below w.heap.size w wr) (λi _=>l.length-(intOf i).toNat)
 case atStart=>exact⟨0,by omega,rfl,rfl,Below.refl _ _⟩
 case round =>
  obtain⟨k,hk,rfl,H,hB⟩:=hrel
  by_cases hlt:k<l.length
  ·obtain⟨y,hx⟩:∃x,l[k]?=some x:=⟨_,List.getElem?_eq_getElem hlt⟩
   obtain⟨g,o,k',s',t',A',m',d',rfl,hR,c0,c1,c2,c3,c4,c5,c6⟩:=(aJ.later hr hB).atv hx
   have hd:=ai hx
   have hc:=zR vars row n y _ b p wr (ac hp hB) hR (hS y (List.mem_of_getElem? hx) wr hB)
   have H2:Hid (bG vars row n l=(!(ofI vars row n y == 1) || bG vars row n (l.drop (k+1)))):=by
    show _=_
    rw[H.out,hd,bG,List.any_cons];rfl
   have HBB:=Lib.hid hB
   clear hx hd H hr hR hS hp hB
   generalize hn:(!(ofI vars row n y == 1))=q at *
   clear hn
   cases q
   ·go_wp2_with (go_at_call 73;refine hc.mono ?_;rintro e w1 ⟨rfl,hb1⟩)
    go_roundw
    case rel=>exact⟨k+1,by omega,by go_num,by show _=_;rw[H2.out];rfl,aa HBB.out hb1⟩
    case measure=>simp[intOf];omega
   ·go_wp2_with (go_at_call 73;refine hc.mono ?_;rintro e w1 ⟨rfl,hb1⟩)
    go_ret
    exact⟨k,rfl,by show decide _=_;rw[H2.out];simp,aa HBB.out hb1⟩
  ·have H2:Hid (bG vars row n l=false):=by
    show _=_
    rw[H.out,List.drop_eq_nil_of_le (by omega)];rfl
   clear H hS hr hp
   go_wp2
   go_ret
   exact⟨-1,rfl,by show decide _=_;rw[H2.out];rfl,hB⟩
theorem ut (vars:List ByteArray) (row:List Tm) (hv:vars.length<=281474976710656) (hrl:row.length<=281474976710656) (hzr:∀u∈row,u.x.size<=281474976710656) (n:Nat) (l:List (ExT n)) (A A1 A2:Option Addr) (c c1 c2:Nat) (w:World)
  (hr1:Rd w A1 (vars.map Value.string)) (hr2:RdTs w A2 row) (hr:aJ n w A l) (hl:l.length<=1353245080300) (hz:∀x∈l,szE n x) :
  Calls Tryz.prog 37 #[.slice A l.length c,.slice A1 vars.length c1,.slice A2 row.length c2] w λe w'=>e=.returned (.bool (!bG vars row n l))/\Below w.heap.size w w':=by
 have hC:∀(b:Nat) (p:Addr) (W:World),aJ n W A l->W.cell? p=some (.pointer (some ⟨b,0,none⟩))->dx W b vars row ->
   Calls Tryz.prog 72 #[.slice A l.length c,.func (.func 73) #[] #[.pointer (some p)]] W λe w'=>e=.returned (.bool (bG vars row n l))/\Below W.heap.size W w':=by
  intro b p W h1 h2 h3
  have hi:=uu vars row n l A c b p W hl h1 h2 λx hx W1 hW1 cs W2 hW2 hr=>uo vars row b hv hrl hzr n x cs W2 ((h3.later hW1).later hW2) hr (hz x hx)
  clear h1 h2 h3 hr hr1 hr2 hz hzr hl hv hrl
  go_enter Tryz.func72,Tryz.ntmps72
  go_wp2_with (go_at_call 129;refine hi.mono ?_;rintro e w1 ⟨i,rfl,hd,hb1⟩;have Hd:=Lib.hid hd;clear hd)
  go_ret
  exact⟨by have:=Hd.out;unfold fh at this;rw[←this];rfl,hb1⟩
 have hO:=FF vars row A1 A2 c1 c2 w hr1 hr2
 generalize bG vars row n l=q at hC ⊢
 go_enter Tryz.func37,Tryz.ntmps37
 go_wp2_with fail
 refine hO.mono ?_
 rintro e w1 ⟨b,rfl,hj,hb1⟩
 have hb2:Below w1.heap.size w1 (w1.alloc (.cells #[.pointer (some ⟨b,0,none⟩)] 131)):=blw
 have hC2:=hC b ⟨w1.heap.size,0,none⟩ _ (aJ.later (aJ.later hr hb1) hb2) (by rw[World.cell?,heap_alloc_new];rfl) (hj.later hb2)
 clear hC hO hr hr1 hr2 hj hz hzr
 go_wp2_with fail
 refine hC2.mono ?_
 rintro e w2 ⟨rfl,hb3⟩
 cases q<;>(go_wp2;go_ret;exact⟨rfl,aa (aa hb1 hb2) hb3⟩)
open Tx Om Mp
def sM (vars:List ByteArray) (keys:List Ky):Int:=if (ax vars (keys.map (·.v))).contains (-1) then 15 else 0
def jw (vars:List ByteArray) (keys:List Ky) (rows:List (List Tm)):List (List Tm):=if (ax vars (keys.map (·.v))).contains (-1) then rows else fB (cY (ax vars (keys.map (·.v))) keys) rows
theorem pX {vars:List ByteArray} {names:List ByteArray} (h:(ax vars names).contains (-1)=false):∀p∈ax vars names,0<=p/\p<vars.length:=by
 intro p hp
 have hne:p ≠ -1:=λe=>by
  subst e
  rw[List.contains_iff_mem.2 hp]at h;cases h
 obtain⟨s,_,rfl⟩:=List.mem_map.1 hp
 have:=kN vars s
 omega
def cK (ps:List Int) (row:List Tm):List Tm:=ps.map λp=>row[p.toNat]!
def mV (vars names:List ByteArray):Int:=if !decide names.Nodup then 9 else if (ax vars names).contains (-1) then 15 else 0
def ed (vars:List ByteArray) (nf:Nat) (fils:List (ExT nf)) (rows:List (List Tm)):List (List Tm):=rows.filter λr => !bG vars r nf fils
def mG (sz c q:Nat) (A:Option Addr):Option Addr:=if c=q then A else A.map (·.add (q*sz))
section
variable {P:Program} {T E:TypeId} {sz:Nat}
theorem ia (hT:P.underlying T=some (.slice E)) (hs:∀w,(sizeOf E).run P w=.ok sz w) (A:Option Addr) (c q M:Nat) (hq:q<=M) (W:World) :
  (Instr.slice T (.slice A M c) (some (.int .i64 (q:Int))) none none).run P W=.ok (.slice (mG sz c q A) (M-q) (c-q)) W:=by
 have h1:(0:Int)<=(q:Int)/\(q:Int)<=(M:Int):=by omega
 unfold mG
 simp[Instr.slice,run_underlying hT,Instr.sliceBounds,Instr.sliceBound,asIntOf,h1,hs]
 intro h;omega
theorem jx (hT:P.underlying T=some (.slice E)) (hs:∀w,(sizeOf E).run P w=.ok sz w) (A:Option Addr) (c q M:Nat) (hq:q<=c) (W:World) :
  (Instr.slice T (.slice A M c) none (some (.int .i64 (q:Int))) none).run P W=.ok (.slice A q c) W:=by
 have h1:(0:Int)<=(q:Int)/\(q:Int)<=(c:Int):=by omega
 have hA:A.map (λx=>x.add 0)=A:=by
  cases A with
  | none=>rfl
  | some a=>simp[Addr.add]
 simp[Instr.slice,run_underlying hT,Instr.sliceBounds,Instr.sliceBound,asIntOf,h1,hs,hA]
 intro h;omega
end
theorem Rd.fromG {w:World} {A:Option Addr} {xs:List Value} {sz n c q:Nat} (h:Rd w A xs) (hx:xs.length=n*sz) (hn:n<=c) (hq:q<=n):Rd w (mG sz c q A) (xs.drop (q*sz)):=by
 unfold mG
 split
 ·next he =>
  obtain rfl:q=n:=by omega
  rw[List.drop_of_length_le (by omega)];exact .inl rfl
 ·rcases h with h0|⟨g,o,rfl,hc⟩
  ·subst h0;exact .inl (by simp)
  ·refine .inr ⟨g,o+q*sz,by rw[Option.map_some,Addr.add_mid],λj u hu=>?_⟩
   rw[Nat.add_assoc]
   exact hc _ _ (by rw[List.getElem?_drop]at hu;exact hu)
theorem RdL.fromG {α:Type} {sz:Nat} {R:List Value->α->Prop} {w:World} {A:Option Addr} {l:List α} {c q:Nat} (h:RdL sz R w A l) (hn:l.length<=c) (hq:q<=l.length):RdL sz R w (mG sz c q A) (l.drop q):=by
 obtain⟨xs,h1,h2⟩:=h
 exact⟨_,h1.fromG h2.len hn hq,h2.drop q⟩
def gl (off lim:Int) (rows:List (List Tm)):List (List Tm):=if lim = -1 then rows.drop off.toNat else (rows.drop off.toNat).take lim.toNat
theorem dT {P:Program} {fn:Func} {p u:Tmp} {ty:TypeId} (h:fn.results=#[.cell p ty,.tmp u]) (tmps:Array Value) (w:World) (g:Nat) (t:TypeId) (cs:Array Value) (fr:Nat × Nat) (d:TypeDesc) (v:Value)
  (hp:tmps.getD p undef=.pointer (some ⟨g,0,none⟩)) (hg:w.heap[g]?=some (Obj.cells cs t fr)) (hu:P.underlying ty=some d) (hd:(match d with | .struct _ | .array _ _=>true|_=>false)=true) (hi:(P.info? ty).map (·.size)=some cs.size) (hv:tmps.getD u undef=v) :
  (results fn tmps).run P w=.ok (.tuple #[.agg cs,v]) w:=by
 rw[results_cell_tmp h,hp,hv]
 simp[asAddr,Result.andThen,run_loadVar_row w g t ty cs fr d hg hu hd hi]
theorem vH {vars:List ByteArray} {rows:List (List Tm)} (h:mR vars rows=true):∀r∈rows,r.length=vars.length:=by
 unfold mR at h
 simp only[Bool.and_eq_true,Bool.not_eq_true',List.any_eq_false]at h
 intro r hr
 have:=h.2 r hr
 simpa using this
section
variable {w:World} {A B:Option Addr} {n c m d:Nat} {vars:List ByteArray} {rows:List (List Tm)}
end
section
variable {w:World} {A B:Option Addr} {n c m d:Nat} {vars:List ByteArray} {rows:List (List Tm)}
end
theorem D4 {vars:List ByteArray} {nf:Nat} {fils:List (ExT nf)} {rows:List (List Tm)} {r:List Tm} (h:r∈ed vars nf fils rows):r∈rows:=(List.mem_filter.1 h).1
theorem D5 (vars:List ByteArray) (nf:Nat) (fils:List (ExT nf)) (rows:List (List Tm)):(ed vars nf fils rows).length<=rows.length:=List.length_filter_le _ _
theorem iW (vars:List ByteArray) (keys:List Ky) (rows:List (List Tm)):(jw vars keys rows).Perm rows:=by
 unfold jw
 split
 ·exact List.Perm.refl _
 ·exact List.mergeSort_perm _ _
def Gg (vars names:List ByteArray) (nf:Nat) (fils:List (ExT nf)) (keys:List Ky) (rows:List (List Tm)):List ByteArray × List (List Tm):=if mV vars names=0 then (names,(jw vars keys (ed vars nf fils rows)).map (cK (ax vars names))) else (vars,jw vars keys (ed vars nf fils rows))
def ka (vars names:List ByteArray) (nf:Nat) (fils:List (ExT nf)) (keys:List Ky) (dist:Bool) (rows:List (List Tm)):List (List Tm):=if dist then bA (Gg vars names nf fils keys rows).2 else (Gg vars names nf fils keys rows).2
theorem tx {α:Type} [DecidableEq α] (l:List α):(bA l).length<=l.length:=by
 have h1:∀(acc:List α) (r:α),(jJ acc r).length<=acc.length+1:=λacc r=>by
  unfold jJ
  split<;>simp
 have h2:∀(l acc:List α),(l.foldl jJ acc).length<=acc.length+l.length:=by
  intro l
  induction l with
  | nil=>intro acc;simp
  | cons x l ih =>
   intro acc
   have:=ih (jJ acc x)
   have:=h1 acc x
   simp only[List.foldl_cons,List.length_cons]
   omega
 have:=h2 l []
 simpa[bA] using this
section
variable {w:World} {A B:Option Addr} {n c m d:Nat} {vars:List ByteArray} {rows:List (List Tm)}
end
theorem Dd:∀{vars:List ByteArray} {k:Nat} {x:ByteArray},vars[k]?=some x->x ∉ vars.take k->Lib.idxOfS vars x=(k:Int)
 | [],_,_,h,_=>by simp at h
 | z::zs,0,x,h,_=>by
  have hz:z=x:=by simpa using h
  subst hz
  unfold Lib.idxOfS Lib.idxFromS
  simp
 | z::zs,k+1,x,h,hm=>by
  rw[List.take_succ_cons,List.mem_cons,_root_.not_or]at hm
  rw[ud _ _ _ (λe=>hm.1 e.symm),Dd (vars:=zs) (k:=k) (by simpa using h) hm.2,if_neg (by omega)]
  omega
open Um
theorem te (n:Int) (w:World) :
  Calls Tryz.prog 327 #[.int .i64 n] w λe w'=>e=.returned (.bool (isB n))/\w=w':=by
 go_enter Tryz.func327,Tryz.ntmps327
 go_wp2
 all_goals
  go_ret
  refine⟨?_,rfl⟩
  simp[isB, *]
 all_goals omega
theorem BQ (n:Int) (l:List Int) (A:Option Addr) (c:Nat) (w:World) (hl:l.length<=1000000) (hc:Rd w A (l.map (Value.int .i64))) :
  Calls Tryz.prog 286 #[.int .i64 n,.slice A l.length c] w λe w'=>e=.returned (.bool (inB n l))/\w=w':=by
 go_enter Tryz.func286,Tryz.ntmps286
 go_wp2
 go_loop [5] (λi=>∃k:Nat,k<=l.length+1/\i=.int .i64 k/\Hid (inB n (l.drop k)=inB n l)) (λi=>l.length+2-(intOf i).toNat)
 case atStart=>exact⟨0,by omega,rfl,rfl⟩
 case round =>
  obtain⟨k,hk,rfl,H⟩:=hrel
  by_cases hlt:k+1<l.length
  ·obtain⟨x,hx⟩:∃x,l[k]?=some x:=⟨_,List.getElem?_eq_getElem (by omega)⟩
   obtain⟨y,hy⟩:∃x,l[k+1]?=some x:=⟨_,List.getElem?_eq_getElem (by omega)⟩
   have hd:=o4 n x y l k hx hy
   rw[H.out]at hd
   have Hd:=Lib.hid hd
   clear hd H
   obtain⟨g,o,rfl,hcc⟩:=hc.resolve_left (by intro h;simp at h;subst h;simp at hx)
   have h0:=hcc k (.int .i64 x) (by simp[hx])
   have h1:=hcc (k+1) (.int .i64 y) (by simp[hy])
   clear hx hy hc hcc
   go_wp2
   ·go_ret
    exact⟨by rw[Hd.out];simp[*],rfl⟩
   ·go_round
    case rel=>exact⟨k+2,by omega,by go_num,by show _=_;rw[Hd.out];simp;omega⟩
    case measure=>simp[intOf];omega
   ·go_round
    case rel=>exact⟨k+2,by omega,by go_num,by show _=_;rw[Hd.out];simp;omega⟩
    case measure=>simp[intOf];omega
  ·have he:=xN n l k hlt
   rw[H.out]at he
   have Hd:=Lib.hid he
   clear he H
   go_wp2
   go_ret
   exact⟨by rw[Hd.out];rfl,rfl⟩
theorem tf (n:Int) (w:World) :
  Calls Tryz.prog 285 #[.int .i64 n] w λe w'=>e=.returned (.bool (cJ n))/\Below w.heap.size w w':=by
 have hin:=λW hW=>BQ n wu (some ⟨w.heap.size,0,none⟩) 28 W (by decide) hW
 go_enter Tryz.func285,Tryz.ntmps285
 go_wp2_with (go_at_call 286;refine(hin _ ?_).mono ?_;exact Rd.of_block (heap_alloc_new w _) rfl;rintro e w' ⟨rfl,rfl⟩)
 go_ret
 exact⟨rfl,(Below.refl _ _).alloc (Nat.le_refl _) _⟩
theorem yY (n:Int) (w:World) :
  Calls Tryz.prog 287 #[.int .i64 n] w λe w'=>e=.returned (.bool (cz n))/\Below w.heap.size w w':=by
 have hf:=tf n w
 have hin:=λ(W:World) (g:Nat) hW=>BQ n mj (some ⟨g,0,none⟩) 14 W (by decide) hW
 unfold cz
 generalize cJ n=b at hf
 go_enter Tryz.func287,Tryz.ntmps287
 cases b
 ·go_wp2_with (first
   | (go_at_call 285;refine hf.mono ?_;rintro e w1 ⟨rfl,hb⟩)
   | (go_at_call 286;refine(hin _ _ ?_).mono ?_;exact Rd.of_block (heap_alloc_new w1 _) rfl;rintro e w' ⟨rfl,rfl⟩))
  go_ret
  exact⟨by simp,hb.alloc hb.size _⟩
 ·go_wp2_with (first
   | (go_at_call 285;refine hf.mono ?_;rintro e w1 ⟨rfl,hb⟩))
  go_ret
  exact⟨by simp,hb⟩
theorem BS (n:Int) (w:World) (hn:isB n=true) :
  Calls Tryz.prog 328 #[.int .i64 n] w λe w'=>e=.returned (.slice (some ⟨w.heap.size,0,none⟩) (Lib.runeCells n).length (Lib.runeCells n).length) /\
   w'=w.alloc (.cells (Lib.runeCells n).toArray 5):=by
 rw[bT]at hn
 obtain⟨⟨h0,h9⟩,hs⟩:=hn
 by_cases c1:n<=127
 ·have e:=Lib.encodeRuneZ_one h0 c1
  unfold Lib.runeCells
  rw[e]
  clear e hs
  go_enter Tryz.func328,Tryz.ntmps328
  go_wp2
  go_ret
  exact⟨rfl,rfl⟩
 ·by_cases c2:n<=2047
  ·have e:=Lib.encodeRuneZ_two (by omega:128<=n) c2
   unfold Lib.runeCells
   rw[e]
   clear e hs
   go_enter Tryz.func328,Tryz.ntmps328
   go_wp2
   go_ret
   exact⟨rfl,rfl⟩
  ·by_cases c3:n<=65535
   ·have e:=Lib.encodeRuneZ_three (r:=n) (by omega)
    unfold Lib.runeCells
    rw[e]
    clear e hs
    go_enter Tryz.func328,Tryz.ntmps328
    go_wp2
    go_ret
    exact⟨rfl,rfl⟩
   ·have e:=Lib.encodeRuneZ_four (r:=n) (by omega) (by omega)
    unfold Lib.runeCells
    rw[e]
    clear e hs
    go_enter Tryz.func328,Tryz.ntmps328
    go_wp2
    go_ret
    exact⟨rfl,rfl⟩
def encS (n:Int):ByteArray:=⟨(Lib.encodeRune n).toArray⟩
theorem lI (n:Int):(encS n).toList=Lib.encodeRune n:=by unfold encS;rw[ByteArray.toList_mk]
theorem eZ (n:Int) (w:World) (hn:isB n=true) :
  Calls Tryz.prog 328 #[.int .i64 n] w λe w'=>∃g,e=.returned (.slice (some ⟨g,0,none⟩) (Lib.runeCells n).length (Lib.runeCells n).length) /\
   Below w.heap.size w w'/\(∀W,Below w'.heap.size w' W->(convert 166 9 (.slice (some ⟨g,0,none⟩) (Lib.runeCells n).length (Lib.runeCells n).length)).run Tryz.prog W=.ok (.string (encS n)) W):=by
 refine(BS n w hn).mono ?_
 rintro e w' ⟨rfl,rfl⟩
 refine⟨_,rfl,(Below.refl _ _).alloc (Nat.le_refl _) _,?_⟩
 intro W hW
 have:=run_convert_bytes_arg (P:=Tryz.prog) W 166 5 Tryz.underlying166 Tryz.underlying5 w.heap.size 0
  (Lib.runeCells n).length (Lib.runeCells n).length (Lib.encodeRuneZ n) (by simp[Lib.runeCells]) ?_ 9 Tryz.underlying9
 ·rw[this]
  congr 2
 ·intro i hi
  have hb:(w.alloc (.cells (Lib.runeCells n).toArray 5)).heap[w.heap.size]?=some (.cells (Lib.runeCells n).toArray 5):=heap_alloc_new w _
  rw[←hW.block w.heap.size (by simp)]at hb
  simp only[World.cell?,hb,Nat.zero_add]
  simp[Lib.runeCells]at hi ⊢
  simp[hi]
theorem G6 (s:ByteArray) (k:Nat) :
  bW (from_ s k) 1=bn s k/\bW (from_ s k) 2=64*(bn s k-192)+bn s (k+1)-128 /\
  bW (from_ s k) 3=64*(64*(bn s k-224)+bn s (k+1)-128)+bn s (k+2)-128 /\
  bW (from_ s k) 4=64*(64*(64*(bn s k-240)+bn s (k+1)-128)+bn s (k+2)-128)+bn s (k+3)-128:=by
 simp only[bW,from_,Ga,Nat.add_zero,and_self]
theorem E6 (l:List UInt8) (k:Nat) (_h1:1<=k) (hk:k<=l.length) (h:isB (bW l k)=true/\l.take k=Lib.encodeRune (bW l k)):nx l=((bW l k).toNat,k):=
 zy _ l h.1 k h.2 hk
theorem G5 (l:List UInt8) (k:Nat) (h1:1<=k) (h:¬ (isB (bW l k)=true/\l.take k=Lib.encodeRune (bW l k))):(nx l).2≠k:=by
 intro e
 apply h
 have:=ra l (by omega)
 rw[e]at this
 rw[this.2.2.2.1]
 exact⟨this.1,this.2.2.1⟩
end Go.Proofs.YtfcbghmbbjolcaaGreatDoor
