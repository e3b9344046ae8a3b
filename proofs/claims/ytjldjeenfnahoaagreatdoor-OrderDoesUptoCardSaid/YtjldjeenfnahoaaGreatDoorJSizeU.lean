/- The program's package term, walked: Right. The program's pac -/
import Derived.Test.YtjldjeenfnahoaaGreatDoorJUtfProg5
import Derived.Test.YtjldjeenfnahoaaGreatDoorJClose
import Derived.Test.YtjldjeenfnahoaaGreatDoorShelf2
import Derived.Test.YtjldjeenfnahoaaGreatDoorJMapA
import Derived.RangeFuncNested
import Derived.RangeFuncBound
import Derived.Shelf.RegionOpen
import Derived.OwnWalkIn
import Derived.LoopNIn
import Derived.LoopIn
set_option maxRecDepth 20000
namespace Go.Proofs.YtjldjeenfnahoaaGreatDoor
open Go Go.RowKit Um Fm
def gI (r:Int):Int:=if 65<=r/\r<=90 then r+32 else r
def aP (s:ByteArray):Bool:=Lib.validD s.data.toList
def jt (s:ByteArray):Bool:=!s.toList.isEmpty && ((iS s.data.toList:Int) == s.size)
def rS (s:ByteArray):Bool:=((tag s.data.toList:Int) == s.size) && ((⟨(Lib.mapD gI s.data.toList).toArray⟩:ByteArray).toList == s.toList)
def zT:List UInt8:=[104,116,116,112,58,47,47,119,119,119,46,119,51,46,111,114,103,47,50,48,48,49,47,88,77,76,83,99,104,101,109,97,35,115,116,114,105,110,103]
theorem uL (r:Int) (w:World) (h0:0<=r) (h1:r<=1114111):Calls Tryz.prog 166 #[.int .i32 r] w λe w'=>e=.returned (.int .i32 (gI r))/\w=w':=by
 unfold gI
 by_cases ha:65<=r
 ·by_cases hb:r<=90
  ·have hr:(65<=r/\r<=90):=⟨ha,hb⟩
   rw[if_pos hr]
   clear hr
   go_enter Tryz.func166,Tryz.ntmps166
   go_wp2
   go_ret
   exact⟨rfl,rfl⟩
  ·rw[if_neg (by omega)]
   go_enter Tryz.func166,Tryz.ntmps166
   go_wp2
   go_ret
   exact⟨rfl,rfl⟩
 ·rw[if_neg (by omega)]
  go_enter Tryz.func166,Tryz.ntmps166
  go_wp2
  go_ret
  exact⟨rfl,rfl⟩
theorem nw (l:List ByteArray) (A:Option Addr) (c:Nat) (w:World) (hl:l.length<=1000) (hC:Ctx w) (hr:Rd w A (l.map Value.string)) (hz:∀s∈l,s.size<=281474976710656) :
  Calls Tryz.prog 133 #[.slice A l.length c] w λe w'=>e=.returned (.bool (l.all aP))/\Below w.heap.size w w':=by
 go_enter Tryz.func133,Tryz.ntmps133
 go_wp2
 go_loopw [7] (λi wr=>∃k:Nat,k<=l.length/\i=.int .i64 k/\Hid (l.all aP=(l.drop k).all aP)/\Below w.heap.size w wr) (λi _=>l.length-(intOf i).toNat)
 case atStart=>exact⟨0,by omega,rfl,rfl,Below.refl _ _⟩
 case round =>
  obtain⟨k,hk,rfl,H,hB⟩:=hrel
  by_cases hlt:k<l.length
  ·obtain⟨y,hx⟩:∃x,l[k]?=some x:=⟨_,List.getElem?_eq_getElem hlt⟩
   obtain⟨g,o,rfl,hcx⟩:=(hr.later hB).at_ (j:=k) (u:=.string y) (by simp[hx])
   have hd:=an hx
   have H2:Hid (l.all aP=(aP y && (l.drop (k+1)).all aP)):=by show _=_;rw[H.out,hd,List.all_cons]
   have hV:=fH y wr (by have:=hz y (List.mem_of_getElem? hx);omega) (hC.step hB).tabs
   rw[show Lib.validD y.data.toList=aP y from rfl]at hV
   clear hx hd H hr hz hC
   generalize aP y=q at *
   cases q
   ·go_wp2_with (refine hV.mono ?_;rintro e w2 ⟨rfl,hb2⟩)
    go_ret
    exact⟨by rw[H2.out];rfl,aa hB hb2⟩
   ·go_wp2_with (refine hV.mono ?_;rintro e w2 ⟨rfl,hb2⟩)
    go_roundw
    case rel=>exact⟨k+1,by omega,by go_num,by show _=_;rw[H2.out];rfl,aa hB hb2⟩
    case measure=>simp[intOf];omega
  ·have H2:Hid (l.all aP=true):=by show _=_;rw[H.out,List.drop_eq_nil_of_le (by omega)];rfl
   clear H hr hz
   go_wp2
   go_ret
   exact⟨by rw[H2.out];rfl,hB⟩
theorem uM (s:ByteArray) (w:World) (hC:Ctx w) (hs:s.size<=281474976710656):Calls Tryz.prog 134 #[.string s] w λe w'=>e=.returned (.bool (jt s))/\Below w.heap.size w w':=by
 have hL:=wU s w hC hs
 unfold jt
 generalize iS s.data.toList=n at *
 cases he:s.toList.isEmpty
 ·cases hq:((n:Int) == s.size)
  all_goals
   go_enter Tryz.func134,Tryz.ntmps134
   go_wp2_with (refine hL.mono ?_;rintro e w2 ⟨rfl,hb2⟩)
   go_ret
   exact⟨rfl,hb2⟩
 ·go_enter Tryz.func134,Tryz.ntmps134
  go_wp2
  go_ret
  exact⟨rfl,Below.refl _ _⟩
theorem nz {s:ByteArray} (h:((tag s.data.toList:Int) == s.size)=true):∀(i:Nat) (hi:i<s.size),(s[i]'hi).toNat<128:=by
 have h1:tag s.data.toList=s.size:=by have:=eq_of_beq h;omega
 intro i hi
 have h2:=(uO s.data.toList).bytes i (by rw[h1];exact hi)
 have h3:s.data.toList.getD i 0=s[i]'hi:=by
  rw[List.getD_eq_getElem?_getD,List.getElem?_eq_getElem (by rw[←Lib.size_eq];exact hi)]
  rfl
 rw[h3]at h2
 generalize (s[i]'hi).toNat=n at *
 simp[aX,aT,cW,inB]at h2
 omega
theorem Al (s:ByteArray) (w:World) (_hC:Ctx w) (hs:s.size<=140737488351232):Calls Tryz.prog 135 #[.string s] w λe w'=>e=.returned (.bool (rS s))/\Below w.heap.size w w':=by
 have hT:=Ca s w (by omega)
 have eg:∀args W,(callFunc 166 args).run Tryz.prog W=.ok (.enter 166 args) W:=enters_of Tryz.func166 (by kernel_rfl) rfl
 have hM:=λ(hp:∀(i:Nat) (hi:i<s.size),(s[i]'hi).toNat<128) W (_:Below w.heap.size w W)=>yE pE fD 166 eg gI s W (by omega) hp
  (λW' x hx _=>(uL x W' (by omega) (by omega)).mono λe w' ⟨h1,h2⟩=>⟨h1,0,by rw[←h2];rfl⟩) (λx hx=>by unfold gI;split<;>omega)
 have hP:=nz (s:=s)
 unfold rS
 generalize (⟨(Lib.mapD gI s.data.toList).toArray⟩:ByteArray)=m at *
 generalize tag s.data.toList=n at *
 clear eg
 cases hq:((n:Int) == s.size)
 ·clear hM hP
  go_enter Tryz.func135,Tryz.ntmps135
  go_wp2_with (refine hT.mono ?_;rintro e w2 ⟨rfl,hb2⟩)
  go_ret
  exact⟨rfl,hb2⟩
 ·have hM1:=hM (hP hq)
  clear hM hP
  go_enter Tryz.func135,Tryz.ntmps135
  go_wp2_with fail
  refine hT.mono ?_
  rintro e w2 ⟨rfl,hb2⟩
  have hM2:=hM1 _ hb2
  clear hM1
  cases hq2:(m.toList == s.toList)
  all_goals
   go_wp2_with (refine hM2.mono ?_;rintro e w3 ⟨rfl,hb3⟩)
   go_ret
   exact⟨by rw[hq2];rfl,aa hb2 hb3⟩
def bY (s:ByteArray):Bool:=s.toList.isEmpty
def aN (t:Tm):Bool:=
 if t.k=1 then bY (t.l++t.y) && aP t.x
 else if t.k=2 then bY (t.l++t.y) && jt t.x
 else if t.k=3 then bY t.y && aP t.x && rS t.l
 else if t.k=4 then bY t.l && !(t.y.toList == zT) && (aP t.x && aP t.y)
 else false
set_option maxHeartbeats 2000000 in
theorem uK (t:Tm) (w:World) (hC:Ctx w) (hx:t.x.size<=281474976710656) (hl:t.l.size<=140737488351232) (hy:t.y.size<=281474976710656) :
  Calls Tryz.prog 108 #[.agg #[.int .i64 t.k,.string t.x,.string t.l,.string t.y]] w λe w'=>e=.returned (.bool (aN t))/\Below w.heap.size w w':=by
 obtain⟨k,x,l,y⟩:=t
 simp only at hx hl hy ⊢
 have hB0:Below w.heap.size w (w.alloc (.cells #[.int .i64 k,.string x,.string l,.string y] 65)):=blw
 have hC1:=hC.step hB0
 have hV:∀W,Below w.heap.size w W->Calls Tryz.prog 133 #[.slice (some ⟨W.heap.size,0,none⟩) 1 1] (W.alloc (.cells #[.string x] 9)) λe w'=>e=.returned (.bool (aP x))/\Below w.heap.size w w'/\Below W.heap.size W w':=by
  intro W hb
  have hb2:Below W.heap.size W (W.alloc (.cells #[.string x] 9)):=blw
  refine(nw [x] (some ⟨W.heap.size,0,none⟩) 1 _ (by simp) (hC.step (aa hb hb2)) (Rd.of_block (heap_alloc_new _ _) rfl) (by intro s hs;simp at hs;rw[hs];exact hx)).mono ?_
  rintro e w' ⟨rfl,hb3⟩
  exact⟨by simp,aa (aa hb hb2) hb3,aa hb2 hb3⟩
 have hV2:∀W,Below w.heap.size w W->Calls Tryz.prog 133 #[.slice (some ⟨W.heap.size,0,none⟩) 2 2] (W.alloc (.cells #[.string x,.string y] 9)) λe w'=>e=.returned (.bool (aP x && aP y))/\Below w.heap.size w w':=by
  intro W hb
  have hb2:Below W.heap.size W (W.alloc (.cells #[.string x,.string y] 9)):=blw
  refine(nw [x,y] (some ⟨W.heap.size,0,none⟩) 2 _ (by simp) (hC.step (aa hb hb2)) (Rd.of_block (heap_alloc_new _ _) rfl) (by intro s hs;simp at hs;rcases hs with rfl|rfl;exact hx;exact hy)).mono ?_
  rintro e w' ⟨rfl,hb3⟩
  exact⟨by simp,aa (aa hb hb2) hb3⟩
 have hL:=uM x _ hC1 hx
 have hT:=λW hb=>Al l W (hC.step hb) hl
 have hV1:=hV _ hB0
 have hV3:=hV2 _ hB0
 simp only[World.size_alloc]at hV1 hV3
 clear hV hV2
 have HB:=Lib.hid hB0
 unfold aN bY zT
 simp only
 generalize aP x=v at *
 generalize aP y=v2 at *
 generalize jt x=lb at *
 generalize rS l=tg at *
 by_cases h1:k=1
 ·subst h1
  rw[if_pos rfl]
  cases he:(l++y).toList.isEmpty
  ·go_enter Tryz.func108,Tryz.ntmps108
   go_wp2
   go_ret
   exact⟨rfl,hB0⟩
  ·go_enter Tryz.func108,Tryz.ntmps108
   go_wp2_with (refine hV1.mono ?_;rintro e w2 ⟨rfl,hb2,hb2'⟩)
   go_ret
   exact⟨rfl,hb2⟩
 rw[if_neg h1]
 by_cases h2:k=2
 ·subst h2
  rw[if_pos rfl]
  clear h1
  cases he:(l++y).toList.isEmpty
  ·go_enter Tryz.func108,Tryz.ntmps108
   go_wp2
   go_ret
   exact⟨rfl,hB0⟩
  ·go_enter Tryz.func108,Tryz.ntmps108
   go_wp2_with (refine hL.mono ?_;rintro e w2 ⟨rfl,hb2⟩)
   go_ret
   exact⟨rfl,aa HB.out hb2⟩
 rw[if_neg h2]
 by_cases h3:k=3
 ·subst h3
  rw[if_pos rfl]
  clear h1 h2
  cases he:y.toList.isEmpty
  ·go_enter Tryz.func108,Tryz.ntmps108
   go_wp2
   go_ret
   exact⟨rfl,hB0⟩
  ·cases v
   ·go_enter Tryz.func108,Tryz.ntmps108
    go_wp2_with (refine hV1.mono ?_;rintro e w2 ⟨rfl,hb2,hb2'⟩)
    go_ret
    exact⟨rfl,hb2⟩
   ·go_enter Tryz.func108,Tryz.ntmps108
    go_wp2_with fail
    refine hV1.mono ?_
    rintro e w2 ⟨rfl,hb2,hb2'⟩
    have hT2:=hT w2 hb2
    have e2:w2.cell? ⟨w.heap.size,2,none⟩=some (.string l):=by
     rw[hb2'.cell (p:=⟨w.heap.size,2,none⟩) (by simp),World.cell?,heap_alloc_new];rfl
    clear hT hV1 hV3 hL
    go_wp2_with (refine hT2.mono ?_;rintro e w3 ⟨rfl,hb3⟩)
    go_ret
    exact⟨rfl,aa hb2 hb3⟩
 rw[if_neg h3]
 by_cases h4:k=4
 ·subst h4
  rw[if_pos rfl]
  clear h1 h2 h3
  cases he:l.toList.isEmpty
  ·go_enter Tryz.func108,Tryz.ntmps108
   go_wp2
   go_ret
   exact⟨rfl,hB0⟩
  ·cases hq:(y.toList == [104,116,116,112,58,47,47,119,119,119,46,119,51,46,111,114,103,47,50,48,48,49,47,88,77,76,83,99,104,101,109,97,35,115,116,114,105,110,103])
   ·have hqn:(y.toList != [104,116,116,112,58,47,47,119,119,119,46,119,51,46,111,114,103,47,50,48,48,49,47,88,77,76,83,99,104,101,109,97,35,115,116,114,105,110,103])=true:=by rw[bne,hq];rfl
    go_enter Tryz.func108,Tryz.ntmps108
    go_wp2_with (refine hV3.mono ?_;rintro e w2 ⟨rfl,hb2⟩)
    go_ret
    exact⟨rfl,hb2⟩
   ·have hqn:(y.toList != [104,116,116,112,58,47,47,119,119,119,46,119,51,46,111,114,103,47,50,48,48,49,47,88,77,76,83,99,104,101,109,97,35,115,116,114,105,110,103])=false:=by rw[bne,hq];rfl
    go_enter Tryz.func108,Tryz.ntmps108
    go_wp2
    go_ret
    exact⟨rfl,hB0⟩
 rw[if_neg h4]
 have k1:(k == 1)=false:=by simpa using h1
 have k2:(k == 2)=false:=by simpa using h2
 have k3:(k == 3)=false:=by simpa using h3
 have k4:(k == 4)=false:=by simpa using h4
 clear h1 h2 h3 h4
 go_enter Tryz.func108,Tryz.ntmps108
 go_wp2
 go_ret
 exact⟨rfl,hB0⟩
def szT (t:Tm):Prop:=t.x.size<=281474976710656/\t.l.size<=140737488351232/\t.y.size<=281474976710656
structure Sl where
 v:ByteArray
 t:Tm
def slC (s:Sl):List Value:=[.string s.v,.int .i64 s.t.k,.string s.t.x,.string s.t.l,.string s.t.y]
structure Pat where
 s:Sl
 p:Sl
 o:Sl
open Go.Maps Go.ChangeMaps
def ed (w:World) (q:IntKind) (r:Nat) (kvs:List (Int × Value)):Prop:=
 ∃es clock,w.heap[r]?=some (.map es clock)/\es.toList.map (λe=>(e.key,e.val))=kvs.map (λp=>(Value.int q p.1,p.2))
theorem ed.later {w w':World} {q:IntKind} {r:Nat} {kvs:List (Int × Value)} (h:ed w q r kvs) (hb:Below w.heap.size w w'):ed w' q r kvs:=by
 obtain⟨es,cl,h1,h2⟩:=h
 refine⟨es,cl,?_,h2⟩
 rw[hb.block r (Array.getElem?_eq_some_iff.1 h1).1];exact h1
theorem fy (q:IntKind) (x:Int):∀(kvs:List (Int × Value)) (es:List MapEntry) (i:Nat),es.map (λe=>(e.key,e.val))=kvs.map (λp=>(Value.int q p.1,p.2)) ->
  ∃o,Instr.findNow (.int q) (.int q x) es i=some o/\o.map (·.2)=(kvs.find? (λp=>p.1 == x)).map (·.2)
 | [],[],i,_=>⟨none,rfl,rfl⟩
 | [],e::es,i,h=>by simp at h
 | p::kvs,[],i,h=>by simp at h
 | p::kvs,e::es,i,h=>by
  simp only[List.map_cons,List.cons.injEq,Prod.mk.injEq]at h
  obtain⟨⟨hk,hv⟩,ht⟩:=h
  unfold Instr.findNow
  rw[hk]
  simp only[Instr.sameNow,if_true]
  by_cases hx:x=p.1
  ·subst hx
   refine⟨some (i,e.val),by simp,?_⟩
   simp[hv]
  ·have h1:(x == p.1)=false:=by simpa using hx
   have h2:(p.1 == x)=false:=by simpa using Ne.symm hx
   rw[h1]
   obtain⟨o,ho,hm⟩:=fy q x kvs es (i+1) ht
   exact⟨o,ho,by rw[hm,List.find?_cons,h2]⟩
theorem gO {P:Program} {T K E:TypeId} {q:IntKind} (hT:P.underlying T=some (.map K E)) (hK:P.underlying K=some (.int q)) {z:Value} {w:World} (hz:(zeroValue E).run P w=.ok z w)
  {r:Nat} {kvs:List (Int × Value)} (h:ed w q r kvs) (x:Int) :
  (Instr.lookup T (.map (some r)) (.int q x) false).run P w=.ok (((kvs.find? (λp=>p.1 == x)).map (·.2)).getD z) w:=by
 obtain⟨es,clock,hb,hes⟩:=h
 obtain⟨o,ho,hm⟩:=fy q x kvs es.toList 0 hes
 have hc:(Instr.checkKey es.isEmpty 10000 K (.int q x)).run P w=.ok () w:=by
  have:=Go.MapKept.run_checkKey (P:=P) (w:=w) (k:=.int q x) hK (show Go.MapKept.IsKey (.int q) (.int q x) from rfl) es.isEmpty 9999
  exact this
 have hf:(Instr.findKey K (.int q x) es.toList).run P w=.ok o w:=by
  simp[Instr.findKey,run_underlying hK,ho]
 have hg:(getObj r).run P w=.ok (.map es clock) w:=by simp[getObj,Sem.run,hb]
 unfold Instr.lookup
 simp only[Sem.run_bind,run_underlying hT,Result.andThen,hg,Sem.run_pure,hc,hf]
 rw[←hm]
 cases o with
 | none=>simp[hz]
 | some p=>simp
theorem mC {P:Program} {T K E:TypeId} {q:IntKind} (hT:P.underlying T=some (.map K E)) (hK:P.underlying K=some (.int q)) {w:World}
  {r:Nat} {kvs:List (Int × Value)} (h:ed w q r kvs) (x:Int) (v:Value) (hx:kvs.find? (λp=>p.1 == x)=none) :
  ∃w',(Instr.mapUpdate T (.map (some r)) (.int q x) v).run P w=.ok () w'/\ed w' q r (kvs++[(x,v)])/\w.grownBy w' (some r):=by
 obtain⟨es,clock,hb,hes⟩:=h
 obtain⟨o,ho,hm⟩:=fy q x kvs es.toList 0 hes
 rw[hx]at hm
 have ho2:o=none:=by cases o with|none=>rfl|some p=>simp at hm
 subst ho2
 have hc:(Instr.checkKey false 10000 K (.int q x)).run P w=.ok () w:=by
  have:=Go.MapKept.run_checkKey (P:=P) (w:=w) (k:=.int q x) hK (show Go.MapKept.IsKey (.int q) (.int q x) from rfl) false 9999
  exact this
 have hf:(Instr.findKey K (.int q x) es.toList).run P w=.ok none w:=by
  simp[Instr.findKey,run_underlying hK,ho]
 have hg:(getObj r).run P w=.ok (.map es clock) w:=by simp[getObj,Sem.run,hb]
 have hlt:r<w.heap.size:=by
  rcases Nat.lt_or_ge r w.heap.size with hlt|hge
  ·exact hlt
  ·rw[Array.getElem?_eq_none hge]at hb;cases hb
 refine⟨{w with heap:=w.heap.setIfInBounds r (.map (es.push {key:=.int q x,val:=v,born:=clock}) (clock+1))},?_,⟨es.push {key:=.int q x,val:=v,born:=clock},clock+1,?_,?_⟩,rfl,rfl,rfl,by simp,?_⟩
 ·unfold Instr.mapUpdate
  simp only[Sem.run_bind,run_underlying hT,Result.andThen,hg,hc,hf]
  simp[setObj,Sem.run,hb]
 ·simp[hlt]
 ·simp[hes]
 ·intro k _ hne
  have hrk:r≠k:=λe=>hne (e ▸ rfl)
  exact Array.getElem?_setIfInBounds_ne hrk
theorem gG {P:Program} (w:World) {ops:Array Oper} {rest:List Oper} {o:Oper} {a:Act} {Q:Exit->Act->World->Prop}
  (hgd:o.guard=none) (m x v:Operand) (T:TypeId) (hop:o.op=Op.mapUpdate T m x v) {K E:TypeId} {q:IntKind} (hT:P.underlying T=some (.map K E)) (hK:P.underlying K=some (.int q))
  {r:Nat} {kvs:List (Int × Value)} (hm:a.eval m=.map (some r)) (h:ed w q r kvs) (k:Int) (val:Value) (hx:a.eval x=.int q k) (hv:a.eval v=val) (hn:kvs.find? (λp=>p.1 == k)=none)
  (hQ:∀w',ed w' q r (kvs++[(k,val)])->w.grownBy w' (some r)->wpList P ops Q rest (a.put o.dst undef) w'):wpList P ops Q (o::rest) a w:=by
 refine wpList_plain hgd λK' hK'=>?_
 obtain⟨w',hrun,r1,r2⟩:=mC hT hK h k val hn
 unfold Oper.wp
 simp[execOp,hop,hm,hx,hv,hrun,Result.andThen]
 exact hK' _ _ (hQ w' r1 r2)
open Go.Shelf
theorem xr (a b:Tm) (W:World):(binOp .eql 65 (.agg #[.int .i64 a.k,.string a.x,.string a.l,.string a.y]) (.agg #[.int .i64 b.k,.string b.x,.string b.l,.string b.y])).run Tryz.prog W=.ok (.bool (bg a b)) W:=by
 have hu:=Tryz.underlying65
 have hk:=Tryz.underlying63
 have hs:=Tryz.underlying9
 simp only[go_sem,hu]
 simp[go_sem,hu,hk,hs]
 unfold bg
 by_cases h1:a.k=b.k
 ·by_cases h2:a.x.toList=b.x.toList
  ·by_cases h3:a.l.toList=b.l.toList
   ·by_cases h4:a.y.toList=b.y.toList<;>simp[h1,h2,h3,h4]
   ·simp[h1,h2,h3]
  ·simp[h1,h2]
 ·simp[h1]
def szX:(n:Nat)->ExT n->Prop
 | 0,_=>True
 | n+1,(_,s,t,kids)=>s.size<=281474976710656/\szT t/\kids.length<=1353245080300/\∀x∈kids,szX n x
attribute [local go_sem] Oper.semAt_some
structure Ky where
 v:ByteArray
 d:Bool
def cPat (y:Pat):List Value:=[.string y.s.v,.int .i64 y.s.t.k,.string y.s.t.x,.string y.s.t.l,.string y.s.t.y,.string y.p.v,.int .i64 y.p.t.k,.string y.p.t.x,.string y.p.t.l,.string y.p.t.y,.string y.o.v,.int .i64 y.o.t.k,.string y.o.t.x,.string y.o.t.l,.string y.o.t.y]
def wS (y:Pat):Value:=.agg #[.string y.s.v,.int .i64 y.s.t.k,.string y.s.t.x,.string y.s.t.l,.string y.s.t.y,.string y.p.v,.int .i64 y.p.t.k,.string y.p.t.x,.string y.p.t.l,.string y.p.t.y,.string y.o.v,.int .i64 y.o.t.k,.string y.o.t.x,.string y.o.t.l,.string y.o.t.y]
abbrev rH (w:World) (A:Option Addr) (l:List Pat):Prop:=RdL 15 (λcs y=>cs=cPat y) w A l
def cKey (y:Ky):List Value:=[.string y.v,.bool y.d]
def DI (y:Ky):Value:=.agg #[.string y.v,.bool y.d]
abbrev eF (w:World) (A:Option Addr) (l:List Ky):Prop:=RdL 2 (λcs y=>cs=cKey y) w A l
attribute [local go_sem] Oper.semAt_some
structure Qy (n:Nat) where
 ask:Bool
 dist:Bool
 vars:List ByteArray
 pats:List Pat
 fils:List (ExT n)
 ord:List Ky
 lim:Int
 off:Int
attribute [local go_sem] Oper.semAt_some
def RdQ (n:Nat) (w:World) (cs:List Value) (q:Qy n):Prop:=∃(a1 a2 a3 a4:Option Addr) (c1 c2 c3 c4:Nat),
 cs=[.bool q.ask,.bool q.dist,.slice a1 q.vars.length c1,.slice a2 q.pats.length c2,.slice a3 q.fils.length c3,.slice a4 q.ord.length c4,.int .i64 q.lim,.int .i64 q.off] /\
 (q.vars.length<=c1/\q.pats.length<=c2/\q.fils.length<=c3/\q.ord.length<=c4)/\Rd w a1 (q.vars.map Value.string)/\rH w a2 q.pats/\aF n w a3 q.fils/\eF w a4 q.ord
def DF (P:Bool->Prop) (w:World) (e:Ending) (w':World):Prop:=∃b,e=.returned (.bool b)/\P b/\Below w.heap.size w w'
theorem RdQ.later {n:Nat} {w w':World} {cs:List Value} {q:Qy n} (h:RdQ n w cs q) (hb:Below w.heap.size w w'):RdQ n w' cs q:=by
 obtain⟨a1,a2,a3,a4,c1,c2,c3,c4,h0,hc,h1,h2,h3,h4⟩:=h
 exact⟨a1,a2,a3,a4,c1,c2,c3,c4,h0,hc,h1.later hb,RdL.mono h2 hb (λ_ _ _ h=>h),aF.later h3 hb,RdL.mono h4 hb (λ_ _ _ h=>h)⟩
def szL {n:Nat} (q:Qy n):Prop:=q.vars.length<=281474976710656/\q.pats.length<=281474976710656/\q.fils.length<=1353245080300/\q.ord.length<=281474976710656/\∀x∈q.fils,szE n x
def szTu (t:Tm):Prop:=t.x.size<=1048576/\t.l.size<=1048576/\t.y.size<=1048576
def szU:(n:Nat)->ExT n->Prop
 | 0,_=>True
 | n+1,(_,s,t,kids)=>s.size<=1048576/\szTu t/\kids.length<=1048576/\∀x∈kids,szU n x
def szSu (s:Sl):Prop:=s.v.size<=1048576/\szTu s.t
def szPu (p:Pat):Prop:=szSu p.s/\szSu p.p/\szSu p.o
def uQ {n:Nat} (q:Qy n):Prop:=q.vars.length<=1048576/\q.pats.length<=1048576/\q.fils.length<=1048576/\q.ord.length<=1048576/\(∀x∈q.vars,x.size<=1048576)/\(∀x∈q.pats,szPu x)/\(∀x∈q.fils,szU n x)/\∀x∈q.ord,x.v.size<=1048576
theorem szTu.t {t:Tm} (h:szTu t):szT t:=⟨Nat.le_trans h.1 (by decide),Nat.le_trans h.2.1 (by decide),Nat.le_trans h.2.2 (by decide)⟩
theorem szU.x:∀{n:Nat} {e:ExT n},szU n e->szX n e
 | 0,_,_=>trivial
 | _+1,(_,_,_,_),⟨h1,h2,h3,h4⟩=>⟨Nat.le_trans h1 (by decide),h2.t,Nat.le_trans h3 (by decide),λy hy=>(h4 y hy).x⟩
theorem szU.e:∀{n:Nat} {e:ExT n},szU n e->szE n e
 | 0,_,_=>trivial
 | _+1,(_,_,_,_),⟨h1,h2,h3,h4⟩=>⟨Nat.le_trans h1 (by decide),Nat.le_trans h2.1 (by decide),Nat.le_trans h3 (by decide),λy hy=>(h4 y hy).e⟩
theorem uQ.l {n:Nat} {q:Qy n} (h:uQ q):szL q:=
 ⟨Nat.le_trans h.1 (by decide),Nat.le_trans h.2.1 (by decide),Nat.le_trans h.2.2.1 (by decide),Nat.le_trans h.2.2.2.1 (by decide),λx hx=>(h.2.2.2.2.2.2.1 x hx).e⟩
end Go.Proofs.YtjldjeenfnahoaaGreatDoor
