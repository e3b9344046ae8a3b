/- The program's package query, walked: leaf, part. The program -/
import Derived.Test.YtfcbghmbbjolcaaGreatDoorJQRules
set_option maxHeartbeats 4000000
set_option maxRecDepth 100000
namespace Go.Proofs.YtfcbghmbbjolcaaGreatDoor
open Go Go.RowKit Go.Maps Go.ChangeMaps Go.Shelf Um Fm
def fc (k:Int):Bool:=k == 1 || k == 2
def tT:(n:Nat)->ExT n->Bool
 | 0,_=>false
 | _+1,(k,_,_,_)=>fc k
theorem Gp (k:Int) (s:ByteArray) (t:Tm) (A:Option Addr) (m c:Nat) (w:World) :
  Calls Tryz.prog 235 #[.agg #[.int .i64 k,.string s,.int .i64 t.k,.string t.x,.string t.l,.string t.y,.slice A m c]] w λe w'=>e=.returned (.bool (fc k))/\Below w.heap.size w w':=by
 obtain⟨q,hq⟩:∃q,fc k=q:=⟨_,rfl⟩
 rw[hq]
 have Hq:=Lib.hid hq
 clear hq
 by_cases h1:k=1
 ·subst h1
  go_enter Tryz.func235,Tryz.ntmps235
  go_wp2
  go_ret
  exact⟨by rw[←Hq.out];rfl,blw⟩
 ·have h1':(k == 1)=false:=by simpa using h1
  by_cases h2:k=2
  ·subst h2
   go_enter Tryz.func235,Tryz.ntmps235
   go_wp2
   go_ret
   exact⟨by rw[←Hq.out];rfl,blw⟩
  ·have h2':(k == 2)=false:=by simpa using h2
   go_enter Tryz.func235,Tryz.ntmps235
   go_wp2
   go_ret
   exact⟨by rw[←Hq.out];unfold fc;rw[h1',h2'];rfl,blw⟩
theorem gA {n:Nat} {w:World} {cs:List Value} {x:ExT n} (h:RdE n w cs x):∃(k:Int) (s:ByteArray) (t:Tm) (A:Option Addr) (m c:Nat),cs=[.int .i64 k,.string s,.int .i64 t.k,.string t.x,.string t.l,.string t.y,.slice A m c]/\tT n x=fc k:=by
 match n,x,h with
 | n+1,(k,s,t,kids),⟨A,c,h,_⟩=>exact⟨k,s,t,A,_,c,h,rfl⟩
theorem GV (n:Nat) (x:ExT n) (cs:List Value) (w:World) (hr:RdE n w cs x):Calls Tryz.prog 236 #[.agg cs.toArray] w λe w'=>e=.returned (.bool (!tT n x))/\Below w.heap.size w w':=by
 obtain⟨k,s,t,A,m,c,rfl,hk⟩:=gA hr
 have hB0:Below w.heap.size w (w.alloc (.cells #[.int .i64 k,.string s,.int .i64 t.k,.string t.x,.string t.l,.string t.y,.slice A m c] 68)):=blw
 have hL:=Gp k s t A m c (w.alloc (.cells #[.int .i64 k,.string s,.int .i64 t.k,.string t.x,.string t.l,.string t.y,.slice A m c] 68))
 rw[hk]
 clear hk hr
 generalize fc k=q at *
 cases q<;>(go_enter Tryz.func236,Tryz.ntmps236;go_wp2_with (go_at_call 235;refine hL.mono ?_;rintro e w2 ⟨rfl,hb2⟩);go_ret;exact⟨rfl,aa hB0 hb2⟩)
def wU (F:FuncId) (caps:Array Value) (n:Nat) (p:ExT n->Bool) (w:World) (x:ExT n):Prop:=
 ∀(cs:List Value) (W:World),Below w.heap.size w W->RdE n W cs x->Calls Tryz.prog F (#[.agg cs.toArray]++caps) W λe w'=>e=.returned (.bool (p x))/\Below W.heap.size W w'
theorem FA (F:FuncId) (caps:Array Value) (eg:∀args W,(callFunc F args).run Tryz.prog W=.ok (.enter F args) W) (n:Nat) (p:ExT n->Bool) (l:List (ExT n)) (A:Option Addr) (c:Nat) (w:World) (hl:l.length<=1353245080300) (hr:aJ n w A l)
  (hS:∀x∈l,wU F caps n p w x) :
  Calls Tryz.prog 129 #[.slice A l.length c,.func (.func F) #[] caps] w λe w'=>∃i:Int,e=.returned (.int .i64 i)/\fh i (l.any p)/\Below w.heap.size w w':=by
 have hl':(l.length:Int)<=1353245080300:=by omega
 go_enter Tryz.func129,Tryz.ntmps129
 go_wp2
 go_loopw [8] (λi wr=>∃k:Nat,k<=l.length/\i=.int .i64 k/\Hid (l.any p=(l.drop k).any p)/\Below w.heap.size w wr) (λi _=>l.length-(intOf i).toNat)
 case atStart=>exact⟨0,by omega,rfl,rfl,Below.refl _ _⟩
 case round =>
  obtain⟨k,hk,rfl,H,hB⟩:=hrel
  by_cases hlt:k<l.length
  ·obtain⟨y,hx⟩:∃x,l[k]?=some x:=⟨_,List.getElem?_eq_getElem hlt⟩
   obtain⟨g,o,k',s',t',A',m',d',rfl,hR,c0,c1,c2,c3,c4,c5,c6⟩:=(aJ.later hr hB).atv hx
   have hd:=ai hx
   have hc:=hS y (List.mem_of_getElem? hx) _ wr hB hR
   have H2:Hid (l.any p=(p y || (l.drop (k+1)).any p)):=by
    show _=_
    rw[H.out,hd,List.any_cons]
   have HBB:=Lib.hid hB
   clear hx hd H hr hR hS hB
   generalize p y=q at *
   cases q
   ·go_wp2_with (go_at_fn F;refine hc.mono ?_;rintro e w1 ⟨rfl,hb1⟩)
    go_roundw
    case rel=>exact⟨k+1,by omega,by go_num,by show _=_;rw[H2.out];rfl,aa HBB.out hb1⟩
    case measure=>simp[intOf];omega
   ·go_wp2_with (go_at_fn F;refine hc.mono ?_;rintro e w1 ⟨rfl,hb1⟩)
    go_ret
    exact⟨k,rfl,by show decide _=_;rw[H2.out];simp,aa HBB.out hb1⟩
  ·have H2:Hid (l.any p=false):=by
    show _=_
    rw[H.out,List.drop_eq_nil_of_le (by omega)];rfl
   clear H hS hr
   go_wp2
   go_ret
   exact⟨-1,rfl,by show decide _=_;rw[H2.out];rfl,hB⟩
theorem xQ (F:FuncId) (caps:Array Value) (eg:∀args W,(callFunc F args).run Tryz.prog W=.ok (.enter F args) W) (n:Nat) (p:ExT n->Bool) (l:List (ExT n)) (A:Option Addr) (c:Nat) (w:World) (hl:l.length<=1353245080300) (hr:aJ n w A l)
  (hS:∀x∈l,wU F caps n p w x) :
  Calls Tryz.prog 72 #[.slice A l.length c,.func (.func F) #[] caps] w λe w'=>e=.returned (.bool (l.any p))/\Below w.heap.size w w':=by
 have hi:=FA F caps eg n p l A c w hl hr hS
 clear hr hS
 go_enter Tryz.func72,Tryz.ntmps72
 go_wp2_with (go_at_call 129;refine hi.mono ?_;rintro e w1 ⟨i,rfl,hd,hb1⟩;have Hd:=Lib.hid hd;clear hd)
 go_ret
 exact⟨by have:=Hd.out;unfold fh at this;rw[←this];rfl,hb1⟩
theorem BA (a b:Tm) (W:World):(binOp .eql 62 (.agg #[.int .i64 a.k,.string a.x,.string a.l,.string a.y]) (.agg #[.int .i64 b.k,.string b.x,.string b.l,.string b.y])).run Tryz.prog W=.ok (.bool (az a b)) W:=by
 have hu:=Tryz.underlying62
 have hk:=Tryz.underlying60
 have hs:=Tryz.underlying9
 simp only[go_sem,hu]
 simp[go_sem,hu,hk,hs]
 unfold az
 by_cases h1:a.k=b.k
 ·by_cases h2:a.x.toList=b.x.toList
  ·by_cases h3:a.l.toList=b.l.toList
   ·by_cases h4:a.y.toList=b.y.toList<;>simp[h1,h2,h3,h4]
   ·simp[h1,h2,h3]
  ·simp[h1,h2]
 ·simp[h1]
theorem sW (t:Tm):az t zTm=lm t:=by
 have e:(⟨#[]⟩:ByteArray).toList=[]:=by rw[ByteArray.toList_eq]
 have b:∀l:List UInt8,(l == [])=l.isEmpty:=λl=>by cases l<;>rfl
 unfold az lm zTm
 simp only[e,b]
def ku (k:Int):Option (Int × Int × Bool):=if k == 3 then some (1,1,false) else if k == 4 || k == 5 then some (2,40,false) else if decide (6<=k) && decide (k<=11) then some (2,2,true) else if decide (12<=k) && decide (k<=14) then some (1,1,true) else none
def qR (o:Option (Int × Int × Bool)):Value:=match o with|some (a,b,q)=>.tuple #[cd a b q,.bool true]|none=>.tuple #[cd 0 0 false,.bool false]
theorem sX (k:Int):Value.tuple #[((rulesL.find? (λp=>p.1 == k)).map (·.2)).getD (cd 0 0 false),.bool (rulesL.find? (λp=>p.1 == k)).isSome]=qR (ku k):=by
 by_cases h:3<=k/\k<=14
 ·obtain⟨n,rfl⟩:∃n:Nat,k=n:=⟨k.toNat,by omega⟩
  have hn:n<15:=by omega
  have hn0:2<n:=by omega
  clear h
  match n,hn,hn0 with
  | 3,_,_=>rfl
  | 4,_,_=>rfl
  | 5,_,_=>rfl
  | 6,_,_=>rfl
  | 7,_,_=>rfl
  | 8,_,_=>rfl
  | 9,_,_=>rfl
  | 10,_,_=>rfl
  | 11,_,_=>rfl
  | 12,_,_=>rfl
  | 13,_,_=>rfl
  | 14,_,_=>rfl
 ·have hne:rulesL.find? (λp=>p.1 == k)=none:=by
   rw[List.find?_eq_none]
   intro p hp
   have hp2:p.1∈rulesL.map (·.1):=List.mem_map_of_mem hp
   rw[show rulesL.map (·.1)=[3,4,5,6,7,8,9,10,11,12,13,14] from rfl]at hp2
   simp only[List.mem_cons,List.not_mem_nil,or_false]at hp2
   simp only[beq_iff_eq]
   omega
  have hr:ku k=none:=by
   unfold ku
   have h3:(k == 3)=false:=by simp;omega
   have h4:(k == 4)=false:=by simp;omega
   have h5:(k == 5)=false:=by simp;omega
   have h6:(decide (6<=k) && decide (k<=11))=false:=by simp;omega
   have h7:(decide (12<=k) && decide (k<=14))=false:=by simp;omega
   simp[h3,h4,h5,h6,h7]
  rw[hne,hr];rfl
def jH (k:Int) (s:ByteArray) (t:Tm) (m:Nat) (inner:Bool):Bool:=
 if fc k then m == 0 && ((k == 1 && dO s && lm t) || (k == 2 && s.toList.isEmpty && mA t))
 else match ku k with
  | none=>false
  | some (a,b,q)=>s.toList.isEmpty && lm t && decide (a<=m) && decide ((m:Int)<=b) && !(q && inner)
def xz:(n:Nat)->ExT n->Bool
 | 0,_=>false
 | n+1,(k,s,t,kids)=>jH k s t kids.length (kids.any λy => !tT n y)
theorem GU (k:Int) (s:ByteArray) (t:Tm) (A:Option Addr) (m c r:Nat) (inner:Bool) (w:World) (hC:Ctx w) (hs:s.size<=281474976710656) (ht:szT t) (hm:m<=281474976710656) (hM:bE w .i64 r rulesL)
  (hI:∀W,Below w.heap.size w W->Calls Tryz.prog 72 #[.slice A m c,.func (.func 236) #[] #[]] W λe w'=>e=.returned (.bool inner)/\Below W.heap.size W w') :
  Calls Tryz.prog 175 #[.map (some r),.agg #[.int .i64 k,.string s,.int .i64 t.k,.string t.x,.string t.l,.string t.y,.slice A m c]] w λe w'=>e=.returned (.bool (jH k s t m inner))/\Below w.heap.size w w':=by
 have hm':(m:Int)<=281474976710656:=by omega
 obtain⟨res,hres⟩:∃r,jH k s t m inner=r:=⟨_,rfl⟩
 rw[hres]
 have Hres:=Lib.hid hres
 clear hres
 have heq:∀W:World,(binOp .eql 62 (.agg #[.int .i64 t.k,.string t.x,.string t.l,.string t.y]) (.agg #[.int .i64 0,.string ⟨#[]⟩,.string ⟨#[]⟩,.string ⟨#[]⟩])).run Tryz.prog W=.ok (.bool (lm t)) W:=λW=>by
  have:=BA t zTm W
  rw[sW]at this
  exact this
 have hB0:Below w.heap.size w (w.alloc (.cells #[.int .i64 k,.string s,.int .i64 t.k,.string t.x,.string t.l,.string t.y,.slice A m c] 68)):=blw
 have hL:=Gp k s t A m c (w.alloc (.cells #[.int .i64 k,.string s,.int .i64 t.k,.string t.x,.string t.l,.string t.y,.slice A m c] 68))
 have hN:=λW (_:Below w.heap.size w W)=>xu s W hs
 have hT:=λW hb=>Gm t W (hC.step hb) ht
 have hlk:∀W,Below w.heap.size w W->(Instr.lookup 220 (.map (some r)) (.int .i64 k) true).run Tryz.prog W=.ok (qR (ku k)) W:=λW hb=>by
  have h:=mN (P:=Tryz.prog) Tryz.underlying220 Tryz.underlying66 (z:=cd 0 0 false) (w:=W) (by kernel_rfl) (hM.later hb) k
  rw[sX]at h
  exact h
 have Heq:=Lib.hid heq
 have Hlk:=Lib.hid hlk
 have HN:=Lib.hid hN
 have HT:=Lib.hid hT
 have HI:=Lib.hid hI
 clear hlk hN hT hI hM hC hs ht heq
 generalize hbare:lm t=bare at *
 have Hbare:=Lib.hid hbare
 clear hbare
 have heq:=Heq.out
 by_cases hlf:fc k=true
 ·rw[hlf]at hL
  by_cases h1:k=1
  ·subst h1
   have hv:jH 1 s t m inner=(m == 0 && (dO s && bare)):=by rw[←Hbare.out];simp[jH,fc]
   have Hv:=Lib.hid hv
   clear hlf hv
   go_enter Tryz.func175,Tryz.ntmps175
   go_wp2_with fail
   refine hL.mono ?_
   rintro e w2 ⟨rfl,hb2⟩
   obtain⟨hc,hf⟩:=bD hb2
   have hb02:=aa hB0 hb2
   have hNm:=HN.out w2 hb02
   generalize dO s=q2 at *
   go_wp2_with fail
   refine hNm.mono ?_
   rintro e w3 ⟨rfl,hb3⟩
   have hb03:=Lib.hid (aa hb02 hb3)
   have hb23:=aa hb2 hb3
   clear hc hf hb2 hb3 hL hNm
   obtain⟨hc,hf⟩:=bD hb23
   by_cases h0:(m:Int)=0
   ·have h0':(m == 0)=true:=by simp;omega
    have Hw:Hid (res=(q2 && bare)):=by show _=_;rw[←Hres.out,Hv.out,h0'];rfl
    clear h0'
    cases q2<;>cases bare
    all_goals
     go_wp2
     go_ret
     exact⟨by rw[Hw.out];rfl,hb03.out⟩
   ·have h0':(m == 0)=false:=by simp;omega
    have Hw:Hid (res=false):=by show _=_;rw[←Hres.out,Hv.out,h0'];rfl
    clear h0'
    cases q2<;>cases bare
    all_goals
     go_wp2
     go_ret
     exact⟨by rw[Hw.out];rfl,hb03.out⟩
  ·have h2:k=2:=by simp[fc]at hlf;omega
   subst h2
   have hv:jH 2 s t m inner=(m == 0 && (s.toList.isEmpty && mA t)):=by simp[jH,fc]
   have Hv:=Lib.hid hv
   clear hlf hv h1
   go_enter Tryz.func175,Tryz.ntmps175
   go_wp2_with fail
   refine hL.mono ?_
   rintro e w2 ⟨rfl,hb2⟩
   obtain⟨hc,hf⟩:=bD hb2
   have hb02:=aa hB0 hb2
   have hTd:=HT.out w2 hb02
   generalize mA t=q2 at *
   by_cases h0:(m:Int)=0
   ·have h0':(m == 0)=true:=by simp;omega
    cases he:s.toList.isEmpty
    ·have Hw:Hid (res=false):=by show _=_;rw[←Hres.out,Hv.out,he];simp
     clear h0'
     go_wp2
     go_ret
     exact⟨by rw[Hw.out];rfl,hb02⟩
    ·have Hw:Hid (res=q2):=by show _=_;rw[←Hres.out,Hv.out,he,h0'];rfl
     clear h0'
     go_wp2_with (go_at_call 232;refine hTd.mono ?_;rintro e w3 ⟨rfl,hb3⟩)
     go_ret
     exact⟨by rw[Hw.out];rfl,aa hb02 hb3⟩
   ·have h0':(m == 0)=false:=by simp;omega
    have Hw:Hid (res=false):=by show _=_;rw[←Hres.out,Hv.out,h0'];rfl
    clear h0'
    go_wp2
    go_ret
    exact⟨by rw[Hw.out];rfl,hb02⟩
 ·have hlf2:fc k=false:=by simpa using hlf
  rw[hlf2]at hL
  have k1:(k == 1)=false:=by simp[fc]at hlf2;simpa using hlf2.1
  have k2:(k == 2)=false:=by simp[fc]at hlf2;simpa using hlf2.2
  have Hlf:=Lib.hid hlf2
  clear hlf hlf2
  go_enter Tryz.func175,Tryz.ntmps175
  go_wp2_with fail
  refine hL.mono ?_
  rintro e w2 ⟨rfl,hb2⟩
  obtain⟨hc,hf⟩:=bD hb2
  have hb02:=aa hB0 hb2
  have hlk:=Hlk.out w2 hb02
  cases hr:ku k with
  | none =>
   have Hw:Hid (res=false):=by show _=_;rw[←Hres.out,jH,Hlf.out,hr];rfl
   rw[hr]at hlk
   simp only[qR,cd]at hlk
   clear hr
   go_wp2
   go_ret
   exact⟨by rw[Hw.out];rfl,blw⟩
  | some abq =>
   obtain⟨a,b,q⟩:=abq
   have Hw:Hid (res=(s.toList.isEmpty && bare && decide (a<=m) && decide ((m:Int)<=b) && !(q && inner))):=by show _=_;rw[←Hres.out,jH,Hlf.out,hr,Hbare.out];rfl
   rw[hr]at hlk
   simp only[qR,cd]at hlk
   clear hr
   have hz2:w.heap.size<w2.heap.size:=by have:=hb2.size;simp at this;omega
   have hb2a:Below w2.heap.size w2 (w2.alloc (.cells #[.int .i64 a,.int .i64 b,.bool q] 277)):=blw
   have hIn:=HI.out _ (aa hb02 hb2a)
   have HB:=Lib.hid (aa hb02 hb2a)
   clear hb2a
   cases he:s.toList.isEmpty
   ·go_wp2
    go_ret
    exact⟨by rw[Hw.out,he];rfl,HB.out⟩
   cases bare
   ·go_wp2
    go_ret
    exact⟨by rw[Hw.out];simp,HB.out⟩
   by_cases ha:a<=(m:Int)
   case neg =>
    go_wp2
    go_ret
    exact⟨by rw[Hw.out,decide_eq_false (show ¬ a<=(m:Int) by omega)];simp,HB.out⟩
   by_cases hb:(m:Int)<=b
   case neg =>
    go_wp2
    go_ret
    exact⟨by rw[Hw.out,decide_eq_false (show ¬ (m:Int)<=b by omega)];simp,HB.out⟩
   have Hw2:Hid (res = !(q && inner)):=by show _=_;rw[Hw.out,he,decide_eq_true ha,decide_eq_true hb];simp
   cases q
   ·go_wp2
    go_ret
    exact⟨by rw[Hw2.out];rfl,HB.out⟩
   cases inner
   all_goals
    go_wp2_with (go_at_call 72;refine hIn.mono ?_;rintro e w3 ⟨rfl,hb3⟩)
    go_ret
    exact⟨by rw[Hw2.out];rfl,aa HB.out hb3⟩
def szX:(n:Nat)->ExT n->Prop
 | 0,_=>True
 | n+1,(_,s,t,kids)=>s.size<=281474976710656/\szT t/\kids.length<=1353245080300/\∀x∈kids,szX n x
theorem rH:∀args W,(callFunc 236 args).run Tryz.prog W=.ok (.enter 236 args) W:=enters_of Tryz.func236 (by kernel_rfl) rfl
theorem J9 (n:Nat) (x:ExT n) (cs:List Value) (r:Nat) (w:World) (hC:Ctx w) (hr:RdE n w cs x) (hz:szX n x) (hM:bE w .i64 r rulesL) :
  Calls Tryz.prog 175 #[.map (some r),.agg cs.toArray] w λe w'=>e=.returned (.bool (xz n x))/\Below w.heap.size w w':=by
 match n,x,hr,hz with
 | n+1,(k,s,t,kids),⟨A,c,he,hle,hk⟩,⟨hs,ht,hl,hkz⟩ =>
  subst he
  refine GU k s t A kids.length c r (kids.any λy => !tT n y) w hC hs ht (by omega) hM λW hW=>?_
  exact xQ 236 #[] rH n (λy => !tT n y) kids A c W hl (aJ.later hk hW) λx hx cs W' hW' hr=>GV n x cs W' hr
attribute [local go_sem] Oper.semAt_some
def fk (l:List Pt):Bool:=l.all λp=>xz p.1 p.2
theorem ja (l m:List Pt):fk (l++m)=(fk l && fk m):=List.all_append
theorem mZ (n:Nat) (x:ExT n):fk [⟨n,x⟩]=xz n x:=by simp[fk]
def jW (n:Nat) (x:ExT n):Bool:=decide ((cI n x).length<=40) && fk (cI n x)
theorem bk {B:Nat} {W W':World} (h:Below W.heap.size W W'):KeepsFrom B W W':=
 ⟨h.size,λk o _ hk _=>by rw[h.block k (Array.getElem?_eq_some_iff.1 hk).1];exact hk⟩
structure lN (w:World) (bn r:Nat) (k:Nat) (W:World):Prop where
 n:W.cell? ⟨bn,0,none⟩=some (.int .i64 k)
 fn:W.frozen? ⟨bn,0,none⟩=false
 res:(W.cell? ⟨w.heap.size+1,0,none⟩).isSome=true
 fres:W.frozen? ⟨w.heap.size+1,0,none⟩=false
 all:W.cell? ⟨bn+1,0,none⟩=some (.map (some r))
 m:bE W .i64 r rulesL
 below:Below w.heap.size w W
theorem zV {w:World} {bn r k:Nat} {S:Nat} (hrS:r<S) (_hbn:bn<S) {A B:World} {row:Option Nat} (h:lN w bn r k A) (hg:A.grownBy B row) (hr:∀q,row=some q->S<=q/\∃o:Obj,A.heap[q]?=some o/\o.isCells=false) (hwS:w.heap.size<=S:=by omega):lN w bn r k B:=by
 have hr2:∀q,row=some q->∃o:Obj,A.heap[q]?=some o/\o.isCells=false:=λq e=>(hr q e).2
 obtain⟨v,hv⟩:=Option.isSome_iff_exists.1 h.res
 refine⟨cell_kept h.n hg hr2,(frozen_kept h.n hg hr2).trans h.fn,by rw[cell_kept hv hg hr2];rfl,(frozen_kept hv hg hr2).trans h.fres,cell_kept h.all hg hr2,?_,h.below.grown hg h.below.size λq e=>by have:=(hr q e).1;omega⟩
 obtain⟨es,cl,h1,h2⟩:=h.m
 refine⟨es,cl,?_,h2⟩
 rw[hg.block r (Array.getElem?_eq_some_iff.1 h1).1 (λe=>by have:=(hr r e.symm).1;omega)];exact h1
theorem lG {w:World} {bn r k:Nat} {A B:World} (h:lN w bn r k A) (hb:Below A.heap.size A B):lN w bn r k B:=by
 obtain⟨v,hv⟩:=Option.isSome_iff_exists.1 h.res
 exact⟨ac h.n hb,by rw[hb.frozen (ag h.n)];exact h.fn,by rw[ac hv hb];rfl,by rw[hb.frozen (ag hv)];exact h.fres,ac h.all hb,h.m.later hb,aa h.below hb⟩
theorem zU {w:World} {bn r k:Nat} {W:World} (h:lN w bn r k W) (h1:w.heap.size+1<bn) (h2:r≠bn):lN w bn r (k+1) (W.setCell ⟨bn,0,none⟩ (.int .i64 ((k:Int)+1))):=by
 have hne:∀j,j≠bn->(W.setCell ⟨bn,0,none⟩ (.int .i64 ((k:Int)+1))).heap[j]?=W.heap[j]?:=λj hj=>Below.heap_setCell _ _ _ j hj
 refine⟨by rw[World.cell?_setCell_same' _ _ _ (by rw[h.n];rfl)];simp,by rw[World.frozen?_setCell];exact h.fn,?_,by rw[World.frozen?_setCell];exact h.fres,?_,?_,h.below.setCell (p:=⟨bn,0,none⟩) (by simp;omega) _⟩
 ·rw[World.cell?,hne _ (by simp;omega)];exact h.res
 ·rw[World.cell?,hne _ (by simp)];exact h.all
 ·obtain⟨es,cl,h1,h2'⟩:=h.m
  exact⟨es,cl,by rw[hne _ h2];exact h1,h2'⟩
theorem Kb.grown {h:Nat->Obj->Bool} {S:Nat} {w A B:World} {row:Option Nat} (k:Kb h S w A) (hg:A.grownBy B row) (hr:∀q,row=some q->S<=q/\∃o:Obj,A.heap[q]?=some o/\o.isCells=false) (_hwA:S<=w.heap.size:=by exact Nat.le_refl _):Kb h S w B:=by
 refine k.trans (.of_blocks (λi o ho _ hor=>?_) hg.size)
 rw[hg.block i (Array.getElem?_eq_some_iff.1 ho).1 ?_];exact ho
 intro e
 obtain⟨h1,q,hq,hc⟩:=hr i e.symm
 rcases hor with h2|h2
 ·rw[ho]at hq;cases hq;rw[hc]at h2;cases h2
 ·omega
theorem Ja (n:Nat) (x:ExT n) (cs:List Value) (w:World) (hC:Ctx w) (hr:RdE n w cs x) (hz:szX n x) :
  Calls Tryz.prog 117 #[.agg cs.toArray] w λe w'=>e=.returned (.bool (jW n x))/\Below w.heap.size w w':=by
 obtain⟨k,s,t,A,m,c,rfl,_⟩:=gA hr
 refine(callsIn_wide (n:=6)).1 ?_
 generalize hF:Fence.wide=F
 have hd:F.depth=none:=by rw[←hF];rfl
 have hfn:∀k,F.fn k:=by rw[←hF];exact λ_=>trivial
 have hro:F.round=none:=by rw[←hF];rfl
 have hpl:∀{m:Nat} {f:FuncId} {args:Array Value} {W:World} {R:Ending->World->Prop},Calls Tryz.prog f args W R->CallsIn F m Tryz.prog f args W R:=by rw[←hF];exact λh=>callsIn_wide.2 h
 have hdd:∀k:Nat,(F.depth.isSome=true->1<=k):=λk h=>by rw[hd]at h;cases h
 have h4:=hfn 174
 have h0:=hfn 117
 have h5:=hfn 233
 have h6:=hfn 234
 have h7:=hfn 173
 have h8:=hfn 175
 clear hF hfn
 refine callsIn_of_wp_marks Tryz.func117 rfl h0 ?_ hro
 simp only[Tryz.ntmps117,List.size_toArray,List.length_cons,List.length_nil,Nat.reduceAdd,Nat.reduceSub,Array.replicate_succ,Array.replicate_zero,List.push_toArray,List.append_toArray,List.nil_append,List.cons_append]
 gi_wp2_with (first
  | ((try refine⟨hdd _,?_⟩);gi_at_call 173;refine(hpl (GR _)).mono ?_;rintro e w1 ⟨r,rfl,hM1,hr1,hb1⟩;obtain⟨hc1,hf1⟩:=bD hb1;have hz1:w.heap.size+1<w1.heap.size:=(by have:=hb1.size;simp at this;omega);have hz0:w.heap.size<w1.heap.size:=(by omega);have hz2:w.heap.size<w1.heap.size+1:=(by omega);have hz3:w.heap.size<w1.heap.size+1+1:=(by omega))
  | ((try refine⟨hdd _,?_⟩);gi_at_call 174;refine(pU F _ h4 hro _ _ _ _).mono ?_;rintro e w' ⟨rfl,rfl⟩))
 have hb01:Below w.heap.size w w1:=(((Below.refl _ w).alloc (Nat.le_refl _) _).alloc (by simp) _).trans (hb1.mono (by simp;omega))
 obtain⟨W1,hW1⟩:∃W:World,(((w1.alloc (.cells #[.int .i64 0] 3)).alloc (.cells #[.map (some r)] 220)).alloc (.cells #[.int .i64 k,.string s,.int .i64 t.k,.string t.x,.string t.l,.string t.y,.slice A m c] 68)).alloc (.cells #[.slice (some ⟨w1.heap.size+1+1,0,none⟩) 1 1] 25)=W:=⟨_,rfl⟩
 have hsz:W1.heap.size=w1.heap.size+1+1+1+1:=by rw[←hW1];simp
 have hB1:Below w1.heap.size w1 W1:=by rw[←hW1];exact blw
 have g0:W1.heap[w1.heap.size]?=some (.cells #[.int .i64 0] 3 (0,0)):=by
  rw[←hW1,Below.heap_alloc _ _ _ (by simp;omega),Below.heap_alloc _ _ _ (by simp;omega)];exact aL w1 _ _
 have g1:W1.heap[w1.heap.size+1]?=some (.cells #[.map (some r)] 220 (0,0)):=by
  rw[←hW1,Below.heap_alloc _ _ _ (by simp),Below.heap_alloc _ _ _ (by simp)];exact av w1 _ _
 have g2:W1.heap[w1.heap.size+1+1]?=some (.cells #[.int .i64 k,.string s,.int .i64 t.k,.string t.x,.string t.l,.string t.y,.slice A m c] 68 (0,0)):=by
  rw[←hW1,Below.heap_alloc _ _ _ (by simp)]
  have:=heap_alloc_new ((w1.alloc (.cells #[.int .i64 0] 3)).alloc (.cells #[.map (some r)] 220)) (.cells #[.int .i64 k,.string s,.int .i64 t.k,.string t.x,.string t.l,.string t.y,.slice A m c] 68)
  simpa using this
 have g3:W1.heap[w1.heap.size+1+1+1]?=some (.cells #[.slice (some ⟨w1.heap.size+1+1,0,none⟩) 1 1] 25 (0,0)):=by
  rw[←hW1]
  have:=heap_alloc_new (((w1.alloc (.cells #[.int .i64 0] 3)).alloc (.cells #[.map (some r)] 220)).alloc (.cells #[.int .i64 k,.string s,.int .i64 t.k,.string t.x,.string t.l,.string t.y,.slice A m c] 68)) (.cells #[.slice (some ⟨w1.heap.size+1+1,0,none⟩) 1 1] 25)
  simpa using this
 have hres1:w1.cell? ⟨w.heap.size+1,0,none⟩=some (.bool false):=by
  rw[hb1.cell (p:=⟨w.heap.size+1,0,none⟩) (by simp),World.cell?,av];rfl
 have hfres1:w1.frozen? ⟨w.heap.size+1,0,none⟩=false:=by
  rw[hb1.frozen (p:=⟨w.heap.size+1,0,none⟩) (by simp),World.frozen?,av];rfl
 have hI0:lN w w1.heap.size r 0 W1:=⟨by rw[World.cell?,g0];rfl,by simp[World.frozen?,g0],by rw[ac hres1 hB1];rfl,by rw[hB1.frozen (p:=⟨w.heap.size+1,0,none⟩) hz1];exact hfres1,by rw[World.cell?,g1];rfl,hM1.later hB1,aa hb01 hB1⟩
 have hcm:CM w (wo (λk _=>k == w.heap.size+1 || k == w1.heap.size) W1):=λp u hp=>gt.2 ⟨ac hp hI0.below,by have:=ag hp;simp;omega⟩
 have hrs:aJ n (wo (λk _=>k == w.heap.size+1 || k == w1.heap.size) W1) (some ⟨w1.heap.size+1+1,0,none⟩) [x]:=by
  refine⟨[.int .i64 k,.string s,.int .i64 t.k,.string t.x,.string t.l,.string t.y,.slice A m c],.inr ⟨w1.heap.size+1+1,0,rfl,λj u hu=>gt.2 ⟨?_,by simp;omega⟩⟩,All.one rfl (hr.cm hcm)⟩
  rw[World.cell?,g2]
  simpa using hu
 have hbx:(wo (λk _=>k == w.heap.size+1 || k == w1.heap.size) W1).cell? ⟨w1.heap.size+1+1+1,0,none⟩=some (.slice (some ⟨w1.heap.size+1+1,0,none⟩) 1 1):=gt.2 ⟨by rw[World.cell?,g3];rfl,by simp;omega⟩
 have hs:=jF F hd h5 h6 hro (λk _=>k == w.heap.size+1 || k == w1.heap.size) (6-1) n W1 (λk _ _ hk=>by simp;omega) szX (λn k s t kids h=>⟨h.2.2.1,h.2.2.2⟩) [x] (some ⟨w1.heap.size+1+1,0,none⟩) 1 (w1.heap.size+1+1+1) hrs (by simp) (by simpa using hz) hbx
 have hrw:r<w1.heap.size:=by
  obtain⟨es,cl,h,_⟩:=hM1
  exact(Array.getElem?_eq_some_iff.1 h).1
 have hrS:r<W1.heap.size:=by omega
 simp only[hW1]
 have HW:=Lib.hid hW1
 have Hsz:=Lib.hid hsz
 have hbn:w1.heap.size<W1.heap.size:=by omega
 have hfl:[x].flatMap (cI n)=cI n x:=by simp
 rw[hfl]at hs
 clear hW1 hrs hbx hcm g0 g1 g2 g3 hfl hres1 hfres1 hc1 hf1 hM1 hsz
 refine wpIn_rangeFunc_ownH hro (by omega) (gf:=233) (lb:=#[.pointer (some ⟨w1.heap.size+1+1+1,0,none⟩)]) rfl h5 (enters_of Tryz.func233 (by kernel_rfl) rfl)
  hs (λh k=>h.trans k) (λW l o o' hl ho hc _=>Kb.put hl ho hc) (Below.refl _ _) (λ_=>rfl)
  (λpre W=>lN w w1.heap.size r pre.length W/\Kb (λk _=>k == w.heap.size+1 || k == w1.heap.size) W1.heap.size W1 W/\pre.length<=40/\fk (pts pre)=true)
  (λcc pre W=>cc=.ret/\W.cell? ⟨w.heap.size+1,0,none⟩=some (.bool false)/\Below w.heap.size w W/\(40<pre.length∨fk (pts pre)=false))
  (λs A B row hs hg hr=>⟨zV hrS hbn hs.1 hg hr (by have:=hI0.below.size;omega),hs.2.1.grown hg hr,hs.2.2⟩)
  (λc s A B row hs hg hr=>⟨hs.1,cell_kept hs.2.1 hg (λq e=>(hr q e).2),hs.2.2.1.grown hg (Nat.le_trans (Nat.le_refl _) hs.2.2.1.size) (λq e=>by have:=(hr q e).1;have:=hI0.below.size;omega),hs.2.2.2⟩)
  ⟨hI0,Kb.refl _ _ _,by simp,rfl⟩
  (λa a' W=>∃(Bx:Nat) (k':Int) (s':ByteArray) (t':Tm) (A':Option Addr) (m' c':Nat),a.cs=[.int .i64 k',.string s',.int .i64 t'.k,.string t'.x,.string t'.l,.string t'.y,.slice A' m' c']/\W.heap[Bx]?=some (.cells #[.int .i64 k',.string s',.int .i64 t'.k,.string t'.x,.string t'.l,.string t'.y,.slice A' m' c'] 68 (0,0))/\W1.heap.size<=Bx /\
   a'={tmps:=#[.agg #[.int .i64 k,.string s,.int .i64 t.k,.string t.x,.string t.l,.string t.y,.slice A m c],.pointer (some ⟨w.heap.size,0,none⟩),.pointer (some ⟨w.heap.size+1,0,none⟩),.pointer (some ⟨w1.heap.size,0,none⟩),.pointer (some ⟨w1.heap.size+1,0,none⟩),.pointer (some ⟨Bx,0,none⟩),.map (some r),.agg #[.int .i64 k,.string s,.int .i64 t.k,.string t.x,.string t.l,.string t.y,.slice A m c],.slice (some ⟨w1.heap.size+1+1,0,none⟩) 1 1,.func (.func 233) #[] #[.pointer (some ⟨w1.heap.size+1+1+1,0,none⟩)],.agg #[.int .i64 k',.string s',.int .i64 t'.k,.string t'.x,.string t'.l,.string t'.y,.slice A' m' c'],undef,undef,undef,undef,undef,undef,undef,undef,undef,undef],defers:=[]})
  ?hAx ?assign ?body ?done ?stop
 case hAx =>
  rintro a a' _ A B row ⟨Bx,k',s',t',A',m',c',h1,h2,h3,h4⟩ hg hr
  refine⟨Bx,k',s',t',A',m',c',h1,?_,h3,h4⟩
  rw[hg.block Bx (Array.getElem?_eq_some_iff.1 h2).1 (λe=>by obtain⟨_,o,ho,hoc⟩:=hr Bx e.symm;rw[h2]at ho;cases ho;cases hoc)];exact h2
 case assign =>
  rintro l pre a W K ⟨hi,hk,hlen,hall⟩ hK
  have e:∀(b:Array Value) (v:Value),(#[10].zip #[v]).foldl (λt (p,v)=>t.setIfInBounds p v) b=b.setIfInBounds 10 v:=λb v=>by simp
  rw[e]
  obtain⟨k',s',t',A',m',c',hcs,_⟩:=gA a.rd
  have hB2:Below W.heap.size W (W.alloc (.cells #[.int .i64 k',.string s',.int .i64 t'.k,.string t'.x,.string t'.l,.string t'.y,.slice A' m' c'] 68)):=blw
  have hfin:=λa' h=>hK a' (W.alloc (.cells #[.int .i64 k',.string s',.int .i64 t'.k,.string t'.x,.string t'.l,.string t'.y,.slice A' m' c'] 68)) (bk hB2) (Kb.of_below hB2 hk.size) ⟨lG hi hB2,hk.trans (Kb.of_below hB2 hk.size),hlen,hall⟩ ⟨W.heap.size,k',s',t',A',m',c',hcs,heap_alloc_new _ _,hk.size,h⟩
  have Hfin:=Lib.hid hfin
  rw[hcs]
  clear hK hi hall hfin hk hB2
  gi_wp2
  exact Hfin.out _ rfl
 case body =>
  rintro l pre a a' W hl ⟨rr,hrr⟩ ⟨hi,hk,hlen,hall⟩ ⟨Bx,k',s',t',A',m',c',hcs,hbx,hBx,rfl⟩ hN
  have c0:=hi.n
  have c1:=hi.fn
  have c2:=hi.all
  have c3:=hi.fres
  obtain⟨v0,c4⟩:=Option.isSome_iff_exists.1 hi.res
  have hlen':(pre.length:Int)<=40:=by omega
  have hwb:w.heap.size<=w1.heap.size:=by omega
  have hBw:Below w.heap.size w (W.setCell ⟨w1.heap.size,0,none⟩ (.int .i64 ((pre.length:Int)+1))):=hi.below.setCell (p:=⟨w1.heap.size,0,none⟩) hwb _
  have hkw:Kb (λk _=>k == w.heap.size+1 || k == w1.heap.size) W1.heap.size W (W.setCell ⟨w1.heap.size,0,none⟩ (.int .i64 ((pre.length:Int)+1))):=Kb.set _ (by simp)
  have hra:RdE a.n (W.setCell ⟨w1.heap.size,0,none⟩ (.int .i64 ((pre.length:Int)+1))) a.cs a.x:=a.rd.cm ((hk.trans hkw).cells.trans λp u h=>(aV.1 h).1)
  have hMw:bE (W.setCell ⟨w1.heap.size,0,none⟩ (.int .i64 ((pre.length:Int)+1))) .i64 r rulesL:=by
   obtain⟨es,cl,h1,h2⟩:=hi.m
   exact⟨es,cl,by rw[Below.heap_setCell _ _ _ r (by simp;omega)];exact h1,h2⟩
  have hq:=J9 a.n a.x a.cs r _ (hC.step hBw) hra a.z hMw
  rw[hcs]at hq
  have hBn:w1.heap.size<Bx:=by omega
  have b0:W.cell? ⟨Bx,0,none⟩=some (.int .i64 k'):=by rw[World.cell?,hbx];rfl
  have b1:W.cell? ⟨Bx,1,none⟩=some (.string s'):=by rw[World.cell?,hbx];rfl
  have b2:W.cell? ⟨Bx,2,none⟩=some (.int .i64 t'.k):=by rw[World.cell?,hbx];rfl
  have b3:W.cell? ⟨Bx,3,none⟩=some (.string t'.x):=by rw[World.cell?,hbx];rfl
  have b4:W.cell? ⟨Bx,4,none⟩=some (.string t'.l):=by rw[World.cell?,hbx];rfl
  have b5:W.cell? ⟨Bx,5,none⟩=some (.string t'.y):=by rw[World.cell?,hbx];rfl
  have b6:W.cell? ⟨Bx,6,none⟩=some (.slice A' m' c'):=by rw[World.cell?,hbx];rfl
  have e4:(W.setCell ⟨w1.heap.size,0,none⟩ (.int .i64 ((pre.length:Int)+1))).cell? ⟨w.heap.size+1,0,none⟩=some v0:=by rw[World.cell?,Below.heap_setCell _ _ _ _ (by simp;omega)];exact c4
  have e3:(W.setCell ⟨w1.heap.size,0,none⟩ (.int .i64 ((pre.length:Int)+1))).frozen? ⟨w.heap.size+1,0,none⟩=false:=by rw[World.frozen?_setCell];exact c3
  obtain⟨q,hqv⟩:∃q,xz a.n a.x=q:=⟨_,rfl⟩
  rw[hqv]at hq
  have Hb:=Lib.hid hbx
  have Hs:=Lib.hid hBx
  clear hbx hBx
  have Hi:=Lib.hid hi
  have Hk:=Lib.hid hk
  have Hall:=Lib.hid hall
  have HB:=Lib.hid hBw
  have Hkw:=Lib.hid hkw
  clear hi hk hall hra hMw hBw hkw
  gi_wp2_with ((try refine⟨hdd _,?_⟩);gi_at_call 175;refine(CallsIn.inRound l (hpl hq)).mono ?_;rintro e w' ⟨rfl,hb'⟩;have d4:=ac e4 hb';have d3:=(hb'.frozen (p:=⟨w.heap.size+1,0,none⟩) (ag e4)).trans e3)
  ·rename_i h1 h2
   have hq0:q=false:=by
    cases q
    ·rfl
    ·rcases h2 with h|h
     ·omega
     ·cases h
   subst hq0
   have hB':=aa HB.out hb'
   refine⟨((KeepsOthers.setCell _ _ _).from _).trans ((bk hb').trans ((KeepsOthers.setCell _ _ _).from _)),rfl,World.cell?_setCell_same' _ _ _ (by rw[d4];rfl),hB'.setCell (p:=⟨w.heap.size+1,0,none⟩) (by simp) _,.inr ?_⟩
   rw[ce,ja]
   have:fk (pts [a])=false:=by rw[←hqv];exact mZ _ _
   rw[this,Bool.and_false]
  ·have hq1:q=true:=by cases q<;>simp_all
   subst hq1
   have hsz':W1.heap.size<=(W.setCell ⟨w1.heap.size,0,none⟩ (.int .i64 ((pre.length:Int)+1))).heap.size:=Nat.le_trans Hk.out.size Hkw.out.size
   have hkk:=Hkw.out.trans (Kb.of_below hb' hsz')
   refine⟨((KeepsOthers.setCell _ _ _).from _).trans (bk hb'),hkk,?_,Hk.out.trans hkk,by simp;omega,?_⟩
   ·rw[List.length_append]
    exact lG (zU Hi.out (by omega) (by omega)) hb'
   ·rw[ce,ja,Hall.out]
    have:fk (pts [a])=true:=by rw[←hqv];exact mZ _ _
    rw[this,Bool.and_true]
  ·rename_i hgt
   refine⟨((KeepsOthers.setCell _ _ _).from _).trans ((KeepsOthers.setCell _ _ _).from _),rfl,World.cell?_setCell_same' _ _ _ (by rw[e4];rfl),HB.out.setCell (p:=⟨w.heap.size+1,0,none⟩) (by simp) _,.inl ?_⟩
   simp;omega
 case done =>
  rintro D ys W hD hS ⟨hi,hk,hlen,hall⟩ hK
  have c3:=hi.fres
  obtain⟨v0,c4⟩:=Option.isSome_iff_exists.1 hi.res
  have hB:=Lib.hid hi.below
  have hv:jW n x=true:=by
   rw[jW,←hS,hall,fQ];simp[hlen]
  clear hi hk hall
  gi_wp2
  have hK2:=(KeepsOthers.setCell W ⟨w.heap.size+1,0,none⟩ (Value.bool true)).same D _ hK rfl
  refine⟨by simp,.inl ⟨_,_,rfl,run_takeDeferred hK2,?_⟩⟩
  have hc2:(W.setCell ⟨w.heap.size+1,0,none⟩ (Value.bool true)).cell? ⟨w.heap.size+1,0,none⟩=some (.bool true):=World.cell?_setCell_same' _ _ _ (by rw[c4];rfl)
  have hc3:=cell_kept hc2 (grownBy_putObj' _ D (.deferred none)) (λr e=>by cases e;exact⟨_,hK2,rfl⟩)
  refine⟨.bool true,?_,by rw[hv],(hB.out.setCell (p:=⟨w.heap.size+1,0,none⟩) (by simp) _).trans (belowK_b (w:=w) (Nat.le_refl _) _ D _ _ (by omega) hK2 rfl rfl)⟩
  simp[results,Tryz.results117,go_sem,hc3]
 case stop =>
  rintro D cc pre W hD hS ⟨rfl,hc,hB,hbad⟩ hK
  have hv:jW n x=false:=by
   obtain⟨rest,hrest⟩:=hS
   rw[jW,←hrest]
   rcases hbad with hb|hb
   ·have:¬ ((pts pre++rest).length<=40):=by rw[List.length_append,fQ];omega
    rw[decide_eq_false this,Bool.false_and]
   ·rw[ja,hb];simp
  have HB:=Lib.hid hB
  clear hbad hB hS
  gi_wp2
  refine⟨by simp,.inl ⟨_,_,rfl,run_takeDeferred hK,?_⟩⟩
  have hc3:=cell_kept hc (grownBy_putObj' _ D (.deferred none)) (λr e=>by cases e;exact⟨_,hK,rfl⟩)
  refine⟨.bool false,?_,by rw[hv],HB.out.trans (belowK_b (w:=w) (Nat.le_refl _) _ D _ _ (by omega) hK rfl rfl)⟩
  simp[results,Tryz.results117,go_sem,hc3]
end Go.Proofs.YtfcbghmbbjolcaaGreatDoor
