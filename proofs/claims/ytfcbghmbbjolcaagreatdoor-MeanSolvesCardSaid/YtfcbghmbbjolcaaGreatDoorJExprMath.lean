/- Words that all walks of this seat use: bytes of a string, ce -/
import Derived.Test.YtfcbghmbbjolcaaGreatDoorRows
import Derived.Test.YtfcbghmbbjolcaaGreatDoorShelf
import Derived.Lib.QuietBelow
import Derived.Deep.AppendLies
import Derived.WalkSpells
import Derived.WalkLawsBesides
import Derived.Handy
namespace Go.Proofs.YtfcbghmbbjolcaaGreatDoor
open Go Go.RowKit
def bn (s:ByteArray) (i:Nat):Nat:=(s.data.toList.getD i 0).toNat
theorem ar (s:ByteArray):s.data.toList.length=s.size:=by cases s;rfl
@[go_sem] theorem K4 (s:ByteArray) (i:Nat) (h:i<s.size):(s[i]'h).toNat=bn s i:=by
 have hl:i<s.data.toList.length:=by rw[ar];exact h
 have:s[i]'h=s.data.toList[i]:=by cases s;rfl
 rw[this,bn,List.getD_eq_getElem?_getD,List.getElem?_eq_getElem hl];rfl
theorem gh (s:ByteArray) (i:Nat):bn s i<256:=by
 have:=(s.data.toList.getD i 0).toNat_lt
 unfold bn;omega
@[go_sem] theorem IW (s:ByteArray) (i:Nat):wrap64 (bn s i:Int)=(bn s i:Int):=
 IntWalk.wrap64_in _ ⟨by omega,by have:=gh s i;omega⟩
theorem Ga (s:ByteArray) (k i:Nat):((s.data.toList.drop k).getD i 0).toNat=bn s (k+i):=by
 unfold bn
 simp[List.getD_eq_getElem?_getD,List.getElem?_drop]
theorem extract_toList (s:ByteArray) (a b:Nat):(s.extract a b).data.toList=(s.data.toList.drop a).take (b-a):=by
 rw[Lib.extract_data]
def Rd (w:World) (A:Option Addr) (xs:List Value):Prop:=
 xs=[]∨∃g o,A=some ⟨g,o,none⟩/\∀j u,xs[j]?=some u->w.cell? ⟨g,o+j,none⟩=some u
theorem ag {w:World} {p:Addr} {u:Value} (h:w.cell? p=some u):p.block<w.heap.size:=by
 rcases Nat.lt_or_ge p.block w.heap.size with hlt|hge
 ·exact hlt
 ·rw[World.cell?,Array.getElem?_eq_none hge]at h;cases h
theorem Rd.nil (w:World) (A:Option Addr):Rd w A []:=.inl rfl
theorem Rd.at_ {w:World} {A:Option Addr} {xs:List Value} (h:Rd w A xs) {j:Nat} {u:Value} (hu:xs[j]?=some u) :
  ∃g o,A=some ⟨g,o,none⟩/\w.cell? ⟨g,o+j,none⟩=some u:=by
 rcases h with rfl|⟨g,o,hA,hc⟩
 ·simp at hu
 ·exact⟨g,o,hA,hc j u hu⟩
theorem Rd.below {w w':World} {A:Option Addr} {xs:List Value} (h:Rd w A xs) {B:Nat} (hb:Below B w w') (hB:w.heap.size<=B):Rd w' A xs:=by
 rcases h with rfl|⟨g,o,hA,hc⟩
 ·exact .inl rfl
 ·refine .inr ⟨g,o,hA,λj u hu=>?_⟩
  have h1:=hc j u hu
  have h2:=ag h1
  rw[hb.cell (p:=⟨g,o+j,none⟩) (by simp only at h2 ⊢;omega)];exact h1
theorem Rd.of_block {w:World} {g:Nat} {cs:Array Value} {t:TypeId} {fr:Nat × Nat} {xs:List Value} (h:w.heap[g]?=some (.cells cs t fr)) (hx:cs.toList=xs) :
  Rd w (some ⟨g,0,none⟩) xs:=by
 refine .inr ⟨g,0,rfl,λj u hu=>?_⟩
 simp only[World.cell?,h,Nat.zero_add]
 subst hx
 simpa using hu
theorem Rd.of_own {w:World} {base:Nat} {e:TypeId} {size n c:Nat} {A:Option Addr} {xs:List Value} (h:w.ownsRow base e size (.slice A n c) n xs):Rd w A xs:=by
 rcases xs with _|⟨x,r⟩
 ·exact .inl rfl
 ·obtain⟨hl,hr⟩:=h
  rcases hr with ⟨hv,hn⟩|⟨g,cap,cur,hv,_,hh,_,_,hs,ht⟩
  ·subst hn;simp at hl
  ·injection hv with hA _ _
   refine .inr ⟨g,0,hA,λj u hu=>?_⟩
   simp only[World.cell?,hh,Nat.zero_add]
   rw[←ht]at hu
   rw[List.getElem?_take]at hu
   split at hu
   ·simpa using hu
   ·cases hu
theorem Rd.take {w:World} {A:Option Addr} {xs:List Value} (h:Rd w A xs) (n:Nat):Rd w A (xs.take n):=by
 rcases h with rfl|⟨g,o,hA,hc⟩
 ·exact .inl (by simp)
 ·refine .inr ⟨g,o,hA,λj u hu=>hc j u ?_⟩
  rw[List.getElem?_take]at hu
  split at hu
  ·exact hu
  ·cases hu
theorem own_below {w w':World} {base:Nat} {e:TypeId} {size n:Nat} {v:Value} {xs:List Value} (h:w.ownsRow base e size v n xs) {B:Nat} (hb:Below B w w') (hB:w.heap.size<=B):w'.ownsRow base e size v n xs:=by
 refine⟨h.1,?_⟩
 rcases h.2 with h0|⟨g,cap,cur,hv,hg,hh,r⟩
 ·exact .inl h0
 ·refine .inr ⟨g,cap,cur,hv,hg,?_,r⟩
  have hlt:g<w.heap.size:=by
   rcases Nat.lt_or_ge g w.heap.size with hlt|hge
   ·exact hlt
   ·rw[Array.getElem?_eq_none hge]at hh;cases hh
  rw[hb.block g (by omega)];exact hh
theorem aR (g o j:Nat):(⟨g,o,none⟩:Addr).add j=⟨g,o+j,none⟩:=by
 unfold Addr.add;split<;>simp_all
theorem bg {P:Program} {w:World} {ops:Array Oper} {rest:List Oper} {o:Oper} {a:Act} {Q:Exit->Act->World->Prop} {s x:Operand} {t:TypeId}
  (ho:o.op=.call {callee:=.builtin .append,args:=#[s,x],argTypes:=#[t,t]}) (hgd:o.guard=none)
  {e:TypeId} {z:Value} {size bytes:Nat} (ht:P.underlying t=some (.slice e)) (hinfo:(P.info? e).map (λi=>(i.zero,i.size,i.bytes))=some (some z,size,bytes))
  (hzs:z.cells.size=size) (hsz:0<size)
  {base:Nat} {v:Value} {n:Nat} {xs:List Value} (hs:a.eval s=v) (hown:w.ownsRow base e size v n xs)
  {A:Option Addr} {m c:Nat} {news:List Value} (hx:a.eval x=.slice A m c) (hr:Rd w A news) (hl:news.length=m*size) (h1:∀u∈news,u.oneCell'=true)
  (hbytes:(n+m)*bytes<=140737488355328) (h63:n+m<=9223372036854775807) (hbase:base<=w.heap.size)
  (h:∀v' w',w'.ownsRow base e size v' (n+m) (xs++news)->Below base w w'->wpList P ops Q rest (a.put o.dst v') w'):wpList P ops Q (o::rest) a w:=by
 obtain⟨i,hi,hz,hsize,hby⟩:=info_parts hinfo
 have below:∀{w':World},w.grownBy w' v.ownBlock->Below base w w':=λhg=>(Below.refl _ _).grown hg hbase λk hk=>(hown.lt k hk).1
 rcases hr with rfl|⟨g,off,rfl,hc⟩
 ·have hm:m=0:=by
   rcases Nat.eq_zero_or_pos m with h0|h0
   ·exact h0
   ·have:=Nat.mul_pos h0 hsz
    simp at hl;omega
  subst hm
  rcases A with _|ad
  ·refine wpList_plain hgd λK hK=>?_
   have hrun:(Builtin.append_ #[t,t] o.type #[v,.slice none 0 c]).run P w=.ok v w:=by
    rcases hown.2 with ⟨rfl,rfl⟩|⟨g,cap,cur,rfl,_,_,hnc,_⟩
    ·simp[Builtin.append_,run_underlying ht,sizeOf,typeInfo,hi,Builtin.lenOf,Builtin.firstCells]
    ·simp[Builtin.append_,run_underlying ht,sizeOf,typeInfo,hi,Builtin.lenOf,Builtin.firstCells,hnc,storeCells]
   unfold Oper.wp execOp
   simp only[ho,resolve,invoke,builtin,Sem.run_bind,Sem.run_pure,Result.andThen_ok,List.map_toArray,List.map_cons,List.map_nil,hs,hx,hrun]
   exact hK _ _ (h v w (by simpa using hown) (Below.refl _ _))
  ·exact wpList_append_own w hgd s x t ho base e i z size bytes ht hi hz hsize hby hzs hsz v n xs hs hown ad 0 c [] hx hl (by simp) (by simp) h63 hbytes hbase (λv' w' a b _=>h v' w' a (below b))
 ·exact wpList_append_own w hgd s x t ho base e i z size bytes ht hi hz hsize hby hzs hsz v n xs hs hown ⟨g,off,none⟩ m c news hx hl (λj u hu=>by rw[aR];exact hc j u hu) h1 h63 hbytes hbase (λv' w' a b _=>h v' w' a (below b))
theorem aT {P:Program} {w:World} {A:Option Addr} {n c:Nat} {xs:List Int} (src dst e:TypeId) (hs:P.underlying src=some (.slice e)) (he:P.underlying e=some (.int .u8)) (hd:P.underlying dst=some .string)
  (hr:Rd w A (xs.map (Value.int .u8))) (hn:xs.length=n):(convert src dst (.slice A n c)).run P w=.ok (.string (strOfNums xs)) w:=by
 rcases hr with h0|⟨g,o,rfl,hc⟩
 ·have hx:xs=[]:=by simpa using h0
  subst hx
  simp only[List.length_nil]at hn
  subst hn
  rcases A with _|⟨g,o,sp⟩
  ·rw[run_convert_bytes_nil w src e hs he 0 c dst hd];rfl
  ·rw[run_convert_bytes_string w src dst e _ 0 c hs he hd,run_bytesToString w _ 0 c [] (by rfl)]
   rfl
 ·exact run_convert_bytes_arg w src e hs he g o n c xs hn (λi hi=>by
   have h:i<xs.length:=by omega
   exact hc i (.int .u8 (xs.getD i 0)) (by rw[List.getElem?_map,List.getElem?_eq_getElem h];simp[List.getD_eq_getElem?_getD,h])) dst hd
structure Ctx (w:World):Prop where
 tabs:Lib.Utf8Tabs 0 1 w
 maxl:∃m:Int,w.cell? ⟨4,0,none⟩=some (.int .i64 m)
theorem Ctx.step {w w':World} (h:Ctx w) (hb:Below w.heap.size w w'):Ctx w':=by
 have key:∀{p:Addr} {v:Value},w.cell? p=some v->w'.cell? p=some v:=λhc=>by rw[hb.cell (ag hc)];exact hc
 refine⟨⟨λc hc=>key (h.tabs.1 c hc),λi hi=>⟨key (h.tabs.2 i hi).1,key (h.tabs.2 i hi).2⟩⟩,?_⟩
 obtain⟨m,hm⟩:=h.maxl
 exact⟨m,key hm⟩
theorem aL (w:World) (o1 o2:Obj):((w.alloc o1).alloc o2).heap[w.heap.size]?=some o1:=by
 rw[Below.heap_alloc _ _ _ (by simp)];exact heap_alloc_new w o1
theorem av (w:World) (o1 o2:Obj):((w.alloc o1).alloc o2).heap[w.heap.size+1]?=some o2:=by
 have:=heap_alloc_new (w.alloc o1) o2
 simpa using this
theorem bD {B:Nat} {w w1:World} (hb:Below B w w1):(∀b o,b<B->w1.cell? ⟨b,o,none⟩=w.cell? ⟨b,o,none⟩)/\(∀b o,b<B->w1.frozen? ⟨b,o,none⟩=w.frozen? ⟨b,o,none⟩):=
 ⟨λb o h=>hb.cell (p:=⟨b,o,none⟩) h,λb o h=>hb.frozen (p:=⟨b,o,none⟩) h⟩
theorem wrq {P:Program} {id:Nat} {Q:Exit->Act->World->Prop} {a:Act} {w:World} {l:List Oper} (h:wpQuiet P l.toArray (λw'=>∃p:Regrown,w'=Sort.grow (redrawn w p.d) p.os) (λa'=>∀w',(∃p:Regrown,w'=Sort.grow (redrawn w p.d) p.os)->Q .normal a' w') l a) (hm:P.follows .mixedOrders=true:=by kernel_rfl) (hB:Region.lexB .any l.toArray=true:=by kernel_rfl):(Code.region id l.toArray true).wp P Q a w:=wp_region_quiet_below hm hB h
theorem wqn {P:Program} {ops:Array Oper} {C:World->Prop} {w:World} {a:Act} {R:Act->World->Prop} (h:∀d os,R a (Sort.grow (redrawn w d) os)):wpQuiet P ops C (λa'=>∀w',(∃p:Regrown,w'=Sort.grow (redrawn w p.d) p.os)->R a' w') [] a:=wpQuiet_nil (by rintro w' ⟨⟨d,os⟩,rfl⟩;exact h d os)
end Go.Proofs.YtfcbghmbbjolcaaGreatDoor
namespace Go.Proofs.YtfcbghmbbjolcaaGreatDoor.Fm
open Go
structure Tm where
 k:Int
 x:ByteArray
 l:ByteArray
 y:ByteArray
def cM:ByteArray:=⟨#[104,116,116,112,58,47,47,119,119,119,46,119,51,46,111,114,103,47,50,48,48,49,47,88,77,76,83,99,104,101,109,97,35,105,110,116,101,103,101,114]⟩
def cP:ByteArray:=⟨#[104,116,116,112,58,47,47,119,119,119,46,119,51,46,111,114,103,47,50,48,48,49,47,88,77,76,83,99,104,101,109,97,35,98,111,111,108,101,97,110]⟩
def df (t:Tm) (ty:ByteArray):Bool:=t.k == 4 && t.l.toList.isEmpty && t.y.toList == ty.toList
def kx (t:Tm):Bool:=t.k == 3 && t.l.toList.isEmpty && t.y.toList.isEmpty
def tR (t:Tm):Bool:=t.k == 3 || t.k == 4
def az (a b:Tm):Bool:=a.k == b.k && a.x.toList == b.x.toList && a.l.toList == b.l.toList && a.y.toList == b.y.toList
def Am:List UInt8:=[48,49,50,51,52,53,54,55,56,57]
def oZ (m:Bool) (r:List UInt8):Option (Bool × List UInt8):=
 if r.isEmpty || !(r.all Am.contains) then none
 else if (r.dropWhile (· == 48)).isEmpty then some (false,[48]) else some (m,r.dropWhile (· == 48))
def Fb (s:List UInt8):Option (Bool × List UInt8):=
 match s with
 | 45::r=>oZ true r
 | 43::r=>oZ false r
 | _=>oZ false s
def vS (t:Tm):Option (Bool × List UInt8):=if df t cM then Fb t.x.toList else none
def re (t:Tm):Bool:=((vS t).map (·.1)).getD false
def em (t:Tm):List UInt8:=((vS t).map (·.2)).getD []
def pa (t:Tm):Bool:=(vS t).isSome
def mu (t:Tm):Bool:=t.x.toList == [116,114,117,101] || t.x.toList == [49]
def gV (t:Tm):Bool:=df t cP && (mu t || t.x.toList == [102,97,108,115,101] || t.x.toList == [48])
def fw (b:Bool):Int:=if b then 1 else 2
def iy (t:Int):Int:=if t=1 then 2 else if t=2 then 1 else 3
def rR (t:Tm):Int:=
 if df t cP then fw (gV t && mu t)
 else if df t cM then fw (pa t && !(em t == [48]))
 else if t.k == 3 then fw (!t.x.toList.isEmpty) else 3
def aZ (a b:List UInt8):Int:=if Op.bytesLess a b then -1 else if a == b then 0 else 1
def wt (b:Bool):Int:=if b then 1 else 0
def Iz (d e:List UInt8):Int:=if Lib.compareInt d.length e.length=0 then aZ d e else Lib.compareInt d.length e.length
def zp (a b:Tm):Int:=
 if pa a && pa b then (if re a != re b then wt (re b)-wt (re a) else if re a then -Iz (em a) (em b) else Iz (em a) (em b))
 else if gV a && gV b then wt (mu a)-wt (mu b) else aZ a.x.toList b.x.toList
def zq (a b:Tm):Bool:=(pa a && pa b) || (gV a && gV b) || (kx a && kx b)
def xk (a b:Tm):Int:=if zq a b then fw (zp a b == 0) else if az a b then 1 else if !tR a || !tR b then 2 else 3
def nT (a b:Tm):Int:=if zq a b then fw (decide (zp a b<0)) else 3
def lY (l:List Int) (x:Int):Bool:=l.contains x
def oY (l:List Int) (s:Int):Bool:=l.any (λt => !(t == iy s))
def fh (i:Int) (b:Bool):Prop:=decide (0<=i)=b
def im (s:Int) (l:List Int):Int:=if lY l s then s else if oY l s then 3 else iy s
def AO (l:List Int):Int:=im 2 l
def orI (l:List Int):Int:=im 1 l
theorem uH (a b:List UInt8):aZ b a = -aZ a b:=by
 unfold aZ
 rw[bytesLess_eq,bytesLess_eq]
 by_cases h1:a<b
 ·have h2:¬ b<a:=List.lt_asymm h1
  have h3:¬ b=a:=λh=>by subst h;exact h2 h1
  simp[h1,h2,h3]
 ·by_cases h2:b<a
  ·have h3:¬ a=b:=λh=>by subst h;exact h1 h2
   simp[h1,h2,h3]
  ·have h3:a=b:=List.le_antisymm (List.not_lt.1 h2) (List.not_lt.1 h1)
   subst h3
   simp[h1]
theorem FY (a b:List UInt8):aZ a b<0↔a<b:=by
 unfold aZ
 rw[bytesLess_eq]
 by_cases h1:a<b
 ·simp[h1]
 ·by_cases h2:a=b
  ·subst h2;simp[h1]
  ·simp[h1,h2]
theorem ip (a b:List UInt8):aZ a b=0↔a=b:=by
 unfold aZ
 rw[bytesLess_eq]
 by_cases h1:a<b
 ·have:a≠b:=λh=>by subst h;exact List.lt_irrefl _ h1
  simp[h1,this]
 ·by_cases h2:a=b<;>simp[h1,h2]
theorem yb (a b c:List UInt8) (h1:aZ a b<0) (h2:aZ b c<0):aZ a c<0:=by
 rw[FY]at *
 exact List.lt_trans h1 h2
theorem cT (x y:Int):Lib.compareInt x y=0↔x=y:=by
 unfold Lib.compareInt
 split
 ·simp;omega
 ·split
  ·simp;omega
  ·simp;omega
end Go.Proofs.YtfcbghmbbjolcaaGreatDoor.Fm
namespace Go.Proofs.YtfcbghmbbjolcaaGreatDoor
open Go Go.RowKit Fm
def All {α:Type} (sz:Nat) (R:List Value->α->Prop):List Value->List α->Prop
 | xs,[]=>xs=[]
 | xs,e::l=>∃cs ys,xs=cs++ys/\cs.length=sz/\R cs e/\All sz R ys l
section
variable {α:Type} {sz:Nat} {R:List Value->α->Prop}
theorem All.len:∀{l:List α} {xs:List Value},All sz R xs l->xs.length=l.length*sz
 | [],xs,h=>by cases h;simp
 | e::l,xs,⟨cs,ys,hx,hc,_,h⟩=>by subst hx;simp[hc,h.len,Nat.add_mul];omega
theorem All.at_:∀{l:List α} {xs:List Value},All sz R xs l->∀{j:Nat} {e:α},l[j]?=some e->∃cs,cs.length=sz/\R cs e/\∀i u,cs[i]?=some u->xs[j*sz+i]?=some u
 | [],_,_,j,e,he=>by simp at he
 | a::l,xs,⟨cs,ys,hx,hc,hr,h⟩,j,e,he=>by
  subst hx
  rcases j with _|j
  ·simp at he;subst he
   refine⟨cs,hc,hr,λi u hu=>?_⟩
   have:i<cs.length:=by
    rcases Nat.lt_or_ge i cs.length with h1|h1
    ·exact h1
    ·rw[List.getElem?_eq_none h1]at hu;cases hu
   rw[Nat.zero_mul,Nat.zero_add,List.getElem?_append_left this];exact hu
  ·simp at he
   obtain⟨ds,hd,hr2,h2⟩:=h.at_ he
   refine⟨ds,hd,hr2,λi u hu=>?_⟩
   rw[List.getElem?_append_right (by rw[hc,Nat.add_mul];omega),show (j+1)*sz+i-cs.length=j*sz+i by rw[hc,Nat.add_mul];omega]
   exact h2 i u hu
theorem All.append:∀{l m:List α} {xs ys:List Value},All sz R xs l->All sz R ys m->All sz R (xs++ys) (l++m)
 | [],_,_,_,h,h2=>by cases h;exact h2
 | _::_,_,_,_,⟨cs,zs,hx,hc,hr,h⟩,h2=>⟨cs,_,by rw[hx,List.append_assoc],hc,hr,h.append h2⟩
theorem All.one {cs:List Value} {e:α} (hc:cs.length=sz) (hr:R cs e):All sz R cs [e]:=⟨cs,[],by simp,hc,hr,rfl⟩
theorem All.mono {R':List Value->α->Prop}:∀{l:List α} {xs:List Value},All sz R xs l->(∀cs e,e∈l->R cs e->R' cs e)->All sz R' xs l
 | [],_,h,_=>h
 | e::_,_,⟨cs,ys,hx,hc,hr,h⟩,hm=>⟨cs,ys,hx,hc,hm cs e (by simp) hr,h.mono λcs e he=>hm cs e (by simp[he])⟩
theorem All.drop:∀{l:List α} {xs:List Value},All sz R xs l->∀k,All sz R (xs.drop (k*sz)) (l.drop k)
 | [],_,h,k=>by cases h;simp[All]
 | e::l,xs,h,0=>by simpa using h
 | e::l,xs,⟨cs,ys,hx,hc,hr,h⟩,k+1=>by
  subst hx
  rw[List.drop_append,List.drop_eq_nil_of_le (by rw[hc,Nat.add_mul];omega),List.nil_append,show (k+1)*sz-cs.length=k*sz by rw[hc,Nat.add_mul];omega,List.drop_succ_cons]
  exact h.drop k
theorem All.take:∀{l:List α} {xs:List Value},All sz R xs l->∀k,All sz R (xs.take (k*sz)) (l.take k)
 | [],_,h,k=>by cases h;simp[All]
 | e::l,xs,h,0=>by simp[All]
 | e::l,xs,⟨cs,ys,hx,hc,hr,h⟩,k+1=>by
  subst hx
  refine⟨cs,_,?_,hc,hr,h.take k⟩
  rw[List.take_append,List.take_of_length_le (by rw[hc,Nat.add_mul];omega),show (k+1)*sz-cs.length=k*sz by rw[hc,Nat.add_mul];omega]
theorem All.flat {f:α->List Value}:∀{l:List α} {xs:List Value},All sz (λcs e=>cs=f e) xs l->xs=l.flatMap f
 | [],_,h=>h
 | _::_,_,⟨_,_,hx,_,hr,h⟩=>by rw[hx,hr,h.flat];rfl
theorem All.of_flat {f:α->List Value}:∀(l:List α),(∀e∈l,(f e).length=sz)->All sz (λcs e=>cs=f e) (l.flatMap f) l
 | [],_=>rfl
 | e::l,h=>⟨f e,_,rfl,h e (by simp),rfl,All.of_flat l λe he=>h e (by simp[he])⟩
end
def RdL {α:Type} (sz:Nat) (R:List Value->α->Prop) (w:World) (A:Option Addr) (l:List α):Prop:=∃xs,Rd w A xs/\All sz R xs l
theorem RdL.nil {α:Type} (sz:Nat) (R:List Value->α->Prop) (w:World) (A:Option Addr):RdL sz R w A []:=⟨[],Rd.nil _ _,rfl⟩
theorem RdL.at_ {α:Type} {sz:Nat} {R:List Value->α->Prop} {w:World} {A:Option Addr} {l:List α} (h:RdL sz R w A l) (hs:0<sz) {j:Nat} {e:α} (he:l[j]?=some e) :
  ∃g o cs,A=some ⟨g,o,none⟩/\cs.length=sz/\R cs e/\∀i u,cs[i]?=some u->w.cell? ⟨g,o+j*sz+i,none⟩=some u:=by
 obtain⟨xs,hr,ha⟩:=h
 obtain⟨cs,hc,hR,hx⟩:=ha.at_ he
 rcases hr with rfl|⟨g,o,hA,hcell⟩
 ·have h0:=hx 0 (cs[0]'(by omega)) (List.getElem?_eq_getElem _)
  simp at h0
 ·exact⟨g,o,cs,hA,hc,hR,λi u hu=>by rw[show o+j*sz+i=o+(j*sz+i) by omega];exact hcell _ u (hx i u hu)⟩
theorem RdL.mono {α:Type} {sz:Nat} {R R':List Value->α->Prop} {w w':World} {A:Option Addr} {l:List α} (h:RdL sz R w A l) (hb:Below w.heap.size w w') (hm:∀cs e,e∈l->R cs e->R' cs e):RdL sz R' w' A l:=by
 obtain⟨xs,hr,ha⟩:=h
 exact⟨xs,hr.below hb (Nat.le_refl _),ha.mono hm⟩
def ExT:Nat->Type
 | 0=>Empty
 | n+1=>Int × ByteArray × Tm × List (ExT n)
def RdE:(n:Nat)->World->List Value->ExT n->Prop
 | 0,_,_,_=>False
 | n+1,w,cs,(k,s,t,kids)=>∃(A:Option Addr) (c:Nat),cs=[.int .i64 k,.string s,.int .i64 t.k,.string t.x,.string t.l,.string t.y,.slice A kids.length c]/\kids.length<=c/\RdL 7 (RdE n w) w A kids
abbrev aJ (n:Nat) (w:World) (A:Option Addr) (l:List (ExT n)):Prop:=RdL 7 (RdE n w) w A l
theorem RdE.later:∀{n:Nat} {w w':World} {v:List Value} {e:ExT n},RdE n w v e->Below w.heap.size w w'->RdE n w' v e
 | 0,_,_,_,_,h,_=>h.elim
 | _n+1,_w,_w',_v,(_k,_s,_t,_kids),⟨A,c,hv,hc,hk⟩,hb=>⟨A,c,hv,hc,hk.mono hb λ_ _ _ h=>h.later hb⟩
theorem aJ.later {n:Nat} {w w':World} {A:Option Addr} {l:List (ExT n)} (h:aJ n w A l) (hb:Below w.heap.size w w'):aJ n w' A l:=h.mono hb λ_ _ _ h=>h.later hb
theorem aJ.at_ {n:Nat} {w:World} {A:Option Addr} {l:List (ExT (n+1))} (h:aJ (n+1) w A l) {j:Nat} {k:Int} {s:ByteArray} {t:Tm} {kids:List (ExT n)} (he:l[j]?=some ((k,s,t,kids):ExT (n+1))) :
  ∃g o A' c',A=some ⟨g,o,none⟩/\kids.length<=c'/\aJ n w A' kids/\w.cell? ⟨g,o+j*7,none⟩=some (.int .i64 k)/\w.cell? ⟨g,o+j*7+1,none⟩=some (.string s) /\
   w.cell? ⟨g,o+j*7+2,none⟩=some (.int .i64 t.k)/\w.cell? ⟨g,o+j*7+3,none⟩=some (.string t.x)/\w.cell? ⟨g,o+j*7+4,none⟩=some (.string t.l)/\w.cell? ⟨g,o+j*7+5,none⟩=some (.string t.y) /\
   w.cell? ⟨g,o+j*7+6,none⟩=some (.slice A' kids.length c'):=by
 obtain⟨g,o,cs,hA,hc,⟨A',c',hcs,hle,hk⟩,hx⟩:=RdL.at_ h (by omega) he
 subst hcs
 exact⟨g,o,A',c',hA,hle,hk,hx 0 _ rfl,hx 1 _ rfl,hx 2 _ rfl,hx 3 _ rfl,hx 4 _ rfl,hx 5 _ rfl,hx 6 _ rfl⟩
theorem aJ.at7 {n:Nat} {w:World} {A:Option Addr} {l:List (ExT n)} (h:aJ n w A l) {j:Nat} {e:ExT n} (he:l[j]?=some e) :
  ∃g o u0 u1 u2 u3 u4 u5 u6,A=some ⟨g,o,none⟩/\RdE n w [u0,u1,u2,u3,u4,u5,u6] e/\w.cell? ⟨g,o+j*7,none⟩=some u0/\w.cell? ⟨g,o+j*7+1,none⟩=some u1 /\
   w.cell? ⟨g,o+j*7+2,none⟩=some u2/\w.cell? ⟨g,o+j*7+3,none⟩=some u3/\w.cell? ⟨g,o+j*7+4,none⟩=some u4/\w.cell? ⟨g,o+j*7+5,none⟩=some u5 /\
   w.cell? ⟨g,o+j*7+6,none⟩=some u6:=by
 obtain⟨g,o,cs,hA,hc,hR,hx⟩:=RdL.at_ h (by omega) he
 match cs,hc,hR,hx with
 | [u0,u1,u2,u3,u4,u5,u6],_,hR,hx=>exact⟨g,o,u0,u1,u2,u3,u4,u5,u6,hA,hR,hx 0 _ rfl,hx 1 _ rfl,hx 2 _ rfl,hx 3 _ rfl,hx 4 _ rfl,hx 5 _ rfl,hx 6 _ rfl⟩
theorem aJ.atv {n:Nat} {w:World} {A:Option Addr} {l:List (ExT n)} (h:aJ n w A l) {j:Nat} {e:ExT n} (he:l[j]?=some e) :
  ∃(g o:Nat) (k:Int) (s:ByteArray) (t:Tm) (A':Option Addr) (m c:Nat),A=some ⟨g,o,none⟩/\RdE n w [.int .i64 k,.string s,.int .i64 t.k,.string t.x,.string t.l,.string t.y,.slice A' m c] e /\
   w.cell? ⟨g,o+j*7,none⟩=some (.int .i64 k)/\w.cell? ⟨g,o+j*7+1,none⟩=some (.string s) /\
   w.cell? ⟨g,o+j*7+2,none⟩=some (.int .i64 t.k)/\w.cell? ⟨g,o+j*7+3,none⟩=some (.string t.x)/\w.cell? ⟨g,o+j*7+4,none⟩=some (.string t.l)/\w.cell? ⟨g,o+j*7+5,none⟩=some (.string t.y) /\
   w.cell? ⟨g,o+j*7+6,none⟩=some (.slice A' m c):=by
 obtain⟨g,o,cs,hA,hc,hR,hx⟩:=RdL.at_ h (by omega) he
 match n,e,hR with
 | n+1,(k,s,t,kids),hR =>
  have hR':=hR
  obtain⟨A',c',hcs,hle,hk⟩:=hR'
  subst hcs
  exact⟨g,o,k,s,t,A',kids.length,c',hA,hR,hx 0 _ rfl,hx 1 _ rfl,hx 2 _ rfl,hx 3 _ rfl,hx 4 _ rfl,hx 5 _ rfl,hx 6 _ rfl⟩
theorem ExT.none {l:List (ExT 0)}:l=[]:=by
 cases l with
 | nil=>rfl
 | cons a r=>exact nomatch (show Empty from a)
def szE:(n:Nat)->ExT n->Prop
 | 0,_=>True
 | n+1,(_,s,t,kids)=>s.size<=140737488351232/\t.x.size<=140737488351232/\kids.length<=1353245080300/\∀x∈kids,szE n x
def gy (vars:List ByteArray) (row:List Tm) (k:Int) (s:ByteArray) (t:Tm) (bare:Bool):Option Tm:=
 if bare then (if k == 2 then some t else if k == 1 then (if Lib.idxOfS vars s<0 then none else row[(Lib.idxOfS vars s).toNat]?) else none) else none
def dD (vars:List ByteArray) (row:List Tm):(n:Nat)->ExT n->Option Tm
 | 0,_=>none
 | _+1,(k,s,t,kids)=>gy vars row k s t kids.isEmpty
def IB (k:Int) (a b:Tm):Int:=
 if k == 6 then xk a b else if k == 7 then iy (xk a b) else if k == 8 then nT a b else if k == 10 then nT b a else if k == 9 then iy (nT b a) else iy (nT a b)
def CZ (k:Int) (t:Tm):Int:=if k == 12 then fw (t.k == 1) else if k == 13 then fw (tR t) else fw (t.k == 2)
def CU:Option Tm->Int
 | some t=>rR t
 | none=>3
def sE (k:Int):List (Option Tm)->Int
 | [some a,some b]=>IB k a b
 | _=>3
def tu (k:Int):List (Option Tm)->Int
 | [some a]=>CZ k a
 | _=>3
def noI:List Int->Int
 | [x]=>iy x
 | _=>3
def xK (k:Int):Bool:=decide (6<=k) && decide (k<=11)
def isKind (k:Int):Bool:=decide (12<=k) && decide (k<=14)
def ofI (vars:List ByteArray) (row:List Tm):(n:Nat)->ExT n->Int
 | 0,_=>3
 | n+1,(k,s,t,kids) =>
  if k == 1 || k == 2 then CU (gy vars row k s t kids.isEmpty)
  else if k == 3 then noI (kids.map (ofI vars row n))
  else if k == 4 then AO (kids.map (ofI vars row n))
  else if k == 5 then orI (kids.map (ofI vars row n))
  else if xK k then sE k (kids.map (dD vars row n))
  else if isKind k then tu k (kids.map (dD vars row n))
  else 3
theorem iO (x:ByteArray):∀(zs:List ByteArray) (i:Nat),Lib.idxFromS zs x (i+1)=if Lib.idxFromS zs x i<0 then -1 else Lib.idxFromS zs x i+1
 | [],_=>rfl
 | z::zs,i=>by
  unfold Lib.idxFromS
  by_cases h:z=x
  ·simp only[h,if_true];rw[if_neg (by omega)];omega
  ·simp only[h,if_false];exact iO x zs (i+1)
theorem ud (z x:ByteArray) (zs:List ByteArray) (h:z≠x):Lib.idxOfS (z::zs) x=if Lib.idxOfS zs x<0 then -1 else Lib.idxOfS zs x+1:=by
 unfold Lib.idxOfS
 rw[Lib.idxFromS,if_neg h,iO]
end Go.Proofs.YtfcbghmbbjolcaaGreatDoor
