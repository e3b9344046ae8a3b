/- The program's package check, walked: Needs, Told. The progra -/
import Derived.Test.YtfcbghmbbjolcaaGreatDoorJChk7
set_option maxHeartbeats 4000000
set_option maxRecDepth 100000
namespace Go.Proofs.YtfcbghmbbjolcaaGreatDoor
open Go Go.RowKit
def marksOf {α:Type} (f:Int->α):List α:=(List.range 12).map λ(j:Nat)=>f (j:Int)
def bU (T:TypeId) (w:World) (g:Nat) (xs:List Value):Prop:=∃cur:Array Value,w.heap[g]?=some (.cells cur T (0,0))/\cur.toList=xs
theorem bU.rd {T:TypeId} {w:World} {g:Nat} {xs:List Value} (h:bU T w g xs):Rd w (some ⟨g,0,none⟩) xs:=by
 obtain⟨cur,h1,h2⟩:=h
 exact Rd.of_block h1 h2
theorem bU.lt {T:TypeId} {w:World} {g:Nat} {xs:List Value} (h:bU T w g xs):g<w.heap.size:=by
 obtain⟨cur,h1,h2⟩:=h
 rcases Nat.lt_or_ge g w.heap.size with hlt|hge
 ·exact hlt
 ·rw[Array.getElem?_eq_none hge]at h1;cases h1
theorem bU.below {T:TypeId} {w w':World} {g:Nat} {xs:List Value} (h:bU T w g xs) {B:Nat} (hb:Below B w w') (hB:g<B):bU T w' g xs:=by
 have hlt:=h.lt
 obtain⟨cur,h1,h2⟩:=h
 exact⟨cur,by rw[hb.block g hB];exact h1,h2⟩
theorem Rd.of_belowL {w w':World} {A:Option Addr} {xs:List Value} (h:Rd w A xs) (hb:Below w.heap.size w w'):Rd w' A xs:=h.below hb (Nat.le_refl _)
theorem bU.of_own {w:World} {base g:Nat} {e:TypeId} {size n:Nat} {xs:List Value} (h:w.ownsRow base e size (.slice (some ⟨g,0,none⟩) n n) n xs):bU e w g xs:=by
 rcases h.2 with ⟨hv,_⟩|⟨g2,cap2,cur,hv,_,hh,_,_,hcs,ht⟩
 ·cases hv
 ·injection hv with hA _ hcap
  injection hA with hA
  injection hA with hA
  subst hA
  subst hcap
  refine⟨cur,hh,?_⟩
  rw[←ht,List.take_of_length_le]
  simp only[Array.length_toList];omega
theorem bw {P:Program} {w:World} {ops:Array Oper} {rest:List Oper} {o:Oper} {a:Act} {Q:Exit->Act->World->Prop} {s x:Operand} {t:TypeId}
  (ho:o.op=.call {callee:=.builtin .append,args:=#[s,x],argTypes:=#[t,t]}) (hgd:o.guard=none)
  {e:TypeId} {z:Value} {size bytes:Nat} (ht:P.underlying t=some (.slice e)) (hinfo:(P.info? e).map (λi=>(i.zero,i.size,i.bytes))=some (some z,size,bytes)) (hsz:0<size)
  {base g k cap:Nat} {xs:List Value} (hs:a.eval s=.slice (some ⟨g,0,none⟩) k cap) (hown:w.ownsRow base e size (.slice (some ⟨g,0,none⟩) k cap) k xs)
  {A:Option Addr} {m c:Nat} {news:List Value} (hx:a.eval x=.slice A m c) (hr:Rd w A news) (hl:news.length=m*size) (h1:∀u∈news,u.oneCell'=true) (hfit:k+m<=cap)
  (h:∀w',w'.ownsRow base e size (.slice (some ⟨g,0,none⟩) (k+m) cap) (k+m) (xs++news)->w.grownBy w' (some g)->wpList P ops Q rest (a.put o.dst (.slice (some ⟨g,0,none⟩) (k+m) cap)) w'):wpList P ops Q (o::rest) a w:=by
 obtain⟨i,hi,hz,hsize,hby⟩:=info_parts hinfo
 rcases hr with rfl|⟨g',off,rfl,hc⟩
 ·have hm:m=0:=by
   rcases Nat.eq_zero_or_pos m with h0|h0
   ·exact h0
   ·have:=Nat.mul_pos h0 hsz
    simp at hl;omega
  subst hm
  rcases A with _|ad
  ·refine wpList_plain hgd λK hK=>?_
   have hrun:(Builtin.append_ #[t,t] o.type #[.slice (some ⟨g,0,none⟩) k cap,.slice none 0 c]).run P w=.ok (.slice (some ⟨g,0,none⟩) k cap) w:=by
    rcases hown.2 with ⟨hv,_⟩|⟨g2,cap2,cur,hv,_,_,hnc,_⟩
    ·cases hv
    ·injection hv with _ _ hcap
     subst hcap
     simp[Builtin.append_,run_underlying ht,sizeOf,typeInfo,hi,Builtin.lenOf,Builtin.firstCells,hnc,storeCells]
   unfold Oper.wp execOp
   simp only[ho,resolve,invoke,builtin,Sem.run_bind,Sem.run_pure,Result.andThen_ok,List.map_toArray,List.map_cons,List.map_nil,hs,hx,hrun]
   exact hK _ _ (h w (by simpa using hown) (World.grownBy.refl _ _))
  ·exact wpList_append_fits w hgd s x t ho base e i size ht hi hsize g k cap xs hs hown ad 0 c [] hx hl (by simp) (by simp) hfit h
 ·exact wpList_append_fits w hgd s x t ho base e i size ht hi hsize g k cap xs hs hown ⟨g',off,none⟩ m c news hx hl (λj u hu=>by rw[aR];exact hc j u hu) h1 hfit h
theorem tL {α:Type} (f:Int->α) (k:Nat) (h:k<12):(marksOf f)[k]?=some (f (k:Int)):=by
 simp[marksOf,List.getElem?_range h]
theorem nQ {α:Type} (f:Int->α) (l:List α) (k:Nat) (h:l.length<=k) (h2:k<l.length+12):(l++marksOf f)[k]?=some (f ((k:Int)-l.length)):=by
 rw[List.getElem?_append_right h,tL f _ (by omega)]
 rw[show ((k-l.length:Nat):Int)=(k:Int)-l.length by omega]
theorem tX (i:Int) (w:World) (h0:0<=i) (h1:i<=1000000) :
  Calls Tryz.prog 59 #[.int .i64 1,.int .i64 i] w λe w'=>e=.returned (.int .i64 (8000024+i))/\w=w':=by
 go_enter Tryz.func59,Tryz.ntmps59
 go_wp2
 go_ret
 exact⟨by simp;try omega,rfl⟩
theorem CY (i:Int) (w:World) (h0:0<=i) (h1:i<=1000000) :
  Calls Tryz.prog 59 #[.int .i64 2,.int .i64 i] w λe w'=>(∃m:Int,e=.returned (.int .i64 m))/\w=w':=by
 go_enter Tryz.func59,Tryz.ntmps59
 go_wp2
 go_ret
 exact⟨⟨_,rfl⟩,rfl⟩
open Um Fm Mt
def mkT (k i:Int):ByteArray:=strOfNums [35,k % 256,k / 256,k / 65536,47,i % 256,i / 256 % 256,i / 65536]
theorem Az (xs:List Int) (n:Nat) (hn:xs.length=n) (W:World) (o:Obj) (c:Nat) (hr:Rd (W.alloc o) (some ⟨W.heap.size,0,none⟩) (xs.map (Value.int .u8))) :
  (convert 166 9 (.slice (some ⟨W.heap.size,0,none⟩) n c)).run Tryz.prog (W.alloc o)=.ok (.string (strOfNums xs)) (W.alloc o):=
 aT 166 9 5 Tryz.underlying166 Tryz.underlying5 Tryz.underlying9 hr hn
theorem xH (k i:Int) (w:World) (hk0:0<=k) (hk1:k<=1000) (hi0:0<=i) (hi1:i<=1000000) :
  Calls Tryz.prog 60 #[.int .i64 k,.int .i64 i] w λe w'=>e=.returned (.string (mkT k i))/\Below w.heap.size w w':=by
 have hcv:=Az [35,k % 256,k / 256,k / 65536,47,i % 256,i / 256 % 256,i / 65536] 8 rfl w (.cells #[.int .u8 35,.int .u8 (k % 256),.int .u8 (k / 256),.int .u8 (k / 65536),.int .u8 47,.int .u8 (i % 256),.int .u8 (i / 256 % 256),.int .u8 (i / 65536)] 5) 8 (Rd.of_block (heap_alloc_new w _) rfl)
 rw[show strOfNums [35,k % 256,k / 256,k / 65536,47,i % 256,i / 256 % 256,i / 65536]=mkT k i from rfl]at hcv
 generalize mkT k i=s at *
 go_enter Tryz.func60,Tryz.ntmps60
 go_wp2
 go_ret
 exact⟨rfl,blw⟩
def zB (i:Int):Tm:=⟨8000024+i,⟨#[]⟩,⟨#[]⟩,⟨#[]⟩⟩
theorem CJ (i:Int) (w:World) (h0:0<=i) (h1:i<=1000000) :
  Calls Tryz.prog 47 #[.int .i64 1,.int .i64 i] w λe w'=>e=.returned (lQ ⟨⟨⟨#[]⟩,zB i⟩,⟨⟨#[]⟩,zTm⟩,⟨⟨#[]⟩,zTm⟩⟩)/\Below w.heap.size w w':=by
 have hm:=λW=>tX i W h0 h1
 unfold lQ zB zTm
 simp only
 generalize 8000024+i=v at *
 go_enter Tryz.func47,Tryz.ntmps47
 go_wp2_with (refine(hm _).mono ?_;rintro e w3 ⟨rfl,rfl⟩)
 exact bodyPost_ret (v:=.agg #[.string ⟨#[]⟩,.int .i64 v,.string ⟨#[]⟩,.string ⟨#[]⟩,.string ⟨#[]⟩,.string ⟨#[]⟩,.int .i64 0,.string ⟨#[]⟩,.string ⟨#[]⟩,.string ⟨#[]⟩,.string ⟨#[]⟩,.int .i64 0,.string ⟨#[]⟩,.string ⟨#[]⟩,.string ⟨#[]⟩]) (by simp[results,Tryz.results47,go_sem]) rfl ⟨rfl,blw⟩
theorem run_append_ownF {P:Program} (w:World) (base:Nat) (t ty e:TypeId) (i:TypeInfo) (z:Value) (size bytes:Nat) (ht:P.underlying t=some (.slice e)) (hi:P.info? e=some i) (hz:i.zero=some z)
  (hsize:i.size=size) (hby:i.bytes=bytes) (hzs:z.cells.size=size) (hsz:0<size)
  (v:Value) (n:Nat) (xs:List Value) (hown:w.ownsRow base e size v n xs)
  (a:Addr) (m c:Nat) (news:List Value) (hl:news.length=m*size) (hnews:∀j u,news[j]?=some u->w.cell? (a.add j)=some u) (h1:∀u∈news,u.oneCell'=true)
  (h63:n+m<=maxLen) (hbytes:(n+m)*bytes<=140737488355328) (hbase:base<=w.heap.size) :
  ∃v' w',(Builtin.append_ #[t,t] ty #[v,.slice (some a) m c]).run P w=.ok v' w'/\w'.ownsRow base e size v' (n+m) (xs++news)/\w.grownBy w' v.ownBlock /\
   (v'.ownBlock=v.ownBlock∨v'.ownBlock=some w.heap.size):=by
 obtain⟨v',w',hr,h2,h3,-⟩:=run_append_own (P:=P) w base t ty e i z size bytes ht hi hz hsize hby hzs hsz v n xs hown a m c news hl hnews h1 h63 hbytes hbase
 refine⟨v',w',hr,h2,h3,?_⟩
 subst hsize
 subst hby
 have hsmall:n+m<=9223372036854775807:=by simp only[maxLen]at h63;omega
 rcases hown.2 with ⟨rfl,rfl⟩|⟨g,cap,cur,rfl,hbg,hg,hnc,hcm,hcs,htake⟩
 ·by_cases hm:m=0
  ·subst hm
   rcases h2.2 with ⟨rfl,_⟩|⟨g,cap,cur,rfl,_⟩
   ·exact .inl rfl
   ·have hn:news=[]:=List.eq_nil_of_length_eq_zero (by simpa using hl)
    subst hn
    have hr':(Builtin.append_ #[t,t] ty #[.slice none 0 0,.slice (some a) 0 c]).run P w=.ok (.slice none 0 0) w:=by
     simp[Builtin.append_,run_underlying ht,sizeOf,typeInfo,hi,Builtin.lenOf,Builtin.firstCells,loadCells,loadCellsFrom]
    rw[hr']at hr
    cases hr
  ·have hr':=run_append_nil (P:=P) w t ty e i z ht hi hz a m c news hl hnews (by omega) (by omega) (by have hb:=hbytes;simp only[Nat.zero_add]at hb;omega)
   rw[hr']at hr
   cases hr
   exact .inr rfl
 ·by_cases hroom:n+m<=cap
  ·have hfit:n*i.size+news.length<=cur.size:=by rw[hl,hcs,←Nat.add_mul];exact Nat.mul_le_mul_right _ hroom
   have hr':=run_append_room (P:=P) w t ty e i ht hi g n cap cur hg a m c news hl hnews h1 hroom hfit
   rw[hr']at hr
   cases hr
   exact .inl rfl
  ·have holds:∀j u,xs[j]?=some u->w.cell? ((⟨g,0,none⟩:Addr).add j)=some u:=hown.cells (g:=g) rfl
   have hr':=run_append_grow (P:=P) w t ty e i z ht hi hz ⟨g,0,none⟩ n cap xs hown.1 holds a m c news hl hnews (by omega) (by omega) (growslice_fits (by omega) hbytes)
   rw[hr']at hr
   cases hr
   exact .inr rfl
theorem su {P:Program} {w:World} {ops:Array Oper} {rest:List Oper} {o:Oper} {a:Act} {Q:Exit->Act->World->Prop} {s x:Operand} {t:TypeId}
  (ho:o.op=.call {callee:=.builtin .append,args:=#[s,x],argTypes:=#[t,t]}) (hgd:o.guard=none)
  {e:TypeId} {z:Value} {size bytes:Nat} (ht:P.underlying t=some (.slice e)) (hinfo:(P.info? e).map (λi=>(i.zero,i.size,i.bytes))=some (some z,size,bytes))
  (hzs:z.cells.size=size) (hsz:0<size)
  {base:Nat} {v:Value} {n:Nat} {xs:List Value} (hs:a.eval s=v) (hown:w.ownsRow base e size v n xs)
  {g off m c:Nat} {news:List Value} (hx:a.eval x=.slice (some ⟨g,off,none⟩) m c) (hr:∀j u,news[j]?=some u->w.cell? ⟨g,off+j,none⟩=some u) (hl:news.length=m*size) (h1:∀u∈news,u.oneCell'=true)
  (hbytes:(n+m)*bytes<=140737488355328) (h63:n+m<=9223372036854775807) (hbase:base<=w.heap.size)
  (h:∀v' w',w'.ownsRow base e size v' (n+m) (xs++news)->Below base w w'->w.grownBy w' v.ownBlock->(v'.ownBlock=v.ownBlock∨v'.ownBlock=some w.heap.size)->wpList P ops Q rest (a.put o.dst v') w'):wpList P ops Q (o::rest) a w:=by
 obtain⟨i,hi,hz,hsize,hby⟩:=info_parts hinfo
 refine wpList_plain hgd λK hK=>?_
 obtain⟨v',w',hrun,h2,h3,h4⟩:=run_append_ownF (P:=P) w base t o.type e i z size bytes ht hi hz hsize hby hzs hsz v n xs hown ⟨g,off,none⟩ m c news hl (λj u hu=>by rw[aR];exact hr j u hu) h1 (by simp only[maxLen];omega) hbytes hbase
 unfold Oper.wp execOp
 simp only[ho,resolve,invoke,builtin,Sem.run_bind,Sem.run_pure,Result.andThen_ok,List.map_toArray,List.map_cons,List.map_nil,hs,hx,hrun]
 exact hK _ _ (h v' w' h2 ((Below.refl _ _).grown h3 hbase λk hk=>(hown.lt k hk).1) h3 h4)
theorem below_drewN' {B:Nat} {a w:World} (h:Below B a w) (n:Nat):Below B a (w.drewN n):=⟨h.os,h.tape,h.output,h.size,h.block⟩
def eB (a b:List ByteArray):Bool:=decide (a=b)
def GM (a b:List ByteArray) (k:Nat):Prop:=∀j,j<k->a[j]?=b[j]?
theorem pO (a b:List ByteArray) (A B:Option Addr) (c d:Nat) (w:World) (ha:Rd w A (a.map Value.string)) (hb:Rd w B (b.map Value.string)) (hl:a.length<=281474976710656) (hl2:b.length<=281474976710656) :
  Calls Tryz.prog 19 #[.slice A a.length c,.slice B b.length d] w λe w'=>e=.returned (.bool (eB a b))/\Below w.heap.size w w':=by
 by_cases hlen:a.length=b.length
 case neg =>
  have hne:eB a b=false:=by unfold eB;simp;intro h;exact hlen (by rw[h])
  have h1:((a.length:Int) != (b.length:Int))=true:=by rw[bne_iff_ne];omega
  rw[hne]
  clear hne hlen
  go_enter Tryz.func19,Tryz.ntmps19
  go_wp2
  go_ret
  exact⟨rfl,Below.refl _ _⟩
 have h1:((a.length:Int) != (b.length:Int))=false:=by simp;omega
 have hab:a.length<=b.length:=by omega
 have Hlen:=Lib.hid hlen
 clear hlen
 go_enter Tryz.func19,Tryz.ntmps19
 go_wp2
 go_loopw [5] (λi wr=>∃k:Nat,k<=a.length/\i=.int .i64 k/\Below w.heap.size w wr/\Hid (GM a b k)) (λi _=>a.length-(intOf i).toNat)
 case atStart=>exact⟨0,by omega,rfl,Below.refl _ _,λj h=>by omega⟩
 case round =>
  obtain⟨k,hk,rfl,hB,H⟩:=hrel
  by_cases hlt:k<a.length
  ·obtain⟨x,hx⟩:∃x,a[k]?=some x:=⟨_,List.getElem?_eq_getElem hlt⟩
   obtain⟨y,hy⟩:∃x,b[k]?=some x:=⟨_,List.getElem?_eq_getElem (by omega)⟩
   obtain⟨g,o,rfl,hcx⟩:=(ha.below hB (Nat.le_refl _)).at_ (j:=k) (u:=.string x) (by simp[hx])
   obtain⟨g',o',rfl,hcy⟩:=(hb.below hB (Nat.le_refl _)).at_ (j:=k) (u:=.string y) (by simp[hy])
   have Hx:=Lib.hid hx
   have Hy:=Lib.hid hy
   have hlt2:k<b.length:=by omega
   clear hx hy ha hb
   cases hq:(x.toList == y.toList)
   ·have hne:eB a b=false:=by
     unfold eB;simp;intro h;subst h
     have:=Hx.out.symm.trans Hy.out
     injection this with this
     subst this
     simp at hq
    have hq2:(x.toList != y.toList)=true:=by rw[bne,hq];rfl
    have Hne:=Lib.hid hne
    clear hne
    go_wp2
    go_quiet (fail)
    go_wp2
    go_ret
    exact⟨by rw[Hne.out];rfl,below_drewN' hB nq⟩
   ·have hxy:Hid (x=y):=(Lib.bytes_beq_iff x y).1 hq
    have hq2:(x.toList != y.toList)=false:=by rw[bne,hq];rfl
    go_wp2
    go_quiet (fail)
    go_wp2
    go_roundw
    case rel=>exact⟨k+1,by omega,by go_num,below_drewN' hB nq,λj hj=>by
     rcases Nat.lt_or_ge j k with h|h
     ·exact H.out j h
     ·have:j=k:=by omega
      subst this;rw[Hx.out,Hy.out,hxy.out]⟩
    case measure=>simp[intOf];omega
  ·have he:eB a b=true:=by
    unfold eB;simp
    refine List.ext_getElem? λj=>?_
    rcases Nat.lt_or_ge j k with h|h
    ·exact H.out j h
    ·rw[List.getElem?_eq_none (by omega),List.getElem?_eq_none (by have:=Hlen.out;omega)]
   have He:=Lib.hid he
   clear he ha hb
   go_wp2
   go_ret
   exact⟨by rw[He.out];rfl,hB⟩
theorem mY:(Tryz.prog.info? 72).map (λi=>(i.zero,i.size,i.bytes))=some (some (lQ ⟨⟨⟨#[]⟩,zTm⟩,⟨⟨#[]⟩,zTm⟩,⟨⟨#[]⟩,zTm⟩⟩),15,216):=by kernel_rfl
theorem GJ (l:List ByteArray):∀u∈l.map Value.string,u.oneCell'=true:=by intro u hu;obtain⟨x,_,rfl⟩:=List.mem_map.1 hu;rfl
theorem GZ (l:List Pat):∀u∈l.flatMap cPat,u.oneCell'=true:=by
 intro u hu
 obtain⟨t,_,ht⟩:=List.mem_flatMap.1 hu
 simp only[cPat,List.mem_cons,List.not_mem_nil,or_false]at ht
 rcases ht with rfl|rfl|rfl|rfl|rfl|rfl|rfl|rfl|rfl|rfl|rfl|rfl|rfl|rfl|rfl<;>rfl
theorem zk (l:List Pat):(l.flatMap cPat).length=l.length*15:=by
 induction l with
 | nil=>rfl
 | cons a r ih=>simp[List.flatMap_cons,ih,cPat,Nat.add_mul]
theorem RdL.flatC {α:Type} {f:α->List Value} {sz:Nat} (hf:∀e,(f e).length=sz) {w:World} {A:Option Addr} {l:List α}:RdL sz (λcs y=>cs=f y) w A l↔Rd w A (l.flatMap f):=by
 constructor
 ·rintro⟨xs,h,ha⟩
  rw[←ha.flat];exact h
 ·intro h
  exact⟨_,h,All.of_flat l λe _=>hf e⟩
theorem JS (l:List Tm):∀u∈l.flatMap tmC,u.oneCell'=true:=by
 intro u hu
 obtain⟨t,_,ht⟩:=List.mem_flatMap.1 hu
 simp only[tmC,List.mem_cons,List.not_mem_nil,or_false]at ht
 rcases ht with rfl|rfl|rfl|rfl<;>rfl
def kC (i:Int):Pat:=⟨⟨⟨#[]⟩,zB i⟩,⟨⟨#[]⟩,zTm⟩,⟨⟨#[]⟩,zTm⟩⟩
def wT (l:List ByteArray) (w:World) (v i:Value) (wr:World):Prop:=∃k:Nat,k<=12/\i=.int .i64 k/\v=.slice (some ⟨w.heap.size,0,none⟩) (l.length+k) (l.length+12)/\wr.ownsRow w.heap.size 9 1 (.slice (some ⟨w.heap.size,0,none⟩) (l.length+k) (l.length+12)) (l.length+k) ((l++(List.range k).map (λj=>(λi=>mkT 1 i) ((j:Nat):Int))).map Value.string)/\Below w.heap.size w wr
theorem IX (l:List ByteArray) (A:Option Addr) (c:Nat) (w:World) (hr:Rd w A (l.map Value.string)) (hl:l.length<=1048576) :
  Calls Tryz.prog 31 #[.slice A l.length c] w λe w'=>e=.returned (.slice (some ⟨w.heap.size,0,none⟩) l.length (l.length+12))/\bU 9 w' w.heap.size ((l++marksOf (λi=>mkT 1 i)).map Value.string)/\Below w.heap.size w w':=by
 obtain⟨i,hi,hz,hsize,hby⟩:=info_parts bf
 have hby2:i.bytes*(l.length+12)<=281474976710656:=by rw[hby];omega
 have hn:(l.map Value.string).length=l.length*1:=(by simp)
 have Hi:=Lib.hid hi
 have Hz:=Lib.hid hz
 have Hsize:=Lib.hid hsize
 clear hi hz hsize hby
 go_enter Tryz.func31,Tryz.ntmps31
 go_wp2_with (first
  | (at_make;refine wpList_make_own w rfl _ _ 23 rfl w.heap.size 9 i _ 1 Tryz.underlying23 Hi.out Hz.out Hsize.out .i64 .i64 _ (l.length+12) rfl rfl (by omega) hby2 (by unfold maxLen;omega) (Nat.le_refl _) ?_;intro w1 hown1 hg1;have hb1:Below w.heap.size w w1:=(Below.refl _ _).grown hg1 (Nat.le_refl _) (by simp))
  | (at_builtin;refine bw rfl rfl Tryz.underlying23 bf (by omega) rfl hown1 rfl (hr.of_belowL hb1) hn (GJ _) (by omega) ?_;intro w2 hown2 hg2;have hb2:Below w.heap.size w w2:=hb1.grown hg2 hb1.size (by intro k hk;injection hk with hk;omega)))
 rw[Nat.zero_add,List.nil_append]at hown2
 go_loopw [3,4] (wT l w) (λ_ i _=>12-(intOf i).toNat)
 case atStart=>exact⟨0,by omega,rfl,by simp,by simpa using hown2,hb2⟩
 case round =>
  clear hown2 hb2 hown1 hb1 hg1 hg2 hr hn
  obtain⟨k,hk,rfl,rfl,hown,hB⟩:=hrel
  by_cases hlt:k<12
  ·have hmk:=λW=>xH 1 (k:Int) W (by omega) (by omega) (by omega) (by omega)
   have hms:(l++(List.range k).map (λj=>(λi=>mkT 1 i) ((j:Nat):Int))).map Value.string++[Value.string (mkT 1 (k:Int))]=(l++(List.range (k+1)).map (λj=>(λi=>mkT 1 i) ((j:Nat):Int))).map Value.string:=by
    rw[List.range_succ];simp[List.map_append]
   have Hms:=Lib.hid hms
   clear hms
   generalize mkT 1 (k:Int)=s at *
   go_wp2_with fail
   refine(hmk _).mono ?_
   rintro e w3 ⟨rfl,hb3⟩
   have hz:w.heap.size<=w3.heap.size:=Nat.le_trans hB.size hb3.size
   have hown3:=(own_below hown hb3 (Nat.le_refl _)).alloc (.cells #[.string s] 9)
   go_wp2_with (at_builtin;refine bw rfl rfl Tryz.underlying23 bf (by omega) rfl hown3 rfl (Rd.of_block (heap_alloc_new w3 _) rfl) rfl (by intro u hu;simp only[List.mem_cons,List.not_mem_nil,or_false]at hu;rcases hu with rfl<;>rfl) (by omega) ?_;intro w4 hown4 hg4)
   have hb4:Below w.heap.size w w4:=((hB.trans (hb3.mono hB.size)).alloc hz _).grown hg4 (by simp;omega) (by intro k hk;injection hk with hk;omega)
   go_roundw
   case rel=>exact⟨k+1,by omega,by go_num,rfl,by rw[←Hms.out];exact hown4,hb4⟩
   case measure=>simp[intOf];omega
  ·have hk12:k=12:=by omega
   subst hk12
   have hfin:=bU.of_own hown
   have Hfin:=Lib.hid hfin
   clear hfin hown
   go_wp2
   go_ret
   exact⟨by simp,by first|exact Hfin.out|simpa[List.map_append,List.flatMap_append,marksOf] using Hfin.out,hB⟩
def pw (l:List Pat) (w:World) (v i:Value) (wr:World):Prop:=∃k:Nat,k<=12/\i=.int .i64 k/\v=.slice (some ⟨w.heap.size,0,none⟩) (l.length+k) (l.length+12)/\wr.ownsRow w.heap.size 72 15 (.slice (some ⟨w.heap.size,0,none⟩) (l.length+k) (l.length+12)) (l.length+k) ((l++(List.range k).map (λj=>(kC) ((j:Nat):Int))).flatMap cPat)/\Below w.heap.size w wr
theorem rq (l:List Pat) (A:Option Addr) (c:Nat) (w:World) (hr:Rd w A (l.flatMap cPat)) (hl:l.length<=1048576) :
  Calls Tryz.prog 16 #[.slice A l.length c] w λe w'=>e=.returned (.slice (some ⟨w.heap.size,0,none⟩) l.length (l.length+12))/\bU 72 w' w.heap.size ((l++marksOf (kC)).flatMap cPat)/\Below w.heap.size w w':=by
 obtain⟨i,hi,hz,hsize,hby⟩:=info_parts mY
 have hby2:i.bytes*(l.length+12)<=281474976710656:=by rw[hby];omega
 have hn:(l.flatMap cPat).length=l.length*15:=(zk _)
 have Hi:=Lib.hid hi
 have Hz:=Lib.hid hz
 have Hsize:=Lib.hid hsize
 clear hi hz hsize hby
 go_enter Tryz.func16,Tryz.ntmps16
 go_wp2_with (first
  | (at_make;refine wpList_make_own w rfl _ _ 24 rfl w.heap.size 72 i _ 15 Tryz.underlying24 Hi.out Hz.out Hsize.out .i64 .i64 _ (l.length+12) rfl rfl (by omega) hby2 (by unfold maxLen;omega) (Nat.le_refl _) ?_;intro w1 hown1 hg1;have hb1:Below w.heap.size w w1:=(Below.refl _ _).grown hg1 (Nat.le_refl _) (by simp))
  | (at_builtin;refine bw rfl rfl Tryz.underlying24 mY (by omega) rfl hown1 rfl (hr.of_belowL hb1) hn (GZ _) (by omega) ?_;intro w2 hown2 hg2;have hb2:Below w.heap.size w w2:=hb1.grown hg2 hb1.size (by intro k hk;injection hk with hk;omega)))
 rw[Nat.zero_add,List.nil_append]at hown2
 go_loopw [3,4] (pw l w) (λ_ i _=>12-(intOf i).toNat)
 case atStart=>exact⟨0,by omega,rfl,by simp,by simpa using hown2,hb2⟩
 case round =>
  clear hown2 hb2 hown1 hb1 hg1 hg2 hr hn
  obtain⟨k,hk,rfl,rfl,hown,hB⟩:=hrel
  by_cases hlt:k<12
  ·have hmk:=λW=>CJ (k:Int) W (by omega) (by omega)
   have hms:(l++(List.range k).map (λj=>(kC) ((j:Nat):Int))).flatMap cPat++[.string ⟨#[]⟩,.int .i64 (8000024+(k:Int)),.string ⟨#[]⟩,.string ⟨#[]⟩,.string ⟨#[]⟩,.string ⟨#[]⟩,.int .i64 0,.string ⟨#[]⟩,.string ⟨#[]⟩,.string ⟨#[]⟩,.string ⟨#[]⟩,.int .i64 0,.string ⟨#[]⟩,.string ⟨#[]⟩,.string ⟨#[]⟩]=(l++(List.range (k+1)).map (λj=>(kC) ((j:Nat):Int))).flatMap cPat:=by
    rw[List.range_succ];simp[List.map_append,List.flatMap_append,cPat,kC,zB,zTm]
   have Hms:=Lib.hid hms
   clear hms
   simp only[lQ,zB,zTm]at hmk
   generalize 8000024+(k:Int)=s at *
   go_wp2_with fail
   refine(hmk _).mono ?_
   rintro e w3 ⟨rfl,hb3⟩
   have hz:w.heap.size<=w3.heap.size:=Nat.le_trans hB.size hb3.size
   have hown3:=(own_below hown hb3 (Nat.le_refl _)).alloc (.cells #[.string ⟨#[]⟩,.int .i64 s,.string ⟨#[]⟩,.string ⟨#[]⟩,.string ⟨#[]⟩,.string ⟨#[]⟩,.int .i64 0,.string ⟨#[]⟩,.string ⟨#[]⟩,.string ⟨#[]⟩,.string ⟨#[]⟩,.int .i64 0,.string ⟨#[]⟩,.string ⟨#[]⟩,.string ⟨#[]⟩] 72)
   go_wp2_with (at_builtin;refine bw rfl rfl Tryz.underlying24 mY (by omega) rfl hown3 rfl (Rd.of_block (heap_alloc_new w3 _) rfl) rfl (by intro u hu;simp only[List.mem_cons,List.not_mem_nil,or_false]at hu;rcases hu with rfl|rfl|rfl|rfl|rfl|rfl|rfl|rfl|rfl|rfl|rfl|rfl|rfl|rfl|rfl<;>rfl) (by omega) ?_;intro w4 hown4 hg4)
   have hb4:Below w.heap.size w w4:=((hB.trans (hb3.mono hB.size)).alloc hz _).grown hg4 (by simp;omega) (by intro k hk;injection hk with hk;omega)
   go_roundw
   case rel=>exact⟨k+1,by omega,by go_num,rfl,by rw[←Hms.out];exact hown4,hb4⟩
   case measure=>simp[intOf];omega
  ·have hk12:k=12:=by omega
   subst hk12
   have hfin:=bU.of_own hown
   have Hfin:=Lib.hid hfin
   clear hfin hown
   go_wp2
   go_ret
   exact⟨by simp,by first|exact Hfin.out|simpa[List.map_append,List.flatMap_append,marksOf] using Hfin.out,hB⟩
def Ef (B:Nat) (w w':World):Prop:=∀(g:Nat) (o:Obj),B<=g->w.heap[g]?=some o->w'.heap[g]?=some o
theorem Ef.below {B:Nat} {w w':World} (h:Below w.heap.size w w'):Ef B w w':=λg o _ x=>by
 have:g<w.heap.size:=by
  rcases Nat.lt_or_ge g w.heap.size with hlt|hge
  ·exact hlt
  ·rw[Array.getElem?_eq_none hge]at x;cases x
 rw[h.block g this];exact x
theorem qt {P:Program} {f:FuncId} {args:Array Value} {w:World} {T:TypeId} {n c:Nat} {xs:List Value} (h:Calls P f args w λe w'=>e=.returned (.slice (some ⟨w.heap.size,0,none⟩) n c)/\bU T w' w.heap.size xs/\Below w.heap.size w w') :
  Calls P f args w λe w'=>∃g:Nat,e=.returned (.slice (some ⟨g,0,none⟩) n c)/\w.heap.size<=g/\bU T w' g xs/\Below w.heap.size w w':=h.mono λ_ _ ⟨h1,h2,h3⟩=>⟨_,h1,Nat.le_refl _,h2,h3⟩
theorem uh (a:ByteArray) (l:List ByteArray) (s:ByteArray):dz (a::l) s=((a.toList == s.toList) || dz l s):=by
 rw[Bool.eq_iff_iff,Bool.or_eq_true,bm,bm,Lib.bytes_beq_iff,List.mem_cons]
 constructor
 ·rintro(h|h)
  ·exact .inl h.symm
  ·exact .inr h
 ·rintro(h|h)
  ·exact .inl h.symm
  ·exact .inr h
def gj (v v':Value) (w w':World):Prop:=(∀(g:Nat) (o:Obj),v.ownBlock≠some g->w.heap[g]?=some o->w'.heap[g]?=some o)/\(v'.ownBlock=v.ownBlock∨∃m,v'.ownBlock=some m/\w.heap.size<=m)
theorem gj.refl (v:Value) (w:World):gj v v w w:=⟨λ_ _ _ h=>h,.inl rfl⟩
theorem BU (base:Nat) (l:List ByteArray) (x:ByteArray) (v:Value) (w:World) (hl:l.length<=1000000) (hbase:base<=w.heap.size) (own:w.ownsRow base 9 1 v l.length (l.map Value.string)) :
  Calls Tryz.prog 107 #[v,.string x] w λe w'=>∃v',e=.returned v'/\w'.ownsRow base 9 1 v' (fl l x).length ((fl l x).map Value.string)/\Below base w w'/\gj v v' w w':=by
 obtain⟨A,c,rfl,hc,hr⟩:=own_slice own
 have Own:=Lib.hid own
 have B2:Below w.heap.size w (w.alloc (.cells #[.string x] 9)):=blw
 have own2:=own_below own B2 (Nat.le_refl _)
 have R2:∀(j:Nat) (u:Value),([.string x]:List Value)[j]?=some u->(w.alloc (.cells #[.string x] 9)).cell? ⟨w.heap.size,0+j,none⟩=some u:=by
  intro j u hu
  rw[World.cell?,heap_alloc_new,Nat.zero_add]
  simpa using hu
 have HB2:=Lib.hid (B2.mono hbase)
 have HS:Hid (∀(g:Nat) (o:Obj),w.heap[g]?=some o->(w.alloc (.cells #[.string x] 9)).heap[g]?=some o):=λg o h=>Ef.below B2 g o (Nat.le_refl _) h
 clear own B2
 go_enter Tryz.func107,Tryz.ntmps107
 go_wp2
 go_loop [5] (λi=>∃k:Nat,k<=l.length/\i=.int .i64 k/\Hid (dz l x=dz (l.drop k) x)) (λi=>l.length-(intOf i).toNat)
 case atStart=>exact⟨0,by omega,rfl,rfl⟩
 case round =>
  obtain⟨k,hk,rfl,H⟩:=hrel
  by_cases hlt:k<l.length
  ·obtain⟨y,hx⟩:∃x,l[k]?=some x:=⟨_,List.getElem?_eq_getElem hlt⟩
   obtain⟨g,o,rfl,hcx⟩:=hr.at_ (j:=k) (u:=.string y) (by simp[hx])
   have hd:=ai hx
   have H2:Hid (dz l x=((y.toList == x.toList) || dz (l.drop (k+1)) x)):=by
    show _=_
    rw[H.out,hd,uh]
   clear hx hd H hr own2 R2
   cases hx0:(y.toList == x.toList)
   ·rw[hx0]at H2
    go_wp2
    go_round
    case rel=>exact⟨k+1,by omega,by go_num,H2⟩
    case measure=>simp[intOf];omega
   ·rw[hx0]at H2
    go_wp2
    go_ret
    refine⟨_,rfl,?_,Below.refl _ _,gj.refl _ _⟩
    rw[tH (by rw[H2.out];rfl)]
    exact Own.out
  ·have H2:Hid (dz l x=false):=by
    show dz l x=_
    rw[H.out,List.drop_eq_nil_of_le (by omega)];rfl
   have Hm:Hid (fl l x=l++[x]):=by show _=_;unfold fl;rw[H2.out];rfl
   clear H hr
   go_wp2_with (at_builtin;refine su rfl rfl Tryz.underlying23 bf rfl (by omega) rfl own2 rfl R2 rfl (by intro u hu;simp at hu;subst hu;rfl) (by omega) (by omega) (by simp;omega) ?_;intro v5 w5 own5 hb5 hg5 hv5)
   go_ret
   have hlt:∀(g:Nat) (o:Obj),(w.alloc (.cells #[.string x] 9)).heap[g]?=some o->g<(w.alloc (.cells #[.string x] 9)).heap.size:=λg o h=>(Array.getElem?_eq_some_iff.1 h).1
   refine⟨_,rfl,?_,HB2.out.trans hb5,λg o hne h=>by rw[hg5.block g (hlt g o (HS.out g o h)) (λe=>hne e.symm)];exact HS.out g o h,hv5.imp id λh=>⟨_,h,by simp⟩⟩
   rw[Hm.out,List.length_append,List.map_append]
   exact own5
theorem gj.trans {a b c:Value} {w w1 w2:World} (h:gj a b w w1) (k:gj b c w1 w2) (hz:w.heap.size<=w1.heap.size):gj a c w w2:=by
 obtain⟨h1,h2⟩:=h
 obtain⟨k1,k2⟩:=k
 refine⟨λg o hne hg=>k1 g o (λe=>?_) (h1 g o hne hg),?_⟩
 ·rcases h2 with e2|⟨m,e2,hm⟩
  ·exact hne (e2 ▸ e)
  ·rw[e2]at e
   injection e with e
   subst e
   have:=(Array.getElem?_eq_some_iff.1 hg).1
   omega
 ·rcases k2 with e2|⟨m,e2,hm⟩
  ·rcases h2 with e3|h3
   ·exact .inl (e2.trans e3)
   ·obtain⟨m,e3,hm⟩:=h3
    exact .inr ⟨m,e2.trans e3,hm⟩
  ·exact .inr ⟨m,e2,by omega⟩
theorem vO {w:World} {base n:Nat} {e:TypeId} {size:Nat} {v:Value} {xs:List Value} (h:w.ownsRow base e size v n xs) {g:Nat} (hg:w.heap.size<=g):v.ownBlock≠some g:=λe=>by
 have:=(h.lt _ e).2
 omega
theorem gj.cell {a b:Value} {w w1:World} (h:gj a b w w1) {p:Addr} {u:Value} (hne:a.ownBlock≠some p.block) (hc:w.cell? p=some u):w1.cell? p=some u:=by
 have hlt:=ag hc
 have h1:=h.1 p.block w.heap[p.block] hne (Array.getElem?_eq_getElem hlt)
 rw[World.cell?,h1]
 rw[World.cell?,Array.getElem?_eq_getElem hlt]at hc
 exact hc
def IM (l:List Pat) (w:World) (v i:Value) (wr:World):Prop:=∃(k:Nat) (l':List ByteArray) (v':Value),k<=l.length/\i=.int .i64 k/\v'=v/\wr.ownsRow w.heap.size 9 1 v' l'.length (l'.map Value.string)/\Hid (l'=aF [] ((l.take k).flatMap cW))/\Below w.heap.size w wr
def Gi (ss:List Sl) (w W1:World) (v1:Value) (l1:List ByteArray) (v i:Value) (wr:World):Prop:=∃(j:Nat) (l':List ByteArray) (v':Value),j<=3/\i=.int .i64 j/\v'=v/\wr.ownsRow w.heap.size 9 1 v' l'.length (l'.map Value.string)/\Hid (l'=aF l1 (bF (ss.take j)))/\Below w.heap.size W1 wr/\gj v1 v' W1 wr
theorem EP (l:List Pat) (A:Option Addr) (c:Nat) (w:World) (hr:bI w A l) (hl:l.length<=300000) :
  Calls Tryz.prog 53 #[.slice A l.length c] w (oJ (ae l) w):=by
 have hnl:(l.length:Int)<=300000:=by omega
 go_enter Tryz.func53,Tryz.ntmps53
 go_wp2
 go_loopw [3,4] (IM l w) (λ_ i _=>l.length-(intOf i).toNat)
 case atStart=>exact⟨0,[],_,by omega,rfl,rfl,World.ownsRow_nil _ _ _ _,rfl,Below.refl _ _⟩
 case round =>
  obtain⟨k,l1,vv,hk,rfl,rfl,own1,Hl1,hB⟩:=hrel
  by_cases hlt:k<l.length
  ·obtain⟨x,hs⟩:∃x,l[k]?=some x:=⟨_,List.getElem?_eq_getElem hlt⟩
   obtain⟨g,o,cs,rfl,-,rfl,hx⟩:=(RdL.mono hr hB (λ_ _ _ h=>h)).at_ (by omega) hs
   have q0:wr.cell? ⟨g,o+k*15,none⟩=some (.string x.s.v):=hx 0 _ rfl
   have q1:wr.cell? ⟨g,o+k*15+1,none⟩=some (.int .i64 x.s.t.k):=hx 1 _ rfl
   have q2:wr.cell? ⟨g,o+k*15+2,none⟩=some (.string x.s.t.x):=hx 2 _ rfl
   have q3:wr.cell? ⟨g,o+k*15+3,none⟩=some (.string x.s.t.l):=hx 3 _ rfl
   have q4:wr.cell? ⟨g,o+k*15+4,none⟩=some (.string x.s.t.y):=hx 4 _ rfl
   have q5:wr.cell? ⟨g,o+k*15+5,none⟩=some (.string x.p.v):=hx 5 _ rfl
   have q6:wr.cell? ⟨g,o+k*15+6,none⟩=some (.int .i64 x.p.t.k):=hx 6 _ rfl
   have q7:wr.cell? ⟨g,o+k*15+7,none⟩=some (.string x.p.t.x):=hx 7 _ rfl
   have q8:wr.cell? ⟨g,o+k*15+8,none⟩=some (.string x.p.t.l):=hx 8 _ rfl
   have q9:wr.cell? ⟨g,o+k*15+9,none⟩=some (.string x.p.t.y):=hx 9 _ rfl
   have q10:wr.cell? ⟨g,o+k*15+10,none⟩=some (.string x.o.v):=hx 10 _ rfl
   have q11:wr.cell? ⟨g,o+k*15+11,none⟩=some (.int .i64 x.o.t.k):=hx 11 _ rfl
   have q12:wr.cell? ⟨g,o+k*15+12,none⟩=some (.string x.o.t.x):=hx 12 _ rfl
   have q13:wr.cell? ⟨g,o+k*15+13,none⟩=some (.string x.o.t.l):=hx 13 _ rfl
   have q14:wr.cell? ⟨g,o+k*15+14,none⟩=some (.string x.o.t.y):=hx 14 _ rfl
   have hln:l1.length<=900000:=by
    have h1:=cu ((l.take k).flatMap cW) []
    have h2:=mg (l.take k)
    rw[List.length_take]at h2
    rw[Hl1.out]
    rw[List.length_nil]at h1;omega
   have Hn:Hid (aF [] ((l.take (k+1)).flatMap cW)=aF l1 (bF [x.s,x.p,x.o])):=by
    show _=_
    rw[ew hs,eu,Hl1.out];rfl
   have HB:=Lib.hid hB
   clear hs hr hx hB
   go_wp2
   refine Rh.p0 wr.heap.size [(true,[0,1,2,3,4,5,6,7,8,9,10,11,12,13,14]),(false,[15]),(true,[16])] (λK wd hK hwd=>?_)
   have hbd:Below wr.heap.size wr wd:=by rw[hwd];exact(Below.refl _ _).drew
   clear hwd
   have s0:=cellL q0 hbd
   have s1:=cellL q1 hbd
   have s2:=cellL q2 hbd
   have s3:=cellL q3 hbd
   have s4:=cellL q4 hbd
   have s5:=cellL q5 hbd
   have s6:=cellL q6 hbd
   have s7:=cellL q7 hbd
   have s8:=cellL q8 hbd
   have s9:=cellL q9 hbd
   have s10:=cellL q10 hbd
   have s11:=cellL q11 hbd
   have s12:=cellL q12 hbd
   have s13:=cellL q13 hbd
   have s14:=cellL q14 hbd
   clear q0 q1 q2 q3 q4 q5 q6 q7 q8 q9 q10 q11 q12 q13 q14
   refine Rh.plan_quiet ?_
   iterate 15 go_big_quiet_step (fail)
   refine wpQuiet_nil (Rh.plan_chain ?_)
   clear s0 s1 s2 s3 s4 s5 s6 s7 s8 s9 s10 s11 s12 s13 s14
   go_wp2_with fail
   refine⟨(Below.refl _ _).alloc hbd.size _,Rh.plan_quiet ?_⟩
   iterate 1 go_big_quiet_step (fail)
   refine wpQuiet_nil (Rh.plan_end ?_)
   refine hK _ _ ?_
   clear hK
   obtain⟨W5,hW5⟩:∃W:World,wd.alloc (.cells #[.string x.s.v,.int .i64 x.s.t.k,.string x.s.t.x,.string x.s.t.l,.string x.s.t.y,.string x.p.v,.int .i64 x.p.t.k,.string x.p.t.x,.string x.p.t.l,.string x.p.t.y,.string x.o.v,.int .i64 x.o.t.k,.string x.o.t.x,.string x.o.t.l,.string x.o.t.y] 70)=W:=⟨_,rfl⟩
   have hss:IQ W5 (some ⟨wd.heap.size,0,none⟩) [x.s,x.p,x.o]:=⟨[x.s,x.p,x.o].flatMap slC,by rw[←hW5];exact Rd.of_block (heap_alloc_new wd _) rfl,All.of_flat (f:=slC) _ λ_ _=>rfl⟩
   have Bs:Below wr.heap.size wr W5:=by rw[←hW5];exact hbd.alloc hbd.size _
   have own5:=own_below own1 Bs (Nat.le_refl _)
   have Hvb:Hid (vv.ownBlock≠some wd.heap.size):=vO own1 hbd.size
   obtain⟨gs,hgs⟩:∃g:Nat,wd.heap.size=g:=⟨_,rfl⟩
   rw[hgs]at hss Hvb
   simp only[hW5,hgs]
   have HBs:=Lib.hid (HB.out.trans (Bs.mono HB.out.size))
   clear hW5 hgs hbd own1 Bs
   have Hss:=Lib.hid hss
   clear hss
   go_wp2
   go_loopw [3,6] (Gi [x.s,x.p,x.o] w W5 vv l1) (λ_ i _=>3-(intOf i).toNat)
   case atStart=>exact⟨0,l1,vv,by omega,rfl,rfl,own5,rfl,Below.refl _ _,gj.refl _ _⟩
   case round =>
    obtain⟨j,l2,vs,hj,rfl,rfl,own2,Hl2,hB2,hOn⟩:=hrel
    clear own5
    by_cases hlt2:j<3
    ·obtain⟨y,hy⟩:∃y,[x.s,x.p,x.o][j]?=some y:=⟨_,List.getElem?_eq_getElem (by simpa using hlt2)⟩
     obtain⟨g',o',cs',hg',-,rfl,hx'⟩:=Hss.out.at_ (by omega) hy
     injection hg' with hg'
     injection hg' with hg' ho'
     subst hg' ho'
     have d0:wr.cell? ⟨gs,0+j*5,none⟩=some (.string y.v):=hOn.cell Hvb.out (hx' 0 _ rfl)
     have hsn:=qf hy
     have hl2n:l2.length<=900003:=by
      have h1:=cu (bF ([x.s,x.p,x.o].take j)) l1
      have h2:=jK ([x.s,x.p,x.o].take j)
      rw[List.length_take]at h2
      rw[Hl2.out];omega
     have hW:=BU w.heap.size l2 y.v vs wr (by omega) (Nat.le_trans HBs.out.size hB2.size) own2
     have HOn:=Lib.hid hOn
     have HB2:=Lib.hid hB2
     rw[Nat.zero_add]at d0
     cases he:y.v.toList.isEmpty
     ·have Hn2:Hid (fl l2 y.v=aF l1 (bF ([x.s,x.p,x.o].take (j+1)))):=by
       show _=_
       rw[hsn,tD he,eu,←Hl2.out];rfl
      clear hy hx' hsn hOn hB2 own2
      go_wp2_with (go_at_call 107;refine hW.mono ?_;rintro e w2 ⟨v2,rfl,own3,hb3,hon3⟩)
      go_roundw
      case rel=>exact⟨j+1,_,v2,by omega,by go_num,rfl,own3,Hn2,HB2.out.trans hb3,HOn.out.trans hon3 HB2.out.size⟩
      case measure=>simp[intOf];omega
     ·have Hn2:Hid (l2=aF l1 (bF ([x.s,x.p,x.o].take (j+1)))):=by
       show _=_
       rw[hsn,ly he,List.append_nil];exact Hl2.out
      clear hy hx' hsn hOn hB2 hW
      go_wp2
      go_roundw
      case rel=>exact⟨j+1,_,vs,by omega,by go_num,rfl,own2,Hn2,HB2.out,HOn.out⟩
      case measure=>simp[intOf];omega
    ·obtain rfl:j=3:=by omega
     have Hl3:Hid (l2=aF [] ((l.take (k+1)).flatMap cW)):=by
      show _=_
      rw[Hn.out];exact Hl2.out
     have HB2:=Lib.hid hB2
     clear hOn hB2
     go_wp2
     go_roundw
     case rel=>exact⟨k+1,l2,vs,by omega,by go_num,rfl,own2,Hl3,HBs.out.trans HB2.out⟩
     case measure=>simp[intOf];omega
  ·obtain rfl:k=l.length:=by omega
   have hH:=Hl1.out
   rw[List.take_length]at hH
   have hH2:l1=ae l:=hH
   subst hH2
   clear Hl1 hr hH
   obtain⟨A5,m5,rfl,_,_⟩:=own_slice own1
   go_wp2
   go_ret
   exact⟨_,rfl,own1,hB⟩
open Lx Tx Om Mp
theorem rx (a b:List Tm) (A B:Option Addr) (c d n m:Nat) (w:World) (hn:a.length=n) (hm:b.length=m) (hln:n<=1000000) (hlm:m<=1000000) (ha:RdTs w A a) (hb:RdTs w B b) :
  Calls Tryz.prog 42 #[.slice A n c,.slice B m d] w λe w'=>e=.returned (.bool (decide (a=b)))/\Below w.heap.size w w':=by
 obtain⟨res,hres⟩:∃r,decide (a=b)=r:=⟨_,rfl⟩
 rw[hres]
 by_cases hnm:n=m
 case neg =>
  have hr:res=false:=by
   rw[←hres,decide_eq_false_iff_not]
   intro h
   rw[h]at hn
   omega
  subst hr
  have hd:((n:Int) != (m:Int))=true:=by rw[bne_iff_ne];omega
  clear hn hm ha hb hres hnm
  go_enter Tryz.func42,Tryz.ntmps42
  go_wp2
  go_ret
  exact⟨rfl,Below.refl _ _⟩
 subst hnm
 have H:=Lib.hid (And.intro hn (And.intro hm (And.intro ha (And.intro hb hres))))
 clear hn hm ha hb hres
 go_enter Tryz.func42,Tryz.ntmps42
 go_wp2
 go_loopw [5] (λi wr=>∃k:Nat,k<=n/\i=.int .i64 k/\Hid (a=b↔a.drop k=b.drop k)/\Hid (Below w.heap.size w wr)) (λi _=>n-(intOf i).toNat)
 case atStart=>exact⟨0,by omega,rfl,Iff.rfl,Below.refl _ _⟩
 case round =>
  obtain⟨k,hk,rfl,H1,HB⟩:=hrel
  obtain⟨hn,hm,ha,hb,hres⟩:=H.out
  by_cases hlt:k<n
  ·obtain⟨x,hx1⟩:∃x,a[k]?=some x:=⟨_,List.getElem?_eq_getElem (by omega)⟩
   obtain⟨z,hz1⟩:∃z,b[k]?=some z:=⟨_,List.getElem?_eq_getElem (by omega)⟩
   obtain⟨g1,o1,rfl,b0,b1,b2,b3⟩:=(RdTs.later ha HB.out).at4 hx1
   obtain⟨g2,o2,rfl,d0,d1,d2,d3⟩:=(RdTs.later hb HB.out).at4 hz1
   have hsd:=kt hx1 hz1
   have x0:=λd os=>ac b0 (below_regrown wr d os)
   have x1:=λd os=>ac b1 (below_regrown wr d os)
   have x2:=λd os=>ac b2 (below_regrown wr d os)
   have x3:=λd os=>ac b3 (below_regrown wr d os)
   have y0:=λd os=>ac d0 (below_regrown wr d os)
   have y1:=λd os=>ac d1 (below_regrown wr d os)
   have y2:=λd os=>ac d2 (below_regrown wr d os)
   have y3:=λd os=>ac d3 (below_regrown wr d os)
   by_cases he:x=z
   ·have hne:=λW=>fE x z W
    rw[show az x z=true from aw.2 he]at hne
    have H2:Hid (a=b↔a.drop (k+1)=b.drop (k+1)):=by
     show _↔_
     rw[H1.out,hsd]
     exact⟨λh=>h.2,λh=>⟨he,h⟩⟩
    clear hx1 hz1 b0 b1 b2 b3 d0 d1 d2 d3 hn hm ha hb hres H1 hsd he
    go_wp2
    refine wrq ?_;(repeat (any_goals (go_big_quiet_step ((fail)))));all_goals (refine wqn ?_;intro d9 os9)
    have kq:=Lib.hid (aa HB.out (below_regrown wr d9 os9))
    clear x0 x1 x2 x3 y0 y1 y2 y3
    generalize Sort.grow (redrawn wr d9) os9=w3 at *
    go_wp2
    go_roundw
    case rel=>exact⟨k+1,by omega,by go_num,H2,kq⟩
    case measure=>simp[intOf];omega
   ·have hne:=λW=>fE x z W
    rw[show az x z=false from by
     cases h:az x z with
     | false=>rfl
     | true=>exact absurd (aw.1 h) he]at hne
    have H2:Hid (res=false):=by
     show _=_
     rw[←hres,decide_eq_false_iff_not,H1.out,hsd]
     exact λh=>he h.1
    clear hx1 hz1 b0 b1 b2 b3 d0 d1 d2 d3 hn hm ha hb hres H1 hsd he
    go_wp2
    refine wrq ?_;(repeat (any_goals (go_big_quiet_step ((fail)))));all_goals (refine wqn ?_;intro d9 os9)
    have kq:=Lib.hid (aa HB.out (below_regrown wr d9 os9))
    clear x0 x1 x2 x3 y0 y1 y2 y3
    generalize Sort.grow (redrawn wr d9) os9=w3 at *
    go_wp2
    go_ret
    exact⟨by rw[H2.out];rfl,kq.out⟩
  ·obtain rfl:k=n:=by omega
   have H2:Hid (res=true):=by
    show _=_
    rw[←hres,decide_eq_true_iff,H1.out,bN a hn,bN b hm]
   clear hn hm ha hb hres H1
   go_wp2
   go_ret
   exact⟨by rw[H2.out];rfl,HB.out⟩
theorem vF {a b:List (List Tm)} {k:Nat} {x z:List Tm} (hx:a[k]?=some x) (hz:b[k]?=some z):(a.drop k=b.drop k↔x=z/\a.drop (k+1)=b.drop (k+1)):=by
 rw[ai hx,ai hz,List.cons.injEq]
theorem gJ (a b:List (List Tm)) (A B:Option Addr) (c d n m:Nat) (w:World) (hn:a.length=n) (hm:b.length=m) (hln:n<=1000000) (hlm:m<=1000000) (hza:∀r∈a,r.length<=1000000) (hzb:∀r∈b,r.length<=1000000) (ha:RdRs w A a) (hb:RdRs w B b) :
  Calls Tryz.prog 13 #[.slice A n c,.slice B m d] w λe w'=>e=.returned (.bool (decide (a=b)))/\Below w.heap.size w w':=by
 obtain⟨res,hres⟩:∃r,decide (a=b)=r:=⟨_,rfl⟩
 rw[hres]
 by_cases hnm:n=m
 case neg =>
  have hr:res=false:=by
   rw[←hres,decide_eq_false_iff_not]
   intro h
   rw[h]at hn
   omega
  subst hr
  have hd:((n:Int) != (m:Int))=true:=by rw[bne_iff_ne];omega
  clear hn hm ha hb hres hnm hza hzb
  go_enter Tryz.func13,Tryz.ntmps13
  go_wp2
  go_ret
  exact⟨rfl,Below.refl _ _⟩
 subst hnm
 have H:=Lib.hid (And.intro hn (And.intro hm (And.intro ha (And.intro hb (And.intro hza (And.intro hzb hres))))))
 clear hn hm ha hb hres hza hzb
 go_enter Tryz.func13,Tryz.ntmps13
 go_wp2
 go_loopw [5] (λi wr=>∃k:Nat,k<=n/\i=.int .i64 k/\Hid (a=b↔a.drop k=b.drop k)/\Hid (Below w.heap.size w wr)) (λi _=>n-(intOf i).toNat)
 case atStart=>exact⟨0,by omega,rfl,Iff.rfl,Below.refl _ _⟩
 case round =>
  obtain⟨k,hk,rfl,H1,HB⟩:=hrel
  obtain⟨hn,hm,ha,hb,hza,hzb,hres⟩:=H.out
  by_cases hlt:k<n
  ·obtain⟨x,hx1⟩:∃x,a[k]?=some x:=⟨_,List.getElem?_eq_getElem (by omega)⟩
   obtain⟨z,hz1⟩:∃z,b[k]?=some z:=⟨_,List.getElem?_eq_getElem (by omega)⟩
   obtain⟨g1,o1,A1,c1,rfl,hc1,_,hr1⟩:=(ha.later HB.out).at1 hx1
   obtain⟨g2,o2,A2,c2,rfl,hc2,_,hr2⟩:=(hb.later HB.out).at1 hz1
   have hsd:=vF hx1 hz1
   have hS:=λd os=>rx x z A1 A2 c1 c2 x.length z.length (Sort.grow (redrawn wr d) os) rfl rfl (hza x (List.mem_of_getElem? hx1)) (hzb z (List.mem_of_getElem? hz1)) (hr1.later (below_regrown wr d os)) (hr2.later (below_regrown wr d os))
   have e1:=λd os=>ac hc1 (below_regrown wr d os)
   have e2:=λd os=>ac hc2 (below_regrown wr d os)
   by_cases he:x=z
   ·rw[show decide (x=z)=true from decide_eq_true he]at hS
    have H2:Hid (a=b↔a.drop (k+1)=b.drop (k+1)):=by
     show _↔_
     rw[H1.out,hsd]
     exact⟨λh=>h.2,λh=>⟨he,h⟩⟩
    generalize x.length=lx at *
    generalize z.length=lz at *
    clear hx1 hz1 hn hm ha hb hres hza hzb H1 hsd he hc1 hc2 hr1 hr2
    go_wp2
    refine wrq ?_;(repeat (any_goals (go_big_quiet_step ((go_at_call 42;exact Calls.regrown_of (hS _ _))))));all_goals (refine wqn ?_;intro d9 os9)
    have kq:=Lib.hid (aa HB.out (below_regrown wr d9 os9))
    go_wp2
    go_roundw
    case rel=>exact⟨k+1,by omega,by go_num,H2,kq⟩
    case measure=>simp[intOf];omega
   ·rw[show decide (x=z)=false from decide_eq_false he]at hS
    have H2:Hid (res=false):=by
     show _=_
     rw[←hres,decide_eq_false_iff_not,H1.out,hsd]
     exact λh=>he h.1
    generalize x.length=lx at *
    generalize z.length=lz at *
    clear hx1 hz1 hn hm ha hb hres hza hzb H1 hsd he hc1 hc2 hr1 hr2
    go_wp2
    refine wrq ?_;(repeat (any_goals (go_big_quiet_step ((go_at_call 42;exact Calls.regrown_of (hS _ _))))));all_goals (refine wqn ?_;intro d9 os9)
    have kq:=Lib.hid (aa HB.out (below_regrown wr d9 os9))
    go_wp2
    go_ret
    exact⟨by rw[H2.out];rfl,kq.out⟩
  ·obtain rfl:k=n:=by omega
   have H2:Hid (res=true):=by
    show _=_
    rw[←hres,decide_eq_true_iff,H1.out,bN a hn,bN b hm]
   clear hn hm ha hb hres hza hzb H1
   go_wp2
   go_ret
   exact⟨by rw[H2.out];rfl,HB.out⟩
end Go.Proofs.YtfcbghmbbjolcaaGreatDoor
