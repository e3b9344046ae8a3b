/- sync.Once, entered alone: the first call of Do. How signs of -/
import Derived.Test.YtoaemihcbmlkgaaGreatDoorJWr3
import Derived.Laws.CopyOwn
set_option maxHeartbeats 1600000
set_option maxRecDepth 100000
namespace Go.Proofs.YtoaemihcbmlkgaaGreatDoor
open Go Go.RowKit
theorem onDisable (w:World):(callFunc 292 #[]).run Tryz.prog w=.ok (.value (.tuple #[])) w:=run_call_mark0 Tryz.func292 (by kernel_rfl) (by kernel_rfl) (by kernel_rfl) .disable (by kernel_rfl) w
theorem onEnable (w:World):(callFunc 294 #[]).run Tryz.prog w=.ok (.value (.tuple #[])) w:=run_call_mark0 Tryz.func294 (by kernel_rfl) (by kernel_rfl) (by kernel_rfl) .enable (by kernel_rfl) w
theorem onAcquire (a:Addr) (w:World):(callFunc 295 #[.pointer (some a)]).run Tryz.prog w=.ok (.value (.tuple #[])) w:=run_call_marked Tryz.func295 (by kernel_rfl) (by kernel_rfl) (by kernel_rfl) .acquire (by kernel_rfl) a w
theorem onRelease (a:Addr) (w:World):(callFunc 297 #[.pointer (some a)]).run Tryz.prog w=.ok (.value (.tuple #[])) w:=run_call_marked Tryz.func297 (by kernel_rfl) (by kernel_rfl) (by kernel_rfl) .releaseMerge (by kernel_rfl) a w
theorem onStore (a:Addr) (x:Value) (u:FrameMode) (w:World) (hc:w.cell? a=some x) (hz:w.frozen? a=false) :
  CallsD Tryz.prog 251 #[.pointer (some a),.bool true] u w λe u' w'=>u'=u/\(e=.returned (.tuple #[])/\w'=w.drew.setCell a (.int .u32 1)):=by
 have hc':w.drew.cell? a=some x:=by go_simp
 have hz':w.drew.frozen? a=false:=by go_simp
 have hst:=run_call_store (P:=Tryz.prog) Tryz.func276 (by kernel_rfl) (by kernel_rfl) (by kernel_rfl) (by kernel_rfl) (k:=.u32) (y:=1) hc' hz'
 go_enter_d Tryz.func251,Tryz.ntmps251
 go_wp2
 go_region_calls
 all_goals (go_end0;exact⟨rfl,rfl⟩)
theorem onUnlock (a:Addr) (u:FrameMode) (w:World) (hc:w.cell? a=some (.int .i32 1)) (hz:w.frozen? a=false) :
  CallsD Tryz.prog 250 #[.pointer (some a)] u w λe u' w'=>u'=u/\(e=.returned (.tuple #[])/\w'=w.setCell a (.int .i32 0)):=by
 have hd:=onDisable
 have he:=onEnable
 have hr:=onRelease
 have hadd:=run_call_add (P:=Tryz.prog) Tryz.func298 (by kernel_rfl) (by kernel_rfl) (by kernel_rfl) .i32 (by kernel_rfl) (y:=-1) (s:=0) hc hz (by simp[go_sem];rfl)
 have hcv:=run_convert_to_unsafe (P:=Tryz.prog) (src:=372) (dst:=313) Tryz.underlying372 Tryz.underlying313 (by kernel_rfl) hc
 go_enter_d Tryz.func250,Tryz.ntmps250
 go_wp2
 go_end0
 exact⟨rfl,rfl⟩
theorem onLock (a:Addr) (w:World) (hc:w.cell? a=some (.int .i32 0)) (hz:w.frozen? a=false) :
  Calls Tryz.prog 249 #[.pointer (some a)] w λe w'=>e=.returned (.tuple #[])/\w'=w.setCell a (.int .i32 1):=by
 have hd:=onDisable
 have he:=onEnable
 have ha:=onAcquire
 have hcas:=run_call_cas_hit (P:=Tryz.prog) Tryz.func293 (by kernel_rfl) (by kernel_rfl) (by kernel_rfl) .i32 (by kernel_rfl) (y:=1) hc hz
 have hc':(w.setCell a (.int .i32 1)).cell? a=some (.int .i32 1):=World.cell?_setCell_same w a _ hc
 have hcv:=run_convert_to_unsafe (P:=Tryz.prog) (src:=372) (dst:=313) Tryz.underlying372 Tryz.underlying313 (by kernel_rfl) hc'
 go_enter Tryz.func249,Tryz.ntmps249
 go_wp2
 first|go_end0|(simp only[Exit.inBlock,Exit.then];refine bodyPost_ret (results_none rfl _ _ _) rfl ?_)|refine bodyPost_ret (results_none rfl _ _ _) rfl ?_
 exact⟨rfl,rfl⟩
def onDone (b off:Nat) (W2:World):World:=(W2.drew.setCell ⟨b,off,none⟩ (.int .u32 1)).setCell ⟨b,off+1,none⟩ (.int .i32 0)
theorem onSlow (b off fn:Nat) (x:Value) (w:World) (efn:∀args W,(callFunc fn args).run Tryz.prog W=.ok (.enter fn args) W)
  (h0:w.cell? ⟨b,off,none⟩=some (.int .u32 0)) (h1:w.cell? ⟨b,off+1,none⟩=some (.int .i32 0))
  (_f0:w.frozen? ⟨b,off,none⟩=false) (f1:w.frozen? ⟨b,off+1,none⟩=false)
  {Q:World->Prop} (hQ:∀W,Q W->W.cell? ⟨b,off,none⟩=some (.int .u32 0)/\W.cell? ⟨b,off+1,none⟩=some (.int .i32 1)/\W.frozen? ⟨b,off,none⟩=false/\W.frozen? ⟨b,off+1,none⟩=false)
  (hf:Calls Tryz.prog fn #[x] (w.setCell ⟨b,off+1,none⟩ (.int .i32 1)) λe w'=>e=.returned (.tuple #[])/\Q w') :
  Calls Tryz.prog 208 #[.pointer (some ⟨b,off,none⟩),.func (.func fn) #[x] #[]] w λe w'=>e=.returned (.tuple #[])/\∃W2,Q W2/\w'=onDone b off W2:=by
 have hl:=run_call_load (P:=Tryz.prog) Tryz.func248 (by kernel_rfl) (by kernel_rfl) (by kernel_rfl) .u32 (by kernel_rfl) (w:=w.setCell ⟨b,off+1,none⟩ (.int .i32 1)) (a:=⟨b,off,none⟩) (x:=0) ((World.cell?_setCell_other _ ⟨b,off+1,none⟩ ⟨b,off,none⟩ _ (by simp)).trans h0)
 have hnot:∀(x:Bool) (w:World),(Op.unary .not (.bool x)).run Tryz.prog w=.ok (.bool (!x)) w:=λ_ _=>rfl
 go_enter_defers Tryz.func208,Tryz.ntmps208
 go_wp2_with (first|(go_at_call 249;refine(onLock ⟨b,off+1,none⟩ _ (by go_simp) (by go_simp)).mono ?_;rintro e w' ⟨rfl,rfl⟩)|(go_at_call 207;go_in)|(go_at_fn fn;refine hf.mono ?_;rintro e W2 ⟨rfl,hq⟩))
 obtain⟨q0,q1,z0,z1⟩:=hQ _ hq
 refine leaves_cons (f:=251) (args:=#[.pointer (some ⟨b,off,none⟩),.bool true]) (by simp) (by simp[go_sem]) ?_
 refine(onStore ⟨b,off,none⟩ (.int .u32 0) .returning _ q0 z0).mono ?_
 rintro e u' w'' ⟨rfl,rfl,rfl⟩
 refine leaves_cons (f:=250) (args:=#[.pointer (some ⟨b,off+1,none⟩)]) (by simp[settle]) (by simp[go_sem]) ?_
 refine(onUnlock ⟨b,off+1,none⟩ _ _ ?_ (by simp[z1])).mono ?_
 ·refine(World.cell?_setCell_other _ ⟨b,off,none⟩ ⟨b,off+1,none⟩ _ (by simp)).trans ?_
  rw[World.cell?_drew]
  exact q1
 rintro e u' w'' ⟨rfl,rfl,rfl⟩
 simp only[Leaves,settle,results,Tryz.results208]
 refine⟨_,by simp[go_sem],rfl,W2,hq,rfl⟩
theorem onDo (b off fn:Nat) (x:Value) (w:World) (efn:∀args W,(callFunc fn args).run Tryz.prog W=.ok (.enter fn args) W)
  (h0:w.cell? ⟨b,off,none⟩=some (.int .u32 0)) (h1:w.cell? ⟨b,off+1,none⟩=some (.int .i32 0))
  (f0:w.frozen? ⟨b,off,none⟩=false) (f1:w.frozen? ⟨b,off+1,none⟩=false)
  {Q:World->Prop} (hQ:∀W,Q W->W.cell? ⟨b,off,none⟩=some (.int .u32 0)/\W.cell? ⟨b,off+1,none⟩=some (.int .i32 1)/\W.frozen? ⟨b,off,none⟩=false/\W.frozen? ⟨b,off+1,none⟩=false)
  (hf:Calls Tryz.prog fn #[x] (w.setCell ⟨b,off+1,none⟩ (.int .i32 1)) λe w'=>e=.returned (.tuple #[])/\Q w') :
  Calls Tryz.prog 158 #[.pointer (some ⟨b,off,none⟩),.func (.func fn) #[x] #[]] w λe w'=>e=.returned (.tuple #[])/\∃W2,Q W2/\w'=onDone b off W2:=by
 have hl:=run_call_load (P:=Tryz.prog) Tryz.func248 (by kernel_rfl) (by kernel_rfl) (by kernel_rfl) .u32 (by kernel_rfl) h0
 have hnot:∀(x:Bool) (w:World),(Op.unary .not (.bool x)).run Tryz.prog w=.ok (.bool (!x)) w:=λ_ _=>rfl
 have hs:=onSlow b off fn x w efn h0 h1 f0 f1 hQ hf
 clear hQ hf efn
 go_enter Tryz.func158,Tryz.ntmps158
 go_wp2_with (first|(go_at_call 208;refine hs.mono ?_;rintro e w' ⟨rfl,hw⟩)|(go_at_call 207;go_in))
 go_end0
 exact⟨rfl,hw⟩
end Go.Proofs.YtoaemihcbmlkgaaGreatDoor
namespace Go.Proofs.YtoaemihcbmlkgaaGreatDoor.Tx
open Go Go.RowKit Um Fm Lx
def rpX (j:Nat):List UInt8:=if j=34 then [92,34] else if j=92 then [92,92] else if j=10 then [92,110] else if j=13 then [92,114] else []
def isE (c:UInt8):Bool:=!(rpX c.toNat).isEmpty
theorem rp_len {j:Nat}:(rpX j).length=0∨(rpX j).length=2:=by
 unfold rpX;repeat' split
 all_goals simp
theorem u8_eq (c d:UInt8):(c=d)↔c.toNat=d.toNat:=UInt8.toNat_inj.symm
theorem litC_rp (c:UInt8):litC c=if isE c then rpX c.toNat else [c]:=by
 unfold litC isE rpX
 simp only[u8_eq]
 by_cases h1:c.toNat=34
 ·simp[h1]
 by_cases h2:c.toNat=92
 ·simp[h2]
 by_cases h3:c.toNat=10
 ·simp[h3]
 by_cases h4:c.toNat=13
 ·simp[h4]
 simp[h1,h2,h3,h4]
theorem litL_cons (c:UInt8) (t:List UInt8):litL (c::t)=litC c++litL t:=by unfold litL;rw[List.flatMap_cons]
theorem litL_app (a b:List UInt8):litL (a++b)=litL a++litL b:=List.flatMap_append
theorem litL_escs:∀l:List UInt8,(litL l).length=l.length+l.countP isE
 | []=>rfl
 | c::t=>by
  rw[litL_cons,List.length_append,litL_escs t,litC_rp,List.countP_cons,List.length_cons]
  cases h:isE c
  ·simp;omega
  ·have hl:(rpX c.toNat).length=2:=by
    rcases rp_len (j:=c.toNat) with h2|h2
    ·rw[isE,List.isEmpty_iff.2 (List.length_eq_zero_iff.1 h2)]at h;cases h
    ·exact h2
   simp[hl];omega
theorem litL_same:∀l:List UInt8,l.countP isE=0->litL l=l
 | [],_=>rfl
 | c::t,h=>by
  rw[List.countP_cons]at h
  cases hc:isE c
  ·rw[litL_cons,litC_rp,hc,litL_same t (by omega)];rfl
  ·rw[hc]at h;simp at h
theorem litL_snoc (l:List UInt8) (k:Nat) (c:UInt8) (h:l[k]?=some c):litL (l.take (k+1))=litL (l.take k)++litC c:=by
 rw[List.take_add_one,h,Option.toList_some,litL_app,litL_cons]
 show _=_
 rw[show litL []=[] from rfl,List.append_nil]
theorem escs_snoc (l:List UInt8) (k:Nat) (c:UInt8) (h:l[k]?=some c):(l.take (k+1)).countP isE=(l.take k).countP isE+(if isE c then 1 else 0):=by
 rw[List.take_add_one,h,Option.toList_some,List.countP_append,List.countP_cons,List.countP_nil,Nat.zero_add]
def rpN (i:Nat):UInt8:=if i=0 then 13 else if i=1 then 10 else if i=2 then 34 else 92
theorem escs_four (l:List UInt8):l.countP isE=Lib.countByte l (rpN 0)+Lib.countByte l (rpN 1)+Lib.countByte l (rpN 2)+Lib.countByte l (rpN 3):=by
 have e0:rpN 0=13:=rfl
 have e1:rpN 1=10:=rfl
 have e2:rpN 2=34:=rfl
 have e3:rpN 3=92:=rfl
 rw[e0,e1,e2,e3]
 unfold Lib.countByte
 induction l with
 | nil=>rfl
 | cons c t ih =>
  rw[List.countP_cons,List.count_cons,List.count_cons,List.count_cons,List.count_cons,ih]
  have hc:(if isE c=true then 1 else 0)=(if (c == 13)=true then 1 else 0)+(if (c == 10)=true then 1 else 0)+(if (c == 34)=true then 1 else 0)+(if (c == 92)=true then 1 else 0):=by
   by_cases h1:c=34
   ·subst h1;decide
   by_cases h2:c=92
   ·subst h2;decide
   by_cases h3:c=10
   ·subst h3;decide
   by_cases h4:c=13
   ·subst h4;decide
   have h5:isE c=false:=by
    unfold isE rpX
    have g1:¬ c.toNat=34:=λe=>h1 ((u8_eq _ _).2 e)
    have g2:¬ c.toNat=92:=λe=>h2 ((u8_eq _ _).2 e)
    have g3:¬ c.toNat=10:=λe=>h3 ((u8_eq _ _).2 e)
    have g4:¬ c.toNat=13:=λe=>h4 ((u8_eq _ _).2 e)
    rw[if_neg g1,if_neg g2,if_neg g3,if_neg g4];rfl
   simp[h1,h2,h3,h4,h5]
  rw[hc];omega
def cntK (l:List UInt8):Nat->Nat
 | 0=>0
 | k+1=>cntK l k+Lib.countByte l (rpN k)
theorem cnt_four (l:List UInt8):cntK l 4=l.countP isE:=by
 rw[escs_four]
 simp only[cntK,Nat.zero_add]
theorem cnt_le (l:List UInt8):∀k,cntK l k<=k*l.length
 | 0=>by simp[cntK]
 | k+1=>by
  have h1:=cnt_le l k
  have h2:Lib.countByte l (rpN k)<=l.length:=List.count_le_length
  rw[cntK,Nat.succ_mul];omega
def rpT (k j:Nat):List UInt8:=if (j=13/\0<k)∨(j=10/\1<k)∨(j=34/\2<k)∨(j=92/\3<k) then rpX j else []
theorem rpT_zero (j:Nat):rpT 0 j=[]:=by unfold rpT;rw[if_neg (by omega)]
theorem rpT_four (j:Nat):rpT 4 j=rpX j:=by
 unfold rpT rpX
 by_cases h1:j=34
 ·simp[h1]
 by_cases h2:j=92
 ·simp[h2]
 by_cases h3:j=10
 ·simp[h3]
 by_cases h4:j=13
 ·simp[h4]
 simp[h1,h2,h3,h4]
theorem rpT_succ (k j:Nat) (hk:k<4):rpT (k+1) j=if j=(rpN k).toNat then rpX j else rpT k j:=by
 match k,hk with
 | 0,_=>unfold rpT;rw[show (rpN 0).toNat=13 from rfl];by_cases h:j=13<;>simp[h]<;>omega
 | 1,_=>unfold rpT;rw[show (rpN 1).toNat=10 from rfl];by_cases h:j=10<;>simp[h]
 | 2,_=>unfold rpT;rw[show (rpN 2).toNat=34 from rfl];by_cases h:j=34<;>simp[h]
 | 3,_=>unfold rpT;rw[show (rpN 3).toNat=92 from rfl];by_cases h:j=92<;>simp[h]
end Go.Proofs.YtoaemihcbmlkgaaGreatDoor.Tx
namespace Go.Proofs.YtoaemihcbmlkgaaGreatDoor
open Go Go.RowKit Um Fm Tx
theorem strInfo8:(Tryz.prog.info? 9).map (λi=>(i.zero,i.size,i.bytes))=some (some (.string ⟨#[]⟩),1,16):=by kernel_rfl
abbrev escL:List ByteArray:=[⟨#[92]⟩,⟨#[92,92]⟩,⟨#[34]⟩,⟨#[92,34]⟩,⟨#[10]⟩,⟨#[92,110]⟩,⟨#[13]⟩,⟨#[92,114]⟩]
def RepAt (B b:Nat) (w:World):Prop:=B<=b/\∃(v:Value),w.heap[b]?=some (.cells #[.int .u32 0,.int .i32 0,.int .u32 0,.nilIface,v] 241 (0,0))/\w.ownsRow B 9 1 v 8 (escL.map Value.string)
theorem own_down1 {w:World} {B B':Nat} {e:TypeId} {s:Nat} {v:Value} {n:Nat} {xs:List Value} (h:w.ownsRow B e s v n xs) (hb:B'<=B):w.ownsRow B' e s v n xs:=
 ⟨h.1,h.2.imp id λ⟨g,cap,cur,hv,hB,r⟩=>⟨g,cap,cur,hv,Nat.le_trans hb hB,r⟩⟩
theorem newReplacer (g:Nat) (w:World) (hA:Rd w (some ⟨g,0,none⟩) (escL.map Value.string)) :
  Calls Tryz.prog 157 #[.slice (some ⟨g,0,none⟩) 8 8] w λe w'=>∃b,e=.returned (.pointer (some ⟨b,0,none⟩))/\RepAt w.heap.size b w'/\Below w.heap.size w w':=by
 have hown:w.ownsRow w.heap.size 9 1 (.slice none 0 0) 0 []:=World.ownsRow_nil _ _ _ _
 have H1:∀u∈escL.map Value.string,u.oneCell'=true:=by
  intro u hu;obtain⟨x,_,rfl⟩:=List.mem_map.1 hu;rfl
 go_enter Tryz.func157,Tryz.ntmps157
 go_wp2_with (at_builtin;refine wpList_app (m:=8) rfl rfl Tryz.underlying32 strInfo8 rfl (by omega) rfl hown rfl hA rfl H1 (by omega) (by omega) (by omega) ?_;intro v1 w1 own1 hb1;obtain⟨A1,c1,rfl,_,_⟩:=own_slice own1)
 go_ret
 rw[Nat.zero_add,List.nil_append]at own1
 exact⟨_,rfl,⟨hb1.size,_,heap_alloc_new w1 _,own1.alloc _⟩,hb1.alloc hb1.size _⟩
theorem termEscapes (w:World):Calls Tryz.prog 102 #[] w λe w'=>∃b,e=.returned (.pointer (some ⟨b,0,none⟩))/\RepAt w.heap.size b w'/\Below w.heap.size w w':=by
 have hb:Below w.heap.size w (w.alloc (.cells (escL.map Value.string).toArray 9)):=blw
 have h:=newReplacer w.heap.size _ (Rd.of_block (heap_alloc_new w (.cells (escL.map Value.string).toArray 9)) rfl)
 have HB:=Lib.hid hb
 go_enter Tryz.func102,Tryz.ntmps102
 go_wp2_with (go_at_call 157;refine h.mono ?_;rintro e w2 ⟨b,rfl,⟨k1,v,k2,k3⟩,k4⟩)
 go_ret
 have hs:=HB.out.size
 exact⟨b,rfl,⟨by omega,v,k2,own_down1 k3 (by omega)⟩,below_tr HB.out k4⟩
theorem wpList_appG {P:Program} {w:World} {ops:Array Oper} {rest:List Oper} {o:Oper} {a:Act} {Q:Exit->Act->World->Prop} {s x:Operand} {t:TypeId}
  (ho:o.op=.call {callee:=.builtin .append,args:=#[s,x],argTypes:=#[t,t]}) (hgd:o.guard=none)
  {e:TypeId} {z:Value} {size bytes:Nat} (ht:P.underlying t=some (.slice e)) (hinfo:(P.info? e).map (λi=>(i.zero,i.size,i.bytes))=some (some z,size,bytes))
  (hzs:z.cells.size=size) (hsz:0<size)
  {base:Nat} {v:Value} {n:Nat} {xs:List Value} (hs:a.eval s=v) (hown:w.ownsRow base e size v n xs)
  {A:Option Addr} {m c:Nat} {news:List Value} (hx:a.eval x=.slice A m c) (hr:Rd w A news) (hl:news.length=m*size) (h1:∀u∈news,u.oneCell'=true)
  (hbytes:(n+m)*bytes<=140737488355328) (h63:n+m<=9223372036854775807) (hbase:base<=w.heap.size)
  (h:∀v' w',w'.ownsRow base e size v' (n+m) (xs++news)->Below base w w'->w.grownBy w' v.ownBlock->wpList P ops Q rest (a.put o.dst v') w'):wpList P ops Q (o::rest) a w:=by
 obtain⟨i,hi,hz,hsize,hby⟩:=info_parts hinfo
 have below:∀{w':World},w.grownBy w' v.ownBlock->Below base w w':=λhg=>(Below.refl _ _).grown hg hbase λk hk=>(hown.lt k hk).1
 rcases hr with rfl|⟨g,off,rfl,hc⟩
 ·have hm:m=0:=by
   rcases Nat.eq_zero_or_pos m with h0|h0
   ·exact h0
   ·have:=Nat.mul_pos h0 hsz
    simp at hl;omega
  subst hm
  rcases A with _|ad
  ·refine wpList_plain hgd λK hK=>?_
   have hrun:(Builtin.append_ #[t,t] o.type #[v,.slice none 0 c]).run P w=.ok v w:=by
    rcases hown.2 with ⟨rfl,rfl⟩|⟨g,cap,cur,rfl,_,_,hnc,_⟩
    ·simp[Builtin.append_,run_underlying ht,sizeOf,typeInfo,hi,Builtin.lenOf,Builtin.firstCells]
    ·simp[Builtin.append_,run_underlying ht,sizeOf,typeInfo,hi,Builtin.lenOf,Builtin.firstCells,hnc,storeCells]
   unfold Oper.wp execOp
   simp only[ho,resolve,invoke,builtin,Sem.run_bind,Sem.run_pure,Result.andThen_ok,List.map_toArray,List.map_cons,List.map_nil,hs,hx,hrun]
   exact hK _ _ (h v w (by simpa using hown) (Below.refl _ _) ⟨rfl,rfl,rfl,Nat.le_refl _,λ_ _ _=>rfl⟩)
  ·exact wpList_append_own w hgd s x t ho base e i z size bytes ht hi hz hsize hby hzs hsz v n xs hs hown ad 0 c [] hx hl (by simp) (by simp) h63 hbytes hbase (λv' w' a b _=>h v' w' a (below b) b)
 ·exact wpList_append_own w hgd s x t ho base e i z size bytes ht hi hz hsize hby hzs hsz v n xs hs hown ⟨g,off,none⟩ m c news hx hl (λj u hu=>by rw[add_zero_spot];exact hc j u hu) h1 h63 hbytes hbase (λv' w' a b _=>h v' w' a (below b) b)
theorem Rd.grown {w w':World} {row:Option Nat} {A:Option Addr} {xs:List Value} (h:Rd w A xs) (hg:w.grownBy w' row) (hA:∀a,A=some a->some a.block≠row):Rd w' A xs:=by
 rcases h with h0|⟨b,o,rfl,hx⟩
 ·exact .inl h0
 ·exact .inr ⟨b,o,rfl,λj u hu=>hg.cell (hx j u hu) (hA ⟨b,o,none⟩ rfl)⟩
theorem run_storeRow {P:Program} {w:World} {t:TypeId} {g:Nat} {ty:TypeId} {cur vs:Array Value} (hi:(P.info? t).map (·.size)=some vs.size) (hg:w.heap[g]?=some (.cells cur ty (0,0))) (hl:vs.size=cur.size) (h1:vs.toList.all (·.oneCell')=true) :
  (Instr.storeAt t (.pointer (some ⟨g,0,none⟩)) (.agg vs)).run P w=.ok () (w.setRow g vs):=by
 obtain⟨i,hi1,hi2⟩:=Option.map_eq_some_iff.1 hi
 have hs:∀w,(sizeOf t).run P w=.ok vs.size w:=λw=>by simp[sizeOf,typeInfo,hi1,hi2]
 have h:=run_storeCells_from (P:=P) g ty vs.toList 0 cur w hg (by simp[hl]) (λv hv=>List.all_eq_true.1 h1 v hv)
 simp only[List.take_zero,List.nil_append,Array.toArray_toList]at h
 unfold Instr.storeAt storeVar
 simp[Instr.sureAddr,hs,Value.cells,Result.andThen,h]
theorem wpList_store_row {P:Program} {w:World} {ops:Array Oper} {rest:List Oper} {o:Oper} {a:Act} {Q:Exit->Act->World->Prop}
  (hgd:o.guard=none) (t:TypeId) (ad x:Operand) (hop:o.op=Op.store t ad x) {g:Nat} {ty:TypeId} {cur vs:Array Value} (had:a.eval ad=.pointer (some ⟨g,0,none⟩)) (hx:a.eval x=.agg vs)
  (hi:(P.info? t).map (·.size)=some vs.size) (hg:w.heap[g]?=some (.cells cur ty (0,0))) (hl:vs.size=cur.size) (h1:vs.toList.all (·.oneCell')=true)
  (hQ:wpList P ops Q rest (a.put o.dst undef) (w.setRow g vs)):wpList P ops Q (o::rest) a w:=by
 refine wpList_plain hgd λK hK=>?_
 have hrun:=run_storeRow (P:=P) (w:=w) hi hg hl h1
 unfold Oper.wp
 simp[execOp,hop,had,hx,hrun,Result.andThen]
 exact hK _ _ hQ
theorem cell_row {w:World} {g:Nat} {vs:Array Value} {p:Addr} {u:Value} (h:w.cell? p=some u) (hne:p.block≠g):(w.setRow g vs).cell? p=some u:=by rw[cell_setRow_other _ _ _ _ hne];exact h
def RpV (l:List UInt8) (v:Value) (w:World):Prop:=
 if l=[] then v=.slice none 0 0 else ∃g c cur fz,v=.slice (some ⟨g,0,none⟩) 2 c/\w.heap[g]?=some (Obj.cells cur 5 fz)/\l.length=2/\∀(j:Nat) (x:UInt8),l[j]?=some x->cur[j]?=some (Value.int .u8 (x.toNat:Int))
abbrev rpS (m:Nat):List Value:=(List.range m).map λi=>Value.string ⟨#[rpN i]⟩
structure Bsr (B b k m:Nat) (w:World):Prop where
 ge:B<=b
 blk:∃cs:Array Value,w.heap[b]?=some (Obj.cells cs 333 (0,0))/\cs.size=257/\(∀j,j<256->∃v,cs[j]?=some v/\RpV (rpT k j) v w)/\∃v,cs[256]?=some v/\w.ownsRow B 9 1 v m (rpS m)
theorem own_block_ne {w:World} {B:Nat} {e:TypeId} {s:Nat} {v:Value} {n:Nat} {xs:List Value} (h:w.ownsRow B e s v n xs) {b:Nat} {cs:Array Value} {T:TypeId} {fz:Nat × Nat}
  (hb:w.heap[b]?=some (Obj.cells cs T fz)) (hT:T≠e):v.ownBlock≠some b:=by
 intro e1
 rcases h.2 with ⟨rfl,_⟩|⟨g,cap,cur,rfl,_,hg,_⟩
 ·simp[Value.ownBlock]at e1
 ·simp[Value.ownBlock]at e1
  subst e1
  rw[hb]at hg
  injection hg with hg;injection hg with _ hg
  exact hT hg
theorem RpV.keep {l:List UInt8} {v:Value} {w w':World} (h:RpV l v w) (hk:∀(g:Nat) (cur:Array Value) (fz:Nat × Nat),w.heap[g]?=some (Obj.cells cur 5 fz)->w'.heap[g]?=some (Obj.cells cur 5 fz)):RpV l v w':=by
 unfold RpV at *
 split
 ·rename_i hl;rw[if_pos hl]at h;exact h
 ·rename_i hl;rw[if_neg hl]at h
  obtain⟨g,c,cur,fz,h1,h2,h3⟩:=h
  exact⟨g,c,cur,fz,h1,hk g cur fz h2,h3⟩
theorem Bsr.step {B b k m:Nat} {w w':World} (h:Bsr B b k m w) (hb:Below w.heap.size w w'):Bsr B b k m w':=by
 obtain⟨hge,cs,h1,h2,h3,v,h4,h5⟩:=h
 have keep:∀{g:Nat} {o:Obj},w.heap[g]?=some o->w'.heap[g]?=some o:=λhg=>by rw[hb.block _ (Array.getElem?_eq_some_iff.1 hg).1];exact hg
 refine⟨hge,cs,keep h1,h2,λj hj=>?_,v,h4,own_below h5 hb (Nat.le_refl _)⟩
 obtain⟨u,hu,hr⟩:=h3 j hj
 exact⟨u,hu,hr.keep λg cur fz hg=>keep hg⟩
theorem Bsr.named {B b k m:Nat} {w w':World} {v v':Value} {cs:Array Value} (hge:B<=b) (h1:w.heap[b]?=some (Obj.cells cs 333 (0,0))) (h2:cs.size=257) (h3:∀j,j<256->∃v,cs[j]?=some v/\RpV (rpT k j) v w)
  (own:w.ownsRow B 9 1 v m (rpS m)) (own':w'.ownsRow B 9 1 v' (m+1) (rpS (m+1))) (hg:w.grownBy w' v.ownBlock) :
  Bsr B b k (m+1) (w'.setCell ⟨b,256,none⟩ v'):=by
 have keep:∀{g:Nat} {cur:Array Value} {T:TypeId} {fz:Nat × Nat},w.heap[g]?=some (.cells cur T fz)->T≠9->w'.heap[g]?=some (.cells cur T fz):=λhh hT=>by
  rw[hg.block _ (Array.getElem?_eq_some_iff.1 hh).1 (λe=>own_block_ne own hh hT e.symm)];exact hh
 have hb':=keep h1 (by decide)
 refine⟨hge,cs.setIfInBounds 256 v',?_,by simpa using h2,λj hj=>?_,v',by simp[h2],?_⟩
 ·simp[World.setCell,Array.getElem?_modify,hb']
 ·obtain⟨u,hu,hr⟩:=h3 j hj
  refine⟨u,?_,hr.keep λg cur fz hh=>?_⟩
  ·rw[Array.getElem?_setIfInBounds,if_neg (by omega)];exact hu
  ·have h0:=keep hh (by decide)
   rw[Below.heap_setCell _ _ _ _ (show g≠b from λe=>?_)]
   ·exact h0
   ·subst e;rw[h1]at hh;injection hh with hh;injection hh with _ hh;revert hh;decide
 ·have hne:=own_block_ne own' hb' (by decide)
  refine⟨own'.1,own'.2.imp id ?_⟩
  rintro⟨g,cap,cur,rfl,hB,hh,r⟩
  refine⟨g,cap,cur,rfl,hB,?_,r⟩
  rw[Below.heap_setCell _ _ _ _ (show g≠b from λe=>hne (by simp[Value.ownBlock,e]))]
  exact hh
theorem Bsr.laid {B b k m:Nat} {w:World} (h:Bsr B b k m w) (hk:k<4) {g c:Nat} {cur:Array Value} {fz:Nat × Nat} (hg:w.heap[g]?=some (Obj.cells cur 5 fz))
  (hx:∀(j:Nat) (x:UInt8),(rpX (rpN k).toNat)[j]?=some x->cur[j]?=some (Value.int .u8 (x.toNat:Int))):Bsr B b (k+1) m (w.setCell ⟨b,(rpN k).toNat,none⟩ (.slice (some ⟨g,0,none⟩) 2 c)):=by
 obtain⟨hge,cs,h1,h2,h3,v,h4,h5⟩:=h
 have hn:(rpN k).toNat<256:=UInt8.toNat_lt _
 have hl:(rpX (rpN k).toNat).length=2:=by
  match k,hk with
  | 0,_=>rfl
  | 1,_=>rfl
  | 2,_=>rfl
  | 3,_=>rfl
 have keep:∀{g:Nat} {cur:Array Value} {T:TypeId} {fz:Nat × Nat} {b':Nat} {u:Value},w.heap[g]?=some (.cells cur T fz)->T≠333->(w.setCell ⟨b,b',none⟩ u).heap[g]?=some (.cells cur T fz):=λ{g} _ _ _ _ _ hh hT=>by
  rw[Below.heap_setCell _ _ _ _ (show g≠b from λe=>?_)]
  ·exact hh
  ·subst e;rw[h1]at hh;injection hh with hh;injection hh with _ hh;exact hT hh.symm
 refine⟨hge,cs.setIfInBounds (rpN k).toNat (.slice (some ⟨g,0,none⟩) 2 c),?_,by simpa using h2,λj hj=>?_,v,?_,?_⟩
 ·simp[World.setCell,Array.getElem?_modify,h1]
 ·rw[rpT_succ k j hk]
  by_cases e:j=(rpN k).toNat
  ·subst e
   rw[if_pos rfl]
   refine⟨.slice (some ⟨g,0,none⟩) 2 c,by rw[Array.getElem?_setIfInBounds,if_pos rfl,if_pos (by omega)],?_⟩
   unfold RpV
   rw[if_neg (λe=>by rw[e]at hl;cases hl)]
   exact⟨g,c,cur,fz,rfl,keep hg (by decide),hl,hx⟩
  ·rw[if_neg e]
   obtain⟨u,hu,hr⟩:=h3 j hj
   refine⟨u,?_,hr.keep λg cur fz hh=>keep hh (by decide)⟩
   rw[Array.getElem?_setIfInBounds,if_neg (Ne.symm e)];exact hu
 ·rw[Array.getElem?_setIfInBounds,if_neg (by omega)];exact h4
 ·refine⟨h5.1,h5.2.imp id ?_⟩
  rintro⟨g',cap,cur',rfl,hB,hh,r⟩
  exact⟨g',cap,cur',rfl,hB,keep hh (by decide),r⟩
theorem Bsr.low {B b k m:Nat} {w:World} (h:Bsr B b k m w) {j:Nat} (hj:j<256):∃v,w.cell? ⟨b,j,none⟩=some v/\RpV (rpT k j) v w:=by
 obtain⟨_,cs,h1,_,h3,_⟩:=h
 obtain⟨v,hv,hr⟩:=h3 j hj
 exact⟨v,by rw[Lib.cell_of_heap h1];exact hv,hr⟩
theorem Bsr.row {B b k m:Nat} {w:World} (h:Bsr B b k m w):∃v,w.cell? ⟨b,256,none⟩=some v/\w.ownsRow B 9 1 v m (rpS m):=by
 obtain⟨_,cs,h1,_,_,v,hv,ho⟩:=h
 exact⟨v,by rw[Lib.cell_of_heap h1];exact hv,ho⟩
theorem Bsr.fz {B b k m:Nat} {w:World} (h:Bsr B b k m w) (j:Nat):w.frozen? ⟨b,j,none⟩=false:=by
 obtain⟨_,cs,h1,_⟩:=h
 exact Lib.frozen_of_heap h1 j
end Go.Proofs.YtoaemihcbmlkgaaGreatDoor
