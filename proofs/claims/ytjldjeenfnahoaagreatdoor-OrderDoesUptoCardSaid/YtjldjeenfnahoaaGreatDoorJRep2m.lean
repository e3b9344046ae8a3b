/- The program's term.writer, walked: a text, written as an IRI -/
import Derived.Test.YtjldjeenfnahoaaGreatDoorJUtfProg2b
import Derived.Test.YtjldjeenfnahoaaGreatDoorJRowsM
set_option maxHeartbeats 4000000
set_option maxRecDepth 100000
namespace Go.Proofs.YtjldjeenfnahoaaGreatDoor
open Go Go.RowKit Um Fm Tx
theorem yq {b:Nat} {w wr:World} (h:OK8 b w wr) {k:Nat} (hk:w.heap.size<=k) (s:ByteArray) (pos:Nat):OK8 b w (wr.iterAt k s pos):=λi o hi hb ho=>by
 have hlt:i<w.heap.size:=(Array.getElem?_eq_some_iff.1 hi).1
 exact(Lib.iterAt_other wr k i s pos (by omega)).trans (h i o hi hb ho)
theorem nS {b:Nat} {w w':World} (h:Below w.heap.size w w'):OK8 b w w':=λi o hi _ _=>by
 rw[h.block i (Array.getElem?_eq_some_iff.1 hi).1];exact hi
def dJ (w:World):Prop:=Ctx w/\TzV w
theorem dJ.step {w w':World} (h:dJ w) (hb:Below w.heap.size w w'):dJ w':=⟨h.1.step hb,h.2.step hb⟩
theorem DD:∀r:Fin 128,bits BinOp.and IntKind.i64 (r.val:Int) 15=((r.val % 16:Nat):Int):=by decide
theorem pV (w0:World) (hC:dJ w0) (b:Nat) (acc:List UInt8) (s:ByteArray) (w:World) (hw0:Below w0.heap.size w0 w) (h:WI w0.heap.size b acc w) (hv:aP s=true) (hs:s.size<=1048576) (hlen:acc.length<=50000000) :
  Calls Tryz.prog 138 #[.pointer (some ⟨b,0,none⟩),.string s] w λe w'=>e=.returned (.pointer (some ⟨b,0,none⟩))/\WI w0.heap.size b (acc++aZ s.data.toList) w'/\Below w0.heap.size w w'/\OK8 b w w':=by
 have hBw:=hw0.size
 have hlt0:b<w.heap.size:=h.lt
 have hz:s.data.toList.length=s.size:=ac s
 go_enter Tryz.func138,Tryz.ntmps138
 go_wp2
 go_loopg [] s.size (λgk wx=>∃(pos:Nat) (part:List UInt8),Hid (WI w0.heap.size b (acc++part) wx)/\wx.heap[w.heap.size]?=some (.stringIter s pos)/\Below w0.heap.size w wx/\Hid (OK8 b w wx) /\
  Hid (part++aZ (s.data.toList.drop pos)=aZ s.data.toList)/\Hid (Lib.validD (s.data.toList.drop pos)=true)/\part.length<=6*pos/\s.size<=pos+gk/\pos<=s.size)
 case atStart =>
  refine⟨0,[],?_,World.iter_heap w s 0,(Below.refl _ w).alloc hBw _,(Lib.OthersKept.refl _ _ w).alloc _,rfl,hv,by simp,by omega,by omega⟩
  show WI _ _ _ _
  rw[List.append_nil];exact h.alloc _
 case round =>
  obtain⟨pos,part,hW,hit,hB,hO,hpart,hvd,hpl,hfu,hps⟩:=hrel
  have hklt:w.heap.size<wr.heap.size:=(Array.getElem?_eq_some_iff.1 hit).1
  by_cases hlt:pos<s.size
  ·obtain⟨g',rfl⟩:∃g',gk=g'+1:=⟨gk-1,by omega⟩
   have hne:s.data.toList.drop pos≠[]:=by
    intro h0
    have:=congrArg List.length h0
    rw[List.length_drop,hz]at this
    simp at this;omega
   have hst:=yV hne hvd.out
   have hnx:∀ty,(Instr.next (.pointer (some ⟨w.heap.size,0,none⟩)) true ty).run Tryz.prog wr=_:=λty=>Lib.run_next_any_at wr w.heap.size s pos ty hit hlt
   have hrn:=Lib.decodeL_rune (s.data.toList.drop pos)
   rw[Lib.decodeL_drop]at hst hrn
   rw[List.drop_drop,List.length_drop,hz]at hst
   generalize hdd:Utf8.decode s pos=dd at *
   obtain⟨r,n⟩:=dd
   simp only at hnx hst hrn
   obtain⟨h1,h2,h3,h4,h5,h6⟩:=hst
   have hit2:=Lib.iterAt_heap wr w.heap.size s pos (pos+n) hit
   have hB2:=Lib.below_iterAt hB (k:=w.heap.size) hBw s (pos+n)
   have hO2:=yq hO.out (k:=w.heap.size) (Nat.le_refl _) s (pos+n)
   have hW2:WI w0.heap.size b (acc++part) (wr.iterAt w.heap.size s (pos+n)):=WIs.iterAt hW.out hit (pos+n)
   have hp2:(part++kv r)++aZ (s.data.toList.drop (pos+n))=aZ s.data.toList:=by rw[List.append_assoc,←h1];exact hpart.out
   have hal:(acc++part).length<=100000000:=by rw[List.length_append];omega
   have hpl2:(part++kv r).length<=6*(pos+n):=by rw[List.length_append];omega
   obtain⟨W,hWd⟩:∃W,wr.iterAt w.heap.size s (pos+n)=W:=⟨_,rfl⟩
   rw[hWd]at hnx hit2 hB2 hO2 hW2
   have hrw:=Cb (r:Int) W (hC.step (hw0.trans hB2)).1
   have HW2:=Lib.hid hW2
   have HO2:=Lib.hid hO2
   have Hp2:=Lib.hid hp2
   have H3:=Lib.hid h3
   have hBW:w0.heap.size<=W.heap.size:=Nat.le_trans hBw hB2.size
   have hkW:w.heap.size<W.heap.size:=(Array.getElem?_eq_some_iff.1 hit2).1
   clear hit hB hO hW hpart hvd hdd hWd h1 h3 hpl hW2 hO2 hp2 hne
   cases hr:eV (r:Int)
   ·have h128:=h2 hr
    rw[hr]at hrw
    have hi:kv r=[92,117,48,48,hxD (r / 16),hxD (r % 16)]:=by unfold kv;rw[hr];rfl
    rw[hi]at Hp2 hpl2
    have ha15:=DD ⟨r,h128⟩
    simp only at ha15
    have hf1:=λW' hb=>zf (r / 16) (by omega) W' ((hC.step (hw0.trans hB2)).step hb).2
    have hf2:=λW' hb=>zf (r % 16) (by omega) W' ((hC.step (hw0.trans hB2)).step hb).2
    rw[show ((r / 16:Nat):Int)=(r:Int) / 16 from by omega]at hf1
    rw[show ((r % 16:Nat):Int)=(r:Int) % 16 from by omega]at hf2 ha15
    have hu1:=λW'=>BS (r / 16) (by omega) W'
    have hu2:=λW'=>BS (r % 16) (by omega) W'
    have HI2:=Lib.hid hit2
    clear hi hr h2 hit2
    go_wp2_with (first|(go_at_call 167;refine hrw.mono ?_;rintro e w2 ⟨rfl,rfl⟩))
    refine(hf1 _ (Below.refl _ _)).mono ?_
    rintro e w2 ⟨rfl,c1⟩
    go_wp2_with (go_at_call 169;refine(hu1 _).mono ?_;rintro e w3 ⟨rfl,c2⟩)
    have c3:=aa c1 c2
    refine(hf2 _ c3).mono ?_
    rintro e w4 ⟨rfl,c4⟩
    go_wp2_with (go_at_call 169;refine(hu2 _).mono ?_;rintro e w5 ⟨rfl,c5⟩)
    have c6:=aa c3 (aa c4 c5)
    have c7:Below W.heap.size W (w5.alloc (.cells #[.string ⟨#[92,117,48,48]⟩,.string ⟨#[hxD (r / 16)]⟩,.string ⟨#[hxD (r % 16)]⟩] 9)):=c6.alloc c6.size _
    have hbW:b<W.heap.size:=WIs.lt HW2.out
    have hzW:=c6.size
    have hpc:=tm w0.heap.size b w5.heap.size (acc++part) [⟨#[92,117,48,48]⟩,⟨#[hxD (r / 16)]⟩,⟨#[hxD (r % 16)]⟩] 3 _ (WIs.step HW2.out c7) (heap_alloc_new w5 _) (by omega) (by simp) (by omega)
     (by intro x hx;simp at hx;rcases hx with rfl|rfl|rfl<;>simp[ByteArray.size]) (Nat.le_trans hBW c7.size)
    refine hpc.mono ?_
    rintro e w6 ⟨rfl,k1,k2,k3⟩
    have e1:(acc++part)++List.flatMap (λs:ByteArray=>s.data.toList) [⟨#[92,117,48,48]⟩,⟨#[hxD (r / 16)]⟩,⟨#[hxD (r % 16)]⟩]=acc++(part++[92,117,48,48,hxD (r / 16),hxD (r % 16)]):=by rw[List.append_assoc];rfl
    rw[e1]at k1
    have hit6:=Lib.OthersKept.iter ((nS (b:=b) c7).trans k3) HI2.out (by omega)
    have hB6:=(hB2.trans (c7.mono hBW)).trans k2
    clear hpc hu1 hu2 hf1 hf2 c1 c2 c3 c4 c5 c6
    go_wp2
    go_roundg g'
    case measure=>omega
    case rel=>exact⟨pos+n,part++[92,117,48,48,hxD (r / 16),hxD (r % 16)],k1,hit6,hB6,HO2.out.trans ((nS c7).trans k3),Hp2.out,H3.out,hpl2,by omega,by omega⟩
   ·rw[hr]at hrw
    have hi:kv r=Lib.encodeRune (r:Int):=by unfold kv;rw[hr];rfl
    rw[hi]at Hp2 hpl2
    have hww:=rM w0.heap.size b (acc++part) r hrn W HW2.out (by omega) hBW
    rw[List.append_assoc]at hww
    have hit3:=λw2 (hk:OK8 b W w2)=>Lib.OthersKept.iter hk hit2 (by omega)
    clear hi hr h2 hit2 HW2
    go_wp2_with (first|(go_at_call 167;refine hrw.mono ?_;rintro e w2 ⟨rfl,rfl⟩)|(go_at_call 168;refine hww.mono ?_;rintro e w2 ⟨⟨u,rfl⟩,k1,k2,k3⟩))
    go_roundg g'
    case measure=>omega
    case rel=>exact⟨pos+n,part++Lib.encodeRune (r:Int),k1,hit3 _ k3,hB2.trans k2,HO2.out.trans k3,Hp2.out,H3.out,hpl2,by omega,by omega⟩
  ·have hnx:∀ty,(Instr.next (.pointer (some ⟨w.heap.size,0,none⟩)) true ty).run Tryz.prog wr=_:=λty=>Lib.run_next_end_at wr w.heap.size s pos ty hit hlt
   have hpe:part=aZ s.data.toList:=by
    have:=hpart.out
    rw[List.drop_eq_nil_of_le (by rw[hz];omega),yX,List.append_nil]at this
    exact this
   rw[hpe]at hW
   clear hpe hpart hvd hit
   go_wp2
   go_ret
   exact⟨rfl,hW.out,hB,hO.out⟩
theorem nR (w:World):(callFunc 286 #[]).run Tryz.prog w=.ok (.value (.tuple #[])) w:=run_call_mark0 Tryz.func286 (by kernel_rfl) (by kernel_rfl) (by kernel_rfl) .disable (by kernel_rfl) w
theorem qA (w:World):(callFunc 288 #[]).run Tryz.prog w=.ok (.value (.tuple #[])) w:=run_call_mark0 Tryz.func288 (by kernel_rfl) (by kernel_rfl) (by kernel_rfl) .enable (by kernel_rfl) w
theorem vH (a:Addr) (w:World):(callFunc 289 #[.pointer (some a)]).run Tryz.prog w=.ok (.value (.tuple #[])) w:=run_call_marked Tryz.func289 (by kernel_rfl) (by kernel_rfl) (by kernel_rfl) .acquire (by kernel_rfl) a w
theorem vG (a:Addr) (w:World):(callFunc 291 #[.pointer (some a)]).run Tryz.prog w=.ok (.value (.tuple #[])) w:=run_call_marked Tryz.func291 (by kernel_rfl) (by kernel_rfl) (by kernel_rfl) .releaseMerge (by kernel_rfl) a w
theorem AS (a:Addr) (x:Value) (u:FrameMode) (w:World) (hc:w.cell? a=some x) (hz:w.frozen? a=false) :
  CallsD Tryz.prog 244 #[.pointer (some a),.bool true] u w λe u' w'=>u'=u/\(e=.returned (.tuple #[])/\w'=w.drew.setCell a (.int .u32 1)):=by
 have hc':w.drew.cell? a=some x:=by go_simp
 have hz':w.drew.frozen? a=false:=by go_simp
 have hst:=run_call_store (P:=Tryz.prog) Tryz.func270 (by kernel_rfl) (by kernel_rfl) (by kernel_rfl) (by kernel_rfl) (k:=.u32) (y:=1) hc' hz'
 go_enter_d Tryz.func244,Tryz.ntmps244
 go_wp2
 go_region_calls
 all_goals (go_end0;exact⟨rfl,rfl⟩)
theorem yp (a:Addr) (u:FrameMode) (w:World) (hc:w.cell? a=some (.int .i32 1)) (hz:w.frozen? a=false) :
  CallsD Tryz.prog 243 #[.pointer (some a)] u w λe u' w'=>u'=u/\(e=.returned (.tuple #[])/\w'=w.setCell a (.int .i32 0)):=by
 have hd:=nR
 have he:=qA
 have hr:=vG
 have hadd:=run_call_add (P:=Tryz.prog) Tryz.func292 (by kernel_rfl) (by kernel_rfl) (by kernel_rfl) .i32 (by kernel_rfl) (y:=-1) (s:=0) hc hz (by simp[go_sem];rfl)
 have hcv:=run_convert_to_unsafe (P:=Tryz.prog) (src:=318) (dst:=217) Tryz.underlying318 Tryz.underlying217 (by kernel_rfl) hc
 go_enter_d Tryz.func243,Tryz.ntmps243
 go_wp2
 go_end0
 exact⟨rfl,rfl⟩
theorem CB (a:Addr) (w:World) (hc:w.cell? a=some (.int .i32 0)) (hz:w.frozen? a=false) :
  Calls Tryz.prog 242 #[.pointer (some a)] w λe w'=>e=.returned (.tuple #[])/\w'=w.setCell a (.int .i32 1):=by
 have hd:=nR
 have he:=qA
 have ha:=vH
 have hcas:=run_call_cas_hit (P:=Tryz.prog) Tryz.func287 (by kernel_rfl) (by kernel_rfl) (by kernel_rfl) .i32 (by kernel_rfl) (y:=1) hc hz
 have hc':(w.setCell a (.int .i32 1)).cell? a=some (.int .i32 1):=World.cell?_setCell_same w a _ hc
 have hcv:=run_convert_to_unsafe (P:=Tryz.prog) (src:=318) (dst:=217) Tryz.underlying318 Tryz.underlying217 (by kernel_rfl) hc'
 go_enter Tryz.func242,Tryz.ntmps242
 go_wp2
 first|go_end0|(simp only[Exit.inBlock,Exit.then];refine bodyPost_ret (results_none rfl _ _ _) rfl ?_)|refine bodyPost_ret (results_none rfl _ _ _) rfl ?_
 exact⟨rfl,rfl⟩
def fV (b off:Nat) (W2:World):World:=(W2.drew.setCell ⟨b,off,none⟩ (.int .u32 1)).setCell ⟨b,off+1,none⟩ (.int .i32 0)
theorem Cz (b off fn:Nat) (x:Value) (w:World) (efn:∀args W,(callFunc fn args).run Tryz.prog W=.ok (.enter fn args) W)
  (h0:w.cell? ⟨b,off,none⟩=some (.int .u32 0)) (h1:w.cell? ⟨b,off+1,none⟩=some (.int .i32 0))
  (_f0:w.frozen? ⟨b,off,none⟩=false) (f1:w.frozen? ⟨b,off+1,none⟩=false)
  {Q:World->Prop} (hQ:∀W,Q W->W.cell? ⟨b,off,none⟩=some (.int .u32 0)/\W.cell? ⟨b,off+1,none⟩=some (.int .i32 1)/\W.frozen? ⟨b,off,none⟩=false/\W.frozen? ⟨b,off+1,none⟩=false)
  (hf:Calls Tryz.prog fn #[x] (w.setCell ⟨b,off+1,none⟩ (.int .i32 1)) λe w'=>e=.returned (.tuple #[])/\Q w') :
  Calls Tryz.prog 210 #[.pointer (some ⟨b,off,none⟩),.func (.func fn) #[x] #[]] w λe w'=>e=.returned (.tuple #[])/\∃W2,Q W2/\w'=fV b off W2:=by
 have hl:=run_call_load (P:=Tryz.prog) Tryz.func241 (by kernel_rfl) (by kernel_rfl) (by kernel_rfl) .u32 (by kernel_rfl) (w:=w.setCell ⟨b,off+1,none⟩ (.int .i32 1)) (a:=⟨b,off,none⟩) (x:=0) ((World.cell?_setCell_other _ ⟨b,off+1,none⟩ ⟨b,off,none⟩ _ (by simp)).trans h0)
 have hnot:∀(x:Bool) (w:World),(Op.unary .not (.bool x)).run Tryz.prog w=.ok (.bool (!x)) w:=λ_ _=>rfl
 go_enter_defers Tryz.func210,Tryz.ntmps210
 go_wp2_with (first|(go_at_call 242;refine(CB ⟨b,off+1,none⟩ _ (by go_simp) (by go_simp)).mono ?_;rintro e w' ⟨rfl,rfl⟩)|(go_at_call 209;go_in)|(go_at_fn fn;refine hf.mono ?_;rintro e W2 ⟨rfl,hq⟩))
 obtain⟨q0,q1,z0,z1⟩:=hQ _ hq
 refine leaves_cons (f:=244) (args:=#[.pointer (some ⟨b,off,none⟩),.bool true]) (by simp) (by simp[go_sem]) ?_
 refine(AS ⟨b,off,none⟩ (.int .u32 0) .returning _ q0 z0).mono ?_
 rintro e u' w'' ⟨rfl,rfl,rfl⟩
 refine leaves_cons (f:=243) (args:=#[.pointer (some ⟨b,off+1,none⟩)]) (by simp[settle]) (by simp[go_sem]) ?_
 refine(yp ⟨b,off+1,none⟩ _ _ ?_ (by simp[z1])).mono ?_
 ·refine(World.cell?_setCell_other _ ⟨b,off,none⟩ ⟨b,off+1,none⟩ _ (by simp)).trans ?_
  rw[World.cell?_drew]
  exact q1
 rintro e u' w'' ⟨rfl,rfl,rfl⟩
 simp only[Leaves,settle,results,Tryz.results210]
 refine⟨_,by simp[go_sem],rfl,W2,hq,rfl⟩
theorem DN (b off fn:Nat) (x:Value) (w:World) (efn:∀args W,(callFunc fn args).run Tryz.prog W=.ok (.enter fn args) W)
  (h0:w.cell? ⟨b,off,none⟩=some (.int .u32 0)) (h1:w.cell? ⟨b,off+1,none⟩=some (.int .i32 0))
  (f0:w.frozen? ⟨b,off,none⟩=false) (f1:w.frozen? ⟨b,off+1,none⟩=false)
  {Q:World->Prop} (hQ:∀W,Q W->W.cell? ⟨b,off,none⟩=some (.int .u32 0)/\W.cell? ⟨b,off+1,none⟩=some (.int .i32 1)/\W.frozen? ⟨b,off,none⟩=false/\W.frozen? ⟨b,off+1,none⟩=false)
  (hf:Calls Tryz.prog fn #[x] (w.setCell ⟨b,off+1,none⟩ (.int .i32 1)) λe w'=>e=.returned (.tuple #[])/\Q w') :
  Calls Tryz.prog 172 #[.pointer (some ⟨b,off,none⟩),.func (.func fn) #[x] #[]] w λe w'=>e=.returned (.tuple #[])/\∃W2,Q W2/\w'=fV b off W2:=by
 have hl:=run_call_load (P:=Tryz.prog) Tryz.func241 (by kernel_rfl) (by kernel_rfl) (by kernel_rfl) .u32 (by kernel_rfl) h0
 have hnot:∀(x:Bool) (w:World),(Op.unary .not (.bool x)).run Tryz.prog w=.ok (.bool (!x)) w:=λ_ _=>rfl
 have hs:=Cz b off fn x w efn h0 h1 f0 f1 hQ hf
 clear hQ hf efn
 go_enter Tryz.func172,Tryz.ntmps172
 go_wp2_with (first|(go_at_call 210;refine hs.mono ?_;rintro e w' ⟨rfl,hw⟩)|(go_at_call 209;go_in))
 go_end0
 exact⟨rfl,hw⟩
end Go.Proofs.YtjldjeenfnahoaaGreatDoor
namespace Go.Proofs.YtjldjeenfnahoaaGreatDoor.Tx
open Go Go.RowKit Um Fm Lx
def rpX (j:Nat):List UInt8:=if j=34 then [92,34] else if j=92 then [92,92] else if j=10 then [92,110] else if j=13 then [92,114] else []
def isE (c:UInt8):Bool:=!(rpX c.toNat).isEmpty
theorem xt {j:Nat}:(rpX j).length=0∨(rpX j).length=2:=by
 unfold rpX;repeat' split
 all_goals simp
theorem pX (c d:UInt8):(c=d)↔c.toNat=d.toNat:=UInt8.toNat_inj.symm
theorem pa (c:UInt8):cN c=if isE c then rpX c.toNat else [c]:=by
 unfold cN isE rpX
 simp only[pX]
 by_cases h1:c.toNat=34
 ·simp[h1]
 by_cases h2:c.toNat=92
 ·simp[h2]
 by_cases h3:c.toNat=10
 ·simp[h3]
 by_cases h4:c.toNat=13
 ·simp[h4]
 simp[h1,h2,h3,h4]
theorem js (c:UInt8) (t:List UInt8):aj (c::t)=cN c++aj t:=by unfold aj;rw[List.flatMap_cons]
theorem qG (a b:List UInt8):aj (a++b)=aj a++aj b:=List.flatMap_append
theorem jr:∀l:List UInt8,(aj l).length=l.length+l.countP isE
 | []=>rfl
 | c::t=>by
  rw[js,List.length_append,jr t,pa,List.countP_cons,List.length_cons]
  cases h:isE c
  ·simp;omega
  ·have hl:(rpX c.toNat).length=2:=by
    rcases xt (j:=c.toNat) with h2|h2
    ·rw[isE,List.isEmpty_iff.2 (List.length_eq_zero_iff.1 h2)]at h;cases h
    ·exact h2
   simp[hl];omega
theorem nY:∀l:List UInt8,l.countP isE=0->aj l=l
 | [],_=>rfl
 | c::t,h=>by
  rw[List.countP_cons]at h
  cases hc:isE c
  ·rw[js,pa,hc,nY t (by omega)];rfl
  ·rw[hc]at h;simp at h
theorem vN (l:List UInt8) (k:Nat) (c:UInt8) (h:l[k]?=some c):aj (l.take (k+1))=aj (l.take k)++cN c:=by
 rw[List.take_add_one,h,Option.toList_some,qG,js]
 show _=_
 rw[show aj []=[] from rfl,List.append_nil]
theorem wn (l:List UInt8) (k:Nat) (c:UInt8) (h:l[k]?=some c):(l.take (k+1)).countP isE=(l.take k).countP isE+(if isE c then 1 else 0):=by
 rw[List.take_add_one,h,Option.toList_some,List.countP_append,List.countP_cons,List.countP_nil,Nat.zero_add]
def rpN (i:Nat):UInt8:=if i=0 then 13 else if i=1 then 10 else if i=2 then 34 else 92
theorem wo (l:List UInt8):l.countP isE=Lib.countByte l (rpN 0)+Lib.countByte l (rpN 1)+Lib.countByte l (rpN 2)+Lib.countByte l (rpN 3):=by
 have e0:rpN 0=13:=rfl
 have e1:rpN 1=10:=rfl
 have e2:rpN 2=34:=rfl
 have e3:rpN 3=92:=rfl
 rw[e0,e1,e2,e3]
 unfold Lib.countByte
 induction l with
 | nil=>rfl
 | cons c t ih =>
  rw[List.countP_cons,List.count_cons,List.count_cons,List.count_cons,List.count_cons,ih]
  have hc:(if isE c=true then 1 else 0)=(if (c == 13)=true then 1 else 0)+(if (c == 10)=true then 1 else 0)+(if (c == 34)=true then 1 else 0)+(if (c == 92)=true then 1 else 0):=by
   by_cases h1:c=34
   ·subst h1;decide
   by_cases h2:c=92
   ·subst h2;decide
   by_cases h3:c=10
   ·subst h3;decide
   by_cases h4:c=13
   ·subst h4;decide
   have h5:isE c=false:=by
    unfold isE rpX
    have g1:¬ c.toNat=34:=λe=>h1 ((pX _ _).2 e)
    have g2:¬ c.toNat=92:=λe=>h2 ((pX _ _).2 e)
    have g3:¬ c.toNat=10:=λe=>h3 ((pX _ _).2 e)
    have g4:¬ c.toNat=13:=λe=>h4 ((pX _ _).2 e)
    rw[if_neg g1,if_neg g2,if_neg g3,if_neg g4];rfl
   simp[h1,h2,h3,h4,h5]
  rw[hc];omega
def m9 (l:List UInt8):Nat->Nat
 | 0=>0
 | k+1=>m9 l k+Lib.countByte l (rpN k)
theorem zx (l:List UInt8):m9 l 4=l.countP isE:=by
 rw[wo]
 simp only[m9,Nat.zero_add]
theorem zw (l:List UInt8):∀k,m9 l k<=k*l.length
 | 0=>by simp[m9]
 | k+1=>by
  have h1:=zw l k
  have h2:Lib.countByte l (rpN k)<=l.length:=List.count_le_length
  rw[m9,Nat.succ_mul];omega
def rpT (k j:Nat):List UInt8:=if (j=13/\0<k)∨(j=10/\1<k)∨(j=34/\2<k)∨(j=92/\3<k) then rpX j else []
theorem xw (j:Nat):rpT 0 j=[]:=by unfold rpT;rw[if_neg (by omega)]
theorem lj (j:Nat):rpT 4 j=rpX j:=by
 unfold rpT rpX
 by_cases h1:j=34
 ·simp[h1]
 by_cases h2:j=92
 ·simp[h2]
 by_cases h3:j=10
 ·simp[h3]
 by_cases h4:j=13
 ·simp[h4]
 simp[h1,h2,h3,h4]
theorem xx (k j:Nat) (hk:k<4):rpT (k+1) j=if j=(rpN k).toNat then rpX j else rpT k j:=by
 match k,hk with
 | 0,_=>unfold rpT;rw[show (rpN 0).toNat=13 from rfl];by_cases h:j=13<;>simp[h]<;>omega
 | 1,_=>unfold rpT;rw[show (rpN 1).toNat=10 from rfl];by_cases h:j=10<;>simp[h]
 | 2,_=>unfold rpT;rw[show (rpN 2).toNat=34 from rfl];by_cases h:j=34<;>simp[h]
 | 3,_=>unfold rpT;rw[show (rpN 3).toNat=92 from rfl];by_cases h:j=92<;>simp[h]
end Go.Proofs.YtjldjeenfnahoaaGreatDoor.Tx
namespace Go.Proofs.YtjldjeenfnahoaaGreatDoor
open Go Go.RowKit Um Fm Tx
theorem eP:(Tryz.prog.info? 9).map (λi=>(i.zero,i.size,i.bytes))=some (some (.string ⟨#[]⟩),1,16):=by kernel_rfl
abbrev pp:List ByteArray:=[⟨#[92]⟩,⟨#[92,92]⟩,⟨#[34]⟩,⟨#[92,34]⟩,⟨#[10]⟩,⟨#[92,110]⟩,⟨#[13]⟩,⟨#[92,114]⟩]
def zK (B b:Nat) (w:World):Prop:=B<=b/\∃(v:Value),w.heap[b]?=some (.cells #[.int .u32 0,.int .i32 0,.int .u32 0,.nilIface,v] 209 (0,0))/\w.ownsRow B 9 1 v 8 (pp.map Value.string)
theorem nM {w:World} {B B':Nat} {e:TypeId} {s:Nat} {v:Value} {n:Nat} {xs:List Value} (h:w.ownsRow B e s v n xs) (hb:B'<=B):w.ownsRow B' e s v n xs:=
 ⟨h.1,h.2.imp id λ⟨g,cap,cur,hv,hB,r⟩=>⟨g,cap,cur,hv,Nat.le_trans hb hB,r⟩⟩
theorem qC (g:Nat) (w:World) (hA:Rd w (some ⟨g,0,none⟩) (pp.map Value.string)) :
  Calls Tryz.prog 171 #[.slice (some ⟨g,0,none⟩) 8 8] w λe w'=>∃b,e=.returned (.pointer (some ⟨b,0,none⟩))/\zK w.heap.size b w'/\Below w.heap.size w w':=by
 have hown:w.ownsRow w.heap.size 9 1 (.slice none 0 0) 0 []:=World.ownsRow_nil _ _ _ _
 have H1:∀u∈pp.map Value.string,u.oneCell'=true:=by
  intro u hu;obtain⟨x,_,rfl⟩:=List.mem_map.1 hu;rfl
 go_enter Tryz.func171,Tryz.ntmps171
 go_wp2_with (at_builtin;refine bB (m:=8) rfl rfl Tryz.underlying22 eP rfl (by omega) rfl hown rfl hA rfl H1 (by omega) (by omega) (by omega) ?_;intro v1 w1 own1 hb1;obtain⟨A1,c1,rfl,_,_⟩:=own_slice own1)
 go_ret
 rw[Nat.zero_add,List.nil_append]at own1
 exact⟨_,rfl,⟨hb1.size,_,heap_alloc_new w1 _,own1.alloc _⟩,hb1.alloc hb1.size _⟩
theorem fL (w:World):Calls Tryz.prog 139 #[] w λe w'=>∃b,e=.returned (.pointer (some ⟨b,0,none⟩))/\zK w.heap.size b w'/\Below w.heap.size w w':=by
 have hb:Below w.heap.size w (w.alloc (.cells (pp.map Value.string).toArray 9)):=blw
 have h:=qC w.heap.size _ (Rd.of_block (heap_alloc_new w (.cells (pp.map Value.string).toArray 9)) rfl)
 have HB:=Lib.hid hb
 go_enter Tryz.func139,Tryz.ntmps139
 go_wp2_with (go_at_call 171;refine h.mono ?_;rintro e w2 ⟨b,rfl,⟨k1,v,k2,k3⟩,k4⟩)
 go_ret
 have hs:=HB.out.size
 exact⟨b,rfl,⟨by omega,v,k2,nM k3 (by omega)⟩,aa HB.out k4⟩
def RpV (l:List UInt8) (v:Value) (w:World):Prop:=
 if l=[] then v=.slice none 0 0 else ∃g c cur fz,v=.slice (some ⟨g,0,none⟩) 2 c/\w.heap[g]?=some (Obj.cells cur 5 fz)/\l.length=2/\∀(j:Nat) (x:UInt8),l[j]?=some x->cur[j]?=some (Value.int .u8 (x.toNat:Int))
abbrev rpS (m:Nat):List Value:=(List.range m).map λi=>Value.string ⟨#[rpN i]⟩
structure Bsr (B b k m:Nat) (w:World):Prop where
 ge:B<=b
 blk:∃cs:Array Value,w.heap[b]?=some (Obj.cells cs 279 (0,0))/\cs.size=257/\(∀j,j<256->∃v,cs[j]?=some v/\RpV (rpT k j) v w)/\∃v,cs[256]?=some v/\w.ownsRow B 9 1 v m (rpS m)
theorem bE {w:World} {B:Nat} {e:TypeId} {s:Nat} {v:Value} {n:Nat} {xs:List Value} (h:w.ownsRow B e s v n xs) {b:Nat} {cs:Array Value} {T:TypeId} {fz:Nat × Nat}
  (hb:w.heap[b]?=some (Obj.cells cs T fz)) (hT:T≠e):v.ownBlock≠some b:=by
 intro e1
 rcases h.2 with ⟨rfl,_⟩|⟨g,cap,cur,rfl,_,hg,_⟩
 ·simp[Value.ownBlock]at e1
 ·simp[Value.ownBlock]at e1
  subst e1
  rw[hb]at hg
  injection hg with hg;injection hg with _ hg
  exact hT hg
theorem RpV.keep {l:List UInt8} {v:Value} {w w':World} (h:RpV l v w) (hk:∀(g:Nat) (cur:Array Value) (fz:Nat × Nat),w.heap[g]?=some (Obj.cells cur 5 fz)->w'.heap[g]?=some (Obj.cells cur 5 fz)):RpV l v w':=by
 unfold RpV at *
 split
 ·rename_i hl;rw[if_pos hl]at h;exact h
 ·rename_i hl;rw[if_neg hl]at h
  obtain⟨g,c,cur,fz,h1,h2,h3⟩:=h
  exact⟨g,c,cur,fz,h1,hk g cur fz h2,h3⟩
theorem Bsr.step {B b k m:Nat} {w w':World} (h:Bsr B b k m w) (hb:Below w.heap.size w w'):Bsr B b k m w':=by
 obtain⟨hge,cs,h1,h2,h3,v,h4,h5⟩:=h
 have keep:∀{g:Nat} {o:Obj},w.heap[g]?=some o->w'.heap[g]?=some o:=λhg=>by rw[hb.block _ (Array.getElem?_eq_some_iff.1 hg).1];exact hg
 refine⟨hge,cs,keep h1,h2,λj hj=>?_,v,h4,own_below h5 hb (Nat.le_refl _)⟩
 obtain⟨u,hu,hr⟩:=h3 j hj
 exact⟨u,hu,hr.keep λg cur fz hg=>keep hg⟩
theorem Bsr.named {B b k m:Nat} {w w':World} {v v':Value} {cs:Array Value} (hge:B<=b) (h1:w.heap[b]?=some (Obj.cells cs 279 (0,0))) (h2:cs.size=257) (h3:∀j,j<256->∃v,cs[j]?=some v/\RpV (rpT k j) v w)
  (own:w.ownsRow B 9 1 v m (rpS m)) (own':w'.ownsRow B 9 1 v' (m+1) (rpS (m+1))) (hg:w.grownBy w' v.ownBlock) :
  Bsr B b k (m+1) (w'.setCell ⟨b,256,none⟩ v'):=by
 have keep:∀{g:Nat} {cur:Array Value} {T:TypeId} {fz:Nat × Nat},w.heap[g]?=some (.cells cur T fz)->T≠9->w'.heap[g]?=some (.cells cur T fz):=λhh hT=>by
  rw[hg.block _ (Array.getElem?_eq_some_iff.1 hh).1 (λe=>bE own hh hT e.symm)];exact hh
 have hb':=keep h1 (by decide)
 refine⟨hge,cs.setIfInBounds 256 v',?_,by simpa using h2,λj hj=>?_,v',by simp[h2],?_⟩
 ·simp[World.setCell,Array.getElem?_modify,hb']
 ·obtain⟨u,hu,hr⟩:=h3 j hj
  refine⟨u,?_,hr.keep λg cur fz hh=>?_⟩
  ·rw[Array.getElem?_setIfInBounds,if_neg (by omega)];exact hu
  ·have h0:=keep hh (by decide)
   rw[Below.heap_setCell _ _ _ _ (show g≠b from λe=>?_)]
   ·exact h0
   ·subst e;rw[h1]at hh;injection hh with hh;injection hh with _ hh;revert hh;decide
 ·have hne:=bE own' hb' (by decide)
  refine⟨own'.1,own'.2.imp id ?_⟩
  rintro⟨g,cap,cur,rfl,hB,hh,r⟩
  refine⟨g,cap,cur,rfl,hB,?_,r⟩
  rw[Below.heap_setCell _ _ _ _ (show g≠b from λe=>hne (by simp[Value.ownBlock,e]))]
  exact hh
theorem Bsr.laid {B b k m:Nat} {w:World} (h:Bsr B b k m w) (hk:k<4) {g c:Nat} {cur:Array Value} {fz:Nat × Nat} (hg:w.heap[g]?=some (Obj.cells cur 5 fz))
  (hx:∀(j:Nat) (x:UInt8),(rpX (rpN k).toNat)[j]?=some x->cur[j]?=some (Value.int .u8 (x.toNat:Int))):Bsr B b (k+1) m (w.setCell ⟨b,(rpN k).toNat,none⟩ (.slice (some ⟨g,0,none⟩) 2 c)):=by
 obtain⟨hge,cs,h1,h2,h3,v,h4,h5⟩:=h
 have hn:(rpN k).toNat<256:=UInt8.toNat_lt _
 have hl:(rpX (rpN k).toNat).length=2:=by
  match k,hk with
  | 0,_=>rfl
  | 1,_=>rfl
  | 2,_=>rfl
  | 3,_=>rfl
 have keep:∀{g:Nat} {cur:Array Value} {T:TypeId} {fz:Nat × Nat} {b':Nat} {u:Value},w.heap[g]?=some (.cells cur T fz)->T≠279->(w.setCell ⟨b,b',none⟩ u).heap[g]?=some (.cells cur T fz):=λ{g} _ _ _ _ _ hh hT=>by
  rw[Below.heap_setCell _ _ _ _ (show g≠b from λe=>?_)]
  ·exact hh
  ·subst e;rw[h1]at hh;injection hh with hh;injection hh with _ hh;exact hT hh.symm
 refine⟨hge,cs.setIfInBounds (rpN k).toNat (.slice (some ⟨g,0,none⟩) 2 c),?_,by simpa using h2,λj hj=>?_,v,?_,?_⟩
 ·simp[World.setCell,Array.getElem?_modify,h1]
 ·rw[xx k j hk]
  by_cases e:j=(rpN k).toNat
  ·subst e
   rw[if_pos rfl]
   refine⟨.slice (some ⟨g,0,none⟩) 2 c,by rw[Array.getElem?_setIfInBounds,if_pos rfl,if_pos (by omega)],?_⟩
   unfold RpV
   rw[if_neg (λe=>by rw[e]at hl;cases hl)]
   exact⟨g,c,cur,fz,rfl,keep hg (by decide),hl,hx⟩
  ·rw[if_neg e]
   obtain⟨u,hu,hr⟩:=h3 j hj
   refine⟨u,?_,hr.keep λg cur fz hh=>keep hh (by decide)⟩
   rw[Array.getElem?_setIfInBounds,if_neg (Ne.symm e)];exact hu
 ·rw[Array.getElem?_setIfInBounds,if_neg (by omega)];exact h4
 ·refine⟨h5.1,h5.2.imp id ?_⟩
  rintro⟨g',cap,cur',rfl,hB,hh,r⟩
  exact⟨g',cap,cur',rfl,hB,keep hh (by decide),r⟩
theorem Bsr.low {B b k m:Nat} {w:World} (h:Bsr B b k m w) {j:Nat} (hj:j<256):∃v,w.cell? ⟨b,j,none⟩=some v/\RpV (rpT k j) v w:=by
 obtain⟨_,cs,h1,_,h3,_⟩:=h
 obtain⟨v,hv,hr⟩:=h3 j hj
 exact⟨v,by rw[Lib.cell_of_heap h1];exact hv,hr⟩
theorem Bsr.row {B b k m:Nat} {w:World} (h:Bsr B b k m w):∃v,w.cell? ⟨b,256,none⟩=some v/\w.ownsRow B 9 1 v m (rpS m):=by
 obtain⟨_,cs,h1,_,_,v,hv,ho⟩:=h
 exact⟨v,by rw[Lib.cell_of_heap h1];exact hv,ho⟩
theorem Bsr.fz {B b k m:Nat} {w:World} (h:Bsr B b k m w) (j:Nat):w.frozen? ⟨b,j,none⟩=false:=by
 obtain⟨_,cs,h1,_⟩:=h
 exact Lib.frozen_of_heap h1 j
end Go.Proofs.YtjldjeenfnahoaaGreatDoor
