/- The program's term.writer, walked: a text, written as an IRI -/
import Derived.Test.YtoejnneknpoanaaGreatDoorJUtfProg2b
set_option maxHeartbeats 4000000
set_option maxRecDepth 100000
namespace Go.Proofs.YtoejnneknpoanaaGreatDoor
open Go Go.RowKit Um Fm Tx
theorem ok8_iter {b:Nat} {w wr:World} (h:OK8 b w wr) {k:Nat} (hk:w.heap.size<=k) (s:ByteArray) (pos:Nat):OK8 b w (wr.iterAt k s pos):=λi o hi hb ho=>by
 have hlt:i<w.heap.size:=(Array.getElem?_eq_some_iff.1 hi).1
 exact(Lib.iterAt_other wr k i s pos (by omega)).trans (h i o hi hb ho)
theorem ok8_below {b:Nat} {w w':World} (h:Below w.heap.size w w'):OK8 b w w':=λi o hi _ _=>by
 rw[h.block i (Array.getElem?_eq_some_iff.1 hi).1];exact hi
def CtxT (w:World):Prop:=Ctx w/\TzV w
theorem CtxT.step {w w':World} (h:CtxT w) (hb:Below w.heap.size w w'):CtxT w':=⟨h.1.step hb,h.2.step hb⟩
theorem and15:∀r:Fin 128,bits BinOp.and IntKind.i64 (r.val:Int) 15=((r.val % 16:Nat):Int):=by decide
theorem wIri (w0:World) (hC:CtxT w0) (b:Nat) (acc:List UInt8) (s:ByteArray) (w:World) (hw0:Below w0.heap.size w0 w) (h:WI w0.heap.size b acc w) (hv:validB s=true) (hs:s.size<=1048576) (hlen:acc.length<=50000000) :
  Calls Tryz.prog 146 #[.pointer (some ⟨b,0,none⟩),.string s] w λe w'=>e=.returned (.pointer (some ⟨b,0,none⟩))/\WI w0.heap.size b (acc++iriL s.data.toList) w'/\Below w0.heap.size w w'/\OK8 b w w':=by
 have hBw:=hw0.size
 have hlt0:b<w.heap.size:=h.lt
 have hz:s.data.toList.length=s.size:=size_toList s
 go_enter Tryz.func146,Tryz.ntmps146
 go_wp2
 go_loopg [] s.size (λgk wx=>∃(pos:Nat) (part:List UInt8),Hid (WI w0.heap.size b (acc++part) wx)/\wx.heap[w.heap.size]?=some (.stringIter s pos)/\Below w0.heap.size w wx/\Hid (OK8 b w wx) /\
  Hid (part++iriL (s.data.toList.drop pos)=iriL s.data.toList)/\Hid (Lib.validD (s.data.toList.drop pos)=true)/\part.length<=6*pos/\s.size<=pos+gk/\pos<=s.size)
 case atStart =>
  refine⟨0,[],?_,World.iter_heap w s 0,(Below.refl _ w).alloc hBw _,(Lib.OthersKept.refl _ _ w).alloc _,rfl,hv,by simp,by omega,by omega⟩
  show WI _ _ _ _
  rw[List.append_nil];exact h.alloc _
 case round =>
  obtain⟨pos,part,hW,hit,hB,hO,hpart,hvd,hpl,hfu,hps⟩:=hrel
  have hklt:w.heap.size<wr.heap.size:=(Array.getElem?_eq_some_iff.1 hit).1
  by_cases hlt:pos<s.size
  ·obtain⟨g',rfl⟩:∃g',gk=g'+1:=⟨gk-1,by omega⟩
   have hne:s.data.toList.drop pos≠[]:=by
    intro h0
    have:=congrArg List.length h0
    rw[List.length_drop,hz]at this
    simp at this;omega
   have hst:=iri_step hne hvd.out
   have hnx:∀ty,(Instr.next (.pointer (some ⟨w.heap.size,0,none⟩)) true ty).run Tryz.prog wr=_:=λty=>Lib.run_next_any_at wr w.heap.size s pos ty hit hlt
   have hrn:=Lib.decodeL_rune (s.data.toList.drop pos)
   rw[Lib.decodeL_drop]at hst hrn
   rw[List.drop_drop,List.length_drop,hz]at hst
   generalize hdd:Utf8.decode s pos=dd at *
   obtain⟨r,n⟩:=dd
   simp only at hnx hst hrn
   obtain⟨h1,h2,h3,h4,h5,h6⟩:=hst
   have hit2:=Lib.iterAt_heap wr w.heap.size s pos (pos+n) hit
   have hB2:=Lib.below_iterAt hB (k:=w.heap.size) hBw s (pos+n)
   have hO2:=ok8_iter hO.out (k:=w.heap.size) (Nat.le_refl _) s (pos+n)
   have hW2:WI w0.heap.size b (acc++part) (wr.iterAt w.heap.size s (pos+n)):=WIs.iterAt hW.out hit (pos+n)
   have hp2:(part++iriR r)++iriL (s.data.toList.drop (pos+n))=iriL s.data.toList:=by rw[List.append_assoc,←h1];exact hpart.out
   have hal:(acc++part).length<=100000000:=by rw[List.length_append];omega
   have hpl2:(part++iriR r).length<=6*(pos+n):=by rw[List.length_append];omega
   obtain⟨W,hWd⟩:∃W,wr.iterAt w.heap.size s (pos+n)=W:=⟨_,rfl⟩
   rw[hWd]at hnx hit2 hB2 hO2 hW2
   have hrw:=utfRaw (r:Int) W (hC.step (hw0.trans hB2)).1
   have HW2:=Lib.hid hW2
   have HO2:=Lib.hid hO2
   have Hp2:=Lib.hid hp2
   have H3:=Lib.hid h3
   have hBW:w0.heap.size<=W.heap.size:=Nat.le_trans hBw hB2.size
   have hkW:w.heap.size<W.heap.size:=(Array.getElem?_eq_some_iff.1 hit2).1
   clear hit hB hO hW hpart hvd hdd hWd h1 h3 hpl hW2 hO2 hp2 hne
   cases hr:rawB (r:Int)
   ·have h128:=h2 hr
    rw[hr]at hrw
    have hi:iriR r=[92,117,48,48,hxD (r / 16),hxD (r % 16)]:=by unfold iriR;rw[hr];rfl
    rw[hi]at Hp2 hpl2
    have ha15:=and15 ⟨r,h128⟩
    simp only at ha15
    have hf1:=λW' hb=>fmtInt (r / 16) (by omega) W' ((hC.step (hw0.trans hB2)).step hb).2
    have hf2:=λW' hb=>fmtInt (r % 16) (by omega) W' ((hC.step (hw0.trans hB2)).step hb).2
    rw[show ((r / 16:Nat):Int)=(r:Int) / 16 from by omega]at hf1
    rw[show ((r % 16:Nat):Int)=(r:Int) % 16 from by omega]at hf2 ha15
    have hu1:=λW'=>upDig (r / 16) (by omega) W'
    have hu2:=λW'=>upDig (r % 16) (by omega) W'
    have HI2:=Lib.hid hit2
    clear hi hr h2 hit2
    go_wp2_with (first|(go_at_call 180;refine hrw.mono ?_;rintro e w2 ⟨rfl,rfl⟩))
    refine(hf1 _ (Below.refl _ _)).mono ?_
    rintro e w2 ⟨rfl,c1⟩
    go_wp2_with (go_at_call 182;refine(hu1 _).mono ?_;rintro e w3 ⟨rfl,c2⟩)
    have c3:=below_tr c1 c2
    refine(hf2 _ c3).mono ?_
    rintro e w4 ⟨rfl,c4⟩
    go_wp2_with (go_at_call 182;refine(hu2 _).mono ?_;rintro e w5 ⟨rfl,c5⟩)
    have c6:=below_tr c3 (below_tr c4 c5)
    have c7:Below W.heap.size W (w5.alloc (.cells #[.string ⟨#[92,117,48,48]⟩,.string ⟨#[hxD (r / 16)]⟩,.string ⟨#[hxD (r % 16)]⟩] 9)):=c6.alloc c6.size _
    have hbW:b<W.heap.size:=WIs.lt HW2.out
    have hzW:=c6.size
    have hpc:=wPieces w0.heap.size b w5.heap.size (acc++part) [⟨#[92,117,48,48]⟩,⟨#[hxD (r / 16)]⟩,⟨#[hxD (r % 16)]⟩] 3 _ (WIs.step HW2.out c7) (heap_alloc_new w5 _) (by omega) (by simp) (by omega)
     (by intro x hx;simp at hx;rcases hx with rfl|rfl|rfl<;>simp[ByteArray.size]) (Nat.le_trans hBW c7.size)
    refine hpc.mono ?_
    rintro e w6 ⟨rfl,k1,k2,k3⟩
    have e1:(acc++part)++List.flatMap (λs:ByteArray=>s.data.toList) [⟨#[92,117,48,48]⟩,⟨#[hxD (r / 16)]⟩,⟨#[hxD (r % 16)]⟩]=acc++(part++[92,117,48,48,hxD (r / 16),hxD (r % 16)]):=by rw[List.append_assoc];rfl
    rw[e1]at k1
    have hit6:=Lib.OthersKept.iter ((ok8_below (b:=b) c7).trans k3) HI2.out (by omega)
    have hB6:=(hB2.trans (c7.mono hBW)).trans k2
    clear hpc hu1 hu2 hf1 hf2 c1 c2 c3 c4 c5 c6
    go_wp2
    go_roundg g'
    case measure=>omega
    case rel=>exact⟨pos+n,part++[92,117,48,48,hxD (r / 16),hxD (r % 16)],k1,hit6,hB6,HO2.out.trans ((ok8_below c7).trans k3),Hp2.out,H3.out,hpl2,by omega,by omega⟩
   ·rw[hr]at hrw
    have hi:iriR r=Lib.encodeRune (r:Int):=by unfold iriR;rw[hr];rfl
    rw[hi]at Hp2 hpl2
    have hww:=wWriteRune w0.heap.size b (acc++part) r hrn W HW2.out (by omega) hBW
    rw[List.append_assoc]at hww
    have hit3:=λw2 (hk:OK8 b W w2)=>Lib.OthersKept.iter hk hit2 (by omega)
    clear hi hr h2 hit2 HW2
    go_wp2_with (first|(go_at_call 180;refine hrw.mono ?_;rintro e w2 ⟨rfl,rfl⟩)|(go_at_call 181;refine hww.mono ?_;rintro e w2 ⟨⟨u,rfl⟩,k1,k2,k3⟩))
    go_roundg g'
    case measure=>omega
    case rel=>exact⟨pos+n,part++Lib.encodeRune (r:Int),k1,hit3 _ k3,hB2.trans k2,HO2.out.trans k3,Hp2.out,H3.out,hpl2,by omega,by omega⟩
  ·have hnx:∀ty,(Instr.next (.pointer (some ⟨w.heap.size,0,none⟩)) true ty).run Tryz.prog wr=_:=λty=>Lib.run_next_end_at wr w.heap.size s pos ty hit hlt
   have hpe:part=iriL s.data.toList:=by
    have:=hpart.out
    rw[List.drop_eq_nil_of_le (by rw[hz];omega),iriL_nil,List.append_nil]at this
    exact this
   rw[hpe]at hW
   clear hpe hpart hvd hit
   go_wp2
   go_ret
   exact⟨rfl,hW.out,hB,hO.out⟩
theorem onDisable (w:World):(callFunc 302 #[]).run Tryz.prog w=.ok (.value (.tuple #[])) w:=run_call_mark0 Tryz.func302 (by kernel_rfl) (by kernel_rfl) (by kernel_rfl) .disable (by kernel_rfl) w
theorem onEnable (w:World):(callFunc 304 #[]).run Tryz.prog w=.ok (.value (.tuple #[])) w:=run_call_mark0 Tryz.func304 (by kernel_rfl) (by kernel_rfl) (by kernel_rfl) .enable (by kernel_rfl) w
theorem onAcquire (a:Addr) (w:World):(callFunc 305 #[.pointer (some a)]).run Tryz.prog w=.ok (.value (.tuple #[])) w:=run_call_marked Tryz.func305 (by kernel_rfl) (by kernel_rfl) (by kernel_rfl) .acquire (by kernel_rfl) a w
theorem onRelease (a:Addr) (w:World):(callFunc 307 #[.pointer (some a)]).run Tryz.prog w=.ok (.value (.tuple #[])) w:=run_call_marked Tryz.func307 (by kernel_rfl) (by kernel_rfl) (by kernel_rfl) .releaseMerge (by kernel_rfl) a w
theorem onStore (a:Addr) (x:Value) (u:FrameMode) (w:World) (hc:w.cell? a=some x) (hz:w.frozen? a=false) :
  CallsD Tryz.prog 260 #[.pointer (some a),.bool true] u w λe u' w'=>u'=u/\(e=.returned (.tuple #[])/\w'=w.drew.setCell a (.int .u32 1)):=by
 have hc':w.drew.cell? a=some x:=by go_simp
 have hz':w.drew.frozen? a=false:=by go_simp
 have hst:=run_call_store (P:=Tryz.prog) Tryz.func286 (by kernel_rfl) (by kernel_rfl) (by kernel_rfl) (by kernel_rfl) (k:=.u32) (y:=1) hc' hz'
 go_enter_d Tryz.func260,Tryz.ntmps260
 go_wp2
 go_region_calls
 all_goals (go_end0;exact⟨rfl,rfl⟩)
theorem onUnlock (a:Addr) (u:FrameMode) (w:World) (hc:w.cell? a=some (.int .i32 1)) (hz:w.frozen? a=false) :
  CallsD Tryz.prog 259 #[.pointer (some a)] u w λe u' w'=>u'=u/\(e=.returned (.tuple #[])/\w'=w.setCell a (.int .i32 0)):=by
 have hd:=onDisable
 have he:=onEnable
 have hr:=onRelease
 have hadd:=run_call_add (P:=Tryz.prog) Tryz.func308 (by kernel_rfl) (by kernel_rfl) (by kernel_rfl) .i32 (by kernel_rfl) (y:=-1) (s:=0) hc hz (by simp[go_sem];rfl)
 have hcv:=run_convert_to_unsafe (P:=Tryz.prog) (src:=328) (dst:=232) Tryz.underlying328 Tryz.underlying232 (by kernel_rfl) hc
 go_enter_d Tryz.func259,Tryz.ntmps259
 go_wp2
 go_end0
 exact⟨rfl,rfl⟩
theorem onLock (a:Addr) (w:World) (hc:w.cell? a=some (.int .i32 0)) (hz:w.frozen? a=false) :
  Calls Tryz.prog 258 #[.pointer (some a)] w λe w'=>e=.returned (.tuple #[])/\w'=w.setCell a (.int .i32 1):=by
 have hd:=onDisable
 have he:=onEnable
 have ha:=onAcquire
 have hcas:=run_call_cas_hit (P:=Tryz.prog) Tryz.func303 (by kernel_rfl) (by kernel_rfl) (by kernel_rfl) .i32 (by kernel_rfl) (y:=1) hc hz
 have hc':(w.setCell a (.int .i32 1)).cell? a=some (.int .i32 1):=World.cell?_setCell_same w a _ hc
 have hcv:=run_convert_to_unsafe (P:=Tryz.prog) (src:=328) (dst:=232) Tryz.underlying328 Tryz.underlying232 (by kernel_rfl) hc'
 go_enter Tryz.func258,Tryz.ntmps258
 go_wp2
 first|go_end0|(simp only[Exit.inBlock,Exit.then];refine bodyPost_ret (results_none rfl _ _ _) rfl ?_)|refine bodyPost_ret (results_none rfl _ _ _) rfl ?_
 exact⟨rfl,rfl⟩
def onDone (b off:Nat) (W2:World):World:=(W2.drew.setCell ⟨b,off,none⟩ (.int .u32 1)).setCell ⟨b,off+1,none⟩ (.int .i32 0)
theorem onSlow (b off fn:Nat) (x:Value) (w:World) (efn:∀args W,(callFunc fn args).run Tryz.prog W=.ok (.enter fn args) W)
  (h0:w.cell? ⟨b,off,none⟩=some (.int .u32 0)) (h1:w.cell? ⟨b,off+1,none⟩=some (.int .i32 0))
  (_f0:w.frozen? ⟨b,off,none⟩=false) (f1:w.frozen? ⟨b,off+1,none⟩=false)
  {Q:World->Prop} (hQ:∀W,Q W->W.cell? ⟨b,off,none⟩=some (.int .u32 0)/\W.cell? ⟨b,off+1,none⟩=some (.int .i32 1)/\W.frozen? ⟨b,off,none⟩=false/\W.frozen? ⟨b,off+1,none⟩=false)
  (hf:Calls Tryz.prog fn #[x] (w.setCell ⟨b,off+1,none⟩ (.int .i32 1)) λe w'=>e=.returned (.tuple #[])/\Q w') :
  Calls Tryz.prog 225 #[.pointer (some ⟨b,off,none⟩),.func (.func fn) #[x] #[]] w λe w'=>e=.returned (.tuple #[])/\∃W2,Q W2/\w'=onDone b off W2:=by
 have hl:=run_call_load (P:=Tryz.prog) Tryz.func257 (by kernel_rfl) (by kernel_rfl) (by kernel_rfl) .u32 (by kernel_rfl) (w:=w.setCell ⟨b,off+1,none⟩ (.int .i32 1)) (a:=⟨b,off,none⟩) (x:=0) ((World.cell?_setCell_other _ ⟨b,off+1,none⟩ ⟨b,off,none⟩ _ (by simp)).trans h0)
 have hnot:∀(x:Bool) (w:World),(Op.unary .not (.bool x)).run Tryz.prog w=.ok (.bool (!x)) w:=λ_ _=>rfl
 go_enter_defers Tryz.func225,Tryz.ntmps225
 go_wp2_with (first|(go_at_call 258;refine(onLock ⟨b,off+1,none⟩ _ (by go_simp) (by go_simp)).mono ?_;rintro e w' ⟨rfl,rfl⟩)|(go_at_call 224;go_in)|(go_at_fn fn;refine hf.mono ?_;rintro e W2 ⟨rfl,hq⟩))
 obtain⟨q0,q1,z0,z1⟩:=hQ _ hq
 refine leaves_cons (f:=260) (args:=#[.pointer (some ⟨b,off,none⟩),.bool true]) (by simp) (by simp[go_sem]) ?_
 refine(onStore ⟨b,off,none⟩ (.int .u32 0) .returning _ q0 z0).mono ?_
 rintro e u' w'' ⟨rfl,rfl,rfl⟩
 refine leaves_cons (f:=259) (args:=#[.pointer (some ⟨b,off+1,none⟩)]) (by simp[settle]) (by simp[go_sem]) ?_
 refine(onUnlock ⟨b,off+1,none⟩ _ _ ?_ (by simp[z1])).mono ?_
 ·refine(World.cell?_setCell_other _ ⟨b,off,none⟩ ⟨b,off+1,none⟩ _ (by simp)).trans ?_
  rw[World.cell?_drew]
  exact q1
 rintro e u' w'' ⟨rfl,rfl,rfl⟩
 simp only[Leaves,settle,results,Tryz.results225]
 refine⟨_,by simp[go_sem],rfl,W2,hq,rfl⟩
theorem onDo (b off fn:Nat) (x:Value) (w:World) (efn:∀args W,(callFunc fn args).run Tryz.prog W=.ok (.enter fn args) W)
  (h0:w.cell? ⟨b,off,none⟩=some (.int .u32 0)) (h1:w.cell? ⟨b,off+1,none⟩=some (.int .i32 0))
  (f0:w.frozen? ⟨b,off,none⟩=false) (f1:w.frozen? ⟨b,off+1,none⟩=false)
  {Q:World->Prop} (hQ:∀W,Q W->W.cell? ⟨b,off,none⟩=some (.int .u32 0)/\W.cell? ⟨b,off+1,none⟩=some (.int .i32 1)/\W.frozen? ⟨b,off,none⟩=false/\W.frozen? ⟨b,off+1,none⟩=false)
  (hf:Calls Tryz.prog fn #[x] (w.setCell ⟨b,off+1,none⟩ (.int .i32 1)) λe w'=>e=.returned (.tuple #[])/\Q w') :
  Calls Tryz.prog 185 #[.pointer (some ⟨b,off,none⟩),.func (.func fn) #[x] #[]] w λe w'=>e=.returned (.tuple #[])/\∃W2,Q W2/\w'=onDone b off W2:=by
 have hl:=run_call_load (P:=Tryz.prog) Tryz.func257 (by kernel_rfl) (by kernel_rfl) (by kernel_rfl) .u32 (by kernel_rfl) h0
 have hnot:∀(x:Bool) (w:World),(Op.unary .not (.bool x)).run Tryz.prog w=.ok (.bool (!x)) w:=λ_ _=>rfl
 have hs:=onSlow b off fn x w efn h0 h1 f0 f1 hQ hf
 clear hQ hf efn
 go_enter Tryz.func185,Tryz.ntmps185
 go_wp2_with (first|(go_at_call 225;refine hs.mono ?_;rintro e w' ⟨rfl,hw⟩)|(go_at_call 224;go_in))
 go_end0
 exact⟨rfl,hw⟩
end Go.Proofs.YtoejnneknpoanaaGreatDoor
