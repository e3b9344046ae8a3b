/- strconv.FormatInt of one digit of base 16; strings.ToUpper o -/
import Derived.Test.YtoaemihcbmlkgaaGreatDoorJWr2
set_option maxHeartbeats 4000000
set_option maxRecDepth 100000
namespace Go.Proofs.YtoaemihcbmlkgaaGreatDoor
open Go Go.RowKit Um Fm Tx
def hxd (d:Nat):UInt8:=if d<10 then UInt8.ofNat (48+d) else UInt8.ofNat (87+d)
def TzV (w:World):Prop:=w.cell? ⟨6,15,none⟩=some (.int .u8 4)
theorem TzV.step {w w':World} (h:TzV w) (hb:Below w.heap.size w w'):TzV w':=by
 unfold TzV at *
 rw[hb.cell (cell_lt h)];exact h
theorem tz64 (w:World) (hT:TzV w):Calls Tryz.prog 291 #[.int .u64 16] w λe w'=>e=.returned (.int .i64 4)/\w=w':=by
 have hT':w.cell? ⟨6,15,none⟩=some (.int .u8 4):=hT
 have key:IntKind.u64.wrap (bits BinOp.and IntKind.u64 16 (IntKind.u64.wrap (-16))*285870213051353865) / 288230376151711744=15:=by decide
 clear hT
 go_enter Tryz.func291,Tryz.ntmps291
 go_wp2
 go_ret
 exact⟨rfl,rfl⟩
theorem tz (w:World) (hT:TzV w):Calls Tryz.prog 273 #[.int .u64 16] w λe w'=>e=.returned (.int .i64 4)/\w=w':=by
 have h:=tz64 w hT
 go_enter Tryz.func273,Tryz.ntmps273
 go_wp2_with (go_at_call 291;refine h.mono ?_;rintro e w2 ⟨rfl,rfl⟩)
 go_ret
 exact⟨rfl,rfl⟩
theorem isPow (w:World):Calls Tryz.prog 272 #[.int .i64 16] w λe w'=>e=.returned (.bool true)/\w=w':=by
 have key:bits BinOp.and IntKind.i64 16 15=0:=by decide
 go_enter Tryz.func272,Tryz.ntmps272
 go_wp2
 go_ret
 exact⟨rfl,rfl⟩
abbrev digS:ByteArray:=⟨#[48,49,50,51,52,53,54,55,56,57,97,98,99,100,101,102,103,104,105,106,107,108,109,110,111,112,113,114,115,116,117,118,119,120,121,122]⟩
theorem dig_str:∀d:Fin 16,strOfNums [(bn digS d.val:Int)]=⟨#[hxd d.val]⟩:=by decide
theorem fmtBits (d:Nat) (hd:d<16) (w:World) (hT:TzV w):Calls Tryz.prog 247 #[.slice none 0 0,.int .u64 d,.int .i64 16,.bool false,.bool false] w λe w'=>e=.returned (.tuple #[.slice none 0 0,.string ⟨#[hxd d]⟩])/\Below w.heap.size w w':=by
 have hp:=isPow
 have ht:=λW hb=>tz W (hT.step hb)
 clear hT
 go_enter Tryz.func247,Tryz.ntmps247
 go_wp2_with (first|(go_at_call 272;refine(hp _).mono ?_;rintro e w2 ⟨rfl,rfl⟩)|(go_at_call 273;refine(ht _ blw).mono ?_;rintro e w2 ⟨rfl,rfl⟩))
 have hrd:Rd (w.alloc (.cells ((Array.replicate 65 (.int .u8 0)).setIfInBounds 64 (.int .u8 (bn digS d))) 351)) (some ⟨w.heap.size,64,none⟩) ([(bn digS d:Int)].map (Value.int .u8)):=by
  refine .inr ⟨w.heap.size,64,rfl,λj u hu=>?_⟩
  cases j with
  | succ j=>simp at hu
  | zero =>
   simp only[List.map_cons,List.map_nil,List.getElem?_cons_zero,Option.some.injEq]at hu
   subst hu
   rw[Lib.cell_of_heap (heap_alloc_new w _)]
   simp
 have hcs:=run_conv_bytes (P:=Tryz.prog) (n:=1) (c:=1) 163 9 5 Tryz.underlying163 Tryz.underlying5 Tryz.underlying9 hrd rfl
 have hst:strOfNums [(bn digS d:Int)]=⟨#[hxd d]⟩:=dig_str ⟨d,hd⟩
 rw[hst]at hcs
 clear hst hrd
 have hB:Below w.heap.size w (w.alloc (.cells ((Array.replicate 65 (.int .u8 0)).setIfInBounds 64 (.int .u8 (bn digS d))) 351)):=blw
 have HB:=Lib.hid hB
 clear hB
 go_loopw [1,13] (λu i wr=>u=.int .u64 d/\i=.int .i64 65/\wr=w.alloc (.cells (Array.replicate 65 (.int .u8 0)) 351)) (λ_ _ _=>0)
 case atStart=>exact⟨rfl,rfl,rfl⟩
 case round =>
  obtain⟨rfl,rfl,rfl⟩:=hrel
  go_wp2
  go_ret2
  exact⟨rfl,HB.out⟩
theorem fmtInt (d:Nat) (hd:d<16) (w:World) (hT:TzV w):Calls Tryz.prog 156 #[.int .i64 d,.int .i64 16] w λe w'=>e=.returned (.string ⟨#[hxd d]⟩)/\Below w.heap.size w w':=by
 have h1:=fmtBits d hd w hT
 have h2:Calls Tryz.prog 206 #[.int .i64 d,.int .i64 16] w λe w'=>e=.returned (.string ⟨#[hxd d]⟩)/\Below w.heap.size w w':=by
  go_enter Tryz.func206,Tryz.ntmps206
  go_wp2_with (go_at_call 247;refine h1.mono ?_;rintro e w2 ⟨rfl,hb⟩)
  go_ret
  exact⟨rfl,hb⟩
 clear h1
 go_enter Tryz.func156,Tryz.ntmps156
 go_wp2_with (go_at_call 206;refine h2.mono ?_;rintro e w2 ⟨rfl,hb⟩)
 go_ret
 exact⟨rfl,hb⟩
theorem upper_dig:∀d:Fin 16,(hxd d.val).toNat<128/\Lib.toUpperA [hxd d.val]=[hxD d.val]:=by decide
theorem upDig (d:Nat) (hd:d<16) (w:World):Calls Tryz.prog 155 #[.string ⟨#[hxd d]⟩] w λe w'=>e=.returned (.string ⟨#[hxD d]⟩)/\Below w.heap.size w w':=by
 obtain⟨h1,h2⟩:=upper_dig ⟨d,hd⟩
 have h:=Tryz.strings_ToUpper_ascii ⟨#[hxd d]⟩ w (by show 1<=_;omega) (by
  intro j b hj
  cases j with
  | zero=>simp at hj;subst hj;exact h1
  | succ j=>simp at hj)
 rw[h2]at h
 exact h
theorem validRune_isB (n:Int) (h0:0<=n) (h1:n<=1114111):Lib.validRune n=isB n:=by
 simp[Lib.validRune,isB,h0,h1]
theorem utfIs (n:Int) (w:World) :
  Calls Tryz.prog 202 #[.int .i64 n] w λe w'=>e=.returned (.bool (isB n))/\w=w':=by
 have hv:=λW=>Tryz.utf8_ValidRune n W
 by_cases h0:0<=n
 ·by_cases h1:n<=1114111
  ·rw[validRune_isB n h0 h1]at hv
   generalize isB n=q at hv
   go_enter Tryz.func202,Tryz.ntmps202
   go_wp2_with (go_at_call 240;refine(hv _).mono ?_;rintro e w1 ⟨rfl,rfl⟩)
   go_ret
   exact⟨rfl,rfl⟩
  ·have hi:isB n=false:=by simp[isB];omega
   rw[hi]
   clear hi hv
   go_enter Tryz.func202,Tryz.ntmps202
   go_wp2
   go_ret
   exact⟨rfl,rfl⟩
 ·have hi:isB n=false:=by simp[isB];omega
  rw[hi]
  clear hi hv
  go_enter Tryz.func202,Tryz.ntmps202
  go_wp2
  go_ret
  exact⟨rfl,rfl⟩
theorem encode_enc (n:Int) (h:isB n=true):(Utf8.encode n).data.toList=Lib.encodeRune n:=by
 rw[isB_iff]at h
 have hv:Utf8.valid n=true:=by simp[Utf8.valid];omega
 unfold Utf8.encode
 simp only[hv,if_true]
 by_cases c1:n<=127
 ·rw[if_pos (by omega)]
  unfold Lib.encodeRune
  rw[Lib.encodeRuneZ_one (by omega) c1]
  simp[Nat.toUInt8]
 ·rw[if_neg (by omega)]
  by_cases c2:n<=2047
  ·rw[if_pos (by omega)]
   unfold Lib.encodeRune
   rw[Lib.encodeRuneZ_two (by omega) c2]
   simp only[List.map_cons,List.map_nil]
   rw[show (192+n / 64).toNat=192+n.toNat / 64 by omega,show (128+n % 64).toNat=128+n.toNat % 64 by omega]
  ·rw[if_neg (by omega)]
   by_cases c3:n<=65535
   ·rw[if_pos (by omega)]
    unfold Lib.encodeRune
    rw[Lib.encodeRuneZ_three (by omega)]
    simp only[List.map_cons,List.map_nil]
    rw[show (224+n / 4096).toNat=224+n.toNat / 4096 by omega,show (128+n / 64 % 64).toNat=128+n.toNat / 64 % 64 by omega,show (128+n % 64).toNat=128+n.toNat % 64 by omega]
   ·rw[if_neg (by omega)]
    unfold Lib.encodeRune
    rw[Lib.encodeRuneZ_four (by omega) (by omega)]
    simp only[List.map_cons,List.map_nil]
    rw[show (240+n / 262144).toNat=240+n.toNat / 262144 by omega,show (128+n / 4096 % 64).toNat=128+n.toNat / 4096 % 64 by omega,show (128+n / 64 % 64).toNat=128+n.toNat / 64 % 64 by omega,show (128+n % 64).toNat=128+n.toNat % 64 by omega]
theorem contains_head (s t:List UInt8) (b:UInt8) (h:s.contains b=false):Lib.contains s (b::t)=false:=by
 have:Lib.index s (b::t) = -1:=by
  refine Lib.index_none λj _=>?_
  unfold Lib.occAt
  cases hd:s.drop j with
  | nil=>rfl
  | cons c l =>
   have hc:c∈s:=List.mem_of_mem_drop (i:=j) (by rw[hd];exact List.mem_cons_self)
   have hne:(b == c)=false:=by
    cases hbc:b == c with
    | false=>rfl
    | true =>
     have:b=c:=by simpa using hbc
     subst this
     have:s.contains b=true:=by simpa using hc
     rw[this]at h;cases h
   show ((b == c) && t.isPrefixOf l)=false
   rw[hne];rfl
 unfold Lib.contains
 rw[this];rfl
def badU:List UInt8:=[60,62,34,123,125,124,94,96,92]
theorem badS_badU:badS.data.toList=badU:=rfl
theorem bad_low:∀n:Fin 128,Lib.contains badU [n.val.toUInt8]=badL.contains (n.val:Int):=by decide
theorem bad_contains (n:Int) (h:isB n=true):Lib.contains badU (Lib.encodeRune n)=badL.contains n:=by
 rw[isB_iff]at h
 by_cases c1:n<=127
 ·unfold Lib.encodeRune
  rw[Lib.encodeRuneZ_one (by omega) c1]
  have:=bad_low ⟨n.toNat,by omega⟩
  rw[show (((⟨n.toNat,by omega⟩:Fin 128).val:Nat):Int)=n by show ((n.toNat:Nat):Int)=n;omega]at this
  exact this
 ·have hb:badL.contains n=false:=by
   simp[badL];omega
  rw[hb]
  have hd:∃(b:UInt8) (t:List UInt8),Lib.encodeRune n=b::t/\128<=b.toNat:=by
   unfold Lib.encodeRune
   by_cases c2:n<=2047
   ·rw[Lib.encodeRuneZ_two (by omega) c2];exact⟨_,_,rfl,by simp;omega⟩
   ·by_cases c3:n<=65535
    ·rw[Lib.encodeRuneZ_three (by omega)];exact⟨_,_,rfl,by simp;omega⟩
    ·rw[Lib.encodeRuneZ_four (by omega) (by omega)];exact⟨_,_,rfl,by simp;omega⟩
  obtain⟨b,t,he,hb2⟩:=hd
  rw[he]
  apply contains_head
  simp only[badU]
  cases hc:List.contains [60,62,34,123,125,124,94,96,92] b with
  | false=>rfl
  | true =>
   exfalso
   simp at hc
   rcases hc with h|h|h|h|h|h|h|h|h<;>(subst h;revert hb2;decide)
theorem utfRaw (n:Int) (w:World) (hC:Ctx w) :
  Calls Tryz.prog 153 #[.int .i64 n] w λe w'=>e=.returned (.bool (rawB n))/\w=w':=by
 obtain⟨m,hm⟩:=hC.maxl
 have his:=utfIs n w
 have hsc:=λt=>Tryz.strings_Contains badS t m w (by decide) hm
 clear hC
 by_cases h1:32<n
 ·by_cases h2:isB n=true
  ·have hr:rawB n = !badL.contains n:=by simp[rawB,h1,h2]
   rw[hr]
   replace hsc:=hsc (Utf8.encode n)
   rw[encode_enc n h2,badS_badU,bad_contains n h2]at hsc
   rw[h2]at his
   rw[isB_iff]at h2
   obtain⟨⟨h3,h4⟩,h5⟩:=h2
   clear hr hm h5
   generalize badL.contains n=q at hsc
   unfold badS at hsc
   go_enter Tryz.func153,Tryz.ntmps153
   go_wp2_with (first
    | (go_at_call 202;refine his.mono ?_;rintro e w1 ⟨rfl,rfl⟩)
    | (go_at_call 203;refine hsc.mono ?_;rintro e w1 ⟨rfl,rfl⟩))
   go_ret
   exact⟨rfl,rfl⟩
  ·have h2:isB n=false:=by simpa using h2
   have hr:rawB n=false:=by simp[rawB,h2]
   rw[hr]
   rw[h2]at his
   clear hr hm hsc h2
   go_enter Tryz.func153,Tryz.ntmps153
   go_wp2_with (go_at_call 202;refine his.mono ?_;rintro e w1 ⟨rfl,rfl⟩)
   go_ret
   exact⟨rfl,rfl⟩
 ·have hr:rawB n=false:=by simp[rawB];omega
  rw[hr]
  clear hr hm hsc his
  go_enter Tryz.func153,Tryz.ntmps153
  go_wp2
  go_ret
  exact⟨rfl,rfl⟩
theorem ok8_iter {b:Nat} {w wr:World} (h:OK8 b w wr) {k:Nat} (hk:w.heap.size<=k) (s:ByteArray) (pos:Nat):OK8 b w (wr.iterAt k s pos):=λi o hi hb ho=>by
 have hlt:i<w.heap.size:=(Array.getElem?_eq_some_iff.1 hi).1
 exact(Lib.iterAt_other wr k i s pos (by omega)).trans (h i o hi hb ho)
theorem ok8_below {b:Nat} {w w':World} (h:Below w.heap.size w w'):OK8 b w w':=λi o hi _ _=>by
 rw[h.block i (Array.getElem?_eq_some_iff.1 hi).1];exact hi
def CtxT (w:World):Prop:=Ctx w/\TzV w
theorem CtxT.step {w w':World} (h:CtxT w) (hb:Below w.heap.size w w'):CtxT w':=⟨h.1.step hb,h.2.step hb⟩
theorem and15:∀r:Fin 128,bits BinOp.and IntKind.i64 (r.val:Int) 15=((r.val % 16:Nat):Int):=by decide
theorem wIri (w0:World) (hC:CtxT w0) (b:Nat) (acc:List UInt8) (s:ByteArray) (w:World) (hw0:Below w0.heap.size w0 w) (h:WI w0.heap.size b acc w) (hv:validB s=true) (hs:s.size<=1048576) (hlen:acc.length<=50000000) :
  Calls Tryz.prog 101 #[.pointer (some ⟨b,0,none⟩),.string s] w λe w'=>e=.returned (.pointer (some ⟨b,0,none⟩))/\WI w0.heap.size b (acc++iriL s.data.toList) w'/\Below w0.heap.size w w'/\OK8 b w w':=by
 have hBw:=hw0.size
 have hlt0:b<w.heap.size:=h.lt
 have hz:s.data.toList.length=s.size:=size_toList s
 go_enter Tryz.func101,Tryz.ntmps101
 go_wp2
 go_loopg [] s.size (λgk wx=>∃(pos:Nat) (part:List UInt8),Hid (WI w0.heap.size b (acc++part) wx)/\wx.heap[w.heap.size]?=some (.stringIter s pos)/\Below w0.heap.size w wx/\Hid (OK8 b w wx) /\
  Hid (part++iriL (s.data.toList.drop pos)=iriL s.data.toList)/\Hid (Lib.validD (s.data.toList.drop pos)=true)/\part.length<=6*pos/\s.size<=pos+gk/\pos<=s.size)
 case atStart =>
  refine⟨0,[],?_,World.iter_heap w s 0,(Below.refl _ w).alloc hBw _,(Lib.OthersKept.refl _ _ w).alloc _,rfl,hv,by simp,by omega,by omega⟩
  show WI _ _ _ _
  rw[List.append_nil];exact h.alloc _
 case round =>
  obtain⟨pos,part,hW,hit,hB,hO,hpart,hvd,hpl,hfu,hps⟩:=hrel
  have hklt:w.heap.size<wr.heap.size:=(Array.getElem?_eq_some_iff.1 hit).1
  by_cases hlt:pos<s.size
  ·obtain⟨g',rfl⟩:∃g',gk=g'+1:=⟨gk-1,by omega⟩
   have hne:s.data.toList.drop pos≠[]:=by
    intro h0
    have:=congrArg List.length h0
    rw[List.length_drop,hz]at this
    simp at this;omega
   have hst:=iri_step hne hvd.out
   have hnx:∀ty,(Instr.next (.pointer (some ⟨w.heap.size,0,none⟩)) true ty).run Tryz.prog wr=_:=λty=>Lib.run_next_any_at wr w.heap.size s pos ty hit hlt
   have hrn:=Lib.decodeL_rune (s.data.toList.drop pos)
   rw[Lib.decodeL_drop]at hst hrn
   rw[List.drop_drop,List.length_drop,hz]at hst
   generalize hdd:Utf8.decode s pos=dd at *
   obtain⟨r,n⟩:=dd
   simp only at hnx hst hrn
   obtain⟨h1,h2,h3,h4,h5,h6⟩:=hst
   have hit2:=Lib.iterAt_heap wr w.heap.size s pos (pos+n) hit
   have hB2:=Lib.below_iterAt hB (k:=w.heap.size) hBw s (pos+n)
   have hO2:=ok8_iter hO.out (k:=w.heap.size) (Nat.le_refl _) s (pos+n)
   have hW2:WI w0.heap.size b (acc++part) (wr.iterAt w.heap.size s (pos+n)):=WIs.iterAt hW.out hit (pos+n)
   have hp2:(part++iriR r)++iriL (s.data.toList.drop (pos+n))=iriL s.data.toList:=by rw[List.append_assoc,←h1];exact hpart.out
   have hal:(acc++part).length<=100000000:=by rw[List.length_append];omega
   have hpl2:(part++iriR r).length<=6*(pos+n):=by rw[List.length_append];omega
   obtain⟨W,hWd⟩:∃W,wr.iterAt w.heap.size s (pos+n)=W:=⟨_,rfl⟩
   rw[hWd]at hnx hit2 hB2 hO2 hW2
   have hrw:=utfRaw (r:Int) W (hC.step (hw0.trans hB2)).1
   have HW2:=Lib.hid hW2
   have HO2:=Lib.hid hO2
   have Hp2:=Lib.hid hp2
   have H3:=Lib.hid h3
   have hBW:w0.heap.size<=W.heap.size:=Nat.le_trans hBw hB2.size
   have hkW:w.heap.size<W.heap.size:=(Array.getElem?_eq_some_iff.1 hit2).1
   clear hit hB hO hW hpart hvd hdd hWd h1 h3 hpl hW2 hO2 hp2 hne
   cases hr:rawB (r:Int)
   ·have h128:=h2 hr
    rw[hr]at hrw
    have hi:iriR r=[92,117,48,48,hxD (r / 16),hxD (r % 16)]:=by unfold iriR;rw[hr];rfl
    rw[hi]at Hp2 hpl2
    have ha15:=and15 ⟨r,h128⟩
    simp only at ha15
    have hf1:=λW' hb=>fmtInt (r / 16) (by omega) W' ((hC.step (hw0.trans hB2)).step hb).2
    have hf2:=λW' hb=>fmtInt (r % 16) (by omega) W' ((hC.step (hw0.trans hB2)).step hb).2
    rw[show ((r / 16:Nat):Int)=(r:Int) / 16 from by omega]at hf1
    rw[show ((r % 16:Nat):Int)=(r:Int) % 16 from by omega]at hf2 ha15
    have hu1:=λW'=>upDig (r / 16) (by omega) W'
    have hu2:=λW'=>upDig (r % 16) (by omega) W'
    have HI2:=Lib.hid hit2
    clear hi hr h2 hit2
    go_wp2_with (first|(go_at_call 153;refine hrw.mono ?_;rintro e w2 ⟨rfl,rfl⟩))
    refine(hf1 _ (Below.refl _ _)).mono ?_
    rintro e w2 ⟨rfl,c1⟩
    go_wp2_with (go_at_call 155;refine(hu1 _).mono ?_;rintro e w3 ⟨rfl,c2⟩)
    have c3:=below_tr c1 c2
    refine(hf2 _ c3).mono ?_
    rintro e w4 ⟨rfl,c4⟩
    go_wp2_with (go_at_call 155;refine(hu2 _).mono ?_;rintro e w5 ⟨rfl,c5⟩)
    have c6:=below_tr c3 (below_tr c4 c5)
    have c7:Below W.heap.size W (w5.alloc (.cells #[.string ⟨#[92,117,48,48]⟩,.string ⟨#[hxD (r / 16)]⟩,.string ⟨#[hxD (r % 16)]⟩] 9)):=c6.alloc c6.size _
    have hbW:b<W.heap.size:=WIs.lt HW2.out
    have hzW:=c6.size
    have hpc:=wPieces w0.heap.size b w5.heap.size (acc++part) [⟨#[92,117,48,48]⟩,⟨#[hxD (r / 16)]⟩,⟨#[hxD (r % 16)]⟩] 3 _ (WIs.step HW2.out c7) (heap_alloc_new w5 _) (by omega) (by simp) (by omega)
     (by intro x hx;simp at hx;rcases hx with rfl|rfl|rfl<;>simp[ByteArray.size]) (Nat.le_trans hBW c7.size)
    refine hpc.mono ?_
    rintro e w6 ⟨rfl,k1,k2,k3⟩
    have e1:(acc++part)++List.flatMap (λs:ByteArray=>s.data.toList) [⟨#[92,117,48,48]⟩,⟨#[hxD (r / 16)]⟩,⟨#[hxD (r % 16)]⟩]=acc++(part++[92,117,48,48,hxD (r / 16),hxD (r % 16)]):=by rw[List.append_assoc];rfl
    rw[e1]at k1
    have hit6:=Lib.OthersKept.iter ((ok8_below (b:=b) c7).trans k3) HI2.out (by omega)
    have hB6:=(hB2.trans (c7.mono hBW)).trans k2
    clear hpc hu1 hu2 hf1 hf2 c1 c2 c3 c4 c5 c6
    go_wp2
    go_roundg g'
    case measure=>omega
    case rel=>exact⟨pos+n,part++[92,117,48,48,hxD (r / 16),hxD (r % 16)],k1,hit6,hB6,HO2.out.trans ((ok8_below c7).trans k3),Hp2.out,H3.out,hpl2,by omega,by omega⟩
   ·rw[hr]at hrw
    have hi:iriR r=Lib.encodeRune (r:Int):=by unfold iriR;rw[hr];rfl
    rw[hi]at Hp2 hpl2
    have hww:=wWriteRune w0.heap.size b (acc++part) r hrn W HW2.out (by omega) hBW
    rw[List.append_assoc]at hww
    have hit3:=λw2 (hk:OK8 b W w2)=>Lib.OthersKept.iter hk hit2 (by omega)
    clear hi hr h2 hit2 HW2
    go_wp2_with (first|(go_at_call 153;refine hrw.mono ?_;rintro e w2 ⟨rfl,rfl⟩)|(go_at_call 154;refine hww.mono ?_;rintro e w2 ⟨⟨u,rfl⟩,k1,k2,k3⟩))
    go_roundg g'
    case measure=>omega
    case rel=>exact⟨pos+n,part++Lib.encodeRune (r:Int),k1,hit3 _ k3,hB2.trans k2,HO2.out.trans k3,Hp2.out,H3.out,hpl2,by omega,by omega⟩
  ·have hnx:∀ty,(Instr.next (.pointer (some ⟨w.heap.size,0,none⟩)) true ty).run Tryz.prog wr=_:=λty=>Lib.run_next_end_at wr w.heap.size s pos ty hit hlt
   have hpe:part=iriL s.data.toList:=by
    have:=hpart.out
    rw[List.drop_eq_nil_of_le (by rw[hz];omega),iriL_nil,List.append_nil]at this
    exact this
   rw[hpe]at hW
   clear hpe hpart hvd hit
   go_wp2
   go_ret
   exact⟨rfl,hW.out,hB,hO.out⟩
end Go.Proofs.YtoaemihcbmlkgaaGreatDoor
