/- strconv.FormatInt of one digit of base 16; strings.ToUpper o -/
import Derived.Test.YtfcbghmbbjolcaaGreatDoorJWr2
import Derived.Laws.CopyOwn
set_option maxHeartbeats 4000000
set_option maxRecDepth 100000
namespace Go.Proofs.YtfcbghmbbjolcaaGreatDoor
open Go Go.RowKit Um Fm Tx
def hxd (d:Nat):UInt8:=if d<10 then UInt8.ofNat (48+d) else UInt8.ofNat (87+d)
def TzV (w:World):Prop:=w.cell? ⟨6,15,none⟩=some (.int .u8 4)
theorem TzV.step {w w':World} (h:TzV w) (hb:Below w.heap.size w w'):TzV w':=by
 unfold TzV at *
 rw[hb.cell (ag h)];exact h
theorem JU (w:World) (hT:TzV w):Calls Tryz.prog 379 #[.int .u64 16] w λe w'=>e=.returned (.int .i64 4)/\w=w':=by
 have hT':w.cell? ⟨6,15,none⟩=some (.int .u8 4):=hT
 have key:IntKind.u64.wrap (bits BinOp.and IntKind.u64 16 (IntKind.u64.wrap (-16))*285870213051353865) / 288230376151711744=15:=by decide
 clear hT
 go_enter Tryz.func379,Tryz.ntmps379
 go_wp2
 go_ret
 exact⟨rfl,rfl⟩
theorem tz (w:World) (hT:TzV w):Calls Tryz.prog 363 #[.int .u64 16] w λe w'=>e=.returned (.int .i64 4)/\w=w':=by
 have h:=JU w hT
 go_enter Tryz.func363,Tryz.ntmps363
 go_wp2_with (go_at_call 379;refine h.mono ?_;rintro e w2 ⟨rfl,rfl⟩)
 go_ret
 exact⟨rfl,rfl⟩
theorem Jl (w:World):Calls Tryz.prog 362 #[.int .i64 16] w λe w'=>e=.returned (.bool true)/\w=w':=by
 have key:bits BinOp.and IntKind.i64 16 15=0:=by decide
 go_enter Tryz.func362,Tryz.ntmps362
 go_wp2
 go_ret
 exact⟨rfl,rfl⟩
abbrev DI:ByteArray:=⟨#[48,49,50,51,52,53,54,55,56,57,97,98,99,100,101,102,103,104,105,106,107,108,109,110,111,112,113,114,115,116,117,118,119,120,121,122]⟩
theorem FP:∀d:Fin 16,strOfNums [(bn DI d.val:Int)]=⟨#[hxd d.val]⟩:=by decide
theorem FD (d:Nat) (hd:d<16) (w:World) (hT:TzV w):Calls Tryz.prog 345 #[.slice none 0 0,.int .u64 d,.int .i64 16,.bool false,.bool false] w λe w'=>e=.returned (.tuple #[.slice none 0 0,.string ⟨#[hxd d]⟩])/\Below w.heap.size w w':=by
 have hp:=Jl
 have ht:=λW hb=>tz W (hT.step hb)
 clear hT
 go_enter Tryz.func345,Tryz.ntmps345
 go_wp2_with (first|(go_at_call 362;refine(hp _).mono ?_;rintro e w2 ⟨rfl,rfl⟩)|(go_at_call 363;refine(ht _ blw).mono ?_;rintro e w2 ⟨rfl,rfl⟩))
 have hrd:Rd (w.alloc (.cells ((Array.replicate 65 (.int .u8 0)).setIfInBounds 64 (.int .u8 (bn DI d))) 394)) (some ⟨w.heap.size,64,none⟩) ([(bn DI d:Int)].map (Value.int .u8)):=by
  refine .inr ⟨w.heap.size,64,rfl,λj u hu=>?_⟩
  cases j with
  | succ j=>simp at hu
  | zero =>
   simp only[List.map_cons,List.map_nil,List.getElem?_cons_zero,Option.some.injEq]at hu
   subst hu
   rw[Lib.cell_of_heap (heap_alloc_new w _)]
   simp
 have hcs:=aT (P:=Tryz.prog) (n:=1) (c:=1) 166 9 5 Tryz.underlying166 Tryz.underlying5 Tryz.underlying9 hrd rfl
 have hst:strOfNums [(bn DI d:Int)]=⟨#[hxd d]⟩:=FP ⟨d,hd⟩
 rw[hst]at hcs
 clear hst hrd
 have hB:Below w.heap.size w (w.alloc (.cells ((Array.replicate 65 (.int .u8 0)).setIfInBounds 64 (.int .u8 (bn DI d))) 394)):=blw
 have HB:=Lib.hid hB
 clear hB
 go_loopw [1,13] (λu i wr=>u=.int .u64 d/\i=.int .i64 65/\wr=w.alloc (.cells (Array.replicate 65 (.int .u8 0)) 394)) (λ_ _ _=>0)
 case atStart=>exact⟨rfl,rfl,rfl⟩
 case round =>
  obtain⟨rfl,rfl,rfl⟩:=hrel
  go_wp2
  go_ret2
  exact⟨rfl,HB.out⟩
theorem Dj (d:Nat) (hd:d<16) (w:World) (hT:TzV w):Calls Tryz.prog 268 #[.int .i64 d,.int .i64 16] w λe w'=>e=.returned (.string ⟨#[hxd d]⟩)/\Below w.heap.size w w':=by
 have h1:=FD d hd w hT
 have h2:Calls Tryz.prog 312 #[.int .i64 d,.int .i64 16] w λe w'=>e=.returned (.string ⟨#[hxd d]⟩)/\Below w.heap.size w w':=by
  go_enter Tryz.func312,Tryz.ntmps312
  go_wp2_with (go_at_call 345;refine h1.mono ?_;rintro e w2 ⟨rfl,hb⟩)
  go_ret
  exact⟨rfl,hb⟩
 clear h1
 go_enter Tryz.func268,Tryz.ntmps268
 go_wp2_with (go_at_call 312;refine h2.mono ?_;rintro e w2 ⟨rfl,hb⟩)
 go_ret
 exact⟨rfl,hb⟩
theorem yt:∀d:Fin 16,(hxd d.val).toNat<128/\Lib.toUpperA [hxd d.val]=[hxD d.val]:=by decide
theorem Gl (d:Nat) (hd:d<16) (w:World):Calls Tryz.prog 267 #[.string ⟨#[hxd d]⟩] w λe w'=>e=.returned (.string ⟨#[hxD d]⟩)/\Below w.heap.size w w':=by
 obtain⟨h1,h2⟩:=yt ⟨d,hd⟩
 have h:=eL ⟨#[hxd d]⟩ w (by show 1<=_;omega) (by
  intro j b hj
  cases j with
  | zero=>simp at hj;subst hj;exact h1
  | succ j=>simp at hj)
 rw[h2]at h
 exact h
theorem oQ (n:Int) (h0:0<=n) (h1:n<=1114111):Lib.validRune n=isB n:=by
 simp[Lib.validRune,isB,h0,h1]
theorem J0 (n:Int) (w:World) :
  Calls Tryz.prog 308 #[.int .i64 n] w λe w'=>e=.returned (.bool (isB n))/\w=w':=by
 have hv:=λW=>iD n W
 by_cases h0:0<=n
 ·by_cases h1:n<=1114111
  ·rw[oQ n h0 h1]at hv
   generalize isB n=q at hv
   go_enter Tryz.func308,Tryz.ntmps308
   go_wp2_with (go_at_call 338;refine(hv _).mono ?_;rintro e w1 ⟨rfl,rfl⟩)
   go_ret
   exact⟨rfl,rfl⟩
  ·have hi:isB n=false:=by simp[isB];omega
   rw[hi]
   clear hi hv
   go_enter Tryz.func308,Tryz.ntmps308
   go_wp2
   go_ret
   exact⟨rfl,rfl⟩
 ·have hi:isB n=false:=by simp[isB];omega
  rw[hi]
  clear hi hv
  go_enter Tryz.func308,Tryz.ntmps308
  go_wp2
  go_ret
  exact⟨rfl,rfl⟩
theorem wI (n:Int) (h:isB n=true):(Utf8.encode n).data.toList=Lib.encodeRune n:=by
 rw[bT]at h
 have hv:Utf8.valid n=true:=by simp[Utf8.valid];omega
 unfold Utf8.encode
 simp only[hv,if_true]
 by_cases c1:n<=127
 ·rw[if_pos (by omega)]
  unfold Lib.encodeRune
  rw[Lib.encodeRuneZ_one (by omega) c1]
  simp[Nat.toUInt8]
 ·rw[if_neg (by omega)]
  by_cases c2:n<=2047
  ·rw[if_pos (by omega)]
   unfold Lib.encodeRune
   rw[Lib.encodeRuneZ_two (by omega) c2]
   simp only[List.map_cons,List.map_nil]
   rw[show (192+n / 64).toNat=192+n.toNat / 64 by omega,show (128+n % 64).toNat=128+n.toNat % 64 by omega]
  ·rw[if_neg (by omega)]
   by_cases c3:n<=65535
   ·rw[if_pos (by omega)]
    unfold Lib.encodeRune
    rw[Lib.encodeRuneZ_three (by omega)]
    simp only[List.map_cons,List.map_nil]
    rw[show (224+n / 4096).toNat=224+n.toNat / 4096 by omega,show (128+n / 64 % 64).toNat=128+n.toNat / 64 % 64 by omega,show (128+n % 64).toNat=128+n.toNat % 64 by omega]
   ·rw[if_neg (by omega)]
    unfold Lib.encodeRune
    rw[Lib.encodeRuneZ_four (by omega) (by omega)]
    simp only[List.map_cons,List.map_nil]
    rw[show (240+n / 262144).toNat=240+n.toNat / 262144 by omega,show (128+n / 4096 % 64).toNat=128+n.toNat / 4096 % 64 by omega,show (128+n / 64 % 64).toNat=128+n.toNat / 64 % 64 by omega,show (128+n % 64).toNat=128+n.toNat % 64 by omega]
theorem pr (s t:List UInt8) (b:UInt8) (h:s.contains b=false):Lib.contains s (b::t)=false:=by
 have:Lib.index s (b::t) = -1:=by
  refine Lib.index_none λj _=>?_
  unfold Lib.occAt
  cases hd:s.drop j with
  | nil=>rfl
  | cons c l =>
   have hc:c∈s:=List.mem_of_mem_drop (i:=j) (by rw[hd];exact List.mem_cons_self)
   have hne:(b == c)=false:=by
    cases hbc:b == c with
    | false=>rfl
    | true =>
     have:b=c:=by simpa using hbc
     subst this
     have:s.contains b=true:=by simpa using hc
     rw[this]at h;cases h
   show ((b == c) && t.isPrefixOf l)=false
   rw[hne];rfl
 unfold Lib.contains
 rw[this];rfl
def badU:List UInt8:=[60,62,34,123,125,124,94,96,92]
theorem AM:badS.data.toList=badU:=rfl
theorem Gd:∀n:Fin 128,Lib.contains badU [n.val.toUInt8]=jo.contains (n.val:Int):=by decide
theorem rQ (n:Int) (h:isB n=true):Lib.contains badU (Lib.encodeRune n)=jo.contains n:=by
 rw[bT]at h
 by_cases c1:n<=127
 ·unfold Lib.encodeRune
  rw[Lib.encodeRuneZ_one (by omega) c1]
  have:=Gd ⟨n.toNat,by omega⟩
  rw[show (((⟨n.toNat,by omega⟩:Fin 128).val:Nat):Int)=n by show ((n.toNat:Nat):Int)=n;omega]at this
  exact this
 ·have hb:jo.contains n=false:=by
   simp[jo];omega
  rw[hb]
  have hd:∃(b:UInt8) (t:List UInt8),Lib.encodeRune n=b::t/\128<=b.toNat:=by
   unfold Lib.encodeRune
   by_cases c2:n<=2047
   ·rw[Lib.encodeRuneZ_two (by omega) c2];exact⟨_,_,rfl,by simp;omega⟩
   ·by_cases c3:n<=65535
    ·rw[Lib.encodeRuneZ_three (by omega)];exact⟨_,_,rfl,by simp;omega⟩
    ·rw[Lib.encodeRuneZ_four (by omega) (by omega)];exact⟨_,_,rfl,by simp;omega⟩
  obtain⟨b,t,he,hb2⟩:=hd
  rw[he]
  apply pr
  simp only[badU]
  cases hc:List.contains [60,62,34,123,125,124,94,96,92] b with
  | false=>rfl
  | true =>
   exfalso
   simp at hc
   rcases hc with h|h|h|h|h|h|h|h|h<;>(subst h;revert hb2;decide)
theorem GG (n:Int) (w:World) (hC:Ctx w) :
  Calls Tryz.prog 265 #[.int .i64 n] w λe w'=>e=.returned (.bool (fF n))/\w=w':=by
 obtain⟨m,hm⟩:=hC.maxl
 have his:=J0 n w
 have hsc:=λt=>gn badS t m w (by decide) hm
 clear hC
 by_cases h1:32<n
 ·by_cases h2:isB n=true
  ·have hr:fF n = !jo.contains n:=by simp[fF,h1,h2]
   rw[hr]
   replace hsc:=hsc (Utf8.encode n)
   rw[wI n h2,AM,rQ n h2]at hsc
   rw[h2]at his
   rw[bT]at h2
   obtain⟨⟨h3,h4⟩,h5⟩:=h2
   clear hr hm h5
   generalize jo.contains n=q at hsc
   unfold badS at hsc
   go_enter Tryz.func265,Tryz.ntmps265
   go_wp2_with (first
    | (go_at_call 308;refine his.mono ?_;rintro e w1 ⟨rfl,rfl⟩)
    | (go_at_call 309;refine hsc.mono ?_;rintro e w1 ⟨rfl,rfl⟩))
   go_ret
   exact⟨rfl,rfl⟩
  ·have h2:isB n=false:=by simpa using h2
   have hr:fF n=false:=by simp[fF,h2]
   rw[hr]
   rw[h2]at his
   clear hr hm hsc h2
   go_enter Tryz.func265,Tryz.ntmps265
   go_wp2_with (go_at_call 308;refine his.mono ?_;rintro e w1 ⟨rfl,rfl⟩)
   go_ret
   exact⟨rfl,rfl⟩
 ·have hr:fF n=false:=by simp[fF];omega
  rw[hr]
  clear hr hm hsc his
  go_enter Tryz.func265,Tryz.ntmps265
  go_wp2
  go_ret
  exact⟨rfl,rfl⟩
theorem Cm {b:Nat} {w wr:World} (h:OK8 b w wr) {k:Nat} (hk:w.heap.size<=k) (s:ByteArray) (pos:Nat):OK8 b w (wr.iterAt k s pos):=λi o hi hb ho=>by
 have hlt:i<w.heap.size:=(Array.getElem?_eq_some_iff.1 hi).1
 exact(Lib.iterAt_other wr k i s pos (by omega)).trans (h i o hi hb ho)
theorem qd {b:Nat} {w w':World} (h:Below w.heap.size w w'):OK8 b w w':=λi o hi _ _=>by
 rw[h.block i (Array.getElem?_eq_some_iff.1 hi).1];exact hi
def cD (w:World):Prop:=Ctx w/\TzV w
theorem cD.step {w w':World} (h:cD w) (hb:Below w.heap.size w w'):cD w':=⟨h.1.step hb,h.2.step hb⟩
theorem Jv:∀r:Fin 128,bits BinOp.and IntKind.i64 (r.val:Int) 15=((r.val % 16:Nat):Int):=by decide
theorem sB (w0:World) (hC:cD w0) (b:Nat) (acc:List UInt8) (s:ByteArray) (w:World) (hw0:Below w0.heap.size w0 w) (h:WI w0.heap.size b acc w) (hv:aG s=true) (hs:s.size<=1048576) (hlen:acc.length<=50000000) :
  Calls Tryz.prog 225 #[.pointer (some ⟨b,0,none⟩),.string s] w λe w'=>e=.returned (.pointer (some ⟨b,0,none⟩))/\WI w0.heap.size b (acc++aU s.data.toList) w'/\Below w0.heap.size w w'/\OK8 b w w':=by
 have hBw:=hw0.size
 have hlt0:b<w.heap.size:=h.lt
 have hz:s.data.toList.length=s.size:=ar s
 go_enter Tryz.func225,Tryz.ntmps225
 go_wp2
 go_loopg [] s.size (λgk wx=>∃(pos:Nat) (part:List UInt8),Hid (WI w0.heap.size b (acc++part) wx)/\wx.heap[w.heap.size]?=some (.stringIter s pos)/\Below w0.heap.size w wx/\Hid (OK8 b w wx) /\
  Hid (part++aU (s.data.toList.drop pos)=aU s.data.toList)/\Hid (Lib.validD (s.data.toList.drop pos)=true)/\part.length<=6*pos/\s.size<=pos+gk/\pos<=s.size)
 case atStart =>
  refine⟨0,[],?_,World.iter_heap w s 0,(Below.refl _ w).alloc hBw _,(Lib.OthersKept.refl _ _ w).alloc _,rfl,hv,by simp,by omega,by omega⟩
  show WI _ _ _ _
  rw[List.append_nil];exact h.alloc _
 case round =>
  obtain⟨pos,part,hW,hit,hB,hO,hpart,hvd,hpl,hfu,hps⟩:=hrel
  have hklt:w.heap.size<wr.heap.size:=(Array.getElem?_eq_some_iff.1 hit).1
  by_cases hlt:pos<s.size
  ·obtain⟨g',rfl⟩:∃g',gk=g'+1:=⟨gk-1,by omega⟩
   have hne:s.data.toList.drop pos≠[]:=by
    intro h0
    have:=congrArg List.length h0
    rw[List.length_drop,hz]at this
    simp at this;omega
   have hst:=D6 hne hvd.out
   have hnx:∀ty,(Instr.next (.pointer (some ⟨w.heap.size,0,none⟩)) true ty).run Tryz.prog wr=_:=λty=>Lib.run_next_any_at wr w.heap.size s pos ty hit hlt
   have hrn:=Lib.decodeL_rune (s.data.toList.drop pos)
   rw[Lib.decodeL_drop]at hst hrn
   rw[List.drop_drop,List.length_drop,hz]at hst
   generalize hdd:Utf8.decode s pos=dd at *
   obtain⟨r,n⟩:=dd
   simp only at hnx hst hrn
   obtain⟨h1,h2,h3,h4,h5,h6⟩:=hst
   have hit2:=Lib.iterAt_heap wr w.heap.size s pos (pos+n) hit
   have hB2:=Lib.below_iterAt hB (k:=w.heap.size) hBw s (pos+n)
   have hO2:=Cm hO.out (k:=w.heap.size) (Nat.le_refl _) s (pos+n)
   have hW2:WI w0.heap.size b (acc++part) (wr.iterAt w.heap.size s (pos+n)):=WIs.iterAt hW.out hit (pos+n)
   have hp2:(part++lX r)++aU (s.data.toList.drop (pos+n))=aU s.data.toList:=by rw[List.append_assoc,←h1];exact hpart.out
   have hal:(acc++part).length<=100000000:=by rw[List.length_append];omega
   have hpl2:(part++lX r).length<=6*(pos+n):=by rw[List.length_append];omega
   obtain⟨W,hWd⟩:∃W,wr.iterAt w.heap.size s (pos+n)=W:=⟨_,rfl⟩
   rw[hWd]at hnx hit2 hB2 hO2 hW2
   have hrw:=GG (r:Int) W (hC.step (hw0.trans hB2)).1
   have HW2:=Lib.hid hW2
   have HO2:=Lib.hid hO2
   have Hp2:=Lib.hid hp2
   have H3:=Lib.hid h3
   have hBW:w0.heap.size<=W.heap.size:=Nat.le_trans hBw hB2.size
   have hkW:w.heap.size<W.heap.size:=(Array.getElem?_eq_some_iff.1 hit2).1
   clear hit hB hO hW hpart hvd hdd hWd h1 h3 hpl hW2 hO2 hp2 hne
   cases hr:fF (r:Int)
   ·have h128:=h2 hr
    rw[hr]at hrw
    have hi:lX r=[92,117,48,48,hxD (r / 16),hxD (r % 16)]:=by unfold lX;rw[hr];rfl
    rw[hi]at Hp2 hpl2
    have ha15:=Jv ⟨r,h128⟩
    simp only at ha15
    have hf1:=λW' hb=>Dj (r / 16) (by omega) W' ((hC.step (hw0.trans hB2)).step hb).2
    have hf2:=λW' hb=>Dj (r % 16) (by omega) W' ((hC.step (hw0.trans hB2)).step hb).2
    rw[show ((r / 16:Nat):Int)=(r:Int) / 16 from by omega]at hf1
    rw[show ((r % 16:Nat):Int)=(r:Int) % 16 from by omega]at hf2 ha15
    have hu1:=λW'=>Gl (r / 16) (by omega) W'
    have hu2:=λW'=>Gl (r % 16) (by omega) W'
    have HI2:=Lib.hid hit2
    clear hi hr h2 hit2
    go_wp2_with (first|(go_at_call 265;refine hrw.mono ?_;rintro e w2 ⟨rfl,rfl⟩))
    refine(hf1 _ (Below.refl _ _)).mono ?_
    rintro e w2 ⟨rfl,c1⟩
    go_wp2_with (go_at_call 267;refine(hu1 _).mono ?_;rintro e w3 ⟨rfl,c2⟩)
    have c3:=aa c1 c2
    refine(hf2 _ c3).mono ?_
    rintro e w4 ⟨rfl,c4⟩
    go_wp2_with (go_at_call 267;refine(hu2 _).mono ?_;rintro e w5 ⟨rfl,c5⟩)
    have c6:=aa c3 (aa c4 c5)
    have c7:Below W.heap.size W (w5.alloc (.cells #[.string ⟨#[92,117,48,48]⟩,.string ⟨#[hxD (r / 16)]⟩,.string ⟨#[hxD (r % 16)]⟩] 9)):=c6.alloc c6.size _
    have hbW:b<W.heap.size:=WIs.lt HW2.out
    have hzW:=c6.size
    have hpc:=wX w0.heap.size b w5.heap.size (acc++part) [⟨#[92,117,48,48]⟩,⟨#[hxD (r / 16)]⟩,⟨#[hxD (r % 16)]⟩] 3 _ (WIs.step HW2.out c7) (heap_alloc_new w5 _) (by omega) (by simp) (by omega)
     (by intro x hx;simp at hx;rcases hx with rfl|rfl|rfl<;>simp[ByteArray.size]) (Nat.le_trans hBW c7.size)
    refine hpc.mono ?_
    rintro e w6 ⟨rfl,k1,k2,k3⟩
    have e1:(acc++part)++List.flatMap (λs:ByteArray=>s.data.toList) [⟨#[92,117,48,48]⟩,⟨#[hxD (r / 16)]⟩,⟨#[hxD (r % 16)]⟩]=acc++(part++[92,117,48,48,hxD (r / 16),hxD (r % 16)]):=by rw[List.append_assoc];rfl
    rw[e1]at k1
    have hit6:=Lib.OthersKept.iter ((qd (b:=b) c7).trans k3) HI2.out (by omega)
    have hB6:=(hB2.trans (c7.mono hBW)).trans k2
    clear hpc hu1 hu2 hf1 hf2 c1 c2 c3 c4 c5 c6
    go_wp2
    go_roundg g'
    case measure=>omega
    case rel=>exact⟨pos+n,part++[92,117,48,48,hxD (r / 16),hxD (r % 16)],k1,hit6,hB6,HO2.out.trans ((qd c7).trans k3),Hp2.out,H3.out,hpl2,by omega,by omega⟩
   ·rw[hr]at hrw
    have hi:lX r=Lib.encodeRune (r:Int):=by unfold lX;rw[hr];rfl
    rw[hi]at Hp2 hpl2
    have hww:=uZ w0.heap.size b (acc++part) r hrn W HW2.out (by omega) hBW
    rw[List.append_assoc]at hww
    have hit3:=λw2 (hk:OK8 b W w2)=>Lib.OthersKept.iter hk hit2 (by omega)
    clear hi hr h2 hit2 HW2
    go_wp2_with (first|(go_at_call 265;refine hrw.mono ?_;rintro e w2 ⟨rfl,rfl⟩)|(go_at_call 266;refine hww.mono ?_;rintro e w2 ⟨⟨u,rfl⟩,k1,k2,k3⟩))
    go_roundg g'
    case measure=>omega
    case rel=>exact⟨pos+n,part++Lib.encodeRune (r:Int),k1,hit3 _ k3,hB2.trans k2,HO2.out.trans k3,Hp2.out,H3.out,hpl2,by omega,by omega⟩
  ·have hnx:∀ty,(Instr.next (.pointer (some ⟨w.heap.size,0,none⟩)) true ty).run Tryz.prog wr=_:=λty=>Lib.run_next_end_at wr w.heap.size s pos ty hit hlt
   have hpe:part=aU s.data.toList:=by
    have:=hpart.out
    rw[List.drop_eq_nil_of_le (by rw[hz];omega),D8,List.append_nil]at this
    exact this
   rw[hpe]at hW
   clear hpe hpart hvd hit
   go_wp2
   go_ret
   exact⟨rfl,hW.out,hB,hO.out⟩
theorem qa (w:World):(callFunc 380 #[]).run Tryz.prog w=.ok (.value (.tuple #[])) w:=run_call_mark0 Tryz.func380 (by kernel_rfl) (by kernel_rfl) (by kernel_rfl) .disable (by kernel_rfl) w
theorem tB (w:World):(callFunc 382 #[]).run Tryz.prog w=.ok (.value (.tuple #[])) w:=run_call_mark0 Tryz.func382 (by kernel_rfl) (by kernel_rfl) (by kernel_rfl) .enable (by kernel_rfl) w
theorem zx (a:Addr) (w:World):(callFunc 383 #[.pointer (some a)]).run Tryz.prog w=.ok (.value (.tuple #[])) w:=run_call_marked Tryz.func383 (by kernel_rfl) (by kernel_rfl) (by kernel_rfl) .acquire (by kernel_rfl) a w
theorem zw (a:Addr) (w:World):(callFunc 385 #[.pointer (some a)]).run Tryz.prog w=.ok (.value (.tuple #[])) w:=run_call_marked Tryz.func385 (by kernel_rfl) (by kernel_rfl) (by kernel_rfl) .releaseMerge (by kernel_rfl) a w
theorem EY (a:Addr) (x:Value) (u:FrameMode) (w:World) (hc:w.cell? a=some x) (hz:w.frozen? a=false) :
  CallsD Tryz.prog 349 #[.pointer (some a),.bool true] u w λe u' w'=>u'=u/\(e=.returned (.tuple #[])/\w'=w.drew.setCell a (.int .u32 1)):=by
 have hc':w.drew.cell? a=some x:=by go_simp
 have hz':w.drew.frozen? a=false:=by go_simp
 have hst:=run_call_store (P:=Tryz.prog) Tryz.func366 (by kernel_rfl) (by kernel_rfl) (by kernel_rfl) (by kernel_rfl) (k:=.u32) (y:=1) hc' hz'
 go_enter_d Tryz.func349,Tryz.ntmps349
 go_wp2
 go_region_calls
 all_goals (go_end0;exact⟨rfl,rfl⟩)
theorem Cl (a:Addr) (u:FrameMode) (w:World) (hc:w.cell? a=some (.int .i32 1)) (hz:w.frozen? a=false) :
  CallsD Tryz.prog 348 #[.pointer (some a)] u w λe u' w'=>u'=u/\(e=.returned (.tuple #[])/\w'=w.setCell a (.int .i32 0)):=by
 have hd:=qa
 have he:=tB
 have hr:=zw
 have hadd:=run_call_add (P:=Tryz.prog) Tryz.func386 (by kernel_rfl) (by kernel_rfl) (by kernel_rfl) .i32 (by kernel_rfl) (y:=-1) (s:=0) hc hz (by simp[go_sem];rfl)
 have hcv:=run_convert_to_unsafe (P:=Tryz.prog) (src:=414) (dst:=366) Tryz.underlying414 Tryz.underlying366 (by kernel_rfl) hc
 go_enter_d Tryz.func348,Tryz.ntmps348
 go_wp2
 go_end0
 exact⟨rfl,rfl⟩
theorem H9 (a:Addr) (w:World) (hc:w.cell? a=some (.int .i32 0)) (hz:w.frozen? a=false) :
  Calls Tryz.prog 347 #[.pointer (some a)] w λe w'=>e=.returned (.tuple #[])/\w'=w.setCell a (.int .i32 1):=by
 have hd:=qa
 have he:=tB
 have ha:=zx
 have hcas:=run_call_cas_hit (P:=Tryz.prog) Tryz.func381 (by kernel_rfl) (by kernel_rfl) (by kernel_rfl) .i32 (by kernel_rfl) (y:=1) hc hz
 have hc':(w.setCell a (.int .i32 1)).cell? a=some (.int .i32 1):=World.cell?_setCell_same w a _ hc
 have hcv:=run_convert_to_unsafe (P:=Tryz.prog) (src:=414) (dst:=366) Tryz.underlying414 Tryz.underlying366 (by kernel_rfl) hc'
 go_enter Tryz.func347,Tryz.ntmps347
 go_wp2
 first|go_end0|(simp only[Exit.inBlock,Exit.then];refine bodyPost_ret (results_none rfl _ _ _) rfl ?_)|refine bodyPost_ret (results_none rfl _ _ _) rfl ?_
 exact⟨rfl,rfl⟩
def gE (b off:Nat) (W2:World):World:=(W2.drew.setCell ⟨b,off,none⟩ (.int .u32 1)).setCell ⟨b,off+1,none⟩ (.int .i32 0)
theorem H8 (b off fn:Nat) (x:Value) (w:World) (efn:∀args W,(callFunc fn args).run Tryz.prog W=.ok (.enter fn args) W)
  (h0:w.cell? ⟨b,off,none⟩=some (.int .u32 0)) (h1:w.cell? ⟨b,off+1,none⟩=some (.int .i32 0))
  (_f0:w.frozen? ⟨b,off,none⟩=false) (f1:w.frozen? ⟨b,off+1,none⟩=false)
  {Q:World->Prop} (hQ:∀W,Q W->W.cell? ⟨b,off,none⟩=some (.int .u32 0)/\W.cell? ⟨b,off+1,none⟩=some (.int .i32 1)/\W.frozen? ⟨b,off,none⟩=false/\W.frozen? ⟨b,off+1,none⟩=false)
  (hf:Calls Tryz.prog fn #[x] (w.setCell ⟨b,off+1,none⟩ (.int .i32 1)) λe w'=>e=.returned (.tuple #[])/\Q w') :
  Calls Tryz.prog 314 #[.pointer (some ⟨b,off,none⟩),.func (.func fn) #[x] #[]] w λe w'=>e=.returned (.tuple #[])/\∃W2,Q W2/\w'=gE b off W2:=by
 have hl:=run_call_load (P:=Tryz.prog) Tryz.func346 (by kernel_rfl) (by kernel_rfl) (by kernel_rfl) .u32 (by kernel_rfl) (w:=w.setCell ⟨b,off+1,none⟩ (.int .i32 1)) (a:=⟨b,off,none⟩) (x:=0) ((World.cell?_setCell_other _ ⟨b,off+1,none⟩ ⟨b,off,none⟩ _ (by simp)).trans h0)
 have hnot:∀(x:Bool) (w:World),(Op.unary .not (.bool x)).run Tryz.prog w=.ok (.bool (!x)) w:=λ_ _=>rfl
 go_enter_defers Tryz.func314,Tryz.ntmps314
 go_wp2_with (first|(go_at_call 347;refine(H9 ⟨b,off+1,none⟩ _ (by go_simp) (by go_simp)).mono ?_;rintro e w' ⟨rfl,rfl⟩)|(go_at_call 313;go_in)|(go_at_fn fn;refine hf.mono ?_;rintro e W2 ⟨rfl,hq⟩))
 obtain⟨q0,q1,z0,z1⟩:=hQ _ hq
 refine leaves_cons (f:=349) (args:=#[.pointer (some ⟨b,off,none⟩),.bool true]) (by simp) (by simp[go_sem]) ?_
 refine(EY ⟨b,off,none⟩ (.int .u32 0) .returning _ q0 z0).mono ?_
 rintro e u' w'' ⟨rfl,rfl,rfl⟩
 refine leaves_cons (f:=348) (args:=#[.pointer (some ⟨b,off+1,none⟩)]) (by simp[settle]) (by simp[go_sem]) ?_
 refine(Cl ⟨b,off+1,none⟩ _ _ ?_ (by simp[z1])).mono ?_
 ·refine(World.cell?_setCell_other _ ⟨b,off,none⟩ ⟨b,off+1,none⟩ _ (by simp)).trans ?_
  rw[World.cell?_drew]
  exact q1
 rintro e u' w'' ⟨rfl,rfl,rfl⟩
 simp only[Leaves,settle,results,Tryz.results314]
 refine⟨_,by simp[go_sem],rfl,W2,hq,rfl⟩
theorem JY (b off fn:Nat) (x:Value) (w:World) (efn:∀args W,(callFunc fn args).run Tryz.prog W=.ok (.enter fn args) W)
  (h0:w.cell? ⟨b,off,none⟩=some (.int .u32 0)) (h1:w.cell? ⟨b,off+1,none⟩=some (.int .i32 0))
  (f0:w.frozen? ⟨b,off,none⟩=false) (f1:w.frozen? ⟨b,off+1,none⟩=false)
  {Q:World->Prop} (hQ:∀W,Q W->W.cell? ⟨b,off,none⟩=some (.int .u32 0)/\W.cell? ⟨b,off+1,none⟩=some (.int .i32 1)/\W.frozen? ⟨b,off,none⟩=false/\W.frozen? ⟨b,off+1,none⟩=false)
  (hf:Calls Tryz.prog fn #[x] (w.setCell ⟨b,off+1,none⟩ (.int .i32 1)) λe w'=>e=.returned (.tuple #[])/\Q w') :
  Calls Tryz.prog 270 #[.pointer (some ⟨b,off,none⟩),.func (.func fn) #[x] #[]] w λe w'=>e=.returned (.tuple #[])/\∃W2,Q W2/\w'=gE b off W2:=by
 have hl:=run_call_load (P:=Tryz.prog) Tryz.func346 (by kernel_rfl) (by kernel_rfl) (by kernel_rfl) .u32 (by kernel_rfl) h0
 have hnot:∀(x:Bool) (w:World),(Op.unary .not (.bool x)).run Tryz.prog w=.ok (.bool (!x)) w:=λ_ _=>rfl
 have hs:=H8 b off fn x w efn h0 h1 f0 f1 hQ hf
 clear hQ hf efn
 go_enter Tryz.func270,Tryz.ntmps270
 go_wp2_with (first|(go_at_call 314;refine hs.mono ?_;rintro e w' ⟨rfl,hw⟩)|(go_at_call 313;go_in))
 go_end0
 exact⟨rfl,hw⟩
end Go.Proofs.YtfcbghmbbjolcaaGreatDoor
namespace Go.Proofs.YtfcbghmbbjolcaaGreatDoor.Tx
open Go Go.RowKit Um Fm Lx
def rpX (j:Nat):List UInt8:=if j=34 then [92,34] else if j=92 then [92,92] else if j=10 then [92,110] else if j=13 then [92,114] else []
def isE (c:UInt8):Bool:=!(rpX c.toNat).isEmpty
theorem BB {j:Nat}:(rpX j).length=0∨(rpX j).length=2:=by
 unfold rpX;repeat' split
 all_goals simp
theorem sD (c d:UInt8):(c=d)↔c.toNat=d.toNat:=UInt8.toNat_inj.symm
theorem rm (c:UInt8):de c=if isE c then rpX c.toNat else [c]:=by
 unfold de isE rpX
 simp only[sD]
 by_cases h1:c.toNat=34
 ·simp[h1]
 by_cases h2:c.toNat=92
 ·simp[h2]
 by_cases h3:c.toNat=10
 ·simp[h3]
 by_cases h4:c.toNat=13
 ·simp[h4]
 simp[h1,h2,h3,h4]
theorem kJ (c:UInt8) (t:List UInt8):am (c::t)=de c++am t:=by unfold am;rw[List.flatMap_cons]
theorem tQ (a b:List UInt8):am (a++b)=am a++am b:=List.flatMap_append
theorem kI:∀l:List UInt8,(am l).length=l.length+l.countP isE
 | []=>rfl
 | c::t=>by
  rw[kJ,List.length_append,kI t,rm,List.countP_cons,List.length_cons]
  cases h:isE c
  ·simp;omega
  ·have hl:(rpX c.toNat).length=2:=by
    rcases BB (j:=c.toNat) with h2|h2
    ·rw[isE,List.isEmpty_iff.2 (List.length_eq_zero_iff.1 h2)]at h;cases h
    ·exact h2
   simp[hl];omega
theorem qo:∀l:List UInt8,l.countP isE=0->am l=l
 | [],_=>rfl
 | c::t,h=>by
  rw[List.countP_cons]at h
  cases hc:isE c
  ·rw[kJ,rm,hc,qo t (by omega)];rfl
  ·rw[hc]at h;simp at h
theorem zF (l:List UInt8) (k:Nat) (c:UInt8) (h:l[k]?=some c):am (l.take (k+1))=am (l.take k)++de c:=by
 rw[List.take_add_one,h,Option.toList_some,tQ,kJ]
 show _=_
 rw[show am []=[] from rfl,List.append_nil]
theorem Ac (l:List UInt8) (k:Nat) (c:UInt8) (h:l[k]?=some c):(l.take (k+1)).countP isE=(l.take k).countP isE+(if isE c then 1 else 0):=by
 rw[List.take_add_one,h,Option.toList_some,List.countP_append,List.countP_cons,List.countP_nil,Nat.zero_add]
def rpN (i:Nat):UInt8:=if i=0 then 13 else if i=1 then 10 else if i=2 then 34 else 92
theorem Ad (l:List UInt8):l.countP isE=Lib.countByte l (rpN 0)+Lib.countByte l (rpN 1)+Lib.countByte l (rpN 2)+Lib.countByte l (rpN 3):=by
 have e0:rpN 0=13:=rfl
 have e1:rpN 1=10:=rfl
 have e2:rpN 2=34:=rfl
 have e3:rpN 3=92:=rfl
 rw[e0,e1,e2,e3]
 unfold Lib.countByte
 induction l with
 | nil=>rfl
 | cons c t ih =>
  rw[List.countP_cons,List.count_cons,List.count_cons,List.count_cons,List.count_cons,ih]
  have hc:(if isE c=true then 1 else 0)=(if (c == 13)=true then 1 else 0)+(if (c == 10)=true then 1 else 0)+(if (c == 34)=true then 1 else 0)+(if (c == 92)=true then 1 else 0):=by
   by_cases h1:c=34
   ·subst h1;decide
   by_cases h2:c=92
   ·subst h2;decide
   by_cases h3:c=10
   ·subst h3;decide
   by_cases h4:c=13
   ·subst h4;decide
   have h5:isE c=false:=by
    unfold isE rpX
    have g1:¬ c.toNat=34:=λe=>h1 ((sD _ _).2 e)
    have g2:¬ c.toNat=92:=λe=>h2 ((sD _ _).2 e)
    have g3:¬ c.toNat=10:=λe=>h3 ((sD _ _).2 e)
    have g4:¬ c.toNat=13:=λe=>h4 ((sD _ _).2 e)
    rw[if_neg g1,if_neg g2,if_neg g3,if_neg g4];rfl
   simp[h1,h2,h3,h4,h5]
  rw[hc];omega
def oq (l:List UInt8):Nat->Nat
 | 0=>0
 | k+1=>oq l k+Lib.countByte l (rpN k)
theorem DX (l:List UInt8):oq l 4=l.countP isE:=by
 rw[Ad]
 simp only[oq,Nat.zero_add]
theorem rN (l:List UInt8):∀k,oq l k<=k*l.length
 | 0=>by simp[oq]
 | k+1=>by
  have h1:=rN l k
  have h2:Lib.countByte l (rpN k)<=l.length:=List.count_le_length
  rw[oq,Nat.succ_mul];omega
def rpT (k j:Nat):List UInt8:=if (j=13/\0<k)∨(j=10/\1<k)∨(j=34/\2<k)∨(j=92/\3<k) then rpX j else []
theorem BD (j:Nat):rpT 0 j=[]:=by unfold rpT;rw[if_neg (by omega)]
theorem mP (j:Nat):rpT 4 j=rpX j:=by
 unfold rpT rpX
 by_cases h1:j=34
 ·simp[h1]
 by_cases h2:j=92
 ·simp[h2]
 by_cases h3:j=10
 ·simp[h3]
 by_cases h4:j=13
 ·simp[h4]
 simp[h1,h2,h3,h4]
theorem BE (k j:Nat) (hk:k<4):rpT (k+1) j=if j=(rpN k).toNat then rpX j else rpT k j:=by
 match k,hk with
 | 0,_=>unfold rpT;rw[show (rpN 0).toNat=13 from rfl];by_cases h:j=13<;>simp[h]<;>omega
 | 1,_=>unfold rpT;rw[show (rpN 1).toNat=10 from rfl];by_cases h:j=10<;>simp[h]
 | 2,_=>unfold rpT;rw[show (rpN 2).toNat=34 from rfl];by_cases h:j=34<;>simp[h]
 | 3,_=>unfold rpT;rw[show (rpN 3).toNat=92 from rfl];by_cases h:j=92<;>simp[h]
end Go.Proofs.YtfcbghmbbjolcaaGreatDoor.Tx
namespace Go.Proofs.YtfcbghmbbjolcaaGreatDoor
open Go Go.RowKit Um Fm Tx
theorem fx:(Tryz.prog.info? 9).map (λi=>(i.zero,i.size,i.bytes))=some (some (.string ⟨#[]⟩),1,16):=by kernel_rfl
abbrev rF:List ByteArray:=[⟨#[92]⟩,⟨#[92,92]⟩,⟨#[34]⟩,⟨#[92,34]⟩,⟨#[10]⟩,⟨#[92,110]⟩,⟨#[13]⟩,⟨#[92,114]⟩]
def Ei (B b:Nat) (w:World):Prop:=B<=b/\∃(v:Value),w.heap[b]?=some (.cells #[.int .u32 0,.int .i32 0,.int .u32 0,.nilIface,v] 314 (0,0))/\w.ownsRow B 9 1 v 8 (rF.map Value.string)
theorem pY {w:World} {B B':Nat} {e:TypeId} {s:Nat} {v:Value} {n:Nat} {xs:List Value} (h:w.ownsRow B e s v n xs) (hb:B'<=B):w.ownsRow B' e s v n xs:=
 ⟨h.1,h.2.imp id λ⟨g,cap,cur,hv,hB,r⟩=>⟨g,cap,cur,hv,Nat.le_trans hb hB,r⟩⟩
theorem tE (g:Nat) (w:World) (hA:Rd w (some ⟨g,0,none⟩) (rF.map Value.string)) :
  Calls Tryz.prog 269 #[.slice (some ⟨g,0,none⟩) 8 8] w λe w'=>∃b,e=.returned (.pointer (some ⟨b,0,none⟩))/\Ei w.heap.size b w'/\Below w.heap.size w w':=by
 have hown:w.ownsRow w.heap.size 9 1 (.slice none 0 0) 0 []:=World.ownsRow_nil _ _ _ _
 have H1:∀u∈rF.map Value.string,u.oneCell'=true:=by
  intro u hu;obtain⟨x,_,rfl⟩:=List.mem_map.1 hu;rfl
 go_enter Tryz.func269,Tryz.ntmps269
 go_wp2_with (at_builtin;refine bg (m:=8) rfl rfl Tryz.underlying23 fx rfl (by omega) rfl hown rfl hA rfl H1 (by omega) (by omega) (by omega) ?_;intro v1 w1 own1 hb1;obtain⟨A1,c1,rfl,_,_⟩:=own_slice own1)
 go_ret
 rw[Nat.zero_add,List.nil_append]at own1
 exact⟨_,rfl,⟨hb1.size,_,heap_alloc_new w1 _,own1.alloc _⟩,hb1.alloc hb1.size _⟩
theorem gz (w:World):Calls Tryz.prog 226 #[] w λe w'=>∃b,e=.returned (.pointer (some ⟨b,0,none⟩))/\Ei w.heap.size b w'/\Below w.heap.size w w':=by
 have hb:Below w.heap.size w (w.alloc (.cells (rF.map Value.string).toArray 9)):=blw
 have h:=tE w.heap.size _ (Rd.of_block (heap_alloc_new w (.cells (rF.map Value.string).toArray 9)) rfl)
 have HB:=Lib.hid hb
 go_enter Tryz.func226,Tryz.ntmps226
 go_wp2_with (go_at_call 269;refine h.mono ?_;rintro e w2 ⟨b,rfl,⟨k1,v,k2,k3⟩,k4⟩)
 go_ret
 have hs:=HB.out.size
 exact⟨b,rfl,⟨by omega,v,k2,pY k3 (by omega)⟩,aa HB.out k4⟩
theorem ak {P:Program} {w:World} {ops:Array Oper} {rest:List Oper} {o:Oper} {a:Act} {Q:Exit->Act->World->Prop} {s x:Operand} {t:TypeId}
  (ho:o.op=.call {callee:=.builtin .append,args:=#[s,x],argTypes:=#[t,t]}) (hgd:o.guard=none)
  {e:TypeId} {z:Value} {size bytes:Nat} (ht:P.underlying t=some (.slice e)) (hinfo:(P.info? e).map (λi=>(i.zero,i.size,i.bytes))=some (some z,size,bytes))
  (hzs:z.cells.size=size) (hsz:0<size)
  {base:Nat} {v:Value} {n:Nat} {xs:List Value} (hs:a.eval s=v) (hown:w.ownsRow base e size v n xs)
  {A:Option Addr} {m c:Nat} {news:List Value} (hx:a.eval x=.slice A m c) (hr:Rd w A news) (hl:news.length=m*size) (h1:∀u∈news,u.oneCell'=true)
  (hbytes:(n+m)*bytes<=140737488355328) (h63:n+m<=9223372036854775807) (hbase:base<=w.heap.size)
  (h:∀v' w',w'.ownsRow base e size v' (n+m) (xs++news)->Below base w w'->w.grownBy w' v.ownBlock->wpList P ops Q rest (a.put o.dst v') w'):wpList P ops Q (o::rest) a w:=by
 obtain⟨i,hi,hz,hsize,hby⟩:=info_parts hinfo
 have below:∀{w':World},w.grownBy w' v.ownBlock->Below base w w':=λhg=>(Below.refl _ _).grown hg hbase λk hk=>(hown.lt k hk).1
 rcases hr with rfl|⟨g,off,rfl,hc⟩
 ·have hm:m=0:=by
   rcases Nat.eq_zero_or_pos m with h0|h0
   ·exact h0
   ·have:=Nat.mul_pos h0 hsz
    simp at hl;omega
  subst hm
  rcases A with _|ad
  ·refine wpList_plain hgd λK hK=>?_
   have hrun:(Builtin.append_ #[t,t] o.type #[v,.slice none 0 c]).run P w=.ok v w:=by
    rcases hown.2 with ⟨rfl,rfl⟩|⟨g,cap,cur,rfl,_,_,hnc,_⟩
    ·simp[Builtin.append_,run_underlying ht,sizeOf,typeInfo,hi,Builtin.lenOf,Builtin.firstCells]
    ·simp[Builtin.append_,run_underlying ht,sizeOf,typeInfo,hi,Builtin.lenOf,Builtin.firstCells,hnc,storeCells]
   unfold Oper.wp execOp
   simp only[ho,resolve,invoke,builtin,Sem.run_bind,Sem.run_pure,Result.andThen_ok,List.map_toArray,List.map_cons,List.map_nil,hs,hx,hrun]
   exact hK _ _ (h v w (by simpa using hown) (Below.refl _ _) ⟨rfl,rfl,rfl,Nat.le_refl _,λ_ _ _=>rfl⟩)
  ·exact wpList_append_own w hgd s x t ho base e i z size bytes ht hi hz hsize hby hzs hsz v n xs hs hown ad 0 c [] hx hl (by simp) (by simp) h63 hbytes hbase (λv' w' a b _=>h v' w' a (below b) b)
 ·exact wpList_append_own w hgd s x t ho base e i z size bytes ht hi hz hsize hby hzs hsz v n xs hs hown ⟨g,off,none⟩ m c news hx hl (λj u hu=>by rw[aR];exact hc j u hu) h1 h63 hbytes hbase (λv' w' a b _=>h v' w' a (below b) b)
theorem Rd.grown {w w':World} {row:Option Nat} {A:Option Addr} {xs:List Value} (h:Rd w A xs) (hg:w.grownBy w' row) (hA:∀a,A=some a->some a.block≠row):Rd w' A xs:=by
 rcases h with h0|⟨b,o,rfl,hx⟩
 ·exact .inl h0
 ·exact .inr ⟨b,o,rfl,λj u hu=>hg.cell (hx j u hu) (hA ⟨b,o,none⟩ rfl)⟩
theorem qP {P:Program} {w:World} {t:TypeId} {g:Nat} {ty:TypeId} {cur vs:Array Value} (hi:(P.info? t).map (·.size)=some vs.size) (hg:w.heap[g]?=some (.cells cur ty (0,0))) (hl:vs.size=cur.size) (h1:vs.toList.all (·.oneCell')=true) :
  (Instr.storeAt t (.pointer (some ⟨g,0,none⟩)) (.agg vs)).run P w=.ok () (w.setRow g vs):=by
 obtain⟨i,hi1,hi2⟩:=Option.map_eq_some_iff.1 hi
 have hs:∀w,(sizeOf t).run P w=.ok vs.size w:=λw=>by simp[sizeOf,typeInfo,hi1,hi2]
 have h:=run_storeCells_from (P:=P) g ty vs.toList 0 cur w hg (by simp[hl]) (λv hv=>List.all_eq_true.1 h1 v hv)
 simp only[List.take_zero,List.nil_append,Array.toArray_toList]at h
 unfold Instr.storeAt storeVar
 simp[Instr.sureAddr,hs,Value.cells,Result.andThen,h]
theorem wpList_store_row {P:Program} {w:World} {ops:Array Oper} {rest:List Oper} {o:Oper} {a:Act} {Q:Exit->Act->World->Prop}
  (hgd:o.guard=none) (t:TypeId) (ad x:Operand) (hop:o.op=Op.store t ad x) {g:Nat} {ty:TypeId} {cur vs:Array Value} (had:a.eval ad=.pointer (some ⟨g,0,none⟩)) (hx:a.eval x=.agg vs)
  (hi:(P.info? t).map (·.size)=some vs.size) (hg:w.heap[g]?=some (.cells cur ty (0,0))) (hl:vs.size=cur.size) (h1:vs.toList.all (·.oneCell')=true)
  (hQ:wpList P ops Q rest (a.put o.dst undef) (w.setRow g vs)):wpList P ops Q (o::rest) a w:=by
 refine wpList_plain hgd λK hK=>?_
 have hrun:=qP (P:=P) (w:=w) hi hg hl h1
 unfold Oper.wp
 simp[execOp,hop,had,hx,hrun,Result.andThen]
 exact hK _ _ hQ
def RpV (l:List UInt8) (v:Value) (w:World):Prop:=
 if l=[] then v=.slice none 0 0 else ∃g c cur fz,v=.slice (some ⟨g,0,none⟩) 2 c/\w.heap[g]?=some (Obj.cells cur 5 fz)/\l.length=2/\∀(j:Nat) (x:UInt8),l[j]?=some x->cur[j]?=some (Value.int .u8 (x.toNat:Int))
abbrev rpS (m:Nat):List Value:=(List.range m).map λi=>Value.string ⟨#[rpN i]⟩
structure Bsr (B b k m:Nat) (w:World):Prop where
 ge:B<=b
 blk:∃cs:Array Value,w.heap[b]?=some (Obj.cells cs 386 (0,0))/\cs.size=257/\(∀j,j<256->∃v,cs[j]?=some v/\RpV (rpT k j) v w)/\∃v,cs[256]?=some v/\w.ownsRow B 9 1 v m (rpS m)
theorem bz {w:World} {B:Nat} {e:TypeId} {s:Nat} {v:Value} {n:Nat} {xs:List Value} (h:w.ownsRow B e s v n xs) {b:Nat} {cs:Array Value} {T:TypeId} {fz:Nat × Nat}
  (hb:w.heap[b]?=some (Obj.cells cs T fz)) (hT:T≠e):v.ownBlock≠some b:=by
 intro e1
 rcases h.2 with ⟨rfl,_⟩|⟨g,cap,cur,rfl,_,hg,_⟩
 ·simp[Value.ownBlock]at e1
 ·simp[Value.ownBlock]at e1
  subst e1
  rw[hb]at hg
  injection hg with hg;injection hg with _ hg
  exact hT hg
theorem RpV.keep {l:List UInt8} {v:Value} {w w':World} (h:RpV l v w) (hk:∀(g:Nat) (cur:Array Value) (fz:Nat × Nat),w.heap[g]?=some (Obj.cells cur 5 fz)->w'.heap[g]?=some (Obj.cells cur 5 fz)):RpV l v w':=by
 unfold RpV at *
 split
 ·rename_i hl;rw[if_pos hl]at h;exact h
 ·rename_i hl;rw[if_neg hl]at h
  obtain⟨g,c,cur,fz,h1,h2,h3⟩:=h
  exact⟨g,c,cur,fz,h1,hk g cur fz h2,h3⟩
theorem Bsr.step {B b k m:Nat} {w w':World} (h:Bsr B b k m w) (hb:Below w.heap.size w w'):Bsr B b k m w':=by
 obtain⟨hge,cs,h1,h2,h3,v,h4,h5⟩:=h
 have keep:∀{g:Nat} {o:Obj},w.heap[g]?=some o->w'.heap[g]?=some o:=λhg=>by rw[hb.block _ (Array.getElem?_eq_some_iff.1 hg).1];exact hg
 refine⟨hge,cs,keep h1,h2,λj hj=>?_,v,h4,own_below h5 hb (Nat.le_refl _)⟩
 obtain⟨u,hu,hr⟩:=h3 j hj
 exact⟨u,hu,hr.keep λg cur fz hg=>keep hg⟩
theorem Bsr.named {B b k m:Nat} {w w':World} {v v':Value} {cs:Array Value} (hge:B<=b) (h1:w.heap[b]?=some (Obj.cells cs 386 (0,0))) (h2:cs.size=257) (h3:∀j,j<256->∃v,cs[j]?=some v/\RpV (rpT k j) v w)
  (own:w.ownsRow B 9 1 v m (rpS m)) (own':w'.ownsRow B 9 1 v' (m+1) (rpS (m+1))) (hg:w.grownBy w' v.ownBlock) :
  Bsr B b k (m+1) (w'.setCell ⟨b,256,none⟩ v'):=by
 have keep:∀{g:Nat} {cur:Array Value} {T:TypeId} {fz:Nat × Nat},w.heap[g]?=some (.cells cur T fz)->T≠9->w'.heap[g]?=some (.cells cur T fz):=λhh hT=>by
  rw[hg.block _ (Array.getElem?_eq_some_iff.1 hh).1 (λe=>bz own hh hT e.symm)];exact hh
 have hb':=keep h1 (by decide)
 refine⟨hge,cs.setIfInBounds 256 v',?_,by simpa using h2,λj hj=>?_,v',by simp[h2],?_⟩
 ·simp[World.setCell,Array.getElem?_modify,hb']
 ·obtain⟨u,hu,hr⟩:=h3 j hj
  refine⟨u,?_,hr.keep λg cur fz hh=>?_⟩
  ·rw[Array.getElem?_setIfInBounds,if_neg (by omega)];exact hu
  ·have h0:=keep hh (by decide)
   rw[Below.heap_setCell _ _ _ _ (show g≠b from λe=>?_)]
   ·exact h0
   ·subst e;rw[h1]at hh;injection hh with hh;injection hh with _ hh;revert hh;decide
 ·have hne:=bz own' hb' (by decide)
  refine⟨own'.1,own'.2.imp id ?_⟩
  rintro⟨g,cap,cur,rfl,hB,hh,r⟩
  refine⟨g,cap,cur,rfl,hB,?_,r⟩
  rw[Below.heap_setCell _ _ _ _ (show g≠b from λe=>hne (by simp[Value.ownBlock,e]))]
  exact hh
theorem Bsr.laid {B b k m:Nat} {w:World} (h:Bsr B b k m w) (hk:k<4) {g c:Nat} {cur:Array Value} {fz:Nat × Nat} (hg:w.heap[g]?=some (Obj.cells cur 5 fz))
  (hx:∀(j:Nat) (x:UInt8),(rpX (rpN k).toNat)[j]?=some x->cur[j]?=some (Value.int .u8 (x.toNat:Int))):Bsr B b (k+1) m (w.setCell ⟨b,(rpN k).toNat,none⟩ (.slice (some ⟨g,0,none⟩) 2 c)):=by
 obtain⟨hge,cs,h1,h2,h3,v,h4,h5⟩:=h
 have hn:(rpN k).toNat<256:=UInt8.toNat_lt _
 have hl:(rpX (rpN k).toNat).length=2:=by
  match k,hk with
  | 0,_=>rfl
  | 1,_=>rfl
  | 2,_=>rfl
  | 3,_=>rfl
 have keep:∀{g:Nat} {cur:Array Value} {T:TypeId} {fz:Nat × Nat} {b':Nat} {u:Value},w.heap[g]?=some (.cells cur T fz)->T≠386->(w.setCell ⟨b,b',none⟩ u).heap[g]?=some (.cells cur T fz):=λ{g} _ _ _ _ _ hh hT=>by
  rw[Below.heap_setCell _ _ _ _ (show g≠b from λe=>?_)]
  ·exact hh
  ·subst e;rw[h1]at hh;injection hh with hh;injection hh with _ hh;exact hT hh.symm
 refine⟨hge,cs.setIfInBounds (rpN k).toNat (.slice (some ⟨g,0,none⟩) 2 c),?_,by simpa using h2,λj hj=>?_,v,?_,?_⟩
 ·simp[World.setCell,Array.getElem?_modify,h1]
 ·rw[BE k j hk]
  by_cases e:j=(rpN k).toNat
  ·subst e
   rw[if_pos rfl]
   refine⟨.slice (some ⟨g,0,none⟩) 2 c,by rw[Array.getElem?_setIfInBounds,if_pos rfl,if_pos (by omega)],?_⟩
   unfold RpV
   rw[if_neg (λe=>by rw[e]at hl;cases hl)]
   exact⟨g,c,cur,fz,rfl,keep hg (by decide),hl,hx⟩
  ·rw[if_neg e]
   obtain⟨u,hu,hr⟩:=h3 j hj
   refine⟨u,?_,hr.keep λg cur fz hh=>keep hh (by decide)⟩
   rw[Array.getElem?_setIfInBounds,if_neg (Ne.symm e)];exact hu
 ·rw[Array.getElem?_setIfInBounds,if_neg (by omega)];exact h4
 ·refine⟨h5.1,h5.2.imp id ?_⟩
  rintro⟨g',cap,cur',rfl,hB,hh,r⟩
  exact⟨g',cap,cur',rfl,hB,keep hh (by decide),r⟩
theorem Bsr.low {B b k m:Nat} {w:World} (h:Bsr B b k m w) {j:Nat} (hj:j<256):∃v,w.cell? ⟨b,j,none⟩=some v/\RpV (rpT k j) v w:=by
 obtain⟨_,cs,h1,_,h3,_⟩:=h
 obtain⟨v,hv,hr⟩:=h3 j hj
 exact⟨v,by rw[Lib.cell_of_heap h1];exact hv,hr⟩
theorem Bsr.row {B b k m:Nat} {w:World} (h:Bsr B b k m w):∃v,w.cell? ⟨b,256,none⟩=some v/\w.ownsRow B 9 1 v m (rpS m):=by
 obtain⟨_,cs,h1,_,_,v,hv,ho⟩:=h
 exact⟨v,by rw[Lib.cell_of_heap h1];exact hv,ho⟩
theorem Bsr.fz {B b k m:Nat} {w:World} (h:Bsr B b k m w) (j:Nat):w.frozen? ⟨b,j,none⟩=false:=by
 obtain⟨_,cs,h1,_⟩:=h
 exact Lib.frozen_of_heap h1 j
end Go.Proofs.YtfcbghmbbjolcaaGreatDoor
