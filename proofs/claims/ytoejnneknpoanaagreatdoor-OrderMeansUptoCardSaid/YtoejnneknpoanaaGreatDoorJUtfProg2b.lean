/- A text written as an IRI, sign by sign. The program's term.w -/
import Derived.Test.YtoejnneknpoanaaGreatDoorJTxMath
import Derived.Test.YtoejnneknpoanaaGreatDoorJWrt
set_option maxHeartbeats 4000000
set_option maxRecDepth 100000
namespace Go.Proofs.YtoejnneknpoanaaGreatDoor.Tx
open Go Go.RowKit Um Fm Lx
theorem esc_high {c:UInt8} (h:128<=c.toNat):escC c=false:=by
 unfold escC
 rw[decide_eq_false (by omega)];rfl
theorem iriL_app (a b:List UInt8):iriL (a++b)=iriL a++iriL b:=List.flatMap_append
theorem iriL_high:∀l:List UInt8,(∀b∈l,128<=b.toNat)->iriL l=l
 | [],_=>rfl
 | c::t,h=>by
  have e:iriL (c::t)=iriC c++iriL t:=by unfold iriL;rw[List.flatMap_cons]
  have e2:iriC c=[c]:=by unfold iriC;rw[esc_high (h c (by simp))];rfl
  rw[e,e2,iriL_high t (λb hb=>h b (by simp[hb]))];rfl
theorem enc_high {r:Int} (h:128<=r):∀b∈Lib.encodeRune r,128<=b.toNat:=by
 intro b hb
 unfold Lib.encodeRune at hb
 obtain⟨x,hx,rfl⟩:=List.mem_map.1 hb
 have h1:=Lib.encodeRuneZ_byte r x hx
 have h2:128<=x:=by
  unfold Lib.encodeRuneZ at hx
  repeat' split at hx
  all_goals simp at hx;omega
 have h3:x.toNat.toUInt8.toNat=x.toNat:=by
  show (UInt8.ofNat x.toNat).toNat=_
  rw[UInt8.toNat_ofNat'];omega
 omega
def iriR (r:Nat):List UInt8:=if rawB (r:Int) then Lib.encodeRune (r:Int) else [92,117,48,48,hxD (r / 16),hxD (r % 16)]
theorem iri_step {l:List UInt8} (hne:l≠[]) (hv:Lib.validD l=true) :
  iriL l=iriR (Lib.decodeL l).1++iriL (l.drop (Lib.decodeL l).2)/\(rawB ((Lib.decodeL l).1:Int)=false->(Lib.decodeL l).1<128)/\Lib.validD (l.drop (Lib.decodeL l).2)=true/\1<=(Lib.decodeL l).2/\(Lib.decodeL l).2<=l.length/\(iriR (Lib.decodeL l).1).length<=6*(Lib.decodeL l).2:=by
 rw[Lib.validD_step l hne]at hv
 have hl:0<l.length:=List.length_pos_iff.2 hne
 split at hv
 ·cases hv
 rename_i hb
 have hw:=Lib.decodeL_width l
 have hle:=Lib.decodeL_le l hne
 have hnx:nx l=Lib.decodeL l:=by
  rw[Lib.decodeL_N]at hb ⊢
  unfold nx
  rw[if_neg (by omega),if_neg (λe=>hb (by rw[e];exact⟨rfl,rfl⟩))]
 obtain⟨hB,-,henc,-,-⟩:=nx_enc l (by rw[hnx];omega)
 rw[hnx]at hB henc
 generalize hd:Lib.decodeL l=d at *
 obtain⟨r,n⟩:=d
 simp only at *
 have hsplit:l=l.take n++l.drop n:=(List.take_append_drop n l).symm
 have hlen4:(Lib.encodeRune (r:Int)).length<=4:=by unfold Lib.encodeRune;rw[List.length_map];exact(Lib.encodeRuneZ_length _).2
 have hel:(Lib.encodeRune (r:Int)).length=n:=by rw[←henc,List.length_take];omega
 rcases Nat.lt_or_ge r 128 with hr|hr
 ·have e1:Lib.encodeRune (r:Int)=[UInt8.ofNat r]:=by
   unfold Lib.encodeRune
   rw[Lib.encodeRuneZ_one (by omega) (by omega)]
   simp
  have hn1:n=1:=by rw[e1]at hel;simpa using hel.symm
  have hc:(UInt8.ofNat r).toNat=r:=by rw[UInt8.toNat_ofNat'];omega
  refine⟨?_,λ_=>hr,hv,hw,hle,?_⟩
  ·conv=>lhs;rw[hsplit,henc,e1]
   rw[iriL_app]
   congr 1
   unfold iriR iriL
   rw[List.flatMap_cons,List.flatMap_nil,List.append_nil]
   unfold iriC escC
   rw[hc,decide_eq_true hr,Bool.true_and]
   cases rawB (r:Int)
   ·rfl
   ·rw[if_neg (by simp),if_pos rfl,e1]
  ·unfold iriR;split
   ·omega
   ·simp;omega
 ·have hraw:rawB (r:Int)=true:=by
   unfold rawB
   rw[hB,decide_eq_true (by omega:(32:Int)<r)]
   have:badL.contains (r:Int)=false:=by
    unfold badL
    simp;omega
   rw[this];rfl
  refine⟨?_,λh=>(by rw[hraw]at h;cases h),hv,hw,hle,?_⟩
  ·conv=>lhs;rw[hsplit,henc]
   rw[iriL_app]
   congr 1
   unfold iriR
   rw[hraw,if_pos rfl]
   exact iriL_high _ (enc_high (by omega))
  ·unfold iriR;rw[hraw,if_pos rfl];omega
theorem iriL_nil:iriL []=[]:=rfl
theorem iriL_len:∀l:List UInt8,(iriL l).length<=6*l.length
 | []=>by simp[iriL]
 | c::t=>by
  have e:iriL (c::t)=iriC c++iriL t:=by unfold iriL;rw[List.flatMap_cons]
  have h1:(iriC c).length<=6:=by unfold iriC;split<;>simp
  have:=iriL_len t
  rw[e,List.length_append,List.length_cons];omega
theorem litL_len:∀l:List UInt8,(litL l).length<=2*l.length
 | []=>by simp[litL]
 | c::t=>by
  have e:litL (c::t)=litC c++litL t:=by unfold litL;rw[List.flatMap_cons]
  have h1:(litC c).length<=2:=by unfold litC;(repeat' split);all_goals simp
  have:=litL_len t
  rw[e,List.length_append,List.length_cons];omega
end Go.Proofs.YtoejnneknpoanaaGreatDoor.Tx
namespace Go.Proofs.YtoejnneknpoanaaGreatDoor
open Go Go.RowKit Um Fm Tx
theorem wTy:WTy 174 2:=⟨by kernel_rfl,by decide⟩
abbrev WI (B b:Nat) (acc:List UInt8) (w:World):Prop:=WIs 174 [] B b (Lib.byteCells acc) w
theorem wWrite (B b:Nat) (acc:List UInt8) (s:ByteArray) (w:World) (h:WI B b acc w) (ha:acc.length<=1000000000) (hs:s.size<=1000000000) (hBw:B<=w.heap.size) :
  Calls Tryz.prog 138 #[.pointer (some ⟨b,0,none⟩),.string s] w λe w'=>(∃u,e=.returned u)/\WI B b (acc++s.data.toList) w'/\Below B w w'/\OK8 b w w':=by
 refine(wString wTy B b _ s w h (by rw[Lib.byteCells_length];omega) hBw).mono ?_
 rintro e w' ⟨rfl,h1,h2,h3⟩
 rw[Lib.strCells_eq,←Lib.byteCells_append]at h1
 exact⟨⟨_,rfl⟩,.inr h1,h2,h3⟩
theorem wWriteRune (B b:Nat) (acc:List UInt8) (r:Nat) (hr:r<=1114111) (w:World) (h:WI B b acc w) (ha:acc.length<=1000000000) (hBw:B<=w.heap.size) :
  Calls Tryz.prog 181 #[.pointer (some ⟨b,0,none⟩),.int .i32 r] w λe w'=>(∃u,e=.returned u)/\WI B b (acc++Lib.encodeRune r) w'/\Below B w w'/\OK8 b w w':=by
 refine(wRune wTy B b _ r (by omega) (by omega) w h (by rw[Lib.byteCells_length];omega) hBw).mono ?_
 rintro e w' ⟨rfl,h1,h2,h3⟩
 rw[←Lib.byteCells_encodeRune,←Lib.byteCells_append]at h1
 exact⟨⟨_,rfl⟩,.inr h1,h2,h3⟩
theorem flat_le (l:List ByteArray) (k m:Nat) (hz:∀s∈l,s.size<=m) (hk:k<=l.length):((l.take k).flatMap λs=>s.data.toList).length<=k*m:=by
 induction k with
 | zero=>simp
 | succ k ih =>
  have hlt:k<l.length:=by omega
  rw[List.take_add_one,List.getElem?_eq_getElem hlt,Option.toList_some,List.flatMap_append,List.length_append]
  have h1:=ih (by omega)
  have h2:=hz l[k] (List.getElem_mem hlt)
  have h3:((([l[k]]:List ByteArray).flatMap λs=>s.data.toList)).length=l[k].size:=by
   rw[List.flatMap_cons,List.flatMap_nil,List.append_nil,size_toList]
  rw[h3,Nat.succ_mul];omega
theorem wPieces (B b g:Nat) (acc:List UInt8) (l:List ByteArray) (c:Nat) (w:World) (h:WI B b acc w) (hA:w.heap[g]?=some (.cells (l.map Value.string).toArray 9 (0,0))) (hg:g≠b)
  (hl:l.length<=4) (hlen:acc.length<=100000000) (hz:∀s∈l,s.size<=100000000) (hBw:B<=w.heap.size) :
  Calls Tryz.prog 145 #[.pointer (some ⟨b,0,none⟩),.slice (some ⟨g,0,none⟩) l.length c] w λe w' =>
   e=.returned (.pointer (some ⟨b,0,none⟩))/\WI B b (acc++l.flatMap λs=>s.data.toList) w'/\Below B w w'/\OK8 b w w':=by
 go_enter Tryz.func145,Tryz.ntmps145
 go_wp2
 go_loopw [9] (λi wr=>∃k:Nat,k<=l.length/\i=.int .i64 k/\Hid (WI B b (acc++(l.take k).flatMap λs=>s.data.toList) wr)/\Hid (OK8 b w wr)/\Below B w wr) (λi _=>l.length-(intOf i).toNat)
 case atStart=>exact⟨0,by omega,rfl,by show WI B b _ w;simpa using h,Lib.OthersKept.refl _ _ _,Below.refl _ _⟩
 case round =>
  obtain⟨k,hk,rfl,HW,HO,hB⟩:=hrel
  by_cases hlt:k<l.length
  ·obtain⟨y,hx⟩:∃x,l[k]?=some x:=⟨_,List.getElem?_eq_getElem hlt⟩
   have hblk:=HO.out g _ hA (by simpa using hg) (by intro c fz e;cases e)
   have hcx:wr.cell? ⟨g,k,none⟩=some (.string y):=by rw[Lib.cell_of_heap hblk];simp[hx]
   have hy:=hz y (List.mem_of_getElem? hx)
   have hfl:=flat_le l k 100000000 hz (by omega)
   have hww:=wWrite B b _ y wr HW.out (by rw[List.length_append];omega) (by omega) (Nat.le_trans hBw hB.size)
   have e2:(l.take (k+1)).flatMap (λs=>s.data.toList)=(l.take k).flatMap (λs=>s.data.toList)++y.data.toList:=by
    rw[List.take_add_one,hx,Option.toList_some,List.flatMap_append];simp
   rw[List.append_assoc,←e2]at hww
   clear HW hx hblk e2 hfl h hz
   go_wp2_with (go_at_call 138;refine hww.mono ?_;rintro e w2 ⟨⟨u,rfl⟩,h1,h2,h3⟩)
   go_roundw
   case rel=>exact⟨k+1,by omega,by go_num,h1,HO.out.trans h3,hB.trans h2⟩
   case measure=>simp[intOf];omega
  ·have e2:(l.take k).flatMap (λs=>s.data.toList)=l.flatMap (λs=>s.data.toList):=by rw[List.take_of_length_le (by omega)]
   rw[e2]at HW
   clear e2 h hz
   go_wp2
   go_ret
   exact⟨rfl,HW.out,hB,HO.out⟩
def hxd (d:Nat):UInt8:=if d<10 then UInt8.ofNat (48+d) else UInt8.ofNat (87+d)
def TzV (w:World):Prop:=w.cell? ⟨6,15,none⟩=some (.int .u8 4)
theorem TzV.step {w w':World} (h:TzV w) (hb:Below w.heap.size w w'):TzV w':=by
 unfold TzV at *
 rw[hb.cell (cell_lt h)];exact h
theorem tz64 (w:World) (hT:TzV w):Calls Tryz.prog 295 #[.int .u64 16] w λe w'=>e=.returned (.int .i64 4)/\w=w':=by
 have hT':w.cell? ⟨6,15,none⟩=some (.int .u8 4):=hT
 have key:IntKind.u64.wrap (bits BinOp.and IntKind.u64 16 (IntKind.u64.wrap (-16))*285870213051353865) / 288230376151711744=15:=by decide
 clear hT
 go_enter Tryz.func295,Tryz.ntmps295
 go_wp2
 go_ret
 exact⟨rfl,rfl⟩
theorem tz (w:World) (hT:TzV w):Calls Tryz.prog 278 #[.int .u64 16] w λe w'=>e=.returned (.int .i64 4)/\w=w':=by
 have h:=tz64 w hT
 go_enter Tryz.func278,Tryz.ntmps278
 go_wp2_with (go_at_call 295;refine h.mono ?_;rintro e w2 ⟨rfl,rfl⟩)
 go_ret
 exact⟨rfl,rfl⟩
theorem isPow (w:World):Calls Tryz.prog 277 #[.int .i64 16] w λe w'=>e=.returned (.bool true)/\w=w':=by
 have key:bits BinOp.and IntKind.i64 16 15=0:=by decide
 go_enter Tryz.func277,Tryz.ntmps277
 go_wp2
 go_ret
 exact⟨rfl,rfl⟩
abbrev digS:ByteArray:=⟨#[48,49,50,51,52,53,54,55,56,57,97,98,99,100,101,102,103,104,105,106,107,108,109,110,111,112,113,114,115,116,117,118,119,120,121,122]⟩
theorem dig_str:∀d:Fin 16,strOfNums [(bn digS d.val:Int)]=⟨#[hxd d.val]⟩:=by decide
theorem fmtBits (d:Nat) (hd:d<16) (w:World) (hT:TzV w):Calls Tryz.prog 243 #[.slice none 0 0,.int .u64 d,.int .i64 16,.bool false,.bool false] w λe w'=>e=.returned (.tuple #[.slice none 0 0,.string ⟨#[hxd d]⟩])/\Below w.heap.size w w':=by
 have hp:=isPow
 have ht:=λW hb=>tz W (hT.step hb)
 clear hT
 go_enter Tryz.func243,Tryz.ntmps243
 go_wp2_with (first|(go_at_call 277;refine(hp _).mono ?_;rintro e w2 ⟨rfl,rfl⟩)|(go_at_call 278;refine(ht _ blw).mono ?_;rintro e w2 ⟨rfl,rfl⟩))
 have hrd:Rd (w.alloc (.cells ((Array.replicate 65 (.int .u8 0)).setIfInBounds 64 (.int .u8 (bn digS d))) 301)) (some ⟨w.heap.size,64,none⟩) ([(bn digS d:Int)].map (Value.int .u8)):=by
  refine .inr ⟨w.heap.size,64,rfl,λj u hu=>?_⟩
  cases j with
  | succ j=>simp at hu
  | zero =>
   simp only[List.map_cons,List.map_nil,List.getElem?_cons_zero,Option.some.injEq]at hu
   subst hu
   rw[Lib.cell_of_heap (heap_alloc_new w _)]
   simp
 have hcs:=run_conv_bytes (P:=Tryz.prog) (n:=1) (c:=1) 120 9 5 Tryz.underlying120 Tryz.underlying5 Tryz.underlying9 hrd rfl
 have hst:strOfNums [(bn digS d:Int)]=⟨#[hxd d]⟩:=dig_str ⟨d,hd⟩
 rw[hst]at hcs
 clear hst hrd
 have hB:Below w.heap.size w (w.alloc (.cells ((Array.replicate 65 (.int .u8 0)).setIfInBounds 64 (.int .u8 (bn digS d))) 301)):=blw
 have HB:=Lib.hid hB
 clear hB
 go_loopw [1,13] (λu i wr=>u=.int .u64 d/\i=.int .i64 65/\wr=w.alloc (.cells (Array.replicate 65 (.int .u8 0)) 301)) (λ_ _ _=>0)
 case atStart=>exact⟨rfl,rfl,rfl⟩
 case round =>
  obtain⟨rfl,rfl,rfl⟩:=hrel
  go_wp2
  go_ret2
  exact⟨rfl,HB.out⟩
theorem fmtInt (d:Nat) (hd:d<16) (w:World) (hT:TzV w):Calls Tryz.prog 183 #[.int .i64 d,.int .i64 16] w λe w'=>e=.returned (.string ⟨#[hxd d]⟩)/\Below w.heap.size w w':=by
 have h1:=fmtBits d hd w hT
 have h2:Calls Tryz.prog 204 #[.int .i64 d,.int .i64 16] w λe w'=>e=.returned (.string ⟨#[hxd d]⟩)/\Below w.heap.size w w':=by
  go_enter Tryz.func204,Tryz.ntmps204
  go_wp2_with (go_at_call 243;refine h1.mono ?_;rintro e w2 ⟨rfl,hb⟩)
  go_ret
  exact⟨rfl,hb⟩
 clear h1
 go_enter Tryz.func183,Tryz.ntmps183
 go_wp2_with (go_at_call 204;refine h2.mono ?_;rintro e w2 ⟨rfl,hb⟩)
 go_ret
 exact⟨rfl,hb⟩
theorem upper_dig:∀d:Fin 16,(hxd d.val).toNat<128/\Lib.toUpperA [hxd d.val]=[hxD d.val]:=by decide
theorem upDig (d:Nat) (hd:d<16) (w:World):Calls Tryz.prog 182 #[.string ⟨#[hxd d]⟩] w λe w'=>e=.returned (.string ⟨#[hxD d]⟩)/\Below w.heap.size w w':=by
 obtain⟨h1,h2⟩:=upper_dig ⟨d,hd⟩
 have h:=Tryz.strings_ToUpper_ascii ⟨#[hxd d]⟩ w (by show 1<=_;omega) (by
  intro j b hj
  cases j with
  | zero=>simp at hj;subst hj;exact h1
  | succ j=>simp at hj)
 rw[h2]at h
 exact h
theorem validRune_isB (n:Int) (h0:0<=n) (h1:n<=1114111):Lib.validRune n=isB n:=by
 simp[Lib.validRune,isB,h0,h1]
theorem utfIs (n:Int) (w:World) :
  Calls Tryz.prog 220 #[.int .i64 n] w λe w'=>e=.returned (.bool (isB n))/\w=w':=by
 have hv:=λW=>Tryz.utf8_ValidRune n W
 by_cases h0:0<=n
 ·by_cases h1:n<=1114111
  ·rw[validRune_isB n h0 h1]at hv
   generalize isB n=q at hv
   go_enter Tryz.func220,Tryz.ntmps220
   go_wp2_with (go_at_call 253;refine(hv _).mono ?_;rintro e w1 ⟨rfl,rfl⟩)
   go_ret
   exact⟨rfl,rfl⟩
  ·have hi:isB n=false:=by simp[isB];omega
   rw[hi]
   clear hi hv
   go_enter Tryz.func220,Tryz.ntmps220
   go_wp2
   go_ret
   exact⟨rfl,rfl⟩
 ·have hi:isB n=false:=by simp[isB];omega
  rw[hi]
  clear hi hv
  go_enter Tryz.func220,Tryz.ntmps220
  go_wp2
  go_ret
  exact⟨rfl,rfl⟩
theorem encode_enc (n:Int) (h:isB n=true):(Utf8.encode n).data.toList=Lib.encodeRune n:=by
 rw[isB_iff]at h
 have hv:Utf8.valid n=true:=by simp[Utf8.valid];omega
 unfold Utf8.encode
 simp only[hv,if_true]
 by_cases c1:n<=127
 ·rw[if_pos (by omega)]
  unfold Lib.encodeRune
  rw[Lib.encodeRuneZ_one (by omega) c1]
  simp[Nat.toUInt8]
 ·rw[if_neg (by omega)]
  by_cases c2:n<=2047
  ·rw[if_pos (by omega)]
   unfold Lib.encodeRune
   rw[Lib.encodeRuneZ_two (by omega) c2]
   simp only[List.map_cons,List.map_nil]
   rw[show (192+n / 64).toNat=192+n.toNat / 64 by omega,show (128+n % 64).toNat=128+n.toNat % 64 by omega]
  ·rw[if_neg (by omega)]
   by_cases c3:n<=65535
   ·rw[if_pos (by omega)]
    unfold Lib.encodeRune
    rw[Lib.encodeRuneZ_three (by omega)]
    simp only[List.map_cons,List.map_nil]
    rw[show (224+n / 4096).toNat=224+n.toNat / 4096 by omega,show (128+n / 64 % 64).toNat=128+n.toNat / 64 % 64 by omega,show (128+n % 64).toNat=128+n.toNat % 64 by omega]
   ·rw[if_neg (by omega)]
    unfold Lib.encodeRune
    rw[Lib.encodeRuneZ_four (by omega) (by omega)]
    simp only[List.map_cons,List.map_nil]
    rw[show (240+n / 262144).toNat=240+n.toNat / 262144 by omega,show (128+n / 4096 % 64).toNat=128+n.toNat / 4096 % 64 by omega,show (128+n / 64 % 64).toNat=128+n.toNat / 64 % 64 by omega,show (128+n % 64).toNat=128+n.toNat % 64 by omega]
theorem contains_head (s t:List UInt8) (b:UInt8) (h:s.contains b=false):Lib.contains s (b::t)=false:=by
 have:Lib.index s (b::t) = -1:=by
  refine Lib.index_none λj _=>?_
  unfold Lib.occAt
  cases hd:s.drop j with
  | nil=>rfl
  | cons c l =>
   have hc:c∈s:=List.mem_of_mem_drop (i:=j) (by rw[hd];exact List.mem_cons_self)
   have hne:(b == c)=false:=by
    cases hbc:b == c with
    | false=>rfl
    | true =>
     have:b=c:=by simpa using hbc
     subst this
     have:s.contains b=true:=by simpa using hc
     rw[this]at h;cases h
   show ((b == c) && t.isPrefixOf l)=false
   rw[hne];rfl
 unfold Lib.contains
 rw[this];rfl
def badU:List UInt8:=[60,62,34,123,125,124,94,96,92]
theorem badS_badU:badS.data.toList=badU:=rfl
theorem bad_low:∀n:Fin 128,Lib.contains badU [n.val.toUInt8]=badL.contains (n.val:Int):=by decide
theorem bad_contains (n:Int) (h:isB n=true):Lib.contains badU (Lib.encodeRune n)=badL.contains n:=by
 rw[isB_iff]at h
 by_cases c1:n<=127
 ·unfold Lib.encodeRune
  rw[Lib.encodeRuneZ_one (by omega) c1]
  have:=bad_low ⟨n.toNat,by omega⟩
  rw[show (((⟨n.toNat,by omega⟩:Fin 128).val:Nat):Int)=n by show ((n.toNat:Nat):Int)=n;omega]at this
  exact this
 ·have hb:badL.contains n=false:=by
   simp[badL];omega
  rw[hb]
  have hd:∃(b:UInt8) (t:List UInt8),Lib.encodeRune n=b::t/\128<=b.toNat:=by
   unfold Lib.encodeRune
   by_cases c2:n<=2047
   ·rw[Lib.encodeRuneZ_two (by omega) c2];exact⟨_,_,rfl,by simp;omega⟩
   ·by_cases c3:n<=65535
    ·rw[Lib.encodeRuneZ_three (by omega)];exact⟨_,_,rfl,by simp;omega⟩
    ·rw[Lib.encodeRuneZ_four (by omega) (by omega)];exact⟨_,_,rfl,by simp;omega⟩
  obtain⟨b,t,he,hb2⟩:=hd
  rw[he]
  apply contains_head
  simp only[badU]
  cases hc:List.contains [60,62,34,123,125,124,94,96,92] b with
  | false=>rfl
  | true =>
   exfalso
   simp at hc
   rcases hc with h|h|h|h|h|h|h|h|h<;>(subst h;revert hb2;decide)
theorem utfRaw (n:Int) (w:World) (hC:Ctx w) :
  Calls Tryz.prog 180 #[.int .i64 n] w λe w'=>e=.returned (.bool (rawB n))/\w=w':=by
 obtain⟨m,hm⟩:=hC.maxl
 have his:=utfIs n w
 have hsc:=λt=>Tryz.strings_Contains badS t m w (by decide) hm
 clear hC
 by_cases h1:32<n
 ·by_cases h2:isB n=true
  ·have hr:rawB n = !badL.contains n:=by simp[rawB,h1,h2]
   rw[hr]
   replace hsc:=hsc (Utf8.encode n)
   rw[encode_enc n h2,badS_badU,bad_contains n h2]at hsc
   rw[h2]at his
   rw[isB_iff]at h2
   obtain⟨⟨h3,h4⟩,h5⟩:=h2
   clear hr hm h5
   generalize badL.contains n=q at hsc
   unfold badS at hsc
   go_enter Tryz.func180,Tryz.ntmps180
   go_wp2_with (first
    | (go_at_call 220;refine his.mono ?_;rintro e w1 ⟨rfl,rfl⟩)
    | (go_at_call 221;refine hsc.mono ?_;rintro e w1 ⟨rfl,rfl⟩))
   go_ret
   exact⟨rfl,rfl⟩
  ·have h2:isB n=false:=by simpa using h2
   have hr:rawB n=false:=by simp[rawB,h2]
   rw[hr]
   rw[h2]at his
   clear hr hm hsc h2
   go_enter Tryz.func180,Tryz.ntmps180
   go_wp2_with (go_at_call 220;refine his.mono ?_;rintro e w1 ⟨rfl,rfl⟩)
   go_ret
   exact⟨rfl,rfl⟩
 ·have hr:rawB n=false:=by simp[rawB];omega
  rw[hr]
  clear hr hm hsc his
  go_enter Tryz.func180,Tryz.ntmps180
  go_wp2
  go_ret
  exact⟨rfl,rfl⟩
end Go.Proofs.YtoejnneknpoanaaGreatDoor
