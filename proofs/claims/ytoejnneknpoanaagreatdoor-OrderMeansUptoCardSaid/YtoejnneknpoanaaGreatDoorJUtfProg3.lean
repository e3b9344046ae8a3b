/- Words on signs' bytes that the walks of the program and of t -/
import Derived.Test.YtoejnneknpoanaaGreatDoorJUtfMath
set_option maxHeartbeats 1000000
namespace Go.Proofs.YtoejnneknpoanaaGreatDoor
open Go Go.RowKit Um
def badS:ByteArray:=⟨#[60,62,34,123,125,124,94,96,92]⟩
abbrev from_ (s:ByteArray) (k:Nat):List UInt8:=s.data.toList.drop k
theorem from_length (s:ByteArray) (k:Nat):(from_ s k).length=s.size-k:=by simp[from_]
theorem nx_step (s:ByteArray) (k:Nat) (h:(nx (from_ s k)).2≠0):k+(nx (from_ s k)).2<=s.size/\(nx (from_ s k)).2<=4/\(nx (from_ s k)).1<=1114111:=by
 have h1:=nx_enc (from_ s k) h
 rw[from_length]at h1
 have h2:=h1.1
 rw[isB_iff]at h2
 omega
theorem bn_getD (s:ByteArray) (k:Nat):(s.data.toList.getD k 0).toNat=bn s k:=rfl
theorem spanHas (a b r:Int) (w:World) :
  Calls Tryz.prog 248 #[.agg #[.int .i32 a,.int .i32 b],.int .i32 r] w λe w'=>e=.returned (.bool (decide (a<=r) && decide (r<=b)))/\Below w.heap.size w w':=by
 go_enter Tryz.func248,Tryz.ntmps248
 go_wp2
 all_goals
  go_ret
  refine⟨by congr 2;simp[*];try omega,?_⟩
  repeat (first|exact Below.refl _ _|apply Below.drew|refine Below.alloc ?_ (Nat.le_refl _) _)
theorem among1 (a b r:Int) (p:Addr) (w:World) (hp:w.cell? p=some (.int .i32 r)) :
  Calls Tryz.prog 247 #[.agg #[.int .i32 a,.int .i32 b],.pointer (some p)] w λe w'=>e=.returned (.bool (decide (a<=r) && decide (r<=b)))/\Below w.heap.size w w':=by
 have hs:=λW=>spanHas a b r W
 have hlt:=cell_lt hp
 have hp2:∀o,(w.alloc o).cell? p=some (.int .i32 r):=λo=>by rw[World.cell?_alloc_lt w o p hlt];exact hp
 clear hp hlt
 generalize (decide (a<=r) && decide (r<=b))=q at hs
 go_enter Tryz.func247,Tryz.ntmps247
 go_wp2_with (go_at_call 248;refine(hs _).mono ?_;rintro e w1 ⟨rfl,hb⟩)
 go_ret
 exact⟨rfl,((Below.refl _ _).alloc (Nat.le_refl _) _).trans (hb.mono (by simp))⟩
theorem inB_hit (n:Int) (l:List Int) (k:Nat) (x y:Int) (hx:l[2*k]?=some x) (hy:l[2*k+1]?=some y) (h:(decide (x<=n) && decide (n<=y))=true) (H:inB n (l.drop (2*k))=inB n l):inB n l=true:=by
 rw[←H,inB_drop n x y l (2*k) hx hy,h];rfl
theorem inB_miss (n:Int) (l:List Int) (k:Nat) (x y:Int) (hx:l[2*k]?=some x) (hy:l[2*k+1]?=some y) (h:(decide (x<=n) && decide (n<=y))=false) (H:inB n (l.drop (2*k))=inB n l):inB n (l.drop (2*(k+1)))=inB n l:=by
 rw[←H,inB_drop n x y l (2*k) hx hy,h];rfl
theorem indexSpan (r:Int) (p:Addr) (l:List Int) (m:Nat) (A:Option Addr) (c:Nat) (w:World) (hm:l.length=2*m) (hl:m<=1000000) (hr:Rd w A (l.map (Value.int .i32))) (hp:w.cell? p=some (.int .i32 r)) :
  Calls Tryz.prog 279 #[.slice A m c,.func (.func 247) #[] #[.pointer (some p)]] w λe w'=>∃i:Int,e=.returned (.int .i64 i)/\decide (0<=i)=inB r l/\Below w.heap.size w w':=by
 have Hm:=Lib.hid hm
 clear hm
 go_enter Tryz.func279,Tryz.ntmps279
 go_wp2
 go_loopw [8] (λi wr=>∃k:Nat,k<=m/\i=.int .i64 k/\Below w.heap.size w wr/\Hid (inB r (l.drop (2*k))=inB r l)) (λi _=>m-(intOf i).toNat)
 case atStart=>exact⟨0,by omega,rfl,Below.refl _ _,by show _=_;simp⟩
 case round =>
  obtain⟨k,hk,rfl,hB,H⟩:=hrel
  by_cases hlt:k<m
  ·have hll:=Hm.out
   obtain⟨x,hx⟩:∃x,l[2*k]?=some x:=⟨_,List.getElem?_eq_getElem (by omega)⟩
   obtain⟨y,hy⟩:∃x,l[2*k+1]?=some x:=⟨_,List.getElem?_eq_getElem (by omega)⟩
   clear hll
   have hrr:=hr.below hB (Nat.le_refl _)
   obtain⟨g,o,rfl,hcc⟩:=hrr.resolve_left (by intro h;simp at h;subst h;simp at hx)
   have h0:=hcc (2*k) (.int .i32 x) (by simp[hx])
   have h1:=hcc (2*k+1) (.int .i32 y) (by simp[hy])
   have hpw:wr.cell? p=some (.int .i32 r):=by rw[hB.cell (cell_lt hp)];exact hp
   have ham:=λW h=>among1 x y r p W h
   have hit:=inB_hit r l k x y hx hy
   have miss:=inB_miss r l k x y hx hy
   have Hit:∀q,(decide (x<=r) && decide (r<=y))=q->Hid (q=true->inB r l=true):=λq e=>by subst e;exact λh=>hit h H.out
   have Miss:∀q,(decide (x<=r) && decide (r<=y))=q->Hid (q=false->inB r (l.drop (2*(k+1)))=inB r l):=λq e=>by subst e;exact λh=>miss h H.out
   clear hit miss hx hy hcc hrr hr
   rw[show o+2*k=o+k*2 from by omega]at h0
   rw[show o+(2*k+1)=o+k*2+1 from by omega]at h1
   replace Hit:=Hit _ rfl
   replace Miss:=Miss _ rfl
   generalize (decide (x<=r) && decide (r<=y))=q at ham Hit Miss
   cases q
   ·have miss:=Lib.hid (Miss.out rfl)
    clear Miss Hit
    go_wp2_with (go_at_call 247;refine(ham _ ?_).mono ?_;exact hpw;rintro e w1 ⟨rfl,hb⟩)
    go_roundw
    case rel=>exact⟨k+1,by omega,by go_num,hB.trans (hb.mono hB.size),miss⟩
    case measure=>simp[intOf];omega
   ·have hit:=Lib.hid (Hit.out rfl)
    go_wp2_with (go_at_call 247;refine(ham _ ?_).mono ?_;exact hpw;rintro e w1 ⟨rfl,hb⟩)
    go_ret
    exact⟨k,rfl,by rw[hit.out];simp,hB.trans (hb.mono hB.size)⟩
  ·have he:inB r l=false:=by
    rw[←H.out]
    exact inB_end r l (2*k) (by have:=Hm.out;omega)
   have He:=Lib.hid he
   clear he
   go_wp2
   go_ret
   exact⟨-1,rfl,by rw[He.out];rfl,hB⟩
theorem containsSpan (r:Int) (p:Addr) (l:List Int) (m:Nat) (A:Option Addr) (c:Nat) (w:World) (hm:l.length=2*m) (hl:m<=1000000) (hr:Rd w A (l.map (Value.int .i32))) (hp:w.cell? p=some (.int .i32 r)) :
  Calls Tryz.prog 246 #[.slice A m c,.func (.func 247) #[] #[.pointer (some p)]] w λe w'=>e=.returned (.bool (inB r l))/\Below w.heap.size w w':=by
 have hi:=indexSpan r p l m A c w hm hl hr hp
 clear hm hr hp
 go_enter Tryz.func246,Tryz.ntmps246
 go_wp2_with (go_at_call 279;refine hi.mono ?_;rintro e w1 ⟨i,rfl,hd,hb⟩;have Hd:=Lib.hid hd;clear hd)
 go_ret
 exact⟨by rw[←Hd.out];rfl,hb⟩
theorem among (r:Int) (l:List Int) (m:Nat) (A:Option Addr) (c:Nat) (w:World) (hm:l.length=2*m) (hl:m<=1000000) (hr:Rd w A (l.map (Value.int .i32))) :
  Calls Tryz.prog 211 #[.int .i32 r,.slice A m c] w λe w'=>e=.returned (.bool (inB r l))/\Below w.heap.size w w':=by
 have hc:=containsSpan r ⟨w.heap.size,0,none⟩ l m A c (w.alloc (.cells #[.int .i32 r] 21)) hm hl (hr.below ((Below.refl _ _).alloc (Nat.le_refl _) _) (Nat.le_refl _)) (World.cell?_alloc_new _ _ _ 0)
 clear hm hr
 go_enter Tryz.func211,Tryz.ntmps211
 go_wp2_with (go_at_call 246;refine hc.mono ?_;rintro e w1 ⟨rfl,hb⟩)
 go_ret
 exact⟨rfl,((Below.refl _ _).alloc (Nat.le_refl _) _).trans (hb.mono (by simp))⟩
def lowL:List Int:=[65,90,97,122,192,214,216,246,248,767,880,893,895,8191]
def highL:List Int:=[8204,8205,8304,8591,11264,12271,12289,55295,63744,64975,65008,65533,65536,983039]
theorem firstB_low (r:Int):firstB r=(inB r lowL || inB r highL):=by
 simp only[firstB,firstL,lowL,highL,inB,Bool.or_false,Bool.or_assoc]
theorem utfFirst (r:Int) (w:World) :
  Calls Tryz.prog 244 #[.int .i32 r] w λe w'=>e=.returned (.bool (firstB r))/\Below w.heap.size w w':=by
 have ha:=λ(l:List Int) (hl:l.length=14) (g:Nat) (W:World) h=>among r l 7 (some ⟨g,0,none⟩) 7 W hl (by decide) h
 rw[firstB_low]
 go_enter Tryz.func244,Tryz.ntmps244
 have h1:=ha lowL rfl
 have h2:=ha highL rfl
 clear ha
 generalize inB r lowL=q1 at h1
 generalize inB r highL=q2 at h2
 cases q1
 ·go_wp2_with fail
  refine(h1 w.heap.size _ ?_).mono ?_
  exact Rd.of_block (heap_two_1 w _ _) rfl
  rintro e w1 ⟨rfl,hb⟩
  go_wp2_with fail
  refine(h2 (w.heap.size+1) _ ?_).mono ?_
  exact(Rd.of_block (heap_two_2 w _ _) rfl).below hb (Nat.le_refl _)
  rintro e w2 ⟨rfl,hb2⟩
  go_wp2_with fail
  go_ret
  refine⟨by simp,?_⟩
  exact((((Below.refl _ _).alloc (Nat.le_refl _) _).alloc (by simp) _).trans (hb.mono (by simp;omega))).trans (hb2.mono (by have:=hb.size;simp at this;omega))
 ·go_wp2_with fail
  refine(h1 w.heap.size _ ?_).mono ?_
  exact Rd.of_block (heap_two_1 w _ _) rfl
  rintro e w1 ⟨rfl,hb⟩
  go_wp2_with fail
  go_ret
  refine⟨by simp,?_⟩
  exact((((Below.refl _ _).alloc (Nat.le_refl _) _).alloc (by simp) _).trans (hb.mono (by simp;omega)))
theorem utfDigit (r:Int) (w:World) :
  Calls Tryz.prog 214 #[.int .i32 r] w λe w'=>e=.returned (.bool (digitB r))/\Below w.heap.size w w':=by
 have hs:=λW=>spanHas 48 57 r W
 unfold digitB
 generalize (decide (48<=r) && decide (r<=57))=q at hs
 go_enter Tryz.func214,Tryz.ntmps214
 go_wp2_with (go_at_call 248;refine(hs _).mono ?_;rintro e w1 ⟨rfl,hb⟩)
 go_ret
 exact⟨rfl,hb⟩
theorem beginB_or (r:Int):beginB r=(firstB r || (r == 95) || (r == 58) || digitB r):=by
 rw[Bool.eq_iff_iff]
 simp only[beginB,beginL,digitB,inB,Bool.or_eq_true,Bool.and_eq_true,decide_eq_true_eq,beq_iff_eq,Bool.or_false]
 by_cases h:firstB r=true
 ·simp[h]
 ·have h':firstB r=false:=by simpa using h
  simp only[h',Bool.false_eq_true,false_or];omega
theorem letterB_or (r:Int):letterB r=(beginB r || (r == 45) || (r == 183) || inB r [768,879,8255,8256]):=by
 rw[Bool.eq_iff_iff]
 simp only[letterB,letterL,beginB,beginL,inB,Bool.or_eq_true,Bool.and_eq_true,decide_eq_true_eq,beq_iff_eq,Bool.or_false]
 by_cases h:firstB r=true
 ·simp[h]
 ·have h':firstB r=false:=by simpa using h
  simp only[h',Bool.false_eq_true,false_or];omega
theorem utfBegins (r:Int) (w:World) :
  Calls Tryz.prog 206 #[.int .i32 r] w λe w'=>e=.returned (.bool (beginB r))/\Below w.heap.size w w':=by
 have hf:=utfFirst r w
 have hd:=λW=>utfDigit r W
 rw[beginB_or]
 generalize firstB r=q1 at hf
 generalize digitB r=q2 at hd
 go_enter Tryz.func206,Tryz.ntmps206
 cases q1
 ·by_cases h1:r=95
  ·have h1':(r == 95)=true:=by simpa using h1
   rw[h1']
   clear h1
   go_wp2_with (go_at_call 244;refine hf.mono ?_;rintro e w1 ⟨rfl,hb⟩)
   go_ret
   exact⟨by simp,hb⟩
  ·have h1':(r == 95)=false:=by simpa using h1
   rw[h1']
   clear h1
   by_cases h2:r=58
   ·have h2':(r == 58)=true:=by simpa using h2
    rw[h2']
    clear h2
    go_wp2_with (go_at_call 244;refine hf.mono ?_;rintro e w1 ⟨rfl,hb⟩)
    go_ret
    exact⟨by simp,hb⟩
   ·have h2':(r == 58)=false:=by simpa using h2
    rw[h2']
    clear h2
    go_wp2_with (first
     | (go_at_call 244;refine hf.mono ?_;rintro e w1 ⟨rfl,hb⟩)
     | (go_at_call 214;refine(hd _).mono ?_;rintro e w2 ⟨rfl,hb2⟩))
    go_ret
    exact⟨by simp,hb.trans (hb2.mono hb.size)⟩
 ·go_wp2_with (go_at_call 244;refine hf.mono ?_;rintro e w1 ⟨rfl,hb⟩)
  go_ret
  exact⟨by simp,hb⟩
theorem utfLetter (r:Int) (w:World) :
  Calls Tryz.prog 209 #[.int .i32 r] w λe w'=>e=.returned (.bool (letterB r))/\Below w.heap.size w w':=by
 have hf:=utfBegins r w
 have ha:=λ(g:Nat) (W:World) h=>among r [768,879,8255,8256] 2 (some ⟨g,0,none⟩) 2 W rfl (by decide) h
 rw[letterB_or]
 generalize beginB r=q1 at hf
 generalize inB r [768,879,8255,8256]=q2 at ha
 go_enter Tryz.func209,Tryz.ntmps209
 cases q1
 ·by_cases h1:r=45
  ·have h1':(r == 45)=true:=by simpa using h1
   rw[h1']
   clear h1
   go_wp2_with (go_at_call 206;refine hf.mono ?_;rintro e w1 ⟨rfl,hb⟩)
   go_ret
   exact⟨by simp,hb⟩
  ·have h1':(r == 45)=false:=by simpa using h1
   rw[h1']
   clear h1
   by_cases h2:r=183
   ·have h2':(r == 183)=true:=by simpa using h2
    rw[h2']
    clear h2
    go_wp2_with (go_at_call 206;refine hf.mono ?_;rintro e w1 ⟨rfl,hb⟩)
    go_ret
    exact⟨by simp,hb⟩
   ·have h2':(r == 183)=false:=by simpa using h2
    rw[h2']
    clear h2
    go_wp2_with (first
     | (go_at_call 206;refine hf.mono ?_;rintro e w1 ⟨rfl,hb⟩)
     | (go_at_call 211;refine(ha _ _ ?_).mono ?_;exact Rd.of_block (heap_alloc_new w1 _) rfl;rintro e w2 ⟨rfl,hb2⟩))
    go_ret
    exact⟨by simp,(hb.alloc hb.size _).trans (hb2.mono (by have:=hb.size;simp;omega))⟩
 ·go_wp2_with (go_at_call 206;refine hf.mono ?_;rintro e w1 ⟨rfl,hb⟩)
  go_ret
  exact⟨by simp,hb⟩
theorem utfLabel1 (r:Int) (w:World) :
  Calls Tryz.prog 208 #[.int .i32 r] w λe w'=>e=.returned (.bool (mayB false r))/\Below w.heap.size w w':=by
 have hf:=utfLetter r w
 rw[show mayB false r=(letterB r || decide (r=46)) from rfl]
 generalize letterB r=q1 at hf
 go_enter Tryz.func208,Tryz.ntmps208
 cases q1
 ·by_cases h1:r=46
  ·have h1':(r == 46)=true:=by simpa using h1
   have h1'':decide (r=46)=true:=by simpa using h1
   rw[h1'']
   clear h1
   go_wp2_with (go_at_call 209;refine hf.mono ?_;rintro e w1 ⟨rfl,hb⟩)
   go_ret
   exact⟨by simp,hb⟩
  ·have h1':(r == 46)=false:=by simpa using h1
   have h1'':decide (r=46)=false:=by simpa using h1
   rw[h1'']
   clear h1
   go_wp2_with (go_at_call 209;refine hf.mono ?_;rintro e w1 ⟨rfl,hb⟩)
   go_ret
   exact⟨by simp,hb⟩
 ·go_wp2_with (go_at_call 209;refine hf.mono ?_;rintro e w1 ⟨rfl,hb⟩)
  go_ret
  exact⟨by simp,hb⟩
theorem get!_getD (t:ByteArray) (i:Nat):t.get! i=t.data.toList.getD i 0:=by
 cases t with
 | mk d =>
  show d[i]! = _
  by_cases h:i<d.size
  ·simp[List.getD_eq_getElem?_getD,h]
  ·simp[List.getD_eq_getElem?_getD,h]
   rfl
theorem decodeGo_nx (s:ByteArray) (k:Nat) (_hk:k<=s.size) :
  (if (Lib.decodeGo (s.extract k s.size)).1=65533/\(Lib.decodeGo (s.extract k s.size)).2<2 then (0,0) else Lib.decodeGo (s.extract k s.size))=nx (from_ s k):=by
 have hl:(s.extract k s.size).data.toList=from_ s k:=by
  rw[extract_toList,from_,List.take_of_length_le]
  simp
 have hsz:(s.extract k s.size).size=s.size-k:=by simp[ByteArray.size_extract]
 have hfl:=from_length s k
 unfold Lib.decodeGo nx
 by_cases h0:s.size-k=0
 ·rw[hsz,if_pos h0,hfl,if_pos h0,if_pos ⟨rfl,by decide⟩]
 ·rw[hsz,if_neg h0,hfl,if_neg h0,Lib.decode_at,hsz]
  simp only[get!_getD,hl,Nat.sub_zero,Nat.zero_add]
  have hp:=decodeN_pos (s.size-k) ((from_ s k).getD 0 0).toNat ((from_ s k).getD 1 0).toNat ((from_ s k).getD 2 0).toNat ((from_ s k).getD 3 0).toNat
  generalize Lib.decodeN (s.size-k) ((from_ s k).getD 0 0).toNat ((from_ s k).getD 1 0).toNat ((from_ s k).getD 2 0).toNat ((from_ s k).getD 3 0).toNat=d at hp
  by_cases hd:d=(65533,1)
  ·rw[if_pos hd,if_pos (by rw[hd];exact⟨rfl,by decide⟩)]
  ·rw[if_neg hd,if_neg]
   intro ⟨h1,h2⟩
   exact hd (Prod.ext h1 (by show d.2=1;omega))
theorem utfAt (s:ByteArray) (k:Nat) (w:World) (hC:Ctx w) (hk:k<=s.size) (_hs:s.size<=281474976710656) :
  Calls Tryz.prog 245 #[.agg #[.string s],.int .i64 k] w λe w'=>e=.returned (.tuple #[.int .i32 (nx (from_ s k)).1,.int .i64 (nx (from_ s k)).2])/\Below w.heap.size w w':=by
 have hdec:=Tryz.utf8_DecodeRuneInString (s.extract k s.size) (w.alloc (.cells #[.string s] 241)) (hC.step ((Below.refl _ _).alloc (Nat.le_refl _) _)).tabs
 have hn:=decodeGo_nx s k hk
 rw[←hn]
 clear hn hC
 generalize Lib.decodeGo (s.extract k s.size)=d at hdec
 obtain⟨x,n⟩:=d
 simp only at hdec
 have fin:∀{w1:World},Below (w.alloc (.cells #[.string s] 241)).heap.size (w.alloc (.cells #[.string s] 241)) w1->Below w.heap.size w w1:=λh=>((Below.refl _ _).alloc (Nat.le_refl _) _).trans (h.mono (by simp))
 by_cases h1:x=65533
 ·have h1':((x:Int) == 65533)=true:=by simp;omega
  by_cases h2:n<2
  ·rw[if_pos ⟨h1,h2⟩]
   clear h1
   go_enter Tryz.func245,Tryz.ntmps245
   go_wp2_with (go_at_call 215;refine hdec.mono ?_;rintro e w1 ⟨rfl,hb⟩)
   go_ret2
   exact⟨rfl,fin hb⟩
  ·rw[if_neg (λh=>h2 h.2)]
   clear h1
   go_enter Tryz.func245,Tryz.ntmps245
   go_wp2_with (go_at_call 215;refine hdec.mono ?_;rintro e w1 ⟨rfl,hb⟩)
   go_ret2
   exact⟨rfl,fin hb⟩
 ·have h1':((x:Int) == 65533)=false:=by simp;omega
  rw[if_neg (λh=>h1 h.1)]
  clear h1
  go_enter Tryz.func245,Tryz.ntmps245
  go_wp2_with (go_at_call 215;refine hdec.mono ?_;rintro e w1 ⟨rfl,hb⟩)
  go_ret2
  exact⟨rfl,fin hb⟩
def CurAt (w:World) (g:Nat) (s:ByteArray) (k:Nat):Prop:=w.heap[g]?=some (.cells #[.string s,.int .i64 k] 243 (0,0))
theorem CurAt.c0 {w:World} {g:Nat} {s:ByteArray} {k:Nat} (h:CurAt w g s k):w.cell? ⟨g,0,none⟩=some (.string s):=by
 unfold CurAt at h;simp[World.cell?,h]
theorem CurAt.c1 {w:World} {g:Nat} {s:ByteArray} {k:Nat} (h:CurAt w g s k):w.cell? ⟨g,1,none⟩=some (.int .i64 k):=by
 unfold CurAt at h;simp[World.cell?,h]
theorem CurAt.fz {w:World} {g:Nat} {s:ByteArray} {k:Nat} (h:CurAt w g s k) (i:Nat):w.frozen? ⟨g,i,none⟩=false:=by
 unfold CurAt at h;simp[World.frozen?,h]
theorem CurAt.lt {w:World} {g:Nat} {s:ByteArray} {k:Nat} (h:CurAt w g s k):g<w.heap.size:=cell_lt h.c0
theorem CurAt.below {w w':World} {g:Nat} {s:ByteArray} {k:Nat} (h:CurAt w g s k) {B:Nat} (hb:Below B w w') (hB:w.heap.size<=B):CurAt w' g s k:=by
 unfold CurAt
 rw[hb.block g (by have:=h.lt;omega)];exact h
theorem CurAt.set {w:World} {g:Nat} {s:ByteArray} {k:Nat} (h:CurAt w g s k) (k':Nat):CurAt (w.setCell ⟨g,1,none⟩ (.int .i64 k')) g s k':=by
 unfold CurAt at *
 simp[World.setCell,Array.getElem?_modify,h]
theorem only_set {a w:World} {g:Nat} (h:Below a.heap.size a w) (_hg:g<a.heap.size) (i:Nat) (u:Value):a.grownBy (w.setCell ⟨g,i,none⟩ u) (some g):=
 ⟨h.os,h.tape,h.output,by simpa[World.setCell] using h.size,λj hj hne=>(Below.heap_setCell w ⟨g,i,none⟩ u j (λe=>hne (by rw[e]))).trans (h.block j hj)⟩
theorem curNext (s:ByteArray) (k g:Nat) (w:World) (hC:Ctx w) (hc:CurAt w g s k) (hk:k<=s.size) (hs:s.size<=281474976710656) :
  Calls Tryz.prog 207 #[.pointer (some ⟨g,0,none⟩)] w λe w'=>e=.returned (.tuple #[.int .i32 (nx (from_ s k)).1,.bool (decide (0<(nx (from_ s k)).2))]) /\
   w.grownBy w' (some g)/\CurAt w' g s (k+(nx (from_ s k)).2):=by
 have hat:=λW h=>utfAt s k W h hk hs
 have hk4:(nx (from_ s k)).2<=4:=by
  by_cases h0:(nx (from_ s k)).2=0
  ·omega
  ·exact(nx_step s k h0).2.1
 generalize (nx (from_ s k)).1=x at hat
 generalize (nx (from_ s k)).2=n at hat hk4
 have hw0:∀(d:Nat) (os:Array Obj),(Sort.grow (redrawn w d) os).cell? ⟨g,0,none⟩=some (.string s):=λd os=>cell_regrown hc.c0 d os
 have hw1:∀(d:Nat) (os:Array Obj),(Sort.grow (redrawn w d) os).cell? ⟨g,1,none⟩=some (.int .i64 k):=λd os=>cell_regrown hc.c1 d os
 have Hc:=Lib.hid hc
 clear hc
 go_enter Tryz.func207,Tryz.ntmps207
 go_wp2
 refine Rg.wp_region_plan [(true,[0,1,2,3,4,5,6,7]),(false,[8]),(true,[9,10,11,12,13])] _ (by kernel_rfl) (by kernel_rfl)
  (by simp only[List.map_cons,List.map_nil,Rg.pickOps,List.getElem?_toArray,List.getElem?_cons_zero,List.getElem?_cons_succ,Option.getD_some];rfl) (λK hK=>?_)
 refine Rg.plan_quiet ?_
 iterate 8 go_big_quiet_step (fail)
 refine wpQuiet_nil (Rg.plan_chain ?_)
 clear hw0 hw1
 intro W1 hW1
 go_wp2_with (go_at_call 245;refine(hat _ ?_).mono ?_;exact hC.step hW1;rintro e w2 ⟨rfl,hb⟩)
 refine⟨hb,Rg.plan_quiet ?_⟩
 iterate 5 go_big_quiet_step (fail)
 refine wpQuiet_nil (Rg.plan_end ?_)
 intro W4 hW4
 refine hK _ _ ?_
 clear hK hat
 have hall:Below w.heap.size w W4:=Rg.tr hW1 (Rg.tr hb hW4)
 have hc4:=Hc.out.below hall (Nat.le_refl _)
 have f0:=hc4.c0
 have f1:=hc4.c1
 have f2:=hc4.fz 1
 have Hc4:=Lib.hid hc4
 clear hc4
 go_wp2
 go_ret2
 have e1:((k:Int)+(n:Int))=((k+n:Nat):Int):=by omega
 refine⟨?_,only_set hall Hc.out.lt 1 _,?_⟩
 ·congr 3
 ·rw[e1];exact Hc4.out.set (k+n)
theorem below_grown {B g:Nat} {a w w':World} (h:Below B a w) (hg:w.grownBy w' (some g)) (hB:B<=w.heap.size) (hgB:B<=g):Below B a w':=
 h.grown hg hB (λk hk=>by injection hk with hk;omega)
end Go.Proofs.YtoejnneknpoanaaGreatDoor
