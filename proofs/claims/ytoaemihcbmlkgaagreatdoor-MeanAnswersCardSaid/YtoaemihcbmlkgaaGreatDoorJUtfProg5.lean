/- Words on signs' bytes that the walks of the program and of t -/
import Derived.Test.YtoaemihcbmlkgaaGreatDoorJUtfMath
import Derived.Laws.EntriesVeiled
set_option maxHeartbeats 2000000
namespace Go.Proofs.YtoaemihcbmlkgaaGreatDoor
open Go Go.RowKit Um
def badS:ByteArray:=⟨#[60,62,34,123,125,124,94,96,92]⟩
abbrev from_ (s:ByteArray) (k:Nat):List UInt8:=s.data.toList.drop k
theorem from_length (s:ByteArray) (k:Nat):(from_ s k).length=s.size-k:=by simp[from_]
theorem nx_step (s:ByteArray) (k:Nat) (h:(nx (from_ s k)).2≠0):k+(nx (from_ s k)).2<=s.size/\(nx (from_ s k)).2<=4/\(nx (from_ s k)).1<=1114111:=by
 have h1:=nx_enc (from_ s k) h
 rw[from_length]at h1
 have h2:=h1.1
 rw[isB_iff]at h2
 omega
theorem bn_getD (s:ByteArray) (k:Nat):(s.data.toList.getD k 0).toNat=bn s k:=rfl
theorem spanHas (a b r:Int) (w:World) :
  Calls Tryz.prog 235 #[.agg #[.int .i32 a,.int .i32 b],.int .i32 r] w λe w'=>e=.returned (.bool (decide (a<=r) && decide (r<=b)))/\Below w.heap.size w w':=by
 go_enter Tryz.func235,Tryz.ntmps235
 go_wp2
 all_goals
  go_ret
  refine⟨by congr 2;simp[*];try omega,?_⟩
  repeat (first|exact Below.refl _ _|apply Below.drew|refine Below.alloc ?_ (Nat.le_refl _) _)
theorem among1 (a b r:Int) (p:Addr) (w:World) (hp:w.cell? p=some (.int .i32 r)) :
  Calls Tryz.prog 234 #[.agg #[.int .i32 a,.int .i32 b],.pointer (some p)] w λe w'=>e=.returned (.bool (decide (a<=r) && decide (r<=b)))/\Below w.heap.size w w':=by
 have hs:=λW=>spanHas a b r W
 have hlt:=cell_lt hp
 have hp2:∀o,(w.alloc o).cell? p=some (.int .i32 r):=λo=>by rw[World.cell?_alloc_lt w o p hlt];exact hp
 clear hp hlt
 generalize (decide (a<=r) && decide (r<=b))=q at hs
 go_enter Tryz.func234,Tryz.ntmps234
 go_wp2_with (go_at_call 235;refine(hs _).mono ?_;rintro e w1 ⟨rfl,hb⟩)
 go_ret
 exact⟨rfl,((Below.refl _ _).alloc (Nat.le_refl _) _).trans (hb.mono (by simp))⟩
theorem inB_hit (n:Int) (l:List Int) (k:Nat) (x y:Int) (hx:l[2*k]?=some x) (hy:l[2*k+1]?=some y) (h:(decide (x<=n) && decide (n<=y))=true) (H:inB n (l.drop (2*k))=inB n l):inB n l=true:=by
 rw[←H,inB_drop n x y l (2*k) hx hy,h];rfl
theorem inB_miss (n:Int) (l:List Int) (k:Nat) (x y:Int) (hx:l[2*k]?=some x) (hy:l[2*k+1]?=some y) (h:(decide (x<=n) && decide (n<=y))=false) (H:inB n (l.drop (2*k))=inB n l):inB n (l.drop (2*(k+1)))=inB n l:=by
 rw[←H,inB_drop n x y l (2*k) hx hy,h];rfl
theorem indexSpan (r:Int) (p:Addr) (l:List Int) (m:Nat) (A:Option Addr) (c:Nat) (w:World) (hm:l.length=2*m) (hl:m<=1000000) (hr:Rd w A (l.map (Value.int .i32))) (hp:w.cell? p=some (.int .i32 r)) :
  Calls Tryz.prog 266 #[.slice A m c,.func (.func 234) #[] #[.pointer (some p)]] w λe w'=>∃i:Int,e=.returned (.int .i64 i)/\decide (0<=i)=inB r l/\Below w.heap.size w w':=by
 have Hm:=Lib.hid hm
 clear hm
 go_enter Tryz.func266,Tryz.ntmps266
 go_wp2
 go_loopw [8] (λi wr=>∃k:Nat,k<=m/\i=.int .i64 k/\Below w.heap.size w wr/\Hid (inB r (l.drop (2*k))=inB r l)) (λi _=>m-(intOf i).toNat)
 case atStart=>exact⟨0,by omega,rfl,Below.refl _ _,by show _=_;simp⟩
 case round =>
  obtain⟨k,hk,rfl,hB,H⟩:=hrel
  by_cases hlt:k<m
  ·have hll:=Hm.out
   obtain⟨x,hx⟩:∃x,l[2*k]?=some x:=⟨_,List.getElem?_eq_getElem (by omega)⟩
   obtain⟨y,hy⟩:∃x,l[2*k+1]?=some x:=⟨_,List.getElem?_eq_getElem (by omega)⟩
   clear hll
   have hrr:=hr.below hB (Nat.le_refl _)
   obtain⟨g,o,rfl,hcc⟩:=hrr.resolve_left (by intro h;simp at h;subst h;simp at hx)
   have h0:=hcc (2*k) (.int .i32 x) (by simp[hx])
   have h1:=hcc (2*k+1) (.int .i32 y) (by simp[hy])
   have hpw:wr.cell? p=some (.int .i32 r):=by rw[hB.cell (cell_lt hp)];exact hp
   have ham:=λW h=>among1 x y r p W h
   have hit:=inB_hit r l k x y hx hy
   have miss:=inB_miss r l k x y hx hy
   have Hit:∀q,(decide (x<=r) && decide (r<=y))=q->Hid (q=true->inB r l=true):=λq e=>by subst e;exact λh=>hit h H.out
   have Miss:∀q,(decide (x<=r) && decide (r<=y))=q->Hid (q=false->inB r (l.drop (2*(k+1)))=inB r l):=λq e=>by subst e;exact λh=>miss h H.out
   clear hit miss hx hy hcc hrr hr
   rw[show o+2*k=o+k*2 from by omega]at h0
   rw[show o+(2*k+1)=o+k*2+1 from by omega]at h1
   replace Hit:=Hit _ rfl
   replace Miss:=Miss _ rfl
   generalize (decide (x<=r) && decide (r<=y))=q at ham Hit Miss
   cases q
   ·have miss:=Lib.hid (Miss.out rfl)
    clear Miss Hit
    go_wp2_with (go_at_call 234;refine(ham _ ?_).mono ?_;exact hpw;rintro e w1 ⟨rfl,hb⟩)
    go_roundw
    case rel=>exact⟨k+1,by omega,by go_num,hB.trans (hb.mono hB.size),miss⟩
    case measure=>simp[intOf];omega
   ·have hit:=Lib.hid (Hit.out rfl)
    go_wp2_with (go_at_call 234;refine(ham _ ?_).mono ?_;exact hpw;rintro e w1 ⟨rfl,hb⟩)
    go_ret
    exact⟨k,rfl,by rw[hit.out];simp,hB.trans (hb.mono hB.size)⟩
  ·have he:inB r l=false:=by
    rw[←H.out]
    exact inB_end r l (2*k) (by have:=Hm.out;omega)
   have He:=Lib.hid he
   clear he
   go_wp2
   go_ret
   exact⟨-1,rfl,by rw[He.out];rfl,hB⟩
theorem containsSpan (r:Int) (p:Addr) (l:List Int) (m:Nat) (A:Option Addr) (c:Nat) (w:World) (hm:l.length=2*m) (hl:m<=1000000) (hr:Rd w A (l.map (Value.int .i32))) (hp:w.cell? p=some (.int .i32 r)) :
  Calls Tryz.prog 233 #[.slice A m c,.func (.func 234) #[] #[.pointer (some p)]] w λe w'=>e=.returned (.bool (inB r l))/\Below w.heap.size w w':=by
 have hi:=indexSpan r p l m A c w hm hl hr hp
 clear hm hr hp
 go_enter Tryz.func233,Tryz.ntmps233
 go_wp2_with (go_at_call 266;refine hi.mono ?_;rintro e w1 ⟨i,rfl,hd,hb⟩;have Hd:=Lib.hid hd;clear hd)
 go_ret
 exact⟨by rw[←Hd.out];rfl,hb⟩
theorem among (r:Int) (l:List Int) (m:Nat) (A:Option Addr) (c:Nat) (w:World) (hm:l.length=2*m) (hl:m<=1000000) (hr:Rd w A (l.map (Value.int .i32))) :
  Calls Tryz.prog 192 #[.int .i32 r,.slice A m c] w λe w'=>e=.returned (.bool (inB r l))/\Below w.heap.size w w':=by
 have hc:=containsSpan r ⟨w.heap.size,0,none⟩ l m A c (w.alloc (.cells #[.int .i32 r] 21)) hm hl (hr.below ((Below.refl _ _).alloc (Nat.le_refl _) _) (Nat.le_refl _)) (World.cell?_alloc_new _ _ _ 0)
 clear hm hr
 go_enter Tryz.func192,Tryz.ntmps192
 go_wp2_with (go_at_call 233;refine hc.mono ?_;rintro e w1 ⟨rfl,hb⟩)
 go_ret
 exact⟨rfl,((Below.refl _ _).alloc (Nat.le_refl _) _).trans (hb.mono (by simp))⟩
def lowL:List Int:=[65,90,97,122,192,214,216,246,248,767,880,893,895,8191]
def highL:List Int:=[8204,8205,8304,8591,11264,12271,12289,55295,63744,64975,65008,65533,65536,983039]
theorem firstB_low (r:Int):firstB r=(inB r lowL || inB r highL):=by
 simp only[firstB,firstL,lowL,highL,inB,Bool.or_false,Bool.or_assoc]
theorem utfFirst (r:Int) (w:World) :
  Calls Tryz.prog 231 #[.int .i32 r] w λe w'=>e=.returned (.bool (firstB r))/\Below w.heap.size w w':=by
 have ha:=λ(l:List Int) (hl:l.length=14) (g:Nat) (W:World) h=>among r l 7 (some ⟨g,0,none⟩) 7 W hl (by decide) h
 rw[firstB_low]
 go_enter Tryz.func231,Tryz.ntmps231
 have h1:=ha lowL rfl
 have h2:=ha highL rfl
 clear ha
 generalize inB r lowL=q1 at h1
 generalize inB r highL=q2 at h2
 cases q1
 ·go_wp2_with fail
  refine(h1 w.heap.size _ ?_).mono ?_
  exact Rd.of_block (heap_two_1 w _ _) rfl
  rintro e w1 ⟨rfl,hb⟩
  go_wp2_with fail
  refine(h2 (w.heap.size+1) _ ?_).mono ?_
  exact(Rd.of_block (heap_two_2 w _ _) rfl).below hb (Nat.le_refl _)
  rintro e w2 ⟨rfl,hb2⟩
  go_wp2_with fail
  go_ret
  refine⟨by simp,?_⟩
  exact((((Below.refl _ _).alloc (Nat.le_refl _) _).alloc (by simp) _).trans (hb.mono (by simp;omega))).trans (hb2.mono (by have:=hb.size;simp at this;omega))
 ·go_wp2_with fail
  refine(h1 w.heap.size _ ?_).mono ?_
  exact Rd.of_block (heap_two_1 w _ _) rfl
  rintro e w1 ⟨rfl,hb⟩
  go_wp2_with fail
  go_ret
  refine⟨by simp,?_⟩
  exact((((Below.refl _ _).alloc (Nat.le_refl _) _).alloc (by simp) _).trans (hb.mono (by simp;omega)))
theorem utfDigit (r:Int) (w:World) :
  Calls Tryz.prog 195 #[.int .i32 r] w λe w'=>e=.returned (.bool (digitB r))/\Below w.heap.size w w':=by
 have hs:=λW=>spanHas 48 57 r W
 unfold digitB
 generalize (decide (48<=r) && decide (r<=57))=q at hs
 go_enter Tryz.func195,Tryz.ntmps195
 go_wp2_with (go_at_call 235;refine(hs _).mono ?_;rintro e w1 ⟨rfl,hb⟩)
 go_ret
 exact⟨rfl,hb⟩
theorem beginB_or (r:Int):beginB r=(firstB r || (r == 95) || (r == 58) || digitB r):=by
 rw[Bool.eq_iff_iff]
 simp only[beginB,beginL,digitB,inB,Bool.or_eq_true,Bool.and_eq_true,decide_eq_true_eq,beq_iff_eq,Bool.or_false]
 by_cases h:firstB r=true
 ·simp[h]
 ·have h':firstB r=false:=by simpa using h
  simp only[h',Bool.false_eq_true,false_or];omega
theorem letterB_or (r:Int):letterB r=(beginB r || (r == 45) || (r == 183) || inB r [768,879,8255,8256]):=by
 rw[Bool.eq_iff_iff]
 simp only[letterB,letterL,beginB,beginL,inB,Bool.or_eq_true,Bool.and_eq_true,decide_eq_true_eq,beq_iff_eq,Bool.or_false]
 by_cases h:firstB r=true
 ·simp[h]
 ·have h':firstB r=false:=by simpa using h
  simp only[h',Bool.false_eq_true,false_or];omega
theorem utfBegins (r:Int) (w:World) :
  Calls Tryz.prog 187 #[.int .i32 r] w λe w'=>e=.returned (.bool (beginB r))/\Below w.heap.size w w':=by
 have hf:=utfFirst r w
 have hd:=λW=>utfDigit r W
 rw[beginB_or]
 generalize firstB r=q1 at hf
 generalize digitB r=q2 at hd
 go_enter Tryz.func187,Tryz.ntmps187
 cases q1
 ·by_cases h1:r=95
  ·have h1':(r == 95)=true:=by simpa using h1
   rw[h1']
   clear h1
   go_wp2_with (go_at_call 231;refine hf.mono ?_;rintro e w1 ⟨rfl,hb⟩)
   go_ret
   exact⟨by simp,hb⟩
  ·have h1':(r == 95)=false:=by simpa using h1
   rw[h1']
   clear h1
   by_cases h2:r=58
   ·have h2':(r == 58)=true:=by simpa using h2
    rw[h2']
    clear h2
    go_wp2_with (go_at_call 231;refine hf.mono ?_;rintro e w1 ⟨rfl,hb⟩)
    go_ret
    exact⟨by simp,hb⟩
   ·have h2':(r == 58)=false:=by simpa using h2
    rw[h2']
    clear h2
    go_wp2_with (first
     | (go_at_call 231;refine hf.mono ?_;rintro e w1 ⟨rfl,hb⟩)
     | (go_at_call 195;refine(hd _).mono ?_;rintro e w2 ⟨rfl,hb2⟩))
    go_ret
    exact⟨by simp,hb.trans (hb2.mono hb.size)⟩
 ·go_wp2_with (go_at_call 231;refine hf.mono ?_;rintro e w1 ⟨rfl,hb⟩)
  go_ret
  exact⟨by simp,hb⟩
theorem utfLetter (r:Int) (w:World) :
  Calls Tryz.prog 190 #[.int .i32 r] w λe w'=>e=.returned (.bool (letterB r))/\Below w.heap.size w w':=by
 have hf:=utfBegins r w
 have ha:=λ(g:Nat) (W:World) h=>among r [768,879,8255,8256] 2 (some ⟨g,0,none⟩) 2 W rfl (by decide) h
 rw[letterB_or]
 generalize beginB r=q1 at hf
 generalize inB r [768,879,8255,8256]=q2 at ha
 go_enter Tryz.func190,Tryz.ntmps190
 cases q1
 ·by_cases h1:r=45
  ·have h1':(r == 45)=true:=by simpa using h1
   rw[h1']
   clear h1
   go_wp2_with (go_at_call 187;refine hf.mono ?_;rintro e w1 ⟨rfl,hb⟩)
   go_ret
   exact⟨by simp,hb⟩
  ·have h1':(r == 45)=false:=by simpa using h1
   rw[h1']
   clear h1
   by_cases h2:r=183
   ·have h2':(r == 183)=true:=by simpa using h2
    rw[h2']
    clear h2
    go_wp2_with (go_at_call 187;refine hf.mono ?_;rintro e w1 ⟨rfl,hb⟩)
    go_ret
    exact⟨by simp,hb⟩
   ·have h2':(r == 183)=false:=by simpa using h2
    rw[h2']
    clear h2
    go_wp2_with (first
     | (go_at_call 187;refine hf.mono ?_;rintro e w1 ⟨rfl,hb⟩)
     | (go_at_call 192;refine(ha _ _ ?_).mono ?_;exact Rd.of_block (heap_alloc_new w1 _) rfl;rintro e w2 ⟨rfl,hb2⟩))
    go_ret
    exact⟨by simp,(hb.alloc hb.size _).trans (hb2.mono (by have:=hb.size;simp;omega))⟩
 ·go_wp2_with (go_at_call 187;refine hf.mono ?_;rintro e w1 ⟨rfl,hb⟩)
  go_ret
  exact⟨by simp,hb⟩
theorem utfLabel1 (r:Int) (w:World) :
  Calls Tryz.prog 189 #[.int .i32 r] w λe w'=>e=.returned (.bool (mayB false r))/\Below w.heap.size w w':=by
 have hf:=utfLetter r w
 rw[show mayB false r=(letterB r || decide (r=46)) from rfl]
 generalize letterB r=q1 at hf
 go_enter Tryz.func189,Tryz.ntmps189
 cases q1
 ·by_cases h1:r=46
  ·have h1':(r == 46)=true:=by simpa using h1
   have h1'':decide (r=46)=true:=by simpa using h1
   rw[h1'']
   clear h1
   go_wp2_with (go_at_call 190;refine hf.mono ?_;rintro e w1 ⟨rfl,hb⟩)
   go_ret
   exact⟨by simp,hb⟩
  ·have h1':(r == 46)=false:=by simpa using h1
   have h1'':decide (r=46)=false:=by simpa using h1
   rw[h1'']
   clear h1
   go_wp2_with (go_at_call 190;refine hf.mono ?_;rintro e w1 ⟨rfl,hb⟩)
   go_ret
   exact⟨by simp,hb⟩
 ·go_wp2_with (go_at_call 190;refine hf.mono ?_;rintro e w1 ⟨rfl,hb⟩)
  go_ret
  exact⟨by simp,hb⟩
theorem get!_getD (t:ByteArray) (i:Nat):t.get! i=t.data.toList.getD i 0:=by
 cases t with
 | mk d =>
  show d[i]! = _
  by_cases h:i<d.size
  ·simp[List.getD_eq_getElem?_getD,h]
  ·simp[List.getD_eq_getElem?_getD,h]
   rfl
theorem decodeGo_nx (s:ByteArray) (k:Nat) (_hk:k<=s.size) :
  (if (Lib.decodeGo (s.extract k s.size)).1=65533/\(Lib.decodeGo (s.extract k s.size)).2<2 then (0,0) else Lib.decodeGo (s.extract k s.size))=nx (from_ s k):=by
 have hl:(s.extract k s.size).data.toList=from_ s k:=by
  rw[extract_toList,from_,List.take_of_length_le]
  simp
 have hsz:(s.extract k s.size).size=s.size-k:=by simp[ByteArray.size_extract]
 have hfl:=from_length s k
 unfold Lib.decodeGo nx
 by_cases h0:s.size-k=0
 ·rw[hsz,if_pos h0,hfl,if_pos h0,if_pos ⟨rfl,by decide⟩]
 ·rw[hsz,if_neg h0,hfl,if_neg h0,Lib.decode_at,hsz]
  simp only[get!_getD,hl,Nat.sub_zero,Nat.zero_add]
  have hp:=decodeN_pos (s.size-k) ((from_ s k).getD 0 0).toNat ((from_ s k).getD 1 0).toNat ((from_ s k).getD 2 0).toNat ((from_ s k).getD 3 0).toNat
  generalize Lib.decodeN (s.size-k) ((from_ s k).getD 0 0).toNat ((from_ s k).getD 1 0).toNat ((from_ s k).getD 2 0).toNat ((from_ s k).getD 3 0).toNat=d at hp
  by_cases hd:d=(65533,1)
  ·rw[if_pos hd,if_pos (by rw[hd];exact⟨rfl,by decide⟩)]
  ·rw[if_neg hd,if_neg]
   intro ⟨h1,h2⟩
   exact hd (Prod.ext h1 (by show d.2=1;omega))
theorem utfAt (s:ByteArray) (k:Nat) (w:World) (hC:Ctx w) (hk:k<=s.size) (_hs:s.size<=281474976710656) :
  Calls Tryz.prog 232 #[.agg #[.string s],.int .i64 k] w λe w'=>e=.returned (.tuple #[.int .i32 (nx (from_ s k)).1,.int .i64 (nx (from_ s k)).2])/\Below w.heap.size w w':=by
 have hdec:=Tryz.utf8_DecodeRuneInString (s.extract k s.size) (w.alloc (.cells #[.string s] 277)) (hC.step ((Below.refl _ _).alloc (Nat.le_refl _) _)).tabs
 have hn:=decodeGo_nx s k hk
 rw[←hn]
 clear hn hC
 generalize Lib.decodeGo (s.extract k s.size)=d at hdec
 obtain⟨x,n⟩:=d
 simp only at hdec
 have fin:∀{w1:World},Below (w.alloc (.cells #[.string s] 277)).heap.size (w.alloc (.cells #[.string s] 277)) w1->Below w.heap.size w w1:=λh=>((Below.refl _ _).alloc (Nat.le_refl _) _).trans (h.mono (by simp))
 by_cases h1:x=65533
 ·have h1':((x:Int) == 65533)=true:=by simp;omega
  by_cases h2:n<2
  ·rw[if_pos ⟨h1,h2⟩]
   clear h1
   go_enter Tryz.func232,Tryz.ntmps232
   go_wp2_with (go_at_call 196;refine hdec.mono ?_;rintro e w1 ⟨rfl,hb⟩)
   go_ret2
   exact⟨rfl,fin hb⟩
  ·rw[if_neg (λh=>h2 h.2)]
   clear h1
   go_enter Tryz.func232,Tryz.ntmps232
   go_wp2_with (go_at_call 196;refine hdec.mono ?_;rintro e w1 ⟨rfl,hb⟩)
   go_ret2
   exact⟨rfl,fin hb⟩
 ·have h1':((x:Int) == 65533)=false:=by simp;omega
  rw[if_neg (λh=>h1 h.1)]
  clear h1
  go_enter Tryz.func232,Tryz.ntmps232
  go_wp2_with (go_at_call 196;refine hdec.mono ?_;rintro e w1 ⟨rfl,hb⟩)
  go_ret2
  exact⟨rfl,fin hb⟩
def CurAt (w:World) (g:Nat) (s:ByteArray) (k:Nat):Prop:=w.heap[g]?=some (.cells #[.string s,.int .i64 k] 279 (0,0))
theorem CurAt.c0 {w:World} {g:Nat} {s:ByteArray} {k:Nat} (h:CurAt w g s k):w.cell? ⟨g,0,none⟩=some (.string s):=by
 unfold CurAt at h;simp[World.cell?,h]
theorem CurAt.c1 {w:World} {g:Nat} {s:ByteArray} {k:Nat} (h:CurAt w g s k):w.cell? ⟨g,1,none⟩=some (.int .i64 k):=by
 unfold CurAt at h;simp[World.cell?,h]
theorem CurAt.fz {w:World} {g:Nat} {s:ByteArray} {k:Nat} (h:CurAt w g s k) (i:Nat):w.frozen? ⟨g,i,none⟩=false:=by
 unfold CurAt at h;simp[World.frozen?,h]
theorem CurAt.lt {w:World} {g:Nat} {s:ByteArray} {k:Nat} (h:CurAt w g s k):g<w.heap.size:=cell_lt h.c0
theorem CurAt.below {w w':World} {g:Nat} {s:ByteArray} {k:Nat} (h:CurAt w g s k) {B:Nat} (hb:Below B w w') (hB:w.heap.size<=B):CurAt w' g s k:=by
 unfold CurAt
 rw[hb.block g (by have:=h.lt;omega)];exact h
theorem CurAt.set {w:World} {g:Nat} {s:ByteArray} {k:Nat} (h:CurAt w g s k) (k':Nat):CurAt (w.setCell ⟨g,1,none⟩ (.int .i64 k')) g s k':=by
 unfold CurAt at *
 simp[World.setCell,Array.getElem?_modify,h]
theorem only_set {a w:World} {g:Nat} (h:Below a.heap.size a w) (_hg:g<a.heap.size) (i:Nat) (u:Value):a.grownBy (w.setCell ⟨g,i,none⟩ u) (some g):=
 ⟨h.os,h.tape,h.output,by simpa[World.setCell] using h.size,λj hj hne=>(Below.heap_setCell w ⟨g,i,none⟩ u j (λe=>hne (by rw[e]))).trans (h.block j hj)⟩
theorem curNext (s:ByteArray) (k g:Nat) (w:World) (hC:Ctx w) (hc:CurAt w g s k) (hk:k<=s.size) (hs:s.size<=281474976710656) :
  Calls Tryz.prog 188 #[.pointer (some ⟨g,0,none⟩)] w λe w'=>e=.returned (.tuple #[.int .i32 (nx (from_ s k)).1,.bool (decide (0<(nx (from_ s k)).2))]) /\
   w.grownBy w' (some g)/\CurAt w' g s (k+(nx (from_ s k)).2):=by
 have hat:=λW h=>utfAt s k W h hk hs
 have hk4:(nx (from_ s k)).2<=4:=by
  by_cases h0:(nx (from_ s k)).2=0
  ·omega
  ·exact(nx_step s k h0).2.1
 generalize (nx (from_ s k)).1=x at hat
 generalize (nx (from_ s k)).2=n at hat hk4
 have hw0:∀(d:Nat) (os:Array Obj),(Sort.grow (redrawn w d) os).cell? ⟨g,0,none⟩=some (.string s):=λd os=>cell_regrown hc.c0 d os
 have hw1:∀(d:Nat) (os:Array Obj),(Sort.grow (redrawn w d) os).cell? ⟨g,1,none⟩=some (.int .i64 k):=λd os=>cell_regrown hc.c1 d os
 have Hc:=Lib.hid hc
 clear hc
 go_enter Tryz.func188,Tryz.ntmps188
 go_wp2
 refine Rg.wp_region_plan [(true,[0,1,2,3,4,5,6,7]),(false,[8]),(true,[9,10,11,12,13])] _ (by kernel_rfl) (by kernel_rfl)
  (by simp only[List.map_cons,List.map_nil,Rg.pickOps,List.getElem?_toArray,List.getElem?_cons_zero,List.getElem?_cons_succ,Option.getD_some];rfl) (λK hK=>?_)
 refine Rg.plan_quiet ?_
 iterate 8 go_big_quiet_step (fail)
 refine wpQuiet_nil (Rg.plan_chain ?_)
 clear hw0 hw1
 intro W1 hW1
 go_wp2_with (go_at_call 232;refine(hat _ ?_).mono ?_;exact hC.step hW1;rintro e w2 ⟨rfl,hb⟩)
 refine⟨hb,Rg.plan_quiet ?_⟩
 iterate 5 go_big_quiet_step (fail)
 refine wpQuiet_nil (Rg.plan_end ?_)
 intro W4 hW4
 refine hK _ _ ?_
 clear hK hat
 have hall:Below w.heap.size w W4:=Rg.tr hW1 (Rg.tr hb hW4)
 have hc4:=Hc.out.below hall (Nat.le_refl _)
 have f0:=hc4.c0
 have f1:=hc4.c1
 have f2:=hc4.fz 1
 have Hc4:=Lib.hid hc4
 clear hc4
 go_wp2
 go_ret2
 have e1:((k:Int)+(n:Int))=((k+n:Nat):Int):=by omega
 refine⟨?_,only_set hall Hc.out.lt 1 _,?_⟩
 ·congr 3
 ·rw[e1];exact Hc4.out.set (k+n)
theorem below_grown {B g:Nat} {a w w':World} (h:Below B a w) (hg:w.grownBy w' (some g)) (hB:B<=w.heap.size) (hgB:B<=g):Below B a w':=
 h.grown hg hB (λk hk=>by injection hk with hk;omega)
def bOf:Value->Nat
 | .bool true=>1
 | _=>0
def mayV:Bool->Value
 | true=>.func (.func 187) #[] #[]
 | false=>.func (.func 189) #[] #[]
theorem lab_next {l:List UInt8} {k d x best:Nat} (h:labRest l false (k+d) (if x=46 then best else k+d)):(((x:Int) != 46)=true->labRest l false (k+d) (k+d))/\(((x:Int) != 46)=false->labRest l false (k+d) best):=by
 constructor
 ·intro hx
  have h2:¬ x=46:=by rw[bne_iff_ne]at hx;omega
  rwa [if_neg h2]at h
 ·intro hx
  have h2:x=46:=by simp at hx;omega
  rwa [if_pos h2]at h
theorem lab_measure {S k d d1:Nat} (h:k+d+d1<=S) (_h0:¬ d=0):2*(S-(k+d+d1))+bOf (.bool (decide (0<d1)))<2*(S-(k+d))+bOf (.bool true):=by
 by_cases h1:d1=0
 ·subst h1;simp[bOf]
 ·have:bOf (.bool (decide (0<d1)))<=1:=by simp[show 0<d1 by omega,bOf]
  simp only[bOf]at *;omega
theorem utfLabel (s:ByteArray) (w:World) (hC:Ctx w) (hs:s.size<=281474976710656) :
  Calls Tryz.prog 148 #[.string s] w λe w'=>e=.returned (.int .i64 (label s.data.toList))/\Below w.heap.size w w':=by
 have hsz:s.data.toList.length=s.size:=size_toList s
 have Hsz:=Lib.hid hsz
 clear hsz
 have hC1:=hC.step ((Below.refl _ _).alloc (Nat.le_refl _) (.cells #[.string s,.int .i64 0] 279))
 have hn0:=curNext s 0 w.heap.size (w.alloc (.cells #[.string s,.int .i64 0] 279)) hC1 (heap_alloc_new w _) (by omega) hs
 have hk0:(nx (from_ s 0)).2<=s.size:=by
  by_cases h0:(nx (from_ s 0)).2=0
  ·omega
  ·have:=(nx_step s 0 h0).1;omega
 obtain⟨x0,hx0⟩:∃x,(nx (from_ s 0)).1=x:=⟨_,rfl⟩
 obtain⟨d0,hd0⟩:∃x,(nx (from_ s 0)).2=x:=⟨_,rfl⟩
 rw[hx0,hd0]at hn0
 rw[hd0]at hk0
 have Hx0:=Lib.hid hx0
 have Hd0:=Lib.hid hd0
 clear hx0 hd0 hC1
 go_enter Tryz.func148,Tryz.ntmps148
 go_wp2_with (go_at_call 188;refine hn0.mono ?_;rintro e w1 ⟨rfl,hg1,hc1⟩;have hB1:Below w.heap.size w w1:=below_grown ((Below.refl _ _).alloc (Nat.le_refl _) _) hg1 (by simp) (Nat.le_refl _))
 go_loopw [2,4,5,6] (λb may r is wr=>∃k best d x:Nat,∃st:Bool,k+d<=s.size/\b=.int .i64 best/\may=mayV st/\r=.int .i32 x/\is=.bool (decide (0<d))/\CurAt wr w.heap.size s (k+d)/\Below w.heap.size w wr/\Hid ((nx (from_ s k)).1=x/\(nx (from_ s k)).2=d/\labRest s.data.toList st k best))
  (λ_ _ _ is wr=>2*(s.size-(intOf ((wr.cell? ⟨w.heap.size,1,none⟩).getD undef)).toNat)+bOf is)
 case atStart=>exact⟨0,0,d0,x0,true,by omega,rfl,rfl,rfl,by simp,by simpa using hc1,hB1,Hx0.out,Hd0.out,labRest_start _⟩
 case round =>
  clear hn0 Hx0 Hd0 hc1 hg1 hB1
  obtain⟨k,best,d,x,st,hkd,rfl,rfl,rfl,rfl,hcu,hB,H⟩:=hrel
  have f0:=hcu.c0
  have f1:=hcu.c1
  obtain⟨hx,hd,hL⟩:=H.out
  by_cases h0:d=0
  ·have hres:=Lib.hid (labRest_end hL (.inr (by rw[show s.data.toList.drop k=from_ s k from rfl,hd];exact h0)))
   have hz:decide (0<d)=false:=by simp;omega
   rw[hz]
   clear hx hd hL h0 H hz
   go_wp2
   go_ret
   exact⟨by rw[hres.out];rfl,hB⟩
  ·have hz:decide (0<d)=true:=by simp;omega
   have hout:=labRest_out hL
   have hgo:=labRest_go hL (by rw[Hsz.out];omega) (by rw[show s.data.toList.drop k=from_ s k from rfl,hd];exact h0)
   rw[show s.data.toList.drop k=from_ s k from rfl,hx]at hout hgo
   rw[hd]at hgo
   have Hout:=Lib.hid hout
   have Hgo:=Lib.hid hgo
   clear hout hgo hx hd hL H
   have hme:((intOf ((wr.cell? ⟨w.heap.size,1,none⟩).getD undef)).toNat)=k+d:=by rw[hcu.c1];simp[intOf];omega
   have Hme:=Lib.hid hme
   clear hme
   have hbe:=λW=>utfBegins (x:Int) W
   have hla:=λW=>utfLabel1 (x:Int) W
   have hnn:=λW h1 h2=>curNext s (k+d) w.heap.size W h1 h2 (by omega) hs
   have hn1:(k+d)+(nx (from_ s (k+d))).2<=s.size:=by
    by_cases h0:(nx (from_ s (k+d))).2=0
    ·omega
    ·exact(nx_step s (k+d) h0).1
   obtain⟨x1,hx1⟩:∃y,(nx (from_ s (k+d))).1=y:=⟨_,rfl⟩
   obtain⟨d1,hd1⟩:∃y,(nx (from_ s (k+d))).2=y:=⟨_,rfl⟩
   rw[hx1,hd1]at hnn
   rw[hd1]at hn1
   have H1:=Lib.hid (show (nx (from_ s (k+d))).1=x1/\(nx (from_ s (k+d))).2=d1 from ⟨hx1,hd1⟩)
   clear hx1 hd1
   rw[hz]
   clear hz
   cases hm:mayB st x with
   | false =>
    have hres:=Lib.hid (Hout.out hm)
    clear Hout Hgo hnn
    cases st with
    | true =>
     rw[show beginB x=false from hm]at hbe
     clear hm
     rw[show mayV true=.func (.func 187) #[] #[] from rfl]
     go_wp2_with (go_at_call 187;refine(hbe _).mono ?_;rintro e w2 ⟨rfl,hb2⟩)
     go_ret
     exact⟨by rw[hres.out];rfl,hB.trans (hb2.mono hB.size)⟩
    | false =>
     rw[hm]at hla
     clear hm
     rw[show mayV false=.func (.func 189) #[] #[] from rfl]
     go_wp2_with (go_at_call 189;refine(hla _).mono ?_;rintro e w2 ⟨rfl,hb2⟩)
     go_ret
     exact⟨by rw[hres.out];rfl,hB.trans (hb2.mono hB.size)⟩
   | true =>
    have hL2:=lab_next (Hgo.out hm)
    have HL2:=Lib.hid hL2
    clear hL2 Hout Hgo
    cases st with
    | true =>
     rw[show beginB x=true from hm]at hbe
     clear hm
     rw[show mayV true=.func (.func 187) #[] #[] from rfl]
     go_wp2_with (first
      | (go_at_call 187;refine(hbe _).mono ?_;rintro e w2 ⟨rfl,hb2⟩;have hB2:=hB.trans (hb2.mono hB.size);have hcu2:=hcu.below hb2 (Nat.le_refl _);have hC2:=hC.step hB2;have f4:=hcu2.c0;have f5:=hcu2.c1;have f6:=hB2.size)
      | (go_at_call 188;refine(hnn _ ?_ ?_).mono ?_;exact hC2;exact hcu2;rintro e w3 ⟨rfl,hg3,hc3⟩;have hB3:=below_grown hB2 hg3 f6 (Nat.le_refl _)))
     ·have hx:((x:Int) != 46)=true:=by assumption
      have hl:=HL2.out.1 hx
      have hme2:((intOf ((w3.cell? ⟨w.heap.size,1,none⟩).getD undef)).toNat)=k+d+d1:=by rw[hc3.c1];simp[intOf];omega
      go_roundw
      case rel=>exact⟨k+d,k+d,d1,x1,false,hn1,by go_num,rfl,rfl,by simp,hc3,hB3,H1.out.1,H1.out.2,hl⟩
      case measure =>
       simp only[hme2,Hme.out]
       exact lab_measure hn1 h0
     ·have hx:((x:Int) != 46)=false:=by assumption
      have hl:=HL2.out.2 hx
      have hme2:((intOf ((w3.cell? ⟨w.heap.size,1,none⟩).getD undef)).toNat)=k+d+d1:=by rw[hc3.c1];simp[intOf];omega
      go_roundw
      case rel=>exact⟨k+d,best,d1,x1,false,hn1,by rfl,rfl,rfl,by simp,hc3,hB3,H1.out.1,H1.out.2,hl⟩
      case measure =>
       simp only[hme2,Hme.out]
       exact lab_measure hn1 h0
    | false =>
     rw[hm]at hla
     clear hm
     rw[show mayV false=.func (.func 189) #[] #[] from rfl]
     go_wp2_with (first
      | (go_at_call 189;refine(hla _).mono ?_;rintro e w2 ⟨rfl,hb2⟩;have hB2:=hB.trans (hb2.mono hB.size);have hcu2:=hcu.below hb2 (Nat.le_refl _);have hC2:=hC.step hB2;have f4:=hcu2.c0;have f5:=hcu2.c1;have f6:=hB2.size)
      | (go_at_call 188;refine(hnn _ ?_ ?_).mono ?_;exact hC2;exact hcu2;rintro e w3 ⟨rfl,hg3,hc3⟩;have hB3:=below_grown hB2 hg3 f6 (Nat.le_refl _)))
     ·have hx:((x:Int) != 46)=true:=by assumption
      have hl:=HL2.out.1 hx
      have hme2:((intOf ((w3.cell? ⟨w.heap.size,1,none⟩).getD undef)).toNat)=k+d+d1:=by rw[hc3.c1];simp[intOf];omega
      go_roundw
      case rel=>exact⟨k+d,k+d,d1,x1,false,hn1,by go_num,rfl,rfl,by simp,hc3,hB3,H1.out.1,H1.out.2,hl⟩
      case measure =>
       simp only[hme2,Hme.out]
       exact lab_measure hn1 h0
     ·have hx:((x:Int) != 46)=false:=by assumption
      have hl:=HL2.out.2 hx
      have hme2:((intOf ((w3.cell? ⟨w.heap.size,1,none⟩).getD undef)).toNat)=k+d+d1:=by rw[hc3.c1];simp[intOf];omega
      go_roundw
      case rel=>exact⟨k+d,best,d1,x1,false,hn1,by rfl,rfl,rfl,by simp,hc3,hB3,H1.out.1,H1.out.2,hl⟩
      case measure =>
       simp only[hme2,Hme.out]
       exact lab_measure hn1 h0
theorem decode_high (t:ByteArray) (pos:Nat) (h:128<=(t.get! pos).toNat):128<=(Utf8.decode t pos).1:=by
 rw[Lib.decode_at]
 unfold Lib.decodeN
 repeat' split
 all_goals simp only
 all_goals omega
theorem decode_low (t:ByteArray) (pos:Nat) (h:(t.get! pos).toNat<128):Utf8.decode t pos=((t.get! pos).toNat,1):=by
 rw[Lib.decode_at,dec1 _ _ _ _ _ h]
theorem idx_span_from (q:Int->Bool) (hq:∀x:Nat,128<=x->q x=false) (t:ByteArray):∀f pos,t.size<=pos+f->pos<=t.size ->
  Lib.idxFuncFrom (λx => !q x) true t f pos=if pos+span q (t.data.toList.drop pos)<t.size then ((pos+span q (t.data.toList.drop pos):Nat):Int) else -1
 | 0,pos,h,h2=>by
  have hp:pos=t.size:=by omega
  rw[span_end _ _ _ (by rw[size_toList];omega),if_neg (by omega)]
  rfl
 | f+1,pos,h,h2=>by
  unfold Lib.idxFuncFrom
  by_cases hlt:pos<t.size
  ·rw[if_pos hlt]
   have hb:(t.get! pos).toNat=bn t pos:=by rw[get!_getD];rfl
   rw[span_drop _ _ _ (by rw[size_toList];exact hlt),bn_getD]
   by_cases hlow:bn t pos<128
   ·rw[decode_low t pos (by omega),hb]
    simp only
    cases hqb:q (bn t pos) with
    | true =>
     simp only[Bool.not_true,Bool.false_eq_true,if_false,if_true]
     rw[idx_span_from q hq t f (pos+1) (by omega) (by omega)]
     rw[show pos+1+span q (List.drop (pos+1) t.data.toList)=pos+(span q (List.drop (pos+1) t.data.toList)+1) by omega]
    | false =>
     simp only[Bool.not_false,if_true,Bool.false_eq_true,if_false,Nat.add_zero,if_pos hlt]
   ·have hq1:=hq _ (decode_high t pos (by omega))
    have hq2:=hq (bn t pos) (by omega)
    simp only[hq1,hq2,Bool.not_false,if_true,Bool.false_eq_true,if_false,Nat.add_zero,if_pos hlt]
  ·rw[if_neg hlt,span_end _ _ _ (by rw[size_toList];omega),if_neg (by omega)]
theorem idx_span (q:Int->Bool) (hq:∀x:Nat,128<=x->q x=false) (t:ByteArray) :
  Lib.idxFunc (λx => !q x) true t=if span q t.data.toList<t.size then (span q t.data.toList:Int) else -1:=by
 have:=idx_span_from q hq t t.size 0 (by omega) (by omega)
 simpa[Lib.idxFunc] using this
theorem alpha_high (x:Nat) (h:128<=x):alphaB x=false:=by
 simp[alphaB,inB];omega
theorem alnum_high (x:Nat) (h:128<=x):alnumB x=false:=by
 simp[alnumB,alphaB,digitB,inB];omega
theorem utfTag1 (r:Int) (w:World) :
  Calls Tryz.prog 191 #[.int .i32 r] w λe w'=>e=.returned (.bool (alphaB r))/\Below w.heap.size w w':=by
 have ha:=λ(g:Nat) (W:World) h=>among r [65,90,97,122] 2 (some ⟨g,0,none⟩) 2 W rfl (by decide) h
 rw[show alphaB r=inB r [65,90,97,122] from rfl]
 generalize inB r [65,90,97,122]=q at ha
 go_enter Tryz.func191,Tryz.ntmps191
 go_wp2_with (go_at_call 192;refine(ha _ _ ?_).mono ?_;exact Rd.of_block (heap_alloc_new w _) rfl;rintro e w2 ⟨rfl,hb2⟩)
 go_ret
 exact⟨rfl,((Below.refl _ _).alloc (Nat.le_refl _) _).trans (hb2.mono (by simp))⟩
theorem utfTag2 (r:Int) (p:Addr) (w:World) (hp:w.cell? p=some (.func (.func 191) #[] #[])) :
  Calls Tryz.prog 194 #[.int .i32 r,.pointer (some p)] w λe w'=>e=.returned (.bool (alnumB r))/\Below w.heap.size w w':=by
 have h1:=utfTag1 r w
 have h2:=λW=>utfDigit r W
 rw[show alnumB r=(alphaB r || digitB r) from rfl]
 generalize alphaB r=q1 at h1
 generalize digitB r=q2 at h2
 go_enter Tryz.func194,Tryz.ntmps194
 cases q1
 ·go_wp2_with (first
   | (go_at_call 191;refine h1.mono ?_;rintro e w1 ⟨rfl,hb⟩)
   | (go_at_call 195;refine(h2 _).mono ?_;rintro e w2 ⟨rfl,hb2⟩))
  go_ret
  exact⟨by simp,hb.trans (hb2.mono hb.size)⟩
 ·go_wp2_with (go_at_call 191;refine h1.mono ?_;rintro e w1 ⟨rfl,hb⟩)
  go_ret
  exact⟨by simp,hb⟩
theorem utfRun1 (g:Nat) (lb:Array Value) (q:Bool) (r:Int) (p:Addr) (w:World) (eg:∀args w,(callFunc g args).run Tryz.prog w=.ok (.enter g args) w)
  (hp:w.cell? p=some (.func (.func g) #[] lb)) (hg:Calls Tryz.prog g (#[.int .i32 r]++lb) w λe w'=>e=.returned (.bool q)/\Below w.heap.size w w') :
  Calls Tryz.prog 236 #[.int .i32 r,.pointer (some p)] w λe w'=>e=.returned (.bool (!q))/\Below w.heap.size w w':=by
 go_enter Tryz.func236,Tryz.ntmps236
 go_wp2_with fail
 refine hg.mono ?_
 rintro e w1 ⟨rfl,hb⟩
 go_wp2_with fail
 go_ret
 exact⟨rfl,hb⟩
theorem enters_run1:∀args w,(callFunc 236 args).run Tryz.prog w=.ok (.enter 236 args) w:=Go.Proofs.enters_of Tryz.func236 (by kernel_rfl) rfl
theorem enters_tag1:∀args w,(callFunc 191 args).run Tryz.prog w=.ok (.enter 191 args) w:=Go.Proofs.enters_of Tryz.func191 (by kernel_rfl) rfl
theorem enters_tag2:∀args w,(callFunc 194 args).run Tryz.prog w=.ok (.enter 194 args) w:=Go.Proofs.enters_of Tryz.func194 (by kernel_rfl) rfl
theorem utfRun (g:Nat) (lb:Array Value) (q:Int->Bool) (hq:∀x:Nat,128<=x->q x=false) (s:ByteArray) (k:Nat) (w:World) (eg:∀args w,(callFunc g args).run Tryz.prog w=.ok (.enter g args) w)
  (hk:k<=s.size) (hs:s.size<=281474976710656)
  (hg:∀W (x:Nat),Below w.heap.size w W->Calls Tryz.prog g (#[.int .i32 x]++lb) W λe w'=>e=.returned (.bool (q x))/\Below W.heap.size W w') :
  Calls Tryz.prog 193 #[.string s,.int .i64 k,.func (.func g) #[] lb] w λe w'=>e=.returned (.int .i64 (span q (from_ s k)))/\Below w.heap.size w w':=by
 have hidx:=Tryz.strings_IndexFunc_grows 236 #[.pointer (some ⟨w.heap.size,0,none⟩)] enters_run1 (λx => !q x) (s.extract k s.size) (w.alloc (.cells #[.func (.func g) #[] lb] 244))
  (λW x _ hb=>by
   have hb0:Below w.heap.size w W:=((Below.refl _ _).alloc (Nat.le_refl _) _).trans (hb.mono (by simp))
   refine utfRun1 g lb (q x) x ⟨w.heap.size,0,none⟩ W eg ?_ (hg W x hb0)
   rw[hb.cell (p:=⟨w.heap.size,0,none⟩) (by simp)]
   exact World.cell?_alloc_new _ _ _ 0)
 rw[idx_span q hq]at hidx
 have hl:(s.extract k s.size).data.toList=from_ s k:=by
  rw[extract_toList,from_,List.take_of_length_le]
  simp
 have hsz:(s.extract k s.size).size=s.size-k:=by simp[ByteArray.size_extract]
 rw[hl,hsz]at hidx
 have hle:=span_le q (from_ s k)
 rw[from_length]at hle
 generalize span q (from_ s k)=m at hidx hle
 clear hl hsz hg eg
 by_cases h:m<s.size-k
 ·rw[if_pos h]at hidx
  go_enter Tryz.func193,Tryz.ntmps193
  go_wp2_with (go_at_call 161;refine hidx.mono ?_;rintro e w1 ⟨rfl,hb⟩)
  go_ret
  exact⟨rfl,((Below.refl _ _).alloc (Nat.le_refl _) _).trans (hb.mono (by simp))⟩
 ·rw[if_neg h]at hidx
  have he:(s.size:Int)-k=m:=by omega
  have He:=Lib.hid he
  clear he
  go_enter Tryz.func193,Tryz.ntmps193
  go_wp2_with (go_at_call 161;refine hidx.mono ?_;rintro e w1 ⟨rfl,hb⟩)
  go_ret
  exact⟨by rw[←He.out];rfl,((Below.refl _ _).alloc (Nat.le_refl _) _).trans (hb.mono (by simp))⟩
theorem utfTag (s:ByteArray) (w:World) (hs:s.size<=281474976710656) :
  Calls Tryz.prog 149 #[.string s] w λe w'=>e=.returned (.int .i64 (tag s.data.toList))/\Below w.heap.size w w':=by
 have hsz:s.data.toList.length=s.size:=size_toList s
 have Hsz:=Lib.hid hsz
 clear hsz
 have hr0:=utfRun 191 #[] alphaB alpha_high s 0 (w.alloc (.cells #[.func (.func 191) #[] #[]] 244)) enters_tag1 (by omega) hs (λW x _=>utfTag1 x W)
 rw[show from_ s 0=s.data.toList from rfl,show (((0:Nat)):Int)=0 from rfl]at hr0
 have hle:=span_le alphaB s.data.toList
 rw[Hsz.out]at hle
 have hT:tagRest s.data.toList (span alphaB s.data.toList):=rfl
 have HT:=Lib.hid hT
 clear hT
 have hcell:(w.alloc (.cells #[.func (.func 191) #[] #[]] 244)).cell? ⟨w.heap.size,0,none⟩=some (.func (.func 191) #[] #[]):=World.cell?_alloc_new _ _ _ 0
 have Hcell:=Lib.hid hcell
 clear hcell
 generalize span alphaB s.data.toList=n0 at hr0 hle HT
 go_enter Tryz.func149,Tryz.ntmps149
 go_wp2_with (go_at_call 193;refine hr0.mono ?_;rintro e w1 ⟨rfl,hb⟩)
 clear hr0
 go_loopw [4] (λi wr=>∃n:Nat,n<=s.size/\i=.int .i64 n/\Below w.heap.size w wr/\w.heap.size<wr.heap.size/\wr.cell? ⟨w.heap.size,0,none⟩=some (.func (.func 191) #[] #[])/\Hid (tagRest s.data.toList n)) (λi _=>s.size-(intOf i).toNat)
 case atStart=>exact⟨n0,hle,rfl,((Below.refl _ _).alloc (Nat.le_refl _) _).trans (hb.mono (by simp)),by have:=hb.size;simp at this;omega,by rw[hb.cell (p:=⟨w.heap.size,0,none⟩) (by simp)];exact Hcell.out,HT⟩
 case round =>
  clear HT hle hb Hcell
  obtain⟨n,hn,rfl,hB,hhs,hc,HT⟩:=hrel
  have hbn:=bn_lt s n
  have hout:=λh=>tagRest_out HT.out h
  have hgo:=λh=>tagRest_go HT.out h
  rw[Hsz.out,bn_getD]at hout hgo
  have Hout:=Lib.hid hout
  have Hgo:=Lib.hid hgo
  clear hout hgo HT
  by_cases h0:0<n
  case' neg =>
   have Hres:=Lib.hid (Hout.out (λh=>h0 h.1))
   go_wp2
   go_ret
   exact⟨by rw[Hres.out];rfl,hB⟩
  by_cases h1:n<s.size
  case' neg =>
   have Hres:=Lib.hid (Hout.out (λh=>h1 h.2.1))
   go_wp2
   go_ret
   exact⟨by rw[Hres.out];rfl,hB⟩
  by_cases h2:bn s n=45
  case' neg =>
   have Hres:=Lib.hid (Hout.out (λh=>h2 h.2.2.1))
   have h3:((bn s n:Int) == 45)=false:=by simp;omega
   clear h2
   go_wp2
   go_ret
   exact⟨by rw[Hres.out];rfl,hB⟩
  have h3:((bn s n:Int) == 45)=true:=by simp;omega
  have H2:=Lib.hid h2
  clear h2
  have hrun:=λW (hW:Below wr.heap.size wr W)=>utfRun 194 #[.pointer (some ⟨w.heap.size,0,none⟩)] alnumB alnum_high s (n+1) W enters_tag2 (by omega) hs
   (λW' x hb'=>utfTag2 x ⟨w.heap.size,0,none⟩ W' (by rw[hb'.cell (p:=⟨w.heap.size,0,none⟩) (Nat.lt_of_lt_of_le hhs hW.size),hW.cell (p:=⟨w.heap.size,0,none⟩) hhs];exact hc))
  have hle:=span_le alnumB (from_ s (n+1))
  rw[from_length]at hle
  by_cases hz:span alnumB (from_ s (n+1))=0
  ·have Hres:=Lib.hid (Hout.out (λh=>h.2.2.2 hz))
   rw[hz]at hrun
   clear hz Hout Hgo hle
   have e1:(n:Int)+1=((n+1:Nat):Int):=by omega
   have hrun2:=hrun wr (Below.refl _ _)
   rw[←e1]at hrun2
   clear hrun e1
   go_wp2_with (go_at_call 193;refine hrun2.mono ?_;rintro e w2 ⟨rfl,hb2⟩)
   go_ret
   exact⟨by rw[Hres.out];rfl,hB.trans (hb2.mono hB.size)⟩
  ·have Hr:=Lib.hid (Hgo.out ⟨h0,h1,H2.out,hz⟩)
   clear Hout Hgo
   rw[show List.drop (n+1) s.data.toList=from_ s (n+1) from rfl]at Hr
   have hrun2:=hrun wr (Below.refl _ _)
   have e1:(n:Int)+1=((n+1:Nat):Int):=by omega
   rw[←e1]at hrun2
   clear hrun e1
   generalize span alnumB (from_ s (n+1))=m at *
   have hz1:((m:Int) == 0)=false:=by simp;omega
   go_wp2_with (go_at_call 193;refine hrun2.mono ?_;rintro e w2 ⟨rfl,hb2⟩)
   go_roundw
   case rel=>exact⟨n+1+m,by omega,by congr 1;omega,hB.trans (hb2.mono hB.size),by have:=hb2.size;omega,by rw[hb2.cell (p:=⟨w.heap.size,0,none⟩) hhs];exact hc,Hr⟩
   case measure=>simp[intOf];omega
end Go.Proofs.YtoaemihcbmlkgaaGreatDoor
