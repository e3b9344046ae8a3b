/- The program's package term, walked: Right. The program's pac -/
import Derived.Test.YtoaemihcbmlkgaaGreatDoorJUtfProg5
import Derived.Test.YtoaemihcbmlkgaaGreatDoorShelf2
import Derived.Test.YtoaemihcbmlkgaaGreatDoorJMapA
set_option maxHeartbeats 2000000
set_option maxRecDepth 20000
namespace Go.Proofs.YtoaemihcbmlkgaaGreatDoor
open Go Go.RowKit Um Fm
def lowI (r:Int):Int:=if 65<=r/\r<=90 then r+32 else r
def validB (s:ByteArray):Bool:=Lib.validD s.data.toList
def labelB (s:ByteArray):Bool:=!s.toList.isEmpty && ((label s.data.toList:Int) == s.size)
def tagB (s:ByteArray):Bool:=((tag s.data.toList:Int) == s.size) && ((⟨(Lib.mapD lowI s.data.toList).toArray⟩:ByteArray).toList == s.toList)
def xsdL:List UInt8:=[104,116,116,112,58,47,47,119,119,119,46,119,51,46,111,114,103,47,50,48,48,49,47,88,77,76,83,99,104,101,109,97,35,115,116,114,105,110,103]
theorem termLower (r:Int) (w:World) (h0:0<=r) (h1:r<=1114111):Calls Tryz.prog 151 #[.int .i32 r] w λe w'=>e=.returned (.int .i32 (lowI r))/\w=w':=by
 unfold lowI
 by_cases ha:65<=r
 ·by_cases hb:r<=90
  ·have hr:(65<=r/\r<=90):=⟨ha,hb⟩
   rw[if_pos hr]
   clear hr
   go_enter Tryz.func151,Tryz.ntmps151
   go_wp2
   go_ret
   exact⟨rfl,rfl⟩
  ·rw[if_neg (by omega)]
   go_enter Tryz.func151,Tryz.ntmps151
   go_wp2
   go_ret
   exact⟨rfl,rfl⟩
 ·rw[if_neg (by omega)]
  go_enter Tryz.func151,Tryz.ntmps151
  go_wp2
  go_ret
  exact⟨rfl,rfl⟩
theorem termValid (l:List ByteArray) (A:Option Addr) (c:Nat) (w:World) (hl:l.length<=1000) (hC:Ctx w) (hr:Rd w A (l.map Value.string)) (hz:∀s∈l,s.size<=281474976710656) :
  Calls Tryz.prog 96 #[.slice A l.length c] w λe w'=>e=.returned (.bool (l.all validB))/\Below w.heap.size w w':=by
 go_enter Tryz.func96,Tryz.ntmps96
 go_wp2
 go_loopw [7] (λi wr=>∃k:Nat,k<=l.length/\i=.int .i64 k/\Hid (l.all validB=(l.drop k).all validB)/\Below w.heap.size w wr) (λi _=>l.length-(intOf i).toNat)
 case atStart=>exact⟨0,by omega,rfl,rfl,Below.refl _ _⟩
 case round =>
  obtain⟨k,hk,rfl,H,hB⟩:=hrel
  by_cases hlt:k<l.length
  ·obtain⟨y,hx⟩:∃x,l[k]?=some x:=⟨_,List.getElem?_eq_getElem hlt⟩
   obtain⟨g,o,rfl,hcx⟩:=(hr.later hB).at_ (j:=k) (u:=.string y) (by simp[hx])
   have hd:=drop_cons_of hx
   have H2:Hid (l.all validB=(validB y && (l.drop (k+1)).all validB)):=by show _=_;rw[H.out,hd,List.all_cons]
   have hV:=Tryz.utf8_ValidString y wr (by have:=hz y (List.mem_of_getElem? hx);omega) (hC.step hB).tabs
   rw[show Lib.validD y.data.toList=validB y from rfl]at hV
   clear hx hd H hr hz hC
   generalize validB y=q at *
   cases q
   ·go_wp2_with (refine hV.mono ?_;rintro e w2 ⟨rfl,hb2⟩)
    go_ret
    exact⟨by rw[H2.out];rfl,below_tr hB hb2⟩
   ·go_wp2_with (refine hV.mono ?_;rintro e w2 ⟨rfl,hb2⟩)
    go_roundw
    case rel=>exact⟨k+1,by omega,by go_num,by show _=_;rw[H2.out];rfl,below_tr hB hb2⟩
    case measure=>simp[intOf];omega
  ·have H2:Hid (l.all validB=true):=by show _=_;rw[H.out,List.drop_eq_nil_of_le (by omega)];rfl
   clear H hr hz
   go_wp2
   go_ret
   exact⟨by rw[H2.out];rfl,hB⟩
theorem termLabel (s:ByteArray) (w:World) (hC:Ctx w) (hs:s.size<=281474976710656):Calls Tryz.prog 97 #[.string s] w λe w'=>e=.returned (.bool (labelB s))/\Below w.heap.size w w':=by
 have hL:=utfLabel s w hC hs
 unfold labelB
 generalize label s.data.toList=n at *
 cases he:s.toList.isEmpty
 ·cases hq:((n:Int) == s.size)
  all_goals
   go_enter Tryz.func97,Tryz.ntmps97
   go_wp2_with (refine hL.mono ?_;rintro e w2 ⟨rfl,hb2⟩)
   go_ret
   exact⟨rfl,hb2⟩
 ·go_enter Tryz.func97,Tryz.ntmps97
  go_wp2
  go_ret
  exact⟨rfl,Below.refl _ _⟩
theorem tag_plain {s:ByteArray} (h:((tag s.data.toList:Int) == s.size)=true):∀(i:Nat) (hi:i<s.size),(s[i]'hi).toNat<128:=by
 have h1:tag s.data.toList=s.size:=by have:=eq_of_beq h;omega
 intro i hi
 have h2:=(tag_reach s.data.toList).bytes i (by rw[h1];exact hi)
 have h3:s.data.toList.getD i 0=s[i]'hi:=by
  rw[List.getD_eq_getElem?_getD,List.getElem?_eq_getElem (by rw[←Lib.size_eq];exact hi)]
  rfl
 rw[h3]at h2
 generalize (s[i]'hi).toNat=n at *
 simp[alnumB,alphaB,digitB,inB]at h2
 omega
theorem termTag (s:ByteArray) (w:World) (_hC:Ctx w) (hs:s.size<=140737488351232):Calls Tryz.prog 98 #[.string s] w λe w'=>e=.returned (.bool (tagB s))/\Below w.heap.size w w':=by
 have hT:=utfTag s w (by omega)
 have eg:∀args W,(callFunc 151 args).run Tryz.prog W=.ok (.enter 151 args) W:=enters_of Tryz.func151 (by kernel_rfl) rfl
 have hM:=λ(hp:∀(i:Nat) (hi:i<s.size),(s[i]'hi).toNat<128) W (_:Below w.heap.size w W)=>mapPlain Tryz.lays230 Tryz.Builder_Extra_230 151 eg lowI s W (by omega) hp
  (λW' x hx _=>(termLower x W' (by omega) (by omega)).mono λe w' ⟨h1,h2⟩=>⟨h1,0,by rw[←h2];rfl⟩) (λx hx=>by unfold lowI;split<;>omega)
 have hP:=tag_plain (s:=s)
 unfold tagB
 generalize (⟨(Lib.mapD lowI s.data.toList).toArray⟩:ByteArray)=m at *
 generalize tag s.data.toList=n at *
 clear eg
 cases hq:((n:Int) == s.size)
 ·clear hM hP
  go_enter Tryz.func98,Tryz.ntmps98
  go_wp2_with (refine hT.mono ?_;rintro e w2 ⟨rfl,hb2⟩)
  go_ret
  exact⟨rfl,hb2⟩
 ·have hM1:=hM (hP hq)
  clear hM hP
  go_enter Tryz.func98,Tryz.ntmps98
  go_wp2_with fail
  refine hT.mono ?_
  rintro e w2 ⟨rfl,hb2⟩
  have hM2:=hM1 _ hb2
  clear hM1
  cases hq2:(m.toList == s.toList)
  all_goals
   go_wp2_with (refine hM2.mono ?_;rintro e w3 ⟨rfl,hb3⟩)
   go_ret
   exact⟨by rw[hq2];rfl,below_tr hb2 hb3⟩
def emptyB (s:ByteArray):Bool:=s.toList.isEmpty
def rightB (t:Tm):Bool:=
 if t.k=1 then emptyB (t.l++t.y) && validB t.x
 else if t.k=2 then emptyB (t.l++t.y) && labelB t.x
 else if t.k=3 then emptyB t.y && validB t.x && tagB t.l
 else if t.k=4 then emptyB t.l && !(t.y.toList == xsdL) && (validB t.x && validB t.y)
 else false
theorem termRight (t:Tm) (w:World) (hC:Ctx w) (hx:t.x.size<=281474976710656) (hl:t.l.size<=140737488351232) (hy:t.y.size<=281474976710656) :
  Calls Tryz.prog 56 #[.agg #[.int .i64 t.k,.string t.x,.string t.l,.string t.y]] w λe w'=>e=.returned (.bool (rightB t))/\Below w.heap.size w w':=by
 obtain⟨k,x,l,y⟩:=t
 simp only at hx hl hy ⊢
 have hB0:Below w.heap.size w (w.alloc (.cells #[.int .i64 k,.string x,.string l,.string y] 26)):=blw
 have hC1:=hC.step hB0
 have hV:∀W,Below w.heap.size w W->Calls Tryz.prog 96 #[.slice (some ⟨W.heap.size,0,none⟩) 1 1] (W.alloc (.cells #[.string x] 9)) λe w'=>e=.returned (.bool (validB x))/\Below w.heap.size w w'/\Below W.heap.size W w':=by
  intro W hb
  have hb2:Below W.heap.size W (W.alloc (.cells #[.string x] 9)):=blw
  refine(termValid [x] (some ⟨W.heap.size,0,none⟩) 1 _ (by simp) (hC.step (below_tr hb hb2)) (Rd.of_block (heap_alloc_new _ _) rfl) (by intro s hs;simp at hs;rw[hs];exact hx)).mono ?_
  rintro e w' ⟨rfl,hb3⟩
  exact⟨by simp,below_tr (below_tr hb hb2) hb3,below_tr hb2 hb3⟩
 have hV2:∀W,Below w.heap.size w W->Calls Tryz.prog 96 #[.slice (some ⟨W.heap.size,0,none⟩) 2 2] (W.alloc (.cells #[.string x,.string y] 9)) λe w'=>e=.returned (.bool (validB x && validB y))/\Below w.heap.size w w':=by
  intro W hb
  have hb2:Below W.heap.size W (W.alloc (.cells #[.string x,.string y] 9)):=blw
  refine(termValid [x,y] (some ⟨W.heap.size,0,none⟩) 2 _ (by simp) (hC.step (below_tr hb hb2)) (Rd.of_block (heap_alloc_new _ _) rfl) (by intro s hs;simp at hs;rcases hs with rfl|rfl;exact hx;exact hy)).mono ?_
  rintro e w' ⟨rfl,hb3⟩
  exact⟨by simp,below_tr (below_tr hb hb2) hb3⟩
 have hL:=termLabel x _ hC1 hx
 have hT:=λW hb=>termTag l W (hC.step hb) hl
 have hV1:=hV _ hB0
 have hV3:=hV2 _ hB0
 simp only[World.size_alloc]at hV1 hV3
 clear hV hV2
 have HB:=Lib.hid hB0
 unfold rightB emptyB xsdL
 simp only
 generalize validB x=v at *
 generalize validB y=v2 at *
 generalize labelB x=lb at *
 generalize tagB l=tg at *
 by_cases h1:k=1
 ·subst h1
  rw[if_pos rfl]
  cases he:(l++y).toList.isEmpty
  ·go_enter Tryz.func56,Tryz.ntmps56
   go_wp2
   go_ret
   exact⟨rfl,hB0⟩
  ·go_enter Tryz.func56,Tryz.ntmps56
   go_wp2_with (refine hV1.mono ?_;rintro e w2 ⟨rfl,hb2,hb2'⟩)
   go_ret
   exact⟨rfl,hb2⟩
 rw[if_neg h1]
 by_cases h2:k=2
 ·subst h2
  rw[if_pos rfl]
  clear h1
  cases he:(l++y).toList.isEmpty
  ·go_enter Tryz.func56,Tryz.ntmps56
   go_wp2
   go_ret
   exact⟨rfl,hB0⟩
  ·go_enter Tryz.func56,Tryz.ntmps56
   go_wp2_with (refine hL.mono ?_;rintro e w2 ⟨rfl,hb2⟩)
   go_ret
   exact⟨rfl,below_tr HB.out hb2⟩
 rw[if_neg h2]
 by_cases h3:k=3
 ·subst h3
  rw[if_pos rfl]
  clear h1 h2
  cases he:y.toList.isEmpty
  ·go_enter Tryz.func56,Tryz.ntmps56
   go_wp2
   go_ret
   exact⟨rfl,hB0⟩
  ·cases v
   ·go_enter Tryz.func56,Tryz.ntmps56
    go_wp2_with (refine hV1.mono ?_;rintro e w2 ⟨rfl,hb2,hb2'⟩)
    go_ret
    exact⟨rfl,hb2⟩
   ·go_enter Tryz.func56,Tryz.ntmps56
    go_wp2_with fail
    refine hV1.mono ?_
    rintro e w2 ⟨rfl,hb2,hb2'⟩
    have hT2:=hT w2 hb2
    have e2:w2.cell? ⟨w.heap.size,2,none⟩=some (.string l):=by
     rw[hb2'.cell (p:=⟨w.heap.size,2,none⟩) (by simp),World.cell?,heap_alloc_new];rfl
    clear hT hV1 hV3 hL
    go_wp2_with (refine hT2.mono ?_;rintro e w3 ⟨rfl,hb3⟩)
    go_ret
    exact⟨rfl,below_tr hb2 hb3⟩
 rw[if_neg h3]
 by_cases h4:k=4
 ·subst h4
  rw[if_pos rfl]
  clear h1 h2 h3
  cases he:l.toList.isEmpty
  ·go_enter Tryz.func56,Tryz.ntmps56
   go_wp2
   go_ret
   exact⟨rfl,hB0⟩
  ·cases hq:(y.toList == [104,116,116,112,58,47,47,119,119,119,46,119,51,46,111,114,103,47,50,48,48,49,47,88,77,76,83,99,104,101,109,97,35,115,116,114,105,110,103])
   ·have hqn:(y.toList != [104,116,116,112,58,47,47,119,119,119,46,119,51,46,111,114,103,47,50,48,48,49,47,88,77,76,83,99,104,101,109,97,35,115,116,114,105,110,103])=true:=by rw[bne,hq];rfl
    go_enter Tryz.func56,Tryz.ntmps56
    go_wp2_with (refine hV3.mono ?_;rintro e w2 ⟨rfl,hb2⟩)
    go_ret
    exact⟨rfl,hb2⟩
   ·have hqn:(y.toList != [104,116,116,112,58,47,47,119,119,119,46,119,51,46,111,114,103,47,50,48,48,49,47,88,77,76,83,99,104,101,109,97,35,115,116,114,105,110,103])=false:=by rw[bne,hq];rfl
    go_enter Tryz.func56,Tryz.ntmps56
    go_wp2
    go_ret
    exact⟨rfl,hB0⟩
 rw[if_neg h4]
 have k1:(k == 1)=false:=by simpa using h1
 have k2:(k == 2)=false:=by simpa using h2
 have k3:(k == 3)=false:=by simpa using h3
 have k4:(k == 4)=false:=by simpa using h4
 clear h1 h2 h3 h4
 go_enter Tryz.func56,Tryz.ntmps56
 go_wp2
 go_ret
 exact⟨rfl,hB0⟩
def oddQn (r:Int):Bool:=!(decide (97<=r) && decide (r<=122) || decide (65<=r) && decide (r<=90) || decide (48<=r) && decide (r<=57) || r == 95)
theorem oddQn_yes {r:Int} (h:¬ (97<=r/\r<=122)/\¬ (65<=r/\r<=90)/\¬ (48<=r/\r<=57)/\¬ r=95):oddQn r=true:=by
 have:oddQn r=decide (¬ (97<=r/\r<=122)/\¬ (65<=r/\r<=90)/\¬ (48<=r/\r<=57)/\¬ r=95):=by
  rw[Bool.eq_iff_iff];simp[oddQn];omega
 rw[this];exact decide_eq_true h
theorem oddQn_no {r:Int} (h:(97<=r/\r<=122)∨(65<=r/\r<=90)∨(48<=r/\r<=57)∨r=95):oddQn r=false:=by
 have:oddQn r = !decide ((97<=r/\r<=122)∨(65<=r/\r<=90)∨(48<=r/\r<=57)∨r=95):=by
  rw[Bool.eq_iff_iff];simp[oddQn];omega
 rw[this,decide_eq_true h];rfl
def nameB (s:ByteArray):Bool:=!s.toList.isEmpty && decide (s.size<=40) && decide (Lib.idxFunc (λx=>oddQn x) true s<0)
theorem qName1 (r:Int) (w:World) (h0:0<=r) (h1:r<=1114111):Calls Tryz.prog 160 #[.int .i32 r] w λe w'=>e=.returned (.bool (oddQn r))/\w=w':=by
 obtain⟨v,hv⟩:∃v,oddQn r=v:=⟨_,rfl⟩
 rw[hv]
 have Hv:=Lib.hid hv
 clear hv
 by_cases a1:r<48
 ·have a9:(r != 95)=true:=by simp;omega
  go_enter Tryz.func160,Tryz.ntmps160
  go_wp2
  go_ret
  exact⟨by first|(rw[←Hv.out,oddQn_yes (by omega)];rfl)|(rw[←Hv.out,oddQn_no (by omega)];rfl),rfl⟩
 by_cases a2:r<=57
 ·go_enter Tryz.func160,Tryz.ntmps160
  go_wp2
  go_ret
  exact⟨by first|(rw[←Hv.out,oddQn_yes (by omega)];rfl)|(rw[←Hv.out,oddQn_no (by omega)];rfl),rfl⟩
 by_cases a3:r<65
 ·have a9:(r != 95)=true:=by simp;omega
  go_enter Tryz.func160,Tryz.ntmps160
  go_wp2
  go_ret
  exact⟨by first|(rw[←Hv.out,oddQn_yes (by omega)];rfl)|(rw[←Hv.out,oddQn_no (by omega)];rfl),rfl⟩
 by_cases a4:r<=90
 ·go_enter Tryz.func160,Tryz.ntmps160
  go_wp2
  go_ret
  exact⟨by first|(rw[←Hv.out,oddQn_yes (by omega)];rfl)|(rw[←Hv.out,oddQn_no (by omega)];rfl),rfl⟩
 by_cases a5:r=95
 ·subst a5
  go_enter Tryz.func160,Tryz.ntmps160
  go_wp2
  go_ret
  exact⟨by rw[←Hv.out];rfl,rfl⟩
 have a5':(r != 95)=true:=by simpa using a5
 by_cases a6:r<97
 ·go_enter Tryz.func160,Tryz.ntmps160
  go_wp2
  go_ret
  exact⟨by first|(rw[←Hv.out,oddQn_yes (by omega)];rfl)|(rw[←Hv.out,oddQn_no (by omega)];rfl),rfl⟩
 by_cases a7:r<=122
 ·go_enter Tryz.func160,Tryz.ntmps160
  go_wp2
  go_ret
  exact⟨by first|(rw[←Hv.out,oddQn_yes (by omega)];rfl)|(rw[←Hv.out,oddQn_no (by omega)];rfl),rfl⟩
 ·go_enter Tryz.func160,Tryz.ntmps160
  go_wp2
  go_ret
  exact⟨by first|(rw[←Hv.out,oddQn_yes (by omega)];rfl)|(rw[←Hv.out,oddQn_no (by omega)];rfl),rfl⟩
theorem qName (s:ByteArray) (w:World) (hs:s.size<=281474976710656):Calls Tryz.prog 107 #[.string s] w λe w'=>e=.returned (.bool (nameB s))/\Below w.heap.size w w':=by
 have eg:∀args W,(callFunc 160 args).run Tryz.prog W=.ok (.enter 160 args) W:=enters_of Tryz.func160 (by kernel_rfl) rfl
 have hI:=Tryz.strings_IndexFunc_runes 160 #[] eg (λx=>oddQn x) s w (λW x hx _=>(qName1 x W (by omega) (by omega)).mono λe w' ⟨h1,h2⟩=>⟨h1,0,by rw[←h2];rfl⟩)
 unfold nameB
 generalize Lib.idxFunc (λx=>oddQn x) true s=i at *
 have hz:(s.size:Int)<=281474976710656:=by omega
 clear eg
 cases he:s.toList.isEmpty
 ·by_cases hq:(s.size:Int)<=40
  ·have hq2:decide (s.size<=40)=true:=by simp;omega
   rw[hq2]
   by_cases hi:i<0
   ·have hi2:decide (i<0)=true:=by simpa using hi
    go_enter Tryz.func107,Tryz.ntmps107
    go_wp2_with (refine hI.mono ?_;rintro e w2 ⟨rfl,hb2⟩)
    go_ret
    exact⟨by rw[hi2];rfl,hb2⟩
   ·have hi2:decide (i<0)=false:=by simpa using hi
    go_enter Tryz.func107,Tryz.ntmps107
    go_wp2_with (refine hI.mono ?_;rintro e w2 ⟨rfl,hb2⟩)
    go_ret
    exact⟨by rw[hi2];rfl,hb2⟩
  ·have hq2:decide (s.size<=40)=false:=by simp;omega
   rw[hq2]
   go_enter Tryz.func107,Tryz.ntmps107
   go_wp2
   go_ret
   exact⟨rfl,Below.refl _ _⟩
 ·go_enter Tryz.func107,Tryz.ntmps107
  go_wp2
  go_ret
  exact⟨rfl,Below.refl _ _⟩
def toldB (t:Tm):Bool:=!(t.k == 2) && rightB t
def szT (t:Tm):Prop:=t.x.size<=281474976710656/\t.l.size<=140737488351232/\t.y.size<=281474976710656
theorem qTold (t:Tm) (w:World) (hC:Ctx w) (hz:szT t):Calls Tryz.prog 212 #[.agg #[.int .i64 t.k,.string t.x,.string t.l,.string t.y]] w λe w'=>e=.returned (.bool (toldB t))/\Below w.heap.size w w':=by
 have hB0:Below w.heap.size w (w.alloc (.cells #[.int .i64 t.k,.string t.x,.string t.l,.string t.y] 26)):=blw
 have hR:=termRight t _ (hC.step hB0) hz.1 hz.2.1 hz.2.2
 have HB:=Lib.hid hB0
 clear hB0 hC hz
 unfold toldB
 generalize rightB t=q at *
 by_cases h2:t.k=2
 ·have h2':(t.k == 2)=true:=by simpa using h2
  have h3':(t.k != 2)=false:=by simpa using h2
  rw[h2']
  clear h2 h2'
  go_enter Tryz.func212,Tryz.ntmps212
  go_wp2
  go_ret
  exact⟨rfl,HB.out⟩
 ·have h2':(t.k == 2)=false:=by simpa using h2
  have h3':(t.k != 2)=true:=by simpa using h2
  rw[h2']
  clear h2 h2'
  go_enter Tryz.func212,Tryz.ntmps212
  go_wp2_with (refine hR.mono ?_;rintro e w2 ⟨rfl,hb2⟩)
  go_ret
  exact⟨rfl,below_tr HB.out hb2⟩
structure Sl where
 v:ByteArray
 t:Tm
def slC (s:Sl):List Value:=[.string s.v,.int .i64 s.t.k,.string s.t.x,.string s.t.l,.string s.t.y]
def zeroB (t:Tm):Bool:=t.k == 0 && t.x.toList.isEmpty && t.l.toList.isEmpty && t.y.toList.isEmpty
def slotB (s:Sl):Bool:=if s.v.toList.isEmpty then toldB s.t else nameB s.v && zeroB s.t
def szS (s:Sl):Prop:=s.v.size<=281474976710656/\szT s.t
theorem qSlot (s:Sl) (w:World) (hC:Ctx w) (hz:szS s):Calls Tryz.prog 164 #[.agg #[.string s.v,.int .i64 s.t.k,.string s.t.x,.string s.t.l,.string s.t.y]] w λe w'=>e=.returned (.bool (slotB s))/\Below w.heap.size w w':=by
 obtain⟨v,t⟩:=s
 obtain⟨hv,hzt⟩:=hz
 simp only at hv hzt ⊢
 have hB0:Below w.heap.size w (w.alloc (.cells #[.string v,.int .i64 t.k,.string t.x,.string t.l,.string t.y] 41)):=blw
 have hT:=qTold t _ (hC.step hB0) hzt
 have hN:=qName v (w.alloc (.cells #[.string v,.int .i64 t.k,.string t.x,.string t.l,.string t.y] 41)) hv
 have HB:=Lib.hid hB0
 obtain⟨k,x,l,y⟩:=t
 unfold slotB zeroB
 simp only at hT hN HB ⊢
 clear hB0 hC hv hzt
 generalize toldB ⟨k,x,l,y⟩=q1 at *
 generalize nameB v=q2 at *
 cases he:v.toList.isEmpty
 ·cases q2
  ·go_enter Tryz.func164,Tryz.ntmps164
   go_wp2_with (refine hN.mono ?_;rintro e w2 ⟨rfl,hb2⟩)
   go_ret
   exact⟨by simp,below_tr HB.out hb2⟩
  ·go_enter Tryz.func164,Tryz.ntmps164
   go_wp2_with fail
   refine hN.mono ?_
   rintro e w2 ⟨rfl,hb2⟩
   obtain⟨hc,hf⟩:=bcell hb2
   have HBB:=Lib.hid (below_tr HB.out hb2)
   clear hT hN HB hb2
   go_wp2
   all_goals (go_ret;exact⟨by simp_all,HBB.out⟩)
 ·go_enter Tryz.func164,Tryz.ntmps164
  go_wp2_with (refine hT.mono ?_;rintro e w2 ⟨rfl,hb2⟩)
  go_ret
  exact⟨by simp,below_tr HB.out hb2⟩
structure Pat where
 s:Sl
 p:Sl
 o:Sl
def patB (p:Pat):Bool:=slotB p.s && slotB p.p && slotB p.o && (!p.p.v.toList.isEmpty || p.p.t.k == 1)
def szP (p:Pat):Prop:=szS p.s/\szS p.p/\szS p.o
theorem qPattern (p:Pat) (w:World) (hC:Ctx w) (hz:szP p):Calls Tryz.prog 110 #[.agg #[.string p.s.v,.int .i64 p.s.t.k,.string p.s.t.x,.string p.s.t.l,.string p.s.t.y,.string p.p.v,.int .i64 p.p.t.k,.string p.p.t.x,.string p.p.t.l,.string p.p.t.y,.string p.o.v,.int .i64 p.o.t.k,.string p.o.t.x,.string p.o.t.l,.string p.o.t.y]] w λe w'=>e=.returned (.bool (patB p))/\Below w.heap.size w w':=by
 obtain⟨⟨sv,sk,sx,sl,sy⟩,⟨pv,pk,px,pl,py⟩,⟨ov,ok,ox,ol,oy⟩⟩:=p
 obtain⟨res,hres⟩:∃r,patB ⟨⟨sv,sk,sx,sl,sy⟩,⟨pv,pk,px,pl,py⟩,⟨ov,ok,ox,ol,oy⟩⟩=r:=⟨_,rfl⟩
 rw[hres]
 have Hres:Hid (res=(slotB ⟨sv,sk,sx,sl,sy⟩ && slotB ⟨pv,pk,px,pl,py⟩ && slotB ⟨ov,ok,ox,ol,oy⟩ && (!pv.toList.isEmpty || pk == 1))):=by show _=_;rw[←hres];rfl
 have hS:∀W,Below w.heap.size w W->Calls Tryz.prog 164 #[.agg #[.string sv,.int .i64 sk,.string sx,.string sl,.string sy]] W λe w'=>e=.returned (.bool (slotB ⟨sv,sk,sx,sl,sy⟩))/\Below W.heap.size W w':=λW hb=>qSlot ⟨sv,sk,sx,sl,sy⟩ W (hC.step hb) hz.1
 have hP:∀W,Below w.heap.size w W->Calls Tryz.prog 164 #[.agg #[.string pv,.int .i64 pk,.string px,.string pl,.string py]] W λe w'=>e=.returned (.bool (slotB ⟨pv,pk,px,pl,py⟩))/\Below W.heap.size W w':=λW hb=>qSlot ⟨pv,pk,px,pl,py⟩ W (hC.step hb) hz.2.1
 have hO:∀W,Below w.heap.size w W->Calls Tryz.prog 164 #[.agg #[.string ov,.int .i64 ok,.string ox,.string ol,.string oy]] W λe w'=>e=.returned (.bool (slotB ⟨ov,ok,ox,ol,oy⟩))/\Below W.heap.size W w':=λW hb=>qSlot ⟨ov,ok,ox,ol,oy⟩ W (hC.step hb) hz.2.2
 have hB0:Below w.heap.size w (w.alloc (.cells #[.string sv,.int .i64 sk,.string sx,.string sl,.string sy,.string pv,.int .i64 pk,.string px,.string pl,.string py,.string ov,.int .i64 ok,.string ox,.string ol,.string oy] 43)):=blw
 clear hres hC hz
 simp only at ⊢
 generalize slotB ⟨sv,sk,sx,sl,sy⟩=q1 at *
 generalize slotB ⟨pv,pk,px,pl,py⟩=q2 at *
 generalize slotB ⟨ov,ok,ox,ol,oy⟩=q3 at *
 have hS0:=hS _ hB0
 clear hS
 cases q1
 ·clear hP hO
  go_enter Tryz.func110,Tryz.ntmps110
  go_wp2_with (go_at_call 164;refine hS0.mono ?_;rintro e w2 ⟨rfl,hb2⟩)
  go_ret
  exact⟨by rw[Hres.out];rfl,below_tr hB0 hb2⟩
 go_enter Tryz.func110,Tryz.ntmps110
 go_wp2_with fail
 refine hS0.mono ?_
 rintro e w2 ⟨rfl,hb2⟩
 have hb02:=below_tr hB0 hb2
 obtain⟨hc,hf⟩:=bcell hb2
 have hP0:=hP _ hb02
 clear hS0 hP
 cases q2
 ·clear hO
  go_wp2_with (go_at_call 164;refine hP0.mono ?_;rintro e w3 ⟨rfl,hb3⟩)
  go_ret
  exact⟨by rw[Hres.out];rfl,below_tr hb02 hb3⟩
 go_wp2_with fail
 refine hP0.mono ?_
 rintro e w3 ⟨rfl,hb3⟩
 have hb03:=below_tr hb02 hb3
 have hb23:=below_tr hb2 hb3
 clear hc hf
 obtain⟨hc,hf⟩:=bcell hb23
 have hO0:=hO _ hb03
 clear hP0 hO hb2 hb3 hb02
 cases q3
 ·go_wp2_with (go_at_call 164;refine hO0.mono ?_;rintro e w4 ⟨rfl,hb4⟩)
  go_ret
  exact⟨by rw[Hres.out];rfl,below_tr hb03 hb4⟩
 go_wp2_with fail
 refine hO0.mono ?_
 rintro e w4 ⟨rfl,hb4⟩
 have hb04:=below_tr hb03 hb4
 have hb24:=below_tr hb23 hb4
 clear hc hf
 obtain⟨hc,hf⟩:=bcell hb24
 clear hO0 hb4 hb03 hb23
 cases he:pv.toList.isEmpty
 ·go_wp2
  go_ret
  exact⟨by rw[Hres.out,he];rfl,hb04⟩
 ·by_cases hk:pk=1
  ·subst hk
   go_wp2
   go_ret
   exact⟨by rw[Hres.out,he];rfl,hb04⟩
  ·have hk2:(pk == 1)=false:=by simpa using hk
   go_wp2
   go_ret
   exact⟨by rw[Hres.out,he,hk2];rfl,hb04⟩
end Go.Proofs.YtoaemihcbmlkgaaGreatDoor
