/- The kit's rows lent, kept. The kit's OverTexts: a list writt -/
import Derived.Test.YtjldjeenfnahoaaGreatDoorJLent4
import Derived.Test.YtjldjeenfnahoaaGreatDoorJKept1
set_option maxHeartbeats 8000000
set_option maxRecDepth 100000
namespace Go.Proofs.YtjldjeenfnahoaaGreatDoor
open Go Go.RowKit Um Fm Lx Tx Om Mp
def aW (B:Nat) (w:World) (cs:List Value) (row:List Tm):Prop:=∃g,cs=[.slice (some ⟨g,0,none⟩) row.length (row.length+12)]/\B<=g/\aG 65 w g ((row++marksOf eZ).flatMap tmC)
theorem aW.later {B:Nat} {w w':World} {cs:List Value} {row:List Tm} (h:aW B w cs row) (hb:Below w.heap.size w w'):aW B w' cs row:=by
 obtain⟨g,h1,h2,h3⟩:=h
 exact⟨g,h1,h2,h3.below hb h3.lt⟩
theorem aW.keep {B:Nat} {w w':World} {cs:List Value} {row:List Tm} (h:aW B w cs row) (hk:KeepT 65 w w'):aW B w' cs row:=by
 obtain⟨g,h1,h2,cur,h3,h4⟩:=h
 exact⟨g,h1,h2,cur,hk _ _ _ h3,h4⟩
theorem aW.rd {B:Nat} {w:World} {cs:List Value} {row:List Tm} (h:aW B w cs row):RdRow w cs row:=by
 obtain⟨g,rfl,_,h3⟩:=h
 refine⟨_,_,rfl,by omega,.of ?_⟩
 have:=h3
 rw[List.flatMap_append]at this
 exact this.rd1
def zO (rows:List (List Tm)) (w:World) (e:Ending) (w':World):Prop:=∃v xs,e=.returned v/\w'.ownsRow w.heap.size 69 1 v rows.length xs/\All 1 (aW w.heap.size w') xs rows/\Below w.heap.size w w'
theorem vP {w wr w2 w6:World} {k g2:Nat} {v v':Value} {xs:List Value} {rows:List (List Tm)} {row:List Tm} (hall:All 1 (aW w.heap.size wr) xs (rows.take k)) (hB:Below w.heap.size w wr) (hrow:rows[k]?=some row) (hg2:wr.heap.size<=g2) (hL:aG 65 w2 g2 ((row++marksOf eZ).flatMap tmC)) (hb2:Below wr.heap.size wr w2)
  (own2:(w2.alloc (.cells #[.slice (some ⟨g2,0,none⟩) row.length (row.length+12)] 69)).ownsRow w.heap.size 69 1 v k xs) (own6:w6.ownsRow w.heap.size 69 1 v' (k+1) (xs++[.slice (some ⟨g2,0,none⟩) row.length (row.length+12)])) (hb6:Below w.heap.size (w2.alloc (.cells #[.slice (some ⟨g2,0,none⟩) row.length (row.length+12)] 69)) w6) (hg6:(w2.alloc (.cells #[.slice (some ⟨g2,0,none⟩) row.length (row.length+12)] 69)).grownBy w6 v.ownBlock) :
  ∃xs',w6.ownsRow w.heap.size 69 1 v' (k+1) xs'/\All 1 (aW w.heap.size w6) xs' (rows.take (k+1))/\Below w.heap.size w w6:=by
 have hal:Below w2.heap.size w2 (w2.alloc (.cells #[.slice (some ⟨g2,0,none⟩) row.length (row.length+12)] 69)):=(Below.refl _ _).alloc (Nat.le_refl _) _
 have kR:=(KeepT.below (e:=65) hal).trans (KeepT.grown (e:=65) hg6 (own_blockR own2) (by decide))
 have hs:=hB.size
 refine⟨_,own6,?_,(aa (aa hB hb2) hal).trans hb6⟩
 rw[ah hrow]
 refine(hall.mono λ_ _ _ h=>((h.later hb2).keep kR)).append (All.one rfl ?_)
 obtain⟨cur,h1,h2⟩:=hL
 exact⟨g2,rfl,Nat.le_trans hs hg2,cur,kR _ _ _ h1,h2⟩
theorem yG (rows:List (List Tm)) (A:Option Addr) (m c:Nat) (w:World) (hm:rows.length=m) (hlm:m<=1000000) (hz:∀r∈rows,r.length<=1000000) (hr:RdRs w A rows) :
  Calls Tryz.prog 8 #[.slice A m c] w (zO rows w):=by
 have H:=Lib.hid (And.intro hm (And.intro hz hr))
 have hin:Tryz.prog.underlying 23=some (.slice 69):=Tryz.underlying23
 have HS:Hid (∃xs,w.ownsRow w.heap.size 69 1 (.slice none 0 0) 0 xs/\All 1 (aW w.heap.size w) xs (rows.take 0)/\Below w.heap.size w w):=⟨[],World.ownsRow_nil _ _ _ _,rfl,Below.refl _ _⟩
 clear hm hz hr
 go_enter Tryz.func8,Tryz.ntmps8
 go_wp2
 go_loopw [3,4] (λv i wr=>∃k:Nat,k<=m/\i=.int .i64 k/\Hid (∃xs,wr.ownsRow w.heap.size 69 1 v k xs/\All 1 (aW w.heap.size wr) xs (rows.take k)/\Below w.heap.size w wr)) (λ_ i _=>m-(intOf i).toNat)
 case atStart=>exact⟨0,by omega,rfl,HS⟩
 case round =>
  clear HS
  obtain⟨k,hk,rfl,HK⟩:=hrel
  obtain⟨xs,own,hall,hB⟩:=HK.out
  obtain⟨hm,hz,hr⟩:=H.out
  obtain⟨Ar,cr,rfl,_,_⟩:=own_slice own
  by_cases hlt:k<m
  ·obtain⟨row,hrow⟩:∃row,rows[k]?=some row:=⟨_,List.getElem?_eq_getElem (by omega)⟩
   obtain⟨g,o,A',c',rfl,hcell,hle,hrd⟩:=(hr.later hB).at1 hrow
   have hC:=fa (vQ row A' c' wr hrd.flat (by have:=hz row (List.mem_of_getElem? hrow);omega))
   have HX:=Lib.hid (And.intro hall (And.intro hB hrow))
   have hsz:=hB.size
   clear hm hz hr hrow hle hrd hB hall HK
   go_wp2_with (first
    | (go_at_call 34;refine hC.mono ?_;rintro e w2 ⟨g2,rfl,hg2,hL,hb2⟩;have own2:=(own_below own hb2 (Nat.le_refl _)).alloc (.cells #[.slice (some ⟨g2,0,none⟩) row.length (row.length+12)] 69);have hs2:=hb2.size;have HL:=Lib.hid (And.intro hg2 (And.intro hL hb2));clear hL hg2 hb2 hC own hcell)
    | (at_builtin;refine ar rfl rfl hin cw rfl (by omega) rfl own2 rfl (Rd.of_block (heap_alloc_new w2 _) rfl) rfl (by intro u hu;simp only[List.mem_cons,List.not_mem_nil,or_false]at hu;subst hu;rfl) (by omega) (by omega) (by simp;omega) ?_;intro v' w6 own6 hb6 hg6;have HF:Hid (∃xs',w6.ownsRow w.heap.size 69 1 v' (k+1) xs'/\All 1 (aW w.heap.size w6) xs' (rows.take (k+1))/\Below w.heap.size w w6):=(vP HX.out.1 HX.out.2.1 HX.out.2.2 HL.out.1 HL.out.2.1 HL.out.2.2 own2 own6 hb6 hg6);obtain⟨A9,c9,rfl,_,_⟩:=own_slice own6;clear own6 hb6 hg6 own2))
   go_roundw
   case rel=>exact⟨k+1,by omega,by go_num,HF⟩
   case measure=>simp[intOf];omega
  ·obtain rfl:m=k:=by omega
   have HF:Hid (zO rows w (.returned (.slice Ar m cr)) wr):=by
    rw[List.take_of_length_le (by omega)]at hall
    exact⟨_,xs,rfl,by rw[hm];exact own,hall,hB⟩
   clear HK own hall hB hm hz hr
   go_wp2
   go_ret
   exact HF.out
theorem yS (B:Nat) (rows:List (List Tm)) (A A2:Option Addr) (m c c2:Nat) (w:World) (hm:rows.length=m) (hlm:m<=1000000) (hz:∀r∈rows,r.length<=1000000) (hr:RdL 1 (aW B w) w A rows) (hr2:RdRs w A2 rows) :
  Calls Tryz.prog 26 #[.slice A m c,.slice A2 m c2] w λe w'=>e=.returned (.bool true)/\Below w.heap.size w w':=by
 have H:=Lib.hid (And.intro hm (And.intro hz (And.intro hr hr2)))
 clear hm hz hr hr2
 go_enter Tryz.func26,Tryz.ntmps26
 go_wp2
 go_loopw [5] (λi wr=>∃k:Nat,k<=m/\i=.int .i64 k/\Hid (Below w.heap.size w wr)) (λi _=>m-(intOf i).toNat)
 case atStart=>exact⟨0,by omega,rfl,Below.refl _ _⟩
 case round =>
  obtain⟨k,hk,rfl,HB⟩:=hrel
  obtain⟨hm,hz,hr,hr2⟩:=H.out
  by_cases hlt:k<m
  ·obtain⟨row,hrow⟩:∃row,rows[k]?=some row:=⟨_,List.getElem?_eq_getElem (by omega)⟩
   obtain⟨g2,o2,A',c',rfl,hc2,_,hrd2⟩:=(hr2.later HB.out).at1 hrow
   obtain⟨g1,o1,cs,rfl,_,hL,hx⟩:=(RdL.mono hr HB.out (λ_ _ _ h=>aW.later h HB.out)).at_ (by omega) hrow
   obtain⟨g,rfl,_,hL3⟩:=hL
   have hc1:wr.cell? ⟨g1,o1+k,none⟩=some (.slice (some ⟨g,0,none⟩) row.length (row.length+12)):=by
    have:=hx 0 _ rfl
    rwa [Nat.mul_one,Nat.add_zero]at this
   have hC:=λd os=>vW row g A' c' (Sort.grow (redrawn wr d) os) (hL3.below (below_regrown wr d os) hL3.lt) ((hrd2.later (below_regrown wr d os)).flat) (by have:=hz row (List.mem_of_getElem? hrow);omega)
   have e1:=λd os=>ab hc1 (below_regrown wr d os)
   have e2:=λd os=>ab hc2 (below_regrown wr d os)
   generalize row.length=rl at *
   clear hm hz hr hr2 hrow hrd2 hL3 hx hc1 hc2
   go_wp2
   refine wrq ?_;(repeat (any_goals (go_big_quiet_step ((go_at_call 54;exact Calls.regrown_of (hC _ _))))));all_goals (refine wqn ?_;intro d9 os9)
   have kq:=Lib.hid (aa HB.out (below_regrown wr d9 os9))
   go_wp2
   go_roundw
   case rel=>exact⟨k+1,by omega,by go_num,kq⟩
   case measure=>simp[intOf];omega
  ·obtain rfl:m=k:=by omega
   clear hm hz hr hr2
   go_wp2
   go_ret
   exact⟨rfl,HB.out⟩
def Holds (w:World) (g m:Nat):Prop:=∃cur:Array Value,w.heap[g]?=some (.cells cur 9 (0,0))/\m<=cur.size
theorem Holds.lt {w:World} {g m:Nat} (h:Holds w g m):g<w.heap.size:=by
 obtain⟨cur,h1,_⟩:=h
 rcases Nat.lt_or_ge g w.heap.size with hlt|hge
 ·exact hlt
 ·rw[Array.getElem?_eq_none hge]at h1;cases h1
theorem Holds.below {w w':World} {g m:Nat} (h:Holds w g m) (hb:Below w.heap.size w w'):Holds w' g m:=by
 have hlt:=h.lt
 obtain⟨cur,h1,h2⟩:=h
 exact⟨cur,by rw[hb.block g hlt];exact h1,h2⟩
theorem Holds.set {w:World} {g m i:Nat} {v:Value} (h:Holds w g m):Holds (w.setCell ⟨g,i,none⟩ v) g m:=by
 obtain⟨cur,h1,h2⟩:=h
 exact⟨_,heap_setCell_same _ _ _ _ _ _ h1,by simpa using h2⟩
theorem Holds.cell {w:World} {g m i:Nat} (h:Holds w g m) (hi:i<m):∃u,w.cell? ⟨g,i,none⟩=some u:=by
 obtain⟨cur,h1,h2⟩:=h
 exact⟨cur[i]'(by show i<cur.size;omega),by rw[World.cell?,h1];exact Array.getElem?_eq_getElem (by show i<cur.size;omega)⟩
theorem Holds.frozen {w:World} {g m i:Nat} (h:Holds w g m):w.frozen? ⟨g,i,none⟩=false:=by
 obtain⟨cur,h1,h2⟩:=h
 exact frozen_of_row h1
theorem Holds.of_own {w:World} {base g n cap:Nat} {xs:List Value} (h:w.ownsRow base 9 1 (.slice (some ⟨g,0,none⟩) n cap) n xs):Holds w g cap/\base<=g:=by
 rcases h.2 with ⟨hv,_⟩|⟨g2,cap2,cur,hv,hb,hh,_,_,hcs,ht⟩
 ·cases hv
 ·injection hv with hA _ hcap
  injection hA with hA
  injection hA with hA
  subst hA
  subst hcap
  exact⟨⟨cur,hh,by omega⟩,hb⟩
theorem cy (q:Bool) (w:World) :
  Calls Tryz.prog 103 #[.bool q] w λe w'=>e=.returned (.int .i64 (bC q))/\w=w':=by
 cases q<;>(go_enter Tryz.func103,Tryz.ntmps103;go_wp2;go_ret;exact⟨rfl,rfl⟩)
theorem oH (t:Int) (w:World) :
  Calls Tryz.prog 99 #[.int .i64 t] w λe w'=>e=.returned (.int .i64 (dU t))/\w=w':=by
 go_enter Tryz.func99,Tryz.ntmps99
 go_wp2
 all_goals (go_ret;exact⟨by simp_all[dU],rfl⟩)
theorem xE (k:Int) (x l y ty:ByteArray) (w:World) :
  Calls Tryz.prog 127 #[.agg #[.int .i64 k,.string x,.string l,.string y],.string ty] w λe w'=>e=.returned (.bool (aM ⟨k,x,l,y⟩ ty))/\Below w.heap.size w w':=by
 go_enter Tryz.func127,Tryz.ntmps127
 go_wp2
 all_goals (go_ret;exact⟨by simp_all[aM],blw⟩)
theorem gZ (k:Int) (x l y:ByteArray) (w:World) :
  Calls Tryz.prog 104 #[.agg #[.int .i64 k,.string x,.string l,.string y]] w λe w'=>e=.returned (.bool (iR ⟨k,x,l,y⟩))/\Below w.heap.size w w':=by
 go_enter Tryz.func104,Tryz.ntmps104
 go_wp2
 all_goals (go_ret;exact⟨by simp_all[iR],blw⟩)
theorem iC (k:Int) (x l y:ByteArray) (w:World) :
  Calls Tryz.prog 159 #[.agg #[.int .i64 k,.string x,.string l,.string y]] w λe w'=>e=.returned (.bool (ba ⟨k,x,l,y⟩))/\Below w.heap.size w w':=by
 go_enter Tryz.func159,Tryz.ntmps159
 go_wp2
 all_goals (go_ret;exact⟨by simp_all[ba],blw⟩)
def aS (l:List UInt8):List UInt8:=if (l.dropWhile (· == 48)).isEmpty then [48] else l.dropWhile (· == 48)
theorem fN (l:List UInt8):aS (48::l)=aS l:=by
 unfold aS
 rw[List.dropWhile_cons]
 simp
theorem cH (c:UInt8) (l:List UInt8) (h:c≠48):aS (c::l)=c::l:=by
 unfold aS
 rw[List.dropWhile_cons]
 simp[h]
theorem AU (m:Bool) (r:List UInt8) (h:r.isEmpty=false) (h2:r.all iW.contains=true):fq (ic m r)=.tuple #[.bool (m && !(aS r == [48])),.string ⟨(aS r).toArray⟩,.bool true]:=by
 unfold aS
 cases hz:(r.dropWhile (· == 48)).isEmpty
 ·rw[qB h h2 hz]
  have hne:(r.dropWhile (· == 48) == [48])=false:=by
   rw[beq_eq_false_iff_ne]
   intro hc
   have:=List.head?_dropWhile_not (· == 48) r
   rw[hc]at this
   simp at this
  simp[hne]
 ·rw[nV h h2 hz]
  simp
theorem jA (s:ByteArray) (i:Nat) (h:i<s.size):∃c:UInt8,s.toList[i]?=some c/\bn s i=c.toNat:=by
 rw[ByteArray.toList_eq]
 have hl:i<s.data.toList.length:=by rw[ac];exact h
 exact⟨s.data.toList[i],List.getElem?_eq_getElem hl,by rw[bn,List.getD_eq_getElem?_getD,List.getElem?_eq_getElem hl];rfl⟩
theorem cD (s:ByteArray) (h:0<s.size):∃c:UInt8,s.toList=c::(s.extract 1 s.size).toList/\bn s 0=c.toNat:=by
 obtain⟨c,h1,h2⟩:=jA s 0 h
 refine⟨c,?_,h2⟩
 rw[ByteArray.toList_eq]at *
 rw[ByteArray.toList_eq,extract_toList,List.take_of_length_le (by simp)]
 cases hs:s.data.toList with
 | nil=>rw[hs]at h1;cases h1
 | cons a r=>rw[hs]at h1;simp at h1;rw[h1];rfl
theorem fK (c:UInt8) (n:Nat) (h:c.toNat=n) (hn:n<256):c=n.toUInt8:=by
 apply UInt8.toNat_inj.1
 rw[h];simp;omega
def vsz:Value->Nat
 | .string s=>s.size
 | _=>0
theorem od (c:UInt8):iW.contains c=(decide (48<=c.toNat) && decide (c.toNat<=57)):=by
 have h:∀n:Fin 256,iW.contains n.val.toUInt8=(decide (48<=n.val) && decide (n.val<=57)):=by decide +kernel
 have:=h ⟨c.toNat,c.toNat_lt⟩
 rwa [show (⟨c.toNat,c.toNat_lt⟩:Fin 256).val.toUInt8=c from by simp]at this
def t8 (s:ByteArray) (k:Nat):Prop:=∀j,j<k->48<=bn s j/\bn s j<=57
theorem mr (s:ByteArray) (h:t8 s s.size):s.toList.all iW.contains=true:=by
 rw[List.all_eq_true]
 intro c hc
 obtain⟨i,hi,rfl⟩:=List.getElem_of_mem hc
 have hsz:s.toList.length=s.size:=by rw[ByteArray.toList_eq];exact ac s
 obtain⟨c,h1,h2⟩:=jA s i (by omega)
 have:=h i (by omega)
 rw[List.getElem?_eq_getElem hi]at h1
 injection h1 with h1
 rw[h1,od]
 simp;omega
theorem eY (s:ByteArray) (i:Nat) (hi:i<s.size) (h:bn s i<48∨57<bn s i):s.toList.all iW.contains=false:=by
 obtain⟨c,h1,h2⟩:=jA s i hi
 cases hb:s.toList.all iW.contains with
 | false=>rfl
 | true =>
  have:=List.all_eq_true.1 hb c (List.mem_of_getElem? h1)
  rw[od]at this
  simp at this
  omega
theorem sr (x:ByteArray) (h:0<x.size) (hb:bn x 0=45):jn x.toList=ic true (x.extract 1 x.size).toList:=by
 obtain⟨c,h1,h2⟩:=cD x h
 have:c=45:=by have:=fK c 45 (by omega) (by omega);exact this
 rw[h1,this];rfl
theorem vJ (x:ByteArray) (h:0<x.size) (hb:bn x 0=43):jn x.toList=ic false (x.extract 1 x.size).toList:=by
 obtain⟨c,h1,h2⟩:=cD x h
 have:c=43:=by have:=fK c 43 (by omega) (by omega);exact this
 rw[h1,this];rfl
theorem vL (x:ByteArray) (h:0<x.size) (hb:bn x 0≠45) (hb2:bn x 0≠43):jn x.toList=ic false x.toList:=by
 obtain⟨c,h1,h2⟩:=cD x h
 have n1:c≠45:=λe=>hb (by rw[h2,e];rfl)
 have n2:c≠43:=λe=>hb2 (by rw[h2,e];rfl)
 rw[h1]
 unfold jn
 split
 ·rename_i e;injection e with e _;exact(n1 e).elim
 ·rename_i e;injection e with e _;exact(n2 e).elim
 ·rfl
theorem vK (x:ByteArray) (h:x.size=0):fq (jn x.toList)=.tuple #[.bool false,.string ⟨#[]⟩,.bool false]:=by
 have:x.toList=[]:=by
  have hsz:x.toList.length=x.size:=by rw[ByteArray.toList_eq];exact ac x
  exact List.eq_nil_of_length_eq_zero (by omega)
 rw[this];rfl
theorem zS (m:Bool) (s:ByteArray) (V:Value) (h:fq (ic m s.toList)=V) :
  (s.toList.isEmpty=true->V=.tuple #[.bool false,.string ⟨#[]⟩,.bool false])/\(s.toList.all iW.contains=false->V=.tuple #[.bool false,.string ⟨#[]⟩,.bool false]) /\
   (s.toList.all iW.contains=true->s.toList.isEmpty=false->V=.tuple #[.bool (m && !(aS s.toList == [48])),.string ⟨(aS s.toList).toArray⟩,.bool true]):=by
 subst h
 exact⟨λh=>p9 (.inl h),λh=>p9 (.inr h),λh h2=>AU m _ h2 h⟩
theorem eU (k:Int) (x l y:ByteArray) (w:World) (hs:x.size<=281474976710656) :
  Calls Tryz.prog 126 #[.agg #[.int .i64 k,.string x,.string l,.string y]] w λe w'=>e=.returned (fq (lJ ⟨k,x,l,y⟩))/\Below w.heap.size w w':=by
 have ht:=λW=>xE k x l y aO W
 have hfin:fq (lJ ⟨k,x,l,y⟩)=if aM ⟨k,x,l,y⟩ aO then fq (jn x.toList) else .tuple #[.bool false,.string ⟨#[]⟩,.bool false]:=by
  unfold lJ
  split<;>rfl
 rw[hfin]
 clear hfin
 generalize aM ⟨k,x,l,y⟩ aO=q at ht ⊢
 unfold aO at ht
 cases q
 ·go_enter Tryz.func126,Tryz.ntmps126
  go_wp2_with (go_at_call 127;refine(ht _).mono ?_;rintro e w2 ⟨rfl,hb2⟩)
  go_ret3
  exact⟨rfl,blw⟩
 ·by_cases h0:0<x.size
  ·by_cases h45:bn x 0=45
   ·have hV:=congrArg fq (sr x h0 h45)
    have hV2:=zS _ _ _ hV.symm
    have hss:(x.extract 1 x.size).size<=281474976710656:=by rw[ByteArray.size_extract];omega
    have HV:=Lib.hid hV2
    clear hV hV2
    generalize fq (jn x.toList)=V at *
    have q1:((bn x 0:Int) == 45)=true:=by rw[h45];rfl
    clear h45
    by_cases hs0:(x.extract 1 x.size).size=0
    ·have he:(x.extract 1 x.size).toList.isEmpty=true:=by
      have hsz:(x.extract 1 x.size).toList.length=(x.extract 1 x.size).size:=by rw[ByteArray.toList_eq];exact ac _
      rw[List.isEmpty_iff]
      exact List.eq_nil_of_length_eq_zero (by omega)
     have hv:=HV.out.1 he
     have Hv:=Lib.hid hv
     clear hv HV hs0
     go_enter Tryz.func126,Tryz.ntmps126
     go_wp2_with fail
     refine(ht _).mono ?_
     rintro e w2 ⟨rfl,hb2⟩
     obtain⟨hc2,hf2⟩:=aB hb2
     go_wp2
     go_ret3
     exact⟨by rw[Hv.out];rfl,blw⟩
    ·have he:(x.extract 1 x.size).toList.isEmpty=false:=by
      have hsz:(x.extract 1 x.size).toList.length=(x.extract 1 x.size).size:=by rw[ByteArray.toList_eq];exact ac _
      cases h:(x.extract 1 x.size).toList with
      | nil=>rw[h,List.length_nil]at hsz;omega
      | cons a r=>rfl
     have hs1:1<=(x.extract 1 x.size).size:=by omega
     clear hs0
     go_enter Tryz.func126,Tryz.ntmps126
     go_wp2_with fail
     refine(ht _).mono ?_
     rintro e w2 ⟨rfl,hb2⟩
     obtain⟨hc2,hf2⟩:=aB hb2
     go_wp2
     generalize x.extract 1 x.size=s at *
     go_loop [7] (λi=>∃j:Nat,j<=s.size/\i=.int .i64 j/\Hid (t8 s j)) (λi=>s.size-(intOf i).toNat)
     case atStart=>exact⟨0,by omega,rfl,λj h=>by omega⟩
     case round =>
      obtain⟨j,hj,rfl,Hd⟩:=hrel
      by_cases hlt:j<s.size
      ·by_cases hlo:bn s j<48
       ·have q1:decide ((bn s j:Int)<48)=true:=by simp;omega
        have hv:=HV.out.2.1 (eY s j hlt (.inl hlo))
        have Hv:=Lib.hid hv
        clear hv HV Hd hlo
        go_wp2
        go_ret3
        exact⟨by rw[Hv.out];rfl,blw⟩
       ·have q1:decide ((bn s j:Int)<48)=false:=by simp;omega
        by_cases hhi:57<bn s j
        ·have q2:decide ((57:Int)<bn s j)=true:=by simp;omega
         have hv:=HV.out.2.1 (eY s j hlt (.inr hhi))
         have Hv:=Lib.hid hv
         clear hv HV Hd hlo hhi
         go_wp2
         go_ret3
         exact⟨by rw[Hv.out];rfl,blw⟩
        ·have q2:decide ((57:Int)<bn s j)=false:=by simp;omega
         have Hd2:Hid (t8 s (j+1)):=λi hi=>by
          rcases Nat.lt_or_ge i j with h|h
          ·exact Hd.out i h
          ·obtain rfl:i=j:=by omega
           omega
         clear hlo hhi Hd
         go_wp2
         go_round
         case rel=>exact⟨j+1,by omega,by go_num,Hd2⟩
         case measure=>simp[intOf];omega
      ·obtain rfl:j=s.size:=by omega
       have h2:=HV.out.2.2 (mr s Hd.out) he
       have HV2:=Lib.hid h2
       clear h2 Hd
       go_wp2
       go_loop [5] (λv=>∃t:ByteArray,v=.string t/\1<=t.size/\t.size<=281474976710656/\Hid (aS t.toList=aS s.toList)) (λv=>vsz v)
       case atStart=>exact⟨s,rfl,by omega,by omega,rfl⟩
       case round =>
        obtain⟨t,rfl,ht1,ht2,H⟩:=hrel
        obtain⟨b,htl,hb⟩:=cD t (by omega)
        by_cases hlt:1<t.size
        ·have d0:0<t.size:=by omega
         by_cases h48:bn t 0=48
         ·have hb48:b=48:=fK b 48 (by omega) (by omega)
          have q1:((bn t 0:Int) == 48)=true:=by rw[h48];rfl
          have hsz:(t.extract 1 t.size).size=t.size-1:=by rw[ByteArray.size_extract];omega
          have H2:Hid (aS (t.extract 1 t.size).toList=aS s.toList):=by
           show aS _=_
           rw[←H.out,htl,hb48,fN]
          have Hsz:=Lib.hid hsz
          clear htl hb hb48 H hsz h48
          go_wp2
          go_round
          case rel=>exact⟨_,rfl,by rw[Hsz.out];omega,by rw[Hsz.out];omega,H2⟩
          case measure=>simp only[vsz,Hsz.out];omega
         ·have hb48:b≠48:=λe=>h48 (by rw[hb,e];rfl)
          have q1:((bn t 0:Int) == 48)=false:=by rw[beq_eq_false_iff_ne];omega
          have H2:Hid (t.toList=aS s.toList):=by
           show t.toList=_
           rw[←H.out,htl,cH _ _ hb48]
          clear htl hb hb48 H h48
          have HF:Hid (V=.tuple #[.bool (true && !(t.toList == [48])),.string t,.bool true]):=by
           show V=_
           rw[HV2.out,←H2.out]
           congr 3
           rw[ByteArray.toList_eq]
          clear HV2 H2
          go_wp2
          all_goals
           go_ret3
           exact⟨by rw[HF.out];simp[*],blw⟩
        ·have hone:t.size=1:=by omega
         have hnil:(t.extract 1 t.size).toList=[]:=by
          have hsz:(t.extract 1 t.size).toList.length=(t.extract 1 t.size).size:=by rw[ByteArray.toList_eq];exact ac _
          rw[ByteArray.size_extract]at hsz
          exact List.eq_nil_of_length_eq_zero (by omega)
         have H2:Hid (t.toList=aS s.toList):=by
          show t.toList=_
          rw[←H.out,htl,hnil]
          by_cases hb48:b=48
          ·subst hb48;rfl
          ·rw[cH _ _ hb48]
         have d1:decide (1<t.size)=false:=by simp;omega
         clear htl hb H hnil hone
         have HF:Hid (V=.tuple #[.bool (true && !(t.toList == [48])),.string t,.bool true]):=by
          show V=_
          rw[HV2.out,←H2.out]
          congr 3
          rw[ByteArray.toList_eq]
         clear HV2 H2
         go_wp2
         all_goals
          go_ret3
          exact⟨by rw[HF.out];simp[*],blw⟩
   ·by_cases h43:bn x 0=43
    ·have hV:=congrArg fq (vJ x h0 h43)
     have hV2:=zS _ _ _ hV.symm
     have hss:(x.extract 1 x.size).size<=281474976710656:=by rw[ByteArray.size_extract];omega
     have HV:=Lib.hid hV2
     clear hV hV2
     generalize fq (jn x.toList)=V at *
     have q1:((bn x 0:Int) == 45)=false:=by rw[beq_eq_false_iff_ne];omega
     have q2:((bn x 0:Int) == 43)=true:=by rw[h43];rfl
     clear h43 h45
     by_cases hs0:(x.extract 1 x.size).size=0
     ·have he:(x.extract 1 x.size).toList.isEmpty=true:=by
       have hsz:(x.extract 1 x.size).toList.length=(x.extract 1 x.size).size:=by rw[ByteArray.toList_eq];exact ac _
       rw[List.isEmpty_iff]
       exact List.eq_nil_of_length_eq_zero (by omega)
      have hv:=HV.out.1 he
      have Hv:=Lib.hid hv
      clear hv HV hs0
      go_enter Tryz.func126,Tryz.ntmps126
      go_wp2_with fail
      refine(ht _).mono ?_
      rintro e w2 ⟨rfl,hb2⟩
      obtain⟨hc2,hf2⟩:=aB hb2
      go_wp2
      go_ret3
      exact⟨by rw[Hv.out];rfl,blw⟩
     ·have he:(x.extract 1 x.size).toList.isEmpty=false:=by
       have hsz:(x.extract 1 x.size).toList.length=(x.extract 1 x.size).size:=by rw[ByteArray.toList_eq];exact ac _
       cases h:(x.extract 1 x.size).toList with
       | nil=>rw[h,List.length_nil]at hsz;omega
       | cons a r=>rfl
      have hs1:1<=(x.extract 1 x.size).size:=by omega
      clear hs0
      go_enter Tryz.func126,Tryz.ntmps126
      go_wp2_with fail
      refine(ht _).mono ?_
      rintro e w2 ⟨rfl,hb2⟩
      obtain⟨hc2,hf2⟩:=aB hb2
      go_wp2
      generalize x.extract 1 x.size=s at *
      go_loop [7] (λi=>∃j:Nat,j<=s.size/\i=.int .i64 j/\Hid (t8 s j)) (λi=>s.size-(intOf i).toNat)
      case atStart=>exact⟨0,by omega,rfl,λj h=>by omega⟩
      case round =>
       obtain⟨j,hj,rfl,Hd⟩:=hrel
       by_cases hlt:j<s.size
       ·by_cases hlo:bn s j<48
        ·have q1:decide ((bn s j:Int)<48)=true:=by simp;omega
         have hv:=HV.out.2.1 (eY s j hlt (.inl hlo))
         have Hv:=Lib.hid hv
         clear hv HV Hd hlo
         go_wp2
         go_ret3
         exact⟨by rw[Hv.out];rfl,blw⟩
        ·have q1:decide ((bn s j:Int)<48)=false:=by simp;omega
         by_cases hhi:57<bn s j
         ·have q2:decide ((57:Int)<bn s j)=true:=by simp;omega
          have hv:=HV.out.2.1 (eY s j hlt (.inr hhi))
          have Hv:=Lib.hid hv
          clear hv HV Hd hlo hhi
          go_wp2
          go_ret3
          exact⟨by rw[Hv.out];rfl,blw⟩
         ·have q2:decide ((57:Int)<bn s j)=false:=by simp;omega
          have Hd2:Hid (t8 s (j+1)):=λi hi=>by
           rcases Nat.lt_or_ge i j with h|h
           ·exact Hd.out i h
           ·obtain rfl:i=j:=by omega
            omega
          clear hlo hhi Hd
          go_wp2
          go_round
          case rel=>exact⟨j+1,by omega,by go_num,Hd2⟩
          case measure=>simp[intOf];omega
       ·obtain rfl:j=s.size:=by omega
        have h2:=HV.out.2.2 (mr s Hd.out) he
        have HV2:=Lib.hid h2
        clear h2 Hd
        go_wp2
        go_loop [5] (λv=>∃t:ByteArray,v=.string t/\1<=t.size/\t.size<=281474976710656/\Hid (aS t.toList=aS s.toList)) (λv=>vsz v)
        case atStart=>exact⟨s,rfl,by omega,by omega,rfl⟩
        case round =>
         obtain⟨t,rfl,ht1,ht2,H⟩:=hrel
         obtain⟨b,htl,hb⟩:=cD t (by omega)
         by_cases hlt:1<t.size
         ·have d0:0<t.size:=by omega
          by_cases h48:bn t 0=48
          ·have hb48:b=48:=fK b 48 (by omega) (by omega)
           have q1:((bn t 0:Int) == 48)=true:=by rw[h48];rfl
           have hsz:(t.extract 1 t.size).size=t.size-1:=by rw[ByteArray.size_extract];omega
           have H2:Hid (aS (t.extract 1 t.size).toList=aS s.toList):=by
            show aS _=_
            rw[←H.out,htl,hb48,fN]
           have Hsz:=Lib.hid hsz
           clear htl hb hb48 H hsz h48
           go_wp2
           go_round
           case rel=>exact⟨_,rfl,by rw[Hsz.out];omega,by rw[Hsz.out];omega,H2⟩
           case measure=>simp only[vsz,Hsz.out];omega
          ·have hb48:b≠48:=λe=>h48 (by rw[hb,e];rfl)
           have q1:((bn t 0:Int) == 48)=false:=by rw[beq_eq_false_iff_ne];omega
           have H2:Hid (t.toList=aS s.toList):=by
            show t.toList=_
            rw[←H.out,htl,cH _ _ hb48]
           clear htl hb hb48 H h48
           have HF:Hid (V=.tuple #[.bool (false && !(t.toList == [48])),.string t,.bool true]):=by
            show V=_
            rw[HV2.out,←H2.out]
            congr 3
            rw[ByteArray.toList_eq]
           clear HV2 H2
           go_wp2
           all_goals
            go_ret3
            exact⟨by rw[HF.out];simp[*],blw⟩
         ·have hone:t.size=1:=by omega
          have hnil:(t.extract 1 t.size).toList=[]:=by
           have hsz:(t.extract 1 t.size).toList.length=(t.extract 1 t.size).size:=by rw[ByteArray.toList_eq];exact ac _
           rw[ByteArray.size_extract]at hsz
           exact List.eq_nil_of_length_eq_zero (by omega)
          have H2:Hid (t.toList=aS s.toList):=by
           show t.toList=_
           rw[←H.out,htl,hnil]
           by_cases hb48:b=48
           ·subst hb48;rfl
           ·rw[cH _ _ hb48]
          have d1:decide (1<t.size)=false:=by simp;omega
          clear htl hb H hnil hone
          have HF:Hid (V=.tuple #[.bool (false && !(t.toList == [48])),.string t,.bool true]):=by
           show V=_
           rw[HV2.out,←H2.out]
           congr 3
           rw[ByteArray.toList_eq]
          clear HV2 H2
          go_wp2
          all_goals
           go_ret3
           exact⟨by rw[HF.out];simp[*],blw⟩
    ·have hV:=congrArg fq (vL x h0 h45 h43)
     have hV2:=zS _ x _ hV.symm
     have HV:=Lib.hid hV2
     clear hV hV2
     generalize fq (jn x.toList)=V at *
     have q1:((bn x 0:Int) == 45)=false:=by rw[beq_eq_false_iff_ne];omega
     have q2:((bn x 0:Int) == 43)=false:=by rw[beq_eq_false_iff_ne];omega
     clear h45 h43
     by_cases hs0:x.size=0
     ·have he:x.toList.isEmpty=true:=by
       have hsz:x.toList.length=x.size:=by rw[ByteArray.toList_eq];exact ac _
       rw[List.isEmpty_iff]
       exact List.eq_nil_of_length_eq_zero (by omega)
      have hv:=HV.out.1 he
      have Hv:=Lib.hid hv
      clear hv HV hs0
      go_enter Tryz.func126,Tryz.ntmps126
      go_wp2_with fail
      refine(ht _).mono ?_
      rintro e w2 ⟨rfl,hb2⟩
      obtain⟨hc2,hf2⟩:=aB hb2
      go_wp2
      go_ret3
      exact⟨by rw[Hv.out];rfl,blw⟩
     ·have he:x.toList.isEmpty=false:=by
       have hsz:x.toList.length=x.size:=by rw[ByteArray.toList_eq];exact ac _
       cases h:x.toList with
       | nil=>rw[h,List.length_nil]at hsz;omega
       | cons a r=>rfl
      have hs1:1<=x.size:=by omega
      clear hs0
      go_enter Tryz.func126,Tryz.ntmps126
      go_wp2_with fail
      refine(ht _).mono ?_
      rintro e w2 ⟨rfl,hb2⟩
      obtain⟨hc2,hf2⟩:=aB hb2
      go_wp2
      go_loop [7] (λi=>∃j:Nat,j<=x.size/\i=.int .i64 j/\Hid (t8 x j)) (λi=>x.size-(intOf i).toNat)
      case atStart=>exact⟨0,by omega,rfl,λj h=>by omega⟩
      case round =>
       obtain⟨j,hj,rfl,Hd⟩:=hrel
       by_cases hlt:j<x.size
       ·by_cases hlo:bn x j<48
        ·have q1:decide ((bn x j:Int)<48)=true:=by simp;omega
         have hv:=HV.out.2.1 (eY x j hlt (.inl hlo))
         have Hv:=Lib.hid hv
         clear hv HV Hd hlo
         go_wp2
         go_ret3
         exact⟨by rw[Hv.out];rfl,blw⟩
        ·have q1:decide ((bn x j:Int)<48)=false:=by simp;omega
         by_cases hhi:57<bn x j
         ·have q2:decide ((57:Int)<bn x j)=true:=by simp;omega
          have hv:=HV.out.2.1 (eY x j hlt (.inr hhi))
          have Hv:=Lib.hid hv
          clear hv HV Hd hlo hhi
          go_wp2
          go_ret3
          exact⟨by rw[Hv.out];rfl,blw⟩
         ·have q2:decide ((57:Int)<bn x j)=false:=by simp;omega
          have Hd2:Hid (t8 x (j+1)):=λi hi=>by
           rcases Nat.lt_or_ge i j with h|h
           ·exact Hd.out i h
           ·obtain rfl:i=j:=by omega
            omega
          clear hlo hhi Hd
          go_wp2
          go_round
          case rel=>exact⟨j+1,by omega,by go_num,Hd2⟩
          case measure=>simp[intOf];omega
       ·obtain rfl:j=x.size:=by omega
        have h2:=HV.out.2.2 (mr x Hd.out) he
        have HV2:=Lib.hid h2
        clear h2 Hd
        go_wp2
        go_loop [5] (λv=>∃t:ByteArray,v=.string t/\1<=t.size/\t.size<=281474976710656/\Hid (aS t.toList=aS x.toList)) (λv=>vsz v)
        case atStart=>exact⟨x,rfl,by omega,by omega,rfl⟩
        case round =>
         obtain⟨t,rfl,ht1,ht2,H⟩:=hrel
         obtain⟨b,htl,hb⟩:=cD t (by omega)
         by_cases hlt:1<t.size
         ·have d0:0<t.size:=by omega
          by_cases h48:bn t 0=48
          ·have hb48:b=48:=fK b 48 (by omega) (by omega)
           have q1:((bn t 0:Int) == 48)=true:=by rw[h48];rfl
           have hsz:(t.extract 1 t.size).size=t.size-1:=by rw[ByteArray.size_extract];omega
           have H2:Hid (aS (t.extract 1 t.size).toList=aS x.toList):=by
            show aS _=_
            rw[←H.out,htl,hb48,fN]
           have Hsz:=Lib.hid hsz
           clear htl hb hb48 H hsz h48
           go_wp2
           go_round
           case rel=>exact⟨_,rfl,by rw[Hsz.out];omega,by rw[Hsz.out];omega,H2⟩
           case measure=>simp only[vsz,Hsz.out];omega
          ·have hb48:b≠48:=λe=>h48 (by rw[hb,e];rfl)
           have q1:((bn t 0:Int) == 48)=false:=by rw[beq_eq_false_iff_ne];omega
           have H2:Hid (t.toList=aS x.toList):=by
            show t.toList=_
            rw[←H.out,htl,cH _ _ hb48]
           clear htl hb hb48 H h48
           have HF:Hid (V=.tuple #[.bool (false && !(t.toList == [48])),.string t,.bool true]):=by
            show V=_
            rw[HV2.out,←H2.out]
            congr 3
            rw[ByteArray.toList_eq]
           clear HV2 H2
           go_wp2
           all_goals
            go_ret3
            exact⟨by rw[HF.out];simp[*],blw⟩
         ·have hone:t.size=1:=by omega
          have hnil:(t.extract 1 t.size).toList=[]:=by
           have hsz:(t.extract 1 t.size).toList.length=(t.extract 1 t.size).size:=by rw[ByteArray.toList_eq];exact ac _
           rw[ByteArray.size_extract]at hsz
           exact List.eq_nil_of_length_eq_zero (by omega)
          have H2:Hid (t.toList=aS x.toList):=by
           show t.toList=_
           rw[←H.out,htl,hnil]
           by_cases hb48:b=48
           ·subst hb48;rfl
           ·rw[cH _ _ hb48]
          have d1:decide (1<t.size)=false:=by simp;omega
          clear htl hb H hnil hone
          have HF:Hid (V=.tuple #[.bool (false && !(t.toList == [48])),.string t,.bool true]):=by
           show V=_
           rw[HV2.out,←H2.out]
           congr 3
           rw[ByteArray.toList_eq]
          clear HV2 H2
          go_wp2
          all_goals
           go_ret3
           exact⟨by rw[HF.out];simp[*],blw⟩
  ·have hx0:x.size=0:=by omega
   have hV:=vK x hx0
   rw[hV]
   have he:x.toList.isEmpty=true:=by
    have hsz:x.toList.length=x.size:=by rw[ByteArray.toList_eq];exact ac x
    rw[List.isEmpty_iff]
    exact List.eq_nil_of_length_eq_zero (by omega)
   have d0:decide (0<x.size)=false:=decide_eq_false (by omega)
   clear hV h0
   have Hx0:=Lib.hid hx0
   clear hx0
   go_enter Tryz.func126,Tryz.ntmps126
   go_wp2_with fail
   refine(ht _).mono ?_
   rintro e w2 ⟨rfl,hb2⟩
   obtain⟨hc2,hf2⟩:=aB hb2
   go_wp2
   go_ret3
   exact⟨rfl,blw⟩
end Go.Proofs.YtjldjeenfnahoaaGreatDoor
