/- The answer for term (ossuaryref08): texts written. The answe -/
import Derived.Test.YtfcbghmbbjolcaaGreatDoorJUtfRaw
set_option maxHeartbeats 4000000
set_option maxRecDepth 100000
namespace Go.Proofs.YtfcbghmbbjolcaaGreatDoor
open Go Go.RowKit Um Fm Lx Tx
theorem eV:(Tryz.prog.info? 5).map (λi=>(i.zero,i.size,i.bytes))=some (some (.int .u8 0),1,1):=by kernel_rfl
abbrev ft (w wr:World) (v:Value) (acc:List UInt8):Prop:=wr.ownsRow w.heap.size 5 1 v acc.length (Lib.byteCells acc)
theorem ft.snoc {w wr:World} {v:Value} {acc r:List UInt8} {n:Nat} (h:wr.ownsRow w.heap.size 5 1 v n (Lib.byteCells acc++Lib.byteCells r)) (hn:n=acc.length+r.length):ft w wr v (acc++r):=by
 unfold ft
 rw[Lib.byteCells_append,List.length_append,←hn];exact h
theorem ft.form {w wr:World} {v:Value} {acc:List UInt8} (h:ft w wr v acc):∃A c,v=.slice A acc.length c:=dm h
theorem ft.nums {w wr:World} {v:Value} {acc:List UInt8} (h:ft w wr v acc) {A:Option Addr} {c:Nat} (hv:v=.slice A acc.length c):Rd wr A ((acc.map λx=>(x.toNat:Int)).map (Value.int .u8)):=by
 subst hv
 have:=Rd.of_own h
 unfold Lib.byteCells at this
 rw[List.map_map];exact this
theorem byteCells_one (l:List UInt8):∀u∈Lib.byteCells l,u.oneCell'=true:=by
 intro u hu
 unfold Lib.byteCells at hu
 obtain⟨s,_,rfl⟩:=List.mem_map.1 hu
 rfl
theorem qg (l:List UInt8):strOfNums (l.map λx=>(x.toNat:Int))=mkS l:=by
 apply du
 rw[strOfNums_data]
 simp only[List.map_map]
 exact(List.map_congr_left λx _=>by simp).trans (List.map_id _)
abbrev K5:ByteArray:=⟨#[48,49,50,51,52,53,54,55,56,57,65,66,67,68,69,70]⟩
theorem DG:∀d:Fin 16,bn K5 d.val=(hxD d.val).toNat:=by decide
theorem mC (l:List UInt8) (k:Nat) (c:UInt8) (h:l[k]?=some c):l.take (k+1)=l.take k++[c]:=by rw[List.take_add_one,h];rfl
theorem Gv {s:ByteArray} {k:Nat} {c:UInt8} (h:s.data.toList[k]?=some c):bn s k=c.toNat:=by unfold bn;rw[List.getD_eq_getElem?_getD,h];rfl
theorem tj (w:World) (cs:Array Value) (r:List UInt8) (h:cs.toList=Lib.byteCells r):Rd (w.alloc (.cells cs 5)) (some ⟨w.heap.size,0,none⟩) (Lib.byteCells r):=Rd.of_block (heap_alloc_new w _) h
theorem D7 {l:List UInt8} {k:Nat} {c:UInt8} (h:l[k]?=some c):aU (l.take (k+1))=aU (l.take k)++eR c:=by
 rw[mC _ _ _ h,nZ]
 congr 1
 unfold aU
 simp
theorem CQ {l:List UInt8} {k:Nat} {c:UInt8} (h:l[k]?=some c):am (l.take (k+1))=am (l.take k)++de c:=by
 rw[mC _ _ _ h]
 unfold am
 rw[List.flatMap_append]
 congr 1
 simp
theorem BY (s:ByteArray) (w:World) (hs:s.size<=1048576) :
  Calls Tryz.prog 251 #[.string s] w λe w'=>e=.returned (.string (mkS (aU s.data.toList)))/\Below w.heap.size w w':=by
 have hz:=ar s
 go_enter Tryz.func251,Tryz.ntmps251
 go_wp2
 go_loopw [4,5] (λv i wr=>∃(k:Nat) (acc:List UInt8),k<=s.size/\acc.length<=6*k/\i=.int .i64 k/\ft w wr v acc/\Below w.heap.size w wr/\Hid (acc=aU (s.data.toList.take k))) (λ_ i _=>s.size-(intOf i).toNat)
 case atStart=>exact⟨0,[],by omega,by simp,rfl,World.ownsRow_nil _ _ _ _,Below.refl _ _,rfl⟩
 case round =>
  obtain⟨k,acc,hk,hal,rfl,own,hB,Ha⟩:=hrel
  have Own:=Lib.hid own
  have HB:=Lib.hid hB
  have hw0:=hB.size
  obtain⟨A,cp,hA⟩:=ft.form own
  subst hA
  clear hB own
  by_cases hlt:k<s.size
  ·obtain⟨c,hc⟩:∃c,s.data.toList[k]?=some c:=⟨_,List.getElem?_eq_getElem (by rw[hz];exact hlt)⟩
   have hbc:=Gv hc
   have hn:=c.toNat_lt
   have Hnx:Hid (acc++eR c=aU (s.data.toList.take (k+1))):=by
    show _=_
    rw[D7 hc,←Ha.out]
   clear hc Ha
   have single:∀{q:List UInt8},eR c=[c]->Hid (acc++eR c=q)->Hid (acc++[c]=q):=λe h=>by rw[e]at h;exact h
   have hsame:Lib.byteCells [c]=[.int .u8 (c.toNat:Int)]:=rfl
   by_cases h128:c.toNat<128
   ·have hR:=λW=>GP (c.toNat:Int) W
    cases hr:fF (c.toNat:Int)
    ·rw[hr]at hR
     have hi:eR c=[92,117,48,48,hxD (c.toNat / 16),hxD (c.toNat % 16)]:=by unfold eR rG;rw[hr,decide_eq_true h128];rfl
     rw[hi]at Hnx
     have d1:=DG ⟨c.toNat / 16,by omega⟩
     have d2:=DG ⟨c.toNat % 16,by omega⟩
     simp only at d1 d2
     clear hi hr single hsame
     generalize hxD (c.toNat / 16)=x1 at *
     generalize hxD (c.toNat % 16)=x2 at *
     generalize c.toNat=n at *
     go_wp2_with (go_at_call 290;refine(hR _).mono ?_;rintro e w1 ⟨rfl,rfl⟩)
     refine Rf.p0 w.heap.size _ (.quiet [0,1,2,3,4,5,6,7,8] (.one 9 (.one 10 (.quiet [11] (.done))))) ?_ (λa w h=>h)
     intro wd hbd hwz
     have hle:=hbd.size
     have Own1:=Lib.hid ((own_below Own.out hbd (Nat.le_refl _)).alloc (.cells #[.int .u8 92,.int .u8 117,.int .u8 48,.int .u8 48,.int .u8 x1.toNat,.int .u8 x2.toNat] 5))
     have Hb9:Hid (Below w.heap.size wd (wd.alloc (.cells #[.int .u8 92,.int .u8 117,.int .u8 48,.int .u8 48,.int .u8 x1.toNat,.int .u8 x2.toNat] 5))):=Lib.hid ((Below.refl _ _).alloc (by omega) _)
     have Hbd:=Lib.hid (HB.out.trans (hbd.mono hw0))
     clear hwz hbd
     refine Rf.pl_quiet ?_
     iterate 9 go_big_quiet_step (fail)
     refine wpQuiet_nil (Rf.pl_one ?_)
     go_wp2_with fail
     refine⟨Hb9.out,Rf.pl_one ?_⟩
     go_wp2_with (at_builtin;refine bg (m:=6) rfl rfl Tryz.underlying166 eV rfl (by omega) rfl Own1.out rfl (tj wd _ [92,117,48,48,x1,x2] rfl) rfl (byteCells_one _) (by omega) (by omega) (by simp;omega) ?_;intro v8 w8 own8 hb8)
     refine⟨hb8,Rf.pl_quiet ?_⟩
     go_frame
     iterate 1 go_big_quiet_step (fail)
     refine wpQuiet_nil (Rf.pl_done ?_)
     have HF:=Lib.hid ((Hbd.out.trans Hb9.out).trans hb8)
     have Own8:=Lib.hid own8
     obtain⟨A8,c8,hA8⟩:=dm own8
     subst hA8
     clear own8 hb8 d1 d2
     go_wp2
     go_roundw
     case rel=>exact⟨k+1,_,by omega,(by rw[List.length_append];simp only[List.length_cons,List.length_nil];omega),by go_num,ft.snoc (r:=[92,117,48,48,x1,x2]) Own8.out rfl,HF.out,Hnx⟩
     case measure=>simp[intOf];omega
    ·rw[hr]at hR
     have hi:eR c=[c]:=by unfold eR rG;rw[hr];simp
     replace Hnx:=single hi Hnx
     clear hi hr single
     have Own1:=Lib.hid (Own.out.alloc (.cells #[.int .u8 c.toNat] 5))
     have Hb9:Hid (Below w.heap.size wr (wr.alloc (.cells #[.int .u8 c.toNat] 5))):=Lib.hid ((Below.refl _ _).alloc (by omega) _)
     go_wp2_with (first
      | (go_at_call 290;refine(hR _).mono ?_;rintro e w1 ⟨rfl,rfl⟩)
      | (at_builtin;refine bg (m:=1) rfl rfl Tryz.underlying166 eV rfl (by omega) rfl Own1.out rfl (tj _ _ [c] rfl) rfl (byteCells_one _) (by omega) (by omega) (by simp;omega) ?_;intro v8 w8 own8 hb8;have HF:=Lib.hid ((HB.out.trans Hb9.out).trans hb8);have Own8:=Lib.hid own8;obtain⟨A8,c8,hA8⟩:=dm own8;subst hA8;clear own8 hb8))
     go_roundw
     case rel=>exact⟨k+1,_,by omega,(by rw[List.length_append];simp only[List.length_cons,List.length_nil];omega),by go_num,ft.snoc (r:=[c]) Own8.out rfl,HF.out,Hnx⟩
     case measure=>simp[intOf];omega
   ·have hi:eR c=[c]:=by unfold eR rG;rw[decide_eq_false h128];simp
    replace Hnx:=single hi Hnx
    clear hi single
    have Own1:=Lib.hid (Own.out.alloc (.cells #[.int .u8 c.toNat] 5))
    have Hb9:Hid (Below w.heap.size wr (wr.alloc (.cells #[.int .u8 c.toNat] 5))):=Lib.hid ((Below.refl _ _).alloc (by omega) _)
    go_wp2_with (first
     | (at_builtin;refine bg (m:=1) rfl rfl Tryz.underlying166 eV rfl (by omega) rfl Own1.out rfl (tj _ _ [c] rfl) rfl (byteCells_one _) (by omega) (by omega) (by simp;omega) ?_;intro v8 w8 own8 hb8;have HF:=Lib.hid ((HB.out.trans Hb9.out).trans hb8);have Own8:=Lib.hid own8;obtain⟨A8,c8,hA8⟩:=dm own8;subst hA8;clear own8 hb8))
    go_roundw
    case rel=>exact⟨k+1,_,by omega,(by rw[List.length_append];simp only[List.length_cons,List.length_nil];omega),by go_num,ft.snoc (r:=[c]) Own8.out rfl,HF.out,Hnx⟩
    case measure=>simp[intOf];omega
  ·have ht:s.data.toList.take k=s.data.toList:=List.take_of_length_le (by rw[hz];omega)
   have hcv:=aT (P:=Tryz.prog) (n:=acc.length) (c:=cp) 166 9 5 Tryz.underlying166 Tryz.underlying5 Tryz.underlying9 (ft.nums Own.out rfl) (by simp)
   rw[qg]at hcv
   have HS:Hid (acc=aU s.data.toList):=by show _=_;rw[Ha.out,ht]
   clear ht Ha
   go_wp2
   go_ret
   exact⟨by rw[←HS.out];rfl,HB.out⟩
theorem vL (s:ByteArray) (w:World) (hs:s.size<=1048576) :
  Calls Tryz.prog 252 #[.string s] w λe w'=>e=.returned (.string (mkS (am s.data.toList)))/\Below w.heap.size w w':=by
 have hz:=ar s
 go_enter Tryz.func252,Tryz.ntmps252
 go_wp2
 go_loopw [3,4] (λv i wr=>∃(k:Nat) (acc:List UInt8),k<=s.size/\acc.length<=6*k/\i=.int .i64 k/\ft w wr v acc/\Below w.heap.size w wr/\Hid (acc=am (s.data.toList.take k))) (λ_ i _=>s.size-(intOf i).toNat)
 case atStart=>exact⟨0,[],by omega,by simp,rfl,World.ownsRow_nil _ _ _ _,Below.refl _ _,rfl⟩
 case round =>
  obtain⟨k,acc,hk,hal,rfl,own,hB,Ha⟩:=hrel
  have Own:=Lib.hid own
  have HB:=Lib.hid hB
  have hw0:=hB.size
  obtain⟨A,cp,hA⟩:=ft.form own
  subst hA
  clear hB own
  by_cases hlt:k<s.size
  ·obtain⟨c,hc⟩:∃c,s.data.toList[k]?=some c:=⟨_,List.getElem?_eq_getElem (by rw[hz];exact hlt)⟩
   have hbc:=Gv hc
   have hn:=c.toNat_lt
   have Hnx:Hid (acc++de c=am (s.data.toList.take (k+1))):=by
    show _=_
    rw[CQ hc,←Ha.out]
   clear hc Ha
   unfold de at Hnx
   have hne:∀x:UInt8,¬ c.toNat=x.toNat->¬ c=x:=λx h e=>h (by rw[e])
   by_cases h1:c.toNat=34
   ·obtain rfl:c=34:=UInt8.toNat_inj.1 h1
    rw[if_pos rfl]at Hnx
    clear h1 hne
    replace hbc:bn s k=34:=hbc
    have Own1:=Lib.hid (Own.out.alloc (.cells #[.int .u8 92,.int .u8 34] 5))
    have Hb9:Hid (Below w.heap.size wr (wr.alloc (.cells #[.int .u8 92,.int .u8 34] 5))):=Lib.hid ((Below.refl _ _).alloc (by omega) _)
    go_wp2_with (first
     | (at_builtin;refine bg (m:=2) rfl rfl Tryz.underlying166 eV rfl (by omega) rfl Own1.out rfl (tj _ _ [92,34] rfl) rfl (byteCells_one _) (by omega) (by omega) (by simp;omega) ?_;intro v8 w8 own8 hb8;have HF:=Lib.hid ((HB.out.trans Hb9.out).trans hb8);have Own8:=Lib.hid own8;obtain⟨A8,c8,hA8⟩:=dm own8;subst hA8;clear own8 hb8))
    go_roundw
    case rel=>exact⟨k+1,_,by omega,(by rw[List.length_append];simp only[List.length_cons,List.length_nil];omega),by go_num,ft.snoc (r:=[92,34]) Own8.out rfl,HF.out,Hnx⟩
    case measure=>simp[intOf];omega
   rw[if_neg (hne 34 h1)]at Hnx
   by_cases h2:c.toNat=92
   ·obtain rfl:c=92:=UInt8.toNat_inj.1 h2
    rw[if_pos rfl]at Hnx
    clear h1 h2 hne
    replace hbc:bn s k=92:=hbc
    have Own1:=Lib.hid (Own.out.alloc (.cells #[.int .u8 92,.int .u8 92] 5))
    have Hb9:Hid (Below w.heap.size wr (wr.alloc (.cells #[.int .u8 92,.int .u8 92] 5))):=Lib.hid ((Below.refl _ _).alloc (by omega) _)
    go_wp2_with (first
     | (at_builtin;refine bg (m:=2) rfl rfl Tryz.underlying166 eV rfl (by omega) rfl Own1.out rfl (tj _ _ [92,92] rfl) rfl (byteCells_one _) (by omega) (by omega) (by simp;omega) ?_;intro v8 w8 own8 hb8;have HF:=Lib.hid ((HB.out.trans Hb9.out).trans hb8);have Own8:=Lib.hid own8;obtain⟨A8,c8,hA8⟩:=dm own8;subst hA8;clear own8 hb8))
    go_roundw
    case rel=>exact⟨k+1,_,by omega,(by rw[List.length_append];simp only[List.length_cons,List.length_nil];omega),by go_num,ft.snoc (r:=[92,92]) Own8.out rfl,HF.out,Hnx⟩
    case measure=>simp[intOf];omega
   rw[if_neg (hne 92 h2)]at Hnx
   by_cases h3:c.toNat=10
   ·obtain rfl:c=10:=UInt8.toNat_inj.1 h3
    rw[if_pos rfl]at Hnx
    clear h1 h2 h3 hne
    replace hbc:bn s k=10:=hbc
    have Own1:=Lib.hid (Own.out.alloc (.cells #[.int .u8 92,.int .u8 110] 5))
    have Hb9:Hid (Below w.heap.size wr (wr.alloc (.cells #[.int .u8 92,.int .u8 110] 5))):=Lib.hid ((Below.refl _ _).alloc (by omega) _)
    go_wp2_with (first
     | (at_builtin;refine bg (m:=2) rfl rfl Tryz.underlying166 eV rfl (by omega) rfl Own1.out rfl (tj _ _ [92,110] rfl) rfl (byteCells_one _) (by omega) (by omega) (by simp;omega) ?_;intro v8 w8 own8 hb8;have HF:=Lib.hid ((HB.out.trans Hb9.out).trans hb8);have Own8:=Lib.hid own8;obtain⟨A8,c8,hA8⟩:=dm own8;subst hA8;clear own8 hb8))
    go_roundw
    case rel=>exact⟨k+1,_,by omega,(by rw[List.length_append];simp only[List.length_cons,List.length_nil];omega),by go_num,ft.snoc (r:=[92,110]) Own8.out rfl,HF.out,Hnx⟩
    case measure=>simp[intOf];omega
   rw[if_neg (hne 10 h3)]at Hnx
   by_cases h4:c.toNat=13
   ·obtain rfl:c=13:=UInt8.toNat_inj.1 h4
    rw[if_pos rfl]at Hnx
    clear h1 h2 h3 h4 hne
    replace hbc:bn s k=13:=hbc
    have Own1:=Lib.hid (Own.out.alloc (.cells #[.int .u8 92,.int .u8 114] 5))
    have Hb9:Hid (Below w.heap.size wr (wr.alloc (.cells #[.int .u8 92,.int .u8 114] 5))):=Lib.hid ((Below.refl _ _).alloc (by omega) _)
    go_wp2_with (first
     | (at_builtin;refine bg (m:=2) rfl rfl Tryz.underlying166 eV rfl (by omega) rfl Own1.out rfl (tj _ _ [92,114] rfl) rfl (byteCells_one _) (by omega) (by omega) (by simp;omega) ?_;intro v8 w8 own8 hb8;have HF:=Lib.hid ((HB.out.trans Hb9.out).trans hb8);have Own8:=Lib.hid own8;obtain⟨A8,c8,hA8⟩:=dm own8;subst hA8;clear own8 hb8))
    go_roundw
    case rel=>exact⟨k+1,_,by omega,(by rw[List.length_append];simp only[List.length_cons,List.length_nil];omega),by go_num,ft.snoc (r:=[92,114]) Own8.out rfl,HF.out,Hnx⟩
    case measure=>simp[intOf];omega
   rw[if_neg (hne 13 h4)]at Hnx
   clear hne
   have Own1:=Lib.hid (Own.out.alloc (.cells #[.int .u8 c.toNat] 5))
   have Hb9:Hid (Below w.heap.size wr (wr.alloc (.cells #[.int .u8 c.toNat] 5))):=Lib.hid ((Below.refl _ _).alloc (by omega) _)
   go_wp2_with (first
    | (at_builtin;refine bg (m:=1) rfl rfl Tryz.underlying166 eV rfl (by omega) rfl Own1.out rfl (tj _ _ [c] rfl) rfl (byteCells_one _) (by omega) (by omega) (by simp;omega) ?_;intro v8 w8 own8 hb8;have HF:=Lib.hid ((HB.out.trans Hb9.out).trans hb8);have Own8:=Lib.hid own8;obtain⟨A8,c8,hA8⟩:=dm own8;subst hA8;clear own8 hb8))
   go_roundw
   case rel=>exact⟨k+1,_,by omega,(by rw[List.length_append];simp only[List.length_cons,List.length_nil];omega),by go_num,ft.snoc (r:=[c]) Own8.out rfl,HF.out,Hnx⟩
   case measure=>simp[intOf];omega
  ·have ht:s.data.toList.take k=s.data.toList:=List.take_of_length_le (by rw[hz];omega)
   have hcv:=aT (P:=Tryz.prog) (n:=acc.length) (c:=cp) 166 9 5 Tryz.underlying166 Tryz.underlying5 Tryz.underlying9 (ft.nums Own.out rfl) (by simp)
   rw[qg]at hcv
   have HS:Hid (acc=am s.data.toList):=by show _=_;rw[Ha.out,ht]
   clear ht Ha
   go_wp2
   go_ret
   exact⟨by rw[←HS.out];rfl,HB.out⟩
abbrev tC8 (t:Tm):Array Value:=#[.int .i64 t.k,.string t.x,.string t.l,.string t.y]
theorem fC {t:Tm} (h:bK t):t.x.size<=1048576/\t.l.size<=1048576/\t.y.size<=1048576:=⟨Nat.le_trans h.1 (by decide),Nat.le_trans h.2.1 (by decide),Nat.le_trans h.2.2 (by decide)⟩
theorem pT (t:Tm) (w:World) (h:bK t):Calls Tryz.prog 197 #[tA t] w λe w'=>e=.returned (.bool (aB t))/\Below w.heap.size w w':=
 BW t w (fC h).1 (fC h).2.1 (fC h).2.2
theorem xG (c:Prop) [Decidable c] (a b:List UInt8):mkS (if c then a else b)=if c then mkS a else mkS b:=by split<;>rfl
theorem G4 (x:List UInt8):(⟨#[60]⟩:ByteArray)++mkS x++⟨#[62]⟩=mkS (60::(x++[62])):=du (by simp[ByteArray.data_append])
theorem AE (x:ByteArray):(⟨#[95,58]⟩:ByteArray)++x=mkS (95::58::x.data.toList):=du (by simp[ByteArray.data_append])
theorem AD (x y:List UInt8):(⟨#[34]⟩:ByteArray)++mkS x++⟨#[34,94,94,60]⟩++mkS y++⟨#[62]⟩=mkS (34::(x++34::94::94::60::(y++[62]))):=du (by simp[ByteArray.data_append])
theorem G2 (x:List UInt8) (l:ByteArray):(⟨#[34]⟩:ByteArray)++mkS x++⟨#[34,64]⟩++l=mkS (34::(x++34::64::l.data.toList)):=du (by simp[ByteArray.data_append])
theorem G3 (x:List UInt8):(⟨#[34]⟩:ByteArray)++mkS x++⟨#[34]⟩=mkS (34::(x++[34])):=du (by simp[ByteArray.data_append])
theorem xr (t:Tm) (w:World) (hs:bK t) :
  Calls Tryz.prog 199 #[tA t] w λe w'=>e=.returned (.string (mkS (ba t)))/\Below w.heap.size w w':=by
 have hb0:Below w.heap.size w (w.alloc (.cells (tC8 t) 62)):=(Below.refl _ w).alloc (Nat.le_refl _) _
 have hg:=heap_alloc_new w (.cells (tC8 t) 62)
 have hI:=λW=>BY t.x W (fC hs).1
 have hL:=λW=>vL t.x W (fC hs).1
 have hY:=λW=>BY t.y W (fC hs).2.2
 obtain⟨res,hres⟩:∃r,ba t=r:=⟨_,rfl⟩
 rw[hres]
 have HT:Hid (mkS res=mkS (ba t)):=by show _=_;rw[hres]
 clear hres
 unfold ba at HT
 have hsi:(mkS (aU t.x.data.toList)).size<=6300000:=by rw[ni];exact ii hs.1
 have hsy:(mkS (aU t.y.data.toList)).size<=6300000:=by rw[ni];exact ii hs.2.2
 have hsl:(mkS (am t.x.data.toList)).size<=6300000:=by rw[ni];exact Nat.le_trans (fG hs.1) (by decide)
 have hx:=hs.1
 have hl:=hs.2.1
 rw[xG,xG,xG,xG,←G4,←AE,←AD,←G2,←G3]at HT
 generalize mkS (aU t.x.data.toList)=xi at *
 generalize mkS (aU t.y.data.toList)=yi at *
 generalize mkS (am t.x.data.toList)=xl at *
 go_enter Tryz.func199,Tryz.ntmps199
 go_upto_region 1 with fail
 change Code.wp _ _ _ _ (w.alloc (.cells (tC8 t) 62))
 generalize w.alloc (.cells (tC8 t) 62)=W at *
 have c0:=an hg 0 rfl
 have c1:=an hg 1 rfl
 have c2:=an hg 2 rfl
 have c3:=an hg 3 rfl
 have HB:=Lib.hid hb0
 clear hg hb0 hs
 by_cases h1:t.k=1
 ·rw[if_pos h1]at HT
  go_wp2_with (go_at_call 251;with_reducible refine(hI _).mono ?_;rintro e w1 ⟨rfl,b1⟩)
  go_ret
  exact⟨by rw[HT.out];rfl,aa HB.out b1⟩
 rw[if_neg h1]at HT
 by_cases h2:t.k=2
 ·rw[if_pos h2]at HT
  go_wp2_with fail
  go_ret
  exact⟨by rw[HT.out];rfl,HB.out⟩
 rw[if_neg h2]at HT
 have R1:=λd os=>ac c1 (below_regrown W d os)
 have R2:=λd os=>ac c2 (below_regrown W d os)
 have R3:=λd os=>ac c3 (below_regrown W d os)
 by_cases h4:t.k=4
 ·rw[if_pos h4]at HT
  go_wp2_with fail
  refine wrq ?_;(repeat (any_goals (go_big_quiet_step ((first|(go_at_call 252;with_reducible exact Calls.regrown_of (hL _))|(go_at_call 251;with_reducible exact Calls.regrown_of (hY _)))))));all_goals (refine wqn ?_;intro d9 os9)
  go_wp2
  go_ret
  exact⟨by rw[HT.out];rfl,HB.out.trans ((below_regrown _ _ _).mono HB.out.size)⟩
 rw[if_neg h4]at HT
 cases he:t.l.toList.isEmpty
 ·rw[if_neg (by rw[←ByteArray.toList_eq];intro h;rw[h]at he;cases he)]at HT
  go_wp2_with fail
  refine wrq ?_;(repeat (any_goals (go_big_quiet_step ((go_at_call 252;with_reducible exact Calls.regrown_of (hL _))))));all_goals (refine wqn ?_;intro d9 os9)
  go_wp2
  go_ret
  exact⟨by rw[HT.out];rfl,HB.out.trans ((below_regrown _ _ _).mono HB.out.size)⟩
 ·rw[if_pos (by rw[←ByteArray.toList_eq];exact List.isEmpty_iff.1 he)]at HT
  go_wp2_with (go_at_call 252;with_reducible refine(hL _).mono ?_;rintro e w1 ⟨rfl,b1⟩)
  go_ret
  exact⟨by rw[HT.out];rfl,aa HB.out b1⟩
theorem BX (x y:ByteArray) (w:World) :
  Calls Tryz.prog 198 #[.string x,.string y] w λe w'=>e=.returned (.int .i64 (aZ x.toList y.toList))/\w=w':=by
 go_enter Tryz.func198,Tryz.ntmps198
 go_wp2
 all_goals (go_ret;exact⟨by simp_all[aZ],rfl⟩)
theorem DY {a b:Tm} (h:Lib.compareInt a.k b.k≠0):cmpW a b=Lib.compareInt a.k b.k:=by unfold cmpW orZ;rw[if_neg h]
theorem Iw {a b:Tm} (h:a.k=b.k) (h2:aZ (bl a.x) (bl b.x)≠0):cmpW a b=aZ (bl a.x) (bl b.x):=by
 unfold cmpW orZ;rw[if_pos ((cT _ _).2 h),if_neg h2]
theorem Ix {a b:Tm} (h:a.k=b.k) (h1:aZ (bl a.x) (bl b.x)=0) (h2:aZ (bl a.l) (bl b.l)≠0):cmpW a b=aZ (bl a.l) (bl b.l):=by
 unfold cmpW orZ;rw[if_pos ((cT _ _).2 h),if_pos h1,if_neg h2]
theorem Iv {a b:Tm} (h:a.k=b.k) (h1:aZ (bl a.x) (bl b.x)=0) (h2:aZ (bl a.l) (bl b.l)=0):cmpW a b=aZ (bl a.y) (bl b.y):=by
 unfold cmpW orZ;rw[if_pos ((cT _ _).2 h),if_pos h1,if_pos h2]
theorem Jr {a b:Tm} (ha:aB a=false) (hb:aB b=false):ay a b=cmpW a b:=by
 unfold ay;rw[ha,hb,if_neg (by decide),if_neg (by decide),if_neg (by decide)]
theorem eqS {x y:ByteArray} (h:(x.toList == y.toList)=true):aZ (bl x) (bl y)=0:=by
 rw[ByteArray.toList_eq,ByteArray.toList_eq]at h
 exact(ip _ _).2 (eq_of_beq h)
theorem neS {x y:ByteArray} (h:(x.toList == y.toList)=false):aZ (bl x) (bl y)≠0:=by
 rw[ByteArray.toList_eq,ByteArray.toList_eq]at h
 intro h2
 rw[show x.data.toList=y.data.toList from (ip _ _).1 h2]at h
 simp at h
theorem vM (a b:Tm) (w:World) (ha:bK a) (hb:bK b) :
  Calls Tryz.prog 139 #[tA a,tA b] w λe w'=>e=.returned (.int .i64 (ay a b))/\Below w.heap.size w w':=by
 obtain⟨res,hres⟩:∃r,ay a b=r:=⟨_,rfl⟩
 rw[hres]
 have HR:Hid (res=ay a b):=by show _=_;rw[hres]
 clear hres
 have hba:Below w.heap.size w (w.alloc (.cells (tC8 a) 62)):=(Below.refl _ w).alloc (Nat.le_refl _) _
 have hga:=heap_alloc_new w (.cells (tC8 a) 62)
 have hza:(w.alloc (.cells (tC8 a) 62)).heap.size=w.heap.size+1:=by simp
 go_enter Tryz.func139,Tryz.ntmps139
 go_upto_region 1 with fail
 change Code.wp _ _ _ _ ((w.alloc (.cells (tC8 a) 62)).alloc (.cells (tC8 b) 62))
 generalize w.alloc (.cells (tC8 a) 62)=wa at *
 have hbb:Below wa.heap.size wa (wa.alloc (.cells (tC8 b) 62)):=(Below.refl _ wa).alloc (Nat.le_refl _) _
 have hgb:=heap_alloc_new wa (.cells (tC8 b) 62)
 have hga2:=cB hbb hga
 rw[hza]at hgb
 generalize wa.alloc (.cells (tC8 b) 62)=w0 at *
 have hb0:Below w.heap.size w w0:=aa hba hbb
 have hsz:w.heap.size<=w0.heap.size:=hb0.size
 have HB0:=Lib.hid hb0
 have a0:=an hga2 0 rfl
 have a1:=an hga2 1 rfl
 have a2:=an hga2 2 rfl
 have a3:=an hga2 3 rfl
 have b0:=an hgb 0 rfl
 have b1:=an hgb 1 rfl
 have b2:=an hgb 2 rfl
 have b3:=an hgb 3 rfl
 have hRa:=λW=>pT a W ha
 have hRb:=λW=>pT b W hb
 have hTa:=λW=>xr a W ha
 have hTb:=λW=>xr b W hb
 have hO:=λx y W=>BX x y W
 clear hga hgb hga2 hza hba hbb hb0
 refine Rf.p0 w0.heap.size _ (.quiet [0,2] (.one 1 (.one 3 (.quiet [4,5] (.done))))) ?_ (λa w h=>h)
 intro wd hbd hwz
 have p0:=cellL a0 hbd
 have p1:=cellL a1 hbd
 have p2:=cellL a2 hbd
 have p3:=cellL a3 hbd
 have q0:=cellL b0 hbd
 have q1:=cellL b1 hbd
 have q2:=cellL b2 hbd
 have q3:=cellL b3 hbd
 have HD:=Lib.hid hbd
 clear hwz hbd
 refine Rf.pl_quiet ?_
 iterate 2 go_big_quiet_step (fail)
 refine wpQuiet_nil (Rf.pl_one ?_)
 clear p0 p1 p2 p3 q0 q1 q2 q3
 go_wp2_with (go_at_call 197;with_reducible refine(hRa _).mono ?_;rintro e V1 ⟨rfl,k1⟩)
 have F1:=aa HD.out k1
 refine⟨k1.mono HD.out.size,Rf.pl_one ?_⟩
 go_wp2_with (go_at_call 197;with_reducible refine(hRb _).mono ?_;rintro e V2 ⟨rfl,k2⟩)
 have F2:=aa F1 k2
 refine⟨k2.mono F1.size,Rf.pl_quiet ?_⟩
 have HF2:=Lib.hid F2
 replace a0:=ac a0 F2
 replace a1:=ac a1 F2
 replace a2:=ac a2 F2
 replace a3:=ac a3 F2
 replace b0:=ac b0 F2
 replace b1:=ac b1 F2
 replace b2:=ac b2 F2
 replace b3:=ac b3 F2
 clear k1 k2 F1 F2 hRa hRb
 iterate 2 go_big_quiet_step (fail)
 refine wpQuiet_nil (Rf.pl_done ?_)
 have fin:Below w.heap.size w V2:=HB0.out.trans (HF2.out.mono hsz)
 have HFin:=Lib.hid fin
 clear fin
 cases hra:aB a<;>cases hrb:aB b
 ·rw[Jr hra hrb]at HR
  clear hTa hTb hra hrb
  by_cases h1:a.k<b.k
  ·have HE:Hid (res = -1):=by
    show _=_
    have e:Lib.compareInt a.k b.k = -1:=by unfold Lib.compareInt;rw[if_pos h1]
    rw[HR.out,DY (by rw[e];decide),e]
   clear HR hO
   go_wp2
   go_ret
   exact⟨by rw[HE.out];rfl,HFin.out⟩
  by_cases h2:a.k > b.k
  ·have HE:Hid (res=1):=by
    show _=_
    have e:Lib.compareInt a.k b.k=1:=by unfold Lib.compareInt;rw[if_neg h1];(repeat' split);all_goals omega
    rw[HR.out,DY (by rw[e];decide),e]
   clear HR hO
   go_wp2
   go_ret
   exact⟨by rw[HE.out];rfl,HFin.out⟩
  have h3:a.k=b.k:=by omega
  cases hx:(a.x.toList == b.x.toList)
  ·have HE:Hid (res=aZ a.x.toList b.x.toList):=by
    show _=_
    rw[HR.out,Iw h3 (neS hx),ByteArray.toList_eq,ByteArray.toList_eq]
   clear HR
   go_wp2_with (go_at_call 198;with_reducible refine(hO _ _ _).mono ?_;rintro e V3 ⟨rfl,rfl⟩)
   go_ret
   exact⟨by rw[HE.out];rfl,HFin.out⟩
  cases hl:(a.l.toList == b.l.toList)
  ·have HE:Hid (res=aZ a.l.toList b.l.toList):=by
    show _=_
    rw[HR.out,Ix h3 (eqS hx) (neS hl),ByteArray.toList_eq,ByteArray.toList_eq]
   clear HR
   go_wp2_with (go_at_call 198;with_reducible refine(hO _ _ _).mono ?_;rintro e V3 ⟨rfl,rfl⟩)
   go_ret
   exact⟨by rw[HE.out];rfl,HFin.out⟩
  ·have HE:Hid (res=aZ a.y.toList b.y.toList):=by
    show _=_
    rw[HR.out,Iv h3 (eqS hx) (eqS hl),ByteArray.toList_eq,ByteArray.toList_eq]
   clear HR
   go_wp2_with (go_at_call 198;with_reducible refine(hO _ _ _).mono ?_;rintro e V3 ⟨rfl,rfl⟩)
   go_ret
   exact⟨by rw[HE.out];rfl,HFin.out⟩
 ·have HE:Hid (res=1):=by show _=_;rw[HR.out];unfold ay;rw[hra,hrb];rfl
  clear HR hTa hTb hO hra hrb
  go_wp2
  go_ret
  exact⟨by rw[HE.out];rfl,HFin.out⟩
 ·have HE:Hid (res = -1):=by show _=_;rw[HR.out];unfold ay;rw[hra,hrb];rfl
  clear HR hTa hTb hO hra hrb
  go_wp2
  go_ret
  exact⟨by rw[HE.out];rfl,HFin.out⟩
 ·have HE:Hid (res=aZ (ba a) (ba b)):=by show _=_;rw[HR.out];unfold ay;rw[hra,hrb];rfl
  have hO2:=hO (mkS (ba a)) (mkS (ba b))
  rw[jP,jP]at hO2
  clear HR hra hrb hO
  generalize mkS (ba a)=ta at *
  generalize mkS (ba b)=tb at *
  go_upto_region 3 with fail
  refine Rf.p0 V2.heap.size _ (.quiet [0,2] (.one 1 (.one 3 (.one 4 (.quiet [5] (.done)))))) ?_ (λa w h=>h)
  intro we hbe hwz
  have c0:=cellL a0 hbe
  have c1:=cellL a1 hbe
  have c2:=cellL a2 hbe
  have c3:=cellL a3 hbe
  have d0:=cellL b0 hbe
  have d1:=cellL b1 hbe
  have d2:=cellL b2 hbe
  have d3:=cellL b3 hbe
  have HF3:=Lib.hid hbe
  clear hwz hbe a0 a1 a2 a3 b0 b1 b2 b3
  refine Rf.pl_quiet ?_
  iterate 2 go_big_quiet_step (fail)
  refine wpQuiet_nil (Rf.pl_one ?_)
  clear c0 c1 c2 c3 d0 d1 d2 d3
  go_wp2_with (go_at_call 199;with_reducible refine(hTa _).mono ?_;rintro e V3 ⟨rfl,k3⟩)
  have F4:=aa HF3.out k3
  refine⟨k3.mono HF3.out.size,Rf.pl_one ?_⟩
  go_wp2_with (go_at_call 199;with_reducible refine(hTb _).mono ?_;rintro e V4 ⟨rfl,k4⟩)
  have F5:=aa F4 k4
  refine⟨k4.mono F4.size,Rf.pl_one ?_⟩
  have HF5:=Lib.hid F5
  clear k3 k4 F4 F5
  go_wp2_with (go_at_call 198;with_reducible refine(hO2 _).mono ?_;rintro e V5 ⟨rfl,rfl⟩)
  refine⟨Below.refl _ _,Rf.pl_quiet ?_⟩
  iterate 1 go_big_quiet_step (fail)
  refine wpQuiet_nil (Rf.pl_done ?_)
  go_wp2
  go_ret
  exact⟨by rw[HE.out];rfl,HFin.out.trans (HF5.out.mono HFin.out.size)⟩
end Go.Proofs.YtfcbghmbbjolcaaGreatDoor
