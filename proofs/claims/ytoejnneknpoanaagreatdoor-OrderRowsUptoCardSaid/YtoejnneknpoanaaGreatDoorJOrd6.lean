/- Two terms, compared by Go's ==. The program's package order, -/
import Derived.Test.YtoejnneknpoanaaGreatDoorJMapStr
set_option maxHeartbeats 8000000
set_option maxRecDepth 100000
namespace Go.Proofs.YtoejnneknpoanaaGreatDoor
open Go Go.RowKit Um Fm Tx
theorem sameTm_iffT {a b:Tm}:sameTm a b=true↔a=b:=by
 obtain⟨k,x,l,y⟩:=a
 obtain⟨k',x',l',y'⟩:=b
 unfold sameTm
 simp only[Bool.and_eq_true,beq_iff_eq,Tm.mk.injEq,ByteArray.toList_eq]
 constructor
 ·rintro⟨⟨⟨h1,h2⟩,h3⟩,h4⟩
  exact⟨h1,ba_ext h2,ba_ext h3,ba_ext h4⟩
 ·rintro⟨rfl,rfl,rfl,rfl⟩
  exact⟨⟨⟨rfl,rfl⟩,rfl⟩,rfl⟩
instance decTm:DecidableEq Tm:=λ_ _=>decidable_of_iff _ sameTm_iffT
open Om Mp
theorem oMapT:Tryz.prog.underlying 137=some (.map 9 3):=by kernel_rfl
theorem oMapK:Tryz.prog.underlying 9=some .string:=by kernel_rfl
theorem oMapZ (w:World):(zeroValue 3).run Tryz.prog w=.ok (.int .i64 0) w:=by kernel_rfl
def keyB (r:List Tm):ByteArray:=⟨(keyL r).toArray⟩
theorem keyB_inj {a b:List Tm} (h:keyB a=keyB b):a=b:=by
 apply keyL_inj
 have:=congrArg (λx:ByteArray=>x.data.toList) h
 simpa[keyB] using this
def Once1R (r:Nat) (m:List (ByteArray × Int)) (s:ByteArray) (w:World) (e:Ending) (w':World):Prop:=
 e=.returned (.bool (decide (0<lookI m s)))/\∃w2,Below w.heap.size w w2/\w'=putM w2 r (setM m s (lookI m s+1))
theorem ordOnce1 (row:List Tm) (A:Option Addr) (c n r:Nat) (m:List (ByteArray × Int)) (mb:Nat) (w:World) (hn:row.length=n) (hl:n<=1000000) (hP:PowV w) (hr:RdTs w A row) (hz:∀t∈row,keyTm t)
  (hp:w.cell? ⟨mb,0,none⟩=some (.map (some r))) (hM:CntOf w r m) (hm:0<=lookI m (keyB row)/\lookI m (keyB row)<=1000000) (hne:mb≠r) :
  Calls Tryz.prog 99 #[.slice A n c,.pointer (some ⟨mb,0,none⟩)] w (Once1R r m (keyB row) w):=by
 have hK:=ordKey row A c n w hn hl hP hr hz
 change Calls _ _ _ _ (λe w'=>e=.returned (.string (keyB row))/\Below w.heap.size w w') at hK
 generalize keyB row=s at *
 have HM:=Lib.hid hM
 have hmb:=cell_lt hp
 clear hn hr hz hP hM
 go_enter Tryz.func99,Tryz.ntmps99
 go_wp2_with fail
 refine hK.mono ?_
 rintro e w2 ⟨rfl,hb2⟩
 have hp2:=cell_on hp hb2
 have hM2:=HM.out.on hb2
 have hrr:=lt_of_cnt hM2
 have hl1:=run_lookup_str (P:=Tryz.prog) oMapT oMapK (oMapZ w2) hM2 s
 have hM3:=putM_cnt hrr (setM m s (lookI m s+1))
 have hp3:(putM w2 r (setM m s (lookI m s+1))).cell? ⟨mb,0,none⟩=some (.map (some r)):=by
  rw[(putM_grown w2 r _).cell_far _ (cell_lt hp2) (λe=>by injection e with e;exact hne e)];exact hp2
 have hl2:=run_lookup_str (P:=Tryz.prog) oMapT oMapK (oMapZ _) hM3 s
 rw[look_setM,if_pos rfl]at hl2
 have HF:Hid (Once1R r m s w (.returned (.bool (decide (0<lookI m s)))) (putM w2 r (setM m s (lookI m s+1)))):=⟨rfl,w2,hb2,rfl⟩
 obtain⟨hv0,hv1⟩:=hm
 generalize lookI m s=v at *
 obtain⟨W2,hW2⟩:∃W,putM w2 r (setM m s (v+1))=W:=⟨_,rfl⟩
 rw[hW2]at hp3 hl2 HF
 have HW2:=Lib.hid hW2
 clear hW2 hK hM3 hb2 hp
 cases hpos:decide (0<v)
 ·have hd:decide (1<v+1)=false:=by simp at hpos ⊢;omega
  rw[hpos]at HF
  clear hpos
  go_wp2_with (at_mapUpdate;refine wpList_mapUpdate_str rfl _ _ _ _ rfl oMapT oMapK rfl hM2 s (v+1) rfl rfl ?_;rw[HW2.out])
  go_ret
  exact HF.out
 ·have hd:decide (1<v+1)=true:=by simp at hpos ⊢;omega
  rw[hpos]at HF
  clear hpos
  go_wp2_with (at_mapUpdate;refine wpList_mapUpdate_str rfl _ _ _ _ rfl oMapT oMapK rfl hM2 s (v+1) rfl rfl ?_;rw[HW2.out])
  go_ret
  exact HF.out
def WkG (base b g:Nat) (va vr:Value) (vars:List ByteArray) (qc vs:List Value) (rows:List (List Tm)) (W:World):Prop:=
 W.heap[b]?=some (Obj.cells (va::vr::qc).toArray 110 (0,0))/\W.ownsRow base 9 1 va vars.length (vars.map Value.string)/\All 1 (OwnRow base W) vs rows/\∃cur,W.heap[g]?=some (Obj.cells cur 59 (0,0))
section
variable {base b g:Nat} {va vr:Value} {vars:List ByteArray} {qc vs:List Value} {rows:List (List Tm)} {W W':World}
theorem WkG.on (h:WkG base b g va vr vars qc vs rows W) (hb:Below W.heap.size W W'):WkG base b g va vr vars qc vs rows W':=by
 obtain⟨h1,h2,h3,cur,h4⟩:=h
 exact⟨KeepT.below hb _ _ _ h1,own_keep h2 (KeepT.below hb),h3.mono λ_ _ _ x=>x.keep (KeepT.below hb),cur,KeepT.below hb _ _ _ h4⟩
theorem WkG.keep (h:WkG base b g va vr vars qc vs rows W) (hk:∀e,e≠59->KeepT e W W') (hg:∃cur,W'.heap[g]?=some (Obj.cells cur 59 (0,0))):WkG base b g va vr vars qc vs rows W':=by
 obtain⟨h1,h2,h3,cur,h4⟩:=h
 exact⟨hk _ (by decide) _ _ _ h1,own_keep h2 (hk _ (by decide)),h3.mono λ_ _ _ x=>x.keep (hk _ (by decide)),hg⟩
theorem WkG.setCell (h:WkG base b g va vr vars qc vs rows W) (i:Nat) (v:Value):WkG base b g va vr vars qc vs rows (W.setCell ⟨g,i,none⟩ v):=by
 obtain⟨cur,h4⟩:=h.2.2.2
 exact h.keep (λe he=>KeepT.setCell h4 (λx=>he x.symm)) ⟨_,heap_setCell_at h4 i v⟩
theorem WkG.setCells (h:WkG base b g va vr vars qc vs rows W):∀(us:List Value) (o:Nat),WkG base b g va vr vars qc vs rows (W.setCells g o us):=by
 intro us
 induction us generalizing W with
 | nil=>intro o;exact h
 | cons u us ih=>intro o;rw[World.setCells];exact ih (h.setCell o u) (o+1)
theorem KeepT.putM (W:World) (r:Nat) (m m':List (ByteArray × Int)) (hM:CntOf W r m) (e:TypeId):KeepT e W (putM W r m'):=λk cur fr x=>by
 have hne:k≠r:=λh=>by
  subst h
  unfold CntOf at hM
  rw[hM]at x;cases x
 rw[(putM_grown W r m').block k (Array.getElem?_eq_some_iff.1 x).1 (λh=>hne (by injection h))];exact x
theorem WkG.putM (h:WkG base b g va vr vars qc vs rows W) {r:Nat} {m:List (ByteArray × Int)} (hM:CntOf W r m) (m':List (ByteArray × Int)):WkG base b g va vr vars qc vs rows (putM W r m'):=by
 obtain⟨cur,h4⟩:=h.2.2.2
 exact h.keep (λe _=>KeepT.putM W r m m' hM e) ⟨cur,KeepT.putM W r m m' hM _ _ _ _ h4⟩
end
theorem RowV.of_own {base n:Nat} {v:Value} {xs:List Value} {w:World} (h:w.ownsRow base 59 1 v n xs):(v=.slice none 0 0/\n=0/\xs=[])∨∃g cap rest,v=.slice (some ⟨g,0,none⟩) n cap/\base<=g/\RowV g xs rest w/\n<=cap/\cap<=maxLen/\xs.length=n/\n+rest.length=cap:=by
 have hl:=h.1
 rw[Nat.mul_one]at hl
 rcases h.2 with ⟨rfl,h0⟩|⟨g,cap,cur,rfl,hg,hh,hn,hm,hs,ht⟩
 ·subst h0
  exact .inl ⟨rfl,rfl,List.eq_nil_of_length_eq_zero hl⟩
 ·refine .inr ⟨g,cap,cur.toList.drop n,rfl,hg,?_,hn,hm,hl,by rw[List.length_drop,Array.length_toList,hs];omega⟩
  unfold RowV
  rw[Nat.mul_one]at ht
  rw[←ht,List.take_append_drop,Array.toArray_toList]
  exact hh
theorem RowV.own {base g cap n:Nat} {xs rest:List Value} {w:World} (h:RowV g xs rest w) (hb:base<=g) (hn:xs.length=n) (hc:n+rest.length=cap) (hm:cap<=maxLen):w.ownsRow base 59 1 (.slice (some ⟨g,0,none⟩) n cap) n xs:=by
 refine⟨by omega,.inr ⟨g,cap,_,rfl,hb,h,by omega,hm,by simp;omega,?_⟩⟩
 rw[Nat.mul_one,←hn,List.take_left' rfl]
theorem All.kept {R:List Value->List Tm->Prop} {b:Nat->Bool} {vs:List Value} {rows:List (List Tm)} (h:All 1 R vs rows):∀k,k<=rows.length->All 1 R (keptL b vs k) (keptL b rows k)
 | 0,_=>rfl
 | k+1,hk=>by
  have ih:=h.kept (b:=b) k (by omega)
  unfold keptL
  split
  ·exact ih
  ·obtain⟨r,hr⟩:∃r,rows[k]?=some r:=⟨_,List.getElem?_eq_getElem (by omega)⟩
   obtain⟨cs,hc,hR,hx⟩:=h.at_ hr
   match cs,hc with
   | [v],_ =>
    have hv:=hx 0 v rfl
    rw[Nat.mul_one,Nat.add_zero]at hv
    rw[hr,hv]
    exact ih.append (All.one rfl hR)
theorem delNone (F:Nat) (cb:Array Value) (eg:∀args w,(callFunc F args).run Tryz.prog w=.ok (.enter F args) w) (w:World) :
  Calls Tryz.prog 87 #[.slice none 0 0,.func (.func F) #[] cb] w λe w'=>e=.returned (.slice none 0 0)/\w=w':=by
 have hI:=idxRows F cb eg (λ_=>false) (λ_ W=>w=W) [] 0 none 0 w rfl (by omega) (λk W _=>RdL.nil _ _ _ _) (λk row W A' c' h=>by simp at h) rfl
 go_enter Tryz.func87,Tryz.ntmps87
 go_wp2_with fail
 refine hI.mono ?_
 intro e w1 hD
 rcases hD with ⟨rfl,h1,h2⟩|⟨k,hk,_⟩
 ·subst h2
  clear h1 hI
  go_wp2
  go_ret
  exact⟨rfl,rfl⟩
 ·omega
def OnceS (W0:World) (b g r mb:Nat) (va vr:Value) (vars:List ByteArray) (qc vs:List Value) (rows:List (List Tm)) (k:Nat) (W:World):Prop:=
 ∃m,CntOf W r m/\W.heap[mb]?=some (Obj.cells #[.map (some r)] 137 (0,0))/\(∀x,0<=lookI m x/\lookI m x<=k/\(0<lookI m x↔∃q∈rows.take k,keyB q=x)) /\
  WkG W0.heap.size b g va vr vars qc vs rows W/\Below W0.heap.size W0 W
theorem once_counts {rows:List (List Tm)} {k:Nat} {row:List Tm} {m:List (ByteArray × Int)} (hrow:rows[k]?=some row) (h:∀x,0<=lookI m x/\lookI m x<=k/\(0<lookI m x↔∃q∈rows.take k,keyB q=x)) (x:ByteArray) :
  0<=lookI (setM m (keyB row) (lookI m (keyB row)+1)) x/\lookI (setM m (keyB row) (lookI m (keyB row)+1)) x<=(k+1:Nat)/\(0<lookI (setM m (keyB row) (lookI m (keyB row)+1)) x↔∃q∈rows.take (k+1),keyB q=x):=by
 rw[look_setM,take_snoc_of hrow]
 have h1:=h x
 have h2:=h (keyB row)
 by_cases e:keyB row=x
 ·rw[if_pos e]
  refine⟨by omega,by omega,λ_=>⟨row,by simp,e⟩,λ_=>by omega⟩
 ·rw[if_neg e]
  refine⟨h1.1,by omega,h1.2.2.trans ⟨λ⟨q,hq,he⟩=>⟨q,by simp[hq],he⟩,λ⟨q,hq,he⟩=>?_⟩⟩
  rcases List.mem_append.1 hq with hq|hq
  ·exact⟨q,hq,he⟩
  ·simp only[List.mem_cons,List.not_mem_nil,or_false]at hq
   subst hq;exact absurd he e
def keyRow (r:List Tm):Prop:=r.length<=1000000/\∀t∈r,keyTm t
def StepR (W0:World) (b:Nat) (vars:List ByteArray) (rows:List (List Tm)) (qc:List Value) (n:Int) (e:Ending) (w':World):Prop:=
 e=.returned (.int .i64 n)/\WkAt W0.heap.size w' b vars rows qc/\Below W0.heap.size W0 w'
theorem WkAt.on {base b:Nat} {w w':World} {vars:List ByteArray} {rows:List (List Tm)} {qc:List Value} (h:WkAt base w b vars rows qc) (hb:Below w.heap.size w w'):WkAt base w' b vars rows qc:=by
 obtain⟨h0,va,vr,h1,h2,h3⟩:=h
 exact⟨h0,va,vr,KeepT.below hb _ _ _ h1,own_keep h2 (KeepT.below hb),h3.keep (KeepT.below hb) (KeepT.below hb)⟩
theorem wk_rows {base b:Nat} {W:World} {va vr vr':Value} {vars:List ByteArray} {rows:List (List Tm)} {qc:List Value} (hb:base<=b) (h1:W.heap[b]?=some (Obj.cells (va::vr::qc).toArray 110 (0,0))) (h2:W.ownsRow base 9 1 va vars.length (vars.map Value.string)) (h3:OwnRs base W vr' rows) :
  WkAt base (W.setCell ⟨b,1,none⟩ vr') b vars rows qc:=by
 have hk:∀e,110≠e->KeepT e W (W.setCell ⟨b,1,none⟩ vr'):=λe he=>KeepT.setCell h1 he
 refine⟨hb,va,vr',?_,own_keep h2 (hk _ (by decide)),h3.keep (hk _ (by decide)) (hk _ (by decide))⟩
 have:=heap_setCell_at h1 1 vr'
 simpa using this
theorem ordOnce (W0:World) (hP:PowV W0) (b:Nat) (vars:List ByteArray) (rows:List (List Tm)) (qc:List Value) (w:World) (hB:Below W0.heap.size W0 w) (hW:WkAt W0.heap.size w b vars rows qc) (hz:∀r∈rows,keyRow r) (hl:rows.length<=1000000) :
  Calls Tryz.prog 61 #[.pointer (some ⟨b,0,none⟩)] w (StepR W0 b vars (onceL rows) qc 0):=by
 have eg:∀args w,(callFunc 99 args).run Tryz.prog w=.ok (.enter 99 args) w:=enters_of Tryz.func99 (by kernel_rfl) rfl
 have hmm:=@run_makeMap Tryz.prog
 obtain⟨hbb,va,vr,hblk,hva,xs,hown,hall⟩:=hW
 obtain⟨n,hn⟩:∃n,rows.length=n:=⟨_,rfl⟩
 rw[hn]at hown hl
 have hlt:b<w.heap.size:=(Array.getElem?_eq_some_iff.1 hblk).1
 rcases RowV.of_own hown with ⟨rfl,rfl,rfl⟩|⟨g,cap,rest,rfl,hbg,hV,hnc,hcm,hxn,hrc⟩
 ·obtain rfl:rows=[]:=List.eq_nil_of_length_eq_zero hn
  have c1:w.cell? ⟨b,1,none⟩=some (.slice none 0 0):=by simp[World.cell?,hblk]
  have f1:w.frozen? ⟨b,1,none⟩=false:=by simp[World.frozen?,hblk]
  have H:=Lib.hid (And.intro hbb (And.intro hblk (And.intro hva (And.intro hown hB))))
  have hD:=λmb W=>delNone 99 #[.pointer (some ⟨mb,0,none⟩)] eg W
  clear hbb hblk hva hown hB hall hn hz hP
  go_enter Tryz.func61,Tryz.ntmps61
  go_wp2_with (go_at_call 87;refine(hD _ _).mono ?_;rintro e w1 ⟨rfl,rfl⟩)
  have hF:WkAt W0.heap.size (w.setCell ⟨b,1,none⟩ (.slice none 0 0)) b vars (onceL []) qc:=wk_rows H.out.1 H.out.2.1 H.out.2.2.1 (OwnRs.nil _ _)
  have HF:=Lib.hid hF
  have hbb:=H.out.1
  have hsz:=H.out.2.2.2.2.size
  clear hF
  go_ret
  refine⟨rfl,(HF.out.on ((Below.refl _ _).alloc (Nat.le_refl _) _)).on ((Below.refl _ _).alloc (Nat.le_refl _) _),?_⟩
  exact((H.out.2.2.2.2.setCell (p:=⟨b,1,none⟩) hbb _).alloc (by simpa using hsz) _).alloc (by simp;omega) _
 ·have c1:w.cell? ⟨b,1,none⟩=some (.slice (some ⟨g,0,none⟩) n cap):=by simp[World.cell?,hblk]
  have hal:Below w.heap.size w ((w.alloc (.map #[] 0)).alloc (.cells #[.map (some w.heap.size)] 137)):=blw
  have hglt:=hV.lt
  have hS0:OnceS W0 b g w.heap.size (w.heap.size+1) va (.slice (some ⟨g,0,none⟩) n cap) vars qc xs rows 0 ((w.alloc (.map #[] 0)).alloc (.cells #[.map (some w.heap.size)] 137)):=by
   refine⟨[],?_,?_,λx=>⟨by simp[lookI],by simp[lookI],by simp[lookI]⟩,WkG.on ⟨hblk,hva,hall,_,hV⟩ hal,hB.trans (hal.mono hB.size)⟩
   ·exact heap_two_1 w _ _
   ·exact heap_two_2 w _ _
  have hD:=delRows 99 #[.pointer (some ⟨w.heap.size+1,0,none⟩)] eg (λk=>((rows[k]?).map λq=>decide (q∈rows.take k)).getD false) (OnceS W0 b g w.heap.size (w.heap.size+1) va (.slice (some ⟨g,0,none⟩) n cap) vars qc xs rows) rows xs rest g n cap rest.length _ hn hxn rfl (by omega) hnc
   (λk W h=>by
    obtain⟨m,_,_,_,hG,_⟩:=h
    exact hG.2.2.1.mono λ_ _ _ x=>x.rd)
   (λk W i v h=>by
    obtain⟨m,h1,h2,h3,h4,h5⟩:=h
    obtain⟨cur,h6⟩:=h4.2.2.2
    have hne:g≠w.heap.size:=by omega
    refine⟨m,?_,KeepT.setCell h6 (by decide) _ _ _ h2,h3,h4.setCell i v,h5.setCell (p:=⟨g,i,none⟩) hbg _⟩
    unfold CntOf
    rw[Below.heap_setCell _ _ _ _ (λe=>hne e.symm)];exact h1)
   (λk W o us h=>by
    obtain⟨m,h1,h2,h3,h4,h5⟩:=h
    have hne:g≠w.heap.size:=by omega
    have hne2:g≠w.heap.size+1:=by omega
    refine⟨m,?_,?_,h3,h4.setCells us o,h5.trans (below_setCells hbg us o W)⟩
    ·unfold CntOf
     rw[heap_setCells_ne hne];exact h1
    ·rw[heap_setCells_ne hne2];exact h2)
   (λk row W A' c' us hrow h hU hle hrd=>by
    obtain⟨m,h1,h2,h3,h4,h5⟩:=h
    have hzr:=hz row (List.mem_of_getElem? hrow)
    have hk:k<n:=by rw[←hn];exact(List.getElem?_eq_some_iff.1 hrow).1
    refine(ordOnce1 row A' c' row.length w.heap.size m (w.heap.size+1) W rfl hzr.1 (hP.step h5) hrd hzr.2 (by rw[Lib.cell_of_heap h2];rfl) h1 ⟨(h3 _).1,by have:=(h3 (keyB row)).2.1;omega⟩ (by omega)).mono ?_
    rintro e W' ⟨rfl,w2,hb2,rfl⟩
    have hM2:=h1.on hb2
    have hrr:=lt_of_cnt hM2
    refine⟨?_,⟨_,putM_cnt hrr _,?_,once_counts hrow h3,(h4.on hb2).putM hM2 _,?_⟩,?_⟩
    ·congr 2
     rw[hrow]
     show decide _=decide _
     rw[decide_eq_decide,(h3 (keyB row)).2.2]
     exact⟨λ⟨q,hq,he⟩=>(keyB_inj he) ▸ hq,λhq=>⟨row,hq,rfl⟩⟩
    ·exact KeepT.putM _ _ _ _ hM2 _ _ _ _ (KeepT.below hb2 _ _ _ h2)
    ·exact(h5.trans (hb2.mono h5.size)).grown (putM_grown _ _ _) (by have:=hb2.size;have:=h5.size;omega) (λq e=>by injection e with e;have:=hB.size;omega)
    ·exact KeepT.putM _ _ _ _ hM2 _ _ _ _ (KeepT.below hb2 _ _ _ hU))
   hS0 (KeepT.below hal _ _ _ hV)
  have hko:=kept_once (b:=λk=>((rows[k]?).map λq=>decide (q∈rows.take k)).getD false) (l:=rows) (λk x hx=>by simp[hx]) n (by omega)
  rw[List.take_of_length_le (by omega)]at hko
  have H:=Lib.hid (And.intro hbb (And.intro hcm (And.intro hrc (And.intro hbg (And.intro hko hn)))))
  clear hbb hblk hva hown hB hall hn hz hP hS0 hV hcm hrc hko hal hxn
  go_enter Tryz.func61,Tryz.ntmps61
  go_wp2_with fail
  refine hD.mono ?_
  rintro e w9 ⟨rest',rfl,hV',hlen,hS⟩
  obtain⟨m,_,_,_,hG,hB9⟩:=hS
  have c9:w9.cell? ⟨b,1,none⟩=some (.slice (some ⟨g,0,none⟩) n cap):=by simp[World.cell?,hG.1]
  have f9:w9.frozen? ⟨b,1,none⟩=false:=by simp[World.frozen?,hG.1]
  have hko:=H.out.2.2.2.2.1
  have hall:=hG.2.2.1.kept (b:=λk=>((rows[k]?).map λq=>decide (q∈rows.take k)).getD false) n (by rw[H.out.2.2.2.2.2];exact Nat.le_refl _)
  rw[hko]at hall
  generalize keptL (λk=>((rows[k]?).map λq=>decide (q∈rows.take k)).getD false) xs n=ys at *
  have hyl:=hall.len
  obtain⟨n2,hn2⟩:∃n2,ys.length=n2:=⟨_,rfl⟩
  rw[hn2]at hlen hyl ⊢
  have hrs:OwnRs W0.heap.size w9 (.slice (some ⟨g,0,none⟩) n2 cap) (onceL rows):=⟨ys,by rw[show (onceL rows).length=n2 by omega];exact hV'.own hbg hn2 (by have:=H.out.2.2.1;omega) H.out.2.1,hall⟩
  have HF:Hid (StepR W0 b vars (onceL rows) qc 0 (.returned (.int .i64 0)) (w9.setCell ⟨b,1,none⟩ (.slice (some ⟨g,0,none⟩) n2 cap))):=
   ⟨rfl,wk_rows H.out.1 hG.1 hG.2.1 hrs,hB9.setCell (p:=⟨b,1,none⟩) H.out.1 _⟩
  clear hV' hlen hG hB9 hko hall hyl hrs hn2 hD c1
  go_wp2
  go_ret
  exact HF.out
end Go.Proofs.YtoejnneknpoanaaGreatDoor
