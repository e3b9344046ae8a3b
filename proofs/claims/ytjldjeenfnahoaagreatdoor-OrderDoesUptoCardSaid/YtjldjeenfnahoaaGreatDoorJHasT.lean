/- The reference of package order, walked: Right, compare, same -/
import Derived.Test.YtjldjeenfnahoaaGreatDoorJR8e
import Derived.Great.Walk
set_option maxHeartbeats 4000000
set_option maxRecDepth 100000
namespace Go.Proofs.YtjldjeenfnahoaaGreatDoor
open Go Go.RowKit Um Fm Lx Tx Om Mp
theorem tV {W w:World} {A B:Option Addr} {n c m d:Nat} (hW:w.alloc (.cells #[.slice A n c,.slice B m d] 39)=W):Below w.heap.size w W/\W.cell? ⟨w.heap.size,0,none⟩=some (.slice A n c)/\W.cell? ⟨w.heap.size,1,none⟩=some (.slice B m d)/\W.heap.size=w.heap.size+1:=by
 subst hW
 exact⟨(Below.refl _ _).alloc (Nat.le_refl _) _,by rw[World.cell?,heap_alloc_new];rfl,by rw[World.cell?,heap_alloc_new];rfl,by simp⟩
theorem bW (vars:List ByteArray) (rows:List (List Tm)) (A B:Option Addr) (n c m d:Nat) (w:World) (hn:vars.length=n) (hm:rows.length=m) (hln:n<=1000000) (hlm:m<=1000000) (hnc:n<=c) (hv:Rd w A (vars.map Value.string)) (hr:RdRs w B rows) :
  Calls Tryz.prog 14 #[.agg #[.slice A n c,.slice B m d]] w λe w'=>e=.returned (.bool (aw vars rows))/\Below w.heap.size w w':=by
 obtain⟨W,hW⟩:∃W:World,w.alloc (.cells #[.slice A n c,.slice B m d] 39)=W:=⟨_,rfl⟩
 obtain⟨hB0,a0,a1,hz⟩:=tV hW
 have H:=Lib.hid (And.intro hn (And.intro hm (And.intro (hv.later hB0) (And.intro (hr.later hB0) (And.intro hB0 hW)))))
 have HW:=Lib.hid hW
 clear hn hm hv hr hB0 hz hW
 go_enter Tryz.func14,Tryz.ntmps14
 go_wp2_with fail
 simp only[HW.out]
 go_wp2
 go_loopw [3] (λi wr=>∃k:Nat,k<=n/\i=.int .i64 k/\Hid (vars.take k).Nodup/\Below W.heap.size W wr) (λi _=>n-(intOf i).toNat)
 case atStart=>exact⟨0,by omega,rfl,by show List.Nodup _;simp,Below.refl _ _⟩
 case round =>
  obtain⟨k,hk,rfl,HN,hB⟩:=hrel
  obtain⟨hn,hm,hv,hr,hB0,-⟩:=H.out
  have c0:=ab a0 hB
  have c1:=ab a1 hB
  by_cases hlt:k<n
  ·obtain⟨x,hx⟩:∃x,vars[k]?=some x:=⟨_,List.getElem?_eq_getElem (by rw[hn];exact hlt)⟩
   have hvw:=hv.later hB
   obtain⟨g,o,rfl,hcx⟩:=hvw.at_ (j:=k) (u:=.string x) (by rw[List.getElem?_map,hx];rfl)
   have hI:∀d os,Calls Tryz.prog 44 #[.slice (some ⟨g,o,none⟩) k c,.string x] (Sort.grow (redrawn wr d) os) λe w'=>e=.returned (.int .i64 (Lib.idxOfS (vars.take k) x))/\Sort.grow (redrawn wr d) os=w':=λd os =>
    nH (vars.take k) x (some ⟨g,o,none⟩) c k (Sort.grow (redrawn wr d) os) (by rw[List.length_take,hn];omega) (by omega) (by rw[List.map_take];exact(hvw.later (below_regrown wr d os)).take k)
   have e0:=λd os=>ab c0 (below_regrown wr d os)
   have ex:=λd os=>ab hcx (below_regrown wr d os)
   have hkc:k<=c:=by omega
   have hj1:=Lib.hid (Lib.idxOfS_nonneg_iff (vars.take k) x)
   have hnd:=Lib.hid (ft hx)
   have hnn:=Lib.hid (λh=>jo hx h)
   have HB:=Lib.hid hB
   generalize Lib.idxOfS (vars.take k) x=j at *
   clear hn hm hv hr hB0 hx hvw hB hcx
   by_cases hj:0<=j
   ·have H2:Hid (aw vars rows=false):=by
     show _=_
     unfold aw
     rw[show decide vars.Nodup=false from decide_eq_false (hnn.out (hj1.out.1 hj))];rfl
    have hd:decide (0<=j)=true:=decide_eq_true hj
    clear hj
    go_wp2
    refine wrq ?_;(repeat (any_goals (go_big_quiet_step ((go_at_call 44;exact Calls.quiet_tr (hI _ _))))));all_goals (refine wqn ?_;intro d9 os9)
    have kq:=below_regrown wr d9 os9
    go_wp2
    go_ret
    exact⟨by rw[H2.out];rfl,aa H.out.2.2.2.2.1 (aa HB.out kq)⟩
   ·have H2:Hid (vars.take (k+1)).Nodup:=hnd.out.2 ⟨HN.out,λh=>hj (hj1.out.2 h)⟩
    have hd:decide (0<=j)=false:=decide_eq_false hj
    clear hj
    go_wp2
    refine wrq ?_;(repeat (any_goals (go_big_quiet_step ((go_at_call 44;exact Calls.quiet_tr (hI _ _))))));all_goals (refine wqn ?_;intro d9 os9)
    have kq:=below_regrown wr d9 os9
    go_wp2
    go_roundw
    case rel=>exact⟨k+1,by omega,by go_num,H2,aa HB.out kq⟩
    case measure=>simp[intOf];omega
  ·obtain rfl:k=n:=by omega
   have HB:=Lib.hid hB
   have H2:Hid (decide vars.Nodup=true):=decide_eq_true (by
    have:=HN.out
    rwa [List.take_of_length_le (by rw[hn];exact Nat.le_refl _)]at this)
   clear hn hm hv hr hB0 hB HN
   go_wp2
   go_loopw [4] (λi wv=>∃k:Nat,k<=m/\i=.int .i64 k/\Hid (((rows.take k).any λr=>r.length != vars.length)=false)/\Below W.heap.size W wv) (λi _=>m-(intOf i).toNat)
   case atStart=>exact⟨0,by omega,rfl,rfl,HB.out⟩
   case round =>
    rename_i wr0
    obtain⟨j,hj,rfl,HN,hB⟩:=hrel
    obtain⟨hn,hm,hv,hr,hB0,-⟩:=H.out
    clear c0 c1
    have c0:=ab a0 hB
    have c1:=ab a1 hB
    by_cases hlt2:j<m
    ·obtain⟨row,hrow⟩:∃x,rows[j]?=some x:=⟨_,List.getElem?_eq_getElem (by rw[hm];exact hlt2)⟩
     obtain⟨g,o,A',c',rfl,hcell,hle,hrd⟩:=(hr.later hB).at1 hrow
     have HX:=Lib.hid (And.intro hrow hn)
     have e0:=λd os=>ab c0 (below_regrown wr d os)
     have e1:=λd os=>ab c1 (below_regrown wr d os)
     have ex:=λd os=>ab hcell (below_regrown wr d os)
     clear hn hm hv hr hB0 hrow hrd
     by_cases hq:row.length=k
     ·have hd:((row.length:Int) != (k:Int))=false:=by simp[hq]
      have H3:Hid (((rows.take (j+1)).any λr=>r.length != vars.length)=false):=by
       show _=_
       rw[ah HX.out.1,List.any_append,HN.out]
       simp[hq,HX.out.2]
      clear hq
      generalize row.length=rl at *
      go_wp2
      refine wrq ?_;(repeat (any_goals (go_big_quiet_step ((fail)))));all_goals (refine wqn ?_;intro d9 os9)
      have kq:=below_regrown wr d9 os9
      go_wp2
      go_roundw
      case rel=>exact⟨j+1,by omega,by go_num,H3,aa hB kq⟩
      case measure=>simp[intOf];omega
     ·have hd:((row.length:Int) != (k:Int))=true:=by rw[bne_iff_ne];omega
      have H3:Hid (aw vars rows=false):=by
       show _=_
       unfold aw
       rw[H2.out]
       have:(rows.any λr=>r.length != vars.length)=true:=List.any_eq_true.2 ⟨row,List.mem_of_getElem? HX.out.1,by rw[HX.out.2];simpa using hq⟩
       rw[this];rfl
      clear hq
      generalize row.length=rl at *
      go_wp2
      refine wrq ?_;(repeat (any_goals (go_big_quiet_step ((fail)))));all_goals (refine wqn ?_;intro d9 os9)
      have kq:=below_regrown wr d9 os9
      go_wp2
      go_ret
      exact⟨by rw[H3.out];rfl,aa H.out.2.2.2.2.1 (aa hB kq)⟩
    ·obtain rfl:j=m:=by omega
     have H3:Hid (aw vars rows=true):=by
      show _=_
      have:=HN.out
      rw[List.take_of_length_le (by rw[hm];exact Nat.le_refl _)]at this
      unfold aw
      rw[H2.out,this];rfl
     have HB2:=Lib.hid (aa hB0 hB)
     clear hn hm hv hr hB0 hB HN
     go_wp2
     go_ret
     exact⟨by rw[H3.out];rfl,HB2.out⟩
def StE (wb w w':World):Prop:=KeepT 65 w w'/\Below wb.heap.size w w'
def StS (wb w w':World):Prop:=KeepT 9 w w'/\KeepT 69 w w'/\StE wb w w'
theorem StE.refl (wb w:World):StE wb w w:=⟨KeepT.refl _ _,Below.refl _ _⟩
theorem StS.refl (wb w:World):StS wb w w:=⟨KeepT.refl _ _,KeepT.refl _ _,StE.refl _ _⟩
theorem StE.trans {wb a b c:World} (h:StE wb a b) (k:StE wb b c):StE wb a c:=⟨h.1.trans k.1,h.2.trans k.2⟩
theorem StS.trans {wb a b c:World} (h:StS wb a b) (k:StS wb b c):StS wb a c:=⟨h.1.trans k.1,h.2.1.trans k.2.1,h.2.2.trans k.2.2⟩
theorem StE.below {wb w w':World} (hs:wb.heap.size<=w.heap.size) (h:Below w.heap.size w w'):StE wb w w':=⟨KeepT.below h,h.mono hs⟩
theorem StS.below {wb w w':World} (hs:wb.heap.size<=w.heap.size) (h:Below w.heap.size w w'):StS wb w w':=⟨KeepT.below h,KeepT.below h,StE.below hs h⟩
theorem StS.setRow {wb w:World} {b:Nat} {cur cs:Array Value} {fr:Nat × Nat} (hb:w.heap[b]?=some (Obj.cells cur 39 fr)) (hs:wb.heap.size<=b):StS wb w (w.setRow b cs):=
 ⟨KeepT.setRow hb (by decide),KeepT.setRow hb (by decide),KeepT.setRow hb (by decide),below_setRow (Below.refl _ _) hs _⟩
def fk (wb W:World) (cs:List Value) (r:List Tm):Prop:=∀W',StE wb W W'->RdRow W' cs r
theorem fk.on {wb W W':World} {cs:List Value} {r:List Tm} (h:fk wb W cs r) (hs:StE wb W W'):fk wb W' cs r:=λW2 h2=>h W2 (hs.trans h2)
theorem fk.rd {wb W:World} {cs:List Value} {r:List Tm} (h:fk wb W cs r):RdRow W cs r:=h W (StE.refl _ _)
theorem OwnRow.stays {wb W:World} {base:Nat} {cs:List Value} {r:List Tm} (h:OwnRow base W cs r):fk wb W cs r:=λ_ hs=>(h.keep hs.1).rd
structure dr (wb w:World) (A B:Option Addr) (n c m d:Nat) (vars:List ByteArray) (rows:List (List Tm)):Prop where
 hs:wb.heap.size<=w.heap.size
 hn:vars.length=n
 hm:rows.length=m
 hln:n<=1000000
 hlm:m<=1000000
 hnc:n<=c
 hmd:m<=d
 hz:∀r∈rows,r.length<=1000000
 hv:∀W',StS wb w W'->Rd W' A (vars.map Value.string)
 hr:∃xs,(∀W',StS wb w W'->Rd W' B xs)/\All 1 (fk wb w) xs rows
section
variable {wb w:World} {A B:Option Addr} {n c m d:Nat} {vars:List ByteArray} {rows:List (List Tm)}
theorem dr.on {w':World} (T:dr wb w A B n c m d vars rows) (h:StS wb w w') (hs:wb.heap.size<=w'.heap.size):dr wb w' A B n c m d vars rows:=by
 obtain⟨xs,h1,h2⟩:=T.hr
 exact⟨hs,T.hn,T.hm,T.hln,T.hlm,T.hnc,T.hmd,T.hz,λW' k=>T.hv W' (h.trans k),xs,λW' k=>h1 W' (h.trans k),h2.mono λ_ _ _ x=>x.on h.2.2⟩
theorem dr.later {w':World} (T:dr wb w A B n c m d vars rows) (h:Below w.heap.size w w'):dr wb w' A B n c m d vars rows:=T.on (StS.below T.hs h) (Nat.le_trans T.hs h.size)
theorem dr.at_ (T:dr wb w A B n c m d vars rows):TabAt w A B n c m d vars rows:=by
 obtain⟨xs,h1,h2⟩:=T.hr
 exact⟨T.hn,T.hm,T.hln,T.hlm,T.hnc,T.hv w (StS.refl _ _),⟨xs,h1 w (StS.refl _ _),h2.mono λ_ _ _ x=>x.rd⟩,T.hz⟩
theorem dr.row {k:Nat} {row:List Tm} (T:dr wb w A B n c m d vars rows) (hrow:rows[k]?=some row) :
  ∃g o A' c',B=some ⟨g,o,none⟩/\w.cell? ⟨g,o+k,none⟩=some (.slice A' row.length c')/\fk wb w [.slice A' row.length c'] row/\RdTs w A' row/\row.length<=c':=by
 obtain⟨xs,h1,h2⟩:=T.hr
 obtain⟨g,o,cs,hA,hl,hR,hx⟩:=RdL.at_ (R:=fk wb w) ⟨xs,h1 w (StS.refl _ _),h2⟩ (by omega) hrow
 obtain⟨A',c',rfl,h3,h4⟩:=hR.rd
 have:=hx 0 _ rfl
 rw[Nat.mul_one,Nat.add_zero]at this
 exact⟨g,o,A',c',hA,this,hR,h4,h3⟩
end
def cu (wb:World) (N:Int) (vars:List ByteArray) (rows:List (List Tm)) (w:World) (e:Ending) (w':World):Prop:=∃A c B d,e=.returned (.tuple #[.agg #[.slice A vars.length c,.slice B rows.length d],.int .i64 N])/\Below w.heap.size w w'/\vars.length<=c/\rows.length<=d/\(∀W',StS wb w' W'->Rd W' A (vars.map Value.string))/\∃xs,(∀W',StS wb w' W'->Rd W' B xs)/\All 1 (fk wb w') xs rows
def du (wb w0 W:World) (c0:Array Value) (b:Nat) (va v:Value) (rows:List (List Tm)):Prop:=
 wb.heap.size<=w0.heap.size/\w0.heap.size+2<=b/\W.heap[w0.heap.size]?=some (Obj.cells c0 39 (0,0))/\W.heap[w0.heap.size+1]?=some (Obj.cells #[.slice none 0 0,.slice none 0 0] 39 (0,0))/\W.heap[b]?=some (Obj.cells #[va,v] 39 (0,0))/\Below w0.heap.size w0 W/\∃xs,W.ownsRow w0.heap.size 69 1 v rows.length xs/\All 1 (fk wb W) xs rows
theorem az:(Tryz.prog.info? 39).map (·.size)=some 2:=by kernel_rfl
section
variable {wb w0 W W':World} {c0:Array Value} {b:Nat} {va v:Value} {rows:List (List Tm)}
theorem du.on (H:du wb w0 W c0 b va v rows) (hb:Below W.heap.size W W'):du wb w0 W' c0 b va v rows:=by
 obtain⟨h0,h1,h2,h3,h4,h5,xs,h6,h7⟩:=H
 exact⟨h0,h1,KeepT.below hb _ _ _ h2,KeepT.below hb _ _ _ h3,KeepT.below hb _ _ _ h4,aa h5 hb,xs,own_below h6 hb (Nat.le_refl _),h7.mono λ_ _ _ h=>h.on (StE.below (Nat.le_trans h0 h5.size) hb)⟩
theorem du.step {W2 w6:World} {v':Value} {news:List Value} {more:List (List Tm)} (h00:wb.heap.size<=w0.heap.size) (h0:w0.heap.size+2<=b) (h2:W.heap[w0.heap.size]?=some (Obj.cells c0 39 (0,0))) (h3:W.heap[w0.heap.size+1]?=some (Obj.cells #[.slice none 0 0,.slice none 0 0] 39 (0,0))) (h4:W.heap[b]?=some (Obj.cells #[va,v] 39 (0,0))) (h5:Below w0.heap.size w0 W)
  (hbd:Below W.heap.size W W2) (hw6:KeepT 39 W2 w6) (hk6:KeepT 65 W2 w6) (hb6:Below w0.heap.size W2 w6) (own6:w6.ownsRow w0.heap.size 69 1 v' more.length news) (hall:All 1 (fk wb W) news more) :
  w6.heap[b]?=some (Obj.cells #[va,v] 39 (0,0))/\du wb w0 (w6.setCell ⟨b,1,none⟩ v') c0 b va v' more:=by
 have g2:=hw6 _ _ _ (KeepT.below hbd _ _ _ h2)
 have g3:=hw6 _ _ _ (KeepT.below hbd _ _ _ h3)
 have g4:=hw6 _ _ _ (KeepT.below hbd _ _ _ h4)
 have hs:=h5.size
 have k6:∀e,39≠e->KeepT e w6 (w6.setCell ⟨b,1,none⟩ v'):=λe he=>KeepT.setCell g4 he
 have hB1:Below w0.heap.size W (w6.setCell ⟨b,1,none⟩ v'):=((hbd.mono hs).trans hb6).setCell (p:=⟨b,1,none⟩) (by show _<=b;omega) _
 have hE:StE wb W (w6.setCell ⟨b,1,none⟩ v'):=⟨((KeepT.below hbd).trans hk6).trans (k6 _ (by decide)),hB1.mono h00⟩
 refine⟨g4,h00,h0,?_,?_,?_,h5.trans hB1,news,own_keep own6 (k6 _ (by decide)),hall.mono λ_ _ _ h=>h.on hE⟩
 ·rw[Below.heap_setCell w6 ⟨b,1,none⟩ v' _ (by show _≠b;omega)];exact g2
 ·rw[Below.heap_setCell w6 ⟨b,1,none⟩ v' _ (by show _≠b;omega)];exact g3
 ·have:=aR g4 1 v'
  simpa using this
end
theorem du.fin {wb w0 W:World} {c0:Array Value} {b n c m d:Nat} {A B:Option Addr} {vars:List ByteArray} {rows:List (List Tm)} (H:du wb w0 W c0 b (.slice A n c) (.slice B m d) rows) (hn:vars.length=n) (hm:rows.length=m) (hnc:n<=c) (hv:∀W',StS wb w0 W'->Rd W' A (vars.map Value.string)) :
  cu wb 0 vars rows w0 (.returned (.tuple #[.agg #[.slice A n c,.slice B m d],.int .i64 0])) (W.setRow (w0.heap.size+1) #[.slice A n c,.slice B m d]):=by
 obtain⟨h0,h1,h2,h3,h4,h5,xs,h6,h7⟩:=H
 have hB:Below w0.heap.size w0 (W.setRow (w0.heap.size+1) #[.slice A n c,.slice B m d]):=below_setRow h5 (by omega) _
 have hS:StS wb W (W.setRow (w0.heap.size+1) #[.slice A n c,.slice B m d]):=StS.setRow h3 (by omega)
 have o6:=own_keep h6 hS.2.1
 have hmd:m<=d:=by
  obtain⟨A',c',e1,h8,_⟩:=own_slice o6
  injection e1 with _ e2 e3
  omega
 subst hn
 subst hm
 refine⟨A,c,B,d,rfl,hB,hnc,hmd,λW' k=>hv W' ((StS.below h0 hB).trans k),xs,λW' k=>?_,h7.mono λ_ _ _ h=>h.on hS.2.2⟩
 obtain⟨A',c',e1,_,h9⟩:=own_slice (own_keep o6 k.2.1)
 injection e1 with e1 e2 e3
 rw[e1];exact h9
theorem cu.nothing {wb:World} {N:Int} {w w':World} (h:Below w.heap.size w w'):cu wb N [] [] w (.returned (.tuple #[.agg #[.slice none 0 0,.slice none 0 0],.int .i64 N])) w':=
 ⟨none,0,none,0,rfl,h,Nat.le_refl _,Nat.le_refl _,λ_ _=>Rd.nil _ _,[],λ_ _=>Rd.nil _ _,rfl⟩
theorem di {w W:World} {A B:Option Addr} {n c m d:Nat} (hW:(w.alloc (.cells #[.slice A n c,.slice B m d] 39)).alloc (.cells #[.slice none 0 0,.slice none 0 0] 39)=W) :
  Below w.heap.size w W/\W.heap[w.heap.size]?=some (Obj.cells #[.slice A n c,.slice B m d] 39 (0,0))/\W.heap[w.heap.size+1]?=some (Obj.cells #[.slice none 0 0,.slice none 0 0] 39 (0,0))/\W.heap.size=w.heap.size+2:=by
 subst hW
 exact⟨((Below.refl _ _).alloc (Nat.le_refl _) _).alloc (by simp) _,am _ _ _,ai _ _ _,by simp⟩
theorem oE {wb w0 W W2:World} {c0:Array Value} {va:Value} (h0:wb.heap.size<=w0.heap.size) (h2:W.heap[w0.heap.size]?=some (Obj.cells c0 39 (0,0))) (h3:W.heap[w0.heap.size+1]?=some (Obj.cells #[.slice none 0 0,.slice none 0 0] 39 (0,0))) (h5:Below w0.heap.size w0 W)
  (hW:(W.alloc (.cells #[.slice none 0 0,.slice none 0 0] 39)).setRow W.heap.size #[va,.slice none 0 0]=W2):du wb w0 W2 c0 W.heap.size va (.slice none 0 0) []/\W2.heap.size=W.heap.size+1/\Below W.heap.size W W2:=by
 have hz:w0.heap.size+1<W.heap.size:=(Array.getElem?_eq_some_iff.1 h3).1
 have hb:Below W.heap.size W W2:=by rw[←hW];exact below_setRow ((Below.refl _ _).alloc (Nat.le_refl _) _) (Nat.le_refl _) _
 refine⟨⟨h0,by omega,KeepT.below hb _ _ _ h2,KeepT.below hb _ _ _ h3,?_,aa h5 hb,[],World.ownsRow_nil _ _ _ _,rfl⟩,?_,hb⟩
 ·rw[←hW];exact setRow_heap _ _ _ _ _ (0,0) (heap_alloc_new W _)
 ·rw[←hW];simp[World.setRow]
def marksOf {α:Type} (f:Int->α):List α:=(List.range 12).map λ(j:Nat)=>f (j:Int)
def aG (T:TypeId) (w:World) (g:Nat) (xs:List Value):Prop:=∃cur:Array Value,w.heap[g]?=some (.cells cur T (0,0))/\cur.toList=xs
theorem aG.rd {T:TypeId} {w:World} {g:Nat} {xs:List Value} (h:aG T w g xs):Rd w (some ⟨g,0,none⟩) xs:=by
 obtain⟨cur,h1,h2⟩:=h
 exact Rd.of_block h1 h2
theorem aG.lt {T:TypeId} {w:World} {g:Nat} {xs:List Value} (h:aG T w g xs):g<w.heap.size:=by
 obtain⟨cur,h1,h2⟩:=h
 rcases Nat.lt_or_ge g w.heap.size with hlt|hge
 ·exact hlt
 ·rw[Array.getElem?_eq_none hge]at h1;cases h1
theorem aG.below {T:TypeId} {w w':World} {g:Nat} {xs:List Value} (h:aG T w g xs) {B:Nat} (hb:Below B w w') (hB:g<B):aG T w' g xs:=by
 have hlt:=h.lt
 obtain⟨cur,h1,h2⟩:=h
 exact⟨cur,by rw[hb.block g hB];exact h1,h2⟩
theorem Rd.of_belowL {w w':World} {A:Option Addr} {xs:List Value} (h:Rd w A xs) (hb:Below w.heap.size w w'):Rd w' A xs:=h.below hb (Nat.le_refl _)
theorem aG.of_own {w:World} {base g:Nat} {e:TypeId} {size n:Nat} {xs:List Value} (h:w.ownsRow base e size (.slice (some ⟨g,0,none⟩) n n) n xs):aG e w g xs:=by
 rcases h.2 with ⟨hv,_⟩|⟨g2,cap2,cur,hv,_,hh,_,_,hcs,ht⟩
 ·cases hv
 ·injection hv with hA _ hcap
  injection hA with hA
  injection hA with hA
  subst hA
  subst hcap
  refine⟨cur,hh,?_⟩
  rw[←ht,List.take_of_length_le]
  simp only[Array.length_toList];omega
theorem aL {P:Program} {w:World} {ops:Array Oper} {rest:List Oper} {o:Oper} {a:Act} {Q:Exit->Act->World->Prop} {s x:Operand} {t:TypeId}
  (ho:o.op=.call {callee:=.builtin .append,args:=#[s,x],argTypes:=#[t,t]}) (hgd:o.guard=none)
  {e:TypeId} {z:Value} {size bytes:Nat} (ht:P.underlying t=some (.slice e)) (hinfo:(P.info? e).map (λi=>(i.zero,i.size,i.bytes))=some (some z,size,bytes)) (hsz:0<size)
  {base g k cap:Nat} {xs:List Value} (hs:a.eval s=.slice (some ⟨g,0,none⟩) k cap) (hown:w.ownsRow base e size (.slice (some ⟨g,0,none⟩) k cap) k xs)
  {A:Option Addr} {m c:Nat} {news:List Value} (hx:a.eval x=.slice A m c) (hr:Rd w A news) (hl:news.length=m*size) (h1:∀u∈news,u.oneCell'=true) (hfit:k+m<=cap)
  (h:∀w',w'.ownsRow base e size (.slice (some ⟨g,0,none⟩) (k+m) cap) (k+m) (xs++news)->w.grownBy w' (some g)->wpList P ops Q rest (a.put o.dst (.slice (some ⟨g,0,none⟩) (k+m) cap)) w'):wpList P ops Q (o::rest) a w:=by
 obtain⟨i,hi,hz,hsize,hby⟩:=info_parts hinfo
 rcases hr with rfl|⟨g',off,rfl,hc⟩
 ·have hm:m=0:=by
   rcases Nat.eq_zero_or_pos m with h0|h0
   ·exact h0
   ·have:=Nat.mul_pos h0 hsz
    simp at hl;omega
  subst hm
  rcases A with _|ad
  ·refine wpList_plain hgd λK hK=>?_
   have hrun:(Builtin.append_ #[t,t] o.type #[.slice (some ⟨g,0,none⟩) k cap,.slice none 0 c]).run P w=.ok (.slice (some ⟨g,0,none⟩) k cap) w:=by
    rcases hown.2 with ⟨hv,_⟩|⟨g2,cap2,cur,hv,_,_,hnc,_⟩
    ·cases hv
    ·injection hv with _ _ hcap
     subst hcap
     simp[Builtin.append_,run_underlying ht,sizeOf,typeInfo,hi,Builtin.lenOf,Builtin.firstCells,hnc,storeCells]
   unfold Oper.wp execOp
   simp only[ho,resolve,invoke,builtin,Sem.run_bind,Sem.run_pure,Result.andThen_ok,List.map_toArray,List.map_cons,List.map_nil,hs,hx,hrun]
   exact hK _ _ (h w (by simpa using hown) (World.grownBy.refl _ _))
  ·exact wpList_append_fits w hgd s x t ho base e i size ht hi hsize g k cap xs hs hown ad 0 c [] hx hl (by simp) (by simp) hfit h
 ·exact wpList_append_fits w hgd s x t ho base e i size ht hi hsize g k cap xs hs hown ⟨g',off,none⟩ m c news hx hl (λj u hu=>by rw[bU];exact hc j u hu) h1 hfit h
theorem kc {α:Type} (f:Int->α) (k:Nat) (h:k<12):(marksOf f)[k]?=some (f (k:Int)):=by
 simp[marksOf,List.getElem?_range h]
theorem iP {α:Type} (f:Int->α) (l:List α) (k:Nat) (h:l.length<=k) (h2:k<l.length+12):(l++marksOf f)[k]?=some (f ((k:Int)-l.length)):=by
 rw[List.getElem?_append_right h,kc f _ (by omega)]
 rw[show ((k-l.length:Nat):Int)=(k:Int)-l.length by omega]
theorem lP (i:Int) (w:World) (h0:0<=i) (h1:i<=1000000) :
  Calls Tryz.prog 91 #[.int .i64 1,.int .i64 i] w λe w'=>e=.returned (.int .i64 (8000024+i))/\w=w':=by
 go_enter Tryz.func91,Tryz.ntmps91
 go_wp2
 go_ret
 exact⟨by simp;try omega,rfl⟩
theorem yK (i:Int) (w:World) (h0:0<=i) (h1:i<=1000000) :
  Calls Tryz.prog 91 #[.int .i64 2,.int .i64 i] w λe w'=>(∃m:Int,e=.returned (.int .i64 m))/\w=w':=by
 go_enter Tryz.func91,Tryz.ntmps91
 go_wp2
 go_ret
 exact⟨⟨_,rfl⟩,rfl⟩
theorem wZ:(Tryz.prog.info? 65).map (·.size)=some 4:=by kernel_rfl
theorem B8 (i:Int) (w:World) (h0:0<=i) (h1:i<=1000000) :
  Calls Tryz.prog 62 #[.int .i64 2,.int .i64 i] w λe w'=>(∃s:Int,e=.returned (.agg #[.int .i64 s,.string ⟨#[]⟩,.string ⟨#[]⟩,.string ⟨#[]⟩]))/\Below w.heap.size w w':=by
 have hm:=λW=>yK i W h0 h1
 go_enter Tryz.func62,Tryz.ntmps62
 go_wp2_with (refine(hm _).mono ?_;rintro e w3 ⟨⟨v,rfl⟩,rfl⟩)
 exact bodyPost_ret (v:=.agg #[.int .i64 v,.string ⟨#[]⟩,.string ⟨#[]⟩,.string ⟨#[]⟩]) (by simp[results,Tryz.results62,go_sem]) rfl ⟨⟨_,rfl⟩,blw⟩
def bO (w:World) (g m:Nat):Prop:=∃cur:Array Value,w.heap[g]?=some (.cells cur 65 (0,0))/\m<=cur.size
theorem bO.lt {w:World} {g m:Nat} (h:bO w g m):g<w.heap.size:=by
 obtain⟨cur,h1,_⟩:=h
 exact(Array.getElem?_eq_some_iff.1 h1).1
theorem bO.below {w w':World} {g m:Nat} (h:bO w g m) (hb:Below w.heap.size w w'):bO w' g m:=by
 have hlt:=h.lt
 obtain⟨cur,h1,h2⟩:=h
 exact⟨cur,by rw[hb.block g hlt];exact h1,h2⟩
theorem bO.set {w:World} {g k m o:Nat} {vs:List Value} (h:bO w g m):bO (w.setCells k o vs) g m:=by
 obtain⟨cur,h1,h2⟩:=h
 by_cases hk:k=g
 ·subst hk
  exact⟨_,eL _ _ _ _ _ _ _ h1,by rw[lp];exact h2⟩
 ·exact⟨cur,by rw[bA hk];exact h1,h2⟩
theorem bO.there {w:World} {g m o n:Nat} (h:bO w g m) (hn:o+n<=m):w.there g o n:=λj hj=>by
 obtain⟨cur,h1,h2⟩:=h
 exact⟨by rw[Lib.cell_of_heap h1,Array.getElem?_eq_getElem (by omega)];rfl,Lib.frozen_of_heap h1 _⟩
theorem bO.of_own {w:World} {base g n cap:Nat} {xs:List Value} (h:w.ownsRow base 65 4 (.slice (some ⟨g,0,none⟩) n cap) n xs):bO w g (cap*4)/\base<=g:=by
 rcases h.2 with ⟨hv,_⟩|⟨g2,cap2,cur,hv,hb,hh,_,_,hcs,ht⟩
 ·cases hv
 ·injection hv with hA _ hcap
  injection hA with hA
  injection hA with hA
  subst hA
  subst hcap
  exact⟨⟨cur,hh,by omega⟩,hb⟩
def Shape (base:Nat) (w w':World):Prop:=Below base w w'/\KeepT 69 w w'/\(KeepT 25 w w'/\KeepT 39 w w')/\∀g m,bO w g m->bO w' g m
theorem Shape.refl (base:Nat) (w:World):Shape base w w:=⟨Below.refl _ _,KeepT.refl _ _,⟨KeepT.refl _ _,KeepT.refl _ _⟩,λ_ _ h=>h⟩
theorem Shape.trans {base:Nat} {a b c:World} (h:Shape base a b) (k:Shape base b c):Shape base a c:=⟨h.1.trans k.1,h.2.1.trans k.2.1,⟨h.2.2.1.1.trans k.2.2.1.1,h.2.2.1.2.trans k.2.2.1.2⟩,λg m x=>k.2.2.2 g m (h.2.2.2 g m x)⟩
theorem Shape.below {base:Nat} {w w':World} (hb:base<=w.heap.size) (h:Below w.heap.size w w'):Shape base w w':=⟨h.mono hb,KeepT.below h,⟨KeepT.below h,KeepT.below h⟩,λ_ _ x=>x.below h⟩
theorem Shape.set {base:Nat} {w:World} {g m o:Nat} {vs:List Value} (hb:base<=g) (h:bO w g m):Shape base w (w.setCells g o vs):=by
 obtain⟨cur,h1,_⟩:=h
 have hk:∀e,65≠e->KeepT e w (w.setCells g o vs):=λe he k c fr x=>by
  rw[bA (λhh=>by
   subst hh
   rw[h1]at x
   injection x with x
   injection x with _ e2 _
   exact he e2)]
  exact x
 exact⟨below_setCells hb _ _ _,hk _ (by decide),⟨hk _ (by decide),hk _ (by decide)⟩,λ_ _ x=>x.set⟩
theorem ko {w:World} {ops:Array Oper} {rest:List Oper} {op:Oper} {a:Act} {Q:Exit->Act->World->Prop} (hgd:op.guard=none) (x y:Operand) (ho:op.op=.store 65 x y)
  (g k:Nat) (t:Tm) (hx:a.eval x=.pointer (some ⟨g,k*4,none⟩)) (hy:a.eval y=.agg #[.int .i64 t.k,.string t.x,.string t.l,.string t.y]) (ht:w.there g (k*4) 4)
  (h:wpList Tryz.prog ops Q rest (a.put op.dst undef) (w.setCells g (k*4) [.int .i64 t.k,.string t.x,.string t.l,.string t.y])):wpList Tryz.prog ops Q (op::rest) a w:=
 wpList_store_mid hgd 65 x y ho g (k*4) #[.int .i64 t.k,.string t.x,.string t.l,.string t.y] hx hy ht wZ (by simp[Value.oneCell']) h
def C0 (p:Prop):Prop:=p
theorem Dh {p:Prop} (h:C0 p):p:=h
theorem vt (base g n cap:Nat) (w:World) (hH:bO w g (cap*4)) (hb:base<=g) (hn:n<=900000) (hc:n<=cap) (hc2:cap<=9223372036854775807) :
  Calls Tryz.prog 47 #[.slice (some ⟨g,0,none⟩) n cap] w λe w'=>(∃v,e=.returned v)/\Shape base w w':=by
 have hlt0:=hH.lt
 go_enter Tryz.func47,Tryz.ntmps47
 go_wp2
 obtain⟨m,hm⟩:∃m:Nat,m=min cap (n+12):=⟨_,rfl⟩
 have hmin:min (cap:Int) ((n:Int)+12)=(m:Int):=by omega
 simp only[hmin,Int.toNat_natCast]
 have hm1:m<=cap:=by omega
 have hm2:m<=n+12:=by omega
 clear hm hmin
 go_loopw [3] (λi wr=>∃k:Nat,k<=m/\i=.int .i64 k/\Hid (Shape base w wr)/\bO wr g (cap*4)) (λi _=>m-(intOf i).toNat)
 case atStart=>exact⟨0,by omega,rfl,Shape.refl _ _,hH⟩
 case round =>
  obtain⟨k,hk,rfl,HS,hH⟩:=hrel
  have hsz:=HS.out.1.size
  by_cases hlt:k<m
  ·have hmk:=λW=>B8 (k:Int) W (by omega) (by omega)
   go_wp2_with fail
   refine(hmk _).mono ?_
   rintro e w3 ⟨⟨s,rfl⟩,hb3⟩
   have hH3:=hH.below hb3
   have hth:=hH3.there (o:=k*4) (n:=4) (by omega)
   have HH:=Lib.hid hH3
   have HS3:=Lib.hid (HS.out.trans (Shape.below (by omega) hb3))
   clear hH hH3 hb3
   go_wp2_with (with_reducible refine(?_:wpList _ _ _ (_::[]) _ _);with_reducible refine Dh ?_)
   unfold C0
   with_reducible refine ko ?gd ?px ?py ?ho g k ⟨s,⟨#[]⟩,⟨#[]⟩,⟨#[]⟩⟩ ?hx ?hy ?ht ?hh
   case ho=>rfl
   case gd=>rfl
   case hx=>rfl
   case hy=>rfl
   case ht=>exact hth
   go_wp2
   go_roundw
   case rel=>exact⟨k+1,by omega,by go_num,HS3.out.trans (Shape.set hb HH.out),HH.out.set⟩
   case measure=>simp[intOf];omega
  ·go_wp2
   ((try simp only[Exit.inBlock,Exit.then]);refine Go.Great.bodyPost_end0 rfl rfl ?_)
   exact⟨⟨_,rfl⟩,HS.out⟩
theorem vu (base:Nat) (w:World):Calls Tryz.prog 47 #[.slice none 0 0] w λe w'=>(∃v,e=.returned v)/\Shape base w w':=by
 go_enter Tryz.func47,Tryz.ntmps47
 go_wp2
 simp only[show min (0:Int) 12=0 by decide,show (0:Int).toNat=0 from rfl]
 go_loopw [3] (λi wr=>i=.int .i64 0/\wr=w) (λ_ _=>0)
 case atStart=>exact⟨rfl,rfl⟩
 case round =>
  obtain⟨rfl,rfl⟩:=hrel
  go_wp2
  ((try simp only[Exit.inBlock,Exit.then]);refine Go.Great.bodyPost_end0 rfl rfl ?_)
  exact⟨⟨_,rfl⟩,Shape.refl _ _⟩
def mu (base:Nat) (w:World) (cs:List Value) (n:Nat):Prop:=cs=[.slice none 0 0]∨∃g cap,cs=[.slice (some ⟨g,0,none⟩) n cap]/\base<=g/\n<=cap/\cap<=9223372036854775807/\bO w g (cap*4)
theorem mu.on {base:Nat} {w w':World} {cs:List Value} {n:Nat} (h:mu base w cs n) (hs:Shape base w w'):mu base w' cs n:=by
 rcases h with h|⟨g,cap,h1,h2,h3,h4,h5⟩
 ·exact .inl h
 ·exact .inr ⟨g,cap,h1,h2,h3,h4,hs.2.2.2 _ _ h5⟩
theorem OwnRow.sh {base:Nat} {w:World} {cs:List Value} {r:List Tm} (h:OwnRow base w cs r):mu base w cs r.length:=by
 obtain⟨v,rfl,h1⟩:=h
 have h0:=h1
 rcases h0.2 with ⟨rfl,hx⟩|⟨g,cap,cur,rfl,hg,hh,hle,hcap,hcs,ht⟩
 ·exact .inl rfl
 ·obtain⟨hH,hb⟩:=bO.of_own h1
  exact .inr ⟨g,cap,rfl,hb,hle,by simpa[maxLen] using hcap,hH⟩
theorem iz (a b:Tm) (W:World):(binOp .neq 65 (.agg #[.int .i64 a.k,.string a.x,.string a.l,.string a.y]) (.agg #[.int .i64 b.k,.string b.x,.string b.l,.string b.y])).run Tryz.prog W=.ok (.bool (!bg a b)) W:=by
 have h0:=Tryz.underlying65
 have h1:=Tryz.underlying63
 have h2:=Tryz.underlying9
 unfold bg
 simp only[go_sem,h0]
 cases e1:(a.k == b.k)
 ·simp[go_sem,h0,h1,h2,e1]
 cases e2:(a.x.toList == b.x.toList)
 ·simp[go_sem,h0,h1,h2,e1,e2]
 cases e3:(a.l.toList == b.l.toList)
 ·simp[go_sem,h0,h1,h2,e1,e2,e3]
 cases e4:(a.y.toList == b.y.toList)
 ·simp[go_sem,h0,h1,h2,e1,e2,e3,e4]
 simp[go_sem,h0,h1,h2,e1,e2,e3,e4]
end Go.Proofs.YtjldjeenfnahoaaGreatDoor
