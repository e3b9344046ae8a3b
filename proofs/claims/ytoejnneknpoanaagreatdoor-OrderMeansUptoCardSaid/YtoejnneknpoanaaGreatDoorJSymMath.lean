/- The program's package order, walked: (*worker).once, distinc -/
import Derived.Test.YtoejnneknpoanaaGreatDoorJOrd5
namespace Go.Proofs.YtoejnneknpoanaaGreatDoor
open Go Go.RowKit Fm Tx Om Mp
def keyRow (r:List Tm):Prop:=r.length<=1000000/\∀t∈r,keyTm t
def StepR (W0:World) (b:Nat) (vars:List ByteArray) (rows:List (List Tm)) (qc:List Value) (n:Int) (e:Ending) (w':World):Prop:=
 e=.returned (.int .i64 n)/\WkAt W0.heap.size w' b vars rows qc/\Below W0.heap.size W0 w'
theorem WkAt.on {base b:Nat} {w w':World} {vars:List ByteArray} {rows:List (List Tm)} {qc:List Value} (h:WkAt base w b vars rows qc) (hb:Below w.heap.size w w'):WkAt base w' b vars rows qc:=by
 obtain⟨h0,va,vr,h1,h2,h3⟩:=h
 exact⟨h0,va,vr,KeepT.below hb _ _ _ h1,own_keep h2 (KeepT.below hb),h3.keep (KeepT.below hb) (KeepT.below hb)⟩
theorem wk_rows {base b:Nat} {W:World} {va vr vr':Value} {vars:List ByteArray} {rows:List (List Tm)} {qc:List Value} (hb:base<=b) (h1:W.heap[b]?=some (Obj.cells (va::vr::qc).toArray 110 (0,0))) (h2:W.ownsRow base 9 1 va vars.length (vars.map Value.string)) (h3:OwnRs base W vr' rows) :
  WkAt base (W.setCell ⟨b,1,none⟩ vr') b vars rows qc:=by
 have hk:∀e,110≠e->KeepT e W (W.setCell ⟨b,1,none⟩ vr'):=λe he=>KeepT.setCell h1 he
 refine⟨hb,va,vr',?_,own_keep h2 (hk _ (by decide)),h3.keep (hk _ (by decide)) (hk _ (by decide))⟩
 have:=heap_setCell_at h1 1 vr'
 simpa using this
set_option maxHeartbeats 8000000 in
set_option maxRecDepth 100000 in
theorem ordOnce (W0:World) (hP:PowV W0) (b:Nat) (vars:List ByteArray) (rows:List (List Tm)) (qc:List Value) (w:World) (hB:Below W0.heap.size W0 w) (hW:WkAt W0.heap.size w b vars rows qc) (hz:∀r∈rows,keyRow r) (hl:rows.length<=1000000) :
  Calls Tryz.prog 61 #[.pointer (some ⟨b,0,none⟩)] w (StepR W0 b vars (onceL rows) qc 0):=by
 have eg:∀args w,(callFunc 99 args).run Tryz.prog w=.ok (.enter 99 args) w:=enters_of Tryz.func99 (by kernel_rfl) rfl
 have hmm:=@run_makeMap Tryz.prog
 obtain⟨hbb,va,vr,hblk,hva,xs,hown,hall⟩:=hW
 obtain⟨n,hn⟩:∃n,rows.length=n:=⟨_,rfl⟩
 rw[hn]at hown hl
 have hlt:b<w.heap.size:=(Array.getElem?_eq_some_iff.1 hblk).1
 rcases RowV.of_own hown with ⟨rfl,rfl,rfl⟩|⟨g,cap,rest,rfl,hbg,hV,hnc,hcm,hxn,hrc⟩
 ·obtain rfl:rows=[]:=List.eq_nil_of_length_eq_zero hn
  have c1:w.cell? ⟨b,1,none⟩=some (.slice none 0 0):=by simp[World.cell?,hblk]
  have f1:w.frozen? ⟨b,1,none⟩=false:=by simp[World.frozen?,hblk]
  have H:=Lib.hid (And.intro hbb (And.intro hblk (And.intro hva (And.intro hown hB))))
  have hD:=λmb W=>delNone 99 #[.pointer (some ⟨mb,0,none⟩)] eg W
  clear hbb hblk hva hown hB hall hn hz hP
  go_enter Tryz.func61,Tryz.ntmps61
  go_wp2_with (go_at_call 87;refine(hD _ _).mono ?_;rintro e w1 ⟨rfl,rfl⟩)
  have hF:WkAt W0.heap.size (w.setCell ⟨b,1,none⟩ (.slice none 0 0)) b vars (onceL []) qc:=wk_rows H.out.1 H.out.2.1 H.out.2.2.1 (OwnRs.nil _ _)
  have HF:=Lib.hid hF
  have hbb:=H.out.1
  have hsz:=H.out.2.2.2.2.size
  clear hF
  go_ret
  refine⟨rfl,(HF.out.on ((Below.refl _ _).alloc (Nat.le_refl _) _)).on ((Below.refl _ _).alloc (Nat.le_refl _) _),?_⟩
  exact((H.out.2.2.2.2.setCell (p:=⟨b,1,none⟩) hbb _).alloc (by simpa using hsz) _).alloc (by simp;omega) _
 ·have c1:w.cell? ⟨b,1,none⟩=some (.slice (some ⟨g,0,none⟩) n cap):=by simp[World.cell?,hblk]
  have hal:Below w.heap.size w ((w.alloc (.map #[] 0)).alloc (.cells #[.map (some w.heap.size)] 137)):=blw
  have hglt:=hV.lt
  have hS0:OnceS W0 b g w.heap.size (w.heap.size+1) va (.slice (some ⟨g,0,none⟩) n cap) vars qc xs rows 0 ((w.alloc (.map #[] 0)).alloc (.cells #[.map (some w.heap.size)] 137)):=by
   refine⟨[],?_,?_,λx=>⟨by simp[lookI],by simp[lookI],by simp[lookI]⟩,WkG.on ⟨hblk,hva,hall,_,hV⟩ hal,hB.trans (hal.mono hB.size)⟩
   ·exact heap_two_1 w _ _
   ·exact heap_two_2 w _ _
  have hD:=delRows 99 #[.pointer (some ⟨w.heap.size+1,0,none⟩)] eg (λk=>((rows[k]?).map λq=>decide (q∈rows.take k)).getD false) (OnceS W0 b g w.heap.size (w.heap.size+1) va (.slice (some ⟨g,0,none⟩) n cap) vars qc xs rows) rows xs rest g n cap rest.length _ hn hxn rfl (by omega) hnc
   (λk W h=>by
    obtain⟨m,_,_,_,hG,_⟩:=h
    exact hG.2.2.1.mono λ_ _ _ x=>x.rd)
   (λk W i v h=>by
    obtain⟨m,h1,h2,h3,h4,h5⟩:=h
    obtain⟨cur,h6⟩:=h4.2.2.2
    have hne:g≠w.heap.size:=by omega
    refine⟨m,?_,KeepT.setCell h6 (by decide) _ _ _ h2,h3,h4.setCell i v,h5.setCell (p:=⟨g,i,none⟩) hbg _⟩
    unfold CntOf
    rw[Below.heap_setCell _ _ _ _ (λe=>hne e.symm)];exact h1)
   (λk W o us h=>by
    obtain⟨m,h1,h2,h3,h4,h5⟩:=h
    have hne:g≠w.heap.size:=by omega
    have hne2:g≠w.heap.size+1:=by omega
    refine⟨m,?_,?_,h3,h4.setCells us o,h5.trans (below_setCells hbg us o W)⟩
    ·unfold CntOf
     rw[heap_setCells_ne hne];exact h1
    ·rw[heap_setCells_ne hne2];exact h2)
   (λk row W A' c' us hrow h hU hle hrd=>by
    obtain⟨m,h1,h2,h3,h4,h5⟩:=h
    have hzr:=hz row (List.mem_of_getElem? hrow)
    have hk:k<n:=by rw[←hn];exact(List.getElem?_eq_some_iff.1 hrow).1
    refine(ordOnce1 row A' c' row.length w.heap.size m (w.heap.size+1) W rfl hzr.1 (hP.step h5) hrd hzr.2 (by rw[Lib.cell_of_heap h2];rfl) h1 ⟨(h3 _).1,by have:=(h3 (keyB row)).2.1;omega⟩ (by omega)).mono ?_
    rintro e W' ⟨rfl,w2,hb2,rfl⟩
    have hM2:=h1.on hb2
    have hrr:=lt_of_cnt hM2
    refine⟨?_,⟨_,putM_cnt hrr _,?_,once_counts hrow h3,(h4.on hb2).putM hM2 _,?_⟩,?_⟩
    ·congr 2
     rw[hrow]
     show decide _=decide _
     rw[decide_eq_decide,(h3 (keyB row)).2.2]
     exact⟨λ⟨q,hq,he⟩=>(keyB_inj he) ▸ hq,λhq=>⟨row,hq,rfl⟩⟩
    ·exact KeepT.putM _ _ _ _ hM2 _ _ _ _ (KeepT.below hb2 _ _ _ h2)
    ·exact(h5.trans (hb2.mono h5.size)).grown (putM_grown _ _ _) (by have:=hb2.size;have:=h5.size;omega) (λq e=>by injection e with e;have:=hB.size;omega)
    ·exact KeepT.putM _ _ _ _ hM2 _ _ _ _ (KeepT.below hb2 _ _ _ hU))
   hS0 (KeepT.below hal _ _ _ hV)
  have hko:=kept_once (b:=λk=>((rows[k]?).map λq=>decide (q∈rows.take k)).getD false) (l:=rows) (λk x hx=>by simp[hx]) n (by omega)
  rw[List.take_of_length_le (by omega)]at hko
  have H:=Lib.hid (And.intro hbb (And.intro hcm (And.intro hrc (And.intro hbg (And.intro hko hn)))))
  clear hbb hblk hva hown hB hall hn hz hP hS0 hV hcm hrc hko hal hxn
  go_enter Tryz.func61,Tryz.ntmps61
  go_wp2_with fail
  refine hD.mono ?_
  rintro e w9 ⟨rest',rfl,hV',hlen,hS⟩
  obtain⟨m,_,_,_,hG,hB9⟩:=hS
  have c9:w9.cell? ⟨b,1,none⟩=some (.slice (some ⟨g,0,none⟩) n cap):=by simp[World.cell?,hG.1]
  have f9:w9.frozen? ⟨b,1,none⟩=false:=by simp[World.frozen?,hG.1]
  have hko:=H.out.2.2.2.2.1
  have hall:=hG.2.2.1.kept (b:=λk=>((rows[k]?).map λq=>decide (q∈rows.take k)).getD false) n (by rw[H.out.2.2.2.2.2];exact Nat.le_refl _)
  rw[hko]at hall
  generalize keptL (λk=>((rows[k]?).map λq=>decide (q∈rows.take k)).getD false) xs n=ys at *
  have hyl:=hall.len
  obtain⟨n2,hn2⟩:∃n2,ys.length=n2:=⟨_,rfl⟩
  rw[hn2]at hlen hyl ⊢
  have hrs:OwnRs W0.heap.size w9 (.slice (some ⟨g,0,none⟩) n2 cap) (onceL rows):=⟨ys,by rw[show (onceL rows).length=n2 by omega];exact hV'.own hbg hn2 (by have:=H.out.2.2.1;omega) H.out.2.1,hall⟩
  have HF:Hid (StepR W0 b vars (onceL rows) qc 0 (.returned (.int .i64 0)) (w9.setCell ⟨b,1,none⟩ (.slice (some ⟨g,0,none⟩) n2 cap))):=
   ⟨rfl,wk_rows H.out.1 hG.1 hG.2.1 hrs,hB9.setCell (p:=⟨b,1,none⟩) H.out.1 _⟩
  clear hV' hlen hG hB9 hko hall hyl hrs hn2 hD c1
  go_wp2
  go_ret
  exact HF.out
theorem ordDistinct (W0:World) (hP:PowV W0) (b:Nat) (vars:List ByteArray) (rows:List (List Tm)) (dist:Bool) (q0:Value) (qr:List Value) (w:World) (hB:Below W0.heap.size W0 w) (hW:WkAt W0.heap.size w b vars rows (q0 :: .bool dist::qr)) (hz:∀r∈rows,keyRow r) (hl:rows.length<=1000000) :
  Calls Tryz.prog 75 #[.pointer (some ⟨b,0,none⟩)] w (StepR W0 b vars (if dist then onceL rows else rows) (q0 :: .bool dist::qr) 0):=by
 have hO:=ordOnce W0 hP b vars rows _ w hB hW hz hl
 have c3:w.cell? ⟨b,3,none⟩=some (.bool dist):=by
  obtain⟨_,va,vr,h1,_⟩:=hW
  simp[World.cell?,h1]
 have H:=Lib.hid (And.intro hW hB)
 clear hW hB hP hz
 cases dist
 ·go_enter Tryz.func75,Tryz.ntmps75
  go_wp2
  go_ret
  exact⟨rfl,H.out⟩
 ·go_enter Tryz.func75,Tryz.ntmps75
  go_wp2_with (go_at_call 61;refine hO.mono ?_;rintro e w1 ⟨rfl,h1⟩;have H1:=Lib.hid h1;clear h1 hO)
  go_ret
  exact⟨rfl,H1.out⟩
open Go.Sort
namespace Sy
variable {α:Type} [Inhabited α] {lt:α->α->Bool}
def Ex (d D:Array α) (a b n:Nat):Prop:=
 D.size=d.size/\(∀k,a<=k->k<a+n->D[k]! = d[k+(b-a)]!)/\(∀k,b<=k->k<b+n->D[k]! = d[k-(b-a)]!) /\
  ∀k,(k<a∨a+n<=k)->(k<b∨b+n<=k)->D[k]! = d[k]!
theorem ex_zero (d:Array α) (a b:Nat):Ex d d a b 0:=
 ⟨rfl,λ_ _ _=>by omega,λ_ _ _=>by omega,λ_ _ _=>rfl⟩
theorem ex_step {d D:Array α} {a b n:Nat} (h:Ex d D a b n) (hab:a+n<b) (hb:b+n<d.size) :
  Ex d (swp D (a+n) (b+n)) a b (n+1):=by
 obtain⟨h0,h1,h2,h3⟩:=h
 have g:=swp_get D (show a+n<D.size by omega) (show b+n<D.size by omega)
 refine⟨by rw[swp_size,h0],λk k1 k2=>?_,λk k1 k2=>?_,λk k1 k2=>?_⟩
 ·rw[g]
  by_cases e:k=a+n
  ·subst e
   rw[if_neg (by omega),if_pos rfl,h3 _ (by omega) (by omega),show a+n+(b-a)=b+n by omega]
  ·rw[if_neg (by omega),if_neg e,h1 k k1 (by omega)]
 ·rw[g]
  by_cases e:k=b+n
  ·subst e
   rw[if_pos rfl,h3 _ (by omega) (by omega),show b+n-(b-a)=a+n by omega]
  ·rw[if_neg e,if_neg (by omega),h2 k k1 (by omega)]
 ·rw[g,if_neg (by omega),if_neg (by omega),h3 k (by omega) (by omega)]
def Rot (d D:Array α) (s m e:Nat):Prop:=
 D.size=d.size/\(∀k,s<=k->k<s+(e-m)->D[k]! = d[k+(m-s)]!)/\(∀k,s+(e-m)<=k->k<e->D[k]! = d[k-(e-m)]!) /\
  ∀k,k<s∨e<=k->D[k]! = d[k]!
theorem rot_none {d:Array α} {s m e:Nat} (h:s=m∨m=e) (h1:s<=m) (h2:m<=e):Rot d d s m e:=by
 refine⟨rfl,λk k1 k2=>?_,λk k1 k2=>?_,λ_ _=>rfl⟩
 ·rw[show k+(m-s)=k by omega]
 ·rw[show k-(e-m)=k by omega]
theorem rot_same {d D:Array α} {m i:Nat} (hi:i<=m) (h:Ex d D (m-i) m i):Rot d D (m-i) m (m+i):=by
 obtain⟨h0,h1,h2,h3⟩:=h
 refine⟨h0,λk k1 k2=>h1 k k1 (by omega),λk k1 k2=>?_,λk k1=>h3 k (by omega) (by omega)⟩
 rw[h2 k (by omega) k2,show k-(m+i-m)=k-(m-(m-i)) by omega]
theorem rot_left {d d1 D:Array α} {m i j:Nat} (hi:i<=m) (hj:j<i) (h:Ex d d1 (m-i) m j) (h':Rot d1 D (m-(i-j)) m (m+j)) :
  Rot d D (m-i) m (m+j):=by
 obtain⟨h0,h1,h2,h3⟩:=h
 obtain⟨r0,r1,r2,r3⟩:=h'
 refine⟨by omega,λk k1 k2=>?_,λk k1 k2=>?_,λk k1=>?_⟩
 ·rw[r3 k (by omega),h1 k k1 (by omega)]
 ·by_cases e:k<m-(i-j)+(m+j-m)
  ·rw[r1 k (by omega) e,h2 _ (by omega) (by omega)]
   congr 1
   omega
  ·rw[r2 k (by omega) k2,h3 _ (by omega) (by omega)]
 ·rw[r3 k (by omega),h3 k (by omega) (by omega)]
theorem rot_right {d d1 D:Array α} {m i j:Nat} (hi:i<=m) (hj:i<j) (h:Ex d d1 (m-i) (m+j-i) i) (h':Rot d1 D (m-i) m (m+(j-i))) :
  Rot d D (m-i) m (m+j):=by
 obtain⟨h0,h1,h2,h3⟩:=h
 obtain⟨r0,r1,r2,r3⟩:=h'
 refine⟨by omega,λk k1 k2=>?_,λk k1 k2=>?_,λk k1=>?_⟩
 ·by_cases e:k<m-i+(m+(j-i)-m)
  ·rw[r1 k k1 e]
   exact h3 _ (by omega) (by omega)
  ·rw[r2 k (by omega) (by omega),h1 _ (by omega) (by omega)]
   congr 1
   omega
 ·rw[r3 k (by omega),h2 k (by omega) (by omega)]
  congr 1
  omega
 ·rw[r3 k (by omega),h3 k (by omega) (by omega)]
theorem one_left (hS:SWO lt) {d D:Array α} {a b i:Nat} (hs:SortedIn lt (a+1) b d) (h1:a+1<=i) (h2:i<=b)
  (f1:i=a+1∨lt d[i-1]! d[a]! = true) (f2:i=b∨lt d[i]! d[a]! = false) (h:Rot d D a (a+1) i):SortedIn lt a b D:=by
 obtain⟨r0,r1,r2,r3⟩:=h
 intro p q k1 k2 k3
 by_cases c1:q<i-1
 ·rw[r1 q (by omega) (by omega),r1 p k1 (by omega)]
  exact hs _ _ (by omega) (by omega) (by omega)
 by_cases c2:q=i-1
 ·rw[r2 q (by omega) (by omega),r1 p k1 (by omega),show q-(i-(a+1))=a by omega,show p+(a+1-a)=p+1 by omega]
  cases hl:lt d[a]! d[p+1]! with
  | false=>rfl
  | true =>
   rcases f1 with f1|f1
   ·omega
   ·have t:=hS.trans _ _ _ f1 hl
    by_cases e:p+1=i-1
    ·rw[←e,hS.irrefl]at t
     cases t
    ·rw[hs (p+1) (i-1) (by omega) (by omega) (by omega)]at t
     cases t
 rw[r3 q (by omega)]
 by_cases c3:p<i-1
 ·rw[r1 p k1 (by omega)]
  exact hs _ _ (by omega) (by omega) k3
 by_cases c4:p=i-1
 ·rw[r2 p (by omega) (by omega),show p-(i-(a+1))=a by omega]
  rcases f2 with f2|f2
  ·omega
  ·by_cases e:q=i
   ·rw[e]
    exact f2
   ·exact hS.ntrans _ _ _ (hs i q (by omega) (by omega) k3) f2
 rw[r3 p (by omega)]
 exact hs _ _ (by omega) k2 k3
theorem one_right (hS:SWO lt) {d D:Array α} {a m i:Nat} (hs:SortedIn lt a m d) (h1:a<=i) (h2:i<=m)
  (f1:i=a∨lt d[m]! d[i-1]! = false) (f2:i=m∨lt d[m]! d[i]! = true) (h:Rot d D i m (m+1)):SortedIn lt a (m+1) D:=by
 obtain⟨r0,r1,r2,r3⟩:=h
 intro p q k1 k2 k3
 by_cases c1:q<i
 ·rw[r3 q (by omega),r3 p (by omega)]
  exact hs _ _ k1 k2 (by omega)
 by_cases c2:q=i
 ·rw[r1 q (by omega) (by omega),r3 p (by omega),show q+(m-i)=m by omega]
  rcases f1 with f1|f1
  ·omega
  ·by_cases e:p=i-1
   ·rw[e]
    exact f1
   ·exact hS.ntrans _ _ _ f1 (hs p (i-1) k1 (by omega) (by omega))
 rw[r2 q (by omega) k3]
 by_cases c3:p<i
 ·rw[r3 p (by omega)]
  exact hs _ _ k1 (by omega) (by omega)
 by_cases c4:p=i
 ·rw[r1 p (by omega) (by omega),show p+(m-i)=m by omega]
  have asm:lt d[i]! d[m]! = false:=by
   rcases f2 with f2|f2
   ·omega
   ·exact hS.asymmA f2
  by_cases e:q-(m+1-m)=i
  ·rw[e]
   exact asm
  ·exact hS.ntrans _ _ _ (hs i _ h1 (by omega) (by omega)) asm
 rw[r2 p (by omega) (by omega)]
 exact hs _ _ (by omega) (by omega) (by omega)
theorem sym_parts (hS:SWO lt) {d D:Array α} {a s mid m e b:Nat} (hl:SortedIn lt a m d) (hr:SortedIn lt m b d)
  (h1:a<=s) (h2:s<=m) (h3:m<=e) (h4:e<=b) (hm:s+(e-m)=mid)
  (f1:s=a∨e=b∨lt d[e]! d[s-1]! = false) (f2:s=m∨e=m∨lt d[e-1]! d[s]! = true) (h:Rot d D s m e) :
  SortedIn lt a s D/\SortedIn lt s mid D/\SortedIn lt mid e D/\SortedIn lt e b D /\
   ∀p q,a<=p->p<mid->mid<=q->q<b->lt D[q]! D[p]! = false:=by
 obtain⟨r0,r1,r2,r3⟩:=h
 refine⟨λp q k1 k2 k3=>?_,λp q k1 k2 k3=>?_,λp q k1 k2 k3=>?_,λp q k1 k2 k3=>?_,λp q k1 k2 k3 k4=>?_⟩
 ·rw[r3 q (by omega),r3 p (by omega)]
  exact hl _ _ k1 k2 (by omega)
 ·rw[r1 q (by omega) (by omega),r1 p k1 (by omega)]
  exact hr _ _ (by omega) (by omega) (by omega)
 ·rw[r2 q (by omega) k3,r2 p (by omega) (by omega)]
  exact hl _ _ (by omega) (by omega) (by omega)
 ·rw[r3 q (by omega),r3 p (by omega)]
  exact hr _ _ (by omega) k2 k3
 ·by_cases c1:p<s
  ·rw[r3 p (by omega)]
   by_cases c2:q<e
   ·rw[r2 q (by omega) c2]
    exact hl _ _ k1 (by omega) (by omega)
   ·rw[r3 q (by omega)]
    have f:lt d[e]! d[s-1]! = false:=by
     rcases f1 with f|f|f
     ·omega
     ·omega
     ·exact f
    have g:lt d[e]! d[p]! = false:=by
     by_cases c:p=s-1
     ·rw[c]
      exact f
     ·exact hS.ntrans _ _ _ f (hl p (s-1) k1 (by omega) (by omega))
    by_cases c:q=e
    ·rw[c]
     exact g
    ·exact hS.ntrans _ _ _ (hr e q h3 (by omega) k4) g
  ·rw[r1 p (by omega) (by omega)]
   by_cases c2:q<e
   ·rw[r2 q (by omega) c2]
    have f:lt d[s]! d[e-1]! = false:=by
     rcases f2 with f|f|f
     ·omega
     ·omega
     ·exact hS.asymmA f
    have g:lt d[s]! d[p+(m-s)]! = false:=by
     by_cases c:p+(m-s)=e-1
     ·rw[c]
      exact f
     ·exact hS.ntrans _ _ _ f (hr _ (e-1) (by omega) (by omega) (by omega))
    by_cases c:q-(e-m)=s
    ·rw[c]
     exact g
    ·exact hS.ntrans _ _ _ (hl s _ h1 (by omega) (by omega)) g
   ·rw[r3 q (by omega)]
    exact hr _ _ (by omega) (by omega) k4
theorem sorted_beside {d D:Array α} {a b x y:Nat} (h:SortedIn lt a b d) (hP:PermIn x y d D) (hd:b<=x∨y<=a):SortedIn lt a b D:=by
 intro p q k1 k2 k3
 rw[hP.2.1 p (by omega),hP.2.1 q (by omega)]
 exact h p q k1 k2 k3
theorem sorted_glue {D:Array α} {a mid b:Nat} (hl:SortedIn lt a mid D) (hr:SortedIn lt mid b D)
  (hx:∀p q,a<=p->p<mid->mid<=q->q<b->lt D[q]! D[p]! = false):SortedIn lt a b D:=by
 intro p q k1 k2 k3
 by_cases c1:q<mid
 ·exact hl p q k1 k2 c1
 by_cases c2:p<mid
 ·exact hx p q k1 c2 (by omega) k3
 ·exact hr p q (by omega) k2 k3
theorem cross_stays {d d1 D:Array α} {a mid b:Nat} (hb:b<=d.size) (_h1:a<=mid) (h2:mid<=b)
  (hx:∀p q,a<=p->p<mid->mid<=q->q<b->lt d[q]! d[p]! = false) (hP:PermIn a mid d d1) (hQ:PermIn mid b d1 D) :
  ∀p q,a<=p->p<mid->mid<=q->q<b->lt D[q]! D[p]! = false:=by
 have x1:∀p q,a<=p->p<mid->mid<=q->q<b->lt d1[q]! d1[p]! = false:=by
  intro p q k1 k2 k3 k4
  rw[hP.2.1 q (by omega)]
  exact permIn_all d d1 a mid (λv=>lt d[q]! v=false) (by omega) hP (λi i1 i2=>hx i q i1 i2 k3 k4) p k1 k2
 intro p q k1 k2 k3 k4
 rw[hQ.2.1 p (by omega)]
 have hs:=hP.1
 exact permIn_all d1 D mid b (λv=>lt v d1[p]! = false) (by omega) hQ (λi i1 i2=>x1 p i k1 k2 i1 i2) q k3 k4
theorem rot_more {d D:Array α} {s k:Nat} (h:Rot d D s (s+1) (k+1)) (hs:s<=k) (hk:k+1<d.size):Rot d (swp D k (k+1)) s (s+1) (k+2):=by
 obtain⟨r0,r1,r2,r3⟩:=h
 have g:=swp_get D (show k<D.size by omega) (show k+1<D.size by omega)
 refine⟨by rw[swp_size,r0],λq k1 k2=>?_,λq k1 k2=>?_,λq k1=>?_⟩
 ·rw[g]
  by_cases e:q=k
  ·subst e
   rw[if_neg (by omega),if_pos rfl,r3 _ (by omega)]
   congr 1
   omega
  ·rw[if_neg (by omega),if_neg e,r1 q k1 (by omega)]
 ·obtain rfl:q=k+1:=by omega
  rw[g,if_pos rfl,r2 k (by omega) (by omega)]
  congr 1
  omega
 ·rw[g,if_neg (by omega),if_neg (by omega),r3 q (by omega)]
theorem rot_less {d D:Array α} {k m:Nat} (h:Rot d D k m (m+1)) (h1:1<=k) (hk:k<=m) (hm:m<d.size):Rot d (swp D k (k-1)) (k-1) m (m+1):=by
 obtain⟨r0,r1,r2,r3⟩:=h
 have g:=swp_get D (show k<D.size by omega) (show k-1<D.size by omega)
 refine⟨by rw[swp_size,r0],λq k1 k2=>?_,λq k1 k2=>?_,λq k1=>?_⟩
 ·obtain rfl:q=k-1:=by omega
  rw[g,if_pos rfl,r1 k (by omega) (by omega)]
  congr 1
  omega
 ·rw[g]
  by_cases e:q=k
  ·subst e
   rw[if_neg (by omega),if_pos rfl,r3 _ (by omega)]
   congr 1
   omega
  ·rw[if_neg (by omega),if_neg e,r2 q (by omega) (by omega)]
 ·rw[g,if_neg (by omega),if_neg (by omega),r3 q (by omega)]
end Sy
end Go.Proofs.YtoejnneknpoanaaGreatDoor
