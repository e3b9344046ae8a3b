/- Texts written over, blocks of other types kept; layer 29's l -/
import Derived.Test.YtoejnneknpoanaaGreatDoorJR29j
set_option maxHeartbeats 8000000
set_option maxRecDepth 100000
namespace Go.Proofs.YtoejnneknpoanaaGreatDoor
open Go Go.RowKit Um Fm Lx Tx Om Mp
theorem Shape.txt {base:Nat} {w:World} {g i m:Nat} {v:Value} (hb:base<=g) (h:Holds w g m):Shape base w (w.setCell ⟨g,i,none⟩ v):=by
 obtain⟨cur,h1,_⟩:=h
 have hk:∀e,9≠e->KeepT e w (w.setCell ⟨g,i,none⟩ v):=λe he=>KeepT.setCell h1 he
 refine⟨(Below.refl _ _).setCell (p:=⟨g,i,none⟩) hb _,hk _ (by decide),⟨hk _ (by decide),hk _ (by decide)⟩,λk j x=>?_⟩
 obtain⟨c2,h3,h4⟩:=x
 exact⟨c2,hk _ (by decide) _ _ _ h3,h4⟩
theorem uo (base g n cap:Nat) (w:World) (hH:Holds w g cap) (hb:base<=g) (hn:n<=900000) (hc:n<=cap) (hc2:cap<=9223372036854775807) :
  Calls Tryz.prog 57 #[.slice (some ⟨g,0,none⟩) n cap] w λe w'=>(∃v,e=.returned v)/\Shape base w w':=by
 have hlt0:=hH.lt
 go_enter Tryz.func57,Tryz.ntmps57
 go_wp2
 obtain⟨m,hm⟩:∃m:Nat,m=min cap (n+12):=⟨_,rfl⟩
 have hmin:min (cap:Int) ((n:Int)+12)=(m:Int):=by omega
 simp only[hmin,Int.toNat_natCast]
 have hm1:m<=cap:=by omega
 have hm2:m<=n+12:=by omega
 clear hm hmin
 go_loopw [3] (λi wr=>∃k:Nat,k<=m/\i=.int .i64 k/\Hid (Shape base w wr)/\Holds wr g cap) (λi _=>m-(intOf i).toNat)
 case atStart=>exact⟨0,by omega,rfl,Shape.refl _ _,hH⟩
 case round =>
  obtain⟨k,hk,rfl,HS,hH⟩:=hrel
  have hsz:=HS.out.1.size
  by_cases hlt:k<m
  ·have hmk:=λW=>m8 2 (k:Int) W (by omega) (by omega) (by omega) (by omega)
   generalize mkT 2 (k:Int)=s at *
   go_wp2_with fail
   refine(hmk _).mono ?_
   rintro e w3 ⟨rfl,hb3⟩
   have hH3:=hH.below hb3
   obtain⟨u,hu⟩:=hH3.cell (i:=k) (by omega)
   have hf:=hH3.frozen (i:=k)
   have HH:=Lib.hid hH3
   have HS3:=Lib.hid (HS.out.trans (Shape.below (by omega) hb3))
   clear hH hH3 hb3
   go_wp2
   go_roundw
   case rel=>exact⟨k+1,by omega,by go_num,HS3.out.trans (Shape.txt hb HH.out),HH.out.set⟩
   case measure=>simp[intOf];omega
  ·go_wp2
   ((try simp only[Exit.inBlock,Exit.then]);refine Go.Great.bodyPost_end0 rfl rfl ?_)
   exact⟨⟨_,rfl⟩,HS.out⟩
theorem xr (base:Nat) (w:World):Calls Tryz.prog 57 #[.slice none 0 0] w λe w'=>(∃v,e=.returned v)/\Shape base w w':=by
 go_enter Tryz.func57,Tryz.ntmps57
 go_wp2
 simp only[show min (0:Int) 12=0 by decide,show (0:Int).toNat=0 from rfl]
 go_loopw [3] (λi wr=>i=.int .i64 0/\wr=w) (λ_ _=>0)
 case atStart=>exact⟨rfl,rfl⟩
 case round =>
  obtain⟨rfl,rfl⟩:=hrel
  go_wp2
  ((try simp only[Exit.inBlock,Exit.then]);refine Go.Great.bodyPost_end0 rfl rfl ?_)
  exact⟨⟨_,rfl⟩,Shape.refl _ _⟩
theorem zI {w:World} {base n:Nat} {v:Value} {xs:List Value} (h:w.ownsRow base 9 1 v n xs) (hn:n<=900000) :
  Calls Tryz.prog 57 #[v] w λe w'=>(∃v,e=.returned v)/\Shape base w w':=by
 have h0:=h
 rcases h0.2 with ⟨rfl,-⟩|⟨g,cap,cur,rfl,-,-,hle,hcap,-,-⟩
 ·exact xr base w
 ·obtain⟨hH,hb⟩:=Holds.of_own h
  exact uo base g n cap w hH hb hn hle (by simpa[maxLen] using hcap)
theorem zH {w:World} {base n:Nat} {v:Value} (h:nW base w [v] n) (hn:n<=900000) :
  Calls Tryz.prog 39 #[v] w λe w'=>(∃v,e=.returned v)/\Shape base w w':=by
 rcases h with h|⟨g,cap,h,h2,h3,h4,h5⟩
 ·injection h with h
  subst h
  exact xq base w
 ·injection h with h
  subst h
  exact xp base g n cap w h5 h2 hn h3 h4
def kZ (base:Nat) (w:World) (A:Option Addr) (rows:List (List Tm)):Prop:=∃xs,(xs=[]∨∃g o cur,A=some ⟨g,o,none⟩/\w.heap[g]?=some (Obj.cells cur 59 (0,0))/\∀j u,xs[j]?=some u->cur[o+j]?=some u)/\All 1 (λcs r=>nW base w cs r.length) xs rows
theorem kZ.on {base:Nat} {w w':World} {A:Option Addr} {rows:List (List Tm)} (h:kZ base w A rows) (hs:Shape base w w'):kZ base w' A rows:=by
 obtain⟨xs,h1,h2⟩:=h
 refine⟨xs,h1.imp id ?_,h2.mono λ_ _ _ x=>x.on hs⟩
 rintro⟨g,o,cur,e1,e2,e3⟩
 exact⟨g,o,cur,e1,hs.2.1 _ _ _ e2,e3⟩
theorem kZ.at_ {base:Nat} {w:World} {A:Option Addr} {rows:List (List Tm)} (h:kZ base w A rows) {k:Nat} {row:List Tm} (hr:rows[k]?=some row):∃g o v,A=some ⟨g,o,none⟩/\w.cell? ⟨g,o+k,none⟩=some v/\nW base w [v] row.length:=by
 obtain⟨xs,h1,h2⟩:=h
 obtain⟨cs,hl,hS,hx⟩:=h2.at_ hr
 match cs,hl with
 | [v],_ =>
  have h3:=hx 0 v rfl
  rw[Nat.mul_one,Nat.add_zero]at h3
  rcases h1 with h1|⟨g,o,cur,e1,e2,e3⟩
  ·rw[h1]at h3;cases h3
  ·exact⟨g,o,v,e1,by rw[World.cell?,e2];exact e3 _ _ h3,hS⟩
theorem bX.sh {base:Nat} {w:World} {v:Value} {rows:List (List Tm)} (h:bX base w v rows):∃A c,v=.slice A rows.length c/\rows.length<=c/\kZ base w A rows:=by
 obtain⟨A,c,xs,h1,h2,h3,h4⟩:=h
 refine⟨A,c,h1,h2,xs,h3.imp id ?_,h4.mono λ_ _ _ x=>x.sh⟩
 rintro⟨g,o,cur,e1,_,e3,e4⟩
 exact⟨g,o,cur,e1,e3,e4⟩
def dm (base:Nat) (w:World) (v0 v1:Value) (vars:List ByteArray) (rows:List (List Tm)):Prop:=w.ownsRow base 9 1 v0 vars.length (vars.map Value.string)/\bX base w v1 rows
theorem bC.out {N:Int} {vars:List ByteArray} {rows:List (List Tm)} {w w':World} {e:Ending} (h:bC N vars rows w e w'):∃v0 v1,e=.returned (.tuple #[.agg #[v0,v1],.int .i64 N])/\Below w.heap.size w w'/\dm w.heap.size w' v0 v1 (if N=0 then vars else []) (if N=0 then rows else []):=by
 obtain⟨v0,v1,h1,h2,h3,h4⟩:=h
 refine⟨v0,v1,h1,h2,?_⟩
 by_cases hN:N=0
 ·rw[if_pos hN,if_pos hN]
  exact h3 hN
 ·rw[if_neg hN,if_neg hN]
  obtain⟨rfl,rfl⟩:=h4 hN
  exact⟨World.ownsRow_nil _ _ _ _,none,0,[],rfl,Nat.le_refl _,.inl rfl,rfl⟩
theorem fq {base:Nat} {w:World} {v0 v1:Value} {vars:List ByteArray} {rows:List (List Tm)} (hT:dm base w v0 v1 vars rows) (hb:base<=w.heap.size) (hv:vars.length<=900000) (hr:rows.length<=900000) (hz:∀r∈rows,r.length<=900000) :
  Calls Tryz.prog 19 #[.agg #[v0,v1]] w λe w'=>(∃v,e=.returned v)/\Shape base w w':=by
 obtain⟨h0,h1⟩:=hT
 obtain⟨A1,c1,rfl,hc1,hsh⟩:=h1.sh
 obtain⟨A0,c0,rfl,hc0,_⟩:=own_slice h0
 obtain⟨m,hm⟩:∃m,rows.length=m:=⟨_,rfl⟩
 rw[hm]at hc1 hr ⊢
 obtain⟨W,hW⟩:∃W:World,w.alloc (.cells #[.slice A0 vars.length c0,.slice A1 m c1] 25)=W:=⟨_,rfl⟩
 have hB0:Below w.heap.size w W:=by rw[←hW];exact blw
 have k0:W.heap[w.heap.size]?=some (Obj.cells #[.slice A0 vars.length c0,.slice A1 m c1] 25 (0,0)):=by rw[←hW];exact heap_alloc_new _ _
 have a0:W.cell? ⟨w.heap.size,0,none⟩=some (.slice A0 vars.length c0):=by rw[World.cell?,k0];rfl
 have hS0:Shape base w W:=Shape.below hb hB0
 have hOv:=zI (own_below h0 hB0 (Nat.le_refl _)) hv
 have H:=Lib.hid (And.intro hm (And.intro hz (And.intro (hsh.on hS0) (And.intro hS0 k0))))
 have HW:=Lib.hid hW
 generalize vars.length=nv at *
 clear h0 h1 hsh hm hz hB0 hS0 hW k0
 go_enter Tryz.func19,Tryz.ntmps19
 go_wp2_with fail
 simp only[HW.out]
 go_wp2_with (go_at_call 57;refine hOv.mono ?_;rintro e w2 ⟨⟨v,rfl⟩,hS2⟩;have HS2:=Lib.hid hS2;clear hS2 hOv a0)
 go_loopw [2] (λi wr=>∃k:Nat,k<=m/\i=.int .i64 k/\Hid (Shape base W wr)) (λi _=>m-(intOf i).toNat)
 case atStart=>exact⟨0,by omega,rfl,HS2⟩
 case round =>
  obtain⟨k,hk,rfl,HS⟩:=hrel
  obtain⟨hm,hz,hsh,hS0,k0⟩:=H.out
  have kk:=HS.out.2.2.1.1 _ _ _ k0
  have a1:wr.cell? ⟨w.heap.size,1,none⟩=some (.slice A1 m c1):=by rw[World.cell?,kk];rfl
  by_cases hlt:k<m
  ·obtain⟨row,hrow⟩:∃row,rows[k]?=some row:=⟨_,List.getElem?_eq_getElem (by omega)⟩
   obtain⟨g,o,v,rfl,hcell,hO⟩:=(hsh.on HS.out).at_ hrow
   have hC:=zH hO (hz row (List.mem_of_getElem? hrow))
   obtain⟨A5,n5,c5,rfl⟩:∃A n c,v=.slice A n c:=by
    rcases hO with h|⟨g5,cap5,h,_⟩
    ·injection h with h;exact⟨_,_,_,h⟩
    ·injection h with h;exact⟨_,_,_,h⟩
   clear hm hz hsh hS0 k0 kk hrow hO
   go_wp2_with (go_at_call 39;refine hC.mono ?_;rintro e w3 ⟨⟨v,rfl⟩,hS3⟩;have HS3:=Lib.hid (HS.out.trans hS3);clear hS3 hC hcell a1)
   go_roundw
   case rel=>exact⟨k+1,by omega,by go_num,HS3⟩
   case measure=>simp[intOf];omega
  ·have HF:Hid (Shape base w wr):=hS0.trans HS.out
   clear hm hz hsh hS0 k0 kk
   go_wp2
   ((try simp only[Exit.inBlock,Exit.then]);refine Go.Great.bodyPost_end0 rfl rfl ?_)
   exact⟨⟨_,rfl⟩,HF.out⟩
theorem xO (va vb:List ByteArray) (ra rb:List (List Tm)) (A B A2 B2:Option Addr) (n c m d n2 c2 m2 d2:Nat) (w:World) (hn:va.length=n) (hm:ra.length=m) (hn2:vb.length=n2) (hm2:rb.length=m2) (hln:n<=1000000) (hlm:m<=1000000) (hln2:n2<=1000000) (hlm2:m2<=1000000) (hz:∀r∈ra,r.length<=1000000) (hz2:∀r∈rb,r.length<=1000000)
  (hv:Rd w A (va.map Value.string)) (hr:RdRs w B ra) (hv2:Rd w A2 (vb.map Value.string)) (hr2:RdRs w B2 rb) :
  Calls Tryz.prog 18 #[.agg #[.slice A n c,.slice B m d],.agg #[.slice A2 n2 c2,.slice B2 m2 d2]] w λe w'=>e=.returned (.bool (decide (va=vb/\ra=rb)))/\Below w.heap.size w w':=by
 obtain⟨W,hW⟩:∃W:World,(w.alloc (.cells #[.slice A n c,.slice B m d] 25)).alloc (.cells #[.slice A2 n2 c2,.slice B2 m2 d2] 39)=W:=⟨_,rfl⟩
 have hB0:Below w.heap.size w W:=by rw[←hW];exact blw
 have k0:W.heap[w.heap.size]?=some (Obj.cells #[.slice A n c,.slice B m d] 25 (0,0)):=by rw[←hW];exact aj _ _ _
 have k1:W.heap[w.heap.size+1]?=some (Obj.cells #[.slice A2 n2 c2,.slice B2 m2 d2] 39 (0,0)):=by rw[←hW];exact ah _ _ _
 have a0:W.cell? ⟨w.heap.size,0,none⟩=some (.slice A n c):=by rw[World.cell?,k0];rfl
 have a1:W.cell? ⟨w.heap.size,1,none⟩=some (.slice B m d):=by rw[World.cell?,k0];rfl
 have b0:W.cell? ⟨w.heap.size+1,0,none⟩=some (.slice A2 n2 c2):=by rw[World.cell?,k1];rfl
 have b1:W.cell? ⟨w.heap.size+1,1,none⟩=some (.slice B2 m2 d2):=by rw[World.cell?,k1];rfl
 have hT:=pf va vb A A2 c c2 W (hv.later hB0) (hv2.later hB0) (by omega) (by omega)
 rw[hn,hn2]at hT
 have hRw:=λV (h:Below W.heap.size W V)=>cT ra rb B B2 d d2 m m2 V hm hm2 hlm hlm2 hz hz2 ((hr.later hB0).later h) ((hr2.later hB0).later h)
 obtain⟨p,hp⟩:∃p,ej va vb=p:=⟨_,rfl⟩
 obtain⟨q,hq⟩:∃q,decide (ra=rb)=q:=⟨_,rfl⟩
 have hres:Hid (decide (va=vb/\ra=rb)=(p && q)):=by
  show _=_
  rw[←hp,←hq]
  unfold ej
  rw[Bool.decide_and]
 rw[hp]at hT
 rw[hq]at hRw
 have HB:=Lib.hid hB0
 have HW:=Lib.hid hW
 clear hn hm hn2 hm2 hz hz2 hv hr hv2 hr2 hp hq hW k0 k1 hB0
 go_enter Tryz.func18,Tryz.ntmps18
 go_wp2_with fail
 simp only[HW.out]
 cases p
 ·go_wp2_with (first|(go_at_call 56;refine hT.mono ?_;rintro e w1 ⟨rfl,hb1⟩)|fail)
  go_ret
  exact⟨by rw[hres.out];rfl,aa HB.out hb1⟩
 ·go_wp2_with (first|(go_at_call 56;refine hT.mono ?_;rintro e w1 ⟨rfl,hb1⟩;have hR1:=hRw w1 hb1;replace a1:=ab a1 hb1;replace b1:=ab b1 hb1;clear hRw hT)|(go_at_call 31;refine hR1.mono ?_;rintro e w2 ⟨rfl,hb2⟩)|fail)
  go_ret
  exact⟨by rw[hres.out];cases q<;>rfl,aa HB.out (aa hb1 hb2)⟩
theorem dG (A B:Option Addr) (n c m d:Nat) (w:World) :
  Calls Tryz.prog 15 #[.agg #[.slice A n c,.slice B m d]] w λe w'=>e=.returned (.agg #[.slice A n c,.slice B m d])/\Below w.heap.size w w':=by
 obtain⟨W,hW⟩:∃W:World,(w.alloc (.cells #[.slice A n c,.slice B m d] 25)).alloc (.cells #[.slice none 0 0,.slice none 0 0] 39)=W:=⟨_,rfl⟩
 have hB0:Below w.heap.size w W:=by rw[←hW];exact blw
 have k0:W.heap[w.heap.size]?=some (Obj.cells #[.slice A n c,.slice B m d] 25 (0,0)):=by rw[←hW];exact aj _ _ _
 have k1:W.heap[w.heap.size+1]?=some (Obj.cells #[.slice none 0 0,.slice none 0 0] 39 (0,0)):=by rw[←hW];exact ah _ _ _
 have a0:W.cell? ⟨w.heap.size,0,none⟩=some (.slice A n c):=by rw[World.cell?,k0];rfl
 have a1:W.cell? ⟨w.heap.size,1,none⟩=some (.slice B m d):=by rw[World.cell?,k0];rfl
 have HG:=Lib.hid k1
 have HP:=Lib.hid (setRow_heap W _ _ #[.slice A n c,.slice B m d] _ (0,0) k1)
 have HF:Hid (Below w.heap.size w (W.setRow (w.heap.size+1) #[.slice A n c,.slice B m d])):=below_setRow hB0 (by omega) _
 have HW:=Lib.hid hW
 clear k0 k1 hB0 hW
 go_enter Tryz.func15,Tryz.ntmps15
 go_upto_region 1 with fail
 simp only[HW.out]
 go_wp2_with (first
  | (refine wpList_store_row rfl 39 _ _ rfl rfl rfl an HG.out rfl rfl ?_)
  | fail)
 exact bodyPost_ret (results_cell_row rfl _ _ _ _ _ _ _ rfl HP.out Tryz.underlying39 rfl an) rfl ⟨rfl,HF.out⟩
theorem gu (s:ByteArray) (w:World):Calls Tryz.prog 41 #[.string s] w λe w'=>e=.returned (.agg #[.int .i64 1,.string s,.string ⟨#[]⟩,.string ⟨#[]⟩])/\Below w.heap.size w w':=by
 go_enter Tryz.func41,Tryz.ntmps41
 go_wp2
 exact bodyPost_ret (v:=.agg #[.int .i64 1,.string s,.string ⟨#[]⟩,.string ⟨#[]⟩]) (by simp[results,Tryz.results41,go_sem]) rfl ⟨rfl,blw⟩
def oL (s:ByteArray):Tm:=⟨1,s,⟨#[]⟩,⟨#[]⟩⟩
def rowOf (s:ByteArray):List Tm:=[oL (s.extract 0 1),oL (s.extract 1 s.size)]
def tX:ByteArray:=⟨#[120]⟩
def tY:ByteArray:=⟨#[121]⟩
def OfS (w wr:World) (va v:Value) (rows:List (List Tm)):Prop:=wr.heap[w.heap.size]?=some (Obj.cells #[.slice none 0 0,.slice none 0 0] 25 (0,0))/\wr.heap[w.heap.size+1+1]?=some (Obj.cells #[va,v] 25 (0,0))/\wr.ownsRow w.heap.size 9 1 va 2 [.string tX,.string tY]/\OwnRs w.heap.size wr v rows/\Below w.heap.size w wr
def OfR (rows:List (List Tm)) (w:World) (e:Ending) (w':World):Prop:=∃va vr,e=.returned (.agg #[va,vr])/\Below w.heap.size w w'/\w'.ownsRow w.heap.size 9 1 va 2 [.string tX,.string tY]/\OwnRs w.heap.size w' vr rows
theorem Cr {w wr W2 w6:World} {va v v' x:Value} {xs:List Value} {rows:List (List Tm)} {row:List Tm} (h0:wr.heap[w.heap.size]?=some (Obj.cells #[.slice none 0 0,.slice none 0 0] 25 (0,0))) (h2:wr.heap[w.heap.size+1+1]?=some (Obj.cells #[va,v] 25 (0,0))) (hva:wr.ownsRow w.heap.size 9 1 va 2 [.string tX,.string tY]) (own:wr.ownsRow w.heap.size 59 1 v rows.length xs) (hall:All 1 (OwnRow w.heap.size wr) xs rows) (hB:Below w.heap.size w wr)
  (hb:Below wr.heap.size wr W2) (hrow:OwnRow w.heap.size W2 [x] row) (own6:w6.ownsRow w.heap.size 59 1 v' (rows.length+1) (xs++[x])) (hg6:W2.grownBy w6 v.ownBlock) (hb6:Below w.heap.size W2 w6) :
  w6.heap[w.heap.size+1+1]?=some (Obj.cells #[va,v] 25 (0,0))/\OfS w (w6.setCell ⟨w.heap.size+1+1,1,none⟩ v') va v' (rows++[row]):=by
 have own2:=own_below own hb (Nat.le_refl _)
 have hs:=hB.size
 have k5:∀e,59≠e->KeepT e W2 w6:=λe he=>KeepT.grown hg6 (own_blockR own2) he
 have g0:=k5 25 (by decide) _ _ _ (KeepT.below hb _ _ _ h0)
 have g2:=k5 25 (by decide) _ _ _ (KeepT.below hb _ _ _ h2)
 have k6:∀e,25≠e->KeepT e w6 (w6.setCell ⟨w.heap.size+1+1,1,none⟩ v'):=λe he=>KeepT.setCell g2 he
 have kR:KeepT 76 W2 (w6.setCell ⟨w.heap.size+1+1,1,none⟩ v'):=(k5 _ (by decide)).trans (k6 _ (by decide))
 refine⟨g2,?_,?_,own_keep (own_keep (own_below hva hb (Nat.le_refl _)) (k5 _ (by decide))) (k6 _ (by decide)),⟨_,?_,(hall.mono λ_ _ _ h=>(h.keep (KeepT.below hb)).keep kR).append (All.one rfl (hrow.keep kR))⟩,((hB.trans (hb.mono hs)).trans hb6).setCell (p:=⟨w.heap.size+1+1,1,none⟩) (by show _<=w.heap.size+1+1;omega) _⟩
 ·rw[Below.heap_setCell w6 ⟨w.heap.size+1+1,1,none⟩ v' _ (by show _≠w.heap.size+1+1;omega)];exact g0
 ·have:=aU g2 1 v'
  simpa using this
 ·rw[List.length_append]
  exact own_keep own6 (k6 _ (by decide))
theorem cE:(Tryz.prog.info? 25).map (·.size)=some 2:=by kernel_rfl
theorem vW (l:List ByteArray) (A:Option Addr) (n c:Nat) (w:World) (hn:l.length=n) (hl:n<=1000) (hz:∀s∈l,1<=s.size/\s.size<=1048576) (hr:Rd w A (l.map Value.string)) :
  Calls Tryz.prog 40 #[.slice A n c] w (OfR (l.map rowOf) w):=by
 obtain⟨W2,hW2⟩:∃W:World,((w.alloc (.cells #[.slice none 0 0,.slice none 0 0] 25)).alloc (.cells #[.string ⟨#[120]⟩,.string ⟨#[121]⟩] 9)).alloc (.cells #[.slice (some ⟨w.heap.size+1,0,none⟩) 2 2,.slice none 0 0] 25)=W:=⟨_,rfl⟩
 have hS:OfS w W2 (.slice (some ⟨w.heap.size+1,0,none⟩) 2 2) (.slice none 0 0) ((l.take 0).map rowOf)/\W2.heap.size=w.heap.size+3:=by
  have g0:W2.heap[w.heap.size]?=some (Obj.cells #[.slice none 0 0,.slice none 0 0] 25 (0,0)):=by rw[←hW2];exact fI _ _ _ _
  have g2:W2.heap[w.heap.size+1+1]?=some (Obj.cells #[.slice (some ⟨w.heap.size+1,0,none⟩) 2 2,.slice none 0 0] 25 (0,0)):=by rw[←hW2];exact fH _ _ _ _
  have ho:W2.ownsRow w.heap.size 9 1 (.slice (some ⟨w.heap.size+1,0,none⟩) 2 2) 2 [.string tX,.string tY]:=by
   rw[←hW2]
   have:=gR (w:=w.alloc (.cells #[.slice none 0 0,.slice none 0 0] 25)) (base:=w.heap.size) (e:=9) (size:=1) (n:=2) (cs:=#[.string ⟨#[120]⟩,.string ⟨#[121]⟩]) (xs:=[.string tX,.string tY]) (by simp) rfl rfl (by decide)
   have h2:(w.alloc (.cells #[.slice none 0 0,.slice none 0 0] 25)).heap.size=w.heap.size+1:=by simp
   rw[h2]at this
   exact own_below this ((Below.refl _ _).alloc (Nat.le_refl _) _) (Nat.le_refl _)
  have hb:Below w.heap.size w W2:=by rw[←hW2];exact blw
  exact⟨⟨g0,g2,ho,OwnRs.nil _ _,hb⟩,by rw[←hW2];simp⟩
 have H:=Lib.hid (And.intro hn (And.intro hz hr))
 have HW2:=Lib.hid hW2
 have HS:=Lib.hid hS.1
 have hzw:=hS.2
 clear hn hz hr hW2 hS
 go_enter Tryz.func40,Tryz.ntmps40
 go_wp2
 simp only[HW2.out]
 go_loopw [4,5] (λi u wr=>∃(k:Nat) (v:Value),k<=n/\i=.int .i64 k/\Hid (OfS w wr (.slice (some ⟨w.heap.size+1,0,none⟩) 2 2) v ((l.take k).map rowOf))) (λi _ _=>n-(intOf i).toNat)
 case atStart=>exact⟨0,_,by omega,rfl,HS⟩
 case round =>
  clear HS HW2
  obtain⟨k,v,hk,rfl,HK⟩:=hrel
  obtain⟨h0,h2,hva,⟨xs,own,hall⟩,hB⟩:=HK.out
  obtain⟨hn,hz,hr⟩:=H.out
  have hml:((l.take k).map rowOf).length=k:=by rw[List.length_map,List.length_take];omega
  obtain⟨Ar,cr,rfl,hcr,_⟩:=own_slice own
  rw[hml]at own h2 hcr
  have c1:wr.cell? ⟨w.heap.size+1+1,1,none⟩=some (.slice Ar k cr):=by rw[World.cell?,h2];rfl
  by_cases hlt:k<n
  ·obtain⟨s,hs⟩:∃s,l[k]?=some s:=⟨_,List.getElem?_eq_getElem (by omega)⟩
   obtain⟨hs1,hs2⟩:=hz s (List.mem_of_getElem? hs)
   obtain⟨g,o,rfl,hcs⟩:=(hr.later hB).at_ (j:=k) (u:=.string s) (by rw[List.getElem?_map,hs];rfl)
   have HX:=Lib.hid (And.intro h0 (And.intro h2 (And.intro hva (And.intro own (And.intro hall (And.intro hB (And.intro hs hml)))))))
   have hIr:=λV=>gu (s.extract 0 1) V
   have hIr2:=λV=>gu (s.extract 1 s.size) V
   have hzs:=hB.size
   clear h0 h2 hva own hall hB hn hz hr hs hml hcr HK
   go_wp2
   refine Rf.p0 wr.heap.size _ (.quiet [0,1,2,3,4,6,7,8,9,10] (.one 5 (.one 11 (.one 12 (.quiet [13] (.done)))))) ?_ (λa w h=>h)
   intro wd hbd hwz
   have x1:=cellL hcs hbd
   have HWZ:=Lib.hid (And.intro hwz hbd)
   have hs3:=hbd.size
   clear hwz
   refine Rf.pl_quiet ?_
   iterate 10 go_big_quiet_step (fail)
   refine wpQuiet_nil (Rf.pl_one ?_)
   go_wp2_with (go_at_call 41;refine(hIr _).mono ?_;rintro e w3 ⟨rfl,hb3⟩)
   refine⟨hb3.mono hs3,Rf.pl_one ?_⟩
   have hs4:=hb3.size
   clear hIr
   go_wp2_with (go_at_call 41;refine(hIr2 _).mono ?_;rintro e w4 ⟨rfl,hb4⟩)
   refine⟨hb4.mono (Nat.le_trans hs3 hs4),Rf.pl_one ?_⟩
   have hs5:=hb4.size
   have hB4:Below wr.heap.size wr w4:=aa (aa hbd hb3) hb4
   have HB4:=Lib.hid hB4
   clear hIr2 hbd hb3 hb4 x1 hcs
   go_wp2
   refine⟨(Below.refl _ _).alloc (by omega) _,Rf.pl_quiet ?_⟩
   iterate 1 go_big_quiet_step (fail)
   refine wpQuiet_nil (Rf.pl_done ?_)
   obtain⟨V,hV⟩:∃V:World,(w4.alloc (.cells #[.int .i64 1,.string (s.extract 0 1),.string ⟨#[]⟩,.string ⟨#[]⟩,.int .i64 1,.string (s.extract 1 s.size),.string ⟨#[]⟩,.string ⟨#[]⟩] 76))=V:=⟨_,rfl⟩
   have hBV:Below wr.heap.size wr V:=by rw[←hV];exact aa hB4 ((Below.refl _ _).alloc (Nat.le_refl _) _)
   have hrow:V.ownsRow w.heap.size 76 4 (.slice (some ⟨w4.heap.size,0,none⟩) 2 2) 2 ((rowOf s).flatMap tmC):=by
    rw[←hV]
    exact gR (w:=w4) (base:=w.heap.size) (e:=76) (size:=4) (n:=2) (by omega) rfl rfl (by decide)
   have hal:Below V.heap.size V (V.alloc (.cells #[.slice (some ⟨w4.heap.size,0,none⟩) 2 2] 59)):=blw
   have own5:=own_below HX.out.2.2.2.1 (aa hBV hal) (Nat.le_refl _)
   have d1:=ab (ab c1 hBV) hal
   have hin:Tryz.prog.underlying 23=some (.slice 59):=Tryz.underlying23
   have hsV:w.heap.size<=V.heap.size:=Nat.le_trans hzs hBV.size
   have dV:=ab c1 hBV
   have HV:=Lib.hid hV
   have HR:=Lib.hid (And.intro hrow (And.intro hBV hal))
   clear hV hrow hBV hal c1
   simp only[HV.out]
   go_wp2_with (first
    | (at_builtin;refine aw rfl rfl hin cF rfl (by omega) rfl own5 rfl (Rd.of_block (heap_alloc_new V _) rfl) rfl (by intro u hu;simp only[List.mem_cons,List.not_mem_nil,or_false]at hu;subst hu;rfl) (by omega) (by omega) (by simp;omega) ?_;intro v' w6 own6 hb6 hg6;obtain⟨s1,s2⟩:=Cr (row:=rowOf s) HX.out.1 HX.out.2.1 HX.out.2.2.1 (by rw[HX.out.2.2.2.2.2.2.2];exact HX.out.2.2.2.1) HX.out.2.2.2.2.1 HX.out.2.2.2.2.2.1 (aa HR.out.2.1 HR.out.2.2) ⟨_,rfl,own_below HR.out.1 HR.out.2.2 (Nat.le_refl _)⟩ (by rw[HX.out.2.2.2.2.2.2.2];exact own6) hg6 hb6;obtain⟨A8,c8,rfl,_,_⟩:=own_slice own6;have f8:w6.frozen? ⟨w.heap.size+1+1,1,none⟩=false:=Lib.frozen_of_heap s1 1;have y8:w6.cell? ⟨w.heap.size+1+1,1,none⟩=some (.slice Ar k cr):=(by rw[World.cell?,s1];rfl);have HF8:=Lib.hid s2;clear s1 s2 own6 hb6 hg6 own5 d1))
   go_roundw
   case rel=>exact⟨k+1,_,by omega,by go_num,by rw[ai HX.out.2.2.2.2.2.2.1,List.map_append];exact HF8.out⟩
   case measure=>simp[intOf];omega
  ·obtain rfl:n=k:=by omega
   have hfin:=HK.out
   rw[List.take_of_length_le (by omega)]at hfin
   have d0:wr.cell? ⟨w.heap.size+1+1,0,none⟩=some (.slice (some ⟨w.heap.size+1,0,none⟩) 2 2):=by rw[World.cell?,h2];rfl
   have HG:=Lib.hid h0
   have HP:=Lib.hid (setRow_heap wr _ _ #[.slice (some ⟨w.heap.size+1,0,none⟩) 2 2,.slice Ar n cr] _ (0,0) h0)
   have HF:Hid (OfR (l.map rowOf) w (.returned (.agg #[.slice (some ⟨w.heap.size+1,0,none⟩) 2 2,.slice Ar n cr])) (wr.setRow w.heap.size #[.slice (some ⟨w.heap.size+1,0,none⟩) 2 2,.slice Ar n cr])):=by
    obtain⟨e0,e2,e3,e4,e5⟩:=hfin
    have hk:∀e,25≠e->KeepT e wr (wr.setRow w.heap.size #[.slice (some ⟨w.heap.size+1,0,none⟩) 2 2,.slice Ar n cr]):=λe he=>KeepT.setRow e0 he
    have hl2:(l.map rowOf).length=n:=by rw[List.length_map,hn]
    refine⟨_,_,rfl,below_setRow e5 (Nat.le_refl _) _,own_keep e3 (hk _ (by decide)),?_⟩
    rw[hl2]at e4
    exact e4.keep (hk _ (by decide)) (hk _ (by decide))
   clear h0 h2 hva own hall hB hn hz hr hml hcr HK hfin
   go_wp2_with (first
    | (refine wpList_store_row rfl 25 _ _ rfl rfl rfl cE HG.out rfl rfl ?_)
    | fail)
   exact bodyPost_ret (results_cell_row rfl _ _ _ _ _ _ _ rfl HP.out Tryz.underlying25 rfl cE) rfl HF.out
def r2 (c d:UInt8):List Tm:=[oL ⟨#[c]⟩,oL ⟨#[d]⟩]
def CJ:Ky:=⟨tY,false⟩
def aw1:List (List Tm):=[r2 97 50,r2 98 49,r2 97 49,r2 97 50]
def aw2:List (List Tm):=[r2 97 49,r2 98 49,r2 97 50,r2 97 50]
def aw3:List (List Tm):=[[oL ⟨#[97]⟩],[oL ⟨#[98]⟩],[oL ⟨#[97]⟩],[oL ⟨#[97]⟩]]
def aw4:List (List Tm):=[[oL ⟨#[97]⟩],[oL ⟨#[98]⟩]]
theorem EG:[(⟨#[97,50]⟩:ByteArray),⟨#[98,49]⟩,⟨#[97,49]⟩,⟨#[97,50]⟩].map rowOf=aw1:=by kernel_rfl
theorem EF:[(⟨#[97,49]⟩:ByteArray),⟨#[98,49]⟩,⟨#[97,50]⟩,⟨#[97,50]⟩].map rowOf=aw2:=by kernel_rfl
theorem FA:ar [tX,tY] aw1=true:=by kernel_rfl
theorem Fz:ar [tX,tY] aw2=true:=by kernel_rfl
theorem Fy:ar [tX] aw3=true:=by kernel_rfl
theorem awN:bT [tX,tY] [CJ]=0:=by kernel_rfl
theorem awS:bH [tX,tY] [CJ] aw1=aw2:=by
 have h1:(am [tX,tY] ([CJ].map (·.v))).contains (-1)=false:=by kernel_rfl
 unfold bH
 rw[if_neg (by rw[h1];decide)]
 refine(gf ?_ ?_).symm
 ·decide +kernel
 ·decide +kernel
theorem awP:be [tX,tY] [tX]=0:=by kernel_rfl
theorem FB:aw2.map (aJ (am [tX,tY] [tX]))=aw3:=by kernel_rfl
theorem awO:aS aw3=aw4:=by kernel_rfl
def jF (rows:List (List Tm)):Bool:=rows.all λr=>decide (r.length<=100) && r.all λt=>decide (0<=t.k) && decide (t.k<=100) && decide (t.x.size<=100) && decide (t.l.size<=100) && decide (t.y.size<=100)
theorem mC {rows:List (List Tm)} (h:jF rows=true):∀r∈rows,en r/\bu r/\r.length<=100:=by
 intro r hr
 have h1:=List.all_eq_true.1 h r hr
 simp only[Bool.and_eq_true,decide_eq_true_iff,List.all_eq_true]at h1
 refine⟨⟨by omega,λt ht=>?_⟩,⟨by omega,λt ht=>?_⟩,h1.1⟩
 ·obtain⟨⟨⟨⟨e1,e2⟩,e3⟩,e4⟩,e5⟩:=h1.2 t ht
  exact⟨⟨by omega,by omega⟩,by omega,by omega,by omega⟩
 ·obtain⟨⟨⟨⟨e1,e2⟩,e3⟩,e4⟩,e5⟩:=h1.2 t ht
  exact⟨by omega,by omega,by omega⟩
theorem Ff:jF aw1=true:=by kernel_rfl
theorem Df:jF aw2=true:=by kernel_rfl
theorem Fe:jF aw3=true:=by kernel_rfl
theorem uV:jF aw4=true:=by kernel_rfl
theorem awZ:∀s∈[(⟨#[97,50]⟩:ByteArray),⟨#[98,49]⟩,⟨#[97,49]⟩,⟨#[97,50]⟩],1<=s.size/\s.size<=1048576:=by
 intro s hs
 simp only[List.mem_cons,List.not_mem_nil,or_false]at hs
 rcases hs with rfl|rfl|rfl|rfl<;>exact⟨by decide,by decide⟩
theorem Fx:∀s∈[(⟨#[97,49]⟩:ByteArray),⟨#[98,49]⟩,⟨#[97,50]⟩,⟨#[97,50]⟩],1<=s.size/\s.size<=1048576:=by
 intro s hs
 simp only[List.mem_cons,List.not_mem_nil,or_false]at hs
 rcases hs with rfl|rfl|rfl|rfl<;>exact⟨by decide,by decide⟩
theorem dm.tab {base:Nat} {w:World} {v0 v1:Value} {vars:List ByteArray} {rows:List (List Tm)} (h:dm base w v0 v1 vars rows) (hv:vars.length<=1000000) (hr:rows.length<=1000000) (hz:∀r∈rows,r.length<=1000000) :
  ∃A c B d,v0=.slice A vars.length c/\v1=.slice B rows.length d/\TabAt w A B vars.length c rows.length d vars rows/\rows.length<=d:=by
 obtain⟨h0,h1⟩:=h
 obtain⟨A,c,rfl,hc,hrd⟩:=own_slice h0
 obtain⟨B,d,rfl,hd,hrr⟩:=h1.rd
 exact⟨A,c,B,d,rfl,rfl,⟨rfl,rfl,hv,hr,hc,hrd,hrr,hz⟩,hd⟩
theorem dm.later {base:Nat} {w w':World} {v0 v1:Value} {vars:List ByteArray} {rows:List (List Tm)} (h:dm base w v0 v1 vars rows) (hb:Below w.heap.size w w'):dm base w' v0 v1 vars rows:=⟨own_below h.1 hb (Nat.le_refl _),h.2.keep (KeepT.below hb) (KeepT.below hb)⟩
theorem OfR.tab {rows:List (List Tm)} {w w':World} {e:Ending} (h:OfR rows w e w'):∃v0 v1,e=.returned (.agg #[v0,v1])/\Below w.heap.size w w'/\dm w.heap.size w' v0 v1 [tX,tY] rows:=by
 obtain⟨va,vr,h1,h2,h3,h4⟩:=h
 exact⟨va,vr,h1,h2,h3,h4.in_⟩
end Go.Proofs.YtoejnneknpoanaaGreatDoor
