/- OrderDoes: for every small table and query the law returns t -/
import Derived.Test.YtjldjeenfnahoaaGreatDoorJLaw29f
namespace Go.Proofs.YtjldjeenfnahoaaGreatDoor
open Go Go.RowKit Um Fm Lx Tx Om Mp
theorem zY {Z:World} {A:Option Addr} {c n:Nat} {l:List ByteArray} (h:Z.ownsRow n 9 1 (.slice A l.length c) l.length (l.map Value.string)):Rd Z A (l.map Value.string):=by
 obtain⟨A2,c2,e,_,h2⟩:=own_slice h
 injection e with e
 rw[e];exact h2
theorem Az {Z:World} {B:Option Addr} {d n:Nat} {l:List (List Tm)} (h:cd n Z (.slice B l.length d) l):RdRs Z B l:=by
 obtain⟨A2,c2,e,_,h2⟩:=h.rd
 injection e with e
 rw[e];exact h2
theorem iy {base:Nat} {Z:World} {A5 B5 A6 B6:Option Addr} {c6 d6 c7 d7:Nat} {vs:List ByteArray} {rs:List (List Tm)} (hs:bK vs rs) (hT:cY base Z (.slice A5 vs.length c6) (.slice B5 rs.length d6) vs rs) (h1:Rd Z A6 (vs.map Value.string)) (h2:RdRs Z B6 rs) :
  Calls Tryz.prog 15 #[.agg #[.slice A5 vs.length c6,.slice B5 rs.length d6],.agg #[.slice A6 vs.length c7,.slice B6 rs.length d7]] Z λe w'=>e=.returned (.bool true)/\Below Z.heap.size Z w':=by
 have h:=vR vs vs rs rs A5 B5 A6 B6 vs.length c6 rs.length d6 vs.length c7 rs.length d7 Z rfl rfl rfl rfl (by have:=hs.1;omega) (by have:=hs.2.1;omega) (by have:=hs.1;omega) (by have:=hs.2.1;omega) (λr hr=>by have:=hs.2.2 r hr;omega) (λr hr=>by have:=hs.2.2 r hr;omega) (zY hT.1) (Az hT.2) h1 h2
 rwa [show decide (vs=vs/\rs=rs)=true from decide_eq_true ⟨rfl,rfl⟩]at h
def rG (Z wx:World) (gb:Nat) (A6:Option Addr) (c7:Nat) (B6:Option Addr) (d7:Nat) (vs:List ByteArray) (rs:List (List Tm)):Prop:=wx.heap[gb]?=some (Obj.cells #[.slice A6 vs.length c7,.slice B6 rs.length d7] 39 (0,0))/\Z.heap.size<=gb/\Below Z.heap.size Z wx/\Rd wx A6 (vs.map Value.string)/\RdRs wx B6 rs
theorem oG {W4 Z w7:World} {gb:Nat} {cur:Array Value} {A6 B6:Option Addr} {c7 d7:Nat} {vs:List ByteArray} {rs:List (List Tm)} {xs:List Value} (hg:w7.heap[gb]?=some (Obj.cells cur 39 (0,0))) (hZ:Z.heap.size<=gb) (hWZ:W4.heap.size<=Z.heap.size) (hB:Below Z.heap.size Z w7) (h8:∀W',StS W4 w7 W'->Rd W' A6 (vs.map Value.string)) (h9:∀W',StS W4 w7 W'->Rd W' B6 xs) (h10:All 1 (fk W4 w7) xs rs):rG Z (w7.setRow gb #[.slice A6 vs.length c7,.slice B6 rs.length d7]) gb A6 c7 B6 d7 vs rs:=by
 have hS:StS W4 w7 (w7.setRow gb #[.slice A6 vs.length c7,.slice B6 rs.length d7]):=StS.setRow hg (Nat.le_trans hWZ hZ)
 exact⟨setRow_heap w7 _ _ _ _ (0,0) hg,hZ,below_setRow hB hZ _,h8 _ hS,xs,h9 _ hS,h10.mono λ_ _ _ h=>(h.on hS.2.2).rd⟩
set_option maxRecDepth 100000 in
set_option maxHeartbeats 16000000 in
theorem pd (n:Nat) (q:Qy n) (a1 a2 a3 a4:Option Addr) (c1 c2 c3 c4:Nat) (vars:List ByteArray) (rows:List (List Tm)) (A B:Option Addr) (c d:Nat) (w:World) (hC:dJ w) (hP:gL w) (hz:uQ q) (hq:RdQ n w [.bool q.ask,.bool q.dist,.slice a1 q.vars.length c1,.slice a2 q.pats.length c2,.slice a3 q.fils.length c3,.slice a4 q.ord.length c4,.int .i64 q.lim,.int .i64 q.off] q) (hlv:vars.length<=1048576) (hlr:rows.length<=1048576) (hzr:∀r∈rows,r.length<=1048576/\∀t∈r,keyTm t) (hnc:vars.length<=c) (hmd:rows.length<=d) (hrv:Rd w A (vars.map Value.string)) (hrr:RdRs w B rows) :
  Calls Tryz.prog 3 #[.agg #[.slice A vars.length c,.slice B rows.length d],.agg #[.bool q.ask,.bool q.dist,.slice a1 q.vars.length c1,.slice a2 q.pats.length c2,.slice a3 q.fils.length c3,.slice a4 q.ord.length c4,.int .i64 q.lim,.int .i64 q.off]] w λe w'=>e=.returned (.bool true)/\Below w.heap.size w w':=by
 have sL:=hz.l
 obtain⟨hqc,r1,rp,rf,rk⟩:=bm hq
 obtain⟨W,hW⟩:∃W:World,(w.alloc (.cells #[.slice A vars.length c,.slice B rows.length d] 25)).alloc (.cells #[.bool q.ask,.bool q.dist,.slice a1 q.vars.length c1,.slice a2 q.pats.length c2,.slice a3 q.fils.length c3,.slice a4 q.ord.length c4,.int .i64 q.lim,.int .i64 q.off] 30)=W:=⟨_,rfl⟩
 have hB0:Below w.heap.size w W:=by rw[←hW];exact blw
 have k0:W.heap[w.heap.size]?=some (Obj.cells #[.slice A vars.length c,.slice B rows.length d] 25 (0,0)):=by rw[←hW];exact am _ _ _
 have k1:W.heap[w.heap.size+1]?=some (Obj.cells #[.bool q.ask,.bool q.dist,.slice a1 q.vars.length c1,.slice a2 q.pats.length c2,.slice a3 q.fils.length c3,.slice a4 q.ord.length c4,.int .i64 q.lim,.int .i64 q.off] 30 (0,0)):=by rw[←hW];exact ai _ _ _
 have hG:=sy n q vars rows A B vars.length c rows.length d a1 a2 a3 a4 c1 c2 c3 c4 W rfl rfl hlv hlr (λr hr=>(hzr r hr).1) (hrr.later hB0) (aF.later rf hB0) hz.1 hz.2.2.1 hz.2.2.2.1 (λx hx=>(hz.2.2.2.2.2.2.1 x hx).e)
 have a0:W.cell? ⟨w.heap.size,0,none⟩=some (.slice A vars.length c):=by rw[World.cell?,k0];rfl
 have a9:W.cell? ⟨w.heap.size,1,none⟩=some (.slice B rows.length d):=by rw[World.cell?,k0];rfl
 have b0:W.cell? ⟨w.heap.size+1,0,none⟩=some (.bool q.ask):=by rw[World.cell?,k1];rfl
 have b1:W.cell? ⟨w.heap.size+1,1,none⟩=some (.bool q.dist):=by rw[World.cell?,k1];rfl
 have b2:W.cell? ⟨w.heap.size+1,2,none⟩=some (.slice a1 q.vars.length c1):=by rw[World.cell?,k1];rfl
 have b3:W.cell? ⟨w.heap.size+1,3,none⟩=some (.slice a2 q.pats.length c2):=by rw[World.cell?,k1];rfl
 have b4:W.cell? ⟨w.heap.size+1,4,none⟩=some (.slice a3 q.fils.length c3):=by rw[World.cell?,k1];rfl
 have b5:W.cell? ⟨w.heap.size+1,5,none⟩=some (.slice a4 q.ord.length c4):=by rw[World.cell?,k1];rfl
 have b6:W.cell? ⟨w.heap.size+1,6,none⟩=some (.int .i64 q.lim):=by rw[World.cell?,k1];rfl
 have b7:W.cell? ⟨w.heap.size+1,7,none⟩=some (.int .i64 q.off):=by rw[World.cell?,k1];rfl
 have H:=Lib.hid (And.intro hC (And.intro hP (And.intro hq (And.intro hrv (And.intro hrr (And.intro hzr (And.intro hnc (And.intro hmd (And.intro hz (And.intro hB0 (And.intro k0 (And.intro k1 sL))))))))))))
 have HW:=Lib.hid hW
 have hAw:=λW' (hb:Below W.heap.size W W')=>sA W' (hC.step (aa hB0 hb)) (hP.step (aa hB0 hb))
 have HAw:=Lib.hid hAw
 clear hC hP hq hrv hrr hzr hnc hmd hz hB0 k0 k1 hW hAw r1 rp rf rk hqc sL
 go_enter Tryz.func3,Tryz.ntmps3
 go_wp2_with fail
 simp only[HW.out]
 refine hG.mono ?_
 rintro e w1 ⟨gb,rfl,hgb,hb1⟩
 clear hG
 have H1:=Lib.hid hb1
 cases gb
 case true =>
  have hA1:=HAw.out w1 hb1
  clear a0 a9 b0 b1 b2 b3 b4 b5 b6 b7 hgb hb1
  go_wp2_with (refine hA1.mono ?_;rintro e w2 ⟨rfl,hb2⟩)
  go_ret
  exact⟨rfl,aa H.out.2.2.2.2.2.2.2.2.2.1 (aa H1.out hb2)⟩
 obtain⟨f1,f2,f3,f4,f5,f6⟩:=hgb rfl
 have hgood:ei vars rows:=⟨f1,f2,λr hr=>⟨f6 r hr,(H.out.2.2.2.2.2.1 r hr).2⟩⟩
 have HG:=Lib.hid (And.intro hgood (And.intro f3 (And.intro f4 f5)))
 clear hgb f1 f2 f3 f4 f5 f6 hgood
 replace a0:=ab a0 hb1
 replace a9:=ab a9 hb1
 replace b0:=ab b0 hb1
 replace b1:=ab b1 hb1
 replace b2:=ab b2 hb1
 replace b3:=ab b3 hb1
 replace b4:=ab b4 hb1
 replace b5:=ab b5 hb1
 replace b6:=ab b6 hb1
 replace b7:=ab b7 hb1
 have hrv1:Rd w1 A (vars.map Value.string):=(H.out.2.2.2.1.later H.out.2.2.2.2.2.2.2.2.2.1).later hb1
 have hrr1:RdRs w1 B rows:=(H.out.2.2.2.2.1.later H.out.2.2.2.2.2.2.2.2.2.1).later hb1
 have hLT:=λV (hb:Below w1.heap.size w1 V)=>fa (nZ vars A c V (hrv1.later hb) hlv)
 have hLR:=λV (hb:Below w1.heap.size w1 V)=>yG rows B rows.length d V rfl (by have:=HG.out.1.2.1;omega) (λr hr=>by have:=(HG.out.1.2.2 r hr).1;omega) (hrr1.later hb)
 clear hrv1 hrr1 hb1
 go_upto_region 3 with (fail)
 go_cut [5] from 16 to 22 (λs5 wx=>∃g,s5=.pointer (some ⟨g,0,none⟩)/\zR w1 wx g vars rows)
 case first =>
  rename_i hJ hM
  refine Rf.p0 w1.heap.size _ (.quiet [0,1,3,4] (.fork 2 7 (.fork 5 7 (.quiet [6] (.one 7 (.one 8 (.done)))) (.one 5 (.quiet [6] (.one 8 (.done))))) (.one 2 (.one 5 (.quiet [6] (.one 8 (.done))))))) ?_ (λa w h=>h)
  intro wd hbd hwz
  have y0:=cellL a0 hbd
  have y9:=cellL a9 hbd
  have HWZ:=Lib.hid hwz
  have hs1:w1.heap.size<=wd.heap.size:=hbd.size
  clear hwz a0 a9 b0 b1 b2 b3 b4 b5 b6 b7
  refine Rf.pl_quiet ?_
  iterate 4 go_big_quiet_step (fail)
  refine wpQuiet_nil (Rf.pl_fork ?_ ?_)
  ·clear y0 y9
   go_wp2_with (go_at_call 7;refine(hLT wd hbd).mono ?_;rintro e v1 ⟨gA,rfl,hgA,hL,hb2⟩)
   have hs2:w1.heap.size<=v1.heap.size:=Nat.le_trans hs1 hb2.size
   have hB1:=aa hbd hb2
   refine⟨hb2.mono hs1,Rf.pl_fork ?_ ?_⟩
   ·go_wp2_with (go_at_call 8;refine(hLR v1 hB1).mono ?_;rintro e v2 ⟨vr,xs,rfl,own,hall,hb3⟩)
    obtain⟨A1,c5,rfl,_,_⟩:=own_slice own
    have hs3:w1.heap.size<=v2.heap.size:=Nat.le_trans hs2 hb3.size
    refine⟨hb3.mono hs2,Rf.pl_quiet ?_⟩
    have hal:Below v2.heap.size v2 (v2.alloc (.cells #[.slice none 0 0,.slice none 0 0] 25)):=blw
    have HF:Hid (zR w1 ((v2.alloc (.cells #[.slice none 0 0,.slice none 0 0] 25)).setRow v2.heap.size #[.slice (some ⟨gA,0,none⟩) vars.length (vars.length+12),.slice A1 rows.length c5] ) v2.heap.size vars rows):=
     sF (heap_alloc_new v2 _) hs3 ((hL.below hb3 hL.lt).below hal (Nat.lt_of_lt_of_le hL.lt hb3.size)) hs2 (own_below own hal (Nat.le_refl _)) (hall.mono λ_ _ _ h=>h.later hal) (aa (aa hB1 hb3) hal)
    clear own hall hL hal hB1 hb3 hb2
    iterate 1 go_big_quiet_step (fail)
    refine wpQuiet_nil (Rf.pl_one ?_)
    go_wp2
    first|refine⟨(Below.refl _ _).alloc hs3 _,Rf.pl_one ?_⟩|refine Rf.pl_one ?_
    go_wp2_with (refine wpList_store_row rfl 25 _ _ rfl rfl rfl dE (heap_alloc_new _ _) rfl rfl ?_)
    first|refine⟨below_setRow (Below.refl _ _) hs3 _,Rf.pl_done ?_⟩|refine Rf.pl_done ?_
    refine hM _ _ (Met.intro (hJ _ _ ?_))
    (repeat apply Exists.intro)
    exact⟨⟨_,rfl,HF.out⟩,rfl⟩
   ·go_wp2
    have hal:Below v1.heap.size v1 (v1.alloc (.cells #[.slice none 0 0,.slice none 0 0] 25)):=blw
    have hg:=heap_alloc_new v1 (.cells #[.slice none 0 0,.slice none 0 0] 25)
    first|refine⟨(Below.refl _ _).alloc hs2 _,Rf.pl_one ?_⟩|refine Rf.pl_one ?_
    have hL2:=hL.below hal hL.lt
    have hB2:=aa hB1 hal
    generalize v1.alloc (.cells #[.slice none 0 0,.slice none 0 0] 25)=v9 at *
    have hs9:w1.heap.size<=v9.heap.size:=Nat.le_trans hs2 hal.size
    go_wp2_with (go_at_call 8;refine(hLR v9 hB2).mono ?_;rintro e v2 ⟨vr,xs,rfl,own,hall,hb3⟩)
    obtain⟨A1,c5,rfl,_,_⟩:=own_slice own
    refine⟨hb3.mono hs9,Rf.pl_quiet ?_⟩
    have hg2:=KeepT.below hb3 _ _ _ hg
    have HG2:=Lib.hid hg2
    have HF:Hid (zR w1 (v2.setRow v1.heap.size #[.slice (some ⟨gA,0,none⟩) vars.length (vars.length+12),.slice A1 rows.length c5] ) v1.heap.size vars rows):=sF hg2 hs2 (hL2.below hb3 hL2.lt) hs9 own hall (aa hB2 hb3)
    clear own hall hL hL2 hal hB1 hB2 hb3 hb2 hg hg2
    iterate 1 go_big_quiet_step (fail)
    refine wpQuiet_nil (Rf.pl_one ?_)
    go_wp2_with (refine wpList_store_row rfl 25 _ _ rfl rfl rfl dE HG2.out rfl rfl ?_)
    first|refine⟨below_setRow (Below.refl _ _) hs2 _,Rf.pl_done ?_⟩|refine Rf.pl_done ?_
    refine hM _ _ (Met.intro (hJ _ _ ?_))
    (repeat apply Exists.intro)
    exact⟨⟨_,rfl,HF.out⟩,rfl⟩
  ·clear y0 y9
   go_wp2
   have hal:Below wd.heap.size wd (wd.alloc (.cells #[.slice none 0 0,.slice none 0 0] 25)):=blw
   have hg:=heap_alloc_new wd (.cells #[.slice none 0 0,.slice none 0 0] 25)
   first|refine⟨(Below.refl _ _).alloc hs1 _,Rf.pl_one ?_⟩|refine Rf.pl_one ?_
   have hB2:=aa hbd hal
   generalize wd.alloc (.cells #[.slice none 0 0,.slice none 0 0] 25)=v9 at *
   have hs9:w1.heap.size<=v9.heap.size:=Nat.le_trans hs1 hal.size
   go_wp2_with (go_at_call 7;refine(hLT v9 hB2).mono ?_;rintro e v1 ⟨gA,rfl,hgA,hL,hb2⟩)
   have hs2:w1.heap.size<=v1.heap.size:=Nat.le_trans hs9 hb2.size
   have hB1:=aa hB2 hb2
   refine⟨hb2.mono hs9,Rf.pl_one ?_⟩
   go_wp2_with (go_at_call 8;refine(hLR v1 hB1).mono ?_;rintro e v2 ⟨vr,xs,rfl,own,hall,hb3⟩)
   obtain⟨A1,c5,rfl,_,_⟩:=own_slice own
   refine⟨hb3.mono hs2,Rf.pl_quiet ?_⟩
   have hg2:=KeepT.below hb3 _ _ _ (KeepT.below hb2 _ _ _ hg)
   have HG2:=Lib.hid hg2
   have HF:Hid (zR w1 (v2.setRow wd.heap.size #[.slice (some ⟨gA,0,none⟩) vars.length (vars.length+12),.slice A1 rows.length c5] ) wd.heap.size vars rows):=sF hg2 hs1 (hL.below hb3 hL.lt) hs2 own hall (aa hB1 hb3)
   clear own hall hL hal hB1 hB2 hb3 hb2 hg hg2
   iterate 1 go_big_quiet_step (fail)
   refine wpQuiet_nil (Rf.pl_one ?_)
   go_wp2_with (refine wpList_store_row rfl 25 _ _ rfl rfl rfl dE HG2.out rfl rfl ?_)
   first|refine⟨below_setRow (Below.refl _ _) hs1 _,Rf.pl_done ?_⟩|refine Rf.pl_done ?_
   refine hM _ _ (Met.intro (hJ _ _ ?_))
   (repeat apply Exists.intro)
   exact⟨⟨_,rfl,HF.out⟩,rfl⟩
 obtain⟨bi,rfl,gA,A1,c5,hi,hLt,hc5,hLr,hb5⟩:=hcut
 obtain⟨W5,hW5⟩:∃V:World,V=wc:=⟨_,rfl⟩
 subst hW5
 clear a0 a9 hLT hLR
 replace b0:=ab b0 hb5
 replace b1:=ab b1 hb5
 replace b2:=ab b2 hb5
 replace b3:=ab b3 hb5
 replace b4:=ab b4 hb5
 replace b5:=ab b5 hb5
 replace b6:=ab b6 hb5
 replace b7:=ab b7 hb5
 have hQ5:RdQ n W5 [.bool q.ask,.bool q.dist,.slice a1 q.vars.length c1,.slice a2 q.pats.length c2,.slice a3 q.fils.length c3,.slice a4 q.ord.length c4,.int .i64 q.lim,.int .i64 q.off] q:=((H.out.2.2.1.later H.out.2.2.2.2.2.2.2.2.2.1).later H1.out).later hb5
 have hLQ:=Dn n q _ W5 hQ5 H.out.2.2.2.2.2.2.2.2.2.2.2.2 H.out.2.2.2.2.2.2.2.2.1.1 H.out.2.2.2.2.2.2.2.2.1.2.1 H.out.2.2.2.2.2.2.2.2.1.2.2.2.1
 have HI:=Lib.hid (And.intro hi (And.intro hLt (And.intro hc5 (And.intro hLr hb5))))
 clear hi hLt hc5 hLr hb5 hQ5
 go_wp2_with fail
 refine hLQ.mono ?_
 rintro e w2 ⟨ds,rfl,hL2,hb2⟩
 have hL2':=hL2
 obtain⟨g1,g2,g3,g4,xs,rfl,-,-,-,-,-⟩:=hL2'
 have hQi:(Tryz.prog.info? 30).map (·.size)=some 8:=by kernel_rfl
 obtain⟨W4,hW4⟩:∃V:World,(w2.alloc (.cells #[.bool false,.bool false,.slice none 0 0,.slice none 0 0,.slice none 0 0,.slice none 0 0,.int .i64 0,.int .i64 0] 30)).setRow w2.heap.size #[.bool q.ask,.bool q.dist,.slice (some ⟨g1,0,none⟩) q.vars.length (q.vars.length+12),.slice (some ⟨g2,0,none⟩) q.pats.length (q.pats.length+12),.slice (some ⟨g3,0,none⟩) q.fils.length (q.fils.length+12),.slice (some ⟨g4,0,none⟩) q.ord.length (q.ord.length+12),.int .i64 q.lim,.int .i64 q.off]=V:=⟨_,rfl⟩
 have hrow:W4.heap[w2.heap.size]?=some (.cells #[.bool q.ask,.bool q.dist,.slice (some ⟨g1,0,none⟩) q.vars.length (q.vars.length+12),.slice (some ⟨g2,0,none⟩) q.pats.length (q.pats.length+12),.slice (some ⟨g3,0,none⟩) q.fils.length (q.fils.length+12),.slice (some ⟨g4,0,none⟩) q.ord.length (q.ord.length+12),.int .i64 q.lim,.int .i64 q.off] 30 (0,0)):=by rw[←hW4];exact setRow_heap _ _ _ _ _ _ (heap_alloc_new w2 (.cells #[.bool false,.bool false,.slice none 0 0,.slice none 0 0,.slice none 0 0,.slice none 0 0,.int .i64 0,.int .i64 0] 30))
 have hB34:Below w2.heap.size w2 W4:=by rw[←hW4];exact below_setRow ((Below.refl _ _).alloc (Nat.le_refl _) _) (Nat.le_refl _) _
 have hb25:=aa hb2 hB34
 have hB54:=aa (aa H1.out HI.out.2.2.2.2) hb25
 have hBw4:=aa H.out.2.2.2.2.2.2.2.2.2.1 hB54
 obtain⟨B0,hB00⟩:∃g:Nat,w1.heap.size=g:=⟨_,rfl⟩
 obtain⟨B9,hB99⟩:∃g:Nat,W5.heap.size=g:=⟨_,rfl⟩
 have hFr:Fr9 q vars rows A B c d a1 a2 a3 a4 c1 c2 c3 c4 w.heap.size (w.heap.size+1) bi w2.heap.size gA A1 c5 g1 g2 g3 g4 B0 B9 W4:=by
  rw[←hB00,←hB99]
  exact⟨KeepT.below hB54 _ _ _ H.out.2.2.2.2.2.2.2.2.2.2.1,KeepT.below hB54 _ _ _ H.out.2.2.2.2.2.2.2.2.2.2.2.1,KeepT.below hb25 _ _ _ HI.out.1,hrow,HI.out.2.1.below hb25 HI.out.2.1.lt,HI.out.2.2.1,RdL.mono HI.out.2.2.2.1 hb25 (λ_ _ _ h=>aW.later h hb25),hL2.later hB34,H.out.2.2.2.1.later hBw4,H.out.2.2.2.2.1.later hBw4,H.out.2.2.1.later hBw4⟩
 have HFr:=Lib.hid hFr
 have HW4:=Lib.hid hW4
 have HB4:=Lib.hid hBw4
 have HBa:=Lib.hid hB54
 obtain⟨⟨z0,z1⟩,⟨d0,d1,d2,d3,d4,d5,d6,d7⟩,⟨i0,i1⟩,⟨p0,p1,p2,p3,p4,p5,p6,p7⟩⟩:=hFr.cells
 have l4:w.heap.size+1<W4.heap.size:=ae d0
 have lbi:bi<W4.heap.size:=ae i0
 have lbx:w2.heap.size<W4.heap.size:=ae p0
 clear hW4 hb2 hB34 hL2 hB54 hb25 hBw4 hFr hLQ hB00 hB99 HI
 go_wp2_with (refine wpList_store_row rfl 30 _ _ rfl rfl rfl hQi (heap_alloc_new _ _) rfl rfl ?_;rw[HW4.out];clear b0 b1 b2 b3 b4 b5 b6 b7)
 clear hrow
 clear z0 z1 d0 d1 d2 d3 d4 d5 d6 d7 i0 i1 p0 p1 p2 p3 p4 p5 p6 p7
 have HBa0:=HBa
 obtain⟨N,vs,rs,hsm,hPr,hRf⟩:=xW HG.out.1 n q.fils HG.out.2.2.2 (λx hx=>(H.out.2.2.2.2.2.2.2.2.1.2.2.2.2.2.2.1 x hx).e) (λx hx=>(H.out.2.2.2.2.2.2.2.2.1.2.2.2.2.2.2.1 x hx).n)
 have hx4:=bm HFr.out.lq.rdQ
 have hcall:=hPr (some ⟨gA,0,none⟩) A1 (vars.length+12) c5 (some ⟨g3,0,none⟩) (q.fils.length+12) W4 (HFr.out.tabIn HG.out.1) hx4.2.2.2.1
 have HRf:=Lib.hid hRf
 clear hPr hRf hx4
 refine hcall.mono ?_
 rintro e Y1 ⟨v0,v1,rfl,hbY,hT⟩
 obtain⟨A5,c6,B5,cb6,rfl,rfl,-,-⟩:=hT.tab (by have:=hsm.1;omega) (by have:=hsm.2.1;omega) (λr hr=>by have:=hsm.2.2 r hr;omega)
 obtain⟨Z1,hZ1⟩:∃W:World,Y1.alloc (.cells #[.slice A5 vs.length c6,.slice B5 rs.length cb6] 25)=W:=⟨_,rfl⟩
 have hbZ:Below Y1.heap.size Y1 Z1:=by rw[←hZ1];exact blw
 have hgaZ:Z1.heap[Y1.heap.size]?=some (Obj.cells #[.slice A5 vs.length c6,.slice B5 rs.length cb6] 25 (0,0)):=by rw[←hZ1];exact heap_alloc_new _ _
 have HS1:=Lib.hid (And.intro hsm (And.intro (hT.later hbZ) (And.intro (aa hbY hbZ) (And.intro hgaZ hbY.size))))
 have HZ1:=Lib.hid hZ1
 have HF1:=Lib.hid (HFr.out.later (aa hbY hbZ))
 have hs4Z:W4.heap.size<=Z1.heap.size:=(aa hbY hbZ).size
 clear hsm hT hbY hbZ hgaZ hcall hZ1
 obtain⟨⟨z0,z1⟩,⟨d0,d1,d2,d3,d4,d5,d6,d7⟩,⟨i0,i1⟩,⟨p0,p1,p2,p3,p4,p5,p6,p7⟩⟩:=HF1.out.cells
 have lz:=ae d0
 go_upto_region 6 with (fail)
 simp only[HZ1.out]
 go_cut [9,10] from 32 to 39 (λs9 s10 wx=>∃gb A6 c7 B6 cb7,s9=.pointer (some ⟨gb,0,none⟩)/\s10=.int .i64 N/\rG Z1 wx gb A6 c7 B6 cb7 vs rs)
 case first =>
  rename_i hJ hM
  refine Rf.p0 Z1.heap.size _ (.quiet [0,2,3] (.fork 1 8 (.fork 4 8 (.quiet [5,6,7] (.one 8 (.one 9 (.quiet [10] (.done))))) (.one 4 (.quiet [5,6,7] (.one 9 (.quiet [10] (.done)))))) (.one 1 (.one 4 (.quiet [5,6,7] (.one 9 (.quiet [10] (.done)))))))) ?_ (λa w h=>h)
  intro wd hbd hwz
  have y0:=cellL z0 hbd
  have y1:=cellL z1 hbd
  have y4:=cellL d4 hbd
  have HWZ:=Lib.hid hwz
  have hs1:Z1.heap.size<=wd.heap.size:=hbd.size
  clear hwz z0 z1 d0 d1 d2 d3 d4 d5 d6 d7 i0 i1 p0 p1 p2 p3 p4 p5 p6 p7
  refine Rf.pl_quiet ?_
  iterate 3 go_big_quiet_step (fail)
  refine wpQuiet_nil (Rf.pl_fork ?_ ?_)
  ·clear y0 y1 y4
   go_wp2_with (go_at_call 12;refine(dX A B vars.length c rows.length d wd).mono ?_;rintro e w6 ⟨rfl,hb6⟩)
   have hB6:=aa hbd hb6
   refine⟨hb6.mono hs1,Rf.pl_fork ?_ ?_⟩
   ·have hbW:=aa HS1.out.2.2.1 hB6
    have hR7:=HRf.out W4 A B c d a3 c3 w6 (HFr.out.stays hbW HG.out.1 H.out.2.2.2.2.2.2.1 H.out.2.2.2.2.2.2.2.1) (bm (HFr.out.later hbW).rq).2.2.2.1
    go_wp2_with (go_at_call 11;refine hR7.mono ?_;rintro e w7 ⟨A6,c7,B6,cb7,rfl,hb7,hc7,hd7,h8,xs6,h9,h10⟩)
    clear hbW
    have hB7:=aa hB6 hb7
    have hs7:Z1.heap.size<=w7.heap.size:=hB7.size
    refine⟨hb7.mono hB6.size,Rf.pl_quiet ?_⟩
    have hal:Below w7.heap.size w7 (w7.alloc (.cells #[.slice none 0 0,.slice none 0 0] 39)):=blw
    have hSt:StS W4 w7 (w7.alloc (.cells #[.slice none 0 0,.slice none 0 0] 39)):=StS.below (Nat.le_trans hs4Z hs7) hal
    have HF:Hid (rG Z1 ((w7.alloc (.cells #[.slice none 0 0,.slice none 0 0] 39)).setRow w7.heap.size #[.slice A6 vs.length c7,.slice B6 rs.length cb7]) w7.heap.size A6 c7 B6 cb7 vs rs):=oG (heap_alloc_new w7 _) hs7 hs4Z (aa hB7 hal) (λW' k=>h8 W' (hSt.trans k)) (λW' k=>h9 W' (hSt.trans k)) (h10.mono λ_ _ _ h=>h.on hSt.2.2)
    clear h8 h9 h10 hb7 hB7 hB6 hb6 hal hSt hc7 hd7 hR7 hbd
    iterate 3 go_big_quiet_step (fail)
    refine wpQuiet_nil (Rf.pl_one ?_)
    go_wp2
    first|refine⟨(Below.refl _ _).alloc hs7 _,Rf.pl_one ?_⟩|refine Rf.pl_one ?_
    go_wp2_with (refine wpList_store_row rfl 39 _ _ rfl rfl rfl az (heap_alloc_new _ _) rfl rfl ?_)
    first|refine⟨below_setRow (Below.refl _ _) hs7 _,Rf.pl_quiet ?_⟩|refine Rf.pl_quiet ?_
    try go_frame
    iterate 1 go_big_quiet_step (fail)
    refine wpQuiet_nil (Rf.pl_done ?_)
    refine hM _ _ (Met.intro (hJ _ _ ?_))
    (repeat apply Exists.intro)
    exact⟨⟨_,_,_,_,_,rfl,rfl,HF.out⟩,rfl⟩
   ·go_wp2
    have hal:Below w6.heap.size w6 (w6.alloc (.cells #[.slice none 0 0,.slice none 0 0] 39)):=blw
    have hg:=heap_alloc_new w6 (.cells #[.slice none 0 0,.slice none 0 0] 39)
    first|refine⟨(Below.refl _ _).alloc hB6.size _,Rf.pl_one ?_⟩|refine Rf.pl_one ?_
    have hB8:=aa hB6 hal
    generalize w6.alloc (.cells #[.slice none 0 0,.slice none 0 0] 39)=w8 at *
    have hbW:=aa HS1.out.2.2.1 hB8
    have hR7:=HRf.out W4 A B c d a3 c3 w8 (HFr.out.stays hbW HG.out.1 H.out.2.2.2.2.2.2.1 H.out.2.2.2.2.2.2.2.1) (bm (HFr.out.later hbW).rq).2.2.2.1
    go_wp2_with (go_at_call 11;refine hR7.mono ?_;rintro e w7 ⟨A6,c7,B6,cb7,rfl,hb7,hc7,hd7,h8,xs6,h9,h10⟩)
    clear hbW
    have hB7:=aa hB8 hb7
    refine⟨hb7.mono hB8.size,Rf.pl_quiet ?_⟩
    have hg2:=KeepT.below hb7 _ _ _ hg
    have HG2:=Lib.hid hg2
    have hs6:Z1.heap.size<=w6.heap.size:=hB6.size
    have HF:Hid (rG Z1 (w7.setRow w6.heap.size #[.slice A6 vs.length c7,.slice B6 rs.length cb7]) w6.heap.size A6 c7 B6 cb7 vs rs):=oG hg2 hs6 hs4Z hB7 h8 h9 h10
    clear h8 h9 h10 hb7 hB7 hB6 hB8 hb6 hal hg hg2 hc7 hd7 hR7 hbd
    iterate 3 go_big_quiet_step (fail)
    refine wpQuiet_nil (Rf.pl_one ?_)
    go_wp2_with (refine wpList_store_row rfl 39 _ _ rfl rfl rfl az HG2.out rfl rfl ?_)
    first|refine⟨below_setRow (Below.refl _ _) hs6 _,Rf.pl_quiet ?_⟩|refine Rf.pl_quiet ?_
    try go_frame
    iterate 1 go_big_quiet_step (fail)
    refine wpQuiet_nil (Rf.pl_done ?_)
    refine hM _ _ (Met.intro (hJ _ _ ?_))
    (repeat apply Exists.intro)
    exact⟨⟨_,_,_,_,_,rfl,rfl,HF.out⟩,rfl⟩
  ·clear y0 y1 y4
   go_wp2
   have hal:Below wd.heap.size wd (wd.alloc (.cells #[.slice none 0 0,.slice none 0 0] 39)):=blw
   have hg:=heap_alloc_new wd (.cells #[.slice none 0 0,.slice none 0 0] 39)
   first|refine⟨(Below.refl _ _).alloc hs1 _,Rf.pl_one ?_⟩|refine Rf.pl_one ?_
   have hB8:=aa hbd hal
   generalize wd.alloc (.cells #[.slice none 0 0,.slice none 0 0] 39)=w8 at *
   go_wp2_with (go_at_call 12;refine(dX A B vars.length c rows.length d w8).mono ?_;rintro e w6 ⟨rfl,hb6⟩)
   have hB6:=aa hB8 hb6
   refine⟨hb6.mono hB8.size,Rf.pl_one ?_⟩
   have hbW:=aa HS1.out.2.2.1 hB6
   have hR7:=HRf.out W4 A B c d a3 c3 w6 (HFr.out.stays hbW HG.out.1 H.out.2.2.2.2.2.2.1 H.out.2.2.2.2.2.2.2.1) (bm (HFr.out.later hbW).rq).2.2.2.1
   go_wp2_with (go_at_call 11;refine hR7.mono ?_;rintro e w7 ⟨A6,c7,B6,cb7,rfl,hb7,hc7,hd7,h8,xs6,h9,h10⟩)
   clear hbW
   have hB7:=aa hB6 hb7
   refine⟨hb7.mono hB6.size,Rf.pl_quiet ?_⟩
   have hg2:=KeepT.below hb7 _ _ _ (KeepT.below hb6 _ _ _ hg)
   have HG2:=Lib.hid hg2
   have HF:Hid (rG Z1 (w7.setRow wd.heap.size #[.slice A6 vs.length c7,.slice B6 rs.length cb7]) wd.heap.size A6 c7 B6 cb7 vs rs):=oG hg2 hs1 hs4Z hB7 h8 h9 h10
   clear h8 h9 h10 hb7 hB7 hB6 hB8 hb6 hal hg hg2 hc7 hd7 hR7 hbd
   iterate 3 go_big_quiet_step (fail)
   refine wpQuiet_nil (Rf.pl_one ?_)
   go_wp2_with (refine wpList_store_row rfl 39 _ _ rfl rfl rfl az HG2.out rfl rfl ?_)
   first|refine⟨below_setRow (Below.refl _ _) hs1 _,Rf.pl_quiet ?_⟩|refine Rf.pl_quiet ?_
   try go_frame
   iterate 1 go_big_quiet_step (fail)
   refine wpQuiet_nil (Rf.pl_done ?_)
   refine hM _ _ (Met.intro (hJ _ _ ?_))
   (repeat apply Exists.intro)
   exact⟨⟨_,_,_,_,_,rfl,rfl,HF.out⟩,rfl⟩
 obtain⟨gb,A6,c7,B6,cb7,rfl,rfl,hR6⟩:=hcut
 obtain⟨X6,hX6⟩:∃V:World,V=wc:=⟨_,rfl⟩
 subst hX6
 clear z0 z1 d0 d1 d2 d3 d4 d5 d6 d7 i0 i1 p0 p1 p2 p3 p4 p5 p6 p7 HRf
 have hB6:=hR6.2.2.1
 have HF6:=Lib.hid (HF1.out.later hB6)
 have hga6:=KeepT.below hB6 _ _ _ HS1.out.2.2.2.1
 have HR6:=Lib.hid (And.intro hR6 (And.intro hga6 (HS1.out.2.1.later hB6)))
 have g0:X6.cell? ⟨Y1.heap.size,0,none⟩=some (.slice A5 vs.length c6):=by rw[World.cell?,hga6];rfl
 have g9:X6.cell? ⟨Y1.heap.size,1,none⟩=some (.slice B5 rs.length cb6):=by rw[World.cell?,hga6];rfl
 have e0:X6.cell? ⟨gb,0,none⟩=some (.slice A6 vs.length c7):=by rw[World.cell?,hR6.1];rfl
 have e9:X6.cell? ⟨gb,1,none⟩=some (.slice B6 rs.length cb7):=by rw[World.cell?,hR6.1];rfl
 have l6:=ae g0
 have l7:=ae e0
 clear hR6 hB6 hga6
 obtain⟨⟨z0,z1⟩,⟨d0,d1,d2,d3,d4,d5,d6,d7⟩,⟨i0,i1⟩,⟨p0,p1,p2,p3,p4,p5,p6,p7⟩⟩:=HF6.out.cells
 have l8:=ae d0
 have l9:=ae i0
 clear d0 d1 d2 d3 d4 d5 d6 d7 p0 p1 p2 p3 p4 p5 p6 p7
 go_wp2
 refine Rf.p0 X6.heap.size _ (.quiet [0,2] (.one 1 (.one 3 (.one 4 (.quiet [5,6,7,8,9,10,11,12,13] (.one 14 (.quiet [15,16] (.done)))))))) ?_ (λa w h=>h)
 intro wd hbd hwz
 have y0:=cellL z0 hbd
 have y1:=cellL z1 hbd
 have y2:=cellL i0 hbd
 have y3:=cellL i1 hbd
 have HWZ:=Lib.hid hwz
 have hs1:X6.heap.size<=wd.heap.size:=hbd.size
 clear hwz z0 z1 i0 i1
 refine Rf.pl_quiet ?_
 iterate 2 go_big_quiet_step (fail)
 refine wpQuiet_nil (Rf.pl_one ?_)
 clear y0 y1 y2 y3
 have hTi:=(HF6.out.later hbd).tabIn HG.out.1
 have hRi:=lE vars rows (some ⟨gA,0,none⟩) A1 vars.length (vars.length+12) rows.length c5 wd rfl rfl (by have:=HG.out.1.1;omega) (by have:=HG.out.1.2.1;omega) (by omega) hTi.1.hv hTi.1.hr
 go_wp2_with (go_at_call 13;refine hRi.mono ?_;rintro e w5 ⟨rfl,hb5⟩)
 refine⟨hb5.mono hs1,Rf.pl_one ?_⟩
 have hB5:=aa hbd hb5
 have hs5:X6.heap.size<=w5.heap.size:=hB5.size
 clear hRi hTi
 go_wp2_with (go_at_call 12;refine(dX A B vars.length c rows.length d w5).mono ?_;rintro e w6 ⟨rfl,hb6⟩)
 refine⟨hb6.mono hs5,Rf.pl_one ?_⟩
 have hB6:=aa hB5 hb6
 have hs6:X6.heap.size<=w6.heap.size:=hB6.size
 have hTr:=(HF6.out.later hB6).tab HG.out.1 H.out.2.2.2.2.2.2.1 H.out.2.2.2.2.2.2.2.1
 have hRr:=bW vars rows A B vars.length c rows.length d w6 rfl rfl (by have:=HG.out.1.1;omega) (by have:=HG.out.1.2.1;omega) H.out.2.2.2.2.2.2.1 hTr.1.hv hTr.1.hr
 go_wp2_with (go_at_call 14;refine hRr.mono ?_;rintro e w7 ⟨rfl,hb7⟩)
 refine⟨hb7.mono hs6,Rf.pl_quiet ?_⟩
 have hB7:=aa hB6 hb7
 have hs7:X6.heap.size<=w7.heap.size:=hB7.size
 have y4:=cellL g0 hB7
 have y5:=cellL g9 hB7
 have y6:=cellL e0 hB7
 have y7:=cellL e9 hB7
 have hRR:(aw vars rows == aw vars rows)=true:=by simp
 have hNN:(N == N)=true:=by simp
 have hSm:=iy (c6:=c6) (d6:=cb6) (c7:=c7) (d7:=cb7) HS1.out.1 (HR6.out.2.2.later hB7) (HR6.out.1.2.2.2.1.later hB7) (HR6.out.1.2.2.2.2.later hB7)
 have HB7:=Lib.hid hB7
 clear hRr hTr hb7 hb6 hb5 hbd hB5 hB6 hB7
 iterate 9 go_big_quiet_step (fail)
 refine wpQuiet_nil (Rf.pl_one ?_)
 clear y4 y5 y6 y7
 go_wp2_with (go_at_call 15;refine hSm.mono ?_;rintro e w8 ⟨rfl,hb8⟩)
 refine⟨hb8.mono hs7,Rf.pl_quiet ?_⟩
 have hB8:=aa HB7.out hb8
 iterate 2 go_big_quiet_step (fail)
 refine wpQuiet_nil (Rf.pl_done ?_)
 have hT8:=HR6.out.2.2.later hB8
 have hB48:=aa (aa HS1.out.2.2.1 HR6.out.1.2.2.1) hB8
 have hOv:=fb hT8 hB48.size HS1.out.1.1 HS1.out.1.2.1 HS1.out.1.2.2
 have hgx:=And.intro (KeepT.below hB8 _ _ _ HR6.out.2.1) (KeepT.below hB8 _ _ _ HR6.out.1.1)
 have k0:=ab g0 hB8
 have k9:=ab g9 hB8
 have HB48:=Lib.hid hB48
 have HGX:=Lib.hid hgx
 have hgaW:W4.heap.size<=Y1.heap.size:=HS1.out.2.2.2.2
 have hgbW:W4.heap.size<=gb:=Nat.le_trans hs4Z HR6.out.1.2.1
 have HBQ:=Lib.hid (Nat.le_refl W4.heap.size)
 clear hSm hb8 hB8 hT8 hB48 hgx g0 g9 e0 e9
 go_wp2_with (first|(go_at_call 16;refine hOv.mono ?_;rintro e X1 ⟨⟨vv,rfl⟩,hSh⟩;have HBX1:=Lib.hid (HB48.out.trans (hSh.1.mono HBQ.out));have HGAX1:=Lib.hid (And.intro (hSh.2.2.1.1 _ _ _ HGX.out.1) (hSh.2.2.1.2 _ _ _ HGX.out.2));obtain⟨⟨z0,z1⟩,⟨d0,d1,d2,d3,d4,d5,d6,d7⟩,⟨i0,i1⟩,⟨p0,p1,p2,p3,p4,p5,p6,p7⟩⟩:=(HFr.out.later HBX1.out).cells;have lx1:=ae d0;have lx2:=ae i0;have lx3:=ae p0;clear hSh hOv k0 k9 HB48 HGX HBQ)|fail)
 clear HS1 HR6 HF6 HF1 HZ1
 obtain⟨N,vs,rs,hsm,hPr,hRf⟩:=xU HG.out.1 q.ord HG.out.2.2.1
 have HFX:=Lib.hid (HFr.out.later HBX1.out)
 have hx4:=bm HFX.out.lq.rdQ
 have hcall:=hPr (some ⟨gA,0,none⟩) A1 (vars.length+12) c5 (some ⟨g4,0,none⟩) (q.ord.length+12) X1 (HFX.out.tabIn HG.out.1) (H.out.1.step (aa HB4.out HBX1.out)) hx4.2.2.2.2
 have HRf:=Lib.hid hRf
 clear z0 z1 d0 d1 d2 d3 d4 d5 d6 d7 i0 i1 p0 p1 p2 p3 p4 p5 p6 p7 hPr hRf hx4 lx1 lx2 lx3
 refine hcall.mono ?_
 rintro e Y ⟨v0,v1,rfl,hbY,hT⟩
 obtain⟨A5,c6,B5,cb6,rfl,rfl,-,-⟩:=hT.tab (by have:=hsm.1;omega) (by have:=hsm.2.1;omega) (λr hr=>by have:=hsm.2.2 r hr;omega)
 obtain⟨s1,s2,s3,s4,s5,s6⟩:=gv HBX1.out hbY HGAX1.out.1 HGAX1.out.2 hgaW hT
 have HP:=Lib.hid (And.intro hsm (And.intro s1 (And.intro s2 (And.intro s3 (And.intro s4 (And.intro s5 s6))))))
 clear hsm s1 s2 s3 s4 s5 s6 hbY hT hcall HFX
 go_wp2_with (first|(refine wpList_store_row rfl 25 _ _ rfl rfl rfl dE HP.out.2.1 rfl rfl ?_;generalize Y.setRow Y1.heap.size #[.slice A5 vs.length c6,.slice B5 rs.length cb6]=Z at *)|fail)
 refine Rf.p0 W4.heap.size _ (.quiet [0,2,3] (.one 1 (.one 4 (.quiet [5,6,7] (.one 8 (.quiet [9] (.done))))))) ?_ (λa w h=>h)
 intro wd hbd hwz
 have HWZ:=Lib.hid hwz
 have hbW:=HP.out.2.2.2.2.1.trans (hbd.mono HP.out.2.2.2.2.1.size)
 obtain⟨⟨z0,z1⟩,⟨d0,d1,d2,d3,d4,d5,d6,d7⟩,⟨i0,i1⟩,⟨p0,p1,p2,p3,p4,p5,p6,p7⟩⟩:=HFr.out.cells
 have y0:=cellL z0 hbW
 have y1:=cellL z1 hbW
 have yd5:=cellL d5 hbW
 clear hwz z0 z1 d0 d1 d2 d3 d4 d5 d6 d7 i0 i1 p0 p1 p2 p3 p4 p5 p6 p7
 refine Rf.pl_quiet ?_
 iterate 3 go_big_quiet_step (fail)
 refine wpQuiet_nil (Rf.pl_one ?_)
 clear y0 y1 yd5
 go_wp2_with (go_at_call 12;refine(dX A B vars.length c rows.length d wd).mono ?_;rintro e w6 ⟨rfl,hb6⟩)
 refine⟨hb6.mono hbW.size,Rf.pl_one ?_⟩
 have hbW6:=hbW.trans (hb6.mono hbW.size)
 have hR7:=HRf.out W4 A B c d a4 c4 w6 (HFr.out.stays hbW6 HG.out.1 H.out.2.2.2.2.2.2.1 H.out.2.2.2.2.2.2.2.1) (bm (HFr.out.later hbW6).rq).2.2.2.2
 go_wp2_with (go_at_call 18;refine hR7.mono ?_;rintro e w7 ⟨A6,c7,B6,cb7,rfl,hb7,hc7,hd7,h8,xs6,h9,h10⟩)
 refine⟨hb7.mono hbW6.size,Rf.pl_quiet ?_⟩
 have hBd:=aa hbd (aa hb6 hb7)
 obtain⟨q1,q2,q3,q4,q5,q6,q7⟩:=fm (r0:=.slice A6 vs.length c7) (r1:=.slice B6 rs.length cb7) HP.out.2.2.2.2.1 hBd HP.out.2.2.1 HP.out.2.2.2.1 hgbW HP.out.2.2.2.2.2.1 HP.out.2.2.2.2.2.2
 have hrr9:RdRs (w7.setRow gb #[.slice A6 vs.length c7,.slice B6 rs.length cb7]) B6 rs:=⟨xs6,h9 _ q6,h10.mono λ_ _ _ h=>(h.on q6.2.2).rd⟩
 have HQ:=Lib.hid (And.intro q1 (And.intro q2 (And.intro q3 (And.intro q4 (And.intro q5 (And.intro q7 (And.intro (h8 _ q6) hrr9)))))))
 clear q1 q2 q3 q4 q5 q6 q7 hrr9 h8 h9 h10 hc7 hd7 hb7 hb6 hR7 hbW6 hBd hbd hbW
 iterate 3 go_big_quiet_step (fail)
 refine wpQuiet_nil (Rf.pl_one ?_)
 go_wp2_with (refine wpList_store_row rfl 39 _ _ rfl rfl rfl az HQ.out.1 rfl rfl ?_)
 first|refine⟨below_setRow (Below.refl _ _) hgbW _,Rf.pl_quiet ?_⟩|refine Rf.pl_quiet ?_
 try go_frame
 iterate 1 go_big_quiet_step (fail)
 refine wpQuiet_nil (Rf.pl_done ?_)
 generalize w7.setRow gb #[.slice A6 vs.length c7,.slice B6 rs.length cb7]=Z2 at *
 have g0:Z2.cell? ⟨Y1.heap.size,0,none⟩=some (.slice A5 vs.length c6):=(by rw[World.cell?,HQ.out.2.2.1];rfl)
 have g9:Z2.cell? ⟨Y1.heap.size,1,none⟩=some (.slice B5 rs.length cb6):=(by rw[World.cell?,HQ.out.2.2.1];rfl)
 have e0:Z2.cell? ⟨gb,0,none⟩=some (.slice A6 vs.length c7):=(by rw[World.cell?,HQ.out.2.1];rfl)
 have e9:Z2.cell? ⟨gb,1,none⟩=some (.slice B6 rs.length cb7):=(by rw[World.cell?,HQ.out.2.1];rfl)
 have hNN:(N == N)=true:=(by simp)
 have hSm:=iy (c6:=c6) (d6:=cb6) (c7:=c7) (d7:=cb7) HP.out.1 HQ.out.2.2.2.2.1 HQ.out.2.2.2.2.2.2.1 HQ.out.2.2.2.2.2.2.2
 have lg1:=ae g0
 have lg2:=ae e0
 go_wp2_with (first|(go_at_call 15;refine hSm.mono ?_;rintro e w8 ⟨rfl,hb8⟩;have k0:=ab g0 hb8;have k9:=ab g9 hb8;have HB48:=Lib.hid (aa HQ.out.2.2.2.1 hb8);have HGX:=Lib.hid (And.intro (KeepT.below hb8 _ _ _ HQ.out.2.2.1) (KeepT.below hb8 _ _ _ HQ.out.2.1));have HBQ:=Lib.hid HBX1.out.size;have hOv:=fb (HQ.out.2.2.2.2.1.later hb8) (Nat.le_trans HQ.out.2.2.2.2.2.1 hb8.size) HP.out.1.1 HP.out.1.2.1 HP.out.1.2.2;clear g0 g9 e0 e9 hSm hb8)|(go_at_call 16;refine hOv.mono ?_;rintro e X2 ⟨⟨vv,rfl⟩,hSh⟩;have HBX2:=Lib.hid (HB48.out.trans (hSh.1.mono HBQ.out));have HGAX2:=Lib.hid (And.intro (hSh.2.2.1.1 _ _ _ HGX.out.1) (hSh.2.2.1.2 _ _ _ HGX.out.2));obtain⟨⟨z0,z1⟩,⟨d0,d1,d2,d3,d4,d5,d6,d7⟩,⟨i0,i1⟩,⟨p0,p1,p2,p3,p4,p5,p6,p7⟩⟩:=(HFr.out.later HBX2.out).cells;have lx1:=ae d0;have lx2:=ae i0;have lx3:=ae p0;clear hSh hOv k0 k9 HB48 HGX HBQ)|fail)
 clear HRf HP HQ
 obtain⟨N,vs,rs,hsm,hPr,hRf⟩:=qs HG.out.1 q.vars HG.out.2.1
 have HFX:=Lib.hid (HFr.out.later HBX2.out)
 have hx4:=bm HFX.out.lq.rdQ
 have hcall:=hPr (some ⟨gA,0,none⟩) A1 (vars.length+12) c5 (some ⟨g1,0,none⟩) (q.vars.length+12) X2 (HFX.out.tabIn HG.out.1) (by omega) hx4.2.1
 have HRf:=Lib.hid hRf
 clear z0 z1 d0 d1 d2 d3 d4 d5 d6 d7 i0 i1 p0 p1 p2 p3 p4 p5 p6 p7 hPr hRf hx4 lx1 lx2 lx3
 refine hcall.mono ?_
 rintro e Y ⟨v0,v1,rfl,hbY,hT⟩
 obtain⟨A5,c6,B5,cb6,rfl,rfl,-,-⟩:=hT.tab (by have:=hsm.1;omega) (by have:=hsm.2.1;omega) (λr hr=>by have:=hsm.2.2 r hr;omega)
 obtain⟨s1,s2,s3,s4,s5,s6⟩:=gv HBX2.out hbY HGAX2.out.1 HGAX2.out.2 hgaW hT
 have HP:=Lib.hid (And.intro hsm (And.intro s1 (And.intro s2 (And.intro s3 (And.intro s4 (And.intro s5 s6))))))
 clear hsm s1 s2 s3 s4 s5 s6 hbY hT hcall HFX
 go_wp2_with (first|(refine wpList_store_row rfl 25 _ _ rfl rfl rfl dE HP.out.2.1 rfl rfl ?_;generalize Y.setRow Y1.heap.size #[.slice A5 vs.length c6,.slice B5 rs.length cb6]=Z at *)|fail)
 refine Rf.p0 W4.heap.size _ (.quiet [0,2,3] (.one 1 (.one 4 (.quiet [5,6,7] (.one 8 (.quiet [9] (.done))))))) ?_ (λa w h=>h)
 intro wd hbd hwz
 have HWZ:=Lib.hid hwz
 have hbW:=HP.out.2.2.2.2.1.trans (hbd.mono HP.out.2.2.2.2.1.size)
 obtain⟨⟨z0,z1⟩,⟨d0,d1,d2,d3,d4,d5,d6,d7⟩,⟨i0,i1⟩,⟨p0,p1,p2,p3,p4,p5,p6,p7⟩⟩:=HFr.out.cells
 have y0:=cellL z0 hbW
 have y1:=cellL z1 hbW
 have yd2:=cellL d2 hbW
 clear hwz z0 z1 d0 d1 d2 d3 d4 d5 d6 d7 i0 i1 p0 p1 p2 p3 p4 p5 p6 p7
 refine Rf.pl_quiet ?_
 iterate 3 go_big_quiet_step (fail)
 refine wpQuiet_nil (Rf.pl_one ?_)
 clear y0 y1 yd2
 go_wp2_with (go_at_call 12;refine(dX A B vars.length c rows.length d wd).mono ?_;rintro e w6 ⟨rfl,hb6⟩)
 refine⟨hb6.mono hbW.size,Rf.pl_one ?_⟩
 have hbW6:=hbW.trans (hb6.mono hbW.size)
 have hR7:=HRf.out W4 A B c d a1 c1 w6 (HFr.out.stays hbW6 HG.out.1 H.out.2.2.2.2.2.2.1 H.out.2.2.2.2.2.2.2.1) (bm HFr.out.rq).1 (λW' k=>(bm HFr.out.rq).2.1.later (hbW6.trans k.2.2.2))
 go_wp2_with (go_at_call 20;refine hR7.mono ?_;rintro e w7 ⟨A6,c7,B6,cb7,rfl,hb7,hc7,hd7,h8,xs6,h9,h10⟩)
 refine⟨hb7.mono hbW6.size,Rf.pl_quiet ?_⟩
 have hBd:=aa hbd (aa hb6 hb7)
 obtain⟨q1,q2,q3,q4,q5,q6,q7⟩:=fm (r0:=.slice A6 vs.length c7) (r1:=.slice B6 rs.length cb7) HP.out.2.2.2.2.1 hBd HP.out.2.2.1 HP.out.2.2.2.1 hgbW HP.out.2.2.2.2.2.1 HP.out.2.2.2.2.2.2
 have hrr9:RdRs (w7.setRow gb #[.slice A6 vs.length c7,.slice B6 rs.length cb7]) B6 rs:=⟨xs6,h9 _ q6,h10.mono λ_ _ _ h=>(h.on q6.2.2).rd⟩
 have HQ:=Lib.hid (And.intro q1 (And.intro q2 (And.intro q3 (And.intro q4 (And.intro q5 (And.intro q7 (And.intro (h8 _ q6) hrr9)))))))
 clear q1 q2 q3 q4 q5 q6 q7 hrr9 h8 h9 h10 hc7 hd7 hb7 hb6 hR7 hbW6 hBd hbd hbW
 iterate 3 go_big_quiet_step (fail)
 refine wpQuiet_nil (Rf.pl_one ?_)
 go_wp2_with (refine wpList_store_row rfl 39 _ _ rfl rfl rfl az HQ.out.1 rfl rfl ?_)
 first|refine⟨below_setRow (Below.refl _ _) hgbW _,Rf.pl_quiet ?_⟩|refine Rf.pl_quiet ?_
 try go_frame
 iterate 1 go_big_quiet_step (fail)
 refine wpQuiet_nil (Rf.pl_done ?_)
 generalize w7.setRow gb #[.slice A6 vs.length c7,.slice B6 rs.length cb7]=Z2 at *
 have g0:Z2.cell? ⟨Y1.heap.size,0,none⟩=some (.slice A5 vs.length c6):=(by rw[World.cell?,HQ.out.2.2.1];rfl)
 have g9:Z2.cell? ⟨Y1.heap.size,1,none⟩=some (.slice B5 rs.length cb6):=(by rw[World.cell?,HQ.out.2.2.1];rfl)
 have e0:Z2.cell? ⟨gb,0,none⟩=some (.slice A6 vs.length c7):=(by rw[World.cell?,HQ.out.2.1];rfl)
 have e9:Z2.cell? ⟨gb,1,none⟩=some (.slice B6 rs.length cb7):=(by rw[World.cell?,HQ.out.2.1];rfl)
 have hNN:(N == N)=true:=(by simp)
 have hSm:=iy (c6:=c6) (d6:=cb6) (c7:=c7) (d7:=cb7) HP.out.1 HQ.out.2.2.2.2.1 HQ.out.2.2.2.2.2.2.1 HQ.out.2.2.2.2.2.2.2
 have lg1:=ae g0
 have lg2:=ae e0
 go_wp2_with (first|(go_at_call 15;refine hSm.mono ?_;rintro e w8 ⟨rfl,hb8⟩;have k0:=ab g0 hb8;have k9:=ab g9 hb8;have HB48:=Lib.hid (aa HQ.out.2.2.2.1 hb8);have HGX:=Lib.hid (And.intro (KeepT.below hb8 _ _ _ HQ.out.2.2.1) (KeepT.below hb8 _ _ _ HQ.out.2.1));have HBQ:=Lib.hid HBX2.out.size;have hOv:=fb (HQ.out.2.2.2.2.1.later hb8) (Nat.le_trans HQ.out.2.2.2.2.2.1 hb8.size) HP.out.1.1 HP.out.1.2.1 HP.out.1.2.2;clear g0 g9 e0 e9 hSm hb8)|(go_at_call 16;refine hOv.mono ?_;rintro e X3 ⟨⟨vv,rfl⟩,hSh⟩;have HBX3:=Lib.hid (HB48.out.trans (hSh.1.mono HBQ.out));have HGAX3:=Lib.hid (And.intro (hSh.2.2.1.1 _ _ _ HGX.out.1) (hSh.2.2.1.2 _ _ _ HGX.out.2));obtain⟨⟨z0,z1⟩,⟨d0,d1,d2,d3,d4,d5,d6,d7⟩,⟨i0,i1⟩,⟨p0,p1,p2,p3,p4,p5,p6,p7⟩⟩:=(HFr.out.later HBX3.out).cells;have lx1:=ae d0;have lx2:=ae i0;have lx3:=ae p0;clear hSh hOv k0 k9 HB48 HGX HBQ)|fail)
 clear HRf HP HQ
 obtain⟨N,vs,rs,hsm,hPr,hRf⟩:=xV HG.out.1
 have HFX:=Lib.hid (HFr.out.later HBX3.out)
 have hx4:=bm HFX.out.lq.rdQ
 have hcall:=hPr (some ⟨gA,0,none⟩) A1 (vars.length+12) c5 X3 (HFX.out.tabIn HG.out.1) (H.out.2.1.step (aa HB4.out HBX3.out))
 have HRf:=Lib.hid hRf
 clear z0 z1 d0 d1 d2 d3 d4 d5 d6 d7 i0 i1 p0 p1 p2 p3 p4 p5 p6 p7 hPr hRf hx4 lx1 lx2 lx3
 refine hcall.mono ?_
 rintro e Y ⟨v0,v1,rfl,hbY,hT⟩
 obtain⟨A5,c6,B5,cb6,rfl,rfl,-,-⟩:=hT.tab (by have:=hsm.1;omega) (by have:=hsm.2.1;omega) (λr hr=>by have:=hsm.2.2 r hr;omega)
 obtain⟨s1,s2,s3,s4,s5,s6⟩:=gv HBX3.out hbY HGAX3.out.1 HGAX3.out.2 hgaW hT
 have HP:=Lib.hid (And.intro hsm (And.intro s1 (And.intro s2 (And.intro s3 (And.intro s4 (And.intro s5 s6))))))
 clear hsm s1 s2 s3 s4 s5 s6 hbY hT hcall HFX
 go_wp2_with (first|(refine wpList_store_row rfl 25 _ _ rfl rfl rfl dE HP.out.2.1 rfl rfl ?_;generalize Y.setRow Y1.heap.size #[.slice A5 vs.length c6,.slice B5 rs.length cb6]=Z at *;obtain⟨⟨z0,z1⟩,⟨d0,d1,d2,d3,d4,d5,d6,d7⟩,⟨i0,i1⟩,⟨p0,p1,p2,p3,p4,p5,p6,p7⟩⟩:=(HFr.out.later HP.out.2.2.2.2.1).cells;have lx1:=ae d0)|fail)
 go_wp2_with (go_at_call 12;refine(dX A B vars.length c rows.length d Z).mono ?_;rintro e w6 ⟨rfl,hb6⟩)
 clear z0 z1 d0 d1 d2 d3 d4 d5 d6 d7 i0 i1 p0 p1 p2 p3 p4 p5 p6 p7 lx1
 have hbW6:=HP.out.2.2.2.2.1.trans (hb6.mono HP.out.2.2.2.2.1.size)
 have hR7:=HRf.out W4 A B c d w6 (HFr.out.stays hbW6 HG.out.1 H.out.2.2.2.2.2.2.1 H.out.2.2.2.2.2.2.2.1)
 refine hR7.mono ?_
 rintro e w7 ⟨A6,c7,B6,cb7,rfl,hb7,hc7,hd7,h8,xs6,h9,h10⟩
 have hBd:=aa hb6 hb7
 obtain⟨q1,q2,q3,q4,q5,q6,q7⟩:=fm (r0:=.slice A6 vs.length c7) (r1:=.slice B6 rs.length cb7) HP.out.2.2.2.2.1 hBd HP.out.2.2.1 HP.out.2.2.2.1 hgbW HP.out.2.2.2.2.2.1 HP.out.2.2.2.2.2.2
 have hrr9:RdRs (w7.setRow gb #[.slice A6 vs.length c7,.slice B6 rs.length cb7]) B6 rs:=⟨xs6,h9 _ q6,h10.mono λ_ _ _ h=>(h.on q6.2.2).rd⟩
 have HQ:=Lib.hid (And.intro q1 (And.intro q2 (And.intro q3 (And.intro q4 (And.intro q5 (And.intro q7 (And.intro (h8 _ q6) hrr9)))))))
 clear q1 q2 q3 q4 q5 q6 q7 hrr9 h8 h9 h10 hc7 hd7 hb7 hb6 hR7 hbW6 hBd
 go_wp2_with (first|(refine wpList_store_row rfl 39 _ _ rfl rfl rfl az HQ.out.1 rfl rfl ?_;generalize w7.setRow gb #[.slice A6 vs.length c7,.slice B6 rs.length cb7]=Z2 at *;have g0:Z2.cell? ⟨Y1.heap.size,0,none⟩=some (.slice A5 vs.length c6):=(by rw[World.cell?,HQ.out.2.2.1];rfl);have g9:Z2.cell? ⟨Y1.heap.size,1,none⟩=some (.slice B5 rs.length cb6):=(by rw[World.cell?,HQ.out.2.2.1];rfl);have e0:Z2.cell? ⟨gb,0,none⟩=some (.slice A6 vs.length c7):=(by rw[World.cell?,HQ.out.2.1];rfl);have e9:Z2.cell? ⟨gb,1,none⟩=some (.slice B6 rs.length cb7):=(by rw[World.cell?,HQ.out.2.1];rfl);have hNN:(N == N)=true:=(by simp);have hSm:=iy (c6:=c6) (d6:=cb6) (c7:=c7) (d7:=cb7) HP.out.1 HQ.out.2.2.2.2.1 HQ.out.2.2.2.2.2.2.1 HQ.out.2.2.2.2.2.2.2;have lg1:=ae g0;have lg2:=ae e0)|(go_at_call 15;refine hSm.mono ?_;rintro e w8 ⟨rfl,hb8⟩;have k0:=ab g0 hb8;have k9:=ab g9 hb8;have HB48:=Lib.hid (aa HQ.out.2.2.2.1 hb8);have HGX:=Lib.hid (And.intro (KeepT.below hb8 _ _ _ HQ.out.2.2.1) (KeepT.below hb8 _ _ _ HQ.out.2.1));have HBQ:=Lib.hid HBX3.out.size;have hOv:=fb (HQ.out.2.2.2.2.1.later hb8) (Nat.le_trans HQ.out.2.2.2.2.2.1 hb8.size) HP.out.1.1 HP.out.1.2.1 HP.out.1.2.2;clear g0 g9 e0 e9 hSm hb8)|(go_at_call 16;refine hOv.mono ?_;rintro e X4 ⟨⟨vv,rfl⟩,hSh⟩;have HBX4:=Lib.hid (HB48.out.trans (hSh.1.mono HBQ.out));have HGAX4:=Lib.hid (And.intro (hSh.2.2.1.1 _ _ _ HGX.out.1) (hSh.2.2.1.2 _ _ _ HGX.out.2));obtain⟨⟨z0,z1⟩,⟨d0,d1,d2,d3,d4,d5,d6,d7⟩,⟨i0,i1⟩,⟨p0,p1,p2,p3,p4,p5,p6,p7⟩⟩:=(HFr.out.later HBX4.out).cells;have lx1:=ae d0;have lx2:=ae i0;have lx3:=ae p0;clear hSh hOv k0 k9 HB48 HGX HBQ)|fail)
 clear HRf HP HQ
 obtain⟨N,vs,rs,hsm,hPr,hRf⟩:=vq HG.out.1 q.off q.lim
 have HFX:=Lib.hid (HFr.out.later HBX4.out)
 have hx4:=bm HFX.out.lq.rdQ
 have hcall:=hPr (some ⟨gA,0,none⟩) A1 (vars.length+12) c5 X4 (HFX.out.tabIn HG.out.1)
 have HRf:=Lib.hid hRf
 clear z0 z1 d0 d1 d2 d3 d4 d5 d6 d7 i0 i1 p0 p1 p2 p3 p4 p5 p6 p7 hPr hRf hx4 lx1 lx2 lx3
 refine hcall.mono ?_
 rintro e Y ⟨v0,v1,rfl,hbY,hT⟩
 obtain⟨A5,c6,B5,cb6,rfl,rfl,-,-⟩:=hT.tab (by have:=hsm.1;omega) (by have:=hsm.2.1;omega) (λr hr=>by have:=hsm.2.2 r hr;omega)
 obtain⟨s1,s2,s3,s4,s5,s6⟩:=gv HBX4.out hbY HGAX4.out.1 HGAX4.out.2 hgaW hT
 have HP:=Lib.hid (And.intro hsm (And.intro s1 (And.intro s2 (And.intro s3 (And.intro s4 (And.intro s5 s6))))))
 clear hsm s1 s2 s3 s4 s5 s6 hbY hT hcall HFX
 go_wp2_with (first|(refine wpList_store_row rfl 25 _ _ rfl rfl rfl dE HP.out.2.1 rfl rfl ?_;generalize Y.setRow Y1.heap.size #[.slice A5 vs.length c6,.slice B5 rs.length cb6]=Z at *)|fail)
 refine Rf.p0 W4.heap.size _ (.quiet [0,2,3,4,5] (.one 1 (.one 6 (.quiet [7,8,9] (.one 10 (.quiet [11] (.done))))))) ?_ (λa w h=>h)
 intro wd hbd hwz
 have HWZ:=Lib.hid hwz
 have hbW:=HP.out.2.2.2.2.1.trans (hbd.mono HP.out.2.2.2.2.1.size)
 obtain⟨⟨z0,z1⟩,⟨d0,d1,d2,d3,d4,d5,d6,d7⟩,⟨i0,i1⟩,⟨p0,p1,p2,p3,p4,p5,p6,p7⟩⟩:=HFr.out.cells
 have y0:=cellL z0 hbW
 have y1:=cellL z1 hbW
 have yd7:=cellL d7 hbW
 have yd6:=cellL d6 hbW
 clear hwz z0 z1 d0 d1 d2 d3 d4 d5 d6 d7 i0 i1 p0 p1 p2 p3 p4 p5 p6 p7
 refine Rf.pl_quiet ?_
 iterate 5 go_big_quiet_step (fail)
 refine wpQuiet_nil (Rf.pl_one ?_)
 clear y0 y1 yd7 yd6
 go_wp2_with (go_at_call 12;refine(dX A B vars.length c rows.length d wd).mono ?_;rintro e w6 ⟨rfl,hb6⟩)
 refine⟨hb6.mono hbW.size,Rf.pl_one ?_⟩
 have hbW6:=hbW.trans (hb6.mono hbW.size)
 have hR7:=HRf.out W4 A B c d w6 (HFr.out.stays hbW6 HG.out.1 H.out.2.2.2.2.2.2.1 H.out.2.2.2.2.2.2.2.1)
 go_wp2_with (go_at_call 24;refine hR7.mono ?_;rintro e w7 ⟨A6,c7,B6,cb7,rfl,hb7,hc7,hd7,h8,xs6,h9,h10⟩)
 refine⟨hb7.mono hbW6.size,Rf.pl_quiet ?_⟩
 have hBd:=aa hbd (aa hb6 hb7)
 obtain⟨q1,q2,q3,q4,q5,q6,q7⟩:=fm (r0:=.slice A6 vs.length c7) (r1:=.slice B6 rs.length cb7) HP.out.2.2.2.2.1 hBd HP.out.2.2.1 HP.out.2.2.2.1 hgbW HP.out.2.2.2.2.2.1 HP.out.2.2.2.2.2.2
 have hrr9:RdRs (w7.setRow gb #[.slice A6 vs.length c7,.slice B6 rs.length cb7]) B6 rs:=⟨xs6,h9 _ q6,h10.mono λ_ _ _ h=>(h.on q6.2.2).rd⟩
 have HQ:=Lib.hid (And.intro q1 (And.intro q2 (And.intro q3 (And.intro q4 (And.intro q5 (And.intro q7 (And.intro (h8 _ q6) hrr9)))))))
 clear q1 q2 q3 q4 q5 q6 q7 hrr9 h8 h9 h10 hc7 hd7 hb7 hb6 hR7 hbW6 hBd hbd hbW
 iterate 3 go_big_quiet_step (fail)
 refine wpQuiet_nil (Rf.pl_one ?_)
 go_wp2_with (refine wpList_store_row rfl 39 _ _ rfl rfl rfl az HQ.out.1 rfl rfl ?_)
 first|refine⟨below_setRow (Below.refl _ _) hgbW _,Rf.pl_quiet ?_⟩|refine Rf.pl_quiet ?_
 try go_frame
 iterate 1 go_big_quiet_step (fail)
 refine wpQuiet_nil (Rf.pl_done ?_)
 generalize w7.setRow gb #[.slice A6 vs.length c7,.slice B6 rs.length cb7]=Z2 at *
 have g0:Z2.cell? ⟨Y1.heap.size,0,none⟩=some (.slice A5 vs.length c6):=(by rw[World.cell?,HQ.out.2.2.1];rfl)
 have g9:Z2.cell? ⟨Y1.heap.size,1,none⟩=some (.slice B5 rs.length cb6):=(by rw[World.cell?,HQ.out.2.2.1];rfl)
 have e0:Z2.cell? ⟨gb,0,none⟩=some (.slice A6 vs.length c7):=(by rw[World.cell?,HQ.out.2.1];rfl)
 have e9:Z2.cell? ⟨gb,1,none⟩=some (.slice B6 rs.length cb7):=(by rw[World.cell?,HQ.out.2.1];rfl)
 have hNN:(N == N)=true:=(by simp)
 have hSm:=iy (c6:=c6) (d6:=cb6) (c7:=c7) (d7:=cb7) HP.out.1 HQ.out.2.2.2.2.1 HQ.out.2.2.2.2.2.2.1 HQ.out.2.2.2.2.2.2.2
 have lg1:=ae g0
 have lg2:=ae e0
 go_wp2_with (first|(go_at_call 15;refine hSm.mono ?_;rintro e w8 ⟨rfl,hb8⟩;have k0:=ab g0 hb8;have k9:=ab g9 hb8;have HB48:=Lib.hid (aa HQ.out.2.2.2.1 hb8);have HGX:=Lib.hid (And.intro (KeepT.below hb8 _ _ _ HQ.out.2.2.1) (KeepT.below hb8 _ _ _ HQ.out.2.1));have HBQ:=Lib.hid HBX4.out.size;have hOv:=fb (HQ.out.2.2.2.2.1.later hb8) (Nat.le_trans HQ.out.2.2.2.2.2.1 hb8.size) HP.out.1.1 HP.out.1.2.1 HP.out.1.2.2;clear g0 g9 e0 e9 hSm hb8)|(go_at_call 16;refine hOv.mono ?_;rintro e X5 ⟨⟨vv,rfl⟩,hSh⟩;have HBX5:=Lib.hid (HB48.out.trans (hSh.1.mono HBQ.out));have HGAX5:=Lib.hid (And.intro (hSh.2.2.1.1 _ _ _ HGX.out.1) (hSh.2.2.1.2 _ _ _ HGX.out.2));obtain⟨⟨z0,z1⟩,⟨d0,d1,d2,d3,d4,d5,d6,d7⟩,⟨i0,i1⟩,⟨p0,p1,p2,p3,p4,p5,p6,p7⟩⟩:=(HFr.out.later HBX5.out).cells;have lx1:=ae d0;have lx2:=ae i0;have lx3:=ae p0;clear hSh hOv k0 k9 HB48 HGX HBQ)|fail)
 have HFx:=Lib.hid (HFr.out.later HBX5.out)
 have HBw:=Lib.hid (aa HB4.out HBX5.out)
 have hKT:=ob vars gA A c X5 HFx.out.lt HFx.out.rv hlv
 refine hKT.mono ?_
 rintro e u1 ⟨rfl,hc1⟩
 have HF1:=Lib.hid (HFx.out.later hc1)
 have HB1:=Lib.hid (aa HBw.out hc1)
 have HC1:=Lib.hid (aa HBX5.out hc1)
 clear z0 z1 d0 d1 d2 d3 d4 d5 d6 d7 i0 i1 p0 p1 p2 p3 p4 p5 p6 p7 hKT hc1
 obtain⟨⟨z0,z1⟩,⟨d0,d1,d2,d3,d4,d5,d6,d7⟩,⟨i0,i1⟩,⟨p0,p1,p2,p3,p4,p5,p6,p7⟩⟩:=HF1.out.cells
 have hKR:=yS B0 rows A1 B rows.length c5 d u1 rfl (by have:=HG.out.1.2.1;omega) (λr hr=>by have:=(HG.out.1.2.2 r hr).1;omega) HF1.out.lr HF1.out.rr
 go_wp2_with fail
 refine hKR.mono ?_
 rintro e u2 ⟨rfl,hc2⟩
 have HF2:=Lib.hid (HF1.out.later hc2)
 have HB2:=Lib.hid (aa HB1.out hc2)
 have HC2:=Lib.hid (aa HC1.out hc2)
 clear z0 z1 d0 d1 d2 d3 d4 d5 d6 d7 i0 i1 p0 p1 p2 p3 p4 p5 p6 p7 hKR hc2
 obtain⟨⟨z0,z1⟩,⟨d0,d1,d2,d3,d4,d5,d6,d7⟩,⟨i0,i1⟩,⟨p0,p1,p2,p3,p4,p5,p6,p7⟩⟩:=HF2.out.cells
 have hKQ:=Do n B9 q _ _ u2 HF2.out.lq HF2.out.rq H.out.2.2.2.2.2.2.2.2.2.2.2.2 H.out.2.2.2.2.2.2.2.2.1.1 H.out.2.2.2.2.2.2.2.2.1.2.1 H.out.2.2.2.2.2.2.2.2.1.2.2.2.1
 go_wp2_with fail
 refine hKQ.mono ?_
 rintro e u3 ⟨rfl,hc3⟩
 have HB3:=Lib.hid (aa HB2.out hc3)
 have hA9:=HAw.out u3 (aa HBa0.out (aa HC2.out hc3))
 clear z0 z1 d0 d1 d2 d3 d4 d5 d6 d7 i0 i1 p0 p1 p2 p3 p4 p5 p6 p7 hKQ hc3
 go_wp2_with (refine hA9.mono ?_;rintro e u4 ⟨rfl,hc4⟩)
 go_ret
 exact⟨rfl,aa HB3.out hc4⟩
end Go.Proofs.YtjldjeenfnahoaaGreatDoor
