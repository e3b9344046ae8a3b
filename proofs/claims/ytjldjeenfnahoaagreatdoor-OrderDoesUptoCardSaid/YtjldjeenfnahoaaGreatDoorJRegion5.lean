/- The program's package term, walked: Show, Compare, Triples a -/
import Derived.Test.YtjldjeenfnahoaaGreatDoorJWr4
set_option maxHeartbeats 4000000
set_option maxRecDepth 100000
namespace Go.Proofs.YtjldjeenfnahoaaGreatDoor
open Go Go.RowKit Um Fm Tx
theorem CG (s:ByteArray) (w:World):Calls Tryz.prog 136 #[.string s] w λe w'=>e=.returned (.bool false)/\w=w':=by
 go_enter Tryz.func136,Tryz.ntmps136
 go_wp2
 all_goals (go_ret;exact⟨by simp,rfl⟩)
theorem ij (x y:ByteArray) (w:World) :
  Calls Tryz.prog 109 #[.string x,.string y] w λe w'=>e=.returned (.int .i64 (bc x.toList y.toList))/\w=w':=by
 go_enter Tryz.func109,Tryz.ntmps109
 go_wp2_with ((refine(CG _ _).mono ?_);(rintro e w1 ⟨rfl,rfl⟩))
 all_goals (go_ret;exact⟨by simp_all[bc],rfl⟩)
theorem DO (s:Int) (w:World):Calls Tryz.prog 141 #[.int .i64 s] w λe w'=>e=.returned (.bool false)/\w=w':=by
 go_enter Tryz.func141,Tryz.ntmps141
 go_wp2
 all_goals (go_ret;exact⟨by simp,rfl⟩)
theorem CY (x y:Int) (w:World) :
  Calls Tryz.prog 112 #[.int .i64 x,.int .i64 y] w λe w'=>e=.returned (.int .i64 (Lib.compareInt x y))/\w=w':=by
 go_enter Tryz.func112,Tryz.ntmps112
 go_wp2_with ((refine(DO _ _).mono ?_);(rintro e w1 ⟨rfl,rfl⟩))
 all_goals (go_ret;refine⟨?_,rfl⟩;unfold Lib.compareInt;simp_all;try (repeat' split)<;>omega)
def orL:List Int->Int
 | []=>0
 | x::r=>if x=0 then orL r else x
theorem yk (x:Int) (r:List Int):orL (x::r)=orZ x (orL r):=rfl
theorem Dx (g:Nat) (xs:List Int) (n c:Nat) (w:World) (hr:Rd w (some ⟨g,0,none⟩) (xs.map (Value.int .i64))) (hn:xs.length=n) (hl:n<=10) :
  Calls Tryz.prog 111 #[.slice (some ⟨g,0,none⟩) n c] w λe w'=>e=.returned (.int .i64 (orL xs))/\w=w':=by
 subst hn
 go_enter Tryz.func111,Tryz.ntmps111
 go_wp2
 go_loop [5,8] (λv i=>∃k:Nat,k<=xs.length/\i=.int .i64 k/\Hid (orL xs=orL (xs.drop k))) (λ_ i=>xs.length-(intOf i).toNat)
 case atStart=>exact⟨0,by omega,rfl,rfl⟩
 case round =>
  obtain⟨k,hk,rfl,H⟩:=hrel
  by_cases hlt:k<xs.length
  ·obtain⟨y,hy⟩:∃y,xs[k]?=some y:=⟨_,List.getElem?_eq_getElem hlt⟩
   obtain⟨g',o',he,hcx⟩:=hr.at_ (j:=k) (u:=.int .i64 y) (by rw[List.getElem?_map,hy];rfl)
   injection he with he;injection he with he1 he2 _
   subst he1;subst he2
   rw[Nat.zero_add]at hcx
   have hd:xs.drop k=y::xs.drop (k+1):=an hy
   have H2:Hid (orL xs=if y=0 then orL (xs.drop (k+1)) else y):=by show _=_;rw[H.out,hd];rfl
   clear H hd hy hr
   by_cases hq:y=0
   ·go_wp2
    go_round
    case rel=>exact⟨k+1,by omega,by go_num,by show _=_;rw[H2.out,if_pos hq]⟩
    case measure=>simp[intOf];omega
   ·go_wp2
    go_ret
    exact⟨by rw[H2.out,if_neg hq];rfl,rfl⟩
  ·have H2:Hid (orL xs=0):=by show _=_;rw[H.out,List.drop_eq_nil_of_le (by omega)];rfl
   clear H hr
   go_wp2
   go_ret
   exact⟨by rw[H2.out];rfl,rfl⟩
abbrev tA (t:Tm):Value:=.agg #[.int .i64 t.k,.string t.x,.string t.l,.string t.y]
def eH (t:Tm):Prop:=t.x.size<=1048576/\t.l.size<=1048576/\t.y.size<=1048576
theorem lL (l:List UInt8):(mkS l).size=l.length:=by show l.toArray.size=_;rw[List.size_toArray]
theorem iL (l:List UInt8):(mkS l).toList=l:=by rw[ByteArray.toList_eq]
theorem kP (t:Tm) (w:World) (hC:dJ w) (hs:eH t):Calls Tryz.prog 108 #[tA t] w λe w'=>e=.returned (.bool (aN t))/\Below w.heap.size w w':=
 uK t w hC.1 (Nat.le_trans hs.1 (by omega)) (Nat.le_trans hs.2.1 (by omega)) (Nat.le_trans hs.2.2 (by omega))
theorem ny (t:Tm) (w:World) (hC:dJ w) (h:aN t=true) (hs:eH t):Calls Tryz.prog 110 #[tA t] w λe w'=>e=.returned (.string (mkS (bh t)))/\Below w.heap.size w w':=
 xe t w hC h hs.1 hs.2.1 hs.2.2
theorem BD {a b:Tm} (ha:aN a=false) (hb:aN b=false):aJ a b=orL [Lib.compareInt a.k b.k,bc a.x.toList b.x.toList,bc a.l.toList b.l.toList,bc a.y.toList b.y.toList]:=by
 unfold aJ cmpW
 rw[ha,hb,if_neg (by decide),if_neg (by decide),if_neg (by decide)]
 simp only[yk,ByteArray.toList_eq]
 rw[show orL []=0 from rfl,vy]
theorem jT (a b:Tm) (w:World) (hC:dJ w) (ha:eH a) (hb:eH b) :
  Calls Tryz.prog 79 #[tA a,tA b] w λe w'=>e=.returned (.int .i64 (aJ a b))/\Below w.heap.size w w':=by
 have hba:Below w.heap.size w (w.alloc (.cells #[.int .i64 a.k,.string a.x,.string a.l,.string a.y] 65)):=(Below.refl _ w).alloc (Nat.le_refl _) _
 have hga:=heap_alloc_new w (.cells #[.int .i64 a.k,.string a.x,.string a.l,.string a.y] 65)
 have hza:(w.alloc (.cells #[.int .i64 a.k,.string a.x,.string a.l,.string a.y] 65)).heap.size=w.heap.size+1:=by simp
 go_enter Tryz.func79,Tryz.ntmps79
 go_upto_region 1 with fail
 generalize w.alloc (.cells #[.int .i64 a.k,.string a.x,.string a.l,.string a.y] 65)=wa at *
 have hbb:Below wa.heap.size wa (wa.alloc (.cells #[.int .i64 b.k,.string b.x,.string b.l,.string b.y] 65)):=(Below.refl _ wa).alloc (Nat.le_refl _) _
 have hgb:=heap_alloc_new wa (.cells #[.int .i64 b.k,.string b.x,.string b.l,.string b.y] 65)
 have hzb:(wa.alloc (.cells #[.int .i64 b.k,.string b.x,.string b.l,.string b.y] 65)).heap.size=w.heap.size+2:=by simp[hza]
 have hga2:=dP hbb hga
 rw[hza]at hgb
 generalize wa.alloc (.cells #[.int .i64 b.k,.string b.x,.string b.l,.string b.y] 65)=w0 at *
 have hb0:Below w.heap.size w w0:=aa hba hbb
 have hC0:=hC.step hb0
 have a0:w0.cell? ⟨w.heap.size,0,none⟩=some (.int .i64 a.k):=by rw[Lib.cell_of_heap hga2];rfl
 have a1:w0.cell? ⟨w.heap.size,1,none⟩=some (.string a.x):=by rw[Lib.cell_of_heap hga2];rfl
 have a2:w0.cell? ⟨w.heap.size,2,none⟩=some (.string a.l):=by rw[Lib.cell_of_heap hga2];rfl
 have a3:w0.cell? ⟨w.heap.size,3,none⟩=some (.string a.y):=by rw[Lib.cell_of_heap hga2];rfl
 have b0:w0.cell? ⟨w.heap.size+1,0,none⟩=some (.int .i64 b.k):=by rw[Lib.cell_of_heap hgb];rfl
 have b1:w0.cell? ⟨w.heap.size+1,1,none⟩=some (.string b.x):=by rw[Lib.cell_of_heap hgb];rfl
 have b2:w0.cell? ⟨w.heap.size+1,2,none⟩=some (.string b.l):=by rw[Lib.cell_of_heap hgb];rfl
 have b3:w0.cell? ⟨w.heap.size+1,3,none⟩=some (.string b.y):=by rw[Lib.cell_of_heap hgb];rfl
 have hsz:w.heap.size<=w0.heap.size:=hb0.size
 have hRa:=λW hB=>kP a W (hC0.step hB) ha
 have hRb:=λW hB=>kP b W (hC0.step hB) hb
 have hTa:=λW hB h=>ny a W (hC0.step hB) h ha
 have hTb:=λW hB h=>ny b W (hC0.step hB) h hb
 have HB0:=Lib.hid hb0
 have HR:Hid (∀x y,aN a=x->aN b=y->aJ a b=if x && y then bc (bh a) (bh b) else if x then -1 else if y then 1 else orL [Lib.compareInt a.k b.k,bc a.x.toList b.x.toList,bc a.l.toList b.l.toList,bc a.y.toList b.y.toList]):=by
  intro x y hx hy
  cases x<;>cases y
  ·rw[BD hx hy];rfl
  ·unfold aJ;rw[hx,hy];rfl
  ·unfold aJ;rw[hx,hy];rfl
  ·unfold aJ;rw[hx,hy];rfl
 clear hga hgb hga2 hza hzb hba hbb hb0 hC hC0
 refine Rf.p0 w0.heap.size _ (.quiet [0,2] (.one 1 (.one 3 (.quiet [4,5] (.done))))) ?_ (λa w h=>h)
 intro wd hbd hwz
 have p0:=cellL a0 hbd
 have p1:=cellL a1 hbd
 have p2:=cellL a2 hbd
 have p3:=cellL a3 hbd
 have q0:=cellL b0 hbd
 have q1:=cellL b1 hbd
 have q2:=cellL b2 hbd
 have q3:=cellL b3 hbd
 have HD:=Lib.hid hbd
 clear hwz hbd
 refine Rf.pl_quiet ?_
 iterate 2 go_big_quiet_step (fail)
 refine wpQuiet_nil (Rf.pl_one ?_)
 clear p0 p1 p2 p3 q0 q1 q2 q3
 go_wp2_with (go_at_call 108;with_reducible refine(hRa _ HD.out).mono ?_;rintro e V1 ⟨rfl,k1⟩)
 have F1:=aa HD.out k1
 refine⟨k1.mono HD.out.size,Rf.pl_one ?_⟩
 go_wp2_with (go_at_call 108;with_reducible refine(hRb _ F1).mono ?_;rintro e V2 ⟨rfl,k2⟩)
 have F2:=aa F1 k2
 refine⟨k2.mono F1.size,Rf.pl_quiet ?_⟩
 clear k1 k2 F1 hRa hRb
 have HF2:=Lib.hid F2
 clear F2
 iterate 2 go_big_quiet_step (fail)
 refine wpQuiet_nil (Rf.pl_done ?_)
 have HTa:=Lib.hid hTa
 have HTb:=Lib.hid hTb
 clear hTa hTb
 cases hra:aN a<;>cases hrb:aN b
 ·have HE:=Lib.hid (HR.out _ _ hra hrb)
  clear HTa HTb
  go_upto_region 8 with fail
  refine Rf.p0 w0.heap.size _ (.quiet [0,1,2,3,5,6,7,8,10,11,12,13,15,16,17,18] (.one 4 (.one 9 (.one 14 (.one 19 (.one 20 (.one 21 (.quiet [22] (.done))))))))) ?_ (λa w h=>h)
  intro we hbe hwz
  have F3:=HF2.out.trans (hbe.mono HF2.out.size)
  have c0:=cellL a0 F3
  have c1:=cellL a1 F3
  have c2:=cellL a2 F3
  have c3:=cellL a3 F3
  have d0:=cellL b0 F3
  have d1:=cellL b1 F3
  have d2:=cellL b2 F3
  have d3:=cellL b3 F3
  have HF3:=Lib.hid F3
  have h1:=CY a.k b.k
  have h2:=ij a.x b.x
  have h3:=ij a.l b.l
  have h4:=ij a.y b.y
  clear hwz hbe F3 a0 a1 a2 a3 b0 b1 b2 b3 hra hrb HR HD HF2
  generalize Lib.compareInt a.k b.k=n1 at *
  generalize bc a.x.toList b.x.toList=n2 at *
  generalize bc a.l.toList b.l.toList=n3 at *
  generalize bc a.y.toList b.y.toList=n4 at *
  refine Rf.pl_quiet ?_
  iterate 16 go_big_quiet_step (fail)
  refine wpQuiet_nil (Rf.pl_one ?_)
  clear c0 c1 c2 c3 d0 d1 d2 d3
  go_wp2_with (go_at_call 112;with_reducible refine(h1 _).mono ?_;rintro e V3 ⟨rfl,rfl⟩)
  refine⟨Below.refl _ _,Rf.pl_one ?_⟩
  go_wp2_with (go_at_call 109;with_reducible refine(h2 _).mono ?_;rintro e V3 ⟨rfl,rfl⟩)
  refine⟨Below.refl _ _,Rf.pl_one ?_⟩
  go_wp2_with (go_at_call 109;with_reducible refine(h3 _).mono ?_;rintro e V3 ⟨rfl,rfl⟩)
  refine⟨Below.refl _ _,Rf.pl_one ?_⟩
  go_wp2_with (go_at_call 109;with_reducible refine(h4 _).mono ?_;rintro e V3 ⟨rfl,rfl⟩)
  refine⟨Below.refl _ _,Rf.pl_one ?_⟩
  have hV:=HF3.out.size
  have h5:=Dx we.heap.size [n1,n2,n3,n4] 4 4 (we.alloc (.cells #[.int .i64 n1,.int .i64 n2,.int .i64 n3,.int .i64 n4] 3)) (Rd.of_block (heap_alloc_new we _) rfl) rfl (by omega)
  have h6:Below w0.heap.size we (we.alloc (.cells #[.int .i64 n1,.int .i64 n2,.int .i64 n3,.int .i64 n4] 3)):=(Below.refl _ _).alloc hV _
  have H6:=Lib.hid h6
  go_wp2_with fail
  refine⟨H6.out,Rf.pl_one ?_⟩
  go_wp2_with (go_at_call 111;with_reducible refine h5.mono ?_;rintro e V4 ⟨rfl,rfl⟩)
  refine⟨Below.refl _ _,Rf.pl_quiet ?_⟩
  iterate 1 go_big_quiet_step (fail)
  refine wpQuiet_nil (Rf.pl_done ?_)
  go_wp2
  go_ret
  exact⟨by rw[HE.out];rfl,HB0.out.trans ((HF3.out.trans H6.out).mono hsz)⟩
 ·have HE:=Lib.hid (HR.out _ _ hra hrb)
  go_wp2
  go_ret
  exact⟨by rw[HE.out];rfl,HB0.out.trans (HF2.out.mono hsz)⟩
 ·have HE:=Lib.hid (HR.out _ _ hra hrb)
  go_wp2
  go_ret
  exact⟨by rw[HE.out];rfl,HB0.out.trans (HF2.out.mono hsz)⟩
 ·have HE:=Lib.hid (HR.out _ _ hra hrb)
  have HTA:Hid (∀W,Below w0.heap.size w0 W->Calls Tryz.prog 110 #[tA a] W λe w'=>e=.returned (.string (mkS (bh a)))/\Below W.heap.size W w'):=λW hb=>HTa.out W hb hra
  have HTB:Hid (∀W,Below w0.heap.size w0 W->Calls Tryz.prog 110 #[tA b] W λe w'=>e=.returned (.string (mkS (bh b)))/\Below W.heap.size W w'):=λW hb=>HTb.out W hb hrb
  have h2:=ij (mkS (bh a)) (mkS (bh b))
  rw[iL,iL]at h2
  clear HTa HTb
  go_upto_region 3 with fail
  refine Rf.p0 w0.heap.size _ (.quiet [0,2] (.one 1 (.one 3 (.one 4 (.quiet [5] (.done)))))) ?_ (λa w h=>h)
  intro we hbe hwz
  have F3:=HF2.out.trans (hbe.mono HF2.out.size)
  have c0:=cellL a0 F3
  have c1:=cellL a1 F3
  have c2:=cellL a2 F3
  have c3:=cellL a3 F3
  have d0:=cellL b0 F3
  have d1:=cellL b1 F3
  have d2:=cellL b2 F3
  have d3:=cellL b3 F3
  have HF3:=Lib.hid F3
  clear hwz hbe F3 a0 a1 a2 a3 b0 b1 b2 b3 hra hrb HR HD HF2
  refine Rf.pl_quiet ?_
  iterate 2 go_big_quiet_step (fail)
  refine wpQuiet_nil (Rf.pl_one ?_)
  clear c0 c1 c2 c3 d0 d1 d2 d3
  go_wp2_with (go_at_call 110;with_reducible refine(HTA.out _ HF3.out).mono ?_;rintro e V3 ⟨rfl,k3⟩)
  have F4:=aa HF3.out k3
  refine⟨k3.mono HF3.out.size,Rf.pl_one ?_⟩
  go_wp2_with (go_at_call 110;with_reducible refine(HTB.out _ F4).mono ?_;rintro e V4 ⟨rfl,k4⟩)
  have F5:=aa F4 k4
  refine⟨k4.mono F4.size,Rf.pl_one ?_⟩
  have HF5:=Lib.hid F5
  clear k3 k4 F4 F5
  go_wp2_with (go_at_call 109;with_reducible refine(h2 _).mono ?_;rintro e V5 ⟨rfl,rfl⟩)
  refine⟨Below.refl _ _,Rf.pl_quiet ?_⟩
  iterate 1 go_big_quiet_step (fail)
  refine wpQuiet_nil (Rf.pl_done ?_)
  go_wp2
  go_ret
  exact⟨by rw[HE.out];rfl,HB0.out.trans (HF5.out.mono hsz)⟩
open Lx Om
theorem bQ {α:Type} (l:List α) {k:Nat} (h:l.length=k):l.drop k=[]:=List.drop_eq_nil_of_le (by omega)
def bD (r:List Tm):Prop:=r.length<=1000000/\∀t∈r,eH t
theorem BF (a b:List Tm) (A B:Option Addr) (c d n m:Nat) (w:World) (hn:a.length=n) (hm:b.length=m) (hC:dJ w) (ha:RdTs w A a) (hb:RdTs w B b) (za:bD a) (zb:bD b) :
  Calls Tryz.prog 80 #[.slice A n c,.slice B m d,.func (.func 79) #[] #[]] w λe w'=>e=.returned (.int .i64 (cmpRow a b))/\Below w.heap.size w w':=by
 have hln:n<=1000000:=by rw[←hn];exact za.1
 have hlm:m<=1000000:=by rw[←hm];exact zb.1
 have HN:=Lib.hid hn
 have HM:=Lib.hid hm
 have HA:=Lib.hid (And.intro ha za)
 have HB:=Lib.hid (And.intro hb zb)
 have HC:=Lib.hid hC
 clear hn hm ha hb za zb hC
 go_enter Tryz.func80,Tryz.ntmps80
 go_wp2
 go_loopw [7,8,9,10,13] (λu7 u8 u9 u10 i wr=>∃k:Nat,k<=n/\k<=m/\i=.int .i64 k/\Hid (cmpRow a b=cmpRow (a.drop k) (b.drop k))/\Hid (Below w.heap.size w wr)) (λ_ _ _ _ i _=>n-(intOf i).toNat)
 case atStart=>exact⟨0,by omega,by omega,rfl,rfl,Below.refl _ _⟩
 case round =>
  obtain⟨k,hk,hkm,rfl,H1,HBw⟩:=hrel
  by_cases hlt:k<n
  ·obtain⟨x,hx⟩:∃x,a[k]?=some x:=⟨_,List.getElem?_eq_getElem (by rw[HN.out];exact hlt)⟩
   obtain⟨g,o,rfl,a0,a1,a2,a3⟩:=(RdTs.later HA.out.1 HBw.out).at4 hx
   have hxs:=HA.out.2.2 x (List.mem_of_getElem? hx)
   by_cases hlt2:k<m
   ·obtain⟨y,hy⟩:∃y,b[k]?=some y:=⟨_,List.getElem?_eq_getElem (by rw[HM.out];exact hlt2)⟩
    obtain⟨g2,o2,rfl,b0,b1,b2,b3⟩:=(RdTs.later HB.out.1 HBw.out).at4 hy
    have hys:=HB.out.2.2 y (List.mem_of_getElem? hy)
    have hg:=ae b0
    have hst:Hid (cmpRow a b=orZ (aJ x y) (cmpRow (a.drop (k+1)) (b.drop (k+1)))):=by
     show _=_
     rw[H1.out,an hx,an hy];rfl
    have hW:Below wr.heap.size wr ((wr.alloc (.cells #[.int .i64 x.k,.string x.x,.string x.l,.string x.y] 65)).alloc (.cells #[.int .i64 y.k,.string y.x,.string y.l,.string y.y] 65)):=blw
    have hcall:=jT x y _ (HC.out.step (aa HBw.out hW)) hxs hys
    have HW:=Lib.hid (aa HBw.out hW)
    have hd1:decide (m<=k)=false:=by simp;omega
    clear hx hy hxs hys hW H1
    by_cases hz:aJ x y=0
    ·have hst2:Hid (cmpRow a b=cmpRow (a.drop (k+1)) (b.drop (k+1))):=by show _=_;rw[hst.out,hz];rfl
     rw[hz]at hcall
     clear hst hz
     go_wp2_with (refine hcall.mono ?_;rintro e w1 ⟨rfl,hb1⟩;have HF:=Lib.hid (aa HW.out hb1);clear hb1 hcall)
     go_roundw
     case rel=>exact⟨k+1,by omega,by omega,by go_num,hst2,HF⟩
     case measure=>simp[intOf];omega
    ·have hst2:Hid (cmpRow a b=aJ x y):=by show _=_;rw[hst.out];unfold orZ;rw[if_neg hz]
     have hz2:(aJ x y != 0)=true:=by rw[bne_iff_ne];exact hz
     generalize aJ x y=z at *
     clear hst hz
     go_wp2_with (refine hcall.mono ?_;rintro e w1 ⟨rfl,hb1⟩;have HF:=Lib.hid (aa HW.out hb1);clear hb1 hcall)
     go_ret
     exact⟨by rw[hst2.out];rfl,HF.out⟩
   ·obtain rfl:k=m:=by omega
    have hst2:Hid (cmpRow a b=1):=by
     show _=_
     rw[H1.out,an hx,bQ b HM.out];rfl
    have hd1:decide (k<=k)=true:=by simp
    have HF:=Lib.hid (aa HBw.out ((Below.refl wr.heap.size wr).alloc (Nat.le_refl _) (.cells #[.int .i64 x.k,.string x.x,.string x.l,.string x.y] 65)))
    clear hx hxs H1
    go_wp2
    go_ret
    exact⟨by rw[hst2.out];rfl,HF.out⟩
  ·obtain rfl:k=n:=by omega
   by_cases hlt2:k<m
   ·have hst2:Hid (cmpRow a b = -1):=by
     show _=_
     obtain⟨y,hy⟩:∃y,b[k]?=some y:=⟨_,List.getElem?_eq_getElem (by rw[HM.out];exact hlt2)⟩
     rw[H1.out,an hy,bQ a HN.out];rfl
    have hd1:decide (k<m)=true:=by simp;omega
    clear H1
    go_wp2
    go_ret
    exact⟨by rw[hst2.out];rfl,HBw.out⟩
   ·obtain rfl:k=m:=by omega
    have hst2:Hid (cmpRow a b=0):=by
     show _=_
     rw[H1.out,bQ a HN.out,bQ b HM.out];rfl
    have hd1:decide (k<k)=false:=by simp
    clear H1
    go_wp2
    go_ret
    exact⟨by rw[hst2.out];rfl,HBw.out⟩
theorem rP:(Tryz.prog.info? 65).map (λi=>(i.zero,i.size,i.bytes))=some (some (.agg #[.int .i64 0,.string ⟨#[]⟩,.string ⟨#[]⟩,.string ⟨#[]⟩]),4,56):=by kernel_rfl
theorem tu:(Tryz.prog.info? 9).map (λi=>(i.zero,i.size,i.bytes))=some (some (.string ⟨#[]⟩),1,16):=by kernel_rfl
theorem cw:(Tryz.prog.info? 69).map (λi=>(i.zero,i.size,i.bytes))=some (some (.slice none 0 0),1,24):=by kernel_rfl
theorem DK (l:List ByteArray):∀u∈l.map Value.string,u.oneCell'=true:=by intro u hu;obtain⟨x,_,rfl⟩:=List.mem_map.1 hu;rfl
theorem zB (l:List Tm) (A:Option Addr) (c:Nat) (w:World) (hr:Rd w A (l.flatMap tmC)) (hl:l.length<=1000000000) :
  Calls Tryz.prog 92 #[.slice A l.length c] w λe w'=>∃v,e=.returned v/\w'.ownsRow w.heap.size 65 4 v l.length (l.flatMap tmC)/\Below w.heap.size w w':=by
 have h1:∀u∈l.flatMap tmC,u.oneCell'=true:=tm1 l
 have hn:(l.flatMap tmC).length=l.length*4:=tm_len l
 have q22:∀(w:World) (a:Option Addr) (n c n' c':Nat),(binOp .eql 69 (.slice a n c) (.slice none n' c')).run Tryz.prog w=.ok (.bool a.isNone) w:=λw a n c n' c'=>Lib.run_eql_slice_nil w _ _ a n c n' c' Tryz.underlying69
 rcases A with _|ad
 ·have h0:l=[]:=by
   rcases hr with h0|⟨g,o,hA,_⟩
   ·rw[h0]at hn;exact List.eq_nil_of_length_eq_zero (by simp at hn;omega)
   ·cases hA
  subst h0
  clear hr h1 hn
  go_enter Tryz.func92,Tryz.ntmps92
  go_wp2
  go_ret
  exact⟨_,rfl,World.ownsRow_nil _ _ _ _,Below.refl _ _⟩
 ·have HR:=Lib.hid hr
  clear hr
  obtain⟨N,hN⟩:∃N,l.length=N:=⟨_,rfl⟩
  rw[hN]at hn hl ⊢
  clear hN
  generalize l.flatMap tmC=xs at *
  go_enter Tryz.func92,Tryz.ntmps92
  go_wp2_with (at_builtin;refine ar rfl rfl Tryz.underlying69 rP rfl (by omega) rfl (World.ownsRow_made w #[] 0 (Nat.le_refl _) (Nat.zero_le _) (by simp)) rfl (HR.out.later ((Below.refl _ _).alloc (Nat.le_refl _) _)) hn h1 (by omega) (by omega) (by simp) ?_;intro v' w1 hown hb1 _;obtain⟨A1,c1,rfl,_,_⟩:=own_slice hown;rw[Nat.zero_add,List.nil_append]at hown)
  go_ret
  exact⟨_,rfl,by simpa using hown,((Below.refl _ w).alloc (Nat.le_refl _) _).trans hb1⟩
theorem oo (l:List ByteArray) (A:Option Addr) (c:Nat) (w:World) (hr:Rd w A (l.map Value.string)) (hl:l.length<=1000000000) :
  Calls Tryz.prog 82 #[.slice A l.length c] w λe w'=>∃v,e=.returned v/\w'.ownsRow w.heap.size 9 1 v l.length (l.map Value.string)/\Below w.heap.size w w':=by
 have h1:∀u∈l.map Value.string,u.oneCell'=true:=DK l
 have hn:(l.map Value.string).length=l.length*1:=(by simp)
 have q22:∀(w:World) (a:Option Addr) (n c n' c':Nat),(binOp .eql 22 (.slice a n c) (.slice none n' c')).run Tryz.prog w=.ok (.bool a.isNone) w:=λw a n c n' c'=>Lib.run_eql_slice_nil w _ _ a n c n' c' Tryz.underlying22
 rcases A with _|ad
 ·have h0:l=[]:=by
   rcases hr with h0|⟨g,o,hA,_⟩
   ·rw[h0]at hn;exact List.eq_nil_of_length_eq_zero (by simp at hn;omega)
   ·cases hA
  subst h0
  clear hr h1 hn
  go_enter Tryz.func82,Tryz.ntmps82
  go_wp2
  go_ret
  exact⟨_,rfl,World.ownsRow_nil _ _ _ _,Below.refl _ _⟩
 ·have HR:=Lib.hid hr
  clear hr
  obtain⟨N,hN⟩:∃N,l.length=N:=⟨_,rfl⟩
  rw[hN]at hn hl ⊢
  clear hN
  generalize l.map Value.string=xs at *
  go_enter Tryz.func82,Tryz.ntmps82
  go_wp2_with (at_builtin;refine ar rfl rfl Tryz.underlying22 tu rfl (by omega) rfl (World.ownsRow_made w #[] 0 (Nat.le_refl _) (Nat.zero_le _) (by simp)) rfl (HR.out.later ((Below.refl _ _).alloc (Nat.le_refl _) _)) hn h1 (by omega) (by omega) (by simp) ?_;intro v' w1 hown hb1 _;obtain⟨A1,c1,rfl,_,_⟩:=own_slice hown;rw[Nat.zero_add,List.nil_append]at hown)
  go_ret
  exact⟨_,rfl,by simpa using hown,((Below.refl _ w).alloc (Nat.le_refl _) _).trans hb1⟩
def kK (b:Nat->Bool) (n:Nat) (S:Nat->World->Prop) (e:Ending) (w':World):Prop:=
 (e=.returned (.int .i64 (-1))/\(∀j,j<n->b j=false)/\S n w')∨∃k:Nat,k<n/\e=.returned (.int .i64 k)/\b k=true/\(∀j,j<k->b j=false)/\S (k+1) w'
theorem pk (F:Nat) (cb:Array Value) (eg:∀args w,(callFunc F args).run Tryz.prog w=.ok (.enter F args) w) (b:Nat->Bool) (S:Nat->World->Prop) (rows:List (List Tm)) (n:Nat) (A:Option Addr) (c:Nat) (w:World) (hn:rows.length=n) (hl:n<=1000000000)
  (hR:∀k W,S k W->RdRs W A rows)
  (hc:∀k row W A' c',rows[k]?=some row->S k W->row.length<=c'->RdTs W A' row->Calls Tryz.prog F (#[.slice A' row.length c']++cb) W λe W'=>e=.returned (.bool (b k))/\S (k+1) W')
  (h0:S 0 w):Calls Tryz.prog 73 #[.slice A n c,.func (.func F) #[] cb] w (kK b n S):=by
 have HN:=Lib.hid hn
 have HR:=Lib.hid hR
 have HC:=Lib.hid hc
 have H0:Hid ((∀j,j<0->b j=false)/\S 0 w):=⟨λ_ h=>by omega,h0⟩
 clear hR hc hn h0
 go_enter Tryz.func73,Tryz.ntmps73
 go_wp2
 go_loopw [5,8] (λv i wr=>∃k:Nat,k<=n/\i=.int .i64 k/\Hid ((∀j,j<k->b j=false)/\S k wr)) (λ_ i _=>n-(intOf i).toNat)
 case atStart=>exact⟨0,by omega,rfl,H0⟩
 case round =>
  clear H0
  obtain⟨k,hk,rfl,H1⟩:=hrel
  by_cases hlt:k<n
  ·obtain⟨row,hrow⟩:∃row,rows[k]?=some row:=⟨_,List.getElem?_eq_getElem (by rw[HN.out];exact hlt)⟩
   obtain⟨g,o,A',c',rfl,hcell,hle,hrd⟩:=(HR.out k wr H1.out.2).at1 hrow
   have hcall:=HC.out k row wr A' c' hrow H1.out.2 hle hrd
   clear hrow hrd hle
   cases hb:b k
   ·have H2:Hid (∀W',S (k+1) W'->(∀j,j<k+1->b j=false)/\S (k+1) W'):=λW' h=>⟨λj hj=>by
     by_cases e:j=k
     ·rw[e];exact hb
     ·exact H1.out.1 j (by omega),h⟩
    rw[hb]at hcall
    clear hb H1
    go_wp2_with (go_at_fn F;refine hcall.mono ?_;rintro e w1 ⟨rfl,hS⟩;have HS:=Lib.hid hS;clear hS hcall hcell)
    go_roundw
    case rel=>exact⟨k+1,by omega,by go_num,H2.out _ HS.out⟩
    case measure=>simp[intOf];omega
   ·have H2:Hid (∀W',S (k+1) W'->kK b n S (.returned (.int .i64 k)) W'):=λW' h=>.inr ⟨k,hlt,rfl,hb,H1.out.1,h⟩
    rw[hb]at hcall
    clear hb H1
    go_wp2_with (go_at_fn F;refine hcall.mono ?_;rintro e w1 ⟨rfl,hS⟩;have HS:=Lib.hid hS;clear hS hcall hcell)
    go_ret
    exact H2.out _ HS.out
  ·obtain rfl:k=n:=by omega
   have H2:Hid (kK b k S (.returned (.int .i64 (-1))) wr):=.inl ⟨rfl,H1.out.1,H1.out.2⟩
   clear H1
   go_wp2
   go_ret
   exact H2.out
theorem Bn (F:Nat) (cb:Array Value) (eg:∀args w,(callFunc F args).run Tryz.prog w=.ok (.enter F args) w) (p:List Tm->Bool) (rows:List (List Tm)) (n:Nat) (A:Option Addr) (c:Nat) (w:World) (hn:rows.length=n) (hl:n<=1000000000) (hr:RdRs w A rows)
  (hc:∀row A' c',row∈rows->row.length<=c'->RdTs w A' row->Calls Tryz.prog F (#[.slice A' row.length c']++cb) w λe W'=>e=.returned (.bool (p row))/\w=W') :
  Calls Tryz.prog 43 #[.slice A n c,.func (.func F) #[] cb] w λe w'=>e=.returned (.bool (rows.any p))/\w=w':=by
 have hI:=pk F cb eg (λk=>((rows[k]?).map p).getD false) (λ_ W=>w=W) rows n A c w hn hl (λk W e=>by subst e;exact hr)
  (λk row W A' c' h1 h2 h3 h4=>by
   subst h2
   have:=hc row A' c' (List.mem_of_getElem? h1) h3 h4
   rw[h1];exact this) rfl
 have HA:Hid (∀(e:Ending) (w':World),kK (λk=>((rows[k]?).map p).getD false) n (λ_ W=>w=W) e w'->∃i:Int,e=.returned (.int .i64 i)/\decide (0<=i)=rows.any p/\w=w'):=by
  intro e w' h
  rcases h with ⟨h1,h2,h3⟩|⟨k,h1,h2,h3,h4,h5⟩
  ·refine⟨_,h1,?_,h3⟩
   symm
   rw[show decide ((0:Int) <= -1)=false from rfl,List.any_eq_false]
   intro x hx
   obtain⟨j,hj⟩:=List.mem_iff_getElem?.1 hx
   have:=h2 j (by rw[←hn];exact(List.getElem?_eq_some_iff.1 hj).1)
   simp only[hj,Option.map_some,Option.getD_some]at this
   simp[this]
  ·refine⟨_,h2,?_,h5⟩
   rw[decide_eq_true (by omega:(0:Int)<=(k:Int))]
   symm
   rw[List.any_eq_true]
   dsimp only at h3
   cases hx:rows[k]? with
   | none=>rw[hx]at h3;cases h3
   | some x =>
    rw[hx]at h3
    exact⟨x,List.mem_of_getElem? hx,h3⟩
 generalize rows.any p=q at HA ⊢
 clear hr hc hn
 go_enter Tryz.func43,Tryz.ntmps43
 go_wp2_with (go_at_call 73;refine hI.mono ?_;intro e w1 hD;obtain⟨i,rfl,hd,rfl⟩:=HA.out e w1 hD;have Hd:=Lib.hid hd;clear hd hD hI HA)
 go_ret
 exact⟨by rw[←Hd.out];rfl,rfl⟩
namespace Om
variable {α:Type}
def iH [DecidableEq α] (acc:List α) (r:α):List α:=if r∈acc then acc else acc++[r]
def br [DecidableEq α] (l:List α):List α:=l.foldl iH []
section
variable [DecidableEq α]
theorem jm (l:List α) (r:α):br (l++[r])=iH (br l) r:=by simp[br,List.foldl_append]
theorem iG (l:List α) (x:α):x∈br l↔x∈l:=by
 rw[←List.reverse_reverse l]
 induction l.reverse with
 | nil=>simp[br]
 | cons r l ih =>
  rw[List.reverse_cons,jm]
  unfold iH
  split
  ·rename_i h
   rw[ih,List.mem_append]
   refine⟨.inl,λh2=>h2.elim id λe=>?_⟩
   simp only[List.mem_cons,List.not_mem_nil,or_false]at e
   subst e;exact ih.1 (by
    by_cases hx:x∈br l.reverse
    ·exact hx
    ·exact absurd h hx)
  ·rw[List.mem_append,List.mem_append,ih]
end
def aI (b:Nat->Bool) (l:List α):Nat->List α
 | 0=>[]
 | k+1=>if b k then aI b l k else aI b l k++l[k]?.toList
theorem kG (b:Nat->Bool) (l:List α):∀k,(aI b l k).length<=k
 | 0=>Nat.le_refl _
 | k+1=>by
  have:=kG b l k
  unfold aI
  split
  ·omega
  ·rw[List.length_append]
   have:l[k]?.toList.length<=1:=by cases l[k]?<;>simp
   omega
theorem iu (l:List α) (k:Nat):l.take (k+1)=l.take k++l[k]?.toList:=List.take_add_one
theorem ke {b:Nat->Bool} {l:List α} (p:α->Bool) (h:∀k x,l[k]?=some x->b k = !p x):∀k,k<=l.length->aI b l k=(l.take k).filter p
 | 0,_=>by simp[aI]
 | k+1,hk=>by
  have hx:l[k]?=some l[k]:=List.getElem?_eq_getElem hk
  have ih:=ke p h k (by omega)
  unfold aI
  rw[iu,List.filter_append,←ih,h k _ hx,hx]
  cases hp:p l[k]<;>simp[hp]
theorem oa [DecidableEq α] {b:Nat->Bool} {l:List α} (h:∀k x,l[k]?=some x->b k=decide (x∈l.take k)):∀k,k<=l.length->aI b l k=br (l.take k)
 | 0,_=>by simp[aI,br]
 | k+1,hk=>by
  have hx:l[k]?=some l[k]:=List.getElem?_eq_getElem hk
  have ih:=oa h k (by omega)
  unfold aI
  rw[iu,hx,Option.toList_some,jm,←ih,h k _ hx]
  unfold iH
  have hm:l[k]∈aI b l k↔l[k]∈l.take k:=by rw[ih,iG]
  by_cases hd:l[k]∈l.take k
  ·rw[if_pos (decide_eq_true hd),if_pos (hm.2 hd)]
  ·rw[if_neg (by simp[hd]),if_neg (λh=>hd (hm.1 h))]
theorem sE {le:α->α->Prop} (tr:∀x y z,le x y->le y z->le x z) {l:List α} (hs:l.Pairwise le) {x:α} {k:Nat} (hk:k<=l.length)
  (h1:∀j y,k<=j->l[j]?=some y->le x y) (h2:∀y,0<k->l[k-1]?=some y->le y x):(l.take k++x::l.drop k).Pairwise le:=by
 have hx:∀y∈l.drop k,le x y:=λy hy=>by
  obtain⟨j,hj⟩:=List.mem_iff_getElem?.1 hy
  rw[List.getElem?_drop]at hj
  exact h1 _ y (by omega) hj
 have hb:∀y∈l.take k,le y x:=λy hy=>by
  obtain⟨j,hj⟩:=List.mem_iff_getElem?.1 hy
  rw[List.getElem?_take]at hj
  split at hj
  ·rename_i hjk
   have hlast:l[k-1]?=some l[k-1]:=List.getElem?_eq_getElem (by omega)
   have h3:=h2 _ (by omega) hlast
   by_cases e:j=k-1
   ·subst e;rw[hlast]at hj;injection hj with hj;rw[←hj];exact h3
   ·have hj':=(List.getElem?_eq_some_iff.1 hj)
    obtain⟨hj1,hj2⟩:=hj'
    have:=List.pairwise_iff_getElem.1 hs j (k-1) hj1 (by omega) (by omega)
    rw[hj2]at this
    exact tr _ _ _ this h3
  ·cases hj
 have hsplit:=hs
 rw[←List.take_append_drop k l,List.pairwise_append]at hsplit
 rw[List.pairwise_append]
 refine⟨hsplit.1,List.pairwise_cons.2 ⟨hx,hsplit.2.1⟩,λa ha b hb'=>?_⟩
 rcases List.mem_cons.1 hb' with rfl|hb'
 ·exact hb a ha
 ·exact tr _ _ _ (hb a ha) (hx b hb')
theorem yY (l:List α) (x:α) (k:Nat):(l.take k++x::l.drop k).Perm (l++[x]):=by
 refine List.perm_middle.trans ?_
 rw[List.take_append_drop]
 exact(List.perm_append_singleton x l).symm
end Om
theorem Bm (l:List ByteArray) (x:ByteArray) (A:Option Addr) (c n:Nat) (w:World) (hn:l.length=n) (hl:n<=1000000000) (hr:Rd w A (l.map Value.string)) :
  Calls Tryz.prog 72 #[.slice A n c,.string x] w λe w'=>e=.returned (.bool (Lib.containsS l x))/\w=w':=by
 subst hn
 rcases hr with h0|⟨g,o,rfl,hc⟩
 ·obtain rfl:l=[]:=by simpa using h0
  have:=cO A c x w
  exact this.mono λe w' h=>⟨h.1,h.2.symm⟩
 ·refine(dI g o l.length c l x w (Nat.le_refl _) (by omega) λj hj=>?_).mono λe w' h=>?_
  ·have e:l[j]?=some l[j]:=List.getElem?_eq_getElem hj
   have:=hc j (.string l[j]) (by rw[List.getElem?_map,e];rfl)
   rw[List.getD_eq_getElem?_getD,e]
   exact this
  ·rw[List.take_length]at h
   exact⟨h.1,h.2.symm⟩
theorem ft {α:Type} {l:List α} {k:Nat} {x:α} (hx:l[k]?=some x):(l.take (k+1)).Nodup↔(l.take k).Nodup/\x ∉ l.take k:=by
 rw[ah hx,List.nodup_append]
 constructor
 ·rintro⟨h1,_,h3⟩
  exact⟨h1,λh=>h3 x h x (by simp) rfl⟩
 ·rintro⟨h1,h2⟩
  exact⟨h1,by simp,λa ha b hb e=>by simp only[List.mem_cons,List.not_mem_nil,or_false]at hb;subst hb;subst e;exact h2 ha⟩
theorem jo {α:Type} {l:List α} {k:Nat} {x:α} (hx:l[k]?=some x) (hm:x∈l.take k):¬ l.Nodup:=λh=>by
 have h2:(l.take (k+1)).Nodup:=h.sublist (List.take_sublist _ _)
 exact((ft hx).1 h2).2 hm
theorem nN (l:List ByteArray) (A:Option Addr) (c n:Nat) (w:World) (hn:l.length=n) (hl:n<=1000000000) (hc:n<=c) (hr:Rd w A (l.map Value.string)) :
  Calls Tryz.prog 42 #[.slice A n c] w λe w'=>e=.returned (.bool (decide l.Nodup))/\w=w':=by
 have HN:=Lib.hid hn
 clear hn
 go_enter Tryz.func42,Tryz.ntmps42
 go_wp2
 go_loop [3,4,7] (λu v i=>∃k:Nat,k<=n/\i=.int .i64 k/\Hid (l.take k).Nodup) (λ_ _ i=>n-(intOf i).toNat)
 case atStart=>exact⟨0,by omega,rfl,by show List.Nodup _;simp⟩
 case round =>
  obtain⟨k,hk,rfl,H⟩:=hrel
  by_cases hlt:k<n
  ·obtain⟨x,hx⟩:∃x,l[k]?=some x:=⟨_,List.getElem?_eq_getElem (by rw[HN.out];exact hlt)⟩
   obtain⟨g,o,rfl,hcx⟩:=hr.at_ (j:=k) (u:=.string x) (by rw[List.getElem?_map,hx];rfl)
   have hrt:Rd w (some ⟨g,o,none⟩) ((l.take k).map Value.string):=by rw[List.map_take];exact hr.take k
   have hcall:=Bm (l.take k) x (some ⟨g,o,none⟩) c k w (by rw[List.length_take,HN.out];omega) (by omega) hrt
   cases hm:Lib.containsS (l.take k) x
   ·have H2:Hid (l.take (k+1)).Nodup:=(ft hx).2 ⟨H.out,λh=>by rw[(Lib.containsS_iff _ _).2 h]at hm;cases hm⟩
    rw[hm]at hcall
    clear hx H hr hrt hm
    go_wp2_with (go_at_call 72;refine hcall.mono ?_;rintro e w1 ⟨rfl,rfl⟩)
    go_round
    case rel=>exact⟨k+1,by omega,by go_num,H2⟩
    case measure=>simp[intOf];omega
   ·have H2:Hid (decide l.Nodup=false):=decide_eq_false (jo hx ((Lib.containsS_iff _ _).1 hm))
    rw[hm]at hcall
    clear hx H hr hrt hm
    go_wp2_with (go_at_call 72;refine hcall.mono ?_;rintro e w1 ⟨rfl,rfl⟩)
    go_ret
    exact⟨by rw[H2.out];rfl,rfl⟩
  ·have H2:Hid (decide l.Nodup=true):=decide_eq_true (by
    have:=H.out
    rwa [List.take_of_length_le (by rw[HN.out];omega)]at this)
   clear H hr
   go_wp2
   go_ret
   exact⟨by rw[H2.out];rfl,rfl⟩
def aw (vars:List ByteArray) (rows:List (List Tm)):Bool:=decide vars.Nodup && !rows.any λr=>r.length != vars.length
theorem Cu (A B:Option Addr) (n c m d:Nat) (p:Addr) (w:World) (hp:w.cell? p=some (.slice B m d)) :
  Calls Tryz.prog 41 #[.slice A n c,.pointer (some p)] w λe w'=>e=.returned (.bool (n != m))/\w=w':=by
 cases h:(n != m)
 ·obtain rfl:n=m:=by simpa using h
  clear h
  go_enter Tryz.func41,Tryz.ntmps41
  go_wp2
  go_ret
  exact⟨by simp,rfl⟩
 ·have h1:((n:Int) != (m:Int))=true:=by
   rw[bne_iff_ne]at h ⊢
   omega
  clear h
  go_enter Tryz.func41,Tryz.ntmps41
  go_wp2
  go_ret
  exact⟨by first|rw[h1]|simp[],rfl⟩
theorem lE (vars:List ByteArray) (rows:List (List Tm)) (A B:Option Addr) (n c m d:Nat) (w:World) (hn:vars.length=n) (hm:rows.length=m) (hln:n<=1000000000) (hlm:m<=1000000000) (hnc:n<=c) (hv:Rd w A (vars.map Value.string)) (hr:RdRs w B rows) :
  Calls Tryz.prog 13 #[.agg #[.slice A n c,.slice B m d]] w λe w'=>e=.returned (.bool (aw vars rows))/\Below w.heap.size w w':=by
 have hb:Below w.heap.size w (w.alloc (.cells #[.slice A n c,.slice B m d] 25)):=blw
 have hU:=nN vars A c n _ hn hln hnc (hv.later hb)
 have hH:=Bn 41 #[.pointer (some ⟨w.heap.size,0,none⟩)] (enters_of Tryz.func41 (by kernel_rfl) rfl) (λr=>r.length != vars.length) rows m B d _ hm hlm (hr.later hb)
  (λrow A' c' _ _ _=>by rw[hn];exact Cu A' A row.length c' n c ⟨w.heap.size,0,none⟩ _ (by rw[World.cell?,heap_alloc_new];rfl))
 have hd:Hid (aw vars rows=(decide vars.Nodup && !rows.any λr=>r.length != vars.length)):=rfl
 have HB:=Lib.hid hb
 generalize (rows.any λr=>r.length != vars.length)=q at *
 generalize aw vars rows=z at *
 clear hv hr hn hm hb
 cases hu:decide vars.Nodup
 ·rw[hu]at hU hd
  go_enter Tryz.func13,Tryz.ntmps13
  go_wp2_with (go_at_call 42;refine hU.mono ?_;rintro e w1 ⟨rfl,rfl⟩)
  go_ret
  exact⟨by rw[hd.out];rfl,HB.out⟩
 ·rw[hu]at hU hd
  go_enter Tryz.func13,Tryz.ntmps13
  go_wp2_with (first|(go_at_call 42;refine hU.mono ?_;rintro e w1 ⟨rfl,rfl⟩)|(go_at_call 43;refine hH.mono ?_;rintro e w1 ⟨rfl,rfl⟩))
  go_ret
  exact⟨by rw[hd.out];cases q<;>rfl,HB.out⟩
end Go.Proofs.YtjldjeenfnahoaaGreatDoor
namespace Go.Proofs.YtjldjeenfnahoaaGreatDoor.Rl
open Go Go.Sort Go.RowKit Rg Rh Rf
section
variable {P:Program} {ops:Array Oper}
theorem last_step {j:Nat} {o:Oper} (ho:ops[j]?=some o) {G X:Act->World->Prop} {a:Act} {w:World}
  (h:wpList P ops (Exit.then G Bot) [o] a w) (hx:∀a' W',G a' W'->X a' W'):wpOp P ops Bot j X a w:=by
 unfold wpOp
 simp only[ho]
 have next:∀a' W',wpList P ops (Exit.then G Bot) [] a' W'->X a' W':=λa' W' hh=>hx a' W' hh
 simp only[wpList]at h
 split at h
 ·rename_i hw
  rw[if_pos hw]
  rcases h with h|h
  ·left
   exact ja (λc a w h=>h) (λh=>h) (Oper.wp_mono next h)
  ·obtain⟨_,hl⟩:=h
   obtain⟨_,_,hf⟩:=hl
   exact hf.elim
 ·rename_i hw
  rw[if_neg hw]
  exact next _ _ h
end
end Go.Proofs.YtjldjeenfnahoaaGreatDoor.Rl
namespace Go.Proofs.YtjldjeenfnahoaaGreatDoor.Rn
open Go Go.Sort Go.RowKit Rg Rh Rf Rl
section
variable {P:Program} {ops:Array Oper}
def behind (ops:Array Oper) (i:Nat):List Nat:=(List.range ops.size).foldl (λS k=>match ops[k]? with
 | none=>S
 | some o=>if o.after.any λe=>Region.binds .any e && S.contains e.on then k::S else S) [i]
def j8 (ops:Array Oper) (i:Nat) (S:List Nat):Prop:=∀k∈S,k=i∨∃(o:Oper) (e:Edge),ops[k]?=some o/\e∈o.after/\Region.binds .any e=true/\e.on∈S
theorem wG (i:Nat):j8 ops i (behind ops i):=by
 unfold behind
 suffices h:∀(l:List Nat) (S:List Nat),j8 ops i S->j8 ops i (l.foldl (λS k=>match ops[k]? with
   | none=>S
   | some o=>if o.after.any λe=>Region.binds .any e && S.contains e.on then k::S else S) S) from
  h _ _ (λk hk=>.inl (by simpa using hk))
 intro l
 induction l with
 | nil=>exact λS h=>h
 | cons k l ih =>
  intro S h
  rw[List.foldl_cons]
  refine ih _ ?_
  split
  ·exact h
  ·rename_i o ho
   split
   ·rename_i hany
    obtain⟨e,he,hb⟩:=Array.any_eq_true'.1 hany
    rw[Bool.and_eq_true]at hb
    have hm:e.on∈S:=by simpa using hb.2
    intro k' hk'
    rcases List.mem_cons.1 hk' with rfl|hk'
    ·exact .inr ⟨o,e,ho,he,hb.1,List.mem_cons_of_mem _ hm⟩
    ·rcases h k' hk' with h1|⟨o',e',h1,h2,h3,h4⟩
     ·exact .inl h1
     ·exact .inr ⟨o',e',h1,h2,h3,List.mem_cons_of_mem _ h4⟩
   ·exact h
def Holds (ops:Array Oper) (L i:Nat) (listed:Array Bool):Prop:=listed.getD L true=true∨∃S,j8 ops i S/\L∈S/\L≠i/\∀k∈S,listed.getD k true=false
def sG (ops:Array Oper) (L i:Nat) (listed:Array Bool):Bool:=listed.getD L true || ((behind ops i).contains L && L != i && (behind ops i).all λk => !listed.getD k true)
theorem holds_of {L i:Nat} {listed:Array Bool} (h:sG ops L i listed=true):Holds ops L i listed:=by
 unfold sG at h
 simp only[Bool.or_eq_true,Bool.and_eq_true,bne_iff_ne,ne_eq,List.all_eq_true,Bool.not_eq_true',List.contains_iff_mem]at h
 rcases h with h|⟨⟨h1,h2⟩,h3⟩
 ·exact .inl h
 ·exact .inr ⟨_,wG i,h1,h2,h3⟩
theorem Holds.open_ {L i j:Nat} {listed:Array Bool} (h:Holds ops L i listed) (_hji:j≠i) (hj:j∈Region.ready .any ops listed):j≠L:=by
 obtain⟨hjun,oj,hoj,hall⟩:=mem_ready.1 hj
 rcases h with h|⟨S,hS,hL,hLi,hun⟩
 ·rintro rfl;rw[hjun]at h;cases h
 ·rintro rfl
  rcases hS _ hL with h|⟨o,e,ho,he,hb,hm⟩
  ·exact hLi h
  ·rw[hoj]at ho;injection ho with ho;subst ho
   have:=hun _ hm
   rcases Nat.lt_or_ge e.on listed.size with h'|h'
   ·have h1:=hall e he hb
    simp[h']at h1 this;rw[h1]at this;cases this
   ·simp[Array.getElem?_eq_none h']at this
theorem Holds.set {L i j:Nat} {listed:Array Bool} (h:Holds ops L i listed) (hji:j≠i) (hj:j∈Region.ready .any ops listed):Holds ops L i (listed.setIfInBounds j true):=by
 obtain⟨hjun,oj,hoj,hall⟩:=mem_ready.1 hj
 rcases h with h|⟨S,hS,hL,hLi,hun⟩
 ·refine .inl ?_
  by_cases hjL:j=L
  ·subst hjL;rw[hjun]at h;cases h
  ·rw[getD_set_ne true hjL];exact h
 ·refine .inr ⟨S,hS,hL,hLi,λk hk=>?_⟩
  have hjS:j ∉ S:=λhm=>by
   rcases hS _ hm with h|⟨o,e,ho,he,hb,hm⟩
   ·exact hji h
   ·rw[hoj]at ho;injection ho with ho;subst ho
    have:=hun _ hm
    rcases Nat.lt_or_ge e.on listed.size with h'|h'
    ·have h1:=hall e he hb
     simp[h']at h1 this;rw[h1]at this;cases this
    ·simp[Array.getElem?_eq_none h']at this
  have hne:j≠k:=λe=>hjS (e ▸ hk)
  rw[getD_set_ne true hne];exact hun k hk
def qH:List (Nat × List Nat)->Nat
 | []=>0
 | x::r=>x.2.length+qH r
end
end Go.Proofs.YtjldjeenfnahoaaGreatDoor.Rn
