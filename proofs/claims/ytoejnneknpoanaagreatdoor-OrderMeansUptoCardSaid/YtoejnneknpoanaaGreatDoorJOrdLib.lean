/- The program's package term, walked: Show, Compare, Triples a -/
import Derived.Test.YtoejnneknpoanaaGreatDoorJWr4
set_option maxHeartbeats 4000000
set_option maxRecDepth 100000
namespace Go.Proofs.YtoejnneknpoanaaGreatDoor
open Go Go.RowKit Um Fm Tx
theorem nanS (s:ByteArray) (w:World):Calls Tryz.prog 144 #[.string s] w λe w'=>e=.returned (.bool false)/\w=w':=by
 go_enter Tryz.func144,Tryz.ntmps144
 go_wp2
 all_goals (go_ret;exact⟨by simp,rfl⟩)
theorem cmpStr (x y:ByteArray) (w:World) :
  Calls Tryz.prog 107 #[.string x,.string y] w λe w'=>e=.returned (.int .i64 (cmpS x.toList y.toList))/\w=w':=by
 go_enter Tryz.func107,Tryz.ntmps107
 go_wp2_with ((refine(nanS _ _).mono ?_);(rintro e w1 ⟨rfl,rfl⟩))
 all_goals (go_ret;exact⟨by simp_all[cmpS],rfl⟩)
theorem nanK (s:Int) (w:World):Calls Tryz.prog 149 #[.int .i64 s] w λe w'=>e=.returned (.bool false)/\w=w':=by
 go_enter Tryz.func149,Tryz.ntmps149
 go_wp2
 all_goals (go_ret;exact⟨by simp,rfl⟩)
theorem cmpKnd (x y:Int) (w:World) :
  Calls Tryz.prog 110 #[.int .i64 x,.int .i64 y] w λe w'=>e=.returned (.int .i64 (Lib.compareInt x y))/\w=w':=by
 go_enter Tryz.func110,Tryz.ntmps110
 go_wp2_with ((refine(nanK _ _).mono ?_);(rintro e w1 ⟨rfl,rfl⟩))
 all_goals (go_ret;refine⟨?_,rfl⟩;unfold Lib.compareInt;simp_all;try (repeat' split)<;>omega)
def orL:List Int->Int
 | []=>0
 | x::r=>if x=0 then orL r else x
theorem orL_cons (x:Int) (r:List Int):orL (x::r)=orZ x (orL r):=rfl
theorem cmpOr (g:Nat) (xs:List Int) (n c:Nat) (w:World) (hr:Rd w (some ⟨g,0,none⟩) (xs.map (Value.int .i64))) (hn:xs.length=n) (hl:n<=10) :
  Calls Tryz.prog 109 #[.slice (some ⟨g,0,none⟩) n c] w λe w'=>e=.returned (.int .i64 (orL xs))/\w=w':=by
 subst hn
 go_enter Tryz.func109,Tryz.ntmps109
 go_wp2
 go_loop [5,8] (λv i=>∃k:Nat,k<=xs.length/\i=.int .i64 k/\Hid (orL xs=orL (xs.drop k))) (λ_ i=>xs.length-(intOf i).toNat)
 case atStart=>exact⟨0,by omega,rfl,rfl⟩
 case round =>
  obtain⟨k,hk,rfl,H⟩:=hrel
  by_cases hlt:k<xs.length
  ·obtain⟨y,hy⟩:∃y,xs[k]?=some y:=⟨_,List.getElem?_eq_getElem hlt⟩
   obtain⟨g',o',he,hcx⟩:=hr.at_ (j:=k) (u:=.int .i64 y) (by rw[List.getElem?_map,hy];rfl)
   injection he with he;injection he with he1 he2 _
   subst he1;subst he2
   rw[Nat.zero_add]at hcx
   have hd:xs.drop k=y::xs.drop (k+1):=drop_cons_of hy
   have H2:Hid (orL xs=if y=0 then orL (xs.drop (k+1)) else y):=by show _=_;rw[H.out,hd];rfl
   clear H hd hy hr
   by_cases hq:y=0
   ·go_wp2
    go_round
    case rel=>exact⟨k+1,by omega,by go_num,by show _=_;rw[H2.out,if_pos hq]⟩
    case measure=>simp[intOf];omega
   ·go_wp2
    go_ret
    exact⟨by rw[H2.out,if_neg hq];rfl,rfl⟩
  ·have H2:Hid (orL xs=0):=by show _=_;rw[H.out,List.drop_eq_nil_of_le (by omega)];rfl
   clear H hr
   go_wp2
   go_ret
   exact⟨by rw[H2.out];rfl,rfl⟩
abbrev tA (t:Tm):Value:=.agg #[.int .i64 t.k,.string t.x,.string t.l,.string t.y]
def smallT (t:Tm):Prop:=t.x.size<=1048576/\t.l.size<=1048576/\t.y.size<=1048576
theorem mkS_list (l:List UInt8):(mkS l).toList=l:=by rw[ByteArray.toList_eq]
theorem termRight' (t:Tm) (w:World) (hC:CtxT w) (hs:smallT t):Calls Tryz.prog 106 #[tA t] w λe w'=>e=.returned (.bool (rightB t))/\Below w.heap.size w w':=
 termRight t w hC.1 (Nat.le_trans hs.1 (by omega)) (Nat.le_trans hs.2.1 (by omega)) (Nat.le_trans hs.2.2 (by omega))
theorem termText' (t:Tm) (w:World) (hC:CtxT w) (h:rightB t=true) (hs:smallT t):Calls Tryz.prog 108 #[tA t] w λe w'=>e=.returned (.string (mkS (textL t)))/\Below w.heap.size w w':=
 termText t w hC h hs.1 hs.2.1 hs.2.2
theorem cmpTm_W {a b:Tm} (ha:rightB a=false) (hb:rightB b=false):cmpTm a b=orL [Lib.compareInt a.k b.k,cmpS a.x.toList b.x.toList,cmpS a.l.toList b.l.toList,cmpS a.y.toList b.y.toList]:=by
 unfold cmpTm cmpW
 rw[ha,hb,if_neg (by decide),if_neg (by decide),if_neg (by decide)]
 simp only[orL_cons,ByteArray.toList_eq]
 rw[show orL []=0 from rfl,orZ_right]
theorem termCompare (a b:Tm) (w:World) (hC:CtxT w) (ha:smallT a) (hb:smallT b) :
  Calls Tryz.prog 69 #[tA a,tA b] w λe w'=>e=.returned (.int .i64 (cmpTm a b))/\Below w.heap.size w w':=by
 have hba:Below w.heap.size w (w.alloc (.cells #[.int .i64 a.k,.string a.x,.string a.l,.string a.y] 76)):=(Below.refl _ w).alloc (Nat.le_refl _) _
 have hga:=heap_alloc_new w (.cells #[.int .i64 a.k,.string a.x,.string a.l,.string a.y] 76)
 have hza:(w.alloc (.cells #[.int .i64 a.k,.string a.x,.string a.l,.string a.y] 76)).heap.size=w.heap.size+1:=by simp
 go_enter Tryz.func69,Tryz.ntmps69
 go_upto_region 1 with fail
 generalize w.alloc (.cells #[.int .i64 a.k,.string a.x,.string a.l,.string a.y] 76)=wa at *
 have hbb:Below wa.heap.size wa (wa.alloc (.cells #[.int .i64 b.k,.string b.x,.string b.l,.string b.y] 76)):=(Below.refl _ wa).alloc (Nat.le_refl _) _
 have hgb:=heap_alloc_new wa (.cells #[.int .i64 b.k,.string b.x,.string b.l,.string b.y] 76)
 have hzb:(wa.alloc (.cells #[.int .i64 b.k,.string b.x,.string b.l,.string b.y] 76)).heap.size=w.heap.size+2:=by simp[hza]
 have hga2:=below_blk hbb hga
 rw[hza]at hgb
 generalize wa.alloc (.cells #[.int .i64 b.k,.string b.x,.string b.l,.string b.y] 76)=w0 at *
 have hb0:Below w.heap.size w w0:=below_tr hba hbb
 have hC0:=hC.step hb0
 have a0:w0.cell? ⟨w.heap.size,0,none⟩=some (.int .i64 a.k):=by rw[Lib.cell_of_heap hga2];rfl
 have a1:w0.cell? ⟨w.heap.size,1,none⟩=some (.string a.x):=by rw[Lib.cell_of_heap hga2];rfl
 have a2:w0.cell? ⟨w.heap.size,2,none⟩=some (.string a.l):=by rw[Lib.cell_of_heap hga2];rfl
 have a3:w0.cell? ⟨w.heap.size,3,none⟩=some (.string a.y):=by rw[Lib.cell_of_heap hga2];rfl
 have b0:w0.cell? ⟨w.heap.size+1,0,none⟩=some (.int .i64 b.k):=by rw[Lib.cell_of_heap hgb];rfl
 have b1:w0.cell? ⟨w.heap.size+1,1,none⟩=some (.string b.x):=by rw[Lib.cell_of_heap hgb];rfl
 have b2:w0.cell? ⟨w.heap.size+1,2,none⟩=some (.string b.l):=by rw[Lib.cell_of_heap hgb];rfl
 have b3:w0.cell? ⟨w.heap.size+1,3,none⟩=some (.string b.y):=by rw[Lib.cell_of_heap hgb];rfl
 have hsz:w.heap.size<=w0.heap.size:=hb0.size
 have hRa:=λW hB=>termRight' a W (hC0.step hB) ha
 have hRb:=λW hB=>termRight' b W (hC0.step hB) hb
 have hTa:=λW hB h=>termText' a W (hC0.step hB) h ha
 have hTb:=λW hB h=>termText' b W (hC0.step hB) h hb
 have HB0:=Lib.hid hb0
 have HR:Hid (∀x y,rightB a=x->rightB b=y->cmpTm a b=if x && y then cmpS (textL a) (textL b) else if x then -1 else if y then 1 else orL [Lib.compareInt a.k b.k,cmpS a.x.toList b.x.toList,cmpS a.l.toList b.l.toList,cmpS a.y.toList b.y.toList]):=by
  intro x y hx hy
  cases x<;>cases y
  ·rw[cmpTm_W hx hy];rfl
  ·unfold cmpTm;rw[hx,hy];rfl
  ·unfold cmpTm;rw[hx,hy];rfl
  ·unfold cmpTm;rw[hx,hy];rfl
 clear hga hgb hga2 hza hzb hba hbb hb0 hC hC0
 refine Rf.p0 w0.heap.size _ (.quiet [0,2] (.one 1 (.one 3 (.quiet [4,5] (.done))))) ?_ (λa w h=>h)
 intro wd hbd hwz
 have p0:=cellL a0 hbd
 have p1:=cellL a1 hbd
 have p2:=cellL a2 hbd
 have p3:=cellL a3 hbd
 have q0:=cellL b0 hbd
 have q1:=cellL b1 hbd
 have q2:=cellL b2 hbd
 have q3:=cellL b3 hbd
 have HD:=Lib.hid hbd
 clear hwz hbd
 refine Rf.pl_quiet ?_
 iterate 2 go_big_quiet_step (fail)
 refine wpQuiet_nil (Rf.pl_one ?_)
 clear p0 p1 p2 p3 q0 q1 q2 q3
 go_wp2_with (go_at_call 106;with_reducible refine(hRa _ HD.out).mono ?_;rintro e V1 ⟨rfl,k1⟩)
 have F1:=below_tr HD.out k1
 refine⟨k1.mono HD.out.size,Rf.pl_one ?_⟩
 go_wp2_with (go_at_call 106;with_reducible refine(hRb _ F1).mono ?_;rintro e V2 ⟨rfl,k2⟩)
 have F2:=below_tr F1 k2
 refine⟨k2.mono F1.size,Rf.pl_quiet ?_⟩
 clear k1 k2 F1 hRa hRb
 have HF2:=Lib.hid F2
 clear F2
 iterate 2 go_big_quiet_step (fail)
 refine wpQuiet_nil (Rf.pl_done ?_)
 have HTa:=Lib.hid hTa
 have HTb:=Lib.hid hTb
 clear hTa hTb
 cases hra:rightB a<;>cases hrb:rightB b
 ·have HE:=Lib.hid (HR.out _ _ hra hrb)
  clear HTa HTb
  go_upto_region 8 with fail
  refine Rf.p0 w0.heap.size _ (.quiet [0,1,2,3,5,6,7,8,10,11,12,13,15,16,17,18] (.one 4 (.one 9 (.one 14 (.one 19 (.one 20 (.one 21 (.quiet [22] (.done))))))))) ?_ (λa w h=>h)
  intro we hbe hwz
  have F3:=HF2.out.trans (hbe.mono HF2.out.size)
  have c0:=cellL a0 F3
  have c1:=cellL a1 F3
  have c2:=cellL a2 F3
  have c3:=cellL a3 F3
  have d0:=cellL b0 F3
  have d1:=cellL b1 F3
  have d2:=cellL b2 F3
  have d3:=cellL b3 F3
  have HF3:=Lib.hid F3
  have h1:=cmpKnd a.k b.k
  have h2:=cmpStr a.x b.x
  have h3:=cmpStr a.l b.l
  have h4:=cmpStr a.y b.y
  clear hwz hbe F3 a0 a1 a2 a3 b0 b1 b2 b3 hra hrb HR HD HF2
  generalize Lib.compareInt a.k b.k=n1 at *
  generalize cmpS a.x.toList b.x.toList=n2 at *
  generalize cmpS a.l.toList b.l.toList=n3 at *
  generalize cmpS a.y.toList b.y.toList=n4 at *
  refine Rf.pl_quiet ?_
  iterate 16 go_big_quiet_step (fail)
  refine wpQuiet_nil (Rf.pl_one ?_)
  clear c0 c1 c2 c3 d0 d1 d2 d3
  go_wp2_with (go_at_call 110;with_reducible refine(h1 _).mono ?_;rintro e V3 ⟨rfl,rfl⟩)
  refine⟨Below.refl _ _,Rf.pl_one ?_⟩
  go_wp2_with (go_at_call 107;with_reducible refine(h2 _).mono ?_;rintro e V3 ⟨rfl,rfl⟩)
  refine⟨Below.refl _ _,Rf.pl_one ?_⟩
  go_wp2_with (go_at_call 107;with_reducible refine(h3 _).mono ?_;rintro e V3 ⟨rfl,rfl⟩)
  refine⟨Below.refl _ _,Rf.pl_one ?_⟩
  go_wp2_with (go_at_call 107;with_reducible refine(h4 _).mono ?_;rintro e V3 ⟨rfl,rfl⟩)
  refine⟨Below.refl _ _,Rf.pl_one ?_⟩
  have hV:=HF3.out.size
  have h5:=cmpOr we.heap.size [n1,n2,n3,n4] 4 4 (we.alloc (.cells #[.int .i64 n1,.int .i64 n2,.int .i64 n3,.int .i64 n4] 3)) (Rd.of_block (heap_alloc_new we _) rfl) rfl (by omega)
  have h6:Below w0.heap.size we (we.alloc (.cells #[.int .i64 n1,.int .i64 n2,.int .i64 n3,.int .i64 n4] 3)):=(Below.refl _ _).alloc hV _
  have H6:=Lib.hid h6
  go_wp2_with fail
  refine⟨H6.out,Rf.pl_one ?_⟩
  go_wp2_with (go_at_call 109;with_reducible refine h5.mono ?_;rintro e V4 ⟨rfl,rfl⟩)
  refine⟨Below.refl _ _,Rf.pl_quiet ?_⟩
  iterate 1 go_big_quiet_step (fail)
  refine wpQuiet_nil (Rf.pl_done ?_)
  go_wp2
  go_ret
  exact⟨by rw[HE.out];rfl,HB0.out.trans ((HF3.out.trans H6.out).mono hsz)⟩
 ·have HE:=Lib.hid (HR.out _ _ hra hrb)
  go_wp2
  go_ret
  exact⟨by rw[HE.out];rfl,HB0.out.trans (HF2.out.mono hsz)⟩
 ·have HE:=Lib.hid (HR.out _ _ hra hrb)
  go_wp2
  go_ret
  exact⟨by rw[HE.out];rfl,HB0.out.trans (HF2.out.mono hsz)⟩
 ·have HE:=Lib.hid (HR.out _ _ hra hrb)
  have HTA:Hid (∀W,Below w0.heap.size w0 W->Calls Tryz.prog 108 #[tA a] W λe w'=>e=.returned (.string (mkS (textL a)))/\Below W.heap.size W w'):=λW hb=>HTa.out W hb hra
  have HTB:Hid (∀W,Below w0.heap.size w0 W->Calls Tryz.prog 108 #[tA b] W λe w'=>e=.returned (.string (mkS (textL b)))/\Below W.heap.size W w'):=λW hb=>HTb.out W hb hrb
  have h2:=cmpStr (mkS (textL a)) (mkS (textL b))
  rw[mkS_list,mkS_list]at h2
  clear HTa HTb
  go_upto_region 3 with fail
  refine Rf.p0 w0.heap.size _ (.quiet [0,2] (.one 1 (.one 3 (.one 4 (.quiet [5] (.done)))))) ?_ (λa w h=>h)
  intro we hbe hwz
  have F3:=HF2.out.trans (hbe.mono HF2.out.size)
  have c0:=cellL a0 F3
  have c1:=cellL a1 F3
  have c2:=cellL a2 F3
  have c3:=cellL a3 F3
  have d0:=cellL b0 F3
  have d1:=cellL b1 F3
  have d2:=cellL b2 F3
  have d3:=cellL b3 F3
  have HF3:=Lib.hid F3
  clear hwz hbe F3 a0 a1 a2 a3 b0 b1 b2 b3 hra hrb HR HD HF2
  refine Rf.pl_quiet ?_
  iterate 2 go_big_quiet_step (fail)
  refine wpQuiet_nil (Rf.pl_one ?_)
  clear c0 c1 c2 c3 d0 d1 d2 d3
  go_wp2_with (go_at_call 108;with_reducible refine(HTA.out _ HF3.out).mono ?_;rintro e V3 ⟨rfl,k3⟩)
  have F4:=below_tr HF3.out k3
  refine⟨k3.mono HF3.out.size,Rf.pl_one ?_⟩
  go_wp2_with (go_at_call 108;with_reducible refine(HTB.out _ F4).mono ?_;rintro e V4 ⟨rfl,k4⟩)
  have F5:=below_tr F4 k4
  refine⟨k4.mono F4.size,Rf.pl_one ?_⟩
  have HF5:=Lib.hid F5
  clear k3 k4 F4 F5
  go_wp2_with (go_at_call 107;with_reducible refine(h2 _).mono ?_;rintro e V5 ⟨rfl,rfl⟩)
  refine⟨Below.refl _ _,Rf.pl_quiet ?_⟩
  iterate 1 go_big_quiet_step (fail)
  refine wpQuiet_nil (Rf.pl_done ?_)
  go_wp2
  go_ret
  exact⟨by rw[HE.out];rfl,HB0.out.trans (HF5.out.mono hsz)⟩
open Lx Om
theorem drop_end {α:Type} (l:List α) {k:Nat} (h:l.length=k):l.drop k=[]:=List.drop_eq_nil_of_le (by omega)
def smallRow (r:List Tm):Prop:=r.length<=1000000/\∀t∈r,smallT t
theorem cmpRows (a b:List Tm) (A B:Option Addr) (c d n m:Nat) (w:World) (hn:a.length=n) (hm:b.length=m) (hC:CtxT w) (ha:RdTs w A a) (hb:RdTs w B b) (za:smallRow a) (zb:smallRow b) :
  Calls Tryz.prog 96 #[.slice A n c,.slice B m d,.func (.func 69) #[] #[]] w λe w'=>e=.returned (.int .i64 (cmpRow a b))/\Below w.heap.size w w':=by
 have hln:n<=1000000:=by rw[←hn];exact za.1
 have hlm:m<=1000000:=by rw[←hm];exact zb.1
 have HN:=Lib.hid hn
 have HM:=Lib.hid hm
 have HA:=Lib.hid (And.intro ha za)
 have HB:=Lib.hid (And.intro hb zb)
 have HC:=Lib.hid hC
 clear hn hm ha hb za zb hC
 go_enter Tryz.func96,Tryz.ntmps96
 go_wp2
 go_loopw [7,8,9,10,13] (λu7 u8 u9 u10 i wr=>∃k:Nat,k<=n/\k<=m/\i=.int .i64 k/\Hid (cmpRow a b=cmpRow (a.drop k) (b.drop k))/\Hid (Below w.heap.size w wr)) (λ_ _ _ _ i _=>n-(intOf i).toNat)
 case atStart=>exact⟨0,by omega,by omega,rfl,rfl,Below.refl _ _⟩
 case round =>
  obtain⟨k,hk,hkm,rfl,H1,HBw⟩:=hrel
  by_cases hlt:k<n
  ·obtain⟨x,hx⟩:∃x,a[k]?=some x:=⟨_,List.getElem?_eq_getElem (by rw[HN.out];exact hlt)⟩
   obtain⟨g,o,rfl,a0,a1,a2,a3⟩:=(RdTs.later HA.out.1 HBw.out).at4 hx
   have hxs:=HA.out.2.2 x (List.mem_of_getElem? hx)
   by_cases hlt2:k<m
   ·obtain⟨y,hy⟩:∃y,b[k]?=some y:=⟨_,List.getElem?_eq_getElem (by rw[HM.out];exact hlt2)⟩
    obtain⟨g2,o2,rfl,b0,b1,b2,b3⟩:=(RdTs.later HB.out.1 HBw.out).at4 hy
    have hys:=HB.out.2.2 y (List.mem_of_getElem? hy)
    have hg:=cell_lt b0
    have hst:Hid (cmpRow a b=orZ (cmpTm x y) (cmpRow (a.drop (k+1)) (b.drop (k+1)))):=by
     show _=_
     rw[H1.out,drop_cons_of hx,drop_cons_of hy];rfl
    have hW:Below wr.heap.size wr ((wr.alloc (.cells #[.int .i64 x.k,.string x.x,.string x.l,.string x.y] 76)).alloc (.cells #[.int .i64 y.k,.string y.x,.string y.l,.string y.y] 76)):=blw
    have hcall:=termCompare x y _ (HC.out.step (below_tr HBw.out hW)) hxs hys
    have HW:=Lib.hid (below_tr HBw.out hW)
    have hd1:decide (m<=k)=false:=by simp;omega
    clear hx hy hxs hys hW H1
    by_cases hz:cmpTm x y=0
    ·have hst2:Hid (cmpRow a b=cmpRow (a.drop (k+1)) (b.drop (k+1))):=by show _=_;rw[hst.out,hz];rfl
     rw[hz]at hcall
     clear hst hz
     go_wp2_with (refine hcall.mono ?_;rintro e w1 ⟨rfl,hb1⟩;have HF:=Lib.hid (below_tr HW.out hb1);clear hb1 hcall)
     go_roundw
     case rel=>exact⟨k+1,by omega,by omega,by go_num,hst2,HF⟩
     case measure=>simp[intOf];omega
    ·have hst2:Hid (cmpRow a b=cmpTm x y):=by show _=_;rw[hst.out];unfold orZ;rw[if_neg hz]
     have hz2:(cmpTm x y != 0)=true:=by rw[bne_iff_ne];exact hz
     generalize cmpTm x y=z at *
     clear hst hz
     go_wp2_with (refine hcall.mono ?_;rintro e w1 ⟨rfl,hb1⟩;have HF:=Lib.hid (below_tr HW.out hb1);clear hb1 hcall)
     go_ret
     exact⟨by rw[hst2.out];rfl,HF.out⟩
   ·obtain rfl:k=m:=by omega
    have hst2:Hid (cmpRow a b=1):=by
     show _=_
     rw[H1.out,drop_cons_of hx,drop_end b HM.out];rfl
    have hd1:decide (k<=k)=true:=by simp
    have HF:=Lib.hid (below_tr HBw.out ((Below.refl wr.heap.size wr).alloc (Nat.le_refl _) (.cells #[.int .i64 x.k,.string x.x,.string x.l,.string x.y] 76)))
    clear hx hxs H1
    go_wp2
    go_ret
    exact⟨by rw[hst2.out];rfl,HF.out⟩
  ·obtain rfl:k=n:=by omega
   by_cases hlt2:k<m
   ·have hst2:Hid (cmpRow a b = -1):=by
     show _=_
     obtain⟨y,hy⟩:∃y,b[k]?=some y:=⟨_,List.getElem?_eq_getElem (by rw[HM.out];exact hlt2)⟩
     rw[H1.out,drop_cons_of hy,drop_end a HN.out];rfl
    have hd1:decide (k<m)=true:=by simp;omega
    clear H1
    go_wp2
    go_ret
    exact⟨by rw[hst2.out];rfl,HBw.out⟩
   ·obtain rfl:k=m:=by omega
    have hst2:Hid (cmpRow a b=0):=by
     show _=_
     rw[H1.out,drop_end a HN.out,drop_end b HM.out];rfl
    have hd1:decide (k<k)=false:=by simp
    clear H1
    go_wp2
    go_ret
    exact⟨by rw[hst2.out];rfl,HBw.out⟩
theorem tmInfo:(Tryz.prog.info? 76).map (λi=>(i.zero,i.size,i.bytes))=some (some (.agg #[.int .i64 0,.string ⟨#[]⟩,.string ⟨#[]⟩,.string ⟨#[]⟩]),4,56):=by kernel_rfl
theorem txtInfo:(Tryz.prog.info? 9).map (λi=>(i.zero,i.size,i.bytes))=some (some (.string ⟨#[]⟩),1,16):=by kernel_rfl
theorem rowInfo:(Tryz.prog.info? 59).map (λi=>(i.zero,i.size,i.bytes))=some (some (.slice none 0 0),1,24):=by kernel_rfl
theorem txt1 (l:List ByteArray):∀u∈l.map Value.string,u.oneCell'=true:=by intro u hu;obtain⟨x,_,rfl⟩:=List.mem_map.1 hu;rfl
theorem cloneTms (l:List Tm) (A:Option Addr) (c:Nat) (w:World) (hr:Rd w A (l.flatMap tmC)) (hl:l.length<=1000000000) :
  Calls Tryz.prog 118 #[.slice A l.length c] w λe w'=>∃v,e=.returned v/\w'.ownsRow w.heap.size 76 4 v l.length (l.flatMap tmC)/\Below w.heap.size w w':=by
 have h1:∀u∈l.flatMap tmC,u.oneCell'=true:=tm1 l
 have hn:(l.flatMap tmC).length=l.length*4:=tm_len l
 have q22:∀(w:World) (a:Option Addr) (n c n' c':Nat),(binOp .eql 59 (.slice a n c) (.slice none n' c')).run Tryz.prog w=.ok (.bool a.isNone) w:=λw a n c n' c'=>Lib.run_eql_slice_nil w _ _ a n c n' c' Tryz.underlying59
 rcases A with _|ad
 ·have h0:l=[]:=by
   rcases hr with h0|⟨g,o,hA,_⟩
   ·rw[h0]at hn;exact List.eq_nil_of_length_eq_zero (by simp at hn;omega)
   ·cases hA
  subst h0
  clear hr h1 hn
  go_enter Tryz.func118,Tryz.ntmps118
  go_wp2
  go_ret
  exact⟨_,rfl,World.ownsRow_nil _ _ _ _,Below.refl _ _⟩
 ·have HR:=Lib.hid hr
  clear hr
  obtain⟨N,hN⟩:∃N,l.length=N:=⟨_,rfl⟩
  rw[hN]at hn hl ⊢
  clear hN
  generalize l.flatMap tmC=xs at *
  go_enter Tryz.func118,Tryz.ntmps118
  go_wp2_with (at_builtin;refine wpList_appG rfl rfl Tryz.underlying59 tmInfo rfl (by omega) rfl (World.ownsRow_made w #[] 0 (Nat.le_refl _) (Nat.zero_le _) (by simp)) rfl (HR.out.later ((Below.refl _ _).alloc (Nat.le_refl _) _)) hn h1 (by omega) (by omega) (by simp) ?_;intro v' w1 hown hb1 _;obtain⟨A1,c1,rfl,_,_⟩:=own_slice hown;rw[Nat.zero_add,List.nil_append]at hown)
  go_ret
  exact⟨_,rfl,by simpa using hown,((Below.refl _ w).alloc (Nat.le_refl _) _).trans hb1⟩
theorem cloneTxts (l:List ByteArray) (A:Option Addr) (c:Nat) (w:World) (hr:Rd w A (l.map Value.string)) (hl:l.length<=1000000000) :
  Calls Tryz.prog 98 #[.slice A l.length c] w λe w'=>∃v,e=.returned v/\w'.ownsRow w.heap.size 9 1 v l.length (l.map Value.string)/\Below w.heap.size w w':=by
 have h1:∀u∈l.map Value.string,u.oneCell'=true:=txt1 l
 have hn:(l.map Value.string).length=l.length*1:=(by simp)
 have q22:∀(w:World) (a:Option Addr) (n c n' c':Nat),(binOp .eql 22 (.slice a n c) (.slice none n' c')).run Tryz.prog w=.ok (.bool a.isNone) w:=λw a n c n' c'=>Lib.run_eql_slice_nil w _ _ a n c n' c' Tryz.underlying22
 rcases A with _|ad
 ·have h0:l=[]:=by
   rcases hr with h0|⟨g,o,hA,_⟩
   ·rw[h0]at hn;exact List.eq_nil_of_length_eq_zero (by simp at hn;omega)
   ·cases hA
  subst h0
  clear hr h1 hn
  go_enter Tryz.func98,Tryz.ntmps98
  go_wp2
  go_ret
  exact⟨_,rfl,World.ownsRow_nil _ _ _ _,Below.refl _ _⟩
 ·have HR:=Lib.hid hr
  clear hr
  obtain⟨N,hN⟩:∃N,l.length=N:=⟨_,rfl⟩
  rw[hN]at hn hl ⊢
  clear hN
  generalize l.map Value.string=xs at *
  go_enter Tryz.func98,Tryz.ntmps98
  go_wp2_with (at_builtin;refine wpList_appG rfl rfl Tryz.underlying22 txtInfo rfl (by omega) rfl (World.ownsRow_made w #[] 0 (Nat.le_refl _) (Nat.zero_le _) (by simp)) rfl (HR.out.later ((Below.refl _ _).alloc (Nat.le_refl _) _)) hn h1 (by omega) (by omega) (by simp) ?_;intro v' w1 hown hb1 _;obtain⟨A1,c1,rfl,_,_⟩:=own_slice hown;rw[Nat.zero_add,List.nil_append]at hown)
  go_ret
  exact⟨_,rfl,by simpa using hown,((Below.refl _ w).alloc (Nat.le_refl _) _).trans hb1⟩
def IdxDone (b:Nat->Bool) (n:Nat) (S:Nat->World->Prop) (e:Ending) (w':World):Prop:=
 (e=.returned (.int .i64 (-1))/\(∀j,j<n->b j=false)/\S n w')∨∃k:Nat,k<n/\e=.returned (.int .i64 k)/\b k=true/\(∀j,j<k->b j=false)/\S (k+1) w'
theorem idxRows (F:Nat) (cb:Array Value) (eg:∀args w,(callFunc F args).run Tryz.prog w=.ok (.enter F args) w) (b:Nat->Bool) (S:Nat->World->Prop) (rows:List (List Tm)) (n:Nat) (A:Option Addr) (c:Nat) (w:World) (hn:rows.length=n) (hl:n<=1000000000)
  (hR:∀k W,S k W->RdRs W A rows)
  (hc:∀k row W A' c',rows[k]?=some row->S k W->row.length<=c'->RdTs W A' row->Calls Tryz.prog F (#[.slice A' row.length c']++cb) W λe W'=>e=.returned (.bool (b k))/\S (k+1) W')
  (h0:S 0 w):Calls Tryz.prog 91 #[.slice A n c,.func (.func F) #[] cb] w (IdxDone b n S):=by
 have HN:=Lib.hid hn
 have HR:=Lib.hid hR
 have HC:=Lib.hid hc
 have H0:Hid ((∀j,j<0->b j=false)/\S 0 w):=⟨λ_ h=>by omega,h0⟩
 clear hR hc hn h0
 go_enter Tryz.func91,Tryz.ntmps91
 go_wp2
 go_loopw [5,8] (λv i wr=>∃k:Nat,k<=n/\i=.int .i64 k/\Hid ((∀j,j<k->b j=false)/\S k wr)) (λ_ i _=>n-(intOf i).toNat)
 case atStart=>exact⟨0,by omega,rfl,H0⟩
 case round =>
  clear H0
  obtain⟨k,hk,rfl,H1⟩:=hrel
  by_cases hlt:k<n
  ·obtain⟨row,hrow⟩:∃row,rows[k]?=some row:=⟨_,List.getElem?_eq_getElem (by rw[HN.out];exact hlt)⟩
   obtain⟨g,o,A',c',rfl,hcell,hle,hrd⟩:=(HR.out k wr H1.out.2).at1 hrow
   have hcall:=HC.out k row wr A' c' hrow H1.out.2 hle hrd
   clear hrow hrd hle
   cases hb:b k
   ·have H2:Hid (∀W',S (k+1) W'->(∀j,j<k+1->b j=false)/\S (k+1) W'):=λW' h=>⟨λj hj=>by
     by_cases e:j=k
     ·rw[e];exact hb
     ·exact H1.out.1 j (by omega),h⟩
    rw[hb]at hcall
    clear hb H1
    go_wp2_with (go_at_fn F;refine hcall.mono ?_;rintro e w1 ⟨rfl,hS⟩;have HS:=Lib.hid hS;clear hS hcall hcell)
    go_roundw
    case rel=>exact⟨k+1,by omega,by go_num,H2.out _ HS.out⟩
    case measure=>simp[intOf];omega
   ·have H2:Hid (∀W',S (k+1) W'->IdxDone b n S (.returned (.int .i64 k)) W'):=λW' h=>.inr ⟨k,hlt,rfl,hb,H1.out.1,h⟩
    rw[hb]at hcall
    clear hb H1
    go_wp2_with (go_at_fn F;refine hcall.mono ?_;rintro e w1 ⟨rfl,hS⟩;have HS:=Lib.hid hS;clear hS hcall hcell)
    go_ret
    exact H2.out _ HS.out
  ·obtain rfl:k=n:=by omega
   have H2:Hid (IdxDone b k S (.returned (.int .i64 (-1))) wr):=.inl ⟨rfl,H1.out.1,H1.out.2⟩
   clear H1
   go_wp2
   go_ret
   exact H2.out
theorem hasRows (F:Nat) (cb:Array Value) (eg:∀args w,(callFunc F args).run Tryz.prog w=.ok (.enter F args) w) (p:List Tm->Bool) (rows:List (List Tm)) (n:Nat) (A:Option Addr) (c:Nat) (w:World) (hn:rows.length=n) (hl:n<=1000000000) (hr:RdRs w A rows)
  (hc:∀row A' c',row∈rows->row.length<=c'->RdTs w A' row->Calls Tryz.prog F (#[.slice A' row.length c']++cb) w λe W'=>e=.returned (.bool (p row))/\w=W') :
  Calls Tryz.prog 54 #[.slice A n c,.func (.func F) #[] cb] w λe w'=>e=.returned (.bool (rows.any p))/\w=w':=by
 have hI:=idxRows F cb eg (λk=>((rows[k]?).map p).getD false) (λ_ W=>w=W) rows n A c w hn hl (λk W e=>by subst e;exact hr)
  (λk row W A' c' h1 h2 h3 h4=>by
   subst h2
   have:=hc row A' c' (List.mem_of_getElem? h1) h3 h4
   rw[h1];exact this) rfl
 have HA:Hid (∀(e:Ending) (w':World),IdxDone (λk=>((rows[k]?).map p).getD false) n (λ_ W=>w=W) e w'->∃i:Int,e=.returned (.int .i64 i)/\decide (0<=i)=rows.any p/\w=w'):=by
  intro e w' h
  rcases h with ⟨h1,h2,h3⟩|⟨k,h1,h2,h3,h4,h5⟩
  ·refine⟨_,h1,?_,h3⟩
   symm
   rw[show decide ((0:Int) <= -1)=false from rfl,List.any_eq_false]
   intro x hx
   obtain⟨j,hj⟩:=List.mem_iff_getElem?.1 hx
   have:=h2 j (by rw[←hn];exact(List.getElem?_eq_some_iff.1 hj).1)
   simp only[hj,Option.map_some,Option.getD_some]at this
   simp[this]
  ·refine⟨_,h2,?_,h5⟩
   rw[decide_eq_true (by omega:(0:Int)<=(k:Int))]
   symm
   rw[List.any_eq_true]
   dsimp only at h3
   cases hx:rows[k]? with
   | none=>rw[hx]at h3;cases h3
   | some x =>
    rw[hx]at h3
    exact⟨x,List.mem_of_getElem? hx,h3⟩
 generalize rows.any p=q at HA ⊢
 clear hr hc hn
 go_enter Tryz.func54,Tryz.ntmps54
 go_wp2_with (go_at_call 91;refine hI.mono ?_;intro e w1 hD;obtain⟨i,rfl,hd,rfl⟩:=HA.out e w1 hD;have Hd:=Lib.hid hd;clear hd hD hI HA)
 go_ret
 exact⟨by rw[←Hd.out];rfl,rfl⟩
end Go.Proofs.YtoejnneknpoanaaGreatDoor
