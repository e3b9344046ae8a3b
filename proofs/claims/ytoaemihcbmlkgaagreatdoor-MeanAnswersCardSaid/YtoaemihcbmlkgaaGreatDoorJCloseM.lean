/- How terms and triples stand, in plain words. The program's p -/
import Derived.Test.YtoaemihcbmlkgaaGreatDoorJWr4
import Derived.Lib.LaidCaseMet
set_option maxHeartbeats 4000000
set_option maxRecDepth 100000
namespace Go.Proofs.YtoaemihcbmlkgaaGreatDoor.Tx
open Go Go.RowKit Um Fm Lx
def orZ (a b:Int):Int:=if a=0 then b else a
theorem orZ_right (a:Int):orZ a 0=a:=by unfold orZ;split<;>omega
structure OrdF {α:Type} (f:α->α->Int):Prop where
 neg:∀a b,f b a = -f a b
 zero:∀a b,f a b=0->a=b
 tr:∀a b c,f a b<0->f b c<0->f a c<0
 rng:∀a b,-1<=f a b/\f a b<=1
theorem OrdF.self {α:Type} {f:α->α->Int} (h:OrdF f) (a:α):f a a=0:=by have:=h.neg a a;omega
theorem OrdF.le {α:Type} {f:α->α->Int} (h:OrdF f) {a b c:α} (h1:f a b<=0) (h2:f b c<=0):f a c<=0:=by
 rcases Int.lt_or_eq_of_le h1 with h1|h1
 ·rcases Int.lt_or_eq_of_le h2 with h2|h2
  ·exact Int.le_of_lt (h.tr a b c h1 h2)
  ·rw[←h.zero _ _ h2];omega
 ·rw[h.zero _ _ h1];exact h2
theorem ordF_list:OrdF cmpS where
 neg:=λa b=>cmpS_neg a b
 zero:=λa b h=>(cmpS_zero a b).1 h
 tr:=λa b c=>cmpS_tr a b c
 rng:=λa b=>by unfold cmpS;split<;>(try split)<;>omega
theorem ordF_int:OrdF Lib.compareInt where
 neg:=λa b=>by unfold Lib.compareInt;(repeat' split);all_goals omega
 zero:=λa b h=>(compareInt_zero a b).1 h
 tr:=λa b c=>by unfold Lib.compareInt;(repeat' split);all_goals omega
 rng:=λa b=>by unfold Lib.compareInt;(repeat' split);all_goals omega
theorem ordF_map {α β:Type} {f:β->β->Int} (h:OrdF f) (g:α->β) (hg:∀a b,g a=g b->a=b):OrdF (λa b=>f (g a) (g b)) where
 neg:=λ_a _b=>h.neg _ _
 zero:=λa b e=>hg a b (h.zero _ _ e)
 tr:=λ_a _b _c=>h.tr _ _ _
 rng:=λ_a _b=>h.rng _ _
theorem ordF_or {α β:Type} {f:α->α->Int} {g:β->β->Int} (hf:OrdF f) (hg:OrdF g):OrdF (λ(a b:α × β)=>orZ (f a.1 b.1) (g a.2 b.2)) where
 neg:=λa b=>by
  have:=hf.neg a.1 b.1;have:=hg.neg a.2 b.2
  unfold orZ;repeat' split
  all_goals omega
 zero:=λa b e=>by
  unfold orZ at e
  split at e
  ·rename_i h;exact Prod.ext (hf.zero _ _ h) (hg.zero _ _ e)
  ·rename_i h;exact absurd e h
 tr:=λa b c h1 h2=>by
  unfold orZ at h1 h2 ⊢
  by_cases e1:f a.1 b.1=0
  ·rw[if_pos e1]at h1
   have q1:=hf.zero _ _ e1
   rw[q1]
   by_cases e2:f b.1 c.1=0
   ·rw[if_pos e2]at h2 ⊢;exact hg.tr _ _ _ h1 h2
   ·rw[if_neg e2]at h2 ⊢;exact h2
  ·rw[if_neg e1]at h1
   by_cases e2:f b.1 c.1=0
   ·rw[←hf.zero _ _ e2,if_neg e1];exact h1
   ·rw[if_neg e2]at h2
    have h3:=hf.tr _ _ _ h1 h2
    rw[if_neg (by omega)];exact h3
 rng:=λa b=>by
  have:=hf.rng a.1 b.1;have:=hg.rng a.2 b.2
  unfold orZ;split<;>omega
abbrev bl (s:ByteArray):List UInt8:=s.data.toList
def cmpW (a b:Tm):Int:=orZ (Lib.compareInt a.k b.k) (orZ (cmpS (bl a.x) (bl b.x)) (orZ (cmpS (bl a.l) (bl b.l)) (cmpS (bl a.y) (bl b.y))))
theorem ordF_W:OrdF cmpW:=
 ordF_map (ordF_or ordF_int (ordF_or ordF_list (ordF_or ordF_list ordF_list))) (λt:Tm=>(t.k,bl t.x,bl t.l,bl t.y)) λa b h=>by
  obtain⟨k,x,l,y⟩:=a;obtain⟨k',x',l',y'⟩:=b
  simp only[Prod.mk.injEq]at h
  rw[h.1,ba_ext h.2.1,ba_ext h.2.2.1,ba_ext h.2.2.2]
def cmpTm (a b:Tm):Int:=if rightB a && rightB b then cmpS (textL a) (textL b) else if rightB a then -1 else if rightB b then 1 else cmpW a b
theorem ordF_Tm:OrdF cmpTm where
 neg:=λa b=>by
  have h1:=cmpS_neg (textL a) (textL b);have h2:=ordF_W.neg a b
  unfold cmpTm
  cases rightB a<;>cases rightB b<;>simp[h1,h2]
 zero:=λa b h=>by
  unfold cmpTm at h
  cases ha:rightB a<;>cases hb:rightB b<;>rw[ha,hb]at h
  ·exact ordF_W.zero a b h
  ·cases h
  ·cases h
  ·exact text_inj ha hb ((cmpS_zero _ _).1 h)
 tr:=λa b c h1 h2=>by
  unfold cmpTm at h1 h2 ⊢
  cases ha:rightB a<;>cases hb:rightB b<;>cases hc:rightB c<;>rw[ha,hb]at h1<;>rw[hb,hc]at h2 <;>
   simp only[Bool.and_true,Bool.and_false,if_true,Bool.false_eq_true,if_false]at h1 h2 ⊢
  ·exact ordF_W.tr a b c h1 h2
  ·omega
  ·omega
  ·omega
  ·omega
  ·omega
  ·omega
  ·exact cmpS_tr _ _ _ h1 h2
 rng:=λa b=>by
  have h1:=ordF_list.rng (textL a) (textL b);have h2:=ordF_W.rng a b
  unfold cmpTm
  split
  ·exact h1
  split
  ·omega
  split
  ·omega
  ·exact h2
structure Tp where
 s:Tm
 p:Tm
 o:Tm
def cmpTp (a b:Tp):Int:=orZ (cmpTm a.s b.s) (orZ (cmpTm a.p b.p) (cmpTm a.o b.o))
theorem ordF_Tp:OrdF cmpTp:=
 ordF_map (ordF_or ordF_Tm (ordF_or ordF_Tm ordF_Tm)) (λt:Tp=>(t.s,t.p,t.o)) λa b h=>by
  obtain⟨s,p,o⟩:=a;obtain⟨s',p',o'⟩:=b
  simp only[Prod.mk.injEq]at h
  rw[h.1,h.2.1,h.2.2]
end Go.Proofs.YtoaemihcbmlkgaaGreatDoor.Tx
namespace Go.Proofs.YtoaemihcbmlkgaaGreatDoor
open Go Go.RowKit Um Fm Tx
theorem nanS (s:ByteArray) (w:World):Calls Tryz.prog 99 #[.string s] w λe w'=>e=.returned (.bool false)/\w=w':=by
 go_enter Tryz.func99,Tryz.ntmps99
 go_wp2
 all_goals (go_ret;exact⟨by simp,rfl⟩)
theorem cmpStr (x y:ByteArray) (w:World) :
  Calls Tryz.prog 57 #[.string x,.string y] w λe w'=>e=.returned (.int .i64 (cmpS x.toList y.toList))/\w=w':=by
 go_enter Tryz.func57,Tryz.ntmps57
 go_wp2_with ((refine(nanS _ _).mono ?_);(rintro e w1 ⟨rfl,rfl⟩))
 all_goals (go_ret;exact⟨by simp_all[cmpS],rfl⟩)
theorem nanK (s:Int) (w:World):Calls Tryz.prog 105 #[.int .i64 s] w λe w'=>e=.returned (.bool false)/\w=w':=by
 go_enter Tryz.func105,Tryz.ntmps105
 go_wp2
 all_goals (go_ret;exact⟨by simp,rfl⟩)
theorem cmpKnd (x y:Int) (w:World) :
  Calls Tryz.prog 60 #[.int .i64 x,.int .i64 y] w λe w'=>e=.returned (.int .i64 (Lib.compareInt x y))/\w=w':=by
 go_enter Tryz.func60,Tryz.ntmps60
 go_wp2_with ((refine(nanK _ _).mono ?_);(rintro e w1 ⟨rfl,rfl⟩))
 all_goals (go_ret;refine⟨?_,rfl⟩;unfold Lib.compareInt;simp_all;try (repeat' split)<;>omega)
def orL:List Int->Int
 | []=>0
 | x::r=>if x=0 then orL r else x
theorem orL_cons (x:Int) (r:List Int):orL (x::r)=orZ x (orL r):=rfl
theorem cmpOr (g:Nat) (xs:List Int) (n c:Nat) (w:World) (hr:Rd w (some ⟨g,0,none⟩) (xs.map (Value.int .i64))) (hn:xs.length=n) (hl:n<=10) :
  Calls Tryz.prog 59 #[.slice (some ⟨g,0,none⟩) n c] w λe w'=>e=.returned (.int .i64 (orL xs))/\w=w':=by
 subst hn
 go_enter Tryz.func59,Tryz.ntmps59
 go_wp2
 go_loop [5,8] (λv i=>∃k:Nat,k<=xs.length/\i=.int .i64 k/\Hid (orL xs=orL (xs.drop k))) (λ_ i=>xs.length-(intOf i).toNat)
 case atStart=>exact⟨0,by omega,rfl,rfl⟩
 case round =>
  obtain⟨k,hk,rfl,H⟩:=hrel
  by_cases hlt:k<xs.length
  ·obtain⟨y,hy⟩:∃y,xs[k]?=some y:=⟨_,List.getElem?_eq_getElem hlt⟩
   obtain⟨g',o',he,hcx⟩:=hr.at_ (j:=k) (u:=.int .i64 y) (by rw[List.getElem?_map,hy];rfl)
   injection he with he;injection he with he1 he2 _
   subst he1;subst he2
   rw[Nat.zero_add]at hcx
   have hd:xs.drop k=y::xs.drop (k+1):=drop_cons_of hy
   have H2:Hid (orL xs=if y=0 then orL (xs.drop (k+1)) else y):=by show _=_;rw[H.out,hd];rfl
   clear H hd hy hr
   by_cases hq:y=0
   ·go_wp2
    go_round
    case rel=>exact⟨k+1,by omega,by go_num,by show _=_;rw[H2.out,if_pos hq]⟩
    case measure=>simp[intOf];omega
   ·go_wp2
    go_ret
    exact⟨by rw[H2.out,if_neg hq];rfl,rfl⟩
  ·have H2:Hid (orL xs=0):=by show _=_;rw[H.out,List.drop_eq_nil_of_le (by omega)];rfl
   clear H hr
   go_wp2
   go_ret
   exact⟨by rw[H2.out];rfl,rfl⟩
abbrev tA (t:Tm):Value:=.agg #[.int .i64 t.k,.string t.x,.string t.l,.string t.y]
def smallT (t:Tm):Prop:=t.x.size<=1048576/\t.l.size<=1048576/\t.y.size<=1048576
theorem mkS_list (l:List UInt8):(mkS l).toList=l:=by rw[ByteArray.toList_eq]
theorem termRight' (t:Tm) (w:World) (hC:CtxT w) (hs:smallT t):Calls Tryz.prog 56 #[tA t] w λe w'=>e=.returned (.bool (rightB t))/\Below w.heap.size w w':=
 termRight t w hC.1 (Nat.le_trans hs.1 (by omega)) (Nat.le_trans hs.2.1 (by omega)) (Nat.le_trans hs.2.2 (by omega))
theorem termText' (t:Tm) (w:World) (hC:CtxT w) (h:rightB t=true) (hs:smallT t):Calls Tryz.prog 58 #[tA t] w λe w'=>e=.returned (.string (mkS (textL t)))/\Below w.heap.size w w':=
 termText t w hC h hs.1 hs.2.1 hs.2.2
theorem cmpTm_W {a b:Tm} (ha:rightB a=false) (hb:rightB b=false):cmpTm a b=orL [Lib.compareInt a.k b.k,cmpS a.x.toList b.x.toList,cmpS a.l.toList b.l.toList,cmpS a.y.toList b.y.toList]:=by
 unfold cmpTm cmpW
 rw[ha,hb,if_neg (by decide),if_neg (by decide),if_neg (by decide)]
 simp only[orL_cons,ByteArray.toList_eq]
 rw[show orL []=0 from rfl,orZ_right]
theorem termCompare (a b:Tm) (w:World) (hC:CtxT w) (ha:smallT a) (hb:smallT b) :
  Calls Tryz.prog 29 #[tA a,tA b] w λe w'=>e=.returned (.int .i64 (cmpTm a b))/\Below w.heap.size w w':=by
 have hba:Below w.heap.size w (w.alloc (.cells #[.int .i64 a.k,.string a.x,.string a.l,.string a.y] 26)):=(Below.refl _ w).alloc (Nat.le_refl _) _
 have hga:=heap_alloc_new w (.cells #[.int .i64 a.k,.string a.x,.string a.l,.string a.y] 26)
 have hza:(w.alloc (.cells #[.int .i64 a.k,.string a.x,.string a.l,.string a.y] 26)).heap.size=w.heap.size+1:=by simp
 go_enter Tryz.func29,Tryz.ntmps29
 go_upto_region 1 with fail
 generalize w.alloc (.cells #[.int .i64 a.k,.string a.x,.string a.l,.string a.y] 26)=wa at *
 have hbb:Below wa.heap.size wa (wa.alloc (.cells #[.int .i64 b.k,.string b.x,.string b.l,.string b.y] 26)):=(Below.refl _ wa).alloc (Nat.le_refl _) _
 have hgb:=heap_alloc_new wa (.cells #[.int .i64 b.k,.string b.x,.string b.l,.string b.y] 26)
 have hzb:(wa.alloc (.cells #[.int .i64 b.k,.string b.x,.string b.l,.string b.y] 26)).heap.size=w.heap.size+2:=by simp[hza]
 have hga2:=below_blk hbb hga
 rw[hza]at hgb
 generalize wa.alloc (.cells #[.int .i64 b.k,.string b.x,.string b.l,.string b.y] 26)=w0 at *
 have hb0:Below w.heap.size w w0:=below_tr hba hbb
 have hC0:=hC.step hb0
 have a0:w0.cell? ⟨w.heap.size,0,none⟩=some (.int .i64 a.k):=by rw[Lib.cell_of_heap hga2];rfl
 have a1:w0.cell? ⟨w.heap.size,1,none⟩=some (.string a.x):=by rw[Lib.cell_of_heap hga2];rfl
 have a2:w0.cell? ⟨w.heap.size,2,none⟩=some (.string a.l):=by rw[Lib.cell_of_heap hga2];rfl
 have a3:w0.cell? ⟨w.heap.size,3,none⟩=some (.string a.y):=by rw[Lib.cell_of_heap hga2];rfl
 have b0:w0.cell? ⟨w.heap.size+1,0,none⟩=some (.int .i64 b.k):=by rw[Lib.cell_of_heap hgb];rfl
 have b1:w0.cell? ⟨w.heap.size+1,1,none⟩=some (.string b.x):=by rw[Lib.cell_of_heap hgb];rfl
 have b2:w0.cell? ⟨w.heap.size+1,2,none⟩=some (.string b.l):=by rw[Lib.cell_of_heap hgb];rfl
 have b3:w0.cell? ⟨w.heap.size+1,3,none⟩=some (.string b.y):=by rw[Lib.cell_of_heap hgb];rfl
 have hsz:w.heap.size<=w0.heap.size:=hb0.size
 have hRa:=λW hB=>termRight' a W (hC0.step hB) ha
 have hRb:=λW hB=>termRight' b W (hC0.step hB) hb
 have hTa:=λW hB h=>termText' a W (hC0.step hB) h ha
 have hTb:=λW hB h=>termText' b W (hC0.step hB) h hb
 have HB0:=Lib.hid hb0
 have HR:Hid (∀x y,rightB a=x->rightB b=y->cmpTm a b=if x && y then cmpS (textL a) (textL b) else if x then -1 else if y then 1 else orL [Lib.compareInt a.k b.k,cmpS a.x.toList b.x.toList,cmpS a.l.toList b.l.toList,cmpS a.y.toList b.y.toList]):=by
  intro x y hx hy
  cases x<;>cases y
  ·rw[cmpTm_W hx hy];rfl
  ·unfold cmpTm;rw[hx,hy];rfl
  ·unfold cmpTm;rw[hx,hy];rfl
  ·unfold cmpTm;rw[hx,hy];rfl
 clear hga hgb hga2 hza hzb hba hbb hb0 hC hC0
 refine Rf.p0 w0.heap.size _ (.quiet [0,2] (.one 1 (.one 3 (.quiet [4,5] (.done))))) ?_ (λa w h=>h)
 intro wd hbd hwz
 have p0:=cellL a0 hbd
 have p1:=cellL a1 hbd
 have p2:=cellL a2 hbd
 have p3:=cellL a3 hbd
 have q0:=cellL b0 hbd
 have q1:=cellL b1 hbd
 have q2:=cellL b2 hbd
 have q3:=cellL b3 hbd
 have HD:=Lib.hid hbd
 clear hwz hbd
 refine Rf.pl_quiet ?_
 iterate 2 go_big_quiet_step (fail)
 refine wpQuiet_nil (Rf.pl_one ?_)
 clear p0 p1 p2 p3 q0 q1 q2 q3
 go_wp2_with (go_at_call 56;with_reducible refine(hRa _ HD.out).mono ?_;rintro e V1 ⟨rfl,k1⟩)
 have F1:=below_tr HD.out k1
 refine⟨k1.mono HD.out.size,Rf.pl_one ?_⟩
 go_wp2_with (go_at_call 56;with_reducible refine(hRb _ F1).mono ?_;rintro e V2 ⟨rfl,k2⟩)
 have F2:=below_tr F1 k2
 refine⟨k2.mono F1.size,Rf.pl_quiet ?_⟩
 clear k1 k2 F1 hRa hRb
 have HF2:=Lib.hid F2
 clear F2
 iterate 2 go_big_quiet_step (fail)
 refine wpQuiet_nil (Rf.pl_done ?_)
 have HTa:=Lib.hid hTa
 have HTb:=Lib.hid hTb
 clear hTa hTb
 cases hra:rightB a<;>cases hrb:rightB b
 ·have HE:=Lib.hid (HR.out _ _ hra hrb)
  clear HTa HTb
  go_upto_region 8 with fail
  refine Rf.p0 w0.heap.size _ (.quiet [0,1,2,3,5,6,7,8,10,11,12,13,15,16,17,18] (.one 4 (.one 9 (.one 14 (.one 19 (.one 20 (.one 21 (.quiet [22] (.done))))))))) ?_ (λa w h=>h)
  intro we hbe hwz
  have F3:=HF2.out.trans (hbe.mono HF2.out.size)
  have c0:=cellL a0 F3
  have c1:=cellL a1 F3
  have c2:=cellL a2 F3
  have c3:=cellL a3 F3
  have d0:=cellL b0 F3
  have d1:=cellL b1 F3
  have d2:=cellL b2 F3
  have d3:=cellL b3 F3
  have HF3:=Lib.hid F3
  have h1:=cmpKnd a.k b.k
  have h2:=cmpStr a.x b.x
  have h3:=cmpStr a.l b.l
  have h4:=cmpStr a.y b.y
  clear hwz hbe F3 a0 a1 a2 a3 b0 b1 b2 b3 hra hrb HR HD HF2
  generalize Lib.compareInt a.k b.k=n1 at *
  generalize cmpS a.x.toList b.x.toList=n2 at *
  generalize cmpS a.l.toList b.l.toList=n3 at *
  generalize cmpS a.y.toList b.y.toList=n4 at *
  refine Rf.pl_quiet ?_
  iterate 16 go_big_quiet_step (fail)
  refine wpQuiet_nil (Rf.pl_one ?_)
  clear c0 c1 c2 c3 d0 d1 d2 d3
  go_wp2_with (go_at_call 60;with_reducible refine(h1 _).mono ?_;rintro e V3 ⟨rfl,rfl⟩)
  refine⟨Below.refl _ _,Rf.pl_one ?_⟩
  go_wp2_with (go_at_call 57;with_reducible refine(h2 _).mono ?_;rintro e V3 ⟨rfl,rfl⟩)
  refine⟨Below.refl _ _,Rf.pl_one ?_⟩
  go_wp2_with (go_at_call 57;with_reducible refine(h3 _).mono ?_;rintro e V3 ⟨rfl,rfl⟩)
  refine⟨Below.refl _ _,Rf.pl_one ?_⟩
  go_wp2_with (go_at_call 57;with_reducible refine(h4 _).mono ?_;rintro e V3 ⟨rfl,rfl⟩)
  refine⟨Below.refl _ _,Rf.pl_one ?_⟩
  have hV:=HF3.out.size
  have h5:=cmpOr we.heap.size [n1,n2,n3,n4] 4 4 (we.alloc (.cells #[.int .i64 n1,.int .i64 n2,.int .i64 n3,.int .i64 n4] 3)) (Rd.of_block (heap_alloc_new we _) rfl) rfl (by omega)
  have h6:Below w0.heap.size we (we.alloc (.cells #[.int .i64 n1,.int .i64 n2,.int .i64 n3,.int .i64 n4] 3)):=(Below.refl _ _).alloc hV _
  have H6:=Lib.hid h6
  go_wp2_with fail
  refine⟨H6.out,Rf.pl_one ?_⟩
  go_wp2_with (go_at_call 59;with_reducible refine h5.mono ?_;rintro e V4 ⟨rfl,rfl⟩)
  refine⟨Below.refl _ _,Rf.pl_quiet ?_⟩
  iterate 1 go_big_quiet_step (fail)
  refine wpQuiet_nil (Rf.pl_done ?_)
  go_wp2
  go_ret
  exact⟨by rw[HE.out];rfl,HB0.out.trans ((HF3.out.trans H6.out).mono hsz)⟩
 ·have HE:=Lib.hid (HR.out _ _ hra hrb)
  go_wp2
  go_ret
  exact⟨by rw[HE.out];rfl,HB0.out.trans (HF2.out.mono hsz)⟩
 ·have HE:=Lib.hid (HR.out _ _ hra hrb)
  go_wp2
  go_ret
  exact⟨by rw[HE.out];rfl,HB0.out.trans (HF2.out.mono hsz)⟩
 ·have HE:=Lib.hid (HR.out _ _ hra hrb)
  have HTA:Hid (∀W,Below w0.heap.size w0 W->Calls Tryz.prog 58 #[tA a] W λe w'=>e=.returned (.string (mkS (textL a)))/\Below W.heap.size W w'):=λW hb=>HTa.out W hb hra
  have HTB:Hid (∀W,Below w0.heap.size w0 W->Calls Tryz.prog 58 #[tA b] W λe w'=>e=.returned (.string (mkS (textL b)))/\Below W.heap.size W w'):=λW hb=>HTb.out W hb hrb
  have h2:=cmpStr (mkS (textL a)) (mkS (textL b))
  rw[mkS_list,mkS_list]at h2
  clear HTa HTb
  go_upto_region 3 with fail
  refine Rf.p0 w0.heap.size _ (.quiet [0,2] (.one 1 (.one 3 (.one 4 (.quiet [5] (.done)))))) ?_ (λa w h=>h)
  intro we hbe hwz
  have F3:=HF2.out.trans (hbe.mono HF2.out.size)
  have c0:=cellL a0 F3
  have c1:=cellL a1 F3
  have c2:=cellL a2 F3
  have c3:=cellL a3 F3
  have d0:=cellL b0 F3
  have d1:=cellL b1 F3
  have d2:=cellL b2 F3
  have d3:=cellL b3 F3
  have HF3:=Lib.hid F3
  clear hwz hbe F3 a0 a1 a2 a3 b0 b1 b2 b3 hra hrb HR HD HF2
  refine Rf.pl_quiet ?_
  iterate 2 go_big_quiet_step (fail)
  refine wpQuiet_nil (Rf.pl_one ?_)
  clear c0 c1 c2 c3 d0 d1 d2 d3
  go_wp2_with (go_at_call 58;with_reducible refine(HTA.out _ HF3.out).mono ?_;rintro e V3 ⟨rfl,k3⟩)
  have F4:=below_tr HF3.out k3
  refine⟨k3.mono HF3.out.size,Rf.pl_one ?_⟩
  go_wp2_with (go_at_call 58;with_reducible refine(HTB.out _ F4).mono ?_;rintro e V4 ⟨rfl,k4⟩)
  have F5:=below_tr F4 k4
  refine⟨k4.mono F4.size,Rf.pl_one ?_⟩
  have HF5:=Lib.hid F5
  clear k3 k4 F4 F5
  go_wp2_with (go_at_call 57;with_reducible refine(h2 _).mono ?_;rintro e V5 ⟨rfl,rfl⟩)
  refine⟨Below.refl _ _,Rf.pl_quiet ?_⟩
  iterate 1 go_big_quiet_step (fail)
  refine wpQuiet_nil (Rf.pl_done ?_)
  go_wp2
  go_ret
  exact⟨by rw[HE.out];rfl,HB0.out.trans (HF5.out.mono hsz)⟩
abbrev tpC (t:Tp):Array Value:=#[.int .i64 t.s.k,.string t.s.x,.string t.s.l,.string t.s.y,.int .i64 t.p.k,.string t.p.x,.string t.p.l,.string t.p.y,.int .i64 t.o.k,.string t.o.x,.string t.o.l,.string t.o.y]
abbrev tpA (t:Tp):Value:=.agg (tpC t)
def smallP (t:Tp):Prop:=smallT t.s/\smallT t.p/\smallT t.o
theorem cmpTp_or (a b:Tp):cmpTp a b=orL [cmpTm a.s b.s,cmpTm a.p b.p,cmpTm a.o b.o]:=by
 unfold cmpTp
 simp only[orL_cons]
 rw[show orL []=0 from rfl,orZ_right]
theorem cells_at {w:World} {g:Nat} {cs:Array Value} {T:TypeId} (h:w.heap[g]?=some (Obj.cells cs T (0,0))) (i:Nat) {v:Value} (hv:cs[i]?=some v):w.cell? ⟨g,i,none⟩=some v:=by
 rw[Lib.cell_of_heap h];exact hv
theorem termTriples (a b:Tp) (w:World) (hC:CtxT w) (ha:smallP a) (hb:smallP b) :
  Calls Tryz.prog 48 #[tpA a,tpA b] w λe w'=>e=.returned (.int .i64 (cmpTp a b))/\Below w.heap.size w w':=by
 have hba:Below w.heap.size w (w.alloc (.cells (tpC a) 28)):=(Below.refl _ w).alloc (Nat.le_refl _) _
 have hga:=heap_alloc_new w (.cells (tpC a) 28)
 have hza:(w.alloc (.cells (tpC a) 28)).heap.size=w.heap.size+1:=by simp
 go_enter Tryz.func48,Tryz.ntmps48
 go_upto_region 1 with fail
 change Code.wp _ _ _ _ ((w.alloc (.cells (tpC a) 28)).alloc (.cells (tpC b) 28))
 generalize w.alloc (.cells (tpC a) 28)=wa at *
 have hbb:Below wa.heap.size wa (wa.alloc (.cells (tpC b) 28)):=(Below.refl _ wa).alloc (Nat.le_refl _) _
 have hgb:=heap_alloc_new wa (.cells (tpC b) 28)
 have hga2:=below_blk hbb hga
 rw[hza]at hgb
 generalize wa.alloc (.cells (tpC b) 28)=w0 at *
 have hb0:Below w.heap.size w w0:=below_tr hba hbb
 have hC0:=hC.step hb0
 have hsz:w.heap.size<=w0.heap.size:=hb0.size
 have h1:=λW hB=>termCompare a.s b.s W (hC0.step hB) ha.1 hb.1
 have h2:=λW hB=>termCompare a.p b.p W (hC0.step hB) ha.2.1 hb.2.1
 have h3:=λW hB=>termCompare a.o b.o W (hC0.step hB) ha.2.2 hb.2.2
 have HE:=Lib.hid (cmpTp_or a b)
 have HB0:=Lib.hid hb0
 clear hza hba hbb hb0 hC hC0
 refine Rf.p0 w0.heap.size _ (.quiet [0,1,2,3,5,6,7,8,10,11,12,13] (.one 4 (.one 9 (.one 14 (.one 15 (.one 16 (.quiet [17] (.done)))))))) ?_ (λa w h=>h)
 intro wd hbd hwz
 have p0:=cellL (cells_at hga2 0 rfl) hbd
 have p1:=cellL (cells_at hga2 1 rfl) hbd
 have p2:=cellL (cells_at hga2 2 rfl) hbd
 have p3:=cellL (cells_at hga2 3 rfl) hbd
 have p4:=cellL (cells_at hga2 4 rfl) hbd
 have p5:=cellL (cells_at hga2 5 rfl) hbd
 have p6:=cellL (cells_at hga2 6 rfl) hbd
 have p7:=cellL (cells_at hga2 7 rfl) hbd
 have p8:=cellL (cells_at hga2 8 rfl) hbd
 have p9:=cellL (cells_at hga2 9 rfl) hbd
 have p10:=cellL (cells_at hga2 10 rfl) hbd
 have p11:=cellL (cells_at hga2 11 rfl) hbd
 have q0:=cellL (cells_at hgb 0 rfl) hbd
 have q1:=cellL (cells_at hgb 1 rfl) hbd
 have q2:=cellL (cells_at hgb 2 rfl) hbd
 have q3:=cellL (cells_at hgb 3 rfl) hbd
 have q4:=cellL (cells_at hgb 4 rfl) hbd
 have q5:=cellL (cells_at hgb 5 rfl) hbd
 have q6:=cellL (cells_at hgb 6 rfl) hbd
 have q7:=cellL (cells_at hgb 7 rfl) hbd
 have q8:=cellL (cells_at hgb 8 rfl) hbd
 have q9:=cellL (cells_at hgb 9 rfl) hbd
 have q10:=cellL (cells_at hgb 10 rfl) hbd
 have q11:=cellL (cells_at hgb 11 rfl) hbd
 have HD:=Lib.hid hbd
 clear hwz hbd hga hga2 hgb
 generalize cmpTm a.s b.s=n1 at *
 generalize cmpTm a.p b.p=n2 at *
 generalize cmpTm a.o b.o=n3 at *
 refine Rf.pl_quiet ?_
 iterate 12 go_big_quiet_step (fail)
 refine wpQuiet_nil (Rf.pl_one ?_)
 clear p0 p1 p2 p3 p4 p5 p6 p7 p8 p9 p10 p11 q0 q1 q2 q3 q4 q5 q6 q7 q8 q9 q10 q11
 go_wp2_with (go_at_call 29;with_reducible refine(h1 _ HD.out).mono ?_;rintro e V1 ⟨rfl,k1⟩)
 have F1:=below_tr HD.out k1
 refine⟨k1.mono HD.out.size,Rf.pl_one ?_⟩
 go_wp2_with (go_at_call 29;with_reducible refine(h2 _ F1).mono ?_;rintro e V2 ⟨rfl,k2⟩)
 have F2:=below_tr F1 k2
 refine⟨k2.mono F1.size,Rf.pl_one ?_⟩
 go_wp2_with (go_at_call 29;with_reducible refine(h3 _ F2).mono ?_;rintro e V3 ⟨rfl,k3⟩)
 have F3:=below_tr F2 k3
 refine⟨k3.mono F2.size,Rf.pl_one ?_⟩
 have hV:=F3.size
 have h5:=cmpOr V3.heap.size [n1,n2,n3] 3 3 (V3.alloc (.cells #[.int .i64 n1,.int .i64 n2,.int .i64 n3] 3)) (Rd.of_block (heap_alloc_new V3 _) rfl) rfl (by omega)
 have H6:=Lib.hid ((Below.refl w0.heap.size V3).alloc hV (.cells #[.int .i64 n1,.int .i64 n2,.int .i64 n3] 3))
 have HF3:=Lib.hid F3
 clear k1 k2 k3 F1 F2 F3 h1 h2 h3
 go_wp2_with fail
 refine⟨H6.out,Rf.pl_one ?_⟩
 go_wp2_with (go_at_call 59;with_reducible refine h5.mono ?_;rintro e V4 ⟨rfl,rfl⟩)
 refine⟨Below.refl _ _,Rf.pl_quiet ?_⟩
 iterate 1 go_big_quiet_step (fail)
 refine wpQuiet_nil (Rf.pl_done ?_)
 go_wp2
 go_ret
 exact⟨by rw[HE.out];rfl,HB0.out.trans ((HF3.out.trans H6.out).mono hsz)⟩
abbrev tC (t:Tm):Array Value:=#[.int .i64 t.k,.string t.x,.string t.l,.string t.y]
def hugeT (t:Tm):Prop:=t.x.size<=281474976710656/\t.l.size<=281474976710656/\t.y.size<=281474976710656
def sz8T (t:Tm):Nat:=t.x.size+t.l.size+t.y.size
def sz8L (l:List Tm):Nat:=(l.map sz8T).sum
theorem sz8L_snoc (l:List Tm) (k:Nat) (t:Tm) (h:l[k]?=some t):sz8L (l.take (k+1))=sz8L (l.take k)+sz8T t:=by
 unfold sz8L
 rw[List.take_add_one,h,Option.toList_some,List.map_append,List.sum_append]
 simp
theorem szL_le (l:List Tm) (hz:∀t∈l,hugeT t):∀k,k<=l.length->sz8L (l.take k)<=k*844424930131968
 | 0,_=>by simp[sz8L]
 | k+1,hk=>by
  have hx:=List.getElem?_eq_getElem (show k<l.length by omega)
  rw[sz8L_snoc l k _ hx]
  have h1:=szL_le l hz k (by omega)
  have h2:=hz _ (List.getElem_mem (show k<l.length by omega))
  unfold hugeT at h2
  unfold sz8T
  rw[Nat.succ_mul];omega
theorem flat_at8 (l:List Tm) (k i:Nat) (t:Tm) (hk:l[k]?=some t) (hi:i<4):(l.flatMap λt=>(tC t).toList)[k*4+i]?=(tC t)[i]?:=by
 induction l generalizing k with
 | nil=>simp at hk
 | cons s r ih =>
  rw[List.flatMap_cons]
  cases k with
  | zero =>
   simp only[List.getElem?_cons_zero,Option.some.injEq]at hk
   subst hk
   rw[List.getElem?_append_left (by simp;omega)]
   simp
  | succ k =>
   simp only[List.getElem?_cons_succ]at hk
   have e:((tC s).toList).length=4:=rfl
   rw[List.getElem?_append_right (by rw[e];omega),e,show (k+1)*4+i-4=k*4+i by omega]
   exact ih k hk
open Go.ChangeShapes Go.WideShapes Go.ChangeAt Go.Lib Go.Joins Go.Deep
section
variable {H:Type} {enc:TypeId × Value->H}
theorem Ot.sized_arg {P:Program} {ts:List TypeId} {ds:List (DataW H)} {j:Nat} {t:TypeId} {d:DataW H} (hreach:(DataW.weightsEach P ts ds).all (· <= reachBytes)=true) (htj:ts[j]?=some t) (hdj:ds[j]?=some d):Sized P t d:=by
 intro m hm
 have:=List.all_eq_true.1 hreach m (DataW.weights_mem_each htj hdj m hm)
 simpa using this
def hugeTp (t:Tp):Prop:=hugeT t.s/\hugeT t.p/\hugeT t.o
theorem Ot.opens_term (w:World) (f:Nat):Opens enc Tryz.prog w f 26 4 (λcs (t:Tm)=>cs=(tC t).toList) (λt=>hugeT t):=by
 intro cs d ps h hs
 obtain⟨xs,n,_,hx,hl,hlen,hf⟩:=DataW.trod_struct Tryz.underlying26 h
 have hd:d=.agg (xs.map (·.1)):=congrArg Prod.fst hx
 subst hd
 have hc:Tryz.prog.cellsOf 26=4:=by kernel_rfl
 have c1:Tryz.prog.cellsOf 9=1:=by kernel_rfl
 have c0:Tryz.prog.cellsOf 24=1:=by kernel_rfl
 rw[hc]at hl
 match cs,hl,xs,hlen with
 | [v0,v1,v2,v3],_,[y0,y1,y2,y3],_ =>
  have g0:=hf 0 _ rfl
  have g1:=hf 1 _ rfl
  have g2:=hf 2 _ rfl
  have g3:=hf 3 _ rfl
  simp[c0,c1]at g0 g1 g2 g3
  obtain⟨k,e0,_,_⟩:=DataW.trod_int Tryz.underlying24 g0
  obtain⟨x,e1,q1,_⟩:=DataW.trod_string Tryz.underlying9 g1
  obtain⟨l,e2,q2,_⟩:=DataW.trod_string Tryz.underlying9 g2
  obtain⟨y,e3,q3,_⟩:=DataW.trod_string Tryz.underlying9 g3
  simp at e0 e1 e2 e3
  refine⟨⟨k,x,l,y⟩,by simp[e0,e1,e2,e3],rfl,?_⟩
  have hs1:Sized Tryz.prog 9 y1.1:=hs.field Tryz.underlying26 (i:=1) rfl rfl
  have hs2:Sized Tryz.prog 9 y2.1:=hs.field Tryz.underlying26 (i:=2) rfl rfl
  have hs3:Sized Tryz.prog 9 y3.1:=hs.field Tryz.underlying26 (i:=3) rfl rfl
  rw[q1]at hs1
  rw[q2]at hs2
  rw[q3]at hs3
  exact⟨Nat.le_trans (sized_str hs1) (by decide),Nat.le_trans (sized_str hs2) (by decide),Nat.le_trans (sized_str hs3) (by decide)⟩
theorem Ot.opens_trip (w:World) (f:Nat):Opens enc Tryz.prog w f 28 12 (λcs (t:Tp)=>cs=(tpC t).toList) (λt=>hugeTp t):=by
 intro cs d ps h hs
 obtain⟨xs,n,_,hx,hl,hlen,hf⟩:=DataW.trod_struct Tryz.underlying28 h
 have hd:d=.agg (xs.map (·.1)):=congrArg Prod.fst hx
 subst hd
 have hc:Tryz.prog.cellsOf 28=12:=by kernel_rfl
 have c1:Tryz.prog.cellsOf 26=4:=by kernel_rfl
 rw[hc]at hl
 match cs,hl,xs,hlen with
 | [v0,v1,v2,v3,v4,v5,v6,v7,v8,v9,v10,v11],_,[y0,y1,y2],_ =>
  have g0:=hf 0 _ rfl
  have g1:=hf 1 _ rfl
  have g2:=hf 2 _ rfl
  simp[c1]at g0 g1 g2
  obtain⟨s,e0,_,z0⟩:=Ot.opens_term w _ _ y0.1 y0.2 g0 (hs.field Tryz.underlying28 (i:=0) rfl rfl)
  obtain⟨p,e1,_,z1⟩:=Ot.opens_term w _ _ y1.1 y1.2 g1 (hs.field Tryz.underlying28 (i:=1) rfl rfl)
  obtain⟨o,e2,_,z2⟩:=Ot.opens_term w _ _ y2.1 y2.2 g2 (hs.field Tryz.underlying28 (i:=2) rfl rfl)
  simp at e0 e1 e2
  refine⟨⟨s,p,o⟩,?_,rfl,⟨z0,z1,z2⟩⟩
  simp[e0,e1,e2]
theorem Ot.arg_trips {r:Reach} {b0:Nat} {w:World} {v:Value} {d:DataW H} {ps:List MemPlace} (hv:Value.okWide Tryz.prog w r b0 22 v) (hd:DataW.Trod enc Tryz.prog w 0 (λ_=>true) true 22 v d ps) (hs:Sized Tryz.prog 22 d) :
  ∃(l:List Tp) (A:Option Addr) (c:Nat),v=.slice A l.length c/\l.length<=c/\RdL 12 (λcs (t:Tp)=>cs=(tpC t).toList) w A l/\l.length<=837723144947/\∀t∈l,hugeTp t:=by
 obtain⟨A0,l0,c0,rfl⟩:=okWide_slice Tryz.underlying22 hv
 obtain⟨fuel,hf⟩:=hd
 obtain⟨l,A,c,hcs,hle,hrd,hz,hcap⟩:=open_list (F:=fuel) Tryz.underlying22 (by kernel_rfl) (by omega) (Nat.le_succ _) (Ot.opens_trip w fuel) (show DataW.trod enc Tryz.prog w 0 (λ_=>true) true fuel 22 [.slice A0 l0 c0]=some (d,ps) from hf) hs
 have hby:Tryz.prog.bytesOf 28=168:=by kernel_rfl
 rw[hby]at hcap
 unfold reachBytes at hcap
 injection hcs with hcs _
 exact⟨l,A,c,hcs,hle,hrd,by omega,hz⟩
end
open Go.ChangeMaps (open_string shut_string)
theorem own:ownKnob Tryz.prog.godebug=none:=by kernel_rfl
theorem laidOut:laidOutB Tryz.prog=true:=by kernel_rfl
def caseRen:Go.Shelf.Ren:=⟨Tryz.lays274_ren.f,Tryz.lays274_ren.t,fun|13=>2|n=>n⟩
theorem caseLays:Lays.n274 Tryz.prog caseRen:={Tryz.lays274 with}
def laidFore:List (String × DataW Unit):=[("math/bits.deBruijn32tab",Rows.laid_math_bits_deBruijn32tab),("math/bits.deBruijn64tab",Rows.laid_math_bits_deBruijn64tab),("internal/strconv.uint64pow10",Rows.laid_internal_strconv_uint64pow10),("unicode/utf8.acceptRanges",Rows.laid_unicode_utf8_acceptRanges)]
def laidRear:List (String × DataW Unit):=[("unicode/utf8.first",Rows.laid_unicode_utf8_first)]
def laidList:List (String × DataW Unit):=[("math/bits.deBruijn32tab",Rows.laid_math_bits_deBruijn32tab),("math/bits.deBruijn64tab",Rows.laid_math_bits_deBruijn64tab),("internal/strconv.uint64pow10",Rows.laid_internal_strconv_uint64pow10),("unicode/utf8.acceptRanges",Rows.laid_unicode_utf8_acceptRanges),("unicode.CaseRanges",Rows.laid_unicode_CaseRanges),("unicode/utf8.first",Rows.laid_unicode_utf8_first)]
theorem first_same:Rows.laid_unicode_utf8_first=Lib.firstData:=by kernel_rfl
theorem accept_same:(Rows.laid_unicode_utf8_acceptRanges:DataW Unit)=Lib.acceptData:=by kernel_rfl
theorem case_same:Rows.laid_unicode_CaseRanges=Lib.caseData:=by kernel_rfl
theorem deb_same:(Rows.laid_math_bits_deBruijn64tab:DataW Unit)=Lib.tabData .u8 [0,1,56,2,57,49,28,3,61,58,42,50,38,29,17,4,62,47,59,36,45,43,51,22,53,39,33,30,24,18,12,5,63,55,48,27,60,41,37,16,46,35,44,21,52,32,23,11,54,26,40,15,34,20,31,10,25,14,19,9,13,8,7,6]:=by kernel_rfl
theorem ctx_of {W:World} (hL:laidMetH Tryz.prog laidList W) (hsh:W.ShapedOpen Tryz.prog):CtxT W:=by
 refine⟨⟨?_,Go.Proofs.cell_of_shapedOpen_int (zero:=#[.int .i64 0]) (t:=3) hsh (of_decide_eq_true (by kernel_rfl)) (by kernel_rfl) rfl (by kernel_rfl) (by kernel_rfl) Tryz.underlying3⟩,?_⟩
 ·have h1:=Lib.laidMet.reads hL (.tail _ (.tail _ (.tail _ (.tail _ (.tail _ (.head _))))))
  have h2:=Lib.laidMet.reads hL (.tail _ (.tail _ (.tail _ (.head _))))
  rw[first_same]at h1
  rw[accept_same]at h2
  exact utf8Tabs_of_reads Tryz.lays260 ⟨by kernel_rfl,by kernel_rfl,by kernel_rfl,by kernel_rfl,by kernel_rfl,by kernel_rfl,by kernel_rfl⟩ h1 h2
 ·have h3:=Lib.laidMet.reads hL (.tail _ (.head _))
  rw[deb_same]at h3
  obtain⟨g,t,cs,fuel,p,hg,hty,hvar,hd⟩:=h3
  have hg0:Tryz.prog.globalNamed "math/bits.deBruijn64tab" = some 6:=by kernel_rfl
  obtain rfl:=Option.some.inj (hg0.symm.trans hg)
  have ht0:(Tryz.prog.globals[6]?).map (·.type)=some 389:=by kernel_rfl
  obtain rfl:=Option.some.inj (ht0.symm.trans hty)
  have hcs:=cells_of_tab Tryz.underlying389 Tryz.underlying5 (by kernel_rfl) (by kernel_rfl) hd
  unfold TzV
  rw[World.var?_cell hg hvar 15,←Array.getElem?_toList,hcs]
  rfl
theorem LaidVars_split {P:Program} {w:World}:∀{l l':List (String × DataW Unit)} {ps:List MemPlace},DataW.LaidVars P w (l++l') ps->∃a b,ps=a++b/\DataW.LaidVars P w l a/\DataW.LaidVars P w l' b
 | [],l',ps,h=>⟨[],ps,rfl,rfl,h⟩
 | (n,d)::r,l',ps,h=>by
  obtain⟨g,t,cs,fuel,p,q,h1,h2,h3,h4,h5,rfl⟩:=h
  obtain⟨a,b,rfl,ha,hb⟩:=LaidVars_split h5
  exact⟨_,b,(List.append_assoc _ _ _).symm,⟨g,t,cs,fuel,p,a,h1,h2,h3,h4,ha,rfl⟩,hb⟩
theorem laidMet_turn {P:Program} {w:World} {l1 l2 l3:List (String × DataW Unit)} (h:laidMet P ((l1++l2)++l3) w):laidMet P (l1++(l3++l2)) w:=by
 obtain⟨ps,hl,hn,hr⟩:=h
 obtain⟨a,c,rfl,hab,hc⟩:=LaidVars_split hl
 obtain⟨a,b,rfl,ha,hb⟩:=LaidVars_split hab
 have hp:(a++(c++b)).Perm ((a++b)++c):=by
  rw[List.append_assoc]
  exact List.Perm.append_left a List.perm_append_comm
 exact⟨a++(c++b),Go.LaidVars_app ha (Go.LaidVars_app hc hb),hp.nodup_iff.2 hn,λx off hx=>hr x off (hp.mem_iff.1 hx)⟩
noncomputable def laidWorld (os:Os):World:=
 let N:=(World.settled Tryz.prog os).heap.size
 let w0:=World.holding Tryz.prog os ⟨#[.cells Lib.caseCells5 (Tryz.lays274_ren.t 208) (0,0)],#[],[]⟩
 let put (h:Array Obj) (g:Nat) (cs:Array Value):Array Obj:=h.modify g fun
  | .cells _ t frozen=>.cells cs t frozen
  | o=>o
 let h1:=put w0.heap 5 #[Value.int .u8 0,Value.int .u8 1,Value.int .u8 28,Value.int .u8 2,Value.int .u8 29,Value.int .u8 14,Value.int .u8 24,Value.int .u8 3,Value.int .u8 30,Value.int .u8 22,Value.int .u8 20,Value.int .u8 15,Value.int .u8 25,Value.int .u8 17,Value.int .u8 4,Value.int .u8 8,Value.int .u8 31,Value.int .u8 27,Value.int .u8 13,Value.int .u8 23,Value.int .u8 21,Value.int .u8 19,Value.int .u8 16,Value.int .u8 7,Value.int .u8 26,Value.int .u8 12,Value.int .u8 18,Value.int .u8 6,Value.int .u8 11,Value.int .u8 5,Value.int .u8 10,Value.int .u8 9]
 let h2:=put h1 6 #[Value.int .u8 0,Value.int .u8 1,Value.int .u8 56,Value.int .u8 2,Value.int .u8 57,Value.int .u8 49,Value.int .u8 28,Value.int .u8 3,Value.int .u8 61,Value.int .u8 58,Value.int .u8 42,Value.int .u8 50,Value.int .u8 38,Value.int .u8 29,Value.int .u8 17,Value.int .u8 4,Value.int .u8 62,Value.int .u8 47,Value.int .u8 59,Value.int .u8 36,Value.int .u8 45,Value.int .u8 43,Value.int .u8 51,Value.int .u8 22,Value.int .u8 53,Value.int .u8 39,Value.int .u8 33,Value.int .u8 30,Value.int .u8 24,Value.int .u8 18,Value.int .u8 12,Value.int .u8 5,Value.int .u8 63,Value.int .u8 55,Value.int .u8 48,Value.int .u8 27,Value.int .u8 60,Value.int .u8 41,Value.int .u8 37,Value.int .u8 16,Value.int .u8 46,Value.int .u8 35,Value.int .u8 44,Value.int .u8 21,Value.int .u8 52,Value.int .u8 32,Value.int .u8 23,Value.int .u8 11,Value.int .u8 54,Value.int .u8 26,Value.int .u8 40,Value.int .u8 15,Value.int .u8 34,Value.int .u8 20,Value.int .u8 31,Value.int .u8 10,Value.int .u8 25,Value.int .u8 14,Value.int .u8 19,Value.int .u8 9,Value.int .u8 13,Value.int .u8 8,Value.int .u8 7,Value.int .u8 6]
 let h3:=put h2 3 #[Value.int .u64 1,Value.int .u64 10,Value.int .u64 100,Value.int .u64 1000,Value.int .u64 10000,Value.int .u64 100000,Value.int .u64 1000000,Value.int .u64 10000000,Value.int .u64 100000000,Value.int .u64 1000000000,Value.int .u64 10000000000,Value.int .u64 100000000000,Value.int .u64 1000000000000,Value.int .u64 10000000000000,Value.int .u64 100000000000000,Value.int .u64 1000000000000000,Value.int .u64 10000000000000000,Value.int .u64 100000000000000000,Value.int .u64 1000000000000000000,Value.int .u64 10000000000000000000]
 let h4:=put h3 1 ((List.range 16).flatMap λi=>[Value.int .u8 (Lib.accLo i),Value.int .u8 (Lib.accHi i)]).toArray
 let h5:=put h4 2 #[.slice (some ⟨N,0,none⟩) Lib.caseA.size Lib.caseA.size]
 let h6:=put h5 0 (Lib.firstTab.map λz=>Value.int .u8 z).toArray
 {w0 with heap:=h6}
theorem laid_met (os:Os) (args:Array Value):laidMet Tryz.prog laidList ((laidWorld os).forCall (λ_ _=>0) ⟨#[],args,[]⟩).memory:=by
 have h:=laidMet_with_case (ρ:=caseRen) caseLays (by kernel_rfl) ⟨by kernel_rfl,by kernel_rfl,by kernel_rfl,by kernel_rfl,by kernel_rfl,by kernel_rfl⟩ (w:=((laidWorld os).forCall (λ_ _=>0) ⟨#[],args,[]⟩).memory)
  (l:=laidFore++laidRear) 10 (by kernel_rfl) (by kernel_rfl) (by kernel_rfl) ((World.settled Tryz.prog default).heap.size) (Tryz.lays274_ren.t 208) (of_decide_eq_true (by kernel_rfl)) (by kernel_rfl) (by kernel_rfl) (by kernel_rfl)
 have h2:=laidMet_turn h
 have e:laidList=laidFore++([("unicode.CaseRanges",Lib.caseData)]++laidRear):=by rw[←case_same];rfl
 rw[e]
 exact h2
end Go.Proofs.YtoaemihcbmlkgaaGreatDoor
