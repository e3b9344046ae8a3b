/- How terms and triples stand, in plain words. The program's p -/
import Derived.Test.YtfcbghmbbjolcaaGreatDoorJWr4
import Derived.Test.YtfcbghmbbjolcaaGreatDoorJOpenWm
import Derived.Lib.LaidCaseMet
set_option maxHeartbeats 4000000
set_option maxRecDepth 100000
namespace Go.Proofs.YtfcbghmbbjolcaaGreatDoor.Tx
open Go Go.RowKit Um Fm Lx
def orZ (a b:Int):Int:=if a=0 then b else a
theorem pZ (a:Int):orZ a 0=a:=by unfold orZ;split<;>omega
structure iF {α:Type} (f:α->α->Int):Prop where
 neg:∀a b,f b a = -f a b
 zero:∀a b,f a b=0->a=b
 tr:∀a b c,f a b<0->f b c<0->f a c<0
 rng:∀a b,-1<=f a b/\f a b<=1
theorem iF.self {α:Type} {f:α->α->Int} (h:iF f) (a:α):f a a=0:=by have:=h.neg a a;omega
theorem iF.le {α:Type} {f:α->α->Int} (h:iF f) {a b c:α} (h1:f a b<=0) (h2:f b c<=0):f a c<=0:=by
 rcases Int.lt_or_eq_of_le h1 with h1|h1
 ·rcases Int.lt_or_eq_of_le h2 with h2|h2
  ·exact Int.le_of_lt (h.tr a b c h1 h2)
  ·rw[←h.zero _ _ h2];omega
 ·rw[h.zero _ _ h1];exact h2
theorem ie:iF aZ where
 neg:=λa b=>uH a b
 zero:=λa b h=>(ip a b).1 h
 tr:=λa b c=>yb a b c
 rng:=λa b=>by unfold aZ;split<;>(try split)<;>omega
theorem Cg:iF Lib.compareInt where
 neg:=λa b=>by unfold Lib.compareInt;(repeat' split);all_goals omega
 zero:=λa b h=>(cT a b).1 h
 tr:=λa b c=>by unfold Lib.compareInt;(repeat' split);all_goals omega
 rng:=λa b=>by unfold Lib.compareInt;(repeat' split);all_goals omega
theorem tp {α β:Type} {f:β->β->Int} (h:iF f) (g:α->β) (hg:∀a b,g a=g b->a=b):iF (λa b=>f (g a) (g b)) where
 neg:=λ_a _b=>h.neg _ _
 zero:=λa b e=>hg a b (h.zero _ _ e)
 tr:=λ_a _b _c=>h.tr _ _ _
 rng:=λ_a _b=>h.rng _ _
theorem jI {α β:Type} {f:α->α->Int} {g:β->β->Int} (hf:iF f) (hg:iF g):iF (λ(a b:α × β)=>orZ (f a.1 b.1) (g a.2 b.2)) where
 neg:=λa b=>by
  have:=hf.neg a.1 b.1;have:=hg.neg a.2 b.2
  unfold orZ;repeat' split
  all_goals omega
 zero:=λa b e=>by
  unfold orZ at e
  split at e
  ·rename_i h;exact Prod.ext (hf.zero _ _ h) (hg.zero _ _ e)
  ·rename_i h;exact absurd e h
 tr:=λa b c h1 h2=>by
  unfold orZ at h1 h2 ⊢
  by_cases e1:f a.1 b.1=0
  ·rw[if_pos e1]at h1
   have q1:=hf.zero _ _ e1
   rw[q1]
   by_cases e2:f b.1 c.1=0
   ·rw[if_pos e2]at h2 ⊢;exact hg.tr _ _ _ h1 h2
   ·rw[if_neg e2]at h2 ⊢;exact h2
  ·rw[if_neg e1]at h1
   by_cases e2:f b.1 c.1=0
   ·rw[←hf.zero _ _ e2,if_neg e1];exact h1
   ·rw[if_neg e2]at h2
    have h3:=hf.tr _ _ _ h1 h2
    rw[if_neg (by omega)];exact h3
 rng:=λa b=>by
  have:=hf.rng a.1 b.1;have:=hg.rng a.2 b.2
  unfold orZ;split<;>omega
abbrev bl (s:ByteArray):List UInt8:=s.data.toList
def cmpW (a b:Tm):Int:=orZ (Lib.compareInt a.k b.k) (orZ (aZ (bl a.x) (bl b.x)) (orZ (aZ (bl a.l) (bl b.l)) (aZ (bl a.y) (bl b.y))))
theorem r6:iF cmpW:=
 tp (jI Cg (jI ie (jI ie ie))) (λt:Tm=>(t.k,bl t.x,bl t.l,bl t.y)) λa b h=>by
  obtain⟨k,x,l,y⟩:=a;obtain⟨k',x',l',y'⟩:=b
  simp only[Prod.mk.injEq]at h
  rw[h.1,du h.2.1,du h.2.2.1,du h.2.2.2]
def ay (a b:Tm):Int:=if aB a && aB b then aZ (ba a) (ba b) else if aB a then -1 else if aB b then 1 else cmpW a b
theorem bd:iF ay where
 neg:=λa b=>by
  have h1:=uH (ba a) (ba b);have h2:=r6.neg a b
  unfold ay
  cases aB a<;>cases aB b<;>simp[h1,h2]
 zero:=λa b h=>by
  unfold ay at h
  cases ha:aB a<;>cases hb:aB b<;>rw[ha,hb]at h
  ·exact r6.zero a b h
  ·cases h
  ·cases h
  ·exact B9 ha hb ((ip _ _).1 h)
 tr:=λa b c h1 h2=>by
  unfold ay at h1 h2 ⊢
  cases ha:aB a<;>cases hb:aB b<;>cases hc:aB c<;>rw[ha,hb]at h1<;>rw[hb,hc]at h2 <;>
   simp only[Bool.and_true,Bool.and_false,if_true,Bool.false_eq_true,if_false]at h1 h2 ⊢
  ·exact r6.tr a b c h1 h2
  ·omega
  ·omega
  ·omega
  ·omega
  ·omega
  ·omega
  ·exact yb _ _ _ h1 h2
 rng:=λa b=>by
  have h1:=ie.rng (ba a) (ba b);have h2:=r6.rng a b
  unfold ay
  split
  ·exact h1
  split
  ·omega
  split
  ·omega
  ·exact h2
structure Tp where
 s:Tm
 p:Tm
 o:Tm
def cmpTp (a b:Tp):Int:=orZ (ay a.s b.s) (orZ (ay a.p b.p) (ay a.o b.o))
theorem aW:iF cmpTp:=
 tp (jI bd (jI bd bd)) (λt:Tp=>(t.s,t.p,t.o)) λa b h=>by
  obtain⟨s,p,o⟩:=a;obtain⟨s',p',o'⟩:=b
  simp only[Prod.mk.injEq]at h
  rw[h.1,h.2.1,h.2.2]
end Go.Proofs.YtfcbghmbbjolcaaGreatDoor.Tx
namespace Go.Proofs.YtfcbghmbbjolcaaGreatDoor
open Go Go.RowKit Um Fm Tx
theorem Hj (s:ByteArray) (w:World):Calls Tryz.prog 223 #[.string s] w λe w'=>e=.returned (.bool false)/\w=w':=by
 go_enter Tryz.func223,Tryz.ntmps223
 go_wp2
 all_goals (go_ret;exact⟨by simp,rfl⟩)
theorem jk (x y:ByteArray) (w:World) :
  Calls Tryz.prog 164 #[.string x,.string y] w λe w'=>e=.returned (.int .i64 (aZ x.toList y.toList))/\w=w':=by
 go_enter Tryz.func164,Tryz.ntmps164
 go_wp2_with ((refine(Hj _ _).mono ?_);(rintro e w1 ⟨rfl,rfl⟩))
 all_goals (go_ret;exact⟨by simp_all[aZ],rfl⟩)
theorem JZ (s:Int) (w:World):Calls Tryz.prog 229 #[.int .i64 s] w λe w'=>e=.returned (.bool false)/\w=w':=by
 go_enter Tryz.func229,Tryz.ntmps229
 go_wp2
 all_goals (go_ret;exact⟨by simp,rfl⟩)
theorem IA (x y:Int) (w:World) :
  Calls Tryz.prog 166 #[.int .i64 x,.int .i64 y] w λe w'=>e=.returned (.int .i64 (Lib.compareInt x y))/\w=w':=by
 go_enter Tryz.func166,Tryz.ntmps166
 go_wp2_with ((refine(JZ _ _).mono ?_);(rintro e w1 ⟨rfl,rfl⟩))
 all_goals (go_ret;refine⟨?_,rfl⟩;unfold Lib.compareInt;simp_all;try (repeat' split)<;>omega)
def orL:List Int->Int
 | []=>0
 | x::r=>if x=0 then orL r else x
theorem tt (x:Int) (r:List Int):orL (x::r)=orZ x (orL r):=rfl
theorem Gt (g:Nat) (xs:List Int) (n c:Nat) (w:World) (hr:Rd w (some ⟨g,0,none⟩) (xs.map (Value.int .i64))) (hn:xs.length=n) (hl:n<=10) :
  Calls Tryz.prog 150 #[.slice (some ⟨g,0,none⟩) n c] w λe w'=>e=.returned (.int .i64 (orL xs))/\w=w':=by
 subst hn
 go_enter Tryz.func150,Tryz.ntmps150
 go_wp2
 go_loop [5,8] (λv i=>∃k:Nat,k<=xs.length/\i=.int .i64 k/\Hid (orL xs=orL (xs.drop k))) (λ_ i=>xs.length-(intOf i).toNat)
 case atStart=>exact⟨0,by omega,rfl,rfl⟩
 case round =>
  obtain⟨k,hk,rfl,H⟩:=hrel
  by_cases hlt:k<xs.length
  ·obtain⟨y,hy⟩:∃y,xs[k]?=some y:=⟨_,List.getElem?_eq_getElem hlt⟩
   obtain⟨g',o',he,hcx⟩:=hr.at_ (j:=k) (u:=.int .i64 y) (by rw[List.getElem?_map,hy];rfl)
   injection he with he;injection he with he1 he2 _
   subst he1;subst he2
   rw[Nat.zero_add]at hcx
   have hd:xs.drop k=y::xs.drop (k+1):=ai hy
   have H2:Hid (orL xs=if y=0 then orL (xs.drop (k+1)) else y):=by show _=_;rw[H.out,hd];rfl
   clear H hd hy hr
   by_cases hq:y=0
   ·go_wp2
    go_round
    case rel=>exact⟨k+1,by omega,by go_num,by show _=_;rw[H2.out,if_pos hq]⟩
    case measure=>simp[intOf];omega
   ·go_wp2
    go_ret
    exact⟨by rw[H2.out,if_neg hq];rfl,rfl⟩
  ·have H2:Hid (orL xs=0):=by show _=_;rw[H.out,List.drop_eq_nil_of_le (by omega)];rfl
   clear H hr
   go_wp2
   go_ret
   exact⟨by rw[H2.out];rfl,rfl⟩
abbrev tA (t:Tm):Value:=.agg #[.int .i64 t.k,.string t.x,.string t.l,.string t.y]
def bK (t:Tm):Prop:=t.x.size<=1048576/\t.l.size<=1048576/\t.y.size<=1048576
theorem ni (l:List UInt8):(mkS l).size=l.length:=by show l.toArray.size=_;rw[List.size_toArray]
theorem jP (l:List UInt8):(mkS l).toList=l:=by rw[ByteArray.toList_eq]
theorem mB (t:Tm) (w:World) (hC:cD w) (hs:bK t):Calls Tryz.prog 163 #[tA t] w λe w'=>e=.returned (.bool (aB t))/\Below w.heap.size w w':=
 pH t w hC.1 (Nat.le_trans hs.1 (by omega)) (Nat.le_trans hs.2.1 (by omega)) (Nat.le_trans hs.2.2 (by omega))
theorem pG (t:Tm) (w:World) (hC:cD w) (h:aB t=true) (hs:bK t):Calls Tryz.prog 165 #[tA t] w λe w'=>e=.returned (.string (mkS (ba t)))/\Below w.heap.size w w':=
 Ba t w hC h hs.1 hs.2.1 hs.2.2
theorem FX {a b:Tm} (ha:aB a=false) (hb:aB b=false):ay a b=orL [Lib.compareInt a.k b.k,aZ a.x.toList b.x.toList,aZ a.l.toList b.l.toList,aZ a.y.toList b.y.toList]:=by
 unfold ay cmpW
 rw[ha,hb,if_neg (by decide),if_neg (by decide),if_neg (by decide)]
 simp only[tt,ByteArray.toList_eq]
 rw[show orL []=0 from rfl,pZ]
theorem dN (a b:Tm) (w:World) (hC:cD w) (ha:bK a) (hb:bK b) :
  Calls Tryz.prog 106 #[tA a,tA b] w λe w'=>e=.returned (.int .i64 (ay a b))/\Below w.heap.size w w':=by
 have hba:Below w.heap.size w (w.alloc (.cells #[.int .i64 a.k,.string a.x,.string a.l,.string a.y] 62)):=(Below.refl _ w).alloc (Nat.le_refl _) _
 have hga:=heap_alloc_new w (.cells #[.int .i64 a.k,.string a.x,.string a.l,.string a.y] 62)
 have hza:(w.alloc (.cells #[.int .i64 a.k,.string a.x,.string a.l,.string a.y] 62)).heap.size=w.heap.size+1:=by simp
 go_enter Tryz.func106,Tryz.ntmps106
 go_upto_region 1 with fail
 generalize w.alloc (.cells #[.int .i64 a.k,.string a.x,.string a.l,.string a.y] 62)=wa at *
 have hbb:Below wa.heap.size wa (wa.alloc (.cells #[.int .i64 b.k,.string b.x,.string b.l,.string b.y] 62)):=(Below.refl _ wa).alloc (Nat.le_refl _) _
 have hgb:=heap_alloc_new wa (.cells #[.int .i64 b.k,.string b.x,.string b.l,.string b.y] 62)
 have hzb:(wa.alloc (.cells #[.int .i64 b.k,.string b.x,.string b.l,.string b.y] 62)).heap.size=w.heap.size+2:=by simp[hza]
 have hga2:=cB hbb hga
 rw[hza]at hgb
 generalize wa.alloc (.cells #[.int .i64 b.k,.string b.x,.string b.l,.string b.y] 62)=w0 at *
 have hb0:Below w.heap.size w w0:=aa hba hbb
 have hC0:=hC.step hb0
 have a0:w0.cell? ⟨w.heap.size,0,none⟩=some (.int .i64 a.k):=by rw[Lib.cell_of_heap hga2];rfl
 have a1:w0.cell? ⟨w.heap.size,1,none⟩=some (.string a.x):=by rw[Lib.cell_of_heap hga2];rfl
 have a2:w0.cell? ⟨w.heap.size,2,none⟩=some (.string a.l):=by rw[Lib.cell_of_heap hga2];rfl
 have a3:w0.cell? ⟨w.heap.size,3,none⟩=some (.string a.y):=by rw[Lib.cell_of_heap hga2];rfl
 have b0:w0.cell? ⟨w.heap.size+1,0,none⟩=some (.int .i64 b.k):=by rw[Lib.cell_of_heap hgb];rfl
 have b1:w0.cell? ⟨w.heap.size+1,1,none⟩=some (.string b.x):=by rw[Lib.cell_of_heap hgb];rfl
 have b2:w0.cell? ⟨w.heap.size+1,2,none⟩=some (.string b.l):=by rw[Lib.cell_of_heap hgb];rfl
 have b3:w0.cell? ⟨w.heap.size+1,3,none⟩=some (.string b.y):=by rw[Lib.cell_of_heap hgb];rfl
 have hsz:w.heap.size<=w0.heap.size:=hb0.size
 have hRa:=λW hB=>mB a W (hC0.step hB) ha
 have hRb:=λW hB=>mB b W (hC0.step hB) hb
 have hTa:=λW hB h=>pG a W (hC0.step hB) h ha
 have hTb:=λW hB h=>pG b W (hC0.step hB) h hb
 have HB0:=Lib.hid hb0
 have HR:Hid (∀x y,aB a=x->aB b=y->ay a b=if x && y then aZ (ba a) (ba b) else if x then -1 else if y then 1 else orL [Lib.compareInt a.k b.k,aZ a.x.toList b.x.toList,aZ a.l.toList b.l.toList,aZ a.y.toList b.y.toList]):=by
  intro x y hx hy
  cases x<;>cases y
  ·rw[FX hx hy];rfl
  ·unfold ay;rw[hx,hy];rfl
  ·unfold ay;rw[hx,hy];rfl
  ·unfold ay;rw[hx,hy];rfl
 clear hga hgb hga2 hza hzb hba hbb hb0 hC hC0
 refine Rf.p0 w0.heap.size _ (.quiet [0,2] (.one 1 (.one 3 (.quiet [4,5] (.done))))) ?_ (λa w h=>h)
 intro wd hbd hwz
 have p0:=cellL a0 hbd
 have p1:=cellL a1 hbd
 have p2:=cellL a2 hbd
 have p3:=cellL a3 hbd
 have q0:=cellL b0 hbd
 have q1:=cellL b1 hbd
 have q2:=cellL b2 hbd
 have q3:=cellL b3 hbd
 have HD:=Lib.hid hbd
 clear hwz hbd
 refine Rf.pl_quiet ?_
 iterate 2 go_big_quiet_step (fail)
 refine wpQuiet_nil (Rf.pl_one ?_)
 clear p0 p1 p2 p3 q0 q1 q2 q3
 go_wp2_with (go_at_call 163;with_reducible refine(hRa _ HD.out).mono ?_;rintro e V1 ⟨rfl,k1⟩)
 have F1:=aa HD.out k1
 refine⟨k1.mono HD.out.size,Rf.pl_one ?_⟩
 go_wp2_with (go_at_call 163;with_reducible refine(hRb _ F1).mono ?_;rintro e V2 ⟨rfl,k2⟩)
 have F2:=aa F1 k2
 refine⟨k2.mono F1.size,Rf.pl_quiet ?_⟩
 clear k1 k2 F1 hRa hRb
 have HF2:=Lib.hid F2
 clear F2
 iterate 2 go_big_quiet_step (fail)
 refine wpQuiet_nil (Rf.pl_done ?_)
 have HTa:=Lib.hid hTa
 have HTb:=Lib.hid hTb
 clear hTa hTb
 cases hra:aB a<;>cases hrb:aB b
 ·have HE:=Lib.hid (HR.out _ _ hra hrb)
  clear HTa HTb
  go_upto_region 8 with fail
  refine Rf.p0 w0.heap.size _ (.quiet [0,1,2,3,5,6,7,8,10,11,12,13,15,16,17,18] (.one 4 (.one 9 (.one 14 (.one 19 (.one 20 (.one 21 (.quiet [22] (.done))))))))) ?_ (λa w h=>h)
  intro we hbe hwz
  have F3:=HF2.out.trans (hbe.mono HF2.out.size)
  have c0:=cellL a0 F3
  have c1:=cellL a1 F3
  have c2:=cellL a2 F3
  have c3:=cellL a3 F3
  have d0:=cellL b0 F3
  have d1:=cellL b1 F3
  have d2:=cellL b2 F3
  have d3:=cellL b3 F3
  have HF3:=Lib.hid F3
  have h1:=IA a.k b.k
  have h2:=jk a.x b.x
  have h3:=jk a.l b.l
  have h4:=jk a.y b.y
  clear hwz hbe F3 a0 a1 a2 a3 b0 b1 b2 b3 hra hrb HR HD HF2
  generalize Lib.compareInt a.k b.k=n1 at *
  generalize aZ a.x.toList b.x.toList=n2 at *
  generalize aZ a.l.toList b.l.toList=n3 at *
  generalize aZ a.y.toList b.y.toList=n4 at *
  refine Rf.pl_quiet ?_
  iterate 16 go_big_quiet_step (fail)
  refine wpQuiet_nil (Rf.pl_one ?_)
  clear c0 c1 c2 c3 d0 d1 d2 d3
  go_wp2_with (go_at_call 166;with_reducible refine(h1 _).mono ?_;rintro e V3 ⟨rfl,rfl⟩)
  refine⟨Below.refl _ _,Rf.pl_one ?_⟩
  go_wp2_with (go_at_call 164;with_reducible refine(h2 _).mono ?_;rintro e V3 ⟨rfl,rfl⟩)
  refine⟨Below.refl _ _,Rf.pl_one ?_⟩
  go_wp2_with (go_at_call 164;with_reducible refine(h3 _).mono ?_;rintro e V3 ⟨rfl,rfl⟩)
  refine⟨Below.refl _ _,Rf.pl_one ?_⟩
  go_wp2_with (go_at_call 164;with_reducible refine(h4 _).mono ?_;rintro e V3 ⟨rfl,rfl⟩)
  refine⟨Below.refl _ _,Rf.pl_one ?_⟩
  have hV:=HF3.out.size
  have h5:=Gt we.heap.size [n1,n2,n3,n4] 4 4 (we.alloc (.cells #[.int .i64 n1,.int .i64 n2,.int .i64 n3,.int .i64 n4] 3)) (Rd.of_block (heap_alloc_new we _) rfl) rfl (by omega)
  have h6:Below w0.heap.size we (we.alloc (.cells #[.int .i64 n1,.int .i64 n2,.int .i64 n3,.int .i64 n4] 3)):=(Below.refl _ _).alloc hV _
  have H6:=Lib.hid h6
  go_wp2_with fail
  refine⟨H6.out,Rf.pl_one ?_⟩
  go_wp2_with (go_at_call 150;with_reducible refine h5.mono ?_;rintro e V4 ⟨rfl,rfl⟩)
  refine⟨Below.refl _ _,Rf.pl_quiet ?_⟩
  iterate 1 go_big_quiet_step (fail)
  refine wpQuiet_nil (Rf.pl_done ?_)
  go_wp2
  go_ret
  exact⟨by rw[HE.out];rfl,HB0.out.trans ((HF3.out.trans H6.out).mono hsz)⟩
 ·have HE:=Lib.hid (HR.out _ _ hra hrb)
  go_wp2
  go_ret
  exact⟨by rw[HE.out];rfl,HB0.out.trans (HF2.out.mono hsz)⟩
 ·have HE:=Lib.hid (HR.out _ _ hra hrb)
  go_wp2
  go_ret
  exact⟨by rw[HE.out];rfl,HB0.out.trans (HF2.out.mono hsz)⟩
 ·have HE:=Lib.hid (HR.out _ _ hra hrb)
  have HTA:Hid (∀W,Below w0.heap.size w0 W->Calls Tryz.prog 165 #[tA a] W λe w'=>e=.returned (.string (mkS (ba a)))/\Below W.heap.size W w'):=λW hb=>HTa.out W hb hra
  have HTB:Hid (∀W,Below w0.heap.size w0 W->Calls Tryz.prog 165 #[tA b] W λe w'=>e=.returned (.string (mkS (ba b)))/\Below W.heap.size W w'):=λW hb=>HTb.out W hb hrb
  have h2:=jk (mkS (ba a)) (mkS (ba b))
  rw[jP,jP]at h2
  clear HTa HTb
  go_upto_region 3 with fail
  refine Rf.p0 w0.heap.size _ (.quiet [0,2] (.one 1 (.one 3 (.one 4 (.quiet [5] (.done)))))) ?_ (λa w h=>h)
  intro we hbe hwz
  have F3:=HF2.out.trans (hbe.mono HF2.out.size)
  have c0:=cellL a0 F3
  have c1:=cellL a1 F3
  have c2:=cellL a2 F3
  have c3:=cellL a3 F3
  have d0:=cellL b0 F3
  have d1:=cellL b1 F3
  have d2:=cellL b2 F3
  have d3:=cellL b3 F3
  have HF3:=Lib.hid F3
  clear hwz hbe F3 a0 a1 a2 a3 b0 b1 b2 b3 hra hrb HR HD HF2
  refine Rf.pl_quiet ?_
  iterate 2 go_big_quiet_step (fail)
  refine wpQuiet_nil (Rf.pl_one ?_)
  clear c0 c1 c2 c3 d0 d1 d2 d3
  go_wp2_with (go_at_call 165;with_reducible refine(HTA.out _ HF3.out).mono ?_;rintro e V3 ⟨rfl,k3⟩)
  have F4:=aa HF3.out k3
  refine⟨k3.mono HF3.out.size,Rf.pl_one ?_⟩
  go_wp2_with (go_at_call 165;with_reducible refine(HTB.out _ F4).mono ?_;rintro e V4 ⟨rfl,k4⟩)
  have F5:=aa F4 k4
  refine⟨k4.mono F4.size,Rf.pl_one ?_⟩
  have HF5:=Lib.hid F5
  clear k3 k4 F4 F5
  go_wp2_with (go_at_call 164;with_reducible refine(h2 _).mono ?_;rintro e V5 ⟨rfl,rfl⟩)
  refine⟨Below.refl _ _,Rf.pl_quiet ?_⟩
  iterate 1 go_big_quiet_step (fail)
  refine wpQuiet_nil (Rf.pl_done ?_)
  go_wp2
  go_ret
  exact⟨by rw[HE.out];rfl,HB0.out.trans (HF5.out.mono hsz)⟩
abbrev tpC (t:Tp):Array Value:=#[.int .i64 t.s.k,.string t.s.x,.string t.s.l,.string t.s.y,.int .i64 t.p.k,.string t.p.x,.string t.p.l,.string t.p.y,.int .i64 t.o.k,.string t.o.x,.string t.o.l,.string t.o.y]
abbrev tpA (t:Tp):Value:=.agg (tpC t)
def Bm (t:Tp):Prop:=bK t.s/\bK t.p/\bK t.o
theorem DZ (a b:Tp):cmpTp a b=orL [ay a.s b.s,ay a.p b.p,ay a.o b.o]:=by
 unfold cmpTp
 simp only[tt]
 rw[show orL []=0 from rfl,pZ]
theorem an {w:World} {g:Nat} {cs:Array Value} {T:TypeId} (h:w.heap[g]?=some (Obj.cells cs T (0,0))) (i:Nat) {v:Value} (hv:cs[i]?=some v):w.cell? ⟨g,i,none⟩=some v:=by
 rw[Lib.cell_of_heap h];exact hv
theorem sH (a b:Tp) (w:World) (hC:cD w) (ha:Bm a) (hb:Bm b) :
  Calls Tryz.prog 98 #[tpA a,tpA b] w λe w'=>e=.returned (.int .i64 (cmpTp a b))/\Below w.heap.size w w':=by
 have hba:Below w.heap.size w (w.alloc (.cells (tpC a) 64)):=(Below.refl _ w).alloc (Nat.le_refl _) _
 have hga:=heap_alloc_new w (.cells (tpC a) 64)
 have hza:(w.alloc (.cells (tpC a) 64)).heap.size=w.heap.size+1:=by simp
 go_enter Tryz.func98,Tryz.ntmps98
 go_upto_region 1 with fail
 change Code.wp _ _ _ _ ((w.alloc (.cells (tpC a) 64)).alloc (.cells (tpC b) 64))
 generalize w.alloc (.cells (tpC a) 64)=wa at *
 have hbb:Below wa.heap.size wa (wa.alloc (.cells (tpC b) 64)):=(Below.refl _ wa).alloc (Nat.le_refl _) _
 have hgb:=heap_alloc_new wa (.cells (tpC b) 64)
 have hga2:=cB hbb hga
 rw[hza]at hgb
 generalize wa.alloc (.cells (tpC b) 64)=w0 at *
 have hb0:Below w.heap.size w w0:=aa hba hbb
 have hC0:=hC.step hb0
 have hsz:w.heap.size<=w0.heap.size:=hb0.size
 have h1:=λW hB=>dN a.s b.s W (hC0.step hB) ha.1 hb.1
 have h2:=λW hB=>dN a.p b.p W (hC0.step hB) ha.2.1 hb.2.1
 have h3:=λW hB=>dN a.o b.o W (hC0.step hB) ha.2.2 hb.2.2
 have HE:=Lib.hid (DZ a b)
 have HB0:=Lib.hid hb0
 clear hza hba hbb hb0 hC hC0
 refine Rf.p0 w0.heap.size _ (.quiet [0,1,2,3,5,6,7,8,10,11,12,13] (.one 4 (.one 9 (.one 14 (.one 15 (.one 16 (.quiet [17] (.done)))))))) ?_ (λa w h=>h)
 intro wd hbd hwz
 have p0:=cellL (an hga2 0 rfl) hbd
 have p1:=cellL (an hga2 1 rfl) hbd
 have p2:=cellL (an hga2 2 rfl) hbd
 have p3:=cellL (an hga2 3 rfl) hbd
 have p4:=cellL (an hga2 4 rfl) hbd
 have p5:=cellL (an hga2 5 rfl) hbd
 have p6:=cellL (an hga2 6 rfl) hbd
 have p7:=cellL (an hga2 7 rfl) hbd
 have p8:=cellL (an hga2 8 rfl) hbd
 have p9:=cellL (an hga2 9 rfl) hbd
 have p10:=cellL (an hga2 10 rfl) hbd
 have p11:=cellL (an hga2 11 rfl) hbd
 have q0:=cellL (an hgb 0 rfl) hbd
 have q1:=cellL (an hgb 1 rfl) hbd
 have q2:=cellL (an hgb 2 rfl) hbd
 have q3:=cellL (an hgb 3 rfl) hbd
 have q4:=cellL (an hgb 4 rfl) hbd
 have q5:=cellL (an hgb 5 rfl) hbd
 have q6:=cellL (an hgb 6 rfl) hbd
 have q7:=cellL (an hgb 7 rfl) hbd
 have q8:=cellL (an hgb 8 rfl) hbd
 have q9:=cellL (an hgb 9 rfl) hbd
 have q10:=cellL (an hgb 10 rfl) hbd
 have q11:=cellL (an hgb 11 rfl) hbd
 have HD:=Lib.hid hbd
 clear hwz hbd hga hga2 hgb
 generalize ay a.s b.s=n1 at *
 generalize ay a.p b.p=n2 at *
 generalize ay a.o b.o=n3 at *
 refine Rf.pl_quiet ?_
 iterate 12 go_big_quiet_step (fail)
 refine wpQuiet_nil (Rf.pl_one ?_)
 clear p0 p1 p2 p3 p4 p5 p6 p7 p8 p9 p10 p11 q0 q1 q2 q3 q4 q5 q6 q7 q8 q9 q10 q11
 go_wp2_with (go_at_call 106;with_reducible refine(h1 _ HD.out).mono ?_;rintro e V1 ⟨rfl,k1⟩)
 have F1:=aa HD.out k1
 refine⟨k1.mono HD.out.size,Rf.pl_one ?_⟩
 go_wp2_with (go_at_call 106;with_reducible refine(h2 _ F1).mono ?_;rintro e V2 ⟨rfl,k2⟩)
 have F2:=aa F1 k2
 refine⟨k2.mono F1.size,Rf.pl_one ?_⟩
 go_wp2_with (go_at_call 106;with_reducible refine(h3 _ F2).mono ?_;rintro e V3 ⟨rfl,k3⟩)
 have F3:=aa F2 k3
 refine⟨k3.mono F2.size,Rf.pl_one ?_⟩
 have hV:=F3.size
 have h5:=Gt V3.heap.size [n1,n2,n3] 3 3 (V3.alloc (.cells #[.int .i64 n1,.int .i64 n2,.int .i64 n3] 3)) (Rd.of_block (heap_alloc_new V3 _) rfl) rfl (by omega)
 have H6:=Lib.hid ((Below.refl w0.heap.size V3).alloc hV (.cells #[.int .i64 n1,.int .i64 n2,.int .i64 n3] 3))
 have HF3:=Lib.hid F3
 clear k1 k2 k3 F1 F2 F3 h1 h2 h3
 go_wp2_with fail
 refine⟨H6.out,Rf.pl_one ?_⟩
 go_wp2_with (go_at_call 150;with_reducible refine h5.mono ?_;rintro e V4 ⟨rfl,rfl⟩)
 refine⟨Below.refl _ _,Rf.pl_quiet ?_⟩
 iterate 1 go_big_quiet_step (fail)
 refine wpQuiet_nil (Rf.pl_done ?_)
 go_wp2
 go_ret
 exact⟨by rw[HE.out];rfl,HB0.out.trans ((HF3.out.trans H6.out).mono hsz)⟩
abbrev tC (t:Tm):Array Value:=#[.int .i64 t.k,.string t.x,.string t.l,.string t.y]
def iP (t:Tm):Prop:=t.x.size<=281474976710656/\t.l.size<=281474976710656/\t.y.size<=281474976710656
def qJ (t:Tm):Nat:=t.x.size+t.l.size+t.y.size
def oT (l:List Tm):Nat:=(l.map qJ).sum
theorem pK (l:List Tm) (k:Nat) (t:Tm) (h:l[k]?=some t):oT (l.take (k+1))=oT (l.take k)+qJ t:=by
 unfold oT
 rw[List.take_add_one,h,Option.toList_some,List.map_append,List.sum_append]
 simp
theorem Bb (l:List Tm) (hz:∀t∈l,iP t):∀k,k<=l.length->oT (l.take k)<=k*844424930131968
 | 0,_=>by simp[oT]
 | k+1,hk=>by
  have hx:=List.getElem?_eq_getElem (show k<l.length by omega)
  rw[pK l k _ hx]
  have h1:=Bb l hz k (by omega)
  have h2:=hz _ (List.getElem_mem (show k<l.length by omega))
  unfold iP at h2
  unfold qJ
  rw[Nat.succ_mul];omega
theorem Dl (l:List Tm) (k i:Nat) (t:Tm) (hk:l[k]?=some t) (hi:i<4):(l.flatMap λt=>(tC t).toList)[k*4+i]?=(tC t)[i]?:=by
 induction l generalizing k with
 | nil=>simp at hk
 | cons s r ih =>
  rw[List.flatMap_cons]
  cases k with
  | zero =>
   simp only[List.getElem?_cons_zero,Option.some.injEq]at hk
   subst hk
   rw[List.getElem?_append_left (by simp;omega)]
   simp
  | succ k =>
   simp only[List.getElem?_cons_succ]at hk
   have e:((tC s).toList).length=4:=rfl
   rw[List.getElem?_append_right (by rw[e];omega),e,show (k+1)*4+i-4=k*4+i by omega]
   exact ih k hk
open Go.ChangeShapes Go.WideShapes Go.ChangeAt Go.Lib Go.Joins Go.Deep
section
variable {H:Type} {enc:TypeId × Value->H}
theorem Ot.sized_arg {P:Program} {ts:List TypeId} {ds:List (DataW H)} {j:Nat} {t:TypeId} {d:DataW H} (hreach:(DataW.weightsEach P ts ds).all (· <= reachBytes)=true) (htj:ts[j]?=some t) (hdj:ds[j]?=some d):dB P t d:=by
 intro m hm
 have:=List.all_eq_true.1 hreach m (DataW.weights_mem_each htj hdj m hm)
 simpa using this
def wh (t:Tp):Prop:=iP t.s/\iP t.p/\iP t.o
theorem Ot.opens_term (w:World) (f:Nat):qG enc Tryz.prog w f 62 4 (λcs (t:Tm)=>cs=(tC t).toList) (λt=>iP t):=by
 intro cs d ps h hs
 obtain⟨xs,n,_,hx,hl,hlen,hf⟩:=DataW.trod_struct Tryz.underlying62 h
 have hd:d=.agg (xs.map (·.1)):=congrArg Prod.fst hx
 subst hd
 have hc:Tryz.prog.cellsOf 62=4:=by kernel_rfl
 have c1:Tryz.prog.cellsOf 9=1:=by kernel_rfl
 have c0:Tryz.prog.cellsOf 60=1:=by kernel_rfl
 rw[hc]at hl
 match cs,hl,xs,hlen with
 | [v0,v1,v2,v3],_,[y0,y1,y2,y3],_ =>
  have g0:=hf 0 _ rfl
  have g1:=hf 1 _ rfl
  have g2:=hf 2 _ rfl
  have g3:=hf 3 _ rfl
  simp[c0,c1]at g0 g1 g2 g3
  obtain⟨k,e0,_,_⟩:=DataW.trod_int Tryz.underlying60 g0
  obtain⟨x,e1,q1,_⟩:=DataW.trod_string Tryz.underlying9 g1
  obtain⟨l,e2,q2,_⟩:=DataW.trod_string Tryz.underlying9 g2
  obtain⟨y,e3,q3,_⟩:=DataW.trod_string Tryz.underlying9 g3
  simp at e0 e1 e2 e3
  refine⟨⟨k,x,l,y⟩,by simp[e0,e1,e2,e3],rfl,?_⟩
  have hs1:dB Tryz.prog 9 y1.1:=hs.field Tryz.underlying62 (i:=1) rfl rfl
  have hs2:dB Tryz.prog 9 y2.1:=hs.field Tryz.underlying62 (i:=2) rfl rfl
  have hs3:dB Tryz.prog 9 y3.1:=hs.field Tryz.underlying62 (i:=3) rfl rfl
  rw[q1]at hs1
  rw[q2]at hs2
  rw[q3]at hs3
  exact⟨Nat.le_trans (dG hs1) (by decide),Nat.le_trans (dG hs2) (by decide),Nat.le_trans (dG hs3) (by decide)⟩
theorem Ot.opens_trip (w:World) (f:Nat):qG enc Tryz.prog w f 64 12 (λcs (t:Tp)=>cs=(tpC t).toList) (λt=>wh t):=by
 intro cs d ps h hs
 obtain⟨xs,n,_,hx,hl,hlen,hf⟩:=DataW.trod_struct Tryz.underlying64 h
 have hd:d=.agg (xs.map (·.1)):=congrArg Prod.fst hx
 subst hd
 have hc:Tryz.prog.cellsOf 64=12:=by kernel_rfl
 have c1:Tryz.prog.cellsOf 62=4:=by kernel_rfl
 rw[hc]at hl
 match cs,hl,xs,hlen with
 | [v0,v1,v2,v3,v4,v5,v6,v7,v8,v9,v10,v11],_,[y0,y1,y2],_ =>
  have g0:=hf 0 _ rfl
  have g1:=hf 1 _ rfl
  have g2:=hf 2 _ rfl
  simp[c1]at g0 g1 g2
  obtain⟨s,e0,_,z0⟩:=Ot.opens_term w _ _ y0.1 y0.2 g0 (hs.field Tryz.underlying64 (i:=0) rfl rfl)
  obtain⟨p,e1,_,z1⟩:=Ot.opens_term w _ _ y1.1 y1.2 g1 (hs.field Tryz.underlying64 (i:=1) rfl rfl)
  obtain⟨o,e2,_,z2⟩:=Ot.opens_term w _ _ y2.1 y2.2 g2 (hs.field Tryz.underlying64 (i:=2) rfl rfl)
  simp at e0 e1 e2
  refine⟨⟨s,p,o⟩,?_,rfl,⟨z0,z1,z2⟩⟩
  simp[e0,e1,e2]
theorem Ot.arg_trips {r:Reach} {b0:Nat} {w:World} {v:Value} {d:DataW H} {ps:List MemPlace} (hv:Value.okWide Tryz.prog w r b0 22 v) (hd:DataW.Trod enc Tryz.prog w 0 (λ_=>true) true 22 v d ps) (hs:dB Tryz.prog 22 d) :
  ∃(l:List Tp) (A:Option Addr) (c:Nat),v=.slice A l.length c/\l.length<=c/\RdL 12 (λcs (t:Tp)=>cs=(tpC t).toList) w A l/\l.length<=837723144947/\∀t∈l,wh t:=by
 obtain⟨A0,l0,c0,rfl⟩:=okWide_slice Tryz.underlying22 hv
 obtain⟨fuel,hf⟩:=hd
 obtain⟨l,A,c,hcs,hle,hrd,hz,hcap⟩:=open_list (F:=fuel) Tryz.underlying22 (by kernel_rfl) (by omega) (Nat.le_succ _) (Ot.opens_trip w fuel) (show DataW.trod enc Tryz.prog w 0 (λ_=>true) true fuel 22 [.slice A0 l0 c0]=some (d,ps) from hf) hs
 have hby:Tryz.prog.bytesOf 64=168:=by kernel_rfl
 rw[hby]at hcap
 unfold reachBytes at hcap
 injection hcs with hcs _
 exact⟨l,A,c,hcs,hle,hrd,by omega,hz⟩
end
section
variable {H:Type} {enc:TypeId × Value->H}
theorem Wd.arg_pats {r:Reach} {b0:Nat} {w:World} {v:Value} {d:DataW H} {ps:List MemPlace} (hv:Value.okWide Tryz.prog w r b0 24 v) (hd:DataW.Trod enc Tryz.prog w 0 (λ_=>true) true 24 v d ps) (hs:dB Tryz.prog 24 d) :
  ∃(l:List Pat) (A:Option Addr) (c:Nat),v=.slice A l.length c/\l.length<=c/\bI w A l/\l.length<=651562446070/\∀p∈l,szPw p:=by
 obtain⟨A0,l0,c0,rfl⟩:=okWide_slice Tryz.underlying24 hv
 obtain⟨fuel,hf⟩:=hd
 obtain⟨l,A,c,hcs,hle,hrd,hz,hcap⟩:=open_list (F:=fuel) Tryz.underlying24 (by kernel_rfl) (by omega) (Nat.le_succ _) (Wd.opens_pat w fuel) (show DataW.trod enc Tryz.prog w 0 (λ_=>true) true fuel 24 [.slice A0 l0 c0]=some (d,ps) from hf) hs
 have hby:Tryz.prog.bytesOf 72=216:=by kernel_rfl
 rw[hby]at hcap
 unfold reachBytes at hcap
 injection hcs with hcs _
 exact⟨l,A,c,hcs,hle,hrd,by omega,hz⟩
end
open Go.ChangeMaps (open_string shut_string)
theorem own:ownKnob Tryz.prog.godebug=none:=by kernel_rfl
theorem laidOut:laidOutB Tryz.prog=true:=by kernel_rfl
def caseRen:Go.Shelf.Ren:=⟨l4.f,l4.t,fun|13=>2|n=>n⟩
theorem E5:Lays.n274 Tryz.prog caseRen:={rV with}
def tV:List (String × DataW Unit):=[("math/bits.deBruijn32tab",Rows.laid_math_bits_deBruijn32tab),("math/bits.deBruijn64tab",Rows.laid_math_bits_deBruijn64tab),("internal/strconv.uint64pow10",Rows.laid_internal_strconv_uint64pow10),("unicode/utf8.acceptRanges",Rows.laid_unicode_utf8_acceptRanges)]
def tU:List (String × DataW Unit):=[("unicode/utf8.first",Rows.laid_unicode_utf8_first)]
def nV:List (String × DataW Unit):=[("math/bits.deBruijn32tab",Rows.laid_math_bits_deBruijn32tab),("math/bits.deBruijn64tab",Rows.laid_math_bits_deBruijn64tab),("internal/strconv.uint64pow10",Rows.laid_internal_strconv_uint64pow10),("unicode/utf8.acceptRanges",Rows.laid_unicode_utf8_acceptRanges),("unicode.CaseRanges",Rows.laid_unicode_CaseRanges),("unicode/utf8.first",Rows.laid_unicode_utf8_first)]
theorem ws:Rows.laid_unicode_utf8_first=Lib.firstData:=by kernel_rfl
theorem uQ:(Rows.laid_unicode_utf8_acceptRanges:DataW Unit)=Lib.acceptData:=by kernel_rfl
theorem AF:Rows.laid_unicode_CaseRanges=Lib.caseData:=by kernel_rfl
theorem DL:(Rows.laid_math_bits_deBruijn64tab:DataW Unit)=Lib.tabData .u8 [0,1,56,2,57,49,28,3,61,58,42,50,38,29,17,4,62,47,59,36,45,43,51,22,53,39,33,30,24,18,12,5,63,55,48,27,60,41,37,16,46,35,44,21,52,32,23,11,54,26,40,15,34,20,31,10,25,14,19,9,13,8,7,6]:=by kernel_rfl
theorem Iu {W:World} (hL:laidMetH Tryz.prog nV W) (hsh:W.ShapedOpen Tryz.prog):cD W:=by
 refine⟨⟨?_,Go.Proofs.cell_of_shapedOpen_int (zero:=#[.int .i64 0]) (t:=3) hsh (of_decide_eq_true (by kernel_rfl)) (by kernel_rfl) rfl (by kernel_rfl) (by kernel_rfl) Tryz.underlying3⟩,?_⟩
 ·have h1:=Lib.laidMet.reads hL (.tail _ (.tail _ (.tail _ (.tail _ (.tail _ (.head _))))))
  have h2:=Lib.laidMet.reads hL (.tail _ (.tail _ (.tail _ (.head _))))
  rw[ws]at h1
  rw[uQ]at h2
  exact utf8Tabs_of_reads rW ⟨by kernel_rfl,by kernel_rfl,by kernel_rfl,by kernel_rfl,by kernel_rfl,by kernel_rfl,by kernel_rfl⟩ h1 h2
 ·have h3:=Lib.laidMet.reads hL (.tail _ (.head _))
  rw[DL]at h3
  obtain⟨g,t,cs,fuel,p,hg,hty,hvar,hd⟩:=h3
  have hg0:Tryz.prog.globalNamed "math/bits.deBruijn64tab" = some 6:=by kernel_rfl
  obtain rfl:=Option.some.inj (hg0.symm.trans hg)
  have ht0:(Tryz.prog.globals[6]?).map (·.type)=some 430:=by kernel_rfl
  obtain rfl:=Option.some.inj (ht0.symm.trans hty)
  have hcs:=cells_of_tab Tryz.underlying430 Tryz.underlying5 (by kernel_rfl) (by kernel_rfl) hd
  unfold TzV
  rw[World.var?_cell hg hvar 15,←Array.getElem?_toList,hcs]
  rfl
theorem eP {P:Program} {w:World}:∀{l l':List (String × DataW Unit)} {ps:List MemPlace},DataW.LaidVars P w (l++l') ps->∃a b,ps=a++b/\DataW.LaidVars P w l a/\DataW.LaidVars P w l' b
 | [],l',ps,h=>⟨[],ps,rfl,rfl,h⟩
 | (n,d)::r,l',ps,h=>by
  obtain⟨g,t,cs,fuel,p,q,h1,h2,h3,h4,h5,rfl⟩:=h
  obtain⟨a,b,rfl,ha,hb⟩:=eP h5
  exact⟨_,b,(List.append_assoc _ _ _).symm,⟨g,t,cs,fuel,p,a,h1,h2,h3,h4,ha,rfl⟩,hb⟩
theorem ru {P:Program} {w:World} {l1 l2 l3:List (String × DataW Unit)} (h:laidMet P ((l1++l2)++l3) w):laidMet P (l1++(l3++l2)) w:=by
 obtain⟨ps,hl,hn,hr⟩:=h
 obtain⟨a,c,rfl,hab,hc⟩:=eP hl
 obtain⟨a,b,rfl,ha,hb⟩:=eP hab
 have hp:(a++(c++b)).Perm ((a++b)++c):=by
  rw[List.append_assoc]
  exact List.Perm.append_left a List.perm_append_comm
 exact⟨a++(c++b),Go.LaidVars_app ha (Go.LaidVars_app hc hb),hp.nodup_iff.2 hn,λx off hx=>hr x off (hp.mem_iff.1 hx)⟩
noncomputable def fH (os:Os):World:=
 let N:=(World.settled Tryz.prog os).heap.size
 let w0:=World.holding Tryz.prog os ⟨#[.cells Lib.caseCells5 (l4.t 208) (0,0)],#[],[]⟩
 let put (h:Array Obj) (g:Nat) (cs:Array Value):Array Obj:=h.modify g fun
  | .cells _ t frozen=>.cells cs t frozen
  | o=>o
 let h1:=put w0.heap 5 #[Value.int .u8 0,Value.int .u8 1,Value.int .u8 28,Value.int .u8 2,Value.int .u8 29,Value.int .u8 14,Value.int .u8 24,Value.int .u8 3,Value.int .u8 30,Value.int .u8 22,Value.int .u8 20,Value.int .u8 15,Value.int .u8 25,Value.int .u8 17,Value.int .u8 4,Value.int .u8 8,Value.int .u8 31,Value.int .u8 27,Value.int .u8 13,Value.int .u8 23,Value.int .u8 21,Value.int .u8 19,Value.int .u8 16,Value.int .u8 7,Value.int .u8 26,Value.int .u8 12,Value.int .u8 18,Value.int .u8 6,Value.int .u8 11,Value.int .u8 5,Value.int .u8 10,Value.int .u8 9]
 let h2:=put h1 6 #[Value.int .u8 0,Value.int .u8 1,Value.int .u8 56,Value.int .u8 2,Value.int .u8 57,Value.int .u8 49,Value.int .u8 28,Value.int .u8 3,Value.int .u8 61,Value.int .u8 58,Value.int .u8 42,Value.int .u8 50,Value.int .u8 38,Value.int .u8 29,Value.int .u8 17,Value.int .u8 4,Value.int .u8 62,Value.int .u8 47,Value.int .u8 59,Value.int .u8 36,Value.int .u8 45,Value.int .u8 43,Value.int .u8 51,Value.int .u8 22,Value.int .u8 53,Value.int .u8 39,Value.int .u8 33,Value.int .u8 30,Value.int .u8 24,Value.int .u8 18,Value.int .u8 12,Value.int .u8 5,Value.int .u8 63,Value.int .u8 55,Value.int .u8 48,Value.int .u8 27,Value.int .u8 60,Value.int .u8 41,Value.int .u8 37,Value.int .u8 16,Value.int .u8 46,Value.int .u8 35,Value.int .u8 44,Value.int .u8 21,Value.int .u8 52,Value.int .u8 32,Value.int .u8 23,Value.int .u8 11,Value.int .u8 54,Value.int .u8 26,Value.int .u8 40,Value.int .u8 15,Value.int .u8 34,Value.int .u8 20,Value.int .u8 31,Value.int .u8 10,Value.int .u8 25,Value.int .u8 14,Value.int .u8 19,Value.int .u8 9,Value.int .u8 13,Value.int .u8 8,Value.int .u8 7,Value.int .u8 6]
 let h3:=put h2 3 #[Value.int .u64 1,Value.int .u64 10,Value.int .u64 100,Value.int .u64 1000,Value.int .u64 10000,Value.int .u64 100000,Value.int .u64 1000000,Value.int .u64 10000000,Value.int .u64 100000000,Value.int .u64 1000000000,Value.int .u64 10000000000,Value.int .u64 100000000000,Value.int .u64 1000000000000,Value.int .u64 10000000000000,Value.int .u64 100000000000000,Value.int .u64 1000000000000000,Value.int .u64 10000000000000000,Value.int .u64 100000000000000000,Value.int .u64 1000000000000000000,Value.int .u64 10000000000000000000]
 let h4:=put h3 1 ((List.range 16).flatMap λi=>[Value.int .u8 (Lib.accLo i),Value.int .u8 (Lib.accHi i)]).toArray
 let h5:=put h4 2 #[.slice (some ⟨N,0,none⟩) Lib.caseA.size Lib.caseA.size]
 let h6:=put h5 0 (Lib.firstTab.map λz=>Value.int .u8 z).toArray
 {w0 with heap:=h6}
theorem CV (os:Os) (args:Array Value):laidMet Tryz.prog nV ((fH os).forCall (λ_ _=>0) ⟨#[],args,[]⟩).memory:=by
 have h:=laidMet_with_case (ρ:=caseRen) E5 (by kernel_rfl) ⟨by kernel_rfl,by kernel_rfl,by kernel_rfl,by kernel_rfl,by kernel_rfl,by kernel_rfl⟩ (w:=((fH os).forCall (λ_ _=>0) ⟨#[],args,[]⟩).memory)
  (l:=tV++tU) 10 (by kernel_rfl) (by kernel_rfl) (by kernel_rfl) ((World.settled Tryz.prog default).heap.size) (l4.t 208) (of_decide_eq_true (by kernel_rfl)) (by kernel_rfl) (by kernel_rfl) (by kernel_rfl)
 have h2:=ru h
 have e:nV=tV++([("unicode.CaseRanges",Lib.caseData)]++tU):=by rw[←AF];rfl
 rw[e]
 exact h2
open Lx
namespace Om
instance:Inhabited Tm:=⟨⟨0,.empty,.empty,.empty⟩⟩
def cmpRow:List Tm->List Tm->Int
 | [],[]=>0
 | [],_::_ => -1
 | _::_,[]=>1
 | a::l,b::m=>orZ (ay a b) (cmpRow l m)
theorem xD (a b:Int):orZ (-a) (-b) = -orZ a b:=by
 unfold orZ
 by_cases h:a=0
 ·rw[if_pos (by omega),if_pos h]
 ·rw[if_neg (by omega),if_neg h]
theorem ky {a b:Int} (h:orZ a b<0):a<0∨a=0/\b<0:=by
 unfold orZ at h
 by_cases e:a=0
 ·rw[if_pos e]at h
  exact Or.inr ⟨e,h⟩
 ·rw[if_neg e]at h
  exact Or.inl h
theorem er {a b:Int} (h:a<0):orZ a b<0:=by
 unfold orZ
 rw[if_neg (by omega)]
 exact h
theorem lw {a b:Int} (h:a=0):orZ a b=b:=by
 unfold orZ
 rw[if_pos h]
theorem tq {a b:Int} (h:orZ a b=0):a=0/\b=0:=by
 unfold orZ at h
 by_cases e:a=0
 ·rw[if_pos e]at h
  exact⟨e,h⟩
 ·rw[if_neg e]at h
  exact absurd h e
theorem xC {a b:Int} (h1 : -1<=a/\a<=1) (h2 : -1<=b/\b<=1) : -1<=orZ a b/\orZ a b<=1:=by
 unfold orZ
 by_cases e:a=0
 ·rw[if_pos e]
  exact h2
 ·rw[if_neg e]
  exact h1
theorem ou:∀a b:List Tm,cmpRow b a = -cmpRow a b
 | [],[]=>rfl
 | [],_::_=>rfl
 | _::_,[]=>rfl
 | a::l,b::m=>by
  show orZ (ay b a) (cmpRow m l) = -orZ (ay a b) (cmpRow l m)
  rw[ou l m,bd.neg a b,xD]
theorem lJ:∀a b:List Tm,cmpRow a b=0->a=b
 | [],[],_=>rfl
 | [],_::_,h=>by cases h
 | _::_,[],h=>by cases h
 | a::l,b::m,h=>by
  obtain⟨h1,h2⟩:=tq h
  rw[bd.zero _ _ h1,lJ l m h2]
theorem qD:∀a b c:List Tm,cmpRow a b<0->cmpRow b c<0->cmpRow a c<0
 | [],[],_,h,_=>by cases h
 | [],_::_,[],_,h=>by cases h
 | [],_::_,_::_,_,_=>by show (-1:Int)<0;decide
 | _::_,[],_,h,_=>by cases h
 | _::_,_::_,[],_,h=>by cases h
 | a::l,b::m,c::n,h,h'=>by
  show orZ (ay a c) (cmpRow l n)<0
  rcases ky h with h1|⟨h1,h2⟩
  ·rcases ky h' with k1|⟨k1,k2⟩
   ·exact er (bd.tr _ _ _ h1 k1)
   ·rw[←bd.zero _ _ k1]
    exact er h1
  ·rcases ky h' with k1|⟨k1,k2⟩
   ·rw[bd.zero _ _ h1]
    exact er k1
   ·rw[lw (by rw[bd.zero _ _ h1];exact k1)]
    exact qD l m n h2 k2
theorem ot:∀a b:List Tm,-1<=cmpRow a b/\cmpRow a b<=1
 | [],[]=>by decide
 | [],_::_=>by show (-1:Int) <= -1/\(-1:Int)<=1;decide
 | _::_,[]=>by show (-1:Int)<=1/\(1:Int)<=1;decide
 | a::l,b::m=>xC (bd.rng a b) (ot l m)
theorem eG:iF cmpRow:=⟨ou,lJ,qD,ot⟩
def way (down:Bool) (n:Int):Int:=if down then -n else n
def bu:List (Nat × Bool)->List Tm->List Tm->Int
 | [],a,b=>cmpRow a b
 | k::ks,a,b=>orZ (way k.2 (ay a[k.1]! b[k.1]!)) (bu ks a b)
theorem Eo (d:Bool) (n:Int):way d (-n) = -way d n:=by cases d<;>simp[way]
theorem mw {d:Bool} {n:Int} (h:way d n=0):n=0:=by
 cases d with
 | false=>exact h
 | true =>
  have : -n=0:=h
  omega
theorem GC (d:Bool) {a b c:Tm} (h1:way d (ay a b)<0) (h2:way d (ay b c)<0):way d (ay a c)<0:=by
 cases d with
 | false=>exact bd.tr _ _ _ h1 h2
 | true =>
  have h1 : -ay a b<0:=h1
  have h2 : -ay b c<0:=h2
  show -ay a c<0
  rw[←bd.neg]at h1 h2 ⊢
  exact bd.tr _ _ _ h2 h1
theorem bR:∀ks,iF (bu ks)
 | []=>eG
 | k::ks=>{
  neg:=λa b=>by
   show orZ _ _ = -orZ _ _
   rw[(bR ks).neg a b,bd.neg a[k.1]! b[k.1]!,Eo,xD]
  zero:=λa b h=>(bR ks).zero a b (tq h).2
  tr:=λa b c h h'=>by
   show orZ (way k.2 (ay a[k.1]! c[k.1]!)) (bu ks a c)<0
   rcases ky h with h1|⟨h1,h2⟩
   ·rcases ky h' with k1|⟨k1,k2⟩
    ·exact er (GC _ h1 k1)
    ·rw[←bd.zero _ _ (mw k1)]
     exact er h1
   ·rcases ky h' with k1|⟨k1,k2⟩
    ·rw[bd.zero _ _ (mw h1)]
     exact er k1
    ·rw[lw (by rw[bd.zero _ _ (mw h1)];exact k1)]
     exact(bR ks).tr a b c h2 k2
  rng:=λa b=>xC (by
   have:=bd.rng a[k.1]! b[k.1]!
   cases hk:k.2 with
   | false=>exact this
   | true =>
    show -1 <= -ay a[k.1]! b[k.1]! /\ -ay a[k.1]! b[k.1]!<=1
    omega) ((bR ks).rng a b)}
def iL (ks:List (Nat × Bool)) (a b:List Tm):Bool:=decide (bu ks a b<0)
theorem ig {ks:List (Nat × Bool)} {a b:List Tm}:iL ks a b=false↔bu ks b a<=0:=by
 unfold iL
 rw[decide_eq_false_iff_not,(bR ks).neg b a]
 omega
theorem xd (ks:List (Nat × Bool)):Sort.SWO (iL ks) where
 irrefl:=λx=>by
  rw[ig,(bR ks).self x]
  exact Int.le_refl 0
 trans:=λx y z h1 h2=>decide_eq_true ((bR ks).tr x y z (of_decide_eq_true h1) (of_decide_eq_true h2))
 ntrans:=λx y z h1 h2=>by
  rw[ig]at h1 h2 ⊢
  exact(bR ks).le h2 h1
theorem Fv {ks:List (Nat × Bool)} (x y:List Tm) (h1:iL ks x y=false) (h2:iL ks y x=false):x=y:=by
 rw[ig]at h1 h2
 refine(bR ks).zero x y ?_
 rw[(bR ks).neg x y]at h1
 omega
def fB (ks:List (Nat × Bool)) (l:List (List Tm)):List (List Tm):=l.mergeSort (λx y => !iL ks y x)
theorem yO {ks:List (Nat × Bool)} {d D:Array (List Tm)} (hP:Sort.PermIn 0 d.size d D) (hs:Sort.SortedIn (iL ks) 0 d.size D) :
  D.toList=fB ks d.toList:=
 Sort.sorted_unique_holds (xd ks) Fv d D hP hs
theorem lr {ks:List (Nat × Bool)} {l m:List (List Tm)} (hp:m.Perm l) (hs:m.Pairwise λx y=>iL ks y x=false):m=fB ks l:=by
 have hl:=hp.length_eq
 have:=yO (ks:=ks) (d:=l.toArray) (D:=m.toArray) ⟨by simpa using hl,λi hi=>by
  rcases hi with hi|hi
  ·omega
  ·have hi:l.length<=i:=by simpa using hi
   rw[getElem!_neg _ _ (by simp;omega),getElem!_neg _ _ (by simp;omega)],by
  have e1:(m.toArray.extract 0 l.toArray.size).toList=m:=by simp[←hl]
  have e2:(l.toArray.extract 0 l.toArray.size).toList=l:=by simp
  rw[e1,e2]
  exact hp⟩ (by
  intro i j _ hij hj
  have hj:j<m.length:=by
   rw[hl]
   simpa using hj
  rw[getElem!_pos _ i (by simp;omega),getElem!_pos _ j (by simp;omega)]
  exact List.pairwise_iff_getElem.1 hs i j (by omega) hj hij)
 simpa using this
end Om
end Go.Proofs.YtfcbghmbbjolcaaGreatDoor
