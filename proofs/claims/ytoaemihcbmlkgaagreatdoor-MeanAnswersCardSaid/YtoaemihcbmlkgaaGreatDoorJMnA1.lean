/- Layer 26's law, walked: compare. Layer 26's law, walked: at -/
import Derived.Test.YtoaemihcbmlkgaaGreatDoorJMnL5
set_option maxHeartbeats 8000000
set_option maxRecDepth 100000
namespace Go.Proofs.YtoaemihcbmlkgaaGreatDoor
open Go Go.RowKit Um Fm Mt Tx Om Mv Mn Mp
theorem mlCompare (a b:List Tm) (n c d:Nat) (A B:Option Addr) (w:World) (hn:a.length=n) (hm:b.length=n) (hC:CtxT w) (ha:RdTs w A a) (hb:RdTs w B b) (za:smallRow a) (zb:smallRow b) :
  Calls Tryz.prog 9 #[.slice A n c,.slice B n d] w λe w'=>e=.returned (.int .i64 (cmpRow a b))/\Below w.heap.size w w':=by
 have hln:n<=1000000:=by rw[←hn];exact za.1
 obtain⟨R,hR⟩:∃R,cmpRow a b=R:=⟨_,rfl⟩
 rw[hR]
 have H:=Lib.hid (And.intro hn (And.intro hm (And.intro ha (And.intro hb (And.intro za (And.intro zb (And.intro hC hR)))))))
 clear hn hm ha hb za zb hC hR
 go_enter Tryz.func9,Tryz.ntmps9
 go_wp2
 go_loopw [5,6] (λi _ wr=>∃k:Nat,k<=n/\i=.int .i64 k/\Hid (cmpRow (a.drop k) (b.drop k)=R)/\Hid (Below w.heap.size w wr)) (λi _ _=>n-(intOf i).toNat)
 case atStart=>exact⟨0,by omega,rfl,H.out.2.2.2.2.2.2.2,Below.refl _ _⟩
 case round =>
  obtain⟨k,hk,rfl,H1,HB⟩:=hrel
  obtain⟨hn,hm,ha,hb,za,zb,hC,hR⟩:=H.out
  by_cases hlt:k<n
  ·obtain⟨x,hx1⟩:∃x,a[k]?=some x:=⟨_,List.getElem?_eq_getElem (by omega)⟩
   obtain⟨z,hz1⟩:∃z,b[k]?=some z:=⟨_,List.getElem?_eq_getElem (by omega)⟩
   obtain⟨g1,o1,rfl,b0,b1,b2,b3⟩:=(RdTs.later ha HB.out).at4 hx1
   obtain⟨g2,o2,rfl,d0,d1,d2,d3⟩:=(RdTs.later hb HB.out).at4 hz1
   have hst:Hid (orZ (cmpTm x z) (cmpRow (a.drop (k+1)) (b.drop (k+1)))=R):=by
    show _=_
    rw[←cmpRow_drop hx1 hz1];exact H1.out
   have hcall:=λW (h:Below w.heap.size w W)=>termCompare x z W (hC.step h) (za.2 x (List.mem_of_getElem? hx1)) (zb.2 z (List.mem_of_getElem? hz1))
   have hcall2:=λd os=>hcall (Sort.grow (redrawn wr d) os) (below_tr HB.out (below_regrown wr d os))
   generalize cmpTm x z=r at *
   have x0:=λd os=>cell_on b0 (below_regrown wr d os)
   have x1:=λd os=>cell_on b1 (below_regrown wr d os)
   have x2:=λd os=>cell_on b2 (below_regrown wr d os)
   have x3:=λd os=>cell_on b3 (below_regrown wr d os)
   have y0:=λd os=>cell_on d0 (below_regrown wr d os)
   have y1:=λd os=>cell_on d1 (below_regrown wr d os)
   have y2:=λd os=>cell_on d2 (below_regrown wr d os)
   have y3:=λd os=>cell_on d3 (below_regrown wr d os)
   clear hx1 hz1 b0 b1 b2 b3 d0 d1 d2 d3 hn hm ha hb za zb hC hR H1 hcall
   go_wp2
   refine wrq ?_;(repeat (any_goals (go_big_quiet_step ((go_at_call 29;exact Calls.regrown_of (hcall2 _ _))))));all_goals (refine wqn ?_;intro d9 os9)
   have kq:=below_regrown wr d9 os9
   have HB3:=Lib.hid (below_tr HB.out kq)
   clear x0 x1 x2 x3 y0 y1 y2 y3 hcall2 kq HB
   generalize Sort.grow (redrawn wr d9) os9=w3 at *
   by_cases hz:r=0
   ·subst hz
    have hst2:Hid (cmpRow (a.drop (k+1)) (b.drop (k+1))=R):=by
     show _=_
     rw[←hst.out];rfl
    clear hst
    go_wp2
    exact⟨⟨k+1,by omega,by go_num,hst2,HB3⟩,by simp[intOf];omega⟩
   ·have hne:(r != 0)=true:=by simpa using hz
    have e2:R=r:=by rw[←hst.out];unfold orZ;rw[if_neg hz]
    subst e2
    clear hst
    go_wp2
    go_ret
    exact⟨rfl,HB3.out⟩
  ·have e2:R=0:=by
    have h:=H1.out
    rw[List.drop_of_length_le (by omega),List.drop_of_length_le (by omega)]at h
    exact h.symm
   subst e2
   clear hn hm ha hb za zb hC hR H1
   go_wp2
   go_ret
   exact⟨rfl,HB.out⟩
def likeL (vars:List ByteArray) (y row:List Tm) (names:List ByteArray):List Bool:=List.zipWith (λs r=>sameTm (valueP vars y ⟨s,zTm⟩) r) names row
def likeR (vars:List ByteArray) (y row:List Tm) (names:List ByteArray):Bool:=(likeL vars y row names).all id
theorem like_at {vars:List ByteArray} {y row:List Tm} {names:List ByteArray} {k:Nat} {s:ByteArray} {r:Tm} (h1:names[k]?=some s) (h2:row[k]?=some r):((likeL vars y row names).take (k+1)).all id=(((likeL vars y row names).take k).all id && sameTm (valueP vars y ⟨s,zTm⟩) r):=by
 have h:(likeL vars y row names)[k]?=some (sameTm (valueP vars y ⟨s,zTm⟩) r):=by
  unfold likeL
  rw[List.getElem?_zipWith,h1,h2]
 rw[take_snoc_of h,List.all_append]
 simp
theorem like_len {vars:List ByteArray} {y row:List Tm} {names:List ByteArray} (h:names.length<=row.length):(likeL vars y row names).length=names.length:=by
 unfold likeL
 rw[List.length_zipWith];omega
theorem mlAt (l:List (List Tm)) (vars:List ByteArray) (row:List Tm) (names:List ByteArray) (A B C D:Option Addr) (n c nv cv m d no co:Nat) (w:World) (hn:l.length=n) (hnv:vars.length=nv) (hm:row.length=m) (hno:names.length=no) (hln:n<=1000000) (hlv:nv<=1000000) (hlm:m<=1000000) (hnm:no<=m) (hall:∀y∈l,y.length=nv)
  (hl:RdRs w A l) (hv:Rd w B (vars.map Value.string)) (hr:RdTs w C row) (ho:Rd w D (names.map Value.string)) :
  Calls Tryz.prog 13 #[.slice A n c,.slice B nv cv,.slice C m d,.slice D no co] w λe w'=>(∃z:Int,e=.returned (.int .i64 z)/\((∃y∈l,likeR vars y row names=true)->0<=z)/\(0<=z->∃y∈l,likeR vars y row names=true))/\Below w.heap.size w w':=by
 have H:=Lib.hid (And.intro hn (And.intro hnv (And.intro hm (And.intro hno (And.intro hall (And.intro hl (And.intro hv (And.intro hr ho))))))))
 clear hn hnv hm hno hall hl hv hr ho
 go_enter Tryz.func13,Tryz.ntmps13
 go_wp2
 go_loopw [9,10,11] (λi _ _ wr=>∃k:Nat,k<=n/\i=.int .i64 k/\Hid (∀y∈l.take k,likeR vars y row names=false)/\Hid (Below w.heap.size w wr)) (λi _ _ _=>n-(intOf i).toNat)
 case atStart=>exact⟨0,by omega,rfl,(by show ∀y∈_,_;simp),Below.refl _ _⟩
 case round =>
  obtain⟨k,hk,rfl,H1,HB⟩:=hrel
  by_cases hlt:k<n
  ·obtain⟨y,hy⟩:∃y,l[k]?=some y:=⟨_,List.getElem?_eq_getElem (by have:=H.out.1;omega)⟩
   have HY:=Lib.hid hy
   clear hy
   go_wp2
   go_loopw [10,11] (λb i wr=>∃j:Nat,j<=no/\i=.int .i64 j/\b=.bool (((likeL vars y row names).take j).all id)/\Hid (Below w.heap.size w wr)) (λ_ i _=>no-(intOf i).toNat)
   case atStart=>exact⟨0,by omega,rfl,by simp,HB⟩
   case round =>
    obtain⟨j,hj,rfl,rfl,HB2⟩:=hrel
    obtain⟨hn,hnv,hm,hno,hall,hl,hv,hr,ho⟩:=H.out
    by_cases hlt2:j<no
    ·obtain⟨s,hs⟩:∃s,names[j]?=some s:=⟨_,List.getElem?_eq_getElem (by omega)⟩
     obtain⟨r,hrj⟩:∃r,row[j]?=some r:=⟨_,List.getElem?_eq_getElem (by omega)⟩
     have Hst:=Lib.hid (like_at (vars:=vars) (y:=y) hs hrj)
     obtain⟨g1,o1,A1,c1,rfl,hcy,_,hry⟩:=(RdRs.later hl HB2.out).at1 HY.out
     obtain⟨g2,o2,rfl,hcn⟩:=(ho.later HB2.out).at_ (j:=j) (u:=.string s) (by rw[List.getElem?_map,hs];rfl)
     obtain⟨g3,o3,rfl,b0,b1,b2,b3⟩:=(RdTs.later hr HB2.out).at4 hrj
     have hyl:y.length=nv:=hall y (List.mem_of_getElem? HY.out)
     rw[hyl]at hcy
     have hfree:=λd os=>mlFree s (Sort.grow (redrawn wr d) os)
     have hval:∀V,Below wr.heap.size wr V->Calls Tryz.prog 11 #[.slice B nv cv,.slice A1 nv c1,.agg #[.string s,.int .i64 0,.string ⟨#[]⟩,.string ⟨#[]⟩,.string ⟨#[]⟩]] V λe w'=>e=.returned (tA (valueP vars y ⟨s,zTm⟩))/\Below V.heap.size V w':=λV h =>
      mlValue vars y ⟨s,zTm⟩ B A1 nv cv nv c1 V hnv hyl hlv (Nat.le_refl _) (by omega) ((hv.later HB2.out).later h) (hry.later h)
     have heq:=λV=>run_eqTmT (valueP vars y ⟨s,zTm⟩) r V
     generalize valueP vars y ⟨s,zTm⟩=u at *
     generalize sameTm u r=z at *
     have e0:=λd os=>cell_on hcy (below_regrown wr d os)
     have e1:=λd os=>cell_on hcn (below_regrown wr d os)
     have x0:=λd os=>cell_on b0 (below_regrown wr d os)
     have x1:=λd os=>cell_on b1 (below_regrown wr d os)
     have x2:=λd os=>cell_on b2 (below_regrown wr d os)
     have x3:=λd os=>cell_on b3 (below_regrown wr d os)
     have hvd:=λd os=>hval (Sort.grow (redrawn wr d) os) (below_regrown wr d os)
     clear hn hnv hm hno hall hl hv hr ho hs hrj hyl hry hcy hcn b0 b1 b2 b3 hval
     cases hq:((likeL vars y row names).take j).all id
     ·rw[hq,Bool.false_and]at Hst
      go_wp2
      refine wrq ?_;(repeat (any_goals (go_big_quiet_step ((fail)))));all_goals (refine wqn ?_;intro d9 os9)
      have kq:=below_regrown wr d9 os9
      have HB3:=Lib.hid (below_tr HB2.out kq)
      clear e0 e1 x0 x1 x2 x3 hvd hfree kq
      generalize Sort.grow (redrawn wr d9) os9=w3 at *
      go_wp2
      exact⟨⟨j+1,by omega,by go_num,by rw[Hst.out],HB3⟩,by simp[intOf];omega⟩
     ·rw[hq,Bool.true_and]at Hst
      go_wp2
      refine wrq ?_;(repeat (any_goals (go_big_quiet_step ((first|(go_at_call 19;exact Calls.regrown_of (hfree _ _))|(go_at_call 11;exact Calls.regrown_of (hvd _ _)))))));all_goals (refine wqn ?_;intro d9 os9)
      have kq:=below_regrown wr d9 os9
      have HB3:=Lib.hid (below_tr HB2.out kq)
      clear e0 e1 x0 x1 x2 x3 hvd hfree kq
      generalize Sort.grow (redrawn wr d9) os9=w3 at *
      go_wp2
      exact⟨⟨j+1,by omega,by go_num,by rw[Hst.out],HB3⟩,by simp[intOf];omega⟩
    ·obtain rfl:j=no:=by omega
     rw[List.take_of_length_le (by rw[like_len (by omega)];omega)]
     have hk1:∀b,likeR vars y row names=b->b=false->∀z∈l.take (k+1),likeR vars z row names=false:=by
      intro b h1 h2 z hz
      rw[take_snoc_of HY.out,List.mem_append]at hz
      rcases hz with hz|hz
      ·exact H1.out z hz
      ·simp only[List.mem_cons,List.not_mem_nil,or_false]at hz
       rw[hz,h1,h2]
     have hmem:y∈l:=List.mem_of_getElem? HY.out
     cases hq:(likeL vars y row names).all id
     ·have H3:Hid (∀z∈l.take (k+1),likeR vars z row names=false):=hk1 _ hq rfl
      clear hn hnv hm hno hall hl hv hr ho hk1 hmem
      go_wp2
      exact⟨⟨k+1,by omega,by go_num,H3,HB2⟩,by simp[intOf];omega⟩
     ·have H3:=Lib.hid (show ∃z∈l,likeR vars z row names=true from ⟨y,hmem,hq⟩)
      clear hn hnv hm hno hall hl hv hr ho hk1 hmem
      go_wp2
      go_ret
      exact⟨⟨(k:Int),rfl,λ_=>by omega,λ_=>H3.out⟩,HB2.out⟩
  ·have hno:∀y∈l,likeR vars y row names=false:=by
    have:=H1.out
    rwa [List.take_of_length_le (by have:=H.out.1;omega)]at this
   have HN:=Lib.hid hno
   clear hno
   go_wp2
   go_ret
   refine⟨⟨-1,rfl,λ⟨y,h1,h2⟩=>?_,λh=>absurd h (by decide)⟩,HB.out⟩
   rw[HN.out y h1]at h2;cases h2
def bX:ByteArray:=⟨#[120]⟩
def bY:ByteArray:=⟨#[121]⟩
def bZ:ByteArray:=⟨#[122]⟩
def bQ:ByteArray:=⟨#[113]⟩
def frS (s:ByteArray):Sl:=⟨s,zTm⟩
def onS (t:Tm):Sl:=⟨⟨#[]⟩,t⟩
def mpP:Pat:=⟨frS bX,onS (iriT6 ⟨#[112]⟩),frS bY⟩
def mpP2:Pat:=⟨frS bY,onS (iriT6 ⟨#[112]⟩),frS bZ⟩
def mpP3:Pat:=⟨frS bY,frS bQ,frS bZ⟩
theorem mp_vars:varsN [mpP,mpP2]=[bX,bY,bZ]:=by kernel_rfl
theorem mp_solD:solD (setTp exaT) [mpP,mpP2]=[[iriT6 ⟨#[97]⟩,iriT6 ⟨#[98]⟩,iriT6 ⟨#[99]⟩]]:=by kernel_rfl
theorem mp_sol:solP exaT [mpP,mpP2]=[[iriT6 ⟨#[97]⟩,iriT6 ⟨#[98]⟩,iriT6 ⟨#[99]⟩]]:=List.perm_singleton.1 ((solP_perm _ _).trans (by rw[mp_solD]))
theorem mp_vars3:varsN [mpP,mpP3]=[bX,bY,bQ,bZ]:=by kernel_rfl
theorem mp_solD3:solD (setTp exaT) [mpP,mpP3]=[[iriT6 ⟨#[97]⟩,iriT6 ⟨#[98]⟩,iriT6 ⟨#[112]⟩,iriT6 ⟨#[99]⟩]]:=by kernel_rfl
theorem mp_sol3:solP exaT [mpP,mpP3]=[[iriT6 ⟨#[97]⟩,iriT6 ⟨#[98]⟩,iriT6 ⟨#[112]⟩,iriT6 ⟨#[99]⟩]]:=List.perm_singleton.1 ((solP_perm _ _).trans (by rw[mp_solD3]))
def mpQ:Qy 1:={ask:=false,dist:=false,vars:=[bZ],pats:=[mpP,mpP3],fils:=[],ord:=[],lim:=-1,off:=0}
theorem mp_err:errOf mpQ=0:=by kernel_rfl
theorem mp_ans4:ans4 [bX,bY,bQ,bZ] [bZ] 1 [] [] false [[iriT6 ⟨#[97]⟩,iriT6 ⟨#[98]⟩,iriT6 ⟨#[112]⟩,iriT6 ⟨#[99]⟩]]=[[iriT6 ⟨#[99]⟩]]:=by
 have hk:keepL [bX,bY,bQ,bZ] 1 [] [[iriT6 ⟨#[97]⟩,iriT6 ⟨#[98]⟩,iriT6 ⟨#[112]⟩,iriT6 ⟨#[99]⟩]]=[[iriT6 ⟨#[97]⟩,iriT6 ⟨#[98]⟩,iriT6 ⟨#[112]⟩,iriT6 ⟨#[99]⟩]]:=by kernel_rfl
 have hs:sortL [bX,bY,bQ,bZ] [] [[iriT6 ⟨#[97]⟩,iriT6 ⟨#[98]⟩,iriT6 ⟨#[112]⟩,iriT6 ⟨#[99]⟩]]=[[iriT6 ⟨#[97]⟩,iriT6 ⟨#[98]⟩,iriT6 ⟨#[112]⟩,iriT6 ⟨#[99]⟩]]:=List.perm_singleton.1 (sortL_perm _ _ _)
 have hp:projN [bX,bY,bQ,bZ] [bZ]=0:=by kernel_rfl
 unfold ans4 ans3
 rw[if_neg (by decide),hk,hs,if_pos hp]
 rfl
theorem mp_ans:meanAns exaT mpQ=(true,[[iriT6 ⟨#[99]⟩]]):=by
 have h:cutL mpQ.off mpQ.lim (ans4 (varsN mpQ.pats) mpQ.vars 1 mpQ.fils mpQ.ord mpQ.dist (solP exaT mpQ.pats))=[[iriT6 ⟨#[99]⟩]]:=by
  show cutL 0 (-1) (ans4 (varsN [mpP,mpP3]) [bZ] 1 [] [] false (solP exaT [mpP,mpP3]))=_
  rw[mp_sol3,mp_vars3,mp_ans4]
  kernel_rfl
 unfold meanAns
 rw[if_neg (by rw[mp_err];decide),if_neg (by decide),h]
 rfl
theorem mp_prod:prodP exaT [mpP,mpP2]<=1500:=by
 have:prodP exaT [mpP,mpP2]=4:=by kernel_rfl
 omega
theorem mp_prod3:prodP exaT [mpP,mpP3]<=1500:=by
 have:prodP exaT [mpP,mpP3]=6:=by kernel_rfl
 omega
theorem sortK_pair (ks:List (Nat × Bool)) (l:List (List Tm)):(sortK ks l).Pairwise λx y=>lessK ks y x=false:=by
 have h:=List.pairwise_mergeSort (le:=λx y => !lessK ks y x) (λa b c h1 h2=>by
  simp only[Bool.not_eq_true',lessK_not]at h1 h2 ⊢
  exact(ordF_keys ks).le h1 h2) (λa b=>by
  simp only[Bool.or_eq_true,Bool.not_eq_true',lessK_not]
  have:=(ordF_keys ks).neg a b
  omega) l
 exact h.imp λh=>by simpa using h
theorem solP_rise {set:List Tp} {ps:List Pat} {i:Nat} {a b:List Tm} (ha:(solP set ps)[i]?=some a) (hb:(solP set ps)[i+1]?=some b):cmpRow a b<0:=by
 obtain⟨h1,e1⟩:=List.getElem?_eq_some_iff.1 ha
 obtain⟨h2,e2⟩:=List.getElem?_eq_some_iff.1 hb
 have hp:=List.pairwise_iff_getElem.1 (sortK_pair [] (solD (setTp set) ps)) i (i+1) h1 h2 (by omega)
 have hn:=List.pairwise_iff_getElem.1 (solP_nodup set ps) i (i+1) h1 h2 (by omega)
 have e3:(sortK [] (solD (setTp set) ps))[i]'h1=a:=e1
 have e4:(sortK [] (solD (setTp set) ps))[i+1]'h2=b:=e2
 rw[e3,e4,lessK_not]at hp
 rw[e1,e2]at hn
 have h3:cmpRow a b<=0:=hp
 have h4:cmpRow a b≠0:=λh=>hn (cmpRow_zero a b h)
 omega
theorem like_of {vars:List ByteArray} {y row:List Tm} {names:List ByteArray} (h:∀(k:Nat) (s:ByteArray),names[k]?=some s->some (valueP vars y ⟨s,zTm⟩)=row[k]?):likeR vars y row names=true:=by
 unfold likeR
 rw[List.all_eq_true]
 intro b hb
 obtain⟨k,hk⟩:=List.getElem?_of_mem hb
 unfold likeL at hk
 rw[List.getElem?_zipWith]at hk
 cases hn:names[k]? with
 | none=>rw[hn]at hk;simp at hk
 | some s =>
  have h1:=h k s hn
  rw[hn,←h1]at hk
  simp only[Option.some.injEq]at hk
  rw[←hk,sameTm_iffT.2 rfl];rfl
def keptS {n:Nat} (set:List Tp) (q:Qy n):List (List Tm):=keepL (varsN q.pats) n q.fils (solP set q.pats)
def allS {n:Nat} (set:List Tp) (q:Qy n):List (List Tm):=ans4 (varsN q.pats) q.vars n q.fils q.ord q.dist (solP set q.pats)
theorem allS_of {n:Nat} {set:List Tp} {q:Qy n} (h:errOf q=0):(ans3 (varsN q.pats) q.vars n q.fils q.ord (solP set q.pats)).2=(sortL (varsN q.pats) q.ord (keptS set q)).map (projL (placesL (varsN q.pats) q.vars)):=by
 obtain⟨_,h2,_,h4,_,_⟩:=err_zero h
 unfold ans3
 rw[if_pos (proj_no h2 h4)];rfl
theorem allS_len {n:Nat} {set:List Tp} {q:Qy n} (h:errOf q=0) (hd:q.dist=false):(allS set q).length=(keptS set q).length:=by
 unfold allS ans4
 rw[if_neg (by simp[hd]),allS_of h,List.length_map,(sortL_perm _ _ _).length_eq]
theorem allS_le {n:Nat} {set:List Tp} {q:Qy n} (h:errOf q=0):(allS set q).length<=(keptS set q).length:=by
 unfold allS ans4
 rw[allS_of h]
 split
 ·refine Nat.le_trans (once_len _) ?_
  rw[List.length_map,(sortL_perm _ _ _).length_eq];exact Nat.le_refl _
 ·rw[List.length_map,(sortL_perm _ _ _).length_eq];exact Nat.le_refl _
theorem allS_mem {n:Nat} {set:List Tp} {q:Qy n} (h:errOf q=0) {r:List Tm}:r∈allS set q↔∃y∈keptS set q,projL (placesL (varsN q.pats) q.vars) y=r:=by
 unfold allS ans4
 rw[allS_of h]
 split
 ·rw[once_mem,List.mem_map]
  exact⟨λ⟨y,hy,e⟩=>⟨y,(sortL_perm _ _ _).mem_iff.1 hy,e⟩,λ⟨y,hy,e⟩=>⟨y,(sortL_perm _ _ _).mem_iff.2 hy,e⟩⟩
 ·rw[List.mem_map]
  exact⟨λ⟨y,hy,e⟩=>⟨y,(sortL_perm _ _ _).mem_iff.1 hy,e⟩,λ⟨y,hy,e⟩=>⟨y,(sortL_perm _ _ _).mem_iff.2 hy,e⟩⟩
theorem allS_pos {n:Nat} {set:List Tp} {q:Qy n} (h:errOf q=0):0<(allS set q).length↔0<(keptS set q).length:=by
 rw[List.length_pos_iff_exists_mem,List.length_pos_iff_exists_mem]
 exact⟨λ⟨r,hr⟩=>by obtain⟨y,hy,_⟩:=(allS_mem h).1 hr;exact⟨y,hy⟩,λ⟨y,hy⟩=>⟨_,(allS_mem h).2 ⟨y,hy,rfl⟩⟩⟩
theorem allS_nodup {n:Nat} {set:List Tp} {q:Qy n} (hd:q.dist=true):(allS set q).Nodup:=by
 unfold allS ans4
 rw[if_pos (by simp[hd])]
 exact once_nodup _
theorem projL_len (ps:List Int) (r:List Tm):(projL ps r).length=ps.length:=by unfold projL;simp
theorem allS_row {n:Nat} {set:List Tp} {q:Qy n} (h:errOf q=0) {r:List Tm} (hr:r∈allS set q):r.length=q.vars.length/\∃y∈solP set q.pats,likeR (varsN q.pats) y r q.vars=true:=by
 obtain⟨_,_,_,h4,_,_⟩:=err_zero h
 obtain⟨y,hy,rfl⟩:=(allS_mem h).1 hr
 have hys:y∈solP set q.pats:=keep_mem hy
 refine⟨by rw[projL_len];unfold placesL;simp,y,hys,like_of λk s hk=>?_⟩
 have hm:=h4 s (List.mem_of_getElem? hk)
 have hlt:(Lib.idxOfS (varsN q.pats) s).toNat<y.length:=by
  rw[solP_row hys]
  have h1:=idx_atM hm
  exact(List.getElem?_eq_some_iff.1 h1).1
 unfold valueP projL placesL
 rw[if_pos ⟨varsN_ne hm,hasS_iff.2 hm⟩,List.getElem?_map,List.getElem?_map,hk]
 simp only[Option.map_some,Option.some.injEq]
 rw[getElem!_pos y _ hlt,List.getElem?_eq_getElem hlt];rfl
def wholeQ {n:Nat} (q:Qy n):Qy n:={q with lim:=-1,off:=0}
theorem whole_err {n:Nat} {q:Qy n} (h:errOf q=0) (ha:q.ask=false):errOf (wholeQ q)=0:=by
 obtain⟨h1,_,_,_,_,_⟩:=err_zero h
 have hr:rightQ (wholeQ q)=true:=by
  unfold rightQ numsQ askQ at h1 ⊢
  simp only[wholeQ,ha,Bool.false_and,Bool.not_false,Bool.and_true]at h1 ⊢
  simp only[Bool.and_eq_true]at h1 ⊢
  exact⟨⟨h1.1.1,by decide,by decide⟩,h1.2⟩
 unfold errOf at h ⊢
 rw[h1]at h
 rw[hr]
 exact h
theorem whole_ans {n:Nat} {set:List Tp} {q:Qy n} (h:errOf q=0) (ha:q.ask=false):meanAns set (wholeQ q)=(decide (0<(allS set q).length),allS set q):=by
 have hc:cutL 0 (-1) (allS set q)=allS set q:=by unfold cutL;rw[if_pos rfl];rfl
 unfold meanAns
 rw[if_neg (by rw[whole_err h ha];decide),if_neg (by simp[wholeQ,ha])]
 show (decide (0<(cutL 0 (-1) (allS set q)).length),cutL 0 (-1) (allS set q))=_
 rw[hc]
theorem ans_no {n:Nat} {set:List Tp} {q:Qy n} (h:errOf q≠0):meanAns set q=(false,[]):=by unfold meanAns;rw[if_pos h]
theorem ans_ask {n:Nat} {set:List Tp} {q:Qy n} (h:errOf q=0) (ha:q.ask=true):meanAns set q=(decide (0<(keptS set q).length),[]):=by
 unfold meanAns
 rw[if_neg (by rw[h];decide),if_pos (by simp[ha])]
 congr 1
 rw[Bool.eq_iff_iff,List.any_eq_true,decide_eq_true_eq,List.length_pos_iff_exists_mem]
 exact⟨λ⟨r,h1,h2⟩=>⟨r,List.mem_filter.2 ⟨h1,h2⟩⟩,λ⟨r,hr⟩=>⟨r,(List.mem_filter.1 hr).1,(List.mem_filter.1 hr).2⟩⟩
theorem ans_rows {n:Nat} {set:List Tp} {q:Qy n} (h:errOf q=0) (ha:q.ask=false):meanAns set q=(decide (0<(cutL q.off q.lim (allS set q)).length),cutL q.off q.lim (allS set q)):=by
 unfold meanAns
 rw[if_neg (by rw[h];decide),if_neg (by simp[ha])];rfl
theorem cut_part {off lim:Int} {B:List (List Tm)} {N f l:Nat} (hN:B.length=N) (h0:0<=off) (h1 : -1<=lim) (hf:(f:Int)=min off N) (hl:(l:Int)=if lim = -1 then (N:Int) else min (N:Int) (f+lim)):cutL off lim B=(B.take l).drop f/\f<=l/\l<=N:=by
 have hfN:f<=N:=by omega
 have hd:B.drop off.toNat=B.drop f:=by
  rcases Int.le_total off N with h|h
  ·rw[show f=off.toNat by omega]
  ·rw[List.drop_of_length_le (by omega),List.drop_of_length_le (by omega)]
 unfold cutL
 rw[hd]
 split
 ·next h =>
  rw[if_pos h]at hl
  obtain rfl:l=N:=by omega
  exact⟨by rw[List.take_of_length_le (by omega)],by omega,Nat.le_refl _⟩
 ·next h =>
  rw[if_neg h]at hl
  refine⟨?_,by omega,by omega⟩
  rw[List.drop_take]
  rcases Nat.le_total (f+lim.toNat) N with h2|h2
  ·rw[show lim.toNat=l-f by omega]
  ·rw[List.take_of_length_le (by rw[List.length_drop];omega),List.take_of_length_le (by rw[List.length_drop];omega)]
end Go.Proofs.YtoaemihcbmlkgaaGreatDoor
