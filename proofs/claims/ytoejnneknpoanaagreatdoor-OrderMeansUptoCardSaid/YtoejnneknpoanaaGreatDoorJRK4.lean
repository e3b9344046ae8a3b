/- The kit's SameTerms, SameTermRows. Patterns' variables, cond -/
import Derived.Test.YtoejnneknpoanaaGreatDoorJKitTexts
import Derived.Lib.AppendZerosOnto
import Derived.Maps.OwnIn
set_option maxHeartbeats 4000000
set_option maxRecDepth 100000
namespace Go.Proofs.YtoejnneknpoanaaGreatDoor
open Go Go.RowKit Um Fm Lx Tx Om Mp
theorem kitSameTerms (a b:List Tm) (A B:Option Addr) (c d n m:Nat) (w:World) (hn:a.length=n) (hm:b.length=m) (hln:n<=1000000) (hlm:m<=1000000) (ha:RdTs w A a) (hb:RdTs w B b) :
  Calls Tryz.prog 35 #[.slice A n c,.slice B m d] w λe w'=>e=.returned (.bool (decide (a=b)))/\Below w.heap.size w w':=by
 obtain⟨res,hres⟩:∃r,decide (a=b)=r:=⟨_,rfl⟩
 rw[hres]
 by_cases hnm:n=m
 case neg =>
  have hr:res=false:=by
   rw[←hres,decide_eq_false_iff_not]
   intro h
   rw[h]at hn
   omega
  subst hr
  have hd:((n:Int) != (m:Int))=true:=by rw[bne_iff_ne];omega
  clear hn hm ha hb hres hnm
  go_enter Tryz.func35,Tryz.ntmps35
  go_wp2
  go_ret
  exact⟨rfl,Below.refl _ _⟩
 subst hnm
 have H:=Lib.hid (And.intro hn (And.intro hm (And.intro ha (And.intro hb hres))))
 clear hn hm ha hb hres
 go_enter Tryz.func35,Tryz.ntmps35
 go_wp2
 go_loopw [5] (λi wr=>∃k:Nat,k<=n/\i=.int .i64 k/\Hid (a=b↔a.drop k=b.drop k)/\Hid (Below w.heap.size w wr)) (λi _=>n-(intOf i).toNat)
 case atStart=>exact⟨0,by omega,rfl,Iff.rfl,Below.refl _ _⟩
 case round =>
  obtain⟨k,hk,rfl,H1,HB⟩:=hrel
  obtain⟨hn,hm,ha,hb,hres⟩:=H.out
  by_cases hlt:k<n
  ·obtain⟨x,hx1⟩:∃x,a[k]?=some x:=⟨_,List.getElem?_eq_getElem (by omega)⟩
   obtain⟨z,hz1⟩:∃z,b[k]?=some z:=⟨_,List.getElem?_eq_getElem (by omega)⟩
   obtain⟨g1,o1,rfl,b0,b1,b2,b3⟩:=(RdTs.later ha HB.out).at4 hx1
   obtain⟨g2,o2,rfl,d0,d1,d2,d3⟩:=(RdTs.later hb HB.out).at4 hz1
   have hsd:=same_drop hx1 hz1
   have x0:=λd os=>cell_on b0 (below_regrown wr d os)
   have x1:=λd os=>cell_on b1 (below_regrown wr d os)
   have x2:=λd os=>cell_on b2 (below_regrown wr d os)
   have x3:=λd os=>cell_on b3 (below_regrown wr d os)
   have y0:=λd os=>cell_on d0 (below_regrown wr d os)
   have y1:=λd os=>cell_on d1 (below_regrown wr d os)
   have y2:=λd os=>cell_on d2 (below_regrown wr d os)
   have y3:=λd os=>cell_on d3 (below_regrown wr d os)
   by_cases he:x=z
   ·have hne:=λW=>run_neTm x z W
    rw[show sameTm x z=true from sameTm_iffT.2 he]at hne
    have H2:Hid (a=b↔a.drop (k+1)=b.drop (k+1)):=by
     show _↔_
     rw[H1.out,hsd]
     exact⟨λh=>h.2,λh=>⟨he,h⟩⟩
    clear hx1 hz1 b0 b1 b2 b3 d0 d1 d2 d3 hn hm ha hb hres H1 hsd he
    go_wp2
    refine wrq ?_;(repeat (any_goals (go_big_quiet_step ((fail)))));all_goals (refine wqn ?_;intro d9 os9)
    have kq:=Lib.hid (below_tr HB.out (below_regrown wr d9 os9))
    clear x0 x1 x2 x3 y0 y1 y2 y3
    generalize Sort.grow (redrawn wr d9) os9=w3 at *
    go_wp2
    go_roundw
    case rel=>exact⟨k+1,by omega,by go_num,H2,kq⟩
    case measure=>simp[intOf];omega
   ·have hne:=λW=>run_neTm x z W
    rw[show sameTm x z=false from by
     cases h:sameTm x z with
     | false=>rfl
     | true=>exact absurd (sameTm_iffT.1 h) he]at hne
    have H2:Hid (res=false):=by
     show _=_
     rw[←hres,decide_eq_false_iff_not,H1.out,hsd]
     exact λh=>he h.1
    clear hx1 hz1 b0 b1 b2 b3 d0 d1 d2 d3 hn hm ha hb hres H1 hsd he
    go_wp2
    refine wrq ?_;(repeat (any_goals (go_big_quiet_step ((fail)))));all_goals (refine wqn ?_;intro d9 os9)
    have kq:=Lib.hid (below_tr HB.out (below_regrown wr d9 os9))
    clear x0 x1 x2 x3 y0 y1 y2 y3
    generalize Sort.grow (redrawn wr d9) os9=w3 at *
    go_wp2
    go_ret
    exact⟨by rw[H2.out];rfl,kq.out⟩
  ·obtain rfl:k=n:=by omega
   have H2:Hid (res=true):=by
    show _=_
    rw[←hres,decide_eq_true_iff,H1.out,drop_end a hn,drop_end b hm]
   clear hn hm ha hb hres H1
   go_wp2
   go_ret
   exact⟨by rw[H2.out];rfl,HB.out⟩
theorem same_dropR {a b:List (List Tm)} {k:Nat} {x z:List Tm} (hx:a[k]?=some x) (hz:b[k]?=some z):(a.drop k=b.drop k↔x=z/\a.drop (k+1)=b.drop (k+1)):=by
 rw[drop_cons_of hx,drop_cons_of hz,List.cons.injEq]
theorem kitSameRows (a b:List (List Tm)) (A B:Option Addr) (c d n m:Nat) (w:World) (hn:a.length=n) (hm:b.length=m) (hln:n<=1000000) (hlm:m<=1000000) (hza:∀r∈a,r.length<=1000000) (hzb:∀r∈b,r.length<=1000000) (ha:RdRs w A a) (hb:RdRs w B b) :
  Calls Tryz.prog 31 #[.slice A n c,.slice B m d] w λe w'=>e=.returned (.bool (decide (a=b)))/\Below w.heap.size w w':=by
 obtain⟨res,hres⟩:∃r,decide (a=b)=r:=⟨_,rfl⟩
 rw[hres]
 by_cases hnm:n=m
 case neg =>
  have hr:res=false:=by
   rw[←hres,decide_eq_false_iff_not]
   intro h
   rw[h]at hn
   omega
  subst hr
  have hd:((n:Int) != (m:Int))=true:=by rw[bne_iff_ne];omega
  clear hn hm ha hb hres hnm hza hzb
  go_enter Tryz.func31,Tryz.ntmps31
  go_wp2
  go_ret
  exact⟨rfl,Below.refl _ _⟩
 subst hnm
 have H:=Lib.hid (And.intro hn (And.intro hm (And.intro ha (And.intro hb (And.intro hza (And.intro hzb hres))))))
 clear hn hm ha hb hres hza hzb
 go_enter Tryz.func31,Tryz.ntmps31
 go_wp2
 go_loopw [5] (λi wr=>∃k:Nat,k<=n/\i=.int .i64 k/\Hid (a=b↔a.drop k=b.drop k)/\Hid (Below w.heap.size w wr)) (λi _=>n-(intOf i).toNat)
 case atStart=>exact⟨0,by omega,rfl,Iff.rfl,Below.refl _ _⟩
 case round =>
  obtain⟨k,hk,rfl,H1,HB⟩:=hrel
  obtain⟨hn,hm,ha,hb,hza,hzb,hres⟩:=H.out
  by_cases hlt:k<n
  ·obtain⟨x,hx1⟩:∃x,a[k]?=some x:=⟨_,List.getElem?_eq_getElem (by omega)⟩
   obtain⟨z,hz1⟩:∃z,b[k]?=some z:=⟨_,List.getElem?_eq_getElem (by omega)⟩
   obtain⟨g1,o1,A1,c1,rfl,hc1,_,hr1⟩:=(ha.later HB.out).at1 hx1
   obtain⟨g2,o2,A2,c2,rfl,hc2,_,hr2⟩:=(hb.later HB.out).at1 hz1
   have hsd:=same_dropR hx1 hz1
   have hS:=λd os=>kitSameTerms x z A1 A2 c1 c2 x.length z.length (Sort.grow (redrawn wr d) os) rfl rfl (hza x (List.mem_of_getElem? hx1)) (hzb z (List.mem_of_getElem? hz1)) (hr1.later (below_regrown wr d os)) (hr2.later (below_regrown wr d os))
   have e1:=λd os=>cell_on hc1 (below_regrown wr d os)
   have e2:=λd os=>cell_on hc2 (below_regrown wr d os)
   by_cases he:x=z
   ·rw[show decide (x=z)=true from decide_eq_true he]at hS
    have H2:Hid (a=b↔a.drop (k+1)=b.drop (k+1)):=by
     show _↔_
     rw[H1.out,hsd]
     exact⟨λh=>h.2,λh=>⟨he,h⟩⟩
    generalize x.length=lx at *
    generalize z.length=lz at *
    clear hx1 hz1 hn hm ha hb hres hza hzb H1 hsd he hc1 hc2 hr1 hr2
    go_wp2
    refine wrq ?_;(repeat (any_goals (go_big_quiet_step ((go_at_call 35;exact Calls.regrown_of (hS _ _))))));all_goals (refine wqn ?_;intro d9 os9)
    have kq:=Lib.hid (below_tr HB.out (below_regrown wr d9 os9))
    go_wp2
    go_roundw
    case rel=>exact⟨k+1,by omega,by go_num,H2,kq⟩
    case measure=>simp[intOf];omega
   ·rw[show decide (x=z)=false from decide_eq_false he]at hS
    have H2:Hid (res=false):=by
     show _=_
     rw[←hres,decide_eq_false_iff_not,H1.out,hsd]
     exact λh=>he h.1
    generalize x.length=lx at *
    generalize z.length=lz at *
    clear hx1 hz1 hn hm ha hb hres hza hzb H1 hsd he hc1 hc2 hr1 hr2
    go_wp2
    refine wrq ?_;(repeat (any_goals (go_big_quiet_step ((go_at_call 35;exact Calls.regrown_of (hS _ _))))));all_goals (refine wqn ?_;intro d9 os9)
    have kq:=Lib.hid (below_tr HB.out (below_regrown wr d9 os9))
    go_wp2
    go_ret
    exact⟨by rw[H2.out];rfl,kq.out⟩
  ·obtain rfl:k=n:=by omega
   have H2:Hid (res=true):=by
    show _=_
    rw[←hres,decide_eq_true_iff,H1.out,drop_end a hn,drop_end b hm]
   clear hn hm ha hb hres hza hzb H1
   go_wp2
   go_ret
   exact⟨by rw[H2.out];rfl,HB.out⟩
theorem rows_in {R:List Value->List Tm->Prop}:∀{l:List (List Tm)} {xs:List Value},All 1 R xs l->∀{u:Value},u∈xs->∃r,r∈l/\R [u] r
 | [],xs,h,u,hu=>by
  have:xs=[]:=h
  subst this;cases hu
 | e::l,xs,h,u,hu=>by
  obtain⟨cs,rest,rfl,hc,hr,ht⟩:=h
  match cs,hc with
  | [x],_ =>
   rcases List.mem_cons.1 hu with rfl|hu
   ·exact⟨e,List.mem_cons_self ..,hr⟩
   ·obtain⟨r,h1,h2⟩:=rows_in ht hu
    exact⟨r,List.mem_cons_of_mem _ h1,h2⟩
theorem cut_mem {off lim:Int} {l:List (List Tm)} {r:List Tm} (h:r∈cutL off lim l):r∈l:=by
 unfold cutL at h
 split at h
 ·exact List.mem_of_mem_drop h
 ·exact List.mem_of_mem_drop (List.mem_of_mem_take h)
theorem cut_len (off lim:Int) (l:List (List Tm)):(cutL off lim l).length<=l.length:=by
 unfold cutL
 split
 ·rw[List.length_drop];omega
 ·rw[List.length_take,List.length_drop];omega
theorem first_ans (vars names:List ByteArray) (keys:List Ky) (off lim:Int):firstE (ansEr vars names keys off lim) 0 5=if sortN vars keys≠0 then sortN vars keys else if projN vars names≠0 then projN vars names else if off<0∨lim < -1 then 6 else 0:=by
 simp only[firstE,ansEr]
 by_cases h1:sortN vars keys=0
 ·by_cases h2:projN vars names=0
  ·by_cases h3:off<0∨lim < -1
   ·simp[h1,h2,h3]
   ·simp[h1,h2,h3]
  ·simp[h1,h2]
 ·simp[h1]
def OwnTab (base:Nat) (w:World) (v0 v1:Value) (vars:List ByteArray) (rows:List (List Tm)):Prop:=w.ownsRow base 9 1 v0 vars.length (vars.map Value.string)/\OwnIn base w v1 rows
theorem DoesR.out {N:Int} {vars:List ByteArray} {rows:List (List Tm)} {w w':World} {e:Ending} (h:DoesR N vars rows w e w'):∃v0 v1,e=.returned (.tuple #[.agg #[v0,v1],.int .i64 N])/\Below w.heap.size w w'/\OwnTab w.heap.size w' v0 v1 (if N=0 then vars else []) (if N=0 then rows else []):=by
 obtain⟨v0,v1,h1,h2,h3,h4⟩:=h
 refine⟨v0,v1,h1,h2,?_⟩
 by_cases hN:N=0
 ·rw[if_pos hN,if_pos hN]
  exact h3 hN
 ·rw[if_neg hN,if_neg hN]
  obtain⟨rfl,rfl⟩:=h4 hN
  exact⟨World.ownsRow_nil _ _ _ _,none,0,[],rfl,Nat.le_refl _,.inl rfl,rfl⟩
end Go.Proofs.YtoejnneknpoanaaGreatDoor
