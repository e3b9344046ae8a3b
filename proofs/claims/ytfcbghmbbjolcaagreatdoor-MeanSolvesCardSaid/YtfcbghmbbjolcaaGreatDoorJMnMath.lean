/- The reference of package order, walked: Right, compare, same -/
import Derived.Test.YtfcbghmbbjolcaaGreatDoorJR8e
set_option maxHeartbeats 4000000
set_option maxRecDepth 100000
namespace Go.Proofs.YtfcbghmbbjolcaaGreatDoor
open Go Go.RowKit Um Fm Lx Tx Om Mp
theorem fE (a b:Tm) (W:World):(binOp .neq 62 (.agg #[.int .i64 a.k,.string a.x,.string a.l,.string a.y]) (.agg #[.int .i64 b.k,.string b.x,.string b.l,.string b.y])).run Tryz.prog W=.ok (.bool (!az a b)) W:=by
 have h0:=Tryz.underlying62
 have h1:=Tryz.underlying60
 have h2:=Tryz.underlying9
 unfold az
 simp only[go_sem,h0]
 cases e1:(a.k == b.k)
 ·simp[go_sem,h0,h1,h2,e1]
 cases e2:(a.x.toList == b.x.toList)
 ·simp[go_sem,h0,h1,h2,e1,e2]
 cases e3:(a.l.toList == b.l.toList)
 ·simp[go_sem,h0,h1,h2,e1,e2,e3]
 cases e4:(a.y.toList == b.y.toList)
 ·simp[go_sem,h0,h1,h2,e1,e2,e3,e4]
 simp[go_sem,h0,h1,h2,e1,e2,e3,e4]
theorem kt {a b:List Tm} {k:Nat} {x z:Tm} (hx:a[k]?=some x) (hz:b[k]?=some z):(a.drop k=b.drop k↔x=z/\a.drop (k+1)=b.drop (k+1)):=by
 rw[ai hx,ai hz,List.cons.injEq]
theorem K2 (vars:List ByteArray) (x:ByteArray) (A:Option Addr) (c n:Nat) (w:World) (hn:vars.length=n) (hl:n<=1000000000) (hr:Rd w A (vars.map Value.string)) :
  Calls Tryz.prog 108 #[.slice A n c,.string x] w λe w'=>e=.returned (.int .i64 (Lib.idxOfS vars x))/\w=w':=by
 have HN:=Lib.hid hn
 clear hn
 go_enter Tryz.func108,Tryz.ntmps108
 go_wp2
 go_loop [5] (λi=>∃k:Nat,k<=n/\i=.int .i64 k/\Hid (x ∉ vars.take k)) (λi=>n-(intOf i).toNat)
 case atStart=>exact⟨0,by omega,rfl,by show x ∉ _;simp⟩
 case round =>
  obtain⟨k,hk,rfl,H⟩:=hrel
  by_cases hlt:k<n
  ·obtain⟨s,hs⟩:∃s,vars[k]?=some s:=⟨_,List.getElem?_eq_getElem (by rw[HN.out];exact hlt)⟩
   obtain⟨g,o,rfl,hcx⟩:=hr.at_ (j:=k) (u:=.string s) (by rw[List.getElem?_map,hs];rfl)
   by_cases he:s=x
   ·subst he
    have hi:Hid (Lib.idxOfS vars s=(k:Int)):=Dd hs H.out
    clear hs H hr
    go_wp2
    go_ret
    exact⟨by rw[hi.out];rfl,rfl⟩
   ·have hq:(s.toList == x.toList)=false:=by
     rw[beq_eq_false_iff_ne]
     intro h
     exact he ((Lib.bytes_beq_iff s x).1 (beq_iff_eq.2 h))
    have H2:Hid (x ∉ vars.take (k+1)):=by
     show x ∉ _
     rw[ah hs,List.mem_append]
     rintro(h|h)
     ·exact H.out h
     ·simp only[List.mem_cons,List.not_mem_nil,or_false]at h
      exact he h.symm
    clear hs H hr
    go_wp2
    exact⟨⟨k+1,by omega,by go_num,H2⟩,by simp[intOf];omega⟩
  ·obtain rfl:k=n:=by omega
   have hi:Hid (Lib.idxOfS vars x = -1):=by
    have h1:=kN vars x
    have h2:x ∉ vars:=λh=>H.out (by rw[List.take_of_length_le (by rw[HN.out];exact Nat.le_refl _)];exact h)
    have h3:¬ 0<=Lib.idxOfS vars x:=λh=>h2 ((Lib.idxOfS_nonneg_iff _ _).1 h)
    show _=_
    omega
   clear H hr
   go_wp2
   go_ret
   exact⟨by rw[hi.out];rfl,rfl⟩
theorem Ho (a b:List Tm) (A B:Option Addr) (c d n m:Nat) (w:World) (hn:a.length=n) (hm:b.length=m) (hln:n<=1000000) (hlm:m<=1000000) (ha:RdTs w A a) (hb:RdTs w B b) :
  Calls Tryz.prog 109 #[.slice A n c,.slice B m d] w λe w'=>e=.returned (.bool (decide (a=b)))/\Below w.heap.size w w':=by
 obtain⟨res,hres⟩:∃r,decide (a=b)=r:=⟨_,rfl⟩
 rw[hres]
 have H:=Lib.hid (And.intro hn (And.intro hm (And.intro ha (And.intro hb hres))))
 clear hn hm ha hb hres
 go_enter Tryz.func109,Tryz.ntmps109
 go_wp2
 go_loopw [5] (λi wr=>∃k:Nat,k<=n/\k<=m/\i=.int .i64 k/\Hid (a=b↔a.drop k=b.drop k)/\Hid (Below w.heap.size w wr)) (λi _=>n-(intOf i).toNat)
 case atStart=>exact⟨0,by omega,by omega,rfl,Iff.rfl,Below.refl _ _⟩
 case round =>
  obtain⟨k,hk,hkm,rfl,H1,HB⟩:=hrel
  obtain⟨hn,hm,ha,hb,hres⟩:=H.out
  by_cases hlt:k<n
  ·by_cases hlt2:k<m
   ·obtain⟨x,hx1⟩:∃x,a[k]?=some x:=⟨_,List.getElem?_eq_getElem (by omega)⟩
    obtain⟨z,hz1⟩:∃z,b[k]?=some z:=⟨_,List.getElem?_eq_getElem (by omega)⟩
    obtain⟨g1,o1,rfl,b0,b1,b2,b3⟩:=(RdTs.later ha HB.out).at4 hx1
    obtain⟨g2,o2,rfl,d0,d1,d2,d3⟩:=(RdTs.later hb HB.out).at4 hz1
    have hsd:=kt hx1 hz1
    have x0:=λd os=>ac b0 (below_regrown wr d os)
    have x1:=λd os=>ac b1 (below_regrown wr d os)
    have x2:=λd os=>ac b2 (below_regrown wr d os)
    have x3:=λd os=>ac b3 (below_regrown wr d os)
    have y0:=λd os=>ac d0 (below_regrown wr d os)
    have y1:=λd os=>ac d1 (below_regrown wr d os)
    have y2:=λd os=>ac d2 (below_regrown wr d os)
    have y3:=λd os=>ac d3 (below_regrown wr d os)
    by_cases he:x=z
    ·have hne:=λW=>fE x z W
     rw[show az x z=true from aw.2 he]at hne
     have H2:Hid (a=b↔a.drop (k+1)=b.drop (k+1)):=by
      show _↔_
      rw[H1.out,hsd]
      exact⟨λh=>h.2,λh=>⟨he,h⟩⟩
     clear hx1 hz1 b0 b1 b2 b3 d0 d1 d2 d3 hn hm ha hb hres H1 hsd he
     go_wp2
     refine wrq ?_;(repeat (any_goals (go_big_quiet_step ((fail)))));all_goals (refine wqn ?_;intro d9 os9)
     have kq:=Lib.hid (aa HB.out (below_regrown wr d9 os9))
     clear x0 x1 x2 x3 y0 y1 y2 y3
     generalize Sort.grow (redrawn wr d9) os9=w3 at *
     go_wp2
     go_roundw
     case rel=>exact⟨k+1,by omega,by omega,by go_num,H2,kq⟩
     case measure=>simp[intOf];omega
    ·have hne:=λW=>fE x z W
     rw[show az x z=false from by
      cases h:az x z with
      | false=>rfl
      | true=>exact absurd (aw.1 h) he]at hne
     have H2:Hid (res=false):=by
      show _=_
      rw[←hres,decide_eq_false_iff_not,H1.out,hsd]
      exact λh=>he h.1
     clear hx1 hz1 b0 b1 b2 b3 d0 d1 d2 d3 hn hm ha hb hres H1 hsd he
     go_wp2
     refine wrq ?_;(repeat (any_goals (go_big_quiet_step ((fail)))));all_goals (refine wqn ?_;intro d9 os9)
     have kq:=Lib.hid (aa HB.out (below_regrown wr d9 os9))
     clear x0 x1 x2 x3 y0 y1 y2 y3
     generalize Sort.grow (redrawn wr d9) os9=w3 at *
     go_wp2
     go_ret
     exact⟨by rw[H2.out];rfl,kq.out⟩
   ·have H2:Hid (res=((n:Int) == (m:Int))):=by
     show _=_
     rw[←hres,show ((n:Int) == (m:Int))=false from by rw[beq_eq_false_iff_ne];omega,decide_eq_false_iff_not]
     intro h
     rw[h]at hn
     omega
    have hd:decide (k<m)=false:=decide_eq_false hlt2
    clear hn hm ha hb hres H1
    go_wp2
    go_ret
    exact⟨by rw[H2.out];rfl,HB.out⟩
  ·obtain rfl:k=n:=by omega
   have H2:Hid (res=((k:Int) == (m:Int))):=by
    show _=_
    rw[←hres,Bool.eq_iff_iff,decide_eq_true_iff,H1.out,beq_iff_eq,bN a hn]
    constructor
    ·intro h
     have:=congrArg List.length h
     rw[List.length_drop]at this
     simp only[List.length_nil]at this
     omega
    ·intro h
     exact(bN b (by omega)).symm
   clear hn hm ha hb hres H1
   go_wp2
   go_ret
   exact⟨by rw[H2.out];rfl,HB.out⟩
theorem Gq (l:List (List Tm)) (row:List Tm) (A B:Option Addr) (n c m d:Nat) (w:World) (hn:l.length=n) (hm:row.length=m) (hln:n<=1000000) (hlm:m<=1000000) (hz:∀y∈l,y.length<=1000000) (hl:RdRs w A l) (hr:RdTs w B row) :
  Calls Tryz.prog 55 #[.slice A n c,.slice B m d] w λe w'=>e=.returned (.bool (decide (row∈l)))/\Below w.heap.size w w':=by
 have H:=Lib.hid (And.intro hn (And.intro hm (And.intro hz (And.intro hl hr))))
 clear hn hm hz hl hr
 go_enter Tryz.func55,Tryz.ntmps55
 go_wp2
 go_loopw [5] (λi wr=>∃k:Nat,k<=n/\i=.int .i64 k/\Hid (row ∉ l.take k)/\Hid (Below w.heap.size w wr)) (λi _=>n-(intOf i).toNat)
 case atStart=>exact⟨0,by omega,rfl,(by show row ∉ _;simp),Below.refl _ _⟩
 case round =>
  obtain⟨k,hk,rfl,H1,HB⟩:=hrel
  obtain⟨hn,hm,hz,hl,hr⟩:=H.out
  by_cases hlt:k<n
  ·obtain⟨y,hy⟩:∃y,l[k]?=some y:=⟨_,List.getElem?_eq_getElem (by omega)⟩
   obtain⟨g,o,A',c',rfl,hcy,_,hry⟩:=(RdRs.later hl HB.out).at1 hy
   have hs:=Ho y row A' B c' d y.length m wr rfl hm (hz y (List.mem_of_getElem? hy)) hlm hry (RdTs.later hr HB.out)
   by_cases he:y=row
   ·have HM:=Lib.hid (show row∈l from he ▸ List.mem_of_getElem? hy)
    rw[decide_eq_true he]at hs
    clear hn hm hz hl hr hry hy he
    go_wp2_with (go_at_call 109;refine hs.mono ?_;rintro e w2 ⟨rfl,hb2⟩)
    go_ret
    exact⟨by rw[decide_eq_true HM.out];rfl,aa HB.out hb2⟩
   ·have H2:Hid (row ∉ l.take (k+1)):=by
     show row ∉ _
     rw[ah hy,List.mem_append]
     rintro(h|h)
     ·exact H1.out h
     ·simp only[List.mem_cons,List.not_mem_nil,or_false]at h
      exact he h.symm
    rw[decide_eq_false he]at hs
    clear hn hm hz hl hr hry hy he
    go_wp2_with (go_at_call 109;refine hs.mono ?_;rintro e w2 ⟨rfl,hb2⟩)
    go_roundw
    case rel=>exact⟨k+1,by omega,by go_num,H2,aa HB.out hb2⟩
    case measure=>simp[intOf];omega
  ·have H2:=Lib.hid (show row ∉ l by
    have:=H1.out
    rwa [List.take_of_length_le (by omega)]at this)
   clear hn hm hz hl hr
   go_wp2
   go_ret
   exact⟨by rw[decide_eq_false H2.out];rfl,HB.out⟩
theorem uI {a b:List Tm} {k:Nat} {x y:Tm} (hx:a[k]?=some x) (hy:b[k]?=some y):cmpRow (a.drop k) (b.drop k)=orZ (ay x y) (cmpRow (a.drop (k+1)) (b.drop (k+1))):=by
 obtain⟨hl,e⟩:=List.getElem?_eq_some_iff.1 hx
 obtain⟨hl2,e2⟩:=List.getElem?_eq_some_iff.1 hy
 rw[List.drop_eq_getElem_cons hl,List.drop_eq_getElem_cons hl2,e,e2]
 rfl
theorem zI {vars:List ByteArray} {nf:Nat} {fils:List (ExT nf)} {rows:List (List Tm)} {r:List Tm} {k:Nat} (h:rows[k]?=some r):ed vars nf fils (rows.take (k+1))=ed vars nf fils (rows.take k)++(if bG vars r nf fils then [] else [r]):=by
 unfold ed
 rw[List.take_add_one,h,List.filter_append]
 congr 1
 cases hf:bG vars r nf fils<;>simp[hf]
theorem zA (a b:List Tm) (n c d:Nat) (A B:Option Addr) (w:World) (hn:a.length=n) (hm:b.length=n) (ha:RdTs w A a) (hb:RdTs w B b) (za:aN a) (zb:aN b) :
  Calls Tryz.prog 110 #[.slice A n c,.slice B n d] w λe w'=>e=.returned (.int .i64 (cmpRow a b))/\Below w.heap.size w w':=by
 have hln:n<=1000000:=by rw[←hn];exact za.1
 obtain⟨R,hR⟩:∃R,cmpRow a b=R:=⟨_,rfl⟩
 rw[hR]
 have H:=Lib.hid (And.intro hn (And.intro hm (And.intro ha (And.intro hb (And.intro za (And.intro zb hR))))))
 clear hn hm ha hb za zb hR
 go_enter Tryz.func110,Tryz.ntmps110
 go_wp2
 go_loopw [5,6] (λi _ wr=>∃k:Nat,k<=n/\i=.int .i64 k/\Hid (cmpRow (a.drop k) (b.drop k)=R)/\Hid (Below w.heap.size w wr)) (λi _ _=>n-(intOf i).toNat)
 case atStart=>exact⟨0,by omega,rfl,H.out.2.2.2.2.2.2,Below.refl _ _⟩
 case round =>
  obtain⟨k,hk,rfl,H1,HB⟩:=hrel
  obtain⟨hn,hm,ha,hb,za,zb,hR⟩:=H.out
  by_cases hlt:k<n
  ·obtain⟨x,hx1⟩:∃x,a[k]?=some x:=⟨_,List.getElem?_eq_getElem (by omega)⟩
   obtain⟨z,hz1⟩:∃z,b[k]?=some z:=⟨_,List.getElem?_eq_getElem (by omega)⟩
   obtain⟨g1,o1,rfl,b0,b1,b2,b3⟩:=(RdTs.later ha HB.out).at4 hx1
   obtain⟨g2,o2,rfl,d0,d1,d2,d3⟩:=(RdTs.later hb HB.out).at4 hz1
   have hst:Hid (orZ (ay x z) (cmpRow (a.drop (k+1)) (b.drop (k+1)))=R):=by
    show _=_
    rw[←uI hx1 hz1];exact H1.out
   have hcall:=λW=>vM x z W (za.2 x (List.mem_of_getElem? hx1)) (zb.2 z (List.mem_of_getElem? hz1))
   have hcall2:=λd os=>hcall (Sort.grow (redrawn wr d) os)
   generalize ay x z=r at *
   have x0:=λd os=>ac b0 (below_regrown wr d os)
   have x1:=λd os=>ac b1 (below_regrown wr d os)
   have x2:=λd os=>ac b2 (below_regrown wr d os)
   have x3:=λd os=>ac b3 (below_regrown wr d os)
   have y0:=λd os=>ac d0 (below_regrown wr d os)
   have y1:=λd os=>ac d1 (below_regrown wr d os)
   have y2:=λd os=>ac d2 (below_regrown wr d os)
   have y3:=λd os=>ac d3 (below_regrown wr d os)
   clear hx1 hz1 b0 b1 b2 b3 d0 d1 d2 d3 hn hm ha hb za zb hR H1 hcall
   go_wp2
   refine wrq ?_;(repeat (any_goals (go_big_quiet_step ((go_at_call 139;exact Calls.regrown_of (hcall2 _ _))))));all_goals (refine wqn ?_;intro d9 os9)
   have kq:=below_regrown wr d9 os9
   have HB3:=Lib.hid (aa HB.out kq)
   clear x0 x1 x2 x3 y0 y1 y2 y3 hcall2 kq HB
   generalize Sort.grow (redrawn wr d9) os9=w3 at *
   by_cases hz:r=0
   ·subst hz
    have hst2:Hid (cmpRow (a.drop (k+1)) (b.drop (k+1))=R):=by
     show _=_
     rw[←hst.out];rfl
    clear hst
    go_wp2
    exact⟨⟨k+1,by omega,by go_num,hst2,HB3⟩,by simp[intOf];omega⟩
   ·have hne:(r != 0)=true:=by simpa using hz
    have e2:R=r:=by rw[←hst.out];unfold orZ;rw[if_neg hz]
    subst e2
    clear hst
    go_wp2
    go_ret
    exact⟨rfl,HB3.out⟩
  ·have e2:R=0:=by
    have h:=H1.out
    rw[List.drop_of_length_le (by omega),List.drop_of_length_le (by omega)]at h
    exact h.symm
   subst e2
   clear hn hm ha hb za zb hR H1
   go_wp2
   go_ret
   exact⟨rfl,HB.out⟩
end Go.Proofs.YtfcbghmbbjolcaaGreatDoor
namespace Go.Proofs.YtfcbghmbbjolcaaGreatDoor.Mt
open Go
def dz (l:List ByteArray) (s:ByteArray):Bool:=decide (0<=Lib.idxOfS l s)
theorem bm {l:List ByteArray} {s:ByteArray}:dz l s=true↔s∈l:=by unfold dz;rw[decide_eq_true_iff,Lib.idxOfS_nonneg_iff]
theorem ij {l:List ByteArray} {s:ByteArray}:dz l s=false↔s ∉ l:=by unfold dz;rw[decide_eq_false_iff_not,Lib.idxOfS_nonneg_iff]
def fl (l:List ByteArray) (s:ByteArray):List ByteArray:=if dz l s then l else l++[s]
def aF (l names:List ByteArray):List ByteArray:=names.foldl fl l
theorem qj (l:List ByteArray):aF l []=l:=rfl
theorem jd (l:List ByteArray) (s:ByteArray) (r:List ByteArray):aF l (s::r)=aF (fl l s) r:=rfl
theorem eu (l a b:List ByteArray):aF l (a++b)=aF (aF l a) b:=List.foldl_append
theorem tH {l:List ByteArray} {s:ByteArray} (h:dz l s=true):fl l s=l:=by unfold fl;rw[if_pos h]
theorem Cx {l:List ByteArray} {s:ByteArray} (h:dz l s=false):fl l s=l++[s]:=by unfold fl;rw[h];rfl
theorem tI (l:List ByteArray) (s:ByteArray):∃r,fl l s=l++r/\r.length<=1:=by
 unfold fl;split
 ·exact⟨[],by simp,by simp⟩
 ·exact⟨[s],rfl,by simp⟩
theorem qk:∀(names l:List ByteArray),∃r,aF l names=l++r/\r.length<=names.length
 | [],l=>⟨[],by simp[qj],by simp⟩
 | s::t,l=>by
  obtain⟨r1,h1,k1⟩:=tI l s
  obtain⟨r2,h2,k2⟩:=qk t (fl l s)
  exact⟨r1++r2,by rw[jd,h2,h1,List.append_assoc],by simp;omega⟩
theorem Cy {l:List ByteArray} {s x:ByteArray}:x∈fl l s↔x∈l∨x=s:=by
 unfold fl;split
 ·rename_i h
  rw[bm]at h
  exact⟨.inl,λe=>e.elim id λe=>e ▸ h⟩
 ·simp
theorem kD {x:ByteArray}:∀(names l:List ByteArray),x∈aF l names↔x∈l∨x∈names
 | [],l=>by simp[qj]
 | s::t,l=>by rw[jd,kD t,Cy,List.mem_cons,or_assoc]
theorem vU {l:List ByteArray} (s:ByteArray) (h:l.Nodup):(fl l s).Nodup:=by
 unfold fl;split
 ·exact h
 ·rename_i hs
  have:s ∉ l:=ij.1 (by simpa using hs)
  rw[List.nodup_append]
  exact⟨h,by simp,λa ha b hb e=>by simp at hb;subst hb;subst e;exact this ha⟩
theorem lD:∀(names:List ByteArray) {l:List ByteArray},l.Nodup->(aF l names).Nodup
 | [],_,h=>h
 | _::t,_,h=>by rw[jd];exact lD t (vU _ h)
theorem cu (names l:List ByteArray):(aF l names).length<=l.length+names.length:=by
 obtain⟨r,h,k⟩:=qk names l
 rw[h,List.length_append];omega
theorem Cz (l:List ByteArray) (s:ByteArray):(fl l s).length<=l.length+1:=by
 obtain⟨r,h,k⟩:=tI l s
 rw[h,List.length_append];omega
end Go.Proofs.YtfcbghmbbjolcaaGreatDoor.Mt
namespace Go.Proofs.YtfcbghmbbjolcaaGreatDoor
open Go Go.RowKit Um Fm Mt
def bF (l:List Sl):List ByteArray:=(l.map (·.v)).filter λv => !v.toList.isEmpty
def cW (p:Pat):List ByteArray:=bF [p.s,p.p,p.o]
def ae (l:List Pat):List ByteArray:=aF [] (l.flatMap cW)
theorem dJ (x:Sl) (l:List Sl):bF (x::l)=(if x.v.toList.isEmpty then [] else [x.v])++bF l:=by
 unfold bF
 rw[List.map_cons,List.filter_cons]
 cases x.v.toList.isEmpty<;>simp
theorem jK (l:List Sl):(bF l).length<=l.length:=by
 unfold bF
 exact Nat.le_trans (List.length_filter_le _ _) (by simp)
theorem Cn (p:Pat):(cW p).length<=3:=jK _
theorem mg:∀l:List Pat,(l.flatMap cW).length<=3*l.length
 | []=>by simp
 | p::l=>by
  have h1:=mg l
  have h2:=Cn p
  rw[List.flatMap_cons,List.length_append,List.length_cons];omega
theorem fu (l:List Pat):(ae l).length<=3*l.length:=by
 have h1:=cu (l.flatMap cW) []
 have h2:=mg l
 unfold ae
 rw[List.length_nil]at h1;omega
theorem pz {l:List Pat} {x:ByteArray}:x∈ae l↔∃p∈l,x∈cW p:=by
 unfold ae;rw[kD];simp
theorem eT (l:List Pat):(ae l).Nodup:=lD _ List.nodup_nil
def ptV:Pt->List ByteArray
 | ⟨0,_⟩=>[]
 | ⟨_+1,(k,s,_,_)⟩=>if k == 1 then [s] else []
def eU (n:Nat) (l:List (ExT n)):List ByteArray:=aF [] ((l.flatMap (cI n)).flatMap ptV)
theorem xy (p:Pt):(ptV p).length<=1:=by
 obtain⟨n,x⟩:=p
 cases n with
 | zero=>simp[ptV]
 | succ n=>obtain⟨k,s,t,kids⟩:=x;simp only[ptV];split<;>simp
theorem qe {x:Sl} (r:List Sl) (h:x.v.toList.isEmpty=true):bF (x::r)=bF r:=by rw[dJ,h];rfl
theorem kA {x:Sl} (r:List Sl) (h:x.v.toList.isEmpty=false):bF (x::r)=x.v::bF r:=by rw[dJ,h];rfl
theorem tn:∀l:List Pt,(l.flatMap ptV).length<=l.length
 | []=>by simp
 | p::l=>by have h1:=tn l;have h2:=xy p;rw[List.flatMap_cons,List.length_append,List.length_cons];omega
theorem pB (n:Nat) (l:List (ExT n)):(eU n l).length<=(l.flatMap (cI n)).length:=by
 have h1:=cu ((l.flatMap (cI n)).flatMap ptV) []
 have h2:=tn (l.flatMap (cI n))
 rw[List.length_nil]at h1
 unfold eU;omega
end Go.Proofs.YtfcbghmbbjolcaaGreatDoor
namespace Go.Proofs.YtfcbghmbbjolcaaGreatDoor.Tx
open Go Go.RowKit Um Fm Lx
def iz (a b:Tp):Bool:=decide (cmpTp a b<0)
theorem ma (a:Tp):cmpTp a a=0:=aW.self a
theorem mz (a b:Tp):cmpTp a b<0∨a=b∨cmpTp b a<0:=by
 have h1:=aW.neg a b
 rcases Int.lt_trichotomy (cmpTp a b) 0 with h|h|h
 ·exact .inl h
 ·exact .inr (.inl (aW.zero a b h))
 ·exact .inr (.inr (by omega))
theorem B6 {a b:Tp} (h:cmpTp a b<0):¬ cmpTp b a<0:=by have:=aW.neg a b;omega
theorem B5 {a b:Tp} (h:cmpTp a b<0):a≠b:=by rintro rfl;rw[ma]at h;omega
def gX (l:List Tp):Prop:=l.Pairwise λa b=>cmpTp a b<0
theorem tc:∀{a b:List Tp},gX a->gX b->(∀t,t∈a↔t∈b)->a=b
 | [],[],_,_,_=>rfl
 | [],y::b,_,_,h=>absurd ((h y).2 (by simp)) (by simp)
 | x::a,[],_,_,h=>absurd ((h x).1 (by simp)) (by simp)
 | x::a,y::b,ha,hb,h=>by
  unfold gX at ha hb
  rw[List.pairwise_cons]at ha hb
  have hxy:x=y:=by
   rcases mz x y with h1|h1|h1
   ·have hx:=(h x).1 (by simp)
    rw[List.mem_cons]at hx
    rcases hx with rfl|hx
    ·rfl
    ·exact absurd h1 (B6 (hb.1 x hx))
   ·exact h1
   ·have hy:=(h y).2 (by simp)
    rw[List.mem_cons]at hy
    rcases hy with rfl|hy
    ·rfl
    ·exact absurd h1 (B6 (ha.1 y hy))
  subst hxy
  congr 1
  refine tc ha.2 hb.2 λt=>?_
  have ht:=h t
  rw[List.mem_cons,List.mem_cons]at ht
  constructor
  ·intro hm
   rcases ht.1 (.inr hm) with rfl|hm2
   ·exact absurd rfl (B5 (ha.1 t hm))
   ·exact hm2
  ·intro hm
   rcases ht.2 (.inr hm) with rfl|hm2
   ·exact absurd rfl (B5 (hb.1 t hm))
   ·exact hm2
def cN:List Tp->Tp->List Tp
 | [],t=>[t]
 | x::r,t=>if cmpTp x t<0 then x::cN r t else if cmpTp x t=0 then x::r else t::x::r
theorem rC (t u:Tp):∀l:List Tp,u∈cN l t↔u=t∨u∈l
 | []=>by simp[cN]
 | x::r=>by
  rw[cN]
  have ih:=rC t u r
  split
  ·rw[List.mem_cons,ih,List.mem_cons]
   constructor
   ·rintro(h|h|h)
    ·exact .inr (.inl h)
    ·exact .inl h
    ·exact .inr (.inr h)
   ·rintro(h|h|h)
    ·exact .inr (.inl h)
    ·exact .inl h
    ·exact .inr (.inr h)
  ·split
   ·next h =>
    have:=aW.zero _ _ h
    subst this
    rw[List.mem_cons]
    constructor
    ·exact λh=>.inr h
    ·rintro(h|h)
     ·exact .inl h
     ·exact h
   ·rw[List.mem_cons]
theorem uc (t:Tp):∀l:List Tp,gX l->gX (cN l t)
 | [],_=>by simp[cN,gX]
 | x::r,h=>by
  unfold gX at h ⊢
  rw[cN]
  have hc:=List.pairwise_cons.1 h
  split
  ·next h1 =>
   rw[List.pairwise_cons]
   refine⟨λu hu=>?_,uc t r hc.2⟩
   rw[rC]at hu
   rcases hu with rfl|hu
   ·exact h1
   ·exact hc.1 u hu
  ·split
   ·exact h
   ·next h1 h2 =>
    have h3:cmpTp t x<0:=by
     rcases mz x t with h4|h4|h4
     ·exact absurd h4 h1
     ·exact absurd (by rw[h4];exact ma t) h2
     ·exact h4
    rw[List.pairwise_cons]
    refine⟨λu hu=>?_,h⟩
    rw[List.mem_cons]at hu
    rcases hu with rfl|hu
    ·exact h3
    ·exact aW.tr _ _ _ h3 (hc.1 u hu)
def aS (l:List Tp):List Tp:=l.foldl cN []
theorem o9:∀(l out:List Tp),gX out->gX (l.foldl cN out)/\∀u,u∈l.foldl cN out↔u∈out∨u∈l
 | [],out,h=>⟨h,λu=>by simp⟩
 | t::l,out,h=>by
  obtain⟨h1,h2⟩:=o9 l (cN out t) (uc t out h)
  refine⟨h1,λu=>?_⟩
  rw[List.foldl_cons,h2,rC,List.mem_cons]
  constructor
  ·rintro((h|h)|h)
   ·exact .inr (.inl h)
   ·exact .inl h
   ·exact .inr (.inr h)
  ·rintro(h|h|h)
   ·exact .inl (.inr h)
   ·exact .inl (.inl h)
   ·exact .inr h
theorem sV (l:List Tp):gX (aS l):=(o9 l [] (by simp[gX])).1
theorem me (l:List Tp) (u:Tp):u∈aS l↔u∈l:=by
 have:=(o9 l [] (by simp[gX])).2 u
 unfold aS
 simpa using this
def aj:List Tp->List Tp
 | []=>[]
 | [x]=>[x]
 | x::y::r=>if cmpTp x y=0 then aj (y::r) else x::aj (y::r)
theorem uF (u:Tp):∀l:List Tp,u∈aj l↔u∈l:=by
 intro l
 induction l using aj.induct with
 | case1=>simp[aj]
 | case2 x=>simp[aj]
 | case3 x y r h ih =>
  rw[aj,if_pos h,ih]
  have:=aW.zero _ _ h
  subst this
  simp
 | case4 x y r h ih =>
  rw[aj,if_neg h,List.mem_cons,ih,List.mem_cons (a:=u) (b:=x)]
theorem AB:∀l:List Tp,l.Pairwise (λa b=>cmpTp a b<=0)->gX (aj l):=by
 intro l
 induction l using aj.induct with
 | case1=>intro _;simp[aj,gX]
 | case2 x=>intro _;simp[aj,gX]
 | case3 x y r h ih =>
  intro hp
  rw[aj,if_pos h]
  exact ih (List.pairwise_cons.1 hp).2
 | case4 x y r h ih =>
  intro hp
  have hc:=List.pairwise_cons.1 hp
  rw[aj,if_neg h]
  unfold gX
  rw[List.pairwise_cons]
  refine⟨λu hu=>?_,ih hc.2⟩
  rw[uF]at hu
  have hxy:cmpTp x y<0:=by have:=hc.1 y (by simp);omega
  rw[List.mem_cons]at hu
  rcases hu with rfl|hu
  ·exact hxy
  ·have h2:=(List.pairwise_cons.1 hc.2).1 u hu
   rcases Int.lt_or_eq_of_le h2 with h3|h3
   ·exact aW.tr _ _ _ hxy h3
   ·rw[←aW.zero _ _ h3];exact hxy
theorem DV {l m:List Tp} (hm:∀u,u∈m↔u∈l) (hs:m.Pairwise λa b=>cmpTp a b<=0):aj m=aS l:=
 tc (AB m hs) (sV l) λt=>by rw[uF,me,hm]
theorem kW (y x:Tp):∀l:List Tp,aj (l++[y]++[x])=aj (l++[y])++(if cmpTp y x=0 then [] else [x])
 | []=>by
  have e1:aj ([]++[y]++[x])=if cmpTp y x=0 then [x] else y::[x]:=rfl
  rw[e1]
  by_cases h:cmpTp y x=0
  ·rw[if_pos h,if_pos h,aW.zero _ _ h]
   rfl
  ·rw[if_neg h,if_neg h]
   rfl
 | [a]=>by
  have ih:=kW y x []
  have e1:aj ([a]++[y]++[x])=if cmpTp a y=0 then aj ([]++[y]++[x]) else a::aj ([]++[y]++[x]):=rfl
  have e2:aj ([a]++[y])=if cmpTp a y=0 then aj ([]++[y]) else a::aj ([]++[y]):=rfl
  rw[e1,e2,ih]
  by_cases h:cmpTp a y=0
  ·rw[if_pos h,if_pos h]
  ·rw[if_neg h,if_neg h]
   rfl
 | a::b::l=>by
  have ih:=kW y x (b::l)
  have e1:aj (a::b::l++[y]++[x])=if cmpTp a b=0 then aj (b::l++[y]++[x]) else a::aj (b::l++[y]++[x]):=rfl
  have e2:aj (a::b::l++[y])=if cmpTp a b=0 then aj (b::l++[y]) else a::aj (b::l++[y]):=rfl
  rw[e1,e2,ih]
  by_cases h:cmpTp a b=0
  ·rw[if_pos h,if_pos h]
  ·rw[if_neg h,if_neg h]
   rfl
theorem yP (l:List Tp):(l.mergeSort λx y => !iz y x).Pairwise λa b=>cmpTp a b<=0:=by
 have h:=List.pairwise_mergeSort (le:=λx y => !iz y x) (λa b c h1 h2=>by
  unfold iz at h1 h2 ⊢
  simp only[Bool.not_eq_true',decide_eq_false_iff_not]at h1 h2 ⊢
  have n1:=aW.neg a b;have n2:=aW.neg b c;have n3:=aW.neg a c
  have:=aW.le (a:=a) (b:=b) (c:=c) (by omega) (by omega)
  omega) (λa b=>by
  unfold iz
  simp only[Bool.or_eq_true,Bool.not_eq_true',decide_eq_false_iff_not]
  have n1:=aW.neg a b
  omega) l
 refine h.imp λ{a b} hab=>?_
 unfold iz at hab
 simp only[Bool.not_eq_true',decide_eq_false_iff_not]at hab
 have n1:=aW.neg a b
 omega
theorem Bi (l:List Tp) (u:Tp):u∈(l.mergeSort λx y => !iz y x)↔u∈l:=List.mem_mergeSort
theorem Bq (l:List Tp):aj (l.mergeSort λx y => !iz y x)=aS l:=DV (Bi l) (yP l)
theorem xL (t:Tp):∀l:List Tp,(cN l t).length<=l.length+1
 | []=>by simp[cN]
 | x::r=>by
  rw[cN]
  have:=xL t r
  split
  ·simp;omega
  ·split<;>simp
theorem set_len (l:List Tp):(aS l).length<=l.length:=by
 have h:∀(l out:List Tp),(l.foldl cN out).length<=out.length+l.length:=by
  intro l
  induction l with
  | nil=>intro out;exact Nat.le_refl _
  | cons t l ih =>
   intro out
   rw[List.foldl_cons]
   have h1:=ih (cN out t)
   have h2:=xL t out
   rw[List.length_cons]
   omega
 have:=h l []
 simpa[aS] using this
theorem AA {l:List Tp} {m:Nat} {y x:Tp} (hy:l[m]?=some y) (hx:l[m+1]?=some x):aj (l.take (m+2))=aj (l.take (m+1))++(if cmpTp y x=0 then [] else [x]):=by
 have e1:l.take (m+1)=l.take m++[y]:=by rw[List.take_add_one,hy];rfl
 have e2:l.take (m+2)=l.take m++[y]++[x]:=by rw[show m+2=(m+1)+1 by omega,List.take_add_one,hx,e1];rfl
 rw[e2,e1,kW]
theorem wL (l:List Tp):aj (l.take 1)=l.take 1:=by
 cases l with
 | nil=>rfl
 | cons x r=>rfl
def eF (l out:List Tp):List Tp:=out++l.drop out.length
theorem EO {l out:List Tp} {x:Tp} (h:out.length<l.length):(eF l out).set out.length x=eF l (out++[x]):=by
 unfold eF
 rw[List.set_append_right _ _ (Nat.le_refl _),Nat.sub_self,List.length_append,List.length_cons,List.length_nil,List.append_assoc,Nat.zero_add,List.drop_eq_getElem_cons h]
 rfl
theorem xo {l out:List Tp} {j:Nat} (h:out.length<=j):(eF l out)[j]?=l[j]?:=by
 unfold eF
 rw[List.getElem?_append_right h,List.getElem?_drop]
 congr 1
 omega
theorem jz {l out:List Tp} (h:out.length<=l.length):(eF l out).length=l.length:=by
 unfold eF
 rw[List.length_append,List.length_drop]
 omega
theorem BG (l out:List Tp):(eF l out).take out.length=out:=by unfold eF;exact List.take_left' rfl
end Go.Proofs.YtfcbghmbbjolcaaGreatDoor.Tx
namespace Go.Proofs.YtfcbghmbbjolcaaGreatDoor
open Go Go.RowKit Um Fm Mt Tx Om
namespace Mn
abbrev Bd:=ByteArray->Option Tm
def noB:Bd:=λ_=>none
def oW (β:Bd) (s:ByteArray) (t:Tm):Bd:=λx=>if x=s then some t else β x
def b1 (β:Bd) (x:Sl) (t:Tm):Option Bd:=
 if x.v.toList.isEmpty then (if x.t=t then some β else none)
 else match β x.v with
  | some o=>if o=t then some β else none
  | none=>some (oW β x.v t)
def b3 (β:Bd) (p:Pat) (t:Tp):Option Bd:=(b1 β p.s t.s).bind λβ=>(b1 β p.p t.p).bind λβ=>b1 β p.o t.o
def dfs (set:List Tp):List Pat->Bd->List Bd
 | [],β=>[β]
 | p::ps,β=>set.flatMap λt=>match b3 β p t with
  | none=>[]
  | some β'=>dfs set ps β'
def AT (σ:ByteArray->Tm) (x:Sl):Tm:=if x.v.toList.isEmpty then x.t else σ x.v
def zJ (σ:ByteArray->Tm) (p:Pat):Tp:=⟨AT σ p.s,AT σ p.p,AT σ p.o⟩
def Agr (σ:ByteArray->Tm) (β:Bd):Prop:=∀s t,β s=some t->σ s=t
theorem IL (σ:ByteArray->Tm):Agr σ noB:=λ_ _ h=>by cases h
theorem kY {β:Bd} {x:Sl} {t:Tm} {σ:ByteArray->Tm}:(∃β',b1 β x t=some β'/\Agr σ β')↔Agr σ β/\AT σ x=t:=by
 unfold b1 AT
 by_cases he:x.v.toList.isEmpty=true
 ·rw[if_pos he,if_pos he]
  by_cases ht:x.t=t
  ·rw[if_pos ht]
   constructor
   ·rintro⟨β',h,ha⟩;injection h with h;subst h;exact⟨ha,ht⟩
   ·rintro⟨ha,_⟩;exact⟨β,rfl,ha⟩
  ·rw[if_neg ht]
   constructor
   ·rintro⟨β',h,_⟩;cases h
   ·rintro⟨_,h⟩;exact absurd h ht
 ·rw[if_neg he,if_neg he]
  cases hb:β x.v with
  | some o =>
   simp only
   by_cases ho:o=t
   ·rw[if_pos ho]
    constructor
    ·rintro⟨β',h,ha⟩;injection h with h;subst h;exact⟨ha,(ha _ _ hb).trans ho⟩
    ·rintro⟨ha,_⟩;exact⟨β,rfl,ha⟩
   ·rw[if_neg ho]
    constructor
    ·rintro⟨β',h,_⟩;cases h
    ·rintro⟨ha,h⟩;exact absurd ((ha _ _ hb).symm.trans h) ho
  | none =>
   simp only
   constructor
   ·rintro⟨β',h,ha⟩
    injection h with h;subst h
    refine⟨λs u hs=>ha s u ?_,ha x.v t (by unfold oW;rw[if_pos rfl])⟩
    unfold oW
    rw[if_neg (by rintro rfl;rw[hb]at hs;cases hs)];exact hs
   ·rintro⟨ha,hv⟩
    refine⟨_,rfl,λs u hs=>?_⟩
    unfold oW at hs
    split at hs
    ·next h=>subst h;injection hs with hs;rw[hv,hs]
    ·exact ha s u hs
theorem kX {β:Bd} {p:Pat} {t:Tp} {σ:ByteArray->Tm}:(∃β',b3 β p t=some β'/\Agr σ β')↔Agr σ β/\zJ σ p=t:=by
 unfold b3 zJ
 constructor
 ·rintro⟨β',h,ha⟩
  rw[Option.bind_eq_some_iff]at h
  obtain⟨β1,h1,h⟩:=h
  rw[Option.bind_eq_some_iff]at h
  obtain⟨β2,h2,h3⟩:=h
  obtain⟨a2,e3⟩:=kY.1 ⟨_,h3,ha⟩
  obtain⟨a1,e2⟩:=kY.1 ⟨_,h2,a2⟩
  obtain⟨a0,e1⟩:=kY.1 ⟨_,h1,a1⟩
  exact⟨a0,by rw[e1,e2,e3]⟩
 ·rintro⟨a0,e⟩
  subst e
  obtain⟨β1,h1,a1⟩:=kY.2 ⟨a0,rfl⟩
  obtain⟨β2,h2,a2⟩:=kY.2 ⟨a1,rfl⟩
  obtain⟨β3,h3,a3⟩:=kY.2 ⟨a2,rfl⟩
  exact⟨β3,by rw[h1,Option.bind_some,h2,Option.bind_some];exact h3,a3⟩
theorem io {set:List Tp} {σ:ByteArray->Tm}:∀{ps:List Pat} {β:Bd},(∃β'∈dfs set ps β,Agr σ β')↔Agr σ β/\∀p∈ps,zJ σ p∈set
 | [],β=>by simp[dfs]
 | p::ps,β=>by
  rw[dfs]
  constructor
  ·rintro⟨β',h,ha⟩
   rw[List.mem_flatMap]at h
   obtain⟨t,ht,h⟩:=h
   cases hb:b3 β p t with
   | none=>rw[hb]at h;cases h
   | some β1 =>
    rw[hb]at h
    obtain⟨a1,hq⟩:=io.1 ⟨β',h,ha⟩
    obtain⟨a0,e⟩:=kX.1 ⟨β1,hb,a1⟩
    refine⟨a0,λq hq'=>?_⟩
    rw[List.mem_cons]at hq'
    rcases hq' with rfl|hq'
    ·rw[e];exact ht
    ·exact hq q hq'
  ·rintro⟨a0,hq⟩
   obtain⟨β1,hb,a1⟩:=kX.2 ⟨a0,rfl⟩
   obtain⟨β',h,ha⟩:=io.2 ⟨a1,λq h=>hq q (List.mem_cons_of_mem _ h)⟩
   refine⟨β',?_,ha⟩
   rw[List.mem_flatMap]
   exact⟨zJ σ p,hq p (by simp),by rw[hb];exact h⟩
theorem wQ {β β':Bd} {x:Sl} {t:Tm} (h:b1 β x t=some β') (s:ByteArray):(β' s).isSome=true↔(β s).isSome=true∨s∈bF [x]:=by
 unfold b1 at h
 by_cases he:x.v.toList.isEmpty=true
 ·rw[if_pos he]at h
  split at h
  ·injection h with h;subst h;rw[qe [] he];simp[bF]
  ·cases h
 ·rw[if_neg he]at h
  have ho:bF [x]=[x.v]:=by rw[kA [] (by simpa using he)];rfl
  rw[ho,List.mem_singleton]
  cases hb:β x.v with
  | some o =>
   rw[hb]at h
   simp only at h
   split at h
   ·injection h with h;subst h
    exact⟨.inl,λh=>h.elim id λh=>by rw[h,hb];rfl⟩
   ·cases h
  | none =>
   rw[hb]at h
   simp only at h
   injection h with h;subst h
   unfold oW
   split
   ·next h=>exact⟨λ_=>.inr h,λ_=>rfl⟩
   ·next h=>exact⟨.inl,λk=>k.elim id λk=>absurd k h⟩
theorem cV (p:Pat) (s:ByteArray):s∈cW p↔(s∈bF [p.s]∨s∈bF [p.p])∨s∈bF [p.o]:=by
 unfold cW
 rw[dJ p.s [p.p,p.o],dJ p.p [p.o],dJ p.s [],dJ p.p []]
 have:bF []=[]:=rfl
 rw[this]
 simp only[List.mem_append,List.append_nil,or_assoc]
theorem Eb {β β':Bd} {p:Pat} {t:Tp} (h:b3 β p t=some β') (s:ByteArray):(β' s).isSome=true↔(β s).isSome=true∨s∈cW p:=by
 unfold b3 at h
 rw[Option.bind_eq_some_iff]at h
 obtain⟨β1,h1,h⟩:=h
 rw[Option.bind_eq_some_iff]at h
 obtain⟨β2,h2,h3⟩:=h
 rw[wQ h3,wQ h2,wQ h1,cV]
 simp only[or_assoc]
theorem xX {set:List Tp}:∀{ps:List Pat} {β β':Bd},β'∈dfs set ps β->∀s,(β' s).isSome=true↔(β s).isSome=true∨s∈ps.flatMap cW
 | [],β,β',h,s=>by
  rw[dfs,List.mem_singleton]at h;subst h;simp
 | p::ps,β,β',h,s=>by
  rw[dfs,List.mem_flatMap]at h
  obtain⟨t,_,h⟩:=h
  cases hb:b3 β p t with
  | none=>rw[hb]at h;cases h
  | some β1 =>
   rw[hb]at h
   rw[xX h,Eb hb,List.flatMap_cons,List.mem_append,or_assoc]
def Apart (a b:Bd):Prop:=∀σ,Agr σ a->¬ Agr σ b
theorem qA {set:List Tp} (hn:set.Nodup):∀(ps:List Pat) (β:Bd),(dfs set ps β).Pairwise Apart
 | [],β=>by simp[dfs]
 | p::ps,β=>by
  rw[dfs,List.pairwise_flatMap]
  refine⟨λt _=>?_,?_⟩
  ·split
   ·exact List.Pairwise.nil
   ·exact qA hn ps _
  ·refine List.Pairwise.imp ?_ hn
   intro t u htu a ha b hb σ sa sb
   cases h1:b3 β p t with
   | none=>rw[h1]at ha;cases ha
   | some β1 =>
    cases h2:b3 β p u with
    | none=>rw[h2]at hb;cases hb
    | some β2 =>
     rw[h1]at ha;rw[h2]at hb
     have e1:=(kX.1 ⟨β1,h1,(io.1 ⟨a,ha,sa⟩).1⟩).2
     have e2:=(kX.1 ⟨β2,h2,(io.1 ⟨b,hb,sb⟩).1⟩).2
     exact htu (e1.symm.trans e2)
def toS (β:Bd):ByteArray->Tm:=λs=>(β s).getD zTm
def ej (vars:List ByteArray) (β:Bd):List Tm:=vars.map (toS β)
theorem rS (β:Bd):Agr (toS β) β:=λs t h=>by unfold toS;rw[h];rfl
theorem rT {vars:List ByteArray} {β:Bd} {σ:ByteArray->Tm} (hd:∀s,(β s).isSome=true↔s∈vars):Agr σ β↔vars.map σ=ej vars β:=by
 unfold ej toS
 constructor
 ·intro h
  refine List.map_congr_left λs hs=>?_
  obtain⟨t,ht⟩:=Option.isSome_iff_exists.1 ((hd s).2 hs)
  rw[h s t ht,ht];rfl
 ·intro h s t hs
  have hm:=(hd s).1 (by rw[hs];rfl)
  have:=List.map_inj_left.1 h s hm
  rw[this,hs];rfl
def dy (set:List Tp) (ps:List Pat):List (List Tm):=(dfs set ps noB).map (ej (ae ps))
def Sol (vars:List ByteArray) (set:List Tp) (ps:List Pat) (r:List Tm):Prop:=∃σ:ByteArray->Tm,r=vars.map σ/\∀p∈ps,zJ σ p∈set
theorem rL {set:List Tp} {ps:List Pat} {β:Bd} (h:β∈dfs set ps noB) (s:ByteArray):(β s).isSome=true↔s∈ae ps:=by
 rw[xX h]
 unfold ae
 rw[kD]
 simp[noB]
theorem sR {set:List Tp} {ps:List Pat} {r:List Tm}:r∈dy set ps↔Sol (ae ps) set ps r:=by
 unfold dy Sol
 rw[List.mem_map]
 constructor
 ·rintro⟨β,hb,rfl⟩
  exact⟨toS β,rfl,(io.1 ⟨β,hb,rS β⟩).2⟩
 ·rintro⟨σ,rfl,h⟩
  obtain⟨β,hb,ha⟩:=io.2 ⟨IL σ,h⟩
  exact⟨β,hb,((rT (rL hb)).1 ha).symm⟩
theorem vB {set:List Tp} (hn:set.Nodup) (ps:List Pat):(dy set ps).Nodup:=by
 unfold dy
 unfold List.Nodup
 rw[List.pairwise_map]
 refine List.Pairwise.imp_of_mem ?_ (qA hn ps noB)
 intro a b ha hb hab he
 refine hab (toS a) (rS a) ?_
 rw[rT (rL hb)]
 exact he
theorem mJ {set:List Tp} {ps:List Pat} {r:List Tm} (h:r∈dy set ps):r.length=(ae ps).length:=by
 unfold dy at h
 obtain⟨β,_,rfl⟩:=List.mem_map.1 h
 simp[ej]
theorem vG {l:List Tp} (h:gX l):l.Nodup:=List.Pairwise.imp (λh=>B5 h) h
def lZ (x:Sl) (t:Tm):Bool:=!x.v.toList.isEmpty || decide (x.t=t)
def wm (p:Pat) (t:Tp):Bool:=lZ p.s t.s && lZ p.p t.p && lZ p.o t.o
def ck (set:List Tp) (p:Pat):Nat:=set.countP (wm p)
def aP (set:List Tp):List Pat->Nat
 | []=>1
 | p::ps=>max (ck set p) 1*aP set ps
theorem wP {β β':Bd} {x:Sl} {t:Tm} (h:b1 β x t=some β'):lZ x t=true:=by
 unfold b1 at h
 unfold lZ
 by_cases he:x.v.toList.isEmpty=true
 ·rw[if_pos he]at h
  split at h
  ·next hx=>rw[decide_eq_true hx,Bool.or_true]
  ·cases h
 ·simp[he]
theorem Ea {β β':Bd} {p:Pat} {t:Tp} (h:b3 β p t=some β'):wm p t=true:=by
 unfold b3 at h
 rw[Option.bind_eq_some_iff]at h
 obtain⟨β1,h1,h⟩:=h
 rw[Option.bind_eq_some_iff]at h
 obtain⟨β2,h2,h3⟩:=h
 unfold wm
 rw[wP h1,wP h2,wP h3];rfl
theorem mn {α β:Type} (f:α->List β) (q:α->Bool) (K:Nat) (h:∀t,(f t).length<=if q t=true then K else 0):∀l:List α,(l.flatMap f).length<=l.countP q*K
 | []=>by simp
 | t::l=>by
  have ih:=mn f q K h l
  have ht:=h t
  rw[List.flatMap_cons,List.length_append,List.countP_cons,Nat.add_mul]
  cases hq:q t<;>rw[hq]at ht<;>simp only[if_true,if_false,Bool.false_eq_true]at ht ⊢<;>omega
theorem pW (set:List Tp):∀ps,1<=aP set ps
 | []=>Nat.le_refl _
 | p::ps=>by
  have h1:=pW set ps
  have h2:1<=max (ck set p) 1:=by omega
  exact Nat.mul_le_mul h2 h1
theorem rK (set:List Tp):∀(ps:List Pat) (β:Bd),(dfs set ps β).length<=aP set ps
 | [],β=>by simp[dfs,aP]
 | p::ps,β=>by
  rw[dfs,aP]
  refine Nat.le_trans (mn _ (wm p) (aP set ps) (λt=>?_) set) (Nat.mul_le_mul_right _ (by unfold ck;omega))
  cases hb:b3 β p t with
  | none=>simp
  | some β1=>rw[if_pos (Ea hb)];exact rK set ps β1
theorem ic (set:List Tp):∀(a b:List Pat),aP set (a++b)=aP set a*aP set b
 | [],b=>by simp[aP]
 | p::a,b=>by rw[List.cons_append,aP,aP,ic set a b,Nat.mul_assoc]
theorem fR (set:List Tp) (ps:List Pat) (k:Nat):aP set (ps.take k)<=aP set ps:=by
 conv=>rhs;rw[←List.take_append_drop k ps]
 rw[ic]
 exact Nat.le_mul_of_pos_right _ (pW set _)
theorem xM (q:Tp->Bool) (t:Tp):∀l:List Tp,(cN l t).countP q<=l.countP q+(if q t=true then 1 else 0)
 | []=>by simp[cN]
 | x::r=>by
  have ih:=xM q t r
  rw[cN]
  split
  ·rw[List.countP_cons,List.countP_cons];omega
  ·split
   ·omega
   ·rw[List.countP_cons];exact Nat.le_refl _
theorem um (q:Tp->Bool):∀(l out:List Tp),(l.foldl cN out).countP q<=out.countP q+l.countP q
 | [],out=>by simp
 | t::l,out=>by
  have h1:=um q l (cN out t)
  have h2:=xM q t out
  rw[List.foldl_cons,List.countP_cons];omega
theorem xj (l:List Tp) (p:Pat):ck (aS l) p<=ck l p:=by
 have:=um (wm p) l []
 unfold ck aS
 simpa using this
theorem mW {a b:List Tp} (h:∀p,ck a p<=ck b p):∀ps,aP a ps<=aP b ps
 | []=>Nat.le_refl _
 | p::ps=>Nat.mul_le_mul (by have:=h p;omega) (mW h ps)
def fm (set:List Tp):List Pat->Nat->Bool
 | [],_=>false
 | p::ps,m=>if 1500<m*max (ck set p) 1 then true else fm set ps (m*max (ck set p) 1)
theorem uf (set:List Tp):∀(ps:List Pat) (m:Nat),fm set ps m=false->m<=1500->m*aP set ps<=1500
 | [],m,_,hm=>by simpa[aP] using hm
 | p::ps,m,h,hm=>by
  rw[fm]at h
  split at h
  ·cases h
  ·next h1 =>
   have:=uf set ps _ h (by omega)
   rw[aP,←Nat.mul_assoc];exact this
theorem Df {set:List Tp} {ps:List Pat} (h:fm set ps 1=false):aP set ps<=1500:=by
 have:=uf set ps 1 h (by omega)
 omega
def bi (set:List Tp) (ps:List Pat):List (List Tm):=fB [] (dy (aS set) ps)
theorem dE (set:List Tp) (ps:List Pat):(bi set ps).Perm (dy (aS set) ps):=List.mergeSort_perm _ _
theorem xg {vars:List ByteArray} {set:List Tp} {ps:List Pat} {r:List Tm}:Sol vars (aS set) ps r↔Sol vars set ps r:=by
 unfold Sol;simp only[me]
theorem Bl {set:List Tp} {ps:List Pat} {r:List Tm}:r∈bi set ps↔Sol (ae ps) set ps r:=by
 rw[(dE set ps).mem_iff,sR,xg]
theorem mI {set:List Tp} {ps:List Pat} {r:List Tm} (h:r∈bi set ps):r.length=(ae ps).length:=mJ ((dE set ps).mem_iff.1 h)
theorem sQ (set:List Tp) (ps:List Pat):(dy (aS set) ps).length<=aP set ps:=by
 unfold dy
 rw[List.length_map]
 exact Nat.le_trans (rK _ _ _) (mW (xj set) ps)
theorem sO (set:List Tp) (ps:List Pat):(bi set ps).length<=aP set ps:=by
 rw[(dE set ps).length_eq];exact sQ set ps
end Mn
end Go.Proofs.YtfcbghmbbjolcaaGreatDoor
