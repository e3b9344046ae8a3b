/- The program's package order, walked: (*worker).sorted. The p -/
import Derived.Test.YtoaemihcbmlkgaaGreatDoorJFilOf
set_option maxHeartbeats 8000000
set_option maxRecDepth 100000
namespace Go.Proofs.YtoaemihcbmlkgaaGreatDoor
open Go Go.RowKit Fm Tx Om Mp
def sortN (vars:List ByteArray) (keys:List Ky):Int:=if (placesL vars (keys.map (·.v))).contains (-1) then 15 else 0
def sortL (vars:List ByteArray) (keys:List Ky) (rows:List (List Tm)):List (List Tm):=if (placesL vars (keys.map (·.v))).contains (-1) then rows else sortK (keysP (placesL vars (keys.map (·.v))) keys) rows
theorem places_in {vars:List ByteArray} {names:List ByteArray} (h:(placesL vars names).contains (-1)=false):∀p∈placesL vars names,0<=p/\p<vars.length:=by
 intro p hp
 have hne:p ≠ -1:=λe=>by
  subst e
  rw[List.contains_iff_mem.2 hp]at h;cases h
 obtain⟨s,_,rfl⟩:=List.mem_map.1 hp
 have:=idxOfS_lt vars s
 omega
def projL (ps:List Int) (row:List Tm):List Tm:=ps.map λp=>row[p.toNat]!
def projN (vars names:List ByteArray):Int:=if !decide names.Nodup then 9 else if (placesL vars names).contains (-1) then 15 else 0
def keepL (vars:List ByteArray) (nf:Nat) (fils:List (ExT nf)) (rows:List (List Tm)):List (List Tm):=rows.filter λr => !failsI vars r nf fils
def subG (sz c q:Nat) (A:Option Addr):Option Addr:=if c=q then A else A.map (·.add (q*sz))
section
variable {P:Program} {T E:TypeId} {sz:Nat}
theorem run_fromG (hT:P.underlying T=some (.slice E)) (hs:∀w,(sizeOf E).run P w=.ok sz w) (A:Option Addr) (c q M:Nat) (hq:q<=M) (W:World) :
  (Instr.slice T (.slice A M c) (some (.int .i64 (q:Int))) none none).run P W=.ok (.slice (subG sz c q A) (M-q) (c-q)) W:=by
 have h1:(0:Int)<=(q:Int)/\(q:Int)<=(M:Int):=by omega
 unfold subG
 simp[Instr.slice,run_underlying hT,Instr.sliceBounds,Instr.sliceBound,asIntOf,h1,hs]
 intro h;omega
theorem run_toG (hT:P.underlying T=some (.slice E)) (hs:∀w,(sizeOf E).run P w=.ok sz w) (A:Option Addr) (c q M:Nat) (hq:q<=c) (W:World) :
  (Instr.slice T (.slice A M c) none (some (.int .i64 (q:Int))) none).run P W=.ok (.slice A q c) W:=by
 have h1:(0:Int)<=(q:Int)/\(q:Int)<=(c:Int):=by omega
 have hA:A.map (λx=>x.add 0)=A:=by
  cases A with
  | none=>rfl
  | some a=>simp[Addr.add]
 simp[Instr.slice,run_underlying hT,Instr.sliceBounds,Instr.sliceBound,asIntOf,h1,hs,hA]
 intro h;omega
end
theorem Rd.fromG {w:World} {A:Option Addr} {xs:List Value} {sz n c q:Nat} (h:Rd w A xs) (hx:xs.length=n*sz) (hn:n<=c) (hq:q<=n):Rd w (subG sz c q A) (xs.drop (q*sz)):=by
 unfold subG
 split
 ·next he =>
  obtain rfl:q=n:=by omega
  rw[List.drop_of_length_le (by omega)];exact .inl rfl
 ·rcases h with h0|⟨g,o,rfl,hc⟩
  ·subst h0;exact .inl (by simp)
  ·refine .inr ⟨g,o+q*sz,by rw[Option.map_some,Addr.add_mid],λj u hu=>?_⟩
   rw[Nat.add_assoc]
   exact hc _ _ (by rw[List.getElem?_drop]at hu;exact hu)
theorem RdL.fromG {α:Type} {sz:Nat} {R:List Value->α->Prop} {w:World} {A:Option Addr} {l:List α} {c q:Nat} (h:RdL sz R w A l) (hn:l.length<=c) (hq:q<=l.length):RdL sz R w (subG sz c q A) (l.drop q):=by
 obtain⟨xs,h1,h2⟩:=h
 exact⟨_,h1.fromG h2.len hn hq,h2.drop q⟩
def cutL (off lim:Int) (rows:List (List Tm)):List (List Tm):=if lim = -1 then rows.drop off.toNat else (rows.drop off.toNat).take lim.toNat
theorem results_row_tmp {P:Program} {fn:Func} {p u:Tmp} {ty:TypeId} (h:fn.results=#[.cell p ty,.tmp u]) (tmps:Array Value) (w:World) (g:Nat) (t:TypeId) (cs:Array Value) (fr:Nat × Nat) (d:TypeDesc) (v:Value)
  (hp:tmps.getD p undef=.pointer (some ⟨g,0,none⟩)) (hg:w.heap[g]?=some (Obj.cells cs t fr)) (hu:P.underlying ty=some d) (hd:(match d with | .struct _ | .array _ _=>true|_=>false)=true) (hi:(P.info? ty).map (·.size)=some cs.size) (hv:tmps.getD u undef=v) :
  (results fn tmps).run P w=.ok (.tuple #[.agg cs,v]) w:=by
 rw[results_cell_tmp h,hp,hv]
 simp[asAddr,Result.andThen,run_loadVar_row w g t ty cs fr d hg hu hd hi]
theorem right_rows {vars:List ByteArray} {rows:List (List Tm)} (h:rightT vars rows=true):∀r∈rows,r.length=vars.length:=by
 unfold rightT at h
 simp only[Bool.and_eq_true,Bool.not_eq_true',List.any_eq_false]at h
 intro r hr
 have:=h.2 r hr
 simpa using this
section
variable {w:World} {A B:Option Addr} {n c m d:Nat} {vars:List ByteArray} {rows:List (List Tm)}
end
section
variable {w:World} {A B:Option Addr} {n c m d:Nat} {vars:List ByteArray} {rows:List (List Tm)}
end
theorem keep_mem {vars:List ByteArray} {nf:Nat} {fils:List (ExT nf)} {rows:List (List Tm)} {r:List Tm} (h:r∈keepL vars nf fils rows):r∈rows:=(List.mem_filter.1 h).1
theorem keep_len (vars:List ByteArray) (nf:Nat) (fils:List (ExT nf)) (rows:List (List Tm)):(keepL vars nf fils rows).length<=rows.length:=List.length_filter_le _ _
theorem sortL_perm (vars:List ByteArray) (keys:List Ky) (rows:List (List Tm)):(sortL vars keys rows).Perm rows:=by
 unfold sortL
 split
 ·exact List.Perm.refl _
 ·exact List.mergeSort_perm _ _
theorem cmpRow_drop {a b:List Tm} {k:Nat} {x y:Tm} (hx:a[k]?=some x) (hy:b[k]?=some y):cmpRow (a.drop k) (b.drop k)=orZ (cmpTm x y) (cmpRow (a.drop (k+1)) (b.drop (k+1))):=by
 obtain⟨hl,e⟩:=List.getElem?_eq_some_iff.1 hx
 obtain⟨hl2,e2⟩:=List.getElem?_eq_some_iff.1 hy
 rw[List.drop_eq_getElem_cons hl,List.drop_eq_getElem_cons hl2,e,e2]
 rfl
theorem keep_step {vars:List ByteArray} {nf:Nat} {fils:List (ExT nf)} {rows:List (List Tm)} {r:List Tm} {k:Nat} (h:rows[k]?=some r):keepL vars nf fils (rows.take (k+1))=keepL vars nf fils (rows.take k)++(if failsI vars r nf fils then [] else [r]):=by
 unfold keepL
 rw[List.take_add_one,h,List.filter_append]
 congr 1
 cases hf:failsI vars r nf fils<;>simp[hf]
def ans3 (vars names:List ByteArray) (nf:Nat) (fils:List (ExT nf)) (keys:List Ky) (rows:List (List Tm)):List ByteArray × List (List Tm):=if projN vars names=0 then (names,(sortL vars keys (keepL vars nf fils rows)).map (projL (placesL vars names))) else (vars,sortL vars keys (keepL vars nf fils rows))
def ans4 (vars names:List ByteArray) (nf:Nat) (fils:List (ExT nf)) (keys:List Ky) (dist:Bool) (rows:List (List Tm)):List (List Tm):=if dist then onceL (ans3 vars names nf fils keys rows).2 else (ans3 vars names nf fils keys rows).2
theorem once_len {α:Type} [DecidableEq α] (l:List α):(onceL l).length<=l.length:=by
 have h1:∀(acc:List α) (r:α),(onceF acc r).length<=acc.length+1:=λacc r=>by
  unfold onceF
  split<;>simp
 have h2:∀(l acc:List α),(l.foldl onceF acc).length<=acc.length+l.length:=by
  intro l
  induction l with
  | nil=>intro acc;simp
  | cons x l ih =>
   intro acc
   have:=ih (onceF acc x)
   have:=h1 acc x
   simp only[List.foldl_cons,List.length_cons]
   omega
 have:=h2 l []
 simpa[onceL] using this
section
variable {w:World} {A B:Option Addr} {n c m d:Nat} {vars:List ByteArray} {rows:List (List Tm)}
end
theorem idx_is:∀{vars:List ByteArray} {k:Nat} {x:ByteArray},vars[k]?=some x->x ∉ vars.take k->Lib.idxOfS vars x=(k:Int)
 | [],_,_,h,_=>by simp at h
 | z::zs,0,x,h,_=>by
  have hz:z=x:=by simpa using h
  subst hz
  unfold Lib.idxOfS Lib.idxFromS
  simp
 | z::zs,k+1,x,h,hm=>by
  rw[List.take_succ_cons,List.mem_cons,_root_.not_or]at hm
  rw[idxOfS_cons _ _ _ (λe=>hm.1 e.symm),idx_is (vars:=zs) (k:=k) (by simpa using h) hm.2,if_neg (by omega)]
  omega
open Um Lx
theorem run_neTm (a b:Tm) (W:World):(binOp .neq 26 (.agg #[.int .i64 a.k,.string a.x,.string a.l,.string a.y]) (.agg #[.int .i64 b.k,.string b.x,.string b.l,.string b.y])).run Tryz.prog W=.ok (.bool (!sameTm a b)) W:=by
 have h0:=Tryz.underlying26
 have h1:=Tryz.underlying24
 have h2:=Tryz.underlying9
 unfold sameTm
 simp only[go_sem,h0]
 cases e1:(a.k == b.k)
 ·simp[go_sem,h0,h1,h2,e1]
 cases e2:(a.x.toList == b.x.toList)
 ·simp[go_sem,h0,h1,h2,e1,e2]
 cases e3:(a.l.toList == b.l.toList)
 ·simp[go_sem,h0,h1,h2,e1,e2,e3]
 cases e4:(a.y.toList == b.y.toList)
 ·simp[go_sem,h0,h1,h2,e1,e2,e3,e4]
 simp[go_sem,h0,h1,h2,e1,e2,e3,e4]
theorem same_drop {a b:List Tm} {k:Nat} {x z:Tm} (hx:a[k]?=some x) (hz:b[k]?=some z):(a.drop k=b.drop k↔x=z/\a.drop (k+1)=b.drop (k+1)):=by
 rw[drop_cons_of hx,drop_cons_of hz,List.cons.injEq]
open Mt
theorem below_drewN' {B:Nat} {a w:World} (h:Below B a w) (n:Nat):Below B a (w.drewN n):=⟨h.os,h.tape,h.output,h.size,h.block⟩
def sameTs (a b:List ByteArray):Bool:=decide (a=b)
def sameTo (a b:List ByteArray) (k:Nat):Prop:=∀j,j<k->a[j]?=b[j]?
theorem sameTexts (a b:List ByteArray) (A B:Option Addr) (c d:Nat) (w:World) (ha:Rd w A (a.map Value.string)) (hb:Rd w B (b.map Value.string)) (hl:a.length<=281474976710656) (hl2:b.length<=281474976710656) :
  Calls Tryz.prog 23 #[.slice A a.length c,.slice B b.length d] w λe w'=>e=.returned (.bool (sameTs a b))/\Below w.heap.size w w':=by
 by_cases hlen:a.length=b.length
 case neg =>
  have hne:sameTs a b=false:=by unfold sameTs;simp;intro h;exact hlen (by rw[h])
  have h1:((a.length:Int) != (b.length:Int))=true:=by rw[bne_iff_ne];omega
  rw[hne]
  clear hne hlen
  go_enter Tryz.func23,Tryz.ntmps23
  go_wp2
  go_ret
  exact⟨rfl,Below.refl _ _⟩
 have h1:((a.length:Int) != (b.length:Int))=false:=by simp;omega
 have hab:a.length<=b.length:=by omega
 have Hlen:=Lib.hid hlen
 clear hlen
 go_enter Tryz.func23,Tryz.ntmps23
 go_wp2
 go_loopw [5] (λi wr=>∃k:Nat,k<=a.length/\i=.int .i64 k/\Below w.heap.size w wr/\Hid (sameTo a b k)) (λi _=>a.length-(intOf i).toNat)
 case atStart=>exact⟨0,by omega,rfl,Below.refl _ _,λj h=>by omega⟩
 case round =>
  obtain⟨k,hk,rfl,hB,H⟩:=hrel
  by_cases hlt:k<a.length
  ·obtain⟨x,hx⟩:∃x,a[k]?=some x:=⟨_,List.getElem?_eq_getElem hlt⟩
   obtain⟨y,hy⟩:∃x,b[k]?=some x:=⟨_,List.getElem?_eq_getElem (by omega)⟩
   obtain⟨g,o,rfl,hcx⟩:=(ha.below hB (Nat.le_refl _)).at_ (j:=k) (u:=.string x) (by simp[hx])
   obtain⟨g',o',rfl,hcy⟩:=(hb.below hB (Nat.le_refl _)).at_ (j:=k) (u:=.string y) (by simp[hy])
   have Hx:=Lib.hid hx
   have Hy:=Lib.hid hy
   have hlt2:k<b.length:=by omega
   clear hx hy ha hb
   cases hq:(x.toList == y.toList)
   ·have hne:sameTs a b=false:=by
     unfold sameTs;simp;intro h;subst h
     have:=Hx.out.symm.trans Hy.out
     injection this with this
     subst this
     simp at hq
    have hq2:(x.toList != y.toList)=true:=by rw[bne,hq];rfl
    have Hne:=Lib.hid hne
    clear hne
    go_wp2
    go_quiet (fail)
    go_wp2
    go_ret
    exact⟨by rw[Hne.out];rfl,below_drewN' hB nq⟩
   ·have hxy:Hid (x=y):=(Lib.bytes_beq_iff x y).1 hq
    have hq2:(x.toList != y.toList)=false:=by rw[bne,hq];rfl
    go_wp2
    go_quiet (fail)
    go_wp2
    go_roundw
    case rel=>exact⟨k+1,by omega,by go_num,below_drewN' hB nq,λj hj=>by
     rcases Nat.lt_or_ge j k with h|h
     ·exact H.out j h
     ·have:j=k:=by omega
      subst this;rw[Hx.out,Hy.out,hxy.out]⟩
    case measure=>simp[intOf];omega
  ·have he:sameTs a b=true:=by
    unfold sameTs;simp
    refine List.ext_getElem? λj=>?_
    rcases Nat.lt_or_ge j k with h|h
    ·exact H.out j h
    ·rw[List.getElem?_eq_none (by omega),List.getElem?_eq_none (by have:=Hlen.out;omega)]
   have He:=Lib.hid he
   clear he ha hb
   go_wp2
   go_ret
   exact⟨by rw[He.out];rfl,hB⟩
theorem kitSameTerms (a b:List Tm) (A B:Option Addr) (c d n m:Nat) (w:World) (hn:a.length=n) (hm:b.length=m) (hln:n<=1000000) (hlm:m<=1000000) (ha:RdTs w A a) (hb:RdTs w B b) :
  Calls Tryz.prog 43 #[.slice A n c,.slice B m d] w λe w'=>e=.returned (.bool (decide (a=b)))/\Below w.heap.size w w':=by
 obtain⟨res,hres⟩:∃r,decide (a=b)=r:=⟨_,rfl⟩
 rw[hres]
 by_cases hnm:n=m
 case neg =>
  have hr:res=false:=by
   rw[←hres,decide_eq_false_iff_not]
   intro h
   rw[h]at hn
   omega
  subst hr
  have hd:((n:Int) != (m:Int))=true:=by rw[bne_iff_ne];omega
  clear hn hm ha hb hres hnm
  go_enter Tryz.func43,Tryz.ntmps43
  go_wp2
  go_ret
  exact⟨rfl,Below.refl _ _⟩
 subst hnm
 have H:=Lib.hid (And.intro hn (And.intro hm (And.intro ha (And.intro hb hres))))
 clear hn hm ha hb hres
 go_enter Tryz.func43,Tryz.ntmps43
 go_wp2
 go_loopw [5] (λi wr=>∃k:Nat,k<=n/\i=.int .i64 k/\Hid (a=b↔a.drop k=b.drop k)/\Hid (Below w.heap.size w wr)) (λi _=>n-(intOf i).toNat)
 case atStart=>exact⟨0,by omega,rfl,Iff.rfl,Below.refl _ _⟩
 case round =>
  obtain⟨k,hk,rfl,H1,HB⟩:=hrel
  obtain⟨hn,hm,ha,hb,hres⟩:=H.out
  by_cases hlt:k<n
  ·obtain⟨x,hx1⟩:∃x,a[k]?=some x:=⟨_,List.getElem?_eq_getElem (by omega)⟩
   obtain⟨z,hz1⟩:∃z,b[k]?=some z:=⟨_,List.getElem?_eq_getElem (by omega)⟩
   obtain⟨g1,o1,rfl,b0,b1,b2,b3⟩:=(RdTs.later ha HB.out).at4 hx1
   obtain⟨g2,o2,rfl,d0,d1,d2,d3⟩:=(RdTs.later hb HB.out).at4 hz1
   have hsd:=same_drop hx1 hz1
   have x0:=λd os=>cell_on b0 (below_regrown wr d os)
   have x1:=λd os=>cell_on b1 (below_regrown wr d os)
   have x2:=λd os=>cell_on b2 (below_regrown wr d os)
   have x3:=λd os=>cell_on b3 (below_regrown wr d os)
   have y0:=λd os=>cell_on d0 (below_regrown wr d os)
   have y1:=λd os=>cell_on d1 (below_regrown wr d os)
   have y2:=λd os=>cell_on d2 (below_regrown wr d os)
   have y3:=λd os=>cell_on d3 (below_regrown wr d os)
   by_cases he:x=z
   ·have hne:=λW=>run_neTm x z W
    rw[show sameTm x z=true from sameTm_iffT.2 he]at hne
    have H2:Hid (a=b↔a.drop (k+1)=b.drop (k+1)):=by
     show _↔_
     rw[H1.out,hsd]
     exact⟨λh=>h.2,λh=>⟨he,h⟩⟩
    clear hx1 hz1 b0 b1 b2 b3 d0 d1 d2 d3 hn hm ha hb hres H1 hsd he
    go_wp2
    refine wrq ?_;(repeat (any_goals (go_big_quiet_step ((fail)))));all_goals (refine wqn ?_;intro d9 os9)
    have kq:=Lib.hid (below_tr HB.out (below_regrown wr d9 os9))
    clear x0 x1 x2 x3 y0 y1 y2 y3
    generalize Sort.grow (redrawn wr d9) os9=w3 at *
    go_wp2
    go_roundw
    case rel=>exact⟨k+1,by omega,by go_num,H2,kq⟩
    case measure=>simp[intOf];omega
   ·have hne:=λW=>run_neTm x z W
    rw[show sameTm x z=false from by
     cases h:sameTm x z with
     | false=>rfl
     | true=>exact absurd (sameTm_iffT.1 h) he]at hne
    have H2:Hid (res=false):=by
     show _=_
     rw[←hres,decide_eq_false_iff_not,H1.out,hsd]
     exact λh=>he h.1
    clear hx1 hz1 b0 b1 b2 b3 d0 d1 d2 d3 hn hm ha hb hres H1 hsd he
    go_wp2
    refine wrq ?_;(repeat (any_goals (go_big_quiet_step ((fail)))));all_goals (refine wqn ?_;intro d9 os9)
    have kq:=Lib.hid (below_tr HB.out (below_regrown wr d9 os9))
    clear x0 x1 x2 x3 y0 y1 y2 y3
    generalize Sort.grow (redrawn wr d9) os9=w3 at *
    go_wp2
    go_ret
    exact⟨by rw[H2.out];rfl,kq.out⟩
  ·obtain rfl:k=n:=by omega
   have H2:Hid (res=true):=by
    show _=_
    rw[←hres,decide_eq_true_iff,H1.out,drop_end a hn,drop_end b hm]
   clear hn hm ha hb hres H1
   go_wp2
   go_ret
   exact⟨by rw[H2.out];rfl,HB.out⟩
theorem same_dropR {a b:List (List Tm)} {k:Nat} {x z:List Tm} (hx:a[k]?=some x) (hz:b[k]?=some z):(a.drop k=b.drop k↔x=z/\a.drop (k+1)=b.drop (k+1)):=by
 rw[drop_cons_of hx,drop_cons_of hz,List.cons.injEq]
theorem kitSameRows (a b:List (List Tm)) (A B:Option Addr) (c d n m:Nat) (w:World) (hn:a.length=n) (hm:b.length=m) (hln:n<=1000000) (hlm:m<=1000000) (hza:∀r∈a,r.length<=1000000) (hzb:∀r∈b,r.length<=1000000) (ha:RdRs w A a) (hb:RdRs w B b) :
  Calls Tryz.prog 18 #[.slice A n c,.slice B m d] w λe w'=>e=.returned (.bool (decide (a=b)))/\Below w.heap.size w w':=by
 obtain⟨res,hres⟩:∃r,decide (a=b)=r:=⟨_,rfl⟩
 rw[hres]
 by_cases hnm:n=m
 case neg =>
  have hr:res=false:=by
   rw[←hres,decide_eq_false_iff_not]
   intro h
   rw[h]at hn
   omega
  subst hr
  have hd:((n:Int) != (m:Int))=true:=by rw[bne_iff_ne];omega
  clear hn hm ha hb hres hnm hza hzb
  go_enter Tryz.func18,Tryz.ntmps18
  go_wp2
  go_ret
  exact⟨rfl,Below.refl _ _⟩
 subst hnm
 have H:=Lib.hid (And.intro hn (And.intro hm (And.intro ha (And.intro hb (And.intro hza (And.intro hzb hres))))))
 clear hn hm ha hb hres hza hzb
 go_enter Tryz.func18,Tryz.ntmps18
 go_wp2
 go_loopw [5] (λi wr=>∃k:Nat,k<=n/\i=.int .i64 k/\Hid (a=b↔a.drop k=b.drop k)/\Hid (Below w.heap.size w wr)) (λi _=>n-(intOf i).toNat)
 case atStart=>exact⟨0,by omega,rfl,Iff.rfl,Below.refl _ _⟩
 case round =>
  obtain⟨k,hk,rfl,H1,HB⟩:=hrel
  obtain⟨hn,hm,ha,hb,hza,hzb,hres⟩:=H.out
  by_cases hlt:k<n
  ·obtain⟨x,hx1⟩:∃x,a[k]?=some x:=⟨_,List.getElem?_eq_getElem (by omega)⟩
   obtain⟨z,hz1⟩:∃z,b[k]?=some z:=⟨_,List.getElem?_eq_getElem (by omega)⟩
   obtain⟨g1,o1,A1,c1,rfl,hc1,_,hr1⟩:=(ha.later HB.out).at1 hx1
   obtain⟨g2,o2,A2,c2,rfl,hc2,_,hr2⟩:=(hb.later HB.out).at1 hz1
   have hsd:=same_dropR hx1 hz1
   have hS:=λd os=>kitSameTerms x z A1 A2 c1 c2 x.length z.length (Sort.grow (redrawn wr d) os) rfl rfl (hza x (List.mem_of_getElem? hx1)) (hzb z (List.mem_of_getElem? hz1)) (hr1.later (below_regrown wr d os)) (hr2.later (below_regrown wr d os))
   have e1:=λd os=>cell_on hc1 (below_regrown wr d os)
   have e2:=λd os=>cell_on hc2 (below_regrown wr d os)
   by_cases he:x=z
   ·rw[show decide (x=z)=true from decide_eq_true he]at hS
    have H2:Hid (a=b↔a.drop (k+1)=b.drop (k+1)):=by
     show _↔_
     rw[H1.out,hsd]
     exact⟨λh=>h.2,λh=>⟨he,h⟩⟩
    generalize x.length=lx at *
    generalize z.length=lz at *
    clear hx1 hz1 hn hm ha hb hres hza hzb H1 hsd he hc1 hc2 hr1 hr2
    go_wp2
    refine wrq ?_;(repeat (any_goals (go_big_quiet_step ((go_at_call 43;exact Calls.regrown_of (hS _ _))))));all_goals (refine wqn ?_;intro d9 os9)
    have kq:=Lib.hid (below_tr HB.out (below_regrown wr d9 os9))
    go_wp2
    go_roundw
    case rel=>exact⟨k+1,by omega,by go_num,H2,kq⟩
    case measure=>simp[intOf];omega
   ·rw[show decide (x=z)=false from decide_eq_false he]at hS
    have H2:Hid (res=false):=by
     show _=_
     rw[←hres,decide_eq_false_iff_not,H1.out,hsd]
     exact λh=>he h.1
    generalize x.length=lx at *
    generalize z.length=lz at *
    clear hx1 hz1 hn hm ha hb hres hza hzb H1 hsd he hc1 hc2 hr1 hr2
    go_wp2
    refine wrq ?_;(repeat (any_goals (go_big_quiet_step ((go_at_call 43;exact Calls.regrown_of (hS _ _))))));all_goals (refine wqn ?_;intro d9 os9)
    have kq:=Lib.hid (below_tr HB.out (below_regrown wr d9 os9))
    go_wp2
    go_ret
    exact⟨by rw[H2.out];rfl,kq.out⟩
  ·obtain rfl:k=n:=by omega
   have H2:Hid (res=true):=by
    show _=_
    rw[←hres,decide_eq_true_iff,H1.out,drop_end a hn,drop_end b hm]
   clear hn hm ha hb hres hza hzb H1
   go_wp2
   go_ret
   exact⟨by rw[H2.out];rfl,HB.out⟩
theorem mtmInfo:(Tryz.prog.info? 26).map (·.size)=some 4:=by kernel_rfl
theorem meanOf (vars:List ByteArray) (row:List Tm) (s:ByteArray) (p:Nat) (x:Tm) (Av A:Option Addr) (nv cv n c:Nat) (w:World) (hnv:vars.length=nv) (hln:nv<=1000000) (hn:row.length=n) (hp:Lib.idxOfS vars s=(p:Int)) (hx:row[p]?=some x) (hv:Rd w Av (vars.map Value.string)) (hr:RdTs w A row) :
  Calls Tryz.prog 72 #[.agg #[.slice Av nv cv],.slice A n c,.string s] w λe w'=>e=.returned (.agg #[.int .i64 x.k,.string x.x,.string x.l,.string x.y])/\Below w.heap.size w w':=by
 obtain⟨W,hW⟩:∃W:World,(w.alloc (.cells #[.slice Av nv cv] 130)).alloc (.cells #[.int .i64 0,.string ⟨#[]⟩,.string ⟨#[]⟩,.string ⟨#[]⟩] 26)=W:=⟨_,rfl⟩
 have hB0:Below w.heap.size w W:=by rw[←hW];exact blw
 have k0:W.heap[w.heap.size]?=some (Obj.cells #[.slice Av nv cv] 130 (0,0)):=by rw[←hW];exact heap_two_1 _ _ _
 have k1:W.heap[w.heap.size+1]?=some (Obj.cells #[.int .i64 0,.string ⟨#[]⟩,.string ⟨#[]⟩,.string ⟨#[]⟩] 26 (0,0)):=by rw[←hW];exact heap_two_2 _ _ _
 have c0:W.cell? ⟨w.heap.size,0,none⟩=some (.slice Av nv cv):=by rw[World.cell?,k0];rfl
 have hI:=idxTxt vars s Av cv W (by omega) (hv.later hB0)
 rw[hnv,hp]at hI
 obtain⟨g,o,rfl,a0,a1,a2,a3⟩:=(RdTs.later hr hB0).at4 hx
 have hpn:p<n:=by rw[←hn];exact(List.getElem?_eq_some_iff.1 hx).1
 obtain⟨V,hV⟩:∃V:World,W.setRow (w.heap.size+1) #[.int .i64 x.k,.string x.x,.string x.l,.string x.y]=V:=⟨_,rfl⟩
 have k2:V.heap[w.heap.size+1]?=some (Obj.cells #[.int .i64 x.k,.string x.x,.string x.l,.string x.y] 26 (0,0)):=by rw[←hV];exact setRow_heap _ _ _ _ _ _ k1
 have hB1:Below w.heap.size w V:=by rw[←hV];exact below_setRow hB0 (by omega) _
 have b0:V.cell? ⟨w.heap.size+1,0,none⟩=some (.int .i64 x.k):=by rw[World.cell?,k2];rfl
 have b1:V.cell? ⟨w.heap.size+1,1,none⟩=some (.string x.x):=by rw[World.cell?,k2];rfl
 have b2:V.cell? ⟨w.heap.size+1,2,none⟩=some (.string x.l):=by rw[World.cell?,k2];rfl
 have b3:V.cell? ⟨w.heap.size+1,3,none⟩=some (.string x.y):=by rw[World.cell?,k2];rfl
 have HW:=Lib.hid hW
 have HV:=Lib.hid hV
 have HF:=Lib.hid (And.intro (setRow_heap V _ _ #[.int .i64 x.k,.string x.x,.string x.l,.string x.y] _ (0,0) k2) (below_setRow hB1 (g:=w.heap.size+1) (by omega) #[.int .i64 x.k,.string x.x,.string x.l,.string x.y]))
 have HK:=Lib.hid (And.intro k1 k2)
 clear hW hV hB0 hB1 k0 k1 k2 hv hr hx hn hnv hp
 go_enter Tryz.func72,Tryz.ntmps72
 go_wp2_with fail
 simp only[HW.out]
 go_wp2_with (first
  | (go_at_call 120;refine hI.mono ?_;rintro e w2 ⟨rfl,rfl⟩)
  | (refine wpList_store_row rfl 26 _ _ rfl rfl rfl mtmInfo HK.out.1 rfl rfl ?_;rw[HV.out])
  | (refine wpList_store_row rfl 26 _ _ rfl rfl rfl mtmInfo HK.out.2 rfl rfl ?_)
  | fail)
 exact bodyPost_ret (results_cell_row rfl _ _ _ _ _ _ _ rfl HF.out.1 Tryz.underlying26 rfl mtmInfo) rfl ⟨rfl,HF.out.2⟩
theorem meanOrder (a b:List Tm) (A B:Option Addr) (c d n m:Nat) (w:World) (hn:a.length=n) (hm:b.length=m) (hC:CtxT w) (ha:RdTs w A a) (hb:RdTs w B b) (za:smallRow a) (zb:smallRow b) :
  Calls Tryz.prog 28 #[.slice A n c,.slice B m d] w λe w'=>e=.returned (.int .i64 (cmpRow a b))/\Below w.heap.size w w':=by
 have hcall:=cmpRows a b A B c d n m w hn hm hC ha hb za zb
 generalize cmpRow a b=z at *
 clear hn hm hC ha hb za zb
 go_enter Tryz.func28,Tryz.ntmps28
 go_wp2_with (go_at_call 55;refine hcall.mono ?_;rintro e w1 ⟨rfl,hb1⟩;have HF:=Lib.hid hb1;clear hb1 hcall)
 go_ret
 exact⟨rfl,HF.out⟩
theorem meanCompare (a b:List Tm) (vars:List ByteArray) (keys:List Ky) (n c nv cv d no co:Nat) (A B Av Ao:Option Addr) (w:World) (hnv:vars.length=nv) (hn:a.length=n) (hm:b.length=n) (hno:keys.length=no) (hlo:no<=1000000) (hlv:nv<=1000000)
  (hpl:∀p∈placesL vars (keys.map (·.v)),0<=p/\p<n) (hC:CtxT w) (ha:RdTs w A a) (hb:RdTs w B b) (za:smallRow a) (zb:smallRow b) (hv:Rd w Av (vars.map Value.string)) (hk:RdKey w Ao keys) :
  Calls Tryz.prog 71 #[.agg #[.slice Av nv cv],.slice A n c,.slice B n d,.slice Ao no co] w λe w'=>e=.returned (.int .i64 (cmpKeys (keysP (placesL vars (keys.map (·.v))) keys) a b))/\Below w.heap.size w w':=by
 obtain⟨W,hW⟩:∃W:World,w.alloc (.cells #[.slice Av nv cv] 130)=W:=⟨_,rfl⟩
 have hB0:Below w.heap.size w W:=by rw[←hW];exact blw
 have k0:W.heap[w.heap.size]?=some (Obj.cells #[.slice Av nv cv] 130 (0,0)):=by rw[←hW];exact heap_alloc_new _ _
 have a0:W.cell? ⟨w.heap.size,0,none⟩=some (.slice Av nv cv):=by rw[World.cell?,k0];rfl
 have hln:n<=1000000:=by rw[←hn];exact za.1
 obtain⟨ps,hps⟩:∃ps,placesL vars (keys.map (·.v))=ps:=⟨_,rfl⟩
 rw[hps]at hpl ⊢
 have hnp:ps.length=no:=by rw[←hps,←hno];simp[placesL]
 have hpk:∀k (y:Ky),keys[k]?=some y->ps[k]?=some (Lib.idxOfS vars y.v):=λk y h=>by
  rw[←hps];unfold placesL;rw[List.map_map,List.getElem?_map,h];rfl
 have H:=Lib.hid (And.intro hn (And.intro hm (And.intro hnp (And.intro hno (And.intro hpl (And.intro (RdTs.later ha hB0) (And.intro (RdTs.later hb hB0) (And.intro za (And.intro zb (And.intro (hv.later hB0) (And.intro (RdL.mono hk hB0 (λ_ _ _ h=>h)) (And.intro hnv (And.intro hpk (And.intro hB0 (hC.step hB0)))))))))))))))
 have HW:=Lib.hid hW
 clear hn hm hnp hno hpl ha hb za zb hv hk hnv hpk hB0 hW hps k0 hC
 go_enter Tryz.func71,Tryz.ntmps71
 go_wp2_with fail
 simp only[HW.out]
 go_wp2
 go_loopw [10,11,14] (λu v i wr=>∃k:Nat,k<=no/\i=.int .i64 k/\Hid (cmpKeys (keysP ps keys) a b=cmpKeys (keysP (ps.drop k) (keys.drop k)) a b)/\Hid (Below W.heap.size W wr)) (λ_ _ i _=>no-(intOf i).toNat)
 case atStart=>exact⟨0,by omega,rfl,rfl,Below.refl _ _⟩
 case round =>
  obtain⟨k,hk,rfl,H1,HB⟩:=hrel
  obtain⟨hn,hm,hnp,hno,hpl,ha,hb,za,zb,hv,hky,hnv,hpk,hB0,hC⟩:=H.out
  by_cases hlt:k<no
  ·obtain⟨y,hy1⟩:∃y,keys[k]?=some y:=⟨_,List.getElem?_eq_getElem (by rw[hno];exact hlt)⟩
   have hp1:=hpk k y hy1
   obtain⟨g3,o3,cs,rfl,_,rfl,hx⟩:=(RdL.mono hky HB.out (λ_ _ _ h=>h)).at_ (by omega) hy1
   have hcv:wr.cell? ⟨g3,o3+k*2,none⟩=some (.string y.v):=hx 0 _ rfl
   have hcd:wr.cell? ⟨g3,o3+k*2+1,none⟩=some (.bool y.d):=hx 1 _ rfl
   obtain⟨q0,q1⟩:=hpl _ (List.mem_of_getElem? hp1)
   obtain⟨q,hq⟩:∃q:Nat,Lib.idxOfS vars y.v=(q:Int):=⟨(Lib.idxOfS vars y.v).toNat,by omega⟩
   rw[hq]at hp1 q0 q1
   obtain⟨x,hx1⟩:∃x,a[q]?=some x:=⟨_,List.getElem?_eq_getElem (by omega)⟩
   obtain⟨z,hz1⟩:∃z,b[q]?=some z:=⟨_,List.getElem?_eq_getElem (by omega)⟩
   have hst:Hid (cmpKeys (keysP ps keys) a b=orZ (way y.d (cmpTm x z)) (cmpKeys (keysP (ps.drop (k+1)) (keys.drop (k+1))) a b)):=by
    show _=_
    rw[H1.out,keysP_drop hp1 hy1]
    show orZ (way y.d (cmpTm a[(q:Int).toNat]! b[(q:Int).toNat]!)) _=_
    rw[Int.toNat_natCast,List.getElem!_of_getElem? hx1,List.getElem!_of_getElem? hz1]
   obtain⟨W2,hW2⟩:∃V:World,wr.alloc (.cells #[.string y.v,.bool y.d] 177)=V:=⟨_,rfl⟩
   have hB2:Below wr.heap.size wr W2:=by rw[←hW2];exact blw
   have kk:W2.heap[wr.heap.size]?=some (Obj.cells #[.string y.v,.bool y.d] 177 (0,0)):=by rw[←hW2];exact heap_alloc_new _ _
   have f0:W2.cell? ⟨wr.heap.size,0,none⟩=some (.string y.v):=by rw[World.cell?,kk];rfl
   have f1:W2.cell? ⟨wr.heap.size,1,none⟩=some (.bool y.d):=by rw[World.cell?,kk];rfl
   have c0:=cell_on a0 (below_tr HB.out hB2)
   have HBB:=Lib.hid (below_tr HB.out hB2)
   have hOa:=λd os=>meanOf vars a y.v q x Av A nv cv n c (Sort.grow (redrawn W2 d) os) hnv hlv hn hq hx1 ((hv.later HBB.out).later (below_regrown W2 d os)) ((RdTs.later ha HBB.out).later (below_regrown W2 d os))
   have hOb:=λd' os=>meanOf vars b y.v q z Av B nv cv n d (Sort.grow (redrawn W2 d') os) hnv hlv hm hq hz1 ((hv.later HBB.out).later (below_regrown W2 d' os)) ((RdTs.later hb HBB.out).later (below_regrown W2 d' os))
   have hcall:=λV (h:Below W2.heap.size W2 V)=>termCompare x z V (hC.step (below_tr HBB.out h)) (za.2 x (List.mem_of_getElem? hx1)) (zb.2 z (List.mem_of_getElem? hz1))
   have hrg:=ordF_Tm.rng x z
   generalize cmpTm x z=r at *
   generalize y.d=dn at *
   generalize y.v=yv at *
   have e0:=λd os=>cell_on c0 (below_regrown W2 d os)
   have ev:=λd os=>cell_on f0 (below_regrown W2 d os)
   have HC:=Lib.hid f1
   have HW2:=Lib.hid hW2
   clear hp1 hy1 hx hx1 hz1 hn hm hnp hno hpl ha hb za zb hv hky hnv hpk hB0 hC H1 hq c0 f0 f1 kk hB2 hW2 q0 q1
   go_upto_region 4 with (fail)
   simp only[HW2.out]
   refine wrq ?_;(repeat (any_goals (go_big_quiet_step ((first|(go_at_call 29;exact Calls.regrown_of (hcall _ (below_regrown _ _ _)))|(go_at_call 72;first|(with_reducible exact Calls.regrown_of (hOa _ _))|(with_reducible exact Calls.regrown_of (hOb _ _))))))));all_goals (refine wqn ?_;intro d9 os9)
   have kq:=below_regrown W2 d9 os9
   have f1:=cell_on HC.out kq
   have HB3:=Lib.hid (below_tr HBB.out kq)
   clear e0 ev hOa hOb hcall kq HC hcv hcd
   generalize Sort.grow (redrawn W2 d9) os9=w3 at *
   obtain⟨r1,r2⟩:=hrg
   by_cases hz:r=0
   ·subst hz
    have hst2:Hid (cmpKeys (keysP ps keys) a b=cmpKeys (keysP (ps.drop (k+1)) (keys.drop (k+1))) a b):=by
     show _=_
     rw[hst.out]
     cases dn<;>rfl
    clear hst
    cases dn
    ·go_wp2
     go_roundw
     case rel=>exact⟨k+1,by omega,by go_num,hst2,HB3⟩
     case measure=>simp[intOf];omega
    ·go_wp2
     go_roundw
     case rel=>exact⟨k+1,by omega,by go_num,hst2,HB3⟩
     case measure=>simp[intOf];omega
   ·cases dn
    ·have hst2:Hid (cmpKeys (keysP ps keys) a b=r):=by
      show _=_
      rw[hst.out]
      show orZ r _=r
      unfold orZ;rw[if_neg hz]
     have hq:(r != 0)=true:=by rw[bne_iff_ne];exact hz
     clear hst hz
     go_wp2
     go_ret
     exact⟨by rw[hst2.out];rfl,below_tr H.out.2.2.2.2.2.2.2.2.2.2.2.2.2.1 HB3.out⟩
    ·have hst2:Hid (cmpKeys (keysP ps keys) a b = -r):=by
      show _=_
      rw[hst.out]
      show orZ (-r) _ = -r
      unfold orZ;rw[if_neg (by omega)]
     obtain⟨s,hs⟩:∃s,-r=s:=⟨_,rfl⟩
     have hq:(s != 0)=true:=by rw[bne_iff_ne];omega
     have hw:IntKind.i64.wrap (-r)=s:=by rw[IntKind.wrap_i64];omega
     rw[hs]at hst2
     clear hst hz
     go_wp2
     go_ret
     exact⟨by rw[hst2.out];rfl,below_tr H.out.2.2.2.2.2.2.2.2.2.2.2.2.2.1 HB3.out⟩
  ·obtain rfl:k=no:=by omega
   have hcall:=meanOrder a b A B c d n n wr hn hm (hC.step HB.out) (RdTs.later ha HB.out) (RdTs.later hb HB.out) za zb
   have hst2:Hid (cmpKeys (keysP ps keys) a b=cmpRow a b):=by
    show _=_
    rw[H1.out,List.drop_eq_nil_of_le (by omega)];rfl
   have HB2:=Lib.hid (below_tr hB0 HB.out)
   generalize cmpRow a b=z at *
   clear hn hm hnp hno hpl ha hb za zb hv hky hnv hpk hB0 hC H1 a0
   go_wp2_with (go_at_call 28;refine hcall.mono ?_;rintro e w1 ⟨rfl,hb1⟩;have HF:=Lib.hid (below_tr HB2.out hb1);clear hb1 hcall)
   go_ret
   exact⟨by rw[hst2.out];rfl,HF.out⟩
theorem meanRows1 (a b:List Tm) (vars:List ByteArray) (keys:List Ky) (n c nv cv d no co tb qb:Nat) (A B Av Ao:Option Addr) (w:World) (hnv:vars.length=nv) (hn:a.length=n) (hm:b.length=n) (hno:keys.length=no) (hlo:no<=1000000) (hlv:nv<=1000000)
  (hpl:∀p∈placesL vars (keys.map (·.v)),0<=p/\p<n) (hC:CtxT w) (ha:RdTs w A a) (hb:RdTs w B b) (za:smallRow a) (zb:smallRow b) (hv:Rd w Av (vars.map Value.string)) (hk:RdKey w Ao keys) (h0:w.cell? ⟨tb,0,none⟩=some (.slice Av nv cv)) (h1:w.cell? ⟨qb,5,none⟩=some (.slice Ao no co)) :
  Calls Tryz.prog 70 #[.slice A n c,.slice B n d,.pointer (some ⟨tb,0,none⟩),.pointer (some ⟨qb,0,none⟩)] w λe w'=>e=.returned (.int .i64 (cmpKeys (keysP (placesL vars (keys.map (·.v))) keys) a b))/\Below w.heap.size w w':=by
 have hcall:=meanCompare a b vars keys n c nv cv d no co A B Av Ao w hnv hn hm hno hlo hlv hpl hC ha hb za zb hv hk
 generalize cmpKeys (keysP (placesL vars (keys.map (·.v))) keys) a b=z at *
 clear hn hm hnv hno hpl hC ha hb za zb hv hk
 go_enter Tryz.func70,Tryz.ntmps70
 go_wp2_with (go_at_call 71;refine hcall.mono ?_;rintro e w1 ⟨rfl,hb1⟩;have HF:=Lib.hid hb1;clear hb1 hcall)
 go_ret
 exact⟨rfl,HF.out⟩
end Go.Proofs.YtoaemihcbmlkgaaGreatDoor
