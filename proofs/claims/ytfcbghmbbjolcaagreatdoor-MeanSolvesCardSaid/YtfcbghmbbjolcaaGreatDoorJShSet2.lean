/- slices.SortFunc, slices.Clone at triples. Two triples, compa -/
import Derived.Test.YtfcbghmbbjolcaaGreatDoorJShRow
import Derived.Test.YtfcbghmbbjolcaaGreatDoorShelf3
set_option maxHeartbeats 8000000
set_option maxRecDepth 100000
namespace Go.Proofs.YtfcbghmbbjolcaaGreatDoor
open Go Go.RowKit Go.Sort Um Fm Lx Tx
theorem mU (F:Array Value) (old rest:List Value) (h:old.length=F.size):putCells id 0 F (old++rest).toArray=(F.toList++rest).toArray:=by
 apply Array.ext_getElem?
 intro k
 unfold putCells
 simp only[Array.getElem?_mapIdx,List.getElem?_toArray,Nat.zero_le,true_and,Nat.zero_add,Nat.sub_zero,id]
 by_cases hk:k<F.size
 ·rw[List.getElem?_append_left (by omega),List.getElem?_append_left (by simpa using hk),List.getElem?_eq_getElem (by omega),Option.map_some,if_pos hk,getElem!_pos F k hk,Array.getElem?_toList,Array.getElem?_eq_getElem hk]
 ·rw[List.getElem?_append_right (by omega),List.getElem?_append_right (by simpa using hk),h,Array.length_toList]
  simp[hk]
theorem xp {α:Type} (enc:α->List Value) (k:Nat) (hk:∀x,(enc x).length=k):∀{ts:List α} {i:Nat} {t:α},ts[i]?=some t->∀j,j<k->(ts.flatMap enc)[i*k+j]?=(enc t)[j]?
 | [],_,_,h,_,_=>by simp at h
 | u::r,0,t,h,j,hj=>by
  simp only[List.getElem?_cons_zero,Option.some.injEq]at h
  subst h
  rw[List.flatMap_cons,Nat.zero_mul,Nat.zero_add,List.getElem?_append_left (by rw[hk];exact hj)]
 | u::r,i+1,t,h,j,hj=>by
  rw[List.getElem?_cons_succ]at h
  rw[List.flatMap_cons,List.getElem?_append_right (by rw[hk,Nat.add_mul];omega),hk,show (i+1)*k+j-k=i*k+j by rw[Nat.add_mul];omega]
  exact xp enc k hk h j hj
theorem BH {α:Type} (enc:α->List Value) (k:Nat) (hk:∀x,(enc x).length=k) (ts:List α):(ts.flatMap enc).length=ts.length*k:=by
 induction ts with
 | nil=>simp
 | cons t r ih=>rw[List.flatMap_cons,List.length_append,ih,hk,List.length_cons,Nat.add_mul];omega
theorem oa {α:Type} [Inhabited α] (enc:α->List Value) (k:Nat) (hk:∀x,(enc x).length=k) (h0:0<k) (d:Array α):(flatK enc k d).toList=d.toList.flatMap enc:=by
 apply List.ext_getElem?
 intro t
 rw[Array.getElem?_toList]
 by_cases ht:t<d.size*k
 ·have hi:t / k<d.size:=(Nat.div_lt_iff_lt_mul h0).2 ht
  have e:t=t / k*k+t % k:=by rw[Nat.mul_comm];exact(Nat.div_add_mod t k).symm
  have hd:d.toList[t / k]?=some d[t / k]!:=by rw[Array.getElem?_toList,Array.getElem?_eq_getElem hi,getElem!_pos d _ hi]
  have h1:=xp enc k hk hd (t % k) (Nat.mod_lt _ h0)
  rw[←e]at h1
  rw[h1,Array.getElem?_eq_getElem (by rw[size_flatK];exact ht)]
  have h2:=get_flatK enc k d t ht
  rw[getElem!_pos _ t (by rw[size_flatK];exact ht)]at h2
  rw[h2,List.getElem?_eq_getElem (by rw[hk];exact Nat.mod_lt _ h0),getElem!_pos]
 ·rw[Array.getElem?_eq_none (by rw[size_flatK];omega),List.getElem?_eq_none (by rw[BH enc k hk];simpa using ht)]
theorem uC (d:List STp):d.flatMap gO=(d.map (·.1)).flatMap tpL:=by
 rw[List.flatMap_map]
 rfl
theorem aQ.holds {g:Nat} {d:Array STp} {rest:List Value} {w:World} (h:aQ g (d.toList.map (·.1)) rest w):HoldsK gO 12 w g 0 d:=by
 intro j hj
 have hl:=oa gO 12 kU (by omega) d
 rw[uC]at hl
 refine⟨?_,h.frozen _⟩
 rw[Lib.cell_of_heap h,Nat.zero_add,List.getElem?_toArray,←hl,List.getElem?_append_left (by simpa using hj),Array.getElem?_toList,Array.getElem?_eq_getElem hj,getElem!_pos _ j hj]
 rfl
theorem aQ.sorted {g:Nat} {d d':Array STp} {rest:List Value} {w:World} (h:aQ g (d.toList.map (·.1)) rest w) (hs:d'.size=d.size) (n:Nat) (os:Array Obj):aQ g (d'.toList.map (·.1)) rest (sortWorldK gO 12 w g 0 n d' os):=by
 have hlt:=h.lt
 have hl:=oa gO 12 kU (by omega) d'
 rw[uC]at hl
 unfold aQ at h ⊢
 unfold sortWorldK Go.Sort.putRowK Sort.grow Sort.putRow Sort.mapBlock Sort.ahead
 simp only[Array.getElem?_append,Array.size_modify]
 rw[if_pos hlt,Array.getElem?_modify,if_pos rfl,h]
 simp only[Option.map_some,onCells]
 rw[mU _ _ _ (by rw[size_flatK,bS,List.length_map,Array.length_toList,hs]),hl]
theorem AC (w0 w:World) (hC0:cD w0) (hB:Below w0.heap.size w0 w) (g:Nat) (hg:w0.heap.size<=g) (size:Nat):CmpLays Tryz.prog 98 #[] gO 12 cfS g 0 size w:=by
 intro m os dk hs x y
 have hW:cD (sortWorldK gO 12 w g 0 m dk os):=hC0.step (hB.trans (oC hg hB.size))
 exact jm (sH x.1 y.1 _ hW x.2 y.2)
theorem sL (w0 w:World) (hC0:cD w0) (hB:Below w0.heap.size w0 w) (g cap:Nat) (hg:w0.heap.size<=g) (l:List Tp) (rest:List Value) (hR:aQ g l rest w) (hz:∀t∈l,cQ t) (hl:l.length<=1000000) :
  Calls Tryz.prog 97 #[.slice (some ⟨g,0,none⟩) l.length cap,.func (.func 98) #[] #[]] w λe w'=>e=.returned (.tuple #[])/\aQ g (l.mergeSort λx y => !iz y x) rest w'/\Below w0.heap.size w0 w':=by
 have eg:∀args w,(callFunc 98 args).run Tryz.prog w=.ok (.enter 98 args) w:=enters_of Tryz.func98 (by kernel_rfl) rfl
 obtain⟨d,rfl⟩:∃d:List STp,d.map (·.1)=l:=⟨l.attachWith cQ hz,by simp⟩
 have hd:(d.toArray.toList.map (·.1))=d.map (·.1):=by simp
 have hR':aQ g (d.toArray.toList.map (·.1)) rest w:=by rw[hd];exact hR
 have hcon:=AnyQ.slices_SortFunc_total Tryz.laysSortTp 12 Tryz.isAgg64 Tryz.sizeOf64 gO kU Ai cfS JW 98 #[] g 0 cap d.toArray w eg (AC w0 w hC0 hB g hg _) hR'.holds hR.lt (by simp at hl ⊢;omega) JV
 change Calls Tryz.prog 97 _ _ _ at hcon
 have hn:d.toArray.size=(d.map (·.1)).length:=by simp
 rw[hn]at hcon
 refine hcon.mono ?_
 rintro e w' ⟨rfl,n,os,rfl⟩
 refine⟨rfl,?_,hB.trans (oC hg hB.size)⟩
 have:=hR'.sorted (d':=(d.toArray.toList.mergeSort λx y => !ltOf cfS y x).toArray) (by simp) n os
 rw[List.toList_toArray,yQ,hd]at this
 exact this
theorem rO (l:List Tp) (A:Option Addr) (c:Nat) (w:World) (hr:Rd w A (l.flatMap tpL)) (hl:l.length<=1000000) :
  Calls Tryz.prog 96 #[.slice A l.length c] w λe w'=>∃v,e=.returned v/\w'.ownsRow w.heap.size 64 12 v l.length (l.flatMap tpL)/\Below w.heap.size w w':=by
 have h1:∀u∈l.flatMap tpL,u.oneCell'=true:=λu hu=>by obtain⟨t,_,ht⟩:=List.mem_flatMap.1 hu;exact mb t u ht
 have hn:=bS l
 have q22:∀(w:World) (a:Option Addr) (n c n' c':Nat),(binOp .eql 22 (.slice a n c) (.slice none n' c')).run Tryz.prog w=.ok (.bool a.isNone) w:=λw a n c n' c'=>Lib.run_eql_slice_nil w _ _ a n c n' c' Tryz.underlying22
 rcases A with _|ad
 ·have h0:l=[]:=by
   rcases hr with h0|⟨g,o,hA,_⟩
   ·rw[h0]at hn;exact List.eq_nil_of_length_eq_zero (by simp at hn;omega)
   ·cases hA
  subst h0
  clear hr h1 hn
  go_enter Tryz.func96,Tryz.ntmps96
  go_wp2
  go_ret
  exact⟨_,rfl,World.ownsRow_nil _ _ _ _,Below.refl _ _⟩
 ·have HR:=Lib.hid hr
  clear hr
  obtain⟨N,hN⟩:∃N,l.length=N:=⟨_,rfl⟩
  rw[hN]at hn hl ⊢
  clear hN
  generalize l.flatMap tpL=xs at *
  go_enter Tryz.func96,Tryz.ntmps96
  go_wp2_with (at_builtin;refine ak rfl rfl Tryz.underlying22 fI rfl (by omega) rfl (World.ownsRow_made w #[] 0 (Nat.le_refl _) (Nat.zero_le _) (by simp)) rfl (HR.out.later ((Below.refl _ _).alloc (Nat.le_refl _) _)) hn h1 (by omega) (by omega) (by simp) ?_;intro v' w1 hown hb1 _;obtain⟨A1,c1,rfl,_,_⟩:=own_slice hown;rw[Nat.zero_add,List.nil_append]at hown)
  go_ret
  exact⟨_,rfl,by simpa using hown,((Below.refl _ w).alloc (Nat.le_refl _) _).trans hb1⟩
def eC (a b:Tp):Bool:=az a.s b.s && az a.p b.p && az a.o b.o
theorem fO {a b:Tp}:eC a b=true↔a=b:=by
 unfold eC
 rw[Bool.and_eq_true,Bool.and_eq_true,aw,aw,aw]
 constructor
 ·rintro⟨⟨h1,h2⟩,h3⟩
  obtain⟨s,p,o⟩:=a
  obtain⟨s',p',o'⟩:=b
  cases h1;cases h2;cases h3;rfl
 ·rintro rfl
  exact⟨⟨rfl,rfl⟩,rfl⟩
theorem mO (a b:Tp) (W:World):(binOp .eql 64 (.agg #[.int .i64 a.s.k,.string a.s.x,.string a.s.l,.string a.s.y,.int .i64 a.p.k,.string a.p.x,.string a.p.l,.string a.p.y,.int .i64 a.o.k,.string a.o.x,.string a.o.l,.string a.o.y]) (.agg #[.int .i64 b.s.k,.string b.s.x,.string b.s.l,.string b.s.y,.int .i64 b.p.k,.string b.p.x,.string b.p.l,.string b.p.y,.int .i64 b.o.k,.string b.o.x,.string b.o.l,.string b.o.y])).run Tryz.prog W=.ok (.bool (eC a b)) W:=by
 have h0:=Tryz.underlying62
 have h1:=Tryz.underlying60
 have h2:=Tryz.underlying9
 have h3:=Tryz.underlying64
 unfold eC az
 cases e0:(a.s.k == b.s.k)
 ·simp[go_sem,h0,h1,h2,h3,e0]
 cases e1:(a.s.x.toList == b.s.x.toList)
 ·simp[go_sem,h0,h1,h2,h3,e0,e1]
 cases e2:(a.s.l.toList == b.s.l.toList)
 ·simp[go_sem,h0,h1,h2,h3,e0,e1,e2]
 cases e3:(a.s.y.toList == b.s.y.toList)
 ·simp[go_sem,h0,h1,h2,h3,e0,e1,e2,e3]
 cases e4:(a.p.k == b.p.k)
 ·simp[go_sem,h0,h1,h2,h3,e0,e1,e2,e3,e4]
 cases e5:(a.p.x.toList == b.p.x.toList)
 ·simp[go_sem,h0,h1,h2,h3,e0,e1,e2,e3,e4,e5]
 cases e6:(a.p.l.toList == b.p.l.toList)
 ·simp[go_sem,h0,h1,h2,h3,e0,e1,e2,e3,e4,e5,e6]
 cases e7:(a.p.y.toList == b.p.y.toList)
 ·simp[go_sem,h0,h1,h2,h3,e0,e1,e2,e3,e4,e5,e6,e7]
 cases e8:(a.o.k == b.o.k)
 ·simp[go_sem,h0,h1,h2,h3,e0,e1,e2,e3,e4,e5,e6,e7,e8]
 cases e9:(a.o.x.toList == b.o.x.toList)
 ·simp[go_sem,h0,h1,h2,h3,e0,e1,e2,e3,e4,e5,e6,e7,e8,e9]
 cases e10:(a.o.l.toList == b.o.l.toList)
 ·simp[go_sem,h0,h1,h2,h3,e0,e1,e2,e3,e4,e5,e6,e7,e8,e9,e10]
 cases e11:(a.o.y.toList == b.o.y.toList)
 ·simp[go_sem,h0,h1,h2,h3,e0,e1,e2,e3,e4,e5,e6,e7,e8,e9,e10,e11]
 simp[go_sem,h0,h1,h2,h3,e0,e1,e2,e3,e4,e5,e6,e7,e8,e9,e10,e11]
theorem Bw (a b:Tp) (W:World):(binOp .neq 64 (.agg #[.int .i64 a.s.k,.string a.s.x,.string a.s.l,.string a.s.y,.int .i64 a.p.k,.string a.p.x,.string a.p.l,.string a.p.y,.int .i64 a.o.k,.string a.o.x,.string a.o.l,.string a.o.y]) (.agg #[.int .i64 b.s.k,.string b.s.x,.string b.s.l,.string b.s.y,.int .i64 b.p.k,.string b.p.x,.string b.p.l,.string b.p.y,.int .i64 b.o.k,.string b.o.x,.string b.o.l,.string b.o.y])).run Tryz.prog W=.ok (.bool (!eC a b)) W:=by
 have h0:=Tryz.underlying62
 have h1:=Tryz.underlying60
 have h2:=Tryz.underlying9
 have h3:=Tryz.underlying64
 unfold eC az
 cases e0:(a.s.k == b.s.k)
 ·simp[go_sem,h0,h1,h2,h3,e0]
 cases e1:(a.s.x.toList == b.s.x.toList)
 ·simp[go_sem,h0,h1,h2,h3,e0,e1]
 cases e2:(a.s.l.toList == b.s.l.toList)
 ·simp[go_sem,h0,h1,h2,h3,e0,e1,e2]
 cases e3:(a.s.y.toList == b.s.y.toList)
 ·simp[go_sem,h0,h1,h2,h3,e0,e1,e2,e3]
 cases e4:(a.p.k == b.p.k)
 ·simp[go_sem,h0,h1,h2,h3,e0,e1,e2,e3,e4]
 cases e5:(a.p.x.toList == b.p.x.toList)
 ·simp[go_sem,h0,h1,h2,h3,e0,e1,e2,e3,e4,e5]
 cases e6:(a.p.l.toList == b.p.l.toList)
 ·simp[go_sem,h0,h1,h2,h3,e0,e1,e2,e3,e4,e5,e6]
 cases e7:(a.p.y.toList == b.p.y.toList)
 ·simp[go_sem,h0,h1,h2,h3,e0,e1,e2,e3,e4,e5,e6,e7]
 cases e8:(a.o.k == b.o.k)
 ·simp[go_sem,h0,h1,h2,h3,e0,e1,e2,e3,e4,e5,e6,e7,e8]
 cases e9:(a.o.x.toList == b.o.x.toList)
 ·simp[go_sem,h0,h1,h2,h3,e0,e1,e2,e3,e4,e5,e6,e7,e8,e9]
 cases e10:(a.o.l.toList == b.o.l.toList)
 ·simp[go_sem,h0,h1,h2,h3,e0,e1,e2,e3,e4,e5,e6,e7,e8,e9,e10]
 cases e11:(a.o.y.toList == b.o.y.toList)
 ·simp[go_sem,h0,h1,h2,h3,e0,e1,e2,e3,e4,e5,e6,e7,e8,e9,e10,e11]
 simp[go_sem,h0,h1,h2,h3,e0,e1,e2,e3,e4,e5,e6,e7,e8,e9,e10,e11]
theorem uW (n:Nat):(Builtin.zeroCells (Value.agg zCs).cells n).size=n*12:=by
 unfold Builtin.zeroCells
 simp[Value.cells,zCs]
theorem yn (n:Nat):∀u∈(Builtin.zeroCells (Value.agg zCs).cells n).toList,u.oneCell'=true:=by
 intro u hu
 unfold Builtin.zeroCells at hu
 simp only[Array.toList_map,List.mem_map]at hu
 obtain⟨i,_,rfl⟩:=hu
 have h12:(Value.agg zCs).cells.size=12:=rfl
 have hlt:i % (Value.agg zCs).cells.size<(Value.agg zCs).cells.size:=Nat.mod_lt _ (by rw[h12];omega)
 rw[getElem!_pos (Value.agg zCs).cells _ hlt]
 have:∀v∈(Value.agg zCs).cells,v.oneCell'=true:=λv hv=>List.all_eq_true.1 (rfl:zCs.toList.all (·.oneCell')=true) v (Array.mem_toList_iff.2 hv)
 exact this _ (Array.getElem_mem hlt)
theorem DU {l:List Tp} (h:l.length<2):aj l=l:=by
 match l,h with
 | [],_=>rfl
 | [x],_=>rfl
theorem xZ {l:List Tp} {m:Nat} {y x:Tp} (hm:1<=m) (hy:l[m-1]?=some y) (hx:l[m]?=some x):aj (l.take (m+1))=aj (l.take m)++(if eC x y=true then [] else [x]):=by
 obtain⟨j,rfl⟩:∃j,m=j+1:=⟨m-1,by omega⟩
 rw[Nat.add_sub_cancel]at hy
 rw[show j+1+1=j+2 by omega,AA hy hx]
 congr 1
 by_cases h:x=y
 ·subst h
  rw[if_pos (ma x),if_pos (fO.2 rfl)]
 ·rw[if_neg (λe=>h (aW.zero _ _ e).symm),if_neg (λe=>h (fO.1 e))]
theorem om (base g cap:Nat) (l:List Tp) (rest:List Value) (w:World) (hR:aQ g l rest w) (hb:base<=g) (hc:l.length*12+rest.length=cap*12) (hm:cap<=maxLen) (hl:l.length<=1000000) :
  Calls Tryz.prog 99 #[.slice (some ⟨g,0,none⟩) l.length cap] w λe w'=>∃v,e=.returned v/\w'.ownsRow base 64 12 v (aj l).length ((aj l).flatMap tpL)/\Below base w w':=by
 have hown:∀wr,aQ g l rest wr->aj l=l->wr.ownsRow base 64 12 (.slice (some ⟨g,0,none⟩) l.length cap) (aj l).length ((aj l).flatMap tpL):=by
  intro wr hr he
  have:=hr.own (base:=base) hb (Nat.le_refl _) hc hm
  rw[List.take_length]at this
  rw[he];exact this
 obtain⟨N,hN⟩:∃N,l.length=N:=⟨_,rfl⟩
 have HO:=Lib.hid hown
 have HN:=Lib.hid hN
 have HR:=Lib.hid hR
 have HC:=Lib.hid (And.intro hc hm)
 clear hown hR
 rw[hN]at hl hc ⊢
 clear hN hm
 have hcap:N<=cap:=by omega
 clear hc
 by_cases h2:N<2
 ·have hd1:decide (N<2)=true:=by simp;omega
  have he:=DU (l:=l) (by rw[HN.out];exact h2)
  have hw:=HO.out w HR.out he
  rw[HN.out]at hw
  have HW:=Lib.hid hw
  clear hw he
  go_enter Tryz.func99,Tryz.ntmps99
  go_wp2
  go_ret
  exact⟨_,rfl,HW.out,Below.refl _ _⟩
 ·have hd1:decide (N<2)=false:=by simp;omega
  go_enter Tryz.func99,Tryz.ntmps99
  go_wp2
  go_loopw [3] (λi wr=>∃k:Nat,1<=k/\k<=N/\i=.int .i64 k/\Hid (aQ g l rest wr)/\Below base w wr/\Hid (aj (l.take k)=l.take k)) (λi _=>N-(intOf i).toNat)
  case atStart=>exact⟨1,by omega,by omega,rfl,HR,Below.refl _ _,wL l⟩
  case round =>
   obtain⟨k,hk1,hk,rfl,HRk,hB,HS⟩:=hrel
   have HB:=Lib.hid hB
   clear hB
   by_cases hlt:k<N
   ·have hd2:decide (k<N)=true:=by simp;omega
    have hk9:k-1<N:=by omega
    obtain⟨x,hx⟩:∃x,l[k]?=some x:=⟨_,List.getElem?_eq_getElem (by rw[HN.out];exact hlt)⟩
    obtain⟨y,hy⟩:∃y,l[k-1]?=some y:=⟨_,List.getElem?_eq_getElem (by rw[HN.out];omega)⟩
    obtain⟨a0,a1,a2,a3,a4,a5,a6,a7,a8,a9,a10,a11⟩:=HRk.out.at12 hx
    obtain⟨b0,b1,b2,b3,b4,b5,b6,b7,b8,b9,b10,b11⟩:=HRk.out.at12 hy
    have hq:=mO x y
    have hst:Hid (aj (l.take (k+1))=aj (l.take k)++(if eC x y=true then [] else [x])):=xZ hk1 hy hx
    have hsk:Hid (l.take (k+1)=l.take k++[x]):=ah hx
    clear hx hy
    cases hs:eC x y
    ·rw[hs]at hq hst
     have hst2:Hid (aj (l.take (k+1))=l.take (k+1)):=by show _=_;rw[hst.out,if_neg (by simp),HS.out,hsk.out]
     clear hs hst hsk HS
     go_wp2
     go_quiet (fail)
     go_wp2
     go_roundw
     case rel=>exact⟨k+1,by omega,by omega,by go_num,HRk,⟨HB.out.os,HB.out.tape,HB.out.output,HB.out.size,HB.out.block⟩,hst2⟩
     case measure=>simp[intOf];omega
    ·rw[hs]at hq hst
     have hst2:Hid (aj (l.take (k+1))=l.take k):=by show _=_;rw[hst.out,if_pos rfl,HS.out,List.append_nil]
     clear hs hst hsk HS
     have hkl:Hid ((l.take k).length=k):=by show _=_;rw[List.length_take,Nat.min_eq_left (by rw[HN.out];omega)]
     go_wp2
     go_quiet (fail)
     go_wp2
     clear a0 a1 a2 a3 a4 a5 a6 a7 a8 a9 a10 a11 b0 b1 b2 b3 b4 b5 b6 b7 b8 b9 b10 b11 hq
     go_loopw [3,5] (λi j wr=>∃(kk k2:Nat),i=.int .i64 kk/\j=.int .i64 k2/\1<=k2/\k+k2<=N/\kk<k+k2/\Hid ((aj (l.take (k+k2))).length=kk)/\Hid (aQ g (eF l (aj (l.take (k+k2)))) rest wr)/\Below base w wr) (λ_ j _=>N-(intOf j).toNat)
     case atStart =>
      refine⟨k,1,rfl,rfl,by omega,by omega,by omega,?_,?_,⟨HB.out.os,HB.out.tape,HB.out.output,HB.out.size,HB.out.block⟩⟩
      ·show _=_
       rw[hst2.out];exact hkl.out
      ·show aQ _ _ _ _
       rw[hst2.out]
       unfold eF
       rw[hkl.out,List.take_append_drop]
       exact HRk.out
     case round =>
      obtain⟨kk,k2,rfl,rfl,h1,hle,hkk,HL,HR2,hB2⟩:=hrel
      have HB2:=Lib.hid hB2
      clear hB2
      by_cases hlt2:k+k2<N
      ·have hd3:decide (k2<N-k)=true:=by simp;omega
       obtain⟨x2,hx2⟩:∃x,l[k+k2]?=some x:=⟨_,List.getElem?_eq_getElem (by rw[HN.out];exact hlt2)⟩
       obtain⟨y2,hy2⟩:∃y,l[k+k2-1]?=some y:=⟨_,List.getElem?_eq_getElem (by rw[HN.out];omega)⟩
       have hx3:=xo (l:=l) (out:=aj (l.take (k+k2))) (j:=k+k2) (by rw[HL.out];omega)
       have hy3:=xo (l:=l) (out:=aj (l.take (k+k2))) (j:=k+k2-1) (by rw[HL.out];omega)
       rw[hx2]at hx3
       rw[hy2]at hy3
       have c:=HR2.out.at12 hx3
       have d:=HR2.out.at12 hy3
       rw[show (k+k2)*12=k*12+k2*12 by omega]at c
       rw[show (k+k2-1)*12=k*12+(k2-1)*12 by omega]at d
       obtain⟨a0,a1,a2,a3,a4,a5,a6,a7,a8,a9,a10,a11⟩:=c
       obtain⟨b0,b1,b2,b3,b4,b5,b6,b7,b8,b9,b10,b11⟩:=d
       have hq:=Bw x2 y2
       have hst:Hid (aj (l.take (k+k2+1))=aj (l.take (k+k2))++(if eC x2 y2=true then [] else [x2])):=xZ (by omega) hy2 hx2
       clear hx2 hy2 hx3 hy3
       cases hs:eC x2 y2
       ·rw[hs]at hq hst
        have hth:∀nq,(wr.drewN nq).there g (kk*12) 12:=λnq=>aQ.there (w:=wr.drewN nq) HR2.out (by rw[jz (by rw[HL.out,HN.out];omega),HN.out];omega)
        clear hs
        go_wp2
        go_quiet (fail)
        go_wp2_with (with_reducible refine(?_:wpList _ _ _ (_::[]) _ _);with_reducible refine stay ?_)
        unfold JE
        with_reducible refine lO ?gd ?px ?py ?ho g kk x2 ?hx ?hy ?ht ?hh
        case ho=>rfl
        case gd=>rfl
        case hx=>rfl
        case hy=>rfl
        case ht=>exact hth _
        have hR9:Hid (aQ g (eF l (aj (l.take (k+(k2+1))))) rest (((wr.drewN nq).setCells g (kk*12) (tpL x2)))):=by
         have h:=aQ.store (w:=wr.drewN nq) (show aQ g _ rest (wr.drewN nq) from HR2.out) (i:=kk) (by rw[jz (by rw[HL.out,HN.out];omega),HN.out];omega) x2
         have e:(eF l (aj (l.take (k+k2)))).set kk x2=eF l (aj (l.take (k+(k2+1)))):=by
          rw[show k+(k2+1)=k+k2+1 by omega,hst.out,if_neg (by simp),←EO (by rw[HL.out,HN.out];omega),HL.out]
         rw[e]at h
         exact h
        have hL9:Hid ((aj (l.take (k+(k2+1)))).length=kk+1):=by
         show _=_
         rw[show k+(k2+1)=k+k2+1 by omega,hst.out,if_neg (by simp),List.length_append,HL.out];rfl
        have hB9:Hid (Below base w ((wr.drewN nq).setCells g (kk*12) (tpL x2))):=(show Below base w (wr.drewN nq) from ⟨HB2.out.os,HB2.out.tape,HB2.out.output,HB2.out.size,HB2.out.block⟩).trans (below_setCells hb _ _ _)
        generalize (wr.drewN nq).setCells g (kk*12) (tpL x2)=w9 at *
        go_wp2
        go_roundw
        case rel=>exact⟨kk+1,k2+1,by go_num,by go_num,by omega,by omega,by omega,hL9,hR9,hB9.out⟩
        case measure=>simp[intOf];omega
       ·rw[hs]at hq hst
        have hst2:Hid (aj (l.take (k+(k2+1)))=aj (l.take (k+k2))):=by show _=_;rw[show k+(k2+1)=k+k2+1 by omega,hst.out,if_pos rfl,List.append_nil]
        clear hs hst
        go_wp2
        go_quiet (fail)
        go_wp2
        go_roundw
        case rel=>exact⟨kk,k2+1,rfl,by go_num,by omega,by omega,by omega,(by show _=_;rw[hst2.out];exact HL.out),(by show aQ _ _ _ _;rw[hst2.out];exact HR2.out),⟨HB2.out.os,HB2.out.tape,HB2.out.output,HB2.out.size,HB2.out.block⟩⟩
        case measure=>simp[intOf];omega
      ·have hend:k+k2=N:=by omega
       have hd3:decide (k2<N-k)=false:=by simp;omega
       have hz9:(Tryz.prog.info? 64).map (λi=>(i.zero,i.size,i.bytes))=some (some (.agg zCs),12,168):=fI
       have hzv:∀W,(zeroValue 64).run Tryz.prog W=.ok (.agg zCs) W:=Tryz.zeroValue64
       have hcl:∀ty,(Builtin.clear_ #[22] ty #[.slice (some ⟨g,kk*12,none⟩) (N-kk) (cap-kk)]).run Tryz.prog wr=.ok (.tuple #[]) (wr.setCells g (kk*12) (Builtin.zeroCells (Value.agg zCs).cells (N-kk)).toList):=
        λty=>lR wr _ _ ty _ Tryz.underlying22 hzv g (kk*12) _ _ (by omega) (yn _) (λj hj=>HR2.out.there (o:=kk*12) (n:=(N-kk)*12) (by rw[jz (by rw[HL.out,HN.out];omega),HN.out];omega) j (by rw[uW]at hj;exact hj))
       have hfin:=HR2.out.cleared (base:=base) (k:=kk) (vs:=(Builtin.zeroCells (Value.agg zCs).cells (N-kk)).toList) hb (by rw[jz (by rw[HL.out,HN.out];omega),HN.out];omega) (by rw[jz (by rw[HL.out,HN.out];omega)];exact HC.out.1) HC.out.2
       have hfull:l.take (k+k2)=l:=List.take_of_length_le (by rw[HN.out];omega)
       have hrt:(eF l (aj (l.take (k+k2)))).take kk=aj l:=by
        have:=BG l (aj (l.take (k+k2)))
        rw[HL.out]at this
        rw[this,hfull]
       have hln:(aj l).length=kk:=by have:=HL.out;rwa [hfull]at this
       rw[hrt]at hfin
       have HF:=Lib.hid (And.intro hfin (And.intro hln (HB2.out.trans (below_setCells hb (Builtin.zeroCells (Value.agg zCs).cells (N-kk)).toList (kk*12) wr))))
       clear hfin hrt hfull hln hz9 hzv
       generalize wr.setCells g (kk*12) (Builtin.zeroCells (Value.agg zCs).cells (N-kk)).toList=w9 at *
       go_wp2
       go_ret
       exact⟨_,rfl,by rw[HF.out.2.1];exact HF.out.1,HF.out.2.2⟩
   ·obtain rfl:k=N:=by omega
    have hd2:decide (k<k)=false:=by simp
    have he:aj l=l:=by
     have:=HS.out
     rwa [List.take_of_length_le (by rw[HN.out];exact Nat.le_refl _)]at this
    have hw:=HO.out wr HRk.out he
    rw[HN.out]at hw
    have HW:=Lib.hid hw
    clear hw he
    go_wp2
    go_ret
    exact⟨_,rfl,HW.out,HB.out⟩
theorem wK (w:World):Calls Tryz.prog 99 #[.slice none 0 0] w λe w'=>e=.returned (.slice none 0 0)/\w=w':=by
 go_enter Tryz.func99,Tryz.ntmps99
 go_wp2
 go_ret
 exact⟨rfl,rfl⟩
def IO (l:List Tp) (w:World) (e:Ending) (w':World):Prop:=∃v,e=.returned v/\w'.ownsRow w.heap.size 64 12 v (aS l).length ((aS l).flatMap tpL)/\Below w.heap.size w w'
theorem EJ (l:List Tp) (A:Option Addr) (c:Nat) (w:World) (hC:cD w) (hr:Rd w A (l.flatMap tpL)) (hz:∀t∈l,cQ t) (hl:l.length<=1000000) :
  Calls Tryz.prog 49 #[.slice A l.length c] w (IO l w):=by
 have h1:=rO l A c w hr hl
 have HC:=Lib.hid hC
 have Hz:=Lib.hid hz
 have HR:∀e w',IO l w e w'->IO l w e w':=λ_ _ h=>h
 have hset:=Bq l
 clear hC hr hz
 go_enter Tryz.func49,Tryz.ntmps49
 go_wp2_with fail
 refine h1.mono ?_
 rintro e w1 ⟨v1,rfl,own1,hb1⟩
 have HB1:=Lib.hid hb1
 rcases aQ.of_own own1 with ⟨rfl,rfl⟩|⟨g,cap,rest,rfl,hg,hR,hn,hm,-,hrl⟩
 ·have hs:=AnyF.slices_SortFunc_none Tryz.laysSortTp none 0 (.func (.func 98) #[] #[]) w1
  change Calls Tryz.prog 97 _ _ _ at hs
  clear own1 hb1 h1 hset
  go_wp2_with fail
  refine hs.mono ?_
  rintro e w2 ⟨rfl,rfl⟩
  go_wp2_with fail
  refine(wK _).mono ?_
  rintro e w3 ⟨rfl,rfl⟩
  go_wp2
  go_ret
  exact HR _ _ ⟨_,rfl,World.ownsRow_nil _ _ _ _,HB1.out⟩
 ·have hs:=sL w w1 HC.out hb1 g cap hg l rest hR Hz.out hl
  have hso:=Lib.hid (And.intro hset (And.intro hrl (And.intro hm (List.length_mergeSort (le:=λx y => !iz y x) l))))
  clear own1 hb1 h1 hR hset hm hrl
  obtain⟨m,hm⟩:∃m,(l.mergeSort λx y => !iz y x)=m:=⟨_,rfl⟩
  rw[hm]at hs hso
  clear hm
  go_wp2_with fail
  refine hs.mono ?_
  rintro e w2 ⟨rfl,hR2,hb2⟩
  obtain⟨q1,q2,q3,q4⟩:=hso.out
  have hcp:=om w.heap.size g cap m rest w2 hR2 hg (by rw[q4,q2];omega) q3 (by rw[q4];exact hl)
  rw[q4,q1]at hcp
  have HB2:=Lib.hid hb2
  clear hs hR2 q1 q2 q3 q4 hb2
  go_wp2_with fail
  refine hcp.mono ?_
  rintro e w3 ⟨v,rfl,own3,hb3⟩
  obtain⟨A3,c3,rfl,-,-⟩:=own_slice own3
  have HX:=Lib.hid (And.intro own3 (HB2.out.trans hb3))
  clear own3 hb3 hcp
  go_wp2
  go_ret
  exact HR _ _ ⟨_,rfl,HX.out.1,HX.out.2⟩
end Go.Proofs.YtfcbghmbbjolcaaGreatDoor
