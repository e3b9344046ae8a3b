/- Arguments of small bulk, opened: lists, terms, conditions, q -/
import Derived.Test.YtoejnneknpoanaaGreatDoorJSizeU
import Derived.Lib.SmallJoins
set_option maxRecDepth 100000
namespace Go.Proofs.YtoejnneknpoanaaGreatDoor
open Go Go.ChangeShapes Go.WideShapes Go.ChangeAt Go.RowKit Go.Lib Go.Joins Go.Deep Fm
namespace Up
section
variable {H:Type} {enc:TypeId × Value->H} {P:Program}
theorem one_le {H:Type} (d:DataW H):1<=Rows.uptoBulk d:=by
 cases d with
 | lit l=>cases l<;>simp[Rows.uptoBulk]
 | nil=>simp[Rows.uptoBulk]
 | ptr d=>simp[Rows.uptoBulk]
 | slice elems spare=>simp[Rows.uptoBulk]
 | agg parts=>simp[Rows.uptoBulk]
 | iface t d=>simp[Rows.uptoBulk]
 | map entries=>simp[Rows.uptoBulk]
 | held h=>simp[Rows.uptoBulk]
theorem part_le {H:Type} {d:DataW H} {l:List (DataW H)} (h:d∈l):Rows.uptoBulk d<=Rows.uptoBulkAll l:=by
 induction l with
 | nil=>cases h
 | cons x r ih =>
  simp only[Rows.uptoBulkAll]
  cases List.mem_cons.1 h with
  | inl e=>subst e;omega
  | inr e=>have:=ih e;omega
theorem len_le {H:Type} (l:List (DataW H)):l.length<=Rows.uptoBulkAll l:=by
 induction l with
 | nil=>simp[Rows.uptoBulkAll]
 | cons x r ih=>have:=one_le x;simp only[Rows.uptoBulkAll,List.length_cons];omega
def Sized (P:Program) (t:TypeId) (d:DataW H):Prop:=(∀m∈d.weights P t,m<=reachBytes)/\Rows.uptoBulk d<=1048576
def Opens (enc:TypeId × Value->H) (P:Program) (w:World) (f:Nat) (t:TypeId) (sz:Nat) {α:Type} (R:List Value->α->Prop) (Z:α->Prop):Prop:=
 ∀(cs:List Value) (d:DataW H) (ps:List MemPlace),DataW.trod enc P w 0 (λ_=>true) true f t cs=some (d,ps)->Sized P t d->∃a,R cs a/\cs.length=sz/\Z a
theorem weightsAll_mem {e:TypeId}:∀{l:List (DataW H)} {d:DataW H},d∈l->∀m∈d.weights P e,m∈DataW.weightsAll P e l
 | x::r,d,hd,m,hm=>by
  rw[DataW.weightsAll,List.mem_append]
  rcases List.mem_cons.1 hd with h|h
  ·left;rw[←h];exact hm
  ·right;exact weightsAll_mem h m hm
theorem weightsEach_mem:∀{ts:List TypeId} {ds:List (DataW H)} {i:Nat} {t:TypeId} {d:DataW H},ts[i]?=some t->ds[i]?=some d->∀m∈d.weights P t,m∈DataW.weightsEach P ts ds:=λht hd m hm=>DataW.weights_mem_each ht hd m hm
theorem Sized.field {t u:TypeId} {fs:Array Field} {parts:List (DataW H)} (h:Sized P t (.agg parts)) (hu:P.underlying t=some (.struct fs)) {i:Nat} {d:DataW H} (ht:(fs.toList.map (·.type))[i]?=some u) (hd:parts[i]?=some d):Sized P u d:=by
 refine⟨λm hm=>h.1 m ?_,?_⟩
 ·simp only[DataW.weights,hu]
  exact weightsEach_mem ht hd m hm
 ·have h1:=part_le (List.mem_of_getElem? hd)
  have h2:=h.2
  simp only[Rows.uptoBulk]at h2
  omega
theorem sized_str {t:TypeId} {s:ByteArray} (h:Sized P t (.lit (.string s.data.toList):DataW H)):s.size<=1048576:=by
 have:=h.2
 simp only[Rows.uptoBulk]at this
 rw[size_toList]at this
 omega
theorem open_list {w:World} {f F:Nat} {t e:TypeId} {sz:Nat} {α:Type} {R:List Value->α->Prop} {Z:α->Prop} (ht:P.underlying t=some (.slice e)) (hc:P.cellsOf e=sz) (hsz:0<sz) (hf:f<=F+1)
  (he:Opens enc P w F e sz R Z) {cs:List Value} {d:DataW H} {ps:List MemPlace} (h:DataW.trod enc P w 0 (λ_=>true) true f t cs=some (d,ps)) (hs:Sized P t d) :
  ∃(l:List α) (A:Option Addr) (c:Nat),cs=[.slice A l.length c]/\l.length<=c/\RdL sz R w A l/\(∀a∈l,Z a)/\c*P.bytesOf e<=reachBytes/\l.length<=1048576:=by
 rcases DataW.trod_slice ht h with ⟨hv,hx⟩|⟨a,len,cap,elems,rest,n,rfl,rfl,hx,hb,hl,hm,hlen,hel,hsp,hns⟩
 ·exact⟨[],none,0,hv,Nat.le_refl _,RdL.nil _ _ _ _,(by intro a ha;simp at ha),(by simp),(by simp)⟩
 ·have hd:d=.slice (elems.map (·.1)) (rest.map (·.1)):=congrArg Prod.fst hx
  subst hd
  have hcap:cap*P.bytesOf e<=reachBytes:=by
   have:=hs.1 (((elems.map (·.1)).length+(rest.map (·.1)).length)*P.bytesOf e) (by simp[DataW.weights,ht])
   rw[List.length_map,List.length_map,hlen,(hsp rfl).1]at this
   rwa [show len+(cap-len)=cap by omega]at this
  have hsm:len<=1048576:=by
   have h1:=hs.2
   have h2:=len_le (elems.map (·.1))
   simp only[Rows.uptoBulk]at h1
   rw[List.length_map]at h2
   omega
  by_cases h0:len=0
  ·subst h0
   exact⟨[],some a,cap,rfl,hl,RdL.nil _ _ _ _,(by intro a ha;simp at ha),hcap,(by simp)⟩
  have hspot:∃b o,a=⟨b,o,none⟩:=by
   obtain⟨y,hy⟩:∃y,elems[0]?=some y:=⟨_,List.getElem?_eq_getElem (by omega)⟩
   have hk2:=hel 0 (by omega)
   rw[hy,Option.bind_eq_some_iff]at hk2
   obtain⟨ds,hcs,htr⟩:=hk2
   obtain⟨_,hdl,hcell⟩:=World.cells?_some hcs
   have h1:=hcell 0 (by omega)
   rw[List.getElem?_eq_getElem (by omega)]at h1
   have h2:=World.cell?_spot h1
   obtain⟨b,o,s⟩:=a
   have h3:s=none:=by simpa[Addr.add] using h2
   exact⟨b,o,by rw[h3]⟩
  obtain⟨b,o,rfl⟩:=hspot
  have step:∀k,k<=len->∃(l:List α) (xs:List Value),l.length=k/\All sz R xs l/\(∀a∈l,Z a)/\∀j u,xs[j]?=some u->w.cell? ⟨b,o+j,none⟩=some u:=by
   intro k
   induction k with
   | zero=>exact λ_=>⟨[],[],rfl,rfl,(by intro a ha;simp at ha),λj u hu=>by simp at hu⟩
   | succ k ih =>
    intro hk
    obtain⟨l,xs,h1,h2,h3,h4⟩:=ih (by omega)
    obtain⟨y,hy⟩:∃y,elems[k]?=some y:=⟨_,List.getElem?_eq_getElem (by omega)⟩
    have hk2:=hel k (by omega)
    rw[hy,Option.bind_eq_some_iff]at hk2
    obtain⟨ds,hcs,htr⟩:=hk2
    obtain⟨_,hdl,hcell⟩:=World.cells?_some hcs
    have hsy:Sized P e y.1:=⟨λm hm=>hs.1 m (by
     simp only[DataW.weights,ht,List.mem_cons,List.mem_append]
     exact .inr (.inl (weightsAll_mem (List.mem_map_of_mem (List.mem_of_getElem? hy)) m hm))),by
      have h1:=hs.2
      have h2:=part_le (List.mem_map_of_mem (f:=(·.1)) (List.mem_of_getElem? hy))
      simp only[Rows.uptoBulk]at h1
      omega⟩
    obtain⟨x,hx1,hx2,hx3⟩:=he ds y.1 y.2 (DataW.trod_le (by omega) htr) hsy
    rw[hc]at hdl hcell
    refine⟨l++[x],xs++ds,by simp[h1],h2.append (All.one hx2 hx1),?_,?_⟩
    ·intro z hz
     rcases List.mem_append.1 hz with hz|hz
     ·exact h3 z hz
     ·simp only[List.mem_singleton]at hz;rw[hz];exact hx3
    ·intro j u hu
     have hxl:xs.length=k*sz:=by rw[h2.len,h1]
     by_cases hj:j<k*sz
     ·rw[List.getElem?_append_left (by omega)]at hu
      exact h4 j u hu
     ·rw[List.getElem?_append_right (by omega),hxl]at hu
      have hj2:j-k*sz<sz:=by
       have:=(List.getElem?_eq_some_iff.1 hu).1
       omega
      have h5:=hcell (j-k*sz) hj2
      rw[hu,add_zero_spot,add_zero_spot]at h5
      rw[show o+j=o+k*sz+(j-k*sz) by omega]
      exact h5
  obtain⟨l,xs,h1,h2,h3,h4⟩:=step len (Nat.le_refl _)
  subst h1
  exact⟨l,some ⟨b,o,none⟩,cap,rfl,hl,⟨xs,.inr ⟨b,o,rfl,h4⟩,h2⟩,h3,hcap,hsm⟩
theorem sized_arg {P:Program} {ts:List TypeId} {ds:List (DataW H)} {j:Nat} {t:TypeId} {d:DataW H} (hreach:(DataW.weightsEach P ts ds).all (· <= reachBytes)=true) (hk:Rows.uptoSmall H ds=true) (htj:ts[j]?=some t) (hdj:ds[j]?=some d):Sized P t d:=by
 refine⟨λm hm=>?_,?_⟩
 ·have:=List.all_eq_true.1 hreach m (DataW.weights_mem_each htj hdj m hm)
  simpa using this
 ·have h1:Rows.uptoBulkAll ds<=1048576:=by unfold Rows.uptoSmall at hk;exact of_decide_eq_true hk
  exact Nat.le_trans (part_le (List.mem_of_getElem? hdj)) h1
theorem opens_str (w:World) (f:Nat):Opens enc Tryz.prog w f 9 1 (λcs (s:ByteArray)=>cs=[.string s]) (λs=>s.size<=1048576):=by
 intro cs d ps h hs
 obtain⟨s,rfl,hx,_⟩:=DataW.trod_string Tryz.underlying9 h
 have hd:d=.lit (.string s.data.toList):=congrArg Prod.fst hx
 subst hd
 exact⟨s,rfl,rfl,sized_str hs⟩
theorem opens_term (w:World) (f:Nat):Opens enc Tryz.prog w f 76 4 (λcs (t:Tm)=>cs=tmC t) szTu:=by
 intro cs d ps h hs
 obtain⟨xs,n,_,hx,hl,hlen,hf⟩:=DataW.trod_struct Tryz.underlying76 h
 have hd:d=.agg (xs.map (·.1)):=congrArg Prod.fst hx
 subst hd
 have hc:Tryz.prog.cellsOf 76=4:=by kernel_rfl
 have c1:Tryz.prog.cellsOf 9=1:=by kernel_rfl
 have c0:Tryz.prog.cellsOf 74=1:=by kernel_rfl
 rw[hc]at hl
 match cs,hl,xs,hlen with
 | [v0,v1,v2,v3],_,[y0,y1,y2,y3],_ =>
  have g0:=hf 0 _ rfl
  have g1:=hf 1 _ rfl
  have g2:=hf 2 _ rfl
  have g3:=hf 3 _ rfl
  simp[c0,c1]at g0 g1 g2 g3
  obtain⟨k,e0,_,_⟩:=DataW.trod_int Tryz.underlying74 g0
  obtain⟨x,e1,q1,_⟩:=DataW.trod_string Tryz.underlying9 g1
  obtain⟨l,e2,q2,_⟩:=DataW.trod_string Tryz.underlying9 g2
  obtain⟨y,e3,q3,_⟩:=DataW.trod_string Tryz.underlying9 g3
  simp at e0 e1 e2 e3
  refine⟨⟨k,x,l,y⟩,by simp[tmC,e0,e1,e2,e3],rfl,?_⟩
  have hs1:Sized Tryz.prog 9 y1.1:=hs.field Tryz.underlying76 (i:=1) rfl rfl
  have hs2:Sized Tryz.prog 9 y2.1:=hs.field Tryz.underlying76 (i:=2) rfl rfl
  have hs3:Sized Tryz.prog 9 y3.1:=hs.field Tryz.underlying76 (i:=3) rfl rfl
  rw[q1]at hs1
  rw[q2]at hs2
  rw[q3]at hs3
  exact⟨sized_str hs1,sized_str hs2,sized_str hs3⟩
theorem opens_expr (w:World):∀f:Nat,Opens enc Tryz.prog w f 78 7 (RdE f w) (szU f)
 | 0=>by intro cs d ps h _;simp[DataW.trod]at h
 | f+1=>by
  intro cs d ps h hs
  have ih:=opens_expr w f
  obtain⟨xs,n,hfn,hx,hl,hlen,hf⟩:=DataW.trod_struct Tryz.underlying78 h
  obtain rfl:f=n:=by omega
  have hd:d=.agg (xs.map (·.1)):=congrArg Prod.fst hx
  subst hd
  have hc:Tryz.prog.cellsOf 78=7:=by kernel_rfl
  have c1:Tryz.prog.cellsOf 9=1:=by kernel_rfl
  have c0:Tryz.prog.cellsOf 73=1:=by kernel_rfl
  have c2:Tryz.prog.cellsOf 76=4:=by kernel_rfl
  have c3:Tryz.prog.cellsOf 27=1:=by kernel_rfl
  rw[hc]at hl
  match cs,hl,xs,hlen with
  | [v0,v1,v2,v3,v4,v5,v6],_,[y0,y1,y2,y3],_ =>
   have g0:=hf 0 _ rfl
   have g1:=hf 1 _ rfl
   have g2:=hf 2 _ rfl
   have g3:=hf 3 _ rfl
   simp[c0,c1,c2,c3]at g0 g1 g2 g3
   obtain⟨k,e0,_,_⟩:=DataW.trod_int Tryz.underlying73 g0
   obtain⟨s,e1,q1,_⟩:=DataW.trod_string Tryz.underlying9 g1
   have hs1:Sized Tryz.prog 9 y1.1:=hs.field Tryz.underlying78 (i:=1) rfl rfl
   have hs2:Sized Tryz.prog 76 y2.1:=hs.field Tryz.underlying78 (i:=2) rfl rfl
   have hs3:Sized Tryz.prog 27 y3.1:=hs.field Tryz.underlying78 (i:=3) rfl rfl
   obtain⟨t,e2,_,zt⟩:=opens_term w f _ y2.1 y2.2 g2 hs2
   obtain⟨l,A,c,e3,hle,hrd,hz,hcap,hsm⟩:=open_list Tryz.underlying27 hc (by omega) (Nat.le_succ f) ih (d:=y3.1) (ps:=y3.2) g3 hs3
   rw[q1]at hs1
   simp[tmC]at e0 e1 e2 e3
   obtain⟨e2a,e2b,e2c,e2d⟩:=e2
   refine⟨(k,s,t,l),⟨A,c,?_,hle,hrd⟩,rfl,sized_str hs1,zt,hsm,hz⟩
   rw[e0,e1,e2a,e2b,e2c,e2d,e3]
theorem opens_slot (w:World) (f:Nat):Opens enc Tryz.prog w f 122 5 (λcs (s:Sl)=>cs=slC s) szSu:=by
 intro cs d ps h hs
 obtain⟨xs,n,_,hx,hl,hlen,hf⟩:=DataW.trod_struct Tryz.underlying122 h
 have hd:d=.agg (xs.map (·.1)):=congrArg Prod.fst hx
 subst hd
 have hc:Tryz.prog.cellsOf 122=5:=by kernel_rfl
 have c1:Tryz.prog.cellsOf 9=1:=by kernel_rfl
 have c2:Tryz.prog.cellsOf 76=4:=by kernel_rfl
 rw[hc]at hl
 match cs,hl,xs,hlen with
 | [v0,v1,v2,v3,v4],_,[y0,y1],_ =>
  have g0:=hf 0 _ rfl
  have g1:=hf 1 _ rfl
  simp[c1,c2]at g0 g1
  have hs1:Sized Tryz.prog 76 y1.1:=hs.field Tryz.underlying122 (i:=1) rfl rfl
  have hs0:Sized Tryz.prog 9 y0.1:=hs.field Tryz.underlying122 (i:=0) rfl rfl
  obtain⟨v,e0,q0,_⟩:=DataW.trod_string Tryz.underlying9 g0
  rw[q0]at hs0
  obtain⟨t,e1,_,zt⟩:=opens_term w _ _ y1.1 y1.2 g1 hs1
  simp[tmC]at e0 e1
  obtain⟨e1a,e1b,e1c,e1d⟩:=e1
  exact⟨⟨v,t⟩,by simp[slC,e0,e1a,e1b,e1c,e1d],rfl,sized_str hs0,zt⟩
theorem opens_pat (w:World) (f:Nat):Opens enc Tryz.prog w f 124 15 (λcs (p:Pat)=>cs=cPat p) szPu:=by
 intro cs d ps h hs
 obtain⟨xs,n,_,hx,hl,hlen,hf⟩:=DataW.trod_struct Tryz.underlying124 h
 have hd:d=.agg (xs.map (·.1)):=congrArg Prod.fst hx
 subst hd
 have hc:Tryz.prog.cellsOf 124=15:=by kernel_rfl
 have c1:Tryz.prog.cellsOf 122=5:=by kernel_rfl
 rw[hc]at hl
 match cs,hl,xs,hlen with
 | [v0,v1,v2,v3,v4,v5,v6,v7,v8,v9,v10,v11,v12,v13,v14],_,[y0,y1,y2],_ =>
  have g0:=hf 0 _ rfl
  have g1:=hf 1 _ rfl
  have g2:=hf 2 _ rfl
  simp[c1]at g0 g1 g2
  obtain⟨s,e0,_,z0⟩:=opens_slot w _ _ y0.1 y0.2 g0 (hs.field Tryz.underlying124 (i:=0) rfl rfl)
  obtain⟨p,e1,_,z1⟩:=opens_slot w _ _ y1.1 y1.2 g1 (hs.field Tryz.underlying124 (i:=1) rfl rfl)
  obtain⟨o,e2,_,z2⟩:=opens_slot w _ _ y2.1 y2.2 g2 (hs.field Tryz.underlying124 (i:=2) rfl rfl)
  simp[slC]at e0 e1 e2
  refine⟨⟨s,p,o⟩,?_,rfl,z0,z1,z2⟩
  simp[cPat,e0,e1,e2]
theorem opens_key (w:World) (f:Nat):Opens enc Tryz.prog w f 72 2 (λcs (y:Ky)=>cs=[.string y.v,.bool y.d]) (λy=>y.v.size<=1048576):=by
 intro cs d ps h hs
 obtain⟨xs,n,_,hx,hl,hlen,hf⟩:=DataW.trod_struct Tryz.underlying72 h
 have hd:d=.agg (xs.map (·.1)):=congrArg Prod.fst hx
 subst hd
 have hc:Tryz.prog.cellsOf 72=2:=by kernel_rfl
 have c1:Tryz.prog.cellsOf 9=1:=by kernel_rfl
 have c2:Tryz.prog.cellsOf 4=1:=by kernel_rfl
 rw[hc]at hl
 match cs,hl,xs,hlen with
 | [v0,v1],_,[y0,y1],_ =>
  have g0:=hf 0 _ rfl
  have g1:=hf 1 _ rfl
  simp[c1,c2]at g0 g1
  have hs0:Sized Tryz.prog 9 y0.1:=hs.field Tryz.underlying72 (i:=0) rfl rfl
  obtain⟨s,e0,q0,_⟩:=DataW.trod_string Tryz.underlying9 g0
  rw[q0]at hs0
  obtain⟨b,e1,_⟩:=DataW.trod_bool Tryz.underlying4 g1
  simp at e0 e1
  exact⟨⟨s,b⟩,by simp[e0,e1],rfl,sized_str hs0⟩
theorem opens_query (w:World) (f:Nat):Opens enc Tryz.prog w (f+1) 30 8 (λcs (q:Qy f)=>RdQ f w cs q) (λq=>szQu q):=by
 intro cs d ps h hs
 obtain⟨xs,n,hfn,hx,hl,hlen,hf⟩:=DataW.trod_struct Tryz.underlying30 h
 obtain rfl:f=n:=by omega
 have hd:d=.agg (xs.map (·.1)):=congrArg Prod.fst hx
 subst hd
 have hc:Tryz.prog.cellsOf 30=8:=by kernel_rfl
 have c0:Tryz.prog.cellsOf 4=1:=by kernel_rfl
 have c1:Tryz.prog.cellsOf 22=1:=by kernel_rfl
 have c2:Tryz.prog.cellsOf 26=1:=by kernel_rfl
 have c3:Tryz.prog.cellsOf 27=1:=by kernel_rfl
 have c4:Tryz.prog.cellsOf 28=1:=by kernel_rfl
 have c5:Tryz.prog.cellsOf 3=1:=by kernel_rfl
 rw[hc]at hl
 match cs,hl,xs,hlen with
 | [v0,v1,v2,v3,v4,v5,v6,v7],_,[y0,y1,y2,y3,y4,y5,y6,y7],_ =>
  have g0:=hf 0 _ rfl
  have g1:=hf 1 _ rfl
  have g2:=hf 2 _ rfl
  have g3:=hf 3 _ rfl
  have g4:=hf 4 _ rfl
  have g5:=hf 5 _ rfl
  have g6:=hf 6 _ rfl
  have g7:=hf 7 _ rfl
  simp[c0,c1,c2,c3,c4,c5]at g0 g1 g2 g3 g4 g5 g6 g7
  obtain⟨ask,e0,_⟩:=DataW.trod_bool Tryz.underlying4 g0
  obtain⟨dist,e1,_⟩:=DataW.trod_bool Tryz.underlying4 g1
  obtain⟨l2,A2,k2,e2,hle2,⟨ws,hrd2,ha2⟩,hz2,hcap2,hsm2⟩:=open_list (F:=f) Tryz.underlying22 (by kernel_rfl) (by omega) (Nat.le_succ f) (opens_str w f) (d:=y2.1) (ps:=y2.2) g2 (hs.field Tryz.underlying30 (i:=2) rfl rfl)
  obtain⟨l3,A3,k3,e3,hle3,hrd3,hz3,hcap3,hsm3⟩:=open_list (F:=f) Tryz.underlying26 (by kernel_rfl) (by omega) (Nat.le_succ f) (opens_pat w f) (d:=y3.1) (ps:=y3.2) g3 (hs.field Tryz.underlying30 (i:=3) rfl rfl)
  obtain⟨l4,A4,k4,e4,hle4,hrd4,hz4,hcap4,hsm4⟩:=open_list (F:=f) Tryz.underlying27 (by kernel_rfl) (by omega) (Nat.le_succ f) (opens_expr w f) (d:=y4.1) (ps:=y4.2) g4 (hs.field Tryz.underlying30 (i:=4) rfl rfl)
  obtain⟨l5,A5,k5,e5,hle5,hrd5,hz5,hcap5,hsm5⟩:=open_list (F:=f) Tryz.underlying28 (by kernel_rfl) (by omega) (Nat.le_succ f) (opens_key w f) (d:=y5.1) (ps:=y5.2) g5 (hs.field Tryz.underlying30 (i:=5) rfl rfl)
  obtain⟨lim,e6,_,_⟩:=DataW.trod_int Tryz.underlying3 g6
  obtain⟨off,e7,_,_⟩:=DataW.trod_int Tryz.underlying3 g7
  simp at e0 e1 e2 e3 e4 e5 e6 e7
  have hx2:=ha2.flat (f:=λs=>[Value.string s])
  have hm:l2.flatMap (λs=>[Value.string s])=l2.map Value.string:=by
   exact List.map_eq_flatMap.symm
  rw[hm]at hx2
  subst hx2
  refine⟨⟨ask,dist,l2,l3,l4,l5,lim,off⟩,⟨A2,A3,A4,A5,k2,k3,k4,k5,?_,⟨hle2,hle3,hle4,hle5⟩,hrd2,hrd3,hrd4,hrd5⟩,rfl,hsm2,hsm3,hsm4,hsm5,hz2,hz3,hz4,hz5⟩
  rw[e0,e1,e2,e3,e4,e5,e6,e7]
theorem arg_query {r:Reach} {b0:Nat} {w:World} {v:Value} {d:DataW H} {ps:List MemPlace} (hv:Value.okWide Tryz.prog w r b0 30 v) (hd:DataW.Trod enc Tryz.prog w 0 (λ_=>true) true 30 v d ps) (hs:Sized Tryz.prog 30 d) :
  ∃(n:Nat) (q:Qy n) (cs:List Value),v=.agg cs.toArray/\RdQ n w cs q/\szQu q:=by
 obtain⟨cs,rfl,hsz⟩:=okWide_struct Tryz.underlying30 hv
 obtain⟨fuel,hf⟩:=hd
 obtain⟨q,e,_,z⟩:=opens_query w fuel cs.toList d ps (DataW.trod_le (Nat.le_succ _) hf) hs
 exact⟨fuel,q,cs.toList,rfl,e,z⟩
end
end Up
end Go.Proofs.YtoejnneknpoanaaGreatDoor
