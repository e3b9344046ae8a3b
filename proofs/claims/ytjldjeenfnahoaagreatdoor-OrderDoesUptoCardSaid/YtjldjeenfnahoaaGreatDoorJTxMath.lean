/- Arguments of small bulk, opened: lists, terms, conditions, q -/
import Derived.Test.YtjldjeenfnahoaaGreatDoorJSizeU
import Derived.Lib.SmallJoins
set_option maxRecDepth 100000
namespace Go.Proofs.YtjldjeenfnahoaaGreatDoor
open Go Go.ChangeShapes Go.WideShapes Go.ChangeAt Go.RowKit Go.Lib Go.Joins Go.Deep Fm
namespace Up
section
variable {H:Type} {enc:TypeId × Value->H} {P:Program}
theorem Cy {H:Type} (d:DataW H):1<=Rows.uptoBulk d:=by
 cases d with
 | lit l=>cases l<;>simp[Rows.uptoBulk]
 | nil=>simp[Rows.uptoBulk]
 | ptr d=>simp[Rows.uptoBulk]
 | slice elems spare=>simp[Rows.uptoBulk]
 | agg parts=>simp[Rows.uptoBulk]
 | iface t d=>simp[Rows.uptoBulk]
 | map entries=>simp[Rows.uptoBulk]
 | held h=>simp[Rows.uptoBulk]
theorem oM {H:Type} {d:DataW H} {l:List (DataW H)} (h:d∈l):Rows.uptoBulk d<=Rows.uptoBulkAll l:=by
 induction l with
 | nil=>cases h
 | cons x r ih =>
  simp only[Rows.uptoBulkAll]
  cases List.mem_cons.1 h with
  | inl e=>subst e;omega
  | inr e=>have:=ih e;omega
theorem CH {H:Type} (l:List (DataW H)):l.length<=Rows.uptoBulkAll l:=by
 induction l with
 | nil=>simp[Rows.uptoBulkAll]
 | cons x r ih=>have:=Cy x;simp only[Rows.uptoBulkAll,List.length_cons];omega
def cX (P:Program) (t:TypeId) (d:DataW H):Prop:=(∀m∈d.weights P t,m<=reachBytes)/\Rows.uptoBulk d<=1048576
def gU (enc:TypeId × Value->H) (P:Program) (w:World) (f:Nat) (t:TypeId) (sz:Nat) {α:Type} (R:List Value->α->Prop) (Z:α->Prop):Prop:=
 ∀(cs:List Value) (d:DataW H) (ps:List MemPlace),DataW.trod enc P w 0 (λ_=>true) true f t cs=some (d,ps)->cX P t d->∃a,R cs a/\cs.length=sz/\Z a
theorem fJ {e:TypeId}:∀{l:List (DataW H)} {d:DataW H},d∈l->∀m∈d.weights P e,m∈DataW.weightsAll P e l
 | x::r,d,hd,m,hm=>by
  rw[DataW.weightsAll,List.mem_append]
  rcases List.mem_cons.1 hd with h|h
  ·left;rw[←h];exact hm
  ·right;exact fJ h m hm
theorem kp:∀{ts:List TypeId} {ds:List (DataW H)} {i:Nat} {t:TypeId} {d:DataW H},ts[i]?=some t->ds[i]?=some d->∀m∈d.weights P t,m∈DataW.weightsEach P ts ds:=λht hd m hm=>DataW.weights_mem_each ht hd m hm
theorem cX.field {t u:TypeId} {fs:Array Field} {parts:List (DataW H)} (h:cX P t (.agg parts)) (hu:P.underlying t=some (.struct fs)) {i:Nat} {d:DataW H} (ht:(fs.toList.map (·.type))[i]?=some u) (hd:parts[i]?=some d):cX P u d:=by
 refine⟨λm hm=>h.1 m ?_,?_⟩
 ·simp only[DataW.weights,hu]
  exact kp ht hd m hm
 ·have h1:=oM (List.mem_of_getElem? hd)
  have h2:=h.2
  simp only[Rows.uptoBulk]at h2
  omega
theorem db {t:TypeId} {s:ByteArray} (h:cX P t (.lit (.string s.data.toList):DataW H)):s.size<=1048576:=by
 have:=h.2
 simp only[Rows.uptoBulk]at this
 rw[ac]at this
 omega
theorem open_list {w:World} {f F:Nat} {t e:TypeId} {sz:Nat} {α:Type} {R:List Value->α->Prop} {Z:α->Prop} (ht:P.underlying t=some (.slice e)) (hc:P.cellsOf e=sz) (hsz:0<sz) (hf:f<=F+1)
  (he:gU enc P w F e sz R Z) {cs:List Value} {d:DataW H} {ps:List MemPlace} (h:DataW.trod enc P w 0 (λ_=>true) true f t cs=some (d,ps)) (hs:cX P t d) :
  ∃(l:List α) (A:Option Addr) (c:Nat),cs=[.slice A l.length c]/\l.length<=c/\RdL sz R w A l/\(∀a∈l,Z a)/\c*P.bytesOf e<=reachBytes/\l.length<=1048576:=by
 rcases DataW.trod_slice ht h with ⟨hv,hx⟩|⟨a,len,cap,elems,rest,n,rfl,rfl,hx,hb,hl,hm,hlen,hel,hsp,hns⟩
 ·exact⟨[],none,0,hv,Nat.le_refl _,RdL.nil _ _ _ _,(by intro a ha;simp at ha),(by simp),(by simp)⟩
 ·have hd:d=.slice (elems.map (·.1)) (rest.map (·.1)):=congrArg Prod.fst hx
  subst hd
  have hcap:cap*P.bytesOf e<=reachBytes:=by
   have:=hs.1 (((elems.map (·.1)).length+(rest.map (·.1)).length)*P.bytesOf e) (by simp[DataW.weights,ht])
   rw[List.length_map,List.length_map,hlen,(hsp rfl).1]at this
   rwa [show len+(cap-len)=cap by omega]at this
  have hsm:len<=1048576:=by
   have h1:=hs.2
   have h2:=CH (elems.map (·.1))
   simp only[Rows.uptoBulk]at h1
   rw[List.length_map]at h2
   omega
  by_cases h0:len=0
  ·subst h0
   exact⟨[],some a,cap,rfl,hl,RdL.nil _ _ _ _,(by intro a ha;simp at ha),hcap,(by simp)⟩
  have hspot:∃b o,a=⟨b,o,none⟩:=by
   obtain⟨y,hy⟩:∃y,elems[0]?=some y:=⟨_,List.getElem?_eq_getElem (by omega)⟩
   have hk2:=hel 0 (by omega)
   rw[hy,Option.bind_eq_some_iff]at hk2
   obtain⟨ds,hcs,htr⟩:=hk2
   obtain⟨_,hdl,hcell⟩:=World.cells?_some hcs
   have h1:=hcell 0 (by omega)
   rw[List.getElem?_eq_getElem (by omega)]at h1
   have h2:=World.cell?_spot h1
   obtain⟨b,o,s⟩:=a
   have h3:s=none:=by simpa[Addr.add] using h2
   exact⟨b,o,by rw[h3]⟩
  obtain⟨b,o,rfl⟩:=hspot
  have step:∀k,k<=len->∃(l:List α) (xs:List Value),l.length=k/\All sz R xs l/\(∀a∈l,Z a)/\∀j u,xs[j]?=some u->w.cell? ⟨b,o+j,none⟩=some u:=by
   intro k
   induction k with
   | zero=>exact λ_=>⟨[],[],rfl,rfl,(by intro a ha;simp at ha),λj u hu=>by simp at hu⟩
   | succ k ih =>
    intro hk
    obtain⟨l,xs,h1,h2,h3,h4⟩:=ih (by omega)
    obtain⟨y,hy⟩:∃y,elems[k]?=some y:=⟨_,List.getElem?_eq_getElem (by omega)⟩
    have hk2:=hel k (by omega)
    rw[hy,Option.bind_eq_some_iff]at hk2
    obtain⟨ds,hcs,htr⟩:=hk2
    obtain⟨_,hdl,hcell⟩:=World.cells?_some hcs
    have hsy:cX P e y.1:=⟨λm hm=>hs.1 m (by
     simp only[DataW.weights,ht,List.mem_cons,List.mem_append]
     exact .inr (.inl (fJ (List.mem_map_of_mem (List.mem_of_getElem? hy)) m hm))),by
      have h1:=hs.2
      have h2:=oM (List.mem_map_of_mem (f:=(·.1)) (List.mem_of_getElem? hy))
      simp only[Rows.uptoBulk]at h1
      omega⟩
    obtain⟨x,hx1,hx2,hx3⟩:=he ds y.1 y.2 (DataW.trod_le (by omega) htr) hsy
    rw[hc]at hdl hcell
    refine⟨l++[x],xs++ds,by simp[h1],h2.append (All.one hx2 hx1),?_,?_⟩
    ·intro z hz
     rcases List.mem_append.1 hz with hz|hz
     ·exact h3 z hz
     ·simp only[List.mem_singleton]at hz;rw[hz];exact hx3
    ·intro j u hu
     have hxl:xs.length=k*sz:=by rw[h2.len,h1]
     by_cases hj:j<k*sz
     ·rw[List.getElem?_append_left (by omega)]at hu
      exact h4 j u hu
     ·rw[List.getElem?_append_right (by omega),hxl]at hu
      have hj2:j-k*sz<sz:=by
       have:=(List.getElem?_eq_some_iff.1 hu).1
       omega
      have h5:=hcell (j-k*sz) hj2
      rw[hu,bU,bU]at h5
      rw[show o+j=o+k*sz+(j-k*sz) by omega]
      exact h5
  obtain⟨l,xs,h1,h2,h3,h4⟩:=step len (Nat.le_refl _)
  subst h1
  exact⟨l,some ⟨b,o,none⟩,cap,rfl,hl,⟨xs,.inr ⟨b,o,rfl,h4⟩,h2⟩,h3,hcap,hsm⟩
theorem sized_arg {P:Program} {ts:List TypeId} {ds:List (DataW H)} {j:Nat} {t:TypeId} {d:DataW H} (hreach:(DataW.weightsEach P ts ds).all (· <= reachBytes)=true) (hk:Rows.uptoSmall H ds=true) (htj:ts[j]?=some t) (hdj:ds[j]?=some d):cX P t d:=by
 refine⟨λm hm=>?_,?_⟩
 ·have:=List.all_eq_true.1 hreach m (DataW.weights_mem_each htj hdj m hm)
  simpa using this
 ·have h1:Rows.uptoBulkAll ds<=1048576:=by unfold Rows.uptoSmall at hk;exact of_decide_eq_true hk
  exact Nat.le_trans (oM (List.mem_of_getElem? hdj)) h1
theorem nQ (w:World) (f:Nat):gU enc Tryz.prog w f 9 1 (λcs (s:ByteArray)=>cs=[.string s]) (λs=>s.size<=1048576):=by
 intro cs d ps h hs
 obtain⟨s,rfl,hx,_⟩:=DataW.trod_string Tryz.underlying9 h
 have hd:d=.lit (.string s.data.toList):=congrArg Prod.fst hx
 subst hd
 exact⟨s,rfl,rfl,db hs⟩
theorem ia (w:World) (f:Nat):gU enc Tryz.prog w f 65 4 (λcs (t:Tm)=>cs=tmC t) szTu:=by
 intro cs d ps h hs
 obtain⟨xs,n,_,hx,hl,hlen,hf⟩:=DataW.trod_struct Tryz.underlying65 h
 have hd:d=.agg (xs.map (·.1)):=congrArg Prod.fst hx
 subst hd
 have hc:Tryz.prog.cellsOf 65=4:=by kernel_rfl
 have c1:Tryz.prog.cellsOf 9=1:=by kernel_rfl
 have c0:Tryz.prog.cellsOf 63=1:=by kernel_rfl
 rw[hc]at hl
 match cs,hl,xs,hlen with
 | [v0,v1,v2,v3],_,[y0,y1,y2,y3],_ =>
  have g0:=hf 0 _ rfl
  have g1:=hf 1 _ rfl
  have g2:=hf 2 _ rfl
  have g3:=hf 3 _ rfl
  simp[c0,c1]at g0 g1 g2 g3
  obtain⟨k,e0,_,_⟩:=DataW.trod_int Tryz.underlying63 g0
  obtain⟨x,e1,q1,_⟩:=DataW.trod_string Tryz.underlying9 g1
  obtain⟨l,e2,q2,_⟩:=DataW.trod_string Tryz.underlying9 g2
  obtain⟨y,e3,q3,_⟩:=DataW.trod_string Tryz.underlying9 g3
  simp at e0 e1 e2 e3
  refine⟨⟨k,x,l,y⟩,by simp[tmC,e0,e1,e2,e3],rfl,?_⟩
  have hs1:cX Tryz.prog 9 y1.1:=hs.field Tryz.underlying65 (i:=1) rfl rfl
  have hs2:cX Tryz.prog 9 y2.1:=hs.field Tryz.underlying65 (i:=2) rfl rfl
  have hs3:cX Tryz.prog 9 y3.1:=hs.field Tryz.underlying65 (i:=3) rfl rfl
  rw[q1]at hs1
  rw[q2]at hs2
  rw[q3]at hs3
  exact⟨db hs1,db hs2,db hs3⟩
theorem lH (w:World):∀f:Nat,gU enc Tryz.prog w f 67 7 (RdE f w) (szU f)
 | 0=>by intro cs d ps h _;simp[DataW.trod]at h
 | f+1=>by
  intro cs d ps h hs
  have ih:=lH w f
  obtain⟨xs,n,hfn,hx,hl,hlen,hf⟩:=DataW.trod_struct Tryz.underlying67 h
  obtain rfl:f=n:=by omega
  have hd:d=.agg (xs.map (·.1)):=congrArg Prod.fst hx
  subst hd
  have hc:Tryz.prog.cellsOf 67=7:=by kernel_rfl
  have c1:Tryz.prog.cellsOf 9=1:=by kernel_rfl
  have c0:Tryz.prog.cellsOf 62=1:=by kernel_rfl
  have c2:Tryz.prog.cellsOf 65=4:=by kernel_rfl
  have c3:Tryz.prog.cellsOf 27=1:=by kernel_rfl
  rw[hc]at hl
  match cs,hl,xs,hlen with
  | [v0,v1,v2,v3,v4,v5,v6],_,[y0,y1,y2,y3],_ =>
   have g0:=hf 0 _ rfl
   have g1:=hf 1 _ rfl
   have g2:=hf 2 _ rfl
   have g3:=hf 3 _ rfl
   simp[c0,c1,c2,c3]at g0 g1 g2 g3
   obtain⟨k,e0,_,_⟩:=DataW.trod_int Tryz.underlying62 g0
   obtain⟨s,e1,q1,_⟩:=DataW.trod_string Tryz.underlying9 g1
   have hs1:cX Tryz.prog 9 y1.1:=hs.field Tryz.underlying67 (i:=1) rfl rfl
   have hs2:cX Tryz.prog 65 y2.1:=hs.field Tryz.underlying67 (i:=2) rfl rfl
   have hs3:cX Tryz.prog 27 y3.1:=hs.field Tryz.underlying67 (i:=3) rfl rfl
   obtain⟨t,e2,_,zt⟩:=ia w f _ y2.1 y2.2 g2 hs2
   obtain⟨l,A,c,e3,hle,hrd,hz,hcap,hsm⟩:=open_list Tryz.underlying27 hc (by omega) (Nat.le_succ f) ih (d:=y3.1) (ps:=y3.2) g3 hs3
   rw[q1]at hs1
   simp[tmC]at e0 e1 e2 e3
   obtain⟨e2a,e2b,e2c,e2d⟩:=e2
   refine⟨(k,s,t,l),⟨A,c,?_,hle,hrd⟩,rfl,db hs1,zt,hsm,hz⟩
   rw[e0,e1,e2a,e2b,e2c,e2d,e3]
theorem ib (w:World) (f:Nat):gU enc Tryz.prog w f 99 5 (λcs (s:Sl)=>cs=slC s) szSu:=by
 intro cs d ps h hs
 obtain⟨xs,n,_,hx,hl,hlen,hf⟩:=DataW.trod_struct Tryz.underlying99 h
 have hd:d=.agg (xs.map (·.1)):=congrArg Prod.fst hx
 subst hd
 have hc:Tryz.prog.cellsOf 99=5:=by kernel_rfl
 have c1:Tryz.prog.cellsOf 9=1:=by kernel_rfl
 have c2:Tryz.prog.cellsOf 65=4:=by kernel_rfl
 rw[hc]at hl
 match cs,hl,xs,hlen with
 | [v0,v1,v2,v3,v4],_,[y0,y1],_ =>
  have g0:=hf 0 _ rfl
  have g1:=hf 1 _ rfl
  simp[c1,c2]at g0 g1
  have hs1:cX Tryz.prog 65 y1.1:=hs.field Tryz.underlying99 (i:=1) rfl rfl
  have hs0:cX Tryz.prog 9 y0.1:=hs.field Tryz.underlying99 (i:=0) rfl rfl
  obtain⟨v,e0,q0,_⟩:=DataW.trod_string Tryz.underlying9 g0
  rw[q0]at hs0
  obtain⟨t,e1,_,zt⟩:=ia w _ _ y1.1 y1.2 g1 hs1
  simp[tmC]at e0 e1
  obtain⟨e1a,e1b,e1c,e1d⟩:=e1
  exact⟨⟨v,t⟩,by simp[slC,e0,e1a,e1b,e1c,e1d],rfl,db hs0,zt⟩
theorem vC (w:World) (f:Nat):gU enc Tryz.prog w f 101 15 (λcs (p:Pat)=>cs=cPat p) szPu:=by
 intro cs d ps h hs
 obtain⟨xs,n,_,hx,hl,hlen,hf⟩:=DataW.trod_struct Tryz.underlying101 h
 have hd:d=.agg (xs.map (·.1)):=congrArg Prod.fst hx
 subst hd
 have hc:Tryz.prog.cellsOf 101=15:=by kernel_rfl
 have c1:Tryz.prog.cellsOf 99=5:=by kernel_rfl
 rw[hc]at hl
 match cs,hl,xs,hlen with
 | [v0,v1,v2,v3,v4,v5,v6,v7,v8,v9,v10,v11,v12,v13,v14],_,[y0,y1,y2],_ =>
  have g0:=hf 0 _ rfl
  have g1:=hf 1 _ rfl
  have g2:=hf 2 _ rfl
  simp[c1]at g0 g1 g2
  obtain⟨s,e0,_,z0⟩:=ib w _ _ y0.1 y0.2 g0 (hs.field Tryz.underlying101 (i:=0) rfl rfl)
  obtain⟨p,e1,_,z1⟩:=ib w _ _ y1.1 y1.2 g1 (hs.field Tryz.underlying101 (i:=1) rfl rfl)
  obtain⟨o,e2,_,z2⟩:=ib w _ _ y2.1 y2.2 g2 (hs.field Tryz.underlying101 (i:=2) rfl rfl)
  simp[slC]at e0 e1 e2
  refine⟨⟨s,p,o⟩,?_,rfl,z0,z1,z2⟩
  simp[cPat,e0,e1,e2]
theorem vD (w:World) (f:Nat):gU enc Tryz.prog w f 61 2 (λcs (y:Ky)=>cs=[.string y.v,.bool y.d]) (λy=>y.v.size<=1048576):=by
 intro cs d ps h hs
 obtain⟨xs,n,_,hx,hl,hlen,hf⟩:=DataW.trod_struct Tryz.underlying61 h
 have hd:d=.agg (xs.map (·.1)):=congrArg Prod.fst hx
 subst hd
 have hc:Tryz.prog.cellsOf 61=2:=by kernel_rfl
 have c1:Tryz.prog.cellsOf 9=1:=by kernel_rfl
 have c2:Tryz.prog.cellsOf 4=1:=by kernel_rfl
 rw[hc]at hl
 match cs,hl,xs,hlen with
 | [v0,v1],_,[y0,y1],_ =>
  have g0:=hf 0 _ rfl
  have g1:=hf 1 _ rfl
  simp[c1,c2]at g0 g1
  have hs0:cX Tryz.prog 9 y0.1:=hs.field Tryz.underlying61 (i:=0) rfl rfl
  obtain⟨s,e0,q0,_⟩:=DataW.trod_string Tryz.underlying9 g0
  rw[q0]at hs0
  obtain⟨b,e1,_⟩:=DataW.trod_bool Tryz.underlying4 g1
  simp at e0 e1
  exact⟨⟨s,b⟩,by simp[e0,e1],rfl,db hs0⟩
theorem qx (w:World) (f:Nat):gU enc Tryz.prog w (f+1) 30 8 (λcs (q:Qy f)=>RdQ f w cs q) (λq=>uQ q):=by
 intro cs d ps h hs
 obtain⟨xs,n,hfn,hx,hl,hlen,hf⟩:=DataW.trod_struct Tryz.underlying30 h
 obtain rfl:f=n:=by omega
 have hd:d=.agg (xs.map (·.1)):=congrArg Prod.fst hx
 subst hd
 have hc:Tryz.prog.cellsOf 30=8:=by kernel_rfl
 have c0:Tryz.prog.cellsOf 4=1:=by kernel_rfl
 have c1:Tryz.prog.cellsOf 22=1:=by kernel_rfl
 have c2:Tryz.prog.cellsOf 26=1:=by kernel_rfl
 have c3:Tryz.prog.cellsOf 27=1:=by kernel_rfl
 have c4:Tryz.prog.cellsOf 28=1:=by kernel_rfl
 have c5:Tryz.prog.cellsOf 3=1:=by kernel_rfl
 rw[hc]at hl
 match cs,hl,xs,hlen with
 | [v0,v1,v2,v3,v4,v5,v6,v7],_,[y0,y1,y2,y3,y4,y5,y6,y7],_ =>
  have g0:=hf 0 _ rfl
  have g1:=hf 1 _ rfl
  have g2:=hf 2 _ rfl
  have g3:=hf 3 _ rfl
  have g4:=hf 4 _ rfl
  have g5:=hf 5 _ rfl
  have g6:=hf 6 _ rfl
  have g7:=hf 7 _ rfl
  simp[c0,c1,c2,c3,c4,c5]at g0 g1 g2 g3 g4 g5 g6 g7
  obtain⟨ask,e0,_⟩:=DataW.trod_bool Tryz.underlying4 g0
  obtain⟨dist,e1,_⟩:=DataW.trod_bool Tryz.underlying4 g1
  obtain⟨l2,A2,k2,e2,hle2,⟨ws,hrd2,ha2⟩,hz2,hcap2,hsm2⟩:=open_list (F:=f) Tryz.underlying22 (by kernel_rfl) (by omega) (Nat.le_succ f) (nQ w f) (d:=y2.1) (ps:=y2.2) g2 (hs.field Tryz.underlying30 (i:=2) rfl rfl)
  obtain⟨l3,A3,k3,e3,hle3,hrd3,hz3,hcap3,hsm3⟩:=open_list (F:=f) Tryz.underlying26 (by kernel_rfl) (by omega) (Nat.le_succ f) (vC w f) (d:=y3.1) (ps:=y3.2) g3 (hs.field Tryz.underlying30 (i:=3) rfl rfl)
  obtain⟨l4,A4,k4,e4,hle4,hrd4,hz4,hcap4,hsm4⟩:=open_list (F:=f) Tryz.underlying27 (by kernel_rfl) (by omega) (Nat.le_succ f) (lH w f) (d:=y4.1) (ps:=y4.2) g4 (hs.field Tryz.underlying30 (i:=4) rfl rfl)
  obtain⟨l5,A5,k5,e5,hle5,hrd5,hz5,hcap5,hsm5⟩:=open_list (F:=f) Tryz.underlying28 (by kernel_rfl) (by omega) (Nat.le_succ f) (vD w f) (d:=y5.1) (ps:=y5.2) g5 (hs.field Tryz.underlying30 (i:=5) rfl rfl)
  obtain⟨lim,e6,_,_⟩:=DataW.trod_int Tryz.underlying3 g6
  obtain⟨off,e7,_,_⟩:=DataW.trod_int Tryz.underlying3 g7
  simp at e0 e1 e2 e3 e4 e5 e6 e7
  have hx2:=ha2.flat (f:=λs=>[Value.string s])
  have hm:l2.flatMap (λs=>[Value.string s])=l2.map Value.string:=by
   exact List.map_eq_flatMap.symm
  rw[hm]at hx2
  subst hx2
  refine⟨⟨ask,dist,l2,l3,l4,l5,lim,off⟩,⟨A2,A3,A4,A5,k2,k3,k4,k5,?_,⟨hle2,hle3,hle4,hle5⟩,hrd2,hrd3,hrd4,hrd5⟩,rfl,hsm2,hsm3,hsm4,hsm5,hz2,hz3,hz4,hz5⟩
  rw[e0,e1,e2,e3,e4,e5,e6,e7]
theorem arg_query {r:Reach} {b0:Nat} {w:World} {v:Value} {d:DataW H} {ps:List MemPlace} (hv:Value.okWide Tryz.prog w r b0 30 v) (hd:DataW.Trod enc Tryz.prog w 0 (λ_=>true) true 30 v d ps) (hs:cX Tryz.prog 30 d) :
  ∃(n:Nat) (q:Qy n) (cs:List Value),v=.agg cs.toArray/\RdQ n w cs q/\uQ q:=by
 obtain⟨cs,rfl,hsz⟩:=okWide_struct Tryz.underlying30 hv
 obtain⟨fuel,hf⟩:=hd
 obtain⟨q,e,_,z⟩:=qx w fuel cs.toList d ps (DataW.trod_le (Nat.le_succ _) hf) hs
 exact⟨fuel,q,cs.toList,rfl,e,z⟩
end
end Up
open Um
theorem l0:∀(n:Nat) (l:List UInt8),l.length<=n->(sgn l).2.2=Lib.validD l
 | 0,l,h=>by
  have:l=[]:=List.eq_nil_of_length_eq_zero (by omega)
  subst this;rfl
 | n+1,l,h=>by
  by_cases hne:l=[]
  ·subst hne;rfl
  ·have hl:0<l.length:=List.length_pos_iff.2 hne
   have hp:=gl l.length (l.getD 0 0).toNat (l.getD 1 0).toNat (l.getD 2 0).toNat (l.getD 3 0).toNat
   rw[Lib.validD_step l hne,Lib.decodeL_N]
   have hnx:nx l=if Lib.decodeN l.length (l.getD 0 0).toNat (l.getD 1 0).toNat (l.getD 2 0).toNat (l.getD 3 0).toNat=(65533,1) then (0,0) else Lib.decodeN l.length (l.getD 0 0).toNat (l.getD 1 0).toNat (l.getD 2 0).toNat (l.getD 3 0).toNat:=by
    unfold nx;rw[if_neg (by omega)]
   generalize Lib.decodeN l.length (l.getD 0 0).toNat (l.getD 1 0).toNat (l.getD 2 0).toNat (l.getD 3 0).toNat=d at *
   obtain⟨a,b⟩:=d
   by_cases hb:a=65533/\b=1
   ·obtain⟨rfl,rfl⟩:=hb
    rw[if_pos rfl]at hnx
    rw[tG l (by omega) (by rw[hnx])]
    simp
   ·rw[if_neg (by simpa using hb)]at hnx
    rw[qf l (by omega) (by rw[hnx];simp only at hp ⊢;omega),hnx]
    rw[if_neg (by simpa using hb)]
    exact l0 n _ (by simp only at hp ⊢;rw[List.length_drop];omega)
theorem kY (s:ByteArray):((gH s.data.toList).2.2 == 0)=aP s:=by
 unfold gH aP
 rw[←l0 _ s.data.toList (Nat.le_refl _)]
 cases (sgn s.data.toList).2.2<;>rfl
theorem mB {s:ByteArray} (h:aP s=true):(gH s.data.toList).2.2=0:=by rw[←kY]at h;exact eq_of_beq h
theorem qe {s:ByteArray} (h:aP s=false):(gH s.data.toList).2.2=11:=by
 rw[←kY]at h
 revert h
 unfold gH
 split<;>simp
def upB (b:UInt8):Bool:=decide (65<=b.toNat) && decide (b.toNat<=90)
def da (l:List UInt8):Bool:=l.all λb => !upB b
theorem qF (b:UInt8) (t:List UInt8) (h:b.toNat<128):Lib.mapD gI (b::t)=(if upB b then UInt8.ofNat (b.toNat+32) else b)::Lib.mapD gI t:=by
 rw[Lib.mapD_step gI (b::t) (by simp),Lib.decodeL_ascii b t h]
 have hlow:0<=gI (b.toNat:Int)/\gI (b.toNat:Int)<=127:=by unfold gI;split<;>omega
 have he:Lib.encodeRune (gI (b.toNat:Int))=[(gI (b.toNat:Int)).toNat.toUInt8]:=by unfold Lib.encodeRune;rw[Lib.encodeRuneZ_one hlow.1 hlow.2];rfl
 simp only[List.drop_succ_cons,List.drop_zero]
 rw[if_pos hlow.1,he]
 simp only[List.cons_append,List.nil_append,List.cons.injEq,and_true]
 unfold gI upB
 by_cases h1:65<=b.toNat
 ·by_cases h2:b.toNat<=90
  ·rw[if_pos (by omega)]
   simp only[h1,h2,decide_true,Bool.and_self,if_true]
   congr 1
  ·rw[if_neg (by omega)]
   simp[h2]
 ·rw[if_neg (by omega)]
  simp[h1]
theorem iQ:∀(l:List UInt8),(∀b∈l,b.toNat<128)->(decide (Lib.mapD gI l=l))=da l
 | [],_=>rfl
 | b::t,h=>by
  have hb:=h b (by simp)
  have ih:=iQ t λx hx=>h x (by simp[hx])
  rw[qF b t hb]
  unfold da at ih ⊢
  rw[List.all_cons,←ih]
  cases hu:upB b
  ·simp
  ·have hne:UInt8.ofNat (b.toNat+32)≠b:=by
    intro e
    have h1:=congrArg UInt8.toNat e
    unfold upB at hu
    simp at hu
    rw[UInt8.toNat_ofNat']at h1
    omega
   simp
theorem rR (s:ByteArray):rS s=(((tag s.data.toList:Int) == s.size) && da s.data.toList):=by
 unfold rS
 cases h:((tag s.data.toList:Int) == s.size)
 ·rfl
 ·have hp:=nz h
  rw[Bool.true_and,Bool.true_and,←iQ]
  ·rw[ByteArray.toList_mk,ByteArray.toList_eq]
   rw[Bool.eq_iff_iff];simp
  ·intro b hb
   obtain⟨i,hi,e⟩:=List.getElem_of_mem hb
   have:=hp i (by rw[←ac];exact hi)
   have e2:s[i]'(by rw[←ac];exact hi)=b:=by rw[←e];cases s;rfl
   rw[e2]at this;exact this
namespace Lx
def Bl (c:Nat):Option Nat:=if 48<=c/\c<=57 then some (c-48) else if 65<=c/\c<=70 then some (c-55) else if 97<=c/\c<=102 then some (c-87) else none
def CM:List UInt8->Nat->Option Nat
 | [],n=>some n
 | c::r,n=>(Bl c.toNat).bind λd=>CM r (16*n+d)
end Lx
end Go.Proofs.YtjldjeenfnahoaaGreatDoor
namespace Go.Proofs.YtjldjeenfnahoaaGreatDoor.Tx
open Go Go.RowKit Um Fm Lx
def hxD (d:Nat):UInt8:=if d<10 then UInt8.ofNat (48+d) else UInt8.ofNat (55+d)
def pq (c:UInt8):Bool:=decide (c.toNat<128) && !eV c.toNat
def el (c:UInt8):List UInt8:=if pq c then [92,117,48,48,hxD (c.toNat / 16),hxD (c.toNat % 16)] else [c]
def aZ (l:List UInt8):List UInt8:=l.flatMap el
def cN (c:UInt8):List UInt8:=if c=34 then [92,34] else if c=92 then [92,92] else if c=10 then [92,110] else if c=13 then [92,114] else [c]
def aj (l:List UInt8):List UInt8:=l.flatMap cN
def bh (t:Tm):List UInt8:=
 if t.k=1 then 60::(aZ t.x.data.toList++[62])
 else if t.k=2 then 95::58::t.x.data.toList
 else if t.k=4 then 34::(aj t.x.data.toList++34::94::94::60::(aZ t.y.data.toList++[62]))
 else if t.l.data.toList=[] then 34::(aj t.x.data.toList++[34])
 else 34::(aj t.x.data.toList++34::64::t.l.data.toList)
def rdF (p:List UInt8->Option Nat):Nat->List UInt8->List UInt8
 | 0,_=>[]
 | _+1,[]=>[]
 | _+1,[c]=>[c]
 | f+1,c::d::r =>
  if c≠92 then c::rdF p f (d::r)
  else if d=117/\(p r).isSome then UInt8.ofNat ((p r).getD 0)::rdF p f (r.drop 4)
  else (if d=110 then 10 else if d=114 then 13 else d)::rdF p f r
def rdG (p:List UInt8->Option Nat) (l:List UInt8):List UInt8:=rdF p (l.length+1) l
theorem fT (p:List UInt8->Option Nat):∀(f g:Nat) (l:List UInt8),l.length<f->l.length<g->rdF p f l=rdF p g l
 | 0,_,_,h,_=>by omega
 | _,0,_,_,h=>by omega
 | f+1,g+1,[],_,_=>rfl
 | f+1,g+1,[c],_,_=>rfl
 | f+1,g+1,c::d::r,h1,h2=>by
  simp only[List.length_cons]at h1 h2
  have e1:=fT p f g (d::r) (by simp;omega) (by simp;omega)
  have e2:=fT p f g r (by omega) (by omega)
  have e3:=fT p f g (r.drop 4) (by simp;omega) (by simp;omega)
  rw[rdF,rdF,e1,e2,e3]
theorem nJ (p:List UInt8->Option Nat) (c:UInt8) (t:List UInt8) (h:c≠92):rdG p (c::t)=c::rdG p t:=by
 cases t with
 | nil=>rfl
 | cons d r=>unfold rdG;rw[rdF,if_pos h];rfl
theorem Dk (p:List UInt8->Option Nat) (n:Nat) (r:List UInt8) (h:p r=some n):rdG p (92::117::r)=UInt8.ofNat n::rdG p (r.drop 4):=by
 unfold rdG
 rw[rdF,if_neg (by simp),if_pos (by rw[h];simp),h]
 simp only[Option.getD_some,List.cons.injEq,true_and]
 exact fT p _ _ _ (by simp;omega) (by simp)
theorem kz (p:List UInt8->Option Nat) (d:UInt8) (r:List UInt8) (h:d≠117∨p r=none):rdG p (92::d::r)=(if d=110 then 10 else if d=114 then 13 else d)::rdG p r:=by
 unfold rdG
 have hn:¬ (d=117/\(p r).isSome):=by
  rintro⟨h1,h2⟩
  rcases h with h|h
  ·exact h h1
  ·rw[h]at h2;cases h2
 rw[rdF,if_neg (by simp),if_neg hn]
 simp only[List.cons.injEq,true_and]
 exact fT p _ _ _ (by simp;omega) (by simp)
def pu8 (l:List UInt8):Option Nat:=if l=[] then none else (CM l 0).bind λn=>if n<256 then some n else none
def puP (r:List UInt8):Option Nat:=if 3<r.length then pu8 (r.take 4) else none
def hxV (c:Nat):Option Nat:=if 48<=c/\c<=57 then some (c-48) else if 65<=c/\c<=70 then some (c-55) else none
theorem wg:∀d:Fin 16,Bl (hxD d.val).toNat=some d.val/\hxV (hxD d.val).toNat=some d.val:=by decide
theorem qW {d:Nat} (h:d<16):Bl (hxD d).toNat=some d:=(wg ⟨d,h⟩).1
theorem tO (c:Nat) (r:List UInt8) (h:c<256):puP (48::48::hxD (c / 16)::hxD (c % 16)::r)=some c:=by
 unfold puP
 rw[if_pos (by simp)]
 unfold pu8
 rw[if_neg (by simp)]
 simp only[List.take_succ_cons,List.take_zero]
 have h0:Bl (48:UInt8).toNat=some 0:=by decide
 simp only[CM,h0,qW (show c / 16<16 by omega),qW (show c % 16<16 by omega),Option.bind_some]
 have e:16*(16*(16*(16*0+0)+0)+c / 16)+c % 16=c:=by omega
 rw[e,if_pos h]
theorem wu:pq 92=true:=by decide
theorem si (p:List UInt8->Option Nat) (hp:∀(c:Nat) (r:List UInt8),c<256->p (48::48::hxD (c / 16)::hxD (c % 16)::r)=some c):∀l:List UInt8,rdG p (aZ l)=l
 | []=>rfl
 | c::t=>by
  have ih:=si p hp t
  unfold aZ at ih ⊢
  rw[List.flatMap_cons]
  cases h:pq c
  ·have e:el c=[c]:=by unfold el;rw[h];rfl
   rw[e,List.singleton_append,nJ p c _ (by rintro rfl;rw[wu]at h;cases h),ih]
  ·have e:el c=[92,117,48,48,hxD (c.toNat / 16),hxD (c.toNat % 16)]:=by unfold el;rw[h];rfl
   rw[e]
   simp only[List.cons_append,List.nil_append]
   rw[Dk p c.toNat _ (hp c.toNat _ c.toNat_lt)]
   simp only[List.drop_succ_cons,List.drop_zero]
   rw[ih]
   simp
theorem oJ (p:List UInt8->Option Nat):∀l:List UInt8,rdG p (aj l)=l
 | []=>rfl
 | c::t=>by
  have ih:=oJ p t
  have e:aj (c::t)=cN c++aj t:=by unfold aj;rw[List.flatMap_cons]
  rw[e]
  by_cases h1:c=34
  ·subst h1;rw[show cN 34=[92,34] from rfl,List.cons_append,List.cons_append,List.nil_append,kz p _ _ (.inl (by decide)),ih];rfl
  by_cases h2:c=92
  ·subst h2;rw[show cN 92=[92,92] from rfl,List.cons_append,List.cons_append,List.nil_append,kz p _ _ (.inl (by decide)),ih];rfl
  by_cases h3:c=10
  ·subst h3;rw[show cN 10=[92,110] from rfl,List.cons_append,List.cons_append,List.nil_append,kz p _ _ (.inl (by decide)),ih];rfl
  by_cases h4:c=13
  ·subst h4;rw[show cN 13=[92,114] from rfl,List.cons_append,List.cons_append,List.nil_append,kz p _ _ (.inl (by decide)),ih];rfl
  have e:cN c=[c]:=by unfold cN;rw[if_neg h1,if_neg h2,if_neg h3,if_neg h4]
  rw[e,List.singleton_append,nJ p c _ h2,ih]
def qtF:List UInt8->Nat->Nat
 | [],_=>0
 | [c],k=>if c=34 then k+1 else 0
 | c::d::r,k=>if c=34 then k+1 else if c=92 then qtF r (k+2) else qtF (d::r) (k+1)
theorem AG (t:List UInt8) (k:Nat):qtF (34::t) k=k+1:=by cases t<;>rfl
theorem AF (d:UInt8) (r:List UInt8) (k:Nat):qtF (92::d::r) k=qtF r (k+2):=rfl
theorem vg (c:UInt8) (t:List UInt8) (k:Nat) (h1:c≠34) (h2:c≠92):qtF (c::t) k=qtF t (k+1):=by
 cases t with
 | nil=>unfold qtF;rw[if_neg h1]
 | cons d r=>rw[qtF,if_neg h1,if_neg h2]
theorem tN (z:List UInt8):∀(l:List UInt8) (k:Nat),qtF (aj l++34::z) k=k+(aj l).length+1
 | [],k=>AG z k
 | c::t,k=>by
  have ih:=λk=>tN z t k
  have e:aj (c::t)=cN c++aj t:=by unfold aj;rw[List.flatMap_cons]
  rw[e,List.append_assoc,List.length_append]
  have two:∀d:UInt8,cN c=[92,d]->qtF (cN c++(aj t++34::z)) k=k+((cN c).length+(aj t).length)+1:=by
   intro d hd
   rw[hd]
   simp only[List.cons_append,List.nil_append,List.length_cons,List.length_nil]
   rw[AF,ih];omega
  by_cases h1:c=34
  ·exact two 34 (by unfold cN;rw[if_pos h1])
  by_cases h2:c=92
  ·exact two 92 (by unfold cN;rw[if_neg h1,if_pos h2])
  by_cases h3:c=10
  ·exact two 110 (by unfold cN;rw[if_neg h1,if_neg h2,if_pos h3])
  by_cases h4:c=13
  ·exact two 114 (by unfold cN;rw[if_neg h1,if_neg h2,if_neg h3,if_pos h4])
  have e:cN c=[c]:=by unfold cN;rw[if_neg h1,if_neg h2,if_neg h3,if_neg h4]
  rw[e]
  simp only[List.cons_append,List.nil_append,List.length_cons,List.length_nil]
  rw[vg c _ k h1 h2,ih];omega
def qtL (l:List UInt8):Nat:=qtF (l.drop 1) 1
def tB (l:List UInt8):List UInt8:=if [62].isSuffixOf l then l.take (l.length-1) else l
theorem pY (l:List UInt8):tB (l++[62])=l:=by
 unfold tB
 rw[if_pos (by rw[List.isSuffixOf_iff_suffix];exact List.suffix_append _ _)]
 simp
abbrev mkS (l:List UInt8):ByteArray:=⟨l.toArray⟩
def jv (l:List UInt8):Tm:=
 if [60].isPrefixOf l then ⟨1,mkS (rdG puP (tB (l.drop 1))),⟨#[]⟩,⟨#[]⟩⟩
 else if [95,58].isPrefixOf l then ⟨2,mkS (l.drop 2),⟨#[]⟩,⟨#[]⟩⟩
 else if ![34].isPrefixOf l || qtL l == 0 then ⟨0,⟨#[]⟩,⟨#[]⟩,⟨#[]⟩⟩
 else if [64].isPrefixOf (l.drop (qtL l)) then ⟨3,mkS (rdG puP ((l.drop 1).take (qtL l-2))),mkS ((l.drop (qtL l)).drop 1),⟨#[]⟩⟩
 else if [94,94,60].isPrefixOf (l.drop (qtL l)) then ⟨4,mkS (rdG puP ((l.drop 1).take (qtL l-2))),⟨#[]⟩,mkS (rdG puP (tB ((l.drop (qtL l)).drop 3)))⟩
 else ⟨3,mkS (rdG puP ((l.drop 1).take (qtL l-2))),⟨#[]⟩,⟨#[]⟩⟩
theorem cL (s:ByteArray):bY s=true↔s.data.toList=[]:=by unfold bY;rw[ByteArray.toList_eq];exact List.isEmpty_iff
theorem gF (a b:ByteArray):bY (a++b)=(bY a && bY b):=by
 unfold bY
 rw[ByteArray.toList_eq,ByteArray.toList_eq,ByteArray.toList_eq,ByteArray.data_append,Array.toList_append]
 cases a.data.toList<;>simp
theorem cc {a b:ByteArray} (h:a.data.toList=b.data.toList):a=b:=by
 obtain⟨⟨x⟩⟩:=a;obtain⟨⟨y⟩⟩:=b;simp at h;rw[h]
theorem jZ (s:ByteArray):mkS s.data.toList=s:=by obtain⟨⟨x⟩⟩:=s;rfl
theorem fW {s:ByteArray} (h:s.data.toList=[]):s=⟨#[]⟩:=cc (by rw[h])
theorem jW {t:Tm} (h:aN t=true) :
  (t.k=1/\t.l=⟨#[]⟩/\t.y=⟨#[]⟩/\aP t.x=true)∨(t.k=2/\t.l=⟨#[]⟩/\t.y=⟨#[]⟩/\jt t.x=true)
  ∨ (t.k=3/\t.y=⟨#[]⟩/\aP t.x=true/\rS t.l=true)∨(t.k=4/\t.l=⟨#[]⟩/\¬ t.y.toList=zT/\aP t.x=true/\aP t.y=true):=by
 unfold aN at h
 split at h
 ·rename_i hk
  rw[gF,Bool.and_eq_true,Bool.and_eq_true,cL,cL]at h
  exact .inl ⟨hk,fW h.1.1,fW h.1.2,h.2⟩
 split at h
 ·rename_i hk
  rw[gF,Bool.and_eq_true,Bool.and_eq_true,cL,cL]at h
  exact .inr (.inl ⟨hk,fW h.1.1,fW h.1.2,h.2⟩)
 split at h
 ·rename_i hk
  rw[Bool.and_eq_true,Bool.and_eq_true,cL]at h
  exact .inr (.inr (.inl ⟨hk,fW h.1.1,h.1.2,h.2⟩))
 split at h
 ·rename_i hk
  rw[Bool.and_eq_true,Bool.and_eq_true,Bool.and_eq_true,cL]at h
  exact .inr (.inr (.inr ⟨hk,fW h.1.1,by simpa using h.1.2,h.2⟩))
 ·cases h
theorem ii (m z:List UInt8):((34:UInt8)::(m++34::z)).drop (1+m.length+1)=z:=by
 rw[show 1+m.length+1=(m.length+1)+1 by omega,List.drop_succ_cons,←List.drop_drop,List.drop_left];rfl
theorem gW (m z:List UInt8):(((34:UInt8)::(m++34::z)).drop 1).take (1+m.length+1-2)=m:=by
 rw[show 1+m.length+1-2=m.length by omega,List.drop_succ_cons,List.drop_zero,List.take_left]
theorem oL (x z:List UInt8):qtL (34::(aj x++34::z))=1+(aj x).length+1:=tN z x 1
theorem kf {t:Tm} (h:aN t=true):jv (bh t)=t:=by
 obtain⟨k,x,l,y⟩:=t
 rcases jW h with ⟨rfl,rfl,rfl,-⟩|⟨rfl,rfl,rfl,-⟩|⟨rfl,rfl,-,-⟩|⟨rfl,rfl,-,-⟩
 ·have e:bh ⟨1,x,⟨#[]⟩,⟨#[]⟩⟩=60::(aZ x.data.toList++[62]):=rfl
  rw[e]
  unfold jv
  rw[if_pos (by rfl),List.drop_succ_cons,List.drop_zero,pY,si puP tO,jZ]
 ·have e:bh ⟨2,x,⟨#[]⟩,⟨#[]⟩⟩=95::58::x.data.toList:=rfl
  rw[e]
  unfold jv
  rw[if_neg (by simp[List.isPrefixOf]),if_pos (by simp[List.isPrefixOf]),List.drop_succ_cons,List.drop_succ_cons,List.drop_zero,jZ]
 ·by_cases hl:l.data.toList=[]
  ·have e:bh ⟨3,x,l,⟨#[]⟩⟩=34::(aj x.data.toList++34::[]):=by unfold bh;rw[if_neg (by simp),if_neg (by simp),if_neg (by simp),if_pos hl]
   rw[e]
   unfold jv
   rw[oL,ii,gW,oJ,jZ,if_neg (by simp[List.isPrefixOf]),if_neg (by simp[List.isPrefixOf]),if_neg (by simp[List.isPrefixOf]),if_neg (by simp[List.isPrefixOf]),if_neg (by simp[List.isPrefixOf]),fW hl]
  ·have e:bh ⟨3,x,l,⟨#[]⟩⟩=34::(aj x.data.toList++34::(64::l.data.toList)):=by unfold bh;rw[if_neg (by simp),if_neg (by simp),if_neg (by simp),if_neg hl]
   rw[e]
   unfold jv
   rw[oL,ii,gW,oJ,jZ,if_neg (by simp[List.isPrefixOf]),if_neg (by simp[List.isPrefixOf]),if_neg (by simp[List.isPrefixOf]),if_pos (by simp[List.isPrefixOf]),List.drop_succ_cons,List.drop_zero,jZ]
 ·have e:bh ⟨4,x,⟨#[]⟩,y⟩=34::(aj x.data.toList++34::(94::94::60::(aZ y.data.toList++[62]))):=rfl
  rw[e]
  unfold jv
  rw[oL,ii,gW,oJ,jZ,if_neg (by simp[List.isPrefixOf]),if_neg (by simp[List.isPrefixOf]),if_neg (by simp[List.isPrefixOf]),if_neg (by simp[List.isPrefixOf]),if_pos (by simp[List.isPrefixOf])]
  simp only[List.drop_succ_cons,List.drop_zero]
  rw[pY,si puP tO,jZ]
theorem xd {a b:Tm} (ha:aN a=true) (hb:aN b=true) (h:bh a=bh b):a=b:=by
 rw[←kf ha,←kf hb,h]
end Go.Proofs.YtjldjeenfnahoaaGreatDoor.Tx
