/- Layer 29: what the program says and what the reference says -/
import Derived.Test.YtjldjeenfnahoaaGreatDoorJLaw29d
import Derived.Lib.LaidCaseMet
set_option maxRecDepth 100000
namespace Go.Proofs.YtjldjeenfnahoaaGreatDoor
open Go Go.RowKit Um Fm Lx Tx Om Mp
theorem szU.n:∀{n:Nat} {e:ExT n},szU n e->szN n e
 | 0,_,_=>trivial
 | _+1,(_,_,_,_),⟨_,_,h3,h4⟩=>⟨Nat.le_trans h3 (by decide),λy hy=>(h4 y hy).n⟩
def ei (vars:List ByteArray) (rows:List (List Tm)):Prop:=vars.length<=200/\rows.length<=200/\∀r∈rows,r.length<=200/\∀t∈r,keyTm t
theorem ei.key {vars:List ByteArray} {rows:List (List Tm)} (h:ei vars rows):∀r∈rows,ju r:=λr hr=>⟨by have:=(h.2.2 r hr).1;omega,(h.2.2 r hr).2⟩
theorem ei.small {vars:List ByteArray} {rows:List (List Tm)} (h:ei vars rows):∀r∈rows,bD r:=λr hr=>⟨by have:=(h.2.2 r hr).1;omega,λt ht=>((h.2.2 r hr).2 t ht).2⟩
theorem ei.sz {vars:List ByteArray} {rows:List (List Tm)} (h:ei vars rows):∀r∈rows,fM r:=λr hr t ht=>Nat.le_trans ((h.2.2 r hr).2 t ht).2.1 (by decide)
def bK (vs:List ByteArray) (rs:List (List Tm)):Prop:=vs.length<=900000/\rs.length<=900000/\∀r∈rs,r.length<=900000
theorem bK.nil:bK [] []:=⟨by decide,by decide,λr hr=>by cases hr⟩
def rI (N:Int) (vs:List ByteArray) (rs:List (List Tm)) (w:World) (e:Ending) (w':World):Prop:=∃v0 v1,e=.returned (.tuple #[.agg #[v0,v1],.int .i64 N])/\Below w.heap.size w w'/\cY w.heap.size w' v0 v1 vs rs
theorem xZ {vars:List ByteArray} {rows:List (List Tm)} {w w':World} {e:Ending} (h:bz 2 vars rows w e w'):rI 2 [] [] w e w':=h.out
theorem ya {vars:List ByteArray} {rows:List (List Tm)} {w w':World} {e:Ending} (h:bz 0 vars rows w e w'):rI 0 vars rows w e w':=h.out
theorem Ct {N:Int} (hN:N≠0) {vars:List ByteArray} {rows:List (List Tm)} {w w':World} {e:Ending} (h:bz N vars rows w e w'):rI N [] [] w e w':=by
 have:=h.out
 rw[if_neg hN,if_neg hN]at this
 exact this
section
variable {vars:List ByteArray} {rows:List (List Tm)}
abbrev tc (W:World) (A B:Option Addr) (c d:Nat) (vars:List ByteArray) (rows:List (List Tm)):Prop:=TabAt W A B vars.length c rows.length d vars rows/\rows.length<=d
theorem xW (hg:ei vars rows) (nf:Nat) (fils:List (ExT nf)) (hfl:fils.length<=200) (hzf:∀x∈fils,szE nf x) (hzn:∀x∈fils,szN nf x):∃N vs rs,bK vs rs /\
  (∀A B c d Af cf W,tc W A B c d vars rows->aF nf W Af fils->Calls Tryz.prog 10 #[.agg #[.slice A vars.length c,.slice B rows.length d],.slice Af fils.length cf] W (rI N vs rs W)) /\
  (∀wb A B c d Af cf W,dr wb W A B vars.length c rows.length d vars rows->aF nf W Af fils->Calls Tryz.prog 11 #[.agg #[.slice A vars.length c,.slice B rows.length d],.slice Af fils.length cf] W (cu wb N vs rs W)):=by
 cases hR:aw vars rows
 ·exact⟨2,[],[],bK.nil,λA B c d Af cf W T hf=>(CF T.1 hR Af _ cf).mono λ_ _=>xZ,λwb A B c d Af cf W T hf=>ve T hR Af _ cf⟩
 ·refine⟨0,vars,bL vars nf fils rows,⟨by have:=hg.1;omega,by have:=hg.2.1;have:=qS vars nf fils rows;omega,λr hr=>by have:=(hg.2.2 r (yU hr)).1;omega⟩,λA B c d Af cf W T hf=>(Ah T.1 hR hg.key nf fils Af cf _ rfl (by omega) hzf hf).mono λ_ _=>ya,λwb A B c d Af cf W T hf=>AC T hR nf fils Af cf _ rfl (by omega) hzf hzn hf hg.sz⟩
theorem xU (hg:ei vars rows) (keys:List Ky) (hkl:keys.length<=200):∃N vs rs,bK vs rs /\
  (∀A B c d Ao co W,tc W A B c d vars rows->dJ W->eF W Ao keys->Calls Tryz.prog 17 #[.agg #[.slice A vars.length c,.slice B rows.length d],.slice Ao keys.length co] W (rI N vs rs W)) /\
  (∀wb A B c d Ao co W,dr wb W A B vars.length c rows.length d vars rows->eF W Ao keys->Calls Tryz.prog 18 #[.agg #[.slice A vars.length c,.slice B rows.length d],.slice Ao keys.length co] W (cu wb N vs rs W)):=by
 cases hR:aw vars rows
 ·exact⟨2,[],[],bK.nil,λA B c d Af cf W T _ hf=>(CC T.1 hR Af _ cf).mono λ_ _=>xZ,λwb A B c d Af cf W T hf=>vc T hR Af _ cf⟩
 ·by_cases hN:dD vars keys=0
  ·refine⟨0,vars,dR vars keys rows,⟨by have:=hg.1;omega,by rw[(kX vars keys rows).length_eq];have:=hg.2.1;omega,λr hr=>by have:=(hg.2.2 r ((kX vars keys rows).mem_iff.1 hr)).1;omega⟩,λA B c d Af cf W T hC hf=>?_,λwb A B c d Af cf W T hf=>(tJ T hR hg.small keys Af _ cf rfl (by omega) hf).mono λ_ _ h=>h.1 hN⟩
   have h:=oy T.1 hR hC hg.small keys Af _ cf rfl (by omega) hf
   rw[hN]at h
   exact h.mono λ_ _=>ya
  ·exact⟨dD vars keys,[],[],bK.nil,λA B c d Af cf W T hC hf=>(oy T.1 hR hC hg.small keys Af _ cf rfl (by omega) hf).mono λ_ _=>Ct hN,λwb A B c d Af cf W T hf=>(tJ T hR hg.small keys Af _ cf rfl (by omega) hf).mono λ_ _ h=>h.2 hN⟩
theorem qs (hg:ei vars rows) (names:List ByteArray) (hnl:names.length<=200):∃N vs rs,bK vs rs /\
  (∀A B c d Ao co W,tc W A B c d vars rows->names.length<=co->Rd W Ao (names.map Value.string)->Calls Tryz.prog 19 #[.agg #[.slice A vars.length c,.slice B rows.length d],.slice Ao names.length co] W (rI N vs rs W)) /\
  (∀wb A B c d Ao co W,dr wb W A B vars.length c rows.length d vars rows->names.length<=co->(∀W',StS wb W W'->Rd W' Ao (names.map Value.string))->Calls Tryz.prog 20 #[.agg #[.slice A vars.length c,.slice B rows.length d],.slice Ao names.length co] W (cu wb N vs rs W)):=by
 cases hR:aw vars rows
 ·exact⟨2,[],[],bK.nil,λA B c d Af cf W T _ hf=>(vM T.1 hR Af _ cf).mono λ_ _=>xZ,λwb A B c d Af cf W T _ hf=>oI T hR Af _ cf⟩
 ·by_cases hN:bX vars names=0
  ·refine⟨0,names,rows.map (be (av vars names)),⟨by omega,by rw[List.length_map];have:=hg.2.1;omega,λr hr=>by
    obtain⟨r0,_,rfl⟩:=List.mem_map.1 hr
    rw[xR];unfold av;rw[List.length_map];omega⟩,λA B c d Af cf W T hc hf=>?_,λwb A B c d Af cf W T hc hf=>(lm T hR Af _ cf rfl (by omega) hc hf).mono λ_ _ h=>h.1 hN⟩
   have h:=gV T.1 hR names Af _ cf rfl (by omega) hc hf
   rw[if_pos hN,if_pos hN,hN]at h
   exact h.mono λ_ _=>ya
  ·exact⟨bX vars names,[],[],bK.nil,λA B c d Af cf W T hc hf=>(gV T.1 hR names Af _ cf rfl (by omega) hc hf).mono λ_ _=>Ct hN,λwb A B c d Af cf W T hc hf=>(lm T hR Af _ cf rfl (by omega) hc hf).mono λ_ _ h=>h.2 hN⟩
theorem xV (hg:ei vars rows):∃N vs rs,bK vs rs /\
  (∀A B c d W,tc W A B c d vars rows->gL W->Calls Tryz.prog 21 #[.agg #[.slice A vars.length c,.slice B rows.length d]] W (rI N vs rs W)) /\
  (∀wb A B c d W,dr wb W A B vars.length c rows.length d vars rows->Calls Tryz.prog 22 #[.agg #[.slice A vars.length c,.slice B rows.length d]] W (cu wb N vs rs W)):=by
 cases hR:aw vars rows
 ·exact⟨2,[],[],bK.nil,λA B c d W T _=>(CE T.1 hR).mono λ_ _=>xZ,λwb A B c d W T=>vd T hR⟩
 ·exact⟨0,vars,br rows,⟨by have:=hg.1;omega,by have:=hg.2.1;have:=qy rows;omega,λr hr=>by have:=(hg.2.2 r ((iG _ _).1 hr)).1;omega⟩,λA B c d W T hP=>(tC T.1 hR hP hg.key).mono λ_ _=>ya,λwb A B c d W T=>AB T hR⟩
theorem vq (hg:ei vars rows) (off lim:Int):∃N vs rs,bK vs rs /\
  (∀A B c d W,tc W A B c d vars rows->Calls Tryz.prog 23 #[.agg #[.slice A vars.length c,.slice B rows.length d],.int .i64 off,.int .i64 lim] W (rI N vs rs W)) /\
  (∀wb A B c d W,dr wb W A B vars.length c rows.length d vars rows->Calls Tryz.prog 24 #[.agg #[.slice A vars.length c,.slice B rows.length d],.int .i64 off,.int .i64 lim] W (cu wb N vs rs W)):=by
 cases hR:aw vars rows
 ·exact⟨2,[],[],bK.nil,λA B c d W T=>(AX T.1 hR off lim).mono λ_ _=>xZ,λwb A B c d W T=>sf T hR off lim⟩
 ·by_cases hb:off<0∨lim < -1
  ·refine⟨6,[],[],bK.nil,λA B c d W T=>?_,λwb A B c d W T=>(qi T hR off lim).mono λ_ _ h=>h.2 hb⟩
   have h:=pZ T.1 hR off lim
   rw[if_pos hb,if_pos hb]at h
   exact h.mono λ_ _=>Ct (by decide)
  ·refine⟨0,vars,gm off lim rows,⟨by have:=hg.1;omega,by have:=hg.2.1;have:=BB off lim rows;omega,λr hr=>by have:=(hg.2.2 r (BA hr)).1;omega⟩,λA B c d W T=>?_,λwb A B c d W T=>(qi T hR off lim).mono λ_ _ h=>h.1 hb⟩
   have h:=pZ T.1 hR off lim
   rw[if_neg hb,if_neg hb]at h
   exact h.mono λ_ _=>ya
end
open Go.ChangeShapes Go.WideShapes Go.ChangeAt Go.Lib Go.Joins Go.Deep
namespace Up
section
variable {H:Type} {enc:TypeId × Value->H}
theorem CK {n:Int} (h:(Lit.int .i64 n).wf=true):inI n:=by
 simp only[Lit.wf,Bool.and_eq_true,decide_eq_true_iff]at h
 exact h
theorem qw (w:World) (f:Nat):gU enc Tryz.prog w f 65 4 (λcs (t:Tm)=>cs=tmC t) keyTm:=by
 intro cs d ps h hs
 obtain⟨t,e,hl,z⟩:=ia w f cs d ps h hs
 refine⟨t,e,hl,?_,z⟩
 obtain⟨xs,n,_,hx,hl2,hlen,hf⟩:=DataW.trod_struct Tryz.underlying65 h
 have c0:Tryz.prog.cellsOf 63=1:=by kernel_rfl
 have hc:Tryz.prog.cellsOf 65=4:=by kernel_rfl
 rw[hc]at hl2
 match cs,hl2,xs,hlen with
 | [v0,v1,v2,v3],_,[y0,y1,y2,y3],_ =>
  have g0:=hf 0 _ rfl
  simp[c0]at g0
  obtain⟨k,e0,_,hw⟩:=DataW.trod_int Tryz.underlying63 g0
  simp[tmC]at e e0
  obtain⟨e1,_⟩:=e
  rw[e1]at e0
  injection e0 with _ e0
  rw[e0]
  exact CK hw
def szR (r:List Tm):Prop:=r.length<=1048576/\∀t∈r,keyTm t
theorem vB (w:World) (f:Nat):gU enc Tryz.prog w f 69 1 (RdRow w) szR:=by
 intro cs d ps h hs
 obtain⟨l,A,c,rfl,hle,hrd,hz,_,hsm⟩:=open_list (F:=f) Tryz.underlying69 (by kernel_rfl) (by omega) (Nat.le_succ f) (qw w f) h hs
 exact⟨l,⟨A,c,rfl,hle,hrd⟩,rfl,hsm,hz⟩
theorem arg_table {r:Reach} {b0:Nat} {w:World} {v:Value} {d:DataW H} {ps:List MemPlace} (hv:Value.okWide Tryz.prog w r b0 25 v) (hd:DataW.Trod enc Tryz.prog w 0 (λ_=>true) true 25 v d ps) (hs:cX Tryz.prog 25 d) :
  ∃(vars:List ByteArray) (rows:List (List Tm)) (A B:Option Addr) (c e:Nat),v=.agg #[.slice A vars.length c,.slice B rows.length e]/\vars.length<=1048576/\rows.length<=1048576/\(∀r∈rows,r.length<=1048576/\∀t∈r,keyTm t)/\vars.length<=c/\rows.length<=e/\Rd w A (vars.map Value.string)/\RdRs w B rows:=by
 obtain⟨cs,rfl,hsz⟩:=okWide_struct Tryz.underlying25 hv
 obtain⟨fuel,hf⟩:=hd
 obtain⟨xs,n,hfn,hx,hl,hlen,hf2⟩:=DataW.trod_struct Tryz.underlying25 hf
 clear hf
 have hd:d=.agg (xs.map (·.1)):=congrArg Prod.fst hx
 subst hd
 have hc:Tryz.prog.cellsOf 25=2:=by kernel_rfl
 have c1:Tryz.prog.cellsOf 22=1:=by kernel_rfl
 have c2:Tryz.prog.cellsOf 23=1:=by kernel_rfl
 rw[hc]at hl
 obtain⟨ls,hls⟩:∃l,cs.toList=l:=⟨_,rfl⟩
 have hcs:cs=ls.toArray:=by rw[←hls]
 subst hcs
 match ls,hl,xs,hlen with
 | [v0,v1],_,[y0,y1],_ =>
  have g0:=hf2 0 _ rfl
  have g1:=hf2 1 _ rfl
  simp[c1,c2]at g0 g1
  obtain⟨l2,A2,k2,e2,hle2,⟨ws,hrd2,ha2⟩,hz2,_,hsm2⟩:=open_list (F:=n) Tryz.underlying22 (by kernel_rfl) (by omega) (Nat.le_succ n) (nQ w n) (d:=y0.1) (ps:=y0.2) g0 (hs.field Tryz.underlying25 (i:=0) rfl rfl)
  obtain⟨l3,A3,k3,e3,hle3,hrd3,hz3,_,hsm3⟩:=open_list (F:=n) Tryz.underlying23 (by kernel_rfl) (by omega) (Nat.le_succ n) (vB w n) (d:=y1.1) (ps:=y1.2) g1 (hs.field Tryz.underlying25 (i:=1) rfl rfl)
  have hx2:=ha2.flat (f:=λs=>[Value.string s])
  have hm:l2.flatMap (λs=>[Value.string s])=l2.map Value.string:=List.map_eq_flatMap.symm
  rw[hm]at hx2
  subst hx2
  injection e2 with e2 _
  injection e3 with e3 _
  exact⟨l2,l3,A2,A3,k2,k3,by rw[e2,e3],hsm2,hsm3,hz3,hle2,hle3,hrd2,hrd3⟩
end
end Up
open Go.ChangeMaps (open_string shut_string)
theorem own:ownKnob Tryz.prog.godebug=none:=by kernel_rfl
theorem laidOut:laidOutB Tryz.prog=true:=by kernel_rfl
def caseRen:Go.Shelf.Ren:=⟨jC.f,jC.t,fun|13=>3|n=>n⟩
theorem zC:Lays.n274 Tryz.prog caseRen:={pB with}
def qJ:List (String × DataW Unit):=[("math/bits.deBruijn32tab",Rows.laid_math_bits_deBruijn32tab),("math/bits.deBruijn64tab",Rows.laid_math_bits_deBruijn64tab),("internal/strconv.uint64pow10",Rows.laid_internal_strconv_uint64pow10),("unicode/utf8.acceptRanges",Rows.laid_unicode_utf8_acceptRanges)]
def qI:List (String × DataW Unit):=[("unicode/utf8.first",Rows.laid_unicode_utf8_first)]
def fY:List (String × DataW Unit):=[("math/bits.deBruijn32tab",Rows.laid_math_bits_deBruijn32tab),("math/bits.deBruijn64tab",Rows.laid_math_bits_deBruijn64tab),("internal/strconv.uint64pow10",Rows.laid_internal_strconv_uint64pow10),("unicode/utf8.acceptRanges",Rows.laid_unicode_utf8_acceptRanges),("unicode.CaseRanges",Rows.laid_unicode_CaseRanges),("unicode/utf8.first",Rows.laid_unicode_utf8_first)]
theorem sH:Rows.laid_unicode_utf8_first=Lib.firstData:=by kernel_rfl
theorem rF:(Rows.laid_unicode_utf8_acceptRanges:DataW Unit)=Lib.acceptData:=by kernel_rfl
theorem wD:Rows.laid_unicode_CaseRanges=Lib.caseData:=by kernel_rfl
theorem zv:(Rows.laid_math_bits_deBruijn64tab:DataW Unit)=Lib.tabData .u8 [0,1,56,2,57,49,28,3,61,58,42,50,38,29,17,4,62,47,59,36,45,43,51,22,53,39,33,30,24,18,12,5,63,55,48,27,60,41,37,16,46,35,44,21,52,32,23,11,54,26,40,15,34,20,31,10,25,14,19,9,13,8,7,6]:=by kernel_rfl
theorem CS {W:World} (hL:laidMetH Tryz.prog fY W) (hsh:W.ShapedOpen Tryz.prog):dJ W:=by
 refine⟨⟨?_,Go.Proofs.cell_of_shapedOpen_int (zero:=#[.int .i64 0]) (t:=3) hsh (of_decide_eq_true (by kernel_rfl)) (by kernel_rfl) rfl (by kernel_rfl) (by kernel_rfl) Tryz.underlying3⟩,?_⟩
 ·have h1:=Lib.laidMet.reads hL (.tail _ (.tail _ (.tail _ (.tail _ (.tail _ (.head _))))))
  have h2:=Lib.laidMet.reads hL (.tail _ (.tail _ (.tail _ (.head _))))
  rw[sH]at h1
  rw[rF]at h2
  exact utf8Tabs_of_reads pC ⟨by kernel_rfl,by kernel_rfl,by kernel_rfl,by kernel_rfl,by kernel_rfl,by kernel_rfl,by kernel_rfl⟩ h1 h2
 ·have h3:=Lib.laidMet.reads hL (.tail _ (.head _))
  rw[zv]at h3
  obtain⟨g,t,cs,fuel,p,hg,hty,hvar,hd⟩:=h3
  have hg0:Tryz.prog.globalNamed "math/bits.deBruijn64tab" = some 6:=by kernel_rfl
  obtain rfl:=Option.some.inj (hg0.symm.trans hg)
  have ht0:(Tryz.prog.globals[6]?).map (·.type)=some 328:=by kernel_rfl
  obtain rfl:=Option.some.inj (ht0.symm.trans hty)
  have hcs:=cells_of_tab Tryz.underlying328 Tryz.underlying5 (by kernel_rfl) (by kernel_rfl) hd
  unfold TzV
  rw[World.var?_cell hg hvar 15,←Array.getElem?_toList,hcs]
  rfl
theorem ef {P:Program} {w:World}:∀{l l':List (String × DataW Unit)} {ps:List MemPlace},DataW.LaidVars P w (l++l') ps->∃a b,ps=a++b/\DataW.LaidVars P w l a/\DataW.LaidVars P w l' b
 | [],l',ps,h=>⟨[],ps,rfl,rfl,h⟩
 | (n,d)::r,l',ps,h=>by
  obtain⟨g,t,cs,fuel,p,q,h1,h2,h3,h4,h5,rfl⟩:=h
  obtain⟨a,b,rfl,ha,hb⟩:=ef h5
  exact⟨_,b,(List.append_assoc _ _ _).symm,⟨g,t,cs,fuel,p,a,h1,h2,h3,h4,ha,rfl⟩,hb⟩
theorem pe {P:Program} {w:World} {l1 l2 l3:List (String × DataW Unit)} (h:laidMet P ((l1++l2)++l3) w):laidMet P (l1++(l3++l2)) w:=by
 obtain⟨ps,hl,hn,hr⟩:=h
 obtain⟨a,c,rfl,hab,hc⟩:=ef hl
 obtain⟨a,b,rfl,ha,hb⟩:=ef hab
 have hp:(a++(c++b)).Perm ((a++b)++c):=by
  rw[List.append_assoc]
  exact List.Perm.append_left a List.perm_append_comm
 exact⟨a++(c++b),Go.LaidVars_app ha (Go.LaidVars_app hc hb),hp.nodup_iff.2 hn,λx off hx=>hr x off (hp.mem_iff.1 hx)⟩
noncomputable def fc (os:Os):World:=
 let N:=(World.settled Tryz.prog os).heap.size
 let w0:=World.holding Tryz.prog os ⟨#[.cells Lib.caseCells5 (jC.t 208) (0,0)],#[],[]⟩
 let put (h:Array Obj) (g:Nat) (cs:Array Value):Array Obj:=h.modify g fun
  | .cells _ t frozen=>.cells cs t frozen
  | o=>o
 let h1:=put w0.heap 5 #[Value.int .u8 0,Value.int .u8 1,Value.int .u8 28,Value.int .u8 2,Value.int .u8 29,Value.int .u8 14,Value.int .u8 24,Value.int .u8 3,Value.int .u8 30,Value.int .u8 22,Value.int .u8 20,Value.int .u8 15,Value.int .u8 25,Value.int .u8 17,Value.int .u8 4,Value.int .u8 8,Value.int .u8 31,Value.int .u8 27,Value.int .u8 13,Value.int .u8 23,Value.int .u8 21,Value.int .u8 19,Value.int .u8 16,Value.int .u8 7,Value.int .u8 26,Value.int .u8 12,Value.int .u8 18,Value.int .u8 6,Value.int .u8 11,Value.int .u8 5,Value.int .u8 10,Value.int .u8 9]
 let h2:=put h1 6 #[Value.int .u8 0,Value.int .u8 1,Value.int .u8 56,Value.int .u8 2,Value.int .u8 57,Value.int .u8 49,Value.int .u8 28,Value.int .u8 3,Value.int .u8 61,Value.int .u8 58,Value.int .u8 42,Value.int .u8 50,Value.int .u8 38,Value.int .u8 29,Value.int .u8 17,Value.int .u8 4,Value.int .u8 62,Value.int .u8 47,Value.int .u8 59,Value.int .u8 36,Value.int .u8 45,Value.int .u8 43,Value.int .u8 51,Value.int .u8 22,Value.int .u8 53,Value.int .u8 39,Value.int .u8 33,Value.int .u8 30,Value.int .u8 24,Value.int .u8 18,Value.int .u8 12,Value.int .u8 5,Value.int .u8 63,Value.int .u8 55,Value.int .u8 48,Value.int .u8 27,Value.int .u8 60,Value.int .u8 41,Value.int .u8 37,Value.int .u8 16,Value.int .u8 46,Value.int .u8 35,Value.int .u8 44,Value.int .u8 21,Value.int .u8 52,Value.int .u8 32,Value.int .u8 23,Value.int .u8 11,Value.int .u8 54,Value.int .u8 26,Value.int .u8 40,Value.int .u8 15,Value.int .u8 34,Value.int .u8 20,Value.int .u8 31,Value.int .u8 10,Value.int .u8 25,Value.int .u8 14,Value.int .u8 19,Value.int .u8 9,Value.int .u8 13,Value.int .u8 8,Value.int .u8 7,Value.int .u8 6]
 let h3:=put h2 2 #[Value.int .u64 1,Value.int .u64 10,Value.int .u64 100,Value.int .u64 1000,Value.int .u64 10000,Value.int .u64 100000,Value.int .u64 1000000,Value.int .u64 10000000,Value.int .u64 100000000,Value.int .u64 1000000000,Value.int .u64 10000000000,Value.int .u64 100000000000,Value.int .u64 1000000000000,Value.int .u64 10000000000000,Value.int .u64 100000000000000,Value.int .u64 1000000000000000,Value.int .u64 10000000000000000,Value.int .u64 100000000000000000,Value.int .u64 1000000000000000000,Value.int .u64 10000000000000000000]
 let h4:=put h3 1 ((List.range 16).flatMap λi=>[Value.int .u8 (Lib.accLo i),Value.int .u8 (Lib.accHi i)]).toArray
 let h5:=put h4 3 #[.slice (some ⟨N,0,none⟩) Lib.caseA.size Lib.caseA.size]
 let h6:=put h5 0 (Lib.firstTab.map λz=>Value.int .u8 z).toArray
 {w0 with heap:=h6}
theorem yI (os:Os) (args:Array Value):laidMet Tryz.prog fY ((fc os).forCall (λ_ _=>0) ⟨#[],args,[]⟩).memory:=by
 have h:=laidMet_with_case (ρ:=caseRen) zC (by kernel_rfl) ⟨by kernel_rfl,by kernel_rfl,by kernel_rfl,by kernel_rfl,by kernel_rfl,by kernel_rfl⟩ (w:=((fc os).forCall (λ_ _=>0) ⟨#[],args,[]⟩).memory)
  (l:=qJ++qI) 10 (by kernel_rfl) (by kernel_rfl) (by kernel_rfl) ((World.settled Tryz.prog default).heap.size) (jC.t 208) (of_decide_eq_true (by kernel_rfl)) (by kernel_rfl) (by kernel_rfl) (by kernel_rfl)
 have h2:=pe h
 have e:fY=qJ++([("unicode.CaseRanges",Lib.caseData)]++qI):=by rw[←wD];rfl
 rw[e]
 exact h2
theorem xS:(Rows.laid_internal_strconv_uint64pow10:DataW Unit)=Lib.tabData .u64 Lib.pow10Tab:=by kernel_rfl
theorem Cp {W:World} (hL:laidMetH Tryz.prog fY W):gL W:=by
 have h3:=Lib.laidMet.reads hL (.tail _ (.tail _ (.head _)))
 rw[xS]at h3
 obtain⟨g,t,cs,fuel,p,hg,hty,hvar,hd⟩:=h3
 have hg0:Tryz.prog.globalNamed "internal/strconv.uint64pow10" = some 2:=by kernel_rfl
 obtain rfl:=Option.some.inj (hg0.symm.trans hg)
 have ht0:(Tryz.prog.globals[2]?).map (·.type)=some 281:=by kernel_rfl
 obtain rfl:=Option.some.inj (ht0.symm.trans hty)
 have hcs:=cells_of_tab Tryz.underlying281 Tryz.underlying252 (by kernel_rfl) (by kernel_rfl) hd
 unfold gL Lib.TabIs
 rw[hvar,←hcs]
theorem Dv {W:World} (hL:laidMetH Tryz.prog fY W) (hsh:W.ShapedOpen Tryz.prog):dJ W/\gL W:=⟨CS hL hsh,Cp hL⟩
def qM (P:Program) (fn:Func) (c:OpenClaim):Bool:=
 c.kinds == (if c.domain.isEmpty then [] else fn.params.toList.map λt=>match P.underlying t with|some (.int k)=>some k|_=>none)
theorem pj {P:Program} {f:FuncId} {fn:Func} {s:ChangeSpec} {c:OpenClaim}
  (k1:c.wf (OpenSpec.ofChange s)=true) (k2:laidOutB P=true) (k3:mapsRowed P=true)
  (k4:fn.params.all (P.readableRec ·)=true) (k5:namedTie P c.named s.vars=true)
  (k6:(c.stops == [])=true) (k7:(P.stops == [])=true) (k8:(c.knobs == [])=true) (k9:(P.stopKnobs == [])=true)
  (k10:(c.inPlace == P.inPlace f)=true) (k11:(c.unfollowed == P.unfollowed f)=true) (k12:(c.recurses == P.recurses f)=true) (k13:(c.named == P.varsNamed f)=true)
  (k14:(c.maps == (fn.params.toList++s.plain.varTypes P).any (P.mapsRec ·))=true) (k15:(c.ifaces == (fn.params.toList++s.plain.varTypes P).any (P.ifacesRec ·))=true) (k16:(c.mapsOut == P.mapsAmong fn.resultTypes.toList)=true)
  (k17:(c.loops == (fn.params.toList++s.plain.varTypes P).any (P.loopsFrom ·))=true) (k18:(c.wideKeys == (fn.params.toList++s.plain.varTypes P++fn.resultTypes.toList).any (P.wideKeysFrom ·))=true)
  (k19:s.vars.all (P.varReadable ·)=true) (k20:fn.resultTypes.all (λt=>P.readableRec t && decide (t<P.types.size))=true) (k21:(c.ifacesOut == fn.resultTypes.toList.any (P.ifacesRec ·))=true) (k22:(c.loopsOut == fn.resultTypes.toList.any (P.loopsFrom ·))=true)
  (k23:(c.plainKeys == P.plainKeys)=true) (k24:c.shortTexts.isNone=true) (k25:P.stopsHeard=true) (k26:P.mayEnter=true) (k27:(c.lifted == P.liftsFinal)=true) (k28:(P.make == some c.make)=true)
  (k29:qM P fn c=true) (k30:(c.pinned == c.pinnedBy)=true)
  (k31:(c.veiled == (fn.params.toList++s.plain.varTypes P++fn.resultTypes.toList).any (P.veiledRec ·))=true) (k32:c.veiledFits P fn.params.toList (fn.params.toList++s.plain.varTypes P++fn.resultTypes.toList)=true) :
  joinedFacts P f fn s c=true:=by
 simp only[joinedFacts,Bool.and_eq_true]
 exact⟨⟨⟨⟨⟨⟨⟨⟨⟨⟨⟨⟨⟨⟨⟨⟨⟨⟨⟨⟨⟨⟨⟨⟨⟨⟨⟨⟨⟨⟨⟨k1,k2⟩,k3⟩,k4⟩,k5⟩,k6⟩,k7⟩,k8⟩,k9⟩,k10⟩,k11⟩,k12⟩,k13⟩,k14⟩,k15⟩,k16⟩,k17⟩,k18⟩,k19⟩,k20⟩,k21⟩,k22⟩,k23⟩,k24⟩,k25⟩,k26⟩,k27⟩,k28⟩,k29⟩,k30⟩,k31⟩,k32⟩
end Go.Proofs.YtjldjeenfnahoaaGreatDoor
