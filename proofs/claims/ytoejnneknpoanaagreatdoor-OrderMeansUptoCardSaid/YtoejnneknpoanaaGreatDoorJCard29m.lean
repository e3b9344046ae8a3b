/- OrderMeans: for every input of bulk at most 1048576 the law -/
import Derived.Test.YtoejnneknpoanaaGreatDoorJLaw29m
namespace Go.Proofs.YtoejnneknpoanaaGreatDoor
open Go Go.ChangeShapes Go.WideShapes Go.ChangeAt Go.RowKit Go.Lib
open Go.ChangeMaps (open_string shut_string)
open Fm in
theorem lawOrderMeansQ (vars:List ByteArray) (rows:List (List Tm)) (A B:Option Addr) (c e n:Nat) (q:Qy n) (cs:List Value) (turn:Int) (w:World) (hC:CtxT w/\PowV w) (ht:vars.length<=1048576/\rows.length<=1048576/\(∀r∈rows,r.length<=1048576/\∀t∈r,keyTm t)/\vars.length<=c/\rows.length<=e/\Rd w A (vars.map Value.string)/\RdRs w B rows) (ha:RdQ n w cs q) (za:szQu q) (hw:(Lit.int .i64 turn).wf=true) :
  Calls Tryz.prog 7 #[.agg #[.slice A vars.length c,.slice B rows.length e],.agg cs.toArray,.int .i64 turn] w λe w'=>e=.returned (.bool true)/\Below w.heap.size w w':=by
 obtain⟨a1,a2,a3,a4,c1,c2,c3,c4,rfl,h⟩:=ha
 exact lawOrderMeans n q a1 a2 a3 a4 c1 c2 c3 c4 vars rows A B c e turn w hC.1 hC.2 za ⟨a1,a2,a3,a4,c1,c2,c3,c4,rfl,h⟩ ht.1 ht.2.1 ht.2.2.1 ht.2.2.2.1 ht.2.2.2.2.1 ht.2.2.2.2.2.1 ht.2.2.2.2.2.2 (Up.inI_of hw)
theorem orderMeans_witness (os:Os) {H:Type} (enc:TypeId × Value->H) :
  (Rows.OpenSpec.upto Rows.orderMeansSpec).preRow enc Tryz.prog Tryz.f7 Rows.orderMeansUptoRow.domain false Rows.orderMeansUptoRow.laid ((laidWorld os).forCall (λ_ _=>0) ⟨#[],#[.agg #[.slice none 0 0,.slice none 0 0],.agg #[.bool false,.bool false,.slice none 0 0,.slice none 0 0,.slice none 0 0,.slice none 0 0,.int .i64 0,.int .i64 0],.int .i64 0],[]⟩).memory #[.agg #[.slice none 0 0,.slice none 0 0],.agg #[.bool false,.bool false,.slice none 0 0,.slice none 0 0,.slice none 0 0,.slice none 0 0,.int .i64 0,.int .i64 0],.int .i64 0]:=by
 have hw:(DataW.whole enc Tryz.prog ((laidWorld os).forCall (λ_ _=>0) ⟨#[],#[.agg #[.slice none 0 0,.slice none 0 0],.agg #[.bool false,.bool false,.slice none 0 0,.slice none 0 0,.slice none 0 0,.slice none 0 0,.int .i64 0,.int .i64 0],.int .i64 0],[]⟩).memory Tryz.f7.params.toList Rows.orderMeansSpec.vars false (#[Value.agg #[.slice none 0 0,.slice none 0 0],Value.agg #[.bool false,.bool false,.slice none 0 0,.slice none 0 0,.slice none 0 0,.slice none 0 0,.int .i64 0,.int .i64 0],Value.int .i64 0]:Array Value).toList 8).map (λx=>(x.1,x.2.1)) =
   some ([.agg [.nil,.nil],.agg [.lit (.bool false),.lit (.bool false),.nil,.nil,.nil,.nil,.lit (.int .i64 0),.lit (.int .i64 0)],.lit (.int .i64 0)],[]):=by kernel_rfl
 obtain⟨⟨x1,x2,x3⟩,hx,hx1⟩:=Option.map_eq_some_iff.1 hw
 simp only[Prod.mk.injEq]at hx1
 obtain⟨rfl,rfl⟩:=hx1
 exact OpenSpec.preRow_of_cond 8 hx (by kernel_rfl) (λk hk=>by cases hk;kernel_rfl) (by kernel_rfl) (laid_met os _)
set_option maxRecDepth 100000 in
theorem orderMeans_lifted (os:Os) (started:os.Started) (H:Type) (enc:TypeId × Value->H) (F:Stop.Interp) :
  ReturnsInHanded {} Tryz.checked os 7 .any ((Rows.OpenSpec.upto Rows.orderMeansSpec).preRow enc Tryz.prog Tryz.f7 Rows.orderMeansUptoRow.domain false Rows.orderMeansUptoRow.laid) (((Rows.OpenSpec.upto Rows.orderMeansSpec).at F).post enc Tryz.prog Tryz.f7 false true false false):=by
 refine returnsInHanded_of_row (C:=Tryz.checked) (s:=Rows.OpenSpec.upto Rows.orderMeansSpec) own started (by kernel_rfl) Tryz.func7
  (witness_row_atRef (enc:=enc) (C:=Tryz.checked) false (laidWorld os) #[.agg #[.slice none 0 0,.slice none 0 0],.agg #[.bool false,.bool false,.slice none 0 0,.slice none 0 0,.slice none 0 0,.slice none 0 0,.int .i64 0,.int .i64 0],.int .i64 0] rfl (by kernel_rfl) (by kernel_rfl) (by kernel_rfl) (orderMeans_witness os enc)) ?_
 intro W base args ds gs before hval0 hW _ hcond hreach hL hsh _
 have hW':=hW
 have hval:∀(j:Nat) t v,Tryz.f7.params[j]?=some t->args[j]?=some v->Value.okWide Tryz.prog W .any base t v:=hval0
 obtain⟨p,q,hA0,hV0,rfl,_,_⟩:=hW
 have hA:DataW.TrodAll enc Tryz.prog W 0 (λ_=>true) true Tryz.f7.params.toList args.toList ds p:=hA0
 rw[Tryz.params7]at hA hval
 obtain⟨v0,vs0,d0,ds0,p0,q0,hargs,rfl,rfl,h0,r0⟩:=trodAll_cons hA
 obtain⟨v1,vs1,d1,ds1,p1,q1,rfl,rfl,rfl,h1,r1⟩:=trodAll_cons r0
 obtain⟨v2,vs2,d2,ds2,p2,q2,rfl,rfl,rfl,h2,r2⟩:=trodAll_cons r1
 obtain⟨rfl,rfl,rfl⟩:=trodAll_nil r2
 obtain rfl:args=#[v0,v1,v2]:=by cases args;simp_all
 obtain⟨rfl,rfl⟩:=trodVars_none hV0
 have hk:=hcond _ rfl
 obtain⟨tv0,tr0,tA0,tB0,tc0,te0,rfl,ht0⟩:=Up.arg_table (hval 0 _ v0 rfl rfl) h0 (Up.sized_arg hreach hk (j:=0) rfl rfl)
 obtain⟨n1,q1,cs1,rfl,hq1,hz1⟩:=Up.arg_query (hval 1 _ v1 rfl rfl) h1 (Up.sized_arg hreach hk (j:=1) rfl rfl)
 obtain⟨n2,rfl,rfl,rfl,wf2⟩:=open_int Tryz.underlying3 (hval 2 _ v2 rfl rfl) h2
 refine(lawOrderMeansQ tv0 tr0 tA0 tB0 tc0 te0 n1 q1 cs1 n2 W (ctx29 hL hsh) ht0 hq1 hz1 wf2).mono ?_
 rintro e W' ⟨rfl,bel⟩
 exact⟨_,rfl,post_true (tb:=4) laidOut (by kernel_rfl) (by kernel_rfl) Tryz.underlying4 rfl hW' rfl bel⟩
theorem orderMeans_k1:Rows.orderMeansUptoRow.wf (OpenSpec.ofChange (Rows.OpenSpec.upto Rows.orderMeansSpec).bare)=true:=by kernel_rfl
theorem orderMeans_k2:laidOutB Tryz.pinned.checked.prog=true:=by kernel_rfl
theorem orderMeans_k3:mapsRowed Tryz.pinned.checked.prog=true:=by kernel_rfl
theorem orderMeans_k4:Tryz.f7.params.all (Tryz.pinned.checked.prog.readableRec ·)=true:=by kernel_rfl
theorem orderMeans_k5:namedTie Tryz.pinned.checked.prog Rows.orderMeansUptoRow.named (Rows.OpenSpec.upto Rows.orderMeansSpec).bare.vars=true:=by kernel_rfl
theorem orderMeans_k6:(Rows.orderMeansUptoRow.stops == [])=true:=by kernel_rfl
theorem orderMeans_k7:(Tryz.pinned.checked.prog.stops == [])=true:=by kernel_rfl
theorem orderMeans_k8:(Rows.orderMeansUptoRow.knobs == [])=true:=by kernel_rfl
theorem orderMeans_k9:(Tryz.pinned.checked.prog.stopKnobs == [])=true:=by kernel_rfl
theorem orderMeans_k10:(Rows.orderMeansUptoRow.inPlace == Tryz.pinned.checked.prog.inPlace 7)=true:=by kernel_rfl
theorem orderMeans_k11:(Rows.orderMeansUptoRow.unfollowed == Tryz.pinned.checked.prog.unfollowed 7)=true:=by kernel_rfl
theorem orderMeans_k12:(Rows.orderMeansUptoRow.recurses == Tryz.pinned.checked.prog.recurses 7)=true:=by kernel_rfl
theorem orderMeans_k13:(Rows.orderMeansUptoRow.named == Tryz.pinned.checked.prog.varsNamed 7)=true:=by kernel_rfl
theorem orderMeans_k14:(Rows.orderMeansUptoRow.maps == (Tryz.f7.params.toList++(Rows.OpenSpec.upto Rows.orderMeansSpec).bare.plain.varTypes Tryz.pinned.checked.prog).any (Tryz.pinned.checked.prog.mapsRec ·))=true:=by kernel_rfl
theorem orderMeans_k15:(Rows.orderMeansUptoRow.ifaces == (Tryz.f7.params.toList++(Rows.OpenSpec.upto Rows.orderMeansSpec).bare.plain.varTypes Tryz.pinned.checked.prog).any (Tryz.pinned.checked.prog.ifacesRec ·))=true:=by kernel_rfl
theorem orderMeans_k16:(Rows.orderMeansUptoRow.mapsOut == Tryz.pinned.checked.prog.mapsAmong Tryz.f7.resultTypes.toList)=true:=by kernel_rfl
theorem orderMeans_k17:(Rows.orderMeansUptoRow.loops == (Tryz.f7.params.toList++(Rows.OpenSpec.upto Rows.orderMeansSpec).bare.plain.varTypes Tryz.pinned.checked.prog).any (Tryz.pinned.checked.prog.loopsFrom ·))=true:=by kernel_rfl
theorem orderMeans_k18:(Rows.orderMeansUptoRow.wideKeys == (Tryz.f7.params.toList++(Rows.OpenSpec.upto Rows.orderMeansSpec).bare.plain.varTypes Tryz.pinned.checked.prog++Tryz.f7.resultTypes.toList).any (Tryz.pinned.checked.prog.wideKeysFrom ·))=true:=by kernel_rfl
theorem orderMeans_k19:(Rows.OpenSpec.upto Rows.orderMeansSpec).bare.vars.all (Tryz.pinned.checked.prog.varReadable ·)=true:=by kernel_rfl
theorem orderMeans_k20:Tryz.f7.resultTypes.all (λt=>Tryz.pinned.checked.prog.readableRec t && decide (t<Tryz.pinned.checked.prog.types.size))=true:=by kernel_rfl
theorem orderMeans_k21:(Rows.orderMeansUptoRow.ifacesOut == Tryz.f7.resultTypes.toList.any (Tryz.pinned.checked.prog.ifacesRec ·))=true:=by kernel_rfl
theorem orderMeans_k22:(Rows.orderMeansUptoRow.loopsOut == Tryz.f7.resultTypes.toList.any (Tryz.pinned.checked.prog.loopsFrom ·))=true:=by kernel_rfl
theorem orderMeans_k23:(Rows.orderMeansUptoRow.plainKeys == Tryz.pinned.checked.prog.plainKeys)=true:=by kernel_rfl
theorem orderMeans_k24:Rows.orderMeansUptoRow.shortTexts.isNone=true:=by kernel_rfl
theorem orderMeans_k25:Tryz.pinned.checked.prog.stopsHeard=true:=by kernel_rfl
theorem orderMeans_k26:Tryz.pinned.checked.prog.mayEnter=true:=by kernel_rfl
theorem orderMeans_k27:(Rows.orderMeansUptoRow.lifted == Tryz.pinned.checked.prog.liftsFinal)=true:=by kernel_rfl
theorem orderMeans_k28:(Tryz.pinned.checked.prog.make == some Rows.orderMeansUptoRow.make)=true:=by kernel_rfl
theorem orderMeans_k29:kindsFit Tryz.pinned.checked.prog Tryz.f7 Rows.orderMeansUptoRow=true:=by kernel_rfl
theorem orderMeans_k30:(Rows.orderMeansUptoRow.pinned == Rows.orderMeansUptoRow.pinnedBy)=true:=by kernel_rfl
theorem orderMeans_k31:(Rows.orderMeansUptoRow.veiled == (Tryz.f7.params.toList++(Rows.OpenSpec.upto Rows.orderMeansSpec).bare.plain.varTypes Tryz.pinned.checked.prog++Tryz.f7.resultTypes.toList).any (Tryz.pinned.checked.prog.veiledRec ·))=true:=by kernel_rfl
theorem orderMeans_k32:Rows.orderMeansUptoRow.veiledFits Tryz.pinned.checked.prog Tryz.f7.params.toList (Tryz.f7.params.toList++(Rows.OpenSpec.upto Rows.orderMeansSpec).bare.plain.varTypes Tryz.pinned.checked.prog++Tryz.f7.resultTypes.toList)=true:=by kernel_rfl
theorem orderMeans_nm:Tryz.pinned.checked.prog.funcNamed Rows.orderMeansUptoRow.func=some 7:=by kernel_rfl
theorem orderMeans_inst:Tryz.f7.isInstance Tryz.pinned.checked.prog Rows.orderMeansUptoRow.origin Rows.orderMeansUptoRow.targs:=of_decide_eq_true (by kernel_rfl)
theorem orderMeans_wrap:Tryz.f7.isWrapper Tryz.pinned.checked.prog Rows.orderMeansUptoRow.wrapper Rows.orderMeansUptoRow.mainSum:=by unfold Func.isWrapper;first|(rw[if_pos (by decide +kernel)];kernel_rfl)|(rw[if_neg (by decide +kernel)];exact⟨rfl,rfl⟩)
theorem orderMeans_said:Rows.OrderMeansUptoSaid:=
 OpenClaim.holds_of_cond 7 Tryz.f7 rfl rfl rfl rfl rfl rfl rfl ⟨rfl,rfl,rfl,rfl,rfl⟩ rfl rfl rfl rfl rfl orderMeans_nm Tryz.func7 (joined_parts orderMeans_k1 orderMeans_k2 orderMeans_k3 orderMeans_k4 orderMeans_k5 orderMeans_k6 orderMeans_k7 orderMeans_k8 orderMeans_k9 orderMeans_k10 orderMeans_k11 orderMeans_k12 orderMeans_k13 orderMeans_k14 orderMeans_k15 orderMeans_k16 orderMeans_k17 orderMeans_k18 orderMeans_k19 orderMeans_k20 orderMeans_k21 orderMeans_k22 orderMeans_k23 orderMeans_k24 orderMeans_k25 orderMeans_k26 orderMeans_k27 orderMeans_k28 orderMeans_k29 orderMeans_k30 orderMeans_k31 orderMeans_k32)
  orderMeans_inst orderMeans_wrap
  (λos started H enc _ F=>by rw[OpenClaim.pre_eq_preRow];exact orderMeans_lifted os started H enc F)
theorem orderMeans_plain (f:FuncId) (fn:Func) (hf:Tryz.pinned.checked.prog.funcNamed "ossuary/ossuarylaw29.OrderMeans" = some f) (hfn:Tryz.pinned.checked.prog.funcs[f]?=some fn) :
  true=Tryz.pinned.checked.prog.looks []/\∀(j:Nat) t,fn.params[j]?=some t->Tryz.pinned.checked.prog.wantsStandIn t=false:=by
 obtain rfl:f=7:=Option.some.inj ((show Tryz.prog.funcNamed "ossuary/ossuarylaw29.OrderMeans" = some 7 by kernel_rfl).symm.trans hf) |>.symm
 obtain rfl:fn=Tryz.f7:=(Option.some.inj (Tryz.func7.symm.trans hfn)).symm
 refine⟨by kernel_rfl,λj t ht=>?_⟩
 have hall:Tryz.f7.params.toList.all (λt=>Tryz.prog.wantsStandIn t == false)=true:=by kernel_rfl
 have:=List.all_eq_true.1 hall t (by have:=Array.mem_of_getElem? ht;simpa using this)
 exact beq_iff_eq.1 this
theorem orderMeans_card:Rows.OrderMeansUptoCardSaid:=
 Claim7.holds_tied_plain_at .later [] _ _ _ _ orderMeans_said (λ_ h=>by cases h) (by kernel_rfl) (λ_ h=>by cases h) orderMeansUpto_row_tie rfl ⟨rfl,rfl⟩ (by kernel_rfl) rfl orderMeans_plain (by kernel_rfl)
#print axioms orderMeans_card
end Go.Proofs.YtoejnneknpoanaaGreatDoor
