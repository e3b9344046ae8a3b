/- The closed facts of a row one by one: each is a declaration -/
import Derived.Test.YtoaemihcbmlkgaaGreatDoorJMnA2
namespace Go.Proofs.YtoaemihcbmlkgaaGreatDoor
open Go
def kindsFit (P:Program) (fn:Func) (c:OpenClaim):Bool:=
 c.kinds == (if c.domain.isEmpty then [] else fn.params.toList.map λt=>match P.underlying t with|some (.int k)=>some k|_=>none)
theorem joined_parts {P:Program} {f:FuncId} {fn:Func} {s:ChangeSpec} {c:OpenClaim}
  (k1:c.wf (OpenSpec.ofChange s)=true) (k2:laidOutB P=true) (k3:mapsRowed P=true)
  (k4:fn.params.all (P.readableRec ·)=true) (k5:namedTie P c.named s.vars=true)
  (k6:(c.stops == [])=true) (k7:(P.stops == [])=true) (k8:(c.knobs == [])=true) (k9:(P.stopKnobs == [])=true)
  (k10:(c.inPlace == P.inPlace f)=true) (k11:(c.unfollowed == P.unfollowed f)=true) (k12:(c.recurses == P.recurses f)=true) (k13:(c.named == P.varsNamed f)=true)
  (k14:(c.maps == (fn.params.toList++s.plain.varTypes P).any (P.mapsRec ·))=true) (k15:(c.ifaces == (fn.params.toList++s.plain.varTypes P).any (P.ifacesRec ·))=true) (k16:(c.mapsOut == P.mapsAmong fn.resultTypes.toList)=true)
  (k17:(c.loops == (fn.params.toList++s.plain.varTypes P).any (P.loopsFrom ·))=true) (k18:(c.wideKeys == (fn.params.toList++s.plain.varTypes P++fn.resultTypes.toList).any (P.wideKeysFrom ·))=true)
  (k19:s.vars.all (P.varReadable ·)=true) (k20:fn.resultTypes.all (λt=>P.readableRec t && decide (t<P.types.size))=true) (k21:(c.ifacesOut == fn.resultTypes.toList.any (P.ifacesRec ·))=true) (k22:(c.loopsOut == fn.resultTypes.toList.any (P.loopsFrom ·))=true)
  (k23:(c.plainKeys == P.plainKeys)=true) (k24:c.shortTexts.isNone=true) (k25:P.stopsHeard=true) (k26:P.mayEnter=true) (k27:(c.lifted == P.liftsFinal)=true) (k28:(P.make == some c.make)=true)
  (k29:kindsFit P fn c=true) (k30:(c.pinned == c.pinnedBy)=true)
  (k31:(c.veiled == (fn.params.toList++s.plain.varTypes P++fn.resultTypes.toList).any (P.veiledRec ·))=true) (k32:c.veiledFits P fn.params.toList (fn.params.toList++s.plain.varTypes P++fn.resultTypes.toList)=true) :
  joinedFacts P f fn s c=true:=by
 simp only[joinedFacts,Bool.and_eq_true]
 exact⟨⟨⟨⟨⟨⟨⟨⟨⟨⟨⟨⟨⟨⟨⟨⟨⟨⟨⟨⟨⟨⟨⟨⟨⟨⟨⟨⟨⟨⟨⟨k1,k2⟩,k3⟩,k4⟩,k5⟩,k6⟩,k7⟩,k8⟩,k9⟩,k10⟩,k11⟩,k12⟩,k13⟩,k14⟩,k15⟩,k16⟩,k17⟩,k18⟩,k19⟩,k20⟩,k21⟩,k22⟩,k23⟩,k24⟩,k25⟩,k26⟩,k27⟩,k28⟩,k29⟩,k30⟩,k31⟩,k32⟩
open Go.ChangeShapes Go.WideShapes Go.ChangeAt Go.RowKit Go.Lib
open Go.ChangeMaps (open_string shut_string)
open Fm Tx in
theorem lawMeanAnswersQ (set:List Tp) (As:Option Addr) (cs:Nat) (n:Nat) (q:Qy n) (qc:List Value) (w:World) (hC:CtxT w) (hcs:set.length<=cs) (hrs:RdL 12 (λcs (t:Tp)=>cs=(tpC t).toList) w As set) (hls:set.length<=837723144947) (hz:∀t∈set,hugeTp t)
  (hq:RdQ n w qc q) (hzq:szQw q) :
  Calls Tryz.prog 4 #[.slice As set.length cs,.agg qc.toArray] w λe w'=>e=.returned (.bool true)/\Below w.heap.size w w':=by
 obtain⟨xs,h1,h2⟩:=hrs
 have e:xs=set.flatMap tpL:=h2.flat
 subst e
 obtain⟨a1,a2,a3,a4,c1,c2,c3,c4,rfl,hc,g1,g2,g3,g4⟩:=hq
 exact lawMeanAnswers n q set As a1 a2 a3 a4 cs _ c1 c2 c3 c4 w ⟨rfl,hC,by omega,hz,h1,hzq.q,hzq.l,hc,g1,g2,g3,g4⟩ hcs
theorem meanAnswers_witness (os:Os) {H:Type} (enc:TypeId × Value->H) :
  (OpenSpec.ofChange Rows.meanAnswersSpec).preRow enc Tryz.prog Tryz.f4 Rows.meanAnswersRow.domain false Rows.meanAnswersRow.laid ((laidWorld os).forCall (λ_ _=>0) ⟨#[],#[.slice none 0 0,.agg #[.bool false,.bool false,.slice none 0 0,.slice none 0 0,.slice none 0 0,.slice none 0 0,.int .i64 0,.int .i64 0]],[]⟩).memory #[.slice none 0 0,.agg #[.bool false,.bool false,.slice none 0 0,.slice none 0 0,.slice none 0 0,.slice none 0 0,.int .i64 0,.int .i64 0]]:=by
 have hw:(DataW.whole enc Tryz.prog ((laidWorld os).forCall (λ_ _=>0) ⟨#[],#[.slice none 0 0,.agg #[.bool false,.bool false,.slice none 0 0,.slice none 0 0,.slice none 0 0,.slice none 0 0,.int .i64 0,.int .i64 0]],[]⟩).memory Tryz.f4.params.toList Rows.meanAnswersSpec.vars false (#[Value.slice none 0 0,Value.agg #[.bool false,.bool false,.slice none 0 0,.slice none 0 0,.slice none 0 0,.slice none 0 0,.int .i64 0,.int .i64 0]]:Array Value).toList 8).map (λx=>(x.1,x.2.1)) =
   some ([.nil,.agg [.lit (.bool false),.lit (.bool false),.nil,.nil,.nil,.nil,.lit (.int .i64 0),.lit (.int .i64 0)]],[]):=by kernel_rfl
 obtain⟨⟨x1,x2,x3⟩,hx,hx1⟩:=Option.map_eq_some_iff.1 hw
 simp only[Prod.mk.injEq]at hx1
 obtain⟨rfl,rfl⟩:=hx1
 exact OpenSpec.preRow_of_cond 8 hx (by kernel_rfl) (λk hk=>by cases hk) (by kernel_rfl) (laid_met os _)
set_option maxRecDepth 100000 in
theorem meanAnswers_lifted (os:Os) (started:os.Started) (H:Type) (enc:TypeId × Value->H) (F:Stop.Interp) :
  ReturnsInHanded {} Tryz.checked os 4 .any ((OpenSpec.ofChange Rows.meanAnswersSpec).preRow enc Tryz.prog Tryz.f4 Rows.meanAnswersRow.domain false Rows.meanAnswersRow.laid) (((OpenSpec.ofChange Rows.meanAnswersSpec).at F).post enc Tryz.prog Tryz.f4 false true false false):=by
 refine returnsInHanded_of_row (C:=Tryz.checked) (s:=OpenSpec.ofChange Rows.meanAnswersSpec) own started (by kernel_rfl) Tryz.func4
  (witness_row_atRef (enc:=enc) (C:=Tryz.checked) false (laidWorld os) #[.slice none 0 0,.agg #[.bool false,.bool false,.slice none 0 0,.slice none 0 0,.slice none 0 0,.slice none 0 0,.int .i64 0,.int .i64 0]] rfl (by kernel_rfl) (by kernel_rfl) (by kernel_rfl) (meanAnswers_witness os enc)) ?_
 intro W base args ds gs before hval0 hW _ _ hreach hL hsh _
 have hW':=hW
 have hval:∀(j:Nat) t v,Tryz.f4.params[j]?=some t->args[j]?=some v->Value.okWide Tryz.prog W .any base t v:=hval0
 obtain⟨p,q,hA0,hV0,rfl,_,_⟩:=hW
 have hA:DataW.TrodAll enc Tryz.prog W 0 (λ_=>true) true Tryz.f4.params.toList args.toList ds p:=hA0
 rw[Tryz.params4]at hA hval
 obtain⟨v0,vs0,d0,ds0,p0,q0,hargs,rfl,rfl,h0,r0⟩:=trodAll_cons hA
 obtain⟨v1,vs1,d1,ds1,p1,q1,rfl,rfl,rfl,h1,r1⟩:=trodAll_cons r0
 obtain⟨rfl,rfl,rfl⟩:=trodAll_nil r1
 obtain rfl:args=#[v0,v1]:=by cases args;simp_all
 obtain⟨rfl,rfl⟩:=trodVars_none hV0
 obtain⟨l0,A0,c0,rfl,hc0,hrd0,hl0,hz0⟩:=Ot.arg_trips (hval 0 _ v0 rfl rfl) h0 (Ot.sized_arg hreach (j:=0) rfl rfl)
 obtain⟨n1,q1,cs1,rfl,hq1,hz1⟩:=Wd.arg_query (hval 1 _ v1 rfl rfl) h1 (sized_arg hreach (j:=1) rfl rfl)
 refine(lawMeanAnswersQ l0 A0 c0 n1 q1 cs1 W (ctx_of hL hsh) hc0 hrd0 hl0 hz0 hq1 hz1).mono ?_
 rintro e W' ⟨rfl,bel⟩
 exact⟨_,rfl,post_true (tb:=4) laidOut (by kernel_rfl) (by kernel_rfl) Tryz.underlying4 rfl hW' rfl bel⟩
theorem meanAnswers_k1:Rows.meanAnswersRow.wf (OpenSpec.ofChange Rows.meanAnswersSpec)=true:=by kernel_rfl
theorem meanAnswers_k2:laidOutB Tryz.pinned.checked.prog=true:=by kernel_rfl
theorem meanAnswers_k3:mapsRowed Tryz.pinned.checked.prog=true:=by kernel_rfl
theorem meanAnswers_k4:Tryz.f4.params.all (Tryz.pinned.checked.prog.readableRec ·)=true:=by kernel_rfl
theorem meanAnswers_k5:namedTie Tryz.pinned.checked.prog Rows.meanAnswersRow.named Rows.meanAnswersSpec.vars=true:=by kernel_rfl
theorem meanAnswers_k6:(Rows.meanAnswersRow.stops == [])=true:=by kernel_rfl
theorem meanAnswers_k7:(Tryz.pinned.checked.prog.stops == [])=true:=by kernel_rfl
theorem meanAnswers_k8:(Rows.meanAnswersRow.knobs == [])=true:=by kernel_rfl
theorem meanAnswers_k9:(Tryz.pinned.checked.prog.stopKnobs == [])=true:=by kernel_rfl
theorem meanAnswers_k10:(Rows.meanAnswersRow.inPlace == Tryz.pinned.checked.prog.inPlace 4)=true:=by kernel_rfl
theorem meanAnswers_k11:(Rows.meanAnswersRow.unfollowed == Tryz.pinned.checked.prog.unfollowed 4)=true:=by kernel_rfl
theorem meanAnswers_k12:(Rows.meanAnswersRow.recurses == Tryz.pinned.checked.prog.recurses 4)=true:=by kernel_rfl
theorem meanAnswers_k13:(Rows.meanAnswersRow.named == Tryz.pinned.checked.prog.varsNamed 4)=true:=by kernel_rfl
theorem meanAnswers_k14:(Rows.meanAnswersRow.maps == (Tryz.f4.params.toList++Rows.meanAnswersSpec.plain.varTypes Tryz.pinned.checked.prog).any (Tryz.pinned.checked.prog.mapsRec ·))=true:=by kernel_rfl
theorem meanAnswers_k15:(Rows.meanAnswersRow.ifaces == (Tryz.f4.params.toList++Rows.meanAnswersSpec.plain.varTypes Tryz.pinned.checked.prog).any (Tryz.pinned.checked.prog.ifacesRec ·))=true:=by kernel_rfl
theorem meanAnswers_k16:(Rows.meanAnswersRow.mapsOut == Tryz.pinned.checked.prog.mapsAmong Tryz.f4.resultTypes.toList)=true:=by kernel_rfl
theorem meanAnswers_k17:(Rows.meanAnswersRow.loops == (Tryz.f4.params.toList++Rows.meanAnswersSpec.plain.varTypes Tryz.pinned.checked.prog).any (Tryz.pinned.checked.prog.loopsFrom ·))=true:=by kernel_rfl
theorem meanAnswers_k18:(Rows.meanAnswersRow.wideKeys == (Tryz.f4.params.toList++Rows.meanAnswersSpec.plain.varTypes Tryz.pinned.checked.prog++Tryz.f4.resultTypes.toList).any (Tryz.pinned.checked.prog.wideKeysFrom ·))=true:=by kernel_rfl
theorem meanAnswers_k19:Rows.meanAnswersSpec.vars.all (Tryz.pinned.checked.prog.varReadable ·)=true:=by kernel_rfl
theorem meanAnswers_k20:Tryz.f4.resultTypes.all (λt=>Tryz.pinned.checked.prog.readableRec t && decide (t<Tryz.pinned.checked.prog.types.size))=true:=by kernel_rfl
theorem meanAnswers_k21:(Rows.meanAnswersRow.ifacesOut == Tryz.f4.resultTypes.toList.any (Tryz.pinned.checked.prog.ifacesRec ·))=true:=by kernel_rfl
theorem meanAnswers_k22:(Rows.meanAnswersRow.loopsOut == Tryz.f4.resultTypes.toList.any (Tryz.pinned.checked.prog.loopsFrom ·))=true:=by kernel_rfl
theorem meanAnswers_k23:(Rows.meanAnswersRow.plainKeys == Tryz.pinned.checked.prog.plainKeys)=true:=by kernel_rfl
theorem meanAnswers_k24:Rows.meanAnswersRow.shortTexts.isNone=true:=by kernel_rfl
theorem meanAnswers_k25:Tryz.pinned.checked.prog.stopsHeard=true:=by kernel_rfl
theorem meanAnswers_k26:Tryz.pinned.checked.prog.mayEnter=true:=by kernel_rfl
theorem meanAnswers_k27:(Rows.meanAnswersRow.lifted == Tryz.pinned.checked.prog.liftsFinal)=true:=by kernel_rfl
theorem meanAnswers_k28:(Tryz.pinned.checked.prog.make == some Rows.meanAnswersRow.make)=true:=by kernel_rfl
theorem meanAnswers_k29:kindsFit Tryz.pinned.checked.prog Tryz.f4 Rows.meanAnswersRow=true:=by kernel_rfl
theorem meanAnswers_k30:(Rows.meanAnswersRow.pinned == Rows.meanAnswersRow.pinnedBy)=true:=by kernel_rfl
theorem meanAnswers_k31:(Rows.meanAnswersRow.veiled == (Tryz.f4.params.toList++Rows.meanAnswersSpec.plain.varTypes Tryz.pinned.checked.prog++Tryz.f4.resultTypes.toList).any (Tryz.pinned.checked.prog.veiledRec ·))=true:=by kernel_rfl
theorem meanAnswers_k32:Rows.meanAnswersRow.veiledFits Tryz.pinned.checked.prog Tryz.f4.params.toList (Tryz.f4.params.toList++Rows.meanAnswersSpec.plain.varTypes Tryz.pinned.checked.prog++Tryz.f4.resultTypes.toList)=true:=by kernel_rfl
theorem meanAnswers_nm:Tryz.pinned.checked.prog.funcNamed Rows.meanAnswersRow.func=some 4:=by kernel_rfl
theorem meanAnswers_inst:Tryz.f4.isInstance Tryz.pinned.checked.prog Rows.meanAnswersRow.origin Rows.meanAnswersRow.targs:=of_decide_eq_true (by kernel_rfl)
theorem meanAnswers_wrap:Tryz.f4.isWrapper Tryz.pinned.checked.prog Rows.meanAnswersRow.wrapper Rows.meanAnswersRow.mainSum:=by unfold Func.isWrapper;first|(rw[if_pos (by decide +kernel)];kernel_rfl)|(rw[if_neg (by decide +kernel)];exact⟨rfl,rfl⟩)
theorem meanAnswers_said:Rows.MeanAnswersSaid:=
 OpenClaim.holds_of_cond 4 Tryz.f4 rfl rfl rfl rfl rfl rfl rfl ⟨rfl,rfl,rfl,rfl,rfl⟩ rfl rfl rfl rfl rfl meanAnswers_nm Tryz.func4 (joined_parts meanAnswers_k1 meanAnswers_k2 meanAnswers_k3 meanAnswers_k4 meanAnswers_k5 meanAnswers_k6 meanAnswers_k7 meanAnswers_k8 meanAnswers_k9 meanAnswers_k10 meanAnswers_k11 meanAnswers_k12 meanAnswers_k13 meanAnswers_k14 meanAnswers_k15 meanAnswers_k16 meanAnswers_k17 meanAnswers_k18 meanAnswers_k19 meanAnswers_k20 meanAnswers_k21 meanAnswers_k22 meanAnswers_k23 meanAnswers_k24 meanAnswers_k25 meanAnswers_k26 meanAnswers_k27 meanAnswers_k28 meanAnswers_k29 meanAnswers_k30 meanAnswers_k31 meanAnswers_k32)
  meanAnswers_inst meanAnswers_wrap
  (λos started H enc _ F=>by rw[OpenClaim.pre_eq_preRow];exact meanAnswers_lifted os started H enc F)
theorem meanAnswers_plain (f:FuncId) (fn:Func) (hf:Tryz.pinned.checked.prog.funcNamed "ossuary/ossuarylaw26.MeanAnswers" = some f) (hfn:Tryz.pinned.checked.prog.funcs[f]?=some fn) :
  true=Tryz.pinned.checked.prog.looks []/\∀(j:Nat) t,fn.params[j]?=some t->Tryz.pinned.checked.prog.wantsStandIn t=false:=by
 obtain rfl:f=4:=Option.some.inj ((show Tryz.prog.funcNamed "ossuary/ossuarylaw26.MeanAnswers" = some 4 by kernel_rfl).symm.trans hf) |>.symm
 obtain rfl:fn=Tryz.f4:=(Option.some.inj (Tryz.func4.symm.trans hfn)).symm
 refine⟨by kernel_rfl,λj t ht=>?_⟩
 have hall:Tryz.f4.params.toList.all (λt=>Tryz.prog.wantsStandIn t == false)=true:=by kernel_rfl
 have:=List.all_eq_true.1 hall t (by have:=Array.mem_of_getElem? ht;simpa using this)
 exact beq_iff_eq.1 this
theorem meanAnswers_card:Rows.MeanAnswersCardSaid:=
 Claim7.holds_tied_plain_at .later [] _ _ _ _ meanAnswers_said (λ_ h=>by cases h) (by kernel_rfl) (λ_ h=>by cases h) meanAnswers_row_tie rfl ⟨rfl,rfl⟩ (by kernel_rfl) rfl meanAnswers_plain (by kernel_rfl)
#print axioms meanAnswers_card
end Go.Proofs.YtoaemihcbmlkgaaGreatDoor
