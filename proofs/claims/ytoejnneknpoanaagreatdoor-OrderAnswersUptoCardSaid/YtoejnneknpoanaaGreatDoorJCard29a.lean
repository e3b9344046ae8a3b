/- OrderAnswers: for every input of bulk at most 1048576 the la -/
import Derived.Test.YtoejnneknpoanaaGreatDoorJLaw29h
namespace Go.Proofs.YtoejnneknpoanaaGreatDoor
open Go Go.ChangeShapes Go.WideShapes Go.ChangeAt Go.RowKit Go.Lib
open Go.ChangeMaps (open_string shut_string)
open Fm in
theorem kx (vars:List ByteArray) (rows:List (List Tm)) (A B:Option Addr) (c e n:Nat) (q:Qy n) (cs:List Value) (w:World) (hC:dq w/\eD w) (ht:vars.length<=1048576/\rows.length<=1048576/\(∀r∈rows,r.length<=1048576/\∀t∈r,keyTm t)/\vars.length<=c/\rows.length<=e/\Rd w A (vars.map Value.string)/\RdRs w B rows) (ha:RdQ n w cs q) (za:rU q) :
  Calls Tryz.prog 5 #[.agg #[.slice A vars.length c,.slice B rows.length e],.agg cs.toArray] w λe w'=>e=.returned (.bool true)/\Below w.heap.size w w':=by
 obtain⟨a1,a2,a3,a4,c1,c2,c3,c4,rfl,h⟩:=ha
 exact lU n q a1 a2 a3 a4 c1 c2 c3 c4 vars rows A B c e w hC.1 hC.2 za ⟨a1,a2,a3,a4,c1,c2,c3,c4,rfl,h⟩ ht.1 ht.2.1 ht.2.2.1 ht.2.2.2.1 ht.2.2.2.2.1 ht.2.2.2.2.2.1 ht.2.2.2.2.2.2
theorem gm (os:Os) {H:Type} (enc:TypeId × Value->H) :
  (Rows.OpenSpec.upto Rows.orderAnswersSpec).preRow enc Tryz.prog Tryz.f5 Rows.orderAnswersUptoRow.domain false Rows.orderAnswersUptoRow.laid ((cQ os).forCall (λ_ _=>0) ⟨#[],#[.agg #[.slice none 0 0,.slice none 0 0],.agg #[.bool false,.bool false,.slice none 0 0,.slice none 0 0,.slice none 0 0,.slice none 0 0,.int .i64 0,.int .i64 0]],[]⟩).memory #[.agg #[.slice none 0 0,.slice none 0 0],.agg #[.bool false,.bool false,.slice none 0 0,.slice none 0 0,.slice none 0 0,.slice none 0 0,.int .i64 0,.int .i64 0]]:=by
 have hw:(DataW.whole enc Tryz.prog ((cQ os).forCall (λ_ _=>0) ⟨#[],#[.agg #[.slice none 0 0,.slice none 0 0],.agg #[.bool false,.bool false,.slice none 0 0,.slice none 0 0,.slice none 0 0,.slice none 0 0,.int .i64 0,.int .i64 0]],[]⟩).memory Tryz.f5.params.toList Rows.orderAnswersSpec.vars false (#[Value.agg #[.slice none 0 0,.slice none 0 0],Value.agg #[.bool false,.bool false,.slice none 0 0,.slice none 0 0,.slice none 0 0,.slice none 0 0,.int .i64 0,.int .i64 0]]:Array Value).toList 8).map (λx=>(x.1,x.2.1)) =
   some ([.agg [.nil,.nil],.agg [.lit (.bool false),.lit (.bool false),.nil,.nil,.nil,.nil,.lit (.int .i64 0),.lit (.int .i64 0)]],[]):=by kernel_rfl
 obtain⟨⟨x1,x2,x3⟩,hx,hx1⟩:=Option.map_eq_some_iff.1 hw
 simp only[Prod.mk.injEq]at hx1
 obtain⟨rfl,rfl⟩:=hx1
 exact OpenSpec.preRow_of_cond 8 hx (by kernel_rfl) (λk hk=>by cases hk;kernel_rfl) (by kernel_rfl) (sI os _)
set_option maxRecDepth 100000 in
theorem gZ (os:Os) (started:os.Started) (H:Type) (enc:TypeId × Value->H) (F:Stop.Interp) :
  ReturnsInHanded {} Tryz.checked os 5 .any ((Rows.OpenSpec.upto Rows.orderAnswersSpec).preRow enc Tryz.prog Tryz.f5 Rows.orderAnswersUptoRow.domain false Rows.orderAnswersUptoRow.laid) (((Rows.OpenSpec.upto Rows.orderAnswersSpec).at F).post enc Tryz.prog Tryz.f5 false true false false):=by
 refine returnsInHanded_of_row (C:=Tryz.checked) (s:=Rows.OpenSpec.upto Rows.orderAnswersSpec) own started (by kernel_rfl) Tryz.func5
  (witness_row_atRef (enc:=enc) (C:=Tryz.checked) false (cQ os) #[.agg #[.slice none 0 0,.slice none 0 0],.agg #[.bool false,.bool false,.slice none 0 0,.slice none 0 0,.slice none 0 0,.slice none 0 0,.int .i64 0,.int .i64 0]] rfl (by kernel_rfl) (by kernel_rfl) (by kernel_rfl) (gm os enc)) ?_
 intro W base args ds gs before hval0 hW _ hcond hreach hL hsh _
 have hW':=hW
 have hval:∀(j:Nat) t v,Tryz.f5.params[j]?=some t->args[j]?=some v->Value.okWide Tryz.prog W .any base t v:=hval0
 obtain⟨p,q,hA0,hV0,rfl,_,_⟩:=hW
 have hA:DataW.TrodAll enc Tryz.prog W 0 (λ_=>true) true Tryz.f5.params.toList args.toList ds p:=hA0
 rw[Tryz.params5]at hA hval
 obtain⟨v0,vs0,d0,ds0,p0,q0,hargs,rfl,rfl,h0,r0⟩:=trodAll_cons hA
 obtain⟨v1,vs1,d1,ds1,p1,q1,rfl,rfl,rfl,h1,r1⟩:=trodAll_cons r0
 obtain⟨rfl,rfl,rfl⟩:=trodAll_nil r1
 obtain rfl:args=#[v0,v1]:=by cases args;simp_all
 obtain⟨rfl,rfl⟩:=trodVars_none hV0
 have hk:=hcond _ rfl
 obtain⟨tv0,tr0,tA0,tB0,tc0,te0,rfl,ht0⟩:=Up.arg_table (hval 0 _ v0 rfl rfl) h0 (Up.sized_arg hreach hk (j:=0) rfl rfl)
 obtain⟨n1,q1,cs1,rfl,hq1,hz1⟩:=Up.arg_query (hval 1 _ v1 rfl rfl) h1 (Up.sized_arg hreach hk (j:=1) rfl rfl)
 refine(kx tv0 tr0 tA0 tB0 tc0 te0 n1 q1 cs1 W (Dw hL hsh) ht0 hq1 hz1).mono ?_
 rintro e W' ⟨rfl,bel⟩
 exact⟨_,rfl,pq (tb:=4) laidOut (by kernel_rfl) (by kernel_rfl) Tryz.underlying4 rfl hW' rfl bel⟩
theorem lS:Rows.orderAnswersUptoRow.wf (OpenSpec.ofChange (Rows.OpenSpec.upto Rows.orderAnswersSpec).bare)=true:=by kernel_rfl
theorem lR:laidOutB Tryz.pinned.checked.prog=true:=by kernel_rfl
theorem lQ:mapsRowed Tryz.pinned.checked.prog=true:=by kernel_rfl
theorem lP:Tryz.f5.params.all (Tryz.pinned.checked.prog.readableRec ·)=true:=by kernel_rfl
theorem lO:namedTie Tryz.pinned.checked.prog Rows.orderAnswersUptoRow.named (Rows.OpenSpec.upto Rows.orderAnswersSpec).bare.vars=true:=by kernel_rfl
theorem lN:(Rows.orderAnswersUptoRow.stops == [])=true:=by kernel_rfl
theorem lM:(Tryz.pinned.checked.prog.stops == [])=true:=by kernel_rfl
theorem lL:(Rows.orderAnswersUptoRow.knobs == [])=true:=by kernel_rfl
theorem lK:(Tryz.pinned.checked.prog.stopKnobs == [])=true:=by kernel_rfl
theorem kj:(Rows.orderAnswersUptoRow.inPlace == Tryz.pinned.checked.prog.inPlace 5)=true:=by kernel_rfl
theorem ki:(Rows.orderAnswersUptoRow.unfollowed == Tryz.pinned.checked.prog.unfollowed 5)=true:=by kernel_rfl
theorem kh:(Rows.orderAnswersUptoRow.recurses == Tryz.pinned.checked.prog.recurses 5)=true:=by kernel_rfl
theorem kg:(Rows.orderAnswersUptoRow.named == Tryz.pinned.checked.prog.varsNamed 5)=true:=by kernel_rfl
theorem kf:(Rows.orderAnswersUptoRow.maps == (Tryz.f5.params.toList++(Rows.OpenSpec.upto Rows.orderAnswersSpec).bare.plain.varTypes Tryz.pinned.checked.prog).any (Tryz.pinned.checked.prog.mapsRec ·))=true:=by kernel_rfl
theorem ke:(Rows.orderAnswersUptoRow.ifaces == (Tryz.f5.params.toList++(Rows.OpenSpec.upto Rows.orderAnswersSpec).bare.plain.varTypes Tryz.pinned.checked.prog).any (Tryz.pinned.checked.prog.ifacesRec ·))=true:=by kernel_rfl
theorem kd:(Rows.orderAnswersUptoRow.mapsOut == Tryz.pinned.checked.prog.mapsAmong Tryz.f5.resultTypes.toList)=true:=by kernel_rfl
theorem kc:(Rows.orderAnswersUptoRow.loops == (Tryz.f5.params.toList++(Rows.OpenSpec.upto Rows.orderAnswersSpec).bare.plain.varTypes Tryz.pinned.checked.prog).any (Tryz.pinned.checked.prog.loopsFrom ·))=true:=by kernel_rfl
theorem jZ:(Rows.orderAnswersUptoRow.wideKeys == (Tryz.f5.params.toList++(Rows.OpenSpec.upto Rows.orderAnswersSpec).bare.plain.varTypes Tryz.pinned.checked.prog++Tryz.f5.resultTypes.toList).any (Tryz.pinned.checked.prog.wideKeysFrom ·))=true:=by kernel_rfl
theorem jY:(Rows.OpenSpec.upto Rows.orderAnswersSpec).bare.vars.all (Tryz.pinned.checked.prog.varReadable ·)=true:=by kernel_rfl
theorem jX:Tryz.f5.resultTypes.all (λt=>Tryz.pinned.checked.prog.readableRec t && decide (t<Tryz.pinned.checked.prog.types.size))=true:=by kernel_rfl
theorem jW:(Rows.orderAnswersUptoRow.ifacesOut == Tryz.f5.resultTypes.toList.any (Tryz.pinned.checked.prog.ifacesRec ·))=true:=by kernel_rfl
theorem jV:(Rows.orderAnswersUptoRow.loopsOut == Tryz.f5.resultTypes.toList.any (Tryz.pinned.checked.prog.loopsFrom ·))=true:=by kernel_rfl
theorem jU:(Rows.orderAnswersUptoRow.plainKeys == Tryz.pinned.checked.prog.plainKeys)=true:=by kernel_rfl
theorem jT:Rows.orderAnswersUptoRow.shortTexts.isNone=true:=by kernel_rfl
theorem jS:Tryz.pinned.checked.prog.stopsHeard=true:=by kernel_rfl
theorem jR:Tryz.pinned.checked.prog.mayEnter=true:=by kernel_rfl
theorem jQ:(Rows.orderAnswersUptoRow.lifted == Tryz.pinned.checked.prog.liftsFinal)=true:=by kernel_rfl
theorem jP:(Tryz.pinned.checked.prog.make == some Rows.orderAnswersUptoRow.make)=true:=by kernel_rfl
theorem jO:nn Tryz.pinned.checked.prog Tryz.f5 Rows.orderAnswersUptoRow=true:=by kernel_rfl
theorem jN:(Rows.orderAnswersUptoRow.pinned == Rows.orderAnswersUptoRow.pinnedBy)=true:=by kernel_rfl
theorem jM:(Rows.orderAnswersUptoRow.veiled == (Tryz.f5.params.toList++(Rows.OpenSpec.upto Rows.orderAnswersSpec).bare.plain.varTypes Tryz.pinned.checked.prog++Tryz.f5.resultTypes.toList).any (Tryz.pinned.checked.prog.veiledRec ·))=true:=by kernel_rfl
theorem jL:Rows.orderAnswersUptoRow.veiledFits Tryz.pinned.checked.prog Tryz.f5.params.toList (Tryz.f5.params.toList++(Rows.OpenSpec.upto Rows.orderAnswersSpec).bare.plain.varTypes Tryz.pinned.checked.prog++Tryz.f5.resultTypes.toList)=true:=by kernel_rfl
theorem lJ:Tryz.pinned.checked.prog.funcNamed Rows.orderAnswersUptoRow.func=some 5:=by kernel_rfl
theorem j2:Tryz.f5.isInstance Tryz.pinned.checked.prog Rows.orderAnswersUptoRow.origin Rows.orderAnswersUptoRow.targs:=of_decide_eq_true (by kernel_rfl)
theorem iY:Tryz.f5.isWrapper Tryz.pinned.checked.prog Rows.orderAnswersUptoRow.wrapper Rows.orderAnswersUptoRow.mainSum:=by unfold Func.isWrapper;first|(rw[if_pos (by decide +kernel)];kernel_rfl)|(rw[if_neg (by decide +kernel)];exact⟨rfl,rfl⟩)
theorem iZ:Rows.OrderAnswersUptoSaid:=
 OpenClaim.holds_of_cond 5 Tryz.f5 rfl rfl rfl rfl rfl rfl rfl ⟨rfl,rfl,rfl,rfl,rfl⟩ rfl rfl rfl rfl rfl lJ Tryz.func5 (jg lS lR lQ lP lO lN lM lL lK kj ki kh kg kf ke kd kc jZ jY jX jW jV jU jT jS jR jQ jP jO jN jM jL)
  j2 iY
  (λos started H enc _ F=>by rw[OpenClaim.pre_eq_preRow];exact gZ os started H enc F)
theorem iy (f:FuncId) (fn:Func) (hf:Tryz.pinned.checked.prog.funcNamed "ossuary/ossuarylaw29.OrderAnswers" = some f) (hfn:Tryz.pinned.checked.prog.funcs[f]?=some fn) :
  true=Tryz.pinned.checked.prog.looks []/\∀(j:Nat) t,fn.params[j]?=some t->Tryz.pinned.checked.prog.wantsStandIn t=false:=by
 obtain rfl:f=5:=Option.some.inj ((show Tryz.prog.funcNamed "ossuary/ossuarylaw29.OrderAnswers" = some 5 by kernel_rfl).symm.trans hf) |>.symm
 obtain rfl:fn=Tryz.f5:=(Option.some.inj (Tryz.func5.symm.trans hfn)).symm
 refine⟨by kernel_rfl,λj t ht=>?_⟩
 have hall:Tryz.f5.params.toList.all (λt=>Tryz.prog.wantsStandIn t == false)=true:=by kernel_rfl
 have:=List.all_eq_true.1 hall t (by have:=Array.mem_of_getElem? ht;simpa using this)
 exact beq_iff_eq.1 this
theorem orderAnswers_card:Rows.OrderAnswersUptoCardSaid:=
 Claim7.holds_tied_plain_at .later [] _ _ _ _ iZ (λ_ h=>by cases h) (by kernel_rfl) (λ_ h=>by cases h) orderAnswersUpto_row_tie rfl ⟨rfl,rfl⟩ (by kernel_rfl) rfl iy (by kernel_rfl)
#print axioms orderAnswers_card
end Go.Proofs.YtoejnneknpoanaaGreatDoor
