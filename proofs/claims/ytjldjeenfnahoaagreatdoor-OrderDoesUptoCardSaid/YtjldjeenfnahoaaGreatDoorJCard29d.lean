/- OrderDoes: for every input of bulk at most 1048576 the law r -/
import Derived.Test.YtjldjeenfnahoaaGreatDoorJLaw29i
namespace Go.Proofs.YtjldjeenfnahoaaGreatDoor
open Go Go.ChangeShapes Go.WideShapes Go.ChangeAt Go.RowKit Go.Lib
open Go.ChangeMaps (open_string shut_string)
open Fm in
theorem nc (vars:List ByteArray) (rows:List (List Tm)) (A B:Option Addr) (c e n:Nat) (q:Qy n) (cs:List Value) (w:World) (hC:dJ w/\gL w) (ht:vars.length<=1048576/\rows.length<=1048576/\(∀r∈rows,r.length<=1048576/\∀t∈r,keyTm t)/\vars.length<=c/\rows.length<=e/\Rd w A (vars.map Value.string)/\RdRs w B rows) (ha:RdQ n w cs q) (za:uQ q) :
  Calls Tryz.prog 3 #[.agg #[.slice A vars.length c,.slice B rows.length e],.agg cs.toArray] w λe w'=>e=.returned (.bool true)/\Below w.heap.size w w':=by
 obtain⟨a1,a2,a3,a4,c1,c2,c3,c4,rfl,h⟩:=ha
 exact pd n q a1 a2 a3 a4 c1 c2 c3 c4 vars rows A B c e w hC.1 hC.2 za ⟨a1,a2,a3,a4,c1,c2,c3,c4,rfl,h⟩ ht.1 ht.2.1 ht.2.2.1 ht.2.2.2.1 ht.2.2.2.2.1 ht.2.2.2.2.2.1 ht.2.2.2.2.2.2
theorem iE (os:Os) {H:Type} (enc:TypeId × Value->H) :
  (Rows.OpenSpec.upto Rows.orderDoesSpec).preRow enc Tryz.prog Tryz.f3 Rows.orderDoesUptoRow.domain false Rows.orderDoesUptoRow.laid ((fc os).forCall (λ_ _=>0) ⟨#[],#[.agg #[.slice none 0 0,.slice none 0 0],.agg #[.bool false,.bool false,.slice none 0 0,.slice none 0 0,.slice none 0 0,.slice none 0 0,.int .i64 0,.int .i64 0]],[]⟩).memory #[.agg #[.slice none 0 0,.slice none 0 0],.agg #[.bool false,.bool false,.slice none 0 0,.slice none 0 0,.slice none 0 0,.slice none 0 0,.int .i64 0,.int .i64 0]]:=by
 have hw:(DataW.whole enc Tryz.prog ((fc os).forCall (λ_ _=>0) ⟨#[],#[.agg #[.slice none 0 0,.slice none 0 0],.agg #[.bool false,.bool false,.slice none 0 0,.slice none 0 0,.slice none 0 0,.slice none 0 0,.int .i64 0,.int .i64 0]],[]⟩).memory Tryz.f3.params.toList Rows.orderDoesSpec.vars false (#[Value.agg #[.slice none 0 0,.slice none 0 0],Value.agg #[.bool false,.bool false,.slice none 0 0,.slice none 0 0,.slice none 0 0,.slice none 0 0,.int .i64 0,.int .i64 0]]:Array Value).toList 8).map (λx=>(x.1,x.2.1)) =
   some ([.agg [.nil,.nil],.agg [.lit (.bool false),.lit (.bool false),.nil,.nil,.nil,.nil,.lit (.int .i64 0),.lit (.int .i64 0)]],[]):=by kernel_rfl
 obtain⟨⟨x1,x2,x3⟩,hx,hx1⟩:=Option.map_eq_some_iff.1 hw
 simp only[Prod.mk.injEq]at hx1
 obtain⟨rfl,rfl⟩:=hx1
 exact OpenSpec.preRow_of_cond 8 hx (by kernel_rfl) (λk hk=>by cases hk;kernel_rfl) (by kernel_rfl) (yI os _)
set_option maxRecDepth 100000 in
theorem jk (os:Os) (started:os.Started) (H:Type) (enc:TypeId × Value->H) (F:Stop.Interp) :
  ReturnsInHanded {} Tryz.checked os 3 .any ((Rows.OpenSpec.upto Rows.orderDoesSpec).preRow enc Tryz.prog Tryz.f3 Rows.orderDoesUptoRow.domain false Rows.orderDoesUptoRow.laid) (((Rows.OpenSpec.upto Rows.orderDoesSpec).at F).post enc Tryz.prog Tryz.f3 false true false false):=by
 refine returnsInHanded_of_row (C:=Tryz.checked) (s:=Rows.OpenSpec.upto Rows.orderDoesSpec) own started (by kernel_rfl) Tryz.func3
  (witness_row_atRef (enc:=enc) (C:=Tryz.checked) false (fc os) #[.agg #[.slice none 0 0,.slice none 0 0],.agg #[.bool false,.bool false,.slice none 0 0,.slice none 0 0,.slice none 0 0,.slice none 0 0,.int .i64 0,.int .i64 0]] rfl (by kernel_rfl) (by kernel_rfl) (by kernel_rfl) (iE os enc)) ?_
 intro W base args ds gs before hval0 hW _ hcond hreach hL hsh _
 have hW':=hW
 have hval:∀(j:Nat) t v,Tryz.f3.params[j]?=some t->args[j]?=some v->Value.okWide Tryz.prog W .any base t v:=hval0
 obtain⟨p,q,hA0,hV0,rfl,_,_⟩:=hW
 have hA:DataW.TrodAll enc Tryz.prog W 0 (λ_=>true) true Tryz.f3.params.toList args.toList ds p:=hA0
 rw[Tryz.params3]at hA hval
 obtain⟨v0,vs0,d0,ds0,p0,q0,hargs,rfl,rfl,h0,r0⟩:=trodAll_cons hA
 obtain⟨v1,vs1,d1,ds1,p1,q1,rfl,rfl,rfl,h1,r1⟩:=trodAll_cons r0
 obtain⟨rfl,rfl,rfl⟩:=trodAll_nil r1
 obtain rfl:args=#[v0,v1]:=by cases args;simp_all
 obtain⟨rfl,rfl⟩:=trodVars_none hV0
 have hk:=hcond _ rfl
 obtain⟨tv0,tr0,tA0,tB0,tc0,te0,rfl,ht0⟩:=Up.arg_table (hval 0 _ v0 rfl rfl) h0 (Up.sized_arg hreach hk (j:=0) rfl rfl)
 obtain⟨n1,q1,cs1,rfl,hq1,hz1⟩:=Up.arg_query (hval 1 _ v1 rfl rfl) h1 (Up.sized_arg hreach hk (j:=1) rfl rfl)
 refine(nc tv0 tr0 tA0 tB0 tc0 te0 n1 q1 cs1 W (Dv hL hsh) ht0 hq1 hz1).mono ?_
 rintro e W' ⟨rfl,bel⟩
 exact⟨_,rfl,vn (tb:=4) laidOut (by kernel_rfl) (by kernel_rfl) Tryz.underlying4 rfl hW' rfl bel⟩
theorem oW:Rows.orderDoesUptoRow.wf (OpenSpec.ofChange (Rows.OpenSpec.upto Rows.orderDoesSpec).bare)=true:=by kernel_rfl
theorem oV:laidOutB Tryz.pinned.checked.prog=true:=by kernel_rfl
theorem oU:mapsRowed Tryz.pinned.checked.prog=true:=by kernel_rfl
theorem oT:Tryz.f3.params.all (Tryz.pinned.checked.prog.readableRec ·)=true:=by kernel_rfl
theorem oS:namedTie Tryz.pinned.checked.prog Rows.orderDoesUptoRow.named (Rows.OpenSpec.upto Rows.orderDoesSpec).bare.vars=true:=by kernel_rfl
theorem oR:(Rows.orderDoesUptoRow.stops == [])=true:=by kernel_rfl
theorem oQ:(Tryz.pinned.checked.prog.stops == [])=true:=by kernel_rfl
theorem oP:(Rows.orderDoesUptoRow.knobs == [])=true:=by kernel_rfl
theorem oO:(Tryz.pinned.checked.prog.stopKnobs == [])=true:=by kernel_rfl
theorem na:(Rows.orderDoesUptoRow.inPlace == Tryz.pinned.checked.prog.inPlace 3)=true:=by kernel_rfl
theorem mZ:(Rows.orderDoesUptoRow.unfollowed == Tryz.pinned.checked.prog.unfollowed 3)=true:=by kernel_rfl
theorem mY:(Rows.orderDoesUptoRow.recurses == Tryz.pinned.checked.prog.recurses 3)=true:=by kernel_rfl
theorem mX:(Rows.orderDoesUptoRow.named == Tryz.pinned.checked.prog.varsNamed 3)=true:=by kernel_rfl
theorem mW:(Rows.orderDoesUptoRow.maps == (Tryz.f3.params.toList++(Rows.OpenSpec.upto Rows.orderDoesSpec).bare.plain.varTypes Tryz.pinned.checked.prog).any (Tryz.pinned.checked.prog.mapsRec ·))=true:=by kernel_rfl
theorem mV:(Rows.orderDoesUptoRow.ifaces == (Tryz.f3.params.toList++(Rows.OpenSpec.upto Rows.orderDoesSpec).bare.plain.varTypes Tryz.pinned.checked.prog).any (Tryz.pinned.checked.prog.ifacesRec ·))=true:=by kernel_rfl
theorem mU:(Rows.orderDoesUptoRow.mapsOut == Tryz.pinned.checked.prog.mapsAmong Tryz.f3.resultTypes.toList)=true:=by kernel_rfl
theorem mT:(Rows.orderDoesUptoRow.loops == (Tryz.f3.params.toList++(Rows.OpenSpec.upto Rows.orderDoesSpec).bare.plain.varTypes Tryz.pinned.checked.prog).any (Tryz.pinned.checked.prog.loopsFrom ·))=true:=by kernel_rfl
theorem mS:(Rows.orderDoesUptoRow.wideKeys == (Tryz.f3.params.toList++(Rows.OpenSpec.upto Rows.orderDoesSpec).bare.plain.varTypes Tryz.pinned.checked.prog++Tryz.f3.resultTypes.toList).any (Tryz.pinned.checked.prog.wideKeysFrom ·))=true:=by kernel_rfl
theorem mR:(Rows.OpenSpec.upto Rows.orderDoesSpec).bare.vars.all (Tryz.pinned.checked.prog.varReadable ·)=true:=by kernel_rfl
theorem mQ:Tryz.f3.resultTypes.all (λt=>Tryz.pinned.checked.prog.readableRec t && decide (t<Tryz.pinned.checked.prog.types.size))=true:=by kernel_rfl
theorem mP:(Rows.orderDoesUptoRow.ifacesOut == Tryz.f3.resultTypes.toList.any (Tryz.pinned.checked.prog.ifacesRec ·))=true:=by kernel_rfl
theorem mO:(Rows.orderDoesUptoRow.loopsOut == Tryz.f3.resultTypes.toList.any (Tryz.pinned.checked.prog.loopsFrom ·))=true:=by kernel_rfl
theorem mN:(Rows.orderDoesUptoRow.plainKeys == Tryz.pinned.checked.prog.plainKeys)=true:=by kernel_rfl
theorem mM:Rows.orderDoesUptoRow.shortTexts.isNone=true:=by kernel_rfl
theorem mL:Tryz.pinned.checked.prog.stopsHeard=true:=by kernel_rfl
theorem mK:Tryz.pinned.checked.prog.mayEnter=true:=by kernel_rfl
theorem mJ:(Rows.orderDoesUptoRow.lifted == Tryz.pinned.checked.prog.liftsFinal)=true:=by kernel_rfl
theorem mI:(Tryz.pinned.checked.prog.make == some Rows.orderDoesUptoRow.make)=true:=by kernel_rfl
theorem mH:qM Tryz.pinned.checked.prog Tryz.f3 Rows.orderDoesUptoRow=true:=by kernel_rfl
theorem mG:(Rows.orderDoesUptoRow.pinned == Rows.orderDoesUptoRow.pinnedBy)=true:=by kernel_rfl
theorem mF:(Rows.orderDoesUptoRow.veiled == (Tryz.f3.params.toList++(Rows.OpenSpec.upto Rows.orderDoesSpec).bare.plain.varTypes Tryz.pinned.checked.prog++Tryz.f3.resultTypes.toList).any (Tryz.pinned.checked.prog.veiledRec ·))=true:=by kernel_rfl
theorem mE:Rows.orderDoesUptoRow.veiledFits Tryz.pinned.checked.prog Tryz.f3.params.toList (Tryz.f3.params.toList++(Rows.OpenSpec.upto Rows.orderDoesSpec).bare.plain.varTypes Tryz.pinned.checked.prog++Tryz.f3.resultTypes.toList)=true:=by kernel_rfl
theorem oN:Tryz.pinned.checked.prog.funcNamed Rows.orderDoesUptoRow.func=some 3:=by kernel_rfl
theorem lA:Tryz.f3.isInstance Tryz.pinned.checked.prog Rows.orderDoesUptoRow.origin Rows.orderDoesUptoRow.targs:=of_decide_eq_true (by kernel_rfl)
theorem lw:Tryz.f3.isWrapper Tryz.pinned.checked.prog Rows.orderDoesUptoRow.wrapper Rows.orderDoesUptoRow.mainSum:=by unfold Func.isWrapper;first|(rw[if_pos (by decide +kernel)];kernel_rfl)|(rw[if_neg (by decide +kernel)];exact⟨rfl,rfl⟩)
theorem ly:Rows.OrderDoesUptoSaid:=
 OpenClaim.holds_of_cond 3 Tryz.f3 rfl rfl rfl rfl rfl rfl rfl ⟨rfl,rfl,rfl,rfl,rfl⟩ rfl rfl rfl rfl rfl oN Tryz.func3 (pj oW oV oU oT oS oR oQ oP oO na mZ mY mX mW mV mU mT mS mR mQ mP mO mN mM mL mK mJ mI mH mG mF mE)
  lA lw
  (λos started H enc _ F=>by rw[OpenClaim.pre_eq_preRow];exact jk os started H enc F)
theorem kt (f:FuncId) (fn:Func) (hf:Tryz.pinned.checked.prog.funcNamed "ossuary/ossuarylaw29.OrderDoes" = some f) (hfn:Tryz.pinned.checked.prog.funcs[f]?=some fn) :
  true=Tryz.pinned.checked.prog.looks []/\∀(j:Nat) t,fn.params[j]?=some t->Tryz.pinned.checked.prog.wantsStandIn t=false:=by
 obtain rfl:f=3:=Option.some.inj ((show Tryz.prog.funcNamed "ossuary/ossuarylaw29.OrderDoes" = some 3 by kernel_rfl).symm.trans hf) |>.symm
 obtain rfl:fn=Tryz.f3:=(Option.some.inj (Tryz.func3.symm.trans hfn)).symm
 refine⟨by kernel_rfl,λj t ht=>?_⟩
 have hall:Tryz.f3.params.toList.all (λt=>Tryz.prog.wantsStandIn t == false)=true:=by kernel_rfl
 have:=List.all_eq_true.1 hall t (by have:=Array.mem_of_getElem? ht;simpa using this)
 exact beq_iff_eq.1 this
theorem orderDoes_card:Rows.OrderDoesUptoCardSaid:=
 Claim7.holds_tied_plain_at .later [] _ _ _ _ ly (λ_ h=>by cases h) (by kernel_rfl) (λ_ h=>by cases h) orderDoesUpto_row_tie rfl ⟨rfl,rfl⟩ (by kernel_rfl) rfl kt (by kernel_rfl)
#print axioms orderDoes_card
end Go.Proofs.YtjldjeenfnahoaaGreatDoor
