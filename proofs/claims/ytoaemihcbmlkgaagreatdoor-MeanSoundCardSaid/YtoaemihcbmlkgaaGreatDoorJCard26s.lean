/- The closed facts of a row one by one: each is a declaration -/
import Derived.Test.YtoaemihcbmlkgaaGreatDoorJMnL11
namespace Go.Proofs.YtoaemihcbmlkgaaGreatDoor
open Go
def kindsFit (P:Program) (fn:Func) (c:OpenClaim):Bool:=
 c.kinds == (if c.domain.isEmpty then [] else fn.params.toList.map λt=>match P.underlying t with|some (.int k)=>some k|_=>none)
theorem joined_parts {P:Program} {f:FuncId} {fn:Func} {s:ChangeSpec} {c:OpenClaim}
  (k1:c.wf (OpenSpec.ofChange s)=true) (k2:laidOutB P=true) (k3:mapsRowed P=true)
  (k4:fn.params.all (P.readableRec ·)=true) (k5:namedTie P c.named s.vars=true)
  (k6:(c.stops == [])=true) (k7:(P.stops == [])=true) (k8:(c.knobs == [])=true) (k9:(P.stopKnobs == [])=true)
  (k10:(c.inPlace == P.inPlace f)=true) (k11:(c.unfollowed == P.unfollowed f)=true) (k12:(c.recurses == P.recurses f)=true) (k13:(c.named == P.varsNamed f)=true)
  (k14:(c.maps == (fn.params.toList++s.plain.varTypes P).any (P.mapsRec ·))=true) (k15:(c.ifaces == (fn.params.toList++s.plain.varTypes P).any (P.ifacesRec ·))=true) (k16:(c.mapsOut == P.mapsAmong fn.resultTypes.toList)=true)
  (k17:(c.loops == (fn.params.toList++s.plain.varTypes P).any (P.loopsFrom ·))=true) (k18:(c.wideKeys == (fn.params.toList++s.plain.varTypes P++fn.resultTypes.toList).any (P.wideKeysFrom ·))=true)
  (k19:s.vars.all (P.varReadable ·)=true) (k20:fn.resultTypes.all (λt=>P.readableRec t && decide (t<P.types.size))=true) (k21:(c.ifacesOut == fn.resultTypes.toList.any (P.ifacesRec ·))=true) (k22:(c.loopsOut == fn.resultTypes.toList.any (P.loopsFrom ·))=true)
  (k23:(c.plainKeys == P.plainKeys)=true) (k24:c.shortTexts.isNone=true) (k25:P.stopsHeard=true) (k26:P.mayEnter=true) (k27:(c.lifted == P.liftsFinal)=true) (k28:(P.make == some c.make)=true)
  (k29:kindsFit P fn c=true) (k30:(c.pinned == c.pinnedBy)=true)
  (k31:(c.veiled == (fn.params.toList++s.plain.varTypes P++fn.resultTypes.toList).any (P.veiledRec ·))=true) (k32:c.veiledFits P fn.params.toList (fn.params.toList++s.plain.varTypes P++fn.resultTypes.toList)=true) :
  joinedFacts P f fn s c=true:=by
 simp only[joinedFacts,Bool.and_eq_true]
 exact⟨⟨⟨⟨⟨⟨⟨⟨⟨⟨⟨⟨⟨⟨⟨⟨⟨⟨⟨⟨⟨⟨⟨⟨⟨⟨⟨⟨⟨⟨⟨k1,k2⟩,k3⟩,k4⟩,k5⟩,k6⟩,k7⟩,k8⟩,k9⟩,k10⟩,k11⟩,k12⟩,k13⟩,k14⟩,k15⟩,k16⟩,k17⟩,k18⟩,k19⟩,k20⟩,k21⟩,k22⟩,k23⟩,k24⟩,k25⟩,k26⟩,k27⟩,k28⟩,k29⟩,k30⟩,k31⟩,k32⟩
open Go.ChangeShapes Go.WideShapes Go.ChangeAt Go.RowKit Go.Lib
open Go.ChangeMaps (open_string shut_string)
open Fm Tx in
theorem lawMeanSoundQ (set:List Tp) (As:Option Addr) (cs:Nat) (pats:List Pat) (Ap:Option Addr) (cp:Nat) (tn:Int) (more:Tp) (w:World) (hC:CtxT w) (hcs:set.length<=cs) (hrs:RdL 12 (λcs (t:Tp)=>cs=(tpC t).toList) w As set) (hls:set.length<=837723144947) (hz:∀t∈set,hugeTp t)
  (hcp:pats.length<=cp) (hrp:RdPat w Ap pats) (hlp:pats.length<=651562446070) (_:∀p∈pats,szPw p) (_:(Lit.int .i64 tn).wf=true) (hm:hugeTp more) :
  Calls Tryz.prog 3 #[.slice As set.length cs,.slice Ap pats.length cp,.int .i64 tn,tpA more] w λe w'=>e=.returned (.bool true)/\Below w.heap.size w w':=by
 obtain⟨xs,h1,h2⟩:=hrs
 have e:xs=set.flatMap tpL:=h2.flat
 subst e
 exact lawMeanSound set pats tn more As Ap cs cp _ _ w ⟨rfl,rfl,hC,by omega,by omega,hz,hm,h1,hrp⟩ hcs hcp
theorem meanSound_witness (os:Os) {H:Type} (enc:TypeId × Value->H) :
  (OpenSpec.ofChange Rows.meanSoundSpec).preRow enc Tryz.prog Tryz.f3 Rows.meanSoundRow.domain false Rows.meanSoundRow.laid ((laidWorld os).forCall (λ_ _=>0) ⟨#[],#[.slice none 0 0,.slice none 0 0,.int .i64 0,.agg #[.int .i64 0,.string ⟨#[]⟩,.string ⟨#[]⟩,.string ⟨#[]⟩,.int .i64 0,.string ⟨#[]⟩,.string ⟨#[]⟩,.string ⟨#[]⟩,.int .i64 0,.string ⟨#[]⟩,.string ⟨#[]⟩,.string ⟨#[]⟩]],[]⟩).memory #[.slice none 0 0,.slice none 0 0,.int .i64 0,.agg #[.int .i64 0,.string ⟨#[]⟩,.string ⟨#[]⟩,.string ⟨#[]⟩,.int .i64 0,.string ⟨#[]⟩,.string ⟨#[]⟩,.string ⟨#[]⟩,.int .i64 0,.string ⟨#[]⟩,.string ⟨#[]⟩,.string ⟨#[]⟩]]:=by
 have hw:(DataW.whole enc Tryz.prog ((laidWorld os).forCall (λ_ _=>0) ⟨#[],#[.slice none 0 0,.slice none 0 0,.int .i64 0,.agg #[.int .i64 0,.string ⟨#[]⟩,.string ⟨#[]⟩,.string ⟨#[]⟩,.int .i64 0,.string ⟨#[]⟩,.string ⟨#[]⟩,.string ⟨#[]⟩,.int .i64 0,.string ⟨#[]⟩,.string ⟨#[]⟩,.string ⟨#[]⟩]],[]⟩).memory Tryz.f3.params.toList Rows.meanSoundSpec.vars false (#[Value.slice none 0 0,Value.slice none 0 0,Value.int .i64 0,Value.agg #[.int .i64 0,.string ⟨#[]⟩,.string ⟨#[]⟩,.string ⟨#[]⟩,.int .i64 0,.string ⟨#[]⟩,.string ⟨#[]⟩,.string ⟨#[]⟩,.int .i64 0,.string ⟨#[]⟩,.string ⟨#[]⟩,.string ⟨#[]⟩]]:Array Value).toList 8).map (λx=>(x.1,x.2.1)) =
   some ([.nil,.nil,.lit (.int .i64 0),.agg [.agg [.lit (.int .i64 0),.lit (.string []),.lit (.string []),.lit (.string [])],.agg [.lit (.int .i64 0),.lit (.string []),.lit (.string []),.lit (.string [])],.agg [.lit (.int .i64 0),.lit (.string []),.lit (.string []),.lit (.string [])]]],[]):=by kernel_rfl
 obtain⟨⟨x1,x2,x3⟩,hx,hx1⟩:=Option.map_eq_some_iff.1 hw
 simp only[Prod.mk.injEq]at hx1
 obtain⟨rfl,rfl⟩:=hx1
 exact OpenSpec.preRow_of_cond 8 hx (by kernel_rfl) (λk hk=>by cases hk) (by kernel_rfl) (laid_met os _)
set_option maxRecDepth 100000 in
theorem meanSound_lifted (os:Os) (started:os.Started) (H:Type) (enc:TypeId × Value->H) (F:Stop.Interp) :
  ReturnsInHanded {} Tryz.checked os 3 .any ((OpenSpec.ofChange Rows.meanSoundSpec).preRow enc Tryz.prog Tryz.f3 Rows.meanSoundRow.domain false Rows.meanSoundRow.laid) (((OpenSpec.ofChange Rows.meanSoundSpec).at F).post enc Tryz.prog Tryz.f3 false true false false):=by
 refine returnsInHanded_of_row (C:=Tryz.checked) (s:=OpenSpec.ofChange Rows.meanSoundSpec) own started (by kernel_rfl) Tryz.func3
  (witness_row_atRef (enc:=enc) (C:=Tryz.checked) false (laidWorld os) #[.slice none 0 0,.slice none 0 0,.int .i64 0,.agg #[.int .i64 0,.string ⟨#[]⟩,.string ⟨#[]⟩,.string ⟨#[]⟩,.int .i64 0,.string ⟨#[]⟩,.string ⟨#[]⟩,.string ⟨#[]⟩,.int .i64 0,.string ⟨#[]⟩,.string ⟨#[]⟩,.string ⟨#[]⟩]] rfl (by kernel_rfl) (by kernel_rfl) (by kernel_rfl) (meanSound_witness os enc)) ?_
 intro W base args ds gs before hval0 hW _ _ hreach hL hsh _
 have hW':=hW
 have hval:∀(j:Nat) t v,Tryz.f3.params[j]?=some t->args[j]?=some v->Value.okWide Tryz.prog W .any base t v:=hval0
 obtain⟨p,q,hA0,hV0,rfl,_,_⟩:=hW
 have hA:DataW.TrodAll enc Tryz.prog W 0 (λ_=>true) true Tryz.f3.params.toList args.toList ds p:=hA0
 rw[Tryz.params3]at hA hval
 obtain⟨v0,vs0,d0,ds0,p0,q0,hargs,rfl,rfl,h0,r0⟩:=trodAll_cons hA
 obtain⟨v1,vs1,d1,ds1,p1,q1,rfl,rfl,rfl,h1,r1⟩:=trodAll_cons r0
 obtain⟨v2,vs2,d2,ds2,p2,q2,rfl,rfl,rfl,h2,r2⟩:=trodAll_cons r1
 obtain⟨v3,vs3,d3,ds3,p3,q3,rfl,rfl,rfl,h3,r3⟩:=trodAll_cons r2
 obtain⟨rfl,rfl,rfl⟩:=trodAll_nil r3
 obtain rfl:args=#[v0,v1,v2,v3]:=by cases args;simp_all
 obtain⟨rfl,rfl⟩:=trodVars_none hV0
 obtain⟨l0,A0,c0,rfl,hc0,hrd0,hl0,hz0⟩:=Ot.arg_trips (hval 0 _ v0 rfl rfl) h0 (Ot.sized_arg hreach (j:=0) rfl rfl)
 obtain⟨l1,A1,c1,rfl,hc1,hrd1,hl1,hz1⟩:=Wd.arg_pats (hval 1 _ v1 rfl rfl) h1 (Ot.sized_arg hreach (j:=1) rfl rfl)
 obtain⟨n2,rfl,rfl,rfl,wf2⟩:=open_int Tryz.underlying3 (hval 2 _ v2 rfl rfl) h2
 obtain⟨t3,rfl,hz3⟩:=Ot.arg_trip (hval 3 _ v3 rfl rfl) h3 (Ot.sized_arg hreach (j:=3) rfl rfl)
 refine(lawMeanSoundQ l0 A0 c0 l1 A1 c1 n2 t3 W (ctx_of hL hsh) hc0 hrd0 hl0 hz0 hc1 hrd1 hl1 hz1 wf2 hz3).mono ?_
 rintro e W' ⟨rfl,bel⟩
 exact⟨_,rfl,post_true (tb:=4) laidOut (by kernel_rfl) (by kernel_rfl) Tryz.underlying4 rfl hW' rfl bel⟩
theorem meanSound_k1:Rows.meanSoundRow.wf (OpenSpec.ofChange Rows.meanSoundSpec)=true:=by kernel_rfl
theorem meanSound_k2:laidOutB Tryz.pinned.checked.prog=true:=by kernel_rfl
theorem meanSound_k3:mapsRowed Tryz.pinned.checked.prog=true:=by kernel_rfl
theorem meanSound_k4:Tryz.f3.params.all (Tryz.pinned.checked.prog.readableRec ·)=true:=by kernel_rfl
theorem meanSound_k5:namedTie Tryz.pinned.checked.prog Rows.meanSoundRow.named Rows.meanSoundSpec.vars=true:=by kernel_rfl
theorem meanSound_k6:(Rows.meanSoundRow.stops == [])=true:=by kernel_rfl
theorem meanSound_k7:(Tryz.pinned.checked.prog.stops == [])=true:=by kernel_rfl
theorem meanSound_k8:(Rows.meanSoundRow.knobs == [])=true:=by kernel_rfl
theorem meanSound_k9:(Tryz.pinned.checked.prog.stopKnobs == [])=true:=by kernel_rfl
theorem meanSound_k10:(Rows.meanSoundRow.inPlace == Tryz.pinned.checked.prog.inPlace 3)=true:=by kernel_rfl
theorem meanSound_k11:(Rows.meanSoundRow.unfollowed == Tryz.pinned.checked.prog.unfollowed 3)=true:=by kernel_rfl
theorem meanSound_k12:(Rows.meanSoundRow.recurses == Tryz.pinned.checked.prog.recurses 3)=true:=by kernel_rfl
theorem meanSound_k13:(Rows.meanSoundRow.named == Tryz.pinned.checked.prog.varsNamed 3)=true:=by kernel_rfl
theorem meanSound_k14:(Rows.meanSoundRow.maps == (Tryz.f3.params.toList++Rows.meanSoundSpec.plain.varTypes Tryz.pinned.checked.prog).any (Tryz.pinned.checked.prog.mapsRec ·))=true:=by kernel_rfl
theorem meanSound_k15:(Rows.meanSoundRow.ifaces == (Tryz.f3.params.toList++Rows.meanSoundSpec.plain.varTypes Tryz.pinned.checked.prog).any (Tryz.pinned.checked.prog.ifacesRec ·))=true:=by kernel_rfl
theorem meanSound_k16:(Rows.meanSoundRow.mapsOut == Tryz.pinned.checked.prog.mapsAmong Tryz.f3.resultTypes.toList)=true:=by kernel_rfl
theorem meanSound_k17:(Rows.meanSoundRow.loops == (Tryz.f3.params.toList++Rows.meanSoundSpec.plain.varTypes Tryz.pinned.checked.prog).any (Tryz.pinned.checked.prog.loopsFrom ·))=true:=by kernel_rfl
theorem meanSound_k18:(Rows.meanSoundRow.wideKeys == (Tryz.f3.params.toList++Rows.meanSoundSpec.plain.varTypes Tryz.pinned.checked.prog++Tryz.f3.resultTypes.toList).any (Tryz.pinned.checked.prog.wideKeysFrom ·))=true:=by kernel_rfl
theorem meanSound_k19:Rows.meanSoundSpec.vars.all (Tryz.pinned.checked.prog.varReadable ·)=true:=by kernel_rfl
theorem meanSound_k20:Tryz.f3.resultTypes.all (λt=>Tryz.pinned.checked.prog.readableRec t && decide (t<Tryz.pinned.checked.prog.types.size))=true:=by kernel_rfl
theorem meanSound_k21:(Rows.meanSoundRow.ifacesOut == Tryz.f3.resultTypes.toList.any (Tryz.pinned.checked.prog.ifacesRec ·))=true:=by kernel_rfl
theorem meanSound_k22:(Rows.meanSoundRow.loopsOut == Tryz.f3.resultTypes.toList.any (Tryz.pinned.checked.prog.loopsFrom ·))=true:=by kernel_rfl
theorem meanSound_k23:(Rows.meanSoundRow.plainKeys == Tryz.pinned.checked.prog.plainKeys)=true:=by kernel_rfl
theorem meanSound_k24:Rows.meanSoundRow.shortTexts.isNone=true:=by kernel_rfl
theorem meanSound_k25:Tryz.pinned.checked.prog.stopsHeard=true:=by kernel_rfl
theorem meanSound_k26:Tryz.pinned.checked.prog.mayEnter=true:=by kernel_rfl
theorem meanSound_k27:(Rows.meanSoundRow.lifted == Tryz.pinned.checked.prog.liftsFinal)=true:=by kernel_rfl
theorem meanSound_k28:(Tryz.pinned.checked.prog.make == some Rows.meanSoundRow.make)=true:=by kernel_rfl
theorem meanSound_k29:kindsFit Tryz.pinned.checked.prog Tryz.f3 Rows.meanSoundRow=true:=by kernel_rfl
theorem meanSound_k30:(Rows.meanSoundRow.pinned == Rows.meanSoundRow.pinnedBy)=true:=by kernel_rfl
theorem meanSound_k31:(Rows.meanSoundRow.veiled == (Tryz.f3.params.toList++Rows.meanSoundSpec.plain.varTypes Tryz.pinned.checked.prog++Tryz.f3.resultTypes.toList).any (Tryz.pinned.checked.prog.veiledRec ·))=true:=by kernel_rfl
theorem meanSound_k32:Rows.meanSoundRow.veiledFits Tryz.pinned.checked.prog Tryz.f3.params.toList (Tryz.f3.params.toList++Rows.meanSoundSpec.plain.varTypes Tryz.pinned.checked.prog++Tryz.f3.resultTypes.toList)=true:=by kernel_rfl
theorem meanSound_nm:Tryz.pinned.checked.prog.funcNamed Rows.meanSoundRow.func=some 3:=by kernel_rfl
theorem meanSound_inst:Tryz.f3.isInstance Tryz.pinned.checked.prog Rows.meanSoundRow.origin Rows.meanSoundRow.targs:=of_decide_eq_true (by kernel_rfl)
theorem meanSound_wrap:Tryz.f3.isWrapper Tryz.pinned.checked.prog Rows.meanSoundRow.wrapper Rows.meanSoundRow.mainSum:=by unfold Func.isWrapper;first|(rw[if_pos (by decide +kernel)];kernel_rfl)|(rw[if_neg (by decide +kernel)];exact⟨rfl,rfl⟩)
theorem meanSound_said:Rows.MeanSoundSaid:=
 OpenClaim.holds_of_cond 3 Tryz.f3 rfl rfl rfl rfl rfl rfl rfl ⟨rfl,rfl,rfl,rfl,rfl⟩ rfl rfl rfl rfl rfl meanSound_nm Tryz.func3 (joined_parts meanSound_k1 meanSound_k2 meanSound_k3 meanSound_k4 meanSound_k5 meanSound_k6 meanSound_k7 meanSound_k8 meanSound_k9 meanSound_k10 meanSound_k11 meanSound_k12 meanSound_k13 meanSound_k14 meanSound_k15 meanSound_k16 meanSound_k17 meanSound_k18 meanSound_k19 meanSound_k20 meanSound_k21 meanSound_k22 meanSound_k23 meanSound_k24 meanSound_k25 meanSound_k26 meanSound_k27 meanSound_k28 meanSound_k29 meanSound_k30 meanSound_k31 meanSound_k32)
  meanSound_inst meanSound_wrap
  (λos started H enc _ F=>by rw[OpenClaim.pre_eq_preRow];exact meanSound_lifted os started H enc F)
theorem meanSound_plain (f:FuncId) (fn:Func) (hf:Tryz.pinned.checked.prog.funcNamed "ossuary/ossuarylaw26.MeanSound" = some f) (hfn:Tryz.pinned.checked.prog.funcs[f]?=some fn) :
  true=Tryz.pinned.checked.prog.looks []/\∀(j:Nat) t,fn.params[j]?=some t->Tryz.pinned.checked.prog.wantsStandIn t=false:=by
 obtain rfl:f=3:=Option.some.inj ((show Tryz.prog.funcNamed "ossuary/ossuarylaw26.MeanSound" = some 3 by kernel_rfl).symm.trans hf) |>.symm
 obtain rfl:fn=Tryz.f3:=(Option.some.inj (Tryz.func3.symm.trans hfn)).symm
 refine⟨by kernel_rfl,λj t ht=>?_⟩
 have hall:Tryz.f3.params.toList.all (λt=>Tryz.prog.wantsStandIn t == false)=true:=by kernel_rfl
 have:=List.all_eq_true.1 hall t (by have:=Array.mem_of_getElem? ht;simpa using this)
 exact beq_iff_eq.1 this
theorem meanSound_card:Rows.MeanSoundCardSaid:=
 Claim7.holds_tied_plain_at .later [] _ _ _ _ meanSound_said (λ_ h=>by cases h) (by kernel_rfl) (λ_ h=>by cases h) meanSound_row_tie rfl ⟨rfl,rfl⟩ (by kernel_rfl) rfl meanSound_plain (by kernel_rfl)
#print axioms meanSound_card
end Go.Proofs.YtoaemihcbmlkgaaGreatDoor
