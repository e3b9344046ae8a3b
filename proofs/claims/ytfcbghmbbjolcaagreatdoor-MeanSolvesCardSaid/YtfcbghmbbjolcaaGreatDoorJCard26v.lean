/- MeanSolves: for every input the law returns true and the input reads as it did. -/
import Derived.Test.YtfcbghmbbjolcaaGreatDoorJCard26u
set_option maxHeartbeats 16000000
set_option maxRecDepth 100000
namespace Go.Proofs.YtfcbghmbbjolcaaGreatDoor
open Go Go.ChangeShapes Go.WideShapes Go.ChangeAt Go.RowKit Go.Lib
theorem zM {P:Program} (h:P.funcs.any Func.goes=false) (f:FuncId):P.goes f=false:=by
 have hg:∀g:FuncId,(P.funcs[g]?).any Func.goes=false:=λg=>by
  cases hx:P.funcs[g]? with
  | none=>rfl
  | some fn =>
   have hm:=Array.mem_of_getElem? hx
   rw[←Array.any_toList,List.any_eq_false]at h
   simpa using h fn (by simpa using hm)
 unfold Program.goes
 rw[h,Bool.and_false,Bool.or_false,List.any_eq_false]
 intro g _
 rw[hg g];decide
theorem lU:Tryz.pinned.checked.prog.funcs.any Func.goes=false:=by kernel_rfl
theorem lW:false=Rows.meanSolvesRow.goesBy Tryz.pinned.checked.prog:=by
 unfold OpenClaim.goesBy Program.goesAt Program.goesFrom
 cases Tryz.pinned.checked.prog.funcNamed Rows.meanSolvesRow.func with
 | none=>rfl
 | some f=>simp only[Option.any_some,zM lU f];rfl
theorem kE (f:FuncId) (fn:Func) (hf:Tryz.pinned.checked.prog.funcNamed "ossuary/ossuarylaw26.MeanSolves" = some f) (hfn:Tryz.pinned.checked.prog.funcs[f]?=some fn) :
  true=Tryz.pinned.checked.prog.looks []/\∀(j:Nat) t,fn.params[j]?=some t->Tryz.pinned.checked.prog.wantsStandIn t=false:=by
 obtain rfl:f=4:=Option.some.inj ((show Tryz.prog.funcNamed "ossuary/ossuarylaw26.MeanSolves" = some 4 by kernel_rfl).symm.trans hf) |>.symm
 obtain rfl:fn=Tryz.f4:=(Option.some.inj (Tryz.func4.symm.trans hfn)).symm
 refine⟨by kernel_rfl,λj t ht=>?_⟩
 have hall:Tryz.f4.params.toList.all (λt=>Tryz.prog.wantsStandIn t == false)=true:=by kernel_rfl
 have:=List.all_eq_true.1 hall t (by have:=Array.mem_of_getElem? ht;simpa using this)
 exact beq_iff_eq.1 this
theorem meanSolves_card:Rows.MeanSolvesCardSaid:=
 Claim7.holds_tied_plain_at .later [] _ _ _ _ lT (λ_ h=>by cases h) (by kernel_rfl) (λ_ h=>by cases h) meanSolves_row_tie rfl ⟨rfl,rfl⟩ (by kernel_rfl) rfl kE lW
#print axioms meanSolves_card
end Go.Proofs.YtfcbghmbbjolcaaGreatDoor
