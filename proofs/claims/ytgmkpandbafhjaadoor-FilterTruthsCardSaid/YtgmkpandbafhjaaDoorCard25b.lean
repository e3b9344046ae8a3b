/- FilterTruths: for every input the law returns true and the input reads as it did. -/
import Derived.Test.YtgmkpandbafhjaaDoorClose4
import Derived.Test.YtgmkpandbafhjaaDoorLaw25d
namespace Go.Proofs.YtgmkpandbafhjaaDoor
open Go Go.ChangeShapes Go.WideShapes Go.ChangeAt Go.RowKit Go.Lib
open Go.ChangeMaps (open_string shut_string)

theorem filterTruths_witness (os : Os) {H : Type} (enc : TypeId × Value → H) :
    (OpenSpec.ofChange Rows.filterTruthsSpec).preRow enc Tryd.prog Tryd.f4 Rows.filterTruthsRow.domain false Rows.filterTruthsRow.laid ((laidWorld os).forCall (fun _ _ => 0) ⟨#[], #[.slice none 0 0, .int .i64 0], []⟩).memory #[.slice none 0 0, .int .i64 0] := by
  have hw : (DataW.whole enc Tryd.prog ((laidWorld os).forCall (fun _ _ => 0) ⟨#[], #[.slice none 0 0, .int .i64 0], []⟩).memory Tryd.f4.params.toList Rows.filterTruthsSpec.vars false (#[Value.slice none 0 0, Value.int .i64 0] : Array Value).toList 8).map (fun x => (x.1, x.2.1)) =
      some ([.nil, .lit (.int .i64 0)], []) := by kernel_rfl
  obtain ⟨⟨x1, x2, x3⟩, hx, hx1⟩ := Option.map_eq_some_iff.1 hw
  simp only [Prod.mk.injEq] at hx1
  obtain ⟨rfl, rfl⟩ := hx1
  exact OpenSpec.preRow_of_cond 8 hx (by kernel_rfl) (fun k hk => by cases hk) (by kernel_rfl) (laid_met os _)

set_option maxRecDepth 100000 in
theorem filterTruths_lifted (os : Os) (started : os.Started) (H : Type) (enc : TypeId × Value → H) (F : Stop.Interp) :
    ReturnsInHanded {} Tryd.checked os 4 .any ((OpenSpec.ofChange Rows.filterTruthsSpec).preRow enc Tryd.prog Tryd.f4 Rows.filterTruthsRow.domain false Rows.filterTruthsRow.laid) (((OpenSpec.ofChange Rows.filterTruthsSpec).at F).post enc Tryd.prog Tryd.f4 false true false false) := by
  refine returnsInHanded_of_row (C := Tryd.checked) (s := OpenSpec.ofChange Rows.filterTruthsSpec) own started (by kernel_rfl) Tryd.func4
    (witness_row_atRef (enc := enc) (C := Tryd.checked) false (laidWorld os) #[.slice none 0 0, .int .i64 0] rfl (by kernel_rfl) (by kernel_rfl) (by kernel_rfl) (filterTruths_witness os enc)) ?_
  intro W base args ds gs before hval0 hW _ _ hreach hL hsh _
  have hW' := hW
  have hval : ∀ (j : Nat) t v, Tryd.f4.params[j]? = some t → args[j]? = some v → Value.okWide Tryd.prog W .any base t v := hval0
  obtain ⟨p, q, hA0, hV0, rfl, _, _⟩ := hW
  have hA : DataW.TrodAll enc Tryd.prog W 0 (fun _ => true) true Tryd.f4.params.toList args.toList ds p := hA0
  rw [Tryd.params4] at hA hval
  obtain ⟨v0, vs0, d0, ds0, p0, q0, hargs, rfl, rfl, h0, r0⟩ := trodAll_cons hA
  obtain ⟨v1, vs1, d1, ds1, p1, q1, rfl, rfl, rfl, h1, r1⟩ := trodAll_cons r0
  obtain ⟨rfl, rfl, rfl⟩ := trodAll_nil r1
  obtain rfl : args = #[v0, v1] := by cases args; simp_all
  obtain ⟨rfl, rfl⟩ := trodVars_none hV0
  obtain ⟨l0, A0, c0, rfl, hrd0, hz0⟩ := open_numbers_sized Tryd.underlying31 Tryd.underlying3 (by kernel_rfl) (by decide +kernel) (hval 0 _ v0 rfl rfl) h0 hreach (j := 0) rfl rfl
  obtain ⟨n1, rfl, rfl, rfl, wf1⟩ := open_int Tryd.underlying3 (hval 1 _ v1 rfl rfl) h1
  refine (lawFilterTruths l0 A0 c0 n1 W hz0 hrd0 wf1).mono ?_
  rintro e W' ⟨rfl, bel⟩
  exact ⟨_, rfl, post_true (tb := 4) laidOut (by kernel_rfl) (by kernel_rfl) Tryd.underlying4 rfl hW' rfl bel⟩

theorem filterTruths_said : Rows.FilterTruthsSaid :=
  OpenClaim.holds_of_cond 4 Tryd.f4 rfl rfl rfl rfl rfl rfl rfl ⟨rfl, rfl, rfl, rfl, rfl⟩ rfl rfl rfl rfl rfl (by kernel_rfl) Tryd.func4 (by kernel_rfl)
    (of_decide_eq_true (by kernel_rfl)) (by unfold Func.isWrapper; first | (rw [if_pos (by decide +kernel)]; kernel_rfl) | (rw [if_neg (by decide +kernel)]; exact ⟨rfl, rfl⟩))
    (fun os started H enc _ F => by rw [OpenClaim.pre_eq_preRow]; exact filterTruths_lifted os started H enc F)

theorem filterTruths_plain (f : FuncId) (fn : Func) (hf : Tryd.pinned.checked.prog.funcNamed "ossuary/ossuarylaw25.FilterTruths" = some f) (hfn : Tryd.pinned.checked.prog.funcs[f]? = some fn) :
    false = Tryd.pinned.checked.prog.looks [] ∧ ∀ (j : Nat) t, fn.params[j]? = some t → Tryd.pinned.checked.prog.wantsStandIn t = false := by
  obtain rfl : f = 4 := Option.some.inj ((show Tryd.prog.funcNamed "ossuary/ossuarylaw25.FilterTruths" = some 4 by kernel_rfl).symm.trans hf) |>.symm
  obtain rfl : fn = Tryd.f4 := (Option.some.inj (Tryd.func4.symm.trans hfn)).symm
  refine ⟨by kernel_rfl, fun j t ht => ?_⟩
  have hall : Tryd.f4.params.toList.all (fun t => Tryd.prog.wantsStandIn t == false) = true := by kernel_rfl
  have := List.all_eq_true.1 hall t (by have := Array.mem_of_getElem? ht; simpa using this)
  exact beq_iff_eq.1 this

theorem filterTruths_card : Rows.FilterTruthsCardSaid :=
  Claim7.holds_tied_plain_at .later [] _ _ _ _ filterTruths_said (fun _ h => by cases h) (by kernel_rfl) (fun _ h => by cases h) filterTruths_row_tie rfl ⟨rfl, rfl⟩ (by kernel_rfl) rfl filterTruths_plain (by kernel_rfl)
#print axioms filterTruths_card
end Go.Proofs.YtgmkpandbafhjaaDoor
