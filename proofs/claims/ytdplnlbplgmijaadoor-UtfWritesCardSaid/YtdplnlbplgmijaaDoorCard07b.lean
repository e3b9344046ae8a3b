/- UtfWrites: for every list of numbers the law returns true and the list reads as it did. -/
import Derived.Test.YtdplnlbplgmijaaDoorClose2
import Derived.Test.YtdplnlbplgmijaaDoorLaw07a
namespace Go.Proofs.YtdplnlbplgmijaaDoor
open Go Go.ChangeShapes Go.WideShapes Go.ChangeAt Go.RowKit Go.Lib
open Go.ChangeMaps (open_string shut_string)

theorem utfWrites_witness (os : Os) {H : Type} (enc : TypeId × Value → H) :
    (OpenSpec.ofChange Rows.utfWritesSpec).preRow enc Tryd.prog Tryd.f3 Rows.utfWritesRow.domain false Rows.utfWritesRow.laid ((laidWorld os).forCall (fun _ _ => 0) ⟨#[], #[.slice none 0 0], []⟩).memory #[.slice none 0 0] := by
  have hw : (DataW.whole enc Tryd.prog ((laidWorld os).forCall (fun _ _ => 0) ⟨#[], #[.slice none 0 0], []⟩).memory Tryd.f3.params.toList Rows.utfWritesSpec.vars false #[Value.slice none 0 0].toList 8).map (fun x => (x.1, x.2.1)) =
      some ([.nil], []) := by kernel_rfl
  obtain ⟨⟨x1, x2, x3⟩, hx, hx1⟩ := Option.map_eq_some_iff.1 hw
  simp only [Prod.mk.injEq] at hx1
  obtain ⟨rfl, rfl⟩ := hx1
  exact OpenSpec.preRow_of_cond 8 hx (by kernel_rfl) (fun k hk => by cases hk) (by kernel_rfl) (laid_met os _)

set_option maxRecDepth 100000 in
theorem utfWrites_lifted (os : Os) (started : os.Started) (H : Type) (enc : TypeId × Value → H) (F : Stop.Interp) :
    ReturnsInHanded {} Tryd.checked os 3 .any ((OpenSpec.ofChange Rows.utfWritesSpec).preRow enc Tryd.prog Tryd.f3 Rows.utfWritesRow.domain false Rows.utfWritesRow.laid) (((OpenSpec.ofChange Rows.utfWritesSpec).at F).post enc Tryd.prog Tryd.f3 false true false false) := by
  refine returnsInHanded_of_row (C := Tryd.checked) (s := OpenSpec.ofChange Rows.utfWritesSpec) own started (by kernel_rfl) Tryd.func3
    (witness_row_atRef (enc := enc) (C := Tryd.checked) false (laidWorld os) #[.slice none 0 0] rfl (by kernel_rfl) (by kernel_rfl) (by kernel_rfl) (utfWrites_witness os enc)) ?_
  intro W base args ds gs before hval0 hW _ _ hreach hL hsh _
  have hW' := hW
  have hval : ∀ (j : Nat) t v, Tryd.f3.params[j]? = some t → args[j]? = some v → Value.okWide Tryd.prog W .any base t v := hval0
  obtain ⟨p, q, hA0, hV0, rfl, _, _⟩ := hW
  have hA : DataW.TrodAll enc Tryd.prog W 0 (fun _ => true) true Tryd.f3.params.toList args.toList ds p := hA0
  rw [Tryd.params3] at hA hval
  obtain ⟨v0, d0, rfl, rfl, h0⟩ := trodAll_one hA
  obtain ⟨l, A, c, rfl, hrd, hz⟩ := open_numbers Tryd.underlying22 Tryd.underlying3 (by kernel_rfl) (hval 0 _ v0 rfl rfl) h0
  refine (lawUtfWrites l A c W (ctx_of hL hsh) hz hrd).mono ?_
  rintro e W' ⟨rfl, bel⟩
  exact ⟨_, rfl, post_true (tb := 4) laidOut (by kernel_rfl) (by kernel_rfl) Tryd.underlying4 rfl hW' (by obtain ⟨rfl, rfl⟩ := trodVars_none hV0; rfl) bel⟩

theorem utfWrites_said : Rows.UtfWritesSaid :=
  OpenClaim.holds_of_cond 3 Tryd.f3 rfl rfl rfl rfl rfl rfl rfl ⟨rfl, rfl, rfl, rfl, rfl⟩ rfl rfl rfl rfl rfl (by kernel_rfl) Tryd.func3 (by kernel_rfl)
    (of_decide_eq_true (by kernel_rfl)) (by unfold Func.isWrapper; first | (rw [if_pos (by decide +kernel)]; kernel_rfl) | (rw [if_neg (by decide +kernel)]; exact ⟨rfl, rfl⟩))
    (fun os started H enc _ F => by rw [OpenClaim.pre_eq_preRow]; exact utfWrites_lifted os started H enc F)

theorem utfWrites_plain (f : FuncId) (fn : Func) (hf : Tryd.pinned.checked.prog.funcNamed "ossuary/ossuarylaw07.UtfWrites" = some f) (hfn : Tryd.pinned.checked.prog.funcs[f]? = some fn) :
    false = Tryd.pinned.checked.prog.looks [] ∧ ∀ (j : Nat) t, fn.params[j]? = some t → Tryd.pinned.checked.prog.wantsStandIn t = false := by
  obtain rfl : f = 3 := Option.some.inj ((show Tryd.prog.funcNamed "ossuary/ossuarylaw07.UtfWrites" = some 3 by kernel_rfl).symm.trans hf) |>.symm
  obtain rfl : fn = Tryd.f3 := (Option.some.inj (Tryd.func3.symm.trans hfn)).symm
  refine ⟨by kernel_rfl, fun j t ht => ?_⟩
  have hall : Tryd.f3.params.toList.all (fun t => Tryd.prog.wantsStandIn t == false) = true := by kernel_rfl
  have := List.all_eq_true.1 hall t (by have := Array.mem_of_getElem? ht; simpa using this)
  exact beq_iff_eq.1 this

theorem utfWrites_card : Rows.UtfWritesCardSaid :=
  Claim7.holds_tied_plain_at .later [] _ _ _ _ utfWrites_said (fun _ h => by cases h) (by kernel_rfl) (fun _ h => by cases h) utfWrites_row_tie rfl ⟨rfl, rfl⟩ (by kernel_rfl) rfl utfWrites_plain (by kernel_rfl)
#print axioms utfWrites_card
end Go.Proofs.YtdplnlbplgmijaaDoor
