/- FilterKeeps: for every input the law returns true and the input reads as it did. -/
import Derived.Test.YtmdjffnelkgmpaaDoorOpen2
import Derived.Test.YtmdjffnelkgmpaaDoorLaw25k
namespace Go.Proofs.YtmdjffnelkgmpaaDoor
open Go Go.ChangeShapes Go.WideShapes Go.ChangeAt Go.RowKit Go.Lib
open Go.ChangeMaps (open_string shut_string)

theorem filterKeeps_witness (os : Os) {H : Type} (enc : TypeId × Value → H) :
    (OpenSpec.ofChange Rows.filterKeepsSpec).preRow enc Tryd.prog Tryd.f4 Rows.filterKeepsRow.domain false Rows.filterKeepsRow.laid ((laidWorld os).forCall (fun _ _ => 0) ⟨#[], #[.slice none 0 0, .slice none 0 0, .slice none 0 0, .agg #[.int .i64 0, .string ⟨#[]⟩, .string ⟨#[]⟩, .string ⟨#[]⟩]], []⟩).memory #[.slice none 0 0, .slice none 0 0, .slice none 0 0, .agg #[.int .i64 0, .string ⟨#[]⟩, .string ⟨#[]⟩, .string ⟨#[]⟩]] := by
  have hw : (DataW.whole enc Tryd.prog ((laidWorld os).forCall (fun _ _ => 0) ⟨#[], #[.slice none 0 0, .slice none 0 0, .slice none 0 0, .agg #[.int .i64 0, .string ⟨#[]⟩, .string ⟨#[]⟩, .string ⟨#[]⟩]], []⟩).memory Tryd.f4.params.toList Rows.filterKeepsSpec.vars false (#[Value.slice none 0 0, Value.slice none 0 0, Value.slice none 0 0, Value.agg #[.int .i64 0, .string ⟨#[]⟩, .string ⟨#[]⟩, .string ⟨#[]⟩]] : Array Value).toList 8).map (fun x => (x.1, x.2.1)) =
      some ([.nil, .nil, .nil, .agg [.lit (.int .i64 0), .lit (.string []), .lit (.string []), .lit (.string [])]], []) := by kernel_rfl
  obtain ⟨⟨x1, x2, x3⟩, hx, hx1⟩ := Option.map_eq_some_iff.1 hw
  simp only [Prod.mk.injEq] at hx1
  obtain ⟨rfl, rfl⟩ := hx1
  exact OpenSpec.preRow_of_cond 8 hx (by kernel_rfl) (fun k hk => by cases hk) (by kernel_rfl) (laid_met os _)

set_option maxRecDepth 100000 in
theorem filterKeeps_lifted (os : Os) (started : os.Started) (H : Type) (enc : TypeId × Value → H) (F : Stop.Interp) :
    ReturnsInHanded {} Tryd.checked os 4 .any ((OpenSpec.ofChange Rows.filterKeepsSpec).preRow enc Tryd.prog Tryd.f4 Rows.filterKeepsRow.domain false Rows.filterKeepsRow.laid) (((OpenSpec.ofChange Rows.filterKeepsSpec).at F).post enc Tryd.prog Tryd.f4 false true false false) := by
  refine returnsInHanded_of_row (C := Tryd.checked) (s := OpenSpec.ofChange Rows.filterKeepsSpec) own started (by kernel_rfl) Tryd.func4
    (witness_row_atRef (enc := enc) (C := Tryd.checked) false (laidWorld os) #[.slice none 0 0, .slice none 0 0, .slice none 0 0, .agg #[.int .i64 0, .string ⟨#[]⟩, .string ⟨#[]⟩, .string ⟨#[]⟩]] rfl (by kernel_rfl) (by kernel_rfl) (by kernel_rfl) (filterKeeps_witness os enc)) ?_
  intro W base args ds gs before hval0 hW _ _ hreach hL hsh _
  have hW' := hW
  have hval : ∀ (j : Nat) t v, Tryd.f4.params[j]? = some t → args[j]? = some v → Value.okWide Tryd.prog W .any base t v := hval0
  obtain ⟨p, q, hA0, hV0, rfl, _, _⟩ := hW
  have hA : DataW.TrodAll enc Tryd.prog W 0 (fun _ => true) true Tryd.f4.params.toList args.toList ds p := hA0
  rw [Tryd.params4] at hA hval
  obtain ⟨v0, vs0, d0, ds0, p0, q0, hargs, rfl, rfl, h0, r0⟩ := trodAll_cons hA
  obtain ⟨v1, vs1, d1, ds1, p1, q1, rfl, rfl, rfl, h1, r1⟩ := trodAll_cons r0
  obtain ⟨v2, vs2, d2, ds2, p2, q2, rfl, rfl, rfl, h2, r2⟩ := trodAll_cons r1
  obtain ⟨v3, vs3, d3, ds3, p3, q3, rfl, rfl, rfl, h3, r3⟩ := trodAll_cons r2
  obtain ⟨rfl, rfl, rfl⟩ := trodAll_nil r3
  obtain rfl : args = #[v0, v1, v2, v3] := by cases args; simp_all
  obtain ⟨rfl, rfl⟩ := trodVars_none hV0
  obtain ⟨n0, l0, A0, c0, rfl, hc0, hrd0, hl0, hz0⟩ := arg_exprs (hval 0 _ v0 rfl rfl) h0 (sized_arg hreach (j := 0) rfl rfl)
  obtain ⟨l1, A1, c1, rfl, hc1, hrd1, hl1, hz1⟩ := arg_texts (hval 1 _ v1 rfl rfl) h1 (sized_arg hreach (j := 1) rfl rfl)
  obtain ⟨l2, A2, c2, rfl, hc2, hrd2, hl2, hz2⟩ := arg_terms (hval 2 _ v2 rfl rfl) h2 (sized_arg hreach (j := 2) rfl rfl)
  have hw2 : ∀ t ∈ l2, t.x.size ≤ 281474976710656 := fun t ht => Nat.le_trans (hz2 t ht) (by decide)
  obtain ⟨t3, rfl, hz3⟩ := arg_term (hval 3 _ v3 rfl rfl) h3 (sized_arg hreach (j := 3) rfl rfl)
  have hw3 : t3.x.size ≤ 281474976710656 := Nat.le_trans hz3 (by decide)
  refine (lawFilterKeeps n0 l0 A0 c0 l1 A1 c1 l2 A2 c2 t3 W hrd0 hl0 hz0 hrd1 hl1 hrd2 hl2 hw2 hw3).mono ?_
  rintro e W' ⟨rfl, bel⟩
  exact ⟨_, rfl, post_true (tb := 4) laidOut (by kernel_rfl) (by kernel_rfl) Tryd.underlying4 rfl hW' rfl bel⟩

theorem filterKeeps_said : Rows.FilterKeepsSaid :=
  OpenClaim.holds_of_cond 4 Tryd.f4 rfl rfl rfl rfl rfl rfl rfl ⟨rfl, rfl, rfl, rfl, rfl⟩ rfl rfl rfl rfl rfl (by kernel_rfl) Tryd.func4 (by kernel_rfl)
    (of_decide_eq_true (by kernel_rfl)) (by unfold Func.isWrapper; first | (rw [if_pos (by decide +kernel)]; kernel_rfl) | (rw [if_neg (by decide +kernel)]; exact ⟨rfl, rfl⟩))
    (fun os started H enc _ F => by rw [OpenClaim.pre_eq_preRow]; exact filterKeeps_lifted os started H enc F)

theorem filterKeeps_plain (f : FuncId) (fn : Func) (hf : Tryd.pinned.checked.prog.funcNamed "ossuary/ossuarylaw25.FilterKeeps" = some f) (hfn : Tryd.pinned.checked.prog.funcs[f]? = some fn) :
    false = Tryd.pinned.checked.prog.looks [] ∧ ∀ (j : Nat) t, fn.params[j]? = some t → Tryd.pinned.checked.prog.wantsStandIn t = false := by
  obtain rfl : f = 4 := Option.some.inj ((show Tryd.prog.funcNamed "ossuary/ossuarylaw25.FilterKeeps" = some 4 by kernel_rfl).symm.trans hf) |>.symm
  obtain rfl : fn = Tryd.f4 := (Option.some.inj (Tryd.func4.symm.trans hfn)).symm
  refine ⟨by kernel_rfl, fun j t ht => ?_⟩
  have hall : Tryd.f4.params.toList.all (fun t => Tryd.prog.wantsStandIn t == false) = true := by kernel_rfl
  have := List.all_eq_true.1 hall t (by have := Array.mem_of_getElem? ht; simpa using this)
  exact beq_iff_eq.1 this

theorem filterKeeps_card : Rows.FilterKeepsCardSaid :=
  Claim7.holds_tied_plain_at .later [] _ _ _ _ filterKeeps_said (fun _ h => by cases h) (by kernel_rfl) (fun _ h => by cases h) filterKeeps_row_tie rfl ⟨rfl, rfl⟩ (by kernel_rfl) rfl filterKeeps_plain (by kernel_rfl)
#print axioms filterKeeps_card
end Go.Proofs.YtmdjffnelkgmpaaDoor
