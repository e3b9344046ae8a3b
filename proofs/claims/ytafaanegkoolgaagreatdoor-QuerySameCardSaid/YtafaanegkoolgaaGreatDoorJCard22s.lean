/- QuerySame: for every input the law returns true and the input reads as it did. -/
import Derived.Test.YtafaanegkoolgaaGreatDoorJOpenW
import Derived.Test.YtafaanegkoolgaaGreatDoorJAppG
import Derived.Test.YtafaanegkoolgaaGreatDoorJLaw22s
namespace Go.Proofs.YtafaanegkoolgaaGreatDoor
open Go Go.ChangeShapes Go.WideShapes Go.ChangeAt Go.RowKit Go.Lib
open Go.ChangeMaps (open_string shut_string)

open Fm Mt in
theorem lawQuerySameQ (n : Nat) (a b : Qy n) (cs ds : List Value) (tn : Int) (w : World) (hC : Ctx w) (ha : RdQ n w cs a) (za : szQw a) (hb : RdQ n w ds b) (zb : szQw b) :
    Calls Tryz.prog 3 #[.agg cs.toArray, .agg ds.toArray, .int .i64 tn] w fun e w' => e = .returned (.bool true) ∧ Below w.heap.size w w' := by
  obtain ⟨a1, a2, a3, a4, c1, c2, c3, c4, rfl, ⟨e1, e2, e3, e4⟩, h1, h2, h3, h4⟩ := ha
  obtain ⟨m1, m2, m3, m4, d1, d2, d3, d4, rfl, ⟨f1, f2, f3, f4⟩, g1, g2, g3, g4⟩ := hb
  exact lawQuerySame n a b a1 a2 a3 a4 m1 m2 m3 m4 c1 c2 c3 c4 d1 d2 d3 d4 tn w hC za.q zb.q za.e zb.e ⟨a1, a2, a3, a4, c1, c2, c3, c4, rfl, ⟨e1, e2, e3, e4⟩, h1, h2, h3, h4⟩ ⟨m1, m2, m3, m4, d1, d2, d3, d4, rfl, ⟨f1, f2, f3, f4⟩, g1, g2, g3, g4⟩
theorem querySame_witness (os : Os) {H : Type} (enc : TypeId × Value → H) :
    (OpenSpec.ofChange Rows.querySameSpec).preRow enc Tryz.prog Tryz.f3 Rows.querySameRow.domain false Rows.querySameRow.laid ((laidWorld os).forCall (fun _ _ => 0) ⟨#[], #[.agg #[.bool false, .bool false, .slice none 0 0, .slice none 0 0, .slice none 0 0, .slice none 0 0, .int .i64 0, .int .i64 0], .agg #[.bool false, .bool false, .slice none 0 0, .slice none 0 0, .slice none 0 0, .slice none 0 0, .int .i64 0, .int .i64 0], .int .i64 0], []⟩).memory #[.agg #[.bool false, .bool false, .slice none 0 0, .slice none 0 0, .slice none 0 0, .slice none 0 0, .int .i64 0, .int .i64 0], .agg #[.bool false, .bool false, .slice none 0 0, .slice none 0 0, .slice none 0 0, .slice none 0 0, .int .i64 0, .int .i64 0], .int .i64 0] := by
  have hw : (DataW.whole enc Tryz.prog ((laidWorld os).forCall (fun _ _ => 0) ⟨#[], #[.agg #[.bool false, .bool false, .slice none 0 0, .slice none 0 0, .slice none 0 0, .slice none 0 0, .int .i64 0, .int .i64 0], .agg #[.bool false, .bool false, .slice none 0 0, .slice none 0 0, .slice none 0 0, .slice none 0 0, .int .i64 0, .int .i64 0], .int .i64 0], []⟩).memory Tryz.f3.params.toList Rows.querySameSpec.vars false (#[Value.agg #[.bool false, .bool false, .slice none 0 0, .slice none 0 0, .slice none 0 0, .slice none 0 0, .int .i64 0, .int .i64 0], Value.agg #[.bool false, .bool false, .slice none 0 0, .slice none 0 0, .slice none 0 0, .slice none 0 0, .int .i64 0, .int .i64 0], Value.int .i64 0] : Array Value).toList 8).map (fun x => (x.1, x.2.1)) =
      some ([.agg [.lit (.bool false), .lit (.bool false), .nil, .nil, .nil, .nil, .lit (.int .i64 0), .lit (.int .i64 0)], .agg [.lit (.bool false), .lit (.bool false), .nil, .nil, .nil, .nil, .lit (.int .i64 0), .lit (.int .i64 0)], .lit (.int .i64 0)], []) := by kernel_rfl
  obtain ⟨⟨x1, x2, x3⟩, hx, hx1⟩ := Option.map_eq_some_iff.1 hw
  simp only [Prod.mk.injEq] at hx1
  obtain ⟨rfl, rfl⟩ := hx1
  exact OpenSpec.preRow_of_cond 8 hx (by kernel_rfl) (fun k hk => by cases hk) (by kernel_rfl) (laid_met os _)

set_option maxRecDepth 100000 in
theorem querySame_lifted (os : Os) (started : os.Started) (H : Type) (enc : TypeId × Value → H) (F : Stop.Interp) :
    ReturnsInHanded {} Tryz.checked os 3 .any ((OpenSpec.ofChange Rows.querySameSpec).preRow enc Tryz.prog Tryz.f3 Rows.querySameRow.domain false Rows.querySameRow.laid) (((OpenSpec.ofChange Rows.querySameSpec).at F).post enc Tryz.prog Tryz.f3 false true false false) := by
  refine returnsInHanded_of_row (C := Tryz.checked) (s := OpenSpec.ofChange Rows.querySameSpec) own started (by kernel_rfl) Tryz.func3
    (witness_row_atRef (enc := enc) (C := Tryz.checked) false (laidWorld os) #[.agg #[.bool false, .bool false, .slice none 0 0, .slice none 0 0, .slice none 0 0, .slice none 0 0, .int .i64 0, .int .i64 0], .agg #[.bool false, .bool false, .slice none 0 0, .slice none 0 0, .slice none 0 0, .slice none 0 0, .int .i64 0, .int .i64 0], .int .i64 0] rfl (by kernel_rfl) (by kernel_rfl) (by kernel_rfl) (querySame_witness os enc)) ?_
  intro W base args ds gs before hval0 hW _ _ hreach hL hsh _
  have hW' := hW
  have hval : ∀ (j : Nat) t v, Tryz.f3.params[j]? = some t → args[j]? = some v → Value.okWide Tryz.prog W .any base t v := hval0
  obtain ⟨p, q, hA0, hV0, rfl, _, _⟩ := hW
  have hA : DataW.TrodAll enc Tryz.prog W 0 (fun _ => true) true Tryz.f3.params.toList args.toList ds p := hA0
  rw [Tryz.params3] at hA hval
  obtain ⟨v0, vs0, d0, ds0, p0, q0, hargs, rfl, rfl, h0, r0⟩ := trodAll_cons hA
  obtain ⟨v1, vs1, d1, ds1, p1, q1, rfl, rfl, rfl, h1, r1⟩ := trodAll_cons r0
  obtain ⟨v2, vs2, d2, ds2, p2, q2, rfl, rfl, rfl, h2, r2⟩ := trodAll_cons r1
  obtain ⟨rfl, rfl, rfl⟩ := trodAll_nil r2
  obtain rfl : args = #[v0, v1, v2] := by cases args; simp_all
  obtain ⟨rfl, rfl⟩ := trodVars_none hV0
  obtain ⟨nq, q0, q1, cs0, cs1, rfl, rfl, hq0, hz0, hq1, hz1⟩ := Wd.arg_query2 (hval 0 _ v0 rfl rfl) h0 (sized_arg hreach (j := 0) rfl rfl) (hval 1 _ v1 rfl rfl) h1 (sized_arg hreach (j := 1) rfl rfl)
  obtain ⟨n2, rfl, rfl, rfl, wf2⟩ := open_int Tryz.underlying3 (hval 2 _ v2 rfl rfl) h2
  refine (lawQuerySameQ nq q0 q1 cs0 cs1 n2 W (ctx_of hL hsh) hq0 hz0 hq1 hz1).mono ?_
  rintro e W' ⟨rfl, bel⟩
  exact ⟨_, rfl, post_true (tb := 4) laidOut (by kernel_rfl) (by kernel_rfl) Tryz.underlying4 rfl hW' rfl bel⟩

theorem querySame_said : Rows.QuerySameSaid :=
  OpenClaim.holds_of_cond 3 Tryz.f3 rfl rfl rfl rfl rfl rfl rfl ⟨rfl, rfl, rfl, rfl, rfl⟩ rfl rfl rfl rfl rfl (by kernel_rfl) Tryz.func3 (by kernel_rfl)
    (of_decide_eq_true (by kernel_rfl)) (by unfold Func.isWrapper; first | (rw [if_pos (by decide +kernel)]; kernel_rfl) | (rw [if_neg (by decide +kernel)]; exact ⟨rfl, rfl⟩))
    (fun os started H enc _ F => by rw [OpenClaim.pre_eq_preRow]; exact querySame_lifted os started H enc F)

theorem querySame_plain (f : FuncId) (fn : Func) (hf : Tryz.pinned.checked.prog.funcNamed "ossuary/ossuarylaw22.QuerySame" = some f) (hfn : Tryz.pinned.checked.prog.funcs[f]? = some fn) :
    false = Tryz.pinned.checked.prog.looks [] ∧ ∀ (j : Nat) t, fn.params[j]? = some t → Tryz.pinned.checked.prog.wantsStandIn t = false := by
  obtain rfl : f = 3 := Option.some.inj ((show Tryz.prog.funcNamed "ossuary/ossuarylaw22.QuerySame" = some 3 by kernel_rfl).symm.trans hf) |>.symm
  obtain rfl : fn = Tryz.f3 := (Option.some.inj (Tryz.func3.symm.trans hfn)).symm
  refine ⟨by kernel_rfl, fun j t ht => ?_⟩
  have hall : Tryz.f3.params.toList.all (fun t => Tryz.prog.wantsStandIn t == false) = true := by kernel_rfl
  have := List.all_eq_true.1 hall t (by have := Array.mem_of_getElem? ht; simpa using this)
  exact beq_iff_eq.1 this

theorem querySame_card : Rows.QuerySameCardSaid :=
  Claim7.holds_tied_plain_at .later [] _ _ _ _ querySame_said (fun _ h => by cases h) (by kernel_rfl) (fun _ h => by cases h) querySame_row_tie rfl ⟨rfl, rfl⟩ (by kernel_rfl) rfl querySame_plain (by kernel_rfl)
#print axioms querySame_card
end Go.Proofs.YtafaanegkoolgaaGreatDoor
