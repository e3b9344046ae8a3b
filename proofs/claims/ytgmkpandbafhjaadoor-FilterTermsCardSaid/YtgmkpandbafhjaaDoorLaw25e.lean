/- Layer 25's law, walked: FilterTerms. -/
import Derived.Test.YtgmkpandbafhjaaDoorLaw25d
import Derived.Test.YtgmkpandbafhjaaDoorFilRef5
namespace Go.Proofs.YtgmkpandbafhjaaDoor
open Go Go.RowKit Fm

set_option maxRecDepth 100000 in
set_option maxHeartbeats 8000000 in
theorem lawFilterTerms (k1 : Int) (x1 l1 y1 : ByteArray) (k2 : Int) (x2 l2 y2 : ByteArray) (l : List Int) (A : Option Addr) (c : Nat) (w : World) (hs1 : x1.size ≤ 281474976710656) (hs2 : x2.size ≤ 281474976710656) (hl : l.length ≤ 281474976710656) (hr : Rd w A (l.map (Value.int .i64))) :
    Calls Tryd.prog 5 #[.agg #[.int .i64 k1, .string x1, .string l1, .string y1], .agg #[.int .i64 k2, .string x2, .string l2, .string y2], .slice A l.length c] w fun e w' =>
      e = .returned (.bool true) ∧ Below w.heap.size w w' := by
  have hF := fun W => filNumber k1 x1 l1 y1 W hs1
  have hN := fun W => refNumber k2 x2 l2 y2 W hs2
  have hN1 := fun W => refNumber k1 x1 l1 y1 W hs1
  rw [numV_eq] at hF hN1
  clear hN
  generalize (⟨(numD ⟨k1, x1, l1, y1⟩).toArray⟩ : ByteArray) = D at *
  generalize numM ⟨k1, x1, l1, y1⟩ = m at *
  generalize numI ⟨k1, x1, l1, y1⟩ = i at *
  have z1 : (x1.size : Int) ≤ 281474976710656 := by omega
  have z2 : (x2.size : Int) ≤ 281474976710656 := by omega
  have z3 : (l.length : Int) ≤ 281474976710656 := by omega
  by_cases h5 : 5000 < (x1.size : Int) + x2.size
  · go_enter Tryd.func5, Tryd.ntmps5
    go_wp2_with fail
    refine (lawAwake _).mono ?_
    rintro e w1 ⟨rfl, hb1⟩
    go_wp2
    go_ret
    exact ⟨rfl, (by repeat (first | exact Below.refl _ _ | assumption | exact (Below.refl _ _).alloc (Nat.le_refl _) _ | refine below_tr ?_ (by assumption) | refine below_alloc ?_ | refine below_tr ?_ (below_regrown _ _ _)))⟩
  · by_cases h3 : 300 < (l.length : Int)
    · go_enter Tryd.func5, Tryd.ntmps5
      go_wp2_with fail
      refine (lawAwake _).mono ?_
      rintro e w1 ⟨rfl, hb1⟩
      go_wp2
      go_ret
      exact ⟨rfl, (by repeat (first | exact Below.refl _ _ | assumption | exact (Below.refl _ _).alloc (Nat.le_refl _) _ | refine below_tr ?_ (by assumption) | refine below_alloc ?_ | refine below_tr ?_ (below_regrown _ _ _)))⟩
    · have hl3 : l.length ≤ 300 := by omega
      go_enter Tryd.func5, Tryd.ntmps5
      go_wp2_with fail
      refine (hF _).mono ?_
      rintro e w1 ⟨rfl, hb1⟩
      obtain ⟨hc1, hf1⟩ := bcell hb1
      go_wp2_with fail
      refine (hN1 _).mono ?_
      rintro e w2 ⟨rfl, hbn⟩
      have hb2 := below_tr hb1 hbn
      clear hc1 hf1 hb1 hbn
      have hW0 : Below w.heap.size w w2 := ((Below.refl _ _).alloc (Nat.le_refl _) _ |>.alloc (by simp) _).trans (hb2.mono (by simp; omega))
      have hr2 := hr.later hW0
      go_wp2_with fail
      refine (lawTruths l A c _ (by omega) hr2).mono ?_
      rintro e w3 ⟨v, rfl, hown, hbn⟩
      have hb := below_tr hb2 hbn
      have hr3 := hr2.later hbn
      obtain ⟨A1, c1, rfl, hcc, hrt⟩ := own_open hown
      clear hown hr2 hr hbn hb2 hF hN1 hW0
      have HR := Lib.hid (And.intro hr3 hrt)
      have HB := Lib.hid hb
      clear hr3 hrt hb
      go_wp2
      go_loopw [14, 15] (fun nt i wr => ∃ j : Nat, j ≤ l.length ∧ i = .int .i64 j ∧ nt = .bool true ∧ Below w3.heap.size w3 wr) (fun _ i _ => l.length - (intOf i).toNat)
      case atStart => exact ⟨0, by omega, rfl, rfl, Below.refl _ _⟩
      case round =>
        obtain ⟨j, hj, rfl, rfl, hB⟩ := hrel
        by_cases hlt : j < l.length
        · obtain ⟨x, hx⟩ : ∃ x, l[j]? = some x := ⟨_, List.getElem?_eq_getElem hlt⟩
          obtain ⟨g, o, rfl, hcx⟩ := (HR.out.1.later hB).at_ (j := j) (u := .int .i64 x) (by simp [hx])
          obtain ⟨g', o', rfl, hcy⟩ := (HR.out.2.later hB).at_ (j := j) (u := .int .i64 x) (by simp [hx])
          have g0 := fun d os => cell_regrown hcx d os
          have g1 := fun d os => cell_regrown hcy d os
          clear hx hcx hcy
          go_wp2
          refine wp_region_quiet_below (by kernel_rfl) (by kernel_rfl) ?_; (repeat (any_goals (go_big_quiet_step ((first | (go_at_call 13; with_reducible exact Calls.quiet_tr (filNot _ _)) | (go_at_call 18; with_reducible exact Calls.quiet_tr (refNot _ _))))))); all_goals (refine wpQuiet_nil ?_; intro _ hw9; obtain ⟨⟨d9, os9⟩, hw8⟩ := hw9; subst hw8)
          have hB2 := hB.trans ((below_regrown wr d9 os9).mono hB.size)
          clear g0 g1
          go_wp2
          go_roundw
          case rel => exact ⟨j+1, by omega, by go_num, rfl, hB2⟩
          case measure => simp [intOf]; omega
        · have hb := below_tr HB.out hB
          have hrr := And.intro (HR.out.1.later hB) (HR.out.2.later hB)
          clear HR HB hB
          have HR := Lib.hid hrr
          clear hrr
          have g10 := fun d os => grown_two1 hb 0 _ rfl d os
          have g11 := fun d os => grown_two1 hb 1 _ rfl d os
          have g12 := fun d os => grown_two1 hb 2 _ rfl d os
          have g13 := fun d os => grown_two1 hb 3 _ rfl d os
          have g20 := fun d os => grown_two2 hb 0 _ rfl d os
          have g21 := fun d os => grown_two2 hb 1 _ rfl d os
          have g22 := fun d os => grown_two2 hb 2 _ rfl d os
          have g23 := fun d os => grown_two2 hb 3 _ rfl d os
          go_wp2
          refine wp_region_quiet_below (by kernel_rfl) (by kernel_rfl) ?_; (repeat (any_goals (go_big_quiet_step ((first | (go_at_call 19; with_reducible exact Calls.regrown_of (filAlone _ _ _ _ _ hs1)) | (go_at_call 20; with_reducible exact Calls.regrown_of (refAlone _ _ _ _ _ hs1)) | (go_at_call 8; with_reducible exact Calls.regrown_of (filSame _ _ _ _ _ _ _ _ _ hs1 hs2)) | (go_at_call 21; with_reducible exact Calls.regrown_of (refSame _ _ _ _ _ _ _ _ _ hs1 hs2)) | (go_at_call 9; with_reducible exact Calls.regrown_of (filLess _ _ _ _ _ _ _ _ _ hs1 hs2)) | (go_at_call 22; with_reducible exact Calls.regrown_of (refLess _ _ _ _ _ _ _ _ _ hs1 hs2)) | (go_at_call 14; with_reducible exact Calls.regrown_of (filAnd l A1 c1 _ (by omega) (HR.out.2.later (below_regrown _ _ _)))) | (go_at_call 15; with_reducible exact Calls.regrown_of (filOr l A1 c1 _ (by omega) (HR.out.2.later (below_regrown _ _ _)))) | (go_at_call 23; with_reducible exact Calls.regrown_of (refAnd l A c _ (by omega) (HR.out.1.later (below_regrown _ _ _)))) | (go_at_call 24; with_reducible exact Calls.regrown_of (refOr l A c _ (by omega) (HR.out.1.later (below_regrown _ _ _)))) | (go_at_call 7; with_reducible exact Calls.regrown_of (lawAwake _))))))); all_goals (refine wpQuiet_nil ?_; intro _ hw9; obtain ⟨⟨d9, os9⟩, hw8⟩ := hw9; subst hw8)
          go_wp2
          go_ret
          exact ⟨rfl, (by repeat (first | exact Below.refl _ _ | assumption | exact (Below.refl _ _).alloc (Nat.le_refl _) _ | refine below_tr ?_ (by assumption) | refine below_alloc ?_ | refine below_tr ?_ (below_regrown _ _ _)))⟩
end Go.Proofs.YtgmkpandbafhjaaDoor
