/- The program's package filter, walked: Alone. -/
import Derived.Test.YtmdjffnelkgmpaaDoorFilProg4
namespace Go.Proofs.YtmdjffnelkgmpaaDoor
open Go Go.RowKit Fm

set_option maxHeartbeats 2000000 in
theorem filAlone (k : Int) (x l y : ByteArray) (w : World) (hs : x.size ≤ 281474976710656) :
    Calls Tryd.prog 81 #[.agg #[.int .i64 k, .string x, .string l, .string y]] w fun e w' => e = .returned (.int .i64 (aloneI ⟨k, x, l, y⟩)) ∧ Below w.heap.size w w' := by
  have hN := fun W => filNumber k x l y W hs
  have hT := fun W => filSays k x l y W
  have ho := fun ty W => filTyped k x l y ty W
  obtain ⟨D, hD⟩ : ∃ D : ByteArray, (⟨(numD ⟨k, x, l, y⟩).toArray⟩ : ByteArray) = D := ⟨_, rfl⟩
  simp only [numV_eq, hD] at hN
  have hl : D.toList = numD ⟨k, x, l, y⟩ := by rw [← hD, toList_mk]
  have hv : aloneI ⟨k, x, l, y⟩ = if typedB ⟨k, x, l, y⟩ booleanS then toldI (boolB ⟨k, x, l, y⟩ && yesB ⟨k, x, l, y⟩) else if typedB ⟨k, x, l, y⟩ integerS then toldI (numI ⟨k, x, l, y⟩ && !(D.toList == [48])) else if k == 3 then toldI (!x.toList.isEmpty) else 3 := by
    unfold aloneI
    rw [← hl]
  rw [hv]
  have ho1 := ho booleanS
  have ho2 := ho integerS
  clear hv hl hD ho hs
  generalize typedB ⟨k, x, l, y⟩ booleanS = q1 at *
  generalize typedB ⟨k, x, l, y⟩ integerS = q2 at *
  generalize numI ⟨k, x, l, y⟩ = i at *
  generalize numM ⟨k, x, l, y⟩ = m at *
  generalize boolB ⟨k, x, l, y⟩ = b at *
  generalize yesB ⟨k, x, l, y⟩ = ye at *
  unfold booleanS at ho1
  unfold integerS at ho2
  go_enter Tryd.func81, Tryd.ntmps81
  go_wp2_with fail
  refine (ho1 _).mono ?_
  rintro e w2 ⟨rfl, hb2⟩
  obtain ⟨hc2, hf2⟩ := bcell hb2
  cases q1
  · go_wp2_with fail
    refine (ho2 _).mono ?_
    rintro e w3 ⟨rfl, hb⟩
    have hb3 := below_tr hb2 hb
    clear hb2 hb hc2 hf2
    obtain ⟨hc3, hf3⟩ := bcell hb3
    cases q2
    · by_cases hk : k = 3
      · have hk3 : (k == 3) = true := by simp [hk]
        clear hk
        go_wp2_with ((refine (filTold _ _).mono ?_); (rintro e w4 ⟨rfl, rfl⟩))
        go_ret
        exact ⟨by simp, (by repeat (first | exact Below.refl _ _ | assumption | exact (Below.refl _ _).alloc (Nat.le_refl _) _ | refine below_tr ?_ (by assumption) | refine below_alloc ?_ | refine below_tr ?_ (below_regrown _ _ _)))⟩
      · have hk3 : (k == 3) = false := by simp [hk]
        clear hk
        go_wp2_with ((refine (filTold _ _).mono ?_); (rintro e w4 ⟨rfl, rfl⟩))
        go_ret
        exact ⟨by simp, (by repeat (first | exact Below.refl _ _ | assumption | exact (Below.refl _ _).alloc (Nat.le_refl _) _ | refine below_tr ?_ (by assumption) | refine below_alloc ?_ | refine below_tr ?_ (below_regrown _ _ _)))⟩
    · go_wp2_with fail
      refine (hN _).mono ?_
      rintro e w4 ⟨rfl, hb⟩
      have hb4 := below_tr hb3 hb
      clear hb3 hb hc3 hf3
      cases i
      all_goals
        go_wp2_with ((refine (filTold _ _).mono ?_); (rintro e w4 ⟨rfl, rfl⟩))
        go_ret
        exact ⟨by simp, (by repeat (first | exact Below.refl _ _ | assumption | exact (Below.refl _ _).alloc (Nat.le_refl _) _ | refine below_tr ?_ (by assumption) | refine below_alloc ?_ | refine below_tr ?_ (below_regrown _ _ _)))⟩
  · go_wp2_with fail
    refine (hT _).mono ?_
    rintro e w3 ⟨rfl, hb⟩
    have hb3 := below_tr hb2 hb
    clear hb2 hb hc2 hf2
    cases b
    all_goals
      go_wp2_with ((refine (filTold _ _).mono ?_); (rintro e w4 ⟨rfl, rfl⟩))
      go_ret
      exact ⟨by simp, (by repeat (first | exact Below.refl _ _ | assumption | exact (Below.refl _ _).alloc (Nat.le_refl _) _ | refine below_tr ?_ (by assumption) | refine below_alloc ?_ | refine below_tr ?_ (below_regrown _ _ _)))⟩
end Go.Proofs.YtmdjffnelkgmpaaDoor
