/- The document's layer 25, walked: truth, Alone, Same, Less, And, Or. -/
import Derived.Test.YtgmkpandbafhjaaDoorFilRef2
namespace Go.Proofs.YtgmkpandbafhjaaDoor
open Go Go.RowKit Fm

def truI (t : Tm) : Int := if boolB t then (if yesB t then 1 else 2) else 3
theorem truI_eq (k : Int) (x l y : ByteArray) : truI ⟨k, x, l, y⟩ = if typedB ⟨k, x, l, y⟩ booleanS && (x.toList == [116, 114, 117, 101] || x.toList == [49]) then 1 else if typedB ⟨k, x, l, y⟩ booleanS && (x.toList == [102, 97, 108, 115, 101] || x.toList == [48]) then 2 else 3 := by
  unfold truI boolB yesB
  simp only
  cases typedB ⟨k, x, l, y⟩ booleanS <;> cases (x.toList == [116, 114, 117, 101]) <;> cases (x.toList == [49]) <;> cases (x.toList == [102, 97, 108, 115, 101]) <;> cases (x.toList == [48]) <;> rfl
set_option maxHeartbeats 2000000 in
theorem refTruth (k : Int) (x l y : ByteArray) (w : World) :
    Calls Tryd.prog 43 #[.agg #[.int .i64 k, .string x, .string l, .string y]] w fun e w' => e = .returned (.int .i64 (truI ⟨k, x, l, y⟩)) ∧ Below w.heap.size w w' := by
  have ht := fun W => refOf k x l y booleanS W
  have hv := truI_eq k x l y
  generalize truI ⟨k, x, l, y⟩ = v at hv ⊢
  generalize typedB ⟨k, x, l, y⟩ booleanS = q at ht hv
  unfold booleanS at ht
  have Hv := Lib.hid hv
  clear hv
  go_enter Tryd.func43, Tryd.ntmps43
  go_wp2_with fail
  refine (ht _).mono ?_
  rintro e w1 ⟨rfl, hb1⟩
  obtain ⟨hc1, hf1⟩ := bcell hb1
  cases q
  · go_wp2_with fail
    refine (ht _).mono ?_
    rintro e w2 ⟨rfl, hb2⟩
    go_wp2
    go_ret
    exact ⟨by rw [Hv.out]; rfl, (by repeat (first | exact Below.refl _ _ | assumption | exact (Below.refl _ _).alloc (Nat.le_refl _) _ | refine below_tr ?_ (by assumption) | refine below_alloc ?_ | refine below_tr ?_ (below_regrown _ _ _)))⟩
  · cases h1 : (x.toList == [116, 114, 117, 101])
    · cases h2 : (x.toList == [49])
      · go_wp2_with fail
        refine (ht _).mono ?_
        rintro e w2 ⟨rfl, hb2⟩
        obtain ⟨hc2, hf2⟩ := bcell (below_tr hb1 hb2)
        cases h3 : (x.toList == [102, 97, 108, 115, 101])
        · cases h4 : (x.toList == [48])
          · go_wp2
            go_ret
            exact ⟨by rw [Hv.out, h1, h2, h3, h4]; rfl, (by repeat (first | exact Below.refl _ _ | assumption | exact (Below.refl _ _).alloc (Nat.le_refl _) _ | refine below_tr ?_ (by assumption) | refine below_alloc ?_ | refine below_tr ?_ (below_regrown _ _ _)))⟩
          · go_wp2
            go_ret
            exact ⟨by rw [Hv.out, h1, h2, h3, h4]; rfl, (by repeat (first | exact Below.refl _ _ | assumption | exact (Below.refl _ _).alloc (Nat.le_refl _) _ | refine below_tr ?_ (by assumption) | refine below_alloc ?_ | refine below_tr ?_ (below_regrown _ _ _)))⟩
        · go_wp2
          go_ret
          exact ⟨by rw [Hv.out, h1, h2, h3]; rfl, (by repeat (first | exact Below.refl _ _ | assumption | exact (Below.refl _ _).alloc (Nat.le_refl _) _ | refine below_tr ?_ (by assumption) | refine below_alloc ?_ | refine below_tr ?_ (below_regrown _ _ _)))⟩
      · go_wp2
        go_ret
        exact ⟨by rw [Hv.out, h1, h2]; rfl, (by repeat (first | exact Below.refl _ _ | assumption | exact (Below.refl _ _).alloc (Nat.le_refl _) _ | refine below_tr ?_ (by assumption) | refine below_alloc ?_ | refine below_tr ?_ (below_regrown _ _ _)))⟩
    · go_wp2
      go_ret
      exact ⟨by rw [Hv.out, h1]; rfl, (by repeat (first | exact Below.refl _ _ | assumption | exact (Below.refl _ _).alloc (Nat.le_refl _) _ | refine below_tr ?_ (by assumption) | refine below_alloc ?_ | refine below_tr ?_ (below_regrown _ _ _)))⟩

set_option maxHeartbeats 2000000 in
theorem refAlone (k : Int) (x l y : ByteArray) (w : World) (hs : x.size ≤ 281474976710656) :
    Calls Tryd.prog 20 #[.agg #[.int .i64 k, .string x, .string l, .string y]] w fun e w' => e = .returned (.int .i64 (aloneI ⟨k, x, l, y⟩)) ∧ Below w.heap.size w w' := by
  have hN := fun W => refNumber k x l y W hs
  have hT := fun W => refTruth k x l y W
  have ho := fun ty W => refOf k x l y ty W
  obtain ⟨D, hD⟩ : ∃ D : ByteArray, (⟨(numD ⟨k, x, l, y⟩).toArray⟩ : ByteArray) = D := ⟨_, rfl⟩
  simp only [numV_eq, hD] at hN
  have hl : D.toList = numD ⟨k, x, l, y⟩ := by rw [← hD, toList_mk]
  have hv : aloneI ⟨k, x, l, y⟩ = if typedB ⟨k, x, l, y⟩ booleanS then toldI (truI ⟨k, x, l, y⟩ == 1) else if typedB ⟨k, x, l, y⟩ integerS then toldI (numI ⟨k, x, l, y⟩ && !(D.toList == [48])) else if k == 3 then toldI (!x.toList.isEmpty) else 3 := by
    unfold aloneI
    rw [← hl]
    congr 2
    unfold truI
    cases boolB ⟨k, x, l, y⟩ <;> cases yesB ⟨k, x, l, y⟩ <;> rfl
  rw [hv]
  have ho1 := ho booleanS
  have ho2 := ho integerS
  clear hv hl hD ho hs
  generalize typedB ⟨k, x, l, y⟩ booleanS = q1 at *
  generalize typedB ⟨k, x, l, y⟩ integerS = q2 at *
  generalize numI ⟨k, x, l, y⟩ = i at *
  generalize numM ⟨k, x, l, y⟩ = m at *
  generalize truI ⟨k, x, l, y⟩ = t at *
  unfold booleanS at ho1
  unfold integerS at ho2
  go_enter Tryd.func20, Tryd.ntmps20
  go_wp2_with fail
  refine (hN _).mono ?_
  rintro e w1 ⟨rfl, hb1⟩
  obtain ⟨hc1, hf1⟩ := bcell hb1
  go_wp2_with fail
  refine (ho1 _).mono ?_
  rintro e w2 ⟨rfl, hb⟩
  have hb2 := below_tr hb1 hb
  clear hb1 hb hc1 hf1
  obtain ⟨hc2, hf2⟩ := bcell hb2
  cases q1
  · go_wp2_with fail
    refine (ho2 _).mono ?_
    rintro e w3 ⟨rfl, hb⟩
    have hb3 := below_tr hb2 hb
    clear hb2 hb hc2 hf2
    obtain ⟨hc3, hf3⟩ := bcell hb3
    cases q2
    · by_cases hk : k = 3
      · have hk3 : (k == 3) = true := by simp [hk]
        clear hk
        go_wp2_with ((refine (refTold _ _).mono ?_); (rintro e w4 ⟨rfl, rfl⟩))
        go_ret
        exact ⟨by simp, (by repeat (first | exact Below.refl _ _ | assumption | exact (Below.refl _ _).alloc (Nat.le_refl _) _ | refine below_tr ?_ (by assumption) | refine below_alloc ?_ | refine below_tr ?_ (below_regrown _ _ _)))⟩
      · have hk3 : (k == 3) = false := by simp [hk]
        clear hk
        go_wp2_with ((refine (refTold _ _).mono ?_); (rintro e w4 ⟨rfl, rfl⟩))
        go_ret
        exact ⟨by simp, (by repeat (first | exact Below.refl _ _ | assumption | exact (Below.refl _ _).alloc (Nat.le_refl _) _ | refine below_tr ?_ (by assumption) | refine below_alloc ?_ | refine below_tr ?_ (below_regrown _ _ _)))⟩
    · cases i
      all_goals
        go_wp2_with ((refine (refTold _ _).mono ?_); (rintro e w4 ⟨rfl, rfl⟩))
        go_ret
        exact ⟨by simp, (by repeat (first | exact Below.refl _ _ | assumption | exact (Below.refl _ _).alloc (Nat.le_refl _) _ | refine below_tr ?_ (by assumption) | refine below_alloc ?_ | refine below_tr ?_ (below_regrown _ _ _)))⟩
  · go_wp2_with fail
    refine (hT _).mono ?_
    rintro e w3 ⟨rfl, hb⟩
    have hb3 := below_tr hb2 hb
    clear hb2 hb hc2 hf2
    go_wp2_with ((refine (refTold _ _).mono ?_); (rintro e w4 ⟨rfl, rfl⟩))
    go_ret
    exact ⟨by simp, (by repeat (first | exact Below.refl _ _ | assumption | exact (Below.refl _ _).alloc (Nat.le_refl _) _ | refine below_tr ?_ (by assumption) | refine below_alloc ?_ | refine below_tr ?_ (below_regrown _ _ _)))⟩

set_option maxHeartbeats 2000000 in
theorem filAlone (k : Int) (x l y : ByteArray) (w : World) (hs : x.size ≤ 281474976710656) :
    Calls Tryd.prog 19 #[.agg #[.int .i64 k, .string x, .string l, .string y]] w fun e w' => e = .returned (.int .i64 (aloneI ⟨k, x, l, y⟩)) ∧ Below w.heap.size w w' := by
  have hN := fun W => filNumber k x l y W hs
  have hT := fun W => filSays k x l y W
  have ho := fun ty W => filTyped k x l y ty W
  obtain ⟨D, hD⟩ : ∃ D : ByteArray, (⟨(numD ⟨k, x, l, y⟩).toArray⟩ : ByteArray) = D := ⟨_, rfl⟩
  simp only [numV_eq, hD] at hN
  have hl : D.toList = numD ⟨k, x, l, y⟩ := by rw [← hD, toList_mk]
  have hv : aloneI ⟨k, x, l, y⟩ = if typedB ⟨k, x, l, y⟩ booleanS then toldI (boolB ⟨k, x, l, y⟩ && yesB ⟨k, x, l, y⟩) else if typedB ⟨k, x, l, y⟩ integerS then toldI (numI ⟨k, x, l, y⟩ && !(D.toList == [48])) else if k == 3 then toldI (!x.toList.isEmpty) else 3 := by
    unfold aloneI
    rw [← hl]
  rw [hv]
  have ho1 := ho booleanS
  have ho2 := ho integerS
  clear hv hl hD ho hs
  generalize typedB ⟨k, x, l, y⟩ booleanS = q1 at *
  generalize typedB ⟨k, x, l, y⟩ integerS = q2 at *
  generalize numI ⟨k, x, l, y⟩ = i at *
  generalize numM ⟨k, x, l, y⟩ = m at *
  generalize boolB ⟨k, x, l, y⟩ = b at *
  generalize yesB ⟨k, x, l, y⟩ = ye at *
  unfold booleanS at ho1
  unfold integerS at ho2
  go_enter Tryd.func19, Tryd.ntmps19
  go_wp2_with fail
  refine (ho1 _).mono ?_
  rintro e w2 ⟨rfl, hb2⟩
  obtain ⟨hc2, hf2⟩ := bcell hb2
  cases q1
  · go_wp2_with fail
    refine (ho2 _).mono ?_
    rintro e w3 ⟨rfl, hb⟩
    have hb3 := below_tr hb2 hb
    clear hb2 hb hc2 hf2
    obtain ⟨hc3, hf3⟩ := bcell hb3
    cases q2
    · by_cases hk : k = 3
      · have hk3 : (k == 3) = true := by simp [hk]
        clear hk
        go_wp2_with ((refine (filTold _ _).mono ?_); (rintro e w4 ⟨rfl, rfl⟩))
        go_ret
        exact ⟨by simp, (by repeat (first | exact Below.refl _ _ | assumption | exact (Below.refl _ _).alloc (Nat.le_refl _) _ | refine below_tr ?_ (by assumption) | refine below_alloc ?_ | refine below_tr ?_ (below_regrown _ _ _)))⟩
      · have hk3 : (k == 3) = false := by simp [hk]
        clear hk
        go_wp2_with ((refine (filTold _ _).mono ?_); (rintro e w4 ⟨rfl, rfl⟩))
        go_ret
        exact ⟨by simp, (by repeat (first | exact Below.refl _ _ | assumption | exact (Below.refl _ _).alloc (Nat.le_refl _) _ | refine below_tr ?_ (by assumption) | refine below_alloc ?_ | refine below_tr ?_ (below_regrown _ _ _)))⟩
    · go_wp2_with fail
      refine (hN _).mono ?_
      rintro e w4 ⟨rfl, hb⟩
      have hb4 := below_tr hb3 hb
      clear hb3 hb hc3 hf3
      cases i
      all_goals
        go_wp2_with ((refine (filTold _ _).mono ?_); (rintro e w4 ⟨rfl, rfl⟩))
        go_ret
        exact ⟨by simp, (by repeat (first | exact Below.refl _ _ | assumption | exact (Below.refl _ _).alloc (Nat.le_refl _) _ | refine below_tr ?_ (by assumption) | refine below_alloc ?_ | refine below_tr ?_ (below_regrown _ _ _)))⟩
  · go_wp2_with fail
    refine (hT _).mono ?_
    rintro e w3 ⟨rfl, hb⟩
    have hb3 := below_tr hb2 hb
    clear hb2 hb hc2 hf2
    cases b
    all_goals
      go_wp2_with ((refine (filTold _ _).mono ?_); (rintro e w4 ⟨rfl, rfl⟩))
      go_ret
      exact ⟨by simp, (by repeat (first | exact Below.refl _ _ | assumption | exact (Below.refl _ _).alloc (Nat.le_refl _) _ | refine below_tr ?_ (by assumption) | refine below_alloc ?_ | refine below_tr ?_ (below_regrown _ _ _)))⟩
end Go.Proofs.YtgmkpandbafhjaaDoor
