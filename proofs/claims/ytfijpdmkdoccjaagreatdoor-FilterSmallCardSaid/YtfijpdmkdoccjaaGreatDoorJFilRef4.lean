/- The document's layer 25, walked: truth, Alone, Same, Less, And, Or. The document's layer 25, walked: Same, Less, And, Or; that they are the program's. -/
import Derived.Test.YtfijpdmkdoccjaaGreatDoorJFilRef2
namespace Go.Proofs.YtfijpdmkdoccjaaGreatDoor
open Go Go.RowKit Fm

def truI (t : Tm) : Int := if boolB t then (if yesB t then 1 else 2) else 3
theorem truI_eq (k : Int) (x l y : ByteArray) : truI ⟨k, x, l, y⟩ = if typedB ⟨k, x, l, y⟩ booleanS && (x.toList == [116, 114, 117, 101] || x.toList == [49]) then 1 else if typedB ⟨k, x, l, y⟩ booleanS && (x.toList == [102, 97, 108, 115, 101] || x.toList == [48]) then 2 else 3 := by
  unfold truI boolB yesB
  simp only
  cases typedB ⟨k, x, l, y⟩ booleanS <;> cases (x.toList == [116, 114, 117, 101]) <;> cases (x.toList == [49]) <;> cases (x.toList == [102, 97, 108, 115, 101]) <;> cases (x.toList == [48]) <;> rfl
set_option maxHeartbeats 2000000 in
theorem refTruth (k : Int) (x l y : ByteArray) (w : World) :
    Calls Tryz.prog 46 #[.agg #[.int .i64 k, .string x, .string l, .string y]] w fun e w' => e = .returned (.int .i64 (truI ⟨k, x, l, y⟩)) ∧ Below w.heap.size w w' := by
  have ht := fun W => refOf k x l y booleanS W
  have hv := truI_eq k x l y
  generalize truI ⟨k, x, l, y⟩ = v at hv ⊢
  generalize typedB ⟨k, x, l, y⟩ booleanS = q at ht hv
  unfold booleanS at ht
  have Hv := Lib.hid hv
  clear hv
  go_enter Tryz.func46, Tryz.ntmps46
  go_wp2_with fail
  refine (ht _).mono ?_
  rintro e w1 ⟨rfl, hb1⟩
  obtain ⟨hc1, hf1⟩ := bcell hb1
  cases q
  · go_wp2_with fail
    refine (ht _).mono ?_
    rintro e w2 ⟨rfl, hb2⟩
    go_wp2
    go_ret
    exact ⟨by rw [Hv.out]; rfl, (by repeat (first | exact Below.refl _ _ | assumption | exact (Below.refl _ _).alloc (Nat.le_refl _) _ | refine below_tr ?_ (by assumption) | refine below_alloc ?_ | refine below_tr ?_ (below_regrown _ _ _)))⟩
  · cases h1 : (x.toList == [116, 114, 117, 101])
    · cases h2 : (x.toList == [49])
      · go_wp2_with fail
        refine (ht _).mono ?_
        rintro e w2 ⟨rfl, hb2⟩
        obtain ⟨hc2, hf2⟩ := bcell (below_tr hb1 hb2)
        cases h3 : (x.toList == [102, 97, 108, 115, 101])
        · cases h4 : (x.toList == [48])
          · go_wp2
            go_ret
            exact ⟨by rw [Hv.out, h1, h2, h3, h4]; rfl, (by repeat (first | exact Below.refl _ _ | assumption | exact (Below.refl _ _).alloc (Nat.le_refl _) _ | refine below_tr ?_ (by assumption) | refine below_alloc ?_ | refine below_tr ?_ (below_regrown _ _ _)))⟩
          · go_wp2
            go_ret
            exact ⟨by rw [Hv.out, h1, h2, h3, h4]; rfl, (by repeat (first | exact Below.refl _ _ | assumption | exact (Below.refl _ _).alloc (Nat.le_refl _) _ | refine below_tr ?_ (by assumption) | refine below_alloc ?_ | refine below_tr ?_ (below_regrown _ _ _)))⟩
        · go_wp2
          go_ret
          exact ⟨by rw [Hv.out, h1, h2, h3]; rfl, (by repeat (first | exact Below.refl _ _ | assumption | exact (Below.refl _ _).alloc (Nat.le_refl _) _ | refine below_tr ?_ (by assumption) | refine below_alloc ?_ | refine below_tr ?_ (below_regrown _ _ _)))⟩
      · go_wp2
        go_ret
        exact ⟨by rw [Hv.out, h1, h2]; rfl, (by repeat (first | exact Below.refl _ _ | assumption | exact (Below.refl _ _).alloc (Nat.le_refl _) _ | refine below_tr ?_ (by assumption) | refine below_alloc ?_ | refine below_tr ?_ (below_regrown _ _ _)))⟩
    · go_wp2
      go_ret
      exact ⟨by rw [Hv.out, h1]; rfl, (by repeat (first | exact Below.refl _ _ | assumption | exact (Below.refl _ _).alloc (Nat.le_refl _) _ | refine below_tr ?_ (by assumption) | refine below_alloc ?_ | refine below_tr ?_ (below_regrown _ _ _)))⟩

set_option maxHeartbeats 2000000 in
theorem refAlone (k : Int) (x l y : ByteArray) (w : World) (hs : x.size ≤ 281474976710656) :
    Calls Tryz.prog 18 #[.agg #[.int .i64 k, .string x, .string l, .string y]] w fun e w' => e = .returned (.int .i64 (aloneI ⟨k, x, l, y⟩)) ∧ Below w.heap.size w w' := by
  have hN := fun W => refNumber k x l y W hs
  have hT := fun W => refTruth k x l y W
  have ho := fun ty W => refOf k x l y ty W
  obtain ⟨D, hD⟩ : ∃ D : ByteArray, (⟨(numD ⟨k, x, l, y⟩).toArray⟩ : ByteArray) = D := ⟨_, rfl⟩
  simp only [numV_eq, hD] at hN
  have hl : D.toList = numD ⟨k, x, l, y⟩ := by rw [← hD, toList_mk]
  have hv : aloneI ⟨k, x, l, y⟩ = if typedB ⟨k, x, l, y⟩ booleanS then toldI (truI ⟨k, x, l, y⟩ == 1) else if typedB ⟨k, x, l, y⟩ integerS then toldI (numI ⟨k, x, l, y⟩ && !(D.toList == [48])) else if k == 3 then toldI (!x.toList.isEmpty) else 3 := by
    unfold aloneI
    rw [← hl]
    congr 2
    unfold truI
    cases boolB ⟨k, x, l, y⟩ <;> cases yesB ⟨k, x, l, y⟩ <;> rfl
  rw [hv]
  have ho1 := ho booleanS
  have ho2 := ho integerS
  clear hv hl hD ho hs
  generalize typedB ⟨k, x, l, y⟩ booleanS = q1 at *
  generalize typedB ⟨k, x, l, y⟩ integerS = q2 at *
  generalize numI ⟨k, x, l, y⟩ = i at *
  generalize numM ⟨k, x, l, y⟩ = m at *
  generalize truI ⟨k, x, l, y⟩ = t at *
  unfold booleanS at ho1
  unfold integerS at ho2
  go_enter Tryz.func18, Tryz.ntmps18
  go_wp2_with fail
  refine (hN _).mono ?_
  rintro e w1 ⟨rfl, hb1⟩
  obtain ⟨hc1, hf1⟩ := bcell hb1
  go_wp2_with fail
  refine (ho1 _).mono ?_
  rintro e w2 ⟨rfl, hb⟩
  have hb2 := below_tr hb1 hb
  clear hb1 hb hc1 hf1
  obtain ⟨hc2, hf2⟩ := bcell hb2
  cases q1
  · go_wp2_with fail
    refine (ho2 _).mono ?_
    rintro e w3 ⟨rfl, hb⟩
    have hb3 := below_tr hb2 hb
    clear hb2 hb hc2 hf2
    obtain ⟨hc3, hf3⟩ := bcell hb3
    cases q2
    · by_cases hk : k = 3
      · have hk3 : (k == 3) = true := by simp [hk]
        clear hk
        go_wp2_with ((refine (refTold _ _).mono ?_); (rintro e w4 ⟨rfl, rfl⟩))
        go_ret
        exact ⟨by simp, (by repeat (first | exact Below.refl _ _ | assumption | exact (Below.refl _ _).alloc (Nat.le_refl _) _ | refine below_tr ?_ (by assumption) | refine below_alloc ?_ | refine below_tr ?_ (below_regrown _ _ _)))⟩
      · have hk3 : (k == 3) = false := by simp [hk]
        clear hk
        go_wp2_with ((refine (refTold _ _).mono ?_); (rintro e w4 ⟨rfl, rfl⟩))
        go_ret
        exact ⟨by simp, (by repeat (first | exact Below.refl _ _ | assumption | exact (Below.refl _ _).alloc (Nat.le_refl _) _ | refine below_tr ?_ (by assumption) | refine below_alloc ?_ | refine below_tr ?_ (below_regrown _ _ _)))⟩
    · cases i
      all_goals
        go_wp2_with ((refine (refTold _ _).mono ?_); (rintro e w4 ⟨rfl, rfl⟩))
        go_ret
        exact ⟨by simp, (by repeat (first | exact Below.refl _ _ | assumption | exact (Below.refl _ _).alloc (Nat.le_refl _) _ | refine below_tr ?_ (by assumption) | refine below_alloc ?_ | refine below_tr ?_ (below_regrown _ _ _)))⟩
  · go_wp2_with fail
    refine (hT _).mono ?_
    rintro e w3 ⟨rfl, hb⟩
    have hb3 := below_tr hb2 hb
    clear hb2 hb hc2 hf2
    go_wp2_with ((refine (refTold _ _).mono ?_); (rintro e w4 ⟨rfl, rfl⟩))
    go_ret
    exact ⟨by simp, (by repeat (first | exact Below.refl _ _ | assumption | exact (Below.refl _ _).alloc (Nat.le_refl _) _ | refine below_tr ?_ (by assumption) | refine below_alloc ?_ | refine below_tr ?_ (below_regrown _ _ _)))⟩

end Go.Proofs.YtfijpdmkdoccjaaGreatDoor
namespace Go.Proofs.YtfijpdmkdoccjaaGreatDoor
open Go Go.RowKit Fm

def smallB (d e : List UInt8) : Bool := decide ((d.length : Int) < e.length) || ((d.length : Int) == e.length && Op.bytesLess d e)
theorem tru_is (t : Tm) : (truI t != 3) = boolB t := by
  unfold truI
  cases boolB t <;> cases yesB t <;> rfl
theorem cmpN_zero (d e : List UInt8) : (cmpN d e == 0) = (d == e) := by
  rw [Bool.eq_iff_iff, beq_iff_eq, beq_iff_eq]
  unfold cmpN
  split
  · exact cmpS_zero d e
  · rename_i h
    constructor
    · intro hc; exact (h hc).elim
    · intro hde; subst hde; simp [Lib.compareInt] at h
theorem cmpN_small (d e : List UInt8) : decide (cmpN d e < 0) = smallB d e := by
  unfold cmpN smallB
  rw [bytesLess_eq]
  by_cases h1 : (d.length : Int) < e.length
  · have : Lib.compareInt d.length e.length = -1 := by unfold Lib.compareInt; rw [if_pos h1]
    simp [this, h1]
  · by_cases h2 : (d.length : Int) > e.length
    · have : Lib.compareInt d.length e.length = 1 := by unfold Lib.compareInt; rw [if_neg h1, if_pos h2]
      have h3 : ¬ (d.length : Int) = e.length := by omega
      rw [this]
      have h4 : ((d.length : Int) == e.length) = false := by simpa using h3
      simp [h4, h1]
    · have h3 : (d.length : Int) = e.length := by omega
      have : Lib.compareInt d.length e.length = 0 := by unfold Lib.compareInt; rw [if_neg h1, if_neg h2]
      have h4 : ((d.length : Int) == e.length) = true := by simpa using h3
      have h5 : decide ((d.length : Int) < e.length) = false := by simpa using h1
      rw [this, h4, h5, if_pos rfl, Bool.false_or, Bool.true_and]
      rw [decide_eq_decide]
      exact cmpS_lt d e
theorem sameI_alt (a b : Tm) : sameI a b = if numI a && numI b then toldI (numM a == numM b && numD a == numD b) else if (truI a != 3) && (truI b != 3) then toldI (truI a == truI b)
    else if sameTm a b then 1 else if !litB a || !litB b then 2 else if plainB a && plainB b then 2 else 3 := by
  rw [tru_is, tru_is]
  unfold sameI ordB
  cases hn : (numI a && numI b)
  · cases hb : (boolB a && boolB b)
    · simp only [Bool.false_or, Bool.false_eq_true, if_false]
      cases hp : (plainB a && plainB b)
      · simp
      · simp only [if_true]
        rw [Bool.and_eq_true] at hp
        obtain ⟨p1, p2⟩ := hp
        rw [ordN_plain p1]
        have h1 : (cmpS a.x.toList b.x.toList == 0) = (a.x.toList == b.x.toList) := by
          rw [Bool.eq_iff_iff, beq_iff_eq, beq_iff_eq]; exact cmpS_zero _ _
        have h2 : sameTm a b = (a.x.toList == b.x.toList) := by
          unfold plainB at p1 p2
          simp only [Bool.and_eq_true, beq_iff_eq, List.isEmpty_iff] at p1 p2
          unfold sameTm
          rw [p1.1.1, p2.1.1, p1.1.2, p2.1.2, p1.2, p2.2]
          simp
        rw [h1, h2]
        cases (a.x.toList == b.x.toList)
        · simp [toldI]
        · simp [toldI]
    · simp only [Bool.false_or, Bool.true_or, if_true, Bool.false_eq_true, if_false]
      rw [Bool.and_eq_true] at hb
      rw [ordN_bool hb.1 hb.2]
      unfold truI
      rw [hb.1, hb.2]
      cases yesB a <;> cases yesB b <;> rfl
  · simp only [Bool.true_or, if_true]
    rw [Bool.and_eq_true] at hn
    rw [ordN_num hn.1 hn.2, ← cmpN_zero]
    cases numM a <;> cases numM b
    · simp
    · simp [wt, toldI]
    · simp [wt, toldI]
    · have : (-cmpN (numD a) (numD b) == 0) = (cmpN (numD a) (numD b) == 0) := by rw [Bool.eq_iff_iff, beq_iff_eq, beq_iff_eq]; omega
      simp [this]
theorem lessI_alt (a b : Tm) : lessI a b = if numI a && numI b && (numM a != numM b) then toldI (numM a) else if numI a && numI b && numM a then toldI (smallB (numD b) (numD a)) else if numI a && numI b then toldI (smallB (numD a) (numD b))
    else if (truI a != 3) && (truI b != 3) then toldI (truI a == 2 && truI b == 1) else if plainB a && plainB b then toldI (Op.bytesLess a.x.toList b.x.toList) else 3 := by
  rw [tru_is, tru_is, ← cmpN_small, ← cmpN_small]
  unfold lessI ordB
  cases hn : (numI a && numI b)
  · cases hb : (boolB a && boolB b)
    · simp only [Bool.false_or, Bool.false_and, Bool.false_eq_true, if_false]
      cases hp : (plainB a && plainB b)
      · simp
      · simp only [if_true]
        rw [Bool.and_eq_true] at hp
        rw [ordN_plain hp.1, bytesLess_eq]
        congr 1
        rw [decide_eq_decide]
        exact cmpS_lt _ _
    · simp only [Bool.false_or, Bool.true_or, if_true, Bool.false_and, Bool.false_eq_true, if_false]
      rw [Bool.and_eq_true] at hb
      rw [ordN_bool hb.1 hb.2]
      unfold truI
      rw [hb.1, hb.2]
      cases yesB a <;> cases yesB b <;> rfl
  · simp only [Bool.true_or, if_true, Bool.true_and]
    rw [Bool.and_eq_true] at hn
    rw [ordN_num hn.1 hn.2]
    have := cmpN_neg (numD a) (numD b)
    cases numM a <;> cases numM b
    · simp
    · simp [wt, toldI]
    · simp [wt, toldI]
    · simp only [bne_self_eq_false, Bool.false_eq_true, if_false, if_true]
      rw [this]

theorem refSmaller (d e : ByteArray) (w : World) :
    Calls Tryz.prog 51 #[.string d, .string e] w fun e' w' => e' = .returned (.bool (smallB d.toList e.toList)) ∧ w = w' := by
  have h1 : (d.toList.length : Int) = d.size := by rw [ByteArray.toList_eq, size_toList]
  have h2 : (e.toList.length : Int) = e.size := by rw [ByteArray.toList_eq, size_toList]
  unfold smallB
  rw [h1, h2]
  clear h1 h2
  go_enter Tryz.func51, Tryz.ntmps51
  go_wp2
  all_goals
    go_ret
    exact ⟨by simp_all <;> (intro; omega), rfl⟩
set_option maxHeartbeats 4000000 in
theorem refSame (k1 : Int) (x1 l1 y1 : ByteArray) (k2 : Int) (x2 l2 y2 : ByteArray) (w : World) (hs1 : x1.size ≤ 281474976710656) (hs2 : x2.size ≤ 281474976710656) :
    Calls Tryz.prog 20 #[.agg #[.int .i64 k1, .string x1, .string l1, .string y1], .agg #[.int .i64 k2, .string x2, .string l2, .string y2]] w fun e w' =>
      e = .returned (.int .i64 (sameI ⟨k1, x1, l1, y1⟩ ⟨k2, x2, l2, y2⟩)) ∧ Below w.heap.size w w' := by
  have hN1 := fun W => refNumber k1 x1 l1 y1 W hs1
  have hN2 := fun W => refNumber k2 x2 l2 y2 W hs2
  have hT1 := fun W => refTruth k1 x1 l1 y1 W
  have hT2 := fun W => refTruth k2 x2 l2 y2 W
  obtain ⟨D1, hD1⟩ : ∃ D : ByteArray, (⟨(numD ⟨k1, x1, l1, y1⟩).toArray⟩ : ByteArray) = D := ⟨_, rfl⟩
  obtain ⟨D2, hD2⟩ : ∃ D : ByteArray, (⟨(numD ⟨k2, x2, l2, y2⟩).toArray⟩ : ByteArray) = D := ⟨_, rfl⟩
  simp only [numV_eq, hD1] at hN1
  simp only [numV_eq, hD2] at hN2
  have hl1 : D1.toList = numD ⟨k1, x1, l1, y1⟩ := by rw [← hD1, toList_mk]
  have hl2 : D2.toList = numD ⟨k2, x2, l2, y2⟩ := by rw [← hD2, toList_mk]
  have hv := sameI_alt ⟨k1, x1, l1, y1⟩ ⟨k2, x2, l2, y2⟩
  rw [← hl1, ← hl2] at hv
  generalize sameI ⟨k1, x1, l1, y1⟩ ⟨k2, x2, l2, y2⟩ = v at hv ⊢
  clear hl1 hl2 hD1 hD2 hs1 hs2
  generalize numM ⟨k1, x1, l1, y1⟩ = m1 at *
  generalize numM ⟨k2, x2, l2, y2⟩ = m2 at *
  generalize numI ⟨k1, x1, l1, y1⟩ = i1 at *
  generalize numI ⟨k2, x2, l2, y2⟩ = i2 at *
  generalize truI ⟨k1, x1, l1, y1⟩ = t1 at *
  generalize truI ⟨k2, x2, l2, y2⟩ = t2 at *
  have Hv := Lib.hid hv
  clear hv
  go_enter Tryz.func20, Tryz.ntmps20
  go_wp2_with fail
  refine (hN1 _).mono ?_
  rintro e w1 ⟨rfl, hb1⟩
  obtain ⟨hc1, hf1⟩ := bcell hb1
  go_wp2_with fail
  refine (hN2 _).mono ?_
  rintro e w2 ⟨rfl, hb2⟩
  have hb := below_tr hb1 hb2
  clear hc1 hf1 hb1 hb2
  obtain ⟨hc, hf⟩ := bcell hb
  cases hi : (i1 && i2)
  · cases i1 <;> cases i2 <;> try (cases hi; done)
    all_goals
      clear hi
      by_cases ht : t1 = 3
      · have q1 : (t1 != 3) = false := by simp [ht]
        clear ht
        go_wp2_with fail
        refine (hT1 _).mono ?_
        rintro e w3 ⟨rfl, hbn⟩
        have hb9 := below_tr hb hbn
        clear hb hbn hc hf
        have hb := hb9
        clear hb9
        obtain ⟨hc, hf⟩ := bcell hb
        go_wp2_with (first | (go_at_call 49; refine (refLiteral _ _ _ _ _).mono ?_; rintro e w5 ⟨rfl, hbn⟩; have hb9 := below_tr hb hbn; clear hb hbn hc hf; have hb := hb9; clear hb9; obtain ⟨hc, hf⟩ := bcell hb) | (go_at_call 50; refine (refPlain _ _ _ _ _).mono ?_; rintro e w5 ⟨rfl, hbn⟩; have hb9 := below_tr hb hbn; clear hb hbn hc hf; have hb := hb9; clear hb9; obtain ⟨hc, hf⟩ := bcell hb))
        all_goals
          go_ret
          refine ⟨?_, (by repeat (first | exact Below.refl _ _ | assumption | exact (Below.refl _ _).alloc (Nat.le_refl _) _ | refine below_tr ?_ (by assumption) | refine below_alloc ?_ | refine below_tr ?_ (below_regrown _ _ _)))⟩
          rw [Hv.out]
          simp_all [sameTm, litB, plainB] <;> (repeat' split) <;> first | rfl | omega | (simp_all; done) | (simp_all; omega)
      · have q1 : (t1 != 3) = true := by simp [ht]
        clear ht
        by_cases ht : t2 = 3
        · have q2 : (t2 != 3) = false := by simp [ht]
          clear ht
          go_wp2_with fail
          refine (hT1 _).mono ?_
          rintro e w3 ⟨rfl, hbn⟩
          have hb9 := below_tr hb hbn
          clear hb hbn hc hf
          have hb := hb9
          clear hb9
          obtain ⟨hc, hf⟩ := bcell hb
          go_wp2_with fail
          refine (hT2 _).mono ?_
          rintro e w3 ⟨rfl, hbn⟩
          have hb9 := below_tr hb hbn
          clear hb hbn hc hf
          have hb := hb9
          clear hb9
          obtain ⟨hc, hf⟩ := bcell hb
          go_wp2_with (first | (go_at_call 49; refine (refLiteral _ _ _ _ _).mono ?_; rintro e w5 ⟨rfl, hbn⟩; have hb9 := below_tr hb hbn; clear hb hbn hc hf; have hb := hb9; clear hb9; obtain ⟨hc, hf⟩ := bcell hb) | (go_at_call 50; refine (refPlain _ _ _ _ _).mono ?_; rintro e w5 ⟨rfl, hbn⟩; have hb9 := below_tr hb hbn; clear hb hbn hc hf; have hb := hb9; clear hb9; obtain ⟨hc, hf⟩ := bcell hb))
          all_goals
            go_ret
            refine ⟨?_, (by repeat (first | exact Below.refl _ _ | assumption | exact (Below.refl _ _).alloc (Nat.le_refl _) _ | refine below_tr ?_ (by assumption) | refine below_alloc ?_ | refine below_tr ?_ (below_regrown _ _ _)))⟩
            rw [Hv.out]
            simp_all [sameTm, litB, plainB] <;> (repeat' split) <;> first | rfl | omega | (simp_all; done) | (simp_all; omega)
        · have q2 : (t2 != 3) = true := by simp [ht]
          clear ht
          go_wp2_with fail
          refine (hT1 _).mono ?_
          rintro e w3 ⟨rfl, hbn⟩
          have hb9 := below_tr hb hbn
          clear hb hbn hc hf
          have hb := hb9
          clear hb9
          obtain ⟨hc, hf⟩ := bcell hb
          go_wp2_with fail
          refine (hT2 _).mono ?_
          rintro e w3 ⟨rfl, hbn⟩
          have hb9 := below_tr hb hbn
          clear hb hbn hc hf
          have hb := hb9
          clear hb9
          obtain ⟨hc, hf⟩ := bcell hb
          have g01 := fun d os => grown_two1 hb 0 _ rfl d os
          have g02 := fun d os => grown_two1 hb 1 _ rfl d os
          have g03 := fun d os => grown_two1 hb 2 _ rfl d os
          have g04 := fun d os => grown_two1 hb 3 _ rfl d os
          have g11 := fun d os => grown_two2 hb 0 _ rfl d os
          have g12 := fun d os => grown_two2 hb 1 _ rfl d os
          have g13 := fun d os => grown_two2 hb 2 _ rfl d os
          have g14 := fun d os => grown_two2 hb 3 _ rfl d os
          go_wp2
          refine wp_region_quiet_below (by kernel_rfl) (by kernel_rfl) ?_; (repeat (any_goals (go_big_quiet_step ((first | (go_at_call 46; with_reducible exact Calls.regrown_of (hT1 _)) | (go_at_call 46; with_reducible exact Calls.regrown_of (hT2 _)) | (go_at_call 45; with_reducible exact Calls.quiet_tr (refTold _ _))))))); all_goals (refine wpQuiet_nil ?_; intro _ hw9; obtain ⟨⟨d9, os9⟩, hw8⟩ := hw9; subst hw8)
          go_wp2
          go_ret
          exact ⟨by rw [Hv.out]; simp [*], (by repeat (first | exact Below.refl _ _ | assumption | exact (Below.refl _ _).alloc (Nat.le_refl _) _ | refine below_tr ?_ (by assumption) | refine below_alloc ?_ | refine below_tr ?_ (below_regrown _ _ _)))⟩
  · rw [Bool.and_eq_true] at hi
    obtain ⟨rfl, rfl⟩ := hi
    cases m1 <;> cases m2
    all_goals
      go_wp2_with ((refine (refTold _ _).mono ?_); (rintro e w4 ⟨rfl, rfl⟩))
      go_ret
      exact ⟨by rw [Hv.out]; simp [*], (by repeat (first | exact Below.refl _ _ | assumption | exact (Below.refl _ _).alloc (Nat.le_refl _) _ | refine below_tr ?_ (by assumption) | refine below_alloc ?_ | refine below_tr ?_ (below_regrown _ _ _)))⟩
end Go.Proofs.YtfijpdmkdoccjaaGreatDoor
