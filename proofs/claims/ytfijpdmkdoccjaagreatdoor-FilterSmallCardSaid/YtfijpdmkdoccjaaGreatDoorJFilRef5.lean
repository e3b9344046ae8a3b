/- The document's layer 25, walked: Less, And, Or. -/
import Derived.Test.YtfijpdmkdoccjaaGreatDoorJFilRef4
namespace Go.Proofs.YtfijpdmkdoccjaaGreatDoor
open Go Go.RowKit Fm

set_option maxHeartbeats 4000000 in
theorem refLess (k1 : Int) (x1 l1 y1 : ByteArray) (k2 : Int) (x2 l2 y2 : ByteArray) (w : World) (hs1 : x1.size ≤ 281474976710656) (hs2 : x2.size ≤ 281474976710656) :
    Calls Tryz.prog 22 #[.agg #[.int .i64 k1, .string x1, .string l1, .string y1], .agg #[.int .i64 k2, .string x2, .string l2, .string y2]] w fun e w' =>
      e = .returned (.int .i64 (lessI ⟨k1, x1, l1, y1⟩ ⟨k2, x2, l2, y2⟩)) ∧ Below w.heap.size w w' := by
  have hN1 := fun W => refNumber k1 x1 l1 y1 W hs1
  have hN2 := fun W => refNumber k2 x2 l2 y2 W hs2
  have hT1 := fun W => refTruth k1 x1 l1 y1 W
  have hT2 := fun W => refTruth k2 x2 l2 y2 W
  have hP1 := fun W => refPlain k1 x1 l1 y1 W
  have hP2 := fun W => refPlain k2 x2 l2 y2 W
  obtain ⟨D1, hD1⟩ : ∃ D : ByteArray, (⟨(numD ⟨k1, x1, l1, y1⟩).toArray⟩ : ByteArray) = D := ⟨_, rfl⟩
  obtain ⟨D2, hD2⟩ : ∃ D : ByteArray, (⟨(numD ⟨k2, x2, l2, y2⟩).toArray⟩ : ByteArray) = D := ⟨_, rfl⟩
  simp only [numV_eq, hD1] at hN1
  simp only [numV_eq, hD2] at hN2
  have hl1 : D1.toList = numD ⟨k1, x1, l1, y1⟩ := by rw [← hD1, toList_mk]
  have hl2 : D2.toList = numD ⟨k2, x2, l2, y2⟩ := by rw [← hD2, toList_mk]
  have hv := lessI_alt ⟨k1, x1, l1, y1⟩ ⟨k2, x2, l2, y2⟩
  rw [← hl1, ← hl2] at hv
  simp only at hv
  generalize lessI ⟨k1, x1, l1, y1⟩ ⟨k2, x2, l2, y2⟩ = v at hv ⊢
  clear hl1 hl2 hD1 hD2 hs1 hs2
  generalize numM ⟨k1, x1, l1, y1⟩ = m1 at *
  generalize numM ⟨k2, x2, l2, y2⟩ = m2 at *
  generalize numI ⟨k1, x1, l1, y1⟩ = i1 at *
  generalize numI ⟨k2, x2, l2, y2⟩ = i2 at *
  generalize truI ⟨k1, x1, l1, y1⟩ = t1 at *
  generalize truI ⟨k2, x2, l2, y2⟩ = t2 at *
  generalize plainB ⟨k1, x1, l1, y1⟩ = p1 at *
  generalize plainB ⟨k2, x2, l2, y2⟩ = p2 at *
  have Hv := Lib.hid hv
  clear hv
  go_enter Tryz.func22, Tryz.ntmps22
  go_wp2_with fail
  refine (hN1 _).mono ?_
  rintro e w1 ⟨rfl, hb1⟩
  obtain ⟨hc1, hf1⟩ := bcell hb1
  go_wp2_with fail
  refine (hN2 _).mono ?_
  rintro e w2 ⟨rfl, hb2⟩
  have hb := below_tr hb1 hb2
  clear hc1 hf1 hb1 hb2
  obtain ⟨hc, hf⟩ := bcell hb
  cases hi : (i1 && i2)
  · cases i1 <;> cases i2 <;> try (cases hi; done)
    all_goals
      clear hi
      by_cases ht : t1 = 3
      · have q1 : (t1 != 3) = false := by simp [ht]
        clear ht
        go_wp2_with fail
        refine (hT1 _).mono ?_
        rintro e w3 ⟨rfl, hbn⟩
        have hb9 := below_tr hb hbn
        clear hb hbn hc hf
        have hb := hb9
        clear hb9
        obtain ⟨hc, hf⟩ := bcell hb
        cases p1
        · go_wp2_with fail
          refine (hP1 _).mono ?_
          rintro e w3 ⟨rfl, hbn⟩
          have hb9 := below_tr hb hbn
          clear hb hbn hc hf
          have hb := hb9
          clear hb9
          obtain ⟨hc, hf⟩ := bcell hb
          go_wp2
          go_ret
          exact ⟨by rw [Hv.out]; simp [*], (by repeat (first | exact Below.refl _ _ | assumption | exact (Below.refl _ _).alloc (Nat.le_refl _) _ | refine below_tr ?_ (by assumption) | refine below_alloc ?_ | refine below_tr ?_ (below_regrown _ _ _)))⟩
        · go_wp2_with fail
          refine (hP1 _).mono ?_
          rintro e w3 ⟨rfl, hbn⟩
          have hb9 := below_tr hb hbn
          clear hb hbn hc hf
          have hb := hb9
          clear hb9
          obtain ⟨hc, hf⟩ := bcell hb
          cases p2
          · go_wp2_with fail
            refine (hP2 _).mono ?_
            rintro e w3 ⟨rfl, hbn⟩
            have hb9 := below_tr hb hbn
            clear hb hbn hc hf
            have hb := hb9
            clear hb9
            obtain ⟨hc, hf⟩ := bcell hb
            go_wp2
            go_ret
            exact ⟨by rw [Hv.out]; simp [*], (by repeat (first | exact Below.refl _ _ | assumption | exact (Below.refl _ _).alloc (Nat.le_refl _) _ | refine below_tr ?_ (by assumption) | refine below_alloc ?_ | refine below_tr ?_ (below_regrown _ _ _)))⟩
          · go_wp2_with fail
            refine (hP2 _).mono ?_
            rintro e w3 ⟨rfl, hbn⟩
            have hb9 := below_tr hb hbn
            clear hb hbn hc hf
            have hb := hb9
            clear hb9
            obtain ⟨hc, hf⟩ := bcell hb
            go_wp2_with ((refine (refTold _ _).mono ?_); (rintro e w4 ⟨rfl, rfl⟩))
            go_ret
            exact ⟨by rw [Hv.out]; simp [*], (by repeat (first | exact Below.refl _ _ | assumption | exact (Below.refl _ _).alloc (Nat.le_refl _) _ | refine below_tr ?_ (by assumption) | refine below_alloc ?_ | refine below_tr ?_ (below_regrown _ _ _)))⟩
      · have q1 : (t1 != 3) = true := by simp [ht]
        clear ht
        by_cases ht : t2 = 3
        · have q2 : (t2 != 3) = false := by simp [ht]
          clear ht
          go_wp2_with fail
          refine (hT1 _).mono ?_
          rintro e w3 ⟨rfl, hbn⟩
          have hb9 := below_tr hb hbn
          clear hb hbn hc hf
          have hb := hb9
          clear hb9
          obtain ⟨hc, hf⟩ := bcell hb
          go_wp2_with fail
          refine (hT2 _).mono ?_
          rintro e w3 ⟨rfl, hbn⟩
          have hb9 := below_tr hb hbn
          clear hb hbn hc hf
          have hb := hb9
          clear hb9
          obtain ⟨hc, hf⟩ := bcell hb
          cases p1
          · go_wp2_with fail
            refine (hP1 _).mono ?_
            rintro e w3 ⟨rfl, hbn⟩
            have hb9 := below_tr hb hbn
            clear hb hbn hc hf
            have hb := hb9
            clear hb9
            obtain ⟨hc, hf⟩ := bcell hb
            go_wp2
            go_ret
            exact ⟨by rw [Hv.out]; simp [*], (by repeat (first | exact Below.refl _ _ | assumption | exact (Below.refl _ _).alloc (Nat.le_refl _) _ | refine below_tr ?_ (by assumption) | refine below_alloc ?_ | refine below_tr ?_ (below_regrown _ _ _)))⟩
          · go_wp2_with fail
            refine (hP1 _).mono ?_
            rintro e w3 ⟨rfl, hbn⟩
            have hb9 := below_tr hb hbn
            clear hb hbn hc hf
            have hb := hb9
            clear hb9
            obtain ⟨hc, hf⟩ := bcell hb
            cases p2
            · go_wp2_with fail
              refine (hP2 _).mono ?_
              rintro e w3 ⟨rfl, hbn⟩
              have hb9 := below_tr hb hbn
              clear hb hbn hc hf
              have hb := hb9
              clear hb9
              obtain ⟨hc, hf⟩ := bcell hb
              go_wp2
              go_ret
              exact ⟨by rw [Hv.out]; simp [*], (by repeat (first | exact Below.refl _ _ | assumption | exact (Below.refl _ _).alloc (Nat.le_refl _) _ | refine below_tr ?_ (by assumption) | refine below_alloc ?_ | refine below_tr ?_ (below_regrown _ _ _)))⟩
            · go_wp2_with fail
              refine (hP2 _).mono ?_
              rintro e w3 ⟨rfl, hbn⟩
              have hb9 := below_tr hb hbn
              clear hb hbn hc hf
              have hb := hb9
              clear hb9
              obtain ⟨hc, hf⟩ := bcell hb
              go_wp2_with ((refine (refTold _ _).mono ?_); (rintro e w4 ⟨rfl, rfl⟩))
              go_ret
              exact ⟨by rw [Hv.out]; simp [*], (by repeat (first | exact Below.refl _ _ | assumption | exact (Below.refl _ _).alloc (Nat.le_refl _) _ | refine below_tr ?_ (by assumption) | refine below_alloc ?_ | refine below_tr ?_ (below_regrown _ _ _)))⟩
        · have q2 : (t2 != 3) = true := by simp [ht]
          clear ht
          go_wp2_with fail
          refine (hT1 _).mono ?_
          rintro e w3 ⟨rfl, hbn⟩
          have hb9 := below_tr hb hbn
          clear hb hbn hc hf
          have hb := hb9
          clear hb9
          obtain ⟨hc, hf⟩ := bcell hb
          go_wp2_with fail
          refine (hT2 _).mono ?_
          rintro e w3 ⟨rfl, hbn⟩
          have hb9 := below_tr hb hbn
          clear hb hbn hc hf
          have hb := hb9
          clear hb9
          obtain ⟨hc, hf⟩ := bcell hb
          go_wp2_with fail
          refine (hT1 _).mono ?_
          rintro e w3 ⟨rfl, hbn⟩
          have hb9 := below_tr hb hbn
          clear hb hbn hc hf
          have hb := hb9
          clear hb9
          obtain ⟨hc, hf⟩ := bcell hb
          by_cases h2 : t1 = 2
          · have q3 : (t1 == 2) = true := by simp [h2]
            clear h2
            go_wp2_with fail
            refine (hT2 _).mono ?_
            rintro e w3 ⟨rfl, hbn⟩
            have hb9 := below_tr hb hbn
            clear hb hbn hc hf
            have hb := hb9
            clear hb9
            obtain ⟨hc, hf⟩ := bcell hb
            go_wp2_with ((refine (refTold _ _).mono ?_); (rintro e w4 ⟨rfl, rfl⟩))
            go_ret
            exact ⟨by rw [Hv.out]; simp [*], (by repeat (first | exact Below.refl _ _ | assumption | exact (Below.refl _ _).alloc (Nat.le_refl _) _ | refine below_tr ?_ (by assumption) | refine below_alloc ?_ | refine below_tr ?_ (below_regrown _ _ _)))⟩
          · have q3 : (t1 == 2) = false := by simp [h2]
            clear h2
            go_wp2_with ((refine (refTold _ _).mono ?_); (rintro e w4 ⟨rfl, rfl⟩))
            go_ret
            exact ⟨by rw [Hv.out]; simp [*], (by repeat (first | exact Below.refl _ _ | assumption | exact (Below.refl _ _).alloc (Nat.le_refl _) _ | refine below_tr ?_ (by assumption) | refine below_alloc ?_ | refine below_tr ?_ (below_regrown _ _ _)))⟩
  · rw [Bool.and_eq_true] at hi
    obtain ⟨rfl, rfl⟩ := hi
    cases m1 <;> cases m2
    all_goals
      go_wp2_with (first | (go_at_call 51; refine (refSmaller _ _ _).mono ?_; rintro e w4 ⟨rfl, rfl⟩) | (go_at_call 45; refine (refTold _ _).mono ?_; rintro e w4 ⟨rfl, rfl⟩))
      go_ret
      exact ⟨by rw [Hv.out]; simp [*], (by repeat (first | exact Below.refl _ _ | assumption | exact (Below.refl _ _).alloc (Nat.le_refl _) _ | refine below_tr ?_ (by assumption) | refine below_alloc ?_ | refine below_tr ?_ (below_regrown _ _ _)))⟩

def outI (first : Int) (b : Bool) : Int := if b then 3 else first
/-- And, one by one: what is to come, and whether some was not True. -/
def andF (l : List Int) (wr : Bool) : Int := if hasI l 2 then 2 else if wr || oddI l 2 then 3 else 1
def orF (l : List Int) (wr : Bool) : Int := if hasI l 1 then 1 else if wr || oddI l 1 then 3 else 2
theorem andF_cons (x : Int) (l : List Int) (wr : Bool) : andF (x :: l) wr = if x == 2 then 2 else andF l (wr || x != 1) := by
  unfold andF hasI oddI
  rw [List.contains_cons, List.any_cons, show notI 2 = 1 from rfl]
  rw [show ((2 : Int) == x) = (x == 2) from BEq.comm]
  cases (x == 2)
  · simp only [Bool.false_or, Bool.or_assoc]; rfl
  · rfl
theorem orF_cons (x : Int) (l : List Int) (wr : Bool) : orF (x :: l) wr = if x == 1 then 1 else orF l (wr || x != 2) := by
  unfold orF hasI oddI
  rw [List.contains_cons, List.any_cons, show notI 1 = 2 from rfl]
  rw [show ((1 : Int) == x) = (x == 1) from BEq.comm]
  cases (x == 1)
  · simp only [Bool.false_or, Bool.or_assoc]; rfl
  · rfl

set_option maxHeartbeats 1000000 in
theorem refAnd (l : List Int) (A : Option Addr) (c : Nat) (w : World) (hl : l.length ≤ 1000000000) (hr : Rd w A (l.map (Value.int .i64))) :
    Calls Tryz.prog 24 #[.slice A l.length c] w fun e w' => e = .returned (.int .i64 (andI l)) ∧ Below w.heap.size w w' := by
  have hres : andF l false = andI l := by unfold andF andI eitherI; simp [notI]
  generalize andI l = r at hres ⊢
  have Hres := Lib.hid hres
  clear hres
  go_enter Tryz.func24, Tryz.ntmps24
  go_wp2
  go_loop [3, 4] (fun o i => ∃ (k : Nat) (b : Bool), k ≤ l.length ∧ i = .int .i64 k ∧ o = .int .i64 (outI 1 b) ∧ Hid (andF (l.drop k) b = r)) (fun _ i => l.length - (intOf i).toNat)
  case atStart => exact ⟨0, false, by omega, rfl, rfl, Hres⟩
  case round =>
    obtain ⟨k, b, hk, rfl, rfl, H⟩ := hrel
    by_cases hlt : k < l.length
    · obtain ⟨x, hx⟩ : ∃ x, l[k]? = some x := ⟨_, List.getElem?_eq_getElem hlt⟩
      obtain ⟨g, o, rfl, hcx⟩ := hr.at_ (j := k) (u := .int .i64 x) (by simp [hx])
      have hd : l.drop k = x :: l.drop (k + 1) := by
        rw [List.drop_eq_getElem_cons hlt]
        rw [List.getElem?_eq_getElem hlt] at hx
        injection hx with hx; rw [hx]
      have H2 : Hid ((if x == 2 then 2 else andF (l.drop (k+1)) (b || x != 1)) = r) := by
        show _ = _
        rw [← H.out, hd, andF_cons]
      clear hx hd H hr
      cases hx0 : (x == 2)
      · rw [hx0] at H2
        cases hx1 : (x != 1)
        · rw [hx1, Bool.or_false] at H2
          go_wp2
          go_round
          case rel => exact ⟨k+1, b, by omega, by go_num, rfl, H2⟩
          case measure => simp [intOf]; omega
        · rw [hx1, Bool.or_true] at H2
          go_wp2
          go_round
          case rel => exact ⟨k+1, true, by omega, by go_num, rfl, H2⟩
          case measure => simp [intOf]; omega
      · rw [hx0] at H2
        go_wp2
        go_ret
        exact ⟨by rw [← H2.out]; rfl, Below.refl _ _⟩
    · have H2 : Hid (outI 1 b = r) := by
        show _ = _
        rw [← H.out, List.drop_eq_nil_of_le (by omega)]
        cases b <;> rfl
      clear H
      go_wp2
      go_ret
      exact ⟨by rw [← H2.out]; rfl, Below.refl _ _⟩

set_option maxHeartbeats 1000000 in
theorem refOr (l : List Int) (A : Option Addr) (c : Nat) (w : World) (hl : l.length ≤ 1000000000) (hr : Rd w A (l.map (Value.int .i64))) :
    Calls Tryz.prog 26 #[.slice A l.length c] w fun e w' => e = .returned (.int .i64 (orI l)) ∧ Below w.heap.size w w' := by
  have hres : orF l false = orI l := by unfold orF orI eitherI; simp [notI]
  generalize orI l = r at hres ⊢
  have Hres := Lib.hid hres
  clear hres
  go_enter Tryz.func26, Tryz.ntmps26
  go_wp2
  go_loop [3, 4] (fun o i => ∃ (k : Nat) (b : Bool), k ≤ l.length ∧ i = .int .i64 k ∧ o = .int .i64 (outI 2 b) ∧ Hid (orF (l.drop k) b = r)) (fun _ i => l.length - (intOf i).toNat)
  case atStart => exact ⟨0, false, by omega, rfl, rfl, Hres⟩
  case round =>
    obtain ⟨k, b, hk, rfl, rfl, H⟩ := hrel
    by_cases hlt : k < l.length
    · obtain ⟨x, hx⟩ : ∃ x, l[k]? = some x := ⟨_, List.getElem?_eq_getElem hlt⟩
      obtain ⟨g, o, rfl, hcx⟩ := hr.at_ (j := k) (u := .int .i64 x) (by simp [hx])
      have hd : l.drop k = x :: l.drop (k + 1) := by
        rw [List.drop_eq_getElem_cons hlt]
        rw [List.getElem?_eq_getElem hlt] at hx
        injection hx with hx; rw [hx]
      have H2 : Hid ((if x == 1 then 1 else orF (l.drop (k+1)) (b || x != 2)) = r) := by
        show _ = _
        rw [← H.out, hd, orF_cons]
      clear hx hd H hr
      cases hx0 : (x == 1)
      · rw [hx0] at H2
        cases hx1 : (x != 2)
        · rw [hx1, Bool.or_false] at H2
          go_wp2
          go_round
          case rel => exact ⟨k+1, b, by omega, by go_num, rfl, H2⟩
          case measure => simp [intOf]; omega
        · rw [hx1, Bool.or_true] at H2
          go_wp2
          go_round
          case rel => exact ⟨k+1, true, by omega, by go_num, rfl, H2⟩
          case measure => simp [intOf]; omega
      · rw [hx0] at H2
        go_wp2
        go_ret
        exact ⟨by rw [← H2.out]; rfl, Below.refl _ _⟩
    · have H2 : Hid (outI 2 b = r) := by
        show _ = _
        rw [← H.out, List.drop_eq_nil_of_le (by omega)]
        cases b <;> rfl
      clear H
      go_wp2
      go_ret
      exact ⟨by rw [← H2.out]; rfl, Below.refl _ _⟩
end Go.Proofs.YtfijpdmkdoccjaaGreatDoor
