/- The library's slices.Index, Contains over texts. The program's package filter, walked: a kid's term. The program's package filter, walked: Alone. The kit's SameInts (as in XKitInts). -/
import Derived.Test.YtfijpdmkdoccjaaGreatDoorJClose2b
import Derived.Lib.SlicesS
import Derived.Test.YtfijpdmkdoccjaaGreatDoorJTms
import Derived.Test.YtfijpdmkdoccjaaGreatDoorJFilRef
namespace Go.Proofs.YtfijpdmkdoccjaaGreatDoor
open Go Go.RowKit

theorem beq_str (x y : ByteArray) : (x.toList == y.toList) = decide (y = x) := by
  by_cases h : y = x
  · subst h; simp
  · simp only [h, decide_false]; rw [Lib.bytes_beq_false_iff]; exact fun e => h e.symm
theorem idxTxt (l : List ByteArray) (x : ByteArray) (A : Option Addr) (c : Nat) (w : World) (hl : l.length ≤ 281474976710656) (hr : Rd w A (l.map Value.string)) :
    Calls Tryz.prog 105 #[.slice A l.length c, .string x] w fun e w' => e = .returned (.int .i64 (Lib.idxOfS l x)) ∧ w = w' := by
  go_enter Tryz.func105, Tryz.ntmps105
  go_wp2
  go_loop [8] (fun i => ∃ k : Nat, k ≤ l.length ∧ i = .int .i64 k ∧ Hid (Lib.idxOfS l x = Lib.idxFromS (l.drop k) x k)) (fun i => l.length - (intOf i).toNat)
  case atStart => exact ⟨0, by omega, rfl, rfl⟩
  case round =>
    obtain ⟨k, hk, rfl, H⟩ := hrel
    by_cases hlt : k < l.length
    · obtain ⟨y, hx⟩ : ∃ x, l[k]? = some x := ⟨_, List.getElem?_eq_getElem hlt⟩
      obtain ⟨g, o, rfl, hcx⟩ := hr.at_ (j := k) (u := .string y) (by simp [hx])
      have hd : l.drop k = y :: l.drop (k + 1) := by
        rw [List.drop_eq_getElem_cons hlt]
        rw [List.getElem?_eq_getElem hlt] at hx
        injection hx with hx; rw [hx]
      have H2 : Hid (Lib.idxOfS l x = if (x.toList == y.toList) then (k : Int) else Lib.idxFromS (l.drop (k+1)) x (k+1)) := by
        show Lib.idxOfS l x = _
        rw [H.out, hd, Lib.idxFromS, beq_str]; simp
      clear hx hd H hr
      cases hx0 : (x.toList == y.toList)
      · rw [hx0] at H2
        go_wp2
        go_round
        case rel => exact ⟨k+1, by omega, by go_num, H2⟩
        case measure => simp [intOf]; omega
      · rw [hx0] at H2
        go_wp2
        go_ret
        exact ⟨by rw [H2.out]; rfl, rfl⟩
    · have H2 : Hid (Lib.idxOfS l x = -1) := by
        show Lib.idxOfS l x = _
        rw [H.out, List.drop_eq_nil_of_le (by omega)]; rfl
      clear H
      go_wp2
      go_ret
      exact ⟨by rw [H2.out]; rfl, rfl⟩
end Go.Proofs.YtfijpdmkdoccjaaGreatDoor
namespace Go.Proofs.YtfijpdmkdoccjaaGreatDoor
open Go Go.RowKit Fm

theorem ret_none {o : Option Tm} (h : o = none) : optV o = .tuple #[.agg #[.int .i64 0, .string ⟨#[]⟩, .string ⟨#[]⟩, .string ⟨#[]⟩], .bool false] := by subst h; rfl
set_option maxRecDepth 10000 in
set_option maxHeartbeats 1000000 in
theorem filRowOf (vars : List ByteArray) (row : List Tm) (A1 A2 A : Option Addr) (c1 c2 m c : Nat) (k : Int) (s : ByteArray) (t : Tm) (w : World) (hv : vars.length ≤ 281474976710656) (hrl : row.length ≤ 281474976710656) (hm : m ≤ 281474976710656)
    (hr1 : Rd w A1 (vars.map Value.string)) (hr2 : RdTs w A2 row) :
    Calls Tryz.prog 101 #[.agg #[.slice A1 vars.length c1, .slice A2 row.length c2], .agg #[.int .i64 k, .string s, .int .i64 t.k, .string t.x, .string t.l, .string t.y, .slice A m c]] w
      fun e w' => e = .returned (optV (termP vars row k s t (m == 0))) ∧ Below w.heap.size w w' := by
  have hI := fun W h => idxTxt vars s A1 c1 W hv h
  have hi := idxOfS_lt vars s
  unfold termP
  generalize Lib.idxOfS vars s = i at *
  obtain ⟨v, hvv⟩ : ∃ v, optV (if (m == 0) = true then (if (k == 2) = true then some t else if (k == 1) = true then (if i < 0 then none else row[i.toNat]?) else none) else none) = v := ⟨_, rfl⟩
  rw [hvv]
  have HV := Lib.hid hvv
  clear hvv
  have hv' : (vars.length : Int) ≤ 281474976710656 := by omega
  have hrl' : (row.length : Int) ≤ 281474976710656 := by omega
  have hm' : (m : Int) ≤ 281474976710656 := by omega
  go_enter Tryz.func101, Tryz.ntmps101
  go_wp2_with fail
  refine (hI _ (hr1.later (by repeat (first | exact Below.refl _ _ | assumption | exact (Below.refl _ _).alloc (Nat.le_refl _) _ | refine below_tr ?_ (by assumption) | refine below_alloc ?_ | refine below_tr ?_ (below_regrown _ _ _))))).mono ?_
  rintro e w1 ⟨rfl, rfl⟩
  by_cases hm0 : 0 < (m : Int)
  · have hb : (m == 0) = false := by simp; omega
    have HB := Lib.hid hb
    clear hb hr1 hI
    go_wp2
    exact bodyPost_ret (v := Value.tuple #[.agg #[.int .i64 0, .string ⟨#[]⟩, .string ⟨#[]⟩, .string ⟨#[]⟩], .bool false]) (by simp [results, Tryz.results101, go_sem]) rfl ⟨by rw [← HV.out, HB.out]; rfl, (by repeat (first | exact Below.refl _ _ | assumption | exact (Below.refl _ _).alloc (Nat.le_refl _) _ | refine below_tr ?_ (by assumption) | refine below_alloc ?_ | refine below_tr ?_ (below_regrown _ _ _)))⟩
  · have hb : (m == 0) = true := by simp; omega
    have HB := Lib.hid hb
    clear hb hI
    by_cases h2 : k = 2
    · subst h2
      go_wp2
      exact bodyPost_ret (v := Value.tuple #[.agg #[.int .i64 t.k, .string t.x, .string t.l, .string t.y], .bool true]) (by simp [results, Tryz.results101, go_sem]) rfl ⟨by rw [← HV.out, HB.out]; rfl, (by repeat (first | exact Below.refl _ _ | assumption | exact (Below.refl _ _).alloc (Nat.le_refl _) _ | refine below_tr ?_ (by assumption) | refine below_alloc ?_ | refine below_tr ?_ (below_regrown _ _ _)))⟩
    · have h2' : (k == 2) = false := by simpa using h2
      by_cases h1 : k = 1
      · subst h1
        by_cases h0 : 0 ≤ i
        · by_cases hlt : i < (row.length : Int)
          · obtain ⟨n, rfl⟩ : ∃ n : Nat, i = n := ⟨i.toNat, by omega⟩
            obtain ⟨u, hu⟩ : ∃ u, row[n]? = some u := ⟨_, List.getElem?_eq_getElem (by omega)⟩
            obtain ⟨g, o, rfl, d0, d1, d2, d3⟩ := (RdTs.later hr2 (w' := ((w.alloc (.cells #[.slice A1 vars.length c1, .slice A2 row.length c2] 100)).alloc (.cells #[.int .i64 1, .string s, .int .i64 t.k, .string t.x, .string t.l, .string t.y, .slice A m c] 31)).alloc (.cells #[.int .i64 0, .string ⟨#[]⟩, .string ⟨#[]⟩, .string ⟨#[]⟩] 28)) (by repeat (first | exact Below.refl _ _ | assumption | exact (Below.refl _ _).alloc (Nat.le_refl _) _ | refine below_tr ?_ (by assumption) | refine below_alloc ?_ | refine below_tr ?_ (below_regrown _ _ _)))).at4 hu
            clear hr1 hr2
            have Hu := Lib.hid hu
            have hn0 : ¬ ((n : Int) < 0) := by omega
            clear hu
            go_wp2
            exact bodyPost_ret (v := Value.tuple #[.agg #[.int .i64 u.k, .string u.x, .string u.l, .string u.y], .bool true]) (by simp [results, Tryz.results101, go_sem]) rfl ⟨by rw [← HV.out, HB.out]; simp [optV, tmV, Hu.out]; rw [if_neg (by omega)]; exact ⟨rfl, rfl, rfl, rfl⟩, (by repeat (first | exact Below.refl _ _ | assumption | exact (Below.refl _ _).alloc (Nat.le_refl _) _ | refine below_tr ?_ (by assumption) | refine below_alloc ?_ | refine below_tr ?_ (below_regrown _ _ _)))⟩
          · go_wp2
            exact bodyPost_ret (v := Value.tuple #[.agg #[.int .i64 0, .string ⟨#[]⟩, .string ⟨#[]⟩, .string ⟨#[]⟩], .bool false]) (by simp [results, Tryz.results101, go_sem]) rfl ⟨by rw [← HV.out, HB.out, ret_none (by simp; omega)], (by repeat (first | exact Below.refl _ _ | assumption | exact (Below.refl _ _).alloc (Nat.le_refl _) _ | refine below_tr ?_ (by assumption) | refine below_alloc ?_ | refine below_tr ?_ (below_regrown _ _ _)))⟩
        · go_wp2
          exact bodyPost_ret (v := Value.tuple #[.agg #[.int .i64 0, .string ⟨#[]⟩, .string ⟨#[]⟩, .string ⟨#[]⟩], .bool false]) (by simp [results, Tryz.results101, go_sem]) rfl ⟨by rw [← HV.out, HB.out, ret_none (by simp; omega)], (by repeat (first | exact Below.refl _ _ | assumption | exact (Below.refl _ _).alloc (Nat.le_refl _) _ | refine below_tr ?_ (by assumption) | refine below_alloc ?_ | refine below_tr ?_ (below_regrown _ _ _)))⟩
      · have h1' : (k == 1) = false := by simpa using h1
        go_wp2
        exact bodyPost_ret (v := Value.tuple #[.agg #[.int .i64 0, .string ⟨#[]⟩, .string ⟨#[]⟩, .string ⟨#[]⟩], .bool false]) (by simp [results, Tryz.results101, go_sem]) rfl ⟨by rw [← HV.out, HB.out]; simp [optV, tmV, zTm, h2, h1], (by repeat (first | exact Below.refl _ _ | assumption | exact (Below.refl _ _).alloc (Nat.le_refl _) _ | refine below_tr ?_ (by assumption) | refine below_alloc ?_ | refine below_tr ?_ (below_regrown _ _ _)))⟩
end Go.Proofs.YtfijpdmkdoccjaaGreatDoor
namespace Go.Proofs.YtfijpdmkdoccjaaGreatDoor
open Go Go.RowKit Fm

set_option maxHeartbeats 2000000 in
theorem filAlone (k : Int) (x l y : ByteArray) (w : World) (hs : x.size ≤ 281474976710656) :
    Calls Tryz.prog 17 #[.agg #[.int .i64 k, .string x, .string l, .string y]] w fun e w' => e = .returned (.int .i64 (aloneI ⟨k, x, l, y⟩)) ∧ Below w.heap.size w w' := by
  have hN := fun W => filNumber k x l y W hs
  have hT := fun W => filSays k x l y W
  have ho := fun ty W => filTyped k x l y ty W
  obtain ⟨D, hD⟩ : ∃ D : ByteArray, (⟨(numD ⟨k, x, l, y⟩).toArray⟩ : ByteArray) = D := ⟨_, rfl⟩
  simp only [numV_eq, hD] at hN
  have hl : D.toList = numD ⟨k, x, l, y⟩ := by rw [← hD, toList_mk]
  have hv : aloneI ⟨k, x, l, y⟩ = if typedB ⟨k, x, l, y⟩ booleanS then toldI (boolB ⟨k, x, l, y⟩ && yesB ⟨k, x, l, y⟩) else if typedB ⟨k, x, l, y⟩ integerS then toldI (numI ⟨k, x, l, y⟩ && !(D.toList == [48])) else if k == 3 then toldI (!x.toList.isEmpty) else 3 := by
    unfold aloneI
    rw [← hl]
  rw [hv]
  have ho1 := ho booleanS
  have ho2 := ho integerS
  clear hv hl hD ho hs
  generalize typedB ⟨k, x, l, y⟩ booleanS = q1 at *
  generalize typedB ⟨k, x, l, y⟩ integerS = q2 at *
  generalize numI ⟨k, x, l, y⟩ = i at *
  generalize numM ⟨k, x, l, y⟩ = m at *
  generalize boolB ⟨k, x, l, y⟩ = b at *
  generalize yesB ⟨k, x, l, y⟩ = ye at *
  unfold booleanS at ho1
  unfold integerS at ho2
  go_enter Tryz.func17, Tryz.ntmps17
  go_wp2_with fail
  refine (ho1 _).mono ?_
  rintro e w2 ⟨rfl, hb2⟩
  obtain ⟨hc2, hf2⟩ := bcell hb2
  cases q1
  · go_wp2_with fail
    refine (ho2 _).mono ?_
    rintro e w3 ⟨rfl, hb⟩
    have hb3 := below_tr hb2 hb
    clear hb2 hb hc2 hf2
    obtain ⟨hc3, hf3⟩ := bcell hb3
    cases q2
    · by_cases hk : k = 3
      · have hk3 : (k == 3) = true := by simp [hk]
        clear hk
        go_wp2_with ((refine (filTold _ _).mono ?_); (rintro e w4 ⟨rfl, rfl⟩))
        go_ret
        exact ⟨by simp, (by repeat (first | exact Below.refl _ _ | assumption | exact (Below.refl _ _).alloc (Nat.le_refl _) _ | refine below_tr ?_ (by assumption) | refine below_alloc ?_ | refine below_tr ?_ (below_regrown _ _ _)))⟩
      · have hk3 : (k == 3) = false := by simp [hk]
        clear hk
        go_wp2_with ((refine (filTold _ _).mono ?_); (rintro e w4 ⟨rfl, rfl⟩))
        go_ret
        exact ⟨by simp, (by repeat (first | exact Below.refl _ _ | assumption | exact (Below.refl _ _).alloc (Nat.le_refl _) _ | refine below_tr ?_ (by assumption) | refine below_alloc ?_ | refine below_tr ?_ (below_regrown _ _ _)))⟩
    · go_wp2_with fail
      refine (hN _).mono ?_
      rintro e w4 ⟨rfl, hb⟩
      have hb4 := below_tr hb3 hb
      clear hb3 hb hc3 hf3
      cases i
      all_goals
        go_wp2_with ((refine (filTold _ _).mono ?_); (rintro e w4 ⟨rfl, rfl⟩))
        go_ret
        exact ⟨by simp, (by repeat (first | exact Below.refl _ _ | assumption | exact (Below.refl _ _).alloc (Nat.le_refl _) _ | refine below_tr ?_ (by assumption) | refine below_alloc ?_ | refine below_tr ?_ (below_regrown _ _ _)))⟩
  · go_wp2_with fail
    refine (hT _).mono ?_
    rintro e w3 ⟨rfl, hb⟩
    have hb3 := below_tr hb2 hb
    clear hb2 hb hc2 hf2
    cases b
    all_goals
      go_wp2_with ((refine (filTold _ _).mono ?_); (rintro e w4 ⟨rfl, rfl⟩))
      go_ret
      exact ⟨by simp, (by repeat (first | exact Below.refl _ _ | assumption | exact (Below.refl _ _).alloc (Nat.le_refl _) _ | refine below_tr ?_ (by assumption) | refine below_alloc ?_ | refine below_tr ?_ (below_regrown _ _ _)))⟩
end Go.Proofs.YtfijpdmkdoccjaaGreatDoor
namespace Go.Proofs.YtfijpdmkdoccjaaGreatDoor
open Go Go.RowKit
theorem Rd.of_belowI {w w' : World} {A : Option Addr} {xs : List Value} (h : Rd w A xs) (hb : Below w.heap.size w w') : Rd w' A xs := h.below hb (Nat.le_refl _)
theorem below_drewN {B : Nat} {a w : World} (h : Below B a w) (n : Nat) : Below B a (w.drewN n) := ⟨h.os, h.tape, h.output, h.size, h.block⟩
theorem intInfo0 : (Tryz.prog.info? 3).map (fun i => (i.zero, i.size, i.bytes)) = some (some (.int .i64 0), 1, 8) := by kernel_rfl

def sameL (a b : List Int) (k : Nat) : Prop := ∀ j, j < k → a[j]? = b[j]?

end Go.Proofs.YtfijpdmkdoccjaaGreatDoor
