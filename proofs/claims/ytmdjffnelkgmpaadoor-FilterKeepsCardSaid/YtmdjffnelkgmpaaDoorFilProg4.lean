/- The program's package filter, walked: Same, Less; And, Or. -/
import Derived.Test.YtmdjffnelkgmpaaDoorFilProg3
import Derived.Laws.EntriesVeiled
namespace Go.Proofs.YtmdjffnelkgmpaaDoor
open Go Go.RowKit Fm

set_option maxHeartbeats 1000000 in
theorem filSame (k1 k2 : Int) (x1 l1 y1 x2 l2 y2 : ByteArray) (w : World) (hs1 : x1.size ≤ 281474976710656) (hs2 : x2.size ≤ 281474976710656) :
    Calls Tryd.prog 24 #[.agg #[.int .i64 k1, .string x1, .string l1, .string y1], .agg #[.int .i64 k2, .string x2, .string l2, .string y2]] w fun e w' =>
      e = .returned (.int .i64 (sameI ⟨k1, x1, l1, y1⟩ ⟨k2, x2, l2, y2⟩)) ∧ Below w.heap.size w w' := by
  have hO := fun W => filOrder k1 k2 x1 l1 y1 x2 l2 y2 W hs1 hs2
  unfold sameI
  clear hs1 hs2
  generalize ordN ⟨k1, x1, l1, y1⟩ ⟨k2, x2, l2, y2⟩ = n at *
  generalize ordB ⟨k1, x1, l1, y1⟩ ⟨k2, x2, l2, y2⟩ = q at *
  obtain ⟨v, hv⟩ : ∃ v, (if sameTm ⟨k1, x1, l1, y1⟩ ⟨k2, x2, l2, y2⟩ then (1 : Int) else if !litB ⟨k1, x1, l1, y1⟩ || !litB ⟨k2, x2, l2, y2⟩ then 2 else 3) = v := ⟨_, rfl⟩
  rw [hv]
  have Hv := Lib.hid hv
  clear hv
  go_enter Tryd.func24, Tryd.ntmps24
  go_wp2_with fail
  refine (hO _).mono ?_
  rintro e w1 ⟨rfl, hb1⟩
  obtain ⟨hc1, hf1⟩ := bcell hb1
  cases q
  · go_wp2_with (go_at_call 52; refine (filLiteral _ _ _ _ _).mono ?_; rintro e w2 ⟨rfl, hb2⟩; have hb3 := below_tr hb1 hb2; clear hb1 hb2; have hb1 := hb3; clear hb3; obtain ⟨hc2, hf2⟩ := bcell hb1)
    all_goals
      go_ret
      refine ⟨?_, (by repeat (first | exact Below.refl _ _ | assumption | exact (Below.refl _ _).alloc (Nat.le_refl _) _ | refine below_tr ?_ (by assumption) | refine below_alloc ?_ | refine below_tr ?_ (below_regrown _ _ _)))⟩
      rw [← Hv.out]
      simp_all [sameTm, litB] <;> (try split) <;> omega
  · go_wp2_with fail
    refine (filTold _ _).mono ?_
    rintro e w2 ⟨rfl, rfl⟩
    go_wp2
    go_ret
    exact ⟨by simp, (by repeat (first | exact Below.refl _ _ | assumption | exact (Below.refl _ _).alloc (Nat.le_refl _) _ | refine below_tr ?_ (by assumption) | refine below_alloc ?_ | refine below_tr ?_ (below_regrown _ _ _)))⟩
set_option maxHeartbeats 1000000 in
theorem filLess (k1 k2 : Int) (x1 l1 y1 x2 l2 y2 : ByteArray) (w : World) (hs1 : x1.size ≤ 281474976710656) (hs2 : x2.size ≤ 281474976710656) :
    Calls Tryd.prog 28 #[.agg #[.int .i64 k1, .string x1, .string l1, .string y1], .agg #[.int .i64 k2, .string x2, .string l2, .string y2]] w fun e w' =>
      e = .returned (.int .i64 (lessI ⟨k1, x1, l1, y1⟩ ⟨k2, x2, l2, y2⟩)) ∧ Below w.heap.size w w' := by
  have hO := fun W => filOrder k1 k2 x1 l1 y1 x2 l2 y2 W hs1 hs2
  unfold lessI
  clear hs1 hs2
  generalize ordN ⟨k1, x1, l1, y1⟩ ⟨k2, x2, l2, y2⟩ = n at *
  generalize ordB ⟨k1, x1, l1, y1⟩ ⟨k2, x2, l2, y2⟩ = q at *
  go_enter Tryd.func28, Tryd.ntmps28
  go_wp2_with fail
  refine (hO _).mono ?_
  rintro e w1 ⟨rfl, hb1⟩
  cases q
  · go_wp2
    go_ret
    exact ⟨by simp, (by repeat (first | exact Below.refl _ _ | assumption | exact (Below.refl _ _).alloc (Nat.le_refl _) _ | refine below_tr ?_ (by assumption) | refine below_alloc ?_ | refine below_tr ?_ (below_regrown _ _ _)))⟩
  · go_wp2_with fail
    refine (filTold _ _).mono ?_
    rintro e w2 ⟨rfl, rfl⟩
    go_wp2
    go_ret
    exact ⟨by simp, (by repeat (first | exact Below.refl _ _ | assumption | exact (Below.refl _ _).alloc (Nat.le_refl _) _ | refine below_tr ?_ (by assumption) | refine below_alloc ?_ | refine below_tr ?_ (below_regrown _ _ _)))⟩

theorem filEither1 (t s : Int) (p : Addr) (w : World) (hp : w.cell? p = some (.int .i64 s)) :
    Calls Tryd.prog 107 #[.int .i64 t, .pointer (some p)] w fun e w' => e = .returned (.bool (t == notI s)) ∧ w = w' := by
  have hn := fun W => filNot s W
  generalize notI s = n at *
  go_enter Tryd.func107, Tryd.ntmps107
  go_wp2_with (go_at_call 14; refine (hn _).mono ?_; rintro e w1 ⟨rfl, rfl⟩)
  go_ret
  exact ⟨rfl, rfl⟩
theorem filEither2 (t s : Int) (p q : Addr) (w : World) (hp : w.cell? p = some (.int .i64 s)) (hq : w.cell? q = some (.func (.func 107) #[] #[.pointer (some p)])) :
    Calls Tryd.prog 110 #[.int .i64 t, .pointer (some q)] w fun e w' => e = .returned (.bool (!(t == notI s))) ∧ w = w' := by
  have hn := fun W h => filEither1 t s p W h
  generalize (t == notI s) = n at *
  go_enter Tryd.func110, Tryd.ntmps110
  go_wp2_with (go_at_call 107; refine (hn _ ?_).mono ?_; exact hp; rintro e w1 ⟨rfl, rfl⟩)
  go_ret
  exact ⟨rfl, rfl⟩
set_option maxHeartbeats 1000000 in
theorem idxTruth (l : List Int) (x : Int) (A : Option Addr) (c : Nat) (w : World) (hl : l.length ≤ 281474976710656) (hr : Rd w A (l.map (Value.int .i64))) :
    Calls Tryd.prog 119 #[.slice A l.length c, .int .i64 x] w fun e w' => ∃ i : Int, e = .returned (.int .i64 i) ∧ IdxIs i (hasI l x) ∧ w = w' := by
  go_enter Tryd.func119, Tryd.ntmps119
  go_wp2
  go_loop [8] (fun i => ∃ k : Nat, k ≤ l.length ∧ i = .int .i64 k ∧ Hid (hasI l x = hasI (l.drop k) x)) (fun i => l.length - (intOf i).toNat)
  case atStart => exact ⟨0, by omega, rfl, rfl⟩
  case round =>
    obtain ⟨k, hk, rfl, H⟩ := hrel
    by_cases hlt : k < l.length
    · obtain ⟨y, hx⟩ : ∃ x, l[k]? = some x := ⟨_, List.getElem?_eq_getElem hlt⟩
      obtain ⟨g, o, rfl, hcx⟩ := hr.at_ (j := k) (u := .int .i64 y) (by simp [hx])
      have hd : l.drop k = y :: l.drop (k + 1) := by
        rw [List.drop_eq_getElem_cons hlt]
        rw [List.getElem?_eq_getElem hlt] at hx
        injection hx with hx; rw [hx]
      have H2 : Hid (hasI l x = ((x == y) || hasI (l.drop (k+1)) x)) := by
        show hasI l x = _
        rw [H.out, hd, hasI, List.contains_cons]; rfl
      clear hx hd H hr
      cases hx0 : (x == y)
      · rw [hx0] at H2
        go_wp2
        go_round
        case rel => exact ⟨k+1, by omega, by go_num, by show _ = _; rw [H2.out]; rfl⟩
        case measure => simp [intOf]; omega
      · rw [hx0] at H2
        go_wp2
        go_ret
        exact ⟨k, rfl, by show decide _ = _; rw [H2.out]; simp, rfl⟩
    · have H2 : Hid (hasI l x = false) := by
        show hasI l x = _
        rw [H.out, List.drop_eq_nil_of_le (by omega)]; rfl
      clear H
      go_wp2
      go_ret
      exact ⟨-1, rfl, by show decide _ = _; rw [H2.out]; rfl, rfl⟩
theorem hasTruth (l : List Int) (x : Int) (A : Option Addr) (c : Nat) (w : World) (hl : l.length ≤ 281474976710656) (hr : Rd w A (l.map (Value.int .i64))) :
    Calls Tryd.prog 108 #[.slice A l.length c, .int .i64 x] w fun e w' => e = .returned (.bool (hasI l x)) ∧ w = w' := by
  have hi := fun W h => idxTruth l x A c W hl h
  go_enter Tryd.func108, Tryd.ntmps108
  go_wp2_with (go_at_call 119; refine (hi _ ?_).mono ?_; exact hr; rintro e w1 ⟨i, rfl, hd, rfl⟩; have Hd := Lib.hid hd; clear hd)
  go_ret
  exact ⟨by have := Hd.out; unfold IdxIs at this; rw [← this]; rfl, rfl⟩
set_option maxHeartbeats 1000000 in
theorem idxOdd (l : List Int) (s : Int) (p q : Addr) (A : Option Addr) (c : Nat) (w : World) (hl : l.length ≤ 281474976710656) (hr : Rd w A (l.map (Value.int .i64)))
    (hp : w.cell? p = some (.int .i64 s)) (hq : w.cell? q = some (.func (.func 107) #[] #[.pointer (some p)])) :
    Calls Tryd.prog 120 #[.slice A l.length c, .func (.func 110) #[] #[.pointer (some q)]] w fun e w' => ∃ i : Int, e = .returned (.int .i64 i) ∧ IdxIs i (oddI l s) ∧ w = w' := by
  go_enter Tryd.func120, Tryd.ntmps120
  go_wp2
  go_loop [8] (fun i => ∃ k : Nat, k ≤ l.length ∧ i = .int .i64 k ∧ Hid (oddI l s = oddI (l.drop k) s)) (fun i => l.length - (intOf i).toNat)
  case atStart => exact ⟨0, by omega, rfl, rfl⟩
  case round =>
    obtain ⟨k, hk, rfl, H⟩ := hrel
    by_cases hlt : k < l.length
    · obtain ⟨y, hx⟩ : ∃ x, l[k]? = some x := ⟨_, List.getElem?_eq_getElem hlt⟩
      obtain ⟨g, o, rfl, hcx⟩ := hr.at_ (j := k) (u := .int .i64 y) (by simp [hx])
      have hd : l.drop k = y :: l.drop (k + 1) := by
        rw [List.drop_eq_getElem_cons hlt]
        rw [List.getElem?_eq_getElem hlt] at hx
        injection hx with hx; rw [hx]
      have hc := fun W h1 h2 => filEither2 y s p q W h1 h2
      have H2 : Hid (oddI l s = (!(y == notI s) || oddI (l.drop (k+1)) s)) := by
        show _ = _
        rw [H.out, hd, oddI, List.any_cons]; rfl
      clear hx hd H hr
      generalize hn : (!(y == notI s)) = n at *
      clear hn
      cases n
      · go_wp2_with (go_at_call 110; refine (hc _ ?_ ?_).mono ?_; exact hp; exact hq; rintro e w1 ⟨rfl, rfl⟩)
        go_round
        case rel => exact ⟨k+1, by omega, by go_num, by show _ = _; rw [H2.out]; rfl⟩
        case measure => simp [intOf]; omega
      · go_wp2_with (go_at_call 110; refine (hc _ ?_ ?_).mono ?_; exact hp; exact hq; rintro e w1 ⟨rfl, rfl⟩)
        go_ret
        exact ⟨k, rfl, by show decide _ = _; rw [H2.out]; simp, rfl⟩
    · have H2 : Hid (oddI l s = false) := by
        show _ = _
        rw [H.out, List.drop_eq_nil_of_le (by omega)]; rfl
      clear H
      go_wp2
      go_ret
      exact ⟨-1, rfl, by show decide _ = _; rw [H2.out]; rfl, rfl⟩
theorem hasOdd (l : List Int) (s : Int) (p q : Addr) (A : Option Addr) (c : Nat) (w : World) (hl : l.length ≤ 281474976710656) (hr : Rd w A (l.map (Value.int .i64)))
    (hp : w.cell? p = some (.int .i64 s)) (hq : w.cell? q = some (.func (.func 107) #[] #[.pointer (some p)])) :
    Calls Tryd.prog 109 #[.slice A l.length c, .func (.func 110) #[] #[.pointer (some q)]] w fun e w' => e = .returned (.bool (oddI l s)) ∧ w = w' := by
  have hi := fun W h h1 h2 => idxOdd l s p q A c W hl h h1 h2
  go_enter Tryd.func109, Tryd.ntmps109
  go_wp2_with (go_at_call 120; refine (hi _ ?_ ?_ ?_).mono ?_; exact hr; exact hp; exact hq; rintro e w1 ⟨i, rfl, hd, rfl⟩; have Hd := Lib.hid hd; clear hd)
  go_ret
  exact ⟨by have := Hd.out; unfold IdxIs at this; rw [← this]; rfl, rfl⟩
set_option maxHeartbeats 1000000 in
theorem filEither (l : List Int) (s : Int) (A : Option Addr) (c : Nat) (w : World) (hl : l.length ≤ 281474976710656) (hr : Rd w A (l.map (Value.int .i64))) :
    Calls Tryd.prog 97 #[.int .i64 s, .slice A l.length c] w fun e w' => e = .returned (.int .i64 (eitherI s l)) ∧ Below w.heap.size w w' := by
  have h1 := fun W h => hasTruth l s A c W hl h
  have h2 := fun p q W h a b => hasOdd l s p q A c W hl h a b
  have h3 := fun W => filNot s W
  unfold eitherI
  generalize hasI l s = b1 at *
  generalize oddI l s = b2 at *
  generalize notI s = n at *
  go_enter Tryd.func97, Tryd.ntmps97
  go_wp2_with fail
  have hB : Below w.heap.size w ((w.alloc (.cells #[.int .i64 s] 45)).alloc (.cells #[.func (.func 107) #[] #[.pointer (some ⟨w.heap.size, 0, none⟩)]] 143)) := ((Below.refl _ _).alloc (Nat.le_refl _) _).alloc (by simp) _
  have hr2 := hr.later hB
  refine (h1 _ hr2).mono ?_
  rintro e w1 ⟨rfl, rfl⟩
  cases b1
  · go_wp2_with fail
    refine (h2 ⟨w.heap.size, 0, none⟩ ⟨w.heap.size + 1, 0, none⟩ _ hr2 (by rw [World.cell?, heap_two_1]; rfl) (by rw [World.cell?, heap_two_2]; rfl)).mono ?_
    rintro e w2 ⟨rfl, rfl⟩
    cases b2
    · go_wp2_with fail
      refine (h3 _).mono ?_
      rintro e w3 ⟨rfl, rfl⟩
      go_wp2
      go_ret
      exact ⟨by simp, hB⟩
    · go_wp2
      go_ret
      exact ⟨by simp, hB⟩
  · go_wp2
    go_ret
    exact ⟨by simp, hB⟩
theorem filAnd (l : List Int) (A : Option Addr) (c : Nat) (w : World) (hl : l.length ≤ 281474976710656) (hr : Rd w A (l.map (Value.int .i64))) :
    Calls Tryd.prog 82 #[.slice A l.length c] w fun e w' => e = .returned (.int .i64 (andI l)) ∧ Below w.heap.size w w' := by
  have h1 := filEither l 2 A c w hl hr
  rw [show eitherI 2 l = andI l from rfl] at h1
  go_enter Tryd.func82, Tryd.ntmps82
  go_wp2_with (refine h1.mono ?_; rintro e w1 ⟨rfl, hb⟩)
  go_ret
  exact ⟨rfl, hb⟩
theorem filOr (l : List Int) (A : Option Addr) (c : Nat) (w : World) (hl : l.length ≤ 281474976710656) (hr : Rd w A (l.map (Value.int .i64))) :
    Calls Tryd.prog 83 #[.slice A l.length c] w fun e w' => e = .returned (.int .i64 (orI l)) ∧ Below w.heap.size w w' := by
  have h1 := filEither l 1 A c w hl hr
  rw [show eitherI 1 l = orI l from rfl] at h1
  go_enter Tryd.func83, Tryd.ntmps83
  go_wp2_with (refine h1.mono ?_; rintro e w1 ⟨rfl, hb⟩)
  go_ret
  exact ⟨rfl, hb⟩
end Go.Proofs.YtmdjffnelkgmpaaDoor
