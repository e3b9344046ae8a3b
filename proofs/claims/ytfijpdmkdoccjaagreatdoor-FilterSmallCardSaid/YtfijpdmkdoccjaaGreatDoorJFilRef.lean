/- The program's package filter, walked: Same, Less; And, Or. The document's layer 25, walked: terms, numbers. -/
import Derived.Test.YtfijpdmkdoccjaaGreatDoorJFilProg3
import Derived.Laws.EntriesVeiled
namespace Go.Proofs.YtfijpdmkdoccjaaGreatDoor
open Go Go.RowKit Fm

set_option maxHeartbeats 1000000 in
theorem filSame (k1 k2 : Int) (x1 l1 y1 x2 l2 y2 : ByteArray) (w : World) (hs1 : x1.size ≤ 281474976710656) (hs2 : x2.size ≤ 281474976710656) :
    Calls Tryz.prog 19 #[.agg #[.int .i64 k1, .string x1, .string l1, .string y1], .agg #[.int .i64 k2, .string x2, .string l2, .string y2]] w fun e w' =>
      e = .returned (.int .i64 (sameI ⟨k1, x1, l1, y1⟩ ⟨k2, x2, l2, y2⟩)) ∧ Below w.heap.size w w' := by
  have hO := fun W => filOrder k1 k2 x1 l1 y1 x2 l2 y2 W hs1 hs2
  unfold sameI
  clear hs1 hs2
  generalize ordN ⟨k1, x1, l1, y1⟩ ⟨k2, x2, l2, y2⟩ = n at *
  generalize ordB ⟨k1, x1, l1, y1⟩ ⟨k2, x2, l2, y2⟩ = q at *
  obtain ⟨v, hv⟩ : ∃ v, (if sameTm ⟨k1, x1, l1, y1⟩ ⟨k2, x2, l2, y2⟩ then (1 : Int) else if !litB ⟨k1, x1, l1, y1⟩ || !litB ⟨k2, x2, l2, y2⟩ then 2 else 3) = v := ⟨_, rfl⟩
  rw [hv]
  have Hv := Lib.hid hv
  clear hv
  go_enter Tryz.func19, Tryz.ntmps19
  go_wp2_with fail
  refine (hO _).mono ?_
  rintro e w1 ⟨rfl, hb1⟩
  obtain ⟨hc1, hf1⟩ := bcell hb1
  cases q
  · go_wp2_with (go_at_call 48; refine (filLiteral _ _ _ _ _).mono ?_; rintro e w2 ⟨rfl, hb2⟩; have hb3 := below_tr hb1 hb2; clear hb1 hb2; have hb1 := hb3; clear hb3; obtain ⟨hc2, hf2⟩ := bcell hb1)
    all_goals
      go_ret
      refine ⟨?_, (by repeat (first | exact Below.refl _ _ | assumption | exact (Below.refl _ _).alloc (Nat.le_refl _) _ | refine below_tr ?_ (by assumption) | refine below_alloc ?_ | refine below_tr ?_ (below_regrown _ _ _)))⟩
      rw [← Hv.out]
      simp_all [sameTm, litB] <;> (try split) <;> omega
  · go_wp2_with fail
    refine (filTold _ _).mono ?_
    rintro e w2 ⟨rfl, rfl⟩
    go_wp2
    go_ret
    exact ⟨by simp, (by repeat (first | exact Below.refl _ _ | assumption | exact (Below.refl _ _).alloc (Nat.le_refl _) _ | refine below_tr ?_ (by assumption) | refine below_alloc ?_ | refine below_tr ?_ (below_regrown _ _ _)))⟩
set_option maxHeartbeats 1000000 in
theorem filLess (k1 k2 : Int) (x1 l1 y1 x2 l2 y2 : ByteArray) (w : World) (hs1 : x1.size ≤ 281474976710656) (hs2 : x2.size ≤ 281474976710656) :
    Calls Tryz.prog 21 #[.agg #[.int .i64 k1, .string x1, .string l1, .string y1], .agg #[.int .i64 k2, .string x2, .string l2, .string y2]] w fun e w' =>
      e = .returned (.int .i64 (lessI ⟨k1, x1, l1, y1⟩ ⟨k2, x2, l2, y2⟩)) ∧ Below w.heap.size w w' := by
  have hO := fun W => filOrder k1 k2 x1 l1 y1 x2 l2 y2 W hs1 hs2
  unfold lessI
  clear hs1 hs2
  generalize ordN ⟨k1, x1, l1, y1⟩ ⟨k2, x2, l2, y2⟩ = n at *
  generalize ordB ⟨k1, x1, l1, y1⟩ ⟨k2, x2, l2, y2⟩ = q at *
  go_enter Tryz.func21, Tryz.ntmps21
  go_wp2_with fail
  refine (hO _).mono ?_
  rintro e w1 ⟨rfl, hb1⟩
  cases q
  · go_wp2
    go_ret
    exact ⟨by simp, (by repeat (first | exact Below.refl _ _ | assumption | exact (Below.refl _ _).alloc (Nat.le_refl _) _ | refine below_tr ?_ (by assumption) | refine below_alloc ?_ | refine below_tr ?_ (below_regrown _ _ _)))⟩
  · go_wp2_with fail
    refine (filTold _ _).mono ?_
    rintro e w2 ⟨rfl, rfl⟩
    go_wp2
    go_ret
    exact ⟨by simp, (by repeat (first | exact Below.refl _ _ | assumption | exact (Below.refl _ _).alloc (Nat.le_refl _) _ | refine below_tr ?_ (by assumption) | refine below_alloc ?_ | refine below_tr ?_ (below_regrown _ _ _)))⟩

theorem filEither1 (t s : Int) (p : Addr) (w : World) (hp : w.cell? p = some (.int .i64 s)) :
    Calls Tryz.prog 79 #[.int .i64 t, .pointer (some p)] w fun e w' => e = .returned (.bool (t == notI s)) ∧ w = w' := by
  have hn := fun W => filNot s W
  generalize notI s = n at *
  go_enter Tryz.func79, Tryz.ntmps79
  go_wp2_with (go_at_call 15; refine (hn _).mono ?_; rintro e w1 ⟨rfl, rfl⟩)
  go_ret
  exact ⟨rfl, rfl⟩
theorem filEither2 (t s : Int) (p q : Addr) (w : World) (hp : w.cell? p = some (.int .i64 s)) (hq : w.cell? q = some (.func (.func 79) #[] #[.pointer (some p)])) :
    Calls Tryz.prog 82 #[.int .i64 t, .pointer (some q)] w fun e w' => e = .returned (.bool (!(t == notI s))) ∧ w = w' := by
  have hn := fun W h => filEither1 t s p W h
  generalize (t == notI s) = n at *
  go_enter Tryz.func82, Tryz.ntmps82
  go_wp2_with (go_at_call 79; refine (hn _ ?_).mono ?_; exact hp; rintro e w1 ⟨rfl, rfl⟩)
  go_ret
  exact ⟨rfl, rfl⟩
set_option maxHeartbeats 1000000 in
theorem idxTruth (l : List Int) (x : Int) (A : Option Addr) (c : Nat) (w : World) (hl : l.length ≤ 281474976710656) (hr : Rd w A (l.map (Value.int .i64))) :
    Calls Tryz.prog 99 #[.slice A l.length c, .int .i64 x] w fun e w' => ∃ i : Int, e = .returned (.int .i64 i) ∧ IdxIs i (hasI l x) ∧ w = w' := by
  go_enter Tryz.func99, Tryz.ntmps99
  go_wp2
  go_loop [8] (fun i => ∃ k : Nat, k ≤ l.length ∧ i = .int .i64 k ∧ Hid (hasI l x = hasI (l.drop k) x)) (fun i => l.length - (intOf i).toNat)
  case atStart => exact ⟨0, by omega, rfl, rfl⟩
  case round =>
    obtain ⟨k, hk, rfl, H⟩ := hrel
    by_cases hlt : k < l.length
    · obtain ⟨y, hx⟩ : ∃ x, l[k]? = some x := ⟨_, List.getElem?_eq_getElem hlt⟩
      obtain ⟨g, o, rfl, hcx⟩ := hr.at_ (j := k) (u := .int .i64 y) (by simp [hx])
      have hd : l.drop k = y :: l.drop (k + 1) := by
        rw [List.drop_eq_getElem_cons hlt]
        rw [List.getElem?_eq_getElem hlt] at hx
        injection hx with hx; rw [hx]
      have H2 : Hid (hasI l x = ((x == y) || hasI (l.drop (k+1)) x)) := by
        show hasI l x = _
        rw [H.out, hd, hasI, List.contains_cons]; rfl
      clear hx hd H hr
      cases hx0 : (x == y)
      · rw [hx0] at H2
        go_wp2
        go_round
        case rel => exact ⟨k+1, by omega, by go_num, by show _ = _; rw [H2.out]; rfl⟩
        case measure => simp [intOf]; omega
      · rw [hx0] at H2
        go_wp2
        go_ret
        exact ⟨k, rfl, by show decide _ = _; rw [H2.out]; simp, rfl⟩
    · have H2 : Hid (hasI l x = false) := by
        show hasI l x = _
        rw [H.out, List.drop_eq_nil_of_le (by omega)]; rfl
      clear H
      go_wp2
      go_ret
      exact ⟨-1, rfl, by show decide _ = _; rw [H2.out]; rfl, rfl⟩
theorem hasTruth (l : List Int) (x : Int) (A : Option Addr) (c : Nat) (w : World) (hl : l.length ≤ 281474976710656) (hr : Rd w A (l.map (Value.int .i64))) :
    Calls Tryz.prog 80 #[.slice A l.length c, .int .i64 x] w fun e w' => e = .returned (.bool (hasI l x)) ∧ w = w' := by
  have hi := fun W h => idxTruth l x A c W hl h
  go_enter Tryz.func80, Tryz.ntmps80
  go_wp2_with (go_at_call 99; refine (hi _ ?_).mono ?_; exact hr; rintro e w1 ⟨i, rfl, hd, rfl⟩; have Hd := Lib.hid hd; clear hd)
  go_ret
  exact ⟨by have := Hd.out; unfold IdxIs at this; rw [← this]; rfl, rfl⟩
set_option maxHeartbeats 1000000 in
theorem idxOdd (l : List Int) (s : Int) (p q : Addr) (A : Option Addr) (c : Nat) (w : World) (hl : l.length ≤ 281474976710656) (hr : Rd w A (l.map (Value.int .i64)))
    (hp : w.cell? p = some (.int .i64 s)) (hq : w.cell? q = some (.func (.func 79) #[] #[.pointer (some p)])) :
    Calls Tryz.prog 100 #[.slice A l.length c, .func (.func 82) #[] #[.pointer (some q)]] w fun e w' => ∃ i : Int, e = .returned (.int .i64 i) ∧ IdxIs i (oddI l s) ∧ w = w' := by
  go_enter Tryz.func100, Tryz.ntmps100
  go_wp2
  go_loop [8] (fun i => ∃ k : Nat, k ≤ l.length ∧ i = .int .i64 k ∧ Hid (oddI l s = oddI (l.drop k) s)) (fun i => l.length - (intOf i).toNat)
  case atStart => exact ⟨0, by omega, rfl, rfl⟩
  case round =>
    obtain ⟨k, hk, rfl, H⟩ := hrel
    by_cases hlt : k < l.length
    · obtain ⟨y, hx⟩ : ∃ x, l[k]? = some x := ⟨_, List.getElem?_eq_getElem hlt⟩
      obtain ⟨g, o, rfl, hcx⟩ := hr.at_ (j := k) (u := .int .i64 y) (by simp [hx])
      have hd : l.drop k = y :: l.drop (k + 1) := by
        rw [List.drop_eq_getElem_cons hlt]
        rw [List.getElem?_eq_getElem hlt] at hx
        injection hx with hx; rw [hx]
      have hc := fun W h1 h2 => filEither2 y s p q W h1 h2
      have H2 : Hid (oddI l s = (!(y == notI s) || oddI (l.drop (k+1)) s)) := by
        show _ = _
        rw [H.out, hd, oddI, List.any_cons]; rfl
      clear hx hd H hr
      generalize hn : (!(y == notI s)) = n at *
      clear hn
      cases n
      · go_wp2_with (go_at_call 82; refine (hc _ ?_ ?_).mono ?_; exact hp; exact hq; rintro e w1 ⟨rfl, rfl⟩)
        go_round
        case rel => exact ⟨k+1, by omega, by go_num, by show _ = _; rw [H2.out]; rfl⟩
        case measure => simp [intOf]; omega
      · go_wp2_with (go_at_call 82; refine (hc _ ?_ ?_).mono ?_; exact hp; exact hq; rintro e w1 ⟨rfl, rfl⟩)
        go_ret
        exact ⟨k, rfl, by show decide _ = _; rw [H2.out]; simp, rfl⟩
    · have H2 : Hid (oddI l s = false) := by
        show _ = _
        rw [H.out, List.drop_eq_nil_of_le (by omega)]; rfl
      clear H
      go_wp2
      go_ret
      exact ⟨-1, rfl, by show decide _ = _; rw [H2.out]; rfl, rfl⟩
theorem hasOdd (l : List Int) (s : Int) (p q : Addr) (A : Option Addr) (c : Nat) (w : World) (hl : l.length ≤ 281474976710656) (hr : Rd w A (l.map (Value.int .i64)))
    (hp : w.cell? p = some (.int .i64 s)) (hq : w.cell? q = some (.func (.func 79) #[] #[.pointer (some p)])) :
    Calls Tryz.prog 81 #[.slice A l.length c, .func (.func 82) #[] #[.pointer (some q)]] w fun e w' => e = .returned (.bool (oddI l s)) ∧ w = w' := by
  have hi := fun W h h1 h2 => idxOdd l s p q A c W hl h h1 h2
  go_enter Tryz.func81, Tryz.ntmps81
  go_wp2_with (go_at_call 100; refine (hi _ ?_ ?_ ?_).mono ?_; exact hr; exact hp; exact hq; rintro e w1 ⟨i, rfl, hd, rfl⟩; have Hd := Lib.hid hd; clear hd)
  go_ret
  exact ⟨by have := Hd.out; unfold IdxIs at this; rw [← this]; rfl, rfl⟩
set_option maxHeartbeats 1000000 in
theorem filEither (l : List Int) (s : Int) (A : Option Addr) (c : Nat) (w : World) (hl : l.length ≤ 281474976710656) (hr : Rd w A (l.map (Value.int .i64))) :
    Calls Tryz.prog 52 #[.int .i64 s, .slice A l.length c] w fun e w' => e = .returned (.int .i64 (eitherI s l)) ∧ Below w.heap.size w w' := by
  have h1 := fun W h => hasTruth l s A c W hl h
  have h2 := fun p q W h a b => hasOdd l s p q A c W hl h a b
  have h3 := fun W => filNot s W
  unfold eitherI
  generalize hasI l s = b1 at *
  generalize oddI l s = b2 at *
  generalize notI s = n at *
  go_enter Tryz.func52, Tryz.ntmps52
  go_wp2_with fail
  have hB : Below w.heap.size w ((w.alloc (.cells #[.int .i64 s] 42)).alloc (.cells #[.func (.func 79) #[] #[.pointer (some ⟨w.heap.size, 0, none⟩)]] 94)) := ((Below.refl _ _).alloc (Nat.le_refl _) _).alloc (by simp) _
  have hr2 := hr.later hB
  refine (h1 _ hr2).mono ?_
  rintro e w1 ⟨rfl, rfl⟩
  cases b1
  · go_wp2_with fail
    refine (h2 ⟨w.heap.size, 0, none⟩ ⟨w.heap.size + 1, 0, none⟩ _ hr2 (by rw [World.cell?, heap_two_1]; rfl) (by rw [World.cell?, heap_two_2]; rfl)).mono ?_
    rintro e w2 ⟨rfl, rfl⟩
    cases b2
    · go_wp2_with fail
      refine (h3 _).mono ?_
      rintro e w3 ⟨rfl, rfl⟩
      go_wp2
      go_ret
      exact ⟨by simp, hB⟩
    · go_wp2
      go_ret
      exact ⟨by simp, hB⟩
  · go_wp2
    go_ret
    exact ⟨by simp, hB⟩
theorem filAnd (l : List Int) (A : Option Addr) (c : Nat) (w : World) (hl : l.length ≤ 281474976710656) (hr : Rd w A (l.map (Value.int .i64))) :
    Calls Tryz.prog 23 #[.slice A l.length c] w fun e w' => e = .returned (.int .i64 (andI l)) ∧ Below w.heap.size w w' := by
  have h1 := filEither l 2 A c w hl hr
  rw [show eitherI 2 l = andI l from rfl] at h1
  go_enter Tryz.func23, Tryz.ntmps23
  go_wp2_with (refine h1.mono ?_; rintro e w1 ⟨rfl, hb⟩)
  go_ret
  exact ⟨rfl, hb⟩
theorem filOr (l : List Int) (A : Option Addr) (c : Nat) (w : World) (hl : l.length ≤ 281474976710656) (hr : Rd w A (l.map (Value.int .i64))) :
    Calls Tryz.prog 25 #[.slice A l.length c] w fun e w' => e = .returned (.int .i64 (orI l)) ∧ Below w.heap.size w w' := by
  have h1 := filEither l 1 A c w hl hr
  rw [show eitherI 1 l = orI l from rfl] at h1
  go_enter Tryz.func25, Tryz.ntmps25
  go_wp2_with (refine h1.mono ?_; rintro e w1 ⟨rfl, hb⟩)
  go_ret
  exact ⟨rfl, hb⟩
end Go.Proofs.YtfijpdmkdoccjaaGreatDoor
namespace Go.Proofs.YtfijpdmkdoccjaaGreatDoor
open Go Go.RowKit Fm

theorem refTold (q : Bool) (w : World) :
    Calls Tryz.prog 45 #[.bool q] w fun e w' => e = .returned (.int .i64 (toldI q)) ∧ w = w' := by
  cases q <;> (go_enter Tryz.func45, Tryz.ntmps45; go_wp2; go_ret; exact ⟨rfl, rfl⟩)
theorem refNot (t : Int) (w : World) :
    Calls Tryz.prog 16 #[.int .i64 t] w fun e w' => e = .returned (.int .i64 (notI t)) ∧ w = w' := by
  go_enter Tryz.func16, Tryz.ntmps16
  go_wp2
  all_goals (go_ret; exact ⟨by simp_all [notI], rfl⟩)
theorem refOf (k : Int) (x l y ty : ByteArray) (w : World) :
    Calls Tryz.prog 42 #[.agg #[.int .i64 k, .string x, .string l, .string y], .string ty] w fun e w' => e = .returned (.bool (typedB ⟨k, x, l, y⟩ ty)) ∧ Below w.heap.size w w' := by
  go_enter Tryz.func42, Tryz.ntmps42
  go_wp2
  all_goals (go_ret; exact ⟨by simp_all [typedB], (by repeat (first | exact Below.refl _ _ | assumption | exact (Below.refl _ _).alloc (Nat.le_refl _) _ | refine below_tr ?_ (by assumption) | refine below_alloc ?_ | refine below_tr ?_ (below_regrown _ _ _)))⟩)
theorem refLiteral (k : Int) (x l y : ByteArray) (w : World) :
    Calls Tryz.prog 49 #[.agg #[.int .i64 k, .string x, .string l, .string y]] w fun e w' => e = .returned (.bool (litB ⟨k, x, l, y⟩)) ∧ Below w.heap.size w w' := by
  go_enter Tryz.func49, Tryz.ntmps49
  go_wp2
  all_goals (go_ret; exact ⟨by simp_all [litB], (by repeat (first | exact Below.refl _ _ | assumption | exact (Below.refl _ _).alloc (Nat.le_refl _) _ | refine below_tr ?_ (by assumption) | refine below_alloc ?_ | refine below_tr ?_ (below_regrown _ _ _)))⟩)
theorem refPlain (k : Int) (x l y : ByteArray) (w : World) :
    Calls Tryz.prog 50 #[.agg #[.int .i64 k, .string x, .string l, .string y]] w fun e w' => e = .returned (.bool (plainB ⟨k, x, l, y⟩)) ∧ Below w.heap.size w w' := by
  go_enter Tryz.func50, Tryz.ntmps50
  go_wp2
  all_goals (go_ret; exact ⟨by simp_all [plainB], (by repeat (first | exact Below.refl _ _ | assumption | exact (Below.refl _ _).alloc (Nat.le_refl _) _ | refine below_tr ?_ (by assumption) | refine below_alloc ?_ | refine below_tr ?_ (below_regrown _ _ _)))⟩)

/-! numbers -/
def stripT (l : List UInt8) : List UInt8 := if (l.dropWhile (· == 48)).isEmpty then [48] else l.dropWhile (· == 48)
theorem stripT_zero (l : List UInt8) : stripT (48 :: l) = stripT l := by
  unfold stripT
  rw [List.dropWhile_cons]
  simp
theorem stripT_stop (c : UInt8) (l : List UInt8) (h : c ≠ 48) : stripT (c :: l) = c :: l := by
  unfold stripT
  rw [List.dropWhile_cons]
  simp [h]
theorem stripT_one : stripT [48] = [48] := rfl
theorem numR_of (m : Bool) (r : List UInt8) (h : r.isEmpty = false) (h2 : r.all digs.contains = true) : numV (numR m r) = .tuple #[.bool (m && !(stripT r == [48])), .string ⟨(stripT r).toArray⟩, .bool true] := by
  unfold stripT
  cases hz : (r.dropWhile (· == 48)).isEmpty
  · rw [numR_yes h h2 hz]
    have hne : (r.dropWhile (· == 48) == [48]) = false := by
      rw [beq_eq_false_iff_ne]
      intro hc
      have := List.head?_dropWhile_not (· == 48) r
      rw [hc] at this
      simp at this
    simp [hne]
  · rw [numR_zero h h2 hz]
    simp
theorem bn_toList (s : ByteArray) (i : Nat) (h : i < s.size) : ∃ c : UInt8, s.toList[i]? = some c ∧ bn s i = c.toNat := by
  rw [ByteArray.toList_eq]
  have hl : i < s.data.toList.length := by rw [size_toList]; exact h
  exact ⟨s.data.toList[i], List.getElem?_eq_getElem hl, by rw [bn, List.getD_eq_getElem?_getD, List.getElem?_eq_getElem hl]; rfl⟩
theorem toList_cons (s : ByteArray) (h : 0 < s.size) : ∃ c : UInt8, s.toList = c :: (s.extract 1 s.size).toList ∧ bn s 0 = c.toNat := by
  obtain ⟨c, h1, h2⟩ := bn_toList s 0 h
  refine ⟨c, ?_, h2⟩
  rw [ByteArray.toList_eq] at *
  rw [ByteArray.toList_eq, extract_toList, List.take_of_length_le (by simp)]
  cases hs : s.data.toList with
  | nil => rw [hs] at h1; cases h1
  | cons a r => rw [hs] at h1; simp at h1; rw [h1]; rfl
theorem u8_ofNat (c : UInt8) (n : Nat) (h : c.toNat = n) (hn : n < 256) : c = n.toUInt8 := by
  apply UInt8.toNat_inj.1
  rw [h]; simp; omega
def vsz : Value → Nat
  | .string s => s.size
  | _ => 0
theorem isDig_iff (c : UInt8) : digs.contains c = (decide (48 ≤ c.toNat) && decide (c.toNat ≤ 57)) := by
  have h : ∀ n : Fin 256, digs.contains n.val.toUInt8 = (decide (48 ≤ n.val) && decide (n.val ≤ 57)) := by decide +kernel
  have := h ⟨c.toNat, c.toNat_lt⟩
  rwa [show (⟨c.toNat, c.toNat_lt⟩ : Fin 256).val.toUInt8 = c from by simp] at this

/-- Number's second half: what stands behind the sign. -/
def allD (s : ByteArray) (k : Nat) : Prop := ∀ j, j < k → 48 ≤ bn s j ∧ bn s j ≤ 57
theorem all_digs (s : ByteArray) (h : allD s s.size) : s.toList.all digs.contains = true := by
  rw [List.all_eq_true]
  intro c hc
  obtain ⟨i, hi, rfl⟩ := List.getElem_of_mem hc
  have hsz : s.toList.length = s.size := by rw [ByteArray.toList_eq]; exact size_toList s
  obtain ⟨c, h1, h2⟩ := bn_toList s i (by omega)
  have := h i (by omega)
  rw [List.getElem?_eq_getElem hi] at h1
  injection h1 with h1
  rw [h1, isDig_iff]
  simp; omega
theorem not_digs (s : ByteArray) (i : Nat) (hi : i < s.size) (h : bn s i < 48 ∨ 57 < bn s i) : s.toList.all digs.contains = false := by
  obtain ⟨c, h1, h2⟩ := bn_toList s i hi
  cases hb : s.toList.all digs.contains with
  | false => rfl
  | true =>
    have := List.all_eq_true.1 hb c (List.mem_of_getElem? h1)
    rw [isDig_iff] at this
    simp at this
    omega
theorem numL_minus (x : ByteArray) (h : 0 < x.size) (hb : bn x 0 = 45) : numL x.toList = numR true (x.extract 1 x.size).toList := by
  obtain ⟨c, h1, h2⟩ := toList_cons x h
  have : c = 45 := by have := u8_ofNat c 45 (by omega) (by omega); exact this
  rw [h1, this]; rfl
theorem numL_plus (x : ByteArray) (h : 0 < x.size) (hb : bn x 0 = 43) : numL x.toList = numR false (x.extract 1 x.size).toList := by
  obtain ⟨c, h1, h2⟩ := toList_cons x h
  have : c = 43 := by have := u8_ofNat c 43 (by omega) (by omega); exact this
  rw [h1, this]; rfl
theorem numL_bare (x : ByteArray) (h : 0 < x.size) (hb : bn x 0 ≠ 45) (hb2 : bn x 0 ≠ 43) : numL x.toList = numR false x.toList := by
  obtain ⟨c, h1, h2⟩ := toList_cons x h
  have n1 : c ≠ 45 := fun e => hb (by rw [h2, e]; rfl)
  have n2 : c ≠ 43 := fun e => hb2 (by rw [h2, e]; rfl)
  rw [h1]
  unfold numL
  split
  · rename_i e; injection e with e _; exact (n1 e).elim
  · rename_i e; injection e with e _; exact (n2 e).elim
  · rfl
theorem numL_none (x : ByteArray) (h : x.size = 0) : numV (numL x.toList) = .tuple #[.bool false, .string ⟨#[]⟩, .bool false] := by
  have : x.toList = [] := by
    have hsz : x.toList.length = x.size := by rw [ByteArray.toList_eq]; exact size_toList x
    exact List.eq_nil_of_length_eq_zero (by omega)
  rw [this]; rfl
end Go.Proofs.YtfijpdmkdoccjaaGreatDoor
