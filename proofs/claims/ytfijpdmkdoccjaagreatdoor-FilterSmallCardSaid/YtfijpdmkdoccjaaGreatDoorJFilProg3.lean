/- The program's package filter, walked: order, Same, Less. -/
import Derived.Test.YtfijpdmkdoccjaaGreatDoorJFilProg2
namespace Go.Proofs.YtfijpdmkdoccjaaGreatDoor
open Go Go.RowKit Fm

def orL (l : List Int) : Int := (l.find? (fun x => !(x == 0))).getD 0
set_option maxHeartbeats 1000000 in
theorem cmpOr (l : List Int) (A : Option Addr) (c : Nat) (w : World) (hl : l.length ≤ 1000) (hr : Rd w A (l.map (Value.int .i64))) :
    Calls Tryz.prog 74 #[.slice A l.length c] w fun e w' => e = .returned (.int .i64 (orL l)) ∧ Below w.heap.size w w' := by
  go_enter Tryz.func74, Tryz.ntmps74
  go_wp2
  go_loop [8] (fun i => ∃ k : Nat, k ≤ l.length ∧ i = .int .i64 k ∧ Hid (orL l = orL (l.drop k))) (fun i => l.length - (intOf i).toNat)
  case atStart => exact ⟨0, by omega, rfl, rfl⟩
  case round =>
    obtain ⟨k, hk, rfl, H⟩ := hrel
    by_cases hlt : k < l.length
    · obtain ⟨x, hx⟩ : ∃ x, l[k]? = some x := ⟨_, List.getElem?_eq_getElem hlt⟩
      obtain ⟨g, o, rfl, hcx⟩ := hr.at_ (j := k) (u := .int .i64 x) (by simp [hx])
      have hd : l.drop k = x :: l.drop (k + 1) := by
        rw [List.drop_eq_getElem_cons hlt]
        rw [List.getElem?_eq_getElem hlt] at hx
        injection hx with hx; rw [hx]
      have H2 : Hid (orL l = if x == 0 then orL (l.drop (k+1)) else x) := by
        show orL l = _
        rw [H.out, hd]
        unfold orL
        rw [List.find?_cons]
        cases hx0 : (x == 0) <;> simp
      clear hx hd H hr
      cases hx0 : (x == 0)
      · rw [hx0] at H2
        go_wp2
        go_ret
        exact ⟨by rw [H2.out]; rfl, Below.refl _ _⟩
      · rw [hx0] at H2
        go_wp2
        go_round
        case rel => exact ⟨k+1, by omega, by go_num, H2⟩
        case measure => simp [intOf]; omega
    · have H2 : Hid (orL l = 0) := by
        show orL l = _
        rw [H.out, List.drop_eq_nil_of_le (by omega)]; rfl
      clear H
      go_wp2
      go_ret
      exact ⟨by rw [H2.out]; rfl, Below.refl _ _⟩
theorem orL_two (a b : Int) : orL [a, b] = if a = 0 then b else a := by
  unfold orL
  by_cases h : a = 0
  · subst h
    by_cases h2 : b = 0
    · subst h2; simp
    · simp [h2]
  · simp [h]
theorem cmpS_bd (a b : List UInt8) : -1 ≤ cmpS a b ∧ cmpS a b ≤ 1 := by
  unfold cmpS; split
  · omega
  · split <;> omega
theorem compareInt_bd (a b : Int) : -1 ≤ Lib.compareInt a b ∧ Lib.compareInt a b ≤ 1 := by
  unfold Lib.compareInt; split
  · omega
  · split <;> omega

theorem grown_two1 {w W : World} {cs1 cs2 : Array Value} {t1 t2 : TypeId} (hb : Below ((w.alloc (.cells cs1 t1)).alloc (.cells cs2 t2)).heap.size ((w.alloc (.cells cs1 t1)).alloc (.cells cs2 t2)) W) (j : Nat) (v : Value) (h : cs1[j]? = some v) (d : Nat) (os : Array Obj) :
    (Sort.grow (redrawn W d) os).cell? ⟨w.heap.size, j, none⟩ = some v := by
  refine cell_regrown ?_ d os
  rw [hb.cell (p := ⟨w.heap.size, j, none⟩) (by simp; omega), World.cell?, heap_two_1]
  exact h
theorem grown_two2 {w W : World} {cs1 cs2 : Array Value} {t1 t2 : TypeId} (hb : Below ((w.alloc (.cells cs1 t1)).alloc (.cells cs2 t2)).heap.size ((w.alloc (.cells cs1 t1)).alloc (.cells cs2 t2)) W) (j : Nat) (v : Value) (h : cs2[j]? = some v) (d : Nat) (os : Array Obj) :
    (Sort.grow (redrawn W d) os).cell? ⟨w.heap.size + 1, j, none⟩ = some v := by
  refine cell_regrown ?_ d os
  rw [hb.cell (p := ⟨w.heap.size + 1, j, none⟩) (by simp), World.cell?, heap_two_2]
  exact h
theorem Calls.quiet_tr {P : Program} {f : FuncId} {args : Array Value} {w : World} {d : Nat} {os : Array Obj} {v : Value}
    (h : Calls P f args (Sort.grow (redrawn w d) os) fun e w' => e = .returned v ∧ Sort.grow (redrawn w d) os = w') : Calls P f args (Sort.grow (redrawn w d) os) fun e w'' => e = .returned v ∧ ∃ p : Regrown, w'' = Sort.grow (redrawn w p.d) p.os :=
  h.mono fun _ _ ⟨he, hb⟩ => ⟨he, ⟨d, os⟩, hb.symm⟩
set_option maxRecDepth 100000 in
set_option maxHeartbeats 8000000 in
theorem filOrder (k1 k2 : Int) (x1 l1 y1 x2 l2 y2 : ByteArray) (w : World) (hs1 : x1.size ≤ 281474976710656) (hs2 : x2.size ≤ 281474976710656) :
    Calls Tryz.prog 47 #[.agg #[.int .i64 k1, .string x1, .string l1, .string y1], .agg #[.int .i64 k2, .string x2, .string l2, .string y2]] w fun e w' =>
      e = .returned (.tuple #[.int .i64 (ordN ⟨k1, x1, l1, y1⟩ ⟨k2, x2, l2, y2⟩), .bool (ordB ⟨k1, x1, l1, y1⟩ ⟨k2, x2, l2, y2⟩)]) ∧ Below w.heap.size w w' := by
  have hN1 := fun W => filNumber k1 x1 l1 y1 W hs1
  have hN2 := fun W => filNumber k2 x2 l2 y2 W hs2
  have hS1 := fun W => filSays k1 x1 l1 y1 W
  have hS2 := fun W => filSays k2 x2 l2 y2 W
  have hP1 := fun W => filPlain k1 x1 l1 y1 W
  have hP2 := fun W => filPlain k2 x2 l2 y2 W
  have hC := fun W => cmpStr x1 x2 W
  obtain ⟨D1, hD1⟩ : ∃ D : ByteArray, (⟨(numD ⟨k1, x1, l1, y1⟩).toArray⟩ : ByteArray) = D := ⟨_, rfl⟩
  obtain ⟨D2, hD2⟩ : ∃ D : ByteArray, (⟨(numD ⟨k2, x2, l2, y2⟩).toArray⟩ : ByteArray) = D := ⟨_, rfl⟩
  simp only [numV_eq, hD1] at hN1
  simp only [numV_eq, hD2] at hN2
  have hz1 : ((numD ⟨k1, x1, l1, y1⟩).length : Int) = D1.size := by rw [← hD1]; show _ = ((numD ⟨k1, x1, l1, y1⟩).toArray.size : Int); simp
  have hz2 : ((numD ⟨k2, x2, l2, y2⟩).length : Int) = D2.size := by rw [← hD2]; show _ = ((numD ⟨k2, x2, l2, y2⟩).toArray.size : Int); simp
  have hl1 : D1.toList = numD ⟨k1, x1, l1, y1⟩ := by rw [← hD1, toList_mk]
  have hl2 : D2.toList = numD ⟨k2, x2, l2, y2⟩ := by rw [← hD2, toList_mk]
  have hCI := fun W => Tryz.cmp_Compare_int D1.size D2.size W
  have hCS := fun W => cmpStr D1 D2 W
  rw [hl1, hl2] at hCS
  rw [← hz1, ← hz2] at hCI
  have hc := compareInt_bd (numD ⟨k1, x1, l1, y1⟩).length (numD ⟨k2, x2, l2, y2⟩).length
  have hd := cmpS_bd (numD ⟨k1, x1, l1, y1⟩) (numD ⟨k2, x2, l2, y2⟩)
  unfold ordN ordB cmpN
  generalize Lib.compareInt (numD ⟨k1, x1, l1, y1⟩).length (numD ⟨k2, x2, l2, y2⟩).length = c at *
  generalize cmpS (numD ⟨k1, x1, l1, y1⟩) (numD ⟨k2, x2, l2, y2⟩) = d at *
  rw [hz1, hz2] at hCI
  clear hz1 hz2 hl1 hl2 hD1 hD2
  have hO := fun g W c2 h => cmpOr [c, d] (some ⟨g, 0, none⟩) c2 W (by simp) h
  simp only [orL_two] at hO
  have hob : -1 ≤ (if c = 0 then d else c) ∧ (if c = 0 then d else c) ≤ 1 := by split <;> omega
  generalize (if c = 0 then d else c) = n at hO hob ⊢
  obtain ⟨hob1, hob2⟩ := hob
  have hnn : IntKind.i64.wrap (-n) = -n := IntWalk.i64_in _ (by omega)
  have hcmp : cmpS (⟨k1, x1, l1, y1⟩ : Tm).x.toList (⟨k2, x2, l2, y2⟩ : Tm).x.toList = cmpS x1.toList x2.toList := rfl
  rw [hcmp]
  clear hcmp
  generalize cmpS x1.toList x2.toList = t at *
  generalize numM ⟨k1, x1, l1, y1⟩ = m1 at *
  generalize numM ⟨k2, x2, l2, y2⟩ = m2 at *
  generalize numI ⟨k1, x1, l1, y1⟩ = i1 at *
  generalize numI ⟨k2, x2, l2, y2⟩ = i2 at *
  generalize yesB ⟨k1, x1, l1, y1⟩ = q1 at *
  generalize yesB ⟨k2, x2, l2, y2⟩ = q2 at *
  generalize boolB ⟨k1, x1, l1, y1⟩ = b1 at *
  generalize boolB ⟨k2, x2, l2, y2⟩ = b2 at *
  generalize plainB ⟨k1, x1, l1, y1⟩ = p1 at *
  generalize plainB ⟨k2, x2, l2, y2⟩ = p2 at *
  clear hs1 hs2
  go_enter Tryz.func47, Tryz.ntmps47
  go_wp2_with fail
  refine (hN1 _).mono ?_
  rintro e w1 ⟨rfl, hb1⟩
  obtain ⟨hc1, hf1⟩ := bcell hb1
  go_wp2_with fail
  refine (hN2 _).mono ?_
  rintro e w2 ⟨rfl, hb2⟩
  have hb2' := below_tr hb1 hb2
  clear hc1 hf1 hb1 hb2
  obtain ⟨hc2, hf2⟩ := bcell hb2'
  go_wp2_with fail
  refine (hS1 _).mono ?_
  rintro e w3 ⟨rfl, hb3⟩
  have hb3' := below_tr hb2' hb3
  clear hc2 hf2 hb2' hb3
  obtain ⟨hc3, hf3⟩ := bcell hb3'
  go_wp2_with fail
  refine (hS2 _).mono ?_
  rintro e w4 ⟨rfl, hb4⟩
  have hb4' := below_tr hb3' hb4
  clear hc3 hf3 hb3' hb4
  cases i1
  · cases b1
    · have g01 := fun d os => grown_two1 hb4' 0 _ rfl d os
      have g02 := fun d os => grown_two1 hb4' 1 _ rfl d os
      have g03 := fun d os => grown_two1 hb4' 2 _ rfl d os
      have g04 := fun d os => grown_two1 hb4' 3 _ rfl d os
      have g11 := fun d os => grown_two2 hb4' 0 _ rfl d os
      have g12 := fun d os => grown_two2 hb4' 1 _ rfl d os
      have g13 := fun d os => grown_two2 hb4' 2 _ rfl d os
      have g14 := fun d os => grown_two2 hb4' 3 _ rfl d os
      cases p1
      all_goals
        go_wp2
        refine wp_region_quiet_below (by kernel_rfl) (by kernel_rfl) ?_; (repeat (any_goals (go_big_quiet_step ((first | (go_at_call 76; with_reducible exact Calls.quiet_tr (hC _)) | (go_at_call 78; with_reducible exact Calls.regrown_of (hP1 _)) | (go_at_call 78; with_reducible exact Calls.regrown_of (hP2 _))))))); all_goals (refine wpQuiet_nil ?_; intro _ hw9; obtain ⟨⟨d9, os9⟩, hw8⟩ := hw9; subst hw8)
        go_wp2
        go_ret2
        exact ⟨by simp, (by repeat (first | exact Below.refl _ _ | assumption | exact (Below.refl _ _).alloc (Nat.le_refl _) _ | refine below_tr ?_ (by assumption) | refine below_alloc ?_ | refine below_tr ?_ (below_regrown _ _ _)))⟩
    · cases b2
      · have g01 := fun d os => grown_two1 hb4' 0 _ rfl d os
        have g02 := fun d os => grown_two1 hb4' 1 _ rfl d os
        have g03 := fun d os => grown_two1 hb4' 2 _ rfl d os
        have g04 := fun d os => grown_two1 hb4' 3 _ rfl d os
        have g11 := fun d os => grown_two2 hb4' 0 _ rfl d os
        have g12 := fun d os => grown_two2 hb4' 1 _ rfl d os
        have g13 := fun d os => grown_two2 hb4' 2 _ rfl d os
        have g14 := fun d os => grown_two2 hb4' 3 _ rfl d os
        cases p1
        all_goals
          go_wp2
          refine wp_region_quiet_below (by kernel_rfl) (by kernel_rfl) ?_; (repeat (any_goals (go_big_quiet_step ((first | (go_at_call 76; with_reducible exact Calls.quiet_tr (hC _)) | (go_at_call 78; with_reducible exact Calls.regrown_of (hP1 _)) | (go_at_call 78; with_reducible exact Calls.regrown_of (hP2 _))))))); all_goals (refine wpQuiet_nil ?_; intro _ hw9; obtain ⟨⟨d9, os9⟩, hw8⟩ := hw9; subst hw8)
          go_wp2
          go_ret2
          exact ⟨by simp, (by repeat (first | exact Below.refl _ _ | assumption | exact (Below.refl _ _).alloc (Nat.le_refl _) _ | refine below_tr ?_ (by assumption) | refine below_alloc ?_ | refine below_tr ?_ (below_regrown _ _ _)))⟩
      · go_wp2_with fail
        refine (filWeight _ _).mono ?_
        rintro e w8 ⟨rfl, rfl⟩
        go_wp2_with fail
        refine (filWeight _ _).mono ?_
        rintro e w9 ⟨rfl, rfl⟩
        have hq : wrap64 (wt q1 - wt q2) = wt q1 - wt q2 := IntWalk.wrap64_in _ (by cases q1 <;> cases q2 <;> decide)
        go_wp2
        go_ret2
        exact ⟨by simp, (by repeat (first | exact Below.refl _ _ | assumption | exact (Below.refl _ _).alloc (Nat.le_refl _) _ | refine below_tr ?_ (by assumption) | refine below_alloc ?_ | refine below_tr ?_ (below_regrown _ _ _)))⟩
  · cases i2
    · cases b1
      · have g01 := fun d os => grown_two1 hb4' 0 _ rfl d os
        have g02 := fun d os => grown_two1 hb4' 1 _ rfl d os
        have g03 := fun d os => grown_two1 hb4' 2 _ rfl d os
        have g04 := fun d os => grown_two1 hb4' 3 _ rfl d os
        have g11 := fun d os => grown_two2 hb4' 0 _ rfl d os
        have g12 := fun d os => grown_two2 hb4' 1 _ rfl d os
        have g13 := fun d os => grown_two2 hb4' 2 _ rfl d os
        have g14 := fun d os => grown_two2 hb4' 3 _ rfl d os
        cases p1
        all_goals
          go_wp2
          refine wp_region_quiet_below (by kernel_rfl) (by kernel_rfl) ?_; (repeat (any_goals (go_big_quiet_step ((first | (go_at_call 76; with_reducible exact Calls.quiet_tr (hC _)) | (go_at_call 78; with_reducible exact Calls.regrown_of (hP1 _)) | (go_at_call 78; with_reducible exact Calls.regrown_of (hP2 _))))))); all_goals (refine wpQuiet_nil ?_; intro _ hw9; obtain ⟨⟨d9, os9⟩, hw8⟩ := hw9; subst hw8)
          go_wp2
          go_ret2
          exact ⟨by simp, (by repeat (first | exact Below.refl _ _ | assumption | exact (Below.refl _ _).alloc (Nat.le_refl _) _ | refine below_tr ?_ (by assumption) | refine below_alloc ?_ | refine below_tr ?_ (below_regrown _ _ _)))⟩
      · cases b2
        · have g01 := fun d os => grown_two1 hb4' 0 _ rfl d os
          have g02 := fun d os => grown_two1 hb4' 1 _ rfl d os
          have g03 := fun d os => grown_two1 hb4' 2 _ rfl d os
          have g04 := fun d os => grown_two1 hb4' 3 _ rfl d os
          have g11 := fun d os => grown_two2 hb4' 0 _ rfl d os
          have g12 := fun d os => grown_two2 hb4' 1 _ rfl d os
          have g13 := fun d os => grown_two2 hb4' 2 _ rfl d os
          have g14 := fun d os => grown_two2 hb4' 3 _ rfl d os
          cases p1
          all_goals
            go_wp2
            refine wp_region_quiet_below (by kernel_rfl) (by kernel_rfl) ?_; (repeat (any_goals (go_big_quiet_step ((first | (go_at_call 76; with_reducible exact Calls.quiet_tr (hC _)) | (go_at_call 78; with_reducible exact Calls.regrown_of (hP1 _)) | (go_at_call 78; with_reducible exact Calls.regrown_of (hP2 _))))))); all_goals (refine wpQuiet_nil ?_; intro _ hw9; obtain ⟨⟨d9, os9⟩, hw8⟩ := hw9; subst hw8)
            go_wp2
            go_ret2
            exact ⟨by simp, (by repeat (first | exact Below.refl _ _ | assumption | exact (Below.refl _ _).alloc (Nat.le_refl _) _ | refine below_tr ?_ (by assumption) | refine below_alloc ?_ | refine below_tr ?_ (below_regrown _ _ _)))⟩
        · go_wp2_with fail
          refine (filWeight _ _).mono ?_
          rintro e w8 ⟨rfl, rfl⟩
          go_wp2_with fail
          refine (filWeight _ _).mono ?_
          rintro e w9 ⟨rfl, rfl⟩
          have hq : wrap64 (wt q1 - wt q2) = wt q1 - wt q2 := IntWalk.wrap64_in _ (by cases q1 <;> cases q2 <;> decide)
          go_wp2
          go_ret2
          exact ⟨by simp, (by repeat (first | exact Below.refl _ _ | assumption | exact (Below.refl _ _).alloc (Nat.le_refl _) _ | refine below_tr ?_ (by assumption) | refine below_alloc ?_ | refine below_tr ?_ (below_regrown _ _ _)))⟩
    · go_wp2_with fail
      refine (hCI _).mono ?_
      rintro e w5 ⟨rfl, rfl⟩
      go_wp2_with fail
      refine (hCS _).mono ?_
      rintro e w6 ⟨rfl, rfl⟩
      go_wp2_with fail
      refine (hO _ _ _ (Rd.of_block (heap_alloc_new _ _) rfl)).mono ?_
      rintro e w7 ⟨rfl, hb7⟩
      have hb7' := below_tr (below_alloc hb4') hb7
      clear hb4' hb7
      cases m1
      · cases m2
        · go_wp2
          go_ret2
          exact ⟨by simp, (by repeat (first | exact Below.refl _ _ | assumption | exact (Below.refl _ _).alloc (Nat.le_refl _) _ | refine below_tr ?_ (by assumption) | refine below_alloc ?_ | refine below_tr ?_ (below_regrown _ _ _)))⟩
        · go_wp2_with fail
          refine (filWeight _ _).mono ?_
          rintro e w8 ⟨rfl, rfl⟩
          go_wp2_with fail
          refine (filWeight _ _).mono ?_
          rintro e w9 ⟨rfl, rfl⟩
          go_wp2
          go_ret2
          exact ⟨by simp [wt] <;> exact IntWalk.wrap64_in _ (by decide), (by repeat (first | exact Below.refl _ _ | assumption | exact (Below.refl _ _).alloc (Nat.le_refl _) _ | refine below_tr ?_ (by assumption) | refine below_alloc ?_ | refine below_tr ?_ (below_regrown _ _ _)))⟩
      · cases m2
        · go_wp2_with fail
          refine (filWeight _ _).mono ?_
          rintro e w8 ⟨rfl, rfl⟩
          go_wp2_with fail
          refine (filWeight _ _).mono ?_
          rintro e w9 ⟨rfl, rfl⟩
          go_wp2
          go_ret2
          exact ⟨by simp [wt] <;> exact IntWalk.wrap64_in _ (by decide), (by repeat (first | exact Below.refl _ _ | assumption | exact (Below.refl _ _).alloc (Nat.le_refl _) _ | refine below_tr ?_ (by assumption) | refine below_alloc ?_ | refine below_tr ?_ (below_regrown _ _ _)))⟩
        · go_wp2
          go_ret2
          exact ⟨by simp, (by repeat (first | exact Below.refl _ _ | assumption | exact (Below.refl _ _).alloc (Nat.le_refl _) _ | refine below_tr ?_ (by assumption) | refine below_alloc ?_ | refine below_tr ?_ (below_regrown _ _ _)))⟩
end Go.Proofs.YtfijpdmkdoccjaaGreatDoor
