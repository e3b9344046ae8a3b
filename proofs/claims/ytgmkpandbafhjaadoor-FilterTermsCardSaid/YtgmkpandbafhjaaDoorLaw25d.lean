/- Layer 25's law, walked: FilterTruths. -/
import Derived.Test.YtgmkpandbafhjaaDoorLaw25c
import Derived.Test.YtgmkpandbafhjaaDoorRegion2
namespace Go.Proofs.YtgmkpandbafhjaaDoor
open Go Go.RowKit Fm

theorem Rd.drop {w : World} {A : Option Addr} {xs : List Value} (h : Rd w A xs) (k c : Nat) (hc : xs.length ≤ c) : Rd w (if c = k then A else Option.map (fun x => x.add k) A) (xs.drop k) := by
  by_cases hk : c = k
  · rw [if_pos hk, List.drop_eq_nil_of_le (by omega)]; exact Rd.nil _ _
  · rw [if_neg hk]
    rcases h with rfl | ⟨g, o, rfl, hc⟩
    · rw [List.drop_nil]; exact Rd.nil _ _
    · refine .inr ⟨g, o + k, by simp [add_zero_spot], fun j u hu => ?_⟩
      rw [List.getElem?_drop] at hu
      rw [Nat.add_assoc]
      exact hc _ u hu
theorem filAndN (m : List Int) (n : Nat) (hn : m.length = n) (r : Int) (he : andI m = r) (hl : n ≤ 1000000) (A : Option Addr) (c : Nat) (w : World) (hr : Rd w A (m.map (Value.int .i64))) :
    Calls Tryd.prog 14 #[.slice A n c] w fun e w' => e = .returned (.int .i64 r) ∧ Below w.heap.size w w' := by
  subst hn; subst he; exact filAnd m A c w (by omega) hr
theorem filOrN (m : List Int) (n : Nat) (hn : m.length = n) (r : Int) (he : orI m = r) (hl : n ≤ 1000000) (A : Option Addr) (c : Nat) (w : World) (hr : Rd w A (m.map (Value.int .i64))) :
    Calls Tryd.prog 15 #[.slice A n c] w fun e w' => e = .returned (.int .i64 r) ∧ Below w.heap.size w w' := by
  subst hn; subst he; exact filOr m A c w (by omega) hr
def notsI (l : List Int) (j : Nat) : List Int := (l.take j).map notI
theorem own_open {w : World} {base : Nat} {ty : TypeId} {v : Value} {l : List Int} (h : OwnI w base ty v l) : ∃ A c, v = .slice A l.length c ∧ l.length ≤ c ∧ Rd w A (l.map (Value.int .i64)) := by
  obtain ⟨h1, h2⟩ := h
  rcases h2 with ⟨rfl, hx⟩ | ⟨g, cap, cur, rfl, hg, hh, hnc, hr⟩
  · have : l = [] := by simpa using hx
    subst this
    exact ⟨none, 0, rfl, by simp, Rd.nil _ _⟩
  · exact ⟨_, cap, rfl, hnc, Rd.of_own ⟨h1, .inr ⟨g, cap, cur, rfl, hg, hh, hnc, hr⟩⟩⟩

theorem own_openN {w : World} {base : Nat} {ty : TypeId} {v : Value} {l : List Int} {n : Nat} (h : OwnI w base ty v l) (hn : l.length = n) : ∃ A c, v = .slice A n c ∧ n ≤ c ∧ Rd w A (l.map (Value.int .i64)) := by
  subst hn; exact own_open h
set_option maxRecDepth 100000 in
set_option maxHeartbeats 8000000 in
theorem lawFilterTruths (l : List Int) (A : Option Addr) (c : Nat) (turn : Int) (w : World) (_hl : l.length ≤ 281474976710656) (hr : Rd w A (l.map (Value.int .i64))) (_wf : (Lit.int .i64 turn).wf = true) :
    Calls Tryd.prog 4 #[.slice A l.length c, .int .i64 turn] w fun e w' => e = .returned (.bool true) ∧ Below w.heap.size w w' := by
  by_cases hbig : l.length ≤ 300
  case neg =>
    have hbig2 : ¬ (l.length : Int) ≤ 300 := by omega
    clear hbig
    go_enter Tryd.func4, Tryd.ntmps4
    go_wp2_with fail
    refine (lawAwake _).mono ?_
    rintro e w1 ⟨rfl, hb1⟩
    go_wp2
    go_ret
    exact ⟨rfl, hb1⟩
  go_enter Tryd.func4, Tryd.ntmps4
  go_wp2_with fail
  refine (lawAwake _).mono ?_
  rintro e w1 ⟨rfl, hb1⟩
  go_wp2_with fail
  refine (lawTruths l A c _ (by omega) (hr.later hb1)).mono ?_
  rintro e w2 ⟨v, rfl, hown, hb2⟩
  have hb := below_tr hb1 hb2
  clear hb1 hb2
  obtain ⟨A1, c1, rfl, hc1, hr1⟩ := own_open hown
  clear hown hr
  go_wp2_with fail
  refine (kitPick turn (l.length + 1) _ (by omega) (by omega)).mono ?_
  rintro e w3 ⟨k, rfl, hk, rfl⟩
  have hk2 : (k : Int) ≤ l.length := by omega
  have hc2 : (l.length : Int) ≤ c1 := by omega
  have hk3 : k ≤ l.length := by omega
  go_wp2
  refine Rh.wp_region_plan w2.heap.size [(true, [1, 2, 3, 5, 7, 8, 9]), (false, [0]), (false, [4]), (false, [6]), (false, [10]), (true, [11])] _ (by kernel_rfl) (by kernel_rfl) (by simp only [List.map_cons, List.map_nil, Rg.pickOps, List.getElem?_toArray, List.getElem?_cons_zero, List.getElem?_cons_succ, Option.getD_some]; rfl) (fun K wd hK hwd => ?_)
  have hbd : Below w2.heap.size w2 wd := by rw [hwd]; exact (Below.refl _ _).drew
  clear hwd
  have hr2 := hr1.later hbd
  refine Rh.plan_quiet ?_
  iterate 7 go_big_quiet_step (fail)
  have hA2 := hr2.drop k c1 (by simpa using hc1)
  generalize (if c1 = k then A1 else Option.map (fun x => x.add k) A1) = A2 at hA2 ⊢
  refine wpQuiet_nil (Rh.plan_chain ?_)
  go_wp2_with fail
  have hB1 : Below w2.heap.size w2 (wd.alloc (.cells #[] 26)) := hbd.alloc hbd.size _
  have own0 : (wd.alloc (.cells #[] 26)).ownsRow w2.heap.size 26 1 (.slice (some ⟨wd.heap.size, 0, none⟩) 0 0) 0 ([].map (Value.int .i64)) :=
    ⟨rfl, .inr ⟨wd.heap.size, 0, #[], rfl, hbd.size, heap_alloc_new wd _, Nat.le_refl _, by simp, rfl, rfl⟩⟩
  refine ⟨(Below.refl _ _).alloc hbd.size _, Rh.plan_chain ?_⟩
  have hA3 := hA2.later ((Below.refl _ _).alloc (Nat.le_refl _) (.cells #[] 26))
  have hlk : (l.drop k).length = l.length - k := List.length_drop
  rw [← List.map_drop] at hA3
  go_wp2_with (at_builtin; refine wpList_app rfl rfl Tryd.underlying28 truthInfo rfl (by omega) rfl own0 rfl hA3 (by rw [List.length_map, hlk]; omega) (ints1 _) (by omega) (by omega) (by have := hbd.size; simp; omega) ?_; intro v3 w3 own3 hb3)
  clear own0 hA2 hA3
  have hB3 := hB1.trans hb3
  refine ⟨hb3, Rh.plan_chain ?_⟩
  go_wp2_with (at_builtin; refine wpList_app rfl rfl Tryd.underlying28 truthInfo rfl (by omega) rfl own3 rfl (hr1.later hB3) (by rw [List.length_map]; omega) (ints1 _) (by omega) (by omega) hB3.size ?_; intro v4 w4 own4 hb4)
  clear own3
  have hB4 := hB3.trans hb4
  refine ⟨hb4, Rh.plan_chain ?_⟩
  have hr4 := (hr1.later hB4).take k
  rw [← List.map_take] at hr4
  go_wp2_with (at_builtin; refine wpList_app rfl rfl Tryd.underlying28 truthInfo rfl (by omega) rfl own4 rfl hr4 (by rw [List.length_map, List.length_take]; omega) (ints1 _) (by omega) (by omega) hB4.size ?_; intro v5 w5 own5 hb5)
  clear own4 hr4
  have hB5 := hB4.trans hb5
  refine ⟨hb5, Rh.plan_quiet ?_⟩
  have hoth : OwnI w5 w2.heap.size 26 v5 (l.drop k ++ l ++ l.take k) := by
    unfold OwnI
    have e : (l.drop k ++ l ++ l.take k).length = 0 + (l.length - k) + l.length + k := by simp; omega
    rw [e, List.map_append, List.map_append]
    simpa using own5
  obtain ⟨n5, hn5⟩ : ∃ n, (l.drop k ++ l ++ l.take k).length = n := ⟨_, rfl⟩
  have hn5b : n5 ≤ 1000 := by rw [← hn5]; simp; omega
  obtain ⟨A5, c5, rfl, hc5, hr5⟩ := own_openN hoth hn5
  have Hn5 := Lib.hid hn5
  clear own5 hoth hn5
  go_frame
  iterate 1 go_big_quiet_step (fail)
  refine wpQuiet_nil (Rh.plan_end ?_)
  refine hK _ _ ?_
  clear hK
  clear hb3 hb4 hb5 hB1 hB3 hB4 hr2 hbd
  have hr1 := hr1.later hB5
  have hb5 := below_tr hb hB5
  clear hb hB5
  go_wp2
  go_loopw [8, 9] (fun v i wr => ∃ j : Nat, j ≤ l.length ∧ i = .int .i64 j ∧ OwnI wr w5.heap.size 26 v (notsI l j) ∧ Below w5.heap.size w5 wr) (fun _ i _ => l.length - (intOf i).toNat)
  case atStart => exact ⟨0, by omega, rfl, by simpa [OwnI, notsI] using World.ownsRow_nil _ _ _ _, Below.refl _ _⟩
  case round =>
    obtain ⟨j, hj, rfl, hown, hB⟩ := hrel
    by_cases hlt : j < l.length
    · obtain ⟨x, hx⟩ : ∃ x, l[j]? = some x := ⟨_, List.getElem?_eq_getElem hlt⟩
      obtain ⟨g, o, rfl, hc5x⟩ := hr1.at_ (j := j) (u := .int .i64 x) (by simp [hx])
      have hkc : ∀ W, Below w5.heap.size w5 W → W.cell? ⟨g, o + j, none⟩ = some (.int .i64 x) := fun W h => by rw [h.cell (cell_lt hc5x)]; exact hc5x
      have hcx := hkc _ hB
      have Hkc := Lib.hid hkc
      have hts := take_snoc_of hx
      have hlk : ((l.take j).map notI).length = j := by simp; omega
      have Hts := Lib.hid hts
      unfold OwnI notsI at hown
      rw [hlk] at hown
      have hN := fun W => filNot x W
      have hN2 := fun W => filNot (notI x) W
      have hnn : 1 ≤ x → x ≤ 3 → notI (notI x) = x := fun a b => notI_two x a b
      generalize hnx : notI x = y at *
      have Hnx := Lib.hid hnx
      generalize notI y = z at *
      clear hx hts hlk hr1 hr5 hnx hkc hc5x
      have Hnn := Lib.hid hnn
      clear hnn
      go_wp2_with (first
        | (go_at_call 13; refine (hN _).mono ?_; rintro e w6 ⟨rfl, rfl⟩)
        | (at_builtin; refine wpList_app rfl rfl Tryd.underlying28 truthInfo rfl (by omega) rfl (hown.alloc _) rfl (Rd.of_block (heap_alloc_new _ _) rfl) rfl (ints1 [y]) (by omega) (by omega) (by have := hB.size; simp; omega) ?_; intro v' w7 hown2 hb7))
      have hB2 := (hB.alloc hB.size (.cells #[.int .i64 y] 26)).trans hb7
      have g0 := fun d os => cell_regrown (Hkc.out _ hB2) d os
      clear hown hb7
      have hrel' : OwnI w7 w5.heap.size 26 v' (notsI l (j+1)) := by
        unfold notsI
        rw [Hts.out]
        unfold OwnI
        rw [List.map_append, List.length_append, List.length_map, List.length_take, Nat.min_eq_left (by omega), List.map_append]
        simpa [Hnx.out] using hown2
      have Hrel := Lib.hid hrel'
      clear hrel' hown2
      have fin : ∀ d os, OwnI (Sort.grow (redrawn w7 d) os) w5.heap.size 26 v' (notsI l (j+1)) ∧ Below w5.heap.size w5 (Sort.grow (redrawn w7 d) os) := fun d os =>
        ⟨own_below Hrel.out (below_regrown w7 d os) (Nat.le_refl _), hB2.trans ((below_regrown w7 d os).mono hB2.size)⟩
      have Fin := Lib.hid fin
      clear fin
      by_cases h1 : 1 ≤ x
      · by_cases h2 : x ≤ 3
        · have hz : z = x := Hnn.out h1 h2
          subst hz
          have d1 : decide (1 ≤ z) = true := by simp [h1]
          have d2 : decide (z ≤ 3) = true := by simp [h2]
          refine wp_region_quiet_below (by kernel_rfl) (by kernel_rfl) ?_; (repeat (any_goals (go_big_quiet_step ((go_at_call 13; with_reducible exact Calls.quiet_tr (hN2 _)))))); all_goals (refine wpQuiet_nil ?_; intro _ hw9; obtain ⟨⟨d9, os9⟩, hw8⟩ := hw9; subst hw8)
          go_wp2
          go_roundw
          case rel => exact ⟨j+1, by omega, by go_num, (Fin.out _ _).1, (Fin.out _ _).2⟩
          case measure => simp [intOf]; omega
        · have d1 : decide (1 ≤ x) = true := by simp [h1]
          have d2 : decide (x ≤ 3) = false := by simp; omega
          refine wp_region_quiet_below (by kernel_rfl) (by kernel_rfl) ?_; (repeat (any_goals (go_big_quiet_step ((go_at_call 13; with_reducible exact Calls.quiet_tr (hN2 _)))))); all_goals (refine wpQuiet_nil ?_; intro _ hw9; obtain ⟨⟨d9, os9⟩, hw8⟩ := hw9; subst hw8)
          go_wp2
          go_roundw
          case rel => exact ⟨j+1, by omega, by go_num, (Fin.out _ _).1, (Fin.out _ _).2⟩
          case measure => simp [intOf]; omega
      · have d1 : decide (1 ≤ x) = false := by simp; omega
        refine wp_region_quiet_below (by kernel_rfl) (by kernel_rfl) ?_; (repeat (any_goals (go_big_quiet_step ((go_at_call 13; with_reducible exact Calls.quiet_tr (hN2 _)))))); all_goals (refine wpQuiet_nil ?_; intro _ hw9; obtain ⟨⟨d9, os9⟩, hw8⟩ := hw9; subst hw8)
        go_wp2
        go_roundw
        case rel => exact ⟨j+1, by omega, by go_num, (Fin.out _ _).1, (Fin.out _ _).2⟩
        case measure => simp [intOf]; omega
    · have hjl : notsI l j = l.map notI := by unfold notsI; rw [List.take_of_length_le (by omega)]
      rw [hjl] at hown
      obtain ⟨A6, c6, rfl, hc6, hr6⟩ := own_open hown
      rw [List.length_map] at hc6
      rw [List.length_map]
      have hr1 := hr1.later hB
      have hr5 := hr5.later hB
      have hb := below_tr hb5 hB
      clear hown hjl hB hb5
      go_wp2_with fail
      refine (filAndN l l.length rfl _ rfl (by omega) _ _ _ hr1).mono ?_
      rintro e x1 ⟨rfl, q1⟩
      go_wp2_with fail
      refine (filOrN l l.length rfl _ rfl (by omega) _ _ _ (hr1.later q1)).mono ?_
      rintro e x2 ⟨rfl, hbn⟩
      have q2 := below_tr q1 hbn
      clear hbn q1
      go_wp2_with fail
      refine (filAndN _ n5 Hn5.out _ (and_turn l k) (by omega) _ _ _ (hr5.later q2)).mono ?_
      rintro e x3 ⟨rfl, hbn⟩
      have q3 := below_tr q2 hbn
      clear hbn q2
      go_wp2_with fail
      refine (filOrN _ n5 Hn5.out _ (or_turn l k) (by omega) _ _ _ (hr5.later q3)).mono ?_
      rintro e x4 ⟨rfl, hbn⟩
      have q4 := below_tr q3 hbn
      clear hbn q3
      go_wp2_with fail
      refine (filNot _ _).mono ?_
      rintro e x5 ⟨rfl, rfl⟩
      go_wp2_with fail
      refine (filOrN _ l.length (by simp) _ (not_and l).symm (by omega) _ _ _ (hr6.later q4)).mono ?_
      rintro e x6 ⟨rfl, hbn⟩
      have q6 := below_tr q4 hbn
      clear hbn q4
      go_wp2_with fail
      refine (filNot _ _).mono ?_
      rintro e x7 ⟨rfl, rfl⟩
      go_wp2_with fail
      refine (filAndN _ l.length (by simp) _ (not_or l).symm (by omega) _ _ _ (hr6.later q6)).mono ?_
      rintro e x8 ⟨rfl, hbn⟩
      have q8 := below_tr q6 hbn
      clear hbn q6
      have hr1 := hr1.later q8
      have hb := below_tr hb q8
      clear hr5 hr6 q8
      go_wp2_with fail
      refine Rh.wp_region_plan x8.heap.size [(true, [0, 1, 2, 4, 5, 6, 10]), (false, [3]), (false, [7]), (false, [8]), (false, [9]), (true, [11, 12, 13, 14, 15, 17, 18, 19, 23]), (false, [16]), (false, [20]), (false, [21]), (false, [22]), (true, [24, 25, 26]), (false, [27]), (true, [28, 29, 30]), (false, [31]), (true, [32, 33, 34])] _ (by kernel_rfl) (by kernel_rfl) (by simp only [List.map_cons, List.map_nil, Rg.pickOps, List.getElem?_toArray, List.getElem?_cons_zero, List.getElem?_cons_succ, Option.getD_some]; rfl) (fun K wd hK hwd => ?_)
      have hbd : Below x8.heap.size x8 wd := by rw [hwd]; exact (Below.refl _ _).drew
      clear hwd
      refine Rh.plan_quiet ?_
      iterate 7 go_big_quiet_step (fail)
      have hrT := (hr1.later hbd).take k
      have hrD := (hr1.later hbd).drop k c1 (by simpa using hc1)
      rw [← List.map_take] at hrT
      rw [← List.map_drop] at hrD
      generalize (if c1 = k then A1 else Option.map (fun x => x.add k) A1) = A2 at hrD ⊢
      refine wpQuiet_nil (Rh.plan_chain ?_)
      go_wp2_with (refine (filAndN (l.take k) k (by simp; omega) _ rfl (by omega) _ _ _ hrT).mono ?_; rintro e x9 ⟨rfl, q1⟩)
      refine ⟨q1.mono hbd.size, Rh.plan_chain ?_⟩
      go_wp2_with (refine (filAndN (l.drop k) (l.length - k) (by simp) _ rfl (by omega) _ _ _ (hrD.later q1)).mono ?_; rintro e x10 ⟨rfl, hbn⟩)
      refine ⟨hbn.mono (Nat.le_trans hbd.size q1.size), Rh.plan_chain ?_⟩
      have q2 := below_tr q1 hbn
      clear q1 hbn
      go_wp2_with fail
      refine ⟨((Below.refl _ _).alloc (Nat.le_refl _) _).mono (Nat.le_trans hbd.size q2.size), Rh.plan_chain ?_⟩
      go_wp2_with (refine (filAndN _ 2 rfl _ (and_two l k) (by omega) _ _ _ (Rd.of_block (heap_alloc_new _ _) rfl)).mono ?_; rintro e x11 ⟨rfl, hbn⟩)
      refine ⟨hbn.mono (Nat.le_trans hbd.size (below_alloc q2).size), Rh.plan_quiet ?_⟩
      have q3 := below_tr (below_alloc q2) hbn
      clear q2 hbn
      try go_frame
      iterate 9 go_big_quiet_step (fail)
      have hrT2 := hrT.later q3
      have hrD2 := (hr1.later (below_tr hbd q3)).drop k c1 (by simpa using hc1)
      rw [← List.map_drop] at hrD2
      generalize (if c1 = k then A1 else Option.map (fun x => x.add k) A1) = A3 at hrD2 ⊢
      refine wpQuiet_nil (Rh.plan_chain ?_)
      go_wp2_with (refine (filOrN (l.take k) k (by simp; omega) _ rfl (by omega) _ _ _ hrT2).mono ?_; rintro e x12 ⟨rfl, q4⟩)
      refine ⟨q4.mono (Nat.le_trans hbd.size q3.size), Rh.plan_chain ?_⟩
      go_wp2_with (refine (filOrN (l.drop k) (l.length - k) (by simp) _ rfl (by omega) _ _ _ (hrD2.later q4)).mono ?_; rintro e x13 ⟨rfl, hbn⟩)
      refine ⟨hbn.mono (Nat.le_trans hbd.size (below_tr q3 q4).size), Rh.plan_chain ?_⟩
      have q5 := below_tr q4 hbn
      clear q4 hbn
      go_wp2_with fail
      refine ⟨((Below.refl _ _).alloc (Nat.le_refl _) _).mono (Nat.le_trans hbd.size (below_tr q3 q5).size), Rh.plan_chain ?_⟩
      go_wp2_with (refine (filOrN _ 2 rfl _ (or_two l k) (by omega) _ _ _ (Rd.of_block (heap_alloc_new _ _) rfl)).mono ?_; rintro e x14 ⟨rfl, hbn⟩)
      refine ⟨hbn.mono (Nat.le_trans hbd.size (below_tr q3 (below_alloc q5)).size), Rh.plan_quiet ?_⟩
      have q6 := below_tr (below_tr q3 (below_alloc q5)) hbn
      clear q3 q5 hbn
      try go_frame
      iterate 3 go_big_quiet_step (fail)
      refine wpQuiet_nil (Rh.plan_chain ?_)
      go_wp2_with (refine (filAndN [] 0 rfl 1 rfl (by omega) _ _ _ (Rd.nil _ _)).mono ?_; rintro e x15 ⟨rfl, q7⟩)
      refine ⟨q7.mono (Nat.le_trans hbd.size q6.size), Rh.plan_quiet ?_⟩
      try go_frame
      iterate 3 go_big_quiet_step (fail)
      refine wpQuiet_nil (Rh.plan_chain ?_)
      go_wp2_with (refine (filOrN [] 0 rfl 2 rfl (by omega) _ _ _ (Rd.nil _ _)).mono ?_; rintro e x16 ⟨rfl, q8⟩)
      refine ⟨q8.mono (Nat.le_trans hbd.size (below_tr q6 q7).size), Rh.plan_quiet ?_⟩
      try go_frame
      iterate 3 go_big_quiet_step (fail)
      refine wpQuiet_nil (Rh.plan_end ?_)
      refine hK _ _ ?_
      have hfin := below_tr (below_tr hb hbd) (below_tr q6 (below_tr q7 q8))
      clear hK
      go_wp2
      go_ret
      exact ⟨by simp, hfin⟩
end Go.Proofs.YtgmkpandbafhjaaDoor
