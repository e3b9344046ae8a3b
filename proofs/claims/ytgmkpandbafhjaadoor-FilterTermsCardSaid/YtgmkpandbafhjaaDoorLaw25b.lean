/- Layer 25's law, walked: FilterTables. -/
import Derived.Test.YtgmkpandbafhjaaDoorLaw25a
namespace Go.Proofs.YtgmkpandbafhjaaDoor
open Go Go.RowKit Fm

theorem heap_three_1 (w : World) (o1 o2 o3 : Obj) : (((w.alloc o1).alloc o2).alloc o3).heap[w.heap.size]? = some o1 := by
  rw [Below.heap_alloc _ _ _ (by simp; omega)]; exact heap_two_1 w o1 o2
theorem heap_three_2 (w : World) (o1 o2 o3 : Obj) : (((w.alloc o1).alloc o2).alloc o3).heap[w.heap.size + 1]? = some o2 := by
  rw [Below.heap_alloc _ _ _ (by simp)]; exact heap_two_2 w o1 o2
theorem heap_three_3 (w : World) (o1 o2 o3 : Obj) : (((w.alloc o1).alloc o2).alloc o3).heap[w.heap.size + 2]? = some o3 := by
  have := heap_alloc_new ((w.alloc o1).alloc o2) o3
  simpa using this
theorem cell_of {w : World} {g : Nat} {cs : Array Value} {t : TypeId} (h : w.heap[g]? = some (.cells cs t)) (j : Nat) (v : Value) (hv : cs[j]? = some v) : w.cell? ⟨g, j, none⟩ = some v := by
  rw [World.cell?, h]; exact hv
theorem grownK {w0 w1 : World} {p : Addr} {v : Value} (h0 : w0.cell? p = some v) (hb : Below w0.heap.size w0 w1) (d : Nat) (os : Array Obj) : (Sort.grow (redrawn w1 d) os).cell? p = some v :=
  cell_regrown (by rw [hb.cell (cell_lt h0)]; exact h0) d os

set_option maxRecDepth 100000 in
set_option maxHeartbeats 8000000 in
theorem lawFilterTables (k1 : Int) (x1 l1 y1 : ByteArray) (k2 : Int) (x2 l2 y2 : ByteArray) (k3 : Int) (x3 l3 y3 : ByteArray) (w : World) (hs1 : x1.size ≤ 281474976710656) (hs2 : x2.size ≤ 281474976710656) (hs3 : x3.size ≤ 281474976710656) :
    Calls Tryd.prog 3 #[.agg #[.int .i64 k1, .string x1, .string l1, .string y1], .agg #[.int .i64 k2, .string x2, .string l2, .string y2], .agg #[.int .i64 k3, .string x3, .string l3, .string y3]] w fun e w' =>
      e = .returned (.bool true) ∧ Below w.heap.size w w' := by
  have hA := fun W => lawAwake W
  have hS := fun W => filSame k1 k2 x1 l1 y1 x2 l2 y2 W hs1 hs2
  have hS2 := fun W => filSame k2 k1 x2 l2 y2 x1 l1 y1 W hs2 hs1
  have hSS := fun W => filSame k1 k1 x1 l1 y1 x1 l1 y1 W hs1 hs1
  have hL1 := fun W => filLess k1 k2 x1 l1 y1 x2 l2 y2 W hs1 hs2
  have hL2 := fun W => filLess k2 k1 x2 l2 y2 x1 l1 y1 W hs2 hs1
  have hL3 := fun W => filLess k2 k3 x2 l2 y2 x3 l3 y3 W hs2 hs3
  have hL4 := fun W => filLess k1 k3 x1 l1 y1 x3 l3 y3 W hs1 hs3
  have hI1 := fun W => lawLiteral k1 x1 l1 y1 W
  have hI2 := fun W => lawLiteral k2 x2 l2 y2 W
  have ho : (lessI ⟨k1, x1, l1, y1⟩ ⟨k2, x2, l2, y2⟩ = 3 ∧ lessI ⟨k2, x2, l2, y2⟩ ⟨k1, x1, l1, y1⟩ = 3) ∨
    (sameI ⟨k1, x1, l1, y1⟩ ⟨k2, x2, l2, y2⟩ = 1 ∧ lessI ⟨k1, x1, l1, y1⟩ ⟨k2, x2, l2, y2⟩ = 2 ∧ lessI ⟨k2, x2, l2, y2⟩ ⟨k1, x1, l1, y1⟩ = 2) ∨
    (sameI ⟨k1, x1, l1, y1⟩ ⟨k2, x2, l2, y2⟩ = 2 ∧ lessI ⟨k1, x1, l1, y1⟩ ⟨k2, x2, l2, y2⟩ = 1 ∧ lessI ⟨k2, x2, l2, y2⟩ ⟨k1, x1, l1, y1⟩ = 2) ∨
    (sameI ⟨k1, x1, l1, y1⟩ ⟨k2, x2, l2, y2⟩ = 2 ∧ lessI ⟨k1, x1, l1, y1⟩ ⟨k2, x2, l2, y2⟩ = 2 ∧ lessI ⟨k2, x2, l2, y2⟩ ⟨k1, x1, l1, y1⟩ = 1) := by
    by_cases h : lessI ⟨k1, x1, l1, y1⟩ ⟨k2, x2, l2, y2⟩ = 3
    · exact .inl ⟨h, (less_three _ _).1 h⟩
    · exact .inr (less_law _ _ h)
  have htr : lessI ⟨k1, x1, l1, y1⟩ ⟨k2, x2, l2, y2⟩ = 1 → lessI ⟨k2, x2, l2, y2⟩ ⟨k3, x3, l3, y3⟩ = 1 → lessI ⟨k1, x1, l1, y1⟩ ⟨k3, x3, l3, y3⟩ = 1 := less_tr _ _ _
  have hlit := lit_law ⟨k1, x1, l1, y1⟩ ⟨k2, x2, l2, y2⟩
  rw [sameI_comm] at hS2
  rw [sameI_self] at hSS
  generalize lessI ⟨k1, x1, l1, y1⟩ ⟨k2, x2, l2, y2⟩ = x at *
  generalize lessI ⟨k2, x2, l2, y2⟩ ⟨k1, x1, l1, y1⟩ = y at *
  generalize lessI ⟨k2, x2, l2, y2⟩ ⟨k3, x3, l3, y3⟩ = u at *
  generalize lessI ⟨k1, x1, l1, y1⟩ ⟨k3, x3, l3, y3⟩ = v at *
  generalize sameI ⟨k1, x1, l1, y1⟩ ⟨k2, x2, l2, y2⟩ = s at *
  generalize litB ⟨k1, x1, l1, y1⟩ = b1 at *
  generalize litB ⟨k2, x2, l2, y2⟩ = b2 at *
  have z1 : (x1.size : Int) ≤ 281474976710656 := by omega
  have z2 : (x2.size : Int) ≤ 281474976710656 := by omega
  have z3 : (x3.size : Int) ≤ 281474976710656 := by omega
  clear hs1 hs2 hs3
  have C10 := cell_of (heap_three_1 w (.cells #[.int .i64 k1, .string x1, .string l1, .string y1] 24) (.cells #[.int .i64 k2, .string x2, .string l2, .string y2] 24) (.cells #[.int .i64 k3, .string x3, .string l3, .string y3] 24)) 0 _ rfl
  have C11 := cell_of (heap_three_1 w (.cells #[.int .i64 k1, .string x1, .string l1, .string y1] 24) (.cells #[.int .i64 k2, .string x2, .string l2, .string y2] 24) (.cells #[.int .i64 k3, .string x3, .string l3, .string y3] 24)) 1 _ rfl
  have C12 := cell_of (heap_three_1 w (.cells #[.int .i64 k1, .string x1, .string l1, .string y1] 24) (.cells #[.int .i64 k2, .string x2, .string l2, .string y2] 24) (.cells #[.int .i64 k3, .string x3, .string l3, .string y3] 24)) 2 _ rfl
  have C13 := cell_of (heap_three_1 w (.cells #[.int .i64 k1, .string x1, .string l1, .string y1] 24) (.cells #[.int .i64 k2, .string x2, .string l2, .string y2] 24) (.cells #[.int .i64 k3, .string x3, .string l3, .string y3] 24)) 3 _ rfl
  have C20 := cell_of (heap_three_2 w (.cells #[.int .i64 k1, .string x1, .string l1, .string y1] 24) (.cells #[.int .i64 k2, .string x2, .string l2, .string y2] 24) (.cells #[.int .i64 k3, .string x3, .string l3, .string y3] 24)) 0 _ rfl
  have C21 := cell_of (heap_three_2 w (.cells #[.int .i64 k1, .string x1, .string l1, .string y1] 24) (.cells #[.int .i64 k2, .string x2, .string l2, .string y2] 24) (.cells #[.int .i64 k3, .string x3, .string l3, .string y3] 24)) 1 _ rfl
  have C22 := cell_of (heap_three_2 w (.cells #[.int .i64 k1, .string x1, .string l1, .string y1] 24) (.cells #[.int .i64 k2, .string x2, .string l2, .string y2] 24) (.cells #[.int .i64 k3, .string x3, .string l3, .string y3] 24)) 2 _ rfl
  have C23 := cell_of (heap_three_2 w (.cells #[.int .i64 k1, .string x1, .string l1, .string y1] 24) (.cells #[.int .i64 k2, .string x2, .string l2, .string y2] 24) (.cells #[.int .i64 k3, .string x3, .string l3, .string y3] 24)) 3 _ rfl
  have HC := Lib.hid (And.intro C10 (And.intro C11 (And.intro C12 (And.intro C13 (And.intro C20 (And.intro C21 (And.intro C22 C23)))))))
  clear C10 C11 C12 C13 C20 C21 C22 C23
  have HH := Lib.hid (And.intro htr hlit)
  clear htr hlit
  by_cases hbig : 5000 < (x1.size : Int) + x2.size + x3.size
  · go_enter Tryd.func3, Tryd.ntmps3
    go_wp2_with fail
    refine (hA _).mono ?_
    rintro e w1 ⟨rfl, hb⟩
    obtain ⟨hc, hf⟩ := bcell hb
    go_wp2_with fail
    go_ret
    exact ⟨rfl, (by repeat (first | exact Below.refl _ _ | assumption | exact (Below.refl _ _).alloc (Nat.le_refl _) _ | refine below_tr ?_ (by assumption) | refine below_alloc ?_ | refine below_tr ?_ (below_regrown _ _ _)))⟩
  · rcases ho with ho | ho | ho | ho
    · obtain ⟨rfl, rfl⟩ := ho
      go_enter Tryd.func3, Tryd.ntmps3
      go_wp2_with fail
      refine (hA _).mono ?_
      rintro e w1 ⟨rfl, hb⟩
      obtain ⟨hc, hf⟩ := bcell hb
      go_wp2_with fail
      go_wp2_with fail
      refine (hS _).mono ?_
      rintro e w2 ⟨rfl, hbn⟩
      have hb' := below_tr hb hbn
      clear hb hbn hc hf
      have hb := hb'
      clear hb'
      obtain ⟨hc, hf⟩ := bcell hb
      have g0 := fun d os => grownK HC.out.1 hb d os
      have g1 := fun d os => grownK HC.out.2.1 hb d os
      have g2 := fun d os => grownK HC.out.2.2.1 hb d os
      have g3 := fun d os => grownK HC.out.2.2.2.1 hb d os
      have g4 := fun d os => grownK HC.out.2.2.2.2.1 hb d os
      have g5 := fun d os => grownK HC.out.2.2.2.2.2.1 hb d os
      have g6 := fun d os => grownK HC.out.2.2.2.2.2.2.1 hb d os
      have g7 := fun d os => grownK HC.out.2.2.2.2.2.2.2 hb d os
      go_wp2
      refine wp_region_quiet_below (by kernel_rfl) (by kernel_rfl) ?_; (repeat (any_goals (go_big_quiet_step ((first | (go_at_call 9; with_reducible exact Calls.regrown_of (hL1 _)) | (go_at_call 9; with_reducible exact Calls.regrown_of (hL2 _))))))); all_goals (refine wpQuiet_nil ?_; intro _ hw9; obtain ⟨⟨d9, os9⟩, hw8⟩ := hw9; subst hw8)
      clear g0 g1 g2 g3 g4 g5 g6 g7
      have hb' := below_tr hb (below_regrown _ d9 os9)
      clear hb hc hf
      have hb := hb'
      clear hb'
      generalize Sort.grow (redrawn w2 d9) os9 = w3 at *
      obtain ⟨hc, hf⟩ := bcell hb
      go_wp2_with fail
      refine (hS2 _).mono ?_
      rintro e w4 ⟨rfl, hbn⟩
      have hb' := below_tr hb hbn
      clear hb hbn hc hf
      have hb := hb'
      clear hb'
      obtain ⟨hc, hf⟩ := bcell hb
      go_wp2_with fail
      refine (hSS _).mono ?_
      rintro e w5 ⟨rfl, hbn⟩
      have hb' := below_tr hb hbn
      clear hb hbn hc hf
      have hb := hb'
      clear hb'
      obtain ⟨hc, hf⟩ := bcell hb
      have hss : (s != s) = false := by simp
      have HL : Hid ((b1 == b2 || s == 2) = true) := HH.out.2
      cases hbb : (b1 == b2)
      · have hs2 : (s == 2) = true := by have := HL.out; rw [hbb] at this; simpa using this
        have g0 := fun d os => grownK HC.out.1 hb d os
        have g1 := fun d os => grownK HC.out.2.1 hb d os
        have g2 := fun d os => grownK HC.out.2.2.1 hb d os
        have g3 := fun d os => grownK HC.out.2.2.2.1 hb d os
        have g4 := fun d os => grownK HC.out.2.2.2.2.1 hb d os
        have g5 := fun d os => grownK HC.out.2.2.2.2.2.1 hb d os
        have g6 := fun d os => grownK HC.out.2.2.2.2.2.2.1 hb d os
        have g7 := fun d os => grownK HC.out.2.2.2.2.2.2.2 hb d os
        go_wp2
        refine wp_region_quiet_below (by kernel_rfl) (by kernel_rfl) ?_; (repeat (any_goals (go_big_quiet_step ((first | (go_at_call 10; with_reducible exact Calls.regrown_of (hI1 _)) | (go_at_call 10; with_reducible exact Calls.regrown_of (hI2 _))))))); all_goals (refine wpQuiet_nil ?_; intro _ hw9; obtain ⟨⟨d9, os9⟩, hw8⟩ := hw9; subst hw8)
        go_wp2
        go_ret
        exact ⟨rfl, (by repeat (first | exact Below.refl _ _ | assumption | exact (Below.refl _ _).alloc (Nat.le_refl _) _ | refine below_tr ?_ (by assumption) | refine below_alloc ?_ | refine below_tr ?_ (below_regrown _ _ _)))⟩
      · have g0 := fun d os => grownK HC.out.1 hb d os
        have g1 := fun d os => grownK HC.out.2.1 hb d os
        have g2 := fun d os => grownK HC.out.2.2.1 hb d os
        have g3 := fun d os => grownK HC.out.2.2.2.1 hb d os
        have g4 := fun d os => grownK HC.out.2.2.2.2.1 hb d os
        have g5 := fun d os => grownK HC.out.2.2.2.2.2.1 hb d os
        have g6 := fun d os => grownK HC.out.2.2.2.2.2.2.1 hb d os
        have g7 := fun d os => grownK HC.out.2.2.2.2.2.2.2 hb d os
        go_wp2
        refine wp_region_quiet_below (by kernel_rfl) (by kernel_rfl) ?_; (repeat (any_goals (go_big_quiet_step ((first | (go_at_call 10; with_reducible exact Calls.regrown_of (hI1 _)) | (go_at_call 10; with_reducible exact Calls.regrown_of (hI2 _))))))); all_goals (refine wpQuiet_nil ?_; intro _ hw9; obtain ⟨⟨d9, os9⟩, hw8⟩ := hw9; subst hw8)
        go_wp2
        go_ret
        exact ⟨rfl, (by repeat (first | exact Below.refl _ _ | assumption | exact (Below.refl _ _).alloc (Nat.le_refl _) _ | refine below_tr ?_ (by assumption) | refine below_alloc ?_ | refine below_tr ?_ (below_regrown _ _ _)))⟩
    · obtain ⟨rfl, rfl, rfl⟩ := ho
      go_enter Tryd.func3, Tryd.ntmps3
      go_wp2_with fail
      refine (hA _).mono ?_
      rintro e w1 ⟨rfl, hb⟩
      obtain ⟨hc, hf⟩ := bcell hb
      go_wp2_with fail
      go_wp2_with fail
      refine (hS _).mono ?_
      rintro e w2 ⟨rfl, hbn⟩
      have hb' := below_tr hb hbn
      clear hb hbn hc hf
      have hb := hb'
      clear hb'
      obtain ⟨hc, hf⟩ := bcell hb
      have g0 := fun d os => grownK HC.out.1 hb d os
      have g1 := fun d os => grownK HC.out.2.1 hb d os
      have g2 := fun d os => grownK HC.out.2.2.1 hb d os
      have g3 := fun d os => grownK HC.out.2.2.2.1 hb d os
      have g4 := fun d os => grownK HC.out.2.2.2.2.1 hb d os
      have g5 := fun d os => grownK HC.out.2.2.2.2.2.1 hb d os
      have g6 := fun d os => grownK HC.out.2.2.2.2.2.2.1 hb d os
      have g7 := fun d os => grownK HC.out.2.2.2.2.2.2.2 hb d os
      go_wp2
      refine wp_region_quiet_below (by kernel_rfl) (by kernel_rfl) ?_; (repeat (any_goals (go_big_quiet_step ((first | (go_at_call 9; with_reducible exact Calls.regrown_of (hL1 _)) | (go_at_call 9; with_reducible exact Calls.regrown_of (hL2 _))))))); all_goals (refine wpQuiet_nil ?_; intro _ hw9; obtain ⟨⟨d9, os9⟩, hw8⟩ := hw9; subst hw8)
      clear g0 g1 g2 g3 g4 g5 g6 g7
      have hb' := below_tr hb (below_regrown _ d9 os9)
      clear hb hc hf
      have hb := hb'
      clear hb'
      generalize Sort.grow (redrawn w2 d9) os9 = w3 at *
      obtain ⟨hc, hf⟩ := bcell hb
      go_wp2_with fail
      refine (hS2 _).mono ?_
      rintro e w4 ⟨rfl, hbn⟩
      have hb' := below_tr hb hbn
      clear hb hbn hc hf
      have hb := hb'
      clear hb'
      obtain ⟨hc, hf⟩ := bcell hb
      go_wp2_with fail
      refine (hSS _).mono ?_
      rintro e w5 ⟨rfl, hbn⟩
      have hb' := below_tr hb hbn
      clear hb hbn hc hf
      have hb := hb'
      clear hb'
      obtain ⟨hc, hf⟩ := bcell hb
      obtain ⟨hc5, hf5⟩ := bcell (below_alloc (o := .cells #[.int .i64 1, .int .i64 2, .int .i64 2] 26) hb)
      go_wp2_with fail
      refine wp_loop_rounds 4 ?_
      iterate 4 (rw [rounds_succ]; go_wp2_with fail)
      clear hc5 hf5
      have hb' := below_alloc (o := .cells #[.int .i64 1, .int .i64 2, .int .i64 2] 26) hb
      clear hb hc hf
      have hb := hb'
      clear hb'
      obtain ⟨hc, hf⟩ := bcell hb
      have hbb : (b1 == b2) = true := by have := HH.out.2; simpa using this
      have g0 := fun d os => grownK HC.out.1 hb d os
      have g1 := fun d os => grownK HC.out.2.1 hb d os
      have g2 := fun d os => grownK HC.out.2.2.1 hb d os
      have g3 := fun d os => grownK HC.out.2.2.2.1 hb d os
      have g4 := fun d os => grownK HC.out.2.2.2.2.1 hb d os
      have g5 := fun d os => grownK HC.out.2.2.2.2.2.1 hb d os
      have g6 := fun d os => grownK HC.out.2.2.2.2.2.2.1 hb d os
      have g7 := fun d os => grownK HC.out.2.2.2.2.2.2.2 hb d os
      go_wp2
      refine wp_region_quiet_below (by kernel_rfl) (by kernel_rfl) ?_; (repeat (any_goals (go_big_quiet_step ((first | (go_at_call 10; with_reducible exact Calls.regrown_of (hI1 _)) | (go_at_call 10; with_reducible exact Calls.regrown_of (hI2 _))))))); all_goals (refine wpQuiet_nil ?_; intro _ hw9; obtain ⟨⟨d9, os9⟩, hw8⟩ := hw9; subst hw8)
      go_wp2
      go_ret
      exact ⟨rfl, (by repeat (first | exact Below.refl _ _ | assumption | exact (Below.refl _ _).alloc (Nat.le_refl _) _ | refine below_tr ?_ (by assumption) | refine below_alloc ?_ | refine below_tr ?_ (below_regrown _ _ _)))⟩
    · obtain ⟨rfl, rfl, rfl⟩ := ho
      go_enter Tryd.func3, Tryd.ntmps3
      go_wp2_with fail
      refine (hA _).mono ?_
      rintro e w1 ⟨rfl, hb⟩
      obtain ⟨hc, hf⟩ := bcell hb
      go_wp2_with fail
      go_wp2_with fail
      refine (hS _).mono ?_
      rintro e w2 ⟨rfl, hbn⟩
      have hb' := below_tr hb hbn
      clear hb hbn hc hf
      have hb := hb'
      clear hb'
      obtain ⟨hc, hf⟩ := bcell hb
      have g0 := fun d os => grownK HC.out.1 hb d os
      have g1 := fun d os => grownK HC.out.2.1 hb d os
      have g2 := fun d os => grownK HC.out.2.2.1 hb d os
      have g3 := fun d os => grownK HC.out.2.2.2.1 hb d os
      have g4 := fun d os => grownK HC.out.2.2.2.2.1 hb d os
      have g5 := fun d os => grownK HC.out.2.2.2.2.2.1 hb d os
      have g6 := fun d os => grownK HC.out.2.2.2.2.2.2.1 hb d os
      have g7 := fun d os => grownK HC.out.2.2.2.2.2.2.2 hb d os
      go_wp2
      refine wp_region_quiet_below (by kernel_rfl) (by kernel_rfl) ?_; (repeat (any_goals (go_big_quiet_step ((first | (go_at_call 9; with_reducible exact Calls.regrown_of (hL1 _)) | (go_at_call 9; with_reducible exact Calls.regrown_of (hL2 _))))))); all_goals (refine wpQuiet_nil ?_; intro _ hw9; obtain ⟨⟨d9, os9⟩, hw8⟩ := hw9; subst hw8)
      clear g0 g1 g2 g3 g4 g5 g6 g7
      have hb' := below_tr hb (below_regrown _ d9 os9)
      clear hb hc hf
      have hb := hb'
      clear hb'
      generalize Sort.grow (redrawn w2 d9) os9 = w3 at *
      obtain ⟨hc, hf⟩ := bcell hb
      go_wp2_with fail
      refine (hS2 _).mono ?_
      rintro e w4 ⟨rfl, hbn⟩
      have hb' := below_tr hb hbn
      clear hb hbn hc hf
      have hb := hb'
      clear hb'
      obtain ⟨hc, hf⟩ := bcell hb
      go_wp2_with fail
      refine (hSS _).mono ?_
      rintro e w5 ⟨rfl, hbn⟩
      have hb' := below_tr hb hbn
      clear hb hbn hc hf
      have hb := hb'
      clear hb'
      obtain ⟨hc, hf⟩ := bcell hb
      obtain ⟨hc5, hf5⟩ := bcell (below_alloc (o := .cells #[.int .i64 2, .int .i64 1, .int .i64 2] 26) hb)
      go_wp2_with fail
      refine wp_loop_rounds 4 ?_
      iterate 4 (rw [rounds_succ]; go_wp2_with fail)
      clear hc5 hf5
      have hb' := below_alloc (o := .cells #[.int .i64 2, .int .i64 1, .int .i64 2] 26) hb
      clear hb hc hf
      have hb := hb'
      clear hb'
      obtain ⟨hc, hf⟩ := bcell hb
      by_cases hu : u = 1
      · have hv : v = 1 := HH.out.1 (by trivial) hu
        subst hu
        subst hv
        go_wp2_with fail
        refine (hL3 _).mono ?_
        rintro e w6 ⟨rfl, hbn⟩
        have hb' := below_tr hb hbn
        clear hb hbn hc hf
        have hb := hb'
        clear hb'
        obtain ⟨hc, hf⟩ := bcell hb
        go_wp2_with fail
        refine (hL4 _).mono ?_
        rintro e w7 ⟨rfl, hbn⟩
        have hb' := below_tr hb hbn
        clear hb hbn hc hf
        have hb := hb'
        clear hb'
        obtain ⟨hc, hf⟩ := bcell hb
        cases hbb : (b1 == b2)
        · have g0 := fun d os => grownK HC.out.1 hb d os
          have g1 := fun d os => grownK HC.out.2.1 hb d os
          have g2 := fun d os => grownK HC.out.2.2.1 hb d os
          have g3 := fun d os => grownK HC.out.2.2.2.1 hb d os
          have g4 := fun d os => grownK HC.out.2.2.2.2.1 hb d os
          have g5 := fun d os => grownK HC.out.2.2.2.2.2.1 hb d os
          have g6 := fun d os => grownK HC.out.2.2.2.2.2.2.1 hb d os
          have g7 := fun d os => grownK HC.out.2.2.2.2.2.2.2 hb d os
          go_wp2
          refine wp_region_quiet_below (by kernel_rfl) (by kernel_rfl) ?_; (repeat (any_goals (go_big_quiet_step ((first | (go_at_call 10; with_reducible exact Calls.regrown_of (hI1 _)) | (go_at_call 10; with_reducible exact Calls.regrown_of (hI2 _))))))); all_goals (refine wpQuiet_nil ?_; intro _ hw9; obtain ⟨⟨d9, os9⟩, hw8⟩ := hw9; subst hw8)
          go_wp2
          go_ret
          exact ⟨rfl, (by repeat (first | exact Below.refl _ _ | assumption | exact (Below.refl _ _).alloc (Nat.le_refl _) _ | refine below_tr ?_ (by assumption) | refine below_alloc ?_ | refine below_tr ?_ (below_regrown _ _ _)))⟩
        · have g0 := fun d os => grownK HC.out.1 hb d os
          have g1 := fun d os => grownK HC.out.2.1 hb d os
          have g2 := fun d os => grownK HC.out.2.2.1 hb d os
          have g3 := fun d os => grownK HC.out.2.2.2.1 hb d os
          have g4 := fun d os => grownK HC.out.2.2.2.2.1 hb d os
          have g5 := fun d os => grownK HC.out.2.2.2.2.2.1 hb d os
          have g6 := fun d os => grownK HC.out.2.2.2.2.2.2.1 hb d os
          have g7 := fun d os => grownK HC.out.2.2.2.2.2.2.2 hb d os
          go_wp2
          refine wp_region_quiet_below (by kernel_rfl) (by kernel_rfl) ?_; (repeat (any_goals (go_big_quiet_step ((first | (go_at_call 10; with_reducible exact Calls.regrown_of (hI1 _)) | (go_at_call 10; with_reducible exact Calls.regrown_of (hI2 _))))))); all_goals (refine wpQuiet_nil ?_; intro _ hw9; obtain ⟨⟨d9, os9⟩, hw8⟩ := hw9; subst hw8)
          go_wp2
          go_ret
          exact ⟨rfl, (by repeat (first | exact Below.refl _ _ | assumption | exact (Below.refl _ _).alloc (Nat.le_refl _) _ | refine below_tr ?_ (by assumption) | refine below_alloc ?_ | refine below_tr ?_ (below_regrown _ _ _)))⟩
      · have hu1 : (u == 1) = false := by simpa using hu
        clear hu
        go_wp2_with fail
        refine (hL3 _).mono ?_
        rintro e w6 ⟨rfl, hbn⟩
        have hb' := below_tr hb hbn
        clear hb hbn hc hf
        have hb := hb'
        clear hb'
        obtain ⟨hc, hf⟩ := bcell hb
        cases hbb : (b1 == b2)
        · have g0 := fun d os => grownK HC.out.1 hb d os
          have g1 := fun d os => grownK HC.out.2.1 hb d os
          have g2 := fun d os => grownK HC.out.2.2.1 hb d os
          have g3 := fun d os => grownK HC.out.2.2.2.1 hb d os
          have g4 := fun d os => grownK HC.out.2.2.2.2.1 hb d os
          have g5 := fun d os => grownK HC.out.2.2.2.2.2.1 hb d os
          have g6 := fun d os => grownK HC.out.2.2.2.2.2.2.1 hb d os
          have g7 := fun d os => grownK HC.out.2.2.2.2.2.2.2 hb d os
          go_wp2
          refine wp_region_quiet_below (by kernel_rfl) (by kernel_rfl) ?_; (repeat (any_goals (go_big_quiet_step ((first | (go_at_call 10; with_reducible exact Calls.regrown_of (hI1 _)) | (go_at_call 10; with_reducible exact Calls.regrown_of (hI2 _))))))); all_goals (refine wpQuiet_nil ?_; intro _ hw9; obtain ⟨⟨d9, os9⟩, hw8⟩ := hw9; subst hw8)
          go_wp2
          go_ret
          exact ⟨rfl, (by repeat (first | exact Below.refl _ _ | assumption | exact (Below.refl _ _).alloc (Nat.le_refl _) _ | refine below_tr ?_ (by assumption) | refine below_alloc ?_ | refine below_tr ?_ (below_regrown _ _ _)))⟩
        · have g0 := fun d os => grownK HC.out.1 hb d os
          have g1 := fun d os => grownK HC.out.2.1 hb d os
          have g2 := fun d os => grownK HC.out.2.2.1 hb d os
          have g3 := fun d os => grownK HC.out.2.2.2.1 hb d os
          have g4 := fun d os => grownK HC.out.2.2.2.2.1 hb d os
          have g5 := fun d os => grownK HC.out.2.2.2.2.2.1 hb d os
          have g6 := fun d os => grownK HC.out.2.2.2.2.2.2.1 hb d os
          have g7 := fun d os => grownK HC.out.2.2.2.2.2.2.2 hb d os
          go_wp2
          refine wp_region_quiet_below (by kernel_rfl) (by kernel_rfl) ?_; (repeat (any_goals (go_big_quiet_step ((first | (go_at_call 10; with_reducible exact Calls.regrown_of (hI1 _)) | (go_at_call 10; with_reducible exact Calls.regrown_of (hI2 _))))))); all_goals (refine wpQuiet_nil ?_; intro _ hw9; obtain ⟨⟨d9, os9⟩, hw8⟩ := hw9; subst hw8)
          go_wp2
          go_ret
          exact ⟨rfl, (by repeat (first | exact Below.refl _ _ | assumption | exact (Below.refl _ _).alloc (Nat.le_refl _) _ | refine below_tr ?_ (by assumption) | refine below_alloc ?_ | refine below_tr ?_ (below_regrown _ _ _)))⟩
    · obtain ⟨rfl, rfl, rfl⟩ := ho
      go_enter Tryd.func3, Tryd.ntmps3
      go_wp2_with fail
      refine (hA _).mono ?_
      rintro e w1 ⟨rfl, hb⟩
      obtain ⟨hc, hf⟩ := bcell hb
      go_wp2_with fail
      go_wp2_with fail
      refine (hS _).mono ?_
      rintro e w2 ⟨rfl, hbn⟩
      have hb' := below_tr hb hbn
      clear hb hbn hc hf
      have hb := hb'
      clear hb'
      obtain ⟨hc, hf⟩ := bcell hb
      have g0 := fun d os => grownK HC.out.1 hb d os
      have g1 := fun d os => grownK HC.out.2.1 hb d os
      have g2 := fun d os => grownK HC.out.2.2.1 hb d os
      have g3 := fun d os => grownK HC.out.2.2.2.1 hb d os
      have g4 := fun d os => grownK HC.out.2.2.2.2.1 hb d os
      have g5 := fun d os => grownK HC.out.2.2.2.2.2.1 hb d os
      have g6 := fun d os => grownK HC.out.2.2.2.2.2.2.1 hb d os
      have g7 := fun d os => grownK HC.out.2.2.2.2.2.2.2 hb d os
      go_wp2
      refine wp_region_quiet_below (by kernel_rfl) (by kernel_rfl) ?_; (repeat (any_goals (go_big_quiet_step ((first | (go_at_call 9; with_reducible exact Calls.regrown_of (hL1 _)) | (go_at_call 9; with_reducible exact Calls.regrown_of (hL2 _))))))); all_goals (refine wpQuiet_nil ?_; intro _ hw9; obtain ⟨⟨d9, os9⟩, hw8⟩ := hw9; subst hw8)
      clear g0 g1 g2 g3 g4 g5 g6 g7
      have hb' := below_tr hb (below_regrown _ d9 os9)
      clear hb hc hf
      have hb := hb'
      clear hb'
      generalize Sort.grow (redrawn w2 d9) os9 = w3 at *
      obtain ⟨hc, hf⟩ := bcell hb
      go_wp2_with fail
      refine (hS2 _).mono ?_
      rintro e w4 ⟨rfl, hbn⟩
      have hb' := below_tr hb hbn
      clear hb hbn hc hf
      have hb := hb'
      clear hb'
      obtain ⟨hc, hf⟩ := bcell hb
      go_wp2_with fail
      refine (hSS _).mono ?_
      rintro e w5 ⟨rfl, hbn⟩
      have hb' := below_tr hb hbn
      clear hb hbn hc hf
      have hb := hb'
      clear hb'
      obtain ⟨hc, hf⟩ := bcell hb
      obtain ⟨hc5, hf5⟩ := bcell (below_alloc (o := .cells #[.int .i64 2, .int .i64 2, .int .i64 1] 26) hb)
      go_wp2_with fail
      refine wp_loop_rounds 4 ?_
      iterate 4 (rw [rounds_succ]; go_wp2_with fail)
      clear hc5 hf5
      have hb' := below_alloc (o := .cells #[.int .i64 2, .int .i64 2, .int .i64 1] 26) hb
      clear hb hc hf
      have hb := hb'
      clear hb'
      obtain ⟨hc, hf⟩ := bcell hb
      cases hbb : (b1 == b2)
      · have g0 := fun d os => grownK HC.out.1 hb d os
        have g1 := fun d os => grownK HC.out.2.1 hb d os
        have g2 := fun d os => grownK HC.out.2.2.1 hb d os
        have g3 := fun d os => grownK HC.out.2.2.2.1 hb d os
        have g4 := fun d os => grownK HC.out.2.2.2.2.1 hb d os
        have g5 := fun d os => grownK HC.out.2.2.2.2.2.1 hb d os
        have g6 := fun d os => grownK HC.out.2.2.2.2.2.2.1 hb d os
        have g7 := fun d os => grownK HC.out.2.2.2.2.2.2.2 hb d os
        go_wp2
        refine wp_region_quiet_below (by kernel_rfl) (by kernel_rfl) ?_; (repeat (any_goals (go_big_quiet_step ((first | (go_at_call 10; with_reducible exact Calls.regrown_of (hI1 _)) | (go_at_call 10; with_reducible exact Calls.regrown_of (hI2 _))))))); all_goals (refine wpQuiet_nil ?_; intro _ hw9; obtain ⟨⟨d9, os9⟩, hw8⟩ := hw9; subst hw8)
        go_wp2
        go_ret
        exact ⟨rfl, (by repeat (first | exact Below.refl _ _ | assumption | exact (Below.refl _ _).alloc (Nat.le_refl _) _ | refine below_tr ?_ (by assumption) | refine below_alloc ?_ | refine below_tr ?_ (below_regrown _ _ _)))⟩
      · have g0 := fun d os => grownK HC.out.1 hb d os
        have g1 := fun d os => grownK HC.out.2.1 hb d os
        have g2 := fun d os => grownK HC.out.2.2.1 hb d os
        have g3 := fun d os => grownK HC.out.2.2.2.1 hb d os
        have g4 := fun d os => grownK HC.out.2.2.2.2.1 hb d os
        have g5 := fun d os => grownK HC.out.2.2.2.2.2.1 hb d os
        have g6 := fun d os => grownK HC.out.2.2.2.2.2.2.1 hb d os
        have g7 := fun d os => grownK HC.out.2.2.2.2.2.2.2 hb d os
        go_wp2
        refine wp_region_quiet_below (by kernel_rfl) (by kernel_rfl) ?_; (repeat (any_goals (go_big_quiet_step ((first | (go_at_call 10; with_reducible exact Calls.regrown_of (hI1 _)) | (go_at_call 10; with_reducible exact Calls.regrown_of (hI2 _))))))); all_goals (refine wpQuiet_nil ?_; intro _ hw9; obtain ⟨⟨d9, os9⟩, hw8⟩ := hw9; subst hw8)
        go_wp2
        go_ret
        exact ⟨rfl, (by repeat (first | exact Below.refl _ _ | assumption | exact (Below.refl _ _).alloc (Nat.le_refl _) _ | refine below_tr ?_ (by assumption) | refine below_alloc ?_ | refine below_tr ?_ (below_regrown _ _ _)))⟩
end Go.Proofs.YtgmkpandbafhjaaDoor
