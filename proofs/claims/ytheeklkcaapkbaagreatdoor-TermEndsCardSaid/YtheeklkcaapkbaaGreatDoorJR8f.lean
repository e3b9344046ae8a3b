/- Triples that may be: the program's, the answer's. Printed by gen/r8e.py. -/
import Derived.Test.YtheeklkcaapkbaaGreatDoorJR8e
namespace Go.Proofs.YtheeklkcaapkbaaGreatDoor
open Go Go.RowKit Um Fm Lx Tx

set_option maxHeartbeats 8000000 in
set_option maxRecDepth 100000 in
theorem termTriple (a : Tp) (w : World) (hC : CtxT w) (ha : smallP a) :
    Calls Tryz.prog 16 #[tpA a] w fun e w' => e = .returned (.bool (tripB a)) ∧ Below w.heap.size w w' := by
  have hb0 : Below w.heap.size w (w.alloc (.cells (tpC a) 31)) := (Below.refl _ w).alloc (Nat.le_refl _) _
  have hga := heap_alloc_new w (.cells (tpC a) 31)
  obtain ⟨res, hres⟩ : ∃ r, tripB a = r := ⟨_, rfl⟩
  rw [hres]
  have HT : Hid (res = ((a.s.k == 1 || a.s.k == 2) && a.p.k == 1 && rightB a.s && rightB a.p && rightB a.o)) := by show _ = _; rw [← hres]; rfl
  clear hres
  have hC0 := hC.step hb0
  go_enter Tryz.func16, Tryz.ntmps16
  go_upto_region 1 with fail
  change Code.wp _ _ _ _ (w.alloc (.cells (tpC a) 31))
  generalize w.alloc (.cells (tpC a) 31) = w0 at *
  have a0 := cells_at hga 0 rfl
  have a1 := cells_at hga 1 rfl
  have a2 := cells_at hga 2 rfl
  have a3 := cells_at hga 3 rfl
  have a4 := cells_at hga 4 rfl
  have a5 := cells_at hga 5 rfl
  have a6 := cells_at hga 6 rfl
  have a7 := cells_at hga 7 rfl
  have a8 := cells_at hga 8 rfl
  have a9 := cells_at hga 9 rfl
  have a10 := cells_at hga 10 rfl
  have a11 := cells_at hga 11 rfl
  have hS := fun W hb => termRight' a.s W (hC0.step hb) ha.1
  have hP := fun W hb => termRight' a.p W (hC0.step hb) ha.2.1
  have hO := fun W hb => termRight' a.o W (hC0.step hb) ha.2.2
  have HB0 := Lib.hid hb0
  clear hga hb0 hC hC0
  have hB1 := Below.refl w0.heap.size w0
  cases hk1 : (a.s.k == 1)
  · cases hk2 : (a.s.k == 2)
    · rw [hk1, hk2] at HT
      go_wp2_with (first | (go_at_call 12; (first | with_reducible refine (hS _ (by assumption)).mono ?_ | with_reducible refine (hP _ (by assumption)).mono ?_ | with_reducible refine (hO _ (by assumption)).mono ?_); rintro e V1 ⟨rfl, k1⟩; have hB2 := below_tr hB1 k1; replace a0 := cell_on a0 k1; replace a1 := cell_on a1 k1; replace a2 := cell_on a2 k1; replace a3 := cell_on a3 k1; replace a4 := cell_on a4 k1; replace a5 := cell_on a5 k1; replace a6 := cell_on a6 k1; replace a7 := cell_on a7 k1; replace a8 := cell_on a8 k1; replace a9 := cell_on a9 k1; replace a10 := cell_on a10 k1; replace a11 := cell_on a11 k1; clear hB1; rename Below w0.heap.size w0 _ => hB1; clear k1))
      go_ret
      exact ⟨by rw [HT.out]; simp, HB0.out.trans (hB1.mono HB0.out.size)⟩
    · cases hk3 : (a.p.k == 1)
      · rw [hk1, hk2, hk3] at HT
        go_wp2_with (first | (go_at_call 12; (first | with_reducible refine (hS _ (by assumption)).mono ?_ | with_reducible refine (hP _ (by assumption)).mono ?_ | with_reducible refine (hO _ (by assumption)).mono ?_); rintro e V1 ⟨rfl, k1⟩; have hB2 := below_tr hB1 k1; replace a0 := cell_on a0 k1; replace a1 := cell_on a1 k1; replace a2 := cell_on a2 k1; replace a3 := cell_on a3 k1; replace a4 := cell_on a4 k1; replace a5 := cell_on a5 k1; replace a6 := cell_on a6 k1; replace a7 := cell_on a7 k1; replace a8 := cell_on a8 k1; replace a9 := cell_on a9 k1; replace a10 := cell_on a10 k1; replace a11 := cell_on a11 k1; clear hB1; rename Below w0.heap.size w0 _ => hB1; clear k1))
        go_ret
        exact ⟨by rw [HT.out]; simp, HB0.out.trans (hB1.mono HB0.out.size)⟩
      · cases hr1 : rightB a.s
        · rw [hr1] at hS
          rw [hk1, hk2, hk3, hr1] at HT
          clear hr1
          go_wp2_with (first | (go_at_call 12; (first | with_reducible refine (hS _ (by assumption)).mono ?_ | with_reducible refine (hP _ (by assumption)).mono ?_ | with_reducible refine (hO _ (by assumption)).mono ?_); rintro e V1 ⟨rfl, k1⟩; have hB2 := below_tr hB1 k1; replace a0 := cell_on a0 k1; replace a1 := cell_on a1 k1; replace a2 := cell_on a2 k1; replace a3 := cell_on a3 k1; replace a4 := cell_on a4 k1; replace a5 := cell_on a5 k1; replace a6 := cell_on a6 k1; replace a7 := cell_on a7 k1; replace a8 := cell_on a8 k1; replace a9 := cell_on a9 k1; replace a10 := cell_on a10 k1; replace a11 := cell_on a11 k1; clear hB1; rename Below w0.heap.size w0 _ => hB1; clear k1))
          go_ret
          exact ⟨by rw [HT.out]; simp, HB0.out.trans (hB1.mono HB0.out.size)⟩
        · cases hr2 : rightB a.p
          · rw [hr1] at hS
            rw [hr2] at hP
            rw [hk1, hk2, hk3, hr1, hr2] at HT
            clear hr1 hr2
            go_wp2_with (first | (go_at_call 12; (first | with_reducible refine (hS _ (by assumption)).mono ?_ | with_reducible refine (hP _ (by assumption)).mono ?_ | with_reducible refine (hO _ (by assumption)).mono ?_); rintro e V1 ⟨rfl, k1⟩; have hB2 := below_tr hB1 k1; replace a0 := cell_on a0 k1; replace a1 := cell_on a1 k1; replace a2 := cell_on a2 k1; replace a3 := cell_on a3 k1; replace a4 := cell_on a4 k1; replace a5 := cell_on a5 k1; replace a6 := cell_on a6 k1; replace a7 := cell_on a7 k1; replace a8 := cell_on a8 k1; replace a9 := cell_on a9 k1; replace a10 := cell_on a10 k1; replace a11 := cell_on a11 k1; clear hB1; rename Below w0.heap.size w0 _ => hB1; clear k1))
            go_ret
            exact ⟨by rw [HT.out]; simp, HB0.out.trans (hB1.mono HB0.out.size)⟩
          · cases hr3 : rightB a.o
            · rw [hr1] at hS
              rw [hr2] at hP
              rw [hr3] at hO
              rw [hk1, hk2, hk3, hr1, hr2, hr3] at HT
              clear hr1 hr2 hr3
              go_wp2_with (first | (go_at_call 12; (first | with_reducible refine (hS _ (by assumption)).mono ?_ | with_reducible refine (hP _ (by assumption)).mono ?_ | with_reducible refine (hO _ (by assumption)).mono ?_); rintro e V1 ⟨rfl, k1⟩; have hB2 := below_tr hB1 k1; replace a0 := cell_on a0 k1; replace a1 := cell_on a1 k1; replace a2 := cell_on a2 k1; replace a3 := cell_on a3 k1; replace a4 := cell_on a4 k1; replace a5 := cell_on a5 k1; replace a6 := cell_on a6 k1; replace a7 := cell_on a7 k1; replace a8 := cell_on a8 k1; replace a9 := cell_on a9 k1; replace a10 := cell_on a10 k1; replace a11 := cell_on a11 k1; clear hB1; rename Below w0.heap.size w0 _ => hB1; clear k1))
              go_ret
              exact ⟨by rw [HT.out]; simp, HB0.out.trans (hB1.mono HB0.out.size)⟩
            · rw [hr1] at hS
              rw [hr2] at hP
              rw [hr3] at hO
              rw [hk1, hk2, hk3, hr1, hr2, hr3] at HT
              clear hr1 hr2 hr3
              go_wp2_with (first | (go_at_call 12; (first | with_reducible refine (hS _ (by assumption)).mono ?_ | with_reducible refine (hP _ (by assumption)).mono ?_ | with_reducible refine (hO _ (by assumption)).mono ?_); rintro e V1 ⟨rfl, k1⟩; have hB2 := below_tr hB1 k1; replace a0 := cell_on a0 k1; replace a1 := cell_on a1 k1; replace a2 := cell_on a2 k1; replace a3 := cell_on a3 k1; replace a4 := cell_on a4 k1; replace a5 := cell_on a5 k1; replace a6 := cell_on a6 k1; replace a7 := cell_on a7 k1; replace a8 := cell_on a8 k1; replace a9 := cell_on a9 k1; replace a10 := cell_on a10 k1; replace a11 := cell_on a11 k1; clear hB1; rename Below w0.heap.size w0 _ => hB1; clear k1))
              go_ret
              exact ⟨by rw [HT.out]; simp, HB0.out.trans (hB1.mono HB0.out.size)⟩
  · cases hk3 : (a.p.k == 1)
    · rw [hk1, hk3] at HT
      go_wp2_with (first | (go_at_call 12; (first | with_reducible refine (hS _ (by assumption)).mono ?_ | with_reducible refine (hP _ (by assumption)).mono ?_ | with_reducible refine (hO _ (by assumption)).mono ?_); rintro e V1 ⟨rfl, k1⟩; have hB2 := below_tr hB1 k1; replace a0 := cell_on a0 k1; replace a1 := cell_on a1 k1; replace a2 := cell_on a2 k1; replace a3 := cell_on a3 k1; replace a4 := cell_on a4 k1; replace a5 := cell_on a5 k1; replace a6 := cell_on a6 k1; replace a7 := cell_on a7 k1; replace a8 := cell_on a8 k1; replace a9 := cell_on a9 k1; replace a10 := cell_on a10 k1; replace a11 := cell_on a11 k1; clear hB1; rename Below w0.heap.size w0 _ => hB1; clear k1))
      go_ret
      exact ⟨by rw [HT.out]; simp, HB0.out.trans (hB1.mono HB0.out.size)⟩
    · cases hr1 : rightB a.s
      · rw [hr1] at hS
        rw [hk1, hk3, hr1] at HT
        clear hr1
        go_wp2_with (first | (go_at_call 12; (first | with_reducible refine (hS _ (by assumption)).mono ?_ | with_reducible refine (hP _ (by assumption)).mono ?_ | with_reducible refine (hO _ (by assumption)).mono ?_); rintro e V1 ⟨rfl, k1⟩; have hB2 := below_tr hB1 k1; replace a0 := cell_on a0 k1; replace a1 := cell_on a1 k1; replace a2 := cell_on a2 k1; replace a3 := cell_on a3 k1; replace a4 := cell_on a4 k1; replace a5 := cell_on a5 k1; replace a6 := cell_on a6 k1; replace a7 := cell_on a7 k1; replace a8 := cell_on a8 k1; replace a9 := cell_on a9 k1; replace a10 := cell_on a10 k1; replace a11 := cell_on a11 k1; clear hB1; rename Below w0.heap.size w0 _ => hB1; clear k1))
        go_ret
        exact ⟨by rw [HT.out]; simp, HB0.out.trans (hB1.mono HB0.out.size)⟩
      · cases hr2 : rightB a.p
        · rw [hr1] at hS
          rw [hr2] at hP
          rw [hk1, hk3, hr1, hr2] at HT
          clear hr1 hr2
          go_wp2_with (first | (go_at_call 12; (first | with_reducible refine (hS _ (by assumption)).mono ?_ | with_reducible refine (hP _ (by assumption)).mono ?_ | with_reducible refine (hO _ (by assumption)).mono ?_); rintro e V1 ⟨rfl, k1⟩; have hB2 := below_tr hB1 k1; replace a0 := cell_on a0 k1; replace a1 := cell_on a1 k1; replace a2 := cell_on a2 k1; replace a3 := cell_on a3 k1; replace a4 := cell_on a4 k1; replace a5 := cell_on a5 k1; replace a6 := cell_on a6 k1; replace a7 := cell_on a7 k1; replace a8 := cell_on a8 k1; replace a9 := cell_on a9 k1; replace a10 := cell_on a10 k1; replace a11 := cell_on a11 k1; clear hB1; rename Below w0.heap.size w0 _ => hB1; clear k1))
          go_ret
          exact ⟨by rw [HT.out]; simp, HB0.out.trans (hB1.mono HB0.out.size)⟩
        · cases hr3 : rightB a.o
          · rw [hr1] at hS
            rw [hr2] at hP
            rw [hr3] at hO
            rw [hk1, hk3, hr1, hr2, hr3] at HT
            clear hr1 hr2 hr3
            go_wp2_with (first | (go_at_call 12; (first | with_reducible refine (hS _ (by assumption)).mono ?_ | with_reducible refine (hP _ (by assumption)).mono ?_ | with_reducible refine (hO _ (by assumption)).mono ?_); rintro e V1 ⟨rfl, k1⟩; have hB2 := below_tr hB1 k1; replace a0 := cell_on a0 k1; replace a1 := cell_on a1 k1; replace a2 := cell_on a2 k1; replace a3 := cell_on a3 k1; replace a4 := cell_on a4 k1; replace a5 := cell_on a5 k1; replace a6 := cell_on a6 k1; replace a7 := cell_on a7 k1; replace a8 := cell_on a8 k1; replace a9 := cell_on a9 k1; replace a10 := cell_on a10 k1; replace a11 := cell_on a11 k1; clear hB1; rename Below w0.heap.size w0 _ => hB1; clear k1))
            go_ret
            exact ⟨by rw [HT.out]; simp, HB0.out.trans (hB1.mono HB0.out.size)⟩
          · rw [hr1] at hS
            rw [hr2] at hP
            rw [hr3] at hO
            rw [hk1, hk3, hr1, hr2, hr3] at HT
            clear hr1 hr2 hr3
            go_wp2_with (first | (go_at_call 12; (first | with_reducible refine (hS _ (by assumption)).mono ?_ | with_reducible refine (hP _ (by assumption)).mono ?_ | with_reducible refine (hO _ (by assumption)).mono ?_); rintro e V1 ⟨rfl, k1⟩; have hB2 := below_tr hB1 k1; replace a0 := cell_on a0 k1; replace a1 := cell_on a1 k1; replace a2 := cell_on a2 k1; replace a3 := cell_on a3 k1; replace a4 := cell_on a4 k1; replace a5 := cell_on a5 k1; replace a6 := cell_on a6 k1; replace a7 := cell_on a7 k1; replace a8 := cell_on a8 k1; replace a9 := cell_on a9 k1; replace a10 := cell_on a10 k1; replace a11 := cell_on a11 k1; clear hB1; rename Below w0.heap.size w0 _ => hB1; clear k1))
            go_ret
            exact ⟨by rw [HT.out]; simp, HB0.out.trans (hB1.mono HB0.out.size)⟩
set_option maxHeartbeats 8000000 in
set_option maxRecDepth 100000 in
theorem r08Triple (a : Tp) (w : World) (ha : smallP a) :
    Calls Tryz.prog 17 #[tpA a] w fun e w' => e = .returned (.bool (tripB a)) ∧ Below w.heap.size w w' := by
  have hb0 : Below w.heap.size w (w.alloc (.cells (tpC a) 31)) := (Below.refl _ w).alloc (Nat.le_refl _) _
  have hga := heap_alloc_new w (.cells (tpC a) 31)
  obtain ⟨res, hres⟩ : ∃ r, tripB a = r := ⟨_, rfl⟩
  rw [hres]
  have HT : Hid (res = ((a.s.k == 1 || a.s.k == 2) && a.p.k == 1 && rightB a.s && rightB a.p && rightB a.o)) := by show _ = _; rw [← hres]; rfl
  clear hres
  go_enter Tryz.func17, Tryz.ntmps17
  go_upto_region 1 with fail
  change Code.wp _ _ _ _ (w.alloc (.cells (tpC a) 31))
  generalize w.alloc (.cells (tpC a) 31) = w0 at *
  have a0 := cells_at hga 0 rfl
  have a1 := cells_at hga 1 rfl
  have a2 := cells_at hga 2 rfl
  have a3 := cells_at hga 3 rfl
  have a4 := cells_at hga 4 rfl
  have a5 := cells_at hga 5 rfl
  have a6 := cells_at hga 6 rfl
  have a7 := cells_at hga 7 rfl
  have a8 := cells_at hga 8 rfl
  have a9 := cells_at hga 9 rfl
  have a10 := cells_at hga 10 rfl
  have a11 := cells_at hga 11 rfl
  have hS := fun W (_ : Below w0.heap.size w0 W) => r08Right' a.s W ha.1
  have hP := fun W (_ : Below w0.heap.size w0 W) => r08Right' a.p W ha.2.1
  have hO := fun W (_ : Below w0.heap.size w0 W) => r08Right' a.o W ha.2.2
  have HB0 := Lib.hid hb0
  clear hga hb0
  have hB1 := Below.refl w0.heap.size w0
  cases hr1 : rightB a.s
  · rw [hr1] at hS
    rw [hr1] at HT
    clear hr1
    go_wp2_with (first | (go_at_call 21; (first | with_reducible refine (hS _ (by assumption)).mono ?_ | with_reducible refine (hP _ (by assumption)).mono ?_ | with_reducible refine (hO _ (by assumption)).mono ?_); rintro e V1 ⟨rfl, k1⟩; have hB2 := below_tr hB1 k1; replace a0 := cell_on a0 k1; replace a1 := cell_on a1 k1; replace a2 := cell_on a2 k1; replace a3 := cell_on a3 k1; replace a4 := cell_on a4 k1; replace a5 := cell_on a5 k1; replace a6 := cell_on a6 k1; replace a7 := cell_on a7 k1; replace a8 := cell_on a8 k1; replace a9 := cell_on a9 k1; replace a10 := cell_on a10 k1; replace a11 := cell_on a11 k1; clear hB1; rename Below w0.heap.size w0 _ => hB1; clear k1))
    go_ret
    exact ⟨by rw [HT.out]; simp, HB0.out.trans (hB1.mono HB0.out.size)⟩
  · cases hr2 : rightB a.p
    · rw [hr1] at hS
      rw [hr2] at hP
      rw [hr1, hr2] at HT
      clear hr1 hr2
      go_wp2_with (first | (go_at_call 21; (first | with_reducible refine (hS _ (by assumption)).mono ?_ | with_reducible refine (hP _ (by assumption)).mono ?_ | with_reducible refine (hO _ (by assumption)).mono ?_); rintro e V1 ⟨rfl, k1⟩; have hB2 := below_tr hB1 k1; replace a0 := cell_on a0 k1; replace a1 := cell_on a1 k1; replace a2 := cell_on a2 k1; replace a3 := cell_on a3 k1; replace a4 := cell_on a4 k1; replace a5 := cell_on a5 k1; replace a6 := cell_on a6 k1; replace a7 := cell_on a7 k1; replace a8 := cell_on a8 k1; replace a9 := cell_on a9 k1; replace a10 := cell_on a10 k1; replace a11 := cell_on a11 k1; clear hB1; rename Below w0.heap.size w0 _ => hB1; clear k1))
      go_ret
      exact ⟨by rw [HT.out]; simp, HB0.out.trans (hB1.mono HB0.out.size)⟩
    · cases hr3 : rightB a.o
      · rw [hr1] at hS
        rw [hr2] at hP
        rw [hr3] at hO
        rw [hr1, hr2, hr3] at HT
        clear hr1 hr2 hr3
        go_wp2_with (first | (go_at_call 21; (first | with_reducible refine (hS _ (by assumption)).mono ?_ | with_reducible refine (hP _ (by assumption)).mono ?_ | with_reducible refine (hO _ (by assumption)).mono ?_); rintro e V1 ⟨rfl, k1⟩; have hB2 := below_tr hB1 k1; replace a0 := cell_on a0 k1; replace a1 := cell_on a1 k1; replace a2 := cell_on a2 k1; replace a3 := cell_on a3 k1; replace a4 := cell_on a4 k1; replace a5 := cell_on a5 k1; replace a6 := cell_on a6 k1; replace a7 := cell_on a7 k1; replace a8 := cell_on a8 k1; replace a9 := cell_on a9 k1; replace a10 := cell_on a10 k1; replace a11 := cell_on a11 k1; clear hB1; rename Below w0.heap.size w0 _ => hB1; clear k1))
        go_ret
        exact ⟨by rw [HT.out]; simp, HB0.out.trans (hB1.mono HB0.out.size)⟩
      · cases hk1 : (a.s.k == 1)
        · cases hk2 : (a.s.k == 2)
          · rw [hr1] at hS
            rw [hr2] at hP
            rw [hr3] at hO
            rw [hr1, hr2, hr3, hk1, hk2] at HT
            clear hr1 hr2 hr3
            go_wp2_with (first | (go_at_call 21; (first | with_reducible refine (hS _ (by assumption)).mono ?_ | with_reducible refine (hP _ (by assumption)).mono ?_ | with_reducible refine (hO _ (by assumption)).mono ?_); rintro e V1 ⟨rfl, k1⟩; have hB2 := below_tr hB1 k1; replace a0 := cell_on a0 k1; replace a1 := cell_on a1 k1; replace a2 := cell_on a2 k1; replace a3 := cell_on a3 k1; replace a4 := cell_on a4 k1; replace a5 := cell_on a5 k1; replace a6 := cell_on a6 k1; replace a7 := cell_on a7 k1; replace a8 := cell_on a8 k1; replace a9 := cell_on a9 k1; replace a10 := cell_on a10 k1; replace a11 := cell_on a11 k1; clear hB1; rename Below w0.heap.size w0 _ => hB1; clear k1))
            go_ret
            exact ⟨by rw [HT.out]; simp, HB0.out.trans (hB1.mono HB0.out.size)⟩
          · cases hk3 : (a.p.k == 1)
            · rw [hr1] at hS
              rw [hr2] at hP
              rw [hr3] at hO
              rw [hr1, hr2, hr3, hk1, hk2, hk3] at HT
              clear hr1 hr2 hr3
              go_wp2_with (first | (go_at_call 21; (first | with_reducible refine (hS _ (by assumption)).mono ?_ | with_reducible refine (hP _ (by assumption)).mono ?_ | with_reducible refine (hO _ (by assumption)).mono ?_); rintro e V1 ⟨rfl, k1⟩; have hB2 := below_tr hB1 k1; replace a0 := cell_on a0 k1; replace a1 := cell_on a1 k1; replace a2 := cell_on a2 k1; replace a3 := cell_on a3 k1; replace a4 := cell_on a4 k1; replace a5 := cell_on a5 k1; replace a6 := cell_on a6 k1; replace a7 := cell_on a7 k1; replace a8 := cell_on a8 k1; replace a9 := cell_on a9 k1; replace a10 := cell_on a10 k1; replace a11 := cell_on a11 k1; clear hB1; rename Below w0.heap.size w0 _ => hB1; clear k1))
              go_ret
              exact ⟨by rw [HT.out]; simp, HB0.out.trans (hB1.mono HB0.out.size)⟩
            · rw [hr1] at hS
              rw [hr2] at hP
              rw [hr3] at hO
              rw [hr1, hr2, hr3, hk1, hk2, hk3] at HT
              clear hr1 hr2 hr3
              go_wp2_with (first | (go_at_call 21; (first | with_reducible refine (hS _ (by assumption)).mono ?_ | with_reducible refine (hP _ (by assumption)).mono ?_ | with_reducible refine (hO _ (by assumption)).mono ?_); rintro e V1 ⟨rfl, k1⟩; have hB2 := below_tr hB1 k1; replace a0 := cell_on a0 k1; replace a1 := cell_on a1 k1; replace a2 := cell_on a2 k1; replace a3 := cell_on a3 k1; replace a4 := cell_on a4 k1; replace a5 := cell_on a5 k1; replace a6 := cell_on a6 k1; replace a7 := cell_on a7 k1; replace a8 := cell_on a8 k1; replace a9 := cell_on a9 k1; replace a10 := cell_on a10 k1; replace a11 := cell_on a11 k1; clear hB1; rename Below w0.heap.size w0 _ => hB1; clear k1))
              go_ret
              exact ⟨by rw [HT.out]; simp, HB0.out.trans (hB1.mono HB0.out.size)⟩
        · cases hk3 : (a.p.k == 1)
          · rw [hr1] at hS
            rw [hr2] at hP
            rw [hr3] at hO
            rw [hr1, hr2, hr3, hk1, hk3] at HT
            clear hr1 hr2 hr3
            go_wp2_with (first | (go_at_call 21; (first | with_reducible refine (hS _ (by assumption)).mono ?_ | with_reducible refine (hP _ (by assumption)).mono ?_ | with_reducible refine (hO _ (by assumption)).mono ?_); rintro e V1 ⟨rfl, k1⟩; have hB2 := below_tr hB1 k1; replace a0 := cell_on a0 k1; replace a1 := cell_on a1 k1; replace a2 := cell_on a2 k1; replace a3 := cell_on a3 k1; replace a4 := cell_on a4 k1; replace a5 := cell_on a5 k1; replace a6 := cell_on a6 k1; replace a7 := cell_on a7 k1; replace a8 := cell_on a8 k1; replace a9 := cell_on a9 k1; replace a10 := cell_on a10 k1; replace a11 := cell_on a11 k1; clear hB1; rename Below w0.heap.size w0 _ => hB1; clear k1))
            go_ret
            exact ⟨by rw [HT.out]; simp, HB0.out.trans (hB1.mono HB0.out.size)⟩
          · rw [hr1] at hS
            rw [hr2] at hP
            rw [hr3] at hO
            rw [hr1, hr2, hr3, hk1, hk3] at HT
            clear hr1 hr2 hr3
            go_wp2_with (first | (go_at_call 21; (first | with_reducible refine (hS _ (by assumption)).mono ?_ | with_reducible refine (hP _ (by assumption)).mono ?_ | with_reducible refine (hO _ (by assumption)).mono ?_); rintro e V1 ⟨rfl, k1⟩; have hB2 := below_tr hB1 k1; replace a0 := cell_on a0 k1; replace a1 := cell_on a1 k1; replace a2 := cell_on a2 k1; replace a3 := cell_on a3 k1; replace a4 := cell_on a4 k1; replace a5 := cell_on a5 k1; replace a6 := cell_on a6 k1; replace a7 := cell_on a7 k1; replace a8 := cell_on a8 k1; replace a9 := cell_on a9 k1; replace a10 := cell_on a10 k1; replace a11 := cell_on a11 k1; clear hB1; rename Below w0.heap.size w0 _ => hB1; clear k1))
            go_ret
            exact ⟨by rw [HT.out]; simp, HB0.out.trans (hB1.mono HB0.out.size)⟩
end Go.Proofs.YtheeklkcaapkbaaGreatDoor
