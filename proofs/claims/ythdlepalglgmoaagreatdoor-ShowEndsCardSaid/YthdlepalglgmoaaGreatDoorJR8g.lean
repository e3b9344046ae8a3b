/- Triples that may be: the program's, the answer's. Printed by gen/r8e.py. strconv.ParseUint at base 16, of eight bits. The program's package term, walked: raw. Printed by gen/txraw.py. The program's package term, walked: guess, Parse. Printed by gen/txguess.py. Literals with a tag, with a type: the answer's, the program's. -/
import Derived.Test.YthdlepalglgmoaaGreatDoorJR8e
import Derived.Test.YthdlepalglgmoaaGreatDoorJTxMath
import Derived.Lib.ConvBytes
import Derived.Lib.AtoiAllMem
import Derived.Lib.Walk
import Derived.Laws.Closers25
import Derived.Laws.Closers25b
import Derived.BigCall
import Derived.BigGuard
import Derived.Test.YthdlepalglgmoaaGreatDoorJUtfNext
import Derived.Test.YthdlepalglgmoaaGreatDoorJUtfProg2b
import Derived.Test.YthdlepalglgmoaaGreatDoorJTxRd
import Derived.Lib.UnsafeStr
namespace Go.Proofs.YthdlepalglgmoaaGreatDoor
open Go Go.RowKit Um Fm Lx Tx

set_option maxHeartbeats 8000000 in
set_option maxRecDepth 100000 in
theorem termTriple (a : Tp) (w : World) (hC : CtxT w) (ha : smallP a) :
    Calls Tryz.prog 25 #[tpA a] w fun e w' => e = .returned (.bool (tripB a)) ∧ Below w.heap.size w w' := by
  have hb0 : Below w.heap.size w (w.alloc (.cells (tpC a) 29)) := (Below.refl _ w).alloc (Nat.le_refl _) _
  have hga := heap_alloc_new w (.cells (tpC a) 29)
  obtain ⟨res, hres⟩ : ∃ r, tripB a = r := ⟨_, rfl⟩
  rw [hres]
  have HT : Hid (res = ((a.s.k == 1 || a.s.k == 2) && a.p.k == 1 && rightB a.s && rightB a.p && rightB a.o)) := by show _ = _; rw [← hres]; rfl
  clear hres
  have hC0 := hC.step hb0
  go_enter Tryz.func25, Tryz.ntmps25
  go_upto_region 1 with fail
  change Code.wp _ _ _ _ (w.alloc (.cells (tpC a) 29))
  generalize w.alloc (.cells (tpC a) 29) = w0 at *
  have a0 := cells_at hga 0 rfl
  have a1 := cells_at hga 1 rfl
  have a2 := cells_at hga 2 rfl
  have a3 := cells_at hga 3 rfl
  have a4 := cells_at hga 4 rfl
  have a5 := cells_at hga 5 rfl
  have a6 := cells_at hga 6 rfl
  have a7 := cells_at hga 7 rfl
  have a8 := cells_at hga 8 rfl
  have a9 := cells_at hga 9 rfl
  have a10 := cells_at hga 10 rfl
  have a11 := cells_at hga 11 rfl
  have hS := fun W hb => termRight' a.s W (hC0.step hb) ha.1
  have hP := fun W hb => termRight' a.p W (hC0.step hb) ha.2.1
  have hO := fun W hb => termRight' a.o W (hC0.step hb) ha.2.2
  have HB0 := Lib.hid hb0
  clear hga hb0 hC hC0
  have hB1 := Below.refl w0.heap.size w0
  cases hk1 : (a.s.k == 1)
  · cases hk2 : (a.s.k == 2)
    · rw [hk1, hk2] at HT
      go_wp2_with (first | (go_at_call 37; (first | with_reducible refine (hS _ (by assumption)).mono ?_ | with_reducible refine (hP _ (by assumption)).mono ?_ | with_reducible refine (hO _ (by assumption)).mono ?_); rintro e V1 ⟨rfl, k1⟩; have hB2 := below_tr hB1 k1; replace a0 := cell_on a0 k1; replace a1 := cell_on a1 k1; replace a2 := cell_on a2 k1; replace a3 := cell_on a3 k1; replace a4 := cell_on a4 k1; replace a5 := cell_on a5 k1; replace a6 := cell_on a6 k1; replace a7 := cell_on a7 k1; replace a8 := cell_on a8 k1; replace a9 := cell_on a9 k1; replace a10 := cell_on a10 k1; replace a11 := cell_on a11 k1; clear hB1; rename Below w0.heap.size w0 _ => hB1; clear k1))
      go_ret
      exact ⟨by rw [HT.out]; simp, HB0.out.trans (hB1.mono HB0.out.size)⟩
    · cases hk3 : (a.p.k == 1)
      · rw [hk1, hk2, hk3] at HT
        go_wp2_with (first | (go_at_call 37; (first | with_reducible refine (hS _ (by assumption)).mono ?_ | with_reducible refine (hP _ (by assumption)).mono ?_ | with_reducible refine (hO _ (by assumption)).mono ?_); rintro e V1 ⟨rfl, k1⟩; have hB2 := below_tr hB1 k1; replace a0 := cell_on a0 k1; replace a1 := cell_on a1 k1; replace a2 := cell_on a2 k1; replace a3 := cell_on a3 k1; replace a4 := cell_on a4 k1; replace a5 := cell_on a5 k1; replace a6 := cell_on a6 k1; replace a7 := cell_on a7 k1; replace a8 := cell_on a8 k1; replace a9 := cell_on a9 k1; replace a10 := cell_on a10 k1; replace a11 := cell_on a11 k1; clear hB1; rename Below w0.heap.size w0 _ => hB1; clear k1))
        go_ret
        exact ⟨by rw [HT.out]; simp, HB0.out.trans (hB1.mono HB0.out.size)⟩
      · cases hr1 : rightB a.s
        · rw [hr1] at hS
          rw [hk1, hk2, hk3, hr1] at HT
          clear hr1
          go_wp2_with (first | (go_at_call 37; (first | with_reducible refine (hS _ (by assumption)).mono ?_ | with_reducible refine (hP _ (by assumption)).mono ?_ | with_reducible refine (hO _ (by assumption)).mono ?_); rintro e V1 ⟨rfl, k1⟩; have hB2 := below_tr hB1 k1; replace a0 := cell_on a0 k1; replace a1 := cell_on a1 k1; replace a2 := cell_on a2 k1; replace a3 := cell_on a3 k1; replace a4 := cell_on a4 k1; replace a5 := cell_on a5 k1; replace a6 := cell_on a6 k1; replace a7 := cell_on a7 k1; replace a8 := cell_on a8 k1; replace a9 := cell_on a9 k1; replace a10 := cell_on a10 k1; replace a11 := cell_on a11 k1; clear hB1; rename Below w0.heap.size w0 _ => hB1; clear k1))
          go_ret
          exact ⟨by rw [HT.out]; simp, HB0.out.trans (hB1.mono HB0.out.size)⟩
        · cases hr2 : rightB a.p
          · rw [hr1] at hS
            rw [hr2] at hP
            rw [hk1, hk2, hk3, hr1, hr2] at HT
            clear hr1 hr2
            go_wp2_with (first | (go_at_call 37; (first | with_reducible refine (hS _ (by assumption)).mono ?_ | with_reducible refine (hP _ (by assumption)).mono ?_ | with_reducible refine (hO _ (by assumption)).mono ?_); rintro e V1 ⟨rfl, k1⟩; have hB2 := below_tr hB1 k1; replace a0 := cell_on a0 k1; replace a1 := cell_on a1 k1; replace a2 := cell_on a2 k1; replace a3 := cell_on a3 k1; replace a4 := cell_on a4 k1; replace a5 := cell_on a5 k1; replace a6 := cell_on a6 k1; replace a7 := cell_on a7 k1; replace a8 := cell_on a8 k1; replace a9 := cell_on a9 k1; replace a10 := cell_on a10 k1; replace a11 := cell_on a11 k1; clear hB1; rename Below w0.heap.size w0 _ => hB1; clear k1))
            go_ret
            exact ⟨by rw [HT.out]; simp, HB0.out.trans (hB1.mono HB0.out.size)⟩
          · cases hr3 : rightB a.o
            · rw [hr1] at hS
              rw [hr2] at hP
              rw [hr3] at hO
              rw [hk1, hk2, hk3, hr1, hr2, hr3] at HT
              clear hr1 hr2 hr3
              go_wp2_with (first | (go_at_call 37; (first | with_reducible refine (hS _ (by assumption)).mono ?_ | with_reducible refine (hP _ (by assumption)).mono ?_ | with_reducible refine (hO _ (by assumption)).mono ?_); rintro e V1 ⟨rfl, k1⟩; have hB2 := below_tr hB1 k1; replace a0 := cell_on a0 k1; replace a1 := cell_on a1 k1; replace a2 := cell_on a2 k1; replace a3 := cell_on a3 k1; replace a4 := cell_on a4 k1; replace a5 := cell_on a5 k1; replace a6 := cell_on a6 k1; replace a7 := cell_on a7 k1; replace a8 := cell_on a8 k1; replace a9 := cell_on a9 k1; replace a10 := cell_on a10 k1; replace a11 := cell_on a11 k1; clear hB1; rename Below w0.heap.size w0 _ => hB1; clear k1))
              go_ret
              exact ⟨by rw [HT.out]; simp, HB0.out.trans (hB1.mono HB0.out.size)⟩
            · rw [hr1] at hS
              rw [hr2] at hP
              rw [hr3] at hO
              rw [hk1, hk2, hk3, hr1, hr2, hr3] at HT
              clear hr1 hr2 hr3
              go_wp2_with (first | (go_at_call 37; (first | with_reducible refine (hS _ (by assumption)).mono ?_ | with_reducible refine (hP _ (by assumption)).mono ?_ | with_reducible refine (hO _ (by assumption)).mono ?_); rintro e V1 ⟨rfl, k1⟩; have hB2 := below_tr hB1 k1; replace a0 := cell_on a0 k1; replace a1 := cell_on a1 k1; replace a2 := cell_on a2 k1; replace a3 := cell_on a3 k1; replace a4 := cell_on a4 k1; replace a5 := cell_on a5 k1; replace a6 := cell_on a6 k1; replace a7 := cell_on a7 k1; replace a8 := cell_on a8 k1; replace a9 := cell_on a9 k1; replace a10 := cell_on a10 k1; replace a11 := cell_on a11 k1; clear hB1; rename Below w0.heap.size w0 _ => hB1; clear k1))
              go_ret
              exact ⟨by rw [HT.out]; simp, HB0.out.trans (hB1.mono HB0.out.size)⟩
  · cases hk3 : (a.p.k == 1)
    · rw [hk1, hk3] at HT
      go_wp2_with (first | (go_at_call 37; (first | with_reducible refine (hS _ (by assumption)).mono ?_ | with_reducible refine (hP _ (by assumption)).mono ?_ | with_reducible refine (hO _ (by assumption)).mono ?_); rintro e V1 ⟨rfl, k1⟩; have hB2 := below_tr hB1 k1; replace a0 := cell_on a0 k1; replace a1 := cell_on a1 k1; replace a2 := cell_on a2 k1; replace a3 := cell_on a3 k1; replace a4 := cell_on a4 k1; replace a5 := cell_on a5 k1; replace a6 := cell_on a6 k1; replace a7 := cell_on a7 k1; replace a8 := cell_on a8 k1; replace a9 := cell_on a9 k1; replace a10 := cell_on a10 k1; replace a11 := cell_on a11 k1; clear hB1; rename Below w0.heap.size w0 _ => hB1; clear k1))
      go_ret
      exact ⟨by rw [HT.out]; simp, HB0.out.trans (hB1.mono HB0.out.size)⟩
    · cases hr1 : rightB a.s
      · rw [hr1] at hS
        rw [hk1, hk3, hr1] at HT
        clear hr1
        go_wp2_with (first | (go_at_call 37; (first | with_reducible refine (hS _ (by assumption)).mono ?_ | with_reducible refine (hP _ (by assumption)).mono ?_ | with_reducible refine (hO _ (by assumption)).mono ?_); rintro e V1 ⟨rfl, k1⟩; have hB2 := below_tr hB1 k1; replace a0 := cell_on a0 k1; replace a1 := cell_on a1 k1; replace a2 := cell_on a2 k1; replace a3 := cell_on a3 k1; replace a4 := cell_on a4 k1; replace a5 := cell_on a5 k1; replace a6 := cell_on a6 k1; replace a7 := cell_on a7 k1; replace a8 := cell_on a8 k1; replace a9 := cell_on a9 k1; replace a10 := cell_on a10 k1; replace a11 := cell_on a11 k1; clear hB1; rename Below w0.heap.size w0 _ => hB1; clear k1))
        go_ret
        exact ⟨by rw [HT.out]; simp, HB0.out.trans (hB1.mono HB0.out.size)⟩
      · cases hr2 : rightB a.p
        · rw [hr1] at hS
          rw [hr2] at hP
          rw [hk1, hk3, hr1, hr2] at HT
          clear hr1 hr2
          go_wp2_with (first | (go_at_call 37; (first | with_reducible refine (hS _ (by assumption)).mono ?_ | with_reducible refine (hP _ (by assumption)).mono ?_ | with_reducible refine (hO _ (by assumption)).mono ?_); rintro e V1 ⟨rfl, k1⟩; have hB2 := below_tr hB1 k1; replace a0 := cell_on a0 k1; replace a1 := cell_on a1 k1; replace a2 := cell_on a2 k1; replace a3 := cell_on a3 k1; replace a4 := cell_on a4 k1; replace a5 := cell_on a5 k1; replace a6 := cell_on a6 k1; replace a7 := cell_on a7 k1; replace a8 := cell_on a8 k1; replace a9 := cell_on a9 k1; replace a10 := cell_on a10 k1; replace a11 := cell_on a11 k1; clear hB1; rename Below w0.heap.size w0 _ => hB1; clear k1))
          go_ret
          exact ⟨by rw [HT.out]; simp, HB0.out.trans (hB1.mono HB0.out.size)⟩
        · cases hr3 : rightB a.o
          · rw [hr1] at hS
            rw [hr2] at hP
            rw [hr3] at hO
            rw [hk1, hk3, hr1, hr2, hr3] at HT
            clear hr1 hr2 hr3
            go_wp2_with (first | (go_at_call 37; (first | with_reducible refine (hS _ (by assumption)).mono ?_ | with_reducible refine (hP _ (by assumption)).mono ?_ | with_reducible refine (hO _ (by assumption)).mono ?_); rintro e V1 ⟨rfl, k1⟩; have hB2 := below_tr hB1 k1; replace a0 := cell_on a0 k1; replace a1 := cell_on a1 k1; replace a2 := cell_on a2 k1; replace a3 := cell_on a3 k1; replace a4 := cell_on a4 k1; replace a5 := cell_on a5 k1; replace a6 := cell_on a6 k1; replace a7 := cell_on a7 k1; replace a8 := cell_on a8 k1; replace a9 := cell_on a9 k1; replace a10 := cell_on a10 k1; replace a11 := cell_on a11 k1; clear hB1; rename Below w0.heap.size w0 _ => hB1; clear k1))
            go_ret
            exact ⟨by rw [HT.out]; simp, HB0.out.trans (hB1.mono HB0.out.size)⟩
          · rw [hr1] at hS
            rw [hr2] at hP
            rw [hr3] at hO
            rw [hk1, hk3, hr1, hr2, hr3] at HT
            clear hr1 hr2 hr3
            go_wp2_with (first | (go_at_call 37; (first | with_reducible refine (hS _ (by assumption)).mono ?_ | with_reducible refine (hP _ (by assumption)).mono ?_ | with_reducible refine (hO _ (by assumption)).mono ?_); rintro e V1 ⟨rfl, k1⟩; have hB2 := below_tr hB1 k1; replace a0 := cell_on a0 k1; replace a1 := cell_on a1 k1; replace a2 := cell_on a2 k1; replace a3 := cell_on a3 k1; replace a4 := cell_on a4 k1; replace a5 := cell_on a5 k1; replace a6 := cell_on a6 k1; replace a7 := cell_on a7 k1; replace a8 := cell_on a8 k1; replace a9 := cell_on a9 k1; replace a10 := cell_on a10 k1; replace a11 := cell_on a11 k1; clear hB1; rename Below w0.heap.size w0 _ => hB1; clear k1))
            go_ret
            exact ⟨by rw [HT.out]; simp, HB0.out.trans (hB1.mono HB0.out.size)⟩
set_option maxHeartbeats 8000000 in
set_option maxRecDepth 100000 in
theorem r08Triple (a : Tp) (w : World) (ha : smallP a) :
    Calls Tryz.prog 27 #[tpA a] w fun e w' => e = .returned (.bool (tripB a)) ∧ Below w.heap.size w w' := by
  have hb0 : Below w.heap.size w (w.alloc (.cells (tpC a) 29)) := (Below.refl _ w).alloc (Nat.le_refl _) _
  have hga := heap_alloc_new w (.cells (tpC a) 29)
  obtain ⟨res, hres⟩ : ∃ r, tripB a = r := ⟨_, rfl⟩
  rw [hres]
  have HT : Hid (res = ((a.s.k == 1 || a.s.k == 2) && a.p.k == 1 && rightB a.s && rightB a.p && rightB a.o)) := by show _ = _; rw [← hres]; rfl
  clear hres
  go_enter Tryz.func27, Tryz.ntmps27
  go_upto_region 1 with fail
  change Code.wp _ _ _ _ (w.alloc (.cells (tpC a) 29))
  generalize w.alloc (.cells (tpC a) 29) = w0 at *
  have a0 := cells_at hga 0 rfl
  have a1 := cells_at hga 1 rfl
  have a2 := cells_at hga 2 rfl
  have a3 := cells_at hga 3 rfl
  have a4 := cells_at hga 4 rfl
  have a5 := cells_at hga 5 rfl
  have a6 := cells_at hga 6 rfl
  have a7 := cells_at hga 7 rfl
  have a8 := cells_at hga 8 rfl
  have a9 := cells_at hga 9 rfl
  have a10 := cells_at hga 10 rfl
  have a11 := cells_at hga 11 rfl
  have hS := fun W (_ : Below w0.heap.size w0 W) => r08Right' a.s W ha.1
  have hP := fun W (_ : Below w0.heap.size w0 W) => r08Right' a.p W ha.2.1
  have hO := fun W (_ : Below w0.heap.size w0 W) => r08Right' a.o W ha.2.2
  have HB0 := Lib.hid hb0
  clear hga hb0
  have hB1 := Below.refl w0.heap.size w0
  cases hr1 : rightB a.s
  · rw [hr1] at hS
    rw [hr1] at HT
    clear hr1
    go_wp2_with (first | (go_at_call 40; (first | with_reducible refine (hS _ (by assumption)).mono ?_ | with_reducible refine (hP _ (by assumption)).mono ?_ | with_reducible refine (hO _ (by assumption)).mono ?_); rintro e V1 ⟨rfl, k1⟩; have hB2 := below_tr hB1 k1; replace a0 := cell_on a0 k1; replace a1 := cell_on a1 k1; replace a2 := cell_on a2 k1; replace a3 := cell_on a3 k1; replace a4 := cell_on a4 k1; replace a5 := cell_on a5 k1; replace a6 := cell_on a6 k1; replace a7 := cell_on a7 k1; replace a8 := cell_on a8 k1; replace a9 := cell_on a9 k1; replace a10 := cell_on a10 k1; replace a11 := cell_on a11 k1; clear hB1; rename Below w0.heap.size w0 _ => hB1; clear k1))
    go_ret
    exact ⟨by rw [HT.out]; simp, HB0.out.trans (hB1.mono HB0.out.size)⟩
  · cases hr2 : rightB a.p
    · rw [hr1] at hS
      rw [hr2] at hP
      rw [hr1, hr2] at HT
      clear hr1 hr2
      go_wp2_with (first | (go_at_call 40; (first | with_reducible refine (hS _ (by assumption)).mono ?_ | with_reducible refine (hP _ (by assumption)).mono ?_ | with_reducible refine (hO _ (by assumption)).mono ?_); rintro e V1 ⟨rfl, k1⟩; have hB2 := below_tr hB1 k1; replace a0 := cell_on a0 k1; replace a1 := cell_on a1 k1; replace a2 := cell_on a2 k1; replace a3 := cell_on a3 k1; replace a4 := cell_on a4 k1; replace a5 := cell_on a5 k1; replace a6 := cell_on a6 k1; replace a7 := cell_on a7 k1; replace a8 := cell_on a8 k1; replace a9 := cell_on a9 k1; replace a10 := cell_on a10 k1; replace a11 := cell_on a11 k1; clear hB1; rename Below w0.heap.size w0 _ => hB1; clear k1))
      go_ret
      exact ⟨by rw [HT.out]; simp, HB0.out.trans (hB1.mono HB0.out.size)⟩
    · cases hr3 : rightB a.o
      · rw [hr1] at hS
        rw [hr2] at hP
        rw [hr3] at hO
        rw [hr1, hr2, hr3] at HT
        clear hr1 hr2 hr3
        go_wp2_with (first | (go_at_call 40; (first | with_reducible refine (hS _ (by assumption)).mono ?_ | with_reducible refine (hP _ (by assumption)).mono ?_ | with_reducible refine (hO _ (by assumption)).mono ?_); rintro e V1 ⟨rfl, k1⟩; have hB2 := below_tr hB1 k1; replace a0 := cell_on a0 k1; replace a1 := cell_on a1 k1; replace a2 := cell_on a2 k1; replace a3 := cell_on a3 k1; replace a4 := cell_on a4 k1; replace a5 := cell_on a5 k1; replace a6 := cell_on a6 k1; replace a7 := cell_on a7 k1; replace a8 := cell_on a8 k1; replace a9 := cell_on a9 k1; replace a10 := cell_on a10 k1; replace a11 := cell_on a11 k1; clear hB1; rename Below w0.heap.size w0 _ => hB1; clear k1))
        go_ret
        exact ⟨by rw [HT.out]; simp, HB0.out.trans (hB1.mono HB0.out.size)⟩
      · cases hk1 : (a.s.k == 1)
        · cases hk2 : (a.s.k == 2)
          · rw [hr1] at hS
            rw [hr2] at hP
            rw [hr3] at hO
            rw [hr1, hr2, hr3, hk1, hk2] at HT
            clear hr1 hr2 hr3
            go_wp2_with (first | (go_at_call 40; (first | with_reducible refine (hS _ (by assumption)).mono ?_ | with_reducible refine (hP _ (by assumption)).mono ?_ | with_reducible refine (hO _ (by assumption)).mono ?_); rintro e V1 ⟨rfl, k1⟩; have hB2 := below_tr hB1 k1; replace a0 := cell_on a0 k1; replace a1 := cell_on a1 k1; replace a2 := cell_on a2 k1; replace a3 := cell_on a3 k1; replace a4 := cell_on a4 k1; replace a5 := cell_on a5 k1; replace a6 := cell_on a6 k1; replace a7 := cell_on a7 k1; replace a8 := cell_on a8 k1; replace a9 := cell_on a9 k1; replace a10 := cell_on a10 k1; replace a11 := cell_on a11 k1; clear hB1; rename Below w0.heap.size w0 _ => hB1; clear k1))
            go_ret
            exact ⟨by rw [HT.out]; simp, HB0.out.trans (hB1.mono HB0.out.size)⟩
          · cases hk3 : (a.p.k == 1)
            · rw [hr1] at hS
              rw [hr2] at hP
              rw [hr3] at hO
              rw [hr1, hr2, hr3, hk1, hk2, hk3] at HT
              clear hr1 hr2 hr3
              go_wp2_with (first | (go_at_call 40; (first | with_reducible refine (hS _ (by assumption)).mono ?_ | with_reducible refine (hP _ (by assumption)).mono ?_ | with_reducible refine (hO _ (by assumption)).mono ?_); rintro e V1 ⟨rfl, k1⟩; have hB2 := below_tr hB1 k1; replace a0 := cell_on a0 k1; replace a1 := cell_on a1 k1; replace a2 := cell_on a2 k1; replace a3 := cell_on a3 k1; replace a4 := cell_on a4 k1; replace a5 := cell_on a5 k1; replace a6 := cell_on a6 k1; replace a7 := cell_on a7 k1; replace a8 := cell_on a8 k1; replace a9 := cell_on a9 k1; replace a10 := cell_on a10 k1; replace a11 := cell_on a11 k1; clear hB1; rename Below w0.heap.size w0 _ => hB1; clear k1))
              go_ret
              exact ⟨by rw [HT.out]; simp, HB0.out.trans (hB1.mono HB0.out.size)⟩
            · rw [hr1] at hS
              rw [hr2] at hP
              rw [hr3] at hO
              rw [hr1, hr2, hr3, hk1, hk2, hk3] at HT
              clear hr1 hr2 hr3
              go_wp2_with (first | (go_at_call 40; (first | with_reducible refine (hS _ (by assumption)).mono ?_ | with_reducible refine (hP _ (by assumption)).mono ?_ | with_reducible refine (hO _ (by assumption)).mono ?_); rintro e V1 ⟨rfl, k1⟩; have hB2 := below_tr hB1 k1; replace a0 := cell_on a0 k1; replace a1 := cell_on a1 k1; replace a2 := cell_on a2 k1; replace a3 := cell_on a3 k1; replace a4 := cell_on a4 k1; replace a5 := cell_on a5 k1; replace a6 := cell_on a6 k1; replace a7 := cell_on a7 k1; replace a8 := cell_on a8 k1; replace a9 := cell_on a9 k1; replace a10 := cell_on a10 k1; replace a11 := cell_on a11 k1; clear hB1; rename Below w0.heap.size w0 _ => hB1; clear k1))
              go_ret
              exact ⟨by rw [HT.out]; simp, HB0.out.trans (hB1.mono HB0.out.size)⟩
        · cases hk3 : (a.p.k == 1)
          · rw [hr1] at hS
            rw [hr2] at hP
            rw [hr3] at hO
            rw [hr1, hr2, hr3, hk1, hk3] at HT
            clear hr1 hr2 hr3
            go_wp2_with (first | (go_at_call 40; (first | with_reducible refine (hS _ (by assumption)).mono ?_ | with_reducible refine (hP _ (by assumption)).mono ?_ | with_reducible refine (hO _ (by assumption)).mono ?_); rintro e V1 ⟨rfl, k1⟩; have hB2 := below_tr hB1 k1; replace a0 := cell_on a0 k1; replace a1 := cell_on a1 k1; replace a2 := cell_on a2 k1; replace a3 := cell_on a3 k1; replace a4 := cell_on a4 k1; replace a5 := cell_on a5 k1; replace a6 := cell_on a6 k1; replace a7 := cell_on a7 k1; replace a8 := cell_on a8 k1; replace a9 := cell_on a9 k1; replace a10 := cell_on a10 k1; replace a11 := cell_on a11 k1; clear hB1; rename Below w0.heap.size w0 _ => hB1; clear k1))
            go_ret
            exact ⟨by rw [HT.out]; simp, HB0.out.trans (hB1.mono HB0.out.size)⟩
          · rw [hr1] at hS
            rw [hr2] at hP
            rw [hr3] at hO
            rw [hr1, hr2, hr3, hk1, hk3] at HT
            clear hr1 hr2 hr3
            go_wp2_with (first | (go_at_call 40; (first | with_reducible refine (hS _ (by assumption)).mono ?_ | with_reducible refine (hP _ (by assumption)).mono ?_ | with_reducible refine (hO _ (by assumption)).mono ?_); rintro e V1 ⟨rfl, k1⟩; have hB2 := below_tr hB1 k1; replace a0 := cell_on a0 k1; replace a1 := cell_on a1 k1; replace a2 := cell_on a2 k1; replace a3 := cell_on a3 k1; replace a4 := cell_on a4 k1; replace a5 := cell_on a5 k1; replace a6 := cell_on a6 k1; replace a7 := cell_on a7 k1; replace a8 := cell_on a8 k1; replace a9 := cell_on a9 k1; replace a10 := cell_on a10 k1; replace a11 := cell_on a11 k1; clear hB1; rename Below w0.heap.size w0 _ => hB1; clear k1))
            go_ret
            exact ⟨by rw [HT.out]; simp, HB0.out.trans (hB1.mono HB0.out.size)⟩
end Go.Proofs.YthdlepalglgmoaaGreatDoor
namespace Go.Proofs.YthdlepalglgmoaaGreatDoor
open Go Go.RowKit Um Lx Tx

end Go.Proofs.YthdlepalglgmoaaGreatDoor
namespace Go.Proofs.YthdlepalglgmoaaGreatDoor
open Go Go.RowKit Um Fm Lx Tx

theorem z10 : (10 : Int) = ((10 : Nat) : Int) := rfl
end Go.Proofs.YthdlepalglgmoaaGreatDoor
namespace Go.Proofs.YthdlepalglgmoaaGreatDoor
open Go Go.RowKit Um Fm Lx Tx

theorem termBlank (s : ByteArray) (w : World) : Calls Tryz.prog 5 #[.string s] w fun e w' => e = .returned (tA ⟨2, s, ⟨#[]⟩, ⟨#[]⟩⟩) ∧ Below w.heap.size w w' := by
  go_enter Tryz.func5, Tryz.ntmps5
  go_wp2
  refine bodyPost_ret (v := tA ⟨2, s, ⟨#[]⟩, ⟨#[]⟩⟩) (by simp [results, Tryz.results5, go_sem]) rfl ⟨rfl, (by repeat (first | exact Below.refl _ _ | assumption | exact (Below.refl _ _).alloc (Nat.le_refl _) _ | refine below_tr ?_ (by assumption) | refine below_alloc ?_ | refine below_tr ?_ (below_regrown _ _ _)))⟩
theorem termLiteral (s : ByteArray) (w : World) : Calls Tryz.prog 6 #[.string s] w fun e w' => e = .returned (tA ⟨3, s, ⟨#[]⟩, ⟨#[]⟩⟩) ∧ Below w.heap.size w w' := by
  go_enter Tryz.func6, Tryz.ntmps6
  go_wp2
  refine bodyPost_ret (v := tA ⟨3, s, ⟨#[]⟩, ⟨#[]⟩⟩) (by simp [results, Tryz.results6, go_sem]) rfl ⟨rfl, (by repeat (first | exact Below.refl _ _ | assumption | exact (Below.refl _ _).alloc (Nat.le_refl _) _ | refine below_tr ?_ (by assumption) | refine below_alloc ?_ | refine below_tr ?_ (below_regrown _ _ _)))⟩
/-- A new term's block. -/
def zT (w : World) (V : World) : Prop := V.heap[w.heap.size]? = some (.cells #[.int .i64 0, .string ⟨#[]⟩, .string ⟨#[]⟩, .string ⟨#[]⟩] 24 (0, 0))
theorem zT.new (w : World) : zT w (w.alloc (.cells #[.int .i64 0, .string ⟨#[]⟩, .string ⟨#[]⟩, .string ⟨#[]⟩] 24)) := heap_alloc_new w _
theorem zT.step {w V V' : World} (h : zT w V) (hb : Below V.heap.size V V') : zT w V' := below_blk hb h
theorem zT.d {w V : World} (h : zT w V) : V.cell? ⟨w.heap.size, 0, none⟩ = some (.int .i64 0) ∧ V.cell? ⟨w.heap.size, 1, none⟩ = some (.string ⟨#[]⟩) ∧ V.cell? ⟨w.heap.size, 2, none⟩ = some (.string ⟨#[]⟩) ∧ V.cell? ⟨w.heap.size, 3, none⟩ = some (.string ⟨#[]⟩) ∧ ∀ i, V.frozen? ⟨w.heap.size, i, none⟩ = false :=
  ⟨by rw [Lib.cell_of_heap h]; rfl, by rw [Lib.cell_of_heap h]; rfl, by rw [Lib.cell_of_heap h]; rfl, by rw [Lib.cell_of_heap h]; rfl, fun i => Lib.frozen_of_heap h i⟩

end Go.Proofs.YthdlepalglgmoaaGreatDoor
namespace Go.Proofs.YthdlepalglgmoaaGreatDoor
open Go Go.RowKit Um Fm Lx Tx

def typedT (s y : ByteArray) : Tm := if (y.toList == xsdL) = true then ⟨3, s, ⟨#[]⟩, ⟨#[]⟩⟩ else ⟨4, s, ⟨#[]⟩, y⟩
theorem typed_yes {s y : ByteArray} (h : (y.toList == xsdL) = true) : typedT s y = ⟨3, s, ⟨#[]⟩, ⟨#[]⟩⟩ := by unfold typedT; rw [if_pos h]
theorem typed_no {s y : ByteArray} (h : (y.toList == xsdL) = false) : typedT s y = ⟨4, s, ⟨#[]⟩, y⟩ := by unfold typedT; rw [if_neg (by rw [h]; decide)]
theorem termTyped (s y : ByteArray) (w : World) : Calls Tryz.prog 8 #[.string s, .string y] w fun e w' => e = .returned (tA (typedT s y)) ∧ Below w.heap.size w w' := by
  have hblk := zT.new w
  have hB0 : Below w.heap.size w (w.alloc (.cells #[.int .i64 0, .string ⟨#[]⟩, .string ⟨#[]⟩, .string ⟨#[]⟩] 24)) := (Below.refl _ w).alloc (Nat.le_refl _) _
  have hLi := fun W => termLiteral s W
  cases hq : (y.toList == xsdL)
  · rw [typed_no hq]
    unfold xsdL at hq
    obtain ⟨d0, d1, d2, d3, f0⟩ := zT.d hblk
    go_enter Tryz.func8, Tryz.ntmps8
    go_wp2
    refine bodyPost_ret (v := tA ⟨4, s, ⟨#[]⟩, y⟩) (by simp [results, Tryz.results8, go_sem]) rfl ⟨rfl, ?_⟩
    exact (by repeat (first | exact Below.refl _ _ | assumption | exact (Below.refl _ _).alloc (Nat.le_refl _) _ | refine below_tr ?_ (by assumption) | refine below_alloc ?_ | refine below_tr ?_ (below_regrown _ _ _)))
  · rw [typed_yes hq]
    unfold xsdL at hq
    have HX := fun V (hb : Below (w.alloc (.cells #[.int .i64 0, .string ⟨#[]⟩, .string ⟨#[]⟩, .string ⟨#[]⟩] 24)).heap.size (w.alloc (.cells #[.int .i64 0, .string ⟨#[]⟩, .string ⟨#[]⟩, .string ⟨#[]⟩] 24)) V) => zT.d (hblk.step hb)
    go_enter Tryz.func8, Tryz.ntmps8
    go_wp2_with (go_at_call 6; with_reducible refine (hLi _).mono ?_; rintro e w1 ⟨rfl, k1⟩; obtain ⟨d0, d1, d2, d3, f0⟩ := HX _ k1; have k2 := below_tr hB0 k1)
    refine bodyPost_ret (v := tA ⟨3, s, ⟨#[]⟩, ⟨#[]⟩⟩) (by simp [results, Tryz.results8, go_sem, d0, d1, d2, d3]) rfl ⟨rfl, ?_⟩
    exact k2.trans (below_set4 (Nat.le_refl _) _ _ _ _)
end Go.Proofs.YthdlepalglgmoaaGreatDoor
