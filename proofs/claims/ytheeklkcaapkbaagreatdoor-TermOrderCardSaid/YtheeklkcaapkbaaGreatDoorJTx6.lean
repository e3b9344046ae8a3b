/- The program's package term, walked: Triples. -/
import Derived.Test.YtheeklkcaapkbaaGreatDoorJTx5
namespace Go.Proofs.YtheeklkcaapkbaaGreatDoor
open Go Go.RowKit Um Fm Tx

abbrev tpC (t : Tp) : Array Value := #[.int .i64 t.s.k, .string t.s.x, .string t.s.l, .string t.s.y, .int .i64 t.p.k, .string t.p.x, .string t.p.l, .string t.p.y, .int .i64 t.o.k, .string t.o.x, .string t.o.l, .string t.o.y]
abbrev tpA (t : Tp) : Value := .agg (tpC t)
def smallP (t : Tp) : Prop := smallT t.s ∧ smallT t.p ∧ smallT t.o
theorem cmpTp_or (a b : Tp) : cmpTp a b = orL [cmpTm a.s b.s, cmpTm a.p b.p, cmpTm a.o b.o] := by
  unfold cmpTp
  simp only [orL_cons]
  rw [show orL [] = 0 from rfl, orZ_right]
theorem cells_at {w : World} {g : Nat} {cs : Array Value} {T : TypeId} (h : w.heap[g]? = some (Obj.cells cs T (0, 0))) (i : Nat) {v : Value} (hv : cs[i]? = some v) : w.cell? ⟨g, i, none⟩ = some v := by
  rw [Lib.cell_of_heap h]; exact hv
set_option maxHeartbeats 4000000 in
set_option maxRecDepth 100000 in
theorem termTriples (a b : Tp) (w : World) (hC : CtxT w) (ha : smallP a) (hb : smallP b) :
    Calls Tryz.prog 14 #[tpA a, tpA b] w fun e w' => e = .returned (.int .i64 (cmpTp a b)) ∧ Below w.heap.size w w' := by
  have hba : Below w.heap.size w (w.alloc (.cells (tpC a) 31)) := (Below.refl _ w).alloc (Nat.le_refl _) _
  have hga := heap_alloc_new w (.cells (tpC a) 31)
  have hza : (w.alloc (.cells (tpC a) 31)).heap.size = w.heap.size + 1 := by simp
  go_enter Tryz.func14, Tryz.ntmps14
  go_upto_region 1 with fail
  change Code.wp _ _ _ _ ((w.alloc (.cells (tpC a) 31)).alloc (.cells (tpC b) 31))
  generalize w.alloc (.cells (tpC a) 31) = wa at *
  have hbb : Below wa.heap.size wa (wa.alloc (.cells (tpC b) 31)) := (Below.refl _ wa).alloc (Nat.le_refl _) _
  have hgb := heap_alloc_new wa (.cells (tpC b) 31)
  have hga2 := below_blk (_B := 0) hbb hga
  rw [hza] at hgb
  generalize wa.alloc (.cells (tpC b) 31) = w0 at *
  have hb0 : Below w.heap.size w w0 := below_tr hba hbb
  have hC0 := hC.step hb0
  have hsz : w.heap.size ≤ w0.heap.size := hb0.size
  have h1 := fun W hB => termCompare a.s b.s W (hC0.step hB) ha.1 hb.1
  have h2 := fun W hB => termCompare a.p b.p W (hC0.step hB) ha.2.1 hb.2.1
  have h3 := fun W hB => termCompare a.o b.o W (hC0.step hB) ha.2.2 hb.2.2
  have HE := Lib.hid (cmpTp_or a b)
  have HB0 := Lib.hid hb0
  clear hza hba hbb hb0 hC hC0
  refine Rf.wp_region_pl w0.heap.size _ (Rf.Pl.quiet [0, 1, 2, 3, 5, 6, 7, 8, 10, 11, 12, 13] (Rf.Pl.one 4 (Rf.Pl.one 9 (Rf.Pl.one 14 (Rf.Pl.one 15 (Rf.Pl.one 16 (Rf.Pl.quiet [17] (Rf.Pl.done)))))))) _ (by kernel_rfl) (by kernel_rfl) (by simp only [Rf.Pl.pick, Rf.pickO, List.map_cons, List.map_nil, Rg.pickOps, List.getElem?_toArray, List.getElem?_cons_zero, List.getElem?_cons_succ, Option.getD_some]; rfl) ?_ (fun a w h => h)
  intro wd hbd hwz
  have p0 := cellL (cells_at hga2 0 rfl) hbd
  have p1 := cellL (cells_at hga2 1 rfl) hbd
  have p2 := cellL (cells_at hga2 2 rfl) hbd
  have p3 := cellL (cells_at hga2 3 rfl) hbd
  have p4 := cellL (cells_at hga2 4 rfl) hbd
  have p5 := cellL (cells_at hga2 5 rfl) hbd
  have p6 := cellL (cells_at hga2 6 rfl) hbd
  have p7 := cellL (cells_at hga2 7 rfl) hbd
  have p8 := cellL (cells_at hga2 8 rfl) hbd
  have p9 := cellL (cells_at hga2 9 rfl) hbd
  have p10 := cellL (cells_at hga2 10 rfl) hbd
  have p11 := cellL (cells_at hga2 11 rfl) hbd
  have q0 := cellL (cells_at hgb 0 rfl) hbd
  have q1 := cellL (cells_at hgb 1 rfl) hbd
  have q2 := cellL (cells_at hgb 2 rfl) hbd
  have q3 := cellL (cells_at hgb 3 rfl) hbd
  have q4 := cellL (cells_at hgb 4 rfl) hbd
  have q5 := cellL (cells_at hgb 5 rfl) hbd
  have q6 := cellL (cells_at hgb 6 rfl) hbd
  have q7 := cellL (cells_at hgb 7 rfl) hbd
  have q8 := cellL (cells_at hgb 8 rfl) hbd
  have q9 := cellL (cells_at hgb 9 rfl) hbd
  have q10 := cellL (cells_at hgb 10 rfl) hbd
  have q11 := cellL (cells_at hgb 11 rfl) hbd
  have HD := Lib.hid hbd
  clear hwz hbd hga hga2 hgb
  generalize cmpTm a.s b.s = n1 at *
  generalize cmpTm a.p b.p = n2 at *
  generalize cmpTm a.o b.o = n3 at *
  refine Rf.pl_quiet ?_
  iterate 12 go_big_quiet_step (fail)
  refine wpQuiet_nil (Rf.pl_one ?_)
  clear p0 p1 p2 p3 p4 p5 p6 p7 p8 p9 p10 p11 q0 q1 q2 q3 q4 q5 q6 q7 q8 q9 q10 q11
  go_wp2_with (go_at_call 11; with_reducible refine (h1 _ HD.out).mono ?_; rintro e V1 ⟨rfl, k1⟩)
  have F1 := below_tr HD.out k1
  refine ⟨k1.mono HD.out.size, Rf.pl_one ?_⟩
  go_wp2_with (go_at_call 11; with_reducible refine (h2 _ F1).mono ?_; rintro e V2 ⟨rfl, k2⟩)
  have F2 := below_tr F1 k2
  refine ⟨k2.mono F1.size, Rf.pl_one ?_⟩
  go_wp2_with (go_at_call 11; with_reducible refine (h3 _ F2).mono ?_; rintro e V3 ⟨rfl, k3⟩)
  have F3 := below_tr F2 k3
  refine ⟨k3.mono F2.size, Rf.pl_one ?_⟩
  have hV := F3.size
  have h5 := cmpOr V3.heap.size [n1, n2, n3] 3 3 (V3.alloc (.cells #[.int .i64 n1, .int .i64 n2, .int .i64 n3] 3)) (Rd.of_block (heap_alloc_new V3 _) rfl) rfl (by omega)
  have H6 := Lib.hid ((Below.refl w0.heap.size V3).alloc hV (.cells #[.int .i64 n1, .int .i64 n2, .int .i64 n3] 3))
  have HF3 := Lib.hid F3
  clear k1 k2 k3 F1 F2 F3 h1 h2 h3
  go_wp2_with fail
  refine ⟨H6.out, Rf.pl_one ?_⟩
  go_wp2_with (go_at_call 34; with_reducible refine h5.mono ?_; rintro e V4 ⟨rfl, rfl⟩)
  refine ⟨Below.refl _ _, Rf.pl_quiet ?_⟩
  iterate 1 go_big_quiet_step (fail)
  refine wpQuiet_nil (Rf.pl_done ?_)
  go_wp2
  go_ret
  exact ⟨by rw [HE.out]; rfl, HB0.out.trans ((HF3.out.trans H6.out).mono hsz)⟩
end Go.Proofs.YtheeklkcaapkbaaGreatDoor
