/- The program's package term, walked: Compare. -/
import Derived.Test.YtheeklkcaapkbaaGreatDoorJTx4
namespace Go.Proofs.YtheeklkcaapkbaaGreatDoor
open Go Go.RowKit Um Fm Tx

theorem cmpTm_W {a b : Tm} (ha : rightB a = false) (hb : rightB b = false) : cmpTm a b = orL [Lib.compareInt a.k b.k, cmpS a.x.toList b.x.toList, cmpS a.l.toList b.l.toList, cmpS a.y.toList b.y.toList] := by
  unfold cmpTm cmpW
  rw [ha, hb, if_neg (by decide), if_neg (by decide), if_neg (by decide)]
  simp only [orL_cons, ByteArray.toList_eq]
  rw [show orL [] = 0 from rfl, orZ_right]
set_option maxHeartbeats 4000000 in
set_option maxRecDepth 100000 in
theorem termCompare (a b : Tm) (w : World) (hC : CtxT w) (ha : smallT a) (hb : smallT b) :
    Calls Tryz.prog 11 #[tA a, tA b] w fun e w' => e = .returned (.int .i64 (cmpTm a b)) ∧ Below w.heap.size w w' := by
  have hba : Below w.heap.size w (w.alloc (.cells #[.int .i64 a.k, .string a.x, .string a.l, .string a.y] 24)) := (Below.refl _ w).alloc (Nat.le_refl _) _
  have hga := heap_alloc_new w (.cells #[.int .i64 a.k, .string a.x, .string a.l, .string a.y] 24)
  have hza : (w.alloc (.cells #[.int .i64 a.k, .string a.x, .string a.l, .string a.y] 24)).heap.size = w.heap.size + 1 := by simp
  go_enter Tryz.func11, Tryz.ntmps11
  go_upto_region 1 with fail
  generalize w.alloc (.cells #[.int .i64 a.k, .string a.x, .string a.l, .string a.y] 24) = wa at *
  have hbb : Below wa.heap.size wa (wa.alloc (.cells #[.int .i64 b.k, .string b.x, .string b.l, .string b.y] 24)) := (Below.refl _ wa).alloc (Nat.le_refl _) _
  have hgb := heap_alloc_new wa (.cells #[.int .i64 b.k, .string b.x, .string b.l, .string b.y] 24)
  have hzb : (wa.alloc (.cells #[.int .i64 b.k, .string b.x, .string b.l, .string b.y] 24)).heap.size = w.heap.size + 2 := by simp [hza]
  have hga2 := below_blk hbb hga
  rw [hza] at hgb
  generalize wa.alloc (.cells #[.int .i64 b.k, .string b.x, .string b.l, .string b.y] 24) = w0 at *
  have hb0 : Below w.heap.size w w0 := below_tr hba hbb
  have hC0 := hC.step hb0
  have a0 : w0.cell? ⟨w.heap.size, 0, none⟩ = some (.int .i64 a.k) := by rw [Lib.cell_of_heap hga2]; rfl
  have a1 : w0.cell? ⟨w.heap.size, 1, none⟩ = some (.string a.x) := by rw [Lib.cell_of_heap hga2]; rfl
  have a2 : w0.cell? ⟨w.heap.size, 2, none⟩ = some (.string a.l) := by rw [Lib.cell_of_heap hga2]; rfl
  have a3 : w0.cell? ⟨w.heap.size, 3, none⟩ = some (.string a.y) := by rw [Lib.cell_of_heap hga2]; rfl
  have b0 : w0.cell? ⟨w.heap.size + 1, 0, none⟩ = some (.int .i64 b.k) := by rw [Lib.cell_of_heap hgb]; rfl
  have b1 : w0.cell? ⟨w.heap.size + 1, 1, none⟩ = some (.string b.x) := by rw [Lib.cell_of_heap hgb]; rfl
  have b2 : w0.cell? ⟨w.heap.size + 1, 2, none⟩ = some (.string b.l) := by rw [Lib.cell_of_heap hgb]; rfl
  have b3 : w0.cell? ⟨w.heap.size + 1, 3, none⟩ = some (.string b.y) := by rw [Lib.cell_of_heap hgb]; rfl
  have hsz : w.heap.size ≤ w0.heap.size := hb0.size
  have hRa := fun W hB => termRight' a W (hC0.step hB) ha
  have hRb := fun W hB => termRight' b W (hC0.step hB) hb
  have hTa := fun W hB h => termText' a W (hC0.step hB) h ha
  have hTb := fun W hB h => termText' b W (hC0.step hB) h hb
  have HB0 := Lib.hid hb0
  have HR : Hid (∀ x y, rightB a = x → rightB b = y → cmpTm a b = if x && y then cmpS (textL a) (textL b) else if x then -1 else if y then 1 else orL [Lib.compareInt a.k b.k, cmpS a.x.toList b.x.toList, cmpS a.l.toList b.l.toList, cmpS a.y.toList b.y.toList]) := by
    intro x y hx hy
    cases x <;> cases y
    · rw [cmpTm_W hx hy]; rfl
    · unfold cmpTm; rw [hx, hy]; rfl
    · unfold cmpTm; rw [hx, hy]; rfl
    · unfold cmpTm; rw [hx, hy]; rfl
  clear hga hgb hga2 hza hzb hba hbb hb0 hC hC0
  refine Rf.wp_region_pl w0.heap.size _ (Rf.Pl.quiet [0, 2] (Rf.Pl.one 1 (Rf.Pl.one 3 (Rf.Pl.quiet [4, 5] (Rf.Pl.done))))) _ (by kernel_rfl) (by kernel_rfl) (by simp only [Rf.Pl.pick, Rf.pickO, List.map_cons, List.map_nil, Rg.pickOps, List.getElem?_toArray, List.getElem?_cons_zero, List.getElem?_cons_succ, Option.getD_some]; rfl) ?_ (fun a w h => h)
  intro wd hbd hwz
  have p0 := cellL a0 hbd
  have p1 := cellL a1 hbd
  have p2 := cellL a2 hbd
  have p3 := cellL a3 hbd
  have q0 := cellL b0 hbd
  have q1 := cellL b1 hbd
  have q2 := cellL b2 hbd
  have q3 := cellL b3 hbd
  have HD := Lib.hid hbd
  clear hwz hbd
  refine Rf.pl_quiet ?_
  iterate 2 go_big_quiet_step (fail)
  refine wpQuiet_nil (Rf.pl_one ?_)
  clear p0 p1 p2 p3 q0 q1 q2 q3
  go_wp2_with (go_at_call 12; with_reducible refine (hRa _ HD.out).mono ?_; rintro e V1 ⟨rfl, k1⟩)
  have F1 := below_tr HD.out k1
  refine ⟨k1.mono HD.out.size, Rf.pl_one ?_⟩
  go_wp2_with (go_at_call 12; with_reducible refine (hRb _ F1).mono ?_; rintro e V2 ⟨rfl, k2⟩)
  have F2 := below_tr F1 k2
  refine ⟨k2.mono F1.size, Rf.pl_quiet ?_⟩
  clear k1 k2 F1 hRa hRb
  have HF2 := Lib.hid F2
  clear F2
  iterate 2 go_big_quiet_step (fail)
  refine wpQuiet_nil (Rf.pl_done ?_)
  have HTa := Lib.hid hTa
  have HTb := Lib.hid hTb
  clear hTa hTb
  cases hra : rightB a <;> cases hrb : rightB b
  · have HE := Lib.hid (HR.out _ _ hra hrb)
    clear HTa HTb
    go_upto_region 8 with fail
    refine Rf.wp_region_pl w0.heap.size _ (Rf.Pl.quiet [0, 1, 2, 3, 5, 6, 7, 8, 10, 11, 12, 13, 15, 16, 17, 18] (Rf.Pl.one 4 (Rf.Pl.one 9 (Rf.Pl.one 14 (Rf.Pl.one 19 (Rf.Pl.one 20 (Rf.Pl.one 21 (Rf.Pl.quiet [22] (Rf.Pl.done))))))))) _ (by kernel_rfl) (by kernel_rfl) (by simp only [Rf.Pl.pick, Rf.pickO, List.map_cons, List.map_nil, Rg.pickOps, List.getElem?_toArray, List.getElem?_cons_zero, List.getElem?_cons_succ, Option.getD_some]; rfl) ?_ (fun a w h => h)
    intro we hbe hwz
    have F3 := HF2.out.trans (hbe.mono HF2.out.size)
    have c0 := cellL a0 F3
    have c1 := cellL a1 F3
    have c2 := cellL a2 F3
    have c3 := cellL a3 F3
    have d0 := cellL b0 F3
    have d1 := cellL b1 F3
    have d2 := cellL b2 F3
    have d3 := cellL b3 F3
    have HF3 := Lib.hid F3
    have h1 := cmpKnd a.k b.k
    have h2 := cmpStr a.x b.x
    have h3 := cmpStr a.l b.l
    have h4 := cmpStr a.y b.y
    clear hwz hbe F3 a0 a1 a2 a3 b0 b1 b2 b3 hra hrb HR HD HF2
    generalize Lib.compareInt a.k b.k = n1 at *
    generalize cmpS a.x.toList b.x.toList = n2 at *
    generalize cmpS a.l.toList b.l.toList = n3 at *
    generalize cmpS a.y.toList b.y.toList = n4 at *
    refine Rf.pl_quiet ?_
    iterate 16 go_big_quiet_step (fail)
    refine wpQuiet_nil (Rf.pl_one ?_)
    clear c0 c1 c2 c3 d0 d1 d2 d3
    go_wp2_with (go_at_call 35; with_reducible refine (h1 _).mono ?_; rintro e V3 ⟨rfl, rfl⟩)
    refine ⟨Below.refl _ _, Rf.pl_one ?_⟩
    go_wp2_with (go_at_call 32; with_reducible refine (h2 _).mono ?_; rintro e V3 ⟨rfl, rfl⟩)
    refine ⟨Below.refl _ _, Rf.pl_one ?_⟩
    go_wp2_with (go_at_call 32; with_reducible refine (h3 _).mono ?_; rintro e V3 ⟨rfl, rfl⟩)
    refine ⟨Below.refl _ _, Rf.pl_one ?_⟩
    go_wp2_with (go_at_call 32; with_reducible refine (h4 _).mono ?_; rintro e V3 ⟨rfl, rfl⟩)
    refine ⟨Below.refl _ _, Rf.pl_one ?_⟩
    have hV := HF3.out.size
    have h5 := cmpOr we.heap.size [n1, n2, n3, n4] 4 4 (we.alloc (.cells #[.int .i64 n1, .int .i64 n2, .int .i64 n3, .int .i64 n4] 3)) (Rd.of_block (heap_alloc_new we _) rfl) rfl (by omega)
    have h6 : Below w0.heap.size we (we.alloc (.cells #[.int .i64 n1, .int .i64 n2, .int .i64 n3, .int .i64 n4] 3)) := (Below.refl _ _).alloc hV _
    have H6 := Lib.hid h6
    go_wp2_with fail
    refine ⟨H6.out, Rf.pl_one ?_⟩
    go_wp2_with (go_at_call 34; with_reducible refine h5.mono ?_; rintro e V4 ⟨rfl, rfl⟩)
    refine ⟨Below.refl _ _, Rf.pl_quiet ?_⟩
    iterate 1 go_big_quiet_step (fail)
    refine wpQuiet_nil (Rf.pl_done ?_)
    go_wp2
    go_ret
    exact ⟨by rw [HE.out]; rfl, HB0.out.trans ((HF3.out.trans H6.out).mono hsz)⟩
  · have HE := Lib.hid (HR.out _ _ hra hrb)
    go_wp2
    go_ret
    exact ⟨by rw [HE.out]; rfl, HB0.out.trans (HF2.out.mono hsz)⟩
  · have HE := Lib.hid (HR.out _ _ hra hrb)
    go_wp2
    go_ret
    exact ⟨by rw [HE.out]; rfl, HB0.out.trans (HF2.out.mono hsz)⟩
  · have HE := Lib.hid (HR.out _ _ hra hrb)
    have HTA : Hid (∀ W, Below w0.heap.size w0 W → Calls Tryz.prog 33 #[tA a] W fun e w' => e = .returned (.string (mkS (textL a))) ∧ Below W.heap.size W w') := fun W hb => HTa.out W hb hra
    have HTB : Hid (∀ W, Below w0.heap.size w0 W → Calls Tryz.prog 33 #[tA b] W fun e w' => e = .returned (.string (mkS (textL b))) ∧ Below W.heap.size W w') := fun W hb => HTb.out W hb hrb
    have h2 := cmpStr (mkS (textL a)) (mkS (textL b))
    rw [mkS_list, mkS_list] at h2
    clear HTa HTb
    go_upto_region 3 with fail
    refine Rf.wp_region_pl w0.heap.size _ (Rf.Pl.quiet [0, 2] (Rf.Pl.one 1 (Rf.Pl.one 3 (Rf.Pl.one 4 (Rf.Pl.quiet [5] (Rf.Pl.done)))))) _ (by kernel_rfl) (by kernel_rfl) (by simp only [Rf.Pl.pick, Rf.pickO, List.map_cons, List.map_nil, Rg.pickOps, List.getElem?_toArray, List.getElem?_cons_zero, List.getElem?_cons_succ, Option.getD_some]; rfl) ?_ (fun a w h => h)
    intro we hbe hwz
    have F3 := HF2.out.trans (hbe.mono HF2.out.size)
    have c0 := cellL a0 F3
    have c1 := cellL a1 F3
    have c2 := cellL a2 F3
    have c3 := cellL a3 F3
    have d0 := cellL b0 F3
    have d1 := cellL b1 F3
    have d2 := cellL b2 F3
    have d3 := cellL b3 F3
    have HF3 := Lib.hid F3
    clear hwz hbe F3 a0 a1 a2 a3 b0 b1 b2 b3 hra hrb HR HD HF2
    refine Rf.pl_quiet ?_
    iterate 2 go_big_quiet_step (fail)
    refine wpQuiet_nil (Rf.pl_one ?_)
    clear c0 c1 c2 c3 d0 d1 d2 d3
    go_wp2_with (go_at_call 33; with_reducible refine (HTA.out _ HF3.out).mono ?_; rintro e V3 ⟨rfl, k3⟩)
    have F4 := below_tr HF3.out k3
    refine ⟨k3.mono HF3.out.size, Rf.pl_one ?_⟩
    go_wp2_with (go_at_call 33; with_reducible refine (HTB.out _ F4).mono ?_; rintro e V4 ⟨rfl, k4⟩)
    have F5 := below_tr F4 k4
    refine ⟨k4.mono F4.size, Rf.pl_one ?_⟩
    have HF5 := Lib.hid F5
    clear k3 k4 F4 F5
    go_wp2_with (go_at_call 32; with_reducible refine (h2 _).mono ?_; rintro e V5 ⟨rfl, rfl⟩)
    refine ⟨Below.refl _ _, Rf.pl_quiet ?_⟩
    iterate 1 go_big_quiet_step (fail)
    refine wpQuiet_nil (Rf.pl_done ?_)
    go_wp2
    go_ret
    exact ⟨by rw [HE.out]; rfl, HB0.out.trans (HF5.out.mono hsz)⟩
end Go.Proofs.YtheeklkcaapkbaaGreatDoor
