/- The program's package term, walked: Triples. The answer for term (ossuaryref08): Text, Show, order. The law's awake and size of layer 08. The law's size of layer 08; how the order of terms and triples is asked. -/
import Derived.Test.YtheeklkcaapkbaaGreatDoorJTx5
import Derived.Test.YtheeklkcaapkbaaGreatDoorJR8c
import Derived.Test.YtheeklkcaapkbaaGreatDoorJTx1
namespace Go.Proofs.YtheeklkcaapkbaaGreatDoor
open Go Go.RowKit Um Fm Tx

abbrev tpC (t : Tp) : Array Value := #[.int .i64 t.s.k, .string t.s.x, .string t.s.l, .string t.s.y, .int .i64 t.p.k, .string t.p.x, .string t.p.l, .string t.p.y, .int .i64 t.o.k, .string t.o.x, .string t.o.l, .string t.o.y]
abbrev tpA (t : Tp) : Value := .agg (tpC t)
def smallP (t : Tp) : Prop := smallT t.s ∧ smallT t.p ∧ smallT t.o
theorem cmpTp_or (a b : Tp) : cmpTp a b = orL [cmpTm a.s b.s, cmpTm a.p b.p, cmpTm a.o b.o] := by
  unfold cmpTp
  simp only [orL_cons]
  rw [show orL [] = 0 from rfl, orZ_right]
theorem cells_at {w : World} {g : Nat} {cs : Array Value} {T : TypeId} (h : w.heap[g]? = some (Obj.cells cs T (0, 0))) (i : Nat) {v : Value} (hv : cs[i]? = some v) : w.cell? ⟨g, i, none⟩ = some v := by
  rw [Lib.cell_of_heap h]; exact hv
set_option maxHeartbeats 4000000 in
set_option maxRecDepth 100000 in
theorem termTriples (a b : Tp) (w : World) (hC : CtxT w) (ha : smallP a) (hb : smallP b) :
    Calls Tryz.prog 14 #[tpA a, tpA b] w fun e w' => e = .returned (.int .i64 (cmpTp a b)) ∧ Below w.heap.size w w' := by
  have hba : Below w.heap.size w (w.alloc (.cells (tpC a) 31)) := (Below.refl _ w).alloc (Nat.le_refl _) _
  have hga := heap_alloc_new w (.cells (tpC a) 31)
  have hza : (w.alloc (.cells (tpC a) 31)).heap.size = w.heap.size + 1 := by simp
  go_enter Tryz.func14, Tryz.ntmps14
  go_upto_region 1 with fail
  change Code.wp _ _ _ _ ((w.alloc (.cells (tpC a) 31)).alloc (.cells (tpC b) 31))
  generalize w.alloc (.cells (tpC a) 31) = wa at *
  have hbb : Below wa.heap.size wa (wa.alloc (.cells (tpC b) 31)) := (Below.refl _ wa).alloc (Nat.le_refl _) _
  have hgb := heap_alloc_new wa (.cells (tpC b) 31)
  have hga2 := below_blk hbb hga
  rw [hza] at hgb
  generalize wa.alloc (.cells (tpC b) 31) = w0 at *
  have hb0 : Below w.heap.size w w0 := below_tr hba hbb
  have hC0 := hC.step hb0
  have hsz : w.heap.size ≤ w0.heap.size := hb0.size
  have h1 := fun W hB => termCompare a.s b.s W (hC0.step hB) ha.1 hb.1
  have h2 := fun W hB => termCompare a.p b.p W (hC0.step hB) ha.2.1 hb.2.1
  have h3 := fun W hB => termCompare a.o b.o W (hC0.step hB) ha.2.2 hb.2.2
  have HE := Lib.hid (cmpTp_or a b)
  have HB0 := Lib.hid hb0
  clear hza hba hbb hb0 hC hC0
  refine Rf.wp_region_pl w0.heap.size _ (Rf.Pl.quiet [0, 1, 2, 3, 5, 6, 7, 8, 10, 11, 12, 13] (Rf.Pl.one 4 (Rf.Pl.one 9 (Rf.Pl.one 14 (Rf.Pl.one 15 (Rf.Pl.one 16 (Rf.Pl.quiet [17] (Rf.Pl.done)))))))) _ (by kernel_rfl) (by kernel_rfl) (by simp only [Rf.Pl.pick, Rf.pickO, List.map_cons, List.map_nil, Rg.pickOps, List.getElem?_toArray, List.getElem?_cons_zero, List.getElem?_cons_succ, Option.getD_some]; rfl) ?_ (fun a w h => h)
  intro wd hbd hwz
  have p0 := cellL (cells_at hga2 0 rfl) hbd
  have p1 := cellL (cells_at hga2 1 rfl) hbd
  have p2 := cellL (cells_at hga2 2 rfl) hbd
  have p3 := cellL (cells_at hga2 3 rfl) hbd
  have p4 := cellL (cells_at hga2 4 rfl) hbd
  have p5 := cellL (cells_at hga2 5 rfl) hbd
  have p6 := cellL (cells_at hga2 6 rfl) hbd
  have p7 := cellL (cells_at hga2 7 rfl) hbd
  have p8 := cellL (cells_at hga2 8 rfl) hbd
  have p9 := cellL (cells_at hga2 9 rfl) hbd
  have p10 := cellL (cells_at hga2 10 rfl) hbd
  have p11 := cellL (cells_at hga2 11 rfl) hbd
  have q0 := cellL (cells_at hgb 0 rfl) hbd
  have q1 := cellL (cells_at hgb 1 rfl) hbd
  have q2 := cellL (cells_at hgb 2 rfl) hbd
  have q3 := cellL (cells_at hgb 3 rfl) hbd
  have q4 := cellL (cells_at hgb 4 rfl) hbd
  have q5 := cellL (cells_at hgb 5 rfl) hbd
  have q6 := cellL (cells_at hgb 6 rfl) hbd
  have q7 := cellL (cells_at hgb 7 rfl) hbd
  have q8 := cellL (cells_at hgb 8 rfl) hbd
  have q9 := cellL (cells_at hgb 9 rfl) hbd
  have q10 := cellL (cells_at hgb 10 rfl) hbd
  have q11 := cellL (cells_at hgb 11 rfl) hbd
  have HD := Lib.hid hbd
  clear hwz hbd hga hga2 hgb
  generalize cmpTm a.s b.s = n1 at *
  generalize cmpTm a.p b.p = n2 at *
  generalize cmpTm a.o b.o = n3 at *
  refine Rf.pl_quiet ?_
  iterate 12 go_big_quiet_step (fail)
  refine wpQuiet_nil (Rf.pl_one ?_)
  clear p0 p1 p2 p3 p4 p5 p6 p7 p8 p9 p10 p11 q0 q1 q2 q3 q4 q5 q6 q7 q8 q9 q10 q11
  go_wp2_with (go_at_call 11; with_reducible refine (h1 _ HD.out).mono ?_; rintro e V1 ⟨rfl, k1⟩)
  have F1 := below_tr HD.out k1
  refine ⟨k1.mono HD.out.size, Rf.pl_one ?_⟩
  go_wp2_with (go_at_call 11; with_reducible refine (h2 _ F1).mono ?_; rintro e V2 ⟨rfl, k2⟩)
  have F2 := below_tr F1 k2
  refine ⟨k2.mono F1.size, Rf.pl_one ?_⟩
  go_wp2_with (go_at_call 11; with_reducible refine (h3 _ F2).mono ?_; rintro e V3 ⟨rfl, k3⟩)
  have F3 := below_tr F2 k3
  refine ⟨k3.mono F2.size, Rf.pl_one ?_⟩
  have hV := F3.size
  have h5 := cmpOr V3.heap.size [n1, n2, n3] 3 3 (V3.alloc (.cells #[.int .i64 n1, .int .i64 n2, .int .i64 n3] 3)) (Rd.of_block (heap_alloc_new V3 _) rfl) rfl (by omega)
  have H6 := Lib.hid ((Below.refl w0.heap.size V3).alloc hV (.cells #[.int .i64 n1, .int .i64 n2, .int .i64 n3] 3))
  have HF3 := Lib.hid F3
  clear k1 k2 k3 F1 F2 F3 h1 h2 h3
  go_wp2_with fail
  refine ⟨H6.out, Rf.pl_one ?_⟩
  go_wp2_with (go_at_call 34; with_reducible refine h5.mono ?_; rintro e V4 ⟨rfl, rfl⟩)
  refine ⟨Below.refl _ _, Rf.pl_quiet ?_⟩
  iterate 1 go_big_quiet_step (fail)
  refine wpQuiet_nil (Rf.pl_done ?_)
  go_wp2
  go_ret
  exact ⟨by rw [HE.out]; rfl, HB0.out.trans ((HF3.out.trans H6.out).mono hsz)⟩
end Go.Proofs.YtheeklkcaapkbaaGreatDoor
namespace Go.Proofs.YtheeklkcaapkbaaGreatDoor
open Go Go.RowKit Um Fm Lx Tx

abbrev tC8 (t : Tm) : Array Value := #[.int .i64 t.k, .string t.x, .string t.l, .string t.y]
theorem small_le {t : Tm} (h : smallT t) : t.x.size ≤ 1048576 ∧ t.l.size ≤ 1048576 ∧ t.y.size ≤ 1048576 := ⟨Nat.le_trans h.1 (by decide), Nat.le_trans h.2.1 (by decide), Nat.le_trans h.2.2 (by decide)⟩
theorem r08Right' (t : Tm) (w : World) (h : smallT t) : Calls Tryz.prog 21 #[tA t] w fun e w' => e = .returned (.bool (rightB t)) ∧ Below w.heap.size w w' :=
  r08Right t w (small_le h).1 (small_le h).2.1 (small_le h).2.2
theorem mk_if (c : Prop) [Decidable c] (a b : List UInt8) : mkS (if c then a else b) = if c then mkS a else mkS b := by split <;> rfl
theorem cat_iri (x : List UInt8) : (⟨#[60]⟩ : ByteArray) ++ mkS x ++ ⟨#[62]⟩ = mkS (60 :: (x ++ [62])) := ba_ext (by simp [ByteArray.data_append])
theorem cat_blank (x : ByteArray) : (⟨#[95, 58]⟩ : ByteArray) ++ x = mkS (95 :: 58 :: x.data.toList) := ba_ext (by simp [ByteArray.data_append])
theorem cat_typed (x y : List UInt8) : (⟨#[34]⟩ : ByteArray) ++ mkS x ++ ⟨#[34, 94, 94, 60]⟩ ++ mkS y ++ ⟨#[62]⟩ = mkS (34 :: (x ++ 34 :: 94 :: 94 :: 60 :: (y ++ [62]))) := ba_ext (by simp [ByteArray.data_append])
theorem cat_tag (x : List UInt8) (l : ByteArray) : (⟨#[34]⟩ : ByteArray) ++ mkS x ++ ⟨#[34, 64]⟩ ++ l = mkS (34 :: (x ++ 34 :: 64 :: l.data.toList)) := ba_ext (by simp [ByteArray.data_append])
theorem cat_lit (x : List UInt8) : (⟨#[34]⟩ : ByteArray) ++ mkS x ++ ⟨#[34]⟩ = mkS (34 :: (x ++ [34])) := ba_ext (by simp [ByteArray.data_append])
set_option maxHeartbeats 2000000 in
set_option maxRecDepth 20000 in
theorem r08Text (t : Tm) (w : World) (hs : smallT t) :
    Calls Tryz.prog 39 #[tA t] w fun e w' => e = .returned (.string (mkS (textL t))) ∧ Below w.heap.size w w' := by
  have hb0 : Below w.heap.size w (w.alloc (.cells (tC8 t) 24)) := (Below.refl _ w).alloc (Nat.le_refl _) _
  have hg := heap_alloc_new w (.cells (tC8 t) 24)
  have hI := fun W => r08Iri t.x W (small_le hs).1
  have hL := fun W => r08Literal t.x W (small_le hs).1
  have hY := fun W => r08Iri t.y W (small_le hs).2.2
  obtain ⟨res, hres⟩ : ∃ r, textL t = r := ⟨_, rfl⟩
  rw [hres]
  have HT : Hid (mkS res = mkS (textL t)) := by show _ = _; rw [hres]
  clear hres
  unfold textL at HT
  have hsi : (mkS (iriL t.x.data.toList)).size ≤ 6000000 := by rw [mkS_size]; exact iri_small hs.1
  have hsy : (mkS (iriL t.y.data.toList)).size ≤ 6000000 := by rw [mkS_size]; exact iri_small hs.2.2
  have hsl : (mkS (litL t.x.data.toList)).size ≤ 6000000 := by rw [mkS_size]; exact Nat.le_trans (lit_small hs.1) (by decide)
  have hx := hs.1
  have hl := hs.2.1
  rw [mk_if, mk_if, mk_if, mk_if, ← cat_iri, ← cat_blank, ← cat_typed, ← cat_tag, ← cat_lit] at HT
  generalize mkS (iriL t.x.data.toList) = xi at *
  generalize mkS (iriL t.y.data.toList) = yi at *
  generalize mkS (litL t.x.data.toList) = xl at *
  go_enter Tryz.func39, Tryz.ntmps39
  go_upto_region 1 with fail
  change Code.wp _ _ _ _ (w.alloc (.cells (tC8 t) 24))
  generalize w.alloc (.cells (tC8 t) 24) = W at *
  have c0 := cells_at hg 0 rfl
  have c1 := cells_at hg 1 rfl
  have c2 := cells_at hg 2 rfl
  have c3 := cells_at hg 3 rfl
  have HB := Lib.hid hb0
  clear hg hb0 hs
  by_cases h1 : t.k = 1
  · rw [if_pos h1] at HT
    go_wp2_with (go_at_call 59; with_reducible refine (hI _).mono ?_; rintro e w1 ⟨rfl, b1⟩)
    go_ret
    exact ⟨by rw [HT.out]; rfl, below_tr HB.out b1⟩
  rw [if_neg h1] at HT
  by_cases h2 : t.k = 2
  · rw [if_pos h2] at HT
    go_wp2_with fail
    go_ret
    exact ⟨by rw [HT.out]; rfl, HB.out⟩
  rw [if_neg h2] at HT
  have R1 := fun d os => cell_on c1 (below_regrown W d os)
  have R2 := fun d os => cell_on c2 (below_regrown W d os)
  have R3 := fun d os => cell_on c3 (below_regrown W d os)
  by_cases h4 : t.k = 4
  · rw [if_pos h4] at HT
    go_wp2_with fail
    refine wp_region_quiet_below (by kernel_rfl) (by kernel_rfl) ?_; (repeat (any_goals (go_big_quiet_step ((first | (go_at_call 60; with_reducible exact Calls.regrown_of (hL _)) | (go_at_call 59; with_reducible exact Calls.regrown_of (hY _))))))); all_goals (refine wpQuiet_nil ?_; intro _ hw9; obtain ⟨⟨d9, os9⟩, hw8⟩ := hw9; subst hw8)
    go_wp2
    go_ret
    exact ⟨by rw [HT.out]; rfl, HB.out.trans ((below_regrown _ _ _).mono HB.out.size)⟩
  rw [if_neg h4] at HT
  cases he : t.l.toList.isEmpty
  · rw [if_neg (by rw [← ByteArray.toList_eq]; intro h; rw [h] at he; cases he)] at HT
    go_wp2_with fail
    refine wp_region_quiet_below (by kernel_rfl) (by kernel_rfl) ?_; (repeat (any_goals (go_big_quiet_step ((go_at_call 60; with_reducible exact Calls.regrown_of (hL _)))))); all_goals (refine wpQuiet_nil ?_; intro _ hw9; obtain ⟨⟨d9, os9⟩, hw8⟩ := hw9; subst hw8)
    go_wp2
    go_ret
    exact ⟨by rw [HT.out]; rfl, HB.out.trans ((below_regrown _ _ _).mono HB.out.size)⟩
  · rw [if_pos (by rw [← ByteArray.toList_eq]; exact List.isEmpty_iff.1 he)] at HT
    go_wp2_with (go_at_call 60; with_reducible refine (hL _).mono ?_; rintro e w1 ⟨rfl, b1⟩)
    go_ret
    exact ⟨by rw [HT.out]; rfl, below_tr HB.out b1⟩
set_option maxHeartbeats 1000000 in
set_option maxRecDepth 20000 in
theorem r08Show (t : Tm) (w : World) (hs : smallT t) :
    Calls Tryz.prog 20 #[tA t] w fun e w' => e = .returned (.tuple #[.string (showP t).1, .int .i64 (showP t).2]) ∧ Below w.heap.size w w' := by
  have hb0 : Below w.heap.size w (w.alloc (.cells #[.int .i64 t.k, .string t.x, .string t.l, .string t.y] 24)) := (Below.refl _ w).alloc (Nat.le_refl _) _
  have hR := r08Right' t (w.alloc (.cells #[.int .i64 t.k, .string t.x, .string t.l, .string t.y] 24)) hs
  have hT := fun W => r08Text t W hs
  have HB := Lib.hid hb0
  unfold showP
  cases hr : rightB t
  · rw [hr] at hR
    clear hT
    go_enter Tryz.func20, Tryz.ntmps20
    go_wp2_with (go_at_call 21; with_reducible refine hR.mono ?_; rintro e w1 ⟨rfl, b1⟩)
    go_ret2
    exact ⟨rfl, below_tr HB.out b1⟩
  · rw [hr] at hR
    rw [if_pos rfl]
    have hsz := mkS_size (textL t)
    have hblk := heap_alloc_new w (.cells #[.int .i64 t.k, .string t.x, .string t.l, .string t.y] 24)
    go_enter Tryz.func20, Tryz.ntmps20
    go_wp2_with (go_at_call 21; with_reducible refine hR.mono ?_)
    rintro e w1 ⟨rfl, b1⟩
    have hbk := (b1.block w.heap.size (by simp)).trans hblk
    have c0 := cells_at hbk 0 rfl
    have c1 := cells_at hbk 1 rfl
    have c2 := cells_at hbk 2 rfl
    have c3 := cells_at hbk 3 rfl
    have hT1 := hT w1
    have HB1 := Lib.hid (below_tr HB.out b1)
    clear hT hR b1 hbk hblk hb0
    by_cases hl : 4096 < (textL t).length
    · go_wp2_with (go_at_call 39; with_reducible refine hT1.mono ?_; rintro e w2 ⟨rfl, b2⟩)
      go_ret2
      exact ⟨by simp, below_tr HB1.out b2⟩
    · go_wp2_with (go_at_call 39; with_reducible refine hT1.mono ?_; rintro e w2 ⟨rfl, b2⟩)
      go_ret2
      exact ⟨by simp, below_tr HB1.out b2⟩
theorem r08Order (x y : ByteArray) (w : World) :
    Calls Tryz.prog 44 #[.string x, .string y] w fun e w' => e = .returned (.int .i64 (cmpS x.toList y.toList)) ∧ w = w' := by
  go_enter Tryz.func44, Tryz.ntmps44
  go_wp2
  all_goals (go_ret; exact ⟨by simp_all [cmpS], rfl⟩)
end Go.Proofs.YtheeklkcaapkbaaGreatDoor
namespace Go.Proofs.YtheeklkcaapkbaaGreatDoor
open Go Go.RowKit Um Fm Tx

theorem smallT_of {t : Tm} (h : t.x.size + t.l.size + t.y.size ≤ 1000000) : smallT t := by unfold smallT; omega
theorem termIri (s : ByteArray) (w : World) : Calls Tryz.prog 27 #[.string s] w fun e w' => e = .returned (tA ⟨1, s, ⟨#[]⟩, ⟨#[]⟩⟩) ∧ Below w.heap.size w w' := by
  go_enter Tryz.func27, Tryz.ntmps27
  go_wp2
  refine bodyPost_ret (v := tA ⟨1, s, ⟨#[]⟩, ⟨#[]⟩⟩) (by simp [results, Tryz.results27, go_sem]) rfl ⟨rfl, (by repeat (first | exact Below.refl _ _ | assumption | exact (Below.refl _ _).alloc (Nat.le_refl _) _ | refine below_tr ?_ (by assumption) | refine below_alloc ?_ | refine below_tr ?_ (below_regrown _ _ _)))⟩
theorem lit_ab : lowS ⟨#[69, 110]⟩ = ⟨#[101, 110]⟩ := by decide
theorem showIri : showP ⟨1, ⟨#[97, 32, 98]⟩, ⟨#[]⟩, ⟨#[]⟩⟩ = (⟨#[60, 97, 92, 117, 48, 48, 50, 48, 98, 62]⟩, 0) := by kernel_rfl
theorem showTag : showP ⟨3, ⟨#[97, 34, 98]⟩, ⟨#[101, 110]⟩, ⟨#[]⟩⟩ = (⟨#[34, 97, 92, 34, 98, 34, 64, 101, 110]⟩, 0) := by kernel_rfl
set_option maxHeartbeats 1000000 in
set_option maxRecDepth 20000 in
theorem lawAwake (w : World) (hC : CtxT w) : Calls Tryz.prog 9 #[] w fun e w' => e = .returned (.bool true) ∧ Below w.heap.size w w' := by
  have h1 := termIri ⟨#[97, 32, 98]⟩ w
  have h2 := fun W (hB : Below w.heap.size w W) => termShow ⟨1, ⟨#[97, 32, 98]⟩, ⟨#[]⟩, ⟨#[]⟩⟩ W (hC.step hB) (smallT_of (by decide))
  have h3 := fun W => termTagged ⟨#[97, 34, 98]⟩ ⟨#[69, 110]⟩ W (by decide)
  have h4 := fun W (hB : Below w.heap.size w W) => termShow ⟨3, ⟨#[97, 34, 98]⟩, ⟨#[101, 110]⟩, ⟨#[]⟩⟩ W (hC.step hB) (smallT_of (by decide))
  rw [showIri] at h2
  rw [showTag] at h4
  rw [lit_ab] at h3
  go_enter Tryz.func9, Tryz.ntmps9
  go_wp2_with (first | (go_at_call 27; with_reducible refine h1.mono ?_; rintro e w1 ⟨rfl, b1⟩) | (go_at_call 23; with_reducible refine (h3 _).mono ?_; rintro e w3 ⟨rfl, b3⟩) | (go_at_call 19; with_reducible refine (h2 _ (by assumption)).mono ?_; rintro e w2 ⟨rfl, b2⟩; have c2 := below_tr b1 b2) | (go_at_call 19; with_reducible refine (h4 _ (below_tr c2 b3)).mono ?_; rintro e w4 ⟨rfl, b4⟩))
  go_ret
  exact ⟨rfl, below_tr (below_tr c2 b3) b4⟩
end Go.Proofs.YtheeklkcaapkbaaGreatDoor
namespace Go.Proofs.YtheeklkcaapkbaaGreatDoor
open Go Go.RowKit Um Fm Tx

abbrev tC (t : Tm) : Array Value := #[.int .i64 t.k, .string t.x, .string t.l, .string t.y]
def hugeT (t : Tm) : Prop := t.x.size ≤ 281474976710656 ∧ t.l.size ≤ 281474976710656 ∧ t.y.size ≤ 281474976710656
def szT (t : Tm) : Nat := t.x.size + t.l.size + t.y.size
def szL (l : List Tm) : Nat := (l.map szT).sum
theorem szL_snoc (l : List Tm) (k : Nat) (t : Tm) (h : l[k]? = some t) : szL (l.take (k + 1)) = szL (l.take k) + szT t := by
  unfold szL
  rw [List.take_add_one, h, Option.toList_some, List.map_append, List.sum_append]
  simp
theorem szL_le (l : List Tm) (hz : ∀ t ∈ l, hugeT t) : ∀ k, k ≤ l.length → szL (l.take k) ≤ k * 844424930131968
  | 0, _ => by simp [szL]
  | k + 1, hk => by
    have hx := List.getElem?_eq_getElem (show k < l.length by omega)
    rw [szL_snoc l k _ hx]
    have h1 := szL_le l hz k (by omega)
    have h2 := hz _ (List.getElem_mem (show k < l.length by omega))
    unfold hugeT at h2
    unfold szT
    rw [Nat.succ_mul]; omega
theorem flat_at (l : List Tm) (k i : Nat) (t : Tm) (hk : l[k]? = some t) (hi : i < 4) : (l.flatMap fun t => (tC t).toList)[k * 4 + i]? = (tC t)[i]? := by
  induction l generalizing k with
  | nil => simp at hk
  | cons s r ih =>
    rw [List.flatMap_cons]
    cases k with
    | zero =>
      simp only [List.getElem?_cons_zero, Option.some.injEq] at hk
      subst hk
      rw [List.getElem?_append_left (by simp; omega)]
      simp
    | succ k =>
      simp only [List.getElem?_cons_succ] at hk
      have e : ((tC s).toList).length = 4 := rfl
      rw [List.getElem?_append_right (by rw [e]; omega), e, show (k + 1) * 4 + i - 4 = k * 4 + i by omega]
      exact ih k hk
set_option maxHeartbeats 1000000 in
set_option maxRecDepth 20000 in
theorem lawSize (l : List Tm) (g n c : Nat) (w : World) (hn : l.length = n) {cs : Array Value} (hb : w.heap[g]? = some (Obj.cells cs 24 (0, 0))) (hz : ∀ t ∈ l, hugeT t) (hcs : cs.toList = l.flatMap fun t => (tC t).toList) (hl : l.length ≤ 1000 := by decide) :
    Calls Tryz.prog 10 #[.slice (some ⟨g, 0, none⟩) n c] w fun e w' => e = .returned (.int .i64 (szL l : Nat)) ∧ Below w.heap.size w w' := by
  subst hn
  have hcell : ∀ (k i : Nat) (t : Tm) (v : Value), l[k]? = some t → i < 4 → (tC t)[i]? = some v → w.cell? ⟨g, k * 4 + i, none⟩ = some v := by
    intro k i t v hk hi hv
    rw [Lib.cell_of_heap hb, ← Array.getElem?_toList, hcs, flat_at l k i t hk hi]
    exact hv
  clear hb hcs
  have Hc := Lib.hid hcell
  clear hcell
  go_enter Tryz.func10, Tryz.ntmps10
  go_wp2
  go_loopw [3, 4] (fun s i wr => ∃ k q : Nat, k ≤ l.length ∧ i = .int .i64 k ∧ s = .int .i64 (szL (l.take k) : Nat) ∧ wr = w.drewN q) (fun _ i _ => l.length - (intOf i).toNat)
  case atStart => exact ⟨0, 0, by omega, rfl, rfl, rfl⟩
  case round =>
    obtain ⟨k, q, hk, rfl, rfl, rfl⟩ := hrel
    by_cases hlt : k < l.length
    · obtain ⟨t, ht⟩ : ∃ t, l[k]? = some t := ⟨_, List.getElem?_eq_getElem hlt⟩
      have e1 := Hc.out k 1 t _ ht (by omega) rfl
      have e2 := Hc.out k 2 t _ ht (by omega) rfl
      have e3 := Hc.out k 3 t _ ht (by omega) rfl
      have hsn := Lib.hid (szL_snoc l k t ht)
      have hle := szL_le l hz k (by omega)
      have hzt := hz _ (List.mem_of_getElem? ht)
      unfold hugeT at hzt
      obtain ⟨z1, z2, z3⟩ := hzt
      have hk8 : k * 844424930131968 ≤ 1000 * 844424930131968 := Nat.mul_le_mul_right _ (by omega)
      clear ht hz
      generalize szL (l.take k) = m at *
      go_wp2
      go_quiet (fail)
      go_wp2
      exact ⟨⟨k + 1, q + nq, by omega, by go_num, by rw [hsn.out, szT]; go_num, rfl⟩, by simp [intOf]; omega⟩
    · have e : szL (l.take k) = szL l := by rw [List.take_of_length_le (by omega)]
      rw [e]
      go_wp2
      go_ret
      exact ⟨rfl, below_drewN' (Below.refl _ _) q⟩
theorem lawRank (t : Tm) (w : World) : Calls Tryz.prog 13 #[tA t] w fun e w' => e = .returned (.int .i64 (rankT t)) ∧ Below w.heap.size w w' := by
  unfold rankT
  by_cases h1 : t.k = 1
  · go_enter Tryz.func13, Tryz.ntmps13
    go_wp2
    go_ret
    exact ⟨by simp, (by repeat (first | exact Below.refl _ _ | assumption | exact (Below.refl _ _).alloc (Nat.le_refl _) _ | refine below_tr ?_ (by assumption) | refine below_alloc ?_ | refine below_tr ?_ (below_regrown _ _ _)))⟩
  · by_cases h2 : t.k = 2
    · go_enter Tryz.func13, Tryz.ntmps13
      go_wp2
      go_ret
      exact ⟨by simp, (by repeat (first | exact Below.refl _ _ | assumption | exact (Below.refl _ _).alloc (Nat.le_refl _) _ | refine below_tr ?_ (by assumption) | refine below_alloc ?_ | refine below_tr ?_ (below_regrown _ _ _)))⟩
    · go_enter Tryz.func13, Tryz.ntmps13
      go_wp2
      go_ret
      exact ⟨by simp, (by repeat (first | exact Below.refl _ _ | assumption | exact (Below.refl _ _).alloc (Nat.le_refl _) _ | refine below_tr ?_ (by assumption) | refine below_alloc ?_ | refine below_tr ?_ (below_regrown _ _ _)))⟩
theorem lawFirst (n m : Int) (w : World) : Calls Tryz.prog 15 #[.int .i64 n, .int .i64 m] w fun e w' => e = .returned (.int .i64 (orZ n m)) ∧ w = w' := by
  unfold orZ
  by_cases h1 : n = 0
  · go_enter Tryz.func15, Tryz.ntmps15
    go_wp2
    go_ret
    exact ⟨by simp, rfl⟩
  · go_enter Tryz.func15, Tryz.ntmps15
    go_wp2
    go_ret
    exact ⟨by simp, rfl⟩
theorem tp_law1 (a b c : Tm) : cmpTp ⟨a, b, c⟩ ⟨a, c, b⟩ = cmpTm b c := by
  unfold cmpTp
  simp only
  rw [ordF_Tm.self a, orZ_zero, ordF_Tm.neg b c]
  unfold orZ; split <;> omega
theorem tp_law3 (a b c : Tm) : cmpTp ⟨b, a, a⟩ ⟨a, c, c⟩ = orZ (-cmpTm a b) (cmpTm a c) := by
  unfold cmpTp
  simp only
  rw [ordF_Tm.neg a b]
  unfold orZ; split <;> (try split) <;> omega
theorem cmp_eq (a b : Tm) : cmpTm a b = 0 ↔ a = b := ⟨ordF_Tm.zero a b, fun h => by rw [h]; exact ordF_Tm.self b⟩
end Go.Proofs.YtheeklkcaapkbaaGreatDoor
