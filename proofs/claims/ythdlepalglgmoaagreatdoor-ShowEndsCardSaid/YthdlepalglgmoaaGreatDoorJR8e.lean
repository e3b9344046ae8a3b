/- The answer for term (ossuaryref08): Text, Show, order. The law's awake and size of layer 08. The law's size of layer 08; how the order of terms and triples is asked. The answer for term (ossuaryref08): Compare, Triple, Triples, Tagged, Typed; the program's Triple, Typed. Printed by gen/r8e.py. -/
import Derived.Test.YthdlepalglgmoaaGreatDoorJRep2m
import Derived.Test.YthdlepalglgmoaaGreatDoorJTx6
import Derived.Test.YthdlepalglgmoaaGreatDoorJTx1
namespace Go.Proofs.YthdlepalglgmoaaGreatDoor
open Go Go.RowKit Um Fm Lx Tx

abbrev tC8 (t : Tm) : Array Value := #[.int .i64 t.k, .string t.x, .string t.l, .string t.y]
theorem small_le {t : Tm} (h : smallT t) : t.x.size ≤ 1048576 ∧ t.l.size ≤ 1048576 ∧ t.y.size ≤ 1048576 := ⟨Nat.le_trans h.1 (by decide), Nat.le_trans h.2.1 (by decide), Nat.le_trans h.2.2 (by decide)⟩
theorem r08Right' (t : Tm) (w : World) (h : smallT t) : Calls Tryz.prog 40 #[tA t] w fun e w' => e = .returned (.bool (rightB t)) ∧ Below w.heap.size w w' :=
  r08Right t w (small_le h).1 (small_le h).2.1 (small_le h).2.2
theorem mk_if (c : Prop) [Decidable c] (a b : List UInt8) : mkS (if c then a else b) = if c then mkS a else mkS b := by split <;> rfl
theorem cat_iri (x : List UInt8) : (⟨#[60]⟩ : ByteArray) ++ mkS x ++ ⟨#[62]⟩ = mkS (60 :: (x ++ [62])) := ba_ext (by simp [ByteArray.data_append])
theorem cat_blank (x : ByteArray) : (⟨#[95, 58]⟩ : ByteArray) ++ x = mkS (95 :: 58 :: x.data.toList) := ba_ext (by simp [ByteArray.data_append])
theorem cat_typed (x y : List UInt8) : (⟨#[34]⟩ : ByteArray) ++ mkS x ++ ⟨#[34, 94, 94, 60]⟩ ++ mkS y ++ ⟨#[62]⟩ = mkS (34 :: (x ++ 34 :: 94 :: 94 :: 60 :: (y ++ [62]))) := ba_ext (by simp [ByteArray.data_append])
theorem cat_tag (x : List UInt8) (l : ByteArray) : (⟨#[34]⟩ : ByteArray) ++ mkS x ++ ⟨#[34, 64]⟩ ++ l = mkS (34 :: (x ++ 34 :: 64 :: l.data.toList)) := ba_ext (by simp [ByteArray.data_append])
theorem cat_lit (x : List UInt8) : (⟨#[34]⟩ : ByteArray) ++ mkS x ++ ⟨#[34]⟩ = mkS (34 :: (x ++ [34])) := ba_ext (by simp [ByteArray.data_append])
set_option maxHeartbeats 2000000 in
set_option maxRecDepth 20000 in
theorem r08Text (t : Tm) (w : World) (hs : smallT t) :
    Calls Tryz.prog 41 #[tA t] w fun e w' => e = .returned (.string (mkS (textL t))) ∧ Below w.heap.size w w' := by
  have hb0 : Below w.heap.size w (w.alloc (.cells (tC8 t) 24)) := (Below.refl _ w).alloc (Nat.le_refl _) _
  have hg := heap_alloc_new w (.cells (tC8 t) 24)
  have hI := fun W => r08Iri t.x W (small_le hs).1
  have hL := fun W => r08Literal t.x W (small_le hs).1
  have hY := fun W => r08Iri t.y W (small_le hs).2.2
  obtain ⟨res, hres⟩ : ∃ r, textL t = r := ⟨_, rfl⟩
  rw [hres]
  have HT : Hid (mkS res = mkS (textL t)) := by show _ = _; rw [hres]
  clear hres
  unfold textL at HT
  have hsi : (mkS (iriL t.x.data.toList)).size ≤ 6000000 := by rw [mkS_size]; exact iri_small hs.1
  have hsy : (mkS (iriL t.y.data.toList)).size ≤ 6000000 := by rw [mkS_size]; exact iri_small hs.2.2
  have hsl : (mkS (litL t.x.data.toList)).size ≤ 6000000 := by rw [mkS_size]; exact Nat.le_trans (lit_small hs.1) (by decide)
  have hx := hs.1
  have hl := hs.2.1
  rw [mk_if, mk_if, mk_if, mk_if, ← cat_iri, ← cat_blank, ← cat_typed, ← cat_tag, ← cat_lit] at HT
  generalize mkS (iriL t.x.data.toList) = xi at *
  generalize mkS (iriL t.y.data.toList) = yi at *
  generalize mkS (litL t.x.data.toList) = xl at *
  go_enter Tryz.func41, Tryz.ntmps41
  go_upto_region 1 with fail
  change Code.wp _ _ _ _ (w.alloc (.cells (tC8 t) 24))
  generalize w.alloc (.cells (tC8 t) 24) = W at *
  have c0 := cells_at hg 0 rfl
  have c1 := cells_at hg 1 rfl
  have c2 := cells_at hg 2 rfl
  have c3 := cells_at hg 3 rfl
  have HB := Lib.hid hb0
  clear hg hb0 hs
  by_cases h1 : t.k = 1
  · rw [if_pos h1] at HT
    go_wp2_with (go_at_call 57; with_reducible refine (hI _).mono ?_; rintro e w1 ⟨rfl, b1⟩)
    go_ret
    exact ⟨by rw [HT.out]; rfl, below_tr HB.out b1⟩
  rw [if_neg h1] at HT
  by_cases h2 : t.k = 2
  · rw [if_pos h2] at HT
    go_wp2_with fail
    go_ret
    exact ⟨by rw [HT.out]; rfl, HB.out⟩
  rw [if_neg h2] at HT
  have R1 := fun d os => cell_on c1 (below_regrown W d os)
  have R2 := fun d os => cell_on c2 (below_regrown W d os)
  have R3 := fun d os => cell_on c3 (below_regrown W d os)
  by_cases h4 : t.k = 4
  · rw [if_pos h4] at HT
    go_wp2_with fail
    refine wp_region_quiet_below (by kernel_rfl) (by kernel_rfl) ?_; (repeat (any_goals (go_big_quiet_step ((first | (go_at_call 58; with_reducible exact Calls.regrown_of (hL _)) | (go_at_call 57; with_reducible exact Calls.regrown_of (hY _))))))); all_goals (refine wpQuiet_nil ?_; intro _ hw9; obtain ⟨⟨d9, os9⟩, hw8⟩ := hw9; subst hw8)
    go_wp2
    go_ret
    exact ⟨by rw [HT.out]; rfl, HB.out.trans ((below_regrown _ _ _).mono HB.out.size)⟩
  rw [if_neg h4] at HT
  cases he : t.l.toList.isEmpty
  · rw [if_neg (by rw [← ByteArray.toList_eq]; intro h; rw [h] at he; cases he)] at HT
    go_wp2_with fail
    refine wp_region_quiet_below (by kernel_rfl) (by kernel_rfl) ?_; (repeat (any_goals (go_big_quiet_step ((go_at_call 58; with_reducible exact Calls.regrown_of (hL _)))))); all_goals (refine wpQuiet_nil ?_; intro _ hw9; obtain ⟨⟨d9, os9⟩, hw8⟩ := hw9; subst hw8)
    go_wp2
    go_ret
    exact ⟨by rw [HT.out]; rfl, HB.out.trans ((below_regrown _ _ _).mono HB.out.size)⟩
  · rw [if_pos (by rw [← ByteArray.toList_eq]; exact List.isEmpty_iff.1 he)] at HT
    go_wp2_with (go_at_call 58; with_reducible refine (hL _).mono ?_; rintro e w1 ⟨rfl, b1⟩)
    go_ret
    exact ⟨by rw [HT.out]; rfl, below_tr HB.out b1⟩
set_option maxHeartbeats 1000000 in
set_option maxRecDepth 20000 in
theorem r08Show (t : Tm) (w : World) (hs : smallT t) :
    Calls Tryz.prog 28 #[tA t] w fun e w' => e = .returned (.tuple #[.string (showP t).1, .int .i64 (showP t).2]) ∧ Below w.heap.size w w' := by
  have hb0 : Below w.heap.size w (w.alloc (.cells #[.int .i64 t.k, .string t.x, .string t.l, .string t.y] 24)) := (Below.refl _ w).alloc (Nat.le_refl _) _
  have hR := r08Right' t (w.alloc (.cells #[.int .i64 t.k, .string t.x, .string t.l, .string t.y] 24)) hs
  have hT := fun W => r08Text t W hs
  have HB := Lib.hid hb0
  unfold showP
  cases hr : rightB t
  · rw [hr] at hR
    clear hT
    go_enter Tryz.func28, Tryz.ntmps28
    go_wp2_with (go_at_call 40; with_reducible refine hR.mono ?_; rintro e w1 ⟨rfl, b1⟩)
    go_ret2
    exact ⟨rfl, below_tr HB.out b1⟩
  · rw [hr] at hR
    rw [if_pos rfl]
    have hsz := mkS_size (textL t)
    have hblk := heap_alloc_new w (.cells #[.int .i64 t.k, .string t.x, .string t.l, .string t.y] 24)
    go_enter Tryz.func28, Tryz.ntmps28
    go_wp2_with (go_at_call 40; with_reducible refine hR.mono ?_)
    rintro e w1 ⟨rfl, b1⟩
    have hbk := (b1.block w.heap.size (by simp)).trans hblk
    have c0 := cells_at hbk 0 rfl
    have c1 := cells_at hbk 1 rfl
    have c2 := cells_at hbk 2 rfl
    have c3 := cells_at hbk 3 rfl
    have hT1 := hT w1
    have HB1 := Lib.hid (below_tr HB.out b1)
    clear hT hR b1 hbk hblk hb0
    by_cases hl : 4096 < (textL t).length
    · go_wp2_with (go_at_call 41; with_reducible refine hT1.mono ?_; rintro e w2 ⟨rfl, b2⟩)
      go_ret2
      exact ⟨by simp, below_tr HB1.out b2⟩
    · go_wp2_with (go_at_call 41; with_reducible refine hT1.mono ?_; rintro e w2 ⟨rfl, b2⟩)
      go_ret2
      exact ⟨by simp, below_tr HB1.out b2⟩
theorem r08Order (x y : ByteArray) (w : World) :
    Calls Tryz.prog 72 #[.string x, .string y] w fun e w' => e = .returned (.int .i64 (cmpS x.toList y.toList)) ∧ w = w' := by
  go_enter Tryz.func72, Tryz.ntmps72
  go_wp2
  all_goals (go_ret; exact ⟨by simp_all [cmpS], rfl⟩)
end Go.Proofs.YthdlepalglgmoaaGreatDoor
namespace Go.Proofs.YthdlepalglgmoaaGreatDoor
open Go Go.RowKit Um Fm Tx

theorem termIri (s : ByteArray) (w : World) : Calls Tryz.prog 4 #[.string s] w fun e w' => e = .returned (tA ⟨1, s, ⟨#[]⟩, ⟨#[]⟩⟩) ∧ Below w.heap.size w w' := by
  go_enter Tryz.func4, Tryz.ntmps4
  go_wp2
  refine bodyPost_ret (v := tA ⟨1, s, ⟨#[]⟩, ⟨#[]⟩⟩) (by simp [results, Tryz.results4, go_sem]) rfl ⟨rfl, (by repeat (first | exact Below.refl _ _ | assumption | exact (Below.refl _ _).alloc (Nat.le_refl _) _ | refine below_tr ?_ (by assumption) | refine below_alloc ?_ | refine below_tr ?_ (below_regrown _ _ _)))⟩
end Go.Proofs.YthdlepalglgmoaaGreatDoor
namespace Go.Proofs.YthdlepalglgmoaaGreatDoor
open Go Go.RowKit Um Fm Tx

def hugeT (t : Tm) : Prop := t.x.size ≤ 281474976710656 ∧ t.l.size ≤ 281474976710656 ∧ t.y.size ≤ 281474976710656
end Go.Proofs.YthdlepalglgmoaaGreatDoor
namespace Go.Proofs.YthdlepalglgmoaaGreatDoor
open Go Go.RowKit Um Fm Lx Tx

theorem cmpW_k {a b : Tm} (h : Lib.compareInt a.k b.k ≠ 0) : cmpW a b = Lib.compareInt a.k b.k := by unfold cmpW orZ; rw [if_neg h]
theorem cmpW_x {a b : Tm} (h : a.k = b.k) (h2 : cmpS (bl a.x) (bl b.x) ≠ 0) : cmpW a b = cmpS (bl a.x) (bl b.x) := by
  unfold cmpW orZ; rw [if_pos ((compareInt_zero _ _).2 h), if_neg h2]
theorem cmpW_l {a b : Tm} (h : a.k = b.k) (h1 : cmpS (bl a.x) (bl b.x) = 0) (h2 : cmpS (bl a.l) (bl b.l) ≠ 0) : cmpW a b = cmpS (bl a.l) (bl b.l) := by
  unfold cmpW orZ; rw [if_pos ((compareInt_zero _ _).2 h), if_pos h1, if_neg h2]
theorem cmpW_y {a b : Tm} (h : a.k = b.k) (h1 : cmpS (bl a.x) (bl b.x) = 0) (h2 : cmpS (bl a.l) (bl b.l) = 0) : cmpW a b = cmpS (bl a.y) (bl b.y) := by
  unfold cmpW orZ; rw [if_pos ((compareInt_zero _ _).2 h), if_pos h1, if_pos h2]
theorem cmp_W {a b : Tm} (ha : rightB a = false) (hb : rightB b = false) : cmpTm a b = cmpW a b := by
  unfold cmpTm; rw [ha, hb, if_neg (by decide), if_neg (by decide), if_neg (by decide)]
theorem eqS {x y : ByteArray} (h : (x.toList == y.toList) = true) : cmpS (bl x) (bl y) = 0 := by
  rw [ByteArray.toList_eq, ByteArray.toList_eq] at h
  exact (cmpS_zero _ _).2 (eq_of_beq h)
theorem neS {x y : ByteArray} (h : (x.toList == y.toList) = false) : cmpS (bl x) (bl y) ≠ 0 := by
  rw [ByteArray.toList_eq, ByteArray.toList_eq] at h
  intro h2
  rw [show x.data.toList = y.data.toList from (cmpS_zero _ _).1 h2] at h
  simp at h
set_option maxHeartbeats 4000000 in
set_option maxRecDepth 100000 in
theorem r08Compare (a b : Tm) (w : World) (ha : smallT a) (hb : smallT b) :
    Calls Tryz.prog 47 #[tA a, tA b] w fun e w' => e = .returned (.int .i64 (cmpTm a b)) ∧ Below w.heap.size w w' := by
  obtain ⟨res, hres⟩ : ∃ r, cmpTm a b = r := ⟨_, rfl⟩
  rw [hres]
  have HR : Hid (res = cmpTm a b) := by show _ = _; rw [hres]
  clear hres
  have hba : Below w.heap.size w (w.alloc (.cells (tC8 a) 24)) := (Below.refl _ w).alloc (Nat.le_refl _) _
  have hga := heap_alloc_new w (.cells (tC8 a) 24)
  have hza : (w.alloc (.cells (tC8 a) 24)).heap.size = w.heap.size + 1 := by simp
  go_enter Tryz.func47, Tryz.ntmps47
  go_upto_region 1 with fail
  change Code.wp _ _ _ _ ((w.alloc (.cells (tC8 a) 24)).alloc (.cells (tC8 b) 24))
  generalize w.alloc (.cells (tC8 a) 24) = wa at *
  have hbb : Below wa.heap.size wa (wa.alloc (.cells (tC8 b) 24)) := (Below.refl _ wa).alloc (Nat.le_refl _) _
  have hgb := heap_alloc_new wa (.cells (tC8 b) 24)
  have hga2 := below_blk hbb hga
  rw [hza] at hgb
  generalize wa.alloc (.cells (tC8 b) 24) = w0 at *
  have hb0 : Below w.heap.size w w0 := below_tr hba hbb
  have hsz : w.heap.size ≤ w0.heap.size := hb0.size
  have HB0 := Lib.hid hb0
  have a0 := cells_at hga2 0 rfl
  have a1 := cells_at hga2 1 rfl
  have a2 := cells_at hga2 2 rfl
  have a3 := cells_at hga2 3 rfl
  have b0 := cells_at hgb 0 rfl
  have b1 := cells_at hgb 1 rfl
  have b2 := cells_at hgb 2 rfl
  have b3 := cells_at hgb 3 rfl
  have hRa := fun W => r08Right' a W ha
  have hRb := fun W => r08Right' b W hb
  have hTa := fun W => r08Text a W ha
  have hTb := fun W => r08Text b W hb
  have hO := fun x y W => r08Order x y W
  clear hga hgb hga2 hza hba hbb hb0
  refine Rf.wp_region_pl w0.heap.size _ (Rf.Pl.quiet [0, 2] (Rf.Pl.one 1 (Rf.Pl.one 3 (Rf.Pl.quiet [4, 5] (Rf.Pl.done))))) _ (by kernel_rfl) (by kernel_rfl) (by simp only [Rf.Pl.pick, Rf.pickO, List.map_cons, List.map_nil, Rg.pickOps, List.getElem?_toArray, List.getElem?_cons_zero, List.getElem?_cons_succ, Option.getD_some]; rfl) ?_ (fun a w h => h)
  intro wd hbd hwz
  have p0 := cellL a0 hbd
  have p1 := cellL a1 hbd
  have p2 := cellL a2 hbd
  have p3 := cellL a3 hbd
  have q0 := cellL b0 hbd
  have q1 := cellL b1 hbd
  have q2 := cellL b2 hbd
  have q3 := cellL b3 hbd
  have HD := Lib.hid hbd
  clear hwz hbd
  refine Rf.pl_quiet ?_
  iterate 2 go_big_quiet_step (fail)
  refine wpQuiet_nil (Rf.pl_one ?_)
  clear p0 p1 p2 p3 q0 q1 q2 q3
  go_wp2_with (go_at_call 40; with_reducible refine (hRa _).mono ?_; rintro e V1 ⟨rfl, k1⟩)
  have F1 := below_tr HD.out k1
  refine ⟨k1.mono HD.out.size, Rf.pl_one ?_⟩
  go_wp2_with (go_at_call 40; with_reducible refine (hRb _).mono ?_; rintro e V2 ⟨rfl, k2⟩)
  have F2 := below_tr F1 k2
  refine ⟨k2.mono F1.size, Rf.pl_quiet ?_⟩
  have HF2 := Lib.hid F2
  replace a0 := cell_on a0 F2
  replace a1 := cell_on a1 F2
  replace a2 := cell_on a2 F2
  replace a3 := cell_on a3 F2
  replace b0 := cell_on b0 F2
  replace b1 := cell_on b1 F2
  replace b2 := cell_on b2 F2
  replace b3 := cell_on b3 F2
  clear k1 k2 F1 F2 hRa hRb
  iterate 2 go_big_quiet_step (fail)
  refine wpQuiet_nil (Rf.pl_done ?_)
  have fin : Below w.heap.size w V2 := HB0.out.trans (HF2.out.mono hsz)
  have HFin := Lib.hid fin
  clear fin
  cases hra : rightB a <;> cases hrb : rightB b
  · rw [cmp_W hra hrb] at HR
    clear hTa hTb hra hrb
    by_cases h1 : a.k < b.k
    · have HE : Hid (res = -1) := by
        show _ = _
        have e : Lib.compareInt a.k b.k = -1 := by unfold Lib.compareInt; rw [if_pos h1]
        rw [HR.out, cmpW_k (by rw [e]; decide), e]
      clear HR hO
      go_wp2
      go_ret
      exact ⟨by rw [HE.out]; rfl, HFin.out⟩
    by_cases h2 : a.k > b.k
    · have HE : Hid (res = 1) := by
        show _ = _
        have e : Lib.compareInt a.k b.k = 1 := by unfold Lib.compareInt; rw [if_neg h1]; repeat' split
                                                  all_goals omega
        rw [HR.out, cmpW_k (by rw [e]; decide), e]
      clear HR hO
      go_wp2
      go_ret
      exact ⟨by rw [HE.out]; rfl, HFin.out⟩
    have h3 : a.k = b.k := by omega
    cases hx : (a.x.toList == b.x.toList)
    · have HE : Hid (res = cmpS a.x.toList b.x.toList) := by
        show _ = _
        rw [HR.out, cmpW_x h3 (neS hx), ByteArray.toList_eq, ByteArray.toList_eq]
      clear HR
      go_wp2_with (go_at_call 72; with_reducible refine (hO _ _ _).mono ?_; rintro e V3 ⟨rfl, rfl⟩)
      go_ret
      exact ⟨by rw [HE.out]; rfl, HFin.out⟩
    cases hl : (a.l.toList == b.l.toList)
    · have HE : Hid (res = cmpS a.l.toList b.l.toList) := by
        show _ = _
        rw [HR.out, cmpW_l h3 (eqS hx) (neS hl), ByteArray.toList_eq, ByteArray.toList_eq]
      clear HR
      go_wp2_with (go_at_call 72; with_reducible refine (hO _ _ _).mono ?_; rintro e V3 ⟨rfl, rfl⟩)
      go_ret
      exact ⟨by rw [HE.out]; rfl, HFin.out⟩
    · have HE : Hid (res = cmpS a.y.toList b.y.toList) := by
        show _ = _
        rw [HR.out, cmpW_y h3 (eqS hx) (eqS hl), ByteArray.toList_eq, ByteArray.toList_eq]
      clear HR
      go_wp2_with (go_at_call 72; with_reducible refine (hO _ _ _).mono ?_; rintro e V3 ⟨rfl, rfl⟩)
      go_ret
      exact ⟨by rw [HE.out]; rfl, HFin.out⟩
  · have HE : Hid (res = 1) := by show _ = _; rw [HR.out]; unfold cmpTm; rw [hra, hrb]; rfl
    clear HR hTa hTb hO hra hrb
    go_wp2
    go_ret
    exact ⟨by rw [HE.out]; rfl, HFin.out⟩
  · have HE : Hid (res = -1) := by show _ = _; rw [HR.out]; unfold cmpTm; rw [hra, hrb]; rfl
    clear HR hTa hTb hO hra hrb
    go_wp2
    go_ret
    exact ⟨by rw [HE.out]; rfl, HFin.out⟩
  · have HE : Hid (res = cmpS (textL a) (textL b)) := by show _ = _; rw [HR.out]; unfold cmpTm; rw [hra, hrb]; rfl
    have hO2 := hO (mkS (textL a)) (mkS (textL b))
    rw [mkS_list, mkS_list] at hO2
    clear HR hra hrb hO
    generalize mkS (textL a) = ta at *
    generalize mkS (textL b) = tb at *
    go_upto_region 3 with fail
    refine Rf.wp_region_pl V2.heap.size _ (Rf.Pl.quiet [0, 2] (Rf.Pl.one 1 (Rf.Pl.one 3 (Rf.Pl.one 4 (Rf.Pl.quiet [5] (Rf.Pl.done)))))) _ (by kernel_rfl) (by kernel_rfl) (by simp only [Rf.Pl.pick, Rf.pickO, List.map_cons, List.map_nil, Rg.pickOps, List.getElem?_toArray, List.getElem?_cons_zero, List.getElem?_cons_succ, Option.getD_some]; rfl) ?_ (fun a w h => h)
    intro we hbe hwz
    have c0 := cellL a0 hbe
    have c1 := cellL a1 hbe
    have c2 := cellL a2 hbe
    have c3 := cellL a3 hbe
    have d0 := cellL b0 hbe
    have d1 := cellL b1 hbe
    have d2 := cellL b2 hbe
    have d3 := cellL b3 hbe
    have HF3 := Lib.hid hbe
    clear hwz hbe a0 a1 a2 a3 b0 b1 b2 b3
    refine Rf.pl_quiet ?_
    iterate 2 go_big_quiet_step (fail)
    refine wpQuiet_nil (Rf.pl_one ?_)
    clear c0 c1 c2 c3 d0 d1 d2 d3
    go_wp2_with (go_at_call 41; with_reducible refine (hTa _).mono ?_; rintro e V3 ⟨rfl, k3⟩)
    have F4 := below_tr HF3.out k3
    refine ⟨k3.mono HF3.out.size, Rf.pl_one ?_⟩
    go_wp2_with (go_at_call 41; with_reducible refine (hTb _).mono ?_; rintro e V4 ⟨rfl, k4⟩)
    have F5 := below_tr F4 k4
    refine ⟨k4.mono F4.size, Rf.pl_one ?_⟩
    have HF5 := Lib.hid F5
    clear k3 k4 F4 F5
    go_wp2_with (go_at_call 72; with_reducible refine (hO2 _).mono ?_; rintro e V5 ⟨rfl, rfl⟩)
    refine ⟨Below.refl _ _, Rf.pl_quiet ?_⟩
    iterate 1 go_big_quiet_step (fail)
    refine wpQuiet_nil (Rf.pl_done ?_)
    go_wp2
    go_ret
    exact ⟨by rw [HE.out]; rfl, HFin.out.trans (HF5.out.mono HFin.out.size)⟩
set_option maxHeartbeats 4000000 in
set_option maxRecDepth 100000 in
theorem r08Triples (a b : Tp) (w : World) (ha : smallP a) (hb : smallP b) :
    Calls Tryz.prog 35 #[tpA a, tpA b] w fun e w' => e = .returned (.int .i64 (cmpTp a b)) ∧ Below w.heap.size w w' := by
  have hba : Below w.heap.size w (w.alloc (.cells (tpC a) 29)) := (Below.refl _ w).alloc (Nat.le_refl _) _
  have hga := heap_alloc_new w (.cells (tpC a) 29)
  have hza : (w.alloc (.cells (tpC a) 29)).heap.size = w.heap.size + 1 := by simp
  go_enter Tryz.func35, Tryz.ntmps35
  go_upto_region 1 with fail
  change Code.wp _ _ _ _ ((w.alloc (.cells (tpC a) 29)).alloc (.cells (tpC b) 29))
  generalize w.alloc (.cells (tpC a) 29) = wa at *
  have hbb : Below wa.heap.size wa (wa.alloc (.cells (tpC b) 29)) := (Below.refl _ wa).alloc (Nat.le_refl _) _
  have hgb := heap_alloc_new wa (.cells (tpC b) 29)
  have hga2 := below_blk hbb hga
  rw [hza] at hgb
  generalize wa.alloc (.cells (tpC b) 29) = w0 at *
  have hb0 : Below w.heap.size w w0 := below_tr hba hbb
  have hsz : w.heap.size ≤ w0.heap.size := hb0.size
  have HB0 := Lib.hid hb0
  have a0 := cells_at hga2 0 rfl
  have a1 := cells_at hga2 1 rfl
  have a2 := cells_at hga2 2 rfl
  have a3 := cells_at hga2 3 rfl
  have a4 := cells_at hga2 4 rfl
  have a5 := cells_at hga2 5 rfl
  have a6 := cells_at hga2 6 rfl
  have a7 := cells_at hga2 7 rfl
  have a8 := cells_at hga2 8 rfl
  have a9 := cells_at hga2 9 rfl
  have a10 := cells_at hga2 10 rfl
  have a11 := cells_at hga2 11 rfl
  have b0 := cells_at hgb 0 rfl
  have b1 := cells_at hgb 1 rfl
  have b2 := cells_at hgb 2 rfl
  have b3 := cells_at hgb 3 rfl
  have b4 := cells_at hgb 4 rfl
  have b5 := cells_at hgb 5 rfl
  have b6 := cells_at hgb 6 rfl
  have b7 := cells_at hgb 7 rfl
  have b8 := cells_at hgb 8 rfl
  have b9 := cells_at hgb 9 rfl
  have b10 := cells_at hgb 10 rfl
  have b11 := cells_at hgb 11 rfl
  have h1 := fun W => r08Compare a.s b.s W ha.1 hb.1
  have h2 := fun W => r08Compare a.p b.p W ha.2.1 hb.2.1
  have h3 := fun W => r08Compare a.o b.o W ha.2.2 hb.2.2
  have HE : Hid (cmpTp a b = orZ (cmpTm a.s b.s) (orZ (cmpTm a.p b.p) (cmpTm a.o b.o))) := rfl
  clear hga hgb hga2 hza hba hbb hb0
  generalize cmpTm a.s b.s = n1 at *
  generalize cmpTm a.p b.p = n2 at *
  generalize cmpTm a.o b.o = n3 at *
  unfold orZ at HE
  go_wp2_with (go_at_call 47; with_reducible refine (h1 _).mono ?_)
  rintro e V1 ⟨rfl, k1⟩
  replace a0 := cell_on a0 k1
  replace a1 := cell_on a1 k1
  replace a2 := cell_on a2 k1
  replace a3 := cell_on a3 k1
  replace a4 := cell_on a4 k1
  replace a5 := cell_on a5 k1
  replace a6 := cell_on a6 k1
  replace a7 := cell_on a7 k1
  replace a8 := cell_on a8 k1
  replace a9 := cell_on a9 k1
  replace a10 := cell_on a10 k1
  replace a11 := cell_on a11 k1
  replace b0 := cell_on b0 k1
  replace b1 := cell_on b1 k1
  replace b2 := cell_on b2 k1
  replace b3 := cell_on b3 k1
  replace b4 := cell_on b4 k1
  replace b5 := cell_on b5 k1
  replace b6 := cell_on b6 k1
  replace b7 := cell_on b7 k1
  replace b8 := cell_on b8 k1
  replace b9 := cell_on b9 k1
  replace b10 := cell_on b10 k1
  replace b11 := cell_on b11 k1
  have F1 := HB0.out.trans (k1.mono hsz)
  clear k1 h1
  by_cases e1 : n1 = 0
  · rw [if_pos e1] at HE
    go_wp2_with (go_at_call 47; with_reducible refine (h2 _).mono ?_)
    rintro e V2 ⟨rfl, k2⟩
    replace a0 := cell_on a0 k2
    replace a1 := cell_on a1 k2
    replace a2 := cell_on a2 k2
    replace a3 := cell_on a3 k2
    replace a4 := cell_on a4 k2
    replace a5 := cell_on a5 k2
    replace a6 := cell_on a6 k2
    replace a7 := cell_on a7 k2
    replace a8 := cell_on a8 k2
    replace a9 := cell_on a9 k2
    replace a10 := cell_on a10 k2
    replace a11 := cell_on a11 k2
    replace b0 := cell_on b0 k2
    replace b1 := cell_on b1 k2
    replace b2 := cell_on b2 k2
    replace b3 := cell_on b3 k2
    replace b4 := cell_on b4 k2
    replace b5 := cell_on b5 k2
    replace b6 := cell_on b6 k2
    replace b7 := cell_on b7 k2
    replace b8 := cell_on b8 k2
    replace b9 := cell_on b9 k2
    replace b10 := cell_on b10 k2
    replace b11 := cell_on b11 k2
    have F2 := below_tr F1 k2
    clear k2 h2
    by_cases e2 : n2 = 0
    · rw [if_pos e2] at HE
      go_wp2_with (go_at_call 47; with_reducible refine (h3 _).mono ?_; rintro e V3 ⟨rfl, k3⟩)
      go_ret
      exact ⟨by rw [HE.out]; rfl, below_tr F2 k3⟩
    · rw [if_neg e2] at HE
      go_wp2
      go_ret
      exact ⟨by rw [HE.out]; rfl, F2⟩
  · rw [if_neg e1] at HE
    go_wp2
    go_ret
    exact ⟨by rw [HE.out]; rfl, F1⟩
end Go.Proofs.YthdlepalglgmoaaGreatDoor
