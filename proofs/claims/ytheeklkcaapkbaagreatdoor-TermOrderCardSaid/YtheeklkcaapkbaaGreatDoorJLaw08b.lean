/- The law TermOrder. Printed by gen/law08b.py. -/
import Derived.Test.YtheeklkcaapkbaaGreatDoorJLaw08s
import Derived.Test.YtheeklkcaapkbaaGreatDoorJTmEq
namespace Go.Proofs.YtheeklkcaapkbaaGreatDoor
open Go Go.RowKit Um Fm Tx
set_option maxHeartbeats 8000000 in
set_option maxRecDepth 100000 in
theorem order_walk (a b c : Tm) (w : World) (hC : CtxT w) (hs1 : hugeT a) (hs2 : hugeT b) (hs3 : hugeT c) :
    Calls Tryz.prog 3 #[tA a, tA b, tA c] w fun e w' => e = .returned (.bool true) ∧ Below w.heap.size w w' := by
  have hb1 : Below w.heap.size w (w.alloc (.cells (tC a) 24)) := (Below.refl _ w).alloc (Nat.le_refl _) _
  have hg1 := heap_alloc_new w (.cells (tC a) 24)
  have hz1 : (w.alloc (.cells (tC a) 24)).heap.size = w.heap.size + 1 := by simp
  go_enter Tryz.func3, Tryz.ntmps3
  go_upto_region 1 with fail
  change Code.wp _ _ _ _ (((w.alloc (.cells (tC a) 24)).alloc (.cells (tC b) 24)).alloc (.cells (tC c) 24))
  generalize w.alloc (.cells (tC a) 24) = wa at *
  have hb2 : Below wa.heap.size wa (wa.alloc (.cells (tC b) 24)) := (Below.refl _ wa).alloc (Nat.le_refl _) _
  have hg2 := heap_alloc_new wa (.cells (tC b) 24)
  have hz2 : (wa.alloc (.cells (tC b) 24)).heap.size = w.heap.size + 2 := by simp [hz1]
  rw [hz1] at hg2
  replace hg1 := below_blk (_B := 0) hb2 hg1
  generalize wa.alloc (.cells (tC b) 24) = wb at *
  have hb3 : Below wb.heap.size wb (wb.alloc (.cells (tC c) 24)) := (Below.refl _ wb).alloc (Nat.le_refl _) _
  have hg3 := heap_alloc_new wb (.cells (tC c) 24)
  rw [hz2] at hg3
  replace hg1 := below_blk (_B := 0) hb3 hg1
  replace hg2 := below_blk (_B := 0) hb3 hg2
  generalize wb.alloc (.cells (tC c) 24) = w0 at *
  have hb0 : Below w.heap.size w w0 := below_tr (below_tr hb1 hb2) hb3
  have hC0 := hC.step hb0
  have hsz : w.heap.size ≤ w0.heap.size := hb0.size
  have HB0 := Lib.hid hb0
  have HC0 := Lib.hid hC0
  clear hz1 hz2 hb1 hb2 hb3 hb0 hC hC0
  have ca0 := cells_at hg1 0 rfl
  have ca1 := cells_at hg1 1 rfl
  have ca2 := cells_at hg1 2 rfl
  have ca3 := cells_at hg1 3 rfl
  have cb0 := cells_at hg2 0 rfl
  have cb1 := cells_at hg2 1 rfl
  have cb2 := cells_at hg2 2 rfl
  have cb3 := cells_at hg2 3 rfl
  have cc0 := cells_at hg3 0 rfl
  have cc1 := cells_at hg3 1 rfl
  have cc2 := cells_at hg3 2 rfl
  have cc3 := cells_at hg3 3 rfl
  clear hg1 hg2 hg3
  have hA := lawAwake w0 HC0.out
  go_wp2_with (go_at_call 9; with_reducible refine hA.mono ?_)
  rintro e W1 ⟨rfl, B1⟩
  clear hA
  have d1a0 := cell_on ca0 B1
  have d1a1 := cell_on ca1 B1
  have d1a2 := cell_on ca2 B1
  have d1a3 := cell_on ca3 B1
  have d1b0 := cell_on cb0 B1
  have d1b1 := cell_on cb1 B1
  have d1b2 := cell_on cb2 B1
  have d1b3 := cell_on cb3 B1
  have d1c0 := cell_on cc0 B1
  have d1c1 := cell_on cc1 B1
  have d1c2 := cell_on cc2 B1
  have d1c3 := cell_on cc3 B1
  have hSz := lawSize [a, b, c] W1.heap.size 3 3 (W1.alloc (.cells #[.int .i64 a.k, .string a.x, .string a.l, .string a.y, .int .i64 b.k, .string b.x, .string b.l, .string b.y, .int .i64 c.k, .string c.x, .string c.l, .string c.y] 24)) rfl (heap_alloc_new W1 _) (by intro t ht; simp at ht; rcases ht with rfl | rfl | rfl <;> assumption) rfl (by simp)
  have hBS : Below W1.heap.size W1 (W1.alloc (.cells #[.int .i64 a.k, .string a.x, .string a.l, .string a.y, .int .i64 b.k, .string b.x, .string b.l, .string b.y, .int .i64 c.k, .string c.x, .string c.l, .string c.y] 24)) := (Below.refl _ _).alloc (Nat.le_refl _) _
  have B2 := Lib.hid (below_tr B1 hBS)
  by_cases hbig : 6000 < szL [a, b, c]
  · go_wp2_with (go_at_call 10; with_reducible refine hSz.mono ?_; rintro e W2 ⟨rfl, B3⟩)
    go_ret
    exact ⟨rfl, HB0.out.trans ((below_tr B2.out B3).mono hsz)⟩
  go_wp2_with (go_at_call 10; with_reducible refine hSz.mono ?_)
  rintro e W2 ⟨rfl, B3'⟩
  have B3 := below_tr B2.out B3'
  clear hSz B3' hBS B1
  clear d1a0 d1a1 d1a2 d1a3 d1b0 d1b1 d1b2 d1b3 d1c0 d1c1 d1c2 d1c3
  have ha : smallT a := smallT_of (by simp [szL, szT] at hbig; omega)
  have hb : smallT b := smallT_of (by simp [szL, szT] at hbig; omega)
  have hc : smallT c := smallT_of (by simp [szL, szT] at hbig; omega)
  have hab := fun W hB => termCompare a b W (HC0.out.step hB) ha hb
  have hba := fun W hB => termCompare b a W (HC0.out.step hB) hb ha
  have haa := fun W hB => termCompare a a W (HC0.out.step hB) ha ha
  have hbc := fun W hB => termCompare b c W (HC0.out.step hB) hb hc
  have hac := fun W hB => termCompare a c W (HC0.out.step hB) ha hc
  have hRa := fun W hB => termRight' a W (HC0.out.step hB) ha
  have hRb := fun W hB => termRight' b W (HC0.out.step hB) hb
  have hT1 := fun W hB => termTriples ⟨a, b, c⟩ ⟨a, c, b⟩ W (HC0.out.step hB) ⟨ha, hb, hc⟩ ⟨ha, hc, hb⟩
  have hT2 := fun W hB => termTriples ⟨a, b, c⟩ ⟨a, b, c⟩ W (HC0.out.step hB) ⟨ha, hb, hc⟩ ⟨ha, hb, hc⟩
  have hT3 := fun W hB => termTriples ⟨b, a, a⟩ ⟨a, c, c⟩ W (HC0.out.step hB) ⟨hb, ha, ha⟩ ⟨ha, hc, hc⟩
  rw [ordF_Tm.neg a b] at hba
  rw [ordF_Tm.self a] at haa
  rw [tp_law1 a b c] at hT1
  rw [ordF_Tp.self] at hT2
  rw [tp_law3 a b c] at hT3
  have hrng := ordF_Tm.rng a b
  have heq := cmp_eq a b
  have Htr := Lib.hid (fun (h1 : cmpTm a b ≤ 0) (h2 : cmpTm b c ≤ 0) => ordF_Tm.le h1 h2)
  have Hrk := Lib.hid (fun (h1 : rightB a = true) (h2 : rightB b = true) (h3 : rankT a < rankT b) => rank_lt h1 h2 h3)
  have Hri := Lib.hid (fun (h1 : rightB a = true) (h2 : rightB b = false) => right_lt h1 h2)
  generalize cmpTm a b = n at *
  generalize cmpTm b c = m at *
  generalize cmpTm a c = q at *
  have HT1 := Lib.hid hT1
  have HT2 := Lib.hid hT2
  have HT3 := Lib.hid hT3
  clear hT1 hT2 hT3 hs1 hs2 hs3
  have d2a0 := cell_on ca0 B3
  have d2a1 := cell_on ca1 B3
  have d2a2 := cell_on ca2 B3
  have d2a3 := cell_on ca3 B3
  have d2b0 := cell_on cb0 B3
  have d2b1 := cell_on cb1 B3
  have d2b2 := cell_on cb2 B3
  have d2b3 := cell_on cb3 B3
  have d2c0 := cell_on cc0 B3
  have d2c1 := cell_on cc1 B3
  have d2c2 := cell_on cc2 B3
  have d2c3 := cell_on cc3 B3
  go_wp2_with (go_at_call 11; with_reducible refine (hab _ B3).mono ?_)
  rintro e W3 ⟨rfl, t3⟩
  have B4 := below_tr B3 t3
  clear t3 hab
  clear d2a0 d2a1 d2a2 d2a3 d2b0 d2b1 d2b2 d2b3 d2c0 d2c1 d2c2 d2c3
  have d3a0 := cell_on ca0 B4
  have d3a1 := cell_on ca1 B4
  have d3a2 := cell_on ca2 B4
  have d3a3 := cell_on ca3 B4
  have d3b0 := cell_on cb0 B4
  have d3b1 := cell_on cb1 B4
  have d3b2 := cell_on cb2 B4
  have d3b3 := cell_on cb3 B4
  have d3c0 := cell_on cc0 B4
  have d3c1 := cell_on cc1 B4
  have d3c2 := cell_on cc2 B4
  have d3c3 := cell_on cc3 B4
  have HB4 := Lib.hid B4
  go_upto_region 6 with fail
  go_cut [49] from 22 to 48 (fun s wx => s = .bool false ∧ Below w0.heap.size w0 wx)
  case first =>
    have hE := fun W => run_eqTm a b W
    by_cases hn : n = 0
    · obtain rfl := heq.1 hn
      rw [sameTm_iff.2 rfl] at hE
      subst hn
      rw [Int.neg_zero] at hba
      go_wp2_with (first | (go_at_call 11; with_reducible refine (hba _ HB4.out).mono ?_; rintro e W5 ⟨rfl, t5⟩; have B5 := below_tr HB4.out t5; have d4a0 := cell_on ca0 B5; have d4a1 := cell_on ca1 B5; have d4a2 := cell_on ca2 B5; have d4a3 := cell_on ca3 B5; have d4b0 := cell_on cb0 B5; have d4b1 := cell_on cb1 B5; have d4b2 := cell_on cb2 B5; have d4b3 := cell_on cb3 B5; have d4c0 := cell_on cc0 B5; have d4c1 := cell_on cc1 B5; have d4c2 := cell_on cc2 B5; have d4c3 := cell_on cc3 B5) | (go_at_call 11; with_reducible refine (haa _ B5).mono ?_; rintro e W6 ⟨rfl, t6⟩; have B6 := below_tr B5 t6; have d5a0 := cell_on ca0 B6; have d5a1 := cell_on ca1 B6; have d5a2 := cell_on ca2 B6; have d5a3 := cell_on ca3 B6; have d5b0 := cell_on cb0 B6; have d5b1 := cell_on cb1 B6; have d5b2 := cell_on cb2 B6; have d5b3 := cell_on cb3 B6; have d5c0 := cell_on cc0 B6; have d5c1 := cell_on cc1 B6; have d5c2 := cell_on cc2 B6; have d5c3 := cell_on cc3 B6))
      go_meet
      case rel => exact ⟨rfl, B6⟩
    · have hs : sameTm a b = false := by
        cases h : sameTm a b
        · rfl
        · exact absurd (heq.2 (sameTm_iff.1 h)) hn
      rw [hs] at hE
      clear hs heq
      rcases (by omega : n = -1 ∨ n = 1) with rfl | rfl
      · rw [show -(-1 : Int) = 1 from rfl] at hba
        go_wp2_with (first | (go_at_call 11; with_reducible refine (hba _ HB4.out).mono ?_; rintro e W5 ⟨rfl, t5⟩; have B5 := below_tr HB4.out t5; have d6a0 := cell_on ca0 B5; have d6a1 := cell_on ca1 B5; have d6a2 := cell_on ca2 B5; have d6a3 := cell_on ca3 B5; have d6b0 := cell_on cb0 B5; have d6b1 := cell_on cb1 B5; have d6b2 := cell_on cb2 B5; have d6b3 := cell_on cb3 B5; have d6c0 := cell_on cc0 B5; have d6c1 := cell_on cc1 B5; have d6c2 := cell_on cc2 B5; have d6c3 := cell_on cc3 B5) | (go_at_call 11; with_reducible refine (haa _ B5).mono ?_; rintro e W6 ⟨rfl, t6⟩; have B6 := below_tr B5 t6; have d7a0 := cell_on ca0 B6; have d7a1 := cell_on ca1 B6; have d7a2 := cell_on ca2 B6; have d7a3 := cell_on ca3 B6; have d7b0 := cell_on cb0 B6; have d7b1 := cell_on cb1 B6; have d7b2 := cell_on cb2 B6; have d7b3 := cell_on cb3 B6; have d7c0 := cell_on cc0 B6; have d7c1 := cell_on cc1 B6; have d7c2 := cell_on cc2 B6; have d7c3 := cell_on cc3 B6))
        go_meet
        case rel => exact ⟨rfl, B6⟩
      · skip
        go_wp2_with (first | (go_at_call 11; with_reducible refine (hba _ HB4.out).mono ?_; rintro e W5 ⟨rfl, t5⟩; have B5 := below_tr HB4.out t5; have d8a0 := cell_on ca0 B5; have d8a1 := cell_on ca1 B5; have d8a2 := cell_on ca2 B5; have d8a3 := cell_on ca3 B5; have d8b0 := cell_on cb0 B5; have d8b1 := cell_on cb1 B5; have d8b2 := cell_on cb2 B5; have d8b3 := cell_on cb3 B5; have d8c0 := cell_on cc0 B5; have d8c1 := cell_on cc1 B5; have d8c2 := cell_on cc2 B5; have d8c3 := cell_on cc3 B5) | (go_at_call 11; with_reducible refine (haa _ B5).mono ?_; rintro e W6 ⟨rfl, t6⟩; have B6 := below_tr B5 t6; have d9a0 := cell_on ca0 B6; have d9a1 := cell_on ca1 B6; have d9a2 := cell_on ca2 B6; have d9a3 := cell_on ca3 B6; have d9b0 := cell_on cb0 B6; have d9b1 := cell_on cb1 B6; have d9b2 := cell_on cb2 B6; have d9b3 := cell_on cb3 B6; have d9c0 := cell_on cc0 B6; have d9c1 := cell_on cc1 B6; have d9c2 := cell_on cc2 B6; have d9c3 := cell_on cc3 B6))
        go_meet
        case rel => exact ⟨rfl, B6⟩
  case rest =>
    obtain ⟨rfl, C1⟩ := hcut
    have HC1 := Lib.hid C1
    clear heq hba haa
    clear d3a0 d3a1 d3a2 d3a3 d3b0 d3b1 d3b2 d3b3 d3c0 d3c1 d3c2 d3c3
    have d10a0 := cell_on ca0 C1
    have d10a1 := cell_on ca1 C1
    have d10a2 := cell_on ca2 C1
    have d10a3 := cell_on ca3 C1
    have d10b0 := cell_on cb0 C1
    have d10b1 := cell_on cb1 C1
    have d10b2 := cell_on cb2 C1
    have d10b3 := cell_on cb3 C1
    have d10c0 := cell_on cc0 C1
    have d10c1 := cell_on cc1 C1
    have d10c2 := cell_on cc2 C1
    have d10c3 := cell_on cc3 C1
    go_upto_region 8 with fail
    go_cut [63] from 50 to 62 (fun s wx => s = .bool false ∧ Below w0.heap.size w0 wx)
    case first =>
      by_cases h1 : n ≤ 0
      · by_cases h2 : m ≤ 0
        · have h3 := Htr.out h1 h2
          go_wp2_with (first | (go_at_call 11; with_reducible refine (hbc _ HC1.out).mono ?_; rintro e W5 ⟨rfl, t5⟩; have B5 := below_tr HC1.out t5; have d11a0 := cell_on ca0 B5; have d11a1 := cell_on ca1 B5; have d11a2 := cell_on ca2 B5; have d11a3 := cell_on ca3 B5; have d11b0 := cell_on cb0 B5; have d11b1 := cell_on cb1 B5; have d11b2 := cell_on cb2 B5; have d11b3 := cell_on cb3 B5; have d11c0 := cell_on cc0 B5; have d11c1 := cell_on cc1 B5; have d11c2 := cell_on cc2 B5; have d11c3 := cell_on cc3 B5) | (go_at_call 11; with_reducible refine (hac _ B5).mono ?_; rintro e W6 ⟨rfl, t6⟩; have B6 := below_tr B5 t6; have d12a0 := cell_on ca0 B6; have d12a1 := cell_on ca1 B6; have d12a2 := cell_on ca2 B6; have d12a3 := cell_on ca3 B6; have d12b0 := cell_on cb0 B6; have d12b1 := cell_on cb1 B6; have d12b2 := cell_on cb2 B6; have d12b3 := cell_on cb3 B6; have d12c0 := cell_on cc0 B6; have d12c1 := cell_on cc1 B6; have d12c2 := cell_on cc2 B6; have d12c3 := cell_on cc3 B6))
          go_meet
          case rel => exact ⟨by first | rfl | (simp; omega), B6⟩
        · go_wp2_with (first | (go_at_call 11; with_reducible refine (hbc _ HC1.out).mono ?_; rintro e W5 ⟨rfl, t5⟩; have B5 := below_tr HC1.out t5; have d13a0 := cell_on ca0 B5; have d13a1 := cell_on ca1 B5; have d13a2 := cell_on ca2 B5; have d13a3 := cell_on ca3 B5; have d13b0 := cell_on cb0 B5; have d13b1 := cell_on cb1 B5; have d13b2 := cell_on cb2 B5; have d13b3 := cell_on cb3 B5; have d13c0 := cell_on cc0 B5; have d13c1 := cell_on cc1 B5; have d13c2 := cell_on cc2 B5; have d13c3 := cell_on cc3 B5))
          go_meet
          case rel => exact ⟨rfl, B5⟩
      · go_wp2_with fail
        go_meet
        case rel => exact ⟨rfl, C1⟩
    case rest =>
      obtain ⟨rfl, C2⟩ := hcut
      have HC2 := Lib.hid C2
      clear d10a0 d10a1 d10a2 d10a3 d10b0 d10b1 d10b2 d10b3 d10c0 d10c1 d10c2 d10c3
      go_upto_region 10 with fail
      go_cut [93] from 64 to 92 (fun s wx => s = .bool false ∧ Below w0.heap.size w0 wx)
      case first =>
        have hka := fun W => lawRank a W
        have hkb := fun W => lawRank b W
        cases hra : rightB a
        · have H0 : Hid True := trivial
          rw [hra] at hRa
          clear Hrk Hri H0
          refine Rf.wp_region_pl w0.heap.size _ (Rf.Pl.quiet [0] (Rf.Pl.one 1 (Rf.Pl.quiet [2, 3] (Rf.Pl.one 4 (Rf.Pl.quiet [5, 6, 7, 9] (Rf.Pl.one 8 (Rf.Pl.one 10 (Rf.Pl.quiet [11, 12, 13, 14, 15, 16, 17, 18] (Rf.Pl.one 19 (Rf.Pl.quiet [20, 21] (Rf.Pl.one 22 (Rf.Pl.quiet [23, 24, 25, 26, 27, 28, 29] (Rf.Pl.done))))))))))))) _ (by kernel_rfl) (by kernel_rfl) (by simp only [Rf.Pl.pick, Rf.pickO, List.map_cons, List.map_nil, Rg.pickOps, List.getElem?_toArray, List.getElem?_cons_zero, List.getElem?_cons_succ, Option.getD_some]; rfl) ?_ (fun a w h => h)
          intro wd hbd hwz
          have D0 := C2.trans (hbd.mono C2.size)
          clear hwz hbd
          refine Rf.pl_quiet ?_
          have d14a0 := cellL ca0 D0
          have d14a1 := cellL ca1 D0
          have d14a2 := cellL ca2 D0
          have d14a3 := cellL ca3 D0
          have d14b0 := cellL cb0 D0
          have d14b1 := cellL cb1 D0
          have d14b2 := cellL cb2 D0
          have d14b3 := cellL cb3 D0
          iterate 1 go_big_quiet_step (fail)
          refine wpQuiet_nil (Rf.pl_one ?_)
          clear d14a0 d14a1 d14a2 d14a3 d14b0 d14b1 d14b2 d14b3
          go_wp2_with (go_at_call 12; with_reducible refine (hRa _ D0).mono ?_; rintro e U21 ⟨rfl, u21⟩)
          have D21 := below_tr D0 u21
          refine ⟨u21.mono D0.size, Rf.pl_quiet ?_⟩
          have d15a0 := cellL ca0 D21
          have d15a1 := cellL ca1 D21
          have d15a2 := cellL ca2 D21
          have d15a3 := cellL ca3 D21
          have d15b0 := cellL cb0 D21
          have d15b1 := cellL cb1 D21
          have d15b2 := cellL cb2 D21
          have d15b3 := cellL cb3 D21
          iterate 2 go_big_quiet_step (fail)
          refine wpQuiet_nil (Rf.pl_one ?_)
          clear d15a0 d15a1 d15a2 d15a3 d15b0 d15b1 d15b2 d15b3
          go_wp2_with fail
          refine ⟨Below.refl _ _, Rf.pl_quiet ?_⟩
          have d16a0 := cellL ca0 D21
          have d16a1 := cellL ca1 D21
          have d16a2 := cellL ca2 D21
          have d16a3 := cellL ca3 D21
          have d16b0 := cellL cb0 D21
          have d16b1 := cellL cb1 D21
          have d16b2 := cellL cb2 D21
          have d16b3 := cellL cb3 D21
          iterate 4 go_big_quiet_step (fail)
          refine wpQuiet_nil (Rf.pl_one ?_)
          clear d16a0 d16a1 d16a2 d16a3 d16b0 d16b1 d16b2 d16b3
          go_wp2_with fail
          refine ⟨Below.refl _ _, Rf.pl_one ?_⟩
          have d17a0 := cellL ca0 D21
          have d17a1 := cellL ca1 D21
          have d17a2 := cellL ca2 D21
          have d17a3 := cellL ca3 D21
          have d17b0 := cellL cb0 D21
          have d17b1 := cellL cb1 D21
          have d17b2 := cellL cb2 D21
          have d17b3 := cellL cb3 D21
          clear d17a0 d17a1 d17a2 d17a3 d17b0 d17b1 d17b2 d17b3
          go_wp2_with fail
          refine ⟨Below.refl _ _, Rf.pl_quiet ?_⟩
          have d18a0 := cellL ca0 D21
          have d18a1 := cellL ca1 D21
          have d18a2 := cellL ca2 D21
          have d18a3 := cellL ca3 D21
          have d18b0 := cellL cb0 D21
          have d18b1 := cellL cb1 D21
          have d18b2 := cellL cb2 D21
          have d18b3 := cellL cb3 D21
          iterate 8 go_big_quiet_step (fail)
          refine wpQuiet_nil (Rf.pl_one ?_)
          clear d18a0 d18a1 d18a2 d18a3 d18b0 d18b1 d18b2 d18b3
          go_wp2_with (go_at_call 12; with_reducible refine (hRa _ D21).mono ?_; rintro e U25 ⟨rfl, u25⟩)
          have D25 := below_tr D21 u25
          refine ⟨u25.mono D21.size, Rf.pl_quiet ?_⟩
          have d19a0 := cellL ca0 D25
          have d19a1 := cellL ca1 D25
          have d19a2 := cellL ca2 D25
          have d19a3 := cellL ca3 D25
          have d19b0 := cellL cb0 D25
          have d19b1 := cellL cb1 D25
          have d19b2 := cellL cb2 D25
          have d19b3 := cellL cb3 D25
          iterate 2 go_big_quiet_step (fail)
          refine wpQuiet_nil (Rf.pl_one ?_)
          clear d19a0 d19a1 d19a2 d19a3 d19b0 d19b1 d19b2 d19b3
          go_wp2_with fail
          refine ⟨Below.refl _ _, Rf.pl_quiet ?_⟩
          have d20a0 := cellL ca0 D25
          have d20a1 := cellL ca1 D25
          have d20a2 := cellL ca2 D25
          have d20a3 := cellL ca3 D25
          have d20b0 := cellL cb0 D25
          have d20b1 := cellL cb1 D25
          have d20b2 := cellL cb2 D25
          have d20b3 := cellL cb3 D25
          iterate 7 go_big_quiet_step (fail)
          refine wpQuiet_nil (Rf.pl_done ?_)
          go_wp2_with fail
          go_meet
          case rel => exact ⟨by first | rfl | (simp; omega), D25⟩
        · cases hrb : rightB b
          · have hlt := Hri.out hra hrb
            obtain rfl : n = -1 := by omega
            rw [hra] at hRa
            rw [hrb] at hRb
            clear Hrk Hri
            refine Rf.wp_region_pl w0.heap.size _ (Rf.Pl.quiet [0] (Rf.Pl.one 1 (Rf.Pl.quiet [2, 3] (Rf.Pl.one 4 (Rf.Pl.quiet [5, 6, 7, 9] (Rf.Pl.one 8 (Rf.Pl.one 10 (Rf.Pl.quiet [11, 12, 13, 14, 15, 16, 17, 18] (Rf.Pl.one 19 (Rf.Pl.quiet [20, 21] (Rf.Pl.one 22 (Rf.Pl.quiet [23, 24, 25, 26, 27, 28, 29] (Rf.Pl.done))))))))))))) _ (by kernel_rfl) (by kernel_rfl) (by simp only [Rf.Pl.pick, Rf.pickO, List.map_cons, List.map_nil, Rg.pickOps, List.getElem?_toArray, List.getElem?_cons_zero, List.getElem?_cons_succ, Option.getD_some]; rfl) ?_ (fun a w h => h)
            intro wd hbd hwz
            have D0 := C2.trans (hbd.mono C2.size)
            clear hwz hbd
            refine Rf.pl_quiet ?_
            have d21a0 := cellL ca0 D0
            have d21a1 := cellL ca1 D0
            have d21a2 := cellL ca2 D0
            have d21a3 := cellL ca3 D0
            have d21b0 := cellL cb0 D0
            have d21b1 := cellL cb1 D0
            have d21b2 := cellL cb2 D0
            have d21b3 := cellL cb3 D0
            iterate 1 go_big_quiet_step (fail)
            refine wpQuiet_nil (Rf.pl_one ?_)
            clear d21a0 d21a1 d21a2 d21a3 d21b0 d21b1 d21b2 d21b3
            go_wp2_with (go_at_call 12; with_reducible refine (hRa _ D0).mono ?_; rintro e U21 ⟨rfl, u21⟩)
            have D21 := below_tr D0 u21
            refine ⟨u21.mono D0.size, Rf.pl_quiet ?_⟩
            have d22a0 := cellL ca0 D21
            have d22a1 := cellL ca1 D21
            have d22a2 := cellL ca2 D21
            have d22a3 := cellL ca3 D21
            have d22b0 := cellL cb0 D21
            have d22b1 := cellL cb1 D21
            have d22b2 := cellL cb2 D21
            have d22b3 := cellL cb3 D21
            iterate 2 go_big_quiet_step (fail)
            refine wpQuiet_nil (Rf.pl_one ?_)
            clear d22a0 d22a1 d22a2 d22a3 d22b0 d22b1 d22b2 d22b3
            go_wp2_with (go_at_call 12; with_reducible refine (hRb _ D21).mono ?_; rintro e U22 ⟨rfl, u22⟩)
            have D22 := below_tr D21 u22
            refine ⟨u22.mono D21.size, Rf.pl_quiet ?_⟩
            have d23a0 := cellL ca0 D22
            have d23a1 := cellL ca1 D22
            have d23a2 := cellL ca2 D22
            have d23a3 := cellL ca3 D22
            have d23b0 := cellL cb0 D22
            have d23b1 := cellL cb1 D22
            have d23b2 := cellL cb2 D22
            have d23b3 := cellL cb3 D22
            iterate 4 go_big_quiet_step (fail)
            refine wpQuiet_nil (Rf.pl_one ?_)
            clear d23a0 d23a1 d23a2 d23a3 d23b0 d23b1 d23b2 d23b3
            go_wp2_with fail
            refine ⟨Below.refl _ _, Rf.pl_one ?_⟩
            have d24a0 := cellL ca0 D22
            have d24a1 := cellL ca1 D22
            have d24a2 := cellL ca2 D22
            have d24a3 := cellL ca3 D22
            have d24b0 := cellL cb0 D22
            have d24b1 := cellL cb1 D22
            have d24b2 := cellL cb2 D22
            have d24b3 := cellL cb3 D22
            clear d24a0 d24a1 d24a2 d24a3 d24b0 d24b1 d24b2 d24b3
            go_wp2_with fail
            refine ⟨Below.refl _ _, Rf.pl_quiet ?_⟩
            have d25a0 := cellL ca0 D22
            have d25a1 := cellL ca1 D22
            have d25a2 := cellL ca2 D22
            have d25a3 := cellL ca3 D22
            have d25b0 := cellL cb0 D22
            have d25b1 := cellL cb1 D22
            have d25b2 := cellL cb2 D22
            have d25b3 := cellL cb3 D22
            iterate 8 go_big_quiet_step (fail)
            refine wpQuiet_nil (Rf.pl_one ?_)
            clear d25a0 d25a1 d25a2 d25a3 d25b0 d25b1 d25b2 d25b3
            go_wp2_with (go_at_call 12; with_reducible refine (hRa _ D22).mono ?_; rintro e U25 ⟨rfl, u25⟩)
            have D25 := below_tr D22 u25
            refine ⟨u25.mono D22.size, Rf.pl_quiet ?_⟩
            have d26a0 := cellL ca0 D25
            have d26a1 := cellL ca1 D25
            have d26a2 := cellL ca2 D25
            have d26a3 := cellL ca3 D25
            have d26b0 := cellL cb0 D25
            have d26b1 := cellL cb1 D25
            have d26b2 := cellL cb2 D25
            have d26b3 := cellL cb3 D25
            iterate 2 go_big_quiet_step (fail)
            refine wpQuiet_nil (Rf.pl_one ?_)
            clear d26a0 d26a1 d26a2 d26a3 d26b0 d26b1 d26b2 d26b3
            go_wp2_with (go_at_call 12; with_reducible refine (hRb _ D25).mono ?_; rintro e U26 ⟨rfl, u26⟩)
            have D26 := below_tr D25 u26
            refine ⟨u26.mono D25.size, Rf.pl_quiet ?_⟩
            have d27a0 := cellL ca0 D26
            have d27a1 := cellL ca1 D26
            have d27a2 := cellL ca2 D26
            have d27a3 := cellL ca3 D26
            have d27b0 := cellL cb0 D26
            have d27b1 := cellL cb1 D26
            have d27b2 := cellL cb2 D26
            have d27b3 := cellL cb3 D26
            iterate 7 go_big_quiet_step (fail)
            refine wpQuiet_nil (Rf.pl_done ?_)
            go_wp2_with fail
            go_meet
            case rel => exact ⟨by first | rfl | (simp; omega), D26⟩
          · by_cases hk : rankT a < rankT b
            · have hlt := Hrk.out hra hrb hk
              obtain rfl : n = -1 := by omega
              rw [hra] at hRa
              rw [hrb] at hRb
              clear Hrk Hri
              refine Rf.wp_region_pl w0.heap.size _ (Rf.Pl.quiet [0] (Rf.Pl.one 1 (Rf.Pl.quiet [2, 3] (Rf.Pl.one 4 (Rf.Pl.quiet [5, 6, 7, 9] (Rf.Pl.one 8 (Rf.Pl.one 10 (Rf.Pl.quiet [11, 12, 13, 14, 15, 16, 17, 18] (Rf.Pl.one 19 (Rf.Pl.quiet [20, 21] (Rf.Pl.one 22 (Rf.Pl.quiet [23, 24, 25, 26, 27, 28, 29] (Rf.Pl.done))))))))))))) _ (by kernel_rfl) (by kernel_rfl) (by simp only [Rf.Pl.pick, Rf.pickO, List.map_cons, List.map_nil, Rg.pickOps, List.getElem?_toArray, List.getElem?_cons_zero, List.getElem?_cons_succ, Option.getD_some]; rfl) ?_ (fun a w h => h)
              intro wd hbd hwz
              have D0 := C2.trans (hbd.mono C2.size)
              clear hwz hbd
              refine Rf.pl_quiet ?_
              have d28a0 := cellL ca0 D0
              have d28a1 := cellL ca1 D0
              have d28a2 := cellL ca2 D0
              have d28a3 := cellL ca3 D0
              have d28b0 := cellL cb0 D0
              have d28b1 := cellL cb1 D0
              have d28b2 := cellL cb2 D0
              have d28b3 := cellL cb3 D0
              iterate 1 go_big_quiet_step (fail)
              refine wpQuiet_nil (Rf.pl_one ?_)
              clear d28a0 d28a1 d28a2 d28a3 d28b0 d28b1 d28b2 d28b3
              go_wp2_with (go_at_call 12; with_reducible refine (hRa _ D0).mono ?_; rintro e U21 ⟨rfl, u21⟩)
              have D21 := below_tr D0 u21
              refine ⟨u21.mono D0.size, Rf.pl_quiet ?_⟩
              have d29a0 := cellL ca0 D21
              have d29a1 := cellL ca1 D21
              have d29a2 := cellL ca2 D21
              have d29a3 := cellL ca3 D21
              have d29b0 := cellL cb0 D21
              have d29b1 := cellL cb1 D21
              have d29b2 := cellL cb2 D21
              have d29b3 := cellL cb3 D21
              iterate 2 go_big_quiet_step (fail)
              refine wpQuiet_nil (Rf.pl_one ?_)
              clear d29a0 d29a1 d29a2 d29a3 d29b0 d29b1 d29b2 d29b3
              go_wp2_with (go_at_call 12; with_reducible refine (hRb _ D21).mono ?_; rintro e U22 ⟨rfl, u22⟩)
              have D22 := below_tr D21 u22
              refine ⟨u22.mono D21.size, Rf.pl_quiet ?_⟩
              have d30a0 := cellL ca0 D22
              have d30a1 := cellL ca1 D22
              have d30a2 := cellL ca2 D22
              have d30a3 := cellL ca3 D22
              have d30b0 := cellL cb0 D22
              have d30b1 := cellL cb1 D22
              have d30b2 := cellL cb2 D22
              have d30b3 := cellL cb3 D22
              iterate 4 go_big_quiet_step (fail)
              refine wpQuiet_nil (Rf.pl_one ?_)
              clear d30a0 d30a1 d30a2 d30a3 d30b0 d30b1 d30b2 d30b3
              go_wp2_with (go_at_call 13; with_reducible refine (hka _).mono ?_; rintro e U23 ⟨rfl, u23⟩)
              have D23 := below_tr D22 u23
              refine ⟨u23.mono D22.size, Rf.pl_one ?_⟩
              have d31a0 := cellL ca0 D23
              have d31a1 := cellL ca1 D23
              have d31a2 := cellL ca2 D23
              have d31a3 := cellL ca3 D23
              have d31b0 := cellL cb0 D23
              have d31b1 := cellL cb1 D23
              have d31b2 := cellL cb2 D23
              have d31b3 := cellL cb3 D23
              clear d31a0 d31a1 d31a2 d31a3 d31b0 d31b1 d31b2 d31b3
              go_wp2_with (go_at_call 13; with_reducible refine (hkb _).mono ?_; rintro e U24 ⟨rfl, u24⟩)
              have D24 := below_tr D23 u24
              refine ⟨u24.mono D23.size, Rf.pl_quiet ?_⟩
              have d32a0 := cellL ca0 D24
              have d32a1 := cellL ca1 D24
              have d32a2 := cellL ca2 D24
              have d32a3 := cellL ca3 D24
              have d32b0 := cellL cb0 D24
              have d32b1 := cellL cb1 D24
              have d32b2 := cellL cb2 D24
              have d32b3 := cellL cb3 D24
              iterate 8 go_big_quiet_step (fail)
              refine wpQuiet_nil (Rf.pl_one ?_)
              clear d32a0 d32a1 d32a2 d32a3 d32b0 d32b1 d32b2 d32b3
              go_wp2_with (go_at_call 12; with_reducible refine (hRa _ D24).mono ?_; rintro e U25 ⟨rfl, u25⟩)
              have D25 := below_tr D24 u25
              refine ⟨u25.mono D24.size, Rf.pl_quiet ?_⟩
              have d33a0 := cellL ca0 D25
              have d33a1 := cellL ca1 D25
              have d33a2 := cellL ca2 D25
              have d33a3 := cellL ca3 D25
              have d33b0 := cellL cb0 D25
              have d33b1 := cellL cb1 D25
              have d33b2 := cellL cb2 D25
              have d33b3 := cellL cb3 D25
              iterate 2 go_big_quiet_step (fail)
              refine wpQuiet_nil (Rf.pl_one ?_)
              clear d33a0 d33a1 d33a2 d33a3 d33b0 d33b1 d33b2 d33b3
              go_wp2_with (go_at_call 12; with_reducible refine (hRb _ D25).mono ?_; rintro e U26 ⟨rfl, u26⟩)
              have D26 := below_tr D25 u26
              refine ⟨u26.mono D25.size, Rf.pl_quiet ?_⟩
              have d34a0 := cellL ca0 D26
              have d34a1 := cellL ca1 D26
              have d34a2 := cellL ca2 D26
              have d34a3 := cellL ca3 D26
              have d34b0 := cellL cb0 D26
              have d34b1 := cellL cb1 D26
              have d34b2 := cellL cb2 D26
              have d34b3 := cellL cb3 D26
              iterate 7 go_big_quiet_step (fail)
              refine wpQuiet_nil (Rf.pl_done ?_)
              go_wp2_with fail
              go_meet
              case rel => exact ⟨by first | rfl | (simp; omega), D26⟩
            · have H0 : Hid True := trivial
              have hk2 : decide (rankT a < rankT b) = false := decide_eq_false hk
              rw [hra] at hRa
              rw [hrb] at hRb
              clear Hrk Hri H0
              refine Rf.wp_region_pl w0.heap.size _ (Rf.Pl.quiet [0] (Rf.Pl.one 1 (Rf.Pl.quiet [2, 3] (Rf.Pl.one 4 (Rf.Pl.quiet [5, 6, 7, 9] (Rf.Pl.one 8 (Rf.Pl.one 10 (Rf.Pl.quiet [11, 12, 13, 14, 15, 16, 17, 18] (Rf.Pl.one 19 (Rf.Pl.quiet [20, 21] (Rf.Pl.one 22 (Rf.Pl.quiet [23, 24, 25, 26, 27, 28, 29] (Rf.Pl.done))))))))))))) _ (by kernel_rfl) (by kernel_rfl) (by simp only [Rf.Pl.pick, Rf.pickO, List.map_cons, List.map_nil, Rg.pickOps, List.getElem?_toArray, List.getElem?_cons_zero, List.getElem?_cons_succ, Option.getD_some]; rfl) ?_ (fun a w h => h)
              intro wd hbd hwz
              have D0 := C2.trans (hbd.mono C2.size)
              clear hwz hbd
              refine Rf.pl_quiet ?_
              have d35a0 := cellL ca0 D0
              have d35a1 := cellL ca1 D0
              have d35a2 := cellL ca2 D0
              have d35a3 := cellL ca3 D0
              have d35b0 := cellL cb0 D0
              have d35b1 := cellL cb1 D0
              have d35b2 := cellL cb2 D0
              have d35b3 := cellL cb3 D0
              iterate 1 go_big_quiet_step (fail)
              refine wpQuiet_nil (Rf.pl_one ?_)
              clear d35a0 d35a1 d35a2 d35a3 d35b0 d35b1 d35b2 d35b3
              go_wp2_with (go_at_call 12; with_reducible refine (hRa _ D0).mono ?_; rintro e U21 ⟨rfl, u21⟩)
              have D21 := below_tr D0 u21
              refine ⟨u21.mono D0.size, Rf.pl_quiet ?_⟩
              have d36a0 := cellL ca0 D21
              have d36a1 := cellL ca1 D21
              have d36a2 := cellL ca2 D21
              have d36a3 := cellL ca3 D21
              have d36b0 := cellL cb0 D21
              have d36b1 := cellL cb1 D21
              have d36b2 := cellL cb2 D21
              have d36b3 := cellL cb3 D21
              iterate 2 go_big_quiet_step (fail)
              refine wpQuiet_nil (Rf.pl_one ?_)
              clear d36a0 d36a1 d36a2 d36a3 d36b0 d36b1 d36b2 d36b3
              go_wp2_with (go_at_call 12; with_reducible refine (hRb _ D21).mono ?_; rintro e U22 ⟨rfl, u22⟩)
              have D22 := below_tr D21 u22
              refine ⟨u22.mono D21.size, Rf.pl_quiet ?_⟩
              have d37a0 := cellL ca0 D22
              have d37a1 := cellL ca1 D22
              have d37a2 := cellL ca2 D22
              have d37a3 := cellL ca3 D22
              have d37b0 := cellL cb0 D22
              have d37b1 := cellL cb1 D22
              have d37b2 := cellL cb2 D22
              have d37b3 := cellL cb3 D22
              iterate 4 go_big_quiet_step (fail)
              refine wpQuiet_nil (Rf.pl_one ?_)
              clear d37a0 d37a1 d37a2 d37a3 d37b0 d37b1 d37b2 d37b3
              go_wp2_with (go_at_call 13; with_reducible refine (hka _).mono ?_; rintro e U23 ⟨rfl, u23⟩)
              have D23 := below_tr D22 u23
              refine ⟨u23.mono D22.size, Rf.pl_one ?_⟩
              have d38a0 := cellL ca0 D23
              have d38a1 := cellL ca1 D23
              have d38a2 := cellL ca2 D23
              have d38a3 := cellL ca3 D23
              have d38b0 := cellL cb0 D23
              have d38b1 := cellL cb1 D23
              have d38b2 := cellL cb2 D23
              have d38b3 := cellL cb3 D23
              clear d38a0 d38a1 d38a2 d38a3 d38b0 d38b1 d38b2 d38b3
              go_wp2_with (go_at_call 13; with_reducible refine (hkb _).mono ?_; rintro e U24 ⟨rfl, u24⟩)
              have D24 := below_tr D23 u24
              refine ⟨u24.mono D23.size, Rf.pl_quiet ?_⟩
              have d39a0 := cellL ca0 D24
              have d39a1 := cellL ca1 D24
              have d39a2 := cellL ca2 D24
              have d39a3 := cellL ca3 D24
              have d39b0 := cellL cb0 D24
              have d39b1 := cellL cb1 D24
              have d39b2 := cellL cb2 D24
              have d39b3 := cellL cb3 D24
              iterate 8 go_big_quiet_step (fail)
              refine wpQuiet_nil (Rf.pl_one ?_)
              clear d39a0 d39a1 d39a2 d39a3 d39b0 d39b1 d39b2 d39b3
              go_wp2_with (go_at_call 12; with_reducible refine (hRa _ D24).mono ?_; rintro e U25 ⟨rfl, u25⟩)
              have D25 := below_tr D24 u25
              refine ⟨u25.mono D24.size, Rf.pl_quiet ?_⟩
              have d40a0 := cellL ca0 D25
              have d40a1 := cellL ca1 D25
              have d40a2 := cellL ca2 D25
              have d40a3 := cellL ca3 D25
              have d40b0 := cellL cb0 D25
              have d40b1 := cellL cb1 D25
              have d40b2 := cellL cb2 D25
              have d40b3 := cellL cb3 D25
              iterate 2 go_big_quiet_step (fail)
              refine wpQuiet_nil (Rf.pl_one ?_)
              clear d40a0 d40a1 d40a2 d40a3 d40b0 d40b1 d40b2 d40b3
              go_wp2_with (go_at_call 12; with_reducible refine (hRb _ D25).mono ?_; rintro e U26 ⟨rfl, u26⟩)
              have D26 := below_tr D25 u26
              refine ⟨u26.mono D25.size, Rf.pl_quiet ?_⟩
              have d41a0 := cellL ca0 D26
              have d41a1 := cellL ca1 D26
              have d41a2 := cellL ca2 D26
              have d41a3 := cellL ca3 D26
              have d41b0 := cellL cb0 D26
              have d41b1 := cellL cb1 D26
              have d41b2 := cellL cb2 D26
              have d41b3 := cellL cb3 D26
              iterate 7 go_big_quiet_step (fail)
              refine wpQuiet_nil (Rf.pl_done ?_)
              go_wp2_with fail
              go_meet
              case rel => exact ⟨by first | rfl | (simp; omega), D26⟩
      case rest =>
        obtain ⟨rfl, C3⟩ := hcut
        have HC3 := Lib.hid C3
        clear hRa hRb Hrk Hri Htr
        go_upto_region 12 with fail
        go_cut [8, 9] from 94 to 101 (fun p1 p2 wx => ∃ g1 g2, p1 = .pointer (some ⟨g1, 0, none⟩) ∧ p2 = .pointer (some ⟨g2, 0, none⟩) ∧ wx.heap[g1]? = some (Obj.cells (tpC ⟨a, b, c⟩) 31 (0, 0)) ∧ wx.heap[g2]? = some (Obj.cells (tpC ⟨a, c, b⟩) 31 (0, 0)) ∧ Below w0.heap.size w0 wx)
        case first =>
          have hTi : (Tryz.prog.info? 31).map (·.size) = some 12 := by kernel_rfl
          refine Rf.wp_region_pl w0.heap.size _ (Rf.Pl.quiet [0, 1, 2, 3, 4, 5, 6, 7] (Rf.Pl.fork 8 9 (Rf.Pl.one 9 (Rf.Pl.one 10 (Rf.Pl.one 11 (Rf.Pl.done)))) (Rf.Pl.one 8 (Rf.Pl.one 10 (Rf.Pl.one 11 (Rf.Pl.done)))))) _ (by kernel_rfl) (by kernel_rfl) (by simp only [Rf.Pl.pick, Rf.pickO, List.map_cons, List.map_nil, Rg.pickOps, List.getElem?_toArray, List.getElem?_cons_zero, List.getElem?_cons_succ, Option.getD_some]; rfl) ?_ (fun a w h => h)
          intro wd hbd hwz
          have D0 := C3.trans (hbd.mono C3.size)
          clear hwz hbd
          have d42a0 := cellL ca0 D0
          have d42a1 := cellL ca1 D0
          have d42a2 := cellL ca2 D0
          have d42a3 := cellL ca3 D0
          have d42b0 := cellL cb0 D0
          have d42b1 := cellL cb1 D0
          have d42b2 := cellL cb2 D0
          have d42b3 := cellL cb3 D0
          have d42c0 := cellL cc0 D0
          have d42c1 := cellL cc1 D0
          have d42c2 := cellL cc2 D0
          have d42c3 := cellL cc3 D0
          refine Rf.pl_quiet ?_
          iterate 8 go_big_quiet_step (fail)
          refine wpQuiet_nil (Rf.pl_fork ?_ ?_)
          · have al1 : Below wd.heap.size wd (wd.alloc (.cells #[.int .i64 0, .string ⟨#[]⟩, .string ⟨#[]⟩, .string ⟨#[]⟩, .int .i64 0, .string ⟨#[]⟩, .string ⟨#[]⟩, .string ⟨#[]⟩, .int .i64 0, .string ⟨#[]⟩, .string ⟨#[]⟩, .string ⟨#[]⟩] 31)) := (Below.refl _ _).alloc (Nat.le_refl _) _
            have z1 := heap_alloc_new wd (.cells #[.int .i64 0, .string ⟨#[]⟩, .string ⟨#[]⟩, .string ⟨#[]⟩, .int .i64 0, .string ⟨#[]⟩, .string ⟨#[]⟩, .string ⟨#[]⟩, .int .i64 0, .string ⟨#[]⟩, .string ⟨#[]⟩, .string ⟨#[]⟩] 31)
            go_wp2_with fail
            generalize wd.alloc (.cells #[.int .i64 0, .string ⟨#[]⟩, .string ⟨#[]⟩, .string ⟨#[]⟩, .int .i64 0, .string ⟨#[]⟩, .string ⟨#[]⟩, .string ⟨#[]⟩, .int .i64 0, .string ⟨#[]⟩, .string ⟨#[]⟩, .string ⟨#[]⟩] 31) = V1 at *
            refine ⟨al1.mono D0.size, Rf.pl_one ?_⟩
            have F1 := D0.trans (al1.mono D0.size)
            have al2 : Below V1.heap.size V1 (V1.alloc (.cells #[.int .i64 0, .string ⟨#[]⟩, .string ⟨#[]⟩, .string ⟨#[]⟩, .int .i64 0, .string ⟨#[]⟩, .string ⟨#[]⟩, .string ⟨#[]⟩, .int .i64 0, .string ⟨#[]⟩, .string ⟨#[]⟩, .string ⟨#[]⟩] 31)) := (Below.refl _ _).alloc (Nat.le_refl _) _
            have z2 := heap_alloc_new V1 (.cells #[.int .i64 0, .string ⟨#[]⟩, .string ⟨#[]⟩, .string ⟨#[]⟩, .int .i64 0, .string ⟨#[]⟩, .string ⟨#[]⟩, .string ⟨#[]⟩, .int .i64 0, .string ⟨#[]⟩, .string ⟨#[]⟩, .string ⟨#[]⟩] 31)
            have hlt : wd.heap.size < V1.heap.size := (Array.getElem?_eq_some_iff.1 z1).1
            have z3 := below_blk (_B := 0) al2 z1
            go_wp2_with fail
            generalize V1.alloc (.cells #[.int .i64 0, .string ⟨#[]⟩, .string ⟨#[]⟩, .string ⟨#[]⟩, .int .i64 0, .string ⟨#[]⟩, .string ⟨#[]⟩, .string ⟨#[]⟩, .int .i64 0, .string ⟨#[]⟩, .string ⟨#[]⟩, .string ⟨#[]⟩] 31) = V2 at *
            refine ⟨al2.mono F1.size, Rf.pl_one ?_⟩
            have F2 := F1.trans (al2.mono F1.size)
            have y1 := setRow_heap V2 wd.heap.size _ (tpC ⟨a, b, c⟩) _ _ z3
            have y2 : (V2.setRow wd.heap.size (tpC ⟨a, b, c⟩)).heap[V1.heap.size]? = _ := (setRow_other V2 wd.heap.size V1.heap.size _ (by omega)).trans z2
            have F3 : Below w0.heap.size V2 (V2.setRow wd.heap.size (tpC ⟨a, b, c⟩)) := below_setRow (Below.refl _ _) D0.size _
            have y3 := setRow_heap (V2.setRow wd.heap.size (tpC ⟨a, b, c⟩)) V1.heap.size _ (tpC ⟨a, c, b⟩) _ _ y2
            have y4 := (setRow_other (V2.setRow wd.heap.size (tpC ⟨a, b, c⟩)) V1.heap.size wd.heap.size (tpC ⟨a, c, b⟩) (by omega)).trans y1
            have F4 : Below w0.heap.size (V2.setRow wd.heap.size (tpC ⟨a, b, c⟩)) ((V2.setRow wd.heap.size (tpC ⟨a, b, c⟩)).setRow V1.heap.size (tpC ⟨a, c, b⟩)) := below_setRow (Below.refl _ _) (Nat.le_trans D0.size (Nat.le_of_lt hlt)) _
            have HY := Lib.hid (And.intro y4 (And.intro y3 ((F2.trans F3).trans F4)))
            have Z1 := Lib.hid z3
            have Y2 := Lib.hid y2
            have HF3 := Lib.hid F3
            have HF4 := Lib.hid F4
            clear y1 y2 y3 y4 F1 F2 F3 F4 z1 z2 z3 al1 al2
            clear d42a0 d42a1 d42a2 d42a3 d42b0 d42b1 d42b2 d42b3 d42c0 d42c1 d42c2 d42c3
            go_wp2_with (refine wpList_store_row rfl 31 _ _ rfl (vs := tpC ⟨a, b, c⟩) rfl rfl hTi Z1.out rfl rfl ?_)
            refine ⟨HF3.out, Rf.pl_one ?_⟩
            go_wp2_with (refine wpList_store_row rfl 31 _ _ rfl (vs := tpC ⟨a, c, b⟩) rfl rfl hTi Y2.out rfl rfl ?_)
            refine ⟨HF4.out, Rf.pl_done ?_⟩
            go_wp2_with fail
            go_meet
            case rel => exact ⟨_, _, rfl, rfl, HY.out⟩
          · have al1 : Below wd.heap.size wd (wd.alloc (.cells #[.int .i64 0, .string ⟨#[]⟩, .string ⟨#[]⟩, .string ⟨#[]⟩, .int .i64 0, .string ⟨#[]⟩, .string ⟨#[]⟩, .string ⟨#[]⟩, .int .i64 0, .string ⟨#[]⟩, .string ⟨#[]⟩, .string ⟨#[]⟩] 31)) := (Below.refl _ _).alloc (Nat.le_refl _) _
            have z1 := heap_alloc_new wd (.cells #[.int .i64 0, .string ⟨#[]⟩, .string ⟨#[]⟩, .string ⟨#[]⟩, .int .i64 0, .string ⟨#[]⟩, .string ⟨#[]⟩, .string ⟨#[]⟩, .int .i64 0, .string ⟨#[]⟩, .string ⟨#[]⟩, .string ⟨#[]⟩] 31)
            go_wp2_with fail
            generalize wd.alloc (.cells #[.int .i64 0, .string ⟨#[]⟩, .string ⟨#[]⟩, .string ⟨#[]⟩, .int .i64 0, .string ⟨#[]⟩, .string ⟨#[]⟩, .string ⟨#[]⟩, .int .i64 0, .string ⟨#[]⟩, .string ⟨#[]⟩, .string ⟨#[]⟩] 31) = V1 at *
            refine ⟨al1.mono D0.size, Rf.pl_one ?_⟩
            have F1 := D0.trans (al1.mono D0.size)
            have al2 : Below V1.heap.size V1 (V1.alloc (.cells #[.int .i64 0, .string ⟨#[]⟩, .string ⟨#[]⟩, .string ⟨#[]⟩, .int .i64 0, .string ⟨#[]⟩, .string ⟨#[]⟩, .string ⟨#[]⟩, .int .i64 0, .string ⟨#[]⟩, .string ⟨#[]⟩, .string ⟨#[]⟩] 31)) := (Below.refl _ _).alloc (Nat.le_refl _) _
            have z2 := heap_alloc_new V1 (.cells #[.int .i64 0, .string ⟨#[]⟩, .string ⟨#[]⟩, .string ⟨#[]⟩, .int .i64 0, .string ⟨#[]⟩, .string ⟨#[]⟩, .string ⟨#[]⟩, .int .i64 0, .string ⟨#[]⟩, .string ⟨#[]⟩, .string ⟨#[]⟩] 31)
            have hlt : wd.heap.size < V1.heap.size := (Array.getElem?_eq_some_iff.1 z1).1
            have z3 := below_blk (_B := 0) al2 z1
            go_wp2_with fail
            generalize V1.alloc (.cells #[.int .i64 0, .string ⟨#[]⟩, .string ⟨#[]⟩, .string ⟨#[]⟩, .int .i64 0, .string ⟨#[]⟩, .string ⟨#[]⟩, .string ⟨#[]⟩, .int .i64 0, .string ⟨#[]⟩, .string ⟨#[]⟩, .string ⟨#[]⟩] 31) = V2 at *
            refine ⟨al2.mono F1.size, Rf.pl_one ?_⟩
            have F2 := F1.trans (al2.mono F1.size)
            have y1 := setRow_heap V2 V1.heap.size _ (tpC ⟨a, b, c⟩) _ _ z2
            have y2 : (V2.setRow V1.heap.size (tpC ⟨a, b, c⟩)).heap[wd.heap.size]? = _ := (setRow_other V2 V1.heap.size wd.heap.size _ (by omega)).trans z3
            have F3 : Below w0.heap.size V2 (V2.setRow V1.heap.size (tpC ⟨a, b, c⟩)) := below_setRow (Below.refl _ _) (Nat.le_trans D0.size (Nat.le_of_lt hlt)) _
            have y3 := setRow_heap (V2.setRow V1.heap.size (tpC ⟨a, b, c⟩)) wd.heap.size _ (tpC ⟨a, c, b⟩) _ _ y2
            have y4 := (setRow_other (V2.setRow V1.heap.size (tpC ⟨a, b, c⟩)) wd.heap.size V1.heap.size (tpC ⟨a, c, b⟩) (by omega)).trans y1
            have F4 : Below w0.heap.size (V2.setRow V1.heap.size (tpC ⟨a, b, c⟩)) ((V2.setRow V1.heap.size (tpC ⟨a, b, c⟩)).setRow wd.heap.size (tpC ⟨a, c, b⟩)) := below_setRow (Below.refl _ _) D0.size _
            have HY := Lib.hid (And.intro y4 (And.intro y3 ((F2.trans F3).trans F4)))
            have Z1 := Lib.hid z2
            have Y2 := Lib.hid y2
            have HF3 := Lib.hid F3
            have HF4 := Lib.hid F4
            clear y1 y2 y3 y4 F1 F2 F3 F4 z1 z2 z3 al1 al2
            clear d42a0 d42a1 d42a2 d42a3 d42b0 d42b1 d42b2 d42b3 d42c0 d42c1 d42c2 d42c3
            go_wp2_with (refine wpList_store_row rfl 31 _ _ rfl (vs := tpC ⟨a, b, c⟩) rfl rfl hTi Z1.out rfl rfl ?_)
            refine ⟨HF3.out, Rf.pl_one ?_⟩
            go_wp2_with (refine wpList_store_row rfl 31 _ _ rfl (vs := tpC ⟨a, c, b⟩) rfl rfl hTi Y2.out rfl rfl ?_)
            refine ⟨HF4.out, Rf.pl_done ?_⟩
            go_wp2_with fail
            go_meet
            case rel => exact ⟨_, _, rfl, rfl, HY.out⟩
        case rest =>
          obtain ⟨g1, g2, rfl, rfl, hx1, hx2, C4⟩ := hcut
          have hq1 := Lib.hid C4
          have p0 := cells_at hx1 0 rfl
          have q0 := cells_at hx2 0 rfl
          have p1 := cells_at hx1 1 rfl
          have q1 := cells_at hx2 1 rfl
          have p2 := cells_at hx1 2 rfl
          have q2 := cells_at hx2 2 rfl
          have p3 := cells_at hx1 3 rfl
          have q3 := cells_at hx2 3 rfl
          have p4 := cells_at hx1 4 rfl
          have q4 := cells_at hx2 4 rfl
          have p5 := cells_at hx1 5 rfl
          have q5 := cells_at hx2 5 rfl
          have p6 := cells_at hx1 6 rfl
          have q6 := cells_at hx2 6 rfl
          have p7 := cells_at hx1 7 rfl
          have q7 := cells_at hx2 7 rfl
          have p8 := cells_at hx1 8 rfl
          have q8 := cells_at hx2 8 rfl
          have p9 := cells_at hx1 9 rfl
          have q9 := cells_at hx2 9 rfl
          have p10 := cells_at hx1 10 rfl
          have q10 := cells_at hx2 10 rfl
          have p11 := cells_at hx1 11 rfl
          have q11 := cells_at hx2 11 rfl
          go_wp2_with (go_at_call 14; with_reducible refine (HT1.out _ C4).mono ?_)
          rintro e W7 ⟨rfl, t7⟩
          have C5 := below_tr C4 t7
          have HX := Lib.hid (below_blk (_B := 0) t7 hx1)
          clear hx1 hx2 t7
          clear p0 q0 p1 q1 p2 q2 p3 q3 p4 q4 p5 q5 p6 q6 p7 q7 p8 q8 p9 q9 p10 q10 p11 q11
          have hfi := fun W => lawFirst (-n) q W
          have HC5 := Lib.hid C5
          clear C4
          go_upto_region 14 with fail

          have d43a0 := cell_on ca0 C5
          have d43a1 := cell_on ca1 C5
          have d43a2 := cell_on ca2 C5
          have d43a3 := cell_on ca3 C5
          have d43b0 := cell_on cb0 C5
          have d43b1 := cell_on cb1 C5
          have d43b2 := cell_on cb2 C5
          have d43b3 := cell_on cb3 C5
          have d43c0 := cell_on cc0 C5
          have d43c1 := cell_on cc1 C5
          have d43c2 := cell_on cc2 C5
          have d43c3 := cell_on cc3 C5
          have x0 := cells_at HX.out 0 rfl
          have x1 := cells_at HX.out 1 rfl
          have x2 := cells_at HX.out 2 rfl
          have x3 := cells_at HX.out 3 rfl
          have x4 := cells_at HX.out 4 rfl
          have x5 := cells_at HX.out 5 rfl
          have x6 := cells_at HX.out 6 rfl
          have x7 := cells_at HX.out 7 rfl
          have x8 := cells_at HX.out 8 rfl
          have x9 := cells_at HX.out 9 rfl
          have x10 := cells_at HX.out 10 rfl
          have x11 := cells_at HX.out 11 rfl
          refine Rf.wp_region_pl W7.heap.size _ (Rf.Pl.quiet [0, 1, 2] (Rf.Pl.one 3 (Rf.Pl.quiet [4, 5, 6, 7] (Rf.Pl.one 8 (Rf.Pl.quiet [9, 10, 11, 12, 13, 14, 15, 16, 17, 18, 19, 21, 22, 23, 24] (Rf.Pl.one 20 (Rf.Pl.one 25 (Rf.Pl.one 26 (Rf.Pl.quiet [27, 28, 29] (Rf.Pl.done)))))))))) _ (by kernel_rfl) (by kernel_rfl) (by simp only [Rf.Pl.pick, Rf.pickO, List.map_cons, List.map_nil, Rg.pickOps, List.getElem?_toArray, List.getElem?_cons_zero, List.getElem?_cons_succ, Option.getD_some]; rfl) ?_ (fun a w h => h)
          intro wd hbd hwz
          have E0 := hbd
          have D0 := below_tr C5 E0
          clear hwz hbd
          have fAa0 := cellL d43a0 E0
          have fAa1 := cellL d43a1 E0
          have fAa2 := cellL d43a2 E0
          have fAa3 := cellL d43a3 E0
          have fAb0 := cellL d43b0 E0
          have fAb1 := cellL d43b1 E0
          have fAb2 := cellL d43b2 E0
          have fAb3 := cellL d43b3 E0
          have fAc0 := cellL d43c0 E0
          have fAc1 := cellL d43c1 E0
          have fAc2 := cellL d43c2 E0
          have fAc3 := cellL d43c3 E0
          have fAx0 := cellL x0 E0
          have fAx1 := cellL x1 E0
          have fAx2 := cellL x2 E0
          have fAx3 := cellL x3 E0
          have fAx4 := cellL x4 E0
          have fAx5 := cellL x5 E0
          have fAx6 := cellL x6 E0
          have fAx7 := cellL x7 E0
          have fAx8 := cellL x8 E0
          have fAx9 := cellL x9 E0
          have fAx10 := cellL x10 E0
          have fAx11 := cellL x11 E0
          refine Rf.pl_quiet ?_
          iterate 3 go_big_quiet_step (fail)
          refine wpQuiet_nil (Rf.pl_one ?_)
          clear fAa0 fAa1 fAa2 fAa3 fAb0 fAb1 fAb2 fAb3 fAc0 fAc1 fAc2 fAc3 fAx0 fAx1 fAx2 fAx3 fAx4 fAx5 fAx6 fAx7 fAx8 fAx9 fAx10 fAx11
          go_wp2_with (go_at_call 11; with_reducible refine (hbc _ D0).mono ?_; rintro e U31 ⟨rfl, u31⟩)
          have E31 := below_tr E0 u31
          have D31 := below_tr D0 u31
          refine ⟨u31.mono E0.size, Rf.pl_quiet ?_⟩
          have fBa0 := cellL d43a0 E31
          have fBa1 := cellL d43a1 E31
          have fBa2 := cellL d43a2 E31
          have fBa3 := cellL d43a3 E31
          have fBb0 := cellL d43b0 E31
          have fBb1 := cellL d43b1 E31
          have fBb2 := cellL d43b2 E31
          have fBb3 := cellL d43b3 E31
          have fBc0 := cellL d43c0 E31
          have fBc1 := cellL d43c1 E31
          have fBc2 := cellL d43c2 E31
          have fBc3 := cellL d43c3 E31
          have fBx0 := cellL x0 E31
          have fBx1 := cellL x1 E31
          have fBx2 := cellL x2 E31
          have fBx3 := cellL x3 E31
          have fBx4 := cellL x4 E31
          have fBx5 := cellL x5 E31
          have fBx6 := cellL x6 E31
          have fBx7 := cellL x7 E31
          have fBx8 := cellL x8 E31
          have fBx9 := cellL x9 E31
          have fBx10 := cellL x10 E31
          have fBx11 := cellL x11 E31
          iterate 4 go_big_quiet_step (fail)
          refine wpQuiet_nil (Rf.pl_one ?_)
          clear fBa0 fBa1 fBa2 fBa3 fBb0 fBb1 fBb2 fBb3 fBc0 fBc1 fBc2 fBc3 fBx0 fBx1 fBx2 fBx3 fBx4 fBx5 fBx6 fBx7 fBx8 fBx9 fBx10 fBx11
          go_wp2_with (go_at_call 14; with_reducible refine (HT2.out _ D31).mono ?_; rintro e U32 ⟨rfl, u32⟩)
          have E32 := below_tr E31 u32
          have D32 := below_tr D31 u32
          refine ⟨u32.mono E31.size, Rf.pl_quiet ?_⟩
          have fCa0 := cellL d43a0 E32
          have fCa1 := cellL d43a1 E32
          have fCa2 := cellL d43a2 E32
          have fCa3 := cellL d43a3 E32
          have fCb0 := cellL d43b0 E32
          have fCb1 := cellL d43b1 E32
          have fCb2 := cellL d43b2 E32
          have fCb3 := cellL d43b3 E32
          have fCc0 := cellL d43c0 E32
          have fCc1 := cellL d43c1 E32
          have fCc2 := cellL d43c2 E32
          have fCc3 := cellL d43c3 E32
          have fCx0 := cellL x0 E32
          have fCx1 := cellL x1 E32
          have fCx2 := cellL x2 E32
          have fCx3 := cellL x3 E32
          have fCx4 := cellL x4 E32
          have fCx5 := cellL x5 E32
          have fCx6 := cellL x6 E32
          have fCx7 := cellL x7 E32
          have fCx8 := cellL x8 E32
          have fCx9 := cellL x9 E32
          have fCx10 := cellL x10 E32
          have fCx11 := cellL x11 E32
          iterate 15 go_big_quiet_step (fail)
          refine wpQuiet_nil (Rf.pl_one ?_)
          clear fCa0 fCa1 fCa2 fCa3 fCb0 fCb1 fCb2 fCb3 fCc0 fCc1 fCc2 fCc3 fCx0 fCx1 fCx2 fCx3 fCx4 fCx5 fCx6 fCx7 fCx8 fCx9 fCx10 fCx11
          go_wp2_with (go_at_call 14; with_reducible refine (HT3.out _ D32).mono ?_; rintro e U33 ⟨rfl, u33⟩)
          have E33 := below_tr E32 u33
          have D33 := below_tr D32 u33
          refine ⟨u33.mono E32.size, Rf.pl_one ?_⟩
          go_wp2_with (go_at_call 11; with_reducible refine (hac _ D33).mono ?_; rintro e U34 ⟨rfl, u34⟩)
          have E34 := below_tr E33 u34
          have D34 := below_tr D33 u34
          refine ⟨u34.mono E33.size, Rf.pl_one ?_⟩
          go_wp2_with (go_at_call 15; with_reducible refine (hfi _).mono ?_; rintro e U35 ⟨rfl, rfl⟩)
          refine ⟨Below.refl _ _, Rf.pl_quiet ?_⟩
          iterate 3 go_big_quiet_step (fail)
          refine wpQuiet_nil (Rf.pl_done ?_)
          go_wp2_with fail
          go_ret
          exact ⟨by simp, HB0.out.trans (D34.mono hsz)⟩
theorem lawTermOrder (k1 : Int) (x1 l1 y1 : ByteArray) (k2 : Int) (x2 l2 y2 : ByteArray) (k3 : Int) (x3 l3 y3 : ByteArray) (w : World) (hC : CtxT w) (hs1 : hugeT ⟨k1, x1, l1, y1⟩) (hs2 : hugeT ⟨k2, x2, l2, y2⟩) (hs3 : hugeT ⟨k3, x3, l3, y3⟩) :
    Calls Tryz.prog 3 #[.agg #[.int .i64 k1, .string x1, .string l1, .string y1], .agg #[.int .i64 k2, .string x2, .string l2, .string y2], .agg #[.int .i64 k3, .string x3, .string l3, .string y3]] w fun e w' =>
      e = .returned (.bool true) ∧ Below w.heap.size w w' := by
  obtain ⟨a, ea⟩ : ∃ a : Tm, a = ⟨k1, x1, l1, y1⟩ := ⟨_, rfl⟩
  obtain ⟨b, eb⟩ : ∃ a : Tm, a = ⟨k2, x2, l2, y2⟩ := ⟨_, rfl⟩
  obtain ⟨c, ec⟩ : ∃ a : Tm, a = ⟨k3, x3, l3, y3⟩ := ⟨_, rfl⟩
  rw [← ea] at hs1
  rw [← eb] at hs2
  rw [← ec] at hs3
  have e1 : Value.agg #[.int .i64 k1, .string x1, .string l1, .string y1] = tA a := by rw [ea]
  have e2 : Value.agg #[.int .i64 k2, .string x2, .string l2, .string y2] = tA b := by rw [eb]
  have e3 : Value.agg #[.int .i64 k3, .string x3, .string l3, .string y3] = tA c := by rw [ec]
  rw [e1, e2, e3]
  clear e1 e2 e3 ea eb ec
  exact order_walk a b c w hC hs1 hs2 hs3
end Go.Proofs.YtheeklkcaapkbaaGreatDoor
