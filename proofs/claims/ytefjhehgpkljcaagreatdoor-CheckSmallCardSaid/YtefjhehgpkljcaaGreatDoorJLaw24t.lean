/- CheckTells: for every query of small bulk, among any names, the law returns true. -/
import Derived.Test.YtefjhehgpkljcaaGreatDoorJR24c
import Derived.Test.YtefjhehgpkljcaaGreatDoorJLaw24b
import Derived.Test.YtefjhehgpkljcaaGreatDoorJSameInts
import Derived.Test.YtefjhehgpkljcaaGreatDoorJSameMath
namespace Go.Proofs.YtefjhehgpkljcaaGreatDoor
open Go Go.RowKit Um Fm Mt

theorem few24 {n : Nat} {q : Qy n} (h : allQ q ≤ 400) (he : ∀ x ∈ q.fils, szE n x) : fewQ q := by
  unfold allQ cntQ at h
  exact ⟨by omega, by omega, by omega, by omega, he, by omega⟩
theorem sameTs_self (l : List ByteArray) : sameTs l l = true := by unfold sameTs; simp
theorem needs_few {n : Nat} {q : Qy n} (hf : fewQ q) : (needsOf q).length ≤ 900000 := by
  have h1 := needN_len (varsN q.pats) (saidQ q)
  have h2 := varsN_len q.pats
  have h3 := hf.2.1
  unfold needsOf; omega
theorem told_len (among vars : List ByteArray) : (toldL among vars).length = vars.length := List.length_map _
theorem rdq_spell {n : Nat} {w : World} {q : Qy n} {a1 a2 a3 a4 : Option Addr} {c1 c2 c3 c4 : Nat} (h : RdQ n w [.bool q.ask, .bool q.dist, .slice a1 q.vars.length c1, .slice a2 q.pats.length c2, .slice a3 q.fils.length c3, .slice a4 q.ord.length c4, .int .i64 q.lim, .int .i64 q.off] q) :
    (q.vars.length ≤ c1) ∧ Rd w a1 (q.vars.map Value.string) ∧ RdPat w a2 q.pats ∧ RdEs n w a3 q.fils ∧ RdKey w a4 q.ord := by
  obtain ⟨b1, b2, b3, b4, d1, d2, d3, d4, h0, ⟨o1, _, _, _⟩, r1, r2, r3, r4⟩ := h
  simp only [List.cons.injEq, Value.slice.injEq, and_true, true_and] at h0
  obtain ⟨⟨rfl, rfl⟩, ⟨rfl, rfl⟩, ⟨rfl, rfl⟩, rfl, rfl⟩ := h0
  exact ⟨o1, r1, r2, r3, r4⟩
set_option maxRecDepth 100000 in
set_option maxHeartbeats 8000000 in
theorem lawCheckTells (n : Nat) (q : Qy n) (a1 a2 a3 a4 : Option Addr) (c1 c2 c3 c4 : Nat) (among : List ByteArray) (A : Option Addr) (c : Nat) (w : World) (hC : Ctx w) (hz : szQu q)
    (hq : RdQ n w [.bool q.ask, .bool q.dist, .slice a1 q.vars.length c1, .slice a2 q.pats.length c2, .slice a3 q.fils.length c3, .slice a4 q.ord.length c4, .int .i64 q.lim, .int .i64 q.off] q) (ha : Rd w A (among.map Value.string)) (hl : among.length ≤ 1048576) :
    Calls Tryz.prog 4 #[.agg #[.bool q.ask, .bool q.dist, .slice a1 q.vars.length c1, .slice a2 q.pats.length c2, .slice a3 q.fils.length c3, .slice a4 q.ord.length c4, .int .i64 q.lim, .int .i64 q.off], .slice A among.length c] w fun e w' => e = .returned (.bool true) ∧ Below w.heap.size w w' := by
  have sL := hz.l
  have sQ := hz.q
  have he : ∀ x ∈ q.fils, szE n x := fun x hx => (hz.2.2.2.2.2.2.1 x hx).e
  have hl' : (among.length : Int) ≤ 1048576 := by omega
  obtain ⟨W, hW⟩ : ∃ W : World, w.alloc (.cells #[.bool q.ask, .bool q.dist, .slice a1 q.vars.length c1, .slice a2 q.pats.length c2, .slice a3 q.fils.length c3, .slice a4 q.ord.length c4, .int .i64 q.lim, .int .i64 q.off] 40) = W := ⟨_, rfl⟩
  have hB0 : Below w.heap.size w W := by rw [← hW]; exact (by repeat (first | exact Below.refl _ _ | assumption | exact (Below.refl _ _).alloc (Nat.le_refl _) _ | refine below_tr ?_ (by assumption) | refine below_alloc ?_ | refine below_tr ?_ (below_regrown _ _ _)))
  have b0 : W.cell? ⟨w.heap.size, 0, none⟩ = some (.bool q.ask) := by rw [← hW, World.cell?, heap_alloc_new]; rfl
  have b1 : W.cell? ⟨w.heap.size, 1, none⟩ = some (.bool q.dist) := by rw [← hW, World.cell?, heap_alloc_new]; rfl
  have b2 : W.cell? ⟨w.heap.size, 2, none⟩ = some (.slice a1 q.vars.length c1) := by rw [← hW, World.cell?, heap_alloc_new]; rfl
  have b3 : W.cell? ⟨w.heap.size, 3, none⟩ = some (.slice a2 q.pats.length c2) := by rw [← hW, World.cell?, heap_alloc_new]; rfl
  have b4 : W.cell? ⟨w.heap.size, 4, none⟩ = some (.slice a3 q.fils.length c3) := by rw [← hW, World.cell?, heap_alloc_new]; rfl
  have b5 : W.cell? ⟨w.heap.size, 5, none⟩ = some (.slice a4 q.ord.length c4) := by rw [← hW, World.cell?, heap_alloc_new]; rfl
  have b6 : W.cell? ⟨w.heap.size, 6, none⟩ = some (.int .i64 q.lim) := by rw [← hW, World.cell?, heap_alloc_new]; rfl
  have b7 : W.cell? ⟨w.heap.size, 7, none⟩ = some (.int .i64 q.off) := by rw [← hW, World.cell?, heap_alloc_new]; rfl
  have HW := Lib.hid hW
  have HB0 := Lib.hid hB0
  have HC := Lib.hid hC
  have HQ := Lib.hid hq
  have HA := Lib.hid ha
  have hG := law24Great n q a1 a2 a3 a4 c1 c2 c3 c4 W (RdEs.later (rdq_spell hq).2.2.2.1 hB0) sL
  have hAw := fun W' (hb : Below W.heap.size W W') => law24Awake W' (hC.step (below_tr hB0 hb))
  have HAw := Lib.hid hAw
  clear hW hB0 hC hq ha hAw
  go_enter Tryz.func4, Tryz.ntmps4
  go_wp2_with fail
  simp only [HW.out]
  refine hG.mono ?_
  rintro e w1 ⟨gb, rfl, hgb, hb1⟩
  clear hG
  have hA1 := HAw.out w1 hb1
  have H1 := Lib.hid hb1
  cases gb
  case true =>
    clear b0 b1 b2 b3 b4 b5 b6 b7 hgb hb1
    go_wp2_with (refine hA1.mono ?_; rintro e w2 ⟨rfl, hb2⟩)
    go_ret
    exact ⟨rfl, below_tr HB0.out (below_tr H1.out hb2)⟩
  have hall := hgb rfl
  have hf := few24 hall he
  clear hgb
  by_cases hla : (among.length : Int) ≤ 400
  case neg =>
    have hla2 : 400 < (among.length : Int) := by omega
    clear b0 b1 b2 b3 b4 b5 b6 b7 hb1 hla
    go_wp2_with (refine hA1.mono ?_; rintro e w2 ⟨rfl, hb2⟩)
    go_ret
    exact ⟨rfl, below_tr HB0.out (below_tr H1.out hb2)⟩
  clear hA1
  replace b0 := cell_on b0 hb1
  replace b1 := cell_on b1 hb1
  replace b2 := cell_on b2 hb1
  replace b3 := cell_on b3 hb1
  replace b4 := cell_on b4 hb1
  replace b5 := cell_on b5 hb1
  replace b6 := cell_on b6 hb1
  replace b7 := cell_on b7 hb1
  have hLQ := lentQ n q _ w1 (HQ.out.later (below_tr HB0.out hb1)) sL (by have := hz.1; omega) (by have := hz.2.1; omega) (by have := hz.2.2.2.1; omega)
  clear hb1
  go_wp2_with fail
  refine hLQ.mono ?_
  rintro e w2 ⟨ds, rfl, hL2, hb2⟩
  have hL2' := hL2
  obtain ⟨g1, g2, g3, g4, xs, rfl, hge, -, -, -, -⟩ := hL2'
  have H2 := Lib.hid (below_tr H1.out hb2)
  have hLT := lentTexts among A c w2 (HA.out.later (below_tr HB0.out H2.out)) hl
  replace b0 := cell_on b0 hb2
  replace b1 := cell_on b1 hb2
  replace b2 := cell_on b2 hb2
  replace b3 := cell_on b3 hb2
  replace b4 := cell_on b4 hb2
  replace b5 := cell_on b5 hb2
  replace b6 := cell_on b6 hb2
  replace b7 := cell_on b7 hb2
  clear hLQ hb2
  go_wp2_with fail
  refine hLT.mono ?_
  rintro e w3 ⟨rfl, hT3, hb3⟩
  obtain ⟨gA, hgA⟩ : ∃ g : Nat, w2.heap.size = g := ⟨_, rfl⟩
  rw [hgA] at hT3
  simp only [hgA]
  replace b0 := cell_on b0 hb3
  replace b1 := cell_on b1 hb3
  replace b2 := cell_on b2 hb3
  replace b3 := cell_on b3 hb3
  replace b4 := cell_on b4 hb3
  replace b5 := cell_on b5 hb3
  replace b6 := cell_on b6 hb3
  replace b7 := cell_on b7 hb3
  have HgA := Lib.hid hgA
  clear hgA hLT
  have hQi : (Tryz.prog.info? 40).map (·.size) = some 8 := by kernel_rfl
  obtain ⟨W4, hW4⟩ : ∃ V : World, (w3.alloc (.cells #[.bool false, .bool false, .slice none 0 0, .slice none 0 0, .slice none 0 0, .slice none 0 0, .int .i64 0, .int .i64 0] 40)).setRow w3.heap.size #[.bool q.ask, .bool q.dist, .slice (some ⟨g1, 0, none⟩) q.vars.length (q.vars.length + 12), .slice (some ⟨g2, 0, none⟩) q.pats.length (q.pats.length + 12), .slice (some ⟨g3, 0, none⟩) q.fils.length (q.fils.length + 12), .slice (some ⟨g4, 0, none⟩) q.ord.length (q.ord.length + 12), .int .i64 q.lim, .int .i64 q.off] = V := ⟨_, rfl⟩
  have hrow : W4.heap[w3.heap.size]? = some (.cells #[.bool q.ask, .bool q.dist, .slice (some ⟨g1, 0, none⟩) q.vars.length (q.vars.length + 12), .slice (some ⟨g2, 0, none⟩) q.pats.length (q.pats.length + 12), .slice (some ⟨g3, 0, none⟩) q.fils.length (q.fils.length + 12), .slice (some ⟨g4, 0, none⟩) q.ord.length (q.ord.length + 12), .int .i64 q.lim, .int .i64 q.off] 40 (0, 0)) := by rw [← hW4]; exact setRow_heap _ _ _ _ _ _ (heap_alloc_new w3 (.cells #[.bool false, .bool false, .slice none 0 0, .slice none 0 0, .slice none 0 0, .slice none 0 0, .int .i64 0, .int .i64 0] 40))
  have hB34 : Below w3.heap.size w3 W4 := by rw [← hW4]; exact below_setRow ((Below.refl _ _).alloc (Nat.le_refl _) _) (Nat.le_refl _) _
  have HW4 := Lib.hid hW4
  have hlt4 : w3.heap.size < W4.heap.size := (Array.getElem?_eq_some_iff.1 hrow).1
  have hL4 := (hL2.later hb3).later hB34
  have hT4 := hT3.stays (Stays.below hB34) (Nat.zero_le _)
  have B4 := below_tr (below_tr H2.out hb3) hB34
  have d0 := cell_on b0 hB34
  have d1 := cell_on b1 hB34
  have d2 := cell_on b2 hB34
  have d3 := cell_on b3 hB34
  have d4 := cell_on b4 hB34
  have d5 := cell_on b5 hB34
  have d6 := cell_on b6 hB34
  have d7 := cell_on b7 hB34
  have p0 : W4.cell? ⟨w3.heap.size, 0, none⟩ = some (.bool q.ask) := by rw [World.cell?, hrow]; rfl
  have p1 : W4.cell? ⟨w3.heap.size, 1, none⟩ = some (.bool q.dist) := by rw [World.cell?, hrow]; rfl
  have p2 : W4.cell? ⟨w3.heap.size, 2, none⟩ = some (.slice (some ⟨g1, 0, none⟩) q.vars.length (q.vars.length + 12)) := by rw [World.cell?, hrow]; rfl
  have p3 : W4.cell? ⟨w3.heap.size, 3, none⟩ = some (.slice (some ⟨g2, 0, none⟩) q.pats.length (q.pats.length + 12)) := by rw [World.cell?, hrow]; rfl
  have p4 : W4.cell? ⟨w3.heap.size, 4, none⟩ = some (.slice (some ⟨g3, 0, none⟩) q.fils.length (q.fils.length + 12)) := by rw [World.cell?, hrow]; rfl
  have p5 : W4.cell? ⟨w3.heap.size, 5, none⟩ = some (.slice (some ⟨g4, 0, none⟩) q.ord.length (q.ord.length + 12)) := by rw [World.cell?, hrow]; rfl
  have p6 : W4.cell? ⟨w3.heap.size, 6, none⟩ = some (.int .i64 q.lim) := by rw [World.cell?, hrow]; rfl
  have p7 : W4.cell? ⟨w3.heap.size, 7, none⟩ = some (.int .i64 q.off) := by rw [World.cell?, hrow]; rfl
  have HP0 := Lib.hid p0
  have HD0_ := Lib.hid d0
  have HP1 := Lib.hid p1
  have HD1_ := Lib.hid d1
  have HP2 := Lib.hid p2
  have HD2_ := Lib.hid d2
  have HP3 := Lib.hid p3
  have HD3_ := Lib.hid d3
  have HP4 := Lib.hid p4
  have HD4_ := Lib.hid d4
  have HP5 := Lib.hid p5
  have HD5_ := Lib.hid d5
  have HP6 := Lib.hid p6
  have HD6_ := Lib.hid d6
  have HP7 := Lib.hid p7
  have HD7_ := Lib.hid d7
  have HL4 := Lib.hid hL4
  have HT4 := Lib.hid hT4
  have HB4 := Lib.hid (below_tr HB0.out B4)
  have HB4' := Lib.hid B4
  clear hW4 hb3 hB34 hL2 hT3 hL4 hT4 B4 hge
  go_wp2_with (refine wpList_store_row rfl 40 _ _ rfl rfl rfl hQi (heap_alloc_new _ _) rfl rfl ?_; rw [HW4.out]; clear b0 b1 b2 b3 b4 b5 b6 b7)
  clear hrow
  have hX := HL4.out.rdQ
  have hN4 := fun W' (hb : Below W4.heap.size W4 W') => cNeeds n q (some ⟨g1, 0, none⟩) (some ⟨g2, 0, none⟩) (some ⟨g3, 0, none⟩) (some ⟨g4, 0, none⟩) (q.vars.length + 12) (q.pats.length + 12) (q.fils.length + 12) (q.ord.length + 12) W' hf (rdq_spell (hX.later hb)).2.1 (rdq_spell (hX.later hb)).2.2.1 (rdq_spell (hX.later hb)).2.2.2.1 (rdq_spell (hX.later hb)).2.2.2.2
  have hTo := fun W' (hb : Below W4.heap.size W4 W') => cTold n q (some ⟨g1, 0, none⟩) (some ⟨g2, 0, none⟩) (some ⟨g3, 0, none⟩) (some ⟨g4, 0, none⟩) (q.vars.length + 12) (q.pats.length + 12) (q.fils.length + 12) (q.ord.length + 12) among (some ⟨gA, 0, none⟩) (among.length + 12) W' (rdq_spell (hX.later hb)).2.1 (HT4.out.rdStr.later hb) (by have := hf.1; omega) (by omega)
  have hnl := needs_few hf
  have htl := told_len among q.vars
  have hvf := hf.1
  have HX := Lib.hid hX
  have HN4 := Lib.hid hN4
  have HTo := Lib.hid hTo
  clear hX hN4 hTo
  generalize hnd : needsOf q = nd at *
  have Hnd := Lib.hid hnd
  clear hnd
  generalize hto : toldL among q.vars = tl at *
  have Hto := Lib.hid hto
  clear hto
  go_upto_region 4 with (fail)
  go_cut [7, 8] from 22 to 26 (fun s7 s8 wx => wx.ownsRow W4.heap.size 9 1 s7 nd.length (nd.map Value.string) ∧ wx.ownsRow W4.heap.size 3 1 s8 tl.length (tl.map (Value.int .i64)) ∧ Below W4.heap.size W4 wx)
  case first =>
    rename_i hJ hM
    refine Rf.wp_region_pl W4.heap.size _ (Rf.Pl.quiet [0, 2, 3] (Rf.Pl.one 1 (Rf.Pl.one 4 (Rf.Pl.quiet [5, 6] (Rf.Pl.done))))) _ (by kernel_rfl) (by kernel_rfl) (by simp only [Rf.Pl.pick, Rf.pickO, List.map_cons, List.map_nil, Rg.pickOps, List.getElem?_toArray, List.getElem?_cons_zero, List.getElem?_cons_succ, Option.getD_some]; rfl) ?_ (fun a w h => h)
    intro wd hbd hwz
    have y0 := cellL p0 hbd
    have y1 := cellL p1 hbd
    have y2 := cellL p2 hbd
    have y3 := cellL p3 hbd
    have y4 := cellL p4 hbd
    have y5 := cellL p5 hbd
    have y6 := cellL p6 hbd
    have y7 := cellL p7 hbd
    have hle : W4.heap.size ≤ wd.heap.size := hbd.size
    have hNd := HN4.out wd hbd
    have Hbd := Lib.hid hbd
    clear hwz hbd p0 p1 p2 p3 p4 p5 p6 p7 d0 d1 d2 d3 d4 d5 d6 d7
    refine Rf.pl_quiet ?_
    iterate 3 go_big_quiet_step (fail)
    refine wpQuiet_nil (Rf.pl_one ?_)
    go_wp2_with (refine hNd.mono ?_; rintro e w5 ⟨v5, rfl, own5, hb5⟩)
    refine ⟨hb5.mono hle, Rf.pl_one ?_⟩
    have hTd := HTo.out w5 (below_tr Hbd.out hb5)
    obtain ⟨A5, m5, rfl, _, _⟩ := own_slice own5
    clear hNd y0 y1 y2 y3 y4 y5 y6 y7
    go_wp2_with (refine hTd.mono ?_; rintro e w6 ⟨v6, rfl, own6, hb6⟩)
    have own56 := own_below own5 hb6 (Nat.le_refl _)
    have hle5 : W4.heap.size ≤ w5.heap.size := Nat.le_trans hle hb5.size
    refine ⟨hb6.mono hle5, Rf.pl_quiet ?_⟩
    obtain ⟨A6, m6, rfl, _, _⟩ := own_slice own6
    iterate 2 go_big_quiet_step (fail)
    refine wpQuiet_nil (Rf.pl_done ?_)
    refine hM _ _ (Met.intro (hJ _ _ ?_))
    (repeat apply Exists.intro)
    exact ⟨⟨own_mono own56 hle, own_mono own6 hle5, below_tr Hbd.out (below_tr hb5 hb6)⟩, rfl⟩
  obtain ⟨own7, own8, hb5⟩ := hcut
  obtain ⟨W5, hW5⟩ : ∃ V : World, V = wc := ⟨_, rfl⟩
  subst hW5
  obtain ⟨A7, m7, rfl, hm7, r7⟩ := own_slice own7
  obtain ⟨A8, m8, rfl, hm8, r8⟩ := own_slice own8
  replace p0 := cell_on p0 hb5
  replace p1 := cell_on p1 hb5
  replace p2 := cell_on p2 hb5
  replace p3 := cell_on p3 hb5
  replace p4 := cell_on p4 hb5
  replace p5 := cell_on p5 hb5
  replace p6 := cell_on p6 hb5
  replace p7 := cell_on p7 hb5
  replace d0 := cell_on d0 hb5
  replace d1 := cell_on d1 hb5
  replace d2 := cell_on d2 hb5
  replace d3 := cell_on d3 hb5
  replace d4 := cell_on d4 hb5
  replace d5 := cell_on d5 hb5
  replace d6 := cell_on d6 hb5
  replace d7 := cell_on d7 hb5
  have hqx := fun W' (hb : Below W5.heap.size W5 W') => cQuery n q (some ⟨g1, 0, none⟩) (some ⟨g2, 0, none⟩) (some ⟨g3, 0, none⟩) (some ⟨g4, 0, none⟩) (q.vars.length + 12) (q.pats.length + 12) (q.fils.length + 12) (q.ord.length + 12) W' (HC.out.step (below_tr (below_tr HB4.out hb5) hb)) hf sQ (HX.out.later (below_tr hb5 hb)) (rdq_spell (HX.out.later (below_tr hb5 hb))).2.1 (rdq_spell (HX.out.later (below_tr hb5 hb))).2.2.1 (rdq_spell (HX.out.later (below_tr hb5 hb))).2.2.2.1 (rdq_spell (HX.out.later (below_tr hb5 hb))).2.2.2.2
  have hq5 := HQ.out.later (below_tr HB4.out hb5)
  have hqr := fun W' (hb : Below W5.heap.size W5 W') => r24Query n q a1 a2 a3 a4 c1 c2 c3 c4 W' hf hz (hq5.later hb) (rdq_spell hq5).1 (rdq_spell (hq5.later hb)).2.1 (rdq_spell (hq5.later hb)).2.2.1 (rdq_spell (hq5.later hb)).2.2.2.1 (rdq_spell (hq5.later hb)).2.2.2.2
  have hnr := fun W' (hb : Below W5.heap.size W5 W') => r24Needs n q a1 a2 a3 a4 c1 c2 c3 c4 W' hf (rdq_spell (hq5.later hb)).2.1 (rdq_spell (hq5.later hb)).2.2.1 (rdq_spell (hq5.later hb)).2.2.2.1 (rdq_spell (hq5.later hb)).2.2.2.2
  have htr := fun W' (hb : Below W5.heap.size W5 W') => r24Told n q a1 a2 a3 a4 c1 c2 c3 c4 among A c W' (rdq_spell (hq5.later hb)).2.1 ((HA.out.later (below_tr HB4.out hb5)).later hb) (by omega) (by omega)
  have Hqx := Lib.hid hqx
  have Hqr := Lib.hid hqr
  have Hnr := Lib.hid hnr
  have Htr := Lib.hid htr
  rw [Hnd.out] at Hnr
  rw [Hto.out] at Htr
  have Hb5 := Lib.hid hb5
  have Hown7 := Lib.hid own7
  have htl2 : tl.length ≤ 100000 := by omega
  clear hqx hqr hnr htr hb5 hq5 own7 own8 htl
  generalize errOf q = er at *
  go_upto_region 5 with (fail)
  go_cut [9] from 27 to 44 (fun s9 wx => s9 = .bool true ∧ Below W5.heap.size W5 wx)
  case first =>
    rename_i hJ hM
    refine Rf.wp_region_pl W5.heap.size _ (Rf.Pl.quiet [0, 2] (Rf.Pl.one 1 (Rf.Pl.one 3 (Rf.Pl.quiet [4, 5, 6, 7] (Rf.Pl.one 8 (Rf.Pl.one 9 (Rf.Pl.quiet [10, 11, 12, 13, 14] (Rf.Pl.one 15 (Rf.Pl.one 16 (Rf.Pl.quiet [17, 18] (Rf.Pl.done))))))))))) _ (by kernel_rfl) (by kernel_rfl) (by simp only [Rf.Pl.pick, Rf.pickO, List.map_cons, List.map_nil, Rg.pickOps, List.getElem?_toArray, List.getElem?_cons_zero, List.getElem?_cons_succ, Option.getD_some]; rfl) ?_ (fun a w h => h)
    intro wd hbd hwz
    have y0 := cellL p0 hbd
    have y1 := cellL p1 hbd
    have y2 := cellL p2 hbd
    have y3 := cellL p3 hbd
    have y4 := cellL p4 hbd
    have y5 := cellL p5 hbd
    have y6 := cellL p6 hbd
    have y7 := cellL p7 hbd
    have z0 := cellL d0 hbd
    have z1 := cellL d1 hbd
    have z2 := cellL d2 hbd
    have z3 := cellL d3 hbd
    have z4 := cellL d4 hbd
    have z5 := cellL d5 hbd
    have z6 := cellL d6 hbd
    have z7 := cellL d7 hbd
    have hle : W5.heap.size ≤ wd.heap.size := hbd.size
    have h1 := Hqx.out wd hbd
    have Hbd := Lib.hid hbd
    clear hwz hbd p0 p1 p2 p3 p4 p5 p6 p7
    refine Rf.pl_quiet ?_
    iterate 2 go_big_quiet_step (fail)
    refine wpQuiet_nil (Rf.pl_one ?_)
    go_wp2_with (refine h1.mono ?_; rintro e w6 ⟨rfl, hb6⟩)
    have B6 := below_tr Hbd.out hb6
    refine ⟨hb6.mono hle, Rf.pl_one ?_⟩
    have h2 := Hqr.out w6 B6
    clear h1 y0 y1 y2 y3 y4 y5 y6 y7
    go_wp2_with (refine h2.mono ?_; rintro e w7 ⟨rfl, hb7⟩)
    have B7 := below_tr B6 hb7
    refine ⟨hb7.mono B6.size, Rf.pl_quiet ?_⟩
    have heq : (er == er) = true := by simp
    clear h2 z0 z1 z2 z3 z4 z5 z6 z7
    have z0 := cellL d0 B7
    have z1 := cellL d1 B7
    have z2 := cellL d2 B7
    have z3 := cellL d3 B7
    have z4 := cellL d4 B7
    have z5 := cellL d5 B7
    have z6 := cellL d6 B7
    have z7 := cellL d7 B7
    iterate 4 go_big_quiet_step (fail)
    refine wpQuiet_nil (Rf.pl_one ?_)
    have h3 := Hnr.out w7 B7
    clear z0 z1 z2 z3 z4 z5 z6 z7
    go_wp2_with (refine h3.mono ?_; rintro e w8 ⟨v8, rfl, own8, hb8⟩)
    have B8 := below_tr B7 hb8
    refine ⟨hb8.mono B7.size, Rf.pl_one ?_⟩
    obtain ⟨A9, m9, rfl, hm9, r9⟩ := own_slice own8
    have h4 := sameTexts nd nd A7 A9 m7 m9 w8 (r7.later B8) r9 (by omega) (by omega)
    rw [sameTs_self] at h4
    clear h3 own8 r9
    go_wp2_with (refine h4.mono ?_; rintro e w9 ⟨rfl, hb9⟩)
    have B9 := below_tr B8 hb9
    refine ⟨hb9.mono B8.size, Rf.pl_quiet ?_⟩
    clear h4
    have z0 := cellL d0 B9
    have z1 := cellL d1 B9
    have z2 := cellL d2 B9
    have z3 := cellL d3 B9
    have z4 := cellL d4 B9
    have z5 := cellL d5 B9
    have z6 := cellL d6 B9
    have z7 := cellL d7 B9
    iterate 5 go_big_quiet_step (fail)
    refine wpQuiet_nil (Rf.pl_one ?_)
    have h5 := Htr.out w9 B9
    clear z0 z1 z2 z3 z4 z5 z6 z7
    go_wp2_with (refine h5.mono ?_; rintro e w10 ⟨v10, rfl, own10, hb10⟩)
    have B10 := below_tr B9 hb10
    refine ⟨hb10.mono B9.size, Rf.pl_one ?_⟩
    obtain ⟨A11, m11, rfl, hm11, r11⟩ := own_slice own10
    have h6 := sameInts tl tl A8 A11 m8 m11 w10 (r8.later B10) r11 (by omega) (by omega)
    rw [show decide (tl = tl) = true by simp] at h6
    clear h5 own10 r11
    go_wp2_with (refine h6.mono ?_; rintro e w11 ⟨rfl, hb11⟩)
    have B11 := below_tr B10 hb11
    refine ⟨hb11.mono B10.size, Rf.pl_quiet ?_⟩
    iterate 2 go_big_quiet_step (fail)
    refine wpQuiet_nil (Rf.pl_done ?_)
    refine hM _ _ (Met.intro (hJ _ _ ?_))
    (repeat apply Exists.intro)
    exact ⟨⟨rfl, B11⟩, rfl⟩
  obtain ⟨rfl, hb6⟩ := hcut
  obtain ⟨W6, hW6⟩ : ∃ V : World, V = wc := ⟨_, rfl⟩
  subst hW6
  have own9 := own_below Hown7.out hb6 (Nat.le_refl _)
  have B6 := below_tr Hb5.out hb6
  have hOv := overOwn own9 (by omega) B6.size
  replace p0 := cell_on p0 hb6
  replace p1 := cell_on p1 hb6
  replace p2 := cell_on p2 hb6
  replace p3 := cell_on p3 hb6
  replace p4 := cell_on p4 hb6
  replace p5 := cell_on p5 hb6
  replace p6 := cell_on p6 hb6
  replace p7 := cell_on p7 hb6
  replace d0 := cell_on d0 hb6
  replace d1 := cell_on d1 hb6
  replace d2 := cell_on d2 hb6
  replace d3 := cell_on d3 hb6
  replace d4 := cell_on d4 hb6
  replace d5 := cell_on d5 hb6
  replace d6 := cell_on d6 hb6
  replace d7 := cell_on d7 hb6
  have H6 := Lib.hid B6
  clear own9 hb6 B6 r7 r8
  go_wp2_with fail
  refine hOv.mono ?_
  rintro e w7 ⟨⟨u7, rfl⟩, hb7⟩
  have B7 := H6.out.trans hb7
  clear p0 p1 p2 p3 p4 p5 p6 p7 d0 d1 d2 d3 d4 d5 d6 d7 hOv
  have p0 := cell_on HP0.out B7
  have d0 := cell_on HD0_.out B7
  have p1 := cell_on HP1.out B7
  have d1 := cell_on HD1_.out B7
  have p2 := cell_on HP2.out B7
  have d2 := cell_on HD2_.out B7
  have p3 := cell_on HP3.out B7
  have d3 := cell_on HD3_.out B7
  have p4 := cell_on HP4.out B7
  have d4 := cell_on HD4_.out B7
  have p5 := cell_on HP5.out B7
  have d5 := cell_on HD5_.out B7
  have p6 := cell_on HP6.out B7
  have d6 := cell_on HD6_.out B7
  have p7 := cell_on HP7.out B7
  have d7 := cell_on HD7_.out B7
  have hK := keptQ n _ q _ _ w7 (HL4.out.later B7) (HQ.out.later (below_tr HB4.out B7)) sL (by have := hz.1; omega) (by have := hz.2.1; omega) (by have := hz.2.2.2.1; omega)
  have H7 := Lib.hid B7
  clear hb7 B7
  go_wp2_with fail
  refine hK.mono ?_
  rintro e w8 ⟨rfl, hb8⟩
  have B8 := below_tr H7.out hb8
  have hKT := keptTexts among gA A c w8 (HT4.out.stays (Stays.below B8) (Nat.zero_le _)) (HA.out.later (below_tr HB4.out B8)) hl
  have H8 := Lib.hid B8
  clear hK hb8 B8 p0 p1 p2 p3 p4 p5 p6 p7 d0 d1 d2 d3 d4 d5 d6 d7
  go_wp2_with fail
  refine hKT.mono ?_
  rintro e w9 ⟨rfl, hb9⟩
  have B9 := below_tr H8.out hb9
  have hA9 := HAw.out w9 (below_tr HB4'.out B9)
  clear hKT
  go_wp2_with (refine hA9.mono ?_; rintro e w10 ⟨rfl, hb10⟩)
  go_ret
  exact ⟨rfl, below_tr (below_tr HB4.out B9) hb10⟩
end Go.Proofs.YtefjhehgpkljcaaGreatDoor
