/- Two terms, compared by Go's ==. The law TermTells; TermReads. Printed by gen/law08c.py. -/
import Derived.Test.YtheeklkcaapkbaaGreatDoorJTx4
import Derived.Test.YtheeklkcaapkbaaGreatDoorJR8h
import Derived.Test.YtheeklkcaapkbaaGreatDoorJLaw08s
namespace Go.Proofs.YtheeklkcaapkbaaGreatDoor
open Go Go.RowKit Um Fm Tx
theorem sameTm_iff {a b : Tm} : sameTm a b = true ↔ a = b := by
  obtain ⟨k, x, l, y⟩ := a
  obtain ⟨k', x', l', y'⟩ := b
  unfold sameTm
  simp only [Bool.and_eq_true, beq_iff_eq, Tm.mk.injEq, ByteArray.toList_eq]
  constructor
  · rintro ⟨⟨⟨h1, h2⟩, h3⟩, h4⟩
    exact ⟨h1, ba_ext h2, ba_ext h3, ba_ext h4⟩
  · rintro ⟨rfl, rfl, rfl, rfl⟩
    exact ⟨⟨⟨rfl, rfl⟩, rfl⟩, rfl⟩
theorem sameTm_dec (a b : Tm) : sameTm a b = decide (a.k = b.k ∧ a.x = b.x ∧ a.l = b.l ∧ a.y = b.y) := by
  rw [Bool.eq_iff_iff, sameTm_iff, decide_eq_true_iff]
  obtain ⟨k, x, l, y⟩ := a
  obtain ⟨k', x', l', y'⟩ := b
  simp
set_option maxRecDepth 100000 in
set_option maxHeartbeats 2000000 in
theorem run_eqTm (a b : Tm) (W : World) : (binOp .eql 24 (.agg #[.int .i64 a.k, .string a.x, .string a.l, .string a.y]) (.agg #[.int .i64 b.k, .string b.x, .string b.l, .string b.y])).run Tryz.prog W = .ok (.bool (sameTm a b)) W := by
  have h0 := Tryz.underlying24
  have h1 := Tryz.underlying22
  have h2 := Tryz.underlying9
  unfold sameTm
  simp only [go_sem, h0]
  cases e1 : (a.k == b.k)
  · simp [go_sem, h0, h1, h2, e1]
  cases e2 : (a.x.toList == b.x.toList)
  · simp [go_sem, h0, h1, h2, e1, e2]
  cases e3 : (a.l.toList == b.l.toList)
  · simp [go_sem, h0, h1, h2, e1, e2, e3]
  cases e4 : (a.y.toList == b.y.toList)
  · simp [go_sem, h0, h1, h2, e1, e2, e3, e4]
  simp [go_sem, h0, h1, h2, e1, e2, e3, e4]
end Go.Proofs.YtheeklkcaapkbaaGreatDoor
namespace Go.Proofs.YtheeklkcaapkbaaGreatDoor
open Go Go.RowKit Um Fm Lx Tx

set_option maxHeartbeats 8000000 in
set_option maxRecDepth 100000 in
theorem lawReads1 (s : ByteArray) (w : World) (hC : CtxT w) (hE : ErrB w) (hs : s.size ≤ 1000000) :
    Calls Tryz.prog 30 #[.string s] w fun e w' => e = .returned (.bool true) ∧ Below w.heap.size w w' := by
  have h1 := termParse s w hC hE hs
  have h2 := fun W => r08Parse s W hs
  generalize (parseP s.data.toList).1 = t at *
  generalize (parseP s.data.toList).2 = n at *
  have hq := fun W => run_eqTm t t W
  rw [sameTm_iff.2 rfl] at hq
  have hqn : ((n : Int) == n) = true := by simp
  go_enter Tryz.func30, Tryz.ntmps30
  go_wp2_with (go_at_call 31; with_reducible refine h1.mono ?_)
  rintro e w1 ⟨rfl, k1⟩
  have b1 : Below w1.heap.size w1 (w1.alloc (.cells (tC t) 24)) := (Below.refl _ _).alloc (Nat.le_refl _) _
  have g1 := heap_alloc_new w1 (.cells (tC t) 24)
  have z1 : (w1.alloc (.cells (tC t) 24)).heap.size = w1.heap.size + 1 := by simp
  go_upto_region 2 with fail
  change Code.wp _ _ _ _ (w1.alloc (.cells (tC t) 24))
  generalize w1.alloc (.cells (tC t) 24) = w2 at *
  have B2 := Lib.hid (below_tr k1 b1)
  clear k1 b1 h1
  go_wp2_with (go_at_call 46; with_reducible refine (h2 _).mono ?_)
  rintro e w3 ⟨rfl, k3⟩
  have g3 := below_blk k3 g1
  have b3 : Below w3.heap.size w3 (w3.alloc (.cells (tC t) 24)) := (Below.refl _ _).alloc (Nat.le_refl _) _
  have g4 := heap_alloc_new w3 (.cells (tC t) 24)
  have g5 := below_blk b3 g3
  have B4 := Lib.hid (below_tr (below_tr B2.out k3) b3)
  clear g1 g3 h2
  go_upto_region 3 with fail
  change Code.wp _ _ _ _ (w3.alloc (.cells (tC t) 24))
  generalize w3.alloc (.cells (tC t) 24) = w4 at *
  have a0 := cells_at g5 0 rfl
  have a1 := cells_at g5 1 rfl
  have a2 := cells_at g5 2 rfl
  have a3 := cells_at g5 3 rfl
  have c0 := cells_at g4 0 rfl
  have c1 := cells_at g4 1 rfl
  have c2 := cells_at g4 2 rfl
  have c3 := cells_at g4 3 rfl
  clear g4 g5 b3 k3 z1
  go_wp2
  go_ret
  exact ⟨rfl, B4.out⟩
theorem lawTermReads (s : ByteArray) (w : World) (hX : CtxT w ∧ ErrB w) (hz : s.size ≤ 281474976710656) :
    Calls Tryz.prog 6 #[.string s] w fun e w' => e = .returned (.bool true) ∧ Below w.heap.size w w' := by
  have hA := fun W hb => lawAwake W (hX.1.step hb)
  by_cases hs : 6000 < s.size
  · go_enter Tryz.func6, Tryz.ntmps6
    go_wp2_with (go_at_call 9; with_reducible refine (hA _ (Below.refl _ _)).mono ?_; rintro e w1 ⟨rfl, k1⟩)
    go_ret
    exact ⟨rfl, k1⟩
  · have hr := lawReads1 s w hX.1 hX.2 (by omega)
    go_enter Tryz.func6, Tryz.ntmps6
    go_wp2_with (first
      | (go_at_call 30; with_reducible refine hr.mono ?_; rintro e w1 ⟨rfl, k1⟩)
      | (go_at_call 9; with_reducible refine (hA _ k1).mono ?_; rintro e w2 ⟨rfl, k2⟩))
    go_ret
    exact ⟨rfl, below_tr k1 k2⟩
set_option maxHeartbeats 8000000 in
set_option maxRecDepth 100000 in
theorem tells_walk (a b : Tm) (w : World) (hC : CtxT w) (hs1 : hugeT a) (hs2 : hugeT b) :
    Calls Tryz.prog 5 #[tA a, tA b] w fun e w' => e = .returned (.bool true) ∧ Below w.heap.size w w' := by
  have hba : Below w.heap.size w (w.alloc (.cells (tC a) 24)) := (Below.refl _ w).alloc (Nat.le_refl _) _
  have hga := heap_alloc_new w (.cells (tC a) 24)
  have hza : (w.alloc (.cells (tC a) 24)).heap.size = w.heap.size + 1 := by simp
  go_enter Tryz.func5, Tryz.ntmps5
  go_upto_region 1 with fail
  change Code.wp _ _ _ _ ((w.alloc (.cells (tC a) 24)).alloc (.cells (tC b) 24))
  generalize w.alloc (.cells (tC a) 24) = wa at *
  have hbb : Below wa.heap.size wa (wa.alloc (.cells (tC b) 24)) := (Below.refl _ wa).alloc (Nat.le_refl _) _
  have hgb := heap_alloc_new wa (.cells (tC b) 24)
  have hga2 := below_blk hbb hga
  rw [hza] at hgb
  generalize wa.alloc (.cells (tC b) 24) = w0 at *
  have hb0 : Below w.heap.size w w0 := below_tr hba hbb
  have hsz : w.heap.size ≤ w0.heap.size := hb0.size
  have HB0 := Lib.hid hb0
  have a0 := cells_at hga2 0 rfl
  have a1 := cells_at hga2 1 rfl
  have a2 := cells_at hga2 2 rfl
  have a3 := cells_at hga2 3 rfl
  have b0 := cells_at hgb 0 rfl
  have b1 := cells_at hgb 1 rfl
  have b2 := cells_at hgb 2 rfl
  have b3 := cells_at hgb 3 rfl
  have HC0 := Lib.hid (hC.step hb0)
  clear hga hgb hga2 hza hba hbb hb0 hC
  have hA := fun W (hb : Below w0.heap.size w0 W) => lawAwake W (HC0.out.step hb)
  have hSz := lawSize [a, b] w0.heap.size 2 2 (w0.alloc (.cells #[.int .i64 a.k, .string a.x, .string a.l, .string a.y, .int .i64 b.k, .string b.x, .string b.l, .string b.y] 24)) rfl (heap_alloc_new w0 _) (by intro t ht; simp at ht; rcases ht with rfl | rfl <;> assumption) rfl (by simp)
  have hBS : Below w0.heap.size w0 (w0.alloc (.cells #[.int .i64 a.k, .string a.x, .string a.l, .string a.y, .int .i64 b.k, .string b.x, .string b.l, .string b.y] 24)) := (Below.refl _ _).alloc (Nat.le_refl _) _
  by_cases hbig : 6000 < szL [a, b]
  · go_wp2_with (first
      | (go_at_call 10; with_reducible refine hSz.mono ?_; rintro e W2 ⟨rfl, B3⟩; have B4 := below_tr hBS B3)
      | (go_at_call 9; with_reducible refine (hA _ B4).mono ?_; rintro e W3 ⟨rfl, B5⟩))
    go_ret
    exact ⟨rfl, HB0.out.trans ((below_tr B4 B5).mono hsz)⟩
  have ha : smallT a := smallT_of (by simp [szL, szT] at hbig; omega)
  have hb : smallT b := smallT_of (by simp [szL, szT] at hbig; omega)
  go_wp2_with (go_at_call 10; with_reducible refine hSz.mono ?_)
  rintro e W1 ⟨rfl, B3⟩
  have B4 := below_tr hBS B3
  replace a0 := cell_on a0 B4
  replace a1 := cell_on a1 B4
  replace a2 := cell_on a2 B4
  replace a3 := cell_on a3 B4
  replace b0 := cell_on b0 B4
  replace b1 := cell_on b1 B4
  replace b2 := cell_on b2 B4
  replace b3 := cell_on b3 B4
  clear hSz hBS B3 hs1 hs2
  have s1 := fun W hB => termShow a W (HC0.out.step hB) ha
  have s2 := fun W => r08Show a W ha
  generalize (showP a).1 = sx at *
  generalize (showP a).2 = se at *
  go_wp2_with (go_at_call 19; with_reducible refine (s1 _ B4).mono ?_)
  rintro e W2 ⟨rfl, k2⟩
  have B5 := below_tr B4 k2
  replace a0 := cell_on a0 k2
  replace a1 := cell_on a1 k2
  replace a2 := cell_on a2 k2
  replace a3 := cell_on a3 k2
  replace b0 := cell_on b0 k2
  replace b1 := cell_on b1 k2
  replace b2 := cell_on b2 k2
  replace b3 := cell_on b3 k2
  clear B4 k2 s1
  go_wp2_with (go_at_call 20; with_reducible refine (s2 _).mono ?_)
  rintro e W3 ⟨rfl, k3⟩
  have B6 := Lib.hid (below_tr B5 k3)
  replace a0 := cell_on a0 k3
  replace a1 := cell_on a1 k3
  replace a2 := cell_on a2 k3
  replace a3 := cell_on a3 k3
  replace b0 := cell_on b0 k3
  replace b1 := cell_on b1 k3
  replace b2 := cell_on b2 k3
  replace b3 := cell_on b3 k3
  clear B5 k3 s2
  have hRa := fun W hB => termRight' a W (HC0.out.step hB) ha
  have hRa2 := fun W => r08Right' a W ha
  have hCm := fun W hB => termCompare a b W (HC0.out.step hB) ha hb
  have hCm2 := fun W => r08Compare a b W ha hb
  have hTg := fun W => termTagged a.x b.x W hb.1
  have hTg2 := fun W => r08Tagged a.x b.x W hb.1
  have hTy := fun W => termTyped a.x b.x W
  have hTy2 := fun W => r08Typed a.x b.x W
  have hIr := fun W => termIri a.x W
  have hBl := fun W => termBlank a.x W
  have hLi := fun W => termLiteral a.x W
  generalize rightB a = ra at *
  generalize cmpTm a b = cm at *
  generalize typedT a.x b.x = ty at *
  have q1 := fun W => run_eqTm ⟨3, a.x, lowS b.x, ⟨#[]⟩⟩ ⟨3, a.x, lowS b.x, ⟨#[]⟩⟩ W
  have q2 := fun W => run_eqTm ty ty W
  have q3 := fun W => run_eqTm ⟨1, a.x, ⟨#[]⟩, ⟨#[]⟩⟩ ⟨1, a.x, ⟨#[]⟩, ⟨#[]⟩⟩ W
  have q4 := fun W => run_eqTm ⟨2, a.x, ⟨#[]⟩, ⟨#[]⟩⟩ ⟨2, a.x, ⟨#[]⟩, ⟨#[]⟩⟩ W
  have q5 := fun W => run_eqTm ⟨3, a.x, ⟨#[]⟩, ⟨#[]⟩⟩ ⟨3, a.x, ⟨#[]⟩, ⟨#[]⟩⟩ W
  rw [sameTm_iff.2 rfl] at q1 q2 q3 q4 q5
  have H1 := Lib.hid (And.intro hTg (And.intro hTg2 (And.intro hTy (And.intro hTy2 (And.intro q1 q2)))))
  have H2 := Lib.hid (And.intro hIr (And.intro hBl (And.intro q3 q4)))
  have H3 := Lib.hid (And.intro hLi q5)
  clear hTg hTg2 hTy hTy2 q1 q2 hIr hBl q3 q4 hLi q5
  go_upto_region 5 with fail
  have Ra0 := fun d os => cell_on a0 (below_regrown W3 d os)
  have Ra1 := fun d os => cell_on a1 (below_regrown W3 d os)
  have Ra2 := fun d os => cell_on a2 (below_regrown W3 d os)
  have Ra3 := fun d os => cell_on a3 (below_regrown W3 d os)
  have Rb0 := fun d os => cell_on b0 (below_regrown W3 d os)
  have Rb1 := fun d os => cell_on b1 (below_regrown W3 d os)
  have Rb2 := fun d os => cell_on b2 (below_regrown W3 d os)
  have Rb3 := fun d os => cell_on b3 (below_regrown W3 d os)
  have hW := B6.out
  refine wp_region_quiet_below (by kernel_rfl) (by kernel_rfl) ?_; (repeat (any_goals (go_big_quiet_step ((first | (go_at_call 12; with_reducible exact Calls.regrown_of (hRa _ (below_tr hW (below_regrown _ _ _)))) | (go_at_call 21; with_reducible exact Calls.regrown_of (hRa2 _)) | (go_at_call 11; with_reducible exact Calls.regrown_of (hCm _ (below_tr hW (below_regrown _ _ _)))) | (go_at_call 22; with_reducible exact Calls.regrown_of (hCm2 _))))))); all_goals (refine wpQuiet_nil ?_; intro _ hw9; obtain ⟨⟨d9, os9⟩, hw8⟩ := hw9; subst hw8)
  have kq := below_regrown W3 d9 os9
  change Exit.then _ _ Exit.normal _ (Sort.grow (redrawn W3 d9) os9)
  generalize Sort.grow (redrawn W3 d9) os9 = W4 at *
  have B7 := Lib.hid (below_tr B6.out kq)
  clear Ra0 Ra1 Ra2 Ra3 Rb0 Rb1 Rb2 Rb3
  replace a0 := cell_on a0 kq
  replace a1 := cell_on a1 kq
  replace a2 := cell_on a2 kq
  replace a3 := cell_on a3 kq
  replace b0 := cell_on b0 kq
  replace b1 := cell_on b1 kq
  replace b2 := cell_on b2 kq
  replace b3 := cell_on b3 kq
  clear kq
  clear hRa hRa2 hCm hCm2
  obtain ⟨t1, t2, t3, t4, q1, q2⟩ := H1.out
  go_upto_region 6 with fail
  have Ra0 := fun d os => cell_on a0 (below_regrown W4 d os)
  have Ra1 := fun d os => cell_on a1 (below_regrown W4 d os)
  have Ra2 := fun d os => cell_on a2 (below_regrown W4 d os)
  have Ra3 := fun d os => cell_on a3 (below_regrown W4 d os)
  have Rb0 := fun d os => cell_on b0 (below_regrown W4 d os)
  have Rb1 := fun d os => cell_on b1 (below_regrown W4 d os)
  have Rb2 := fun d os => cell_on b2 (below_regrown W4 d os)
  have Rb3 := fun d os => cell_on b3 (below_regrown W4 d os)
  have hW := B7.out
  refine wp_region_quiet_below (by kernel_rfl) (by kernel_rfl) ?_; (repeat (any_goals (go_big_quiet_step ((first | (go_at_call 23; with_reducible exact Calls.regrown_of (t1 _)) | (go_at_call 24; with_reducible exact Calls.regrown_of (t2 _)) | (go_at_call 25; with_reducible exact Calls.regrown_of (t3 _)) | (go_at_call 26; with_reducible exact Calls.regrown_of (t4 _))))))); all_goals (refine wpQuiet_nil ?_; intro _ hw9; obtain ⟨⟨d9, os9⟩, hw8⟩ := hw9; subst hw8)
  have kq := below_regrown W4 d9 os9
  change Exit.then _ _ Exit.normal _ (Sort.grow (redrawn W4 d9) os9)
  generalize Sort.grow (redrawn W4 d9) os9 = W5 at *
  have B8 := Lib.hid (below_tr B7.out kq)
  clear Ra0 Ra1 Ra2 Ra3 Rb0 Rb1 Rb2 Rb3
  replace a0 := cell_on a0 kq
  replace a1 := cell_on a1 kq
  replace a2 := cell_on a2 kq
  replace a3 := cell_on a3 kq
  replace b0 := cell_on b0 kq
  replace b1 := cell_on b1 kq
  replace b2 := cell_on b2 kq
  replace b3 := cell_on b3 kq
  clear kq
  clear t1 t2 t3 t4 q1 q2 H1
  obtain ⟨t1, t2, q1, q2⟩ := H2.out
  go_upto_region 7 with fail
  have Ra0 := fun d os => cell_on a0 (below_regrown W5 d os)
  have Ra1 := fun d os => cell_on a1 (below_regrown W5 d os)
  have Ra2 := fun d os => cell_on a2 (below_regrown W5 d os)
  have Ra3 := fun d os => cell_on a3 (below_regrown W5 d os)
  have Rb0 := fun d os => cell_on b0 (below_regrown W5 d os)
  have Rb1 := fun d os => cell_on b1 (below_regrown W5 d os)
  have Rb2 := fun d os => cell_on b2 (below_regrown W5 d os)
  have Rb3 := fun d os => cell_on b3 (below_regrown W5 d os)
  have hW := B8.out
  refine wp_region_quiet_below (by kernel_rfl) (by kernel_rfl) ?_; (repeat (any_goals (go_big_quiet_step ((first | (go_at_call 27; with_reducible exact Calls.regrown_of (t1 _)) | (go_at_call 28; with_reducible exact Calls.regrown_of (t2 _))))))); all_goals (refine wpQuiet_nil ?_; intro _ hw9; obtain ⟨⟨d9, os9⟩, hw8⟩ := hw9; subst hw8)
  have kq := below_regrown W5 d9 os9
  change Exit.then _ _ Exit.normal _ (Sort.grow (redrawn W5 d9) os9)
  generalize Sort.grow (redrawn W5 d9) os9 = W6 at *
  have B9 := Lib.hid (below_tr B8.out kq)
  clear Ra0 Ra1 Ra2 Ra3 Rb0 Rb1 Rb2 Rb3
  replace a0 := cell_on a0 kq
  replace a1 := cell_on a1 kq
  replace a2 := cell_on a2 kq
  replace a3 := cell_on a3 kq
  replace b0 := cell_on b0 kq
  replace b1 := cell_on b1 kq
  replace b2 := cell_on b2 kq
  replace b3 := cell_on b3 kq
  clear kq
  clear t1 t2 q1 q2 H2
  obtain ⟨t1, q1⟩ := H3.out
  go_upto_region 8 with fail
  have Ra0 := fun d os => cell_on a0 (below_regrown W6 d os)
  have Ra1 := fun d os => cell_on a1 (below_regrown W6 d os)
  have Ra2 := fun d os => cell_on a2 (below_regrown W6 d os)
  have Ra3 := fun d os => cell_on a3 (below_regrown W6 d os)
  have Rb0 := fun d os => cell_on b0 (below_regrown W6 d os)
  have Rb1 := fun d os => cell_on b1 (below_regrown W6 d os)
  have Rb2 := fun d os => cell_on b2 (below_regrown W6 d os)
  have Rb3 := fun d os => cell_on b3 (below_regrown W6 d os)
  have hW := B9.out
  refine wp_region_quiet_below (by kernel_rfl) (by kernel_rfl) ?_; (repeat (any_goals (go_big_quiet_step ((first | (go_at_call 29; with_reducible exact Calls.regrown_of (t1 _)) | (go_at_call 9; with_reducible exact Calls.regrown_of (hA _ (below_tr hW (below_regrown _ _ _))))))))); all_goals (refine wpQuiet_nil ?_; intro _ hw9; obtain ⟨⟨d9, os9⟩, hw8⟩ := hw9; subst hw8)
  go_wp2
  go_ret
  exact ⟨rfl, HB0.out.trans ((below_tr B9.out (below_regrown _ _ _)).mono hsz)⟩
theorem lawTermTells (k1 : Int) (x1 l1 y1 : ByteArray) (k2 : Int) (x2 l2 y2 : ByteArray) (w : World) (hC : CtxT w) (hs1 : hugeT ⟨k1, x1, l1, y1⟩) (hs2 : hugeT ⟨k2, x2, l2, y2⟩) :
    Calls Tryz.prog 5 #[.agg #[.int .i64 k1, .string x1, .string l1, .string y1], .agg #[.int .i64 k2, .string x2, .string l2, .string y2]] w fun e w' => e = .returned (.bool true) ∧ Below w.heap.size w w' :=
  tells_walk ⟨k1, x1, l1, y1⟩ ⟨k2, x2, l2, y2⟩ w hC hs1 hs2
end Go.Proofs.YtheeklkcaapkbaaGreatDoor
