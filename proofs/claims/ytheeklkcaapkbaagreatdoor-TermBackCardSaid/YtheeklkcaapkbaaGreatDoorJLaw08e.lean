/- The law TermBack. Printed by gen/law08e.py. -/
import Derived.Test.YtheeklkcaapkbaaGreatDoorJR8h
import Derived.Test.YtheeklkcaapkbaaGreatDoorJTmEq
import Derived.Test.YtheeklkcaapkbaaGreatDoorJLaw08s
namespace Go.Proofs.YtheeklkcaapkbaaGreatDoor
open Go Go.RowKit Um Fm Lx Tx

set_option maxRecDepth 100000 in
set_option maxHeartbeats 2000000 in
theorem run_neTm (a b : Tm) (W : World) : (binOp .neq 24 (.agg #[.int .i64 a.k, .string a.x, .string a.l, .string a.y]) (.agg #[.int .i64 b.k, .string b.x, .string b.l, .string b.y])).run Tryz.prog W = .ok (.bool (!sameTm a b)) W := by
  have h0 := Tryz.underlying24
  have h1 := Tryz.underlying22
  have h2 := Tryz.underlying9
  unfold sameTm
  simp only [go_sem, h0]
  cases e1 : (a.k == b.k)
  · simp [go_sem, h0, h1, h2, e1]
  cases e2 : (a.x.toList == b.x.toList)
  · simp [go_sem, h0, h1, h2, e1, e2]
  cases e3 : (a.l.toList == b.l.toList)
  · simp [go_sem, h0, h1, h2, e1, e2, e3]
  cases e4 : (a.y.toList == b.y.toList)
  · simp [go_sem, h0, h1, h2, e1, e2, e3, e4]
  simp [go_sem, h0, h1, h2, e1, e2, e3, e4]
/-- A term that has a text. -/
def hasT (t : Tm) : Bool := rightB t && decide ((textL t).length ≤ 4096)
theorem show_yes {t : Tm} (h : hasT t = true) : showP t = (mkS (textL t), 0) := by
  unfold hasT at h
  rw [Bool.and_eq_true, decide_eq_true_iff] at h
  unfold showP
  rw [h.1, if_pos rfl, if_neg (by omega)]
theorem show_no {t : Tm} (h : hasT t = false) : (showP t).2 = 2 ∨ (showP t).2 = 3 := by
  unfold showP
  cases hr : rightB t
  · left; rfl
  · right
    unfold hasT at h
    rw [hr, Bool.true_and, decide_eq_false_iff_not] at h
    rw [if_pos rfl, if_pos (by omega)]
theorem hasT_right {t : Tm} (h : hasT t = true) : rightB t = true ∧ (textL t).length ≤ 4096 := by
  unfold hasT at h
  rw [Bool.and_eq_true, decide_eq_true_iff] at h
  exact h
theorem parse_text {t : Tm} (h : hasT t = true) : parseP (textL t) = (t, 0) := by
  obtain ⟨h1, h2⟩ := hasT_right h
  unfold parseP
  rw [if_neg (by omega), guessP_text h1, if_pos (okP_iff.2 ⟨h1, rfl⟩)]
theorem parse_cases (l : List UInt8) : ((parseP l).2 ≠ 0 ∧ (parseP l).1 = ⟨0, ⟨#[]⟩, ⟨#[]⟩, ⟨#[]⟩⟩) ∨ ((parseP l).2 = 0 ∧ hasT (parseP l).1 = true ∧ textL (parseP l).1 = l) := by
  unfold parseP
  split
  · left; exact ⟨by decide, rfl⟩
  split
  · rename_i h1 h2
    right
    obtain ⟨h3, h4⟩ := okP_iff.1 h2
    refine ⟨rfl, ?_, h4⟩
    unfold hasT
    rw [Bool.and_eq_true, decide_eq_true_iff]
    exact ⟨h3, by rw [h4]; omega⟩
  · left; exact ⟨by decide, rfl⟩
theorem cmp_right {a b : Tm} (ha : rightB a = true) (hb : rightB b = true) : cmpTm a b = cmpS (textL a) (textL b) := by unfold cmpTm; rw [ha, hb]; rfl
/-- How the texts stand is how the terms stand. -/
theorem back_cmp {a b : Tm} (ha : rightB a = true) (hb : rightB b = true) :
    (Op.bytesLess (textL a) (textL b) = decide (cmpTm a b < 0)) ∧ ((textL a == textL b) = sameTm a b) ∧ (sameTm a b = (cmpTm a b == 0)) := by
  have e := cmp_right ha hb
  refine ⟨?_, ?_, ?_⟩
  · rw [e, bytesLess_eq, Bool.eq_iff_iff, decide_eq_true_iff, decide_eq_true_iff]; exact (cmpS_lt _ _).symm
  · rw [Bool.eq_iff_iff, sameTm_iff, beq_iff_eq]
    exact ⟨fun h => text_inj ha hb h, fun h => by rw [h]⟩
  · rw [Bool.eq_iff_iff, sameTm_iff, beq_iff_eq]
    exact (cmp_eq a b).symm
set_option maxHeartbeats 16000000 in
set_option maxRecDepth 100000 in
theorem back_walk (a b : Tm) (s : ByteArray) (w : World) (hX : CtxT w ∧ ErrB w) (hs1 : hugeT a) (hs2 : hugeT b) (hs3 : s.size ≤ 281474976710656) :
    Calls Tryz.prog 7 #[tA a, tA b, .string s] w fun e w' => e = .returned (.bool true) ∧ Below w.heap.size w w' := by
  have hba : Below w.heap.size w (w.alloc (.cells (tC a) 24)) := (Below.refl _ w).alloc (Nat.le_refl _) _
  have hga := heap_alloc_new w (.cells (tC a) 24)
  have hza : (w.alloc (.cells (tC a) 24)).heap.size = w.heap.size + 1 := by simp
  go_enter Tryz.func7, Tryz.ntmps7
  go_upto_region 1 with fail
  change Code.wp _ _ _ _ ((w.alloc (.cells (tC a) 24)).alloc (.cells (tC b) 24))
  generalize w.alloc (.cells (tC a) 24) = wa at *
  have hbb : Below wa.heap.size wa (wa.alloc (.cells (tC b) 24)) := (Below.refl _ wa).alloc (Nat.le_refl _) _
  have hgb := heap_alloc_new wa (.cells (tC b) 24)
  have hga2 := below_blk hbb hga
  rw [hza] at hgb
  generalize wa.alloc (.cells (tC b) 24) = w0 at *
  have hb0 : Below w.heap.size w w0 := below_tr hba hbb
  have hsz : w.heap.size ≤ w0.heap.size := hb0.size
  have HB0 := Lib.hid hb0
  have a0 := cells_at hga2 0 rfl
  have a1 := cells_at hga2 1 rfl
  have a2 := cells_at hga2 2 rfl
  have a3 := cells_at hga2 3 rfl
  have b0 := cells_at hgb 0 rfl
  have b1 := cells_at hgb 1 rfl
  have b2 := cells_at hgb 2 rfl
  have b3 := cells_at hgb 3 rfl
  have HC0 := Lib.hid (hX.1.step hb0)
  have HE0 := Lib.hid (hX.2.step hb0)
  clear hga hgb hga2 hza hba hbb hb0 hX
  have hA := lawAwake w0 HC0.out
  go_wp2_with (go_at_call 9; with_reducible refine hA.mono ?_)
  rintro e W1 ⟨rfl, B1⟩
  clear hA
  replace a0 := cell_on a0 B1
  replace a1 := cell_on a1 B1
  replace a2 := cell_on a2 B1
  replace a3 := cell_on a3 B1
  replace b0 := cell_on b0 B1
  replace b1 := cell_on b1 B1
  replace b2 := cell_on b2 B1
  replace b3 := cell_on b3 B1
  have hSz := lawSize [a, b] W1.heap.size 2 2 (W1.alloc (.cells #[.int .i64 a.k, .string a.x, .string a.l, .string a.y, .int .i64 b.k, .string b.x, .string b.l, .string b.y] 24)) rfl (heap_alloc_new W1 _) (by intro t ht; simp at ht; rcases ht with rfl | rfl <;> assumption) rfl (by simp)
  have hBS : Below W1.heap.size W1 (W1.alloc (.cells #[.int .i64 a.k, .string a.x, .string a.l, .string a.y, .int .i64 b.k, .string b.x, .string b.l, .string b.y] 24)) := (Below.refl _ _).alloc (Nat.le_refl _) _
  have B2 := Lib.hid (below_tr B1 hBS)
  have hm : szL [a, b] ≤ 2 * 844424930131968 := by
    have h1 := hs1; have h2 := hs2
    unfold hugeT at h1 h2
    simp only [szL, szT, List.map_cons, List.map_nil, List.sum_cons, List.sum_nil]; omega
  have Hsm : Hid (szL [a, b] ≤ 6000 → smallT a ∧ smallT b) := fun h => by
    simp only [szL, szT, List.map_cons, List.map_nil, List.sum_cons, List.sum_nil] at h
    exact ⟨smallT_of (by omega), smallT_of (by omega)⟩
  generalize szL [a, b] = n at *
  by_cases hbig : 6000 < n + s.size
  · go_wp2_with (go_at_call 10; with_reducible refine hSz.mono ?_; rintro e W2 ⟨rfl, B3⟩)
    go_ret
    exact ⟨rfl, HB0.out.trans ((below_tr B2.out B3).mono hsz)⟩
  obtain ⟨ha, hb⟩ := Hsm.out (by omega)
  have hss : s.size ≤ 1000000 := by omega
  go_wp2_with (go_at_call 10; with_reducible refine hSz.mono ?_)
  rintro e W2 ⟨rfl, B3⟩
  have B4 := below_tr B2.out B3
  replace a0 := cell_on a0 (below_tr hBS B3)
  replace a1 := cell_on a1 (below_tr hBS B3)
  replace a2 := cell_on a2 (below_tr hBS B3)
  replace a3 := cell_on a3 (below_tr hBS B3)
  replace b0 := cell_on b0 (below_tr hBS B3)
  replace b1 := cell_on b1 (below_tr hBS B3)
  replace b2 := cell_on b2 (below_tr hBS B3)
  replace b3 := cell_on b3 (below_tr hBS B3)
  clear hSz hBS B3 B1 B2 hs1 hs2 hm Hsm
  have s1 := fun W hB => termShow a W (HC0.out.step hB) ha
  have s2 := fun W hB => termShow b W (HC0.out.step hB) hb
  have hPs := fun W hB => termParse s W (HC0.out.step hB) (HE0.out.step hB) hss
  have HP := Lib.hid (parse_cases s.data.toList)
  have hts : smallT (parseP s.data.toList).1 := by
    have h1 := guess_small s.data.toList (by rw [size_toList]; exact hss)
    have h0 : smallT ⟨0, ⟨#[]⟩, ⟨#[]⟩, ⟨#[]⟩⟩ := ⟨by decide, by decide, by decide⟩
    unfold parseP
    split
    · exact h0
    split
    · exact h1
    · exact h0
  have hShs : ∀ W, Below w0.heap.size w0 W → hasT (parseP s.data.toList).1 = true → Calls Tryz.prog 19 #[tA (parseP s.data.toList).1] W fun e w' => e = .returned (.tuple #[.string (mkS (textL (parseP s.data.toList).1)), .int .i64 0]) ∧ Below W.heap.size W w' := fun W hB h => by
    have := termShow (parseP s.data.toList).1 W (HC0.out.step hB) hts
    rw [show_yes h] at this; exact this
  have hRs := fun W hB => termRight' (parseP s.data.toList).1 W (HC0.out.step hB) hts
  generalize (parseP s.data.toList).1 = ts at *
  generalize (parseP s.data.toList).2 = gs at *
  have HS : mkS s.data.toList = s := mk_of s
  have hRa := fun W hB => termRight' a W (HC0.out.step hB) ha
  have hCm := fun W hB => termCompare a b W (HC0.out.step hB) ha hb
  have hPx := fun W hB (h : (mkS (textL a)).size ≤ 1000000) => termParse (mkS (textL a)) W (HC0.out.step hB) (HE0.out.step hB) h
  cases ea : hasT a
  case false =>
    have ea2 := show_no ea
    generalize (showP a).1 = sx at *
    generalize (showP a).2 = se at *
    have en1 : (se == 0) = false := by rcases ea2 with h | h <;> rw [h] <;> rfl
    generalize (showP b).1 = sy at *
    generalize (showP b).2 = sf at *
    clear ea ea2 hRa hCm hPx
    go_wp2_with (go_at_call 19; with_reducible refine (s1 _ B4).mono ?_)
    rintro e W3 ⟨rfl, k3⟩
    have B5 := below_tr B4 k3
    replace a0 := cell_on a0 k3
    replace a1 := cell_on a1 k3
    replace a2 := cell_on a2 k3
    replace a3 := cell_on a3 k3
    replace b0 := cell_on b0 k3
    replace b1 := cell_on b1 k3
    replace b2 := cell_on b2 k3
    replace b3 := cell_on b3 k3
    clear B4 k3 s1
    go_wp2_with (go_at_call 19; with_reducible refine (s2 _ B5).mono ?_)
    rintro e W4 ⟨rfl, k4⟩
    have B6 := below_tr B5 k4
    replace a0 := cell_on a0 k4
    replace a1 := cell_on a1 k4
    replace a2 := cell_on a2 k4
    replace a3 := cell_on a3 k4
    replace b0 := cell_on b0 k4
    replace b1 := cell_on b1 k4
    replace b2 := cell_on b2 k4
    replace b3 := cell_on b3 k4
    clear B5 k4 s2
    go_upto_region 11 with fail
    refine wp_region_quiet_below (by kernel_rfl) (by kernel_rfl) ?_; (repeat (any_goals (go_big_quiet_step ((fail))))); all_goals (refine wpQuiet_nil ?_; intro _ hw9; obtain ⟨⟨d9, os9⟩, hw8⟩ := hw9; subst hw8)
    have kq := below_regrown W4 d9 os9
    change Exit.then _ _ Exit.normal _ (Sort.grow (redrawn W4 d9) os9)
    generalize Sort.grow (redrawn W4 d9) os9 = W5 at *
    have B7 := below_tr B6 kq
    clear kq
    go_wp2_with (go_at_call 31; with_reducible refine (hPs _ B7).mono ?_)
    rintro e P1 ⟨rfl, m1⟩
    have M1 := below_tr B7 m1
    have al := (Below.refl P1.heap.size P1).alloc (Nat.le_refl _) (.cells (tC ts) 24)
    have hg := heap_alloc_new P1 (.cells (tC ts) 24)
    have M2 := Lib.hid (below_tr M1 al)
    go_upto_region 14 with fail
    change Code.wp _ _ _ _ (P1.alloc (.cells (tC ts) 24))
    generalize P1.alloc (.cells (tC ts) 24) = P2 at *
    have v0 := cells_at hg 0 rfl
    have v1 := cells_at hg 1 rfl
    have v2 := cells_at hg 2 rfl
    have v3 := cells_at hg 3 rfl
    clear hg al M1 m1
    rcases HP.out with ⟨g1, g2⟩ | ⟨g1, g2, g3⟩
    · have gne : (gs == 0) = false := by simpa using g1
      have gne2 : (gs != 0) = true := by simpa using g1
      have q := fun W => run_eqTm ts ⟨0, ⟨#[]⟩, ⟨#[]⟩, ⟨#[]⟩⟩ W
      rw [sameTm_iff.2 g2] at q
      clear g1 g2 HP hPs hShs hRs
      go_wp2
      go_ret
      exact ⟨rfl, HB0.out.trans (M2.out.mono hsz)⟩
    · subst g1
      have hS2 := fun W hb => hShs W hb g2
      rw [g3, mk_of] at hS2
      have hR2 := fun W hb => hRs W hb
      rw [(hasT_right g2).1] at hR2
      clear g2 g3 HP hPs hShs hRs
      go_wp2_with (first
        | (go_at_call 19; with_reducible refine (hS2 _ M2.out).mono ?_; rintro e P3 ⟨rfl, m3⟩; have M3 := below_tr M2.out m3; replace v0 := cell_on v0 m3; replace v1 := cell_on v1 m3; replace v2 := cell_on v2 m3; replace v3 := cell_on v3 m3)
        | (go_at_call 12; with_reducible refine (hR2 _ M3).mono ?_; rintro e P4 ⟨rfl, m4⟩))
      go_ret
      exact ⟨rfl, HB0.out.trans ((below_tr M3 m4).mono hsz)⟩
  case true =>
    obtain ⟨ra, la⟩ := hasT_right ea
    rw [show_yes ea] at s1
    have hP1 : ∀ W, Below w0.heap.size w0 W → Calls Tryz.prog 31 #[.string (mkS (textL a))] W fun e w' => e = .returned (.tuple #[tA a, .int .i64 0]) ∧ Below W.heap.size W w' := fun W hB => by
      have := hPx W hB (by rw [mkS_size]; omega)
      have e : parseP (mkS (textL a)).data.toList = (a, 0) := parse_text ea
      rw [e] at this; exact this
    have hlx : (mkS (textL a)).size ≤ 4096 := by rw [mkS_size]; exact la
    have qn := fun W => run_neTm a a W
    rw [sameTm_iff.2 rfl, Bool.not_true] at qn
    rw [ra] at hRa
    simp only at s1
    have HT : Hid (∀ z : ByteArray, mkS (textL a) = z → z.toList = textL a) := fun z h => by rw [← h, mkS_list]
    obtain ⟨tx, htx⟩ : ∃ x, mkS (textL a) = x := ⟨_, rfl⟩
    have Htx := Lib.hid (HT.out tx htx)
    rw [htx] at hP1 hlx s1
    clear htx HT hPx la ea
    go_wp2_with (go_at_call 19; with_reducible refine (s1 _ B4).mono ?_)
    rintro e W3 ⟨rfl, k3⟩
    have B5 := below_tr B4 k3
    replace a0 := cell_on a0 k3
    replace a1 := cell_on a1 k3
    replace a2 := cell_on a2 k3
    replace a3 := cell_on a3 k3
    replace b0 := cell_on b0 k3
    replace b1 := cell_on b1 k3
    replace b2 := cell_on b2 k3
    replace b3 := cell_on b3 k3
    clear B4 k3 s1
    cases eb : hasT b
    case false =>
      have eb2 := show_no eb
      generalize (showP b).1 = sy at *
      generalize (showP b).2 = sf at *
      have en1 : (sf == 0) = false := by rcases eb2 with h | h <;> rw [h] <;> rfl
      clear eb eb2 hCm Htx
      go_wp2_with (go_at_call 19; with_reducible refine (s2 _ B5).mono ?_)
      rintro e W4 ⟨rfl, k4⟩
      have B6 := below_tr B5 k4
      replace a0 := cell_on a0 k4
      replace a1 := cell_on a1 k4
      replace a2 := cell_on a2 k4
      replace a3 := cell_on a3 k4
      replace b0 := cell_on b0 k4
      replace b1 := cell_on b1 k4
      replace b2 := cell_on b2 k4
      replace b3 := cell_on b3 k4
      clear B5 k4 s2
      go_wp2_with (go_at_call 31; with_reducible refine (hP1 _ B6).mono ?_)
      rintro e W5 ⟨rfl, k5⟩
      have al := (Below.refl W5.heap.size W5).alloc (Nat.le_refl _) (.cells (tC a) 24)
      have hg := heap_alloc_new W5 (.cells (tC a) 24)
      have k6 := below_tr k5 al
      have B7 := below_tr B6 k6
      replace a0 := cell_on a0 k6
      replace a1 := cell_on a1 k6
      replace a2 := cell_on a2 k6
      replace a3 := cell_on a3 k6
      replace b0 := cell_on b0 k6
      replace b1 := cell_on b1 k6
      replace b2 := cell_on b2 k6
      replace b3 := cell_on b3 k6
      go_upto_region 9 with fail
      change Code.wp _ _ _ _ (W5.alloc (.cells (tC a) 24))
      generalize W5.alloc (.cells (tC a) 24) = W55 at *
      have u0 := cells_at hg 0 rfl
      have u1 := cells_at hg 1 rfl
      have u2 := cells_at hg 2 rfl
      have u3 := cells_at hg 3 rfl
      clear hg al k5 k6 B6
      go_wp2_with (go_at_call 12; with_reducible refine (hRa _ B7).mono ?_)
      rintro e W6 ⟨rfl, k7⟩
      have B8 := below_tr B7 k7
      replace a0 := cell_on a0 k7
      replace a1 := cell_on a1 k7
      replace a2 := cell_on a2 k7
      replace a3 := cell_on a3 k7
      replace b0 := cell_on b0 k7
      replace b1 := cell_on b1 k7
      replace b2 := cell_on b2 k7
      replace b3 := cell_on b3 k7
      clear k7 B7 hRa hP1 u0 u1 u2 u3
      go_upto_region 11 with fail
      refine wp_region_quiet_below (by kernel_rfl) (by kernel_rfl) ?_; (repeat (any_goals (go_big_quiet_step ((fail))))); all_goals (refine wpQuiet_nil ?_; intro _ hw9; obtain ⟨⟨d9, os9⟩, hw8⟩ := hw9; subst hw8)
      have kq := below_regrown W6 d9 os9
      change Exit.then _ _ Exit.normal _ (Sort.grow (redrawn W6 d9) os9)
      generalize Sort.grow (redrawn W6 d9) os9 = W7 at *
      have B9 := below_tr B8 kq
      clear kq
      go_wp2_with (go_at_call 31; with_reducible refine (hPs _ B9).mono ?_)
      rintro e P1 ⟨rfl, m1⟩
      have M1 := below_tr B9 m1
      have al := (Below.refl P1.heap.size P1).alloc (Nat.le_refl _) (.cells (tC ts) 24)
      have hg := heap_alloc_new P1 (.cells (tC ts) 24)
      have M2 := Lib.hid (below_tr M1 al)
      go_upto_region 14 with fail
      change Code.wp _ _ _ _ (P1.alloc (.cells (tC ts) 24))
      generalize P1.alloc (.cells (tC ts) 24) = P2 at *
      have v0 := cells_at hg 0 rfl
      have v1 := cells_at hg 1 rfl
      have v2 := cells_at hg 2 rfl
      have v3 := cells_at hg 3 rfl
      clear hg al M1 m1
      rcases HP.out with ⟨g1, g2⟩ | ⟨g1, g2, g3⟩
      · have gne : (gs == 0) = false := by simpa using g1
        have gne2 : (gs != 0) = true := by simpa using g1
        have q := fun W => run_eqTm ts ⟨0, ⟨#[]⟩, ⟨#[]⟩, ⟨#[]⟩⟩ W
        rw [sameTm_iff.2 g2] at q
        clear g1 g2 HP hPs hShs hRs
        go_wp2
        go_ret
        exact ⟨rfl, HB0.out.trans (M2.out.mono hsz)⟩
      · subst g1
        have hS2 := fun W hb => hShs W hb g2
        rw [g3, mk_of] at hS2
        have hR2 := fun W hb => hRs W hb
        rw [(hasT_right g2).1] at hR2
        clear g2 g3 HP hPs hShs hRs
        go_wp2_with (first
          | (go_at_call 19; with_reducible refine (hS2 _ M2.out).mono ?_; rintro e P3 ⟨rfl, m3⟩; have M3 := below_tr M2.out m3; replace v0 := cell_on v0 m3; replace v1 := cell_on v1 m3; replace v2 := cell_on v2 m3; replace v3 := cell_on v3 m3)
          | (go_at_call 12; with_reducible refine (hR2 _ M3).mono ?_; rintro e P4 ⟨rfl, m4⟩))
        go_ret
        exact ⟨rfl, HB0.out.trans ((below_tr M3 m4).mono hsz)⟩
    case true =>
      obtain ⟨rb, lb⟩ := hasT_right eb
      rw [show_yes eb] at s2
      simp only at s2
      obtain ⟨q1, q2, q3⟩ := back_cmp ra rb
      have qe := fun W => run_eqTm a b W
      obtain ⟨ty, hty⟩ : ∃ x, mkS (textL b) = x := ⟨_, rfl⟩
      rw [← Htx.out, show textL b = ty.toList by rw [← hty, mkS_list]] at q1 q2
      rw [hty] at s2
      generalize cmpTm a b = n at *
      rw [q3] at q2 qe
      clear hty rb lb eb Htx q3
      go_wp2_with (go_at_call 19; with_reducible refine (s2 _ B5).mono ?_)
      rintro e W4 ⟨rfl, k4⟩
      have B6 := below_tr B5 k4
      replace a0 := cell_on a0 k4
      replace a1 := cell_on a1 k4
      replace a2 := cell_on a2 k4
      replace a3 := cell_on a3 k4
      replace b0 := cell_on b0 k4
      replace b1 := cell_on b1 k4
      replace b2 := cell_on b2 k4
      replace b3 := cell_on b3 k4
      clear B5 k4 s2
      go_wp2_with (go_at_call 31; with_reducible refine (hP1 _ B6).mono ?_)
      rintro e W5 ⟨rfl, k5⟩
      have al := (Below.refl W5.heap.size W5).alloc (Nat.le_refl _) (.cells (tC a) 24)
      have hg := heap_alloc_new W5 (.cells (tC a) 24)
      have k6 := below_tr k5 al
      have B7 := below_tr B6 k6
      replace a0 := cell_on a0 k6
      replace a1 := cell_on a1 k6
      replace a2 := cell_on a2 k6
      replace a3 := cell_on a3 k6
      replace b0 := cell_on b0 k6
      replace b1 := cell_on b1 k6
      replace b2 := cell_on b2 k6
      replace b3 := cell_on b3 k6
      go_upto_region 9 with fail
      change Code.wp _ _ _ _ (W5.alloc (.cells (tC a) 24))
      generalize W5.alloc (.cells (tC a) 24) = W55 at *
      have u0 := cells_at hg 0 rfl
      have u1 := cells_at hg 1 rfl
      have u2 := cells_at hg 2 rfl
      have u3 := cells_at hg 3 rfl
      clear hg al k5 k6 B6
      go_wp2_with (go_at_call 12; with_reducible refine (hRa _ B7).mono ?_)
      rintro e W6 ⟨rfl, k7⟩
      have B8 := below_tr B7 k7
      replace a0 := cell_on a0 k7
      replace a1 := cell_on a1 k7
      replace a2 := cell_on a2 k7
      replace a3 := cell_on a3 k7
      replace b0 := cell_on b0 k7
      replace b1 := cell_on b1 k7
      replace b2 := cell_on b2 k7
      replace b3 := cell_on b3 k7
      clear k7 B7 hRa hP1 u0 u1 u2 u3
      go_upto_region 11 with fail
      have RC := hCm
      have Ra0 := fun d os => cell_on a0 (below_regrown W6 d os)
      have Ra1 := fun d os => cell_on a1 (below_regrown W6 d os)
      have Ra2 := fun d os => cell_on a2 (below_regrown W6 d os)
      have Ra3 := fun d os => cell_on a3 (below_regrown W6 d os)
      have Rb0 := fun d os => cell_on b0 (below_regrown W6 d os)
      have Rb1 := fun d os => cell_on b1 (below_regrown W6 d os)
      have Rb2 := fun d os => cell_on b2 (below_regrown W6 d os)
      have Rb3 := fun d os => cell_on b3 (below_regrown W6 d os)
      have hW := B8
      refine wp_region_quiet_below (by kernel_rfl) (by kernel_rfl) ?_; (repeat (any_goals (go_big_quiet_step ((first | (go_at_call 11; with_reducible exact Calls.regrown_of (hCm _ (below_tr hW (below_regrown _ _ _))))))))); all_goals (refine wpQuiet_nil ?_; intro _ hw9; obtain ⟨⟨d9, os9⟩, hw8⟩ := hw9; subst hw8)
      have kq := below_regrown W6 d9 os9
      change Exit.then _ _ Exit.normal _ (Sort.grow (redrawn W6 d9) os9)
      generalize Sort.grow (redrawn W6 d9) os9 = W7 at *
      have B9 := below_tr B8 kq
      clear kq
      go_wp2_with (go_at_call 31; with_reducible refine (hPs _ B9).mono ?_)
      rintro e P1 ⟨rfl, m1⟩
      have M1 := below_tr B9 m1
      have al := (Below.refl P1.heap.size P1).alloc (Nat.le_refl _) (.cells (tC ts) 24)
      have hg := heap_alloc_new P1 (.cells (tC ts) 24)
      have M2 := Lib.hid (below_tr M1 al)
      go_upto_region 14 with fail
      change Code.wp _ _ _ _ (P1.alloc (.cells (tC ts) 24))
      generalize P1.alloc (.cells (tC ts) 24) = P2 at *
      have v0 := cells_at hg 0 rfl
      have v1 := cells_at hg 1 rfl
      have v2 := cells_at hg 2 rfl
      have v3 := cells_at hg 3 rfl
      clear hg al M1 m1
      rcases HP.out with ⟨g1, g2⟩ | ⟨g1, g2, g3⟩
      · have gne : (gs == 0) = false := by simpa using g1
        have gne2 : (gs != 0) = true := by simpa using g1
        have q := fun W => run_eqTm ts ⟨0, ⟨#[]⟩, ⟨#[]⟩, ⟨#[]⟩⟩ W
        rw [sameTm_iff.2 g2] at q
        clear g1 g2 HP hPs hShs hRs
        go_wp2
        go_ret
        exact ⟨rfl, HB0.out.trans (M2.out.mono hsz)⟩
      · subst g1
        have hS2 := fun W hb => hShs W hb g2
        rw [g3, mk_of] at hS2
        have hR2 := fun W hb => hRs W hb
        rw [(hasT_right g2).1] at hR2
        clear g2 g3 HP hPs hShs hRs
        go_wp2_with (first
          | (go_at_call 19; with_reducible refine (hS2 _ M2.out).mono ?_; rintro e P3 ⟨rfl, m3⟩; have M3 := below_tr M2.out m3; replace v0 := cell_on v0 m3; replace v1 := cell_on v1 m3; replace v2 := cell_on v2 m3; replace v3 := cell_on v3 m3)
          | (go_at_call 12; with_reducible refine (hR2 _ M3).mono ?_; rintro e P4 ⟨rfl, m4⟩))
        go_ret
        exact ⟨rfl, HB0.out.trans ((below_tr M3 m4).mono hsz)⟩
theorem lawTermBack (k1 : Int) (x1 l1 y1 : ByteArray) (k2 : Int) (x2 l2 y2 : ByteArray) (s : ByteArray) (w : World) (hX : CtxT w ∧ ErrB w) (hs1 : hugeT ⟨k1, x1, l1, y1⟩) (hs2 : hugeT ⟨k2, x2, l2, y2⟩) (hs3 : s.size ≤ 281474976710656) :
    Calls Tryz.prog 7 #[.agg #[.int .i64 k1, .string x1, .string l1, .string y1], .agg #[.int .i64 k2, .string x2, .string l2, .string y2], .string s] w fun e w' => e = .returned (.bool true) ∧ Below w.heap.size w w' :=
  back_walk ⟨k1, x1, l1, y1⟩ ⟨k2, x2, l2, y2⟩ s w hX hs1 hs2 hs3
end Go.Proofs.YtheeklkcaapkbaaGreatDoor
