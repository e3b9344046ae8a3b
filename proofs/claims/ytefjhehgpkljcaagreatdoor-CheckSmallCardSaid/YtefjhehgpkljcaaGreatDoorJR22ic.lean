/- The answer for query (ossuaryref22): part. -/
import Derived.Test.YtefjhehgpkljcaaGreatDoorJR22i
namespace Go.Proofs.YtefjhehgpkljcaaGreatDoor
open Go Go.RowKit Go.Maps Go.ChangeMaps Um Fm Mt

set_option maxRecDepth 20000 in
set_option maxHeartbeats 16000000 in
theorem r22Part10 (n : Nat) (ih : R22P n) (k : Int) (hkk : k = 10) : R22PK n k := by
    subst hkk
    rintro s t ks cs w ⟨A, c, rfl, hc1, hr⟩ ⟨z1, z2, z3, z4⟩ hN
    have hp : (preE (n + 1) (((10 : Int), s, t, ks) : ExT (n + 1))).length = (ks.flatMap (preE n)).length + 1 := by rw [preE, List.length_cons]
    rw [hp] at hN
    have hks := kids_len ks
    rw [parts_head, partK_head 10 s t ks (by omega)]
    obtain ⟨res, hres⟩ : ∃ r, headB 10 s t ks.length (kidL ks 0) (kidL ks 1) = r := ⟨_, rfl⟩
    rw [hres]
    have Hres := Lib.hid hres
    have heq : ∀ W : World, (binOp .eql 28 (.agg #[.int .i64 t.k, .string t.x, .string t.l, .string t.y]) (.agg #[.int .i64 0, .string ⟨#[]⟩, .string ⟨#[]⟩, .string ⟨#[]⟩])).run Tryz.prog W = .ok (.bool (zeroB t)) W := fun W => by
      have := run_eqTm t zTm W
      rw [sameTm_zero] at this
      exact this
    have hNm := fun W => r22Name s W (by omega)
    have hTd := fun W => r22Told t W z2
    obtain ⟨W, hW⟩ : ∃ W : World, w.alloc (.cells #[.int .i64 10, .string s, .int .i64 t.k, .string t.x, .string t.l, .string t.y, .slice A ks.length c] 31) = W := ⟨_, rfl⟩
    have hB0 : Below w.heap.size w W := by rw [← hW]; exact (by repeat (first | exact Below.refl _ _ | assumption | exact (Below.refl _ _).alloc (Nat.le_refl _) _ | refine below_tr ?_ (by assumption) | refine below_alloc ?_ | refine below_tr ?_ (below_regrown _ _ _)))
    have b0 : W.cell? ⟨w.heap.size, 0, none⟩ = some (.int .i64 10) := by rw [← hW, World.cell?, heap_alloc_new]; rfl
    have b1 : W.cell? ⟨w.heap.size, 1, none⟩ = some (.string s) := by rw [← hW, World.cell?, heap_alloc_new]; rfl
    have b2 : W.cell? ⟨w.heap.size, 2, none⟩ = some (.int .i64 t.k) := by rw [← hW, World.cell?, heap_alloc_new]; rfl
    have b3 : W.cell? ⟨w.heap.size, 3, none⟩ = some (.string t.x) := by rw [← hW, World.cell?, heap_alloc_new]; rfl
    have b4 : W.cell? ⟨w.heap.size, 4, none⟩ = some (.string t.l) := by rw [← hW, World.cell?, heap_alloc_new]; rfl
    have b5 : W.cell? ⟨w.heap.size, 5, none⟩ = some (.string t.y) := by rw [← hW, World.cell?, heap_alloc_new]; rfl
    have b6 : W.cell? ⟨w.heap.size, 6, none⟩ = some (.slice A ks.length c) := by rw [← hW, World.cell?, heap_alloc_new]; rfl
    have hk := RdEs.later hr hB0
    have HW := Lib.hid hW
    have HB0 := Lib.hid hB0
    have hkl : ks.length ≤ 39 := by omega
    generalize hbare : zeroB t = bare at *
    generalize hnam : nameB s = nam at *
    generalize htol : toldB t = tol at *
    have Hbare := Lib.hid hbare
    have Hnam := Lib.hid hnam
    have Htol := Lib.hid htol
    have HNm := Lib.hid hNm
    have HTd := Lib.hid hTd
    clear hW hr hB0 hp hres hbare hnam htol hNm hTd hks z1 z2 z3
    go_enter Tryz.func172, Tryz.ntmps172
    go_wp2_with fail
    simp only [HW.out]
    go_wp2
    go_loopw [5] (PartLp n W ks) (fun i _ => ks.length - (intOf i).toNat)
    case atStart => exact ⟨0, by omega, rfl, rfl, Below.refl _ _⟩
    case round =>
      obtain ⟨j, hj, rfl, H, hB⟩ := hrel
      clear heq
      replace b0 := cell_on b0 hB
      replace b1 := cell_on b1 hB
      replace b2 := cell_on b2 hB
      replace b3 := cell_on b3 hB
      replace b4 := cell_on b4 hB
      replace b5 := cell_on b5 hB
      replace b6 := cell_on b6 hB
      by_cases hlt : j < ks.length
      · clear b0 b1 b2 b3 b4 b5
        obtain ⟨x, hx⟩ : ∃ x, ks[j]? = some x := ⟨_, List.getElem?_eq_getElem hlt⟩
        obtain ⟨g, o, k1, s1, t1, A1, m1, e1, rfl, hR, c0, c1, c2, c3, c4, c5, c6⟩ := (RdEs.later hk hB).atv hx
        have hcall := ih x _ wr hR (z4 x (List.mem_of_getElem? hx)) (by have := kid_len (n := n) (List.mem_of_getElem? hx); omega)
        have H2 : Hid (partsB (ks.flatMap (preE n)) = (partsB (preE n x) && partsB ((ks.drop (j + 1)).flatMap (preE n)))) := by
          show _ = _
          rw [H.out, parts_kid hx]
        generalize partsB (preE n x) = q at *
        clear hx hR hk ih z4 hN H
        cases q
        · go_wp2_with (go_at_call 172; refine hcall.mono ?_; rintro e w2 ⟨rfl, hb⟩)
          go_ret
          exact ⟨by rw [H2.out]; simp, HB0.out.trans ((below_tr hB hb).mono HB0.out.size)⟩
        · go_wp2_with (go_at_call 172; refine hcall.mono ?_; rintro e w2 ⟨rfl, hb⟩)
          go_roundw
          case rel => exact ⟨j + 1, by omega, by go_num, by show _ = _; rw [H2.out, Bool.true_and], below_tr hB hb⟩
          case measure => simp [intOf]; omega
      · have hjk : j = ks.length := by omega
        subst hjk
        have Hall : Hid (partsB (ks.flatMap (preE n)) = true) := by
          show _ = _
          rw [H.out, List.drop_eq_nil_of_le (Nat.le_refl _)]; rfl
        have hkr := RdEs.later hk hB
        have hNm := HNm.out wr
        have hTd := HTd.out wr
        have HBB := Lib.hid (HB0.out.trans (hB.mono HB0.out.size))
        clear H ih z4 hk hN hB hlt hj
        generalize hm : ks.length = m at *
        have Hm := Lib.hid hm
        clear hm
        clear hNm hTd
        by_cases h0 : (m : Int) = 2
        · have h0n : m = 2 := by omega
          obtain ⟨x0, hx0⟩ : ∃ x, ks[0]? = some x := ⟨_, List.getElem?_eq_getElem (show 0 < ks.length by have := Hm.out; omega)⟩
          obtain ⟨x1, hx1⟩ : ∃ x, ks[1]? = some x := ⟨_, List.getElem?_eq_getElem (show 1 < ks.length by have := Hm.out; omega)⟩
          obtain ⟨g, o, k1, s1, t1, A1, m1, e1, rfl, hR0, c0, c1, c2, c3, c4, c5, c6⟩ := RdEs.atv hkr hx0
          obtain ⟨g2, o2, k2, s2, t2, A2, m2, e2, hg2, hR1, d0, d1, d2, d3, d4, d5, d6⟩ := RdEs.atv hkr hx1
          injection hg2 with hg2
          injection hg2 with hg2 ho2
          subst hg2 ho2
          rw [Nat.zero_mul, Nat.add_zero] at c0 c1 c2 c3 c4 c5 c6
          rw [Nat.one_mul] at d0 d1 d2 d3 d4 d5 d6
          have hL0 := fun W hb => r22LeafE n x0 _ W (hR0.later (w' := W) hb)
          have hL1 := fun W hb => r22LeafE n x1 _ W (hR1.later (w' := W) hb)
          have Hw0 : Hid (res = (leafB n x0 && leafB n x1 && s.toList.isEmpty && bare)) := by show _ = _; rw [← Hres.out]; unfold headB kidL; have e0 : (m == 2) = true := beq_iff_eq.2 h0n; rw [e0, hx0, hx1, Hbare.out]; rfl
          generalize leafB n x0 = l0 at *
          generalize leafB n x1 = l1 at *
          have hL0 := hL0 wr (Below.refl _ _)
          clear h0n hx0 hx1 hR0 hR1 hkr b2 b3 b4 b5
          have r1 := b1
          have r6 := b6
          cases l0
          · have Hw : Hid (res = false) := by show _ = _; rw [Hw0.out]; rfl
            clear hL1 Hw0
            go_wp2_with (go_at_call 195; refine hL0.mono ?_; rintro e w2 ⟨rfl, hb⟩)
            go_ret
            exact ⟨by rw [Hall.out, Hw.out]; simp, below_tr HBB.out hb⟩
          · go_wp2_with fail
            refine hL0.mono ?_
            rintro e w2 ⟨rfl, hb⟩
            replace b1 := cell_on b1 hb
            replace b6 := cell_on b6 hb
            replace d0 := cell_on d0 hb
            replace d1 := cell_on d1 hb
            replace d2 := cell_on d2 hb
            replace d3 := cell_on d3 hb
            replace d4 := cell_on d4 hb
            replace d5 := cell_on d5 hb
            replace d6 := cell_on d6 hb
            have hL1 := hL1 w2 hb
            have HB2 := Lib.hid (below_tr HBB.out hb)
            clear hL0 c0 c1 c2 c3 c4 c5 c6 hb r1 r6
            go_wp2_with fail
            refine hL1.mono ?_
            rintro e w3 ⟨rfl, hb2⟩
            replace b1 := cell_on b1 hb2
            have HB3 := Lib.hid (below_tr HB2.out hb2)
            clear hL1 d0 d1 d2 d3 d4 d5 d6 hb2 b6
            cases l1
            · have Hw : Hid (res = false) := by show _ = _; rw [Hw0.out]; rfl
              clear Hw0
              go_wp2
              go_ret
              exact ⟨by rw [Hall.out, Hw.out]; simp, HB3.out⟩
            · cases he : s.toList.isEmpty
              · have Hw : Hid (res = false) := by show _ = _; rw [Hw0.out, he]; rfl
                clear Hw0
                go_wp2
                go_ret
                exact ⟨by rw [Hall.out, Hw.out]; simp, HB3.out⟩
              · have Hw : Hid (res = bare) := by show _ = _; rw [Hw0.out, he]; rfl
                clear Hw0
                go_wp2
                go_ret
                exact ⟨by rw [Hall.out, Hw.out]; simp, HB3.out⟩
        · have Hw : Hid (res = false) := by show _ = _; rw [← Hres.out]; unfold headB; have e0 : (m == 2) = false := beq_eq_false_iff_ne.2 (by omega); rw [e0]; rfl
          clear hkr
          go_wp2
          go_ret
          exact ⟨by rw [Hall.out, Hw.out]; simp, HBB.out⟩
set_option maxRecDepth 20000 in
set_option maxHeartbeats 16000000 in
theorem r22Part11 (n : Nat) (ih : R22P n) (k : Int) (hkk : k = 11) : R22PK n k := by
    subst hkk
    rintro s t ks cs w ⟨A, c, rfl, hc1, hr⟩ ⟨z1, z2, z3, z4⟩ hN
    have hp : (preE (n + 1) (((11 : Int), s, t, ks) : ExT (n + 1))).length = (ks.flatMap (preE n)).length + 1 := by rw [preE, List.length_cons]
    rw [hp] at hN
    have hks := kids_len ks
    rw [parts_head, partK_head 11 s t ks (by omega)]
    obtain ⟨res, hres⟩ : ∃ r, headB 11 s t ks.length (kidL ks 0) (kidL ks 1) = r := ⟨_, rfl⟩
    rw [hres]
    have Hres := Lib.hid hres
    have heq : ∀ W : World, (binOp .eql 28 (.agg #[.int .i64 t.k, .string t.x, .string t.l, .string t.y]) (.agg #[.int .i64 0, .string ⟨#[]⟩, .string ⟨#[]⟩, .string ⟨#[]⟩])).run Tryz.prog W = .ok (.bool (zeroB t)) W := fun W => by
      have := run_eqTm t zTm W
      rw [sameTm_zero] at this
      exact this
    have hNm := fun W => r22Name s W (by omega)
    have hTd := fun W => r22Told t W z2
    obtain ⟨W, hW⟩ : ∃ W : World, w.alloc (.cells #[.int .i64 11, .string s, .int .i64 t.k, .string t.x, .string t.l, .string t.y, .slice A ks.length c] 31) = W := ⟨_, rfl⟩
    have hB0 : Below w.heap.size w W := by rw [← hW]; exact (by repeat (first | exact Below.refl _ _ | assumption | exact (Below.refl _ _).alloc (Nat.le_refl _) _ | refine below_tr ?_ (by assumption) | refine below_alloc ?_ | refine below_tr ?_ (below_regrown _ _ _)))
    have b0 : W.cell? ⟨w.heap.size, 0, none⟩ = some (.int .i64 11) := by rw [← hW, World.cell?, heap_alloc_new]; rfl
    have b1 : W.cell? ⟨w.heap.size, 1, none⟩ = some (.string s) := by rw [← hW, World.cell?, heap_alloc_new]; rfl
    have b2 : W.cell? ⟨w.heap.size, 2, none⟩ = some (.int .i64 t.k) := by rw [← hW, World.cell?, heap_alloc_new]; rfl
    have b3 : W.cell? ⟨w.heap.size, 3, none⟩ = some (.string t.x) := by rw [← hW, World.cell?, heap_alloc_new]; rfl
    have b4 : W.cell? ⟨w.heap.size, 4, none⟩ = some (.string t.l) := by rw [← hW, World.cell?, heap_alloc_new]; rfl
    have b5 : W.cell? ⟨w.heap.size, 5, none⟩ = some (.string t.y) := by rw [← hW, World.cell?, heap_alloc_new]; rfl
    have b6 : W.cell? ⟨w.heap.size, 6, none⟩ = some (.slice A ks.length c) := by rw [← hW, World.cell?, heap_alloc_new]; rfl
    have hk := RdEs.later hr hB0
    have HW := Lib.hid hW
    have HB0 := Lib.hid hB0
    have hkl : ks.length ≤ 39 := by omega
    generalize hbare : zeroB t = bare at *
    generalize hnam : nameB s = nam at *
    generalize htol : toldB t = tol at *
    have Hbare := Lib.hid hbare
    have Hnam := Lib.hid hnam
    have Htol := Lib.hid htol
    have HNm := Lib.hid hNm
    have HTd := Lib.hid hTd
    clear hW hr hB0 hp hres hbare hnam htol hNm hTd hks z1 z2 z3
    go_enter Tryz.func172, Tryz.ntmps172
    go_wp2_with fail
    simp only [HW.out]
    go_wp2
    go_loopw [5] (PartLp n W ks) (fun i _ => ks.length - (intOf i).toNat)
    case atStart => exact ⟨0, by omega, rfl, rfl, Below.refl _ _⟩
    case round =>
      obtain ⟨j, hj, rfl, H, hB⟩ := hrel
      clear heq
      replace b0 := cell_on b0 hB
      replace b1 := cell_on b1 hB
      replace b2 := cell_on b2 hB
      replace b3 := cell_on b3 hB
      replace b4 := cell_on b4 hB
      replace b5 := cell_on b5 hB
      replace b6 := cell_on b6 hB
      by_cases hlt : j < ks.length
      · clear b0 b1 b2 b3 b4 b5
        obtain ⟨x, hx⟩ : ∃ x, ks[j]? = some x := ⟨_, List.getElem?_eq_getElem hlt⟩
        obtain ⟨g, o, k1, s1, t1, A1, m1, e1, rfl, hR, c0, c1, c2, c3, c4, c5, c6⟩ := (RdEs.later hk hB).atv hx
        have hcall := ih x _ wr hR (z4 x (List.mem_of_getElem? hx)) (by have := kid_len (n := n) (List.mem_of_getElem? hx); omega)
        have H2 : Hid (partsB (ks.flatMap (preE n)) = (partsB (preE n x) && partsB ((ks.drop (j + 1)).flatMap (preE n)))) := by
          show _ = _
          rw [H.out, parts_kid hx]
        generalize partsB (preE n x) = q at *
        clear hx hR hk ih z4 hN H
        cases q
        · go_wp2_with (go_at_call 172; refine hcall.mono ?_; rintro e w2 ⟨rfl, hb⟩)
          go_ret
          exact ⟨by rw [H2.out]; simp, HB0.out.trans ((below_tr hB hb).mono HB0.out.size)⟩
        · go_wp2_with (go_at_call 172; refine hcall.mono ?_; rintro e w2 ⟨rfl, hb⟩)
          go_roundw
          case rel => exact ⟨j + 1, by omega, by go_num, by show _ = _; rw [H2.out, Bool.true_and], below_tr hB hb⟩
          case measure => simp [intOf]; omega
      · have hjk : j = ks.length := by omega
        subst hjk
        have Hall : Hid (partsB (ks.flatMap (preE n)) = true) := by
          show _ = _
          rw [H.out, List.drop_eq_nil_of_le (Nat.le_refl _)]; rfl
        have hkr := RdEs.later hk hB
        have hNm := HNm.out wr
        have hTd := HTd.out wr
        have HBB := Lib.hid (HB0.out.trans (hB.mono HB0.out.size))
        clear H ih z4 hk hN hB hlt hj
        generalize hm : ks.length = m at *
        have Hm := Lib.hid hm
        clear hm
        clear hNm hTd
        by_cases h0 : (m : Int) = 2
        · have h0n : m = 2 := by omega
          obtain ⟨x0, hx0⟩ : ∃ x, ks[0]? = some x := ⟨_, List.getElem?_eq_getElem (show 0 < ks.length by have := Hm.out; omega)⟩
          obtain ⟨x1, hx1⟩ : ∃ x, ks[1]? = some x := ⟨_, List.getElem?_eq_getElem (show 1 < ks.length by have := Hm.out; omega)⟩
          obtain ⟨g, o, k1, s1, t1, A1, m1, e1, rfl, hR0, c0, c1, c2, c3, c4, c5, c6⟩ := RdEs.atv hkr hx0
          obtain ⟨g2, o2, k2, s2, t2, A2, m2, e2, hg2, hR1, d0, d1, d2, d3, d4, d5, d6⟩ := RdEs.atv hkr hx1
          injection hg2 with hg2
          injection hg2 with hg2 ho2
          subst hg2 ho2
          rw [Nat.zero_mul, Nat.add_zero] at c0 c1 c2 c3 c4 c5 c6
          rw [Nat.one_mul] at d0 d1 d2 d3 d4 d5 d6
          have hL0 := fun W hb => r22LeafE n x0 _ W (hR0.later (w' := W) hb)
          have hL1 := fun W hb => r22LeafE n x1 _ W (hR1.later (w' := W) hb)
          have Hw0 : Hid (res = (leafB n x0 && leafB n x1 && s.toList.isEmpty && bare)) := by show _ = _; rw [← Hres.out]; unfold headB kidL; have e0 : (m == 2) = true := beq_iff_eq.2 h0n; rw [e0, hx0, hx1, Hbare.out]; rfl
          generalize leafB n x0 = l0 at *
          generalize leafB n x1 = l1 at *
          have hL0 := hL0 wr (Below.refl _ _)
          clear h0n hx0 hx1 hR0 hR1 hkr b2 b3 b4 b5
          have r1 := b1
          have r6 := b6
          cases l0
          · have Hw : Hid (res = false) := by show _ = _; rw [Hw0.out]; rfl
            clear hL1 Hw0
            go_wp2_with (go_at_call 195; refine hL0.mono ?_; rintro e w2 ⟨rfl, hb⟩)
            go_ret
            exact ⟨by rw [Hall.out, Hw.out]; simp, below_tr HBB.out hb⟩
          · go_wp2_with fail
            refine hL0.mono ?_
            rintro e w2 ⟨rfl, hb⟩
            replace b1 := cell_on b1 hb
            replace b6 := cell_on b6 hb
            replace d0 := cell_on d0 hb
            replace d1 := cell_on d1 hb
            replace d2 := cell_on d2 hb
            replace d3 := cell_on d3 hb
            replace d4 := cell_on d4 hb
            replace d5 := cell_on d5 hb
            replace d6 := cell_on d6 hb
            have hL1 := hL1 w2 hb
            have HB2 := Lib.hid (below_tr HBB.out hb)
            clear hL0 c0 c1 c2 c3 c4 c5 c6 hb r1 r6
            go_wp2_with fail
            refine hL1.mono ?_
            rintro e w3 ⟨rfl, hb2⟩
            replace b1 := cell_on b1 hb2
            have HB3 := Lib.hid (below_tr HB2.out hb2)
            clear hL1 d0 d1 d2 d3 d4 d5 d6 hb2 b6
            cases l1
            · have Hw : Hid (res = false) := by show _ = _; rw [Hw0.out]; rfl
              clear Hw0
              go_wp2
              go_ret
              exact ⟨by rw [Hall.out, Hw.out]; simp, HB3.out⟩
            · cases he : s.toList.isEmpty
              · have Hw : Hid (res = false) := by show _ = _; rw [Hw0.out, he]; rfl
                clear Hw0
                go_wp2
                go_ret
                exact ⟨by rw [Hall.out, Hw.out]; simp, HB3.out⟩
              · have Hw : Hid (res = bare) := by show _ = _; rw [Hw0.out, he]; rfl
                clear Hw0
                go_wp2
                go_ret
                exact ⟨by rw [Hall.out, Hw.out]; simp, HB3.out⟩
        · have Hw : Hid (res = false) := by show _ = _; rw [← Hres.out]; unfold headB; have e0 : (m == 2) = false := beq_eq_false_iff_ne.2 (by omega); rw [e0]; rfl
          clear hkr
          go_wp2
          go_ret
          exact ⟨by rw [Hall.out, Hw.out]; simp, HBB.out⟩
end Go.Proofs.YtefjhehgpkljcaaGreatDoor
