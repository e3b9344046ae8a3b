/- The answer for query (ossuaryref22): part. The answer for query (ossuaryref22): part, Expr. -/
import Derived.Test.YtefjhehgpkljcaaGreatDoorJR22i
import Derived.Test.YtefjhehgpkljcaaGreatDoorJR22ib
import Derived.Test.YtefjhehgpkljcaaGreatDoorJR22ic
namespace Go.Proofs.YtefjhehgpkljcaaGreatDoor
open Go Go.RowKit Go.Maps Go.ChangeMaps Um Fm Mt

set_option maxRecDepth 20000 in
set_option maxHeartbeats 16000000 in
theorem r22Part12 (n : Nat) (ih : R22P n) (k : Int) (hkk : k = 12) : R22PK n k := by
    subst hkk
    rintro s t ks cs w ⟨A, c, rfl, hc1, hr⟩ ⟨z1, z2, z3, z4⟩ hN
    have hp : (preE (n + 1) (((12 : Int), s, t, ks) : ExT (n + 1))).length = (ks.flatMap (preE n)).length + 1 := by rw [preE, List.length_cons]
    rw [hp] at hN
    have hks := kids_len ks
    rw [parts_head, partK_head 12 s t ks (by omega)]
    obtain ⟨res, hres⟩ : ∃ r, headB 12 s t ks.length (kidL ks 0) (kidL ks 1) = r := ⟨_, rfl⟩
    rw [hres]
    have Hres := Lib.hid hres
    have heq : ∀ W : World, (binOp .eql 28 (.agg #[.int .i64 t.k, .string t.x, .string t.l, .string t.y]) (.agg #[.int .i64 0, .string ⟨#[]⟩, .string ⟨#[]⟩, .string ⟨#[]⟩])).run Tryz.prog W = .ok (.bool (zeroB t)) W := fun W => by
      have := run_eqTm t zTm W
      rw [sameTm_zero] at this
      exact this
    have hNm := fun W => r22Name s W (by omega)
    have hTd := fun W => r22Told t W z2
    obtain ⟨W, hW⟩ : ∃ W : World, w.alloc (.cells #[.int .i64 12, .string s, .int .i64 t.k, .string t.x, .string t.l, .string t.y, .slice A ks.length c] 31) = W := ⟨_, rfl⟩
    have hB0 : Below w.heap.size w W := by rw [← hW]; exact (by repeat (first | exact Below.refl _ _ | assumption | exact (Below.refl _ _).alloc (Nat.le_refl _) _ | refine below_tr ?_ (by assumption) | refine below_alloc ?_ | refine below_tr ?_ (below_regrown _ _ _)))
    have b0 : W.cell? ⟨w.heap.size, 0, none⟩ = some (.int .i64 12) := by rw [← hW, World.cell?, heap_alloc_new]; rfl
    have b1 : W.cell? ⟨w.heap.size, 1, none⟩ = some (.string s) := by rw [← hW, World.cell?, heap_alloc_new]; rfl
    have b2 : W.cell? ⟨w.heap.size, 2, none⟩ = some (.int .i64 t.k) := by rw [← hW, World.cell?, heap_alloc_new]; rfl
    have b3 : W.cell? ⟨w.heap.size, 3, none⟩ = some (.string t.x) := by rw [← hW, World.cell?, heap_alloc_new]; rfl
    have b4 : W.cell? ⟨w.heap.size, 4, none⟩ = some (.string t.l) := by rw [← hW, World.cell?, heap_alloc_new]; rfl
    have b5 : W.cell? ⟨w.heap.size, 5, none⟩ = some (.string t.y) := by rw [← hW, World.cell?, heap_alloc_new]; rfl
    have b6 : W.cell? ⟨w.heap.size, 6, none⟩ = some (.slice A ks.length c) := by rw [← hW, World.cell?, heap_alloc_new]; rfl
    have hk := RdEs.later hr hB0
    have HW := Lib.hid hW
    have HB0 := Lib.hid hB0
    have hkl : ks.length ≤ 39 := by omega
    generalize hbare : zeroB t = bare at *
    generalize hnam : nameB s = nam at *
    generalize htol : toldB t = tol at *
    have Hbare := Lib.hid hbare
    have Hnam := Lib.hid hnam
    have Htol := Lib.hid htol
    have HNm := Lib.hid hNm
    have HTd := Lib.hid hTd
    clear hW hr hB0 hp hres hbare hnam htol hNm hTd hks z1 z2 z3
    go_enter Tryz.func172, Tryz.ntmps172
    go_wp2_with fail
    simp only [HW.out]
    go_wp2
    go_loopw [5] (PartLp n W ks) (fun i _ => ks.length - (intOf i).toNat)
    case atStart => exact ⟨0, by omega, rfl, rfl, Below.refl _ _⟩
    case round =>
      obtain ⟨j, hj, rfl, H, hB⟩ := hrel
      clear heq
      replace b0 := cell_on b0 hB
      replace b1 := cell_on b1 hB
      replace b2 := cell_on b2 hB
      replace b3 := cell_on b3 hB
      replace b4 := cell_on b4 hB
      replace b5 := cell_on b5 hB
      replace b6 := cell_on b6 hB
      by_cases hlt : j < ks.length
      · clear b0 b1 b2 b3 b4 b5
        obtain ⟨x, hx⟩ : ∃ x, ks[j]? = some x := ⟨_, List.getElem?_eq_getElem hlt⟩
        obtain ⟨g, o, k1, s1, t1, A1, m1, e1, rfl, hR, c0, c1, c2, c3, c4, c5, c6⟩ := (RdEs.later hk hB).atv hx
        have hcall := ih x _ wr hR (z4 x (List.mem_of_getElem? hx)) (by have := kid_len (n := n) (List.mem_of_getElem? hx); omega)
        have H2 : Hid (partsB (ks.flatMap (preE n)) = (partsB (preE n x) && partsB ((ks.drop (j + 1)).flatMap (preE n)))) := by
          show _ = _
          rw [H.out, parts_kid hx]
        generalize partsB (preE n x) = q at *
        clear hx hR hk ih z4 hN H
        cases q
        · go_wp2_with (go_at_call 172; refine hcall.mono ?_; rintro e w2 ⟨rfl, hb⟩)
          go_ret
          exact ⟨by rw [H2.out]; simp, HB0.out.trans ((below_tr hB hb).mono HB0.out.size)⟩
        · go_wp2_with (go_at_call 172; refine hcall.mono ?_; rintro e w2 ⟨rfl, hb⟩)
          go_roundw
          case rel => exact ⟨j + 1, by omega, by go_num, by show _ = _; rw [H2.out, Bool.true_and], below_tr hB hb⟩
          case measure => simp [intOf]; omega
      · have hjk : j = ks.length := by omega
        subst hjk
        have Hall : Hid (partsB (ks.flatMap (preE n)) = true) := by
          show _ = _
          rw [H.out, List.drop_eq_nil_of_le (Nat.le_refl _)]; rfl
        have hkr := RdEs.later hk hB
        have hNm := HNm.out wr
        have hTd := HTd.out wr
        have HBB := Lib.hid (HB0.out.trans (hB.mono HB0.out.size))
        clear H ih z4 hk hN hB hlt hj
        generalize hm : ks.length = m at *
        have Hm := Lib.hid hm
        clear hm
        clear hNm hTd
        by_cases h0 : (m : Int) = 1
        · have h0n : m = 1 := by omega
          obtain ⟨x0, hx0⟩ : ∃ x, ks[0]? = some x := ⟨_, List.getElem?_eq_getElem (show 0 < ks.length by have := Hm.out; omega)⟩
          obtain ⟨g, o, k1, s1, t1, A1, m1, e1, rfl, hR0, c0, c1, c2, c3, c4, c5, c6⟩ := RdEs.atv hkr hx0
          rw [Nat.zero_mul, Nat.add_zero] at c0 c1 c2 c3 c4 c5 c6
          have hL0 := r22LeafE n x0 _ wr hR0
          have Hw0 : Hid (res = (leafB n x0 && s.toList.isEmpty && bare)) := by show _ = _; rw [← Hres.out]; unfold headB kidL; have e0 : (m == 1) = true := beq_iff_eq.2 h0n; rw [e0, hx0, Hbare.out]; rfl
          generalize leafB n x0 = l0 at *
          clear h0n hx0 hR0 hkr b2 b3 b4 b5
          go_wp2_with fail
          refine hL0.mono ?_
          rintro e w2 ⟨rfl, hb⟩
          replace b1 := cell_on b1 hb
          have HB2 := Lib.hid (below_tr HBB.out hb)
          clear hL0 c0 c1 c2 c3 c4 c5 c6 hb b6
          cases l0
          · have Hw : Hid (res = false) := by show _ = _; rw [Hw0.out]; rfl
            clear Hw0
            go_wp2
            go_ret
            exact ⟨by rw [Hall.out, Hw.out]; simp, HB2.out⟩
          · cases he : s.toList.isEmpty
            · have Hw : Hid (res = false) := by show _ = _; rw [Hw0.out, he]; rfl
              clear Hw0
              go_wp2
              go_ret
              exact ⟨by rw [Hall.out, Hw.out]; simp, HB2.out⟩
            · have Hw : Hid (res = bare) := by show _ = _; rw [Hw0.out, he]; rfl
              clear Hw0
              go_wp2
              go_ret
              exact ⟨by rw [Hall.out, Hw.out]; simp, HB2.out⟩
        · have Hw : Hid (res = false) := by show _ = _; rw [← Hres.out]; unfold headB; have e0 : (m == 1) = false := beq_eq_false_iff_ne.2 (by omega); rw [e0]; rfl
          clear hkr
          go_wp2
          go_ret
          exact ⟨by rw [Hall.out, Hw.out]; simp, HBB.out⟩
set_option maxRecDepth 20000 in
set_option maxHeartbeats 16000000 in
theorem r22Part13 (n : Nat) (ih : R22P n) (k : Int) (hkk : k = 13) : R22PK n k := by
    subst hkk
    rintro s t ks cs w ⟨A, c, rfl, hc1, hr⟩ ⟨z1, z2, z3, z4⟩ hN
    have hp : (preE (n + 1) (((13 : Int), s, t, ks) : ExT (n + 1))).length = (ks.flatMap (preE n)).length + 1 := by rw [preE, List.length_cons]
    rw [hp] at hN
    have hks := kids_len ks
    rw [parts_head, partK_head 13 s t ks (by omega)]
    obtain ⟨res, hres⟩ : ∃ r, headB 13 s t ks.length (kidL ks 0) (kidL ks 1) = r := ⟨_, rfl⟩
    rw [hres]
    have Hres := Lib.hid hres
    have heq : ∀ W : World, (binOp .eql 28 (.agg #[.int .i64 t.k, .string t.x, .string t.l, .string t.y]) (.agg #[.int .i64 0, .string ⟨#[]⟩, .string ⟨#[]⟩, .string ⟨#[]⟩])).run Tryz.prog W = .ok (.bool (zeroB t)) W := fun W => by
      have := run_eqTm t zTm W
      rw [sameTm_zero] at this
      exact this
    have hNm := fun W => r22Name s W (by omega)
    have hTd := fun W => r22Told t W z2
    obtain ⟨W, hW⟩ : ∃ W : World, w.alloc (.cells #[.int .i64 13, .string s, .int .i64 t.k, .string t.x, .string t.l, .string t.y, .slice A ks.length c] 31) = W := ⟨_, rfl⟩
    have hB0 : Below w.heap.size w W := by rw [← hW]; exact (by repeat (first | exact Below.refl _ _ | assumption | exact (Below.refl _ _).alloc (Nat.le_refl _) _ | refine below_tr ?_ (by assumption) | refine below_alloc ?_ | refine below_tr ?_ (below_regrown _ _ _)))
    have b0 : W.cell? ⟨w.heap.size, 0, none⟩ = some (.int .i64 13) := by rw [← hW, World.cell?, heap_alloc_new]; rfl
    have b1 : W.cell? ⟨w.heap.size, 1, none⟩ = some (.string s) := by rw [← hW, World.cell?, heap_alloc_new]; rfl
    have b2 : W.cell? ⟨w.heap.size, 2, none⟩ = some (.int .i64 t.k) := by rw [← hW, World.cell?, heap_alloc_new]; rfl
    have b3 : W.cell? ⟨w.heap.size, 3, none⟩ = some (.string t.x) := by rw [← hW, World.cell?, heap_alloc_new]; rfl
    have b4 : W.cell? ⟨w.heap.size, 4, none⟩ = some (.string t.l) := by rw [← hW, World.cell?, heap_alloc_new]; rfl
    have b5 : W.cell? ⟨w.heap.size, 5, none⟩ = some (.string t.y) := by rw [← hW, World.cell?, heap_alloc_new]; rfl
    have b6 : W.cell? ⟨w.heap.size, 6, none⟩ = some (.slice A ks.length c) := by rw [← hW, World.cell?, heap_alloc_new]; rfl
    have hk := RdEs.later hr hB0
    have HW := Lib.hid hW
    have HB0 := Lib.hid hB0
    have hkl : ks.length ≤ 39 := by omega
    generalize hbare : zeroB t = bare at *
    generalize hnam : nameB s = nam at *
    generalize htol : toldB t = tol at *
    have Hbare := Lib.hid hbare
    have Hnam := Lib.hid hnam
    have Htol := Lib.hid htol
    have HNm := Lib.hid hNm
    have HTd := Lib.hid hTd
    clear hW hr hB0 hp hres hbare hnam htol hNm hTd hks z1 z2 z3
    go_enter Tryz.func172, Tryz.ntmps172
    go_wp2_with fail
    simp only [HW.out]
    go_wp2
    go_loopw [5] (PartLp n W ks) (fun i _ => ks.length - (intOf i).toNat)
    case atStart => exact ⟨0, by omega, rfl, rfl, Below.refl _ _⟩
    case round =>
      obtain ⟨j, hj, rfl, H, hB⟩ := hrel
      clear heq
      replace b0 := cell_on b0 hB
      replace b1 := cell_on b1 hB
      replace b2 := cell_on b2 hB
      replace b3 := cell_on b3 hB
      replace b4 := cell_on b4 hB
      replace b5 := cell_on b5 hB
      replace b6 := cell_on b6 hB
      by_cases hlt : j < ks.length
      · clear b0 b1 b2 b3 b4 b5
        obtain ⟨x, hx⟩ : ∃ x, ks[j]? = some x := ⟨_, List.getElem?_eq_getElem hlt⟩
        obtain ⟨g, o, k1, s1, t1, A1, m1, e1, rfl, hR, c0, c1, c2, c3, c4, c5, c6⟩ := (RdEs.later hk hB).atv hx
        have hcall := ih x _ wr hR (z4 x (List.mem_of_getElem? hx)) (by have := kid_len (n := n) (List.mem_of_getElem? hx); omega)
        have H2 : Hid (partsB (ks.flatMap (preE n)) = (partsB (preE n x) && partsB ((ks.drop (j + 1)).flatMap (preE n)))) := by
          show _ = _
          rw [H.out, parts_kid hx]
        generalize partsB (preE n x) = q at *
        clear hx hR hk ih z4 hN H
        cases q
        · go_wp2_with (go_at_call 172; refine hcall.mono ?_; rintro e w2 ⟨rfl, hb⟩)
          go_ret
          exact ⟨by rw [H2.out]; simp, HB0.out.trans ((below_tr hB hb).mono HB0.out.size)⟩
        · go_wp2_with (go_at_call 172; refine hcall.mono ?_; rintro e w2 ⟨rfl, hb⟩)
          go_roundw
          case rel => exact ⟨j + 1, by omega, by go_num, by show _ = _; rw [H2.out, Bool.true_and], below_tr hB hb⟩
          case measure => simp [intOf]; omega
      · have hjk : j = ks.length := by omega
        subst hjk
        have Hall : Hid (partsB (ks.flatMap (preE n)) = true) := by
          show _ = _
          rw [H.out, List.drop_eq_nil_of_le (Nat.le_refl _)]; rfl
        have hkr := RdEs.later hk hB
        have hNm := HNm.out wr
        have hTd := HTd.out wr
        have HBB := Lib.hid (HB0.out.trans (hB.mono HB0.out.size))
        clear H ih z4 hk hN hB hlt hj
        generalize hm : ks.length = m at *
        have Hm := Lib.hid hm
        clear hm
        clear hNm hTd
        by_cases h0 : (m : Int) = 1
        · have h0n : m = 1 := by omega
          obtain ⟨x0, hx0⟩ : ∃ x, ks[0]? = some x := ⟨_, List.getElem?_eq_getElem (show 0 < ks.length by have := Hm.out; omega)⟩
          obtain ⟨g, o, k1, s1, t1, A1, m1, e1, rfl, hR0, c0, c1, c2, c3, c4, c5, c6⟩ := RdEs.atv hkr hx0
          rw [Nat.zero_mul, Nat.add_zero] at c0 c1 c2 c3 c4 c5 c6
          have hL0 := r22LeafE n x0 _ wr hR0
          have Hw0 : Hid (res = (leafB n x0 && s.toList.isEmpty && bare)) := by show _ = _; rw [← Hres.out]; unfold headB kidL; have e0 : (m == 1) = true := beq_iff_eq.2 h0n; rw [e0, hx0, Hbare.out]; rfl
          generalize leafB n x0 = l0 at *
          clear h0n hx0 hR0 hkr b2 b3 b4 b5
          go_wp2_with fail
          refine hL0.mono ?_
          rintro e w2 ⟨rfl, hb⟩
          replace b1 := cell_on b1 hb
          have HB2 := Lib.hid (below_tr HBB.out hb)
          clear hL0 c0 c1 c2 c3 c4 c5 c6 hb b6
          cases l0
          · have Hw : Hid (res = false) := by show _ = _; rw [Hw0.out]; rfl
            clear Hw0
            go_wp2
            go_ret
            exact ⟨by rw [Hall.out, Hw.out]; simp, HB2.out⟩
          · cases he : s.toList.isEmpty
            · have Hw : Hid (res = false) := by show _ = _; rw [Hw0.out, he]; rfl
              clear Hw0
              go_wp2
              go_ret
              exact ⟨by rw [Hall.out, Hw.out]; simp, HB2.out⟩
            · have Hw : Hid (res = bare) := by show _ = _; rw [Hw0.out, he]; rfl
              clear Hw0
              go_wp2
              go_ret
              exact ⟨by rw [Hall.out, Hw.out]; simp, HB2.out⟩
        · have Hw : Hid (res = false) := by show _ = _; rw [← Hres.out]; unfold headB; have e0 : (m == 1) = false := beq_eq_false_iff_ne.2 (by omega); rw [e0]; rfl
          clear hkr
          go_wp2
          go_ret
          exact ⟨by rw [Hall.out, Hw.out]; simp, HBB.out⟩
set_option maxRecDepth 20000 in
set_option maxHeartbeats 16000000 in
theorem r22Part14 (n : Nat) (ih : R22P n) (k : Int) (hkk : k = 14) : R22PK n k := by
    subst hkk
    rintro s t ks cs w ⟨A, c, rfl, hc1, hr⟩ ⟨z1, z2, z3, z4⟩ hN
    have hp : (preE (n + 1) (((14 : Int), s, t, ks) : ExT (n + 1))).length = (ks.flatMap (preE n)).length + 1 := by rw [preE, List.length_cons]
    rw [hp] at hN
    have hks := kids_len ks
    rw [parts_head, partK_head 14 s t ks (by omega)]
    obtain ⟨res, hres⟩ : ∃ r, headB 14 s t ks.length (kidL ks 0) (kidL ks 1) = r := ⟨_, rfl⟩
    rw [hres]
    have Hres := Lib.hid hres
    have heq : ∀ W : World, (binOp .eql 28 (.agg #[.int .i64 t.k, .string t.x, .string t.l, .string t.y]) (.agg #[.int .i64 0, .string ⟨#[]⟩, .string ⟨#[]⟩, .string ⟨#[]⟩])).run Tryz.prog W = .ok (.bool (zeroB t)) W := fun W => by
      have := run_eqTm t zTm W
      rw [sameTm_zero] at this
      exact this
    have hNm := fun W => r22Name s W (by omega)
    have hTd := fun W => r22Told t W z2
    obtain ⟨W, hW⟩ : ∃ W : World, w.alloc (.cells #[.int .i64 14, .string s, .int .i64 t.k, .string t.x, .string t.l, .string t.y, .slice A ks.length c] 31) = W := ⟨_, rfl⟩
    have hB0 : Below w.heap.size w W := by rw [← hW]; exact (by repeat (first | exact Below.refl _ _ | assumption | exact (Below.refl _ _).alloc (Nat.le_refl _) _ | refine below_tr ?_ (by assumption) | refine below_alloc ?_ | refine below_tr ?_ (below_regrown _ _ _)))
    have b0 : W.cell? ⟨w.heap.size, 0, none⟩ = some (.int .i64 14) := by rw [← hW, World.cell?, heap_alloc_new]; rfl
    have b1 : W.cell? ⟨w.heap.size, 1, none⟩ = some (.string s) := by rw [← hW, World.cell?, heap_alloc_new]; rfl
    have b2 : W.cell? ⟨w.heap.size, 2, none⟩ = some (.int .i64 t.k) := by rw [← hW, World.cell?, heap_alloc_new]; rfl
    have b3 : W.cell? ⟨w.heap.size, 3, none⟩ = some (.string t.x) := by rw [← hW, World.cell?, heap_alloc_new]; rfl
    have b4 : W.cell? ⟨w.heap.size, 4, none⟩ = some (.string t.l) := by rw [← hW, World.cell?, heap_alloc_new]; rfl
    have b5 : W.cell? ⟨w.heap.size, 5, none⟩ = some (.string t.y) := by rw [← hW, World.cell?, heap_alloc_new]; rfl
    have b6 : W.cell? ⟨w.heap.size, 6, none⟩ = some (.slice A ks.length c) := by rw [← hW, World.cell?, heap_alloc_new]; rfl
    have hk := RdEs.later hr hB0
    have HW := Lib.hid hW
    have HB0 := Lib.hid hB0
    have hkl : ks.length ≤ 39 := by omega
    generalize hbare : zeroB t = bare at *
    generalize hnam : nameB s = nam at *
    generalize htol : toldB t = tol at *
    have Hbare := Lib.hid hbare
    have Hnam := Lib.hid hnam
    have Htol := Lib.hid htol
    have HNm := Lib.hid hNm
    have HTd := Lib.hid hTd
    clear hW hr hB0 hp hres hbare hnam htol hNm hTd hks z1 z2 z3
    go_enter Tryz.func172, Tryz.ntmps172
    go_wp2_with fail
    simp only [HW.out]
    go_wp2
    go_loopw [5] (PartLp n W ks) (fun i _ => ks.length - (intOf i).toNat)
    case atStart => exact ⟨0, by omega, rfl, rfl, Below.refl _ _⟩
    case round =>
      obtain ⟨j, hj, rfl, H, hB⟩ := hrel
      clear heq
      replace b0 := cell_on b0 hB
      replace b1 := cell_on b1 hB
      replace b2 := cell_on b2 hB
      replace b3 := cell_on b3 hB
      replace b4 := cell_on b4 hB
      replace b5 := cell_on b5 hB
      replace b6 := cell_on b6 hB
      by_cases hlt : j < ks.length
      · clear b0 b1 b2 b3 b4 b5
        obtain ⟨x, hx⟩ : ∃ x, ks[j]? = some x := ⟨_, List.getElem?_eq_getElem hlt⟩
        obtain ⟨g, o, k1, s1, t1, A1, m1, e1, rfl, hR, c0, c1, c2, c3, c4, c5, c6⟩ := (RdEs.later hk hB).atv hx
        have hcall := ih x _ wr hR (z4 x (List.mem_of_getElem? hx)) (by have := kid_len (n := n) (List.mem_of_getElem? hx); omega)
        have H2 : Hid (partsB (ks.flatMap (preE n)) = (partsB (preE n x) && partsB ((ks.drop (j + 1)).flatMap (preE n)))) := by
          show _ = _
          rw [H.out, parts_kid hx]
        generalize partsB (preE n x) = q at *
        clear hx hR hk ih z4 hN H
        cases q
        · go_wp2_with (go_at_call 172; refine hcall.mono ?_; rintro e w2 ⟨rfl, hb⟩)
          go_ret
          exact ⟨by rw [H2.out]; simp, HB0.out.trans ((below_tr hB hb).mono HB0.out.size)⟩
        · go_wp2_with (go_at_call 172; refine hcall.mono ?_; rintro e w2 ⟨rfl, hb⟩)
          go_roundw
          case rel => exact ⟨j + 1, by omega, by go_num, by show _ = _; rw [H2.out, Bool.true_and], below_tr hB hb⟩
          case measure => simp [intOf]; omega
      · have hjk : j = ks.length := by omega
        subst hjk
        have Hall : Hid (partsB (ks.flatMap (preE n)) = true) := by
          show _ = _
          rw [H.out, List.drop_eq_nil_of_le (Nat.le_refl _)]; rfl
        have hkr := RdEs.later hk hB
        have hNm := HNm.out wr
        have hTd := HTd.out wr
        have HBB := Lib.hid (HB0.out.trans (hB.mono HB0.out.size))
        clear H ih z4 hk hN hB hlt hj
        generalize hm : ks.length = m at *
        have Hm := Lib.hid hm
        clear hm
        clear hNm hTd
        by_cases h0 : (m : Int) = 1
        · have h0n : m = 1 := by omega
          obtain ⟨x0, hx0⟩ : ∃ x, ks[0]? = some x := ⟨_, List.getElem?_eq_getElem (show 0 < ks.length by have := Hm.out; omega)⟩
          obtain ⟨g, o, k1, s1, t1, A1, m1, e1, rfl, hR0, c0, c1, c2, c3, c4, c5, c6⟩ := RdEs.atv hkr hx0
          rw [Nat.zero_mul, Nat.add_zero] at c0 c1 c2 c3 c4 c5 c6
          have hL0 := r22LeafE n x0 _ wr hR0
          have Hw0 : Hid (res = (leafB n x0 && s.toList.isEmpty && bare)) := by show _ = _; rw [← Hres.out]; unfold headB kidL; have e0 : (m == 1) = true := beq_iff_eq.2 h0n; rw [e0, hx0, Hbare.out]; rfl
          generalize leafB n x0 = l0 at *
          clear h0n hx0 hR0 hkr b2 b3 b4 b5
          go_wp2_with fail
          refine hL0.mono ?_
          rintro e w2 ⟨rfl, hb⟩
          replace b1 := cell_on b1 hb
          have HB2 := Lib.hid (below_tr HBB.out hb)
          clear hL0 c0 c1 c2 c3 c4 c5 c6 hb b6
          cases l0
          · have Hw : Hid (res = false) := by show _ = _; rw [Hw0.out]; rfl
            clear Hw0
            go_wp2
            go_ret
            exact ⟨by rw [Hall.out, Hw.out]; simp, HB2.out⟩
          · cases he : s.toList.isEmpty
            · have Hw : Hid (res = false) := by show _ = _; rw [Hw0.out, he]; rfl
              clear Hw0
              go_wp2
              go_ret
              exact ⟨by rw [Hall.out, Hw.out]; simp, HB2.out⟩
            · have Hw : Hid (res = bare) := by show _ = _; rw [Hw0.out, he]; rfl
              clear Hw0
              go_wp2
              go_ret
              exact ⟨by rw [Hall.out, Hw.out]; simp, HB2.out⟩
        · have Hw : Hid (res = false) := by show _ = _; rw [← Hres.out]; unfold headB; have e0 : (m == 1) = false := beq_eq_false_iff_ne.2 (by omega); rw [e0]; rfl
          clear hkr
          go_wp2
          go_ret
          exact ⟨by rw [Hall.out, Hw.out]; simp, HBB.out⟩
end Go.Proofs.YtefjhehgpkljcaaGreatDoor
namespace Go.Proofs.YtefjhehgpkljcaaGreatDoor
open Go Go.RowKit Go.Maps Go.ChangeMaps Um Fm Mt

theorem r22Part : ∀ n : Nat, R22P n
  | 0 => fun x _ _ h _ _ => h.elim
  | n + 1 => by
    have ih := r22Part n
    rintro ⟨k, s, t, ks⟩ cs w hr hz hN
    by_cases h : k < 1 ∨ 14 < k
    · exact r22Part0 n ih k h s t ks cs w hr hz hN
    have hk : k = 1 ∨ k = 2 ∨ k = 3 ∨ k = 4 ∨ k = 5 ∨ k = 6 ∨ k = 7 ∨ k = 8 ∨ k = 9 ∨ k = 10 ∨ k = 11 ∨ k = 12 ∨ k = 13 ∨ k = 14 := by omega
    rcases hk with h | h | h | h | h | h | h | h | h | h | h | h | h | h
    · exact r22Part1 n ih k h s t ks cs w hr hz hN
    · exact r22Part2 n ih k h s t ks cs w hr hz hN
    · exact r22Part3 n ih k h s t ks cs w hr hz hN
    · exact r22Part4 n ih k h s t ks cs w hr hz hN
    · exact r22Part5 n ih k h s t ks cs w hr hz hN
    · exact r22Part6 n ih k h s t ks cs w hr hz hN
    · exact r22Part7 n ih k h s t ks cs w hr hz hN
    · exact r22Part8 n ih k h s t ks cs w hr hz hN
    · exact r22Part9 n ih k h s t ks cs w hr hz hN
    · exact r22Part10 n ih k h s t ks cs w hr hz hN
    · exact r22Part11 n ih k h s t ks cs w hr hz hN
    · exact r22Part12 n ih k h s t ks cs w hr hz hN
    · exact r22Part13 n ih k h s t ks cs w hr hz hN
    · exact r22Part14 n ih k h s t ks cs w hr hz hN
set_option maxRecDepth 20000 in
set_option maxHeartbeats 2000000 in
theorem r22Expr (n : Nat) (x : ExT n) (cs : List Value) (w : World) (hr : RdE n w cs x) (hz : szU n x) (hN : (preE n x).length ≤ 4611686018427387904) :
    Calls Tryz.prog 122 #[.agg cs.toArray] w fun e w' => e = .returned (.bool (exprB n x)) ∧ Below w.heap.size w w' := by
  have hS := fun W hb => r22Size n x cs W (hr.later (w' := W) hb) hz.e hN
  have hP := fun W hb => r22Part n x cs W (hr.later (w' := W) hb) hz
  obtain ⟨k, s, t, A, m, c, rfl, _⟩ := rd_spell hr
  obtain ⟨W, hW⟩ : ∃ W : World, w.alloc (.cells #[.int .i64 k, .string s, .int .i64 t.k, .string t.x, .string t.l, .string t.y, .slice A m c] 31) = W := ⟨_, rfl⟩
  have hB0 : Below w.heap.size w W := by rw [← hW]; exact (by repeat (first | exact Below.refl _ _ | assumption | exact (Below.refl _ _).alloc (Nat.le_refl _) _ | refine below_tr ?_ (by assumption) | refine below_alloc ?_ | refine below_tr ?_ (below_regrown _ _ _)))
  have b0 : W.cell? ⟨w.heap.size, 0, none⟩ = some (.int .i64 k) := by rw [← hW, World.cell?, heap_alloc_new]; rfl
  have b1 : W.cell? ⟨w.heap.size, 1, none⟩ = some (.string s) := by rw [← hW, World.cell?, heap_alloc_new]; rfl
  have b2 : W.cell? ⟨w.heap.size, 2, none⟩ = some (.int .i64 t.k) := by rw [← hW, World.cell?, heap_alloc_new]; rfl
  have b3 : W.cell? ⟨w.heap.size, 3, none⟩ = some (.string t.x) := by rw [← hW, World.cell?, heap_alloc_new]; rfl
  have b4 : W.cell? ⟨w.heap.size, 4, none⟩ = some (.string t.l) := by rw [← hW, World.cell?, heap_alloc_new]; rfl
  have b5 : W.cell? ⟨w.heap.size, 5, none⟩ = some (.string t.y) := by rw [← hW, World.cell?, heap_alloc_new]; rfl
  have b6 : W.cell? ⟨w.heap.size, 6, none⟩ = some (.slice A m c) := by rw [← hW, World.cell?, heap_alloc_new]; rfl
  have hS0 := hS W hB0
  have HW := Lib.hid hW
  have HB0 := Lib.hid hB0
  have hn0 : (0 : Int) ≤ ((preE n x).length : Int) := by omega
  have hn1 : ((preE n x).length : Int) ≤ 4611686018427387904 := by omega
  unfold exprB
  by_cases hL : (preE n x).length ≤ 40
  · have hL' : ((preE n x).length : Int) ≤ 40 := by omega
    rw [decide_eq_true hL, Bool.true_and]
    have hP := fun W hb => hP W hb hL
    generalize partsB (preE n x) = q at *
    generalize (((preE n x).length : Nat) : Int) = u at *
    clear hr hz hN hS hW hB0 hL
    go_enter Tryz.func122, Tryz.ntmps122
    go_wp2_with fail
    simp only [HW.out]
    go_wp2_with fail
    refine hS0.mono ?_
    rintro e w2 ⟨rfl, hb⟩
    replace b0 := cell_on b0 hb
    replace b1 := cell_on b1 hb
    replace b2 := cell_on b2 hb
    replace b3 := cell_on b3 hb
    replace b4 := cell_on b4 hb
    replace b5 := cell_on b5 hb
    replace b6 := cell_on b6 hb
    have B2 := below_tr HB0.out hb
    have hP2 := hP w2 B2
    clear hP hb
    go_wp2_with (go_at_call 172; refine hP2.mono ?_; rintro e w3 ⟨rfl, hb3⟩)
    go_ret
    exact ⟨rfl, below_tr B2 hb3⟩
  · have hL' : ¬ ((preE n x).length : Int) ≤ 40 := by omega
    rw [decide_eq_false hL, Bool.false_and]
    generalize (((preE n x).length : Nat) : Int) = u at *
    clear hr hz hN hS hW hB0 hL hP
    go_enter Tryz.func122, Tryz.ntmps122
    go_wp2_with fail
    simp only [HW.out]
    go_wp2_with (refine hS0.mono ?_; rintro e w2 ⟨rfl, hb⟩)
    go_ret
    exact ⟨rfl, below_tr HB0.out hb⟩
end Go.Proofs.YtefjhehgpkljcaaGreatDoor
