/- The answer for query (ossuaryref22): part. -/
import Derived.Test.YtefjhehgpkljcaaGreatDoorJR22h
namespace Go.Proofs.YtefjhehgpkljcaaGreatDoor
open Go Go.RowKit Go.Maps Go.ChangeMaps Um Fm Mt

def R22P (n : Nat) : Prop := ∀ (x : ExT n) (cs : List Value) (w : World), RdE n w cs x → szU n x → (preE n x).length ≤ 40 → Calls Tryz.prog 172 #[.agg cs.toArray] w fun e w' => e = .returned (.bool (partsB (preE n x))) ∧ Below w.heap.size w w'
def R22PK (n : Nat) (k : Int) : Prop := ∀ (s : ByteArray) (t : Tm) (ks : List (ExT n)) (cs : List Value) (w : World), RdE (n + 1) w cs ((k, s, t, ks) : ExT (n + 1)) → szU (n + 1) ((k, s, t, ks) : ExT (n + 1)) → (preE (n + 1) ((k, s, t, ks) : ExT (n + 1))).length ≤ 40 → Calls Tryz.prog 172 #[.agg cs.toArray] w fun e w' => e = .returned (.bool (partsB (preE (n + 1) ((k, s, t, ks) : ExT (n + 1))))) ∧ Below w.heap.size w w'
def PartLp (n : Nat) (W : World) (ks : List (ExT n)) (i : Value) (wr : World) : Prop := ∃ j : Nat, j ≤ ks.length ∧ i = .int .i64 j ∧ Hid (partsB (ks.flatMap (preE n)) = partsB ((ks.drop j).flatMap (preE n))) ∧ Below W.heap.size W wr
set_option maxRecDepth 20000 in
set_option maxHeartbeats 16000000 in
theorem r22Part1 (n : Nat) (ih : R22P n) (k : Int) (hkk : k = 1) : R22PK n k := by
    subst hkk
    rintro s t ks cs w ⟨A, c, rfl, hc1, hr⟩ ⟨z1, z2, z3, z4⟩ hN
    have hp : (preE (n + 1) (((1 : Int), s, t, ks) : ExT (n + 1))).length = (ks.flatMap (preE n)).length + 1 := by rw [preE, List.length_cons]
    rw [hp] at hN
    have hks := kids_len ks
    rw [parts_head, partK_head 1 s t ks (by omega)]
    obtain ⟨res, hres⟩ : ∃ r, headB 1 s t ks.length (kidL ks 0) (kidL ks 1) = r := ⟨_, rfl⟩
    rw [hres]
    have Hres := Lib.hid hres
    have heq : ∀ W : World, (binOp .eql 28 (.agg #[.int .i64 t.k, .string t.x, .string t.l, .string t.y]) (.agg #[.int .i64 0, .string ⟨#[]⟩, .string ⟨#[]⟩, .string ⟨#[]⟩])).run Tryz.prog W = .ok (.bool (zeroB t)) W := fun W => by
      have := run_eqTm t zTm W
      rw [sameTm_zero] at this
      exact this
    have hNm := fun W => r22Name s W (by omega)
    have hTd := fun W => r22Told t W z2
    obtain ⟨W, hW⟩ : ∃ W : World, w.alloc (.cells #[.int .i64 1, .string s, .int .i64 t.k, .string t.x, .string t.l, .string t.y, .slice A ks.length c] 31) = W := ⟨_, rfl⟩
    have hB0 : Below w.heap.size w W := by rw [← hW]; exact (by repeat (first | exact Below.refl _ _ | assumption | exact (Below.refl _ _).alloc (Nat.le_refl _) _ | refine below_tr ?_ (by assumption) | refine below_alloc ?_ | refine below_tr ?_ (below_regrown _ _ _)))
    have b0 : W.cell? ⟨w.heap.size, 0, none⟩ = some (.int .i64 1) := by rw [← hW, World.cell?, heap_alloc_new]; rfl
    have b1 : W.cell? ⟨w.heap.size, 1, none⟩ = some (.string s) := by rw [← hW, World.cell?, heap_alloc_new]; rfl
    have b2 : W.cell? ⟨w.heap.size, 2, none⟩ = some (.int .i64 t.k) := by rw [← hW, World.cell?, heap_alloc_new]; rfl
    have b3 : W.cell? ⟨w.heap.size, 3, none⟩ = some (.string t.x) := by rw [← hW, World.cell?, heap_alloc_new]; rfl
    have b4 : W.cell? ⟨w.heap.size, 4, none⟩ = some (.string t.l) := by rw [← hW, World.cell?, heap_alloc_new]; rfl
    have b5 : W.cell? ⟨w.heap.size, 5, none⟩ = some (.string t.y) := by rw [← hW, World.cell?, heap_alloc_new]; rfl
    have b6 : W.cell? ⟨w.heap.size, 6, none⟩ = some (.slice A ks.length c) := by rw [← hW, World.cell?, heap_alloc_new]; rfl
    have hk := RdEs.later hr hB0
    have HW := Lib.hid hW
    have HB0 := Lib.hid hB0
    have hkl : ks.length ≤ 39 := by omega
    generalize hbare : zeroB t = bare at *
    generalize hnam : nameB s = nam at *
    generalize htol : toldB t = tol at *
    have Hbare := Lib.hid hbare
    have Hnam := Lib.hid hnam
    have Htol := Lib.hid htol
    have HNm := Lib.hid hNm
    have HTd := Lib.hid hTd
    clear hW hr hB0 hp hres hbare hnam htol hNm hTd hks z1 z2 z3
    go_enter Tryz.func172, Tryz.ntmps172
    go_wp2_with fail
    simp only [HW.out]
    go_wp2
    go_loopw [5] (PartLp n W ks) (fun i _ => ks.length - (intOf i).toNat)
    case atStart => exact ⟨0, by omega, rfl, rfl, Below.refl _ _⟩
    case round =>
      obtain ⟨j, hj, rfl, H, hB⟩ := hrel
      clear heq
      replace b0 := cell_on b0 hB
      replace b1 := cell_on b1 hB
      replace b2 := cell_on b2 hB
      replace b3 := cell_on b3 hB
      replace b4 := cell_on b4 hB
      replace b5 := cell_on b5 hB
      replace b6 := cell_on b6 hB
      by_cases hlt : j < ks.length
      · clear b0 b1 b2 b3 b4 b5
        obtain ⟨x, hx⟩ : ∃ x, ks[j]? = some x := ⟨_, List.getElem?_eq_getElem hlt⟩
        obtain ⟨g, o, k1, s1, t1, A1, m1, e1, rfl, hR, c0, c1, c2, c3, c4, c5, c6⟩ := (RdEs.later hk hB).atv hx
        have hcall := ih x _ wr hR (z4 x (List.mem_of_getElem? hx)) (by have := kid_len (n := n) (List.mem_of_getElem? hx); omega)
        have H2 : Hid (partsB (ks.flatMap (preE n)) = (partsB (preE n x) && partsB ((ks.drop (j + 1)).flatMap (preE n)))) := by
          show _ = _
          rw [H.out, parts_kid hx]
        generalize partsB (preE n x) = q at *
        clear hx hR hk ih z4 hN H
        cases q
        · go_wp2_with (go_at_call 172; refine hcall.mono ?_; rintro e w2 ⟨rfl, hb⟩)
          go_ret
          exact ⟨by rw [H2.out]; simp, HB0.out.trans ((below_tr hB hb).mono HB0.out.size)⟩
        · go_wp2_with (go_at_call 172; refine hcall.mono ?_; rintro e w2 ⟨rfl, hb⟩)
          go_roundw
          case rel => exact ⟨j + 1, by omega, by go_num, by show _ = _; rw [H2.out, Bool.true_and], below_tr hB hb⟩
          case measure => simp [intOf]; omega
      · have hjk : j = ks.length := by omega
        subst hjk
        have Hall : Hid (partsB (ks.flatMap (preE n)) = true) := by
          show _ = _
          rw [H.out, List.drop_eq_nil_of_le (Nat.le_refl _)]; rfl
        have hkr := RdEs.later hk hB
        have hNm := HNm.out wr
        have hTd := HTd.out wr
        have HBB := Lib.hid (HB0.out.trans (hB.mono HB0.out.size))
        clear H ih z4 hk hN hB hlt hj
        generalize hm : ks.length = m at *
        have Hm := Lib.hid hm
        clear hm
        clear hTd hkr
        by_cases h0 : (m : Int) = 0
        · have h0n : m = 0 := by omega
          have Hw : Hid (res = (nam && bare)) := by show _ = _; rw [← Hres.out]; unfold headB; have e0 : (m == 0) = true := beq_iff_eq.2 h0n; rw [e0, Hbare.out, Hnam.out]; rfl
          clear h0n
          cases nam
          · go_wp2_with (go_at_call 123; refine hNm.mono ?_; rintro e w2 ⟨rfl, hb⟩)
            go_ret
            exact ⟨by rw [Hall.out, Hw.out]; simp, below_tr HBB.out hb⟩
          · go_wp2_with (go_at_call 123; refine hNm.mono ?_; rintro e w2 ⟨rfl, hb⟩)
            go_ret
            exact ⟨by rw [Hall.out, Hw.out]; simp, below_tr HBB.out hb⟩
        · have Hw : Hid (res = false) := by show _ = _; rw [← Hres.out]; unfold headB; have e0 : (m == 0) = false := beq_eq_false_iff_ne.2 (by omega); rw [e0]; rfl
          clear hNm
          go_wp2
          go_ret
          exact ⟨by rw [Hall.out, Hw.out]; simp, HBB.out⟩
set_option maxRecDepth 20000 in
set_option maxHeartbeats 16000000 in
theorem r22Part2 (n : Nat) (ih : R22P n) (k : Int) (hkk : k = 2) : R22PK n k := by
    subst hkk
    rintro s t ks cs w ⟨A, c, rfl, hc1, hr⟩ ⟨z1, z2, z3, z4⟩ hN
    have hp : (preE (n + 1) (((2 : Int), s, t, ks) : ExT (n + 1))).length = (ks.flatMap (preE n)).length + 1 := by rw [preE, List.length_cons]
    rw [hp] at hN
    have hks := kids_len ks
    rw [parts_head, partK_head 2 s t ks (by omega)]
    obtain ⟨res, hres⟩ : ∃ r, headB 2 s t ks.length (kidL ks 0) (kidL ks 1) = r := ⟨_, rfl⟩
    rw [hres]
    have Hres := Lib.hid hres
    have heq : ∀ W : World, (binOp .eql 28 (.agg #[.int .i64 t.k, .string t.x, .string t.l, .string t.y]) (.agg #[.int .i64 0, .string ⟨#[]⟩, .string ⟨#[]⟩, .string ⟨#[]⟩])).run Tryz.prog W = .ok (.bool (zeroB t)) W := fun W => by
      have := run_eqTm t zTm W
      rw [sameTm_zero] at this
      exact this
    have hNm := fun W => r22Name s W (by omega)
    have hTd := fun W => r22Told t W z2
    obtain ⟨W, hW⟩ : ∃ W : World, w.alloc (.cells #[.int .i64 2, .string s, .int .i64 t.k, .string t.x, .string t.l, .string t.y, .slice A ks.length c] 31) = W := ⟨_, rfl⟩
    have hB0 : Below w.heap.size w W := by rw [← hW]; exact (by repeat (first | exact Below.refl _ _ | assumption | exact (Below.refl _ _).alloc (Nat.le_refl _) _ | refine below_tr ?_ (by assumption) | refine below_alloc ?_ | refine below_tr ?_ (below_regrown _ _ _)))
    have b0 : W.cell? ⟨w.heap.size, 0, none⟩ = some (.int .i64 2) := by rw [← hW, World.cell?, heap_alloc_new]; rfl
    have b1 : W.cell? ⟨w.heap.size, 1, none⟩ = some (.string s) := by rw [← hW, World.cell?, heap_alloc_new]; rfl
    have b2 : W.cell? ⟨w.heap.size, 2, none⟩ = some (.int .i64 t.k) := by rw [← hW, World.cell?, heap_alloc_new]; rfl
    have b3 : W.cell? ⟨w.heap.size, 3, none⟩ = some (.string t.x) := by rw [← hW, World.cell?, heap_alloc_new]; rfl
    have b4 : W.cell? ⟨w.heap.size, 4, none⟩ = some (.string t.l) := by rw [← hW, World.cell?, heap_alloc_new]; rfl
    have b5 : W.cell? ⟨w.heap.size, 5, none⟩ = some (.string t.y) := by rw [← hW, World.cell?, heap_alloc_new]; rfl
    have b6 : W.cell? ⟨w.heap.size, 6, none⟩ = some (.slice A ks.length c) := by rw [← hW, World.cell?, heap_alloc_new]; rfl
    have hk := RdEs.later hr hB0
    have HW := Lib.hid hW
    have HB0 := Lib.hid hB0
    have hkl : ks.length ≤ 39 := by omega
    generalize hbare : zeroB t = bare at *
    generalize hnam : nameB s = nam at *
    generalize htol : toldB t = tol at *
    have Hbare := Lib.hid hbare
    have Hnam := Lib.hid hnam
    have Htol := Lib.hid htol
    have HNm := Lib.hid hNm
    have HTd := Lib.hid hTd
    clear hW hr hB0 hp hres hbare hnam htol hNm hTd hks z1 z2 z3
    go_enter Tryz.func172, Tryz.ntmps172
    go_wp2_with fail
    simp only [HW.out]
    go_wp2
    go_loopw [5] (PartLp n W ks) (fun i _ => ks.length - (intOf i).toNat)
    case atStart => exact ⟨0, by omega, rfl, rfl, Below.refl _ _⟩
    case round =>
      obtain ⟨j, hj, rfl, H, hB⟩ := hrel
      clear heq
      replace b0 := cell_on b0 hB
      replace b1 := cell_on b1 hB
      replace b2 := cell_on b2 hB
      replace b3 := cell_on b3 hB
      replace b4 := cell_on b4 hB
      replace b5 := cell_on b5 hB
      replace b6 := cell_on b6 hB
      by_cases hlt : j < ks.length
      · clear b0 b1 b2 b3 b4 b5
        obtain ⟨x, hx⟩ : ∃ x, ks[j]? = some x := ⟨_, List.getElem?_eq_getElem hlt⟩
        obtain ⟨g, o, k1, s1, t1, A1, m1, e1, rfl, hR, c0, c1, c2, c3, c4, c5, c6⟩ := (RdEs.later hk hB).atv hx
        have hcall := ih x _ wr hR (z4 x (List.mem_of_getElem? hx)) (by have := kid_len (n := n) (List.mem_of_getElem? hx); omega)
        have H2 : Hid (partsB (ks.flatMap (preE n)) = (partsB (preE n x) && partsB ((ks.drop (j + 1)).flatMap (preE n)))) := by
          show _ = _
          rw [H.out, parts_kid hx]
        generalize partsB (preE n x) = q at *
        clear hx hR hk ih z4 hN H
        cases q
        · go_wp2_with (go_at_call 172; refine hcall.mono ?_; rintro e w2 ⟨rfl, hb⟩)
          go_ret
          exact ⟨by rw [H2.out]; simp, HB0.out.trans ((below_tr hB hb).mono HB0.out.size)⟩
        · go_wp2_with (go_at_call 172; refine hcall.mono ?_; rintro e w2 ⟨rfl, hb⟩)
          go_roundw
          case rel => exact ⟨j + 1, by omega, by go_num, by show _ = _; rw [H2.out, Bool.true_and], below_tr hB hb⟩
          case measure => simp [intOf]; omega
      · have hjk : j = ks.length := by omega
        subst hjk
        have Hall : Hid (partsB (ks.flatMap (preE n)) = true) := by
          show _ = _
          rw [H.out, List.drop_eq_nil_of_le (Nat.le_refl _)]; rfl
        have hkr := RdEs.later hk hB
        have hNm := HNm.out wr
        have hTd := HTd.out wr
        have HBB := Lib.hid (HB0.out.trans (hB.mono HB0.out.size))
        clear H ih z4 hk hN hB hlt hj
        generalize hm : ks.length = m at *
        have Hm := Lib.hid hm
        clear hm
        clear hNm hkr
        by_cases h0 : (m : Int) = 0
        · cases he : s.toList.isEmpty
          · have Hw : Hid (res = false) := by show _ = _; rw [← Hres.out]; unfold headB; rw [he]; simp
            clear hTd
            go_wp2
            go_ret
            exact ⟨by rw [Hall.out, Hw.out]; simp, HBB.out⟩
          · have h0n : m = 0 := by omega
            have Hw : Hid (res = tol) := by show _ = _; rw [← Hres.out]; unfold headB; have e0 : (m == 0) = true := beq_iff_eq.2 h0n; rw [e0, he, Htol.out]; rfl
            clear h0n
            go_wp2_with (go_at_call 194; refine hTd.mono ?_; rintro e w2 ⟨rfl, hb⟩)
            go_ret
            exact ⟨by rw [Hall.out, Hw.out]; simp, below_tr HBB.out hb⟩
        · have Hw : Hid (res = false) := by show _ = _; rw [← Hres.out]; unfold headB; have e0 : (m == 0) = false := beq_eq_false_iff_ne.2 (by omega); rw [e0]; rfl
          clear hTd
          go_wp2
          go_ret
          exact ⟨by rw [Hall.out, Hw.out]; simp, HBB.out⟩
set_option maxRecDepth 20000 in
set_option maxHeartbeats 16000000 in
theorem r22Part3 (n : Nat) (ih : R22P n) (k : Int) (hkk : k = 3) : R22PK n k := by
    subst hkk
    rintro s t ks cs w ⟨A, c, rfl, hc1, hr⟩ ⟨z1, z2, z3, z4⟩ hN
    have hp : (preE (n + 1) (((3 : Int), s, t, ks) : ExT (n + 1))).length = (ks.flatMap (preE n)).length + 1 := by rw [preE, List.length_cons]
    rw [hp] at hN
    have hks := kids_len ks
    rw [parts_head, partK_head 3 s t ks (by omega)]
    obtain ⟨res, hres⟩ : ∃ r, headB 3 s t ks.length (kidL ks 0) (kidL ks 1) = r := ⟨_, rfl⟩
    rw [hres]
    have Hres := Lib.hid hres
    have heq : ∀ W : World, (binOp .eql 28 (.agg #[.int .i64 t.k, .string t.x, .string t.l, .string t.y]) (.agg #[.int .i64 0, .string ⟨#[]⟩, .string ⟨#[]⟩, .string ⟨#[]⟩])).run Tryz.prog W = .ok (.bool (zeroB t)) W := fun W => by
      have := run_eqTm t zTm W
      rw [sameTm_zero] at this
      exact this
    have hNm := fun W => r22Name s W (by omega)
    have hTd := fun W => r22Told t W z2
    obtain ⟨W, hW⟩ : ∃ W : World, w.alloc (.cells #[.int .i64 3, .string s, .int .i64 t.k, .string t.x, .string t.l, .string t.y, .slice A ks.length c] 31) = W := ⟨_, rfl⟩
    have hB0 : Below w.heap.size w W := by rw [← hW]; exact (by repeat (first | exact Below.refl _ _ | assumption | exact (Below.refl _ _).alloc (Nat.le_refl _) _ | refine below_tr ?_ (by assumption) | refine below_alloc ?_ | refine below_tr ?_ (below_regrown _ _ _)))
    have b0 : W.cell? ⟨w.heap.size, 0, none⟩ = some (.int .i64 3) := by rw [← hW, World.cell?, heap_alloc_new]; rfl
    have b1 : W.cell? ⟨w.heap.size, 1, none⟩ = some (.string s) := by rw [← hW, World.cell?, heap_alloc_new]; rfl
    have b2 : W.cell? ⟨w.heap.size, 2, none⟩ = some (.int .i64 t.k) := by rw [← hW, World.cell?, heap_alloc_new]; rfl
    have b3 : W.cell? ⟨w.heap.size, 3, none⟩ = some (.string t.x) := by rw [← hW, World.cell?, heap_alloc_new]; rfl
    have b4 : W.cell? ⟨w.heap.size, 4, none⟩ = some (.string t.l) := by rw [← hW, World.cell?, heap_alloc_new]; rfl
    have b5 : W.cell? ⟨w.heap.size, 5, none⟩ = some (.string t.y) := by rw [← hW, World.cell?, heap_alloc_new]; rfl
    have b6 : W.cell? ⟨w.heap.size, 6, none⟩ = some (.slice A ks.length c) := by rw [← hW, World.cell?, heap_alloc_new]; rfl
    have hk := RdEs.later hr hB0
    have HW := Lib.hid hW
    have HB0 := Lib.hid hB0
    have hkl : ks.length ≤ 39 := by omega
    generalize hbare : zeroB t = bare at *
    generalize hnam : nameB s = nam at *
    generalize htol : toldB t = tol at *
    have Hbare := Lib.hid hbare
    have Hnam := Lib.hid hnam
    have Htol := Lib.hid htol
    have HNm := Lib.hid hNm
    have HTd := Lib.hid hTd
    clear hW hr hB0 hp hres hbare hnam htol hNm hTd hks z1 z2 z3
    go_enter Tryz.func172, Tryz.ntmps172
    go_wp2_with fail
    simp only [HW.out]
    go_wp2
    go_loopw [5] (PartLp n W ks) (fun i _ => ks.length - (intOf i).toNat)
    case atStart => exact ⟨0, by omega, rfl, rfl, Below.refl _ _⟩
    case round =>
      obtain ⟨j, hj, rfl, H, hB⟩ := hrel
      clear heq
      replace b0 := cell_on b0 hB
      replace b1 := cell_on b1 hB
      replace b2 := cell_on b2 hB
      replace b3 := cell_on b3 hB
      replace b4 := cell_on b4 hB
      replace b5 := cell_on b5 hB
      replace b6 := cell_on b6 hB
      by_cases hlt : j < ks.length
      · clear b0 b1 b2 b3 b4 b5
        obtain ⟨x, hx⟩ : ∃ x, ks[j]? = some x := ⟨_, List.getElem?_eq_getElem hlt⟩
        obtain ⟨g, o, k1, s1, t1, A1, m1, e1, rfl, hR, c0, c1, c2, c3, c4, c5, c6⟩ := (RdEs.later hk hB).atv hx
        have hcall := ih x _ wr hR (z4 x (List.mem_of_getElem? hx)) (by have := kid_len (n := n) (List.mem_of_getElem? hx); omega)
        have H2 : Hid (partsB (ks.flatMap (preE n)) = (partsB (preE n x) && partsB ((ks.drop (j + 1)).flatMap (preE n)))) := by
          show _ = _
          rw [H.out, parts_kid hx]
        generalize partsB (preE n x) = q at *
        clear hx hR hk ih z4 hN H
        cases q
        · go_wp2_with (go_at_call 172; refine hcall.mono ?_; rintro e w2 ⟨rfl, hb⟩)
          go_ret
          exact ⟨by rw [H2.out]; simp, HB0.out.trans ((below_tr hB hb).mono HB0.out.size)⟩
        · go_wp2_with (go_at_call 172; refine hcall.mono ?_; rintro e w2 ⟨rfl, hb⟩)
          go_roundw
          case rel => exact ⟨j + 1, by omega, by go_num, by show _ = _; rw [H2.out, Bool.true_and], below_tr hB hb⟩
          case measure => simp [intOf]; omega
      · have hjk : j = ks.length := by omega
        subst hjk
        have Hall : Hid (partsB (ks.flatMap (preE n)) = true) := by
          show _ = _
          rw [H.out, List.drop_eq_nil_of_le (Nat.le_refl _)]; rfl
        have hkr := RdEs.later hk hB
        have hNm := HNm.out wr
        have hTd := HTd.out wr
        have HBB := Lib.hid (HB0.out.trans (hB.mono HB0.out.size))
        clear H ih z4 hk hN hB hlt hj
        generalize hm : ks.length = m at *
        have Hm := Lib.hid hm
        clear hm
        clear hNm hTd
        clear hkr
        by_cases h0 : (m : Int) = 1
        · cases he : s.toList.isEmpty
          · have Hw : Hid (res = false) := by show _ = _; rw [← Hres.out]; unfold headB; rw [he]; simp
            go_wp2
            go_ret
            exact ⟨by rw [Hall.out, Hw.out]; simp, HBB.out⟩
          · have h0n : m = 1 := by omega
            have Hw : Hid (res = bare) := by show _ = _; rw [← Hres.out]; unfold headB; have e0 : (m == 1) = true := beq_iff_eq.2 h0n; rw [e0, he, Hbare.out]; rfl
            clear h0n
            go_wp2
            go_ret
            exact ⟨by rw [Hall.out, Hw.out]; simp, HBB.out⟩
        · have Hw : Hid (res = false) := by show _ = _; rw [← Hres.out]; unfold headB; have e0 : (m == 1) = false := beq_eq_false_iff_ne.2 (by omega); rw [e0]; rfl
          go_wp2
          go_ret
          exact ⟨by rw [Hall.out, Hw.out]; simp, HBB.out⟩
set_option maxRecDepth 20000 in
set_option maxHeartbeats 16000000 in
theorem r22Part4 (n : Nat) (ih : R22P n) (k : Int) (hkk : k = 4) : R22PK n k := by
    subst hkk
    rintro s t ks cs w ⟨A, c, rfl, hc1, hr⟩ ⟨z1, z2, z3, z4⟩ hN
    have hp : (preE (n + 1) (((4 : Int), s, t, ks) : ExT (n + 1))).length = (ks.flatMap (preE n)).length + 1 := by rw [preE, List.length_cons]
    rw [hp] at hN
    have hks := kids_len ks
    rw [parts_head, partK_head 4 s t ks (by omega)]
    obtain ⟨res, hres⟩ : ∃ r, headB 4 s t ks.length (kidL ks 0) (kidL ks 1) = r := ⟨_, rfl⟩
    rw [hres]
    have Hres := Lib.hid hres
    have heq : ∀ W : World, (binOp .eql 28 (.agg #[.int .i64 t.k, .string t.x, .string t.l, .string t.y]) (.agg #[.int .i64 0, .string ⟨#[]⟩, .string ⟨#[]⟩, .string ⟨#[]⟩])).run Tryz.prog W = .ok (.bool (zeroB t)) W := fun W => by
      have := run_eqTm t zTm W
      rw [sameTm_zero] at this
      exact this
    have hNm := fun W => r22Name s W (by omega)
    have hTd := fun W => r22Told t W z2
    obtain ⟨W, hW⟩ : ∃ W : World, w.alloc (.cells #[.int .i64 4, .string s, .int .i64 t.k, .string t.x, .string t.l, .string t.y, .slice A ks.length c] 31) = W := ⟨_, rfl⟩
    have hB0 : Below w.heap.size w W := by rw [← hW]; exact (by repeat (first | exact Below.refl _ _ | assumption | exact (Below.refl _ _).alloc (Nat.le_refl _) _ | refine below_tr ?_ (by assumption) | refine below_alloc ?_ | refine below_tr ?_ (below_regrown _ _ _)))
    have b0 : W.cell? ⟨w.heap.size, 0, none⟩ = some (.int .i64 4) := by rw [← hW, World.cell?, heap_alloc_new]; rfl
    have b1 : W.cell? ⟨w.heap.size, 1, none⟩ = some (.string s) := by rw [← hW, World.cell?, heap_alloc_new]; rfl
    have b2 : W.cell? ⟨w.heap.size, 2, none⟩ = some (.int .i64 t.k) := by rw [← hW, World.cell?, heap_alloc_new]; rfl
    have b3 : W.cell? ⟨w.heap.size, 3, none⟩ = some (.string t.x) := by rw [← hW, World.cell?, heap_alloc_new]; rfl
    have b4 : W.cell? ⟨w.heap.size, 4, none⟩ = some (.string t.l) := by rw [← hW, World.cell?, heap_alloc_new]; rfl
    have b5 : W.cell? ⟨w.heap.size, 5, none⟩ = some (.string t.y) := by rw [← hW, World.cell?, heap_alloc_new]; rfl
    have b6 : W.cell? ⟨w.heap.size, 6, none⟩ = some (.slice A ks.length c) := by rw [← hW, World.cell?, heap_alloc_new]; rfl
    have hk := RdEs.later hr hB0
    have HW := Lib.hid hW
    have HB0 := Lib.hid hB0
    have hkl : ks.length ≤ 39 := by omega
    generalize hbare : zeroB t = bare at *
    generalize hnam : nameB s = nam at *
    generalize htol : toldB t = tol at *
    have Hbare := Lib.hid hbare
    have Hnam := Lib.hid hnam
    have Htol := Lib.hid htol
    have HNm := Lib.hid hNm
    have HTd := Lib.hid hTd
    clear hW hr hB0 hp hres hbare hnam htol hNm hTd hks z1 z2 z3
    go_enter Tryz.func172, Tryz.ntmps172
    go_wp2_with fail
    simp only [HW.out]
    go_wp2
    go_loopw [5] (PartLp n W ks) (fun i _ => ks.length - (intOf i).toNat)
    case atStart => exact ⟨0, by omega, rfl, rfl, Below.refl _ _⟩
    case round =>
      obtain ⟨j, hj, rfl, H, hB⟩ := hrel
      clear heq
      replace b0 := cell_on b0 hB
      replace b1 := cell_on b1 hB
      replace b2 := cell_on b2 hB
      replace b3 := cell_on b3 hB
      replace b4 := cell_on b4 hB
      replace b5 := cell_on b5 hB
      replace b6 := cell_on b6 hB
      by_cases hlt : j < ks.length
      · clear b0 b1 b2 b3 b4 b5
        obtain ⟨x, hx⟩ : ∃ x, ks[j]? = some x := ⟨_, List.getElem?_eq_getElem hlt⟩
        obtain ⟨g, o, k1, s1, t1, A1, m1, e1, rfl, hR, c0, c1, c2, c3, c4, c5, c6⟩ := (RdEs.later hk hB).atv hx
        have hcall := ih x _ wr hR (z4 x (List.mem_of_getElem? hx)) (by have := kid_len (n := n) (List.mem_of_getElem? hx); omega)
        have H2 : Hid (partsB (ks.flatMap (preE n)) = (partsB (preE n x) && partsB ((ks.drop (j + 1)).flatMap (preE n)))) := by
          show _ = _
          rw [H.out, parts_kid hx]
        generalize partsB (preE n x) = q at *
        clear hx hR hk ih z4 hN H
        cases q
        · go_wp2_with (go_at_call 172; refine hcall.mono ?_; rintro e w2 ⟨rfl, hb⟩)
          go_ret
          exact ⟨by rw [H2.out]; simp, HB0.out.trans ((below_tr hB hb).mono HB0.out.size)⟩
        · go_wp2_with (go_at_call 172; refine hcall.mono ?_; rintro e w2 ⟨rfl, hb⟩)
          go_roundw
          case rel => exact ⟨j + 1, by omega, by go_num, by show _ = _; rw [H2.out, Bool.true_and], below_tr hB hb⟩
          case measure => simp [intOf]; omega
      · have hjk : j = ks.length := by omega
        subst hjk
        have Hall : Hid (partsB (ks.flatMap (preE n)) = true) := by
          show _ = _
          rw [H.out, List.drop_eq_nil_of_le (Nat.le_refl _)]; rfl
        have hkr := RdEs.later hk hB
        have hNm := HNm.out wr
        have hTd := HTd.out wr
        have HBB := Lib.hid (HB0.out.trans (hB.mono HB0.out.size))
        clear H ih z4 hk hN hB hlt hj
        generalize hm : ks.length = m at *
        have Hm := Lib.hid hm
        clear hm
        clear hNm hTd
        clear hkr
        by_cases h0 : 2 ≤ (m : Int)
        · cases he : s.toList.isEmpty
          · have Hw : Hid (res = false) := by show _ = _; rw [← Hres.out]; unfold headB; rw [he]; simp
            go_wp2
            go_ret
            exact ⟨by rw [Hall.out, Hw.out]; simp, HBB.out⟩
          · have Hw : Hid (res = bare) := by show _ = _; rw [← Hres.out]; unfold headB; have e0 : decide (2 ≤ m) = true := (by simp; omega); rw [e0, he, Hbare.out]; rfl
            go_wp2
            go_ret
            exact ⟨by rw [Hall.out, Hw.out]; simp, HBB.out⟩
        · have Hw : Hid (res = false) := by show _ = _; rw [← Hres.out]; unfold headB; have e0 : decide (2 ≤ m) = false := (by simp; omega); rw [e0]; rfl
          go_wp2
          go_ret
          exact ⟨by rw [Hall.out, Hw.out]; simp, HBB.out⟩
set_option maxRecDepth 20000 in
set_option maxHeartbeats 16000000 in
theorem r22Part5 (n : Nat) (ih : R22P n) (k : Int) (hkk : k = 5) : R22PK n k := by
    subst hkk
    rintro s t ks cs w ⟨A, c, rfl, hc1, hr⟩ ⟨z1, z2, z3, z4⟩ hN
    have hp : (preE (n + 1) (((5 : Int), s, t, ks) : ExT (n + 1))).length = (ks.flatMap (preE n)).length + 1 := by rw [preE, List.length_cons]
    rw [hp] at hN
    have hks := kids_len ks
    rw [parts_head, partK_head 5 s t ks (by omega)]
    obtain ⟨res, hres⟩ : ∃ r, headB 5 s t ks.length (kidL ks 0) (kidL ks 1) = r := ⟨_, rfl⟩
    rw [hres]
    have Hres := Lib.hid hres
    have heq : ∀ W : World, (binOp .eql 28 (.agg #[.int .i64 t.k, .string t.x, .string t.l, .string t.y]) (.agg #[.int .i64 0, .string ⟨#[]⟩, .string ⟨#[]⟩, .string ⟨#[]⟩])).run Tryz.prog W = .ok (.bool (zeroB t)) W := fun W => by
      have := run_eqTm t zTm W
      rw [sameTm_zero] at this
      exact this
    have hNm := fun W => r22Name s W (by omega)
    have hTd := fun W => r22Told t W z2
    obtain ⟨W, hW⟩ : ∃ W : World, w.alloc (.cells #[.int .i64 5, .string s, .int .i64 t.k, .string t.x, .string t.l, .string t.y, .slice A ks.length c] 31) = W := ⟨_, rfl⟩
    have hB0 : Below w.heap.size w W := by rw [← hW]; exact (by repeat (first | exact Below.refl _ _ | assumption | exact (Below.refl _ _).alloc (Nat.le_refl _) _ | refine below_tr ?_ (by assumption) | refine below_alloc ?_ | refine below_tr ?_ (below_regrown _ _ _)))
    have b0 : W.cell? ⟨w.heap.size, 0, none⟩ = some (.int .i64 5) := by rw [← hW, World.cell?, heap_alloc_new]; rfl
    have b1 : W.cell? ⟨w.heap.size, 1, none⟩ = some (.string s) := by rw [← hW, World.cell?, heap_alloc_new]; rfl
    have b2 : W.cell? ⟨w.heap.size, 2, none⟩ = some (.int .i64 t.k) := by rw [← hW, World.cell?, heap_alloc_new]; rfl
    have b3 : W.cell? ⟨w.heap.size, 3, none⟩ = some (.string t.x) := by rw [← hW, World.cell?, heap_alloc_new]; rfl
    have b4 : W.cell? ⟨w.heap.size, 4, none⟩ = some (.string t.l) := by rw [← hW, World.cell?, heap_alloc_new]; rfl
    have b5 : W.cell? ⟨w.heap.size, 5, none⟩ = some (.string t.y) := by rw [← hW, World.cell?, heap_alloc_new]; rfl
    have b6 : W.cell? ⟨w.heap.size, 6, none⟩ = some (.slice A ks.length c) := by rw [← hW, World.cell?, heap_alloc_new]; rfl
    have hk := RdEs.later hr hB0
    have HW := Lib.hid hW
    have HB0 := Lib.hid hB0
    have hkl : ks.length ≤ 39 := by omega
    generalize hbare : zeroB t = bare at *
    generalize hnam : nameB s = nam at *
    generalize htol : toldB t = tol at *
    have Hbare := Lib.hid hbare
    have Hnam := Lib.hid hnam
    have Htol := Lib.hid htol
    have HNm := Lib.hid hNm
    have HTd := Lib.hid hTd
    clear hW hr hB0 hp hres hbare hnam htol hNm hTd hks z1 z2 z3
    go_enter Tryz.func172, Tryz.ntmps172
    go_wp2_with fail
    simp only [HW.out]
    go_wp2
    go_loopw [5] (PartLp n W ks) (fun i _ => ks.length - (intOf i).toNat)
    case atStart => exact ⟨0, by omega, rfl, rfl, Below.refl _ _⟩
    case round =>
      obtain ⟨j, hj, rfl, H, hB⟩ := hrel
      clear heq
      replace b0 := cell_on b0 hB
      replace b1 := cell_on b1 hB
      replace b2 := cell_on b2 hB
      replace b3 := cell_on b3 hB
      replace b4 := cell_on b4 hB
      replace b5 := cell_on b5 hB
      replace b6 := cell_on b6 hB
      by_cases hlt : j < ks.length
      · clear b0 b1 b2 b3 b4 b5
        obtain ⟨x, hx⟩ : ∃ x, ks[j]? = some x := ⟨_, List.getElem?_eq_getElem hlt⟩
        obtain ⟨g, o, k1, s1, t1, A1, m1, e1, rfl, hR, c0, c1, c2, c3, c4, c5, c6⟩ := (RdEs.later hk hB).atv hx
        have hcall := ih x _ wr hR (z4 x (List.mem_of_getElem? hx)) (by have := kid_len (n := n) (List.mem_of_getElem? hx); omega)
        have H2 : Hid (partsB (ks.flatMap (preE n)) = (partsB (preE n x) && partsB ((ks.drop (j + 1)).flatMap (preE n)))) := by
          show _ = _
          rw [H.out, parts_kid hx]
        generalize partsB (preE n x) = q at *
        clear hx hR hk ih z4 hN H
        cases q
        · go_wp2_with (go_at_call 172; refine hcall.mono ?_; rintro e w2 ⟨rfl, hb⟩)
          go_ret
          exact ⟨by rw [H2.out]; simp, HB0.out.trans ((below_tr hB hb).mono HB0.out.size)⟩
        · go_wp2_with (go_at_call 172; refine hcall.mono ?_; rintro e w2 ⟨rfl, hb⟩)
          go_roundw
          case rel => exact ⟨j + 1, by omega, by go_num, by show _ = _; rw [H2.out, Bool.true_and], below_tr hB hb⟩
          case measure => simp [intOf]; omega
      · have hjk : j = ks.length := by omega
        subst hjk
        have Hall : Hid (partsB (ks.flatMap (preE n)) = true) := by
          show _ = _
          rw [H.out, List.drop_eq_nil_of_le (Nat.le_refl _)]; rfl
        have hkr := RdEs.later hk hB
        have hNm := HNm.out wr
        have hTd := HTd.out wr
        have HBB := Lib.hid (HB0.out.trans (hB.mono HB0.out.size))
        clear H ih z4 hk hN hB hlt hj
        generalize hm : ks.length = m at *
        have Hm := Lib.hid hm
        clear hm
        clear hNm hTd
        clear hkr
        by_cases h0 : 2 ≤ (m : Int)
        · cases he : s.toList.isEmpty
          · have Hw : Hid (res = false) := by show _ = _; rw [← Hres.out]; unfold headB; rw [he]; simp
            go_wp2
            go_ret
            exact ⟨by rw [Hall.out, Hw.out]; simp, HBB.out⟩
          · have Hw : Hid (res = bare) := by show _ = _; rw [← Hres.out]; unfold headB; have e0 : decide (2 ≤ m) = true := (by simp; omega); rw [e0, he, Hbare.out]; rfl
            go_wp2
            go_ret
            exact ⟨by rw [Hall.out, Hw.out]; simp, HBB.out⟩
        · have Hw : Hid (res = false) := by show _ = _; rw [← Hres.out]; unfold headB; have e0 : decide (2 ≤ m) = false := (by simp; omega); rw [e0]; rfl
          go_wp2
          go_ret
          exact ⟨by rw [Hall.out, Hw.out]; simp, HBB.out⟩
set_option maxRecDepth 20000 in
set_option maxHeartbeats 16000000 in
theorem r22Part0 (n : Nat) (ih : R22P n) (k : Int) (hkk : k < 1 ∨ 14 < k) : R22PK n k := by
    rintro s t ks cs w ⟨A, c, rfl, hc1, hr⟩ ⟨z1, z2, z3, z4⟩ hN
    have hp : (preE (n + 1) ((k, s, t, ks) : ExT (n + 1))).length = (ks.flatMap (preE n)).length + 1 := by rw [preE, List.length_cons]
    rw [hp] at hN
    have hks := kids_len ks
    rw [parts_head, partK_head k s t ks (by omega)]
    obtain ⟨res, hres⟩ : ∃ r, headB k s t ks.length (kidL ks 0) (kidL ks 1) = r := ⟨_, rfl⟩
    rw [hres]
    have Hres := Lib.hid hres
    have heq : ∀ W : World, (binOp .eql 28 (.agg #[.int .i64 t.k, .string t.x, .string t.l, .string t.y]) (.agg #[.int .i64 0, .string ⟨#[]⟩, .string ⟨#[]⟩, .string ⟨#[]⟩])).run Tryz.prog W = .ok (.bool (zeroB t)) W := fun W => by
      have := run_eqTm t zTm W
      rw [sameTm_zero] at this
      exact this
    have hNm := fun W => r22Name s W (by omega)
    have hTd := fun W => r22Told t W z2
    obtain ⟨W, hW⟩ : ∃ W : World, w.alloc (.cells #[.int .i64 k, .string s, .int .i64 t.k, .string t.x, .string t.l, .string t.y, .slice A ks.length c] 31) = W := ⟨_, rfl⟩
    have hB0 : Below w.heap.size w W := by rw [← hW]; exact (by repeat (first | exact Below.refl _ _ | assumption | exact (Below.refl _ _).alloc (Nat.le_refl _) _ | refine below_tr ?_ (by assumption) | refine below_alloc ?_ | refine below_tr ?_ (below_regrown _ _ _)))
    have b0 : W.cell? ⟨w.heap.size, 0, none⟩ = some (.int .i64 k) := by rw [← hW, World.cell?, heap_alloc_new]; rfl
    have b1 : W.cell? ⟨w.heap.size, 1, none⟩ = some (.string s) := by rw [← hW, World.cell?, heap_alloc_new]; rfl
    have b2 : W.cell? ⟨w.heap.size, 2, none⟩ = some (.int .i64 t.k) := by rw [← hW, World.cell?, heap_alloc_new]; rfl
    have b3 : W.cell? ⟨w.heap.size, 3, none⟩ = some (.string t.x) := by rw [← hW, World.cell?, heap_alloc_new]; rfl
    have b4 : W.cell? ⟨w.heap.size, 4, none⟩ = some (.string t.l) := by rw [← hW, World.cell?, heap_alloc_new]; rfl
    have b5 : W.cell? ⟨w.heap.size, 5, none⟩ = some (.string t.y) := by rw [← hW, World.cell?, heap_alloc_new]; rfl
    have b6 : W.cell? ⟨w.heap.size, 6, none⟩ = some (.slice A ks.length c) := by rw [← hW, World.cell?, heap_alloc_new]; rfl
    have hk := RdEs.later hr hB0
    have HW := Lib.hid hW
    have HB0 := Lib.hid hB0
    have hkl : ks.length ≤ 39 := by omega
    generalize hbare : zeroB t = bare at *
    generalize hnam : nameB s = nam at *
    generalize htol : toldB t = tol at *
    have Hbare := Lib.hid hbare
    have Hnam := Lib.hid hnam
    have Htol := Lib.hid htol
    have HNm := Lib.hid hNm
    have HTd := Lib.hid hTd
    clear hW hr hB0 hp hres hbare hnam htol hNm hTd hks z1 z2 z3
    go_enter Tryz.func172, Tryz.ntmps172
    go_wp2_with fail
    simp only [HW.out]
    go_wp2
    go_loopw [5] (PartLp n W ks) (fun i _ => ks.length - (intOf i).toNat)
    case atStart => exact ⟨0, by omega, rfl, rfl, Below.refl _ _⟩
    case round =>
      obtain ⟨j, hj, rfl, H, hB⟩ := hrel
      clear heq
      replace b0 := cell_on b0 hB
      replace b1 := cell_on b1 hB
      replace b2 := cell_on b2 hB
      replace b3 := cell_on b3 hB
      replace b4 := cell_on b4 hB
      replace b5 := cell_on b5 hB
      replace b6 := cell_on b6 hB
      by_cases hlt : j < ks.length
      · clear b0 b1 b2 b3 b4 b5
        obtain ⟨x, hx⟩ : ∃ x, ks[j]? = some x := ⟨_, List.getElem?_eq_getElem hlt⟩
        obtain ⟨g, o, k1, s1, t1, A1, m1, e1, rfl, hR, c0, c1, c2, c3, c4, c5, c6⟩ := (RdEs.later hk hB).atv hx
        have hcall := ih x _ wr hR (z4 x (List.mem_of_getElem? hx)) (by have := kid_len (n := n) (List.mem_of_getElem? hx); omega)
        have H2 : Hid (partsB (ks.flatMap (preE n)) = (partsB (preE n x) && partsB ((ks.drop (j + 1)).flatMap (preE n)))) := by
          show _ = _
          rw [H.out, parts_kid hx]
        generalize partsB (preE n x) = q at *
        clear hx hR hk ih z4 hN H
        cases q
        · go_wp2_with (go_at_call 172; refine hcall.mono ?_; rintro e w2 ⟨rfl, hb⟩)
          go_ret
          exact ⟨by rw [H2.out]; simp, HB0.out.trans ((below_tr hB hb).mono HB0.out.size)⟩
        · go_wp2_with (go_at_call 172; refine hcall.mono ?_; rintro e w2 ⟨rfl, hb⟩)
          go_roundw
          case rel => exact ⟨j + 1, by omega, by go_num, by show _ = _; rw [H2.out, Bool.true_and], below_tr hB hb⟩
          case measure => simp [intOf]; omega
      · have hjk : j = ks.length := by omega
        subst hjk
        have Hall : Hid (partsB (ks.flatMap (preE n)) = true) := by
          show _ = _
          rw [H.out, List.drop_eq_nil_of_le (Nat.le_refl _)]; rfl
        have hkr := RdEs.later hk hB
        have hNm := HNm.out wr
        have hTd := HTd.out wr
        have HBB := Lib.hid (HB0.out.trans (hB.mono HB0.out.size))
        clear H ih z4 hk hN hB hlt hj
        generalize hm : ks.length = m at *
        have Hm := Lib.hid hm
        clear hm
        have Hw : Hid (res = false) := by
          show _ = _
          rw [← Hres.out]
          unfold headB
          have e : ∀ i : Int, k ≠ i → (k == i) = false := fun i h => by simpa using h
          have f1 : (decide (6 ≤ k) && decide (k ≤ 11)) = false := by simp; omega
          have f2 : (decide (12 ≤ k) && decide (k ≤ 14)) = false := by simp; omega
          rw [e 1 (by omega), e 2 (by omega), e 3 (by omega), e 4 (by omega), e 5 (by omega), f1, f2]; rfl
        have h1 : ¬ k = 1 := by omega
        have h2 : ¬ k = 2 := by omega
        have h3 : ¬ k = 3 := by omega
        have h4 : ¬ k = 4 := by omega
        have h5 : ¬ k = 5 := by omega
        have h6 : ¬ k = 6 := by omega
        have h7 : ¬ k = 7 := by omega
        have h8 : ¬ k = 8 := by omega
        have h9 : ¬ k = 9 := by omega
        have h10 : ¬ k = 10 := by omega
        have h11 : ¬ k = 11 := by omega
        have h12 : ¬ k = 12 := by omega
        have h13 : ¬ k = 13 := by omega
        have h14 : ¬ k = 14 := by omega
        clear hkr hkk hNm hTd
        go_wp2
        go_ret
        exact ⟨by rw [Hall.out, Hw.out]; simp, HBB.out⟩
end Go.Proofs.YtefjhehgpkljcaaGreatDoor
