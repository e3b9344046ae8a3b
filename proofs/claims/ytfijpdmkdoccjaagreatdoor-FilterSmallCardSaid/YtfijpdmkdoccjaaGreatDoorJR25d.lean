/- The answer for filter (ossuaryref25): Of, Keeps. -/
import Derived.Test.YtfijpdmkdoccjaaGreatDoorJR25c
namespace Go.Proofs.YtfijpdmkdoccjaaGreatDoor
open Go Go.RowKit Fm

theorem getD_sz {o : Option Tm} (h : ∀ u, o = some u → u.x.size ≤ 281474976710656) : (o.getD zTm).x.size ≤ 281474976710656 := by
  cases o with
  | none => decide
  | some u => exact h u rfl
theorem opt_is {o : Option Tm} : o = if o.isSome then some (o.getD zTm) else none := by cases o <;> rfl
theorem len_two {α : Type} {l : List α} (h : l.length = 2) : ∃ a b, l = [a, b] := by
  match l, h with
  | [a, b], _ => exact ⟨a, b, rfl⟩
theorem len_one {α : Type} {l : List α} (h : l.length = 1) : ∃ a, l = [a] := by
  match l, h with
  | [a], _ => exact ⟨a, rfl⟩
theorem twoI_no {k : Int} {l : List (Option Tm)} (h : l.length ≠ 2) : twoI k l = 3 := by
  unfold twoI
  split
  · exact absurd rfl h
  · rfl
theorem oneI_no {k : Int} {l : List (Option Tm)} (h : l.length ≠ 1) : oneI k l = 3 := by
  unfold oneI
  split
  · exact absurd rfl h
  · rfl
set_option maxRecDepth 20000 in
set_option maxHeartbeats 4000000 in
theorem r25Of2 (vars : List ByteArray) (row : List Tm) (hv : vars.length ≤ 281474976710656) (hrl : row.length ≤ 281474976710656) (hzr : szRow row) (n : Nat) (_ih : R25O vars row n) (k : Int) (hkk : (k = 6 ∨ k = 7 ∨ k = 8 ∨ k = 9 ∨ k = 10 ∨ k = 11)) : R25OK vars row n k := by
  rintro s t ks cs A1 A2 c1 c2 w hr1 hr2 ⟨A, c, rfl, hc1, hr⟩ ⟨z1, z2, z3, z4⟩ ⟨hkn, zn⟩
  obtain ⟨res, hres⟩ : ∃ r : Int, ofI vars row (n + 1) ((k, s, t, ks) : ExT (n + 1)) = r := ⟨_, rfl⟩
  rw [hres]
  have Hres := Lib.hid hres
  obtain ⟨W, hW⟩ : ∃ W : World, w.alloc (.cells #[.int .i64 k, .string s, .int .i64 t.k, .string t.x, .string t.l, .string t.y, .slice A ks.length c] 31) = W := ⟨_, rfl⟩
  have hB0 : Below w.heap.size w W := by rw [← hW]; exact (by repeat (first | exact Below.refl _ _ | assumption | exact (Below.refl _ _).alloc (Nat.le_refl _) _ | refine below_tr ?_ (by assumption) | refine below_alloc ?_ | refine below_tr ?_ (below_regrown _ _ _)))
  have b0 : W.cell? ⟨w.heap.size, 0, none⟩ = some (.int .i64 k) := by rw [← hW, World.cell?, heap_alloc_new]; rfl
  have b1 : W.cell? ⟨w.heap.size, 1, none⟩ = some (.string s) := by rw [← hW, World.cell?, heap_alloc_new]; rfl
  have b2 : W.cell? ⟨w.heap.size, 2, none⟩ = some (.int .i64 t.k) := by rw [← hW, World.cell?, heap_alloc_new]; rfl
  have b3 : W.cell? ⟨w.heap.size, 3, none⟩ = some (.string t.x) := by rw [← hW, World.cell?, heap_alloc_new]; rfl
  have b4 : W.cell? ⟨w.heap.size, 4, none⟩ = some (.string t.l) := by rw [← hW, World.cell?, heap_alloc_new]; rfl
  have b5 : W.cell? ⟨w.heap.size, 5, none⟩ = some (.string t.y) := by rw [← hW, World.cell?, heap_alloc_new]; rfl
  have b6 : W.cell? ⟨w.heap.size, 6, none⟩ = some (.slice A ks.length c) := by rw [← hW, World.cell?, heap_alloc_new]; rfl
  have hk := RdEs.later hr hB0
  have k1 := hr1.later hB0
  have k2 := RdTs.later hr2 hB0
  have HW := Lib.hid hW
  have HB0 := Lib.hid hB0
  have z2' : t.x.size ≤ 281474976710656 := by omega
  clear hW hr hB0 hres hr1 hr2
  by_cases h1 : (ks.length : Int) = 2
  case neg =>
    have Hw : Hid (res = 3) := by
      show res = _
      rw [← Hres.out, ofI]
      rcases hkk with rfl | rfl | rfl | rfl | rfl | rfl <;> exact twoI_no (by rw [List.length_map]; omega)
    have hne : ((ks.length : Int) != 2) = true := by rw [bne_iff_ne]; exact h1
    generalize ks.length = m at *
    clear hk k1 k2 _ih z4 zn h1 hkn
    rcases hkk with rfl | rfl | rfl | rfl | rfl | rfl
    all_goals
      go_enter Tryz.func32, Tryz.ntmps32
      go_wp2_with fail
      try simp only [HW.out]
      go_wp2
      go_ret
      exact ⟨congrArg (fun q => Ending.returned (Value.int .i64 q)) Hw.out.symm, by first | exact HB0.out | exact (by repeat (first | exact Below.refl _ _ | assumption | exact (Below.refl _ _).alloc (Nat.le_refl _) _ | refine below_tr ?_ (by assumption) | refine below_alloc ?_ | refine below_tr ?_ (below_regrown _ _ _)))⟩
  obtain ⟨x0, x1, hl⟩ := len_two (l := ks) (by omega)
  subst hl
  obtain ⟨g, o, ka, sa, ta, Aa, ma, ea, rfl, hR0, q0, q1, q2, q3, q4, q5, q6⟩ := RdEs.atv (j := 0) (e := x0) hk rfl
  obtain ⟨g2, o2, kb, sb, tb, Ab, mb, eb, hg2, hR1, r0, r1, r2, r3, r4, r5, r6⟩ := RdEs.atv (j := 1) (e := x1) hk rfl
  injection hg2 with hg2
  injection hg2 with hg2 ho2
  subst hg2 ho2
  rw [Nat.zero_mul, Nat.add_zero] at q0 q1 q2 q3 q4 q5 q6
  rw [Nat.one_mul] at r0 r1 r2 r3 r4 r5 r6
  have hm0 := (termOf_rd25 (vars := vars) (row := row) hR0).2 (z4 x0 (by simp))
  have hm1 := (termOf_rd25 (vars := vars) (row := row) hR1).2 (z4 x1 (by simp))
  have e0 := (termOf_rd25 (vars := vars) (row := row) hR0).1
  have e1 := (termOf_rd25 (vars := vars) (row := row) hR1).1
  have hT0 := fun W' (hb : Below W.heap.size W W') => r25Term vars row A1 A2 Aa c1 c2 ma ea ka sa ta W' hv hrl hm0.2 (k1.later hb) (RdTs.later k2 hb)
  have hT1 := fun W' (hb : Below W.heap.size W W') => r25Term vars row A1 A2 Ab c1 c2 mb eb kb sb tb W' hv hrl hm1.2 (k1.later hb) (RdTs.later k2 hb)
  rw [← e0] at hT0
  rw [← e1] at hT1
  have Hw0 : Hid (res = twoI k [termOf vars row n x0, termOf vars row n x1]) := by
    show res = _
    rw [← Hres.out, ofI]
    rcases hkk with rfl | rfl | rfl | rfl | rfl | rfl <;> rfl
  have y0 := getD_sz fun u h => termP_sz (u := u) hzr hm0.1 (e0.symm.trans h)
  have y1 := getD_sz fun u h => termP_sz (u := u) hzr hm1.1 (e1.symm.trans h)
  have i0 := opt_is (o := termOf vars row n x0)
  have i1 := opt_is (o := termOf vars row n x1)
  unfold optV tmV at hT0 hT1
  rw [i0, i1] at Hw0
  clear i0 i1 e0 e1
  generalize (termOf vars row n x0).getD zTm = u0 at *
  generalize (termOf vars row n x1).getD zTm = u1 at *
  generalize (termOf vars row n x0).isSome = v0 at *
  generalize (termOf vars row n x1).isSome = v1 at *
  have hC := fun W' => r25Compared k u0 u1 W' y0 y1
  have HT1 := Lib.hid hT1
  have HC := Lib.hid hC
  have hT00 := hT0 W (Below.refl _ _)
  have Q := Lib.hid (And.intro b0 (And.intro b6 (And.intro r0 (And.intro r1 (And.intro r2 (And.intro r3 (And.intro r4 (And.intro r5 r6))))))))
  have HWx : Hid (w.alloc (.cells #[.int .i64 k, .string s, .int .i64 t.k, .string t.x, .string t.l, .string t.y, .slice (some ⟨g, o, none⟩) 2 c] 31) = W) := HW.out
  clear hk k1 k2 _ih z4 zn hkn z1 z2 z3 z2' hR0 hR1 hm0 hm1 hT0 hT1 hC h1 Hres hv hrl hzr y0 y1 r0 r1 r2 r3 r4 r5 r6 b0 b1 b2 b3 b4 b5 b6 HW
  have hWe := HWx.out
  subst hWe
  rcases hkk with rfl | rfl | rfl | rfl | rfl | rfl
  all_goals
    go_enter Tryz.func32, Tryz.ntmps32
    go_wp2_with fail
    refine hT00.mono ?_
    rintro e w2 ⟨rfl, hb2⟩
    have B2u : Below w2.heap.size w2 (w2.alloc (.cells #[.int .i64 u0.k, .string u0.x, .string u0.l, .string u0.y] 28)) := (by repeat (first | exact Below.refl _ _ | assumption | exact (Below.refl _ _).alloc (Nat.le_refl _) _ | refine below_tr ?_ (by assumption) | refine below_alloc ?_ | refine below_tr ?_ (below_regrown _ _ _)))
    have BU := below_tr hb2 B2u
    obtain ⟨p0, p6, r0, r1, r2, r3, r4, r5, r6⟩ := Q.out
    replace p0 := cell_on p0 BU
    replace p6 := cell_on p6 BU
    replace r0 := cell_on r0 BU
    replace r1 := cell_on r1 BU
    replace r2 := cell_on r2 BU
    replace r3 := cell_on r3 BU
    replace r4 := cell_on r4 BU
    replace r5 := cell_on r5 BU
    replace r6 := cell_on r6 BU
    have hc := HT1.out _ BU
    have s1 := cell_lt p0
    have s2 := cell_lt r0
    have hnew := heap_alloc_new w2 (.cells #[.int .i64 u0.k, .string u0.x, .string u0.l, .string u0.y] 28)
    have HBU := Lib.hid BU
    clear hT00 q0 q1 q2 q3 q4 q5 q6 hb2 B2u BU
    go_wp2_with fail
    refine hc.mono ?_
    rintro e w3 ⟨rfl, hb3⟩
    have B3u : Below w3.heap.size w3 (w3.alloc (.cells #[.int .i64 u1.k, .string u1.x, .string u1.l, .string u1.y] 28)) := (by repeat (first | exact Below.refl _ _ | assumption | exact (Below.refl _ _).alloc (Nat.le_refl _) _ | refine below_tr ?_ (by assumption) | refine below_alloc ?_ | refine below_tr ?_ (below_regrown _ _ _)))
    have BU3 := below_tr hb3 B3u
    have a0 : (w3.alloc (.cells #[.int .i64 u1.k, .string u1.x, .string u1.l, .string u1.y] 28)).cell? ⟨w2.heap.size, 0, none⟩ = some (.int .i64 u0.k) := cell_on (by rw [World.cell?, hnew]; rfl) BU3
    have a1 : (w3.alloc (.cells #[.int .i64 u1.k, .string u1.x, .string u1.l, .string u1.y] 28)).cell? ⟨w2.heap.size, 1, none⟩ = some (.string u0.x) := cell_on (by rw [World.cell?, hnew]; rfl) BU3
    have a2 : (w3.alloc (.cells #[.int .i64 u1.k, .string u1.x, .string u1.l, .string u1.y] 28)).cell? ⟨w2.heap.size, 2, none⟩ = some (.string u0.l) := cell_on (by rw [World.cell?, hnew]; rfl) BU3
    have a3 : (w3.alloc (.cells #[.int .i64 u1.k, .string u1.x, .string u1.l, .string u1.y] 28)).cell? ⟨w2.heap.size, 3, none⟩ = some (.string u0.y) := cell_on (by rw [World.cell?, hnew]; rfl) BU3
    replace p0 := cell_on p0 BU3
    have HB3 := Lib.hid (HB0.out.trans ((below_tr HBU.out BU3).mono HB0.out.size))
    have hcc := HC.out (w3.alloc (.cells #[.int .i64 u1.k, .string u1.x, .string u1.l, .string u1.y] 28))
    clear hc r0 r1 r2 r3 r4 r5 r6 p6 hb3 B3u BU3 hnew
    cases v0
    · have Hw : Hid (res = 3) := by show res = _; rw [Hw0.out]; rfl
      clear hcc
      go_wp2
      go_ret
      exact ⟨congrArg (fun q => Ending.returned (Value.int .i64 q)) Hw.out.symm, HB3.out⟩
    · cases v1
      · have Hw : Hid (res = 3) := by show res = _; rw [Hw0.out]; rfl
        clear hcc
        go_wp2
        go_ret
        exact ⟨congrArg (fun q => Ending.returned (Value.int .i64 q)) Hw.out.symm, HB3.out⟩
      · go_wp2_with (refine hcc.mono ?_; rintro e w4 ⟨rfl, hb4⟩)
        go_ret
        exact ⟨congrArg (fun q => Ending.returned (Value.int .i64 q)) Hw0.out.symm, below_tr HB3.out hb4⟩
set_option maxRecDepth 20000 in
set_option maxHeartbeats 4000000 in
theorem r25Of1 (vars : List ByteArray) (row : List Tm) (hv : vars.length ≤ 281474976710656) (hrl : row.length ≤ 281474976710656) (_hzr : szRow row) (n : Nat) (_ih : R25O vars row n) (k : Int) (hkk : (k = 12 ∨ k = 13 ∨ k = 14)) : R25OK vars row n k := by
  rintro s t ks cs A1 A2 c1 c2 w hr1 hr2 ⟨A, c, rfl, hc1, hr⟩ ⟨z1, z2, z3, z4⟩ ⟨hkn, zn⟩
  obtain ⟨res, hres⟩ : ∃ r : Int, ofI vars row (n + 1) ((k, s, t, ks) : ExT (n + 1)) = r := ⟨_, rfl⟩
  rw [hres]
  have Hres := Lib.hid hres
  obtain ⟨W, hW⟩ : ∃ W : World, w.alloc (.cells #[.int .i64 k, .string s, .int .i64 t.k, .string t.x, .string t.l, .string t.y, .slice A ks.length c] 31) = W := ⟨_, rfl⟩
  have hB0 : Below w.heap.size w W := by rw [← hW]; exact (by repeat (first | exact Below.refl _ _ | assumption | exact (Below.refl _ _).alloc (Nat.le_refl _) _ | refine below_tr ?_ (by assumption) | refine below_alloc ?_ | refine below_tr ?_ (below_regrown _ _ _)))
  have b0 : W.cell? ⟨w.heap.size, 0, none⟩ = some (.int .i64 k) := by rw [← hW, World.cell?, heap_alloc_new]; rfl
  have b1 : W.cell? ⟨w.heap.size, 1, none⟩ = some (.string s) := by rw [← hW, World.cell?, heap_alloc_new]; rfl
  have b2 : W.cell? ⟨w.heap.size, 2, none⟩ = some (.int .i64 t.k) := by rw [← hW, World.cell?, heap_alloc_new]; rfl
  have b3 : W.cell? ⟨w.heap.size, 3, none⟩ = some (.string t.x) := by rw [← hW, World.cell?, heap_alloc_new]; rfl
  have b4 : W.cell? ⟨w.heap.size, 4, none⟩ = some (.string t.l) := by rw [← hW, World.cell?, heap_alloc_new]; rfl
  have b5 : W.cell? ⟨w.heap.size, 5, none⟩ = some (.string t.y) := by rw [← hW, World.cell?, heap_alloc_new]; rfl
  have b6 : W.cell? ⟨w.heap.size, 6, none⟩ = some (.slice A ks.length c) := by rw [← hW, World.cell?, heap_alloc_new]; rfl
  have hk := RdEs.later hr hB0
  have k1 := hr1.later hB0
  have k2 := RdTs.later hr2 hB0
  have HW := Lib.hid hW
  have HB0 := Lib.hid hB0
  have z2' : t.x.size ≤ 281474976710656 := by omega
  clear hW hr hB0 hres hr1 hr2
  by_cases h1 : (ks.length : Int) = 1
  case neg =>
    have Hw : Hid (res = 3) := by
      show res = _
      rw [← Hres.out, ofI]
      rcases hkk with rfl | rfl | rfl <;> exact oneI_no (by rw [List.length_map]; omega)
    have hne : ((ks.length : Int) != 1) = true := by rw [bne_iff_ne]; exact h1
    generalize ks.length = m at *
    clear hk k1 k2 _ih z4 zn h1 hkn
    rcases hkk with rfl | rfl | rfl
    all_goals
      go_enter Tryz.func32, Tryz.ntmps32
      go_wp2_with fail
      try simp only [HW.out]
      go_wp2
      go_ret
      exact ⟨congrArg (fun q => Ending.returned (Value.int .i64 q)) Hw.out.symm, by first | exact HB0.out | exact (by repeat (first | exact Below.refl _ _ | assumption | exact (Below.refl _ _).alloc (Nat.le_refl _) _ | refine below_tr ?_ (by assumption) | refine below_alloc ?_ | refine below_tr ?_ (below_regrown _ _ _)))⟩
  obtain ⟨x0, hl⟩ := len_one (l := ks) (by omega)
  subst hl
  obtain ⟨g, o, ka, sa, ta, Aa, ma, ea, rfl, hR0, q0, q1, q2, q3, q4, q5, q6⟩ := RdEs.atv (j := 0) (e := x0) hk rfl
  rw [Nat.zero_mul, Nat.add_zero] at q0 q1 q2 q3 q4 q5 q6
  have hm0 := (termOf_rd25 (vars := vars) (row := row) hR0).2 (z4 x0 (by simp))
  have e0 := (termOf_rd25 (vars := vars) (row := row) hR0).1
  have hT0 := r25Term vars row A1 A2 Aa c1 c2 ma ea ka sa ta W hv hrl hm0.2 k1 k2
  rw [← e0] at hT0
  have Hw0 : Hid (res = oneI k [termOf vars row n x0]) := by
    show res = _
    rw [← Hres.out, ofI]
    rcases hkk with rfl | rfl | rfl <;> rfl
  have i0 := opt_is (o := termOf vars row n x0)
  unfold optV tmV at hT0
  rw [i0] at Hw0
  clear i0 e0
  generalize (termOf vars row n x0).getD zTm = u0 at *
  generalize (termOf vars row n x0).isSome = v0 at *
  have Q := Lib.hid b0
  have HWx : Hid (w.alloc (.cells #[.int .i64 k, .string s, .int .i64 t.k, .string t.x, .string t.l, .string t.y, .slice (some ⟨g, o, none⟩) 1 c] 31) = W) := HW.out
  clear hk k1 k2 _ih z4 zn hkn z1 z2 z3 z2' hR0 hm0 h1 Hres hv hrl _hzr b0 b1 b2 b3 b4 b5 b6 HW
  have hWe := HWx.out
  subst hWe
  obtain ⟨uk, ux, ul, uy⟩ := u0
  simp only at hT0
  rcases hkk with rfl | rfl | rfl
  all_goals
    go_enter Tryz.func32, Tryz.ntmps32
    go_wp2_with fail
    refine hT0.mono ?_
    rintro e w2 ⟨rfl, hb2⟩
    have B2u : Below w2.heap.size w2 (w2.alloc (.cells #[.int .i64 uk, .string ux, .string ul, .string uy] 28)) := (by repeat (first | exact Below.refl _ _ | assumption | exact (Below.refl _ _).alloc (Nat.le_refl _) _ | refine below_tr ?_ (by assumption) | refine below_alloc ?_ | refine below_tr ?_ (below_regrown _ _ _)))
    have BU := below_tr hb2 B2u
    have p0 := cell_on Q.out BU
    have hLit := refLiteral uk ux ul uy (w2.alloc (.cells #[.int .i64 uk, .string ux, .string ul, .string uy] 28))
    have HBU := Lib.hid (HB0.out.trans (BU.mono HB0.out.size))
    clear hT0 q0 q1 q2 q3 q4 q5 q6 hb2 B2u BU
    cases v0
    · have Hw : Hid (res = 3) := by show res = _; rw [Hw0.out]; rfl
      clear hLit
      go_wp2
      go_ret
      exact ⟨congrArg (fun q => Ending.returned (Value.int .i64 q)) Hw.out.symm, HBU.out⟩
    · go_wp2_with (first
        | (go_at_call 49; refine hLit.mono ?_; rintro e w3 ⟨rfl, hb3⟩)
        | (go_at_call 45; refine (refTold _ _).mono ?_; rintro e w4 ⟨rfl, rfl⟩))
      go_ret
      exact ⟨congrArg (fun q => Ending.returned (Value.int .i64 q)) Hw0.out.symm, by first | exact HBU.out | exact below_tr HBU.out hb3⟩
set_option maxRecDepth 20000 in
set_option maxHeartbeats 4000000 in
theorem r25Of0 (vars : List ByteArray) (row : List Tm) (_hv : vars.length ≤ 281474976710656) (_hrl : row.length ≤ 281474976710656) (_hzr : szRow row) (n : Nat) (_ih : R25O vars row n) (k : Int) (hkk : (k < 1 ∨ 14 < k)) : R25OK vars row n k := by
  rintro s t ks cs A1 A2 c1 c2 w hr1 hr2 ⟨A, c, rfl, hc1, hr⟩ ⟨z1, z2, z3, z4⟩ ⟨hkn, zn⟩
  obtain ⟨res, hres⟩ : ∃ r : Int, ofI vars row (n + 1) ((k, s, t, ks) : ExT (n + 1)) = r := ⟨_, rfl⟩
  rw [hres]
  have Hres := Lib.hid hres
  obtain ⟨W, hW⟩ : ∃ W : World, w.alloc (.cells #[.int .i64 k, .string s, .int .i64 t.k, .string t.x, .string t.l, .string t.y, .slice A ks.length c] 31) = W := ⟨_, rfl⟩
  have hB0 : Below w.heap.size w W := by rw [← hW]; exact (by repeat (first | exact Below.refl _ _ | assumption | exact (Below.refl _ _).alloc (Nat.le_refl _) _ | refine below_tr ?_ (by assumption) | refine below_alloc ?_ | refine below_tr ?_ (below_regrown _ _ _)))
  have b0 : W.cell? ⟨w.heap.size, 0, none⟩ = some (.int .i64 k) := by rw [← hW, World.cell?, heap_alloc_new]; rfl
  have b1 : W.cell? ⟨w.heap.size, 1, none⟩ = some (.string s) := by rw [← hW, World.cell?, heap_alloc_new]; rfl
  have b2 : W.cell? ⟨w.heap.size, 2, none⟩ = some (.int .i64 t.k) := by rw [← hW, World.cell?, heap_alloc_new]; rfl
  have b3 : W.cell? ⟨w.heap.size, 3, none⟩ = some (.string t.x) := by rw [← hW, World.cell?, heap_alloc_new]; rfl
  have b4 : W.cell? ⟨w.heap.size, 4, none⟩ = some (.string t.l) := by rw [← hW, World.cell?, heap_alloc_new]; rfl
  have b5 : W.cell? ⟨w.heap.size, 5, none⟩ = some (.string t.y) := by rw [← hW, World.cell?, heap_alloc_new]; rfl
  have b6 : W.cell? ⟨w.heap.size, 6, none⟩ = some (.slice A ks.length c) := by rw [← hW, World.cell?, heap_alloc_new]; rfl
  have hk := RdEs.later hr hB0
  have k1 := hr1.later hB0
  have k2 := RdTs.later hr2 hB0
  have HW := Lib.hid hW
  have HB0 := Lib.hid hB0
  have z2' : t.x.size ≤ 281474976710656 := by omega
  clear hW hr hB0 hres hr1 hr2
  have Hw : Hid (res = 3) := by
    show res = _
    rw [← Hres.out, ofI]
    have e : ∀ i : Int, k ≠ i → (k == i) = false := fun i h => by simpa using h
    have f1 : isCmp k = false := by unfold isCmp; simp; omega
    have f2 : isKind k = false := by unfold isKind; simp; omega
    rw [e 1 (by omega), e 2 (by omega), e 3 (by omega), e 4 (by omega), e 5 (by omega), f1, f2]; rfl
  have n1 : ¬ k = 1 := by omega
  have n2 : ¬ k = 2 := by omega
  have n3 : ¬ k = 3 := by omega
  have n4 : ¬ k = 4 := by omega
  have n5 : ¬ k = 5 := by omega
  have n6 : ¬ k = 6 := by omega
  have n7 : ¬ k = 7 := by omega
  have n8 : ¬ k = 8 := by omega
  have n9 : ¬ k = 9 := by omega
  have n10 : ¬ k = 10 := by omega
  have n11 : ¬ k = 11 := by omega
  have n12 : ¬ k = 12 := by omega
  have n13 : ¬ k = 13 := by omega
  have n14 : ¬ k = 14 := by omega
  clear hk k1 k2 _ih z4 zn hkk
  go_enter Tryz.func32, Tryz.ntmps32
  go_wp2_with fail
  try simp only [HW.out]
  go_wp2
  go_ret
  exact ⟨congrArg (fun q => Ending.returned (Value.int .i64 q)) Hw.out.symm, by first | exact HB0.out | exact (by repeat (first | exact Below.refl _ _ | assumption | exact (Below.refl _ _).alloc (Nat.le_refl _) _ | refine below_tr ?_ (by assumption) | refine below_alloc ?_ | refine below_tr ?_ (below_regrown _ _ _)))⟩
theorem r25Of (vars : List ByteArray) (row : List Tm) (hv : vars.length ≤ 281474976710656) (hrl : row.length ≤ 281474976710656) (hzr : szRow row) : ∀ n : Nat, R25O vars row n
  | 0 => fun _ _ _ _ _ _ _ _ _ h _ _ => h.elim
  | n + 1 => by
    have ih := r25Of vars row hv hrl hzr n
    rintro ⟨k, s, t, ks⟩ cs A1 A2 c1 c2 w h1 h2 hr hz hn
    by_cases h : k < 1 ∨ 14 < k
    · exact r25Of0 vars row hv hrl hzr n ih k h s t ks cs A1 A2 c1 c2 w h1 h2 hr hz hn
    by_cases ha : k = 1 ∨ k = 2
    · exact r25Of12 vars row hv hrl hzr n ih k ha s t ks cs A1 A2 c1 c2 w h1 h2 hr hz hn
    by_cases hb : k = 3
    · exact r25Of3 vars row hv hrl hzr n ih k hb s t ks cs A1 A2 c1 c2 w h1 h2 hr hz hn
    by_cases hc : k = 4 ∨ k = 5
    · exact r25Of45 vars row hv hrl hzr n ih k hc s t ks cs A1 A2 c1 c2 w h1 h2 hr hz hn
    by_cases hd : k = 12 ∨ k = 13 ∨ k = 14
    · exact r25Of1 vars row hv hrl hzr n ih k hd s t ks cs A1 A2 c1 c2 w h1 h2 hr hz hn
    · exact r25Of2 vars row hv hrl hzr n ih k (by omega) s t ks cs A1 A2 c1 c2 w h1 h2 hr hz hn
set_option maxRecDepth 20000 in
set_option maxHeartbeats 2000000 in
theorem r25Keeps (vars : List ByteArray) (row : List Tm) (hv : vars.length ≤ 281474976710656) (hrl : row.length ≤ 281474976710656) (hzr : szRow row) (n : Nat) (l : List (ExT n)) (A A1 A2 : Option Addr) (c c1 c2 : Nat) (w : World)
    (hr : RdEs n w A l) (h1 : Rd w A1 (vars.map Value.string)) (h2 : RdTs w A2 row) (hl : l.length ≤ 1000000000) (hz : ∀ x ∈ l, szE n x) (hn : ∀ x ∈ l, szN n x) :
    Calls Tryz.prog 34 #[.slice A l.length c, .slice A1 vars.length c1, .slice A2 row.length c2] w fun e w' => e = .returned (.bool (!failsI vars row n l)) ∧ Below w.heap.size w w' := by
  have HR := Lib.hid hr
  have H1 := Lib.hid h1
  have H2 := Lib.hid h2
  have HZ := Lib.hid hz
  have HN := Lib.hid hn
  have hO := r25Of vars row hv hrl hzr n
  have HO := Lib.hid hO
  have hl' : (l.length : Int) ≤ 1000000000 := by omega
  clear hr h1 h2 hz hn hO
  go_enter Tryz.func34, Tryz.ntmps34
  go_wp2
  go_loopw [7] (fun i wr => ∃ j : Nat, j ≤ l.length ∧ i = .int .i64 j ∧ Hid (failsI vars row n l = failsI vars row n (l.drop j)) ∧ Below w.heap.size w wr) (fun i _ => l.length - (intOf i).toNat)
  case atStart => exact ⟨0, by omega, rfl, rfl, Below.refl _ _⟩
  case round =>
    obtain ⟨j, hj, rfl, H, hB⟩ := hrel
    by_cases hlt : j < l.length
    · obtain ⟨x, hx⟩ : ∃ x, l[j]? = some x := ⟨_, List.getElem?_eq_getElem hlt⟩
      obtain ⟨g, o, k0, s0, t0, A0, m0, e0, rfl, hR, q0, q1, q2, q3, q4, q5, q6⟩ := (RdEs.later HR.out hB).atv hx
      have hS := HO.out x _ A1 A2 c1 c2 wr (H1.out.later hB) (RdTs.later H2.out hB) hR (HZ.out x (List.mem_of_getElem? hx)) (HN.out x (List.mem_of_getElem? hx))
      have Hf : Hid (failsI vars row n l = (!(ofI vars row n x == 1) || failsI vars row n (l.drop (j + 1)))) := by show _ = _; rw [H.out, drop_cons_of hx]; rfl
      have HB := Lib.hid hB
      generalize ofI vars row n x = v at *
      clear hx hR H hB
      by_cases hv1 : v = 1
      · subst hv1
        go_wp2_with (go_at_call 32; refine hS.mono ?_; rintro e w2 ⟨rfl, hb2⟩)
        go_roundw
        case rel => exact ⟨j + 1, by omega, by go_num, by show _ = _; rw [Hf.out]; rfl, below_tr HB.out hb2⟩
        case measure => simp [intOf]; omega
      · have hne : (v != 1) = true := by simpa using hv1
        have Hw : Hid (failsI vars row n l = true) := by
          show _ = _
          rw [Hf.out, show (v == 1) = false by simpa using hv1]; rfl
        go_wp2_with (go_at_call 32; refine hS.mono ?_; rintro e w2 ⟨rfl, hb2⟩)
        go_ret
        exact ⟨congrArg (fun q => Ending.returned (Value.bool (!q))) Hw.out.symm, below_tr HB.out hb2⟩
    · have Hw : Hid (failsI vars row n l = false) := by show _ = _; rw [H.out, List.drop_eq_nil_of_le (by omega)]; rfl
      go_wp2
      go_ret
      exact ⟨congrArg (fun q => Ending.returned (Value.bool (!q))) Hw.out.symm, hB⟩
end Go.Proofs.YtfijpdmkdoccjaaGreatDoor
