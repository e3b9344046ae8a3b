/- Layer 10's laws, walked: LinesShow. Printed by gen/law10b.py. -/
import Derived.Test.YtffpgandgajihaaGreatDoorJLaw10a
import Derived.Test.YtffpgandgajihaaGreatDoorJLnBack
import Derived.Test.YtffpgandgajihaaGreatDoorJR8e
namespace Go.Proofs.YtffpgandgajihaaGreatDoor
open Go Go.RowKit Um Fm Lx Tx
set_option maxRecDepth 100000 in
set_option maxHeartbeats 2000000 in
theorem run_eqTpp (a : Tp) (W : World) : (binOp .eql 37 (tpA a) (tpA a)).run Tryz.prog W = .ok (.bool true) W := by
  have h0 := Tryz.underlying35
  have h1 := Tryz.underlying33
  have h2 := Tryz.underlying9
  have h3 := Tryz.underlying37
  simp [go_sem, h0, h1, h2, h3]
set_option maxRecDepth 100000 in
set_option maxHeartbeats 8000000 in
theorem show_walk (t : Tm) (s : ByteArray) (w : World) (hC : CtxA w) (hs1 : hugeT t) (hs2 : s.size ≤ 281474976710656) :
    Calls Tryz.prog 5 #[tA t, .string s] w fun e w' => e = .returned (.bool true) ∧ Below w.heap.size w w' := by
  have b0 : Below w.heap.size w (w.alloc (.cells (tC8 t) 35)) := (Below.refl _ _).alloc (Nat.le_refl _) _
  have HT0 : Hid (bkT w.heap.size 35 (tC8 t) (w.alloc (.cells (tC8 t) 35))) := heap_alloc_new w _
  have hA := lawAwake10 _ (hC.step b0)
  have HC := Lib.hid hC
  have HB0 := Lib.hid b0
  unfold hugeT at hs1
  obtain ⟨g1, g2, g3⟩ := hs1
  clear hC b0
  go_enter Tryz.func5, Tryz.ntmps5
  go_wp2_with fail
  refine hA.mono ?_
  rintro e W1 ⟨rfl, b1⟩
  have HB1 := Lib.hid (below_tr HB0.out b1)
  have HT1 := Lib.hid (HT0.out.step b1)
  have c0 := HT1.out.cell 0 rfl
  have c1 := HT1.out.cell 1 rfl
  have c2 := HT1.out.cell 2 rfl
  have c3 := HT1.out.cell 3 rfl
  have lt1 := HT1.out.lt
  clear b1 hA
  by_cases hbig : 10000 < t.x.size + t.l.size + t.y.size + s.size
  · have hd : decide ((10000 : Int) < (t.x.size : Int) + (t.l.size : Int) + (t.y.size : Int) + (s.size : Int)) = true := decide_eq_true (by omega)
    clear hbig
    go_wp2
    go_ret
    exact ⟨rfl, HB1.out⟩
  have hd : decide ((10000 : Int) < (t.x.size : Int) + (t.l.size : Int) + (t.y.size : Int) + (s.size : Int)) = false := decide_eq_false (by omega)
  have hsm : smallT t := ⟨by omega, by omega, by omega⟩
  have hs : s.size ≤ 10000 := by omega
  have hSh := fun W (hC : CtxA W) => termShow t W hC.t hsm
  have hT := linesTerm s W1 (HC.out.step HB1.out).l (HC.out.step HB1.out).t (by omega)
  have hR := @term_right s.data.toList (by rw [size_toList]; omega)
  have hN := @term_none s.data.toList (by rw [size_toList]; omega)
  rw [size_toList] at hN
  have hsmu : smallT (termL s.data.toList).1 := by
    unfold termL
    split
    · split
      · exact small_z
      · exact readL_small (by rw [size_toList]; omega)
    · exact small_z
  generalize termL s.data.toList = q at *
  obtain ⟨u, at1, er⟩ := q
  simp only at hT hR hN hsmu
  clear hbig
  go_wp2_with fail
  refine hT.mono ?_
  rintro e W2 ⟨rfl, b2⟩
  have b3 : Below W2.heap.size W2 (W2.alloc (.cells (tC8 u) 35)) := (Below.refl _ _).alloc (Nat.le_refl _) _
  have HU3 : Hid (bkT W2.heap.size 35 (tC8 u) (W2.alloc (.cells (tC8 u) 35))) := heap_alloc_new W2 _
  have HB3 := Lib.hid (below_tr (below_tr HB1.out b2) b3)
  have HT3 := Lib.hid ((HT1.out.step b2).step b3)
  clear b2 b3 hT c0 c1 c2 c3 lt1
  go_upto_region 6 with fail
  change Code.wp _ _ _ _ (W2.alloc (.cells (tC8 u) 35))
  generalize W2.alloc (.cells (tC8 u) 35) = W3 at *
  generalize W2.heap.size = y at *
  have u0 := HU3.out.cell 0 rfl
  have u1 := HU3.out.cell 1 rfl
  have u2 := HU3.out.cell 2 rfl
  have u3 := HU3.out.cell 3 rfl
  have lu := HU3.out.lt
  by_cases he : er = 0
  · obtain ⟨hh, h0⟩ := hR he
    subst he
    subst h0
    have hS := termShow u W3 (HC.out.step HB3.out).t hsmu
    rw [show_yes hh] at hS
    have hx1 : (mkS (textL u)).size ≤ 4096 := by rw [mkS_size]; exact (hasT_right hh).2
    have hx2 : ((⟨#[9]⟩ : ByteArray) ++ mkS (textL u) ++ ⟨#[32, 35, 32, 60]⟩) = mkS (9 :: (textL u ++ [32, 35, 32, 60])) := ba_ext (by simp [ByteArray.data_append])
    have hx3 : (mkS (9 :: (textL u ++ [32, 35, 32, 60]))).size ≤ 5000 := by
      have h1 := hx1
      rw [mkS_size] at h1
      rw [mkS_size]; simp; omega
    have hT2 := fun W (hB : Below w.heap.size w W) => linesTerm (mkS (9 :: (textL u ++ [32, 35, 32, 60]))) W (HC.out.step hB).l (HC.out.step hB).t (by omega)
    rw [mkS_data, term_blank hh] at hT2
    have hq := fun W => run_neTm u u W
    rw [sameTm_iff.2 rfl] at hq
    clear hR hN hh
    generalize mkS (textL u) = xu at *
    generalize mkS (9 :: (textL u ++ [32, 35, 32, 60])) = xv at *
    go_wp2_with fail
    refine hS.mono ?_
    rintro e W4 ⟨rfl, b4⟩
    have HB4 := Lib.hid (below_tr HB3.out b4)
    have HU4 := Lib.hid (HU3.out.step b4)
    have HT4 := Lib.hid (HT3.out.step b4)
    clear b4 hS u0 u1 u2 u3 lu
    go_wp2_with fail
    refine (hT2 W4 HB4.out).mono ?_
    rintro e W5 ⟨rfl, b5⟩
    have b6 : Below W5.heap.size W5 (W5.alloc (.cells (tC8 u) 35)) := (Below.refl _ _).alloc (Nat.le_refl _) _
    have HX6 : Hid (bkT W5.heap.size 35 (tC8 u) (W5.alloc (.cells (tC8 u) 35))) := heap_alloc_new W5 _
    have HB6 := Lib.hid (below_tr (below_tr HB4.out b5) b6)
    have HU6 := Lib.hid ((HU4.out.step b5).step b6)
    have HT6 := Lib.hid ((HT4.out.step b5).step b6)
    clear b5 b6 hT2
    go_upto_region 9 with fail
    change Code.wp _ _ _ _ (W5.alloc (.cells (tC8 u) 35))
    generalize W5.alloc (.cells (tC8 u) 35) = W6 at *
    generalize W5.heap.size = y6 at *
    have u0 := HU6.out.cell 0 rfl
    have u1 := HU6.out.cell 1 rfl
    have u2 := HU6.out.cell 2 rfl
    have u3 := HU6.out.cell 3 rfl
    have lu := HU6.out.lt
    have p0 := HX6.out.cell 0 rfl
    have p1 := HX6.out.cell 1 rfl
    have p2 := HX6.out.cell 2 rfl
    have p3 := HX6.out.cell 3 rfl
    have lx := HX6.out.lt
    go_upto_region 13 with fail
    clear u0 u1 u2 u3 p0 p1 p2 p3 lu lx hx1 hx2 hx3 hq
    have ht2 := HT6.out
    have lt2 := ht2.lt
    have a0 := ht2.cell 0 rfl
    have a1 := ht2.cell 1 rfl
    have a2 := ht2.cell 2 rfl
    have a3 := ht2.cell 3 rfl
    clear ht2
    go_wp2_with fail
    refine (hSh _ (HC.out.step HB6.out)).mono ?_
    rintro e V1 ⟨rfl, b1⟩
    have HV1 := Lib.hid (below_tr HB6.out b1)
    have HU1 := Lib.hid (HT6.out.step b1)
    clear b1 a0 a1 a2 a3 lt2
    cases hh : hasT t
    · have hne : ((showP t).2 != (0 : Int)) = true := by rcases show_no hh with h | h <;> rw [h] <;> rfl
      generalize showP t = q2 at *
      obtain ⟨qs, qe⟩ := q2
      simp only at hne
      clear hh
      go_wp2
      go_ret
      exact ⟨rfl, HV1.out⟩
    · rw [show_yes hh]
      have hx1 : (mkS (textL t)).size ≤ 4096 := by rw [mkS_size]; exact (hasT_right hh).2
      have hx2 : ((⟨#[95, 58, 97, 32, 60, 98, 62]⟩ : ByteArray) ++ mkS (textL t) ++ ⟨#[46]⟩) = mkS (lineOf t) := ba_ext (by simp [ByteArray.data_append, lineOf])
      have hx3 : (mkS (lineOf t)).size ≤ 5000 := by
        rw [mkS_size] at hx1
        rw [mkS_size]; simp [lineOf]; omega
      have hT1 := linesTerm (mkS (textL t)) V1 (HC.out.step HV1.out).l (HC.out.step HV1.out).t (by omega)
      rw [mkS_data, term_text hh] at hT1
      have hP1 := fun W (hB : Below w.heap.size w W) => linesParse (mkS (lineOf t)) W (HC.out.step hB).l (HC.out.step hB).t (by omega)
      unfold ParseR at hP1
      rw [mkS_data, par_lineOf hh] at hP1
      have hq1 := fun W => run_eqTm t t W
      rw [sameTm_iff.2 rfl] at hq1
      have hq2 : ∀ W, (binOp .eql 37 (.agg #[.int .i64 2, .string ⟨#[97]⟩, .string ⟨#[]⟩, .string ⟨#[]⟩, .int .i64 1, .string ⟨#[98]⟩, .string ⟨#[]⟩, .string ⟨#[]⟩, .int .i64 t.k, .string t.x, .string t.l, .string t.y]) (.agg #[.int .i64 2, .string ⟨#[97]⟩, .string ⟨#[]⟩, .string ⟨#[]⟩, .int .i64 1, .string ⟨#[98]⟩, .string ⟨#[]⟩, .string ⟨#[]⟩, .int .i64 t.k, .string t.x, .string t.l, .string t.y])).run Tryz.prog W = .ok (.bool true) W := fun W => run_eqTpp ⟨tmA2, tmB1, t⟩ W
      clear hh
      generalize mkS (textL t) = xt at *
      generalize mkS (lineOf t) = xl at *
      go_wp2_with fail
      refine hT1.mono ?_
      rintro e V2 ⟨rfl, b2⟩
      have b3 : Below V2.heap.size V2 (V2.alloc (.cells (tC8 t) 35)) := (Below.refl _ _).alloc (Nat.le_refl _) _
      have HS3 : Hid (bkT V2.heap.size 35 (tC8 t) (V2.alloc (.cells (tC8 t) 35))) := heap_alloc_new V2 _
      have HV3 := Lib.hid (below_tr (below_tr HV1.out b2) b3)
      have HU3 := Lib.hid ((HU1.out.step b2).step b3)
      clear b2 b3
      go_upto_region 17 with fail
      change Code.wp _ _ _ _ (V2.alloc (.cells (tC8 t) 35))
      generalize V2.alloc (.cells (tC8 t) 35) = V3 at *
      generalize V2.heap.size = y3 at *
      go_wp2_with fail
      refine (hP1 V3 HV3.out).mono ?_
      rintro e V4 ⟨v4, rfl, own4, b4⟩
      obtain ⟨A4, c4, rfl, hc4, hr4⟩ := own_slice own4
      have HV4 := Lib.hid (below_tr HV3.out b4)
      have u4 := HU3.out.step b4
      have s4 := HS3.out.step b4
      clear b4 own4
      go_wp2_with fail
      obtain ⟨g, o, rfl, r0⟩ := hr4.at_ (j := 0) (u := .int .i64 2) rfl
      rw [Nat.add_zero] at r0
      obtain ⟨g', o', he', r1⟩ := hr4.at_ (j := 1) (u := .string ⟨#[97]⟩) rfl
      injection he' with he'; injection he' with h5 h6; subst h5; subst h6
      obtain ⟨g', o', he', r2⟩ := hr4.at_ (j := 2) (u := .string ⟨#[]⟩) rfl
      injection he' with he'; injection he' with h5 h6; subst h5; subst h6
      obtain ⟨g', o', he', r3⟩ := hr4.at_ (j := 3) (u := .string ⟨#[]⟩) rfl
      injection he' with he'; injection he' with h5 h6; subst h5; subst h6
      obtain ⟨g', o', he', r4⟩ := hr4.at_ (j := 4) (u := .int .i64 1) rfl
      injection he' with he'; injection he' with h5 h6; subst h5; subst h6
      obtain ⟨g', o', he', r5⟩ := hr4.at_ (j := 5) (u := .string ⟨#[98]⟩) rfl
      injection he' with he'; injection he' with h5 h6; subst h5; subst h6
      obtain ⟨g', o', he', r6⟩ := hr4.at_ (j := 6) (u := .string ⟨#[]⟩) rfl
      injection he' with he'; injection he' with h5 h6; subst h5; subst h6
      obtain ⟨g', o', he', r7⟩ := hr4.at_ (j := 7) (u := .string ⟨#[]⟩) rfl
      injection he' with he'; injection he' with h5 h6; subst h5; subst h6
      obtain ⟨g', o', he', r8⟩ := hr4.at_ (j := 8) (u := .int .i64 t.k) rfl
      injection he' with he'; injection he' with h5 h6; subst h5; subst h6
      obtain ⟨g', o', he', r9⟩ := hr4.at_ (j := 9) (u := .string t.x) rfl
      injection he' with he'; injection he' with h5 h6; subst h5; subst h6
      obtain ⟨g', o', he', r10⟩ := hr4.at_ (j := 10) (u := .string t.l) rfl
      injection he' with he'; injection he' with h5 h6; subst h5; subst h6
      obtain ⟨g', o', he', r11⟩ := hr4.at_ (j := 11) (u := .string t.y) rfl
      injection he' with he'; injection he' with h5 h6; subst h5; subst h6
      have R0 := fun d os => cell_on r0 (below_regrown V4 d os)
      have R1 := fun d os => cell_on r1 (below_regrown V4 d os)
      have R2 := fun d os => cell_on r2 (below_regrown V4 d os)
      have R3 := fun d os => cell_on r3 (below_regrown V4 d os)
      have R4 := fun d os => cell_on r4 (below_regrown V4 d os)
      have R5 := fun d os => cell_on r5 (below_regrown V4 d os)
      have R6 := fun d os => cell_on r6 (below_regrown V4 d os)
      have R7 := fun d os => cell_on r7 (below_regrown V4 d os)
      have R8 := fun d os => cell_on r8 (below_regrown V4 d os)
      have R9 := fun d os => cell_on r9 (below_regrown V4 d os)
      have R10 := fun d os => cell_on r10 (below_regrown V4 d os)
      have R11 := fun d os => cell_on r11 (below_regrown V4 d os)
      have U0 := fun d os => cell_on (u4.cell 0 rfl) (below_regrown V4 d os)
      have S0 := fun d os => cell_on (s4.cell 0 rfl) (below_regrown V4 d os)
      have U1 := fun d os => cell_on (u4.cell 1 rfl) (below_regrown V4 d os)
      have S1 := fun d os => cell_on (s4.cell 1 rfl) (below_regrown V4 d os)
      have U2 := fun d os => cell_on (u4.cell 2 rfl) (below_regrown V4 d os)
      have S2 := fun d os => cell_on (s4.cell 2 rfl) (below_regrown V4 d os)
      have U3 := fun d os => cell_on (u4.cell 3 rfl) (below_regrown V4 d os)
      have S3 := fun d os => cell_on (s4.cell 3 rfl) (below_regrown V4 d os)
      have hBl := fun W => termBlank ⟨#[97]⟩ W
      have hIr := fun W => termIri ⟨#[98]⟩ W
      clear hr4 u4 s4 r0 r1 r2 r3 r4 r5 r6 r7 r8 r9 r10 r11 hP1 hT1
      refine wp_region_quiet_below (by kernel_rfl) (by kernel_rfl) ?_; (repeat (any_goals (go_big_quiet_step ((first | (go_at_call 15; with_reducible exact Calls.regrown_of (hBl _)) | (go_at_call 16; with_reducible exact Calls.regrown_of (hIr _))))))); all_goals (refine wpQuiet_nil ?_; intro _ hw9; obtain ⟨⟨d9, os9⟩, hw8⟩ := hw9; subst hw8)
      clear R0 R1 R2 R3 R4 R5 R6 R7 R8 R9 R10 R11 U0 U1 U2 U3 S0 S1 S2 S3
      go_wp2
      go_ret
      exact ⟨rfl, below_tr HV4.out (below_regrown _ _ _)⟩

  · obtain ⟨hz, hat⟩ := hN he
    subst hz
    have hne : (er == (0 : Int)) = false := by simpa using he
    have hq0 := fun W => run_neTm zTm zTm W
    rw [sameTm_iff.2 rfl] at hq0
    have hq : ∀ W, (binOp .neq 35 (.agg #[.int .i64 0, .string ⟨#[]⟩, .string ⟨#[]⟩, .string ⟨#[]⟩]) (.agg #[.int .i64 0, .string ⟨#[]⟩, .string ⟨#[]⟩, .string ⟨#[]⟩])).run Tryz.prog W = .ok (.bool false) W := hq0
    change W3.cell? ⟨y, 0, none⟩ = some (.int .i64 0) at u0
    change W3.cell? ⟨y, 1, none⟩ = some (.string ⟨#[]⟩) at u1
    change W3.cell? ⟨y, 2, none⟩ = some (.string ⟨#[]⟩) at u2
    change W3.cell? ⟨y, 3, none⟩ = some (.string ⟨#[]⟩) at u3
    clear hq0
    clear hR hN he hsmu HU3
    go_upto_region 13 with fail
    clear u0 u1 u2 u3 lu hq hne
    have ht2 := HT3.out
    have lt2 := ht2.lt
    have a0 := ht2.cell 0 rfl
    have a1 := ht2.cell 1 rfl
    have a2 := ht2.cell 2 rfl
    have a3 := ht2.cell 3 rfl
    clear ht2
    go_wp2_with fail
    refine (hSh _ (HC.out.step HB3.out)).mono ?_
    rintro e V1 ⟨rfl, b1⟩
    have HV1 := Lib.hid (below_tr HB3.out b1)
    have HU1 := Lib.hid (HT3.out.step b1)
    clear b1 a0 a1 a2 a3 lt2
    cases hh : hasT t
    · have hne : ((showP t).2 != (0 : Int)) = true := by rcases show_no hh with h | h <;> rw [h] <;> rfl
      generalize showP t = q2 at *
      obtain ⟨qs, qe⟩ := q2
      simp only at hne
      clear hh
      go_wp2
      go_ret
      exact ⟨rfl, HV1.out⟩
    · rw [show_yes hh]
      have hx1 : (mkS (textL t)).size ≤ 4096 := by rw [mkS_size]; exact (hasT_right hh).2
      have hx2 : ((⟨#[95, 58, 97, 32, 60, 98, 62]⟩ : ByteArray) ++ mkS (textL t) ++ ⟨#[46]⟩) = mkS (lineOf t) := ba_ext (by simp [ByteArray.data_append, lineOf])
      have hx3 : (mkS (lineOf t)).size ≤ 5000 := by
        rw [mkS_size] at hx1
        rw [mkS_size]; simp [lineOf]; omega
      have hT1 := linesTerm (mkS (textL t)) V1 (HC.out.step HV1.out).l (HC.out.step HV1.out).t (by omega)
      rw [mkS_data, term_text hh] at hT1
      have hP1 := fun W (hB : Below w.heap.size w W) => linesParse (mkS (lineOf t)) W (HC.out.step hB).l (HC.out.step hB).t (by omega)
      unfold ParseR at hP1
      rw [mkS_data, par_lineOf hh] at hP1
      have hq1 := fun W => run_eqTm t t W
      rw [sameTm_iff.2 rfl] at hq1
      have hq2 : ∀ W, (binOp .eql 37 (.agg #[.int .i64 2, .string ⟨#[97]⟩, .string ⟨#[]⟩, .string ⟨#[]⟩, .int .i64 1, .string ⟨#[98]⟩, .string ⟨#[]⟩, .string ⟨#[]⟩, .int .i64 t.k, .string t.x, .string t.l, .string t.y]) (.agg #[.int .i64 2, .string ⟨#[97]⟩, .string ⟨#[]⟩, .string ⟨#[]⟩, .int .i64 1, .string ⟨#[98]⟩, .string ⟨#[]⟩, .string ⟨#[]⟩, .int .i64 t.k, .string t.x, .string t.l, .string t.y])).run Tryz.prog W = .ok (.bool true) W := fun W => run_eqTpp ⟨tmA2, tmB1, t⟩ W
      clear hh
      generalize mkS (textL t) = xt at *
      generalize mkS (lineOf t) = xl at *
      go_wp2_with fail
      refine hT1.mono ?_
      rintro e V2 ⟨rfl, b2⟩
      have b3 : Below V2.heap.size V2 (V2.alloc (.cells (tC8 t) 35)) := (Below.refl _ _).alloc (Nat.le_refl _) _
      have HS3 : Hid (bkT V2.heap.size 35 (tC8 t) (V2.alloc (.cells (tC8 t) 35))) := heap_alloc_new V2 _
      have HV3 := Lib.hid (below_tr (below_tr HV1.out b2) b3)
      have HU3 := Lib.hid ((HU1.out.step b2).step b3)
      clear b2 b3
      go_upto_region 17 with fail
      change Code.wp _ _ _ _ (V2.alloc (.cells (tC8 t) 35))
      generalize V2.alloc (.cells (tC8 t) 35) = V3 at *
      generalize V2.heap.size = y3 at *
      go_wp2_with fail
      refine (hP1 V3 HV3.out).mono ?_
      rintro e V4 ⟨v4, rfl, own4, b4⟩
      obtain ⟨A4, c4, rfl, hc4, hr4⟩ := own_slice own4
      have HV4 := Lib.hid (below_tr HV3.out b4)
      have u4 := HU3.out.step b4
      have s4 := HS3.out.step b4
      clear b4 own4
      go_wp2_with fail
      obtain ⟨g, o, rfl, r0⟩ := hr4.at_ (j := 0) (u := .int .i64 2) rfl
      rw [Nat.add_zero] at r0
      obtain ⟨g', o', he', r1⟩ := hr4.at_ (j := 1) (u := .string ⟨#[97]⟩) rfl
      injection he' with he'; injection he' with h5 h6; subst h5; subst h6
      obtain ⟨g', o', he', r2⟩ := hr4.at_ (j := 2) (u := .string ⟨#[]⟩) rfl
      injection he' with he'; injection he' with h5 h6; subst h5; subst h6
      obtain ⟨g', o', he', r3⟩ := hr4.at_ (j := 3) (u := .string ⟨#[]⟩) rfl
      injection he' with he'; injection he' with h5 h6; subst h5; subst h6
      obtain ⟨g', o', he', r4⟩ := hr4.at_ (j := 4) (u := .int .i64 1) rfl
      injection he' with he'; injection he' with h5 h6; subst h5; subst h6
      obtain ⟨g', o', he', r5⟩ := hr4.at_ (j := 5) (u := .string ⟨#[98]⟩) rfl
      injection he' with he'; injection he' with h5 h6; subst h5; subst h6
      obtain ⟨g', o', he', r6⟩ := hr4.at_ (j := 6) (u := .string ⟨#[]⟩) rfl
      injection he' with he'; injection he' with h5 h6; subst h5; subst h6
      obtain ⟨g', o', he', r7⟩ := hr4.at_ (j := 7) (u := .string ⟨#[]⟩) rfl
      injection he' with he'; injection he' with h5 h6; subst h5; subst h6
      obtain ⟨g', o', he', r8⟩ := hr4.at_ (j := 8) (u := .int .i64 t.k) rfl
      injection he' with he'; injection he' with h5 h6; subst h5; subst h6
      obtain ⟨g', o', he', r9⟩ := hr4.at_ (j := 9) (u := .string t.x) rfl
      injection he' with he'; injection he' with h5 h6; subst h5; subst h6
      obtain ⟨g', o', he', r10⟩ := hr4.at_ (j := 10) (u := .string t.l) rfl
      injection he' with he'; injection he' with h5 h6; subst h5; subst h6
      obtain ⟨g', o', he', r11⟩ := hr4.at_ (j := 11) (u := .string t.y) rfl
      injection he' with he'; injection he' with h5 h6; subst h5; subst h6
      have R0 := fun d os => cell_on r0 (below_regrown V4 d os)
      have R1 := fun d os => cell_on r1 (below_regrown V4 d os)
      have R2 := fun d os => cell_on r2 (below_regrown V4 d os)
      have R3 := fun d os => cell_on r3 (below_regrown V4 d os)
      have R4 := fun d os => cell_on r4 (below_regrown V4 d os)
      have R5 := fun d os => cell_on r5 (below_regrown V4 d os)
      have R6 := fun d os => cell_on r6 (below_regrown V4 d os)
      have R7 := fun d os => cell_on r7 (below_regrown V4 d os)
      have R8 := fun d os => cell_on r8 (below_regrown V4 d os)
      have R9 := fun d os => cell_on r9 (below_regrown V4 d os)
      have R10 := fun d os => cell_on r10 (below_regrown V4 d os)
      have R11 := fun d os => cell_on r11 (below_regrown V4 d os)
      have U0 := fun d os => cell_on (u4.cell 0 rfl) (below_regrown V4 d os)
      have S0 := fun d os => cell_on (s4.cell 0 rfl) (below_regrown V4 d os)
      have U1 := fun d os => cell_on (u4.cell 1 rfl) (below_regrown V4 d os)
      have S1 := fun d os => cell_on (s4.cell 1 rfl) (below_regrown V4 d os)
      have U2 := fun d os => cell_on (u4.cell 2 rfl) (below_regrown V4 d os)
      have S2 := fun d os => cell_on (s4.cell 2 rfl) (below_regrown V4 d os)
      have U3 := fun d os => cell_on (u4.cell 3 rfl) (below_regrown V4 d os)
      have S3 := fun d os => cell_on (s4.cell 3 rfl) (below_regrown V4 d os)
      have hBl := fun W => termBlank ⟨#[97]⟩ W
      have hIr := fun W => termIri ⟨#[98]⟩ W
      clear hr4 u4 s4 r0 r1 r2 r3 r4 r5 r6 r7 r8 r9 r10 r11 hP1 hT1
      refine wp_region_quiet_below (by kernel_rfl) (by kernel_rfl) ?_; (repeat (any_goals (go_big_quiet_step ((first | (go_at_call 15; with_reducible exact Calls.regrown_of (hBl _)) | (go_at_call 16; with_reducible exact Calls.regrown_of (hIr _))))))); all_goals (refine wpQuiet_nil ?_; intro _ hw9; obtain ⟨⟨d9, os9⟩, hw8⟩ := hw9; subst hw8)
      clear R0 R1 R2 R3 R4 R5 R6 R7 R8 R9 R10 R11 U0 U1 U2 U3 S0 S1 S2 S3
      go_wp2
      go_ret
      exact ⟨rfl, below_tr HV4.out (below_regrown _ _ _)⟩

theorem lawLinesShow (k1 : Int) (x1 l1 y1 : ByteArray) (s : ByteArray) (w : World) (hC : CtxA w) (hs1 : hugeT ⟨k1, x1, l1, y1⟩) (hs2 : s.size ≤ 281474976710656) :
    Calls Tryz.prog 5 #[.agg #[.int .i64 k1, .string x1, .string l1, .string y1], .string s] w fun e w' => e = .returned (.bool true) ∧ Below w.heap.size w w' :=
  show_walk ⟨k1, x1, l1, y1⟩ s w hC hs1 hs2
end Go.Proofs.YtffpgandgajihaaGreatDoor
