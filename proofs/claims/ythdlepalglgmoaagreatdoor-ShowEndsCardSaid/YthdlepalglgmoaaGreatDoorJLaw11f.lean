/- Layer 11's law ShowEnds. Printed by gen/law11f.py. -/
import Derived.Test.YthdlepalglgmoaaGreatDoorJLaw11b
import Derived.Test.YthdlepalglgmoaaGreatDoorJR8g
import Derived.Deep.CutRange
namespace Go.Proofs.YthdlepalglgmoaaGreatDoor
open Go Go.RowKit Um Fm Lx Tx

theorem hugeT_le {k : Int} {x l y : ByteArray} (hx : x.size ≤ 1000000) (hl : l.size ≤ 1000000) (hy : y.size ≤ 1000000) : hugeT ⟨k, x, l, y⟩ :=
  ⟨Nat.le_trans hx (by decide), Nat.le_trans hl (by decide), Nat.le_trans hy (by decide)⟩
theorem ba_none : (⟨#[]⟩ : ByteArray).size ≤ 1000000 := by decide
theorem shI (x : ByteArray) (hx : x.size ≤ 1000000) : ∃ t : Tm, hugeT t ∧ ∀ W, Calls Tryz.prog 4 #[.string x] W fun e w' => e = .returned (tA t) ∧ Below W.heap.size W w' :=
  ⟨⟨1, x, ⟨#[]⟩, ⟨#[]⟩⟩, hugeT_le hx ba_none ba_none, fun W => termIri x W⟩
theorem shB (x : ByteArray) (hx : x.size ≤ 1000000) : ∃ t : Tm, hugeT t ∧ ∀ W, Calls Tryz.prog 5 #[.string x] W fun e w' => e = .returned (tA t) ∧ Below W.heap.size W w' :=
  ⟨⟨2, x, ⟨#[]⟩, ⟨#[]⟩⟩, hugeT_le hx ba_none ba_none, fun W => termBlank x W⟩
theorem shL (x : ByteArray) (hx : x.size ≤ 1000000) : ∃ t : Tm, hugeT t ∧ ∀ W, Calls Tryz.prog 6 #[.string x] W fun e w' => e = .returned (tA t) ∧ Below W.heap.size W w' :=
  ⟨⟨3, x, ⟨#[]⟩, ⟨#[]⟩⟩, hugeT_le hx ba_none ba_none, fun W => termLiteral x W⟩
theorem shT (x s : ByteArray) (hx : x.size ≤ 1000000) (hs : s.size ≤ 1000000) : ∃ t : Tm, hugeT t ∧ ∀ W, Calls Tryz.prog 7 #[.string x, .string s] W fun e w' => e = .returned (tA t) ∧ Below W.heap.size W w' :=
  ⟨⟨3, x, lowS s, ⟨#[]⟩⟩, hugeT_le hx (by unfold lowS; rw [mkS_size, List.length_map, size_toList]; exact hs) ba_none, fun W => termTagged x s W hs⟩
theorem shY (x y : ByteArray) (hx : x.size ≤ 1000000) (hy : y.size ≤ 1000000) : ∃ t : Tm, hugeT t ∧ ∀ W, Calls Tryz.prog 8 #[.string x, .string y] W fun e w' => e = .returned (tA t) ∧ Below W.heap.size W w' :=
  ⟨typedT x y, by unfold typedT; split; exact hugeT_le hx ba_none ba_none; exact hugeT_le hx ba_none hy, fun W => termTyped x y W⟩
theorem huge_z : hugeT zTm := hugeT_le ba_none ba_none ba_none
theorem at_term {ts : List Tm} (h : ts.length = 15) (hz : ∀ t ∈ ts, hugeT t) {w : World} {g j : Nat} (hr : RdTs w (some ⟨g, 0, none⟩) ts) (hj : j < 15) : ∃ t, hugeT t ∧ w.cell? ⟨g, j * 4, none⟩ = some (.int .i64 t.k) ∧ w.cell? ⟨g, j * 4 + 1, none⟩ = some (.string t.x) ∧ w.cell? ⟨g, j * 4 + 2, none⟩ = some (.string t.l) ∧ w.cell? ⟨g, j * 4 + 3, none⟩ = some (.string t.y) := by
  obtain ⟨t, ht⟩ : ∃ t, ts[j]? = some t := ⟨_, List.getElem?_eq_getElem (by rw [h]; exact hj)⟩
  obtain ⟨g', o', he, e0, e1, e2, e3⟩ := hr.at4 ht
  injection he with he; injection he with h5 h6; subst h5; subst h6
  simp only [Nat.zero_add] at e0 e1 e2 e3
  exact ⟨t, hz t (List.mem_of_getElem? ht), e0, e1, e2, e3⟩
/-- A triple in a block of its own. -/
def TpAt (w : World) (g : Nat) (t : Tp) : Prop := w.heap[g]? = some (.cells (tpC t) 29 (0, 0))
theorem TpAt.step {w w' : World} {g : Nat} {t : Tp} (h : TpAt w g t) (hb : Below w.heap.size w w') : TpAt w' g t := below_blk hb h
/-- What the statement asks of some triples. -/
def Asks (W0 : World) : Prop := ∀ (l : List Tp) (n : Nat) (A : Option Addr) (c : Nat) (W : World), l.length = n → n ≤ 10 → Below W0.heap.size W0 W → Rd W A (l.flatMap tpL) → (∀ t ∈ l, hugeTp t) → Calls Tryz.prog 9 #[.slice A n c] W fun e w' => e = .returned (.bool true) ∧ Below W.heap.size W w'
theorem asks_of {W0 : World} (hC : CtxT W0) : Asks W0 := by
  intro l n A c W hn h10 hb hr hz
  subst hn
  exact lawShowTells l A c W (hC.step hb) hr (by omega) hz
theorem huge1 {a : Tp} (ha : hugeTp a) : ∀ t ∈ [a], hugeTp t := by
  intro t ht
  simp only [List.mem_cons, List.not_mem_nil, or_false] at ht
  subst ht; exact ha
theorem huge2 {a b : Tp} (ha : hugeTp a) (hb : hugeTp b) : ∀ t ∈ [a, b], hugeTp t := by
  intro t ht
  simp only [List.mem_cons, List.not_mem_nil, or_false] at ht
  rcases ht with rfl | rfl
  · exact ha
  · exact hb
theorem huge3 {a b c : Tp} (ha : hugeTp a) (hb : hugeTp b) (hc : hugeTp c) : ∀ t ∈ [a, b, c], hugeTp t := by
  intro t ht
  simp only [List.mem_cons, List.not_mem_nil, or_false] at ht
  rcases ht with rfl | rfl | rfl
  · exact ha
  · exact hb
  · exact hc
theorem rdA1 (a : Tp) (w : World) : Rd (w.alloc (.cells #[.int .i64 a.s.k, .string a.s.x, .string a.s.l, .string a.s.y, .int .i64 a.p.k, .string a.p.x, .string a.p.l, .string a.p.y, .int .i64 a.o.k, .string a.o.x, .string a.o.l, .string a.o.y] 29)) (some ⟨w.heap.size, 0, none⟩) ([a].flatMap tpL) := Rd.of_block (heap_alloc_new w _) rfl
theorem rdA2 (a b : Tp) (w : World) : Rd (w.alloc (.cells #[.int .i64 a.s.k, .string a.s.x, .string a.s.l, .string a.s.y, .int .i64 a.p.k, .string a.p.x, .string a.p.l, .string a.p.y, .int .i64 a.o.k, .string a.o.x, .string a.o.l, .string a.o.y, .int .i64 b.s.k, .string b.s.x, .string b.s.l, .string b.s.y, .int .i64 b.p.k, .string b.p.x, .string b.p.l, .string b.p.y, .int .i64 b.o.k, .string b.o.x, .string b.o.l, .string b.o.y] 29)) (some ⟨w.heap.size, 0, none⟩) ([a, b].flatMap tpL) := Rd.of_block (heap_alloc_new w _) rfl
theorem rdA3 (a b c : Tp) (w : World) : Rd (w.alloc (.cells #[.int .i64 a.s.k, .string a.s.x, .string a.s.l, .string a.s.y, .int .i64 a.p.k, .string a.p.x, .string a.p.l, .string a.p.y, .int .i64 a.o.k, .string a.o.x, .string a.o.l, .string a.o.y, .int .i64 b.s.k, .string b.s.x, .string b.s.l, .string b.s.y, .int .i64 b.p.k, .string b.p.x, .string b.p.l, .string b.p.y, .int .i64 b.o.k, .string b.o.x, .string b.o.l, .string b.o.y, .int .i64 c.s.k, .string c.s.x, .string c.s.l, .string c.s.y, .int .i64 c.p.k, .string c.p.x, .string c.p.l, .string c.p.y, .int .i64 c.o.k, .string c.o.x, .string c.o.l, .string c.o.y] 29)) (some ⟨w.heap.size, 0, none⟩) ([a, b, c].flatMap tpL) := Rd.of_block (heap_alloc_new w _) rfl
theorem rdA2' (u v x : Tm) (b : Tp) (w : World) : Rd (w.alloc (.cells #[.int .i64 u.k, .string u.x, .string u.l, .string u.y, .int .i64 v.k, .string v.x, .string v.l, .string v.y, .int .i64 x.k, .string x.x, .string x.l, .string x.y, .int .i64 b.s.k, .string b.s.x, .string b.s.l, .string b.s.y, .int .i64 b.p.k, .string b.p.x, .string b.p.l, .string b.p.y, .int .i64 b.o.k, .string b.o.x, .string b.o.l, .string b.o.y] 29)) (some ⟨w.heap.size, 0, none⟩) ([⟨u, v, x⟩, b].flatMap tpL) := Rd.of_block (heap_alloc_new w _) rfl
theorem tp_sizeT (t : Tp) : (Tryz.prog.info? 29).map (·.size) = some (tpC t).size := tp_size
def szV : Value → Nat
  | .string x => x.size
  | _ => 0
set_option maxRecDepth 20000 in
set_option maxHeartbeats 6000000 in
theorem lawShowEnds (w : World) (hC : CtxT w) : Calls Tryz.prog 3 #[] w fun e w' => e = .returned (.bool true) ∧ Below w.heap.size w w' := by
  obtain ⟨t0, z0, h0⟩ := shI ⟨#[97]⟩ (by decide)
  obtain ⟨t1, z1, h1⟩ := shI ⟨#[97, 98]⟩ (by decide)
  obtain ⟨t2, z2, h2⟩ := shI ⟨#[97, 32, 98]⟩ (by decide)
  obtain ⟨t3, z3, h3⟩ := shI ⟨#[]⟩ (by decide)
  obtain ⟨t4, z4, h4⟩ := shB ⟨#[97]⟩ (by decide)
  obtain ⟨t5, z5, h5⟩ := shB ⟨#[97, 45]⟩ (by decide)
  obtain ⟨t6, z6, h6⟩ := shB ⟨#[97, 46, 98]⟩ (by decide)
  obtain ⟨t7, z7, h7⟩ := shL ⟨#[97]⟩ (by decide)
  obtain ⟨t8, z8, h8⟩ := shL ⟨#[97, 34, 32, 46]⟩ (by decide)
  obtain ⟨t9, z9, h9⟩ := shT ⟨#[97]⟩ ⟨#[101, 110]⟩ (by decide) (by decide)
  obtain ⟨t10, z10, h10⟩ := shT ⟨#[97]⟩ ⟨#[101, 110, 45, 120]⟩ (by decide) (by decide)
  obtain ⟨t11, z11, h11⟩ := shY ⟨#[97]⟩ ⟨#[]⟩ (by decide) (by decide)
  obtain ⟨t12, z12, h12⟩ := shY ⟨#[97]⟩ ⟨#[98]⟩ (by decide) (by decide)
  obtain ⟨t14, z14, h14⟩ := shI ⟨#[255]⟩ (by decide)
  have HC := Lib.hid hC
  have hz : ∀ t ∈ [t0, t1, t2, t3, t4, t5, t6, t7, t8, t9, t10, t11, t12, zTm, t14], hugeT t := by
    intro t ht
    simp only [List.mem_cons, List.not_mem_nil, or_false] at ht
    rcases ht with rfl | rfl | rfl | rfl | rfl | rfl | rfl | rfl | rfl | rfl | rfl | rfl | rfl | rfl | rfl
    · exact z0
    · exact z1
    · exact z2
    · exact z3
    · exact z4
    · exact z5
    · exact z6
    · exact z7
    · exact z8
    · exact z9
    · exact z10
    · exact z11
    · exact z12
    · exact huge_z
    · exact z14
  have Hz0 := Lib.hid hz
  have hB0 : Below w.heap.size w w := Below.refl _ _
  clear hC hz z0 z1 z2 z3 z4 z5 z6 z7 z8 z9 z10 z11 z12 z14
  go_enter Tryz.func3, Tryz.ntmps3
  go_wp2_with fail
  refine (h0 _).mono ?_
  rintro e w1 ⟨rfl, b⟩
  have hB0x := below_tr hB0 b
  clear h0 b hB0
  go_wp2_with fail
  refine (h1 _).mono ?_
  rintro e w2 ⟨rfl, b⟩
  have hB1x := below_tr hB0x b
  clear h1 b hB0x
  go_wp2_with fail
  refine (h2 _).mono ?_
  rintro e w3 ⟨rfl, b⟩
  have hB2x := below_tr hB1x b
  clear h2 b hB1x
  go_wp2_with fail
  refine (h3 _).mono ?_
  rintro e w4 ⟨rfl, b⟩
  have hB3x := below_tr hB2x b
  clear h3 b hB2x
  go_wp2_with fail
  refine (h4 _).mono ?_
  rintro e w5 ⟨rfl, b⟩
  have hB4x := below_tr hB3x b
  clear h4 b hB3x
  go_wp2_with fail
  refine (h5 _).mono ?_
  rintro e w6 ⟨rfl, b⟩
  have hB5x := below_tr hB4x b
  clear h5 b hB4x
  go_wp2_with fail
  refine (h6 _).mono ?_
  rintro e w7 ⟨rfl, b⟩
  have hB6x := below_tr hB5x b
  clear h6 b hB5x
  go_wp2_with fail
  refine (h7 _).mono ?_
  rintro e w8 ⟨rfl, b⟩
  have hB7x := below_tr hB6x b
  clear h7 b hB6x
  go_wp2_with fail
  refine (h8 _).mono ?_
  rintro e w9 ⟨rfl, b⟩
  have hB8x := below_tr hB7x b
  clear h8 b hB7x
  go_wp2_with fail
  refine (h9 _).mono ?_
  rintro e w10 ⟨rfl, b⟩
  have hB9x := below_tr hB8x b
  clear h9 b hB8x
  go_wp2_with fail
  refine (h10 _).mono ?_
  rintro e w11 ⟨rfl, b⟩
  have hB10x := below_tr hB9x b
  clear h10 b hB9x
  go_wp2_with fail
  refine (h11 _).mono ?_
  rintro e w12 ⟨rfl, b⟩
  have hB11x := below_tr hB10x b
  clear h11 b hB10x
  go_wp2_with fail
  refine (h12 _).mono ?_
  rintro e w13 ⟨rfl, b⟩
  have hB12x := below_tr hB11x b
  clear h12 b hB11x
  go_wp2_with fail
  refine (h14 _).mono ?_
  rintro e w15 ⟨rfl, b⟩
  have hB14x := below_tr hB12x b
  clear h14 b hB12x
  have HB15 := Lib.hid hB14x
  clear hB14x
  have hW0b : Below w15.heap.size w15 (w15.alloc (.cells #[.int .i64 t0.k, .string t0.x, .string t0.l, .string t0.y, .int .i64 t1.k, .string t1.x, .string t1.l, .string t1.y, .int .i64 t2.k, .string t2.x, .string t2.l, .string t2.y, .int .i64 t3.k, .string t3.x, .string t3.l, .string t3.y, .int .i64 t4.k, .string t4.x, .string t4.l, .string t4.y, .int .i64 t5.k, .string t5.x, .string t5.l, .string t5.y, .int .i64 t6.k, .string t6.x, .string t6.l, .string t6.y, .int .i64 t7.k, .string t7.x, .string t7.l, .string t7.y, .int .i64 t8.k, .string t8.x, .string t8.l, .string t8.y, .int .i64 t9.k, .string t9.x, .string t9.l, .string t9.y, .int .i64 t10.k, .string t10.x, .string t10.l, .string t10.y, .int .i64 t11.k, .string t11.x, .string t11.l, .string t11.y, .int .i64 t12.k, .string t12.x, .string t12.l, .string t12.y, .int .i64 0, .string ⟨#[]⟩, .string ⟨#[]⟩, .string ⟨#[]⟩, .int .i64 t14.k, .string t14.x, .string t14.l, .string t14.y] 24)) := (Below.refl _ w15).alloc (Nat.le_refl _) _
  have hrd : RdTs (w15.alloc (.cells #[.int .i64 t0.k, .string t0.x, .string t0.l, .string t0.y, .int .i64 t1.k, .string t1.x, .string t1.l, .string t1.y, .int .i64 t2.k, .string t2.x, .string t2.l, .string t2.y, .int .i64 t3.k, .string t3.x, .string t3.l, .string t3.y, .int .i64 t4.k, .string t4.x, .string t4.l, .string t4.y, .int .i64 t5.k, .string t5.x, .string t5.l, .string t5.y, .int .i64 t6.k, .string t6.x, .string t6.l, .string t6.y, .int .i64 t7.k, .string t7.x, .string t7.l, .string t7.y, .int .i64 t8.k, .string t8.x, .string t8.l, .string t8.y, .int .i64 t9.k, .string t9.x, .string t9.l, .string t9.y, .int .i64 t10.k, .string t10.x, .string t10.l, .string t10.y, .int .i64 t11.k, .string t11.x, .string t11.l, .string t11.y, .int .i64 t12.k, .string t12.x, .string t12.l, .string t12.y, .int .i64 0, .string ⟨#[]⟩, .string ⟨#[]⟩, .string ⟨#[]⟩, .int .i64 t14.k, .string t14.x, .string t14.l, .string t14.y] 24)) (some ⟨w15.heap.size, 0, none⟩) [t0, t1, t2, t3, t4, t5, t6, t7, t8, t9, t10, t11, t12, zTm, t14] := ⟨_, Rd.of_block (heap_alloc_new w15 _) rfl, All.of_flat (f := tmC) [t0, t1, t2, t3, t4, t5, t6, t7, t8, t9, t10, t11, t12, zTm, t14] fun _ _ => rfl⟩
  have hlen : Hid ([t0, t1, t2, t3, t4, t5, t6, t7, t8, t9, t10, t11, t12, zTm, t14].length = 15) := rfl
  have HW0b := Lib.hid hW0b
  have Hrd := Lib.hid hrd
  generalize [t0, t1, t2, t3, t4, t5, t6, t7, t8, t9, t10, t11, t12, zTm, t14] = ts at *
  clear hW0b hrd
  go_wp2
  obtain ⟨W0, hW0⟩ : ∃ W0, w15.alloc (.cells #[.int .i64 t0.k, .string t0.x, .string t0.l, .string t0.y, .int .i64 t1.k, .string t1.x, .string t1.l, .string t1.y, .int .i64 t2.k, .string t2.x, .string t2.l, .string t2.y, .int .i64 t3.k, .string t3.x, .string t3.l, .string t3.y, .int .i64 t4.k, .string t4.x, .string t4.l, .string t4.y, .int .i64 t5.k, .string t5.x, .string t5.l, .string t5.y, .int .i64 t6.k, .string t6.x, .string t6.l, .string t6.y, .int .i64 t7.k, .string t7.x, .string t7.l, .string t7.y, .int .i64 t8.k, .string t8.x, .string t8.l, .string t8.y, .int .i64 t9.k, .string t9.x, .string t9.l, .string t9.y, .int .i64 t10.k, .string t10.x, .string t10.l, .string t10.y, .int .i64 t11.k, .string t11.x, .string t11.l, .string t11.y, .int .i64 t12.k, .string t12.x, .string t12.l, .string t12.y, .int .i64 0, .string ⟨#[]⟩, .string ⟨#[]⟩, .string ⟨#[]⟩, .int .i64 t14.k, .string t14.x, .string t14.l, .string t14.y] 24) = W0 := ⟨_, rfl⟩
  rw [hW0] at HW0b Hrd
  simp only [hW0]
  have HA := Lib.hid (asks_of (W0 := W0) (HC.out.step (below_tr HB15.out HW0b.out)))
  have HBW0 := Lib.hid (below_tr HB15.out HW0b.out)
  clear hW0
  generalize w15.heap.size = gg at *
  go_loopw [2] (fun i wr => ∃ k : Nat, k ≤ 15 ∧ i = .int .i64 k ∧ Below W0.heap.size W0 wr) (fun i _ => 15 - (intOf i).toNat)
  case atStart => exact ⟨0, by omega, rfl, Below.refl _ _⟩
  case round =>
    obtain ⟨i, hi, rfl, hB⟩ := hrel
    have HB := Lib.hid hB
    by_cases hlt : i < 15
    · have hd1 : decide (i < 15) = true := by simp; omega
      go_wp2
      generalize decide ((i : Int) < 15) = bi at *
      obtain ⟨wk, rfl⟩ : ∃ wk, wk = wr := ⟨_, rfl⟩
      go_loopw [3] (fun j wr => ∃ k : Nat, k ≤ 15 ∧ j = .int .i64 k ∧ Below W0.heap.size W0 wr) (fun j _ => 15 - (intOf j).toNat)
      case atStart => exact ⟨0, by omega, rfl, HB.out⟩
      case round =>
        obtain ⟨k, hk, rfl, hB2⟩ := hrel
        have HB2 := Lib.hid hB2
        by_cases hlt2 : k < 15
        · have hd2 : decide (k < 15) = true := by simp; omega
          have li7 : i % 7 < 15 := by omega
          have li4 : i % 4 < 15 := by omega
          have lk7 : k % 7 < 15 := by omega
          have lk4 : k % 4 < 15 := by omega
          have hrd2 := RdTs.later Hrd.out hB2
          clear hB2
          go_upto_region 8 with (fail)
          generalize decide ((k : Int) < 15) = bk at *
          go_cut [4] from 40 to 54 (fun s4 wx => ∃ (t : Tp) (g : Nat), hugeTp t ∧ s4 = .pointer (some ⟨g, 0, none⟩) ∧ TpAt wx g t ∧ Below wr.heap.size wr wx)
          case first =>
            rename_i hJ hM
            obtain ⟨u, zu, a0, a1, a2, a3⟩ := at_term hlen.out Hz0.out hrd2 (j := i % 7) li7
            obtain ⟨v, zv, b0, b1, b2, b3⟩ := at_term hlen.out Hz0.out hrd2 (j := k % 4) lk4
            obtain ⟨x, zx, c0, c1, c2, c3⟩ := at_term hlen.out Hz0.out hrd2 (j := k) hlt2
            refine Rf.wp_region_pl wr.heap.size _ (Rf.Pl.quiet [0, 1, 2, 3, 4, 5, 6, 7, 8, 9, 10, 11, 12, 13, 14] (Rf.Pl.one 15 (Rf.Pl.one 16 (Rf.Pl.done)))) _ (by kernel_rfl) (by kernel_rfl) (by simp only [Rf.Pl.pick, Rf.pickO, List.map_cons, List.map_nil, Rg.pickOps, List.getElem?_toArray, List.getElem?_cons_zero, List.getElem?_cons_succ, Option.getD_some]; rfl) ?_ (fun a w h => h)
            intro wd hbd hwz
            replace a0 := cellL a0 hbd
            replace a1 := cellL a1 hbd
            replace a2 := cellL a2 hbd
            replace a3 := cellL a3 hbd
            replace b0 := cellL b0 hbd
            replace b1 := cellL b1 hbd
            replace b2 := cellL b2 hbd
            replace b3 := cellL b3 hbd
            replace c0 := cellL c0 hbd
            replace c1 := cellL c1 hbd
            replace c2 := cellL c2 hbd
            replace c3 := cellL c3 hbd
            have Hbd := Lib.hid hbd
            have Hwz := Lib.hid hwz
            clear hbd hwz hrd2
            refine Rf.pl_quiet ?_
            iterate 15 go_big_quiet_step (fail)
            refine wpQuiet_nil (Rf.pl_one ?_)
            go_wp2_with fail
            have hle : wr.heap.size ≤ wd.heap.size := Hbd.out.size
            refine ⟨(Below.refl _ wd).alloc hle _, Rf.pl_one ?_⟩
            go_wp2_with fail
            refine ⟨below_reset hle _ _, Rf.pl_done ?_⟩
            refine hM _ _ (Met.intro (hJ _ _ ?_))
            (repeat apply Exists.intro)
            exact ⟨⟨⟨u, v, x⟩, _, ⟨zu, zv, zx⟩, rfl, heap_alloc_new wd _, Hbd.out.alloc hle _⟩, rfl⟩
          obtain ⟨tt, g1, ztt, rfl, ht1, hb1⟩ := hcut
          obtain ⟨wa, rfl⟩ : ∃ x, x = wc := ⟨_, rfl⟩
          have hrd3 := RdTs.later hrd2 hb1
          have Hb1 := Lib.hid hb1
          clear hrd2 hb1
          go_upto_region 9 with (fail)
          go_cut [5] from 55 to 69 (fun s5 wx => ∃ (t : Tp) (g : Nat), hugeTp t ∧ s5 = .pointer (some ⟨g, 0, none⟩) ∧ TpAt wx g t ∧ Below wa.heap.size wa wx)
          case first =>
            rename_i hJ hM
            obtain ⟨u, zu, a0, a1, a2, a3⟩ := at_term hlen.out Hz0.out hrd3 (j := k % 7) lk7
            obtain ⟨v, zv, b0, b1, b2, b3⟩ := at_term hlen.out Hz0.out hrd3 (j := i % 4) li4
            obtain ⟨x, zx, c0, c1, c2, c3⟩ := at_term hlen.out Hz0.out hrd3 (j := i) hlt
            refine Rf.wp_region_pl wa.heap.size _ (Rf.Pl.quiet [0, 1, 2, 3, 4, 5, 6, 7, 8, 9, 10, 11, 12, 13, 14] (Rf.Pl.one 15 (Rf.Pl.one 16 (Rf.Pl.done)))) _ (by kernel_rfl) (by kernel_rfl) (by simp only [Rf.Pl.pick, Rf.pickO, List.map_cons, List.map_nil, Rg.pickOps, List.getElem?_toArray, List.getElem?_cons_zero, List.getElem?_cons_succ, Option.getD_some]; rfl) ?_ (fun a w h => h)
            intro wd hbd hwz
            replace a0 := cellL a0 hbd
            replace a1 := cellL a1 hbd
            replace a2 := cellL a2 hbd
            replace a3 := cellL a3 hbd
            replace b0 := cellL b0 hbd
            replace b1 := cellL b1 hbd
            replace b2 := cellL b2 hbd
            replace b3 := cellL b3 hbd
            replace c0 := cellL c0 hbd
            replace c1 := cellL c1 hbd
            replace c2 := cellL c2 hbd
            replace c3 := cellL c3 hbd
            have Hbd := Lib.hid hbd
            clear hbd hwz hrd3
            refine Rf.pl_quiet ?_
            iterate 15 go_big_quiet_step (fail)
            refine wpQuiet_nil (Rf.pl_one ?_)
            go_wp2_with fail
            have hle : wa.heap.size ≤ wd.heap.size := Hbd.out.size
            refine ⟨(Below.refl _ wd).alloc hle _, Rf.pl_one ?_⟩
            go_wp2_with fail
            refine ⟨below_reset hle _ _, Rf.pl_done ?_⟩
            refine hM _ _ (Met.intro (hJ _ _ ?_))
            (repeat apply Exists.intro)
            exact ⟨⟨⟨u, v, x⟩, _, ⟨zu, zv, zx⟩, rfl, heap_alloc_new wd _, Hbd.out.alloc hle _⟩, rfl⟩
          obtain ⟨uu, g2, zuu, rfl, ht2, hb2⟩ := hcut
          obtain ⟨wb, rfl⟩ : ∃ x, x = wc := ⟨_, rfl⟩
          have hrd4 := RdTs.later hrd3 hb2
          have ht3 := ht1.step hb2
          have HBb := Lib.hid (below_tr HB2.out (below_tr Hb1.out hb2))
          clear hrd3 ht1 hb2
          go_upto_region 10 with (fail)
          go_cut [93] from 70 to 92 (fun s wx => s = .bool false ∧ Below wb.heap.size wb wx)
          case first =>
            rename_i hJ hM
            have Hlt := Lib.hid (And.intro hlt hlt2)
            clear hlt hlt2 hd1 hd2 li7 li4 lk7 lk4
            have a0 := cells_at ht3 0 rfl
            have a1 := cells_at ht3 1 rfl
            have a2 := cells_at ht3 2 rfl
            have a3 := cells_at ht3 3 rfl
            have a4 := cells_at ht3 4 rfl
            have a5 := cells_at ht3 5 rfl
            have a6 := cells_at ht3 6 rfl
            have a7 := cells_at ht3 7 rfl
            have a8 := cells_at ht3 8 rfl
            have a9 := cells_at ht3 9 rfl
            have a10 := cells_at ht3 10 rfl
            have a11 := cells_at ht3 11 rfl
            have d0 := cells_at ht2 0 rfl
            have d1 := cells_at ht2 1 rfl
            have d2 := cells_at ht2 2 rfl
            have d3 := cells_at ht2 3 rfl
            have d4 := cells_at ht2 4 rfl
            have d5 := cells_at ht2 5 rfl
            have d6 := cells_at ht2 6 rfl
            have d7 := cells_at ht2 7 rfl
            have d8 := cells_at ht2 8 rfl
            have d9 := cells_at ht2 9 rfl
            have d10 := cells_at ht2 10 rfl
            have d11 := cells_at ht2 11 rfl
            refine Rf.wp_region_pl wb.heap.size _ (Rf.Pl.quiet [0, 1, 2] (Rf.Pl.one 3 (Rf.Pl.one 4 (Rf.Pl.quiet [5, 6, 7, 8, 9, 10, 11, 12, 13, 14, 15, 16, 17, 18, 19] (Rf.Pl.one 20 (Rf.Pl.one 21 (Rf.Pl.quiet [22, 23] (Rf.Pl.done)))))))) _ (by kernel_rfl) (by kernel_rfl) (by simp only [Rf.Pl.pick, Rf.pickO, List.map_cons, List.map_nil, Rg.pickOps, List.getElem?_toArray, List.getElem?_cons_zero, List.getElem?_cons_succ, Option.getD_some]; rfl) ?_ (fun a w h => h)
            intro wd hbd hwz
            replace a0 := cellL a0 hbd
            replace a1 := cellL a1 hbd
            replace a2 := cellL a2 hbd
            replace a3 := cellL a3 hbd
            replace a4 := cellL a4 hbd
            replace a5 := cellL a5 hbd
            replace a6 := cellL a6 hbd
            replace a7 := cellL a7 hbd
            replace a8 := cellL a8 hbd
            replace a9 := cellL a9 hbd
            replace a10 := cellL a10 hbd
            replace a11 := cellL a11 hbd
            replace d0 := cellL d0 hbd
            replace d1 := cellL d1 hbd
            replace d2 := cellL d2 hbd
            replace d3 := cellL d3 hbd
            replace d4 := cellL d4 hbd
            replace d5 := cellL d5 hbd
            replace d6 := cellL d6 hbd
            replace d7 := cellL d7 hbd
            replace d8 := cellL d8 hbd
            replace d9 := cellL d9 hbd
            replace d10 := cellL d10 hbd
            replace d11 := cellL d11 hbd
            have Hbd := Lib.hid hbd
            have hle : wb.heap.size ≤ wd.heap.size := hbd.size
            clear hbd hwz
            refine Rf.pl_quiet ?_
            iterate 3 go_big_quiet_step (fail)
            refine wpQuiet_nil (Rf.pl_one ?_)
            go_wp2_with fail
            have hb3 : Below wd.heap.size wd (wd.alloc (.cells #[.int .i64 tt.s.k, .string tt.s.x, .string tt.s.l, .string tt.s.y, .int .i64 tt.p.k, .string tt.p.x, .string tt.p.l, .string tt.p.y, .int .i64 tt.o.k, .string tt.o.x, .string tt.o.l, .string tt.o.y, .int .i64 uu.s.k, .string uu.s.x, .string uu.s.l, .string uu.s.y, .int .i64 uu.p.k, .string uu.p.x, .string uu.p.l, .string uu.p.y, .int .i64 uu.o.k, .string uu.o.x, .string uu.o.l, .string uu.o.y, .int .i64 tt.s.k, .string tt.s.x, .string tt.s.l, .string tt.s.y, .int .i64 tt.p.k, .string tt.p.x, .string tt.p.l, .string tt.p.y, .int .i64 tt.o.k, .string tt.o.x, .string tt.o.l, .string tt.o.y] 29)) := (Below.refl _ wd).alloc (Nat.le_refl _) _
            have hb3' : Below wb.heap.size wd (wd.alloc (.cells #[.int .i64 tt.s.k, .string tt.s.x, .string tt.s.l, .string tt.s.y, .int .i64 tt.p.k, .string tt.p.x, .string tt.p.l, .string tt.p.y, .int .i64 tt.o.k, .string tt.o.x, .string tt.o.l, .string tt.o.y, .int .i64 uu.s.k, .string uu.s.x, .string uu.s.l, .string uu.s.y, .int .i64 uu.p.k, .string uu.p.x, .string uu.p.l, .string uu.p.y, .int .i64 uu.o.k, .string uu.o.x, .string uu.o.l, .string uu.o.y, .int .i64 tt.s.k, .string tt.s.x, .string tt.s.l, .string tt.s.y, .int .i64 tt.p.k, .string tt.p.x, .string tt.p.l, .string tt.p.y, .int .i64 tt.o.k, .string tt.o.x, .string tt.o.l, .string tt.o.y] 29)) := (Below.refl _ wd).alloc hle _
            have hq1 := HA.out [tt, uu, tt] 3 (some ⟨wd.heap.size, 0, none⟩) 3 (wd.alloc (.cells #[.int .i64 tt.s.k, .string tt.s.x, .string tt.s.l, .string tt.s.y, .int .i64 tt.p.k, .string tt.p.x, .string tt.p.l, .string tt.p.y, .int .i64 tt.o.k, .string tt.o.x, .string tt.o.l, .string tt.o.y, .int .i64 uu.s.k, .string uu.s.x, .string uu.s.l, .string uu.s.y, .int .i64 uu.p.k, .string uu.p.x, .string uu.p.l, .string uu.p.y, .int .i64 uu.o.k, .string uu.o.x, .string uu.o.l, .string uu.o.y, .int .i64 tt.s.k, .string tt.s.x, .string tt.s.l, .string tt.s.y, .int .i64 tt.p.k, .string tt.p.x, .string tt.p.l, .string tt.p.y, .int .i64 tt.o.k, .string tt.o.x, .string tt.o.l, .string tt.o.y] 29)) rfl (by omega) (below_tr HBb.out (Hbd.out.trans hb3')) (rdA3 tt uu tt wd) (huge3 ztt zuu ztt)
            refine ⟨hb3', Rf.pl_one ?_⟩
            clear a0 a1 a2 a3 a4 a5 a6 a7 a8 a9 a10 a11 d0 d1 d2 d3 d4 d5 d6 d7 d8 d9 d10 d11
            go_wp2_with (refine hq1.mono ?_; rintro e w6 ⟨rfl, b6⟩)
            have hle1 : wb.heap.size ≤ (wd.alloc (.cells #[.int .i64 tt.s.k, .string tt.s.x, .string tt.s.l, .string tt.s.y, .int .i64 tt.p.k, .string tt.p.x, .string tt.p.l, .string tt.p.y, .int .i64 tt.o.k, .string tt.o.x, .string tt.o.l, .string tt.o.y, .int .i64 uu.s.k, .string uu.s.x, .string uu.s.l, .string uu.s.y, .int .i64 uu.p.k, .string uu.p.x, .string uu.p.l, .string uu.p.y, .int .i64 uu.o.k, .string uu.o.x, .string uu.o.l, .string uu.o.y, .int .i64 tt.s.k, .string tt.s.x, .string tt.s.l, .string tt.s.y, .int .i64 tt.p.k, .string tt.p.x, .string tt.p.l, .string tt.p.y, .int .i64 tt.o.k, .string tt.o.x, .string tt.o.l, .string tt.o.y] 29)).heap.size := (by simp; omega)
            have b6' := b6.mono hle1
            have B6 := Lib.hid (Hbd.out.trans (hb3'.trans b6'))
            refine ⟨b6', Rf.pl_quiet ?_⟩
            have hlt := Hlt.out.1
            have hlt2 := Hlt.out.2
            obtain ⟨u, zu, a0, a1, a2, a3⟩ := at_term hlen.out Hz0.out hrd4 (j := i) hlt
            obtain ⟨v, zv, b0, b1, b2, b3⟩ := at_term hlen.out Hz0.out hrd4 (j := k) hlt2
            obtain ⟨x, zx, c0, c1, c2, c3⟩ := at_term hlen.out Hz0.out hrd4 (j := 0) (by omega)
            rw [Nat.zero_mul] at c0
            simp only [Nat.zero_mul, Nat.zero_add] at c1 c2 c3
            have d0 := cells_at ht2 0 rfl
            have d1 := cells_at ht2 1 rfl
            have d2 := cells_at ht2 2 rfl
            have d3 := cells_at ht2 3 rfl
            have d4 := cells_at ht2 4 rfl
            have d5 := cells_at ht2 5 rfl
            have d6 := cells_at ht2 6 rfl
            have d7 := cells_at ht2 7 rfl
            have d8 := cells_at ht2 8 rfl
            have d9 := cells_at ht2 9 rfl
            have d10 := cells_at ht2 10 rfl
            have d11 := cells_at ht2 11 rfl
            replace a0 := cellL a0 B6.out
            replace a1 := cellL a1 B6.out
            replace a2 := cellL a2 B6.out
            replace a3 := cellL a3 B6.out
            replace b0 := cellL b0 B6.out
            replace b1 := cellL b1 B6.out
            replace b2 := cellL b2 B6.out
            replace b3 := cellL b3 B6.out
            replace c0 := cellL c0 B6.out
            replace c1 := cellL c1 B6.out
            replace c2 := cellL c2 B6.out
            replace c3 := cellL c3 B6.out
            replace d0 := cellL d0 B6.out
            replace d1 := cellL d1 B6.out
            replace d2 := cellL d2 B6.out
            replace d3 := cellL d3 B6.out
            replace d4 := cellL d4 B6.out
            replace d5 := cellL d5 B6.out
            replace d6 := cellL d6 B6.out
            replace d7 := cellL d7 B6.out
            replace d8 := cellL d8 B6.out
            replace d9 := cellL d9 B6.out
            replace d10 := cellL d10 B6.out
            replace d11 := cellL d11 B6.out
            clear hq1 b6 b6' hb3 hb3'
            iterate 15 go_big_quiet_step (fail)
            clear hlt hlt2
            refine wpQuiet_nil (Rf.pl_one ?_)
            have hle6 : wb.heap.size ≤ w6.heap.size := B6.out.size
            go_wp2_with fail
            have hb7 : Below wb.heap.size w6 (w6.alloc (.cells #[.int .i64 u.k, .string u.x, .string u.l, .string u.y, .int .i64 v.k, .string v.x, .string v.l, .string v.y, .int .i64 x.k, .string x.x, .string x.l, .string x.y, .int .i64 uu.s.k, .string uu.s.x, .string uu.s.l, .string uu.s.y, .int .i64 uu.p.k, .string uu.p.x, .string uu.p.l, .string uu.p.y, .int .i64 uu.o.k, .string uu.o.x, .string uu.o.l, .string uu.o.y] 29)) := (Below.refl _ w6).alloc hle6 _
            have hq2 := HA.out [⟨u, v, x⟩, uu] 2 (some ⟨w6.heap.size, 0, none⟩) 2 (w6.alloc (.cells #[.int .i64 u.k, .string u.x, .string u.l, .string u.y, .int .i64 v.k, .string v.x, .string v.l, .string v.y, .int .i64 x.k, .string x.x, .string x.l, .string x.y, .int .i64 uu.s.k, .string uu.s.x, .string uu.s.l, .string uu.s.y, .int .i64 uu.p.k, .string uu.p.x, .string uu.p.l, .string uu.p.y, .int .i64 uu.o.k, .string uu.o.x, .string uu.o.l, .string uu.o.y] 29)) rfl (by omega) (below_tr HBb.out (B6.out.trans hb7)) (rdA2' u v x uu w6) (huge2 ⟨zu, zv, zx⟩ zuu)
            refine ⟨hb7, Rf.pl_one ?_⟩
            clear a0 a1 a2 a3 b0 b1 b2 b3 c0 c1 c2 c3 d0 d1 d2 d3 d4 d5 d6 d7 d8 d9 d10 d11
            go_wp2_with (refine hq2.mono ?_; rintro e w8 ⟨rfl, b8⟩)
            have b8' : Below wb.heap.size (w6.alloc (.cells #[.int .i64 u.k, .string u.x, .string u.l, .string u.y, .int .i64 v.k, .string v.x, .string v.l, .string v.y, .int .i64 x.k, .string x.x, .string x.l, .string x.y, .int .i64 uu.s.k, .string uu.s.x, .string uu.s.l, .string uu.s.y, .int .i64 uu.p.k, .string uu.p.x, .string uu.p.l, .string uu.p.y, .int .i64 uu.o.k, .string uu.o.x, .string uu.o.l, .string uu.o.y] 29)) w8 := b8.mono (by simp; omega)
            refine ⟨b8', Rf.pl_quiet ?_⟩
            iterate 2 go_big_quiet_step (fail)
            refine wpQuiet_nil (Rf.pl_done ?_)
            refine hM _ _ (Met.intro (hJ _ _ ?_))
            (repeat apply Exists.intro)
            exact ⟨⟨rfl, B6.out.trans (hb7.trans b8')⟩, rfl⟩
          obtain ⟨rfl, hbb⟩ := hcut
          have HF := Lib.hid (below_tr HBb.out hbb)
          clear hbb ht3 ht2 hrd4
          go_wp2
          go_roundw
          case rel => exact ⟨k + 1, by omega, by go_num, HF.out⟩
          case measure => simp [intOf]; omega
        · have hd2 : decide (k < 15) = false := by simp; omega
          go_wp2
          go_roundw
          case rel => exact ⟨i + 1, by omega, by go_num, HB2.out⟩
          case measure => simp [intOf]; omega
    · have hd1 : decide (i < 15) = false := by simp; omega
      go_wp2
      go_loopw [6] (fun v wr => ∃ x : ByteArray, v = .string x ∧ x.size ≤ 4092 ∧ Below W0.heap.size W0 wr) (fun v _ => 4092 - szV v)
      case atStart => exact ⟨⟨#[]⟩, rfl, by decide, HB.out⟩
      case round =>
        obtain ⟨x, rfl, hx, hB3⟩ := hrel
        have HB3 := Lib.hid hB3
        clear hB3
        by_cases hxs : x.size < 4092
        · have hd3 : decide (x.size < 4092) = true := by simp; omega
          have hxn : (x ++ (⟨#[120]⟩ : ByteArray)).size = x.size + 1 := by rw [ByteArray.size_append]; rfl
          go_wp2
          go_roundw
          case rel => exact ⟨x ++ ⟨#[120]⟩, rfl, by omega, HB3.out⟩
          case measure => show 4092 - (x ++ (⟨#[120]⟩ : ByteArray)).size < 4092 - x.size; omega
        · have hd3 : decide (x.size < 4092) = false := by simp; omega
          go_wp2
          go_loopw [6, 7] (fun v n wr => ∃ (y : ByteArray) (k : Nat), k ≤ 6 ∧ v = .string y ∧ n = .int .i64 k ∧ y.size ≤ 4092 + k ∧ Below W0.heap.size W0 wr) (fun _ n _ => 6 - (intOf n).toNat)
          case atStart => exact ⟨x, 0, by omega, rfl, rfl, by omega, HB3.out⟩
          case round =>
            obtain ⟨y, k, hk, rfl, rfl, hy, hB4⟩ := hrel
            have HB4 := Lib.hid hB4
            by_cases hlk : k < 6
            · have hd4 : decide (k < 6) = true := by simp; omega
              have hrd2 := RdTs.later Hrd.out hB4
              clear hB4
              obtain ⟨sn8, zc8, hc8⟩ := shB y (by omega)
              go_upto_region 18 with (fail)
              have e6 : decide ((k : Int) < 6) = true := by simp; omega
              simp only [e6]
              have Hlk := Lib.hid hlk
              clear hd4 hlk e6
              go_cut [8] from 103 to 111 (fun s wx => ∃ (t : Tp) (g : Nat), hugeTp t ∧ s = .pointer (some ⟨g, 0, none⟩) ∧ TpAt wx g t ∧ Below wr.heap.size wr wx)
              case first =>
                rename_i hJ hM
                obtain ⟨u, zu, a0, a1, a2, a3⟩ := at_term hlen.out Hz0.out hrd2 (j := 0) (by omega)
                simp only [Nat.zero_mul, Nat.zero_add] at a0 a1 a2 a3
                obtain ⟨v, zv, b0, b1, b2, b3⟩ := at_term hlen.out Hz0.out hrd2 (j := 1) (by omega)
                simp only [Nat.one_mul, Nat.reduceAdd] at b0 b1 b2 b3
                refine Rf.wp_region_pl wr.heap.size _ (Rf.Pl.quiet [0, 2, 3, 4, 5, 6, 7] (Rf.Pl.fork 1 9 (Rf.Pl.quiet [8] (Rf.Pl.one 9 (Rf.Pl.one 10 (Rf.Pl.done)))) (Rf.Pl.one 1 (Rf.Pl.quiet [8] (Rf.Pl.one 10 (Rf.Pl.done)))))) _ (by kernel_rfl) (by kernel_rfl) (by simp only [Rf.Pl.pick, Rf.pickO, List.map_cons, List.map_nil, Rg.pickOps, List.getElem?_toArray, List.getElem?_cons_zero, List.getElem?_cons_succ, Option.getD_some]; rfl) ?_ (fun a w h => h)
                intro wd hbd hwz
                replace a0 := cellL a0 hbd
                replace a1 := cellL a1 hbd
                replace a2 := cellL a2 hbd
                replace a3 := cellL a3 hbd
                replace b0 := cellL b0 hbd
                replace b1 := cellL b1 hbd
                replace b2 := cellL b2 hbd
                replace b3 := cellL b3 hbd
                have Hbd := Lib.hid hbd
                have hle : wr.heap.size ≤ wd.heap.size := hbd.size
                clear hbd hwz hrd2
                refine Rf.pl_quiet ?_
                iterate 7 go_big_quiet_step (fail)
                refine wpQuiet_nil (Rf.pl_fork ?_ ?_)
                · go_wp2_with (refine (hc8 _).mono ?_; rintro e v1 ⟨rfl, hb1⟩)
                  have hle1 : wr.heap.size ≤ v1.heap.size := Nat.le_trans hle hb1.size
                  refine ⟨hb1.mono hle, Rf.pl_quiet ?_⟩
                  iterate 1 go_big_quiet_step (fail)
                  refine wpQuiet_nil (Rf.pl_one ?_)
                  go_wp2_with fail
                  refine ⟨(Below.refl _ _).alloc hle1 _, Rf.pl_one ?_⟩
                  go_wp2_with fail
                  refine ⟨below_reset hle1 _ _, Rf.pl_done ?_⟩
                  refine hM _ _ (Met.intro (hJ _ _ ?_))
                  (repeat apply Exists.intro)
                  exact ⟨⟨⟨sn8, u, v⟩, _, ⟨zc8, zu, zv⟩, rfl, heap_alloc_new v1 _, (Hbd.out.trans (hb1.mono hle)).alloc hle1 _⟩, rfl⟩
                · go_wp2_with fail
                  have hz1 : (wd.alloc (.cells #[.int .i64 0, .string ⟨#[]⟩, .string ⟨#[]⟩, .string ⟨#[]⟩, .int .i64 0, .string ⟨#[]⟩, .string ⟨#[]⟩, .string ⟨#[]⟩, .int .i64 0, .string ⟨#[]⟩, .string ⟨#[]⟩, .string ⟨#[]⟩] 29)).heap.size = wd.heap.size + 1 := by simp
                  have hb0 : Below wr.heap.size wd (wd.alloc (.cells #[.int .i64 0, .string ⟨#[]⟩, .string ⟨#[]⟩, .string ⟨#[]⟩, .int .i64 0, .string ⟨#[]⟩, .string ⟨#[]⟩, .string ⟨#[]⟩, .int .i64 0, .string ⟨#[]⟩, .string ⟨#[]⟩, .string ⟨#[]⟩] 29)) := (Below.refl _ wd).alloc hle _
                  have hzb := heap_alloc_new wd (.cells #[.int .i64 0, .string ⟨#[]⟩, .string ⟨#[]⟩, .string ⟨#[]⟩, .int .i64 0, .string ⟨#[]⟩, .string ⟨#[]⟩, .string ⟨#[]⟩, .int .i64 0, .string ⟨#[]⟩, .string ⟨#[]⟩, .string ⟨#[]⟩] 29)
                  refine ⟨hb0, Rf.pl_one ?_⟩
                  go_wp2_with (refine (hc8 _).mono ?_; rintro e v1 ⟨rfl, hb1⟩)
                  have hb1' : Below wr.heap.size (wd.alloc (.cells #[.int .i64 0, .string ⟨#[]⟩, .string ⟨#[]⟩, .string ⟨#[]⟩, .int .i64 0, .string ⟨#[]⟩, .string ⟨#[]⟩, .string ⟨#[]⟩, .int .i64 0, .string ⟨#[]⟩, .string ⟨#[]⟩, .string ⟨#[]⟩] 29)) v1 := hb1.mono (by rw [hz1]; omega)
                  have hblk : v1.heap[wd.heap.size]? = some (.cells #[.int .i64 0, .string ⟨#[]⟩, .string ⟨#[]⟩, .string ⟨#[]⟩, .int .i64 0, .string ⟨#[]⟩, .string ⟨#[]⟩, .string ⟨#[]⟩, .int .i64 0, .string ⟨#[]⟩, .string ⟨#[]⟩, .string ⟨#[]⟩] 29 (0, 0)) := below_blk hb1 hzb
                  refine ⟨hb1', Rf.pl_quiet ?_⟩
                  iterate 1 go_big_quiet_step (fail)
                  refine wpQuiet_nil (Rf.pl_one ?_)
                  go_wp2_with (with_reducible refine (?_ : wpList _ _ _ (_ :: []) _ _); with_reducible refine stay ?_)
                  unfold Stay
                  have hrow : Below wr.heap.size v1 (v1.setRow wd.heap.size (tpC ⟨sn8, u, v⟩)) := ⟨rfl, rfl, rfl, by simp, fun b hb => setRow_other _ _ _ _ (by omega)⟩
                  have hnew : (v1.setRow wd.heap.size (tpC ⟨sn8, u, v⟩)).heap[wd.heap.size]? = some (.cells (tpC ⟨sn8, u, v⟩) 29 (0, 0)) := setRow_heap _ _ _ _ _ _ hblk
                  with_reducible refine wpList_store_row ?gd8 29 ?ad8 ?xx8 ?hop8 (cur := #[.int .i64 0, .string ⟨#[]⟩, .string ⟨#[]⟩, .string ⟨#[]⟩, .int .i64 0, .string ⟨#[]⟩, .string ⟨#[]⟩, .string ⟨#[]⟩, .int .i64 0, .string ⟨#[]⟩, .string ⟨#[]⟩, .string ⟨#[]⟩]) (vs := tpC ⟨sn8, u, v⟩) ?had8 ?hx8 (tp_sizeT ⟨sn8, u, v⟩) hblk rfl rfl ?hQ8
                  case hop8 => rfl
                  case gd8 => rfl
                  case had8 => rfl
                  case hx8 => rfl
                  generalize v1.setRow wd.heap.size (tpC ⟨sn8, u, v⟩) = v2 at *
                  go_wp2_with fail
                  refine ⟨hrow, Rf.pl_done ?_⟩
                  refine hM _ _ (Met.intro (hJ _ _ ?_))
                  (repeat apply Exists.intro)
                  exact ⟨⟨⟨sn8, u, v⟩, _, ⟨zc8, zu, zv⟩, rfl, hnew, Hbd.out.trans (hb0.trans (hb1'.trans hrow))⟩, rfl⟩
              obtain ⟨tt8, g8, ztt8, rfl, ht8, hb8⟩ := hcut
              obtain ⟨wz8, rfl⟩ : ∃ x, x = wc := ⟨_, rfl⟩
              have hrd3 := RdTs.later hrd2 hb8
              have HBz8 := Lib.hid (below_tr HB4.out hb8)
              clear hrd2 hb8
              obtain ⟨sn9, zc9, hc9⟩ := shI y (by omega)
              go_upto_region 19 with (fail)
              go_cut [9] from 112 to 120 (fun s wx => ∃ (t : Tp) (g : Nat), hugeTp t ∧ s = .pointer (some ⟨g, 0, none⟩) ∧ TpAt wx g t ∧ Below wz8.heap.size wz8 wx)
              case first =>
                rename_i hJ hM
                obtain ⟨u, zu, a0, a1, a2, a3⟩ := at_term hlen.out Hz0.out hrd3 (j := 0) (by omega)
                simp only [Nat.zero_mul, Nat.zero_add] at a0 a1 a2 a3
                obtain ⟨v, zv, b0, b1, b2, b3⟩ := at_term hlen.out Hz0.out hrd3 (j := 7) (by omega)
                simp only [Nat.reduceMul, Nat.reduceAdd] at b0 b1 b2 b3
                refine Rf.wp_region_pl wz8.heap.size _ (Rf.Pl.quiet [0, 1, 2, 3, 5, 6, 7] (Rf.Pl.fork 4 9 (Rf.Pl.quiet [8] (Rf.Pl.one 9 (Rf.Pl.one 10 (Rf.Pl.done)))) (Rf.Pl.one 4 (Rf.Pl.quiet [8] (Rf.Pl.one 10 (Rf.Pl.done)))))) _ (by kernel_rfl) (by kernel_rfl) (by simp only [Rf.Pl.pick, Rf.pickO, List.map_cons, List.map_nil, Rg.pickOps, List.getElem?_toArray, List.getElem?_cons_zero, List.getElem?_cons_succ, Option.getD_some]; rfl) ?_ (fun a w h => h)
                intro wd hbd hwz
                replace a0 := cellL a0 hbd
                replace a1 := cellL a1 hbd
                replace a2 := cellL a2 hbd
                replace a3 := cellL a3 hbd
                replace b0 := cellL b0 hbd
                replace b1 := cellL b1 hbd
                replace b2 := cellL b2 hbd
                replace b3 := cellL b3 hbd
                have Hbd := Lib.hid hbd
                have hle : wz8.heap.size ≤ wd.heap.size := hbd.size
                clear hbd hwz hrd3
                refine Rf.pl_quiet ?_
                iterate 7 go_big_quiet_step (fail)
                refine wpQuiet_nil (Rf.pl_fork ?_ ?_)
                · go_wp2_with (refine (hc9 _).mono ?_; rintro e v1 ⟨rfl, hb1⟩)
                  have hle1 : wz8.heap.size ≤ v1.heap.size := Nat.le_trans hle hb1.size
                  refine ⟨hb1.mono hle, Rf.pl_quiet ?_⟩
                  iterate 1 go_big_quiet_step (fail)
                  refine wpQuiet_nil (Rf.pl_one ?_)
                  go_wp2_with fail
                  refine ⟨(Below.refl _ _).alloc hle1 _, Rf.pl_one ?_⟩
                  go_wp2_with fail
                  refine ⟨below_reset hle1 _ _, Rf.pl_done ?_⟩
                  refine hM _ _ (Met.intro (hJ _ _ ?_))
                  (repeat apply Exists.intro)
                  exact ⟨⟨⟨u, sn9, v⟩, _, ⟨zu, zc9, zv⟩, rfl, heap_alloc_new v1 _, (Hbd.out.trans (hb1.mono hle)).alloc hle1 _⟩, rfl⟩
                · go_wp2_with fail
                  have hz1 : (wd.alloc (.cells #[.int .i64 0, .string ⟨#[]⟩, .string ⟨#[]⟩, .string ⟨#[]⟩, .int .i64 0, .string ⟨#[]⟩, .string ⟨#[]⟩, .string ⟨#[]⟩, .int .i64 0, .string ⟨#[]⟩, .string ⟨#[]⟩, .string ⟨#[]⟩] 29)).heap.size = wd.heap.size + 1 := by simp
                  have hb0 : Below wz8.heap.size wd (wd.alloc (.cells #[.int .i64 0, .string ⟨#[]⟩, .string ⟨#[]⟩, .string ⟨#[]⟩, .int .i64 0, .string ⟨#[]⟩, .string ⟨#[]⟩, .string ⟨#[]⟩, .int .i64 0, .string ⟨#[]⟩, .string ⟨#[]⟩, .string ⟨#[]⟩] 29)) := (Below.refl _ wd).alloc hle _
                  have hzb := heap_alloc_new wd (.cells #[.int .i64 0, .string ⟨#[]⟩, .string ⟨#[]⟩, .string ⟨#[]⟩, .int .i64 0, .string ⟨#[]⟩, .string ⟨#[]⟩, .string ⟨#[]⟩, .int .i64 0, .string ⟨#[]⟩, .string ⟨#[]⟩, .string ⟨#[]⟩] 29)
                  refine ⟨hb0, Rf.pl_one ?_⟩
                  go_wp2_with (refine (hc9 _).mono ?_; rintro e v1 ⟨rfl, hb1⟩)
                  have hb1' : Below wz8.heap.size (wd.alloc (.cells #[.int .i64 0, .string ⟨#[]⟩, .string ⟨#[]⟩, .string ⟨#[]⟩, .int .i64 0, .string ⟨#[]⟩, .string ⟨#[]⟩, .string ⟨#[]⟩, .int .i64 0, .string ⟨#[]⟩, .string ⟨#[]⟩, .string ⟨#[]⟩] 29)) v1 := hb1.mono (by rw [hz1]; omega)
                  have hblk : v1.heap[wd.heap.size]? = some (.cells #[.int .i64 0, .string ⟨#[]⟩, .string ⟨#[]⟩, .string ⟨#[]⟩, .int .i64 0, .string ⟨#[]⟩, .string ⟨#[]⟩, .string ⟨#[]⟩, .int .i64 0, .string ⟨#[]⟩, .string ⟨#[]⟩, .string ⟨#[]⟩] 29 (0, 0)) := below_blk hb1 hzb
                  refine ⟨hb1', Rf.pl_quiet ?_⟩
                  iterate 1 go_big_quiet_step (fail)
                  refine wpQuiet_nil (Rf.pl_one ?_)
                  go_wp2_with (with_reducible refine (?_ : wpList _ _ _ (_ :: []) _ _); with_reducible refine stay ?_)
                  unfold Stay
                  have hrow : Below wz8.heap.size v1 (v1.setRow wd.heap.size (tpC ⟨u, sn9, v⟩)) := ⟨rfl, rfl, rfl, by simp, fun b hb => setRow_other _ _ _ _ (by omega)⟩
                  have hnew : (v1.setRow wd.heap.size (tpC ⟨u, sn9, v⟩)).heap[wd.heap.size]? = some (.cells (tpC ⟨u, sn9, v⟩) 29 (0, 0)) := setRow_heap _ _ _ _ _ _ hblk
                  with_reducible refine wpList_store_row ?gd9 29 ?ad9 ?xx9 ?hop9 (cur := #[.int .i64 0, .string ⟨#[]⟩, .string ⟨#[]⟩, .string ⟨#[]⟩, .int .i64 0, .string ⟨#[]⟩, .string ⟨#[]⟩, .string ⟨#[]⟩, .int .i64 0, .string ⟨#[]⟩, .string ⟨#[]⟩, .string ⟨#[]⟩]) (vs := tpC ⟨u, sn9, v⟩) ?had9 ?hx9 (tp_sizeT ⟨u, sn9, v⟩) hblk rfl rfl ?hQ9
                  case hop9 => rfl
                  case gd9 => rfl
                  case had9 => rfl
                  case hx9 => rfl
                  generalize v1.setRow wd.heap.size (tpC ⟨u, sn9, v⟩) = v2 at *
                  go_wp2_with fail
                  refine ⟨hrow, Rf.pl_done ?_⟩
                  refine hM _ _ (Met.intro (hJ _ _ ?_))
                  (repeat apply Exists.intro)
                  exact ⟨⟨⟨u, sn9, v⟩, _, ⟨zu, zc9, zv⟩, rfl, hnew, Hbd.out.trans (hb0.trans (hb1'.trans hrow))⟩, rfl⟩
              obtain ⟨tt9, g9, ztt9, rfl, ht9, hb9⟩ := hcut
              obtain ⟨wz9, rfl⟩ : ∃ x, x = wc := ⟨_, rfl⟩
              have hrd4 := RdTs.later hrd3 hb9
              have ht8 := ht8.step hb9
              have HBz9 := Lib.hid (below_tr HBz8.out hb9)
              clear hrd3 hb9
              obtain ⟨sn10, zc10, hc10⟩ := shL y (by omega)
              go_upto_region 20 with (fail)
              go_cut [10] from 121 to 129 (fun s wx => ∃ (t : Tp) (g : Nat), hugeTp t ∧ s = .pointer (some ⟨g, 0, none⟩) ∧ TpAt wx g t ∧ Below wz9.heap.size wz9 wx)
              case first =>
                rename_i hJ hM
                obtain ⟨u, zu, a0, a1, a2, a3⟩ := at_term hlen.out Hz0.out hrd4 (j := 0) (by omega)
                simp only [Nat.zero_mul, Nat.zero_add] at a0 a1 a2 a3
                refine Rf.wp_region_pl wz9.heap.size _ (Rf.Pl.quiet [0, 1, 2, 3, 4, 5, 6] (Rf.Pl.fork 7 9 (Rf.Pl.quiet [8] (Rf.Pl.one 9 (Rf.Pl.one 10 (Rf.Pl.done)))) (Rf.Pl.one 7 (Rf.Pl.quiet [8] (Rf.Pl.one 10 (Rf.Pl.done)))))) _ (by kernel_rfl) (by kernel_rfl) (by simp only [Rf.Pl.pick, Rf.pickO, List.map_cons, List.map_nil, Rg.pickOps, List.getElem?_toArray, List.getElem?_cons_zero, List.getElem?_cons_succ, Option.getD_some]; rfl) ?_ (fun a w h => h)
                intro wd hbd hwz
                replace a0 := cellL a0 hbd
                replace a1 := cellL a1 hbd
                replace a2 := cellL a2 hbd
                replace a3 := cellL a3 hbd
                have Hbd := Lib.hid hbd
                have hle : wz9.heap.size ≤ wd.heap.size := hbd.size
                clear hbd hwz hrd4
                refine Rf.pl_quiet ?_
                iterate 7 go_big_quiet_step (fail)
                refine wpQuiet_nil (Rf.pl_fork ?_ ?_)
                · go_wp2_with (refine (hc10 _).mono ?_; rintro e v1 ⟨rfl, hb1⟩)
                  have hle1 : wz9.heap.size ≤ v1.heap.size := Nat.le_trans hle hb1.size
                  refine ⟨hb1.mono hle, Rf.pl_quiet ?_⟩
                  iterate 1 go_big_quiet_step (fail)
                  refine wpQuiet_nil (Rf.pl_one ?_)
                  go_wp2_with fail
                  refine ⟨(Below.refl _ _).alloc hle1 _, Rf.pl_one ?_⟩
                  go_wp2_with fail
                  refine ⟨below_reset hle1 _ _, Rf.pl_done ?_⟩
                  refine hM _ _ (Met.intro (hJ _ _ ?_))
                  (repeat apply Exists.intro)
                  exact ⟨⟨⟨u, u, sn10⟩, _, ⟨zu, zu, zc10⟩, rfl, heap_alloc_new v1 _, (Hbd.out.trans (hb1.mono hle)).alloc hle1 _⟩, rfl⟩
                · go_wp2_with fail
                  have hz1 : (wd.alloc (.cells #[.int .i64 0, .string ⟨#[]⟩, .string ⟨#[]⟩, .string ⟨#[]⟩, .int .i64 0, .string ⟨#[]⟩, .string ⟨#[]⟩, .string ⟨#[]⟩, .int .i64 0, .string ⟨#[]⟩, .string ⟨#[]⟩, .string ⟨#[]⟩] 29)).heap.size = wd.heap.size + 1 := by simp
                  have hb0 : Below wz9.heap.size wd (wd.alloc (.cells #[.int .i64 0, .string ⟨#[]⟩, .string ⟨#[]⟩, .string ⟨#[]⟩, .int .i64 0, .string ⟨#[]⟩, .string ⟨#[]⟩, .string ⟨#[]⟩, .int .i64 0, .string ⟨#[]⟩, .string ⟨#[]⟩, .string ⟨#[]⟩] 29)) := (Below.refl _ wd).alloc hle _
                  have hzb := heap_alloc_new wd (.cells #[.int .i64 0, .string ⟨#[]⟩, .string ⟨#[]⟩, .string ⟨#[]⟩, .int .i64 0, .string ⟨#[]⟩, .string ⟨#[]⟩, .string ⟨#[]⟩, .int .i64 0, .string ⟨#[]⟩, .string ⟨#[]⟩, .string ⟨#[]⟩] 29)
                  refine ⟨hb0, Rf.pl_one ?_⟩
                  go_wp2_with (refine (hc10 _).mono ?_; rintro e v1 ⟨rfl, hb1⟩)
                  have hb1' : Below wz9.heap.size (wd.alloc (.cells #[.int .i64 0, .string ⟨#[]⟩, .string ⟨#[]⟩, .string ⟨#[]⟩, .int .i64 0, .string ⟨#[]⟩, .string ⟨#[]⟩, .string ⟨#[]⟩, .int .i64 0, .string ⟨#[]⟩, .string ⟨#[]⟩, .string ⟨#[]⟩] 29)) v1 := hb1.mono (by rw [hz1]; omega)
                  have hblk : v1.heap[wd.heap.size]? = some (.cells #[.int .i64 0, .string ⟨#[]⟩, .string ⟨#[]⟩, .string ⟨#[]⟩, .int .i64 0, .string ⟨#[]⟩, .string ⟨#[]⟩, .string ⟨#[]⟩, .int .i64 0, .string ⟨#[]⟩, .string ⟨#[]⟩, .string ⟨#[]⟩] 29 (0, 0)) := below_blk hb1 hzb
                  refine ⟨hb1', Rf.pl_quiet ?_⟩
                  iterate 1 go_big_quiet_step (fail)
                  refine wpQuiet_nil (Rf.pl_one ?_)
                  go_wp2_with (with_reducible refine (?_ : wpList _ _ _ (_ :: []) _ _); with_reducible refine stay ?_)
                  unfold Stay
                  have hrow : Below wz9.heap.size v1 (v1.setRow wd.heap.size (tpC ⟨u, u, sn10⟩)) := ⟨rfl, rfl, rfl, by simp, fun b hb => setRow_other _ _ _ _ (by omega)⟩
                  have hnew : (v1.setRow wd.heap.size (tpC ⟨u, u, sn10⟩)).heap[wd.heap.size]? = some (.cells (tpC ⟨u, u, sn10⟩) 29 (0, 0)) := setRow_heap _ _ _ _ _ _ hblk
                  with_reducible refine wpList_store_row ?gd10 29 ?ad10 ?xx10 ?hop10 (cur := #[.int .i64 0, .string ⟨#[]⟩, .string ⟨#[]⟩, .string ⟨#[]⟩, .int .i64 0, .string ⟨#[]⟩, .string ⟨#[]⟩, .string ⟨#[]⟩, .int .i64 0, .string ⟨#[]⟩, .string ⟨#[]⟩, .string ⟨#[]⟩]) (vs := tpC ⟨u, u, sn10⟩) ?had10 ?hx10 (tp_sizeT ⟨u, u, sn10⟩) hblk rfl rfl ?hQ10
                  case hop10 => rfl
                  case gd10 => rfl
                  case had10 => rfl
                  case hx10 => rfl
                  generalize v1.setRow wd.heap.size (tpC ⟨u, u, sn10⟩) = v2 at *
                  go_wp2_with fail
                  refine ⟨hrow, Rf.pl_done ?_⟩
                  refine hM _ _ (Met.intro (hJ _ _ ?_))
                  (repeat apply Exists.intro)
                  exact ⟨⟨⟨u, u, sn10⟩, _, ⟨zu, zu, zc10⟩, rfl, hnew, Hbd.out.trans (hb0.trans (hb1'.trans hrow))⟩, rfl⟩
              obtain ⟨tt10, g10, ztt10, rfl, ht10, hb10⟩ := hcut
              obtain ⟨wz10, rfl⟩ : ∃ x, x = wc := ⟨_, rfl⟩
              have hrd5 := RdTs.later hrd4 hb10
              have ht8 := ht8.step hb10
              have ht9 := ht9.step hb10
              have HBz10 := Lib.hid (below_tr HBz9.out hb10)
              clear hrd4 hb10
              go_upto_region 21 with (fail)
              go_cut [11] from 130 to 133 (fun s wx => ∃ (t : Tp) (g : Nat), hugeTp t ∧ s = .pointer (some ⟨g, 0, none⟩) ∧ TpAt wx g t ∧ Below wz10.heap.size wz10 wx)
              case first =>
                rename_i hJ hM
                obtain ⟨u, zu, a0, a1, a2, a3⟩ := at_term hlen.out Hz0.out hrd5 (j := 7) (by omega)
                simp only [Nat.reduceMul, Nat.reduceAdd] at a0 a1 a2 a3
                go_wp2
                refine Met.intro (hJ _ _ ?_)
                (repeat apply Exists.intro)
                exact ⟨⟨⟨u, zTm, zTm⟩, _, ⟨zu, huge_z, huge_z⟩, rfl, heap_alloc_new wz10 _, (Below.refl _ wz10).alloc (Nat.le_refl _) _⟩, rfl⟩
              obtain ⟨tt11, g11, ztt11, rfl, ht11, hb11⟩ := hcut
              obtain ⟨wz11, rfl⟩ : ∃ x, x = wc := ⟨_, rfl⟩
              have hrd6 := RdTs.later hrd5 hb11
              have ht8 := ht8.step hb11
              have ht9 := ht9.step hb11
              have ht10 := ht10.step hb11
              have HBz11 := Lib.hid (below_tr HBz10.out hb11)
              clear hrd5 hb11
              clear hrd6
              have a0 := cells_at ht8 0 rfl
              have a1 := cells_at ht8 1 rfl
              have a2 := cells_at ht8 2 rfl
              have a3 := cells_at ht8 3 rfl
              have a4 := cells_at ht8 4 rfl
              have a5 := cells_at ht8 5 rfl
              have a6 := cells_at ht8 6 rfl
              have a7 := cells_at ht8 7 rfl
              have a8 := cells_at ht8 8 rfl
              have a9 := cells_at ht8 9 rfl
              have a10 := cells_at ht8 10 rfl
              have a11 := cells_at ht8 11 rfl
              have hal1 : Below wz11.heap.size wz11 (wz11.alloc (.cells #[.int .i64 tt8.s.k, .string tt8.s.x, .string tt8.s.l, .string tt8.s.y, .int .i64 tt8.p.k, .string tt8.p.x, .string tt8.p.l, .string tt8.p.y, .int .i64 tt8.o.k, .string tt8.o.x, .string tt8.o.l, .string tt8.o.y] 29)) := (Below.refl _ wz11).alloc (Nat.le_refl _) _
              have hq1 := HA.out [tt8] 1 (some ⟨wz11.heap.size, 0, none⟩) 1 _ rfl (by omega) (below_tr HBz11.out hal1) (rdA1 tt8 wz11) (huge1 ztt8)
              go_wp2_with fail
              refine hq1.mono ?_
              rintro e wy1 ⟨rfl, by1⟩
              have bz1 := below_tr hal1 by1
              have ht8x := ht8.step bz1
              have ht9x := ht9.step bz1
              have ht10x := ht10.step bz1
              have ht11x := ht11.step bz1
              have BY1 := Lib.hid (below_tr HBz11.out bz1)
              clear a0 a1 a2 a3 a4 a5 a6 a7 a8 a9 a10 a11 hq1 hal1 by1 bz1
              have a0 := cells_at ht9x 0 rfl
              have a1 := cells_at ht9x 1 rfl
              have a2 := cells_at ht9x 2 rfl
              have a3 := cells_at ht9x 3 rfl
              have a4 := cells_at ht9x 4 rfl
              have a5 := cells_at ht9x 5 rfl
              have a6 := cells_at ht9x 6 rfl
              have a7 := cells_at ht9x 7 rfl
              have a8 := cells_at ht9x 8 rfl
              have a9 := cells_at ht9x 9 rfl
              have a10 := cells_at ht9x 10 rfl
              have a11 := cells_at ht9x 11 rfl
              have hal2 : Below wy1.heap.size wy1 (wy1.alloc (.cells #[.int .i64 tt9.s.k, .string tt9.s.x, .string tt9.s.l, .string tt9.s.y, .int .i64 tt9.p.k, .string tt9.p.x, .string tt9.p.l, .string tt9.p.y, .int .i64 tt9.o.k, .string tt9.o.x, .string tt9.o.l, .string tt9.o.y] 29)) := (Below.refl _ wy1).alloc (Nat.le_refl _) _
              have hq2 := HA.out [tt9] 1 (some ⟨wy1.heap.size, 0, none⟩) 1 _ rfl (by omega) (below_tr BY1.out hal2) (rdA1 tt9 wy1) (huge1 ztt9)
              go_wp2_with fail
              refine hq2.mono ?_
              rintro e wy2 ⟨rfl, by2⟩
              have bz2 := below_tr hal2 by2
              have ht8xx := ht8x.step bz2
              have ht9xx := ht9x.step bz2
              have ht10xx := ht10x.step bz2
              have ht11xx := ht11x.step bz2
              have BY2 := Lib.hid (below_tr BY1.out bz2)
              clear a0 a1 a2 a3 a4 a5 a6 a7 a8 a9 a10 a11 hq2 hal2 by2 bz2
              have a0 := cells_at ht10xx 0 rfl
              have a1 := cells_at ht10xx 1 rfl
              have a2 := cells_at ht10xx 2 rfl
              have a3 := cells_at ht10xx 3 rfl
              have a4 := cells_at ht10xx 4 rfl
              have a5 := cells_at ht10xx 5 rfl
              have a6 := cells_at ht10xx 6 rfl
              have a7 := cells_at ht10xx 7 rfl
              have a8 := cells_at ht10xx 8 rfl
              have a9 := cells_at ht10xx 9 rfl
              have a10 := cells_at ht10xx 10 rfl
              have a11 := cells_at ht10xx 11 rfl
              have d0 := cells_at ht11xx 0 rfl
              have d1 := cells_at ht11xx 1 rfl
              have d2 := cells_at ht11xx 2 rfl
              have d3 := cells_at ht11xx 3 rfl
              have d4 := cells_at ht11xx 4 rfl
              have d5 := cells_at ht11xx 5 rfl
              have d6 := cells_at ht11xx 6 rfl
              have d7 := cells_at ht11xx 7 rfl
              have d8 := cells_at ht11xx 8 rfl
              have d9 := cells_at ht11xx 9 rfl
              have d10 := cells_at ht11xx 10 rfl
              have d11 := cells_at ht11xx 11 rfl
              have hal3 : Below wy2.heap.size wy2 (wy2.alloc (.cells #[.int .i64 tt10.s.k, .string tt10.s.x, .string tt10.s.l, .string tt10.s.y, .int .i64 tt10.p.k, .string tt10.p.x, .string tt10.p.l, .string tt10.p.y, .int .i64 tt10.o.k, .string tt10.o.x, .string tt10.o.l, .string tt10.o.y, .int .i64 tt11.s.k, .string tt11.s.x, .string tt11.s.l, .string tt11.s.y, .int .i64 tt11.p.k, .string tt11.p.x, .string tt11.p.l, .string tt11.p.y, .int .i64 tt11.o.k, .string tt11.o.x, .string tt11.o.l, .string tt11.o.y] 29)) := (Below.refl _ wy2).alloc (Nat.le_refl _) _
              have hq3 := HA.out [tt10, tt11] 2 (some ⟨wy2.heap.size, 0, none⟩) 2 _ rfl (by omega) (below_tr BY2.out hal3) (rdA2 tt10 tt11 wy2) (huge2 ztt10 ztt11)
              go_wp2_with fail
              refine hq3.mono ?_
              rintro e wy3 ⟨rfl, by3⟩
              have bz3 := below_tr hal3 by3
              have ht8xxx := ht8xx.step bz3
              have ht9xxx := ht9xx.step bz3
              have ht10xxx := ht10xx.step bz3
              have ht11xxx := ht11xx.step bz3
              have BY3 := Lib.hid (below_tr BY2.out bz3)
              clear a0 a1 a2 a3 a4 a5 a6 a7 a8 a9 a10 a11 d0 d1 d2 d3 d4 d5 d6 d7 d8 d9 d10 d11 hq3 hal3 by3 bz3
              have a0 := cells_at ht11xxx 0 rfl
              have a1 := cells_at ht11xxx 1 rfl
              have a2 := cells_at ht11xxx 2 rfl
              have a3 := cells_at ht11xxx 3 rfl
              have a4 := cells_at ht11xxx 4 rfl
              have a5 := cells_at ht11xxx 5 rfl
              have a6 := cells_at ht11xxx 6 rfl
              have a7 := cells_at ht11xxx 7 rfl
              have a8 := cells_at ht11xxx 8 rfl
              have a9 := cells_at ht11xxx 9 rfl
              have a10 := cells_at ht11xxx 10 rfl
              have a11 := cells_at ht11xxx 11 rfl
              have d0 := cells_at ht8xxx 0 rfl
              have d1 := cells_at ht8xxx 1 rfl
              have d2 := cells_at ht8xxx 2 rfl
              have d3 := cells_at ht8xxx 3 rfl
              have d4 := cells_at ht8xxx 4 rfl
              have d5 := cells_at ht8xxx 5 rfl
              have d6 := cells_at ht8xxx 6 rfl
              have d7 := cells_at ht8xxx 7 rfl
              have d8 := cells_at ht8xxx 8 rfl
              have d9 := cells_at ht8xxx 9 rfl
              have d10 := cells_at ht8xxx 10 rfl
              have d11 := cells_at ht8xxx 11 rfl
              have hal4 : Below wy3.heap.size wy3 (wy3.alloc (.cells #[.int .i64 tt11.s.k, .string tt11.s.x, .string tt11.s.l, .string tt11.s.y, .int .i64 tt11.p.k, .string tt11.p.x, .string tt11.p.l, .string tt11.p.y, .int .i64 tt11.o.k, .string tt11.o.x, .string tt11.o.l, .string tt11.o.y, .int .i64 tt8.s.k, .string tt8.s.x, .string tt8.s.l, .string tt8.s.y, .int .i64 tt8.p.k, .string tt8.p.x, .string tt8.p.l, .string tt8.p.y, .int .i64 tt8.o.k, .string tt8.o.x, .string tt8.o.l, .string tt8.o.y] 29)) := (Below.refl _ wy3).alloc (Nat.le_refl _) _
              have hq4 := HA.out [tt11, tt8] 2 (some ⟨wy3.heap.size, 0, none⟩) 2 _ rfl (by omega) (below_tr BY3.out hal4) (rdA2 tt11 tt8 wy3) (huge2 ztt11 ztt8)
              go_wp2_with fail
              refine hq4.mono ?_
              rintro e wy4 ⟨rfl, by4⟩
              have bz4 := below_tr hal4 by4
              have ht8xxxx := ht8xxx.step bz4
              have ht9xxxx := ht9xxx.step bz4
              have ht10xxxx := ht10xxx.step bz4
              have ht11xxxx := ht11xxx.step bz4
              have BY4 := Lib.hid (below_tr BY3.out bz4)
              clear a0 a1 a2 a3 a4 a5 a6 a7 a8 a9 a10 a11 d0 d1 d2 d3 d4 d5 d6 d7 d8 d9 d10 d11 hq4 hal4 by4 bz4
              have hyn : (y ++ (⟨#[120]⟩ : ByteArray)).size = y.size + 1 := by rw [ByteArray.size_append]; rfl
              have hk6 := Hlk.out
              go_wp2
              go_roundw
              case rel => exact ⟨y ++ ⟨#[120]⟩, k + 1, by omega, rfl, by go_num, by omega, BY4.out⟩
              case measure => simp [intOf]; omega
            · have hd4 : decide (k < 6) = false := by simp; omega
              have hnil := HA.out [] 0 none 0 wr rfl (by omega) hB4 (Rd.nil _ _) (by intro t ht; cases ht)
              have haw := fun W (hb : Below wr.heap.size wr W) => lawAwake11 W (HC.out.step (below_tr HBW0.out (below_tr hB4 hb)))
              have HBx := Lib.hid (below_tr HBW0.out hB4)
              clear hB4
              go_wp2_with fail
              refine hnil.mono ?_
              rintro e w6 ⟨rfl, b6⟩
              have haw := haw _ b6
              clear hnil
              go_wp2_with fail
              refine haw.mono ?_
              rintro e w7 ⟨rfl, b7⟩
              have HB7 := Lib.hid (below_tr HBx.out (below_tr b6 b7))
              clear b6 b7 haw
              go_wp2
              go_ret
              exact ⟨rfl, HB7.out⟩
end Go.Proofs.YthdlepalglgmoaaGreatDoor
