/- The program's package lines: triple. Words of lines: blanks behind a line, and another line behind them. Layer 9's laws, walked: awake, tells, same, blank; LexTells. Layer 9's laws, walked: tells, LexTells. Layer 9's laws, walked: blank, LexParts. -/
import Derived.Test.YtffpgandgajihaaGreatDoorJLn8
import Derived.Test.YtffpgandgajihaaGreatDoorJR8e
import Derived.Test.YtffpgandgajihaaGreatDoorJTxPU
import Derived.Test.YtffpgandgajihaaGreatDoorJR9e
namespace Go.Proofs.YtffpgandgajihaaGreatDoor
open Go Go.RowKit Um Fm Lx Tx
/-- A block of cells. -/
def bkT (z : Nat) (T : TypeId) (cs : Array Value) (V : World) : Prop := V.heap[z]? = some (.cells cs T (0, 0))
theorem bkT.lt {z : Nat} {T : TypeId} {cs : Array Value} {V : World} (h : bkT z T cs V) : z < V.heap.size := (Array.getElem?_eq_some_iff.1 h).1
theorem bkT.grown {z b : Nat} {T : TypeId} {cs : Array Value} {V V' : World} (h : bkT z T cs V) (hg : V.grownBy V' (some b)) (hb : b ≠ z) : bkT z T cs V' := by
  have hlt := h.lt
  show V'.heap[z]? = _
  rw [hg.block _ hlt (by intro e; cases e; exact hb rfl)]
  exact h
theorem bkT.step {z : Nat} {T : TypeId} {cs : Array Value} {V V' : World} (h : bkT z T cs V) (hb : Below V.heap.size V V') : bkT z T cs V' := below_blk hb h
theorem bkT.set {z : Nat} {T : TypeId} {cs : Array Value} {V : World} (h : bkT z T cs V) (i : Nat) (v : Value) : bkT z T (cs.setIfInBounds i v) (V.setCell ⟨z, i, none⟩ v) := by
  unfold bkT at *
  simp [World.setCell, Array.getElem?_modify, h]
theorem bkT.cell {z : Nat} {T : TypeId} {cs : Array Value} {V : World} (h : bkT z T cs V) (i : Nat) {u : Value} (hu : cs[i]? = some u) : V.cell? ⟨z, i, none⟩ = some u := by rw [Lib.cell_of_heap h]; exact hu
theorem bkT.fz {z : Nat} {T : TypeId} {cs : Array Value} {V : World} (h : bkT z T cs V) (i : Nat) : V.frozen? ⟨z, i, none⟩ = false := Lib.frozen_of_heap h i
theorem CrAt.set4 {w : World} {b n : Nat} {s : Ls} (h : CrAt w b n s) {tb : Nat} (ht : b < tb) (i : Nat) (v0 v1 v2 v3 : Value) : CrAt ((((w.setCell ⟨tb, i, none⟩ v0).setCell ⟨tb, i + 1, none⟩ v1).setCell ⟨tb, i + 2, none⟩ v2).setCell ⟨tb, i + 3, none⟩ v3) b n s :=
  (((h.other ht _ _).other ht _ _).other ht _ _).other ht _ _
theorem gr_set4 {w wx : World} {b tb : Nat} (h : w.grownBy wx (some b)) (ht : w.heap.size ≤ tb) (i : Nat) (v0 v1 v2 v3 : Value) : w.grownBy ((((wx.setCell ⟨tb, i, none⟩ v0).setCell ⟨tb, i + 1, none⟩ v1).setCell ⟨tb, i + 2, none⟩ v2).setCell ⟨tb, i + 3, none⟩ v3) (some b) :=
  gr_set (gr_set (gr_set (gr_set h ht _ _) ht _ _) ht _ _) ht _ _
theorem bkT.set4 {z : Nat} {T : TypeId} {cs : Array Value} {V : World} (h : bkT z T cs V) (i : Nat) (v0 v1 v2 v3 : Value) : bkT z T ((((cs.setIfInBounds i v0).setIfInBounds (i + 1) v1).setIfInBounds (i + 2) v2).setIfInBounds (i + 3) v3) ((((V.setCell ⟨z, i, none⟩ v0).setCell ⟨z, i + 1, none⟩ v1).setCell ⟨z, i + 2, none⟩ v2).setCell ⟨z, i + 3, none⟩ v3) :=
  (((h.set i v0).set (i + 1) v1).set (i + 2) v2).set (i + 3) v3
def zCs : Array Value := #[.int .i64 0, .string ⟨#[]⟩, .string ⟨#[]⟩, .string ⟨#[]⟩, .int .i64 0, .string ⟨#[]⟩, .string ⟨#[]⟩, .string ⟨#[]⟩, .int .i64 0, .string ⟨#[]⟩, .string ⟨#[]⟩, .string ⟨#[]⟩]
set_option maxHeartbeats 4000000 in
set_option maxRecDepth 20000 in
theorem rTriple (b n : Nat) (s : Ls) (w : World) (h : CrAt w b n s) (ho : TsOk s.r) :
    Calls Tryz.prog 22 #[.pointer (some ⟨b, 0, none⟩)] w fun e w' => e = .returned (tpA ⟨(tripC n s).1.1, (tripC n s).1.2.1, (tripC n s).1.2.2⟩) ∧ CrAt w' b n (tripC n s).2 ∧ w.grownBy w' (some b) := by
  have hlt := h.lt
  obtain ⟨res, hres⟩ : ∃ r, tripC n s = r := ⟨_, rfl⟩
  rw [hres]
  have Hm : Hid (res = tripC n s) := hres.symm
  clear hres
  unfold tripC at Hm
  dsimp only at Hm
  obtain ⟨W0, hW0⟩ : ∃ W0, W0 = w.alloc (.cells zCs 37) := ⟨_, rfl⟩
  have hB0 : Below w.heap.size w W0 := hW0 ▸ (Below.refl _ w).alloc (Nat.le_refl _) _
  have hz0 : bkT w.heap.size 37 zCs W0 := hW0 ▸ heap_alloc_new w _
  have hs0 : W0.heap.size = w.heap.size + 1 := by rw [hW0]; simp
  have hm1 := rMustK [1, 2] #[.int .i64 1, .int .i64 2] rfl 70 2 rfl b n s W0 (h.below hB0) (by decide) (by decide)
  have o1 := (must_ok (ks := [1, 2]) (n := n) ho).2
  generalize mustP [1, 2] n s = a1 at *
  obtain ⟨t1, s1⟩ := a1
  simp only at o1 hm1 Hm
  have hm2 := fun W hC => rMustK [1] #[.int .i64 1] rfl 70 1 rfl b n s1 W hC (by decide) (by decide)
  have o2 := (must_ok (ks := [1]) (n := n) o1).2
  generalize mustP [1] n s1 = a2 at *
  obtain ⟨t2, s2⟩ := a2
  simp only at o2 hm2 Hm
  have hob := fun W hC => rObject b n s2 W hC o2
  generalize objC n s2 = a3 at *
  obtain ⟨o, s3⟩ := a3
  simp only at hob Hm
  have hm4 := fun W hC => rMustK [6] #[.int .i64 6] rfl 70 1 rfl b n s3 W hC (by decide) (by decide)
  generalize mustP [6] n s3 = a4 at *
  obtain ⟨t4, s4⟩ := a4
  simp only at hm4 Hm
  have HZ0 := Lib.hid hz0
  have HB0 := Lib.hid hB0
  have HW0 := Lib.hid hW0
  have hn1 := fun W => linesNamed t1 W
  have hn2 := fun W => linesNamed t2 W
  generalize namedP t1 = m1 at *
  generalize namedP t2 = m2 at *
  rw [hs0, hW0] at hm1
  clear hB0 hz0 hs0 hW0 h ho
  have hbz : b ≠ w.heap.size := by omega
  have Hbz := Lib.hid hbz
  unfold zCs at hm1
  go_enter Tryz.func22, Tryz.ntmps22
  go_wp2_with fail
  refine hm1.mono ?_
  rintro e W1 ⟨rfl, hC1, hG1⟩
  have hG1 : W0.grownBy W1 (some b) := by rw [HW0.out]; exact hG1
  have HC1 := Lib.hid hC1
  have HG1 := Lib.hid ((gr_of_below (b := b) HB0.out).trans hG1)
  have HZ1 := Lib.hid (HZ0.out.grown hG1 Hbz.out)
  clear hC1 hG1
  go_wp2_with fail
  refine (hn1 _).mono ?_
  rintro e W2 ⟨rfl, hB2⟩
  have HC2 := Lib.hid (HC1.out.below hB2)
  have HG2 := Lib.hid (HG1.out.trans (gr_of_below (b := b) hB2))
  have HZ2 := Lib.hid (HZ1.out.step hB2)
  have f2 := HZ2.out.fz
  have c0 := HZ2.out.cell 0 rfl
  have c1 := HZ2.out.cell 1 rfl
  have c2 := HZ2.out.cell 2 rfl
  have c3 := HZ2.out.cell 3 rfl
  clear hB2
  go_upto_region 2 with fail
  change Code.wp _ _ _ _ ((((W2.setCell ⟨w.heap.size, 0, none⟩ (.int .i64 m1.k)).setCell ⟨w.heap.size, 1, none⟩ (.string m1.x)).setCell ⟨w.heap.size, 2, none⟩ (.string m1.l)).setCell ⟨w.heap.size, 3, none⟩ (.string m1.y))
  have HC3 : Hid (CrAt ((((W2.setCell ⟨w.heap.size, 0, none⟩ (.int .i64 m1.k)).setCell ⟨w.heap.size, 1, none⟩ (.string m1.x)).setCell ⟨w.heap.size, 2, none⟩ (.string m1.l)).setCell ⟨w.heap.size, 3, none⟩ (.string m1.y)) b n s1) := HC2.out.set4 hlt 0 (.int .i64 m1.k) (.string m1.x) (.string m1.l) (.string m1.y)
  have HG3 : Hid (w.grownBy ((((W2.setCell ⟨w.heap.size, 0, none⟩ (.int .i64 m1.k)).setCell ⟨w.heap.size, 1, none⟩ (.string m1.x)).setCell ⟨w.heap.size, 2, none⟩ (.string m1.l)).setCell ⟨w.heap.size, 3, none⟩ (.string m1.y)) (some b)) := gr_set4 HG2.out (Nat.le_refl _) 0 (.int .i64 m1.k) (.string m1.x) (.string m1.l) (.string m1.y)
  have HZ3 : Hid (bkT w.heap.size 37 #[.int .i64 m1.k, .string m1.x, .string m1.l, .string m1.y, .int .i64 0, .string ⟨#[]⟩, .string ⟨#[]⟩, .string ⟨#[]⟩, .int .i64 0, .string ⟨#[]⟩, .string ⟨#[]⟩, .string ⟨#[]⟩] ((((W2.setCell ⟨w.heap.size, 0, none⟩ (.int .i64 m1.k)).setCell ⟨w.heap.size, 1, none⟩ (.string m1.x)).setCell ⟨w.heap.size, 2, none⟩ (.string m1.l)).setCell ⟨w.heap.size, 3, none⟩ (.string m1.y))) := HZ2.out.set4 0 (.int .i64 m1.k) (.string m1.x) (.string m1.l) (.string m1.y)
  clear f2 c0 c1 c2 c3
  generalize ((((W2.setCell ⟨w.heap.size, 0, none⟩ (.int .i64 m1.k)).setCell ⟨w.heap.size, 1, none⟩ (.string m1.x)).setCell ⟨w.heap.size, 2, none⟩ (.string m1.l)).setCell ⟨w.heap.size, 3, none⟩ (.string m1.y)) = W3 at *
  go_wp2_with fail
  refine (hm2 W3 HC3.out).mono ?_
  rintro e W4 ⟨rfl, hC4, hG4⟩
  have HC4 := Lib.hid hC4
  have HG4 := Lib.hid (HG3.out.trans hG4)
  have HZ4 := Lib.hid (HZ3.out.grown hG4 Hbz.out)
  clear hC4 hG4
  go_wp2_with fail
  refine (hn2 _).mono ?_
  rintro e W5 ⟨rfl, hB5⟩
  have HC5 := Lib.hid (HC4.out.below hB5)
  have HG5 := Lib.hid (HG4.out.trans (gr_of_below (b := b) hB5))
  have HZ5 := Lib.hid (HZ4.out.step hB5)
  have f5 := HZ5.out.fz
  have c4 := HZ5.out.cell 4 rfl
  have c5 := HZ5.out.cell 5 rfl
  have c6 := HZ5.out.cell 6 rfl
  have c7 := HZ5.out.cell 7 rfl
  clear hB5
  go_upto_region 3 with fail
  change Code.wp _ _ _ _ ((((W5.setCell ⟨w.heap.size, 4, none⟩ (.int .i64 m2.k)).setCell ⟨w.heap.size, 5, none⟩ (.string m2.x)).setCell ⟨w.heap.size, 6, none⟩ (.string m2.l)).setCell ⟨w.heap.size, 7, none⟩ (.string m2.y))
  have HC6 : Hid (CrAt ((((W5.setCell ⟨w.heap.size, 4, none⟩ (.int .i64 m2.k)).setCell ⟨w.heap.size, 5, none⟩ (.string m2.x)).setCell ⟨w.heap.size, 6, none⟩ (.string m2.l)).setCell ⟨w.heap.size, 7, none⟩ (.string m2.y)) b n s2) := HC5.out.set4 hlt 4 (.int .i64 m2.k) (.string m2.x) (.string m2.l) (.string m2.y)
  have HG6 : Hid (w.grownBy ((((W5.setCell ⟨w.heap.size, 4, none⟩ (.int .i64 m2.k)).setCell ⟨w.heap.size, 5, none⟩ (.string m2.x)).setCell ⟨w.heap.size, 6, none⟩ (.string m2.l)).setCell ⟨w.heap.size, 7, none⟩ (.string m2.y)) (some b)) := gr_set4 HG5.out (Nat.le_refl _) 4 (.int .i64 m2.k) (.string m2.x) (.string m2.l) (.string m2.y)
  have HZ6 : Hid (bkT w.heap.size 37 #[.int .i64 m1.k, .string m1.x, .string m1.l, .string m1.y, .int .i64 m2.k, .string m2.x, .string m2.l, .string m2.y, .int .i64 0, .string ⟨#[]⟩, .string ⟨#[]⟩, .string ⟨#[]⟩] ((((W5.setCell ⟨w.heap.size, 4, none⟩ (.int .i64 m2.k)).setCell ⟨w.heap.size, 5, none⟩ (.string m2.x)).setCell ⟨w.heap.size, 6, none⟩ (.string m2.l)).setCell ⟨w.heap.size, 7, none⟩ (.string m2.y))) := HZ5.out.set4 4 (.int .i64 m2.k) (.string m2.x) (.string m2.l) (.string m2.y)
  clear f5 c4 c5 c6 c7
  generalize ((((W5.setCell ⟨w.heap.size, 4, none⟩ (.int .i64 m2.k)).setCell ⟨w.heap.size, 5, none⟩ (.string m2.x)).setCell ⟨w.heap.size, 6, none⟩ (.string m2.l)).setCell ⟨w.heap.size, 7, none⟩ (.string m2.y)) = W6 at *
  go_wp2_with fail
  refine (hob W6 HC6.out).mono ?_
  rintro e W7 ⟨rfl, hC7, hG7⟩
  have HC7 := Lib.hid hC7
  have HG7 := Lib.hid (HG6.out.trans hG7)
  have HZ7 := Lib.hid (HZ6.out.grown hG7 Hbz.out)
  have f7 := HZ7.out.fz
  have c8 := HZ7.out.cell 8 rfl
  have c9 := HZ7.out.cell 9 rfl
  have c10 := HZ7.out.cell 10 rfl
  have c11 := HZ7.out.cell 11 rfl
  clear hC7 hG7
  go_upto_region 4 with fail
  change Code.wp _ _ _ _ ((((W7.setCell ⟨w.heap.size, 8, none⟩ (.int .i64 o.k)).setCell ⟨w.heap.size, 9, none⟩ (.string o.x)).setCell ⟨w.heap.size, 10, none⟩ (.string o.l)).setCell ⟨w.heap.size, 11, none⟩ (.string o.y))
  have HC8 : Hid (CrAt ((((W7.setCell ⟨w.heap.size, 8, none⟩ (.int .i64 o.k)).setCell ⟨w.heap.size, 9, none⟩ (.string o.x)).setCell ⟨w.heap.size, 10, none⟩ (.string o.l)).setCell ⟨w.heap.size, 11, none⟩ (.string o.y)) b n s3) := HC7.out.set4 hlt 8 (.int .i64 o.k) (.string o.x) (.string o.l) (.string o.y)
  have HG8 : Hid (w.grownBy ((((W7.setCell ⟨w.heap.size, 8, none⟩ (.int .i64 o.k)).setCell ⟨w.heap.size, 9, none⟩ (.string o.x)).setCell ⟨w.heap.size, 10, none⟩ (.string o.l)).setCell ⟨w.heap.size, 11, none⟩ (.string o.y)) (some b)) := gr_set4 HG7.out (Nat.le_refl _) 8 (.int .i64 o.k) (.string o.x) (.string o.l) (.string o.y)
  have HZ8 : Hid (bkT w.heap.size 37 (tpC ⟨m1, m2, o⟩) ((((W7.setCell ⟨w.heap.size, 8, none⟩ (.int .i64 o.k)).setCell ⟨w.heap.size, 9, none⟩ (.string o.x)).setCell ⟨w.heap.size, 10, none⟩ (.string o.l)).setCell ⟨w.heap.size, 11, none⟩ (.string o.y))) := HZ7.out.set4 8 (.int .i64 o.k) (.string o.x) (.string o.l) (.string o.y)
  clear f7 c8 c9 c10 c11
  generalize ((((W7.setCell ⟨w.heap.size, 8, none⟩ (.int .i64 o.k)).setCell ⟨w.heap.size, 9, none⟩ (.string o.x)).setCell ⟨w.heap.size, 10, none⟩ (.string o.l)).setCell ⟨w.heap.size, 11, none⟩ (.string o.y)) = W8 at *
  go_wp2_with fail
  refine (hm4 W8 HC8.out).mono ?_
  rintro e W9 ⟨rfl, hC9, hG9⟩
  have HC9 := Lib.hid hC9
  have HG9 := Lib.hid (HG8.out.trans hG9)
  have HZ9 := HZ8.out.grown hG9 Hbz.out
  have f9 := HZ9.fz
  have d0 := HZ9.cell 0 rfl
  have d1 := HZ9.cell 1 rfl
  have d2 := HZ9.cell 2 rfl
  have d3 := HZ9.cell 3 rfl
  have d4 := HZ9.cell 4 rfl
  have d5 := HZ9.cell 5 rfl
  have d6 := HZ9.cell 6 rfl
  have d7 := HZ9.cell 7 rfl
  have d8 := HZ9.cell 8 rfl
  have d9 := HZ9.cell 9 rfl
  have d10 := HZ9.cell 10 rfl
  have d11 := HZ9.cell 11 rfl
  clear hC9 hG9 HZ9
  go_wp2
  refine bodyPost_ret (v := tpA ⟨m1, m2, o⟩) (by simp [results, Tryz.results22, go_sem, d0, d1, d2, d3, d4, d5, d6, d7, d8, d9, d10, d11]) rfl ?_
  rw [Hm.out]
  refine ⟨rfl, ?_, ?_⟩
  · exact ((HC9.out.set4 hlt 0 _ _ _ _).set4 hlt 4 _ _ _ _).set4 hlt 8 _ _ _ _
  · exact gr_set4 (gr_set4 (gr_set4 HG9.out (Nat.le_refl _) 0 _ _ _ _) (Nat.le_refl _) 4 _ _ _ _) (Nat.le_refl _) 8 _ _ _ _
end Go.Proofs.YtffpgandgajihaaGreatDoor
namespace Go.Proofs.YtffpgandgajihaaGreatDoor
namespace Lx
open Go Go.Lib Um
theorem lnL_gap (r : List UInt8) : ∀ (g : List UInt8) (p : Nat), (∀ i, i < g.length → blankC (g.getD i 0).toNat) → lnL (g ++ r) p = lnL r (p + g.length)
  | [], p, _ => rfl
  | c :: g, p, h => by
    rw [List.cons_append, lnL_blank p (by simp) (by have := h 0 (by simp); simpa [c0] using this)]
    rw [List.drop_one, List.tail_cons, lnL_gap r g (p + 1) (fun i hi => by have := h (i + 1) (by simp; omega); simpa using this), List.length_cons]
    congr 1
    omega
theorem gap_head {g r : List UInt8} (h0 : g.length ≠ 0) (h : ∀ i, i < g.length → blankC (g.getD i 0).toNat) : (g ++ r).length ≠ 0 ∧ blankC (c0 (g ++ r)) := by
  refine ⟨by rw [List.length_append]; omega, ?_⟩
  rw [c0_app h0]
  exact h 0 (by omega)
theorem lnL_point (p : Nat) : lnL [46] p = .ok [⟨6, ⟨#[]⟩, p⟩] := by
  rw [lnL_tok p (show tkL [46] = some (6, ⟨#[]⟩, 1) by rfl)]
  rw [lnL_stop _ (.inl rfl)]; rfl
theorem vld_ascii' (l : List UInt8) (h : l.all (fun c => decide (c.toNat < 128)) = true) : vld l := vld_ascii l fun i hi => by
  have := List.all_eq_true.1 h (l.getD i 0) (by rw [List.getD_eq_getElem?_getD, List.getElem?_eq_getElem hi]; exact List.getElem_mem hi)
  simpa using this
/-- A line, blanks, and what stands behind. -/
structure Behind (a g : List UInt8) (ts : List LTok) : Prop where
  none : lineL (a ++ g ++ [35, 32, 46, 32, 60]) = (ts, 0, 0)
  dots : lineL (a ++ g ++ [46]) = (ts, 0, 0) ∨ (lineL (a ++ g ++ [46]) = (ts ++ [⟨6, ⟨#[]⟩, a.length + g.length⟩], 0, 0) ∧
    ∀ b, lineL (a ++ g ++ b) = if (lineL b).2.2 = 0 then (ts ++ (lineL b).1.map (shT (a.length + g.length)), 0, 0) else ([], a.length + g.length + (lineL b).2.1, (lineL b).2.2))
theorem behind {a g : List UInt8} {ts : List LTok} (hv : vld a) (h : lnL a 0 = .ok ts) (h0 : g.length ≠ 0) (hg : ∀ i, i < g.length → blankC (g.getD i 0).toNat) : Behind a g ts := by
  have hvg : vld g := blanks_vld hg
  have ok : ∀ {l : List UInt8} {us : List LTok}, vld l → lnL l 0 = .ok us → lineL l = (us, 0, 0) := fun {l us} h1 h2 => by
    unfold lineL
    rw [show (sgn l).2.2 = true from h1, h2]; rfl
  have v1 : vld (a ++ (g ++ [35, 32, 46, 32, 60])) := vld_app hv (vld_app hvg (vld_ascii' _ (by decide)))
  have v2 : vld (a ++ (g ++ [46])) := vld_app hv (vld_app hvg (vld_ascii' _ (by decide)))
  rcases lnL_app a 0 ts hv h with h1 | h1
  · refine ⟨?_, .inl ?_⟩
    · rw [List.append_assoc]; exact ok v1 (h1 _ (gap_head h0 hg).1 (gap_head h0 hg).2)
    · rw [List.append_assoc]; exact ok v2 (h1 _ (gap_head h0 hg).1 (gap_head h0 hg).2)
  · refine ⟨?_, .inr ⟨?_, fun b => ?_⟩⟩
    · rw [List.append_assoc]
      refine ok v1 ?_
      rw [h1 _ (gap_head h0 hg).1 (gap_head h0 hg).2, lnL_gap _ g _ hg, lnL_stop _ (.inr rfl)]
      show Except.ok (ts ++ []) = _
      rw [List.append_nil]
    · rw [List.append_assoc]
      refine ok v2 ?_
      rw [h1 _ (gap_head h0 hg).1 (gap_head h0 hg).2, lnL_gap _ g _ hg, lnL_point, Nat.zero_add]; rfl
    · by_cases hb : (sgn b).2.2 = true
      · have v3 : vld (a ++ (g ++ b)) := vld_app hv (vld_app hvg hb)
        have e1 := h1 (g ++ b) (gap_head h0 hg).1 (gap_head h0 hg).2
        rw [lnL_gap b g _ hg, Nat.zero_add, show a.length + g.length = 0 + (a.length + g.length) by omega, lnL_shift] at e1
        rw [List.append_assoc]
        unfold lineL
        rw [show (sgn (a ++ (g ++ b))).2.2 = true from v3, hb, if_pos rfl, if_pos rfl, e1]
        cases lnL b 0 with
        | ok us => rfl
        | error e =>
          show (([] : List LTok), e + (a.length + g.length), (10 : Int)) = if (10 : Int) = 0 then _ else ([], a.length + g.length + e, 10)
          rw [if_neg (by decide), Nat.add_comm]
      · have hb : (sgn b).2.2 = false := by simpa using hb
        rw [line_right (vld_app hv hvg) hb]
        have e2 : lineL b = ([], (sgn b).2.1, 11) := by unfold lineL; rw [hb]; rfl
        rw [e2]
        show _ = if (11 : Int) = 0 then _ else ([], a.length + g.length + (sgn b).2.1, (11 : Int))
        rw [if_neg (by decide), List.length_append]
theorem lnL_p {l : List UInt8} {ts : List LTok} (h : lnL l 0 = .ok ts) : ∀ t ∈ ts, t.p ≤ l.length := by
  intro t ht
  obtain ⟨i, hi⟩ := List.getElem?_of_mem ht
  obtain ⟨a, b, h1, _, h2, h3, _⟩ := lnL_parts i l 0 ts t h hi
  omega
end Lx
end Go.Proofs.YtffpgandgajihaaGreatDoor
namespace Go.Proofs.YtffpgandgajihaaGreatDoor
open Go Go.RowKit Um Lx

/-- Tokens in memory. -/
def RdTk (w : World) (A : Option Addr) (ts : List LTok) : Prop := Rd w A (ts.flatMap tokC)
theorem flat3 : ∀ {ts : List LTok} {i : Nat} {t : LTok}, ts[i]? = some t → (ts.flatMap tokC)[i * 3]? = some (.int .i64 t.k) ∧ (ts.flatMap tokC)[i * 3 + 1]? = some (.string t.x) ∧ (ts.flatMap tokC)[i * 3 + 2]? = some (.int .i64 t.p)
  | [], _, _, h => by simp at h
  | u :: r, 0, t, h => by
    simp only [List.getElem?_cons_zero, Option.some.injEq] at h
    subst h
    rw [List.flatMap_cons]
    exact ⟨rfl, rfl, rfl⟩
  | u :: r, i + 1, t, h => by
    rw [List.getElem?_cons_succ] at h
    obtain ⟨h1, h2, h3⟩ := flat3 h
    rw [List.flatMap_cons]
    have e : ∀ j, (tokC u ++ r.flatMap tokC)[(i + 1) * 3 + j]? = (r.flatMap tokC)[i * 3 + j]? := fun j => by
      rw [List.getElem?_append_right (by show 3 ≤ _; omega)]
      congr 1
      show _ - 3 = _
      omega
    exact ⟨(e 0).trans h1, (e 1).trans h2, (e 2).trans h3⟩
theorem RdTk.at3 {w : World} {A : Option Addr} {ts : List LTok} (h : RdTk w A ts) {i : Nat} {t : LTok} (ht : ts[i]? = some t) :
    ∃ g o, A = some ⟨g, o, none⟩ ∧ w.cell? ⟨g, o + i * 3, none⟩ = some (.int .i64 t.k) ∧ w.cell? ⟨g, o + i * 3 + 1, none⟩ = some (.string t.x) ∧ w.cell? ⟨g, o + i * 3 + 2, none⟩ = some (.int .i64 t.p) := by
  obtain ⟨h1, h2, h3⟩ := flat3 ht
  rcases h with h0 | ⟨g, o, hA, hc⟩
  · rw [h0] at h1; cases h1
  · exact ⟨g, o, hA, hc _ _ h1, hc _ _ h2, hc _ _ h3⟩
theorem RdTk.later {w w' : World} {A : Option Addr} {ts : List LTok} (h : RdTk w A ts) (hb : Below w.heap.size w w') : RdTk w' A ts := Rd.later h hb
/-- What Line says, as a slice. -/
def LineS (s : ByteArray) (w : World) (e : Ending) (w' : World) : Prop := ∃ (A : Option Addr) (c : Nat), e = .returned (.tuple #[.slice A (lineL s.data.toList).1.length c, .int .i64 (lineL s.data.toList).2.1, .int .i64 (lineL s.data.toList).2.2]) ∧
  (lineL s.data.toList).1.length ≤ c ∧ RdTk w' A (lineL s.data.toList).1 ∧ Below w.heap.size w w'
theorem lexLineS (s : ByteArray) (w : World) (hC : CtxL w) (hs : s.size ≤ 1000000) : Calls Tryz.prog 10 #[.string s] w (LineS s w) := by
  refine (lexLine s w hC hs).mono ?_
  rintro e w' ⟨v, rfl, own, hb⟩
  obtain ⟨A, c, rfl, hc, hr⟩ := own_slice own
  exact ⟨A, c, rfl, hc, hr, hb⟩
theorem refLineS (s : ByteArray) (w : World) (hs : s.size ≤ 1000000) : Calls Tryz.prog 63 #[.string s] w (LineS s w) := by
  refine (refLine s w hs).mono ?_
  rintro e w' ⟨v, rfl, own, hb⟩
  obtain ⟨A, c, rfl, hc, hr⟩ := own_slice own
  exact ⟨A, c, rfl, hc, hr, hb⟩
theorem line_len (s : ByteArray) : (lineL s.data.toList).1.length ≤ s.size := by
  rw [← size_toList]
  unfold lineL
  split
  · split
    · rename_i ts h
      exact lnL_len _ _ _ h
    · exact Nat.zero_le _
  · exact Nat.zero_le _
def exA : ByteArray := ⟨#[60, 97, 62, 32, 34, 98, 34, 64, 101, 110, 32, 46, 32, 35, 32, 99]⟩
def exB : ByteArray := ⟨#[95, 58, 97, 46, 32]⟩
def exAt : List LTok := [⟨1, ⟨#[97]⟩, 0⟩, ⟨3, ⟨#[98]⟩, 4⟩, ⟨4, ⟨#[101, 110]⟩, 7⟩, ⟨6, ⟨#[]⟩, 11⟩]
def exBt : List LTok := [⟨2, ⟨#[97]⟩, 0⟩, ⟨6, ⟨#[]⟩, 3⟩]
theorem exA_line : lineL exA.data.toList = (exAt, 0, 0) := by kernel_rfl
theorem exB_line : lineL exB.data.toList = (exBt, 0, 0) := by kernel_rfl
end Go.Proofs.YtffpgandgajihaaGreatDoor
namespace Go.Proofs.YtffpgandgajihaaGreatDoor
open Go Go.RowKit Um Lx

end Go.Proofs.YtffpgandgajihaaGreatDoor
namespace Go.Proofs.YtffpgandgajihaaGreatDoor
open Go Go.RowKit Um Lx

theorem drop_take9 (l : List UInt8) (a b : Nat) : (l.drop a).take (b - a) = (l.take b).drop a := by rw [List.drop_take]
theorem lineL_ok {l : List UInt8} {ts : List LTok} (hv : vld l) (h : lnL l 0 = .ok ts) : lineL l = (ts, 0, 0) := by
  unfold lineL
  rw [show (sgn l).2.2 = true from hv, h]; rfl
theorem lineL_no {l : List UInt8} {e : Nat} (hv : vld l) (h : lnL l 0 = .error e) : lineL l = ([], e, 10) := by
  unfold lineL
  rw [show (sgn l).2.2 = true from hv, h]; rfl
theorem sigR_ok {l : List UInt8} (hv : vld l) : sigR l = ((sgn l).1, 0, 0) := by
  unfold sigR
  rw [show (sgn l).2.2 = true from hv]; rfl
/-- What Signs says, with the signs left out. -/
theorem utfSignsS (s : ByteArray) (w : World) (hC : CtxL w) (hs : s.size ≤ 1000000) : Calls Tryz.prog 27 #[.string s] w fun e w' => ∃ v, e = .returned (.tuple #[v, .int .i64 (sigR s.data.toList).2.1, .int .i64 (sigR s.data.toList).2.2]) ∧ Below w.heap.size w w' := by
  refine (utfSigns s w hC.1 hs).mono ?_
  rintro e w' ⟨v, n, rfl, _, hb⟩
  exact ⟨v, rfl, hb⟩
theorem tok_size {l : List UInt8} {p : Nat} {t : LTok} {r : List LTok} (h : lnL l p = .ok (t :: r)) : t.x.size ≤ 4 * l.length := by
  obtain ⟨m, _, h2, _, _⟩ := lnL_cons l p t r h
  have hs := tkL_spec h2
  have h3 := hs.2.1
  have h4 := hs.2.2.2.2.2.1
  rw [List.length_drop] at h3
  omega
end Go.Proofs.YtffpgandgajihaaGreatDoor
