/- The kit's copy of a query (printed by gen/copyq.py). The kit's conditions and queries, lent: printed by gen/lentq.py. -/
import Derived.Test.YtfijpdmkdoccjaaGreatDoorJCopy2
import Derived.Test.YtfijpdmkdoccjaaGreatDoorJLent3
namespace Go.Proofs.YtfijpdmkdoccjaaGreatDoor
open Go Go.RowKit Um Fm Mt
theorem CM.belowOld {T : Nat} {w w' : World} (h : Below w.heap.size w w') : CM (wo (oldB T) w) (wo (oldB T) w') := fun p u x => by
  obtain ⟨h1, h2⟩ := old_cell.1 x
  exact old_cell.2 ⟨cell_on h1 h, h2⟩
theorem frozen_of_row {w : World} {g j : Nat} {cs : Array Value} {t : TypeId} (h : w.heap[g]? = some (.cells cs t (0, 0))) : w.frozen? ⟨g, j, none⟩ = false := by
  simp [World.frozen?, h]
/-- Blocks below S, and one more, hidden. -/
abbrev hO (S g : Nat) : Nat → Obj → Bool := fun k _ => decide (k < S) || k == g
theorem wo_cellO {S g : Nat} {w : World} {p : Addr} {u : Value} : (wo (hO S g) w).cell? p = some u ↔ (w.cell? p = some u ∧ S ≤ p.block ∧ p.block ≠ g) := by
  rw [wo_cellN (h := fun k => decide (k < S) || k == g)]
  simp
theorem CM.belowO {S g : Nat} {w w' : World} (h : Below w.heap.size w w') : CM (wo (hO S g) w) (wo (hO S g) w') := fun p u x => by
  obtain ⟨h1, h2⟩ := wo_cellO.1 x
  exact wo_cellO.2 ⟨cell_on h1 h, h2⟩
theorem CM.setO {S g b i : Nat} {v : Value} {w : World} (hb : b < S) : CM (wo (hO S g) w) (wo (hO S g) (w.setCell ⟨b, i, none⟩ v)) := fun p u x => by
  obtain ⟨h1, h2, h3⟩ := wo_cellO.1 x
  refine wo_cellO.2 ⟨?_, h2, h3⟩
  rw [World.cell?, Below.heap_setCell _ _ _ _ (by simp; omega)]; exact h1
theorem CM.rowO {S g b : Nat} {vs : Array Value} {w : World} (hb : b < S) : CM (wo (hO S g) w) (wo (hO S g) (w.setRow b vs)) := fun p u x => by
  obtain ⟨h1, h2, h3⟩ := wo_cellO.1 x
  refine wo_cellO.2 ⟨?_, h2, h3⟩
  rw [World.cell?, setRow_other _ _ _ _ (by omega)]; exact h1
/-- What lay below S' lies, without g ≥ S'. -/
theorem CM.underO {S S' g : Nat} {w w' : World} (hw : w.heap.size ≤ S') (hb : Below w.heap.size w w') (hg : S' ≤ g) : CM (wo (oldB S) w) (wo (hO S g) w') := fun p u x => by
  obtain ⟨h1, h2⟩ := old_cell.1 x
  have := cell_lt h1
  exact wo_cellO.2 ⟨cell_on h1 hb, h2, by omega⟩
theorem CM.overO {S S' g : Nat} {w : World} (hg : g < S') (hS : S ≤ S') : CM (wo (oldB S') w) (wo (hO S g) w) := fun p u x => by
  obtain ⟨h1, h2⟩ := old_cell.1 x
  exact wo_cellO.2 ⟨h1, by omega, by omega⟩
end Go.Proofs.YtfijpdmkdoccjaaGreatDoor
namespace Go.Proofs.YtfijpdmkdoccjaaGreatDoor
open Go Go.RowKit Um Fm Mt
theorem lent_some {P : Program} {f : FuncId} {args : Array Value} {w : World} {T : TypeId} {n c : Nat} {xs : List Value} (h : Calls P f args w fun e w' => e = .returned (.slice (some ⟨w.heap.size, 0, none⟩) n c) ∧ LentB T w' w.heap.size xs ∧ Below w.heap.size w w') :
    Calls P f args w fun e w' => ∃ g : Nat, e = .returned (.slice (some ⟨g, 0, none⟩) n c) ∧ w.heap.size ≤ g ∧ LentB T w' g xs ∧ Below w.heap.size w w' := h.mono fun _ _ ⟨h1, h2, h3⟩ => ⟨_, h1, Nat.le_refl _, h2, h3⟩
theorem LnRs.some {n : Nat} {l : List (ExT n)} {w w' : World} {e : Ending} (h : LnRs n l w e w') : ∃ (g : Nat) (xs : List Value), e = .returned (.slice (some ⟨g, 0, none⟩) l.length (l.length + 12)) ∧ w.heap.size ≤ g ∧ LentB 31 w' g (xs ++ marksE) ∧ All 7 (RdLn n w.heap.size w') xs l ∧ Below w.heap.size w w' := by
  obtain ⟨xs, h1, h2, h3, h4⟩ := h
  exact ⟨_, xs, h1, Nat.le_refl _, h2, h3.mono fun _ _ _ h => h.lower (Nat.le_succ _), h4⟩
set_option maxRecDepth 20000 in
set_option maxHeartbeats 2000000 in
theorem kitLentE : ∀ n : Nat, LnE n
  | 0 => fun x _ _ h _ => h.elim
  | n + 1 => by
    rintro ⟨k, s, t, ks⟩ cs W ⟨A, c, rfl, hc1, hr⟩ ⟨z1, z2, z3, z4⟩
    have hB2 : Below W.heap.size W ((W.alloc (.cells #[.int .i64 k, .string s, .int .i64 t.k, .string t.x, .string t.l, .string t.y, .slice A ks.length c] 31)).alloc (.cells #[.int .i64 0, .string ⟨#[]⟩, .int .i64 0, .string ⟨#[]⟩, .string ⟨#[]⟩, .string ⟨#[]⟩, .slice none 0 0] 31)) := (by repeat (first | exact Below.refl _ _ | assumption | exact (Below.refl _ _).alloc (Nat.le_refl _) _ | refine below_tr ?_ (by assumption) | refine below_alloc ?_ | refine below_tr ?_ (below_regrown _ _ _)))
    have hL := (lentExprs n (kitLentE n) ks A c _ (RdEs.later hr hB2) z3 z4).mono fun _ _ h => LnRs.some h
    clear hr
    go_enter Tryz.func54, Tryz.ntmps54
    go_wp2_with fail
    refine hL.mono ?_
    rintro e w2 ⟨g, xs, rfl, hg1, hl2, hd, hb2⟩
    have hs := hb2.size
    obtain ⟨-, hf⟩ := bcell hb2
    have r1 : w2.heap[W.heap.size]? = some (.cells #[.int .i64 k, .string s, .int .i64 t.k, .string t.x, .string t.l, .string t.y, .slice A ks.length c] 31 (0, 0)) := by rw [hb2.block _ (by simp; omega)]; exact heap_two_1 W _ _
    have r2 : w2.heap[W.heap.size + 1]? = some (.cells #[.int .i64 0, .string ⟨#[]⟩, .int .i64 0, .string ⟨#[]⟩, .string ⟨#[]⟩, .string ⟨#[]⟩, .slice none 0 0] 31 (0, 0)) := by rw [hb2.block _ (by simp)]; exact heap_two_2 W _ _
    have s6 : w2.cell? ⟨W.heap.size, 6, none⟩ = some (.slice A ks.length c) := cell_of_row r1 rfl
    have t1 : (w2.setCell ⟨W.heap.size, 6, none⟩ (.slice (some ⟨g, 0, none⟩) ks.length (ks.length + 12))).heap[W.heap.size]? = some (.cells #[.int .i64 k, .string s, .int .i64 t.k, .string t.x, .string t.l, .string t.y, .slice (some ⟨g, 0, none⟩) ks.length (ks.length + 12)] 31 (0, 0)) := by rw [heap_setCell_same _ _ _ _ _ _ r1]; rfl
    have t2 : (w2.setCell ⟨W.heap.size, 6, none⟩ (.slice (some ⟨g, 0, none⟩) ks.length (ks.length + 12))).heap[W.heap.size + 1]? = some (.cells #[.int .i64 0, .string ⟨#[]⟩, .int .i64 0, .string ⟨#[]⟩, .string ⟨#[]⟩, .string ⟨#[]⟩, .slice none 0 0] 31 (0, 0)) := by rw [heap_setCell_other _ _ _ _ (by simp)]; exact r2
    have u0 : (w2.setCell ⟨W.heap.size, 6, none⟩ (.slice (some ⟨g, 0, none⟩) ks.length (ks.length + 12))).cell? ⟨W.heap.size, 0, none⟩ = some (.int .i64 k) := cell_of_row t1 rfl
    have u1 : (w2.setCell ⟨W.heap.size, 6, none⟩ (.slice (some ⟨g, 0, none⟩) ks.length (ks.length + 12))).cell? ⟨W.heap.size, 1, none⟩ = some (.string s) := cell_of_row t1 rfl
    have u2 : (w2.setCell ⟨W.heap.size, 6, none⟩ (.slice (some ⟨g, 0, none⟩) ks.length (ks.length + 12))).cell? ⟨W.heap.size, 2, none⟩ = some (.int .i64 t.k) := cell_of_row t1 rfl
    have u3 : (w2.setCell ⟨W.heap.size, 6, none⟩ (.slice (some ⟨g, 0, none⟩) ks.length (ks.length + 12))).cell? ⟨W.heap.size, 3, none⟩ = some (.string t.x) := cell_of_row t1 rfl
    have u4 : (w2.setCell ⟨W.heap.size, 6, none⟩ (.slice (some ⟨g, 0, none⟩) ks.length (ks.length + 12))).cell? ⟨W.heap.size, 4, none⟩ = some (.string t.l) := cell_of_row t1 rfl
    have u5 : (w2.setCell ⟨W.heap.size, 6, none⟩ (.slice (some ⟨g, 0, none⟩) ks.length (ks.length + 12))).cell? ⟨W.heap.size, 5, none⟩ = some (.string t.y) := cell_of_row t1 rfl
    have u6 : (w2.setCell ⟨W.heap.size, 6, none⟩ (.slice (some ⟨g, 0, none⟩) ks.length (ks.length + 12))).cell? ⟨W.heap.size, 6, none⟩ = some (.slice (some ⟨g, 0, none⟩) ks.length (ks.length + 12)) := cell_of_row t1 rfl
    have x0 : ((w2.setCell ⟨W.heap.size, 6, none⟩ (.slice (some ⟨g, 0, none⟩) ks.length (ks.length + 12))).setRow (W.heap.size + 1) #[.int .i64 k, .string s, .int .i64 t.k, .string t.x, .string t.l, .string t.y, .slice (some ⟨g, 0, none⟩) ks.length (ks.length + 12)]).cell? ⟨W.heap.size + 1, 0, none⟩ = some (.int .i64 k) := by rw [cell_setRow_same _ _ _ _ _ _ _ t2]; rfl
    have x1 : ((w2.setCell ⟨W.heap.size, 6, none⟩ (.slice (some ⟨g, 0, none⟩) ks.length (ks.length + 12))).setRow (W.heap.size + 1) #[.int .i64 k, .string s, .int .i64 t.k, .string t.x, .string t.l, .string t.y, .slice (some ⟨g, 0, none⟩) ks.length (ks.length + 12)]).cell? ⟨W.heap.size + 1, 1, none⟩ = some (.string s) := by rw [cell_setRow_same _ _ _ _ _ _ _ t2]; rfl
    have x2 : ((w2.setCell ⟨W.heap.size, 6, none⟩ (.slice (some ⟨g, 0, none⟩) ks.length (ks.length + 12))).setRow (W.heap.size + 1) #[.int .i64 k, .string s, .int .i64 t.k, .string t.x, .string t.l, .string t.y, .slice (some ⟨g, 0, none⟩) ks.length (ks.length + 12)]).cell? ⟨W.heap.size + 1, 2, none⟩ = some (.int .i64 t.k) := by rw [cell_setRow_same _ _ _ _ _ _ _ t2]; rfl
    have x3 : ((w2.setCell ⟨W.heap.size, 6, none⟩ (.slice (some ⟨g, 0, none⟩) ks.length (ks.length + 12))).setRow (W.heap.size + 1) #[.int .i64 k, .string s, .int .i64 t.k, .string t.x, .string t.l, .string t.y, .slice (some ⟨g, 0, none⟩) ks.length (ks.length + 12)]).cell? ⟨W.heap.size + 1, 3, none⟩ = some (.string t.x) := by rw [cell_setRow_same _ _ _ _ _ _ _ t2]; rfl
    have x4 : ((w2.setCell ⟨W.heap.size, 6, none⟩ (.slice (some ⟨g, 0, none⟩) ks.length (ks.length + 12))).setRow (W.heap.size + 1) #[.int .i64 k, .string s, .int .i64 t.k, .string t.x, .string t.l, .string t.y, .slice (some ⟨g, 0, none⟩) ks.length (ks.length + 12)]).cell? ⟨W.heap.size + 1, 4, none⟩ = some (.string t.l) := by rw [cell_setRow_same _ _ _ _ _ _ _ t2]; rfl
    have x5 : ((w2.setCell ⟨W.heap.size, 6, none⟩ (.slice (some ⟨g, 0, none⟩) ks.length (ks.length + 12))).setRow (W.heap.size + 1) #[.int .i64 k, .string s, .int .i64 t.k, .string t.x, .string t.l, .string t.y, .slice (some ⟨g, 0, none⟩) ks.length (ks.length + 12)]).cell? ⟨W.heap.size + 1, 5, none⟩ = some (.string t.y) := by rw [cell_setRow_same _ _ _ _ _ _ _ t2]; rfl
    have x6 : ((w2.setCell ⟨W.heap.size, 6, none⟩ (.slice (some ⟨g, 0, none⟩) ks.length (ks.length + 12))).setRow (W.heap.size + 1) #[.int .i64 k, .string s, .int .i64 t.k, .string t.x, .string t.l, .string t.y, .slice (some ⟨g, 0, none⟩) ks.length (ks.length + 12)]).cell? ⟨W.heap.size + 1, 6, none⟩ = some (.slice (some ⟨g, 0, none⟩) ks.length (ks.length + 12)) := by rw [cell_setRow_same _ _ _ _ _ _ _ t2]; rfl
    have hEi : (Tryz.prog.info? 31).map (·.size) = some 7 := by kernel_rfl
    have T2 := Lib.hid t2
    have hg2 : W.heap.size + 2 ≤ g := by simp at hg1; omega
    have hd2 : All 7 (RdLn n (W.heap.size + 2) w2) xs ks := hd.mono fun _ _ _ h => h.lower (by simp)
    have HR := Lib.hid (⟨hl2, hd2⟩ : _ ∧ _)
    have HB := Lib.hid (below_setRow ((hB2.trans (hb2.mono (by simp; omega))).setCell (p := ⟨W.heap.size, 6, none⟩) (Nat.le_refl _) (.slice (some ⟨g, 0, none⟩) ks.length (ks.length + 12))) (by omega : W.heap.size ≤ W.heap.size + 1) #[.int .i64 k, .string s, .int .i64 t.k, .string t.x, .string t.l, .string t.y, .slice (some ⟨g, 0, none⟩) ks.length (ks.length + 12)])
    clear hL hd hd2 hl2 hb2 hB2 r1 r2 t1 t2
    go_wp2_with (refine wpList_store_row rfl 31 _ _ rfl rfl rfl hEi T2.out rfl rfl ?_)
    (try simp only [Act.put])
    refine bodyPost_ret (v := .agg #[.int .i64 k, .string s, .int .i64 t.k, .string t.x, .string t.l, .string t.y, .slice (some ⟨g, 0, none⟩) ks.length (ks.length + 12)]) ?_ rfl ?_
    · simp [results, Tryz.results54, go_sem, x0, x1, x2, x3, x4, x5, x6]
    · have hst : Stays (W.heap.size + 2) w2 ((w2.setCell ⟨W.heap.size, 6, none⟩ (.slice (some ⟨g, 0, none⟩) ks.length (ks.length + 12))).setRow (W.heap.size + 1) #[.int .i64 k, .string s, .int .i64 t.k, .string t.x, .string t.l, .string t.y, .slice (some ⟨g, 0, none⟩) ks.length (ks.length + 12)]) := (Stays.set (by omega)).trans (Stays.setRow (by omega))
      exact ⟨_, rfl, ⟨g, xs, rfl, by omega, HR.out.1.stays hst hg2, HR.out.2.mono fun _ _ _ h => (h.step hst).lower (by omega)⟩, HB.out⟩

end Go.Proofs.YtfijpdmkdoccjaaGreatDoor
