/- The kit's copies: of a condition, of a query. -/
import Derived.Test.YtafaanegkoolgaaGreatDoorJCopy
namespace Go.Proofs.YtafaanegkoolgaaGreatDoor
open Go Go.RowKit Um Fm Mt
theorem CM.lower {S T : Nat} {w : World} (h : S ≤ T) : CM (wo (oldB T) w) (wo (oldB S) w) := fun p u x => by
  obtain ⟨h1, h2⟩ := old_cell.1 x
  exact old_cell.2 ⟨h1, by omega⟩
theorem CM.setOld {T : Nat} {w0 w : World} {a : Addr} {v : Value} (h : CM (wo (oldB T) w0) (wo (oldB T) w)) (ha : a.block < T) : CM (wo (oldB T) w0) (wo (oldB T) (w.setCell a v)) := fun p u x => by
  obtain ⟨h1, h2⟩ := old_cell.1 (h p u x)
  refine old_cell.2 ⟨?_, h2⟩
  rw [World.cell?_of_block (heap_setCell_other _ _ _ _ (by omega))]
  exact h1
theorem CM.allocOld {T : Nat} {w0 w : World} {o : Obj} (h : CM (wo (oldB T) w0) (wo (oldB T) w)) : CM (wo (oldB T) w0) (wo (oldB T) (w.alloc o)) := fun p u x => by
  obtain ⟨h1, h2⟩ := old_cell.1 (h p u x)
  exact old_cell.2 ⟨cell_on h1 ((Below.refl _ _).alloc (Nat.le_refl _) _), h2⟩
theorem CM.rowOld {T : Nat} {w0 w : World} {g : Nat} {vs : Array Value} (h : CM (wo (oldB T) w0) (wo (oldB T) w)) (ha : g < T) : CM (wo (oldB T) w0) (wo (oldB T) (w.setRow g vs)) := fun p u x => by
  obtain ⟨h1, h2⟩ := old_cell.1 (h p u x)
  exact old_cell.2 ⟨cell_row h1 (by omega), h2⟩
theorem cell_of_row {w : World} {g j : Nat} {cs : Array Value} {t : TypeId} {f : Nat × Nat} {u : Value} (h : w.heap[g]? = some (.cells cs t f)) (hj : cs[j]? = some u) : w.cell? ⟨g, j, none⟩ = some u := by
  rw [World.cell?, h]; exact hj
set_option maxRecDepth 20000 in
set_option maxHeartbeats 2000000 in
theorem kitCopyE : ∀ n : Nat, CpE n
  | 0 => fun x _ _ h _ => h.elim
  | n + 1 => by
    rintro ⟨k, s, t, ks⟩ cs W ⟨A, c, rfl, hc1, hr⟩ ⟨z1, z2, z3, z4⟩
    have hB2 : Below W.heap.size W ((W.alloc (.cells #[.int .i64 k, .string s, .int .i64 t.k, .string t.x, .string t.l, .string t.y, .slice A ks.length c] 38)).alloc (.cells #[.int .i64 0, .string ⟨#[]⟩, .int .i64 0, .string ⟨#[]⟩, .string ⟨#[]⟩, .string ⟨#[]⟩, .slice none 0 0] 38)) := (by repeat (first | exact Below.refl _ _ | assumption | exact (Below.refl _ _).alloc (Nat.le_refl _) _ | refine below_tr ?_ (by assumption) | refine below_alloc ?_ | refine below_tr ?_ (below_regrown _ _ _)))
    have hL := copyExprs n (kitCopyE n) ks A c _ (RdEs.later hr hB2) z3 z4
    clear hr
    go_enter Tryz.func133, Tryz.ntmps133
    go_wp2_with fail
    refine hL.mono ?_
    rintro e w2 ⟨A', c', rfl, hc', hd, hb2⟩
    have hs := hb2.size
    obtain ⟨-, hf⟩ := bcell hb2
    have r1 : w2.heap[W.heap.size]? = some (.cells #[.int .i64 k, .string s, .int .i64 t.k, .string t.x, .string t.l, .string t.y, .slice A ks.length c] 38 (0, 0)) := by rw [hb2.block _ (by simp; omega)]; exact heap_two_1 W _ _
    have r2 : w2.heap[W.heap.size + 1]? = some (.cells #[.int .i64 0, .string ⟨#[]⟩, .int .i64 0, .string ⟨#[]⟩, .string ⟨#[]⟩, .string ⟨#[]⟩, .slice none 0 0] 38 (0, 0)) := by rw [hb2.block _ (by simp)]; exact heap_two_2 W _ _
    have s6 : w2.cell? ⟨W.heap.size, 6, none⟩ = some (.slice A ks.length c) := cell_of_row r1 rfl
    have t1 : (w2.setCell ⟨W.heap.size, 6, none⟩ (.slice A' ks.length c')).heap[W.heap.size]? = some (.cells #[.int .i64 k, .string s, .int .i64 t.k, .string t.x, .string t.l, .string t.y, .slice A' ks.length c'] 38 (0, 0)) := by rw [heap_setCell_same _ _ _ _ _ _ r1]; rfl
    have t2 : (w2.setCell ⟨W.heap.size, 6, none⟩ (.slice A' ks.length c')).heap[W.heap.size + 1]? = some (.cells #[.int .i64 0, .string ⟨#[]⟩, .int .i64 0, .string ⟨#[]⟩, .string ⟨#[]⟩, .string ⟨#[]⟩, .slice none 0 0] 38 (0, 0)) := by rw [heap_setCell_other _ _ _ _ (by simp)]; exact r2
    have u0 : (w2.setCell ⟨W.heap.size, 6, none⟩ (.slice A' ks.length c')).cell? ⟨W.heap.size, 0, none⟩ = some (.int .i64 k) := cell_of_row t1 rfl
    have u1 : (w2.setCell ⟨W.heap.size, 6, none⟩ (.slice A' ks.length c')).cell? ⟨W.heap.size, 1, none⟩ = some (.string s) := cell_of_row t1 rfl
    have u2 : (w2.setCell ⟨W.heap.size, 6, none⟩ (.slice A' ks.length c')).cell? ⟨W.heap.size, 2, none⟩ = some (.int .i64 t.k) := cell_of_row t1 rfl
    have u3 : (w2.setCell ⟨W.heap.size, 6, none⟩ (.slice A' ks.length c')).cell? ⟨W.heap.size, 3, none⟩ = some (.string t.x) := cell_of_row t1 rfl
    have u4 : (w2.setCell ⟨W.heap.size, 6, none⟩ (.slice A' ks.length c')).cell? ⟨W.heap.size, 4, none⟩ = some (.string t.l) := cell_of_row t1 rfl
    have u5 : (w2.setCell ⟨W.heap.size, 6, none⟩ (.slice A' ks.length c')).cell? ⟨W.heap.size, 5, none⟩ = some (.string t.y) := cell_of_row t1 rfl
    have u6 : (w2.setCell ⟨W.heap.size, 6, none⟩ (.slice A' ks.length c')).cell? ⟨W.heap.size, 6, none⟩ = some (.slice A' ks.length c') := cell_of_row t1 rfl
    have x0 : ((w2.setCell ⟨W.heap.size, 6, none⟩ (.slice A' ks.length c')).setRow (W.heap.size + 1) #[.int .i64 k, .string s, .int .i64 t.k, .string t.x, .string t.l, .string t.y, .slice A' ks.length c']).cell? ⟨W.heap.size + 1, 0, none⟩ = some (.int .i64 k) := by rw [cell_setRow_same _ _ _ _ _ _ _ t2]; rfl
    have x1 : ((w2.setCell ⟨W.heap.size, 6, none⟩ (.slice A' ks.length c')).setRow (W.heap.size + 1) #[.int .i64 k, .string s, .int .i64 t.k, .string t.x, .string t.l, .string t.y, .slice A' ks.length c']).cell? ⟨W.heap.size + 1, 1, none⟩ = some (.string s) := by rw [cell_setRow_same _ _ _ _ _ _ _ t2]; rfl
    have x2 : ((w2.setCell ⟨W.heap.size, 6, none⟩ (.slice A' ks.length c')).setRow (W.heap.size + 1) #[.int .i64 k, .string s, .int .i64 t.k, .string t.x, .string t.l, .string t.y, .slice A' ks.length c']).cell? ⟨W.heap.size + 1, 2, none⟩ = some (.int .i64 t.k) := by rw [cell_setRow_same _ _ _ _ _ _ _ t2]; rfl
    have x3 : ((w2.setCell ⟨W.heap.size, 6, none⟩ (.slice A' ks.length c')).setRow (W.heap.size + 1) #[.int .i64 k, .string s, .int .i64 t.k, .string t.x, .string t.l, .string t.y, .slice A' ks.length c']).cell? ⟨W.heap.size + 1, 3, none⟩ = some (.string t.x) := by rw [cell_setRow_same _ _ _ _ _ _ _ t2]; rfl
    have x4 : ((w2.setCell ⟨W.heap.size, 6, none⟩ (.slice A' ks.length c')).setRow (W.heap.size + 1) #[.int .i64 k, .string s, .int .i64 t.k, .string t.x, .string t.l, .string t.y, .slice A' ks.length c']).cell? ⟨W.heap.size + 1, 4, none⟩ = some (.string t.l) := by rw [cell_setRow_same _ _ _ _ _ _ _ t2]; rfl
    have x5 : ((w2.setCell ⟨W.heap.size, 6, none⟩ (.slice A' ks.length c')).setRow (W.heap.size + 1) #[.int .i64 k, .string s, .int .i64 t.k, .string t.x, .string t.l, .string t.y, .slice A' ks.length c']).cell? ⟨W.heap.size + 1, 5, none⟩ = some (.string t.y) := by rw [cell_setRow_same _ _ _ _ _ _ _ t2]; rfl
    have x6 : ((w2.setCell ⟨W.heap.size, 6, none⟩ (.slice A' ks.length c')).setRow (W.heap.size + 1) #[.int .i64 k, .string s, .int .i64 t.k, .string t.x, .string t.l, .string t.y, .slice A' ks.length c']).cell? ⟨W.heap.size + 1, 6, none⟩ = some (.slice A' ks.length c') := by rw [cell_setRow_same _ _ _ _ _ _ _ t2]; rfl
    have hEi : (Tryz.prog.info? 38).map (·.size) = some 7 := by kernel_rfl
    have T2 := Lib.hid t2
    have HR := Lib.hid (hd.cm (CM.setOld (a := ⟨W.heap.size, 6, none⟩) (v := .slice A' ks.length c') (CM.refl _) (by simp; omega)))
    have HB := Lib.hid (below_setRow ((hB2.trans (hb2.mono (by simp; omega))).setCell (p := ⟨W.heap.size, 6, none⟩) (Nat.le_refl _) (.slice A' ks.length c')) (by omega : W.heap.size ≤ W.heap.size + 1) #[.int .i64 k, .string s, .int .i64 t.k, .string t.x, .string t.l, .string t.y, .slice A' ks.length c'])
    clear hL hd hb2 hB2 r1 r2 t1 t2
    go_wp2_with (refine wpList_store_row rfl 38 _ _ rfl rfl rfl hEi T2.out rfl rfl ?_)
    (try simp only [Exit.inBlock, Exit.then, Act.put])
    refine bodyPost_ret (v := .agg #[.int .i64 k, .string s, .int .i64 t.k, .string t.x, .string t.l, .string t.y, .slice A' ks.length c']) ?_ rfl ?_
    · simp [results, Tryz.results133, go_sem, x0, x1, x2, x3, x4, x5, x6]
    · refine ⟨_, rfl, ⟨A', c', rfl, hc', ?_⟩, HB.out⟩
      exact RdEs.cm HR.out (CM.trans (CM.rowOld (CM.refl _) (by simp)) (CM.lower (by simp; omega)))
end Go.Proofs.YtafaanegkoolgaaGreatDoor
