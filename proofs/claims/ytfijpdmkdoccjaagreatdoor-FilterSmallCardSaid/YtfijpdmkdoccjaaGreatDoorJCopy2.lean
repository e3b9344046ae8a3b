/- The kit's flat lists, kept: printed by gen/kept.py. The kit's copies: of a condition, of a query. -/
import Derived.Test.YtfijpdmkdoccjaaGreatDoorJLent2
import Derived.Test.YtfijpdmkdoccjaaGreatDoorJCopy
namespace Go.Proofs.YtfijpdmkdoccjaaGreatDoor
open Go Go.RowKit Um Fm Mt
theorem marksOf_get {α : Type} (f : Int → α) (k : Nat) (h : k < 12) : (marksOf f)[k]? = some (f (k : Int)) := by
  simp [marksOf, List.getElem?_range h]
theorem marks_at {α : Type} (f : Int → α) (l : List α) (k : Nat) (h : l.length ≤ k) (h2 : k < l.length + 12) : (l ++ marksOf f)[k]? = some (f ((k : Int) - l.length)) := by
  rw [List.getElem?_append_right h, marksOf_get f _ (by omega)]
  rw [show ((k - l.length : Nat) : Int) = (k : Int) - l.length by omega]
set_option maxRecDepth 100000 in
set_option maxHeartbeats 2000000 in
theorem run_selfTm (a : Tm) (W : World) : (binOp .eql 28 (.agg #[.int .i64 a.k, .string a.x, .string a.l, .string a.y]) (.agg #[.int .i64 a.k, .string a.x, .string a.l, .string a.y])).run Tryz.prog W = .ok (.bool true) W := by
  have h0 := Tryz.underlying28
  have h1 := Tryz.underlying26
  have h2 := Tryz.underlying9
  simp only [go_sem, h0]
  simp [go_sem, h0, h1, h2]
set_option maxRecDepth 10000 in
set_option maxHeartbeats 2000000 in
theorem keptTexts (l : List ByteArray) (g : Nat) (A : Option Addr) (c : Nat) (w : World) (hg : LentB 9 w g ((l ++ marksOf (fun i => mkT 1 i)).map Value.string)) (hr : Rd w A (l.map Value.string)) (hl : l.length ≤ 1048576) :
    Calls Tryz.prog 36 #[.slice (some ⟨g, 0, none⟩) l.length (l.length + 12), .slice A l.length c] w fun e w' => e = .returned (.bool true) ∧ Below w.heap.size w w' := by
  have hlm : (l ++ marksOf (fun i => mkT 1 i)).length = l.length + 12 := by simp [marksOf]
  go_enter Tryz.func36, Tryz.ntmps36
  go_wp2
  go_loopw [6] (fun i wr => ∃ k : Nat, k ≤ l.length + 12 ∧ i = .int .i64 k ∧ Below w.heap.size w wr) (fun i _ => l.length + 12 - (intOf i).toNat)
  case atStart => exact ⟨0, by omega, rfl, Below.refl _ _⟩
  case round =>
    obtain ⟨k, hk, rfl, hB⟩ := hrel
    by_cases hlt : k < l.length + 12
    · have hlt0 := hlt
      have hrd := hg.rd.of_belowL hB
      have hrl := hr.of_belowL hB
      clear hr hg
      by_cases hkn : k < l.length
      · obtain ⟨x, hx⟩ : ∃ x, l[k]? = some x := ⟨_, List.getElem?_eq_getElem hkn⟩
        have hxm : (l ++ marksOf (fun i => mkT 1 i))[k]? = some x := by rw [List.getElem?_append_left hkn]; exact hx
        obtain ⟨g0, o0, he0, c0⟩ := hrd.at_ (j := k) (u := .string x) (by simp only [List.getElem?_map, hxm, Option.map_some])
        injection he0 with he0; injection he0 with h2 h3; subst h2; subst h3
        rw [Nat.zero_add] at c0
        obtain ⟨g1, o1, rfl, d0⟩ := hrl.at_ (j := k) (u := .string x) (by simp [hx])
        have x0 := fun d os => cell_on c0 (below_regrown wr d os)
        have x1 := fun d os => cell_on d0 (below_regrown wr d os)
        clear c0 d0
        have hd1 : decide ((k : Int) < (l.length : Int)) = true := by simp; omega
        have hd2 : decide (l.length ≤ k) = false := by simp; omega
        clear hx hxm hrd hrl hlm
        go_wp2
        refine wp_region_quiet_below (by kernel_rfl) (by kernel_rfl) ?_; (repeat (any_goals (go_big_quiet_step ((fail))))); all_goals (refine wpQuiet_nil ?_; intro _ hw9; obtain ⟨⟨d9, os9⟩, hw8⟩ := hw9; subst hw8)
        go_wp2
        go_roundw
        case rel => exact ⟨k+1, by omega, by go_num, (by repeat (first | exact Below.refl _ _ | assumption | exact (Below.refl _ _).alloc (Nat.le_refl _) _ | refine below_tr ?_ (by assumption) | refine below_alloc ?_ | refine below_tr ?_ (below_regrown _ _ _)))⟩
        case measure => simp [intOf]; omega
      · have hmk := fun W => markTxt 1 ((k : Int) - l.length) W (by omega) (by omega) (by omega) (by omega)
        have hxm : (l ++ marksOf (fun i => mkT 1 i))[k]? = some ((fun i => mkT 1 i) ((k : Int) - l.length)) := marks_at _ _ _ (by omega) hlt
        obtain ⟨g0, o0, he0, c0⟩ := hrd.at_ (j := k) (u := .string (mkT 1 ((k : Int) - l.length))) (by simp only [List.getElem?_map, hxm, Option.map_some])
        injection he0 with he0; injection he0 with h2 h3; subst h2; subst h3
        rw [Nat.zero_add] at c0
        have x0 := fun d os => cell_on c0 (below_regrown wr d os)
        clear c0
        generalize mkT 1 ((k : Int) - l.length) = s at *
        have hd1 : decide ((k : Int) < (l.length : Int)) = false := by simp; omega
        have hd2 : decide (l.length ≤ k) = true := by simp; omega
        have e1 : IntKind.i64.wrap ((k : Int) - l.length) = (k : Int) - l.length := IntWalk.i64_in _ (by omega)
        clear hxm hrd hrl hlm
        go_wp2
        refine wp_region_quiet_below (by kernel_rfl) (by kernel_rfl) ?_; (repeat (any_goals (go_big_quiet_step ((go_at_call 56; exact Calls.regrown_of (hmk _)))))); all_goals (refine wpQuiet_nil ?_; intro _ hw9; obtain ⟨⟨d9, os9⟩, hw8⟩ := hw9; subst hw8)
        go_wp2
        go_roundw
        case rel => exact ⟨k+1, by omega, by go_num, (by repeat (first | exact Below.refl _ _ | assumption | exact (Below.refl _ _).alloc (Nat.le_refl _) _ | refine below_tr ?_ (by assumption) | refine below_alloc ?_ | refine below_tr ?_ (below_regrown _ _ _)))⟩
        case measure => simp [intOf]; omega
    · go_wp2
      go_ret
      exact ⟨rfl, hB⟩

set_option maxRecDepth 10000 in
set_option maxHeartbeats 2000000 in
theorem keptTerms (l : List Tm) (g : Nat) (A : Option Addr) (c : Nat) (w : World) (hg : LentB 28 w g ((l ++ marksOf (mkTm)).flatMap tmC)) (hr : Rd w A (l.flatMap tmC)) (hl : l.length ≤ 1048576) :
    Calls Tryz.prog 37 #[.slice (some ⟨g, 0, none⟩) l.length (l.length + 12), .slice A l.length c] w fun e w' => e = .returned (.bool true) ∧ Below w.heap.size w w' := by
  have hlm : (l ++ marksOf (mkTm)).length = l.length + 12 := by simp [marksOf]
  go_enter Tryz.func37, Tryz.ntmps37
  go_wp2
  go_loopw [6] (fun i wr => ∃ k : Nat, k ≤ l.length + 12 ∧ i = .int .i64 k ∧ Below w.heap.size w wr) (fun i _ => l.length + 12 - (intOf i).toNat)
  case atStart => exact ⟨0, by omega, rfl, Below.refl _ _⟩
  case round =>
    obtain ⟨k, hk, rfl, hB⟩ := hrel
    by_cases hlt : k < l.length + 12
    · have hlt0 := hlt
      have hrd := hg.rd.of_belowL hB
      have hrl := hr.of_belowL hB
      clear hr hg
      by_cases hkn : k < l.length
      · obtain ⟨x, hx⟩ : ∃ x, l[k]? = some x := ⟨_, List.getElem?_eq_getElem hkn⟩
        have hxm : (l ++ marksOf (mkTm))[k]? = some x := by rw [List.getElem?_append_left hkn]; exact hx
        obtain ⟨g0, o0, csx, he0, -, rfl, hcx⟩ := ((RdL.flatC (sz := 4) (fun _ => rfl)).2 hrd).at_ (by omega) hxm
        injection he0 with he0; injection he0 with h2 h3; subst h2; subst h3
        simp only [Nat.zero_add] at hcx
        have c0 : ∀ d os, (Sort.grow (redrawn wr d) os).cell? ⟨g, k * 4, none⟩ = some (.int .i64 x.k) := fun d os => cell_on (hcx 0 _ rfl) (below_regrown wr d os)
        have c1 : ∀ d os, (Sort.grow (redrawn wr d) os).cell? ⟨g, k * 4 + 1, none⟩ = some (.string x.x) := fun d os => cell_on (hcx 1 _ rfl) (below_regrown wr d os)
        have c2 : ∀ d os, (Sort.grow (redrawn wr d) os).cell? ⟨g, k * 4 + 2, none⟩ = some (.string x.l) := fun d os => cell_on (hcx 2 _ rfl) (below_regrown wr d os)
        have c3 : ∀ d os, (Sort.grow (redrawn wr d) os).cell? ⟨g, k * 4 + 3, none⟩ = some (.string x.y) := fun d os => cell_on (hcx 3 _ rfl) (below_regrown wr d os)
        obtain ⟨g1, o1, csy, rfl, -, rfl, hcy⟩ := ((RdL.flatC (sz := 4) (fun _ => rfl)).2 hrl).at_ (by omega) hx
        have d0 : ∀ d os, (Sort.grow (redrawn wr d) os).cell? ⟨g1, o1 + k * 4, none⟩ = some (.int .i64 x.k) := fun d os => cell_on (hcy 0 _ rfl) (below_regrown wr d os)
        have d1 : ∀ d os, (Sort.grow (redrawn wr d) os).cell? ⟨g1, o1 + k * 4 + 1, none⟩ = some (.string x.x) := fun d os => cell_on (hcy 1 _ rfl) (below_regrown wr d os)
        have d2 : ∀ d os, (Sort.grow (redrawn wr d) os).cell? ⟨g1, o1 + k * 4 + 2, none⟩ = some (.string x.l) := fun d os => cell_on (hcy 2 _ rfl) (below_regrown wr d os)
        have d3 : ∀ d os, (Sort.grow (redrawn wr d) os).cell? ⟨g1, o1 + k * 4 + 3, none⟩ = some (.string x.y) := fun d os => cell_on (hcy 3 _ rfl) (below_regrown wr d os)
        have hself := fun W => run_selfTm x W
        have hd1 : decide ((k : Int) < (l.length : Int)) = true := by simp; omega
        have hd2 : decide (l.length ≤ k) = false := by simp; omega
        clear hx hxm hrd hrl hlm hcx hcy
        go_wp2
        refine wp_region_quiet_below (by kernel_rfl) (by kernel_rfl) ?_; (repeat (any_goals (go_big_quiet_step ((fail))))); all_goals (refine wpQuiet_nil ?_; intro _ hw9; obtain ⟨⟨d9, os9⟩, hw8⟩ := hw9; subst hw8)
        go_wp2
        go_roundw
        case rel => exact ⟨k+1, by omega, by go_num, (by repeat (first | exact Below.refl _ _ | assumption | exact (Below.refl _ _).alloc (Nat.le_refl _) _ | refine below_tr ?_ (by assumption) | refine below_alloc ?_ | refine below_tr ?_ (below_regrown _ _ _)))⟩
        case measure => simp [intOf]; omega
      · have hmk := fun W => markTm ((k : Int) - l.length) W (by omega) (by omega)
        have hxm : (l ++ marksOf (mkTm))[k]? = some ((mkTm) ((k : Int) - l.length)) := marks_at _ _ _ (by omega) hlt
        obtain ⟨g0, o0, csx, he0, -, rfl, hcx⟩ := ((RdL.flatC (sz := 4) (fun _ => rfl)).2 hrd).at_ (by omega) hxm
        injection he0 with he0; injection he0 with h2 h3; subst h2; subst h3
        simp only [Nat.zero_add] at hcx
        have hself := fun W => run_selfTm (mkTm ((k : Int) - l.length)) W
        simp only [mkTm, tmC] at hself hcx hmk
        generalize 8000024 + ((k : Int) - l.length) = s at *
        have c0 : ∀ d os, (Sort.grow (redrawn wr d) os).cell? ⟨g, k * 4, none⟩ = some (.int .i64 s) := fun d os => cell_on (hcx 0 _ rfl) (below_regrown wr d os)
        have c1 : ∀ d os, (Sort.grow (redrawn wr d) os).cell? ⟨g, k * 4 + 1, none⟩ = some (.string ⟨#[]⟩) := fun d os => cell_on (hcx 1 _ rfl) (below_regrown wr d os)
        have c2 : ∀ d os, (Sort.grow (redrawn wr d) os).cell? ⟨g, k * 4 + 2, none⟩ = some (.string ⟨#[]⟩) := fun d os => cell_on (hcx 2 _ rfl) (below_regrown wr d os)
        have c3 : ∀ d os, (Sort.grow (redrawn wr d) os).cell? ⟨g, k * 4 + 3, none⟩ = some (.string ⟨#[]⟩) := fun d os => cell_on (hcx 3 _ rfl) (below_regrown wr d os)
        have hd1 : decide ((k : Int) < (l.length : Int)) = false := by simp; omega
        have hd2 : decide (l.length ≤ k) = true := by simp; omega
        have e1 : IntKind.i64.wrap ((k : Int) - l.length) = (k : Int) - l.length := IntWalk.i64_in _ (by omega)
        clear hxm hrd hrl hlm hcx
        go_wp2
        refine wp_region_quiet_below (by kernel_rfl) (by kernel_rfl) ?_; (repeat (any_goals (go_big_quiet_step ((go_at_call 57; exact Calls.regrown_of (hmk _)))))); all_goals (refine wpQuiet_nil ?_; intro _ hw9; obtain ⟨⟨d9, os9⟩, hw8⟩ := hw9; subst hw8)
        go_wp2
        go_roundw
        case rel => exact ⟨k+1, by omega, by go_num, (by repeat (first | exact Below.refl _ _ | assumption | exact (Below.refl _ _).alloc (Nat.le_refl _) _ | refine below_tr ?_ (by assumption) | refine below_alloc ?_ | refine below_tr ?_ (below_regrown _ _ _)))⟩
        case measure => simp [intOf]; omega
    · go_wp2
      go_ret
      exact ⟨rfl, hB⟩

end Go.Proofs.YtfijpdmkdoccjaaGreatDoor
namespace Go.Proofs.YtfijpdmkdoccjaaGreatDoor
open Go Go.RowKit Um Fm Mt
theorem CM.lower {S T : Nat} {w : World} (h : S ≤ T) : CM (wo (oldB T) w) (wo (oldB S) w) := fun p u x => by
  obtain ⟨h1, h2⟩ := old_cell.1 x
  exact old_cell.2 ⟨h1, by omega⟩
theorem CM.setOld {T : Nat} {w0 w : World} {a : Addr} {v : Value} (h : CM (wo (oldB T) w0) (wo (oldB T) w)) (ha : a.block < T) : CM (wo (oldB T) w0) (wo (oldB T) (w.setCell a v)) := fun p u x => by
  obtain ⟨h1, h2⟩ := old_cell.1 (h p u x)
  refine old_cell.2 ⟨?_, h2⟩
  rw [World.cell?_of_block (heap_setCell_other _ _ _ _ (by omega))]
  exact h1
theorem CM.allocOld {T : Nat} {w0 w : World} {o : Obj} (h : CM (wo (oldB T) w0) (wo (oldB T) w)) : CM (wo (oldB T) w0) (wo (oldB T) (w.alloc o)) := fun p u x => by
  obtain ⟨h1, h2⟩ := old_cell.1 (h p u x)
  exact old_cell.2 ⟨cell_on h1 ((Below.refl _ _).alloc (Nat.le_refl _) _), h2⟩
theorem CM.rowOld {T : Nat} {w0 w : World} {g : Nat} {vs : Array Value} (h : CM (wo (oldB T) w0) (wo (oldB T) w)) (ha : g < T) : CM (wo (oldB T) w0) (wo (oldB T) (w.setRow g vs)) := fun p u x => by
  obtain ⟨h1, h2⟩ := old_cell.1 (h p u x)
  exact old_cell.2 ⟨cell_row h1 (by omega), h2⟩
theorem cell_of_row {w : World} {g j : Nat} {cs : Array Value} {t : TypeId} {f : Nat × Nat} {u : Value} (h : w.heap[g]? = some (.cells cs t f)) (hj : cs[j]? = some u) : w.cell? ⟨g, j, none⟩ = some u := by
  rw [World.cell?, h]; exact hj
end Go.Proofs.YtfijpdmkdoccjaaGreatDoor
