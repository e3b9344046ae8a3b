/- The program's package filter, walked: a judge of a row. -/
import Derived.Test.YtmdjffnelkgmpaaDoorFilRow
import Derived.Test.YtmdjffnelkgmpaaDoorMapFn
import Derived.Shelf.Abstract
namespace Go.Proofs.YtmdjffnelkgmpaaDoor
open Go Go.RowKit Go.Maps Go.ChangeMaps Fm

/-- What each kind does. -/
def doesV (j : Value) (k : Int) : Value :=
  if k == 1 || k == 2 then .func (.func 54) #[j] #[] else if k == 3 then .func (.func 55) #[j] #[] else if k == 4 || k == 5 then .func (.func 56) #[j] #[]
  else if isCmp k then .func (.func 57) #[j] #[] else if isKind k then .func (.func 58) #[j] #[] else .nilFunc
def doesL (j : Value) : List (Int × Value) := [1, 2, 3, 4, 5, 6, 7, 8, 9, 10, 11, 12, 13, 14].map fun k => (k, doesV j k)
theorem doesL_find (j : Value) (k : Int) : (((doesL j).find? (fun p => p.1 == k)).map (·.2)).getD .nilFunc = doesV j k := by
  unfold doesL
  by_cases h : 1 ≤ k ∧ k ≤ 14
  · obtain ⟨n, rfl⟩ : ∃ n : Nat, k = n := ⟨k.toNat, by omega⟩
    have hn : n < 15 := by omega
    have hn0 : 0 < n := by omega
    clear h
    revert n
    intro n hn hn0
    match n, hn, hn0 with
    | 1, _, _ => rfl
    | 2, _, _ => rfl
    | 3, _, _ => rfl
    | 4, _, _ => rfl
    | 5, _, _ => rfl
    | 6, _, _ => rfl
    | 7, _, _ => rfl
    | 8, _, _ => rfl
    | 9, _, _ => rfl
    | 10, _, _ => rfl
    | 11, _, _ => rfl
    | 12, _, _ => rfl
    | 13, _, _ => rfl
    | 14, _, _ => rfl
  · have hne : List.find? (fun p : Int × Value => p.1 == k) ([1, 2, 3, 4, 5, 6, 7, 8, 9, 10, 11, 12, 13, 14].map fun k => (k, doesV j k)) = none := by
      rw [List.find?_eq_none]
      intro p hp
      simp only [List.map_cons, List.map_nil, List.mem_cons, List.not_mem_nil, or_false] at hp
      simp only [beq_iff_eq]
      rcases hp with rfl | rfl | rfl | rfl | rfl | rfl | rfl | rfl | rfl | rfl | rfl | rfl | rfl | rfl <;> simp <;> omega
    rw [hne]
    unfold doesV isCmp isKind
    have h1 : (k == 1) = false := by simp; omega
    have h2 : (k == 2) = false := by simp; omega
    have h3 : (k == 3) = false := by simp; omega
    have h4 : (k == 4) = false := by simp; omega
    have h5 : (k == 5) = false := by simp; omega
    have h6 : (decide (6 ≤ k) && decide (k ≤ 11)) = false := by simp; omega
    have h7 : (decide (12 ≤ k) && decide (k ≤ 14)) = false := by simp; omega
    simp [h1, h2, h3, h4, h5, h6, h7]

/-- A judge lies in block b. -/
structure JudgeAt (w : World) (b : Nat) (vars : List ByteArray) (row : List Tm) : Prop where
  ex : ∃ (A1 A2 : Option Addr) (c1 c2 r : Nat), w.cell? ⟨b, 0, none⟩ = some (.slice A1 vars.length c1) ∧ w.cell? ⟨b, 1, none⟩ = some (.slice A2 row.length c2) ∧ w.cell? ⟨b, 2, none⟩ = some (.map (some r)) ∧
    MapOf w .i64 r (doesL (.pointer (some ⟨b, 0, none⟩))) ∧ Rd w A1 (vars.map Value.string) ∧ RdTs w A2 row
theorem MapOf.later {w w' : World} {q : IntKind} {r : Nat} {kvs : List (Int × Value)} (h : MapOf w q r kvs) (hb : Below w.heap.size w w') : MapOf w' q r kvs := by
  obtain ⟨es, cl, h1, h2⟩ := h
  refine ⟨es, cl, ?_, h2⟩
  rw [hb.block r (Array.getElem?_eq_some_iff.1 h1).1]; exact h1
theorem JudgeAt.later {w w' : World} {b : Nat} {vars : List ByteArray} {row : List Tm} (h : JudgeAt w b vars row) (hb : Below w.heap.size w w') : JudgeAt w' b vars row := by
  obtain ⟨A1, A2, c1, c2, r, h0, h1, h2, h3, h4, h5⟩ := h.ex
  have key : ∀ {p : Addr} {u : Value}, w.cell? p = some u → w'.cell? p = some u := fun h => by rw [hb.cell (cell_lt h)]; exact h
  exact ⟨A1, A2, c1, c2, r, key h0, key h1, key h2, h3.later hb, h4.later hb, h5.later hb⟩

set_option maxRecDepth 10000 in
set_option maxHeartbeats 1000000 in
theorem filTruth (vars : List ByteArray) (row : List Tm) (b : Nat) (k : Int) (s : ByteArray) (t : Tm) (A : Option Addr) (m c : Nat) (w : World) (hj : JudgeAt w b vars row) (F : FuncId) (hd : doesV (.pointer (some ⟨b, 0, none⟩)) k = .func (.func F) #[.pointer (some ⟨b, 0, none⟩)] #[]) 
    (eg : ∀ args W, (callFunc F args).run Tryd.prog W = .ok (.enter F args) W) (v : Int)
    (hF : ∀ W, Below w.heap.size w W → Calls Tryd.prog F #[.pointer (some ⟨b, 0, none⟩), .agg #[.int .i64 k, .string s, .int .i64 t.k, .string t.x, .string t.l, .string t.y, .slice A m c]] W fun e w' => e = .returned (.int .i64 v) ∧ Below W.heap.size W w') :
    Calls Tryd.prog 31 #[.pointer (some ⟨b, 0, none⟩), .agg #[.int .i64 k, .string s, .int .i64 t.k, .string t.x, .string t.l, .string t.y, .slice A m c]] w fun e w' => e = .returned (.int .i64 v) ∧ Below w.heap.size w w' := by
  obtain ⟨A1, A2, c1, c2, r, h0, h1, h2, h3, h4, h5⟩ := hj.ex
  have hne : ∀ (g : FuncId) (v : Value) (W : World), (binOp .neq 72 (.func (.func g) #[v] #[]) .nilFunc).run Tryd.prog W = .ok (.bool true) W := fun g v W => by kernel_rfl
  go_enter Tryd.func31, Tryd.ntmps31
  go_wp2
  obtain ⟨W, hW⟩ : ∃ W : World, w.alloc (.cells #[.int .i64 k, .string s, .int .i64 t.k, .string t.x, .string t.l, .string t.y, .slice A m c] 49) = W := ⟨_, rfl⟩
  have hB0 : Below w.heap.size w W := by rw [← hW]; exact (by repeat (first | exact Below.refl _ _ | assumption | exact (Below.refl _ _).alloc (Nat.le_refl _) _ | refine below_tr ?_ (by assumption) | refine below_alloc ?_ | refine below_tr ?_ (below_regrown _ _ _)))
  have hbx : ∀ (i : Nat) v, #[Value.int .i64 k, .string s, .int .i64 t.k, .string t.x, .string t.l, .string t.y, .slice A m c][i]? = some v → W.cell? ⟨w.heap.size, i, none⟩ = some v := by
    intro i v hv; rw [← hW, World.cell?, heap_alloc_new]; exact hv
  have key : ∀ {p : Addr} {u : Value}, w.cell? p = some u → W.cell? p = some u := fun h => by rw [hB0.cell (cell_lt h)]; exact h
  have g2 := fun d os => cell_regrown (key h2) d os
  have gk0 := fun d os => cell_regrown (hbx 0 _ rfl) d os
  have gk1 := fun d os => cell_regrown (hbx 1 _ rfl) d os
  have gk2 := fun d os => cell_regrown (hbx 2 _ rfl) d os
  have gk3 := fun d os => cell_regrown (hbx 3 _ rfl) d os
  have gk4 := fun d os => cell_regrown (hbx 4 _ rfl) d os
  have gk5 := fun d os => cell_regrown (hbx 5 _ rfl) d os
  have gk6 := fun d os => cell_regrown (hbx 6 _ rfl) d os
  have hl : ∀ d os, (Instr.lookup 96 (.map (some r)) (.int .i64 k) false).run Tryd.prog (Sort.grow (redrawn W d) os) = .ok (doesV (.pointer (some ⟨b, 0, none⟩)) k) (Sort.grow (redrawn W d) os) := fun d os => by
    have h := run_lookup_fn (P := Tryd.prog) Tryd.underlying96 Tryd.underlying47 (z := .nilFunc) (w := Sort.grow (redrawn W d) os) (by kernel_rfl) ((h3.later hB0).later (below_regrown W d os)) k
    rw [doesL_find] at h
    exact h
  simp only [hW]
  have HB0 := Lib.hid hB0
  clear hbx key hW hB0 h0 h1 h2 h3 h4 h5
  rw [hd] at hl
  refine wp_region_quiet_below (by kernel_rfl) (by kernel_rfl) ?_; (repeat (any_goals (go_big_quiet_step ((fail))))); all_goals (refine wpQuiet_nil ?_; intro _ hw9; obtain ⟨⟨d9, os9⟩, hw8⟩ := hw9; subst hw8)
  have Hl := Lib.hid hl
  clear hl
  have hB1 := below_tr HB0.out (below_regrown W d9 os9)
  go_wp2_with (go_at_fn F; refine (hF _ hB1).mono ?_; rintro e w2 ⟨rfl, hB2⟩)
  go_ret
  exact ⟨rfl, below_tr hB1 hB2⟩
set_option maxRecDepth 10000 in
set_option maxHeartbeats 1000000 in
theorem filTruthNo (vars : List ByteArray) (row : List Tm) (b : Nat) (k : Int) (s : ByteArray) (t : Tm) (A : Option Addr) (m c : Nat) (w : World) (hj : JudgeAt w b vars row) (hd : doesV (.pointer (some ⟨b, 0, none⟩)) k = .nilFunc) :
    Calls Tryd.prog 31 #[.pointer (some ⟨b, 0, none⟩), .agg #[.int .i64 k, .string s, .int .i64 t.k, .string t.x, .string t.l, .string t.y, .slice A m c]] w fun e w' => e = .returned (.int .i64 3) ∧ Below w.heap.size w w' := by
  obtain ⟨A1, A2, c1, c2, r, h0, h1, h2, h3, h4, h5⟩ := hj.ex
  have hne : ∀ (W : World), (binOp .neq 72 .nilFunc .nilFunc).run Tryd.prog W = .ok (.bool false) W := fun W => by kernel_rfl
  go_enter Tryd.func31, Tryd.ntmps31
  go_wp2
  obtain ⟨W, hW⟩ : ∃ W : World, w.alloc (.cells #[.int .i64 k, .string s, .int .i64 t.k, .string t.x, .string t.l, .string t.y, .slice A m c] 49) = W := ⟨_, rfl⟩
  have hB0 : Below w.heap.size w W := by rw [← hW]; exact (by repeat (first | exact Below.refl _ _ | assumption | exact (Below.refl _ _).alloc (Nat.le_refl _) _ | refine below_tr ?_ (by assumption) | refine below_alloc ?_ | refine below_tr ?_ (below_regrown _ _ _)))
  have hbx : ∀ (i : Nat) v, #[Value.int .i64 k, .string s, .int .i64 t.k, .string t.x, .string t.l, .string t.y, .slice A m c][i]? = some v → W.cell? ⟨w.heap.size, i, none⟩ = some v := by
    intro i v hv; rw [← hW, World.cell?, heap_alloc_new]; exact hv
  have key : ∀ {p : Addr} {u : Value}, w.cell? p = some u → W.cell? p = some u := fun h => by rw [hB0.cell (cell_lt h)]; exact h
  have g2 := fun d os => cell_regrown (key h2) d os
  have gk0 := fun d os => cell_regrown (hbx 0 _ rfl) d os
  have gk1 := fun d os => cell_regrown (hbx 1 _ rfl) d os
  have gk2 := fun d os => cell_regrown (hbx 2 _ rfl) d os
  have gk3 := fun d os => cell_regrown (hbx 3 _ rfl) d os
  have gk4 := fun d os => cell_regrown (hbx 4 _ rfl) d os
  have gk5 := fun d os => cell_regrown (hbx 5 _ rfl) d os
  have gk6 := fun d os => cell_regrown (hbx 6 _ rfl) d os
  have hl : ∀ d os, (Instr.lookup 96 (.map (some r)) (.int .i64 k) false).run Tryd.prog (Sort.grow (redrawn W d) os) = .ok (doesV (.pointer (some ⟨b, 0, none⟩)) k) (Sort.grow (redrawn W d) os) := fun d os => by
    have h := run_lookup_fn (P := Tryd.prog) Tryd.underlying96 Tryd.underlying47 (z := .nilFunc) (w := Sort.grow (redrawn W d) os) (by kernel_rfl) ((h3.later hB0).later (below_regrown W d os)) k
    rw [doesL_find] at h
    exact h
  simp only [hW]
  have HB0 := Lib.hid hB0
  clear hbx key hW hB0 h0 h1 h2 h3 h4 h5
  rw [hd] at hl
  refine wp_region_quiet_below (by kernel_rfl) (by kernel_rfl) ?_; (repeat (any_goals (go_big_quiet_step ((fail))))); all_goals (refine wpQuiet_nil ?_; intro _ hw9; obtain ⟨⟨d9, os9⟩, hw8⟩ := hw9; subst hw8)
  have Hl := Lib.hid hl
  clear hl
  have hB1 := below_tr HB0.out (below_regrown W d9 os9)
  go_wp2
  go_ret
  exact ⟨rfl, hB1⟩
end Go.Proofs.YtmdjffnelkgmpaaDoor
