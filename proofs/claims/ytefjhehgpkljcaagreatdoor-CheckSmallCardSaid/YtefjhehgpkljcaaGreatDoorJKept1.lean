/- The kit's flat lists, kept: printed by gen/kept.py. -/
import Derived.Test.YtefjhehgpkljcaaGreatDoorJLent2
namespace Go.Proofs.YtefjhehgpkljcaaGreatDoor
open Go Go.RowKit Um Fm Mt
theorem marksOf_get {α : Type} (f : Int → α) (k : Nat) (h : k < 12) : (marksOf f)[k]? = some (f (k : Int)) := by
  simp [marksOf, List.getElem?_range h]
theorem marks_at {α : Type} (f : Int → α) (l : List α) (k : Nat) (h : l.length ≤ k) (h2 : k < l.length + 12) : (l ++ marksOf f)[k]? = some (f ((k : Int) - l.length)) := by
  rw [List.getElem?_append_right h, marksOf_get f _ (by omega)]
  rw [show ((k - l.length : Nat) : Int) = (k : Int) - l.length by omega]
set_option maxRecDepth 100000 in
set_option maxHeartbeats 2000000 in
theorem run_selfTm (a : Tm) (W : World) : (binOp .eql 28 (.agg #[.int .i64 a.k, .string a.x, .string a.l, .string a.y]) (.agg #[.int .i64 a.k, .string a.x, .string a.l, .string a.y])).run Tryz.prog W = .ok (.bool true) W := by
  have h0 := Tryz.underlying28
  have h1 := Tryz.underlying26
  have h2 := Tryz.underlying9
  simp only [go_sem, h0]
  simp [go_sem, h0, h1, h2]
set_option maxRecDepth 100000 in
set_option maxHeartbeats 2000000 in
theorem run_selfPat (a : Pat) (W : World) : (binOp .eql 58 (.agg #[.string a.s.v, .int .i64 a.s.t.k, .string a.s.t.x, .string a.s.t.l, .string a.s.t.y, .string a.p.v, .int .i64 a.p.t.k, .string a.p.t.x, .string a.p.t.l, .string a.p.t.y, .string a.o.v, .int .i64 a.o.t.k, .string a.o.t.x, .string a.o.t.l, .string a.o.t.y]) (.agg #[.string a.s.v, .int .i64 a.s.t.k, .string a.s.t.x, .string a.s.t.l, .string a.s.t.y, .string a.p.v, .int .i64 a.p.t.k, .string a.p.t.x, .string a.p.t.l, .string a.p.t.y, .string a.o.v, .int .i64 a.o.t.k, .string a.o.t.x, .string a.o.t.l, .string a.o.t.y])).run Tryz.prog W = .ok (.bool true) W := by
  have h0 := Tryz.underlying58
  have h1 := Tryz.underlying9
  have h2 := Tryz.underlying55
  have h3 := Tryz.underlying28
  have h4 := Tryz.underlying26
  simp only [go_sem, h0]
  simp [go_sem, h0, h1, h2, h3, h4]
set_option maxRecDepth 100000 in
set_option maxHeartbeats 2000000 in
theorem run_selfKy (a : Ky) (W : World) : (binOp .eql 60 (.agg #[.string a.v, .bool a.d]) (.agg #[.string a.v, .bool a.d])).run Tryz.prog W = .ok (.bool true) W := by
  have h0 := Tryz.underlying60
  have h1 := Tryz.underlying9
  have h2 := Tryz.underlying4
  simp only [go_sem, h0]
  simp [go_sem, h0, h1, h2]

set_option maxRecDepth 10000 in
set_option maxHeartbeats 2000000 in
theorem keptTexts (l : List ByteArray) (g : Nat) (A : Option Addr) (c : Nat) (w : World) (hg : LentB 9 w g ((l ++ marksOf (fun i => mkT 1 i)).map Value.string)) (hr : Rd w A (l.map Value.string)) (hl : l.length ≤ 1048576) :
    Calls Tryz.prog 25 #[.slice (some ⟨g, 0, none⟩) l.length (l.length + 12), .slice A l.length c] w fun e w' => e = .returned (.bool true) ∧ Below w.heap.size w w' := by
  have hlm : (l ++ marksOf (fun i => mkT 1 i)).length = l.length + 12 := by simp [marksOf]
  go_enter Tryz.func25, Tryz.ntmps25
  go_wp2
  go_loopw [6] (fun i wr => ∃ k : Nat, k ≤ l.length + 12 ∧ i = .int .i64 k ∧ Below w.heap.size w wr) (fun i _ => l.length + 12 - (intOf i).toNat)
  case atStart => exact ⟨0, by omega, rfl, Below.refl _ _⟩
  case round =>
    obtain ⟨k, hk, rfl, hB⟩ := hrel
    by_cases hlt : k < l.length + 12
    · have hlt0 := hlt
      have hrd := hg.rd.of_belowL hB
      have hrl := hr.of_belowL hB
      clear hr hg
      by_cases hkn : k < l.length
      · obtain ⟨x, hx⟩ : ∃ x, l[k]? = some x := ⟨_, List.getElem?_eq_getElem hkn⟩
        have hxm : (l ++ marksOf (fun i => mkT 1 i))[k]? = some x := by rw [List.getElem?_append_left hkn]; exact hx
        obtain ⟨g0, o0, he0, c0⟩ := hrd.at_ (j := k) (u := .string x) (by simp only [List.getElem?_map, hxm, Option.map_some])
        injection he0 with he0; injection he0 with h2 h3; subst h2; subst h3
        rw [Nat.zero_add] at c0
        obtain ⟨g1, o1, rfl, d0⟩ := hrl.at_ (j := k) (u := .string x) (by simp [hx])
        have x0 := fun d os => cell_on c0 (below_regrown wr d os)
        have x1 := fun d os => cell_on d0 (below_regrown wr d os)
        clear c0 d0
        have hd1 : decide ((k : Int) < (l.length : Int)) = true := by simp; omega
        have hd2 : decide (l.length ≤ k) = false := by simp; omega
        clear hx hxm hrd hrl hlm
        go_wp2
        refine wp_region_quiet_below (by kernel_rfl) (by kernel_rfl) ?_; (repeat (any_goals (go_big_quiet_step ((fail))))); all_goals (refine wpQuiet_nil ?_; intro _ hw9; obtain ⟨⟨d9, os9⟩, hw8⟩ := hw9; subst hw8)
        go_wp2
        go_roundw
        case rel => exact ⟨k+1, by omega, by go_num, (by repeat (first | exact Below.refl _ _ | assumption | exact (Below.refl _ _).alloc (Nat.le_refl _) _ | refine below_tr ?_ (by assumption) | refine below_alloc ?_ | refine below_tr ?_ (below_regrown _ _ _)))⟩
        case measure => simp [intOf]; omega
      · have hmk := fun W => markTxt 1 ((k : Int) - l.length) W (by omega) (by omega) (by omega) (by omega)
        have hxm : (l ++ marksOf (fun i => mkT 1 i))[k]? = some ((fun i => mkT 1 i) ((k : Int) - l.length)) := marks_at _ _ _ (by omega) hlt
        obtain ⟨g0, o0, he0, c0⟩ := hrd.at_ (j := k) (u := .string (mkT 1 ((k : Int) - l.length))) (by simp only [List.getElem?_map, hxm, Option.map_some])
        injection he0 with he0; injection he0 with h2 h3; subst h2; subst h3
        rw [Nat.zero_add] at c0
        have x0 := fun d os => cell_on c0 (below_regrown wr d os)
        clear c0
        generalize mkT 1 ((k : Int) - l.length) = s at *
        have hd1 : decide ((k : Int) < (l.length : Int)) = false := by simp; omega
        have hd2 : decide (l.length ≤ k) = true := by simp; omega
        have e1 : IntKind.i64.wrap ((k : Int) - l.length) = (k : Int) - l.length := IntWalk.i64_in _ (by omega)
        clear hxm hrd hrl hlm
        go_wp2
        refine wp_region_quiet_below (by kernel_rfl) (by kernel_rfl) ?_; (repeat (any_goals (go_big_quiet_step ((go_at_call 59; exact Calls.regrown_of (hmk _)))))); all_goals (refine wpQuiet_nil ?_; intro _ hw9; obtain ⟨⟨d9, os9⟩, hw8⟩ := hw9; subst hw8)
        go_wp2
        go_roundw
        case rel => exact ⟨k+1, by omega, by go_num, (by repeat (first | exact Below.refl _ _ | assumption | exact (Below.refl _ _).alloc (Nat.le_refl _) _ | refine below_tr ?_ (by assumption) | refine below_alloc ?_ | refine below_tr ?_ (below_regrown _ _ _)))⟩
        case measure => simp [intOf]; omega
    · go_wp2
      go_ret
      exact ⟨rfl, hB⟩

set_option maxRecDepth 10000 in
set_option maxHeartbeats 2000000 in
theorem keptTerms (l : List Tm) (g : Nat) (A : Option Addr) (c : Nat) (w : World) (hg : LentB 28 w g ((l ++ marksOf (mkTm)).flatMap tmC)) (hr : Rd w A (l.flatMap tmC)) (hl : l.length ≤ 1048576) :
    Calls Tryz.prog 54 #[.slice (some ⟨g, 0, none⟩) l.length (l.length + 12), .slice A l.length c] w fun e w' => e = .returned (.bool true) ∧ Below w.heap.size w w' := by
  have hlm : (l ++ marksOf (mkTm)).length = l.length + 12 := by simp [marksOf]
  go_enter Tryz.func54, Tryz.ntmps54
  go_wp2
  go_loopw [6] (fun i wr => ∃ k : Nat, k ≤ l.length + 12 ∧ i = .int .i64 k ∧ Below w.heap.size w wr) (fun i _ => l.length + 12 - (intOf i).toNat)
  case atStart => exact ⟨0, by omega, rfl, Below.refl _ _⟩
  case round =>
    obtain ⟨k, hk, rfl, hB⟩ := hrel
    by_cases hlt : k < l.length + 12
    · have hlt0 := hlt
      have hrd := hg.rd.of_belowL hB
      have hrl := hr.of_belowL hB
      clear hr hg
      by_cases hkn : k < l.length
      · obtain ⟨x, hx⟩ : ∃ x, l[k]? = some x := ⟨_, List.getElem?_eq_getElem hkn⟩
        have hxm : (l ++ marksOf (mkTm))[k]? = some x := by rw [List.getElem?_append_left hkn]; exact hx
        obtain ⟨g0, o0, csx, he0, -, rfl, hcx⟩ := ((RdL.flatC (sz := 4) (fun _ => rfl)).2 hrd).at_ (by omega) hxm
        injection he0 with he0; injection he0 with h2 h3; subst h2; subst h3
        simp only [Nat.zero_add] at hcx
        have c0 : ∀ d os, (Sort.grow (redrawn wr d) os).cell? ⟨g, k * 4, none⟩ = some (.int .i64 x.k) := fun d os => cell_on (hcx 0 _ rfl) (below_regrown wr d os)
        have c1 : ∀ d os, (Sort.grow (redrawn wr d) os).cell? ⟨g, k * 4 + 1, none⟩ = some (.string x.x) := fun d os => cell_on (hcx 1 _ rfl) (below_regrown wr d os)
        have c2 : ∀ d os, (Sort.grow (redrawn wr d) os).cell? ⟨g, k * 4 + 2, none⟩ = some (.string x.l) := fun d os => cell_on (hcx 2 _ rfl) (below_regrown wr d os)
        have c3 : ∀ d os, (Sort.grow (redrawn wr d) os).cell? ⟨g, k * 4 + 3, none⟩ = some (.string x.y) := fun d os => cell_on (hcx 3 _ rfl) (below_regrown wr d os)
        obtain ⟨g1, o1, csy, rfl, -, rfl, hcy⟩ := ((RdL.flatC (sz := 4) (fun _ => rfl)).2 hrl).at_ (by omega) hx
        have d0 : ∀ d os, (Sort.grow (redrawn wr d) os).cell? ⟨g1, o1 + k * 4, none⟩ = some (.int .i64 x.k) := fun d os => cell_on (hcy 0 _ rfl) (below_regrown wr d os)
        have d1 : ∀ d os, (Sort.grow (redrawn wr d) os).cell? ⟨g1, o1 + k * 4 + 1, none⟩ = some (.string x.x) := fun d os => cell_on (hcy 1 _ rfl) (below_regrown wr d os)
        have d2 : ∀ d os, (Sort.grow (redrawn wr d) os).cell? ⟨g1, o1 + k * 4 + 2, none⟩ = some (.string x.l) := fun d os => cell_on (hcy 2 _ rfl) (below_regrown wr d os)
        have d3 : ∀ d os, (Sort.grow (redrawn wr d) os).cell? ⟨g1, o1 + k * 4 + 3, none⟩ = some (.string x.y) := fun d os => cell_on (hcy 3 _ rfl) (below_regrown wr d os)
        have hself := fun W => run_selfTm x W
        have hd1 : decide ((k : Int) < (l.length : Int)) = true := by simp; omega
        have hd2 : decide (l.length ≤ k) = false := by simp; omega
        clear hx hxm hrd hrl hlm hcx hcy
        go_wp2
        refine wp_region_quiet_below (by kernel_rfl) (by kernel_rfl) ?_; (repeat (any_goals (go_big_quiet_step ((fail))))); all_goals (refine wpQuiet_nil ?_; intro _ hw9; obtain ⟨⟨d9, os9⟩, hw8⟩ := hw9; subst hw8)
        go_wp2
        go_roundw
        case rel => exact ⟨k+1, by omega, by go_num, (by repeat (first | exact Below.refl _ _ | assumption | exact (Below.refl _ _).alloc (Nat.le_refl _) _ | refine below_tr ?_ (by assumption) | refine below_alloc ?_ | refine below_tr ?_ (below_regrown _ _ _)))⟩
        case measure => simp [intOf]; omega
      · have hmk := fun W => markTm ((k : Int) - l.length) W (by omega) (by omega)
        have hxm : (l ++ marksOf (mkTm))[k]? = some ((mkTm) ((k : Int) - l.length)) := marks_at _ _ _ (by omega) hlt
        obtain ⟨g0, o0, csx, he0, -, rfl, hcx⟩ := ((RdL.flatC (sz := 4) (fun _ => rfl)).2 hrd).at_ (by omega) hxm
        injection he0 with he0; injection he0 with h2 h3; subst h2; subst h3
        simp only [Nat.zero_add] at hcx
        have hself := fun W => run_selfTm (mkTm ((k : Int) - l.length)) W
        simp only [mkTm, tmC] at hself hcx hmk
        generalize 8000024 + ((k : Int) - l.length) = s at *
        have c0 : ∀ d os, (Sort.grow (redrawn wr d) os).cell? ⟨g, k * 4, none⟩ = some (.int .i64 s) := fun d os => cell_on (hcx 0 _ rfl) (below_regrown wr d os)
        have c1 : ∀ d os, (Sort.grow (redrawn wr d) os).cell? ⟨g, k * 4 + 1, none⟩ = some (.string ⟨#[]⟩) := fun d os => cell_on (hcx 1 _ rfl) (below_regrown wr d os)
        have c2 : ∀ d os, (Sort.grow (redrawn wr d) os).cell? ⟨g, k * 4 + 2, none⟩ = some (.string ⟨#[]⟩) := fun d os => cell_on (hcx 2 _ rfl) (below_regrown wr d os)
        have c3 : ∀ d os, (Sort.grow (redrawn wr d) os).cell? ⟨g, k * 4 + 3, none⟩ = some (.string ⟨#[]⟩) := fun d os => cell_on (hcx 3 _ rfl) (below_regrown wr d os)
        have hd1 : decide ((k : Int) < (l.length : Int)) = false := by simp; omega
        have hd2 : decide (l.length ≤ k) = true := by simp; omega
        have e1 : IntKind.i64.wrap ((k : Int) - l.length) = (k : Int) - l.length := IntWalk.i64_in _ (by omega)
        clear hxm hrd hrl hlm hcx
        go_wp2
        refine wp_region_quiet_below (by kernel_rfl) (by kernel_rfl) ?_; (repeat (any_goals (go_big_quiet_step ((go_at_call 96; exact Calls.regrown_of (hmk _)))))); all_goals (refine wpQuiet_nil ?_; intro _ hw9; obtain ⟨⟨d9, os9⟩, hw8⟩ := hw9; subst hw8)
        go_wp2
        go_roundw
        case rel => exact ⟨k+1, by omega, by go_num, (by repeat (first | exact Below.refl _ _ | assumption | exact (Below.refl _ _).alloc (Nat.le_refl _) _ | refine below_tr ?_ (by assumption) | refine below_alloc ?_ | refine below_tr ?_ (below_regrown _ _ _)))⟩
        case measure => simp [intOf]; omega
    · go_wp2
      go_ret
      exact ⟨rfl, hB⟩

set_option maxRecDepth 10000 in
set_option maxHeartbeats 2000000 in
theorem keptPatterns (l : List Pat) (g : Nat) (A : Option Addr) (c : Nat) (w : World) (hg : LentB 58 w g ((l ++ marksOf (mkPt)).flatMap cPat)) (hr : Rd w A (l.flatMap cPat)) (hl : l.length ≤ 1048576) :
    Calls Tryz.prog 76 #[.slice (some ⟨g, 0, none⟩) l.length (l.length + 12), .slice A l.length c] w fun e w' => e = .returned (.bool true) ∧ Below w.heap.size w w' := by
  have hlm : (l ++ marksOf (mkPt)).length = l.length + 12 := by simp [marksOf]
  go_enter Tryz.func76, Tryz.ntmps76
  go_wp2
  go_loopw [6] (fun i wr => ∃ k : Nat, k ≤ l.length + 12 ∧ i = .int .i64 k ∧ Below w.heap.size w wr) (fun i _ => l.length + 12 - (intOf i).toNat)
  case atStart => exact ⟨0, by omega, rfl, Below.refl _ _⟩
  case round =>
    obtain ⟨k, hk, rfl, hB⟩ := hrel
    by_cases hlt : k < l.length + 12
    · have hlt0 := hlt
      have hrd := hg.rd.of_belowL hB
      have hrl := hr.of_belowL hB
      clear hr hg
      by_cases hkn : k < l.length
      · obtain ⟨x, hx⟩ : ∃ x, l[k]? = some x := ⟨_, List.getElem?_eq_getElem hkn⟩
        have hxm : (l ++ marksOf (mkPt))[k]? = some x := by rw [List.getElem?_append_left hkn]; exact hx
        obtain ⟨g0, o0, csx, he0, -, rfl, hcx⟩ := ((RdL.flatC (sz := 15) (fun _ => rfl)).2 hrd).at_ (by omega) hxm
        injection he0 with he0; injection he0 with h2 h3; subst h2; subst h3
        simp only [Nat.zero_add] at hcx
        have c0 : ∀ d os, (Sort.grow (redrawn wr d) os).cell? ⟨g, k * 15, none⟩ = some (.string x.s.v) := fun d os => cell_on (hcx 0 _ rfl) (below_regrown wr d os)
        have c1 : ∀ d os, (Sort.grow (redrawn wr d) os).cell? ⟨g, k * 15 + 1, none⟩ = some (.int .i64 x.s.t.k) := fun d os => cell_on (hcx 1 _ rfl) (below_regrown wr d os)
        have c2 : ∀ d os, (Sort.grow (redrawn wr d) os).cell? ⟨g, k * 15 + 2, none⟩ = some (.string x.s.t.x) := fun d os => cell_on (hcx 2 _ rfl) (below_regrown wr d os)
        have c3 : ∀ d os, (Sort.grow (redrawn wr d) os).cell? ⟨g, k * 15 + 3, none⟩ = some (.string x.s.t.l) := fun d os => cell_on (hcx 3 _ rfl) (below_regrown wr d os)
        have c4 : ∀ d os, (Sort.grow (redrawn wr d) os).cell? ⟨g, k * 15 + 4, none⟩ = some (.string x.s.t.y) := fun d os => cell_on (hcx 4 _ rfl) (below_regrown wr d os)
        have c5 : ∀ d os, (Sort.grow (redrawn wr d) os).cell? ⟨g, k * 15 + 5, none⟩ = some (.string x.p.v) := fun d os => cell_on (hcx 5 _ rfl) (below_regrown wr d os)
        have c6 : ∀ d os, (Sort.grow (redrawn wr d) os).cell? ⟨g, k * 15 + 6, none⟩ = some (.int .i64 x.p.t.k) := fun d os => cell_on (hcx 6 _ rfl) (below_regrown wr d os)
        have c7 : ∀ d os, (Sort.grow (redrawn wr d) os).cell? ⟨g, k * 15 + 7, none⟩ = some (.string x.p.t.x) := fun d os => cell_on (hcx 7 _ rfl) (below_regrown wr d os)
        have c8 : ∀ d os, (Sort.grow (redrawn wr d) os).cell? ⟨g, k * 15 + 8, none⟩ = some (.string x.p.t.l) := fun d os => cell_on (hcx 8 _ rfl) (below_regrown wr d os)
        have c9 : ∀ d os, (Sort.grow (redrawn wr d) os).cell? ⟨g, k * 15 + 9, none⟩ = some (.string x.p.t.y) := fun d os => cell_on (hcx 9 _ rfl) (below_regrown wr d os)
        have c10 : ∀ d os, (Sort.grow (redrawn wr d) os).cell? ⟨g, k * 15 + 10, none⟩ = some (.string x.o.v) := fun d os => cell_on (hcx 10 _ rfl) (below_regrown wr d os)
        have c11 : ∀ d os, (Sort.grow (redrawn wr d) os).cell? ⟨g, k * 15 + 11, none⟩ = some (.int .i64 x.o.t.k) := fun d os => cell_on (hcx 11 _ rfl) (below_regrown wr d os)
        have c12 : ∀ d os, (Sort.grow (redrawn wr d) os).cell? ⟨g, k * 15 + 12, none⟩ = some (.string x.o.t.x) := fun d os => cell_on (hcx 12 _ rfl) (below_regrown wr d os)
        have c13 : ∀ d os, (Sort.grow (redrawn wr d) os).cell? ⟨g, k * 15 + 13, none⟩ = some (.string x.o.t.l) := fun d os => cell_on (hcx 13 _ rfl) (below_regrown wr d os)
        have c14 : ∀ d os, (Sort.grow (redrawn wr d) os).cell? ⟨g, k * 15 + 14, none⟩ = some (.string x.o.t.y) := fun d os => cell_on (hcx 14 _ rfl) (below_regrown wr d os)
        obtain ⟨g1, o1, csy, rfl, -, rfl, hcy⟩ := ((RdL.flatC (sz := 15) (fun _ => rfl)).2 hrl).at_ (by omega) hx
        have d0 : ∀ d os, (Sort.grow (redrawn wr d) os).cell? ⟨g1, o1 + k * 15, none⟩ = some (.string x.s.v) := fun d os => cell_on (hcy 0 _ rfl) (below_regrown wr d os)
        have d1 : ∀ d os, (Sort.grow (redrawn wr d) os).cell? ⟨g1, o1 + k * 15 + 1, none⟩ = some (.int .i64 x.s.t.k) := fun d os => cell_on (hcy 1 _ rfl) (below_regrown wr d os)
        have d2 : ∀ d os, (Sort.grow (redrawn wr d) os).cell? ⟨g1, o1 + k * 15 + 2, none⟩ = some (.string x.s.t.x) := fun d os => cell_on (hcy 2 _ rfl) (below_regrown wr d os)
        have d3 : ∀ d os, (Sort.grow (redrawn wr d) os).cell? ⟨g1, o1 + k * 15 + 3, none⟩ = some (.string x.s.t.l) := fun d os => cell_on (hcy 3 _ rfl) (below_regrown wr d os)
        have d4 : ∀ d os, (Sort.grow (redrawn wr d) os).cell? ⟨g1, o1 + k * 15 + 4, none⟩ = some (.string x.s.t.y) := fun d os => cell_on (hcy 4 _ rfl) (below_regrown wr d os)
        have d5 : ∀ d os, (Sort.grow (redrawn wr d) os).cell? ⟨g1, o1 + k * 15 + 5, none⟩ = some (.string x.p.v) := fun d os => cell_on (hcy 5 _ rfl) (below_regrown wr d os)
        have d6 : ∀ d os, (Sort.grow (redrawn wr d) os).cell? ⟨g1, o1 + k * 15 + 6, none⟩ = some (.int .i64 x.p.t.k) := fun d os => cell_on (hcy 6 _ rfl) (below_regrown wr d os)
        have d7 : ∀ d os, (Sort.grow (redrawn wr d) os).cell? ⟨g1, o1 + k * 15 + 7, none⟩ = some (.string x.p.t.x) := fun d os => cell_on (hcy 7 _ rfl) (below_regrown wr d os)
        have d8 : ∀ d os, (Sort.grow (redrawn wr d) os).cell? ⟨g1, o1 + k * 15 + 8, none⟩ = some (.string x.p.t.l) := fun d os => cell_on (hcy 8 _ rfl) (below_regrown wr d os)
        have d9 : ∀ d os, (Sort.grow (redrawn wr d) os).cell? ⟨g1, o1 + k * 15 + 9, none⟩ = some (.string x.p.t.y) := fun d os => cell_on (hcy 9 _ rfl) (below_regrown wr d os)
        have d10 : ∀ d os, (Sort.grow (redrawn wr d) os).cell? ⟨g1, o1 + k * 15 + 10, none⟩ = some (.string x.o.v) := fun d os => cell_on (hcy 10 _ rfl) (below_regrown wr d os)
        have d11 : ∀ d os, (Sort.grow (redrawn wr d) os).cell? ⟨g1, o1 + k * 15 + 11, none⟩ = some (.int .i64 x.o.t.k) := fun d os => cell_on (hcy 11 _ rfl) (below_regrown wr d os)
        have d12 : ∀ d os, (Sort.grow (redrawn wr d) os).cell? ⟨g1, o1 + k * 15 + 12, none⟩ = some (.string x.o.t.x) := fun d os => cell_on (hcy 12 _ rfl) (below_regrown wr d os)
        have d13 : ∀ d os, (Sort.grow (redrawn wr d) os).cell? ⟨g1, o1 + k * 15 + 13, none⟩ = some (.string x.o.t.l) := fun d os => cell_on (hcy 13 _ rfl) (below_regrown wr d os)
        have d14 : ∀ d os, (Sort.grow (redrawn wr d) os).cell? ⟨g1, o1 + k * 15 + 14, none⟩ = some (.string x.o.t.y) := fun d os => cell_on (hcy 14 _ rfl) (below_regrown wr d os)
        have hself := fun W => run_selfPat x W
        have hd1 : decide ((k : Int) < (l.length : Int)) = true := by simp; omega
        have hd2 : decide (l.length ≤ k) = false := by simp; omega
        clear hx hxm hrd hrl hlm hcx hcy
        go_wp2
        refine wp_region_quiet_below (by kernel_rfl) (by kernel_rfl) ?_; (repeat (any_goals (go_big_quiet_step ((fail))))); all_goals (refine wpQuiet_nil ?_; intro _ hw9; obtain ⟨⟨d9, os9⟩, hw8⟩ := hw9; subst hw8)
        go_wp2
        go_roundw
        case rel => exact ⟨k+1, by omega, by go_num, (by repeat (first | exact Below.refl _ _ | assumption | exact (Below.refl _ _).alloc (Nat.le_refl _) _ | refine below_tr ?_ (by assumption) | refine below_alloc ?_ | refine below_tr ?_ (below_regrown _ _ _)))⟩
        case measure => simp [intOf]; omega
      · have hmk := fun W => markPt ((k : Int) - l.length) W (by omega) (by omega)
        have hxm : (l ++ marksOf (mkPt))[k]? = some ((mkPt) ((k : Int) - l.length)) := marks_at _ _ _ (by omega) hlt
        obtain ⟨g0, o0, csx, he0, -, rfl, hcx⟩ := ((RdL.flatC (sz := 15) (fun _ => rfl)).2 hrd).at_ (by omega) hxm
        injection he0 with he0; injection he0 with h2 h3; subst h2; subst h3
        simp only [Nat.zero_add] at hcx
        have hself := fun W => run_selfPat (mkPt ((k : Int) - l.length)) W
        simp only [mkPt, mkTm, zTm, vPat, cPat] at hself hcx hmk
        generalize 8000024 + ((k : Int) - l.length) = s at *
        have c0 : ∀ d os, (Sort.grow (redrawn wr d) os).cell? ⟨g, k * 15, none⟩ = some (.string ⟨#[]⟩) := fun d os => cell_on (hcx 0 _ rfl) (below_regrown wr d os)
        have c1 : ∀ d os, (Sort.grow (redrawn wr d) os).cell? ⟨g, k * 15 + 1, none⟩ = some (.int .i64 s) := fun d os => cell_on (hcx 1 _ rfl) (below_regrown wr d os)
        have c2 : ∀ d os, (Sort.grow (redrawn wr d) os).cell? ⟨g, k * 15 + 2, none⟩ = some (.string ⟨#[]⟩) := fun d os => cell_on (hcx 2 _ rfl) (below_regrown wr d os)
        have c3 : ∀ d os, (Sort.grow (redrawn wr d) os).cell? ⟨g, k * 15 + 3, none⟩ = some (.string ⟨#[]⟩) := fun d os => cell_on (hcx 3 _ rfl) (below_regrown wr d os)
        have c4 : ∀ d os, (Sort.grow (redrawn wr d) os).cell? ⟨g, k * 15 + 4, none⟩ = some (.string ⟨#[]⟩) := fun d os => cell_on (hcx 4 _ rfl) (below_regrown wr d os)
        have c5 : ∀ d os, (Sort.grow (redrawn wr d) os).cell? ⟨g, k * 15 + 5, none⟩ = some (.string ⟨#[]⟩) := fun d os => cell_on (hcx 5 _ rfl) (below_regrown wr d os)
        have c6 : ∀ d os, (Sort.grow (redrawn wr d) os).cell? ⟨g, k * 15 + 6, none⟩ = some (.int .i64 0) := fun d os => cell_on (hcx 6 _ rfl) (below_regrown wr d os)
        have c7 : ∀ d os, (Sort.grow (redrawn wr d) os).cell? ⟨g, k * 15 + 7, none⟩ = some (.string ⟨#[]⟩) := fun d os => cell_on (hcx 7 _ rfl) (below_regrown wr d os)
        have c8 : ∀ d os, (Sort.grow (redrawn wr d) os).cell? ⟨g, k * 15 + 8, none⟩ = some (.string ⟨#[]⟩) := fun d os => cell_on (hcx 8 _ rfl) (below_regrown wr d os)
        have c9 : ∀ d os, (Sort.grow (redrawn wr d) os).cell? ⟨g, k * 15 + 9, none⟩ = some (.string ⟨#[]⟩) := fun d os => cell_on (hcx 9 _ rfl) (below_regrown wr d os)
        have c10 : ∀ d os, (Sort.grow (redrawn wr d) os).cell? ⟨g, k * 15 + 10, none⟩ = some (.string ⟨#[]⟩) := fun d os => cell_on (hcx 10 _ rfl) (below_regrown wr d os)
        have c11 : ∀ d os, (Sort.grow (redrawn wr d) os).cell? ⟨g, k * 15 + 11, none⟩ = some (.int .i64 0) := fun d os => cell_on (hcx 11 _ rfl) (below_regrown wr d os)
        have c12 : ∀ d os, (Sort.grow (redrawn wr d) os).cell? ⟨g, k * 15 + 12, none⟩ = some (.string ⟨#[]⟩) := fun d os => cell_on (hcx 12 _ rfl) (below_regrown wr d os)
        have c13 : ∀ d os, (Sort.grow (redrawn wr d) os).cell? ⟨g, k * 15 + 13, none⟩ = some (.string ⟨#[]⟩) := fun d os => cell_on (hcx 13 _ rfl) (below_regrown wr d os)
        have c14 : ∀ d os, (Sort.grow (redrawn wr d) os).cell? ⟨g, k * 15 + 14, none⟩ = some (.string ⟨#[]⟩) := fun d os => cell_on (hcx 14 _ rfl) (below_regrown wr d os)
        have hd1 : decide ((k : Int) < (l.length : Int)) = false := by simp; omega
        have hd2 : decide (l.length ≤ k) = true := by simp; omega
        have e1 : IntKind.i64.wrap ((k : Int) - l.length) = (k : Int) - l.length := IntWalk.i64_in _ (by omega)
        clear hxm hrd hrl hlm hcx
        go_wp2
        refine wp_region_quiet_below (by kernel_rfl) (by kernel_rfl) ?_; (repeat (any_goals (go_big_quiet_step ((go_at_call 105; exact Calls.regrown_of (hmk _)))))); all_goals (refine wpQuiet_nil ?_; intro _ hw9; obtain ⟨⟨d9, os9⟩, hw8⟩ := hw9; subst hw8)
        go_wp2
        go_roundw
        case rel => exact ⟨k+1, by omega, by go_num, (by repeat (first | exact Below.refl _ _ | assumption | exact (Below.refl _ _).alloc (Nat.le_refl _) _ | refine below_tr ?_ (by assumption) | refine below_alloc ?_ | refine below_tr ?_ (below_regrown _ _ _)))⟩
        case measure => simp [intOf]; omega
    · go_wp2
      go_ret
      exact ⟨rfl, hB⟩

set_option maxRecDepth 10000 in
set_option maxHeartbeats 2000000 in
theorem keptKeys (l : List Ky) (g : Nat) (A : Option Addr) (c : Nat) (w : World) (hg : LentB 60 w g ((l ++ marksOf (mkKy)).flatMap cKey)) (hr : Rd w A (l.flatMap cKey)) (hl : l.length ≤ 1048576) :
    Calls Tryz.prog 77 #[.slice (some ⟨g, 0, none⟩) l.length (l.length + 12), .slice A l.length c] w fun e w' => e = .returned (.bool true) ∧ Below w.heap.size w w' := by
  have hlm : (l ++ marksOf (mkKy)).length = l.length + 12 := by simp [marksOf]
  go_enter Tryz.func77, Tryz.ntmps77
  go_wp2
  go_loopw [6] (fun i wr => ∃ k : Nat, k ≤ l.length + 12 ∧ i = .int .i64 k ∧ Below w.heap.size w wr) (fun i _ => l.length + 12 - (intOf i).toNat)
  case atStart => exact ⟨0, by omega, rfl, Below.refl _ _⟩
  case round =>
    obtain ⟨k, hk, rfl, hB⟩ := hrel
    by_cases hlt : k < l.length + 12
    · have hlt0 := hlt
      have hrd := hg.rd.of_belowL hB
      have hrl := hr.of_belowL hB
      clear hr hg
      by_cases hkn : k < l.length
      · obtain ⟨x, hx⟩ : ∃ x, l[k]? = some x := ⟨_, List.getElem?_eq_getElem hkn⟩
        have hxm : (l ++ marksOf (mkKy))[k]? = some x := by rw [List.getElem?_append_left hkn]; exact hx
        obtain ⟨g0, o0, csx, he0, -, rfl, hcx⟩ := ((RdL.flatC (sz := 2) (fun _ => rfl)).2 hrd).at_ (by omega) hxm
        injection he0 with he0; injection he0 with h2 h3; subst h2; subst h3
        simp only [Nat.zero_add] at hcx
        have c0 : ∀ d os, (Sort.grow (redrawn wr d) os).cell? ⟨g, k * 2, none⟩ = some (.string x.v) := fun d os => cell_on (hcx 0 _ rfl) (below_regrown wr d os)
        have c1 : ∀ d os, (Sort.grow (redrawn wr d) os).cell? ⟨g, k * 2 + 1, none⟩ = some (.bool x.d) := fun d os => cell_on (hcx 1 _ rfl) (below_regrown wr d os)
        obtain ⟨g1, o1, csy, rfl, -, rfl, hcy⟩ := ((RdL.flatC (sz := 2) (fun _ => rfl)).2 hrl).at_ (by omega) hx
        have d0 : ∀ d os, (Sort.grow (redrawn wr d) os).cell? ⟨g1, o1 + k * 2, none⟩ = some (.string x.v) := fun d os => cell_on (hcy 0 _ rfl) (below_regrown wr d os)
        have d1 : ∀ d os, (Sort.grow (redrawn wr d) os).cell? ⟨g1, o1 + k * 2 + 1, none⟩ = some (.bool x.d) := fun d os => cell_on (hcy 1 _ rfl) (below_regrown wr d os)
        have hself := fun W => run_selfKy x W
        have hd1 : decide ((k : Int) < (l.length : Int)) = true := by simp; omega
        have hd2 : decide (l.length ≤ k) = false := by simp; omega
        clear hx hxm hrd hrl hlm hcx hcy
        go_wp2
        refine wp_region_quiet_below (by kernel_rfl) (by kernel_rfl) ?_; (repeat (any_goals (go_big_quiet_step ((fail))))); all_goals (refine wpQuiet_nil ?_; intro _ hw9; obtain ⟨⟨d9, os9⟩, hw8⟩ := hw9; subst hw8)
        go_wp2
        go_roundw
        case rel => exact ⟨k+1, by omega, by go_num, (by repeat (first | exact Below.refl _ _ | assumption | exact (Below.refl _ _).alloc (Nat.le_refl _) _ | refine below_tr ?_ (by assumption) | refine below_alloc ?_ | refine below_tr ?_ (below_regrown _ _ _)))⟩
        case measure => simp [intOf]; omega
      · have hmk := fun W => markKy ((k : Int) - l.length) W (by omega) (by omega)
        have hxm : (l ++ marksOf (mkKy))[k]? = some ((mkKy) ((k : Int) - l.length)) := marks_at _ _ _ (by omega) hlt
        obtain ⟨g0, o0, csx, he0, -, rfl, hcx⟩ := ((RdL.flatC (sz := 2) (fun _ => rfl)).2 hrd).at_ (by omega) hxm
        injection he0 with he0; injection he0 with h2 h3; subst h2; subst h3
        simp only [Nat.zero_add] at hcx
        have hself := fun W => run_selfKy (mkKy ((k : Int) - l.length)) W
        simp only [mkKy, cKey] at hself hcx hmk
        generalize mkT 1 ((k : Int) - l.length) = s at *
        have c0 : ∀ d os, (Sort.grow (redrawn wr d) os).cell? ⟨g, k * 2, none⟩ = some (.string s) := fun d os => cell_on (hcx 0 _ rfl) (below_regrown wr d os)
        have c1 : ∀ d os, (Sort.grow (redrawn wr d) os).cell? ⟨g, k * 2 + 1, none⟩ = some (.bool false) := fun d os => cell_on (hcx 1 _ rfl) (below_regrown wr d os)
        have hd1 : decide ((k : Int) < (l.length : Int)) = false := by simp; omega
        have hd2 : decide (l.length ≤ k) = true := by simp; omega
        have e1 : IntKind.i64.wrap ((k : Int) - l.length) = (k : Int) - l.length := IntWalk.i64_in _ (by omega)
        clear hxm hrd hrl hlm hcx
        go_wp2
        refine wp_region_quiet_below (by kernel_rfl) (by kernel_rfl) ?_; (repeat (any_goals (go_big_quiet_step ((go_at_call 106; exact Calls.regrown_of (hmk _)))))); all_goals (refine wpQuiet_nil ?_; intro _ hw9; obtain ⟨⟨d9, os9⟩, hw8⟩ := hw9; subst hw8)
        go_wp2
        go_roundw
        case rel => exact ⟨k+1, by omega, by go_num, (by repeat (first | exact Below.refl _ _ | assumption | exact (Below.refl _ _).alloc (Nat.le_refl _) _ | refine below_tr ?_ (by assumption) | refine below_alloc ?_ | refine below_tr ?_ (below_regrown _ _ _)))⟩
        case measure => simp [intOf]; omega
    · go_wp2
      go_ret
      exact ⟨rfl, hB⟩
end Go.Proofs.YtefjhehgpkljcaaGreatDoor
