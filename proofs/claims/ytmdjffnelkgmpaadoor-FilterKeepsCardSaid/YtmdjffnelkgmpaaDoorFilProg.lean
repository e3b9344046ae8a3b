/- The program's package filter, walked: what terms are, their numbers. -/
import Derived.Test.YtmdjffnelkgmpaaDoorBase
import Derived.Test.YtmdjffnelkgmpaaDoorFilMath
import Derived.Test.YtmdjffnelkgmpaaDoorMem
import Derived.Shelf.Strings.SlTrimAscii
import Derived.Lib.QuietBelow
namespace Go.Proofs.YtmdjffnelkgmpaaDoor
open Go Go.RowKit Fm

theorem truthInfo : (Tryd.prog.info? 45).map (fun i => (i.zero, i.size, i.bytes)) = some (some (.int .i64 0), 1, 8) := by kernel_rfl
theorem filTold (q : Bool) (w : World) :
    Calls Tryd.prog 51 #[.bool q] w fun e w' => e = .returned (.int .i64 (toldI q)) ∧ w = w' := by
  cases q <;> (go_enter Tryd.func51, Tryd.ntmps51; go_wp2; go_ret; exact ⟨rfl, rfl⟩)
theorem filWeight (q : Bool) (w : World) :
    Calls Tryd.prog 78 #[.bool q] w fun e w' => e = .returned (.int .i64 (wt q)) ∧ w = w' := by
  cases q <;> (go_enter Tryd.func78, Tryd.ntmps78; go_wp2; go_ret; exact ⟨rfl, rfl⟩)
theorem filNot (t : Int) (w : World) :
    Calls Tryd.prog 14 #[.int .i64 t] w fun e w' => e = .returned (.int .i64 (notI t)) ∧ w = w' := by
  go_enter Tryd.func14, Tryd.ntmps14
  go_wp2
  all_goals (go_ret; exact ⟨by simp_all [notI], rfl⟩)
theorem filTyped (k : Int) (x l y ty : ByteArray) (w : World) :
    Calls Tryd.prog 92 #[.agg #[.int .i64 k, .string x, .string l, .string y], .string ty] w fun e w' => e = .returned (.bool (typedB ⟨k, x, l, y⟩ ty)) ∧ Below w.heap.size w w' := by
  go_enter Tryd.func92, Tryd.ntmps92
  go_wp2
  all_goals (go_ret; exact ⟨by simp_all [typedB], (by repeat (first | exact Below.refl _ _ | assumption | exact (Below.refl _ _).alloc (Nat.le_refl _) _ | refine below_tr ?_ (by assumption) | refine below_alloc ?_ | refine below_tr ?_ (below_regrown _ _ _)))⟩)
theorem filLiteral (k : Int) (x l y : ByteArray) (w : World) :
    Calls Tryd.prog 52 #[.agg #[.int .i64 k, .string x, .string l, .string y]] w fun e w' => e = .returned (.bool (litB ⟨k, x, l, y⟩)) ∧ Below w.heap.size w w' := by
  go_enter Tryd.func52, Tryd.ntmps52
  go_wp2
  all_goals (go_ret; exact ⟨by simp_all [litB], (by repeat (first | exact Below.refl _ _ | assumption | exact (Below.refl _ _).alloc (Nat.le_refl _) _ | refine below_tr ?_ (by assumption) | refine below_alloc ?_ | refine below_tr ?_ (below_regrown _ _ _)))⟩)
theorem filPlain (k : Int) (x l y : ByteArray) (w : World) :
    Calls Tryd.prog 79 #[.agg #[.int .i64 k, .string x, .string l, .string y]] w fun e w' => e = .returned (.bool (plainB ⟨k, x, l, y⟩)) ∧ Below w.heap.size w w' := by
  go_enter Tryd.func79, Tryd.ntmps79
  go_wp2
  all_goals (go_ret; exact ⟨by simp_all [plainB], (by repeat (first | exact Below.refl _ _ | assumption | exact (Below.refl _ _).alloc (Nat.le_refl _) _ | refine below_tr ?_ (by assumption) | refine below_alloc ?_ | refine below_tr ?_ (below_regrown _ _ _)))⟩)

theorem nanS (s : ByteArray) (w : World) : Calls Tryd.prog 96 #[.string s] w fun e w' => e = .returned (.bool false) ∧ w = w' := by
  go_enter Tryd.func96, Tryd.ntmps96
  go_wp2
  all_goals (go_ret; exact ⟨by simp, rfl⟩)
theorem cmpStr (x y : ByteArray) (w : World) :
    Calls Tryd.prog 77 #[.string x, .string y] w fun e w' => e = .returned (.int .i64 (cmpS x.toList y.toList)) ∧ w = w' := by
  go_enter Tryd.func77, Tryd.ntmps77
  go_wp2_with ((refine (nanS _ _).mono ?_); (rintro e w1 ⟨rfl, rfl⟩))
  all_goals (go_ret; exact ⟨by simp_all [cmpS], rfl⟩)

theorem toList_mk (l : List UInt8) : (⟨l.toArray⟩ : ByteArray).toList = l := by simp [ByteArray.toList_eq]

theorem grown_box {w : World} {cs : Array Value} {ty : TypeId} (j : Nat) (v : Value) (h : cs[j]? = some v) (d : Nat) (os : Array Obj) :
    (Sort.grow (redrawn (w.alloc (.cells cs ty)) d) os).cell? ⟨w.heap.size, j, none⟩ = some v := by
  refine cell_regrown ?_ d os
  rw [World.cell?, heap_alloc_new]
  exact h
set_option maxHeartbeats 1000000 in
theorem filSays (k : Int) (x l y : ByteArray) (w : World) :
    Calls Tryd.prog 74 #[.agg #[.int .i64 k, .string x, .string l, .string y]] w fun e w' => e = .returned (.tuple #[.bool (yesB ⟨k, x, l, y⟩), .bool (boolB ⟨k, x, l, y⟩)]) ∧ Below w.heap.size w w' := by
  have ht := fun W => filTyped k x l y booleanS W
  have hy : yesB ⟨k, x, l, y⟩ = (x.toList == [116, 114, 117, 101] || x.toList == [49]) := rfl
  have hb : boolB ⟨k, x, l, y⟩ = (typedB ⟨k, x, l, y⟩ booleanS && (yesB ⟨k, x, l, y⟩ || x.toList == [102, 97, 108, 115, 101] || x.toList == [48])) := rfl
  rw [hb, hy]
  clear hb hy
  generalize typedB ⟨k, x, l, y⟩ booleanS = q at ht ⊢
  unfold booleanS at ht
  have g0 := fun d os => grown_box (w := w) (cs := #[.int .i64 k, .string x, .string l, .string y]) (ty := 30) 0 _ rfl d os
  have g1 := fun d os => grown_box (w := w) (cs := #[.int .i64 k, .string x, .string l, .string y]) (ty := 30) 1 _ rfl d os
  have g2 := fun d os => grown_box (w := w) (cs := #[.int .i64 k, .string x, .string l, .string y]) (ty := 30) 2 _ rfl d os
  have g3 := fun d os => grown_box (w := w) (cs := #[.int .i64 k, .string x, .string l, .string y]) (ty := 30) 3 _ rfl d os
  go_enter Tryd.func74, Tryd.ntmps74
  cases h1 : (x.toList == [116, 114, 117, 101])
  · cases h2 : (x.toList == [49])
    · cases q
      · go_wp2
        refine wp_region_quiet_below (by kernel_rfl) (by kernel_rfl) ?_; (repeat (any_goals (go_big_quiet_step ((go_at_call 92; exact Calls.regrown_of (ht _)))))); all_goals (refine wpQuiet_nil ?_; intro _ hw9; obtain ⟨⟨d9, os9⟩, hw8⟩ := hw9; subst hw8)
        go_wp2
        go_ret2
        exact ⟨by simp, (by repeat (first | exact Below.refl _ _ | assumption | exact (Below.refl _ _).alloc (Nat.le_refl _) _ | refine below_tr ?_ (by assumption) | refine below_alloc ?_ | refine below_tr ?_ (below_regrown _ _ _)))⟩
      · cases h3 : (x.toList == [102, 97, 108, 115, 101])
        · go_wp2
          refine wp_region_quiet_below (by kernel_rfl) (by kernel_rfl) ?_; (repeat (any_goals (go_big_quiet_step ((go_at_call 92; exact Calls.regrown_of (ht _)))))); all_goals (refine wpQuiet_nil ?_; intro _ hw9; obtain ⟨⟨d9, os9⟩, hw8⟩ := hw9; subst hw8)
          go_wp2
          go_ret2
          exact ⟨by simp, (by repeat (first | exact Below.refl _ _ | assumption | exact (Below.refl _ _).alloc (Nat.le_refl _) _ | refine below_tr ?_ (by assumption) | refine below_alloc ?_ | refine below_tr ?_ (below_regrown _ _ _)))⟩
        · go_wp2
          refine wp_region_quiet_below (by kernel_rfl) (by kernel_rfl) ?_; (repeat (any_goals (go_big_quiet_step ((go_at_call 92; exact Calls.regrown_of (ht _)))))); all_goals (refine wpQuiet_nil ?_; intro _ hw9; obtain ⟨⟨d9, os9⟩, hw8⟩ := hw9; subst hw8)
          go_wp2
          go_ret2
          exact ⟨by simp, (by repeat (first | exact Below.refl _ _ | assumption | exact (Below.refl _ _).alloc (Nat.le_refl _) _ | refine below_tr ?_ (by assumption) | refine below_alloc ?_ | refine below_tr ?_ (below_regrown _ _ _)))⟩
    · cases q
      all_goals
        go_wp2
        refine wp_region_quiet_below (by kernel_rfl) (by kernel_rfl) ?_; (repeat (any_goals (go_big_quiet_step ((go_at_call 92; exact Calls.regrown_of (ht _)))))); all_goals (refine wpQuiet_nil ?_; intro _ hw9; obtain ⟨⟨d9, os9⟩, hw8⟩ := hw9; subst hw8)
        go_wp2
        go_ret2
        exact ⟨by simp, (by repeat (first | exact Below.refl _ _ | assumption | exact (Below.refl _ _).alloc (Nat.le_refl _) _ | refine below_tr ?_ (by assumption) | refine below_alloc ?_ | refine below_tr ?_ (below_regrown _ _ _)))⟩
  · cases q
    all_goals
      go_wp2
      refine wp_region_quiet_below (by kernel_rfl) (by kernel_rfl) ?_; (repeat (any_goals (go_big_quiet_step ((go_at_call 92; exact Calls.regrown_of (ht _)))))); all_goals (refine wpQuiet_nil ?_; intro _ hw9; obtain ⟨⟨d9, os9⟩, hw8⟩ := hw9; subst hw8)
      go_wp2
      go_ret2
      exact ⟨by simp, (by repeat (first | exact Below.refl _ _ | assumption | exact (Below.refl _ _).alloc (Nat.le_refl _) _ | refine below_tr ?_ (by assumption) | refine below_alloc ?_ | refine below_tr ?_ (below_regrown _ _ _)))⟩
end Go.Proofs.YtmdjffnelkgmpaaDoor
