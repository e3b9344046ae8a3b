/- The program's package filter, walked: what terms are, their numbers. -/
import Derived.Test.YtgmkpandbafhjaaDoorBase
import Derived.Test.YtgmkpandbafhjaaDoorFilMath
import Derived.Shelf.Strings.SlTrimAscii
import Derived.Lib.QuietBelow
namespace Go.Proofs.YtgmkpandbafhjaaDoor
open Go Go.RowKit Fm

theorem below_tr {a b c : World} (h : Below a.heap.size a b) (k : Below b.heap.size b c) : Below a.heap.size a c :=
  h.trans (k.mono h.size)
theorem below_alloc {a b : World} {o : Obj} (h : Below a.heap.size a b) : Below a.heap.size a (b.alloc o) := h.alloc h.size o

theorem Rd.later {w w' : World} {A : Option Addr} {xs : List Value} (h : Rd w A xs) (hb : Below w.heap.size w w') : Rd w' A xs := h.below hb (Nat.le_refl _)

theorem filTold (q : Bool) (w : World) :
    Calls Tryd.prog 33 #[.bool q] w fun e w' => e = .returned (.int .i64 (toldI q)) ∧ w = w' := by
  cases q <;> (go_enter Tryd.func33, Tryd.ntmps33; go_wp2; go_ret; exact ⟨rfl, rfl⟩)
theorem filWeight (q : Bool) (w : World) :
    Calls Tryd.prog 55 #[.bool q] w fun e w' => e = .returned (.int .i64 (wt q)) ∧ w = w' := by
  cases q <;> (go_enter Tryd.func55, Tryd.ntmps55; go_wp2; go_ret; exact ⟨rfl, rfl⟩)
theorem filNot (t : Int) (w : World) :
    Calls Tryd.prog 13 #[.int .i64 t] w fun e w' => e = .returned (.int .i64 (notI t)) ∧ w = w' := by
  go_enter Tryd.func13, Tryd.ntmps13
  go_wp2
  all_goals (go_ret; exact ⟨by simp_all [notI], rfl⟩)
theorem filTyped (k : Int) (x l y ty : ByteArray) (w : World) :
    Calls Tryd.prog 37 #[.agg #[.int .i64 k, .string x, .string l, .string y], .string ty] w fun e w' => e = .returned (.bool (typedB ⟨k, x, l, y⟩ ty)) ∧ Below w.heap.size w w' := by
  go_enter Tryd.func37, Tryd.ntmps37
  go_wp2
  all_goals (go_ret; exact ⟨by simp_all [typedB], (by repeat (first | exact Below.refl _ _ | assumption | exact (Below.refl _ _).alloc (Nat.le_refl _) _ | refine below_alloc ?_ | refine below_tr ?_ (by assumption) | refine below_tr ?_ (below_regrown _ _ _)))⟩)
theorem filLiteral (k : Int) (x l y : ByteArray) (w : World) :
    Calls Tryd.prog 34 #[.agg #[.int .i64 k, .string x, .string l, .string y]] w fun e w' => e = .returned (.bool (litB ⟨k, x, l, y⟩)) ∧ Below w.heap.size w w' := by
  go_enter Tryd.func34, Tryd.ntmps34
  go_wp2
  all_goals (go_ret; exact ⟨by simp_all [litB], (by repeat (first | exact Below.refl _ _ | assumption | exact (Below.refl _ _).alloc (Nat.le_refl _) _ | refine below_alloc ?_ | refine below_tr ?_ (by assumption) | refine below_tr ?_ (below_regrown _ _ _)))⟩)
theorem filPlain (k : Int) (x l y : ByteArray) (w : World) :
    Calls Tryd.prog 56 #[.agg #[.int .i64 k, .string x, .string l, .string y]] w fun e w' => e = .returned (.bool (plainB ⟨k, x, l, y⟩)) ∧ Below w.heap.size w w' := by
  go_enter Tryd.func56, Tryd.ntmps56
  go_wp2
  all_goals (go_ret; exact ⟨by simp_all [plainB], (by repeat (first | exact Below.refl _ _ | assumption | exact (Below.refl _ _).alloc (Nat.le_refl _) _ | refine below_alloc ?_ | refine below_tr ?_ (by assumption) | refine below_tr ?_ (below_regrown _ _ _)))⟩)

theorem nanS (s : ByteArray) (w : World) : Calls Tryd.prog 77 #[.string s] w fun e w' => e = .returned (.bool false) ∧ w = w' := by
  go_enter Tryd.func77, Tryd.ntmps77
  go_wp2
  all_goals (go_ret; exact ⟨by simp, rfl⟩)
theorem cmpStr (x y : ByteArray) (w : World) :
    Calls Tryd.prog 54 #[.string x, .string y] w fun e w' => e = .returned (.int .i64 (cmpS x.toList y.toList)) ∧ w = w' := by
  go_enter Tryd.func54, Tryd.ntmps54
  go_wp2_with ((refine (nanS _ _).mono ?_); (rintro e w1 ⟨rfl, rfl⟩))
  all_goals (go_ret; exact ⟨by simp_all [cmpS], rfl⟩)

theorem toList_mk (l : List UInt8) : (⟨l.toArray⟩ : ByteArray).toList = l := by simp [ByteArray.toList_eq]

theorem grown_box {w : World} {cs : Array Value} {ty : TypeId} (j : Nat) (v : Value) (h : cs[j]? = some v) (d : Nat) (os : Array Obj) :
    (Sort.grow (redrawn (w.alloc (.cells cs ty)) d) os).cell? ⟨w.heap.size, j, none⟩ = some v := by
  refine cell_regrown ?_ d os
  rw [World.cell?, heap_alloc_new]
  exact h
set_option maxHeartbeats 1000000 in
theorem filSays (k : Int) (x l y : ByteArray) (w : World) :
    Calls Tryd.prog 41 #[.agg #[.int .i64 k, .string x, .string l, .string y]] w fun e w' => e = .returned (.tuple #[.bool (yesB ⟨k, x, l, y⟩), .bool (boolB ⟨k, x, l, y⟩)]) ∧ Below w.heap.size w w' := by
  have ht := fun W => filTyped k x l y booleanS W
  have hy : yesB ⟨k, x, l, y⟩ = (x.toList == [116, 114, 117, 101] || x.toList == [49]) := rfl
  have hb : boolB ⟨k, x, l, y⟩ = (typedB ⟨k, x, l, y⟩ booleanS && (yesB ⟨k, x, l, y⟩ || x.toList == [102, 97, 108, 115, 101] || x.toList == [48])) := rfl
  rw [hb, hy]
  clear hb hy
  generalize typedB ⟨k, x, l, y⟩ booleanS = q at ht ⊢
  unfold booleanS at ht
  have g0 := fun d os => grown_box (w := w) (cs := #[.int .i64 k, .string x, .string l, .string y]) (ty := 24) 0 _ rfl d os
  have g1 := fun d os => grown_box (w := w) (cs := #[.int .i64 k, .string x, .string l, .string y]) (ty := 24) 1 _ rfl d os
  have g2 := fun d os => grown_box (w := w) (cs := #[.int .i64 k, .string x, .string l, .string y]) (ty := 24) 2 _ rfl d os
  have g3 := fun d os => grown_box (w := w) (cs := #[.int .i64 k, .string x, .string l, .string y]) (ty := 24) 3 _ rfl d os
  go_enter Tryd.func41, Tryd.ntmps41
  cases h1 : (x.toList == [116, 114, 117, 101])
  · cases h2 : (x.toList == [49])
    · cases q
      · go_wp2
        refine wp_region_quiet_below (by kernel_rfl) (by kernel_rfl) ?_; (repeat (any_goals (go_big_quiet_step ((go_at_call 37; exact Calls.regrown_of (ht _)))))); all_goals (refine wpQuiet_nil ?_; intro _ hw9; obtain ⟨⟨d9, os9⟩, hw8⟩ := hw9; subst hw8)
        go_wp2
        go_ret2
        exact ⟨by simp, (by repeat (first | exact Below.refl _ _ | assumption | exact (Below.refl _ _).alloc (Nat.le_refl _) _ | refine below_alloc ?_ | refine below_tr ?_ (by assumption) | refine below_tr ?_ (below_regrown _ _ _)))⟩
      · cases h3 : (x.toList == [102, 97, 108, 115, 101])
        · go_wp2
          refine wp_region_quiet_below (by kernel_rfl) (by kernel_rfl) ?_; (repeat (any_goals (go_big_quiet_step ((go_at_call 37; exact Calls.regrown_of (ht _)))))); all_goals (refine wpQuiet_nil ?_; intro _ hw9; obtain ⟨⟨d9, os9⟩, hw8⟩ := hw9; subst hw8)
          go_wp2
          go_ret2
          exact ⟨by simp, (by repeat (first | exact Below.refl _ _ | assumption | exact (Below.refl _ _).alloc (Nat.le_refl _) _ | refine below_alloc ?_ | refine below_tr ?_ (by assumption) | refine below_tr ?_ (below_regrown _ _ _)))⟩
        · go_wp2
          refine wp_region_quiet_below (by kernel_rfl) (by kernel_rfl) ?_; (repeat (any_goals (go_big_quiet_step ((go_at_call 37; exact Calls.regrown_of (ht _)))))); all_goals (refine wpQuiet_nil ?_; intro _ hw9; obtain ⟨⟨d9, os9⟩, hw8⟩ := hw9; subst hw8)
          go_wp2
          go_ret2
          exact ⟨by simp, (by repeat (first | exact Below.refl _ _ | assumption | exact (Below.refl _ _).alloc (Nat.le_refl _) _ | refine below_alloc ?_ | refine below_tr ?_ (by assumption) | refine below_tr ?_ (below_regrown _ _ _)))⟩
    · cases q
      all_goals
        go_wp2
        refine wp_region_quiet_below (by kernel_rfl) (by kernel_rfl) ?_; (repeat (any_goals (go_big_quiet_step ((go_at_call 37; exact Calls.regrown_of (ht _)))))); all_goals (refine wpQuiet_nil ?_; intro _ hw9; obtain ⟨⟨d9, os9⟩, hw8⟩ := hw9; subst hw8)
        go_wp2
        go_ret2
        exact ⟨by simp, (by repeat (first | exact Below.refl _ _ | assumption | exact (Below.refl _ _).alloc (Nat.le_refl _) _ | refine below_alloc ?_ | refine below_tr ?_ (by assumption) | refine below_tr ?_ (below_regrown _ _ _)))⟩
  · cases q
    all_goals
      go_wp2
      refine wp_region_quiet_below (by kernel_rfl) (by kernel_rfl) ?_; (repeat (any_goals (go_big_quiet_step ((go_at_call 37; exact Calls.regrown_of (ht _)))))); all_goals (refine wpQuiet_nil ?_; intro _ hw9; obtain ⟨⟨d9, os9⟩, hw8⟩ := hw9; subst hw8)
      go_wp2
      go_ret2
      exact ⟨by simp, (by repeat (first | exact Below.refl _ _ | assumption | exact (Below.refl _ _).alloc (Nat.le_refl _) _ | refine below_alloc ?_ | refine below_tr ?_ (by assumption) | refine below_tr ?_ (below_regrown _ _ _)))⟩
end Go.Proofs.YtgmkpandbafhjaaDoor
