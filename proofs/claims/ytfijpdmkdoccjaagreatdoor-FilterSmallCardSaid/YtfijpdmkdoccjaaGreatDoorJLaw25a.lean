/- Layer 25's law, walked: awake. -/
import Derived.Test.YtfijpdmkdoccjaaGreatDoorJFilRef
namespace Go.Proofs.YtfijpdmkdoccjaaGreatDoor
open Go Go.RowKit Fm

theorem lawNum (s : ByteArray) (w : World) :
    Calls Tryz.prog 10 #[.string s] w fun e w' => e = .returned (.agg #[.int .i64 4, .string s, .string ⟨#[]⟩, .string ⟨#[104, 116, 116, 112, 58, 47, 47, 119, 119, 119, 46, 119, 51, 46, 111, 114, 103, 47, 50, 48, 48, 49, 47, 88, 77, 76, 83, 99, 104, 101, 109, 97, 35, 105, 110, 116, 101, 103, 101, 114]⟩]) ∧ Below w.heap.size w w' := by
  go_enter Tryz.func10, Tryz.ntmps10
  go_wp2
  exact bodyPost_ret (v := .agg #[.int .i64 4, .string s, .string ⟨#[]⟩, .string ⟨#[104, 116, 116, 112, 58, 47, 47, 119, 119, 119, 46, 119, 51, 46, 111, 114, 103, 47, 50, 48, 48, 49, 47, 88, 77, 76, 83, 99, 104, 101, 109, 97, 35, 105, 110, 116, 101, 103, 101, 114]⟩]) (by simp [results, Tryz.results10, go_sem]) rfl ⟨rfl, (by repeat (first | exact Below.refl _ _ | assumption | exact (Below.refl _ _).alloc (Nat.le_refl _) _ | refine below_tr ?_ (by assumption) | refine below_alloc ?_ | refine below_tr ?_ (below_regrown _ _ _)))⟩
theorem lawPlain (s : ByteArray) (w : World) :
    Calls Tryz.prog 11 #[.string s] w fun e w' => e = .returned (.agg #[.int .i64 3, .string s, .string ⟨#[]⟩, .string ⟨#[]⟩]) ∧ Below w.heap.size w w' := by
  go_enter Tryz.func11, Tryz.ntmps11
  go_wp2
  exact bodyPost_ret (v := .agg #[.int .i64 3, .string s, .string ⟨#[]⟩, .string ⟨#[]⟩]) (by simp [results, Tryz.results11, go_sem]) rfl ⟨rfl, (by repeat (first | exact Below.refl _ _ | assumption | exact (Below.refl _ _).alloc (Nat.le_refl _) _ | refine below_tr ?_ (by assumption) | refine below_alloc ?_ | refine below_tr ?_ (below_regrown _ _ _)))⟩
theorem lawTagged (s l : ByteArray) (w : World) :
    Calls Tryz.prog 9 #[.string s, .string l] w fun e w' => e = .returned (.agg #[.int .i64 3, .string s, .string l, .string ⟨#[]⟩]) ∧ Below w.heap.size w w' := by
  go_enter Tryz.func9, Tryz.ntmps9
  go_wp2
  exact bodyPost_ret (v := .agg #[.int .i64 3, .string s, .string l, .string ⟨#[]⟩]) (by simp [results, Tryz.results9, go_sem]) rfl ⟨rfl, (by repeat (first | exact Below.refl _ _ | assumption | exact (Below.refl _ _).alloc (Nat.le_refl _) _ | refine below_tr ?_ (by assumption) | refine below_alloc ?_ | refine below_tr ?_ (below_regrown _ _ _)))⟩
theorem test0 (w : World) : Calls Tryz.prog 19 #[.agg #[.int .i64 4, .string ⟨#[48, 48, 55]⟩, .string ⟨#[]⟩, .string ⟨#[104, 116, 116, 112, 58, 47, 47, 119, 119, 119, 46, 119, 51, 46, 111, 114, 103, 47, 50, 48, 48, 49, 47, 88, 77, 76, 83, 99, 104, 101, 109, 97, 35, 105, 110, 116, 101, 103, 101, 114]⟩], .agg #[.int .i64 4, .string ⟨#[55]⟩, .string ⟨#[]⟩, .string ⟨#[104, 116, 116, 112, 58, 47, 47, 119, 119, 119, 46, 119, 51, 46, 111, 114, 103, 47, 50, 48, 48, 49, 47, 88, 77, 76, 83, 99, 104, 101, 109, 97, 35, 105, 110, 116, 101, 103, 101, 114]⟩]] w fun e w' => e = .returned (.int .i64 1) ∧ Below w.heap.size w w' := by
  have h := filSame 4 4 ⟨#[48, 48, 55]⟩ ⟨#[]⟩ ⟨#[104, 116, 116, 112, 58, 47, 47, 119, 119, 119, 46, 119, 51, 46, 111, 114, 103, 47, 50, 48, 48, 49, 47, 88, 77, 76, 83, 99, 104, 101, 109, 97, 35, 105, 110, 116, 101, 103, 101, 114]⟩ ⟨#[55]⟩ ⟨#[]⟩ ⟨#[104, 116, 116, 112, 58, 47, 47, 119, 119, 119, 46, 119, 51, 46, 111, 114, 103, 47, 50, 48, 48, 49, 47, 88, 77, 76, 83, 99, 104, 101, 109, 97, 35, 105, 110, 116, 101, 103, 101, 114]⟩ w (by decide) (by decide)
  rw [show sameI ⟨4, ⟨#[48, 48, 55]⟩, ⟨#[]⟩, ⟨#[104, 116, 116, 112, 58, 47, 47, 119, 119, 119, 46, 119, 51, 46, 111, 114, 103, 47, 50, 48, 48, 49, 47, 88, 77, 76, 83, 99, 104, 101, 109, 97, 35, 105, 110, 116, 101, 103, 101, 114]⟩⟩ ⟨4, ⟨#[55]⟩, ⟨#[]⟩, ⟨#[104, 116, 116, 112, 58, 47, 47, 119, 119, 119, 46, 119, 51, 46, 111, 114, 103, 47, 50, 48, 48, 49, 47, 88, 77, 76, 83, 99, 104, 101, 109, 97, 35, 105, 110, 116, 101, 103, 101, 114]⟩⟩ = 1 by kernel_rfl] at h
  exact h
theorem test1 (w : World) : Calls Tryz.prog 19 #[.agg #[.int .i64 4, .string ⟨#[45, 48]⟩, .string ⟨#[]⟩, .string ⟨#[104, 116, 116, 112, 58, 47, 47, 119, 119, 119, 46, 119, 51, 46, 111, 114, 103, 47, 50, 48, 48, 49, 47, 88, 77, 76, 83, 99, 104, 101, 109, 97, 35, 105, 110, 116, 101, 103, 101, 114]⟩], .agg #[.int .i64 4, .string ⟨#[48]⟩, .string ⟨#[]⟩, .string ⟨#[104, 116, 116, 112, 58, 47, 47, 119, 119, 119, 46, 119, 51, 46, 111, 114, 103, 47, 50, 48, 48, 49, 47, 88, 77, 76, 83, 99, 104, 101, 109, 97, 35, 105, 110, 116, 101, 103, 101, 114]⟩]] w fun e w' => e = .returned (.int .i64 1) ∧ Below w.heap.size w w' := by
  have h := filSame 4 4 ⟨#[45, 48]⟩ ⟨#[]⟩ ⟨#[104, 116, 116, 112, 58, 47, 47, 119, 119, 119, 46, 119, 51, 46, 111, 114, 103, 47, 50, 48, 48, 49, 47, 88, 77, 76, 83, 99, 104, 101, 109, 97, 35, 105, 110, 116, 101, 103, 101, 114]⟩ ⟨#[48]⟩ ⟨#[]⟩ ⟨#[104, 116, 116, 112, 58, 47, 47, 119, 119, 119, 46, 119, 51, 46, 111, 114, 103, 47, 50, 48, 48, 49, 47, 88, 77, 76, 83, 99, 104, 101, 109, 97, 35, 105, 110, 116, 101, 103, 101, 114]⟩ w (by decide) (by decide)
  rw [show sameI ⟨4, ⟨#[45, 48]⟩, ⟨#[]⟩, ⟨#[104, 116, 116, 112, 58, 47, 47, 119, 119, 119, 46, 119, 51, 46, 111, 114, 103, 47, 50, 48, 48, 49, 47, 88, 77, 76, 83, 99, 104, 101, 109, 97, 35, 105, 110, 116, 101, 103, 101, 114]⟩⟩ ⟨4, ⟨#[48]⟩, ⟨#[]⟩, ⟨#[104, 116, 116, 112, 58, 47, 47, 119, 119, 119, 46, 119, 51, 46, 111, 114, 103, 47, 50, 48, 48, 49, 47, 88, 77, 76, 83, 99, 104, 101, 109, 97, 35, 105, 110, 116, 101, 103, 101, 114]⟩⟩ = 1 by kernel_rfl] at h
  exact h
theorem test2 (w : World) : Calls Tryz.prog 19 #[.agg #[.int .i64 3, .string ⟨#[97]⟩, .string ⟨#[]⟩, .string ⟨#[]⟩], .agg #[.int .i64 3, .string ⟨#[98]⟩, .string ⟨#[]⟩, .string ⟨#[]⟩]] w fun e w' => e = .returned (.int .i64 2) ∧ Below w.heap.size w w' := by
  have h := filSame 3 3 ⟨#[97]⟩ ⟨#[]⟩ ⟨#[]⟩ ⟨#[98]⟩ ⟨#[]⟩ ⟨#[]⟩ w (by decide) (by decide)
  rw [show sameI ⟨3, ⟨#[97]⟩, ⟨#[]⟩, ⟨#[]⟩⟩ ⟨3, ⟨#[98]⟩, ⟨#[]⟩, ⟨#[]⟩⟩ = 2 by kernel_rfl] at h
  exact h
theorem test3 (w : World) : Calls Tryz.prog 19 #[.agg #[.int .i64 3, .string ⟨#[97]⟩, .string ⟨#[101, 110]⟩, .string ⟨#[]⟩], .agg #[.int .i64 3, .string ⟨#[97]⟩, .string ⟨#[102, 114]⟩, .string ⟨#[]⟩]] w fun e w' => e = .returned (.int .i64 3) ∧ Below w.heap.size w w' := by
  have h := filSame 3 3 ⟨#[97]⟩ ⟨#[101, 110]⟩ ⟨#[]⟩ ⟨#[97]⟩ ⟨#[102, 114]⟩ ⟨#[]⟩ w (by decide) (by decide)
  rw [show sameI ⟨3, ⟨#[97]⟩, ⟨#[101, 110]⟩, ⟨#[]⟩⟩ ⟨3, ⟨#[97]⟩, ⟨#[102, 114]⟩, ⟨#[]⟩⟩ = 3 by kernel_rfl] at h
  exact h
theorem test4 (w : World) : Calls Tryz.prog 19 #[.agg #[.int .i64 1, .string ⟨#[117]⟩, .string ⟨#[]⟩, .string ⟨#[]⟩], .agg #[.int .i64 3, .string ⟨#[117]⟩, .string ⟨#[]⟩, .string ⟨#[]⟩]] w fun e w' => e = .returned (.int .i64 2) ∧ Below w.heap.size w w' := by
  have h := filSame 1 3 ⟨#[117]⟩ ⟨#[]⟩ ⟨#[]⟩ ⟨#[117]⟩ ⟨#[]⟩ ⟨#[]⟩ w (by decide) (by decide)
  rw [show sameI ⟨1, ⟨#[117]⟩, ⟨#[]⟩, ⟨#[]⟩⟩ ⟨3, ⟨#[117]⟩, ⟨#[]⟩, ⟨#[]⟩⟩ = 2 by kernel_rfl] at h
  exact h
theorem test5 (w : World) : Calls Tryz.prog 21 #[.agg #[.int .i64 4, .string ⟨#[57]⟩, .string ⟨#[]⟩, .string ⟨#[104, 116, 116, 112, 58, 47, 47, 119, 119, 119, 46, 119, 51, 46, 111, 114, 103, 47, 50, 48, 48, 49, 47, 88, 77, 76, 83, 99, 104, 101, 109, 97, 35, 105, 110, 116, 101, 103, 101, 114]⟩], .agg #[.int .i64 4, .string ⟨#[49, 48]⟩, .string ⟨#[]⟩, .string ⟨#[104, 116, 116, 112, 58, 47, 47, 119, 119, 119, 46, 119, 51, 46, 111, 114, 103, 47, 50, 48, 48, 49, 47, 88, 77, 76, 83, 99, 104, 101, 109, 97, 35, 105, 110, 116, 101, 103, 101, 114]⟩]] w fun e w' => e = .returned (.int .i64 1) ∧ Below w.heap.size w w' := by
  have h := filLess 4 4 ⟨#[57]⟩ ⟨#[]⟩ ⟨#[104, 116, 116, 112, 58, 47, 47, 119, 119, 119, 46, 119, 51, 46, 111, 114, 103, 47, 50, 48, 48, 49, 47, 88, 77, 76, 83, 99, 104, 101, 109, 97, 35, 105, 110, 116, 101, 103, 101, 114]⟩ ⟨#[49, 48]⟩ ⟨#[]⟩ ⟨#[104, 116, 116, 112, 58, 47, 47, 119, 119, 119, 46, 119, 51, 46, 111, 114, 103, 47, 50, 48, 48, 49, 47, 88, 77, 76, 83, 99, 104, 101, 109, 97, 35, 105, 110, 116, 101, 103, 101, 114]⟩ w (by decide) (by decide)
  rw [show lessI ⟨4, ⟨#[57]⟩, ⟨#[]⟩, ⟨#[104, 116, 116, 112, 58, 47, 47, 119, 119, 119, 46, 119, 51, 46, 111, 114, 103, 47, 50, 48, 48, 49, 47, 88, 77, 76, 83, 99, 104, 101, 109, 97, 35, 105, 110, 116, 101, 103, 101, 114]⟩⟩ ⟨4, ⟨#[49, 48]⟩, ⟨#[]⟩, ⟨#[104, 116, 116, 112, 58, 47, 47, 119, 119, 119, 46, 119, 51, 46, 111, 114, 103, 47, 50, 48, 48, 49, 47, 88, 77, 76, 83, 99, 104, 101, 109, 97, 35, 105, 110, 116, 101, 103, 101, 114]⟩⟩ = 1 by kernel_rfl] at h
  exact h
theorem test6 (w : World) : Calls Tryz.prog 21 #[.agg #[.int .i64 3, .string ⟨#[57]⟩, .string ⟨#[]⟩, .string ⟨#[]⟩], .agg #[.int .i64 3, .string ⟨#[49, 48]⟩, .string ⟨#[]⟩, .string ⟨#[]⟩]] w fun e w' => e = .returned (.int .i64 2) ∧ Below w.heap.size w w' := by
  have h := filLess 3 3 ⟨#[57]⟩ ⟨#[]⟩ ⟨#[]⟩ ⟨#[49, 48]⟩ ⟨#[]⟩ ⟨#[]⟩ w (by decide) (by decide)
  rw [show lessI ⟨3, ⟨#[57]⟩, ⟨#[]⟩, ⟨#[]⟩⟩ ⟨3, ⟨#[49, 48]⟩, ⟨#[]⟩, ⟨#[]⟩⟩ = 2 by kernel_rfl] at h
  exact h
set_option maxRecDepth 100000 in
set_option maxHeartbeats 4000000 in
theorem lawAwake (w : World) :
    Calls Tryz.prog 8 #[] w fun e w' => e = .returned (.bool true) ∧ Below w.heap.size w w' := by
  have g0 := fun d os => grown_box (w := w) (cs := #[.int .i64 1, .string ⟨#[117]⟩, .string ⟨#[]⟩, .string ⟨#[]⟩]) (ty := 28) 0 _ rfl d os
  have g1 := fun d os => grown_box (w := w) (cs := #[.int .i64 1, .string ⟨#[117]⟩, .string ⟨#[]⟩, .string ⟨#[]⟩]) (ty := 28) 1 _ rfl d os
  have g2 := fun d os => grown_box (w := w) (cs := #[.int .i64 1, .string ⟨#[117]⟩, .string ⟨#[]⟩, .string ⟨#[]⟩]) (ty := 28) 2 _ rfl d os
  have g3 := fun d os => grown_box (w := w) (cs := #[.int .i64 1, .string ⟨#[117]⟩, .string ⟨#[]⟩, .string ⟨#[]⟩]) (ty := 28) 3 _ rfl d os
  go_enter Tryz.func8, Tryz.ntmps8
  go_wp2
  refine wp_region_quiet_below (by kernel_rfl) (by kernel_rfl) ?_; (repeat (any_goals (go_big_quiet_step ((first | (go_at_call 10; with_reducible exact Calls.regrown_of (lawNum _ _)) | (go_at_call 11; with_reducible exact Calls.regrown_of (lawPlain _ _)) | (go_at_call 9; with_reducible exact Calls.regrown_of (lawTagged _ _ _)) | (go_at_call 19; with_reducible exact Calls.regrown_of (test0 _)) | (go_at_call 19; with_reducible exact Calls.regrown_of (test1 _)) | (go_at_call 19; with_reducible exact Calls.regrown_of (test2 _)) | (go_at_call 19; with_reducible exact Calls.regrown_of (test3 _)) | (go_at_call 19; with_reducible exact Calls.regrown_of (test4 _)) | (go_at_call 21; with_reducible exact Calls.regrown_of (test5 _)) | (go_at_call 21; with_reducible exact Calls.regrown_of (test6 _))))))); all_goals (refine wpQuiet_nil ?_; intro _ hw9; obtain ⟨⟨d9, os9⟩, hw8⟩ := hw9; subst hw8)
  go_wp2
  go_ret
  exact ⟨rfl, (by repeat (first | exact Below.refl _ _ | assumption | exact (Below.refl _ _).alloc (Nat.le_refl _) _ | refine below_tr ?_ (by assumption) | refine below_alloc ?_ | refine below_tr ?_ (below_regrown _ _ _)))⟩
end Go.Proofs.YtfijpdmkdoccjaaGreatDoor
