/- Layer 25's law: literal. Layer 25's law, walked: FilterTables. Layer 25's law, walked: truths, Pick. Layer 25's law, walked: FilterTruths. Layer 25's law, walked: FilterTerms. -/
import Derived.Test.YtfijpdmkdoccjaaGreatDoorJLaw25a
import Derived.Test.YtfijpdmkdoccjaaGreatDoorJRegion
import Derived.Test.YtfijpdmkdoccjaaGreatDoorJTms
import Derived.Test.YtfijpdmkdoccjaaGreatDoorJRegion2
import Derived.Test.YtfijpdmkdoccjaaGreatDoorJFilRef5
import Derived.Test.YtfijpdmkdoccjaaGreatDoorJSameInts
namespace Go.Proofs.YtfijpdmkdoccjaaGreatDoor
open Go Go.RowKit Fm

end Go.Proofs.YtfijpdmkdoccjaaGreatDoor
namespace Go.Proofs.YtfijpdmkdoccjaaGreatDoor
open Go Go.RowKit Fm

theorem heap_three_1 (w : World) (o1 o2 o3 : Obj) : (((w.alloc o1).alloc o2).alloc o3).heap[w.heap.size]? = some o1 := by
  rw [Below.heap_alloc _ _ _ (by simp; omega)]; exact heap_two_1 w o1 o2
theorem heap_three_2 (w : World) (o1 o2 o3 : Obj) : (((w.alloc o1).alloc o2).alloc o3).heap[w.heap.size + 1]? = some o2 := by
  rw [Below.heap_alloc _ _ _ (by simp)]; exact heap_two_2 w o1 o2
theorem heap_three_3 (w : World) (o1 o2 o3 : Obj) : (((w.alloc o1).alloc o2).alloc o3).heap[w.heap.size + 2]? = some o3 := by
  have := heap_alloc_new ((w.alloc o1).alloc o2) o3
  simpa using this
theorem cell_of {w : World} {g : Nat} {cs : Array Value} {t : TypeId} (h : w.heap[g]? = some (.cells cs t)) (j : Nat) (v : Value) (hv : cs[j]? = some v) : w.cell? ⟨g, j, none⟩ = some v := by
  rw [World.cell?, h]; exact hv
theorem grownK {w0 w1 : World} {p : Addr} {v : Value} (h0 : w0.cell? p = some v) (hb : Below w0.heap.size w0 w1) (d : Nat) (os : Array Obj) : (Sort.grow (redrawn w1 d) os).cell? p = some v :=
  cell_regrown (by rw [hb.cell (cell_lt h0)]; exact h0) d os

end Go.Proofs.YtfijpdmkdoccjaaGreatDoor
namespace Go.Proofs.YtfijpdmkdoccjaaGreatDoor
open Go Go.RowKit Fm

theorem intInfo : (Tryz.prog.info? 3).map (fun i => (i.zero, i.size, i.bytes)) = some (some (.int .i64 0), 1, 8) := by kernel_rfl
set_option maxHeartbeats 1000000 in
theorem lawTruths (l : List Int) (A : Option Addr) (c : Nat) (w : World) (hl : l.length ≤ 1000) (hr : Rd w A (l.map (Value.int .i64))) :
    Calls Tryz.prog 14 #[.slice A l.length c] w fun e w' => ∃ v, e = .returned v ∧ OwnI w' w.heap.size 42 v l ∧ Below w.heap.size w w' := by
  have hsz : w.heap.size ≤ w.heap.size := Nat.le_refl _
  go_enter Tryz.func14, Tryz.ntmps14
  go_wp2
  go_loopw [3, 4] (fun v i wr => ∃ k : Nat, k ≤ l.length ∧ i = .int .i64 k ∧ OwnI wr w.heap.size 42 v (l.take k) ∧ Below w.heap.size w wr) (fun _ i _ => l.length - (intOf i).toNat)
  case atStart => exact ⟨0, by omega, rfl, by simpa [OwnI] using World.ownsRow_nil _ _ _ _, Below.refl _ _⟩
  case round =>
    obtain ⟨k, hk, rfl, hown, hB⟩ := hrel
    by_cases hlt : k < l.length
    · obtain ⟨x, hx⟩ : ∃ x, l[k]? = some x := ⟨_, List.getElem?_eq_getElem hlt⟩
      obtain ⟨g, o, rfl, hcx⟩ := (hr.later hB).at_ (j := k) (u := .int .i64 x) (by simp [hx])
      have hts := take_snoc_of hx
      have hlk : (l.take k).length = k := by simp; omega
      have Hts := Lib.hid hts
      have Hown := Lib.hid hown
      unfold OwnI at hown
      rw [hlk] at hown
      clear hx hts hlk
      go_wp2_with (at_builtin; refine wpList_app rfl rfl Tryz.underlying40 truthInfo rfl (by omega) rfl (hown.alloc _) rfl (Rd.of_block (heap_alloc_new wr _) rfl) rfl (ints1 [x]) (by omega) (by omega) (by have := hB.size; simp; omega) ?_; intro v' w2 hown2 hb2)
      have hB2 := (hB.alloc hB.size (.cells #[.int .i64 x] 42)).trans hb2
      go_roundw
      case rel =>
        refine ⟨k+1, by omega, by go_num, ?_, hB2⟩
        rw [Hts.out]
        unfold OwnI
        rw [List.length_append, List.length_take, Nat.min_eq_left (by omega), List.map_append]
        exact hown2
      case measure => simp [intOf]; omega
    · have hk2 : l.take k = l := List.take_of_length_le (by omega)
      rw [hk2] at hown
      have Hown := Lib.hid hown
      clear hown hk2
      go_wp2
      go_ret
      exact ⟨_, rfl, Hown.out, hB⟩

end Go.Proofs.YtfijpdmkdoccjaaGreatDoor
namespace Go.Proofs.YtfijpdmkdoccjaaGreatDoor
open Go Go.RowKit Fm

theorem Rd.drop {w : World} {A : Option Addr} {xs : List Value} (h : Rd w A xs) (k c : Nat) (hc : xs.length ≤ c) : Rd w (if c = k then A else Option.map (fun x => x.add k) A) (xs.drop k) := by
  by_cases hk : c = k
  · rw [if_pos hk, List.drop_eq_nil_of_le (by omega)]; exact Rd.nil _ _
  · rw [if_neg hk]
    rcases h with rfl | ⟨g, o, rfl, hc⟩
    · rw [List.drop_nil]; exact Rd.nil _ _
    · refine .inr ⟨g, o + k, by simp [add_zero_spot], fun j u hu => ?_⟩
      rw [List.getElem?_drop] at hu
      rw [Nat.add_assoc]
      exact hc _ u hu
theorem filAndN (m : List Int) (n : Nat) (hn : m.length = n) (r : Int) (he : andI m = r) (hl : n ≤ 1000000) (A : Option Addr) (c : Nat) (w : World) (hr : Rd w A (m.map (Value.int .i64))) :
    Calls Tryz.prog 23 #[.slice A n c] w fun e w' => e = .returned (.int .i64 r) ∧ Below w.heap.size w w' := by
  subst hn; subst he; exact filAnd m A c w (by omega) hr
theorem filOrN (m : List Int) (n : Nat) (hn : m.length = n) (r : Int) (he : orI m = r) (hl : n ≤ 1000000) (A : Option Addr) (c : Nat) (w : World) (hr : Rd w A (m.map (Value.int .i64))) :
    Calls Tryz.prog 25 #[.slice A n c] w fun e w' => e = .returned (.int .i64 r) ∧ Below w.heap.size w w' := by
  subst hn; subst he; exact filOr m A c w (by omega) hr
def notsI (l : List Int) (j : Nat) : List Int := (l.take j).map notI
end Go.Proofs.YtfijpdmkdoccjaaGreatDoor
namespace Go.Proofs.YtfijpdmkdoccjaaGreatDoor
open Go Go.RowKit Fm

set_option maxRecDepth 100000 in
set_option maxHeartbeats 8000000 in
theorem lawFilterTerms (k1 : Int) (x1 l1 y1 : ByteArray) (k2 : Int) (x2 l2 y2 : ByteArray) (l : List Int) (A : Option Addr) (c : Nat) (w : World) (hs1 : x1.size ≤ 281474976710656) (hs2 : x2.size ≤ 281474976710656) (hl : l.length ≤ 281474976710656) (hr : Rd w A (l.map (Value.int .i64))) :
    Calls Tryz.prog 5 #[.agg #[.int .i64 k1, .string x1, .string l1, .string y1], .agg #[.int .i64 k2, .string x2, .string l2, .string y2], .slice A l.length c] w fun e w' =>
      e = .returned (.bool true) ∧ Below w.heap.size w w' := by
  have hF := fun W => filNumber k1 x1 l1 y1 W hs1
  have hN := fun W => refNumber k2 x2 l2 y2 W hs2
  have hN1 := fun W => refNumber k1 x1 l1 y1 W hs1
  rw [numV_eq] at hF hN1
  clear hN
  generalize (⟨(numD ⟨k1, x1, l1, y1⟩).toArray⟩ : ByteArray) = D at *
  generalize numM ⟨k1, x1, l1, y1⟩ = m at *
  generalize numI ⟨k1, x1, l1, y1⟩ = i at *
  have z1 : (x1.size : Int) ≤ 281474976710656 := by omega
  have z2 : (x2.size : Int) ≤ 281474976710656 := by omega
  have z3 : (l.length : Int) ≤ 281474976710656 := by omega
  by_cases h5 : 5000 < (x1.size : Int) + x2.size
  · go_enter Tryz.func5, Tryz.ntmps5
    go_wp2_with fail
    refine (lawAwake _).mono ?_
    rintro e w1 ⟨rfl, hb1⟩
    go_wp2
    go_ret
    exact ⟨rfl, (by repeat (first | exact Below.refl _ _ | assumption | exact (Below.refl _ _).alloc (Nat.le_refl _) _ | refine below_tr ?_ (by assumption) | refine below_alloc ?_ | refine below_tr ?_ (below_regrown _ _ _)))⟩
  · by_cases h3 : 300 < (l.length : Int)
    · go_enter Tryz.func5, Tryz.ntmps5
      go_wp2_with fail
      refine (lawAwake _).mono ?_
      rintro e w1 ⟨rfl, hb1⟩
      go_wp2
      go_ret
      exact ⟨rfl, (by repeat (first | exact Below.refl _ _ | assumption | exact (Below.refl _ _).alloc (Nat.le_refl _) _ | refine below_tr ?_ (by assumption) | refine below_alloc ?_ | refine below_tr ?_ (below_regrown _ _ _)))⟩
    · have hl3 : l.length ≤ 300 := by omega
      go_enter Tryz.func5, Tryz.ntmps5
      go_wp2_with fail
      refine (hF _).mono ?_
      rintro e w1 ⟨rfl, hb1⟩
      obtain ⟨hc1, hf1⟩ := bcell hb1
      go_wp2_with fail
      refine (hN1 _).mono ?_
      rintro e w2 ⟨rfl, hbn⟩
      have hb2 := below_tr hb1 hbn
      clear hc1 hf1 hb1 hbn
      have hW0 : Below w.heap.size w w2 := ((Below.refl _ _).alloc (Nat.le_refl _) _ |>.alloc (by simp) _).trans (hb2.mono (by simp; omega))
      have hr2 := hr.later hW0
      go_wp2_with fail
      refine (lawTruths l A c _ (by omega) hr2).mono ?_
      rintro e w3 ⟨v, rfl, hown, hbn⟩
      have hb := below_tr hb2 hbn
      have hr3 := hr2.later hbn
      obtain ⟨A1, c1, rfl, hcc, hrt⟩ := own_open hown
      clear hown hr2 hr hbn hb2 hF hN1 hW0
      have HR := Lib.hid (And.intro hr3 hrt)
      have HB := Lib.hid hb
      clear hr3 hrt hb
      go_wp2
      go_loopw [14, 15] (fun nt i wr => ∃ j : Nat, j ≤ l.length ∧ i = .int .i64 j ∧ nt = .bool true ∧ Below w3.heap.size w3 wr) (fun _ i _ => l.length - (intOf i).toNat)
      case atStart => exact ⟨0, by omega, rfl, rfl, Below.refl _ _⟩
      case round =>
        obtain ⟨j, hj, rfl, rfl, hB⟩ := hrel
        by_cases hlt : j < l.length
        · obtain ⟨x, hx⟩ : ∃ x, l[j]? = some x := ⟨_, List.getElem?_eq_getElem hlt⟩
          obtain ⟨g, o, rfl, hcx⟩ := (HR.out.1.later hB).at_ (j := j) (u := .int .i64 x) (by simp [hx])
          obtain ⟨g', o', rfl, hcy⟩ := (HR.out.2.later hB).at_ (j := j) (u := .int .i64 x) (by simp [hx])
          have g0 := fun d os => cell_regrown hcx d os
          have g1 := fun d os => cell_regrown hcy d os
          clear hx hcx hcy
          go_wp2
          refine wp_region_quiet_below (by kernel_rfl) (by kernel_rfl) ?_; (repeat (any_goals (go_big_quiet_step ((first | (go_at_call 15; with_reducible exact Calls.quiet_tr (filNot _ _)) | (go_at_call 16; with_reducible exact Calls.quiet_tr (refNot _ _))))))); all_goals (refine wpQuiet_nil ?_; intro _ hw9; obtain ⟨⟨d9, os9⟩, hw8⟩ := hw9; subst hw8)
          have hB2 := hB.trans ((below_regrown wr d9 os9).mono hB.size)
          clear g0 g1
          go_wp2
          go_roundw
          case rel => exact ⟨j+1, by omega, by go_num, rfl, hB2⟩
          case measure => simp [intOf]; omega
        · have hb := below_tr HB.out hB
          have hrr := And.intro (HR.out.1.later hB) (HR.out.2.later hB)
          clear HR HB hB
          have HR := Lib.hid hrr
          clear hrr
          have g10 := fun d os => grown_two1 hb 0 _ rfl d os
          have g11 := fun d os => grown_two1 hb 1 _ rfl d os
          have g12 := fun d os => grown_two1 hb 2 _ rfl d os
          have g13 := fun d os => grown_two1 hb 3 _ rfl d os
          have g20 := fun d os => grown_two2 hb 0 _ rfl d os
          have g21 := fun d os => grown_two2 hb 1 _ rfl d os
          have g22 := fun d os => grown_two2 hb 2 _ rfl d os
          have g23 := fun d os => grown_two2 hb 3 _ rfl d os
          go_wp2
          refine wp_region_quiet_below (by kernel_rfl) (by kernel_rfl) ?_; (repeat (any_goals (go_big_quiet_step ((first | (go_at_call 17; with_reducible exact Calls.regrown_of (filAlone _ _ _ _ _ hs1)) | (go_at_call 18; with_reducible exact Calls.regrown_of (refAlone _ _ _ _ _ hs1)) | (go_at_call 19; with_reducible exact Calls.regrown_of (filSame _ _ _ _ _ _ _ _ _ hs1 hs2)) | (go_at_call 20; with_reducible exact Calls.regrown_of (refSame _ _ _ _ _ _ _ _ _ hs1 hs2)) | (go_at_call 21; with_reducible exact Calls.regrown_of (filLess _ _ _ _ _ _ _ _ _ hs1 hs2)) | (go_at_call 22; with_reducible exact Calls.regrown_of (refLess _ _ _ _ _ _ _ _ _ hs1 hs2)) | (go_at_call 23; with_reducible exact Calls.regrown_of (filAnd l A1 c1 _ (by omega) (HR.out.2.later (below_regrown _ _ _)))) | (go_at_call 25; with_reducible exact Calls.regrown_of (filOr l A1 c1 _ (by omega) (HR.out.2.later (below_regrown _ _ _)))) | (go_at_call 24; with_reducible exact Calls.regrown_of (refAnd l A c _ (by omega) (HR.out.1.later (below_regrown _ _ _)))) | (go_at_call 26; with_reducible exact Calls.regrown_of (refOr l A c _ (by omega) (HR.out.1.later (below_regrown _ _ _)))) | (go_at_call 8; with_reducible exact Calls.regrown_of (lawAwake _))))))); all_goals (refine wpQuiet_nil ?_; intro _ hw9; obtain ⟨⟨d9, os9⟩, hw8⟩ := hw9; subst hw8)
          go_wp2
          go_ret
          exact ⟨rfl, (by repeat (first | exact Below.refl _ _ | assumption | exact (Below.refl _ _).alloc (Nat.le_refl _) _ | refine below_tr ?_ (by assumption) | refine below_alloc ?_ | refine below_tr ?_ (below_regrown _ _ _)))⟩
end Go.Proofs.YtfijpdmkdoccjaaGreatDoor
