/- The library's slices.Grow, slices.Concat over texts. -/
import Derived.Test.YtafaanegkoolgaaGreatDoorJAppG
import Derived.Test.YtafaanegkoolgaaGreatDoorJVars
import Derived.Lib.AppendZerosOnto
import Derived.Lib.Strings
namespace Go.Proofs.YtafaanegkoolgaaGreatDoor
open Go Go.RowKit Um Fm Mt

def GrowR (w : World) (e : Ending) (w' : World) : Prop := ∃ v, e = .returned v ∧ w'.ownsRow w.heap.size 9 1 v 0 [] ∧ Below w.heap.size w w'
set_option maxRecDepth 10000 in
set_option maxHeartbeats 2000000 in
theorem cGrow (n : Nat) (w : World) (hn : n ≤ 3000000) : Calls Tryz.prog 206 #[.slice none 0 0, .int .i64 n] w (GrowR w) := by
  have hn' : (n : Int) ≤ 3000000 := by omega
  by_cases h0 : 0 < n
  · obtain ⟨i, hi, hz, hsize, hby⟩ := info_parts stringInfo'
    have hrz : ∀ ty, (Builtin.append_ #[22, 3] ty #[.slice none 0 0, .int .i64 n]).run Tryz.prog w = _ := fun ty =>
      Lib.run_append_grow_zeros w 22 3 ty 9 i (.string ⟨#[]⟩) .i64 .i64 Tryz.underlying22 Tryz.underlying3 hi hz none 0 0 [] (run_firstCells_none w.drew i.size 0 0 0) n h0 (by omega) (by omega) (by omega)
        (by rw [hby]; omega) (by rw [Nat.zero_add, hby]; exact growslice_fits h0 (by omega))
    simp only [Nat.zero_add] at hrz
    have hG1 : n ≤ grownCap w n 0 9 := grownCap_ge w _ _ _
    have hG2 := grownCap_le_maxLen w n 0 9 (by unfold maxLen; omega)
    obtain ⟨G, hG⟩ : ∃ G, grownCap w n 0 9 = G := ⟨_, rfl⟩
    rw [hG] at hG1 hG2 hrz
    obtain ⟨cs, hcs⟩ : ∃ cs : Array Value, ([] : List Value).toArray ++ Builtin.zeroCells (Value.string ⟨#[]⟩).cells n ++ Builtin.zeroCells (Value.string ⟨#[]⟩).cells (G - n) = cs := ⟨_, rfl⟩
    have hsz : cs.size = G * 1 := by
      rw [← hcs, Array.size_append, Array.size_append, size_zeroCells, size_zeroCells]
      show 0 + n * 1 + (G - n) * 1 = G * 1
      omega
    rw [hcs] at hrz
    have hG3 : (G : Int) ≤ 9223372036854775807 := by unfold maxLen at hG2; omega
    have h0' : 0 < (n : Int) := by omega
    have own : (w.drew.alloc (.cells cs 9)).ownsRow w.heap.size 9 1 (.slice (some ⟨w.heap.size, 0, none⟩) 0 G) 0 [] :=
      ⟨rfl, .inr ⟨w.heap.size, G, cs, rfl, Nat.le_refl _, heap_alloc_new w.drew _, by omega, hG2, hsz, by simp⟩⟩
    have bel : Below w.heap.size w (w.drew.alloc (.cells cs 9)) := ((Below.refl _ _).drew).alloc (Nat.le_refl _) _
    have Own := Lib.hid own
    clear hG hcs hsz hi hz hsize hby own hG2
    go_enter Tryz.func206, Tryz.ntmps206
    go_wp2_with (at_builtin; refine Lib.wpList_append_run _ rfl _ _ _ _ rfl _ _ rfl rfl _ _ (hrz _) ?_)
    go_ret
    exact ⟨_, rfl, Own.out, bel⟩
  · obtain rfl : n = 0 := by omega
    go_enter Tryz.func206, Tryz.ntmps206
    go_wp2
    go_ret
    exact ⟨_, rfl, World.ownsRow_nil _ _ _ _, Below.refl _ _⟩

/-- Lists of texts, as they lie. -/
abbrev RdLs (w : World) (A : Option Addr) (ls : List (List ByteArray)) : Prop := RdL 1 (fun cs l => ∃ (B : Option Addr) (c : Nat), cs = [.slice B l.length c] ∧ Rd w B (l.map Value.string)) w A ls
theorem RdLs.later {w w' : World} {A : Option Addr} {ls : List (List ByteArray)} (h : RdLs w A ls) (hb : Below w.heap.size w w') : RdLs w' A ls :=
  RdL.mono h hb fun _ _ _ ⟨B, c, h1, h2⟩ => ⟨B, c, h1, h2.later hb⟩
def sumL (ls : List (List ByteArray)) : Nat := (ls.map List.length).sum
theorem sumL_take {ls : List (List ByteArray)} {k : Nat} {l : List ByteArray} (h : ls[k]? = some l) : sumL (ls.take (k + 1)) = sumL (ls.take k) + l.length := by
  unfold sumL; rw [take_snoc_of h, List.map_append, List.sum_append]; simp
theorem sumL_flat (ls : List (List ByteArray)) : (ls.flatMap id).length = sumL ls := by
  unfold sumL; induction ls with
  | nil => rfl
  | cons a r ih => simp [List.flatMap_cons, ih]
theorem sumL_le (ls : List (List ByteArray)) (k : Nat) : sumL (ls.take k) ≤ sumL ls := by
  unfold sumL
  conv => rhs; rw [← List.take_append_drop k ls]
  rw [List.map_append, List.sum_append]; omega
def Sum1 (ls : List (List ByteArray)) (w : World) (s i : Value) (wr : World) : Prop := ∃ k : Nat, k ≤ ls.length ∧ i = .int .i64 k ∧ s = .int .i64 (sumL (ls.take k)) ∧ w = wr
def Cat1 (ls : List (List ByteArray)) (w0 w : World) (v i : Value) (wr : World) : Prop := ∃ (k : Nat) (v' : Value), k ≤ ls.length ∧ i = .int .i64 k ∧ v = v' ∧ wr.ownsRow w0.heap.size 9 1 v' (sumL (ls.take k)) (((ls.take k).flatMap id).map Value.string) ∧ Below w0.heap.size w0 wr
set_option maxRecDepth 10000 in
set_option maxHeartbeats 2000000 in
theorem cConcat (ls : List (List ByteArray)) (A : Option Addr) (c : Nat) (w : World) (hr : RdLs w A ls) (hl : ls.length ≤ 1000) (hs : sumL ls ≤ 3000000) :
    Calls Tryz.prog 165 #[.slice A ls.length c] w (NamesR (ls.flatMap id) w) := by
  have hl' : (ls.length : Int) ≤ 1000 := by omega
  go_enter Tryz.func165, Tryz.ntmps165
  go_wp2
  go_loopw [3, 11] (Sum1 ls w) (fun _ i _ => ls.length - (intOf i).toNat)
  case atStart => exact ⟨0, by omega, rfl, rfl, rfl⟩
  case round =>
    obtain ⟨k, hk, rfl, rfl, rfl⟩ := hrel
    have hsk := sumL_le ls k
    by_cases hlt : k < ls.length
    · obtain ⟨l, hx⟩ : ∃ x, ls[k]? = some x := ⟨_, List.getElem?_eq_getElem hlt⟩
      obtain ⟨g, o, cs, rfl, -, ⟨B, d, rfl, hB⟩, hc⟩ := hr.at_ (by omega) hx
      have e0 : w.cell? ⟨g, o + k * 1, none⟩ = some (.slice B l.length d) := hc 0 _ rfl
      rw [Nat.mul_one] at e0
      have Hs := Lib.hid (sumL_take hx)
      have hs1 := sumL_le ls (k + 1)
      rw [sumL_take hx] at hs1
      generalize sumL (ls.take k) = S at *
      clear hc hx hB hr
      go_wp2
      go_roundw
      case rel => exact ⟨k + 1, by omega, by go_num, by rw [Hs.out]; go_num, rfl⟩
      case measure => simp [intOf]; omega
    · have Hk2 : Hid (ls.take k = ls) := List.take_of_length_le (by omega)
      have hg := cGrow (sumL (ls.take k)) w (by omega)
      generalize sumL (ls.take k) = S at *
      go_wp2_with (refine hg.mono ?_; rintro e w1 ⟨v, rfl, own, b1⟩)
      go_loopw [6, 27] (Cat1 ls w w1) (fun _ i _ => ls.length - (intOf i).toNat)
      case atStart => exact ⟨0, v, by omega, rfl, rfl, own, b1⟩
      case round =>
        obtain ⟨j, v', hj, rfl, rfl, ownj, bj⟩ := hrel
        have hsj := sumL_le ls j
        by_cases hlt2 : j < ls.length
        · obtain ⟨l, hx⟩ : ∃ x, ls[j]? = some x := ⟨_, List.getElem?_eq_getElem hlt2⟩
          obtain ⟨g, o, cs, rfl, -, ⟨B, d, rfl, hB⟩, hc⟩ := (hr.later bj).at_ (by omega) hx
          have e0 : wr.cell? ⟨g, o + j * 1, none⟩ = some (.slice B l.length d) := hc 0 _ rfl
          rw [Nat.mul_one] at e0
          have Hs := Lib.hid (sumL_take hx)
          have Hf := Lib.hid (flat_take hx id)
          have hs1 := sumL_le ls (j + 1)
          rw [sumL_take hx] at hs1
          have hbs : w.heap.size ≤ wr.heap.size := bj.size
          generalize hSj : sumL (ls.take j) = Sj at *
          clear hc hx hr hSj hg own b1
          go_wp2_with (at_builtin; refine wpList_appG rfl rfl Tryz.underlying22 stringInfo' rfl (by omega) rfl ownj rfl hB (by rw [List.length_map]; omega) (by intro u hu; obtain ⟨x, _, rfl⟩ := List.mem_map.1 hu; rfl) (by omega) (by omega) hbs ?_; intro v5 w5 own5 hb5 _)
          go_roundw
          case rel => exact ⟨j + 1, v5, by omega, by go_num, rfl, by rw [Hs.out, Hf.out, List.map_append]; exact own5, bj.trans hb5⟩
          case measure => simp [intOf]; omega
        · have hj2 : ls.take j = ls := List.take_of_length_le (by omega)
          rw [hj2, ← sumL_flat] at ownj
          obtain ⟨A1, d1, rfl, _, _⟩ := own_slice ownj
          clear hr hg own
          go_wp2
          go_ret
          exact ⟨_, rfl, ownj, bj⟩
end Go.Proofs.YtafaanegkoolgaaGreatDoor
