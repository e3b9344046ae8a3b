/- Layer 25's law, walked: truths, Pick. -/
import Derived.Test.YtgmkpandbafhjaaDoorLaw25b
import Derived.Test.YtgmkpandbafhjaaDoorRegion
namespace Go.Proofs.YtgmkpandbafhjaaDoor
open Go Go.RowKit Fm

theorem intInfo : (Tryd.prog.info? 3).map (fun i => (i.zero, i.size, i.bytes)) = some (some (.int .i64 0), 1, 8) := by kernel_rfl
theorem truthInfo : (Tryd.prog.info? 26).map (fun i => (i.zero, i.size, i.bytes)) = some (some (.int .i64 0), 1, 8) := by kernel_rfl
theorem drop_cons_of {α : Type} {l : List α} {k : Nat} {x : α} (h : l[k]? = some x) : l.drop k = x :: l.drop (k + 1) := by
  have hlt : k < l.length := (List.getElem?_eq_some_iff.1 h).1
  rw [List.drop_eq_getElem_cons hlt]
  rw [List.getElem?_eq_getElem hlt] at h
  injection h with h; rw [h]
theorem take_snoc_of {α : Type} {l : List α} {k : Nat} {x : α} (h : l[k]? = some x) : l.take (k + 1) = l.take k ++ [x] := by
  have hlt : k < l.length := (List.getElem?_eq_some_iff.1 h).1
  rw [List.take_succ_eq_append_getElem hlt]
  rw [List.getElem?_eq_getElem hlt] at h
  injection h with h; rw [h]
/-- A slice of numbers of the call's own, as it lies. -/
def OwnI (w : World) (base : Nat) (ty : TypeId) (v : Value) (l : List Int) : Prop := w.ownsRow base ty 1 v l.length (l.map (Value.int .i64))
theorem ints1 (l : List Int) : ∀ u ∈ l.map (Value.int .i64), u.oneCell' = true := ints_oneCell _ l

set_option maxHeartbeats 1000000 in
theorem lawTruths (l : List Int) (A : Option Addr) (c : Nat) (w : World) (hl : l.length ≤ 1000) (hr : Rd w A (l.map (Value.int .i64))) :
    Calls Tryd.prog 11 #[.slice A l.length c] w fun e w' => ∃ v, e = .returned v ∧ OwnI w' w.heap.size 26 v l ∧ Below w.heap.size w w' := by
  have hsz : w.heap.size ≤ w.heap.size := Nat.le_refl _
  go_enter Tryd.func11, Tryd.ntmps11
  go_wp2
  go_loopw [3, 4] (fun v i wr => ∃ k : Nat, k ≤ l.length ∧ i = .int .i64 k ∧ OwnI wr w.heap.size 26 v (l.take k) ∧ Below w.heap.size w wr) (fun _ i _ => l.length - (intOf i).toNat)
  case atStart => exact ⟨0, by omega, rfl, by simpa [OwnI] using World.ownsRow_nil _ _ _ _, Below.refl _ _⟩
  case round =>
    obtain ⟨k, hk, rfl, hown, hB⟩ := hrel
    by_cases hlt : k < l.length
    · obtain ⟨x, hx⟩ : ∃ x, l[k]? = some x := ⟨_, List.getElem?_eq_getElem hlt⟩
      obtain ⟨g, o, rfl, hcx⟩ := (hr.later hB).at_ (j := k) (u := .int .i64 x) (by simp [hx])
      have hts := take_snoc_of hx
      have hlk : (l.take k).length = k := by simp; omega
      have Hts := Lib.hid hts
      have Hown := Lib.hid hown
      unfold OwnI at hown
      rw [hlk] at hown
      clear hx hts hlk
      go_wp2_with (at_builtin; refine wpList_app rfl rfl Tryd.underlying28 truthInfo rfl (by omega) rfl (hown.alloc _) rfl (Rd.of_block (heap_alloc_new wr _) rfl) rfl (ints1 [x]) (by omega) (by omega) (by have := hB.size; simp; omega) ?_; intro v' w2 hown2 hb2)
      have hB2 := (hB.alloc hB.size (.cells #[.int .i64 x] 26)).trans hb2
      go_roundw
      case rel =>
        refine ⟨k+1, by omega, by go_num, ?_, hB2⟩
        rw [Hts.out]
        unfold OwnI
        rw [List.length_append, List.length_take, Nat.min_eq_left (by omega), List.map_append]
        exact hown2
      case measure => simp [intOf]; omega
    · have hk2 : l.take k = l := List.take_of_length_le (by omega)
      rw [hk2] at hown
      have Hown := Lib.hid hown
      clear hown hk2
      go_wp2
      go_ret
      exact ⟨_, rfl, Hown.out, hB⟩

theorem kitPick (x n : Int) (w : World) (h0 : 1 ≤ n) (h1 : n ≤ 1000) :
    Calls Tryd.prog 12 #[.int .i64 x, .int .i64 n] w fun e w' => ∃ k : Nat, e = .returned (.int .i64 k) ∧ (k : Int) < n ∧ w = w' := by
  have b1 : -n < x.tmod n := Int.lt_tmod_of_pos x (by omega)
  have b2 : x.tmod n < n := Int.tmod_lt_of_pos x (by omega)
  go_enter Tryd.func12, Tryd.ntmps12
  go_wp2
  · go_ret
    refine ⟨(x.tmod n + n).toNat, ?_, by omega, rfl⟩
    show Ending.returned (.int .i64 (x.tmod n + n)) = _
    rw [Int.toNat_of_nonneg (by omega)]
  · go_ret
    refine ⟨(x.tmod n).toNat, ?_, by omega, rfl⟩
    show Ending.returned (.int .i64 (x.tmod n)) = _
    rw [Int.toNat_of_nonneg (by omega)]
end Go.Proofs.YtgmkpandbafhjaaDoor
