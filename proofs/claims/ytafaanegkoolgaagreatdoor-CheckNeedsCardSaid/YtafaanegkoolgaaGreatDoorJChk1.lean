/- The program's package check, walked: names.meet, names.has. -/
import Derived.Test.YtafaanegkoolgaaGreatDoorJCntMath
import Derived.Test.YtafaanegkoolgaaGreatDoorJAppG
import Derived.Test.YtafaanegkoolgaaGreatDoorJMet
namespace Go.Proofs.YtafaanegkoolgaaGreatDoor
open Go Go.RowKit Go.Maps Go.ChangeMaps Mt Mp

theorem mapT : Tryz.prog.underlying 115 = some (.map 9 3) := by kernel_rfl
theorem mapK : Tryz.prog.underlying 9 = some .string := by kernel_rfl
theorem mapZ (w : World) : (zeroValue 3).run Tryz.prog w = .ok (.int .i64 0) w := by kernel_rfl
/-- names.has: was a name met? -/
theorem cHas (r : Nat) (m : List (ByteArray × Int)) (s : ByteArray) (w : World) (hM : CntOf w r m) :
    Calls Tryz.prog 101 #[.agg #[.map (some r)], .string s] w fun e w' => e = .returned (.bool (decide (0 < lookI m s))) ∧ Below w.heap.size w w' := by
  have hB0 : Below w.heap.size w (w.alloc (.cells #[.map (some r)] 117)) := (by repeat (first | exact Below.refl _ _ | assumption | exact (Below.refl _ _).alloc (Nat.le_refl _) _ | refine below_tr ?_ (by assumption) | refine below_alloc ?_ | refine below_tr ?_ (below_regrown _ _ _)))
  have hl := run_lookup_str (P := Tryz.prog) mapT mapK (mapZ _) (hM.on hB0) s
  generalize lookI m s = v at *
  clear hM
  go_enter Tryz.func101, Tryz.ntmps101
  go_wp2
  go_ret
  exact ⟨rfl, hB0⟩
def MeetS (r : Nat) (m : List (ByteArray × Int)) (l : List ByteArray) (w : World) (e : Ending) (w' : World) : Prop := e = .returned (.bool (twiceM m l)) ∧ CntOf w' r (meetM m l) ∧ w.grownBy w' (some r)
def MeetSL (r b : Nat) (m : List (ByteArray × Int)) (l : List ByteArray) (w : World) (tw i : Value) (wr : World) : Prop :=
  ∃ k : Nat, k ≤ l.length ∧ i = .int .i64 k ∧ tw = .bool (twiceM m (l.take k)) ∧ CntOf wr r (meetM m (l.take k)) ∧ w.grownBy wr (some r) ∧ wr.cell? ⟨b, 0, none⟩ = some (.map (some r)) ∧ b < wr.heap.size
set_option maxRecDepth 10000 in
set_option maxHeartbeats 2000000 in
theorem cMeet (r : Nat) (m : List (ByteArray × Int)) (l : List ByteArray) (A : Option Addr) (c : Nat) (w : World) (hM : CntOf w r m) (hr : Rd w A (l.map Value.string)) (hl : l.length ≤ 1000000)
    (hm : ∀ s, 0 ≤ lookI m s ∧ lookI m s ≤ 1000000000) :
    Calls Tryz.prog 98 #[.agg #[.map (some r)], .slice A l.length c] w (MeetS r m l w) := by
  have hl' : (l.length : Int) ≤ 1000000 := by omega
  have hrw := lt_of_cnt hM
  have hB0 : Below w.heap.size w (w.alloc (.cells #[.map (some r)] 117)) := (by repeat (first | exact Below.refl _ _ | assumption | exact (Below.refl _ _).alloc (Nat.le_refl _) _ | refine below_tr ?_ (by assumption) | refine below_alloc ?_ | refine below_tr ?_ (below_regrown _ _ _)))
  have hg0 : w.grownBy (w.alloc (.cells #[.map (some r)] 117)) (some r) := World.grownBy_alloc w _ _
  have hb0 : (w.alloc (.cells #[.map (some r)] 117)).cell? ⟨w.heap.size, 0, none⟩ = some (.map (some r)) := by rw [World.cell?, heap_alloc_new]; rfl
  have hz0 : w.heap.size < (w.alloc (.cells #[.map (some r)] 117)).heap.size := by simp
  go_enter Tryz.func98, Tryz.ntmps98
  go_wp2
  go_loopw [4, 9] (MeetSL r w.heap.size m l w) (fun _ i _ => l.length - (intOf i).toNat)
  case atStart => exact ⟨0, by omega, rfl, rfl, hM.on hB0, hg0, hb0, hz0⟩
  case round =>
    have HM := Lib.hid hM
    clear hB0 hg0 hb0 hz0 hM
    obtain ⟨k, hk, rfl, rfl, hMk, hg, hb, hz⟩ := hrel
    by_cases hlt : k < l.length
    · obtain ⟨s, hs⟩ : ∃ x, l[k]? = some x := ⟨_, List.getElem?_eq_getElem hlt⟩
      have hA : ∀ a, A = some a → a.block ≠ r := by
        obtain ⟨g, o, rfl, c0⟩ := hr.at_ (j := k) (u := .string s) (by simp [hs])
        intro a ha e
        injection ha with ha
        subst ha
        simp only at e
        subst e
        have h1 := HM.out
        unfold CntOf at h1
        rw [World.cell?] at c0
        simp only [h1] at c0
        simp at c0
      obtain ⟨g, o, rfl, c0⟩ := (hr.grown hg (fun a ha e => hA a ha (by injection e))).at_ (j := k) (u := .string s) (by simp [hs])
      have Ht : Hid (twiceM m (l.take (k + 1)) = (twiceM m (l.take k) || decide (1 < lookI (meetM m (l.take k)) s + 1))) := by show _ = _; rw [take_snoc_of hs, twiceM_snoc]
      have Hmm : Hid (meetM m (l.take (k + 1)) = setM (meetM m (l.take k)) s (lookI (meetM m (l.take k)) s + 1)) := by show _ = _; rw [take_snoc_of hs, meetM_snoc]; rfl
      have hlo : 0 ≤ lookI (meetM m (l.take k)) s ∧ lookI (meetM m (l.take k)) s ≤ 2000000000 := by
        rw [look_meet]
        have h1 := cntS_le (l.take k) s
        have h2 := cntS_nonneg (l.take k) s
        have h3 := hm s
        rw [List.length_take] at h1
        omega
      have hl1 := run_lookup_str (P := Tryz.prog) mapT mapK (mapZ wr) hMk s
      generalize hmk : meetM m (l.take k) = mk at *
      have hrr := lt_of_cnt hMk
      have hMk2 := putM_cnt hrr (setM mk s (lookI mk s + 1))
      have hg2 := hg.trans (putM_grown wr r (setM mk s (lookI mk s + 1)))
      have hb2 : (putM wr r (setM mk s (lookI mk s + 1))).cell? ⟨w.heap.size, 0, none⟩ = some (.map (some r)) := by
        rw [(putM_grown wr r _).cell_far _ hz (fun e => by injection e with e; simp at e; omega)]; exact hb
      have hz2 : w.heap.size < (putM wr r (setM mk s (lookI mk s + 1))).heap.size := Nat.lt_of_lt_of_le hz (putM_grown wr r _).size
      have hl2 := run_lookup_str (P := Tryz.prog) mapT mapK (mapZ _) hMk2 s
      rw [look_setM, if_pos rfl] at hl2
      obtain ⟨hv0, hv1⟩ := hlo
      have Hfin := Lib.hid (And.intro hMk2 (And.intro hg2 (And.intro hb2 hz2)))
      generalize lookI mk s = v at *
      generalize twiceM m (l.take k) = tw at *
      clear hs hr hA hm hmk hMk2 hg2 hg hz2
      obtain ⟨W2, hW2⟩ : ∃ W, putM wr r (setM mk s (v + 1)) = W := ⟨_, rfl⟩
      rw [hW2] at hb2 hl2 Hfin
      have HW2 := Lib.hid hW2
      clear hW2
      cases tw
      · go_wp2_with (at_mapUpdate; refine wpList_mapUpdate_str rfl _ _ _ _ rfl mapT mapK rfl hMk s (v + 1) rfl rfl ?_; rw [HW2.out])
        go_roundw
        case rel => exact ⟨k + 1, by omega, by go_num, by rw [Ht.out]; rfl, by rw [Hmm.out]; exact Hfin.out.1, Hfin.out.2⟩
        case measure => simp [intOf]; omega
      · go_wp2_with (at_mapUpdate; refine wpList_mapUpdate_str rfl _ _ _ _ rfl mapT mapK rfl hMk s (v + 1) rfl rfl ?_; rw [HW2.out])
        go_roundw
        case rel => exact ⟨k + 1, by omega, by go_num, by rw [Ht.out]; rfl, by rw [Hmm.out]; exact Hfin.out.1, Hfin.out.2⟩
        case measure => simp [intOf]; omega
    · have Hk2 : Hid (l.take k = l) := List.take_of_length_le (by omega)
      clear hr hm
      go_wp2
      go_ret
      exact ⟨by rw [Hk2.out]; rfl, by rw [← Hk2.out]; exact hMk, hg⟩
end Go.Proofs.YtafaanegkoolgaaGreatDoor
