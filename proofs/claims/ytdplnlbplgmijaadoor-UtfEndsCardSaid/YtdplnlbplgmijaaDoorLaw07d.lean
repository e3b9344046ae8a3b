/- The law's walk: less. -/
import Derived.Test.YtdplnlbplgmijaaDoorLaw07b
import Derived.Test.YtdplnlbplgmijaaDoorUtfMath3
namespace Go.Proofs.YtdplnlbplgmijaaDoor
open Go Go.RowKit Um

theorem lessL_drop (a b : List Int) (k : Nat) (x y : Int) (hx : a[k]? = some x) (hy : b[k]? = some y) : lessL (a.drop k) (b.drop k) = if x = y then lessL (a.drop (k+1)) (b.drop (k+1)) else decide (x < y) := by
  obtain ⟨h1, rfl⟩ := List.getElem?_eq_some_iff.1 hx
  obtain ⟨h2, rfl⟩ := List.getElem?_eq_some_iff.1 hy
  rw [List.drop_eq_getElem_cons h1, List.drop_eq_getElem_cons h2]
  rfl
theorem lessL_end (a b : List Int) (k : Nat) (ha : k ≤ a.length) (hb : k ≤ b.length) (h : ¬ (k < a.length ∧ k < b.length)) : lessL (a.drop k) (b.drop k) = decide (a.length < b.length) := by
  rcases Nat.lt_or_ge k b.length with h1 | h1
  · have hk : k = a.length := by omega
    rw [List.drop_eq_nil_of_le (by omega), List.drop_eq_getElem_cons h1]
    simp [lessL]; omega
  · rw [List.drop_eq_nil_of_le h1, lessL_nil]
    symm
    rw [decide_eq_false_iff_not]
    omega

set_option maxHeartbeats 2000000 in
theorem lawless (a b : List Int) (A B : Option Addr) (c d : Nat) (w : World) (hl : a.length ≤ 1000000) (hl2 : b.length ≤ 1000000) (ha : Rd w A (a.map (Value.int .i64))) (hb : Rd w B (b.map (Value.int .i64))) :
    Calls Tryd.prog 25 #[.slice A a.length c, .slice B b.length d] w fun e w' => e = .returned (.bool (lessL a b)) ∧ Below w.heap.size w w' := by
  obtain ⟨r, hr0⟩ : ∃ r, lessL a b = r := ⟨_, rfl⟩
  rw [hr0]
  have H0 : Hid (r = lessL (a.drop 0) (b.drop 0)) := Lib.hid hr0.symm
  clear hr0
  go_enter Tryd.func25, Tryd.ntmps25
  go_wp2
  go_loopw [5] (fun i wr => ∃ k : Nat, k ≤ a.length ∧ k ≤ b.length ∧ i = .int .i64 k ∧ Below w.heap.size w wr ∧ Hid (r = lessL (a.drop k) (b.drop k))) (fun i _ => a.length - (intOf i).toNat)
  case atStart => exact ⟨0, by omega, by omega, rfl, Below.refl _ _, H0⟩
  case round =>
    clear H0
    obtain ⟨k, hk, hk2, rfl, hB, H⟩ := hrel
    by_cases hlt : k < a.length
    · by_cases hlt2 : k < b.length
      · obtain ⟨x, hx⟩ : ∃ x, a[k]? = some x := ⟨_, List.getElem?_eq_getElem hlt⟩
        obtain ⟨y, hy⟩ : ∃ x, b[k]? = some x := ⟨_, List.getElem?_eq_getElem hlt2⟩
        obtain ⟨g, o, rfl, hcx⟩ := (ha.below hB (Nat.le_refl _)).at_ (j := k) (u := .int .i64 x) (by simp [hx])
        obtain ⟨g', o', rfl, hcy⟩ := (hb.below hB (Nat.le_refl _)).at_ (j := k) (u := .int .i64 y) (by simp [hy])
        have hs := lessL_drop a b k x y hx hy
        have Hs := Lib.hid hs
        clear hx hy hs ha hb
        have d1 : decide (k < a.length) = true := by simp [hlt]
        have d2 : decide (k < b.length) = true := by simp [hlt2]
        by_cases hxy : x = y
        · have hq : (x != y) = false := by simp [hxy]
          have Hxy := Lib.hid hxy
          clear hxy
          go_wp2
          go_quiet (fail)
          go_wp2
          go_roundw
          case rel => exact ⟨k+1, by omega, by omega, by go_num, below_drewN hB nq, by
            have h1 := H.out; rw [Hs.out, if_pos Hxy.out] at h1; exact h1⟩
          case measure => simp [intOf]; omega
        · have hq : (x != y) = true := by simp [hxy]
          have he : r = decide (x < y) := by rw [H.out, Hs.out, if_neg hxy]
          have He := Lib.hid he
          clear hxy he H
          go_wp2
          go_quiet (fail)
          go_wp2
          obtain ⟨t, ht⟩ : ∃ t, decide (x < y) = t := ⟨_, rfl⟩
          go_quiet (fail)
          go_wp2
          go_ret
          exact ⟨by rw [He.out]; simp [ht], below_drewN (below_drewN hB _) _⟩
      · have he : r = decide (a.length < b.length) := by rw [H.out, lessL_end a b k hk hk2 (by omega)]
        have He := Lib.hid he
        clear he H
        have d1 : decide (k < a.length) = true := by simp [hlt]
        have d2 : decide (k < b.length) = false := by simp; omega
        go_wp2
        go_ret
        exact ⟨by rw [He.out]; simp, hB⟩
    · have he : r = decide (a.length < b.length) := by rw [H.out, lessL_end a b k hk hk2 (by omega)]
      have He := Lib.hid he
      clear he H
      have d1 : decide (k < a.length) = false := by simp; omega
      go_wp2
      go_ret
      exact ⟨by rw [He.out]; simp, hB⟩
end Go.Proofs.YtdplnlbplgmijaaDoor
