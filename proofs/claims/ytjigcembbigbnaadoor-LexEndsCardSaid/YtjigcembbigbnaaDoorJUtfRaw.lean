/- The answer for utf (ossuaryref07): Raw. -/
import Derived.Test.YtjigcembbigbnaaDoorJUtfRef
namespace Go.Proofs.YtjigcembbigbnaaDoor
open Go Go.RowKit Um

theorem badS_bn : ∀ k, k < 9 → ((bn badS k : Nat) : Int) = badL.getD k 0 := by decide

theorem badL_raw : ∀ k, k < 9 → rawB (badL.getD k 0) = false := by decide

theorem refRaw (n : Int) (w : World) :
    Calls Tryd.prog 51 #[.int .i64 n] w fun e w' => e = .returned (.bool (rawB n)) ∧ w = w' := by
  have his := fun W => refIs n W
  go_enter Tryd.func51, Tryd.ntmps51
  go_wp2
  obtain ⟨S, hS⟩ : ∃ S, S = badS := ⟨_, rfl⟩
  have HS := Lib.hid hS
  change Code.wp _ _ _ ⟨#[_, _, _, .string badS, _, _, _, _, _, _, _, _, _, _, _, _, _, _, _, _, _, _, _], _⟩ _
  rw [← hS]
  clear hS
  have hsz : S.size = 9 := by rw [HS.out]; rfl
  have hs1 : S.size ≤ 9 := by omega
  have hs2 : 9 ≤ S.size := by omega
  clear hsz
  go_loop [4] (fun i => ∃ k : Nat, k ≤ 9 ∧ i = .int .i64 k ∧ Hid (∀ j, j < k → n ≠ bn S j)) (fun i => 9 - (intOf i).toNat)
  case atStart => exact ⟨0, by omega, rfl, fun j h => by omega⟩
  case round =>
    obtain ⟨k, hk, rfl, H⟩ := hrel
    by_cases hlt : k < 9
    · by_cases he : n = bn S k
      · have hb : rawB n = false := by
          have e2 := he
          rw [HS.out, badS_bn k hlt] at e2
          rw [e2]; exact badL_raw k hlt
        have Hb := Lib.hid hb
        have he1 : (n == (bn S k : Int)) = true := by simpa using he
        clear hb he
        go_wp2
        go_ret
        exact ⟨by rw [Hb.out]; rfl, rfl⟩
      · have he2 : (n == (bn S k : Int)) = false := by simpa using he
        go_wp2
        go_round
        case rel =>
          exact ⟨k+1, by omega, by go_num, fun j hj => by
            rcases Nat.lt_or_ge j k with h | h
            · exact H.out j h
            · have : j = k := by omega
              subst this; exact he⟩
        case measure => simp [intOf]; omega
    · have hk9 : 9 ≤ k := by omega
      have hn : badL.contains n = false := by
        have h9 : ∀ j, j < 9 → n ≠ badL.getD j 0 := fun j hj => by
          have := H.out j (by omega)
          rwa [HS.out, badS_bn j hj] at this
        have h0 := h9 0 (by omega); have h1 := h9 1 (by omega); have h2 := h9 2 (by omega)
        have h3 := h9 3 (by omega); have h4 := h9 4 (by omega); have h5 := h9 5 (by omega)
        have h6 := h9 6 (by omega); have h7 := h9 7 (by omega); have h8 := h9 8 (by omega)
        simp only [badL, List.getD_cons_zero, List.getD_cons_succ] at h0 h1 h2 h3 h4 h5 h6 h7 h8
        simp [badL, h0, h1, h2, h3, h4, h5, h6, h7, h8]
      have hr : rawB n = (isB n && decide (32 < n)) := by unfold rawB; rw [hn]; simp
      have Hr := Lib.hid hr
      clear hr hn H
      generalize isB n = b at his Hr
      cases b
      · go_wp2_with (go_at_call 48; refine (his _).mono ?_; rintro e w1 ⟨rfl, rfl⟩)
        go_ret
        exact ⟨by rw [Hr.out]; rfl, rfl⟩
      · go_wp2_with (go_at_call 48; refine (his _).mono ?_; rintro e w1 ⟨rfl, rfl⟩)
        go_ret
        exact ⟨by rw [Hr.out]; simp, rfl⟩
end Go.Proofs.YtjigcembbigbnaaDoor
