/- The kit's lists of numbers: kept. -/
import Derived.Test.YtdplnlbplgmijaaDoorKitInts
namespace Go.Proofs.YtdplnlbplgmijaaDoor
open Go Go.RowKit
theorem quiet_left' {P : Program} {f : FuncId} {args : Array Value} {w : World} {n : Nat} {v : Value}
    (h : Calls P f args (w.drewN n) fun e w' => e = .returned v ∧ w.drewN n = w') : Calls P f args (w.drewN n) fun e w'' => e = .returned v ∧ ∃ m, w'' = w.drewN m :=
  h.mono fun _ _ ⟨he, hw⟩ => ⟨he, n, hw.symm⟩

theorem marks_get (k : Nat) (h : k < 12) : marks[k]? = some (8000024 + (k : Int)) := by
  rw [List.getElem?_eq_getElem (by rw [marks_len]; exact h)]
  simp [marks]

set_option maxHeartbeats 800000 in
theorem keptInts (l : List Int) (g : Nat) (A : Option Addr) (c : Nat) (w : World) (hg : LentI w g l) (hr : Rd w A (l.map (Value.int .i64))) (hl : l.length ≤ 1000000000) :
    Calls Tryd.prog 16 #[.slice (some ⟨g, 0, none⟩) l.length (l.length + 12), .slice A l.length c] w fun e w' => e = .returned (.bool true) ∧ Below w.heap.size w w' := by
  go_enter Tryd.func16, Tryd.ntmps16
  go_wp2
  go_loopw [6] (fun i wr => ∃ k : Nat, k ≤ l.length + 12 ∧ i = .int .i64 k ∧ Below w.heap.size w wr) (fun i _ => l.length + 12 - (intOf i).toNat)
  case atStart => exact ⟨0, by omega, rfl, Below.refl _ _⟩
  case round =>
    obtain ⟨k, hk, rfl, hB⟩ := hrel
    by_cases hlt : k < l.length + 12
    · have hrd := hg.rd.of_below hB
      obtain ⟨x, hx⟩ : ∃ x, (l ++ marks)[k]? = some x := ⟨_, List.getElem?_eq_getElem (by simp [marks_len]; omega)⟩
      obtain ⟨g0, o0, he, hcx⟩ := hrd.at_ (j := k) (u := .int .i64 x) (by simp only [List.getElem?_map, hx, Option.map_some])
      injection he with he; injection he with h2 h3; subst h2; subst h3
      rw [Nat.zero_add] at hcx
      by_cases hkn : k < l.length
      · have hx2 : l[k]? = some x := by rw [← hx, List.getElem?_append_left hkn]
        obtain ⟨g1, o1, rfl, hcl⟩ := (hr.of_below hB).at_ (j := k) (u := .int .i64 x) (by simp [hx2])
        have hd1 : decide ((k : Int) < (l.length : Int)) = true := by simp; omega
        have hd2 : decide (l.length ≤ k) = false := by simp; omega
        clear hx hx2 hrd hr hg
        go_wp2
        refine wp_region_quiet_lit (by kernel_rfl) (by kernel_rfl) ?_
        iterate 17 go_big_quiet_step (fail)
        iterate 5 go_big_quiet_step (fail)
        iterate 13 go_big_quiet_step (fail)

        refine wpQuiet_nil ?_
        intro _ hw'
        obtain ⟨nq, hw''⟩ := hw'
        subst hw''
        go_wp2
        go_roundw
        case rel => exact ⟨k+1, by omega, by go_num, below_drewN hB nq⟩
        case measure => simp [intOf]; omega
      · have hmk := fun W => kitMark ((k : Int) - l.length) W (by omega) (by omega)
        have hxm : (8000024 + ((k : Int) - l.length)) = x := by
          have h1 : marks[k - l.length]? = some x := by rw [← hx, List.getElem?_append_right (by omega)]
          rw [marks_get _ (by omega)] at h1
          injection h1 with h1; omega
        rw [hxm] at hmk
        have hd1 : decide ((k : Int) < (l.length : Int)) = false := by simp; omega
        have hd2 : decide (l.length ≤ k) = true := by simp; omega
        have e1 : IntKind.i64.wrap ((k : Int) - l.length) = (k : Int) - l.length := IntWalk.i64_in _ (by omega)
        clear hx hxm hrd hr hg
        go_wp2
        go_wp2
        refine wp_region_quiet_lit (by kernel_rfl) (by kernel_rfl) ?_
        iterate 35 go_big_quiet_step ((go_at_call 26; exact quiet_left' (hmk _)))
        refine wpQuiet_nil ?_
        intro _ hw'
        obtain ⟨nq, hw''⟩ := hw'
        subst hw''
        go_wp2
        go_roundw
        case rel => exact ⟨k+1, by omega, by go_num, below_drewN hB nq⟩
        case measure => simp [intOf]; omega
    · go_wp2
      go_ret
      exact ⟨rfl, hB⟩
end Go.Proofs.YtdplnlbplgmijaaDoor
