/- The library's slices.Index, Contains over texts. -/
import Derived.Test.YtmdjffnelkgmpaaDoorBase
import Derived.Lib.SlicesS
namespace Go.Proofs.YtmdjffnelkgmpaaDoor
open Go Go.RowKit

theorem beq_str (x y : ByteArray) : (x.toList == y.toList) = decide (y = x) := by
  by_cases h : y = x
  · subst h; simp
  · simp only [h, decide_false]; rw [Lib.bytes_beq_false_iff]; exact fun e => h e.symm
theorem idxTxt (l : List ByteArray) (x : ByteArray) (A : Option Addr) (c : Nat) (w : World) (hl : l.length ≤ 281474976710656) (hr : Rd w A (l.map Value.string)) :
    Calls Tryd.prog 72 #[.slice A l.length c, .string x] w fun e w' => e = .returned (.int .i64 (Lib.idxOfS l x)) ∧ w = w' := by
  go_enter Tryd.func72, Tryd.ntmps72
  go_wp2
  go_loop [8] (fun i => ∃ k : Nat, k ≤ l.length ∧ i = .int .i64 k ∧ Hid (Lib.idxOfS l x = Lib.idxFromS (l.drop k) x k)) (fun i => l.length - (intOf i).toNat)
  case atStart => exact ⟨0, by omega, rfl, rfl⟩
  case round =>
    obtain ⟨k, hk, rfl, H⟩ := hrel
    by_cases hlt : k < l.length
    · obtain ⟨y, hx⟩ : ∃ x, l[k]? = some x := ⟨_, List.getElem?_eq_getElem hlt⟩
      obtain ⟨g, o, rfl, hcx⟩ := hr.at_ (j := k) (u := .string y) (by simp [hx])
      have hd : l.drop k = y :: l.drop (k + 1) := by
        rw [List.drop_eq_getElem_cons hlt]
        rw [List.getElem?_eq_getElem hlt] at hx
        injection hx with hx; rw [hx]
      have H2 : Hid (Lib.idxOfS l x = if (x.toList == y.toList) then (k : Int) else Lib.idxFromS (l.drop (k+1)) x (k+1)) := by
        show Lib.idxOfS l x = _
        rw [H.out, hd, Lib.idxFromS, beq_str]; simp
      clear hx hd H hr
      cases hx0 : (x.toList == y.toList)
      · rw [hx0] at H2
        go_wp2
        go_round
        case rel => exact ⟨k+1, by omega, by go_num, H2⟩
        case measure => simp [intOf]; omega
      · rw [hx0] at H2
        go_wp2
        go_ret
        exact ⟨by rw [H2.out]; rfl, rfl⟩
    · have H2 : Hid (Lib.idxOfS l x = -1) := by
        show Lib.idxOfS l x = _
        rw [H.out, List.drop_eq_nil_of_le (by omega)]; rfl
      clear H
      go_wp2
      go_ret
      exact ⟨by rw [H2.out]; rfl, rfl⟩
end Go.Proofs.YtmdjffnelkgmpaaDoor
