/- The kit's SameTexts; a law's has. -/
import Derived.Test.YtafaanegkoolgaaGreatDoorJMet
namespace Go.Proofs.YtafaanegkoolgaaGreatDoor
open Go Go.RowKit Mt

theorem below_drewN' {B : Nat} {a w : World} (h : Below B a w) (n : Nat) : Below B a (w.drewN n) := ⟨h.os, h.tape, h.output, h.size, h.block⟩
def sameTs (a b : List ByteArray) : Bool := decide (a = b)
def sameTo (a b : List ByteArray) (k : Nat) : Prop := ∀ j, j < k → a[j]? = b[j]?
set_option maxHeartbeats 1000000 in
theorem sameTexts (a b : List ByteArray) (A B : Option Addr) (c d : Nat) (w : World) (ha : Rd w A (a.map Value.string)) (hb : Rd w B (b.map Value.string)) (hl : a.length ≤ 281474976710656) (hl2 : b.length ≤ 281474976710656) :
    Calls Tryz.prog 31 #[.slice A a.length c, .slice B b.length d] w fun e w' => e = .returned (.bool (sameTs a b)) ∧ Below w.heap.size w w' := by
  by_cases hlen : a.length = b.length
  case neg =>
    have hne : sameTs a b = false := by unfold sameTs; simp; intro h; exact hlen (by rw [h])
    have h1 : ((a.length : Int) != (b.length : Int)) = true := by rw [bne_iff_ne]; omega
    rw [hne]
    clear hne hlen
    go_enter Tryz.func31, Tryz.ntmps31
    go_wp2
    go_ret
    exact ⟨rfl, Below.refl _ _⟩
  have h1 : ((a.length : Int) != (b.length : Int)) = false := by simp; omega
  have hab : a.length ≤ b.length := by omega
  have Hlen := Lib.hid hlen
  clear hlen
  go_enter Tryz.func31, Tryz.ntmps31
  go_wp2
  go_loopw [5] (fun i wr => ∃ k : Nat, k ≤ a.length ∧ i = .int .i64 k ∧ Below w.heap.size w wr ∧ Hid (sameTo a b k)) (fun i _ => a.length - (intOf i).toNat)
  case atStart => exact ⟨0, by omega, rfl, Below.refl _ _, fun j h => by omega⟩
  case round =>
    obtain ⟨k, hk, rfl, hB, H⟩ := hrel
    by_cases hlt : k < a.length
    · obtain ⟨x, hx⟩ : ∃ x, a[k]? = some x := ⟨_, List.getElem?_eq_getElem hlt⟩
      obtain ⟨y, hy⟩ : ∃ x, b[k]? = some x := ⟨_, List.getElem?_eq_getElem (by omega)⟩
      obtain ⟨g, o, rfl, hcx⟩ := (ha.below hB (Nat.le_refl _)).at_ (j := k) (u := .string x) (by simp [hx])
      obtain ⟨g', o', rfl, hcy⟩ := (hb.below hB (Nat.le_refl _)).at_ (j := k) (u := .string y) (by simp [hy])
      have Hx := Lib.hid hx
      have Hy := Lib.hid hy
      have hlt2 : k < b.length := by omega
      clear hx hy ha hb
      cases hq : (x.toList == y.toList)
      · have hne : sameTs a b = false := by
          unfold sameTs; simp; intro h; subst h
          have := Hx.out.symm.trans Hy.out
          injection this with this
          subst this
          simp at hq
        have hq2 : (x.toList != y.toList) = true := by rw [bne, hq]; rfl
        have Hne := Lib.hid hne
        clear hne
        go_wp2
        go_quiet (fail)
        go_wp2
        go_ret
        exact ⟨by rw [Hne.out]; rfl, below_drewN' hB nq⟩
      · have hxy : Hid (x = y) := (Lib.bytes_beq_iff x y).1 hq
        have hq2 : (x.toList != y.toList) = false := by rw [bne, hq]; rfl
        go_wp2
        go_quiet (fail)
        go_wp2
        go_roundw
        case rel => exact ⟨k+1, by omega, by go_num, below_drewN' hB nq, fun j hj => by
          rcases Nat.lt_or_ge j k with h | h
          · exact H.out j h
          · have : j = k := by omega
            subst this; rw [Hx.out, Hy.out, hxy.out]⟩
        case measure => simp [intOf]; omega
    · have he : sameTs a b = true := by
        unfold sameTs; simp
        refine List.ext_getElem? fun j => ?_
        rcases Nat.lt_or_ge j k with h | h
        · exact H.out j h
        · rw [List.getElem?_eq_none (by omega), List.getElem?_eq_none (by have := Hlen.out; omega)]
      have He := Lib.hid he
      clear he ha hb
      go_wp2
      go_ret
      exact ⟨by rw [He.out]; rfl, hB⟩
end Go.Proofs.YtafaanegkoolgaaGreatDoor
