/- Words on signs' bytes that the walks of the program and of the document share. -/
import Derived.Test.YtheeklkcaapkbaaGreatDoorJBase
import Derived.Test.YtheeklkcaapkbaaGreatDoorJUtfMath
import Derived.Test.YtheeklkcaapkbaaGreatDoorJRegion
namespace Go.Proofs.YtheeklkcaapkbaaGreatDoor
open Go Go.RowKit Um

def badS : ByteArray := ⟨#[60, 62, 34, 123, 125, 124, 94, 96, 92]⟩
/-- The bytes that stand from a place on. -/
abbrev from_ (s : ByteArray) (k : Nat) : List UInt8 := s.data.toList.drop k

theorem from_length (s : ByteArray) (k : Nat) : (from_ s k).length = s.size - k := by simp [from_]

theorem own_form {w : World} {base : Nat} {e : TypeId} {size n : Nat} {v : Value} {xs : List Value} (h : w.ownsRow base e size v n xs) : ∃ A c, v = .slice A n c := by
  rcases h.2 with ⟨hv, hn⟩ | ⟨g', cap, cur, hv, _⟩
  · subst hn; exact ⟨none, 0, hv⟩
  · exact ⟨_, cap, hv⟩

theorem nx_step (s : ByteArray) (k : Nat) (h : (nx (from_ s k)).2 ≠ 0) : k + (nx (from_ s k)).2 ≤ s.size ∧ (nx (from_ s k)).2 ≤ 4 ∧ (nx (from_ s k)).1 ≤ 1114111 := by
  have h1 := nx_enc (from_ s k) h
  rw [from_length] at h1
  have h2 := h1.1
  rw [isB_iff] at h2
  omega

theorem bn_getD (s : ByteArray) (k : Nat) : (s.data.toList.getD k 0).toNat = bn s k := rfl
end Go.Proofs.YtheeklkcaapkbaaGreatDoor
