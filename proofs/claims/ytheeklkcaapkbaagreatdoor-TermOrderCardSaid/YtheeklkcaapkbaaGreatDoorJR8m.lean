/- The answer for term (ossuaryref08), in plain words: valid texts, small tags. -/
import Derived.Test.YtheeklkcaapkbaaGreatDoorJTerm1
import Derived.Lib.TrimUEq
import Derived.Lib.TrimAscii
import Derived.Lib.MapLaws
namespace Go.Proofs.YtheeklkcaapkbaaGreatDoor
open Go Go.RowKit Um Fm

theorem sgn_valid : ∀ (n : Nat) (l : List UInt8), l.length ≤ n → (sgn l).2.2 = Lib.validD l
  | 0, l, h => by
    have : l = [] := List.eq_nil_of_length_eq_zero (by omega)
    subst this; rfl
  | n + 1, l, h => by
    by_cases hne : l = []
    · subst hne; rfl
    · have hl : 0 < l.length := List.length_pos_iff.2 hne
      have hp := decodeN_pos l.length (l.getD 0 0).toNat (l.getD 1 0).toNat (l.getD 2 0).toNat (l.getD 3 0).toNat
      rw [Lib.validD_step l hne, Lib.decodeL_N]
      have hnx : nx l = if Lib.decodeN l.length (l.getD 0 0).toNat (l.getD 1 0).toNat (l.getD 2 0).toNat (l.getD 3 0).toNat = (65533, 1) then (0, 0) else Lib.decodeN l.length (l.getD 0 0).toNat (l.getD 1 0).toNat (l.getD 2 0).toNat (l.getD 3 0).toNat := by
        unfold nx; rw [if_neg (by omega)]
      generalize Lib.decodeN l.length (l.getD 0 0).toNat (l.getD 1 0).toNat (l.getD 2 0).toNat (l.getD 3 0).toNat = d at *
      obtain ⟨a, b⟩ := d
      by_cases hb : a = 65533 ∧ b = 1
      · obtain ⟨rfl, rfl⟩ := hb
        rw [if_pos rfl] at hnx
        rw [sgn_bad l (by omega) (by rw [hnx])]
        simp
      · rw [if_neg (by simpa using hb)] at hnx
        rw [sgn_cons l (by omega) (by rw [hnx]; simp only at hp ⊢; omega), hnx]
        rw [if_neg (by simpa using hb)]
        exact sgn_valid n _ (by simp only at hp ⊢; rw [List.length_drop]; omega)
/-- What Signs says of a text is whether it is valid. -/
theorem sigR_valid (s : ByteArray) : ((sigR s.data.toList).2.2 == 0) = validB s := by
  unfold sigR validB
  rw [← sgn_valid _ s.data.toList (Nat.le_refl _)]
  cases (sgn s.data.toList).2.2 <;> rfl
theorem sigR_of_valid {s : ByteArray} (h : validB s = true) : (sigR s.data.toList).2.2 = 0 := by rw [← sigR_valid] at h; exact eq_of_beq h
theorem sigR_of_not {s : ByteArray} (h : validB s = false) : (sigR s.data.toList).2.2 = 11 := by
  rw [← sigR_valid] at h
  revert h
  unfold sigR
  split <;> simp

def upB (b : UInt8) : Bool := decide (65 ≤ b.toNat) && decide (b.toNat ≤ 90)
def smallB (l : List UInt8) : Bool := l.all fun b => !upB b
theorem mapLow_cons (b : UInt8) (t : List UInt8) (h : b.toNat < 128) : Lib.mapD lowI (b :: t) = (if upB b then UInt8.ofNat (b.toNat + 32) else b) :: Lib.mapD lowI t := by
  rw [Lib.mapD_step lowI (b :: t) (by simp), Lib.decodeL_ascii b t h]
  have hlow : 0 ≤ lowI (b.toNat : Int) ∧ lowI (b.toNat : Int) ≤ 127 := by unfold lowI; split <;> omega
  have he : Lib.encodeRune (lowI (b.toNat : Int)) = [(lowI (b.toNat : Int)).toNat.toUInt8] := by unfold Lib.encodeRune; rw [Lib.encodeRuneZ_one hlow.1 hlow.2]; rfl
  simp only [List.drop_succ_cons, List.drop_zero]
  rw [if_pos hlow.1, he]
  simp only [List.cons_append, List.nil_append, List.cons.injEq, and_true]
  unfold lowI upB
  by_cases h1 : 65 ≤ b.toNat
  · by_cases h2 : b.toNat ≤ 90
    · rw [if_pos (by omega)]
      simp only [h1, h2, decide_true, Bool.and_self, if_true]
      congr 1
    · rw [if_neg (by omega)]
      simp [h2]
  · rw [if_neg (by omega)]
    simp [h1]
theorem mapLow_small : ∀ (l : List UInt8), (∀ b ∈ l, b.toNat < 128) → (decide (Lib.mapD lowI l = l)) = smallB l
  | [], _ => rfl
  | b :: t, h => by
    have hb := h b (by simp)
    have ih := mapLow_small t fun x hx => h x (by simp [hx])
    rw [mapLow_cons b t hb]
    unfold smallB at ih ⊢
    rw [List.all_cons, ← ih]
    cases hu : upB b
    · simp
    · have hne : UInt8.ofNat (b.toNat + 32) ≠ b := by
        intro e
        have h1 := congrArg UInt8.toNat e
        unfold upB at hu
        simp at hu
        rw [UInt8.toNat_ofNat'] at h1
        omega
      simp
/-- A tag is small just if none of A to Z is in it. -/
theorem tagB_small (s : ByteArray) : tagB s = (((tag s.data.toList : Int) == s.size) && smallB s.data.toList) := by
  unfold tagB
  cases h : ((tag s.data.toList : Int) == s.size)
  · rfl
  · have hp := tag_plain h
    rw [Bool.true_and, Bool.true_and, ← mapLow_small]
    · rw [ByteArray.toList_mk, ByteArray.toList_eq]
      rw [Bool.eq_iff_iff]; simp
    · intro b hb
      obtain ⟨i, hi, e⟩ := List.getElem_of_mem hb
      have := hp i (by rw [← size_toList]; exact hi)
      have e2 : s[i]'(by rw [← size_toList]; exact hi) = b := by rw [← e]; cases s; rfl
      rw [e2] at this; exact this
end Go.Proofs.YtheeklkcaapkbaaGreatDoor
