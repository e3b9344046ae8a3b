/- A text written as an IRI, sign by sign. -/
import Derived.Test.YtheeklkcaapkbaaGreatDoorJTxMath
import Derived.Lib.MapLaws
namespace Go.Proofs.YtheeklkcaapkbaaGreatDoor.Tx
open Go Go.RowKit Um Fm Lx

theorem esc_high {c : UInt8} (h : 128 ≤ c.toNat) : escC c = false := by
  unfold escC
  rw [decide_eq_false (by omega)]; rfl
theorem iriL_app (a b : List UInt8) : iriL (a ++ b) = iriL a ++ iriL b := List.flatMap_append
theorem iriL_high : ∀ l : List UInt8, (∀ b ∈ l, 128 ≤ b.toNat) → iriL l = l
  | [], _ => rfl
  | c :: t, h => by
    have e : iriL (c :: t) = iriC c ++ iriL t := by unfold iriL; rw [List.flatMap_cons]
    have e2 : iriC c = [c] := by unfold iriC; rw [esc_high (h c (by simp))]; rfl
    rw [e, e2, iriL_high t (fun b hb => h b (by simp [hb]))]; rfl
theorem enc_high {r : Int} (h : 128 ≤ r) : ∀ b ∈ Lib.encodeRune r, 128 ≤ b.toNat := by
  intro b hb
  unfold Lib.encodeRune at hb
  obtain ⟨x, hx, rfl⟩ := List.mem_map.1 hb
  have h1 := Lib.encodeRuneZ_byte r x hx
  have h2 : 128 ≤ x := by
    unfold Lib.encodeRuneZ at hx
    repeat' split at hx
    all_goals simp at hx; omega
  have h3 : x.toNat.toUInt8.toNat = x.toNat := by
    show (UInt8.ofNat x.toNat).toNat = _
    rw [UInt8.toNat_ofNat']; omega
  omega
/-- What stands next in a text, as it is written in an IRI. -/
def iriR (r : Nat) : List UInt8 := if rawB (r : Int) then Lib.encodeRune (r : Int) else [92, 117, 48, 48, hxD (r / 16), hxD (r % 16)]
theorem iri_step {l : List UInt8} (hne : l ≠ []) (hv : Lib.validD l = true) :
    iriL l = iriR (Lib.decodeL l).1 ++ iriL (l.drop (Lib.decodeL l).2) ∧ (rawB ((Lib.decodeL l).1 : Int) = false → (Lib.decodeL l).1 < 128) ∧ Lib.validD (l.drop (Lib.decodeL l).2) = true ∧ 1 ≤ (Lib.decodeL l).2 ∧ (Lib.decodeL l).2 ≤ l.length ∧ (iriR (Lib.decodeL l).1).length ≤ 6 * (Lib.decodeL l).2 := by
  rw [Lib.validD_step l hne] at hv
  have hl : 0 < l.length := List.length_pos_iff.2 hne
  split at hv
  · cases hv
  rename_i hb
  have hw := Lib.decodeL_width l
  have hle := Lib.decodeL_le l hne
  have hnx : nx l = Lib.decodeL l := by
    rw [Lib.decodeL_N] at hb ⊢
    unfold nx
    rw [if_neg (by omega), if_neg (fun e => hb (by rw [e]; exact ⟨rfl, rfl⟩))]
  obtain ⟨hB, -, henc, -, -⟩ := nx_enc l (by rw [hnx]; omega)
  rw [hnx] at hB henc
  generalize hd : Lib.decodeL l = d at *
  obtain ⟨r, n⟩ := d
  simp only at *
  have hsplit : l = l.take n ++ l.drop n := (List.take_append_drop n l).symm
  have hlen4 : (Lib.encodeRune (r : Int)).length ≤ 4 := by unfold Lib.encodeRune; rw [List.length_map]; exact (Lib.encodeRuneZ_length _).2
  have hel : (Lib.encodeRune (r : Int)).length = n := by rw [← henc, List.length_take]; omega
  rcases Nat.lt_or_ge r 128 with hr | hr
  · have e1 : Lib.encodeRune (r : Int) = [UInt8.ofNat r] := by
      unfold Lib.encodeRune
      rw [Lib.encodeRuneZ_one (by omega) (by omega)]
      simp
    have hn1 : n = 1 := by rw [e1] at hel; simpa using hel.symm
    have hc : (UInt8.ofNat r).toNat = r := by rw [UInt8.toNat_ofNat']; omega
    refine ⟨?_, fun _ => hr, hv, hw, hle, ?_⟩
    · conv => lhs; rw [hsplit, henc, e1]
      rw [iriL_app]
      congr 1
      unfold iriR iriL
      rw [List.flatMap_cons, List.flatMap_nil, List.append_nil]
      unfold iriC escC
      rw [hc, decide_eq_true hr, Bool.true_and]
      cases rawB (r : Int)
      · rfl
      · rw [if_neg (by simp), if_pos rfl, e1]
    · unfold iriR; split
      · omega
      · simp; omega
  · have hraw : rawB (r : Int) = true := by
      unfold rawB
      rw [hB, decide_eq_true (by omega : (32 : Int) < r)]
      have : badL.contains (r : Int) = false := by
        unfold badL
        simp; omega
      rw [this]; rfl
    refine ⟨?_, fun h => (by rw [hraw] at h; cases h), hv, hw, hle, ?_⟩
    · conv => lhs; rw [hsplit, henc]
      rw [iriL_app]
      congr 1
      unfold iriR
      rw [hraw, if_pos rfl]
      exact iriL_high _ (enc_high (by omega))
    · unfold iriR; rw [hraw, if_pos rfl]; omega
theorem iriL_nil : iriL [] = [] := rfl
theorem iriL_len : ∀ l : List UInt8, (iriL l).length ≤ 6 * l.length
  | [] => by simp [iriL]
  | c :: t => by
    have e : iriL (c :: t) = iriC c ++ iriL t := by unfold iriL; rw [List.flatMap_cons]
    have h1 : (iriC c).length ≤ 6 := by unfold iriC; split <;> simp
    have := iriL_len t
    rw [e, List.length_append, List.length_cons]; omega
theorem litL_len : ∀ l : List UInt8, (litL l).length ≤ 2 * l.length
  | [] => by simp [litL]
  | c :: t => by
    have e : litL (c :: t) = litC c ++ litL t := by unfold litL; rw [List.flatMap_cons]
    have h1 : (litC c).length ≤ 2 := by unfold litC; repeat' split
                                        all_goals simp
    have := litL_len t
    rw [e, List.length_append, List.length_cons]; omega
end Go.Proofs.YtheeklkcaapkbaaGreatDoor.Tx
