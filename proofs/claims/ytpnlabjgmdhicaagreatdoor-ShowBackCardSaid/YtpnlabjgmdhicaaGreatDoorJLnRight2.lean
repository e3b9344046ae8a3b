/- Terms that have a text. Shown terms are read as themselves, plainly: alone, and in a line. Lines one by one, plainly: what Parse tells of them, of texts behind one another, of lines joined anew. What Parse tells of a text's lines is right: plainly. -/
import Derived.Test.YtpnlabjgmdhicaaGreatDoorJTx6
import Derived.Test.YtpnlabjgmdhicaaGreatDoorJLn18
namespace Go.Proofs.YtpnlabjgmdhicaaGreatDoor
open Go Go.RowKit Um Fm Tx
end Go.Proofs.YtpnlabjgmdhicaaGreatDoor
namespace Go.Proofs.YtpnlabjgmdhicaaGreatDoor
open Go Go.RowKit Um Fm Lx Tx

theorem vld_asc (l : List UInt8) (h : l.all (fun c => decide (c.toNat < 128)) = true) : vld l := vld_ascii' l h
theorem vld_iri {x : ByteArray} (h : validB x = true) : vld (60 :: (iriL x.data.toList ++ [62])) := by
  have h1 := (tkL_spec (tk_iri h [])).2.2.1
  rwa [List.take_of_length_le (by simp)] at h1
theorem vld_lit {x : ByteArray} (h : validB x = true) : vld (34 :: (litL x.data.toList ++ [34])) := by
  have h1 := (tkL_spec (tk_lit h [])).2.2.1
  rwa [List.take_of_length_le (by simp)] at h1
/-- A right term's text is one. -/
theorem vld_text {t : Tm} (h : rightB t = true) : vld (textL t) := by
  obtain ⟨k, x, l, y⟩ := t
  rcases right_cases h with ⟨rfl, rfl, rfl, hx⟩ | ⟨rfl, rfl, rfl, hx⟩ | ⟨rfl, rfl, hx, hl⟩ | ⟨rfl, rfl, -, hx, hy⟩
  · exact vld_iri hx
  · have e : textL ⟨2, x, ⟨#[]⟩, ⟨#[]⟩⟩ = [95, 58] ++ x.data.toList := rfl
    rw [e]
    refine vld_app (vld_asc _ rfl) ?_
    unfold labelB at hx
    rw [Bool.and_eq_true] at hx
    have h1 := hx.2
    rw [beq_iff_eq, ← size_toList] at h1
    have h2 : label x.data.toList = x.data.toList.length := Int.ofNat.inj h1
    have h3 := (label_vld x.data.toList).1
    rwa [h2, List.take_length] at h3
  · by_cases h0 : l.data.toList = []
    · have e : textL ⟨3, x, l, ⟨#[]⟩⟩ = 34 :: (litL x.data.toList ++ [34]) := by unfold textL; rw [if_neg (by simp), if_neg (by simp), if_neg (by simp), if_pos h0]
      rw [e]
      exact vld_lit hx
    · have e : textL ⟨3, x, l, ⟨#[]⟩⟩ = (34 :: (litL x.data.toList ++ [34])) ++ ([64] ++ l.data.toList) := by unfold textL; rw [if_neg (by simp), if_neg (by simp), if_neg (by simp), if_neg h0]; simp
      rw [e]
      refine vld_app (vld_lit hx) (vld_app (vld_asc _ rfl) ?_)
      have h1 := (tagB_iff.1 hl).1
      have h3 := (tag_vld l.data.toList).1
      rwa [h1, List.take_length] at h3
  · have e : textL ⟨4, x, ⟨#[]⟩, y⟩ = (34 :: (litL x.data.toList ++ [34])) ++ ([94, 94] ++ (60 :: (iriL y.data.toList ++ [62]))) := by
      have e0 : textL ⟨4, x, ⟨#[]⟩, y⟩ = 34 :: (litL x.data.toList ++ 34 :: 94 :: 94 :: 60 :: (iriL y.data.toList ++ [62])) := rfl
      rw [e0]; simp
    rw [e]
    exact vld_app (vld_lit hx) (vld_app (vld_asc _ rfl) (vld_iri hy))
/-- No end stands in a shown term. -/
theorem enc_no {n : Int} (h : isB n = true) (h1 : n ≠ 10) (h2 : n ≠ 13) : ∀ b ∈ Lib.encodeRune n, b ≠ 10 ∧ b ≠ 13 := by
  obtain ⟨h0, _, hn⟩ := isB_nat h
  intro b hb
  by_cases hl : n < 128
  · rw [enc_low h0 hl, List.mem_singleton] at hb
    subst hb
    have ne : ∀ k : UInt8, (k.toNat : Int) ≠ n → UInt8.ofNat n.toNat ≠ k := fun k hk e => hk (by rw [← e, ofNat_low (by omega), hn])
    exact ⟨ne 10 (by show ((10 : Nat) : Int) ≠ n; omega), ne 13 (by show ((13 : Nat) : Int) ≠ n; omega)⟩
  · have := enc_high (show 128 ≤ n by omega) b hb
    refine ⟨?_, ?_⟩ <;> (rintro rfl; revert this; decide)
theorem hxD_no : ∀ d : Fin 16, hxD d.val ≠ 10 ∧ hxD d.val ≠ 13 := by decide
theorem iriC_no (c : UInt8) : ∀ b ∈ iriC c, b ≠ 10 ∧ b ≠ 13 := by
  intro b hb
  unfold iriC at hb
  have hc := c.toNat_lt
  split at hb
  · have d1 := hxD_no ⟨c.toNat / 16, by omega⟩
    have d2 := hxD_no ⟨c.toNat % 16, by omega⟩
    simp only [List.mem_cons, List.not_mem_nil, or_false] at hb
    rcases hb with rfl | rfl | rfl | rfl | rfl | rfl
    · decide
    · decide
    · decide
    · decide
    · exact d1
    · exact d2
  · rename_i h
    rw [List.mem_singleton] at hb
    subst hb
    refine ⟨?_, ?_⟩ <;> (rintro rfl; exact h (by decide))
theorem iriL_no (l : List UInt8) : ∀ b ∈ iriL l, b ≠ 10 ∧ b ≠ 13 := by
  intro b hb
  unfold iriL at hb
  obtain ⟨c, _, h⟩ := List.mem_flatMap.1 hb
  exact iriC_no c b h
theorem litC_no (c : UInt8) : ∀ b ∈ litC c, b ≠ 10 ∧ b ≠ 13 := by
  intro b hb
  unfold litC at hb
  split at hb
  · simp only [List.mem_cons, List.not_mem_nil, or_false] at hb
    rcases hb with rfl | rfl <;> decide
  split at hb
  · simp only [List.mem_cons, List.not_mem_nil, or_false] at hb
    rcases hb with rfl | rfl <;> decide
  split at hb
  · simp only [List.mem_cons, List.not_mem_nil, or_false] at hb
    rcases hb with rfl | rfl <;> decide
  split at hb
  · simp only [List.mem_cons, List.not_mem_nil, or_false] at hb
    rcases hb with rfl | rfl <;> decide
  · rename_i h3 h4
    rw [List.mem_singleton] at hb
    subst hb
    exact ⟨h3, h4⟩
theorem litL_no (l : List UInt8) : ∀ b ∈ litL l, b ≠ 10 ∧ b ≠ 13 := by
  intro b hb
  unfold litL at hb
  obtain ⟨c, _, h⟩ := List.mem_flatMap.1 hb
  exact litC_no c b h
theorem reach_no {l : List UInt8} {st : Bool} {k b : Nat} (h : Um.Reach l st k b) : ∀ c ∈ l.take k, c ≠ 10 ∧ c ≠ 13 := by
  induction h with
  | start => intro c hc; simp at hc
  | @step st k b _ hk h0 hm ih =>
    intro c hc
    rw [List.take_add, List.mem_append] at hc
    rcases hc with hc | hc
    · exact ih c hc
    · obtain ⟨e1, -, e3, -, -⟩ := nx_enc (l.drop k) h0
      rw [e3] at hc
      refine enc_no e1 ?_ ?_ c hc
      · intro e
        rw [show (nx (l.drop k)).1 = 10 by omega] at hm
        revert hm
        cases st <;> decide
      · intro e
        rw [show (nx (l.drop k)).1 = 13 by omega] at hm
        revert hm
        cases st <;> decide
theorem label_no {x : ByteArray} (h : labelB x = true) : ∀ c ∈ x.data.toList, c ≠ 10 ∧ c ≠ 13 := by
  unfold labelB at h
  rw [Bool.and_eq_true] at h
  have h1 := h.2
  rw [beq_iff_eq, ← size_toList] at h1
  have h2 : label x.data.toList = x.data.toList.length := Int.ofNat.inj h1
  obtain ⟨st, hr⟩ := label_reach x.data.toList
  have := reach_no hr
  rwa [h2, List.take_length] at this
theorem tag_no {l : ByteArray} (h : tagB l = true) : ∀ c ∈ l.data.toList, c ≠ 10 ∧ c ≠ 13 := by
  intro c hc
  obtain ⟨i, hi, rfl⟩ := List.mem_iff_getElem.1 hc
  have h1 := (tag_reach l.data.toList).bytes i (by rw [(tagB_iff.1 h).1]; exact hi)
  rw [List.getD_eq_getElem?_getD, List.getElem?_eq_getElem hi, Option.getD_some] at h1
  refine ⟨?_, ?_⟩ <;> (intro e; rw [e] at h1; revert h1; decide)
theorem text_no {t : Tm} (h : rightB t = true) : ∀ b ∈ textL t, b ≠ 10 ∧ b ≠ 13 := by
  obtain ⟨k, x, l, y⟩ := t
  rcases right_cases h with ⟨rfl, rfl, rfl, hx⟩ | ⟨rfl, rfl, rfl, hx⟩ | ⟨rfl, rfl, hx, hl⟩ | ⟨rfl, rfl, -, hx, hy⟩
  · have e : textL ⟨1, x, ⟨#[]⟩, ⟨#[]⟩⟩ = 60 :: (iriL x.data.toList ++ [62]) := rfl
    rw [e]
    intro b hb
    simp only [List.mem_cons, List.mem_append, List.not_mem_nil, or_false] at hb
    rcases hb with rfl | hb | rfl
    · decide
    · exact iriL_no _ b hb
    · decide
  · have e : textL ⟨2, x, ⟨#[]⟩, ⟨#[]⟩⟩ = 95 :: 58 :: x.data.toList := rfl
    rw [e]
    intro b hb
    simp only [List.mem_cons] at hb
    rcases hb with rfl | rfl | hb
    · decide
    · decide
    · exact label_no hx b hb
  · by_cases h0 : l.data.toList = []
    · have e : textL ⟨3, x, l, ⟨#[]⟩⟩ = 34 :: (litL x.data.toList ++ [34]) := by unfold textL; rw [if_neg (by simp), if_neg (by simp), if_neg (by simp), if_pos h0]
      rw [e]
      intro b hb
      simp only [List.mem_cons, List.mem_append, List.not_mem_nil, or_false] at hb
      rcases hb with rfl | hb | rfl
      · decide
      · exact litL_no _ b hb
      · decide
    · have e : textL ⟨3, x, l, ⟨#[]⟩⟩ = 34 :: (litL x.data.toList ++ 34 :: 64 :: l.data.toList) := by unfold textL; rw [if_neg (by simp), if_neg (by simp), if_neg (by simp), if_neg h0]
      rw [e]
      intro b hb
      simp only [List.mem_cons, List.mem_append] at hb
      rcases hb with rfl | hb | rfl | rfl | hb
      · decide
      · exact litL_no _ b hb
      · decide
      · decide
      · exact tag_no hl b hb
  · have e : textL ⟨4, x, ⟨#[]⟩, y⟩ = 34 :: (litL x.data.toList ++ 34 :: 94 :: 94 :: 60 :: (iriL y.data.toList ++ [62])) := rfl
    rw [e]
    intro b hb
    simp only [List.mem_cons, List.mem_append, List.not_mem_nil, or_false] at hb
    rcases hb with rfl | hb | rfl | rfl | rfl | rfl | hb | rfl
    · decide
    · exact litL_no _ b hb
    · decide
    · decide
    · decide
    · decide
    · exact iriL_no _ b hb
    · decide
end Go.Proofs.YtpnlabjgmdhicaaGreatDoor
namespace Go.Proofs.YtpnlabjgmdhicaaGreatDoor
open Go Go.RowKit Um Fm Lx Tx

/-- The triples of some lines. -/
def okR (rows : List (List UInt8)) : List Tp := rows.flatMap fun r => if (rowT r).2.1 = true then [(rowT r).1] else []
/-- A line that may stand. -/
def fine (r : List UInt8) : Prop := (rowT r).2.2.2 = 0 ∧ ((rowT r).2.1 = true → longP (rowT r).1 = false)
theorem goP_cons (r : List UInt8) (rs : List (List UInt8)) (k : Nat) (acc : List Tp) (over : Nat) : goP (r :: rs) k acc over = if (rowT r).2.2.2 ≠ 0 then ([], k + 1, (rowT r).2.2.1, (rowT r).2.2.2)
    else goP rs (k + 1) (if (rowT r).2.1 = true then acc ++ [(rowT r).1] else acc) (if over = 0 ∧ (rowT r).2.1 = true ∧ longP (rowT r).1 = true then k + 1 else over) := by rw [goP]
theorem goP_nil (k : Nat) (acc : List Tp) (over : Nat) : goP [] k acc over = if over = 0 then (acc, 0, 0, 0) else ([], over, 0, 3) := by rw [goP]
theorem goP_fine : ∀ (rows : List (List UInt8)) (k : Nat) (acc : List Tp) (rest : List (List UInt8)), (∀ r ∈ rows, fine r) → goP (rows ++ rest) k acc 0 = goP rest (k + rows.length) (acc ++ okR rows) 0
  | [], k, acc, rest, _ => by simp [okR]
  | r :: rows, k, acc, rest, h => by
    obtain ⟨h1, h2⟩ := h r (by simp)
    have ih := goP_fine rows (k + 1) (if (rowT r).2.1 = true then acc ++ [(rowT r).1] else acc) rest (fun x hx => h x (by simp [hx]))
    rw [List.cons_append, goP_cons, if_neg (show ¬ (rowT r).2.2.2 ≠ 0 by rw [h1]; simp), if_neg (show ¬ ((0 : Nat) = 0 ∧ (rowT r).2.1 = true ∧ longP (rowT r).1 = true) by rintro ⟨_, h3, h4⟩; rw [h2 h3] at h4; cases h4), ih, List.length_cons, show k + 1 + rows.length = k + (rows.length + 1) by omega]
    congr 1
    unfold okR
    rw [List.flatMap_cons]
    split
    · rw [List.append_assoc]
    · rfl
end Go.Proofs.YtpnlabjgmdhicaaGreatDoor
namespace Go.Proofs.YtpnlabjgmdhicaaGreatDoor
open Go Go.RowKit Um Fm Lx Tx

end Go.Proofs.YtpnlabjgmdhicaaGreatDoor
