/- Labels and tags, in plain Lean: what a text's longest label, tag are of what it begins with, of longer texts. -/
import Derived.Test.YtffpgandgajihaaGreatDoorJUtfMath
namespace Go.Proofs.YtffpgandgajihaaGreatDoor.Um
open Go.Lib

/-- two lists begin alike, up to a place -/
def Alike (k : Nat) (l l' : List UInt8) : Prop := l'.take k = l.take k
theorem Alike.le {k j : Nat} {l l' : List UInt8} (h : Alike k l l') (hj : j ≤ k) : Alike j l l' := by
  unfold Alike at *
  have := congrArg (List.take j) h
  rwa [List.take_take, List.take_take, Nat.min_eq_left hj] at this
theorem Alike.get {k : Nat} {l l' : List UInt8} (h : Alike k l l') (i : Nat) (hi : i < k) : l'.getD i 0 = l.getD i 0 := by
  have h1 := take_getD l k i hi
  have h2 := take_getD l' k i hi
  unfold Alike at h
  rw [← h1, ← h2, h]
theorem Alike.drop {k d : Nat} {l l' : List UInt8} (h : Alike (k + d) l l') : (l'.drop k).take d = (l.drop k).take d := by
  unfold Alike at h
  have := congrArg (List.drop k) h
  simpa [List.drop_take] using this

/-- the sign at a place hangs on its own bytes alone -/
theorem nx_alike {k : Nat} {l l' : List UInt8} (h0 : (nx (l.drop k)).2 ≠ 0) (h : Alike (k + (nx (l.drop k)).2) l l') (hl : k + (nx (l.drop k)).2 ≤ l'.length) : nx (l'.drop k) = nx (l.drop k) := by
  have h1 := nx_enc (l.drop k) h0
  have h2 := nx_of_enc ((nx (l.drop k)).1 : Int) (l'.drop k) h1.1 (nx (l.drop k)).2 (by rw [h.drop]; exact h1.2.2.1) (by simp; omega)
  rw [h2]
  simp

/-- a label read up to a place: whether none is read yet, so many bytes are read, so many are one -/
inductive Reach (l : List UInt8) : Bool → Nat → Nat → Prop
  | start : Reach l true 0 0
  | step {st : Bool} {k b : Nat} : Reach l st k b → k < l.length → (nx (l.drop k)).2 ≠ 0 → mayB st (nx (l.drop k)).1 = true → Reach l false (k + (nx (l.drop k)).2) (if (nx (l.drop k)).1 = 46 then b else k + (nx (l.drop k)).2)

theorem nx_fits (l : List UInt8) (k : Nat) (h0 : (nx (l.drop k)).2 ≠ 0) (hk : k < l.length) : k + (nx (l.drop k)).2 ≤ l.length := by
  have h1 := (nx_enc (l.drop k) h0).2.1
  simp at h1
  omega

theorem Reach.rest {l : List UInt8} {st : Bool} {k b : Nat} (h : Reach l st k b) : labRest l st k b := by
  induction h with
  | start => exact labRest_start l
  | step _ hk h0 hm ih => exact labRest_go ih hk h0 hm
theorem Reach.le {l : List UInt8} {st : Bool} {k b : Nat} (h : Reach l st k b) : b ≤ k ∧ k ≤ l.length ∧ (st = true → k = 0) := by
  induction h with
  | start => simp
  | step _ hk h0 hm ih =>
    have := nx_fits l _ h0 hk
    refine ⟨?_, this, by simp⟩
    split <;> omega
theorem Reach.alike {l l' : List UInt8} {st : Bool} {k b : Nat} (h : Reach l st k b) : Alike k l l' → k ≤ l'.length → Reach l' st k b := by
  induction h with
  | start => intro _ _; exact .start
  | @step st k b h hk h0 hm ih =>
    intro ha hl
    have e := nx_alike h0 ha hl
    have := ih (ha.le (by omega)) (by omega)
    have h1 := Reach.step this (by omega) (by rw [e]; exact h0) (by rw [e]; exact hm)
    rw [e] at h1
    exact h1
theorem Reach.best {l : List UInt8} {st : Bool} {k b : Nat} (h : Reach l st k b) : ∃ st', Reach l st' b b := by
  induction h with
  | start => exact ⟨true, .start⟩
  | @step st k b h hk h0 hm ih =>
    split
    · exact ih
    · rename_i hc
      have h1 := Reach.step h hk h0 hm
      rw [if_neg hc] at h1
      exact ⟨false, h1⟩
theorem labF_ge : ∀ (f : Nat) (st : Bool) (l : List UInt8) (a b : Nat), b ≤ a → b ≤ labF f st l a b := by
  intro f
  induction f with
  | zero => intro st l a b h; exact Nat.le_refl _
  | succ f ih =>
    intro st l a b h
    unfold labF
    split
    · exact Nat.le_refl _
    · split
      · exact Nat.le_refl _
      · split
        · exact ih _ _ _ _ (by omega)
        · exact Nat.le_trans h (Nat.le_trans (Nat.le_add_right _ _) (ih _ _ _ _ (Nat.le_refl _)))
theorem Reach.ge {l : List UInt8} {st : Bool} {k b : Nat} (h : Reach l st k b) : b ≤ label l := by
  have h1 := h.rest
  unfold labRest at h1
  rw [h1]
  exact labF_ge _ _ _ _ _ h.le.1
theorem Reach.all {l : List UInt8} : ∀ (m : Nat) (st : Bool) (k b : Nat), l.length - k ≤ m → Reach l st k b → ∃ st' k', Reach l st' k' (label l) := by
  intro m
  induction m with
  | zero =>
    intro st k b hm h
    exact ⟨st, k, by rw [labRest_end h.rest (.inl (by omega))]; exact h⟩
  | succ m ih =>
    intro st k b hm h
    by_cases hk : l.length ≤ k
    · exact ⟨st, k, by rw [labRest_end h.rest (.inl hk)]; exact h⟩
    · by_cases h0 : (nx (l.drop k)).2 = 0
      · exact ⟨st, k, by rw [labRest_end h.rest (.inr h0)]; exact h⟩
      · by_cases hy : mayB st (nx (l.drop k)).1 = true
        · exact ih _ _ _ (by omega) (.step h (by omega) h0 hy)
        · exact ⟨st, k, by rw [labRest_out h.rest (by simpa using hy)]; exact h⟩
/-- the longest label is read whole -/
theorem label_reach (l : List UInt8) : ∃ st, Reach l st (label l) (label l) := by
  obtain ⟨st, k, h⟩ := Reach.all l.length true 0 0 (by omega) (.start (l := l))
  exact h.best
theorem label_le (l : List UInt8) : label l ≤ l.length := by
  obtain ⟨st, h⟩ := label_reach l
  exact h.le.2.1
theorem label_take (l : List UInt8) : label (l.take (label l)) = label l := by
  obtain ⟨st, h⟩ := label_reach l
  have hle := h.le
  have hl : (l.take (label l)).length = label l := by simp; omega
  have h1 := h.alike (l' := l.take (label l)) (by unfold Alike; rw [List.take_take, Nat.min_self]) (by omega)
  exact labRest_end h1.rest (.inl (by omega))
theorem alike_append (l t : List UInt8) (k : Nat) (hk : k ≤ l.length) : Alike k l (l.take k ++ t) := by
  unfold Alike
  rw [List.take_append_of_le_length (by simp; omega), List.take_take, Nat.min_self]
theorem nx_ascii (c : UInt8) (t : List UInt8) (hc : c.toNat < 128) : nx (c :: t) = (c.toNat, 1) := by
  unfold nx
  rw [if_neg (by simp)]
  simp only [List.getD_cons_zero]
  rw [dec1 _ _ _ _ _ hc]
  rw [if_neg (by simp; omega)]
theorem label_blank (l t : List UInt8) : label (l.take (label l) ++ 32 :: t) = label l := by
  obtain ⟨st, h⟩ := label_reach l
  have hle := h.le
  have h1 := h.alike (alike_append l (32 :: t) _ hle.2.1) (by simp; omega)
  have hd : (l.take (label l) ++ 32 :: t).drop (label l) = 32 :: t := List.drop_left' (by simp; omega)
  refine labRest_out h1.rest ?_
  rw [hd, nx_ascii _ _ (by decide)]
  cases st <;> decide
theorem label_point (l t : List UInt8) : label (l.take (label l) ++ 46 :: 32 :: t) = label l := by
  obtain ⟨st, h⟩ := label_reach l
  have hle := h.le
  have h1 := h.alike (alike_append l (46 :: 32 :: t) _ hle.2.1) (by simp; omega)
  have hd : (l.take (label l) ++ 46 :: 32 :: t).drop (label l) = 46 :: 32 :: t := List.drop_left' (by simp; omega)
  have hx : nx ((l.take (label l) ++ 46 :: 32 :: t).drop (label l)) = (46, 1) := by rw [hd]; exact nx_ascii _ _ (by decide)
  cases st with
  | true =>
    refine labRest_out h1.rest ?_
    rw [hx]; decide
  | false =>
    have h2 := Reach.step h1 (by simp; omega) (by rw [hx]; decide) (by rw [hx]; decide)
    rw [hx] at h2
    have hd2 : (l.take (label l) ++ 46 :: 32 :: t).drop (label l + 1) = 32 :: t := by rw [← List.drop_drop, hd]; rfl
    refine labRest_out h2.rest ?_
    show mayB false (nx ((l.take (label l) ++ 46 :: 32 :: t).drop (label l + 1))).1 = false
    rw [hd2, nx_ascii _ _ (by decide)]
    decide
theorem label_more (l t : List UInt8) : label l ≤ label (l ++ t) := by
  obtain ⟨st, h⟩ := label_reach l
  have hle := h.le
  exact (h.alike (l' := l ++ t) (by unfold Alike; rw [List.take_append_of_le_length hle.2.1]) (by simp; omega)).ge

theorem encZ_last (c : Int) (h : c ≠ 46) : (encodeRuneZ c).getD ((encodeRuneZ c).length - 1) 0 ≠ 46 := by
  unfold encodeRuneZ
  repeat' split
  all_goals simp
  all_goals omega
theorem encZ_pos (c : Int) : 0 < (encodeRuneZ c).length := by
  unfold encodeRuneZ
  repeat' split
  all_goals simp
/-- the longest label ends with no point -/
theorem Reach.last {l : List UInt8} {st : Bool} {n b : Nat} (h : Reach l st n b) (hb : n = b) (h0 : 0 < n) : (l.getD (n - 1) 0).toNat ≠ 46 := by
  cases h with
  | start => omega
  | @step st k b h hk hx hm =>
    have h1 := nx_enc (l.drop k) hx
    have hne : (nx (l.drop k)).1 ≠ 46 := by
      intro he
      rw [if_pos he] at hb
      have := h.le.1
      omega
    have hlen : (encodeRuneZ (nx (l.drop k)).1).length = (nx (l.drop k)).2 := by
      have h2 := congrArg List.length h1.2.2.1
      simp only [encodeRune, List.length_map, List.length_take] at h2
      have := h1.2.1
      omega
    have hp := encZ_pos ((nx (l.drop k)).1 : Int)
    have h3 := (enc_map _ _ _ h1.2.2.1 ((encodeRuneZ (nx (l.drop k)).1).length - 1) (by omega)).1
    have h4 := encZ_last ((nx (l.drop k)).1 : Int) (by omega)
    rw [← h3, hlen] at h4
    have e : (l.drop k).getD ((nx (l.drop k)).2 - 1) 0 = l.getD (k + (nx (l.drop k)).2 - 1) 0 := by
      simp only [List.getD_eq_getElem?_getD, List.getElem?_drop]
      rw [show k + ((nx (l.drop k)).2 - 1) = k + (nx (l.drop k)).2 - 1 by omega]
    rw [e] at h4
    omega
theorem label_last (l : List UInt8) (h : 0 < label l) : (l.getD (label l - 1) 0).toNat ≠ 46 := by
  obtain ⟨st, h1⟩ := label_reach l
  exact h1.last rfl h

/-! tags -/
theorem span_iff (p : Int → Bool) : ∀ (l : List UInt8) (k : Nat), span p l = k ↔ (k ≤ l.length ∧ (∀ i, i < k → p (l.getD i 0).toNat = true) ∧ (k < l.length → p (l.getD k 0).toNat = false))
  | [], k => by
    simp [span]
    constructor
    · intro h; subst h; simp
    · intro h; omega
  | c :: l, k => by
    unfold span
    split
    · rename_i hc
      have ih := span_iff p l (k - 1)
      constructor
      · intro h
        obtain ⟨h1, h2, h3⟩ := ih.1 (by omega)
        obtain ⟨j, rfl⟩ : ∃ j, k = j + 1 := ⟨k - 1, by omega⟩
        refine ⟨by simp at h1 ⊢; omega, ?_, ?_⟩
        · intro i hi
          cases i with
          | zero => simpa using hc
          | succ i => simpa using h2 i (by omega)
        · intro hj
          simpa using h3 (by simp at hj ⊢; omega)
      · rintro ⟨h1, h2, h3⟩
        have hk : k ≠ 0 := by
          intro hk; subst hk
          have := h3 (by simp)
          simp at this
          rw [hc] at this; cases this
        obtain ⟨j, rfl⟩ : ∃ j, k = j + 1 := ⟨k - 1, by omega⟩
        have := ih.2 ⟨by simp at h1 ⊢; omega, fun i hi => by simpa using h2 (i+1) (by omega), fun hj => by simpa using h3 (by simp at hj ⊢; omega)⟩
        simp at this
        omega
    · rename_i hc
      constructor
      · intro h
        subst h
        refine ⟨by omega, fun i hi => by omega, fun _ => by simpa using hc⟩
      · rintro ⟨h1, h2, h3⟩
        rcases Nat.eq_zero_or_pos k with h | h
        · exact h.symm
        · have := h2 0 h
          simp at this
          exact absurd this hc
theorem span_get (p : Int → Bool) (l : List UInt8) (i : Nat) (h : i < span p l) : p (l.getD i 0).toNat = true := ((span_iff p l (span p l)).1 rfl).2.1 i h
theorem span_ge (p : Int → Bool) (l : List UInt8) (k : Nat) (hk : k ≤ l.length) (h : ∀ i, i < k → p (l.getD i 0).toNat = true) : k ≤ span p l := by
  rcases Nat.lt_or_ge (span p l) k with hlt | hge
  · have h1 := ((span_iff p l (span p l)).1 rfl).2.2 (by omega)
    rw [h _ hlt] at h1; cases h1
  · exact hge
theorem getD_drop (l : List UInt8) (k i : Nat) : (l.drop k).getD i 0 = l.getD (k + i) 0 := by simp [List.getD_eq_getElem?_getD, List.getElem?_drop]

/-- a tag read so far -/
inductive TReach (l : List UInt8) : Nat → Prop
  | start : TReach l (span alphaB l)
  | step {n : Nat} : TReach l n → 0 < n ∧ n < l.length ∧ (l.getD n 0).toNat = 45 ∧ span alnumB (l.drop (n + 1)) ≠ 0 → TReach l (n + 1 + span alnumB (l.drop (n + 1)))
theorem TReach.rest {l : List UInt8} {n : Nat} (h : TReach l n) : tagRest l n := by
  induction h with
  | start => rfl
  | step _ ht ih => exact tagRest_go ih ht
theorem TReach.le {l : List UInt8} {n : Nat} (h : TReach l n) : n ≤ l.length := by
  cases h with
  | start => exact span_le _ _
  | @step n _ ht =>
    have := span_le alnumB (l.drop (n + 1))
    simp only [List.length_drop] at this
    omega
/-- what is no letter, no digit ends the tag there too -/
theorem TReach.alike {l l' : List UInt8} {n : Nat} (h : TReach l n) : Alike n l l' → n ≤ l'.length → (n < l'.length → alnumB (l'.getD n 0).toNat = false) → TReach l' n := by
  induction h with
  | start =>
    intro ha hl hn
    have e : span alphaB l' = span alphaB l := (span_iff alphaB l' _).2 ⟨hl, fun i hi => by rw [ha.get i hi]; exact span_get _ _ _ hi, fun h => by have := hn h; simp [alnumB] at this; exact this.1⟩
    have := TReach.start (l := l')
    rwa [e] at this
  | @step n h ht ih =>
    intro ha hl hn
    have h45 : (l'.getD n 0).toNat = 45 := by rw [ha.get n (by omega)]; exact ht.2.2.1
    have e : span alnumB (l'.drop (n + 1)) = span alnumB (l.drop (n + 1)) := (span_iff alnumB (l'.drop (n + 1)) _).2 ⟨by simp; omega, fun i hi => by
      rw [getD_drop, ha.get _ (by omega), ← getD_drop]; exact span_get _ _ _ hi, fun h => by
      rw [getD_drop]; exact hn (by simp at h; omega)⟩
    have h1 := ih (ha.le (by omega)) (by omega) (fun _ => by rw [h45]; decide)
    have h2 := TReach.step h1 ⟨ht.1, by omega, h45, by rw [e]; exact ht.2.2.2⟩
    rwa [e] at h2
theorem TReach.more {l l' : List UInt8} {n : Nat} (h : TReach l n) (ha : Alike n l l') (hl : n ≤ l'.length) : ∃ n', n ≤ n' ∧ TReach l' n' := by
  cases h with
  | start => exact ⟨_, span_ge alphaB l' _ hl (fun i hi => by rw [ha.get i hi]; exact span_get _ _ _ hi), .start⟩
  | @step n h ht =>
    have h45 : (l'.getD n 0).toNat = 45 := by rw [ha.get n (by omega)]; exact ht.2.2.1
    have h1 := h.alike (l' := l') (ha.le (by omega)) (by omega) (fun _ => by rw [h45]; decide)
    have h2 : span alnumB (l.drop (n + 1)) ≤ span alnumB (l'.drop (n + 1)) := span_ge alnumB _ _ (by simp; omega) (fun i hi => by
      rw [getD_drop, ha.get _ (by omega), ← getD_drop]; exact span_get _ _ _ hi)
    exact ⟨_, by omega, .step h1 ⟨ht.1, by omega, h45, by omega⟩⟩
theorem tagF_ge : ∀ (f : Nat) (l : List UInt8) (n : Nat), n ≤ tagF f l n := by
  intro f
  induction f with
  | zero => intro l n; exact Nat.le_refl _
  | succ f ih =>
    intro l n
    unfold tagF
    split
    · exact Nat.le_trans (by omega) (ih l _)
    · exact Nat.le_refl _
theorem TReach.ge {l : List UInt8} {n : Nat} (h : TReach l n) : n ≤ tag l := by
  have h1 := h.rest
  unfold tagRest at h1
  rw [h1]
  exact tagF_ge _ _ _
theorem TReach.all {l : List UInt8} : ∀ (m n : Nat), l.length - n ≤ m → TReach l n → TReach l (tag l) := by
  intro m
  induction m with
  | zero =>
    intro n hm h
    rw [tagRest_out h.rest (by omega)]; exact h
  | succ m ih =>
    intro n hm h
    by_cases ht : 0 < n ∧ n < l.length ∧ (l.getD n 0).toNat = 45 ∧ span alnumB (l.drop (n + 1)) ≠ 0
    · exact ih _ (by omega) (.step h ht)
    · rw [tagRest_out h.rest ht]; exact h
theorem tag_reach (l : List UInt8) : TReach l (tag l) := TReach.all l.length _ (by omega) .start
theorem tag_le (l : List UInt8) : tag l ≤ l.length := (tag_reach l).le
theorem tag_take (l : List UInt8) : tag (l.take (tag l)) = tag l := by
  have hle := tag_le l
  have hl : (l.take (tag l)).length = tag l := by simp; omega
  have h1 := (tag_reach l).alike (l' := l.take (tag l)) (by unfold Alike; rw [List.take_take, Nat.min_self]) (by omega) (by omega)
  exact tagRest_out h1.rest (by omega)
theorem tag_blank (l t : List UInt8) : tag (l.take (tag l) ++ 32 :: t) = tag l := by
  have hle := tag_le l
  have hd : (l.take (tag l) ++ 32 :: t).getD (tag l) 0 = 32 := by
    have : (l.take (tag l) ++ 32 :: t).drop (tag l) = 32 :: t := List.drop_left' (by simp; omega)
    have h2 := getD_drop (l.take (tag l) ++ 32 :: t) (tag l) 0
    rw [this] at h2
    simpa using h2.symm
  have h1 := (tag_reach l).alike (alike_append l (32 :: t) _ hle) (by simp; omega) (fun _ => by rw [hd]; decide)
  refine tagRest_out h1.rest ?_
  rw [hd]
  intro h
  exact absurd h.2.2.1 (by decide)
theorem tag_more (l t : List UInt8) : tag l ≤ tag (l ++ t) := by
  have hle := tag_le l
  obtain ⟨n, h1, h2⟩ := (tag_reach l).more (l' := l ++ t) (by unfold Alike; rw [List.take_append_of_le_length hle]) (by simp; omega)
  exact Nat.le_trans h1 h2.ge
theorem TReach.bytes {l : List UInt8} {n : Nat} (h : TReach l n) : ∀ i, i < n → alnumB (l.getD i 0).toNat = true ∨ (l.getD i 0).toNat = 45 := by
  induction h with
  | start => intro i hi; exact .inl (by unfold alnumB; rw [span_get _ _ _ hi]; rfl)
  | @step n h ht ih =>
    intro i hi
    rcases Nat.lt_or_ge i n with h1 | h1
    · exact ih i h1
    · rcases Nat.eq_or_lt_of_le h1 with h2 | h2
      · subst h2; exact .inr ht.2.2.1
      · left
        have := span_get alnumB (l.drop (n + 1)) (i - (n + 1)) (by omega)
        rwa [getD_drop, show n + 1 + (i - (n + 1)) = i by omega] at this
theorem TReach.first {l : List UInt8} {n : Nat} (h : TReach l n) : 0 < n → alphaB (l.getD 0 0).toNat = true := by
  induction h with
  | start => intro h0; exact span_get _ _ _ h0
  | step h ht ih => intro _; exact ih ht.1
theorem TReach.last {l : List UInt8} {n : Nat} (h : TReach l n) (h0 : 0 < n) : alnumB (l.getD (n - 1) 0).toNat = true := by
  cases h with
  | start =>
    have := span_get alphaB l (span alphaB l - 1) (by omega)
    simp only [alnumB, this, Bool.true_or]
  | @step n h ht =>
    have := span_get alnumB (l.drop (n + 1)) (span alnumB (l.drop (n + 1)) - 1) (by omega)
    rwa [getD_drop, show n + 1 + (span alnumB (l.drop (n + 1)) - 1) = n + 1 + span alnumB (l.drop (n + 1)) - 1 by omega] at this
/-- a tag ends with no dash -/
theorem tag_last (l : List UInt8) (h : 0 < tag l) : (l.getD (tag l - 1) 0).toNat ≠ 45 := by
  have := (tag_reach l).last h
  intro he
  rw [he] at this
  exact absurd this (by decide)
set_option maxRecDepth 100000 in
theorem alnum_letter : ∀ n : Fin 256, (alnumB n.val = true ∨ n.val = 45) → n.val < 128 ∧ letterB n.val = true ∧ n.val ≠ 46 := by decide
set_option maxRecDepth 100000 in
theorem alpha_begin : ∀ n : Fin 256, alphaB n.val = true → beginB n.val = true := by decide
theorem tag_in_label (l : List UInt8) : ∀ k, k ≤ tag l → Reach l (k == 0) k k := by
  intro k
  induction k with
  | zero => intro _; exact .start
  | succ k ih =>
    intro hk
    have hle := tag_le l
    have hb := (tag_reach l).bytes k (by omega)
    have h256 : (l.getD k 0).toNat < 256 := u8_lt _
    obtain ⟨h1, h2, h3⟩ := alnum_letter ⟨(l.getD k 0).toNat, h256⟩ hb
    simp only at h1 h2 h3
    have hx : nx (l.drop k) = ((l.getD k 0).toNat, 1) := by
      rw [List.drop_eq_getElem_cons (by omega)]
      have e : l[k]'(by omega) = l.getD k 0 := by simp [List.getD_eq_getElem?_getD, List.getElem?_eq_getElem (show k < l.length by omega)]
      rw [e]
      exact nx_ascii _ _ h1
    have hm : mayB (k == 0) (nx (l.drop k)).1 = true := by
      rw [hx]
      rcases Nat.eq_zero_or_pos k with h0 | h0
      · subst h0
        exact alpha_begin ⟨(l.getD 0 0).toNat, h256⟩ ((tag_reach l).first (by omega))
      · rw [show (k == 0) = false by simp; omega]
        simp only [mayB, h2, Bool.true_or]
    have := Reach.step (ih (by omega)) (by omega) (by rw [hx]; simp) hm
    rw [hx] at this
    simp only [if_neg h3] at this
    exact this
theorem tag_le_label (l : List UInt8) : tag l ≤ label l := (tag_in_label l (tag l) (Nat.le_refl _)).ge
end Go.Proofs.YtffpgandgajihaaGreatDoor.Um
