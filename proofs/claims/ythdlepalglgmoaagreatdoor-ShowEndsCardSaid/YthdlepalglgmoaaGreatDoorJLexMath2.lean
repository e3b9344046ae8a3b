/- Words of lines, in plain words: escapes, texts, tokens, lines. Words of lines, in plain words: what a token hangs on; lines. -/
import Derived.Test.YthdlepalglgmoaaGreatDoorJUtfMath3
namespace Go.Proofs.YthdlepalglgmoaaGreatDoor
namespace Lx
open Go Go.Lib Um

abbrev c0 (l : List UInt8) : Nat := (l.getD 0 0).toNat
abbrev c1 (l : List UInt8) : Nat := (l.getD 1 0).toNat
/-- A hexadecimal digit's value. -/
def hexB (c : Nat) : Option Nat := if 48 ≤ c ∧ c ≤ 57 then some (c - 48) else if 65 ≤ c ∧ c ≤ 70 then some (c - 55) else if 97 ≤ c ∧ c ≤ 102 then some (c - 87) else none
def hexN : List UInt8 → Nat → Option Nat
  | [], n => some n
  | c :: r, n => (hexB c.toNat).bind fun d => hexN r (16 * n + d)
/-- The sign of so many digits. -/
def numL (many : Nat) (l : List UInt8) : Option Nat := if l.length < many then none else (hexN (l.take many) 0).bind fun n => if isB n then some n else none
def escOf (c : Nat) : Option Nat := if c = 116 then some 9 else if c = 98 then some 8 else if c = 110 then some 10 else if c = 114 then some 13 else if c = 102 then some 12 else if c = 34 then some 34 else if c = 39 then some 39 else if c = 92 then some 92 else none
def optP (m : Nat) : Option Nat → Nat × Nat
  | some n => (n, m)
  | none => (0, 0)
/-- An escape's sign, and how many bytes it has; 0: there is none. -/
def escL (lit : Bool) (l : List UInt8) : Nat × Nat :=
  if c1 l = 117 then optP 6 (numL 4 (l.drop 2))
  else if c1 l = 85 then optP 10 (numL 8 (l.drop 2))
  else if lit then optP 2 (escOf (c1 l))
  else (0, 0)
def rawL (lit : Bool) (n : Nat) : Bool := if lit then n != 10 && n != 13 else rawB n
def endC (lit : Bool) : Nat := if lit then 34 else 62
/-- The sign that stands next within a text, and how many bytes it has; 0: there is none. -/
def signL (lit : Bool) (l : List UInt8) : Nat × Nat :=
  if c0 l = 92 then escL lit l else if (nx l).2 = 0 ∨ rawL lit (nx l).1 = false then (0, 0) else nx l
def inF : Nat → Bool → List UInt8 → Option (List Int × Nat)
  | 0, _, _ => none
  | f + 1, lit, l => if l.length = 0 then none else if c0 l = endC lit then some ([], 1) else if (signL lit l).2 = 0 then none else
      (inF f lit (l.drop (signL lit l).2)).map fun p => (((signL lit l).1 : Int) :: p.1, (signL lit l).2 + p.2)
/-- The signs up to an end, and how many bytes these have, with the end. -/
def inL (lit : Bool) (l : List UInt8) : Option (List Int × Nat) := inF (l.length + 1) lit l
/-- A token: its kind, its text, how many bytes it has. -/
def tkL (l : List UInt8) : Option (Nat × ByteArray × Nat) :=
  if c0 l = 60 then (inL false (l.drop 1)).map fun p => (1, textS p.1, 1 + p.2)
  else if c0 l = 34 then (inL true (l.drop 1)).map fun p => (3, textS p.1, 1 + p.2)
  else if c0 l = 95 ∧ c1 l = 58 then (if label (l.drop 2) = 0 then none else some (2, ⟨((l.drop 2).take (label (l.drop 2))).toArray⟩, 2 + label (l.drop 2)))
  else if c0 l = 64 then (if tag (l.drop 1) = 0 then none else some (4, ⟨((l.drop 1).take (tag (l.drop 1))).toArray⟩, 1 + tag (l.drop 1)))
  else if c0 l = 94 ∧ c1 l = 94 then some (5, ⟨#[]⟩, 2)
  else if c0 l = 46 then some (6, ⟨#[]⟩, 1)
  else none
structure LTok where
  k : Nat
  x : ByteArray
  p : Nat
/-- The tokens from a place on; or where there is none. -/
def lnF : Nat → List UInt8 → Nat → Except Nat (List LTok)
  | 0, _, _ => .ok []
  | f + 1, l, at_ => if l.length = 0 ∨ c0 l = 35 then .ok [] else if c0 l = 32 ∨ c0 l = 9 then lnF f (l.drop 1) (at_ + 1) else
      match tkL l with
      | none => .error at_
      | some (k, x, m) => (lnF f (l.drop m) (at_ + m)).map fun ts => ⟨k, x, at_⟩ :: ts
def lnL (l : List UInt8) (at_ : Nat) : Except Nat (List LTok) := lnF (l.length + 1) l at_
def lineL (l : List UInt8) : List LTok × Nat × Int :=
  if (sgn l).2.2 then (match lnL l 0 with | .ok ts => (ts, 0, 0) | .error e => ([], e, 10)) else ([], (sgn l).2.1, 11)

-- hex
theorem hexB_lt {c d : Nat} (h : hexB c = some d) : d < 16 ∧ c < 128 := by
  unfold hexB at h
  repeat' split at h
  all_goals (first | (injection h with h; omega) | cases h)
theorem hexN_ascii : ∀ (l : List UInt8) (n m : Nat), hexN l n = some m → ∀ i, i < l.length → (l.getD i 0).toNat < 128
  | [], _, _, _, i, hi => by simp at hi
  | c :: r, n, m, h, i, hi => by
    rw [hexN, Option.bind_eq_some_iff] at h
    obtain ⟨d, hd, h⟩ := h
    cases i with
    | zero => exact (hexB_lt hd).2
    | succ i =>
      have := hexN_ascii r _ m h i (by simpa using hi)
      simpa using this
theorem numL_some {many n : Nat} {l : List UInt8} (h : numL many l = some n) : many ≤ l.length ∧ isB n = true ∧ ∀ i, i < many → (l.getD i 0).toNat < 128 := by
  unfold numL at h
  split at h
  · cases h
  · rename_i hl
    rw [Option.bind_eq_some_iff] at h
    obtain ⟨m, hm, h⟩ := h
    split at h
    · rename_i hb
      injection h with h
      subst h
      refine ⟨by omega, hb, fun i hi => ?_⟩
      have := hexN_ascii _ _ _ hm i (by rw [List.length_take]; omega)
      rwa [take_getD _ _ _ hi] at this
    · cases h
theorem escOf_some {c n : Nat} (h : escOf c = some n) : isB n = true ∧ 0 < c ∧ c < 128 := by
  unfold escOf at h
  repeat' split at h
  all_goals (first | (injection h with h; subst h; refine ⟨by decide, by omega, by omega⟩) | cases h)
theorem c1_len {l : List UInt8} (h : 0 < c1 l) : 1 < l.length := by
  rcases Nat.lt_or_ge 1 l.length with h1 | h1
  · exact h1
  · unfold c1 at h
    rw [List.getD_eq_getElem?_getD, List.getElem?_eq_none (by omega)] at h
    simp at h
theorem c0_len {l : List UInt8} (h : 0 < c0 l) : 0 < l.length := by
  rcases Nat.lt_or_ge 0 l.length with h1 | h1
  · exact h1
  · unfold c0 at h
    rw [List.getD_eq_getElem?_getD, List.getElem?_eq_none (by omega)] at h
    simp at h
/-- What an escape is. -/
theorem escL_spec {lit : Bool} {l : List UInt8} (h0 : c0 l = 92) (h : (escL lit l).2 ≠ 0) : (escL lit l).2 ≤ l.length ∧ isB (escL lit l).1 = true ∧ ∀ i, i < (escL lit l).2 → (l.getD i 0).toNat < 128 := by
  have hd : ∀ i, (l.drop 2).getD i 0 = l.getD (2 + i) 0 := fun i => getD_drop l 2 i
  have low : ∀ (m : Nat), (∀ i, i < m → ((l.drop 2).getD i 0).toNat < 128) → c1 l < 128 → ∀ i, i < 2 + m → (l.getD i 0).toNat < 128 := by
    intro m hm h1 i hi
    match i with
    | 0 => exact Nat.lt_of_le_of_lt (Nat.le_of_eq h0) (by decide)
    | 1 => exact h1
    | i + 2 =>
      have := hm i (by omega)
      rw [hd, Nat.add_comm] at this
      exact this
  unfold escL at h ⊢
  split at h
  · rename_i h1
    rw [if_pos h1]
    cases ho : numL 4 (l.drop 2) with
    | none => rw [ho] at h; exact absurd rfl h
    | some n =>
      obtain ⟨n1, n2, n3⟩ := numL_some ho
      have hl := c1_len (l := l) (by omega)
      rw [List.length_drop] at n1
      exact ⟨by show 6 ≤ _; omega, n2, low 4 n3 (by omega)⟩
  · rename_i h1
    rw [if_neg h1]
    split at h
    · rename_i h2
      rw [if_pos h2]
      cases ho : numL 8 (l.drop 2) with
      | none => rw [ho] at h; exact absurd rfl h
      | some n =>
        obtain ⟨n1, n2, n3⟩ := numL_some ho
        have hl := c1_len (l := l) (by omega)
        rw [List.length_drop] at n1
        exact ⟨by show 10 ≤ _; omega, n2, low 8 n3 (by omega)⟩
    · rename_i h2
      rw [if_neg h2]
      split at h
      · rename_i h3
        rw [if_pos h3]
        cases ho : escOf (c1 l) with
        | none => rw [ho] at h; exact absurd rfl h
        | some n =>
          obtain ⟨n1, n2, n3⟩ := escOf_some ho
          have hl := c1_len n2
          exact ⟨by show 2 ≤ _; omega, n1, fun i hi => low 0 (fun i hi => by omega) n3 i hi⟩
      · exact absurd rfl h
/-- All is valid. -/
def vld (l : List UInt8) : Prop := (sgn l).2.2 = true
theorem vld_nx {l : List UInt8} (h : vld l) (h0 : l.length ≠ 0) : (nx l).2 ≠ 0 ∧ vld (l.drop (nx l).2) := by
  unfold vld at h ⊢
  by_cases hn : (nx l).2 = 0
  · rw [sgn_bad l h0 hn] at h; cases h
  · rw [sgn_cons l h0 hn] at h; exact ⟨hn, h⟩
theorem nx_low {l : List UInt8} (h0 : l.length ≠ 0) (h : c0 l < 128) : nx l = (c0 l, 1) := by
  cases l with
  | nil => exact absurd rfl h0
  | cons c t => exact nx_ascii c t h
theorem vld_one {l : List UInt8} (h : vld l) (h0 : l.length ≠ 0) (hc : c0 l < 128) : vld (l.drop 1) := by
  have := (vld_nx h h0).2
  rwa [nx_low h0 hc] at this
theorem vld_low : ∀ (k : Nat) {l : List UInt8}, vld l → k ≤ l.length → (∀ i, i < k → (l.getD i 0).toNat < 128) → vld (l.drop k)
  | 0, l, h, _, _ => by simpa using h
  | k + 1, l, h, hk, hi => by
    have h1 := vld_one h (by omega) (hi 0 (by omega))
    have h2 := vld_low k h1 (by rw [List.length_drop]; omega) fun i h => by
      rw [getD_drop]
      exact hi (1 + i) (by omega)
    rwa [List.drop_drop, Nat.add_comm] at h2
theorem nx_isB {l : List UInt8} (h : (nx l).2 ≠ 0) : isB (nx l).1 = true ∧ (nx l).2 ≤ l.length ∧ (nx l).2 ≤ 4 := by
  have h1 := nx_enc l h
  exact ⟨h1.1, h1.2.1, h1.2.2.2.2⟩
/-- What a sign within a text is. -/
theorem signL_spec {lit : Bool} {l : List UInt8} (h : (signL lit l).2 ≠ 0) : (signL lit l).2 ≤ l.length ∧ isB (signL lit l).1 = true ∧ (vld l → vld (l.drop (signL lit l).2)) := by
  unfold signL at h ⊢
  split at h
  · rename_i h0
    rw [if_pos h0]
    obtain ⟨e1, e2, e3⟩ := escL_spec h0 h
    exact ⟨e1, e2, fun hv => vld_low _ hv e1 e3⟩
  · rename_i h0
    rw [if_neg h0]
    split at h
    · exact absurd rfl h
    · rename_i h1
      rw [if_neg h1]
      obtain ⟨e1, e2, e3⟩ := nx_isB h
      exact ⟨e2, e1, fun hv => (vld_nx hv (by omega)).2⟩
theorem inF_more (f g : Nat) (lit : Bool) : ∀ l : List UInt8, l.length < f → l.length < g → inF f lit l = inF g lit l := by
  induction f generalizing g with
  | zero => intro l h _; omega
  | succ f ih =>
    intro l h1 h2
    cases g with
    | zero => omega
    | succ g =>
      simp only [inF]
      split
      · rfl
      split
      · rfl
      split
      · rfl
      · rename_i a b c
        rw [ih g _ (by rw [List.length_drop]; omega) (by rw [List.length_drop]; omega)]
theorem inF_spec (lit : Bool) : ∀ (f : Nat) (l : List UInt8) (ns : List Int) (m : Nat), inF f lit l = some (ns, m) → 1 ≤ m ∧ m ≤ l.length ∧ ns.all isB = true ∧ ns.length < m ∧ (vld l → vld (l.drop m))
  | 0, _, _, _, h => by cases h
  | f + 1, l, ns, m, h => by
    rw [inF] at h
    split at h
    · cases h
    rename_i h0
    split at h
    · rename_i he
      injection h with h
      injection h with h1 h2
      subst h1 h2
      have hc : c0 l < 128 := by rw [he]; cases lit <;> decide
      exact ⟨by omega, by omega, rfl, by simp, fun hv => vld_one hv h0 hc⟩
    split at h
    · cases h
    rename_i he hb
    rw [Option.map_eq_some_iff] at h
    obtain ⟨⟨ns', m'⟩, hr, h⟩ := h
    injection h with h1 h2
    subst h1 h2
    obtain ⟨i1, i2, i3, i4, i5⟩ := inF_spec lit f _ ns' m' hr
    obtain ⟨s1, s2, s3⟩ := signL_spec hb
    rw [List.length_drop] at i2
    refine ⟨by omega, by omega, by rw [List.all_cons, s2, i3]; rfl, by simp only [List.length_cons]; omega, fun hv => ?_⟩
    have := i5 (s3 hv)
    rwa [List.drop_drop] at this
theorem inL_spec {lit : Bool} {l : List UInt8} {ns : List Int} {m : Nat} (h : inL lit l = some (ns, m)) : 1 ≤ m ∧ m ≤ l.length ∧ ns.all isB = true ∧ ns.length < m ∧ (vld l → vld (l.drop m)) := inF_spec lit _ l ns m h
end Lx
end Go.Proofs.YthdlepalglgmoaaGreatDoor
namespace Go.Proofs.YthdlepalglgmoaaGreatDoor
namespace Lx
open Go Go.Lib Um

-- valid texts
theorem vld_flat {l : List UInt8} : vld l ↔ ∃ ns : List Int, (∀ x ∈ ns, isB x = true) ∧ l = ns.flatMap encodeRune := by
  constructor
  · intro h
    obtain ⟨h1, h2⟩ := sgn_valid l h
    exact ⟨_, h1, h2.symm⟩
  · rintro ⟨ns, h1, rfl⟩
    unfold vld
    rw [sgn_flat ns h1]
theorem vld_app {a b : List UInt8} (ha : vld a) (hb : vld b) : vld (a ++ b) := by
  obtain ⟨n1, h1, rfl⟩ := vld_flat.1 ha
  obtain ⟨n2, h2, rfl⟩ := vld_flat.1 hb
  refine vld_flat.2 ⟨n1 ++ n2, fun x hx => ?_, List.flatMap_append.symm⟩
  rcases List.mem_append.1 hx with h | h
  · exact h1 x h
  · exact h2 x h
theorem vld_nil : vld [] := by unfold vld; rw [sgn_nil [] rfl]
theorem vld_ascii : ∀ (l : List UInt8), (∀ i, i < l.length → (l.getD i 0).toNat < 128) → vld l
  | [], _ => vld_nil
  | c :: r, h => by
    unfold vld
    have hn := nx_ascii c r (h 0 (by simp))
    rw [sgn_cons _ (by simp) (by rw [hn]; simp), hn]
    exact vld_ascii r fun i hi => by have := h (i + 1) (by simp; omega); simpa using this
theorem vld_sign1 {l : List UInt8} (h : (nx l).2 ≠ 0) : vld (l.take (nx l).2) := by
  have h1 := nx_enc l h
  rw [h1.2.2.1]
  exact vld_flat.2 ⟨[((nx l).1 : Int)], by simpa using h1.1, by simp⟩
theorem signL_vld {lit : Bool} {l : List UInt8} (h : (signL lit l).2 ≠ 0) : vld (l.take (signL lit l).2) := by
  have hs := signL_spec h
  unfold signL at h hs ⊢
  split at h
  · rename_i h0
    rw [if_pos h0] at hs ⊢
    obtain ⟨e1, e2, e3⟩ := escL_spec h0 h
    refine vld_ascii _ fun i hi => ?_
    rw [List.length_take] at hi
    rw [take_getD _ _ _ (by omega)]
    exact e3 i (by omega)
  · rename_i h0
    rw [if_neg h0] at hs ⊢
    split at h
    · exact absurd rfl h
    · rename_i h1
      rw [if_neg h1]
      exact vld_sign1 h
theorem take_split (l : List UInt8) (a b : Nat) : l.take (a + b) = l.take a ++ (l.drop a).take b := by rw [List.take_add]
theorem inF_vld (lit : Bool) : ∀ (f : Nat) (l : List UInt8) (ns : List Int) (m : Nat), inF f lit l = some (ns, m) → vld (l.take m)
  | 0, _, _, _, h => by cases h
  | f + 1, l, ns, m, h => by
    rw [inF] at h
    split at h
    · cases h
    rename_i h0
    split at h
    · rename_i he
      injection h with h
      injection h with h1 h2
      subst h1 h2
      have hc : c0 l < 128 := by rw [he]; cases lit <;> decide
      refine vld_ascii _ fun i hi => ?_
      rw [List.length_take] at hi
      rw [take_getD _ _ _ (by omega)]
      obtain rfl : i = 0 := by omega
      exact hc
    split at h
    · cases h
    rename_i he hb
    rw [Option.map_eq_some_iff] at h
    obtain ⟨⟨ns', m'⟩, hr, h⟩ := h
    injection h with h1 h2
    subst h1 h2
    show vld (l.take ((signL lit l).2 + m'))
    rw [take_split]
    exact vld_app (signL_vld hb) (inF_vld lit f _ ns' m' hr)
theorem reach_vld {l : List UInt8} {st : Bool} {k b : Nat} (h : Um.Reach l st k b) : vld (l.take k) ∧ (vld l → vld (l.drop k)) := by
  induction h with
  | start => exact ⟨vld_nil, fun h => h⟩
  | step _ hk h0 hm ih =>
    refine ⟨by rw [take_split]; exact vld_app ih.1 (vld_sign1 h0), fun hv => ?_⟩
    have := (vld_nx (ih.2 hv) (by rw [List.length_drop]; omega)).2
    rwa [List.drop_drop] at this
theorem label_vld (l : List UInt8) : vld (l.take (label l)) ∧ (vld l → vld (l.drop (label l))) := by
  obtain ⟨st, h⟩ := label_reach l
  exact reach_vld h
theorem tag_low (l : List UInt8) : ∀ i, i < tag l → (l.getD i 0).toNat < 128 := fun i hi => by
  have h1 := (tag_reach l).bytes i hi
  have h2 := alnum_letter ⟨(l.getD i 0).toNat, (l.getD i 0).toNat_lt⟩ (by
    rcases h1 with h | h
    · exact .inl h
    · exact .inr h)
  exact h2.1
theorem tag_vld (l : List UInt8) : vld (l.take (tag l)) ∧ (vld l → vld (l.drop (tag l))) := by
  refine ⟨vld_ascii _ fun i hi => ?_, fun h => vld_low _ h (tag_le l) (tag_low l)⟩
  rw [List.length_take] at hi
  rw [take_getD _ _ _ (by omega)]
  exact tag_low l i (by omega)
theorem textS_vld {ns : List Int} (h : ns.all isB = true) : vld (textS ns).data.toList := by
  have := sig_text ns h
  unfold sigR at this
  unfold vld
  split at this
  · assumption
  · simp at this
theorem textS_size (ns : List Int) : (textS ns).size ≤ 4 * ns.length := by
  have h1 := encL_length ns
  unfold textS
  rw [show (ByteArray.mk ((encL ns).map fun n => UInt8.ofNat n.toNat).toArray).size = (encL ns).length by simp [ByteArray.size]]
  exact h1
/-- What a token is. -/
theorem tkL_spec {l : List UInt8} {k m : Nat} {x : ByteArray} (h : tkL l = some (k, x, m)) :
    1 ≤ m ∧ m ≤ l.length ∧ vld (l.take m) ∧ (vld l → vld (l.drop m)) ∧ vld x.data.toList ∧ x.size ≤ 4 * m ∧ 1 ≤ k ∧ k ≤ 6 := by
  have low1 : ∀ (c : Nat), c0 l = c → 0 < c → c < 128 → l.length ≠ 0 ∧ vld (l.take 1) ∧ (vld l → vld (l.drop 1)) := by
    intro c h0 hc1 hc
    have hl := c0_len (l := l) (by omega)
    refine ⟨by omega, vld_ascii _ fun i hi => ?_, fun hv => vld_one hv (by omega) (by omega)⟩
    rw [List.length_take] at hi
    rw [take_getD _ _ _ (by omega)]
    obtain rfl : i = 0 := by omega
    show c0 l < 128
    omega
  have low2 : ∀ (c d : Nat), c0 l = c → c1 l = d → 0 < c → c < 128 → 0 < d → d < 128 → 2 ≤ l.length ∧ vld (l.take 2) ∧ (vld l → vld (l.drop 2)) := by
    intro c d h0 h1 hc1 hc hd1 hd
    have hl := c1_len (l := l) (by omega)
    have low : ∀ i, i < 2 → (l.getD i 0).toNat < 128 := fun i hi => by
      match i, hi with
      | 0, _ => show c0 l < 128; omega
      | 1, _ => show c1 l < 128; omega
    refine ⟨by omega, vld_ascii _ fun i hi => ?_, fun hv => vld_low 2 hv (by omega) low⟩
    rw [List.length_take] at hi
    rw [take_getD _ _ _ (by omega)]
    exact low i (by omega)
  unfold tkL at h
  split at h
  · rename_i h0
    obtain ⟨a1, a2, a3⟩ := low1 60 h0 (by omega) (by omega)
    rw [Option.map_eq_some_iff] at h
    obtain ⟨⟨ns, m'⟩, hr, h⟩ := h
    simp only [Prod.mk.injEq] at h
    obtain ⟨rfl, rfl, rfl⟩ := h
    obtain ⟨i1, i2, i3, i4, i5⟩ := inL_spec hr
    rw [List.length_drop] at i2
    have hz := textS_size ns
    refine ⟨by omega, by omega, by rw [take_split]; exact vld_app a2 (inF_vld _ _ _ _ _ hr), fun hv => ?_, textS_vld i3, by omega, by omega, by omega⟩
    have := i5 (a3 hv)
    rwa [List.drop_drop] at this
  split at h
  · rename_i h0
    obtain ⟨a1, a2, a3⟩ := low1 34 h0 (by omega) (by omega)
    rw [Option.map_eq_some_iff] at h
    obtain ⟨⟨ns, m'⟩, hr, h⟩ := h
    simp only [Prod.mk.injEq] at h
    obtain ⟨rfl, rfl, rfl⟩ := h
    obtain ⟨i1, i2, i3, i4, i5⟩ := inL_spec hr
    rw [List.length_drop] at i2
    have hz := textS_size ns
    refine ⟨by omega, by omega, by rw [take_split]; exact vld_app a2 (inF_vld _ _ _ _ _ hr), fun hv => ?_, textS_vld i3, by omega, by omega, by omega⟩
    have := i5 (a3 hv)
    rwa [List.drop_drop] at this
  split at h
  · rename_i h0
    obtain ⟨a1, a2, a3⟩ := low2 95 58 h0.1 h0.2 (by omega) (by omega) (by omega) (by omega)
    split at h
    · cases h
    simp only [Option.some.injEq, Prod.mk.injEq] at h
    obtain ⟨rfl, rfl, rfl⟩ := h
    have hle := label_le (l.drop 2)
    obtain ⟨v1, v2⟩ := label_vld (l.drop 2)
    rw [List.length_drop] at hle
    refine ⟨by omega, by omega, by rw [take_split]; exact vld_app a2 v1, fun hv => ?_, v1, ?_, by omega, by omega⟩
    · have := v2 (a3 hv)
      rwa [List.drop_drop] at this
    · show (List.toArray _).size ≤ _
      rw [List.size_toArray, List.length_take]; omega
  split at h
  · rename_i h0
    obtain ⟨a1, a2, a3⟩ := low1 64 h0 (by omega) (by omega)
    split at h
    · cases h
    simp only [Option.some.injEq, Prod.mk.injEq] at h
    obtain ⟨rfl, rfl, rfl⟩ := h
    have hle := tag_le (l.drop 1)
    obtain ⟨v1, v2⟩ := tag_vld (l.drop 1)
    rw [List.length_drop] at hle
    refine ⟨by omega, by omega, by rw [take_split]; exact vld_app a2 v1, fun hv => ?_, v1, ?_, by omega, by omega⟩
    · have := v2 (a3 hv)
      rwa [List.drop_drop] at this
    · show (List.toArray _).size ≤ _
      rw [List.size_toArray, List.length_take]; omega
  split at h
  · rename_i h0
    obtain ⟨a1, a2, a3⟩ := low2 94 94 h0.1 h0.2 (by omega) (by omega) (by omega) (by omega)
    simp only [Option.some.injEq, Prod.mk.injEq] at h
    obtain ⟨rfl, rfl, rfl⟩ := h
    exact ⟨by omega, a1, a2, a3, vld_nil, by show 0 ≤ _; omega, by omega, by omega⟩
  split at h
  · rename_i h0
    obtain ⟨a1, a2, a3⟩ := low1 46 h0 (by omega) (by omega)
    simp only [Option.some.injEq, Prod.mk.injEq] at h
    obtain ⟨rfl, rfl, rfl⟩ := h
    exact ⟨by omega, by omega, a2, a3, vld_nil, by show 0 ≤ _; omega, by omega, by omega⟩
  · cases h

-- what a token hangs on: lists that begin alike
/-- l' begins as l does, up to n; it has so many bytes. -/
def Pre (n : Nat) (l l' : List UInt8) : Prop := l'.take n = l.take n ∧ n ≤ l'.length ∧ n ≤ l.length
theorem Pre.le {n m : Nat} {l l' : List UInt8} (h : Pre n l l') (hm : m ≤ n) : Pre m l l' := by
  obtain ⟨h1, h2, h3⟩ := h
  exact ⟨Alike.le (k := n) h1 hm, by omega, by omega⟩
theorem Pre.drop {n a : Nat} {l l' : List UInt8} (h : Pre (a + n) l l') : Pre n (l.drop a) (l'.drop a) := by
  obtain ⟨h1, h2, h3⟩ := h
  exact ⟨Alike.drop (k := a) h1, by rw [List.length_drop]; omega, by rw [List.length_drop]; omega⟩
theorem Pre.get {n : Nat} {l l' : List UInt8} (h : Pre n l l') {i : Nat} (hi : i < n) : l'.getD i 0 = l.getD i 0 := Alike.get h.1 i hi
theorem Pre.nx {l l' : List UInt8} (h0 : (nx l).2 ≠ 0) (h : Pre (nx l).2 l l') : nx l' = nx l := by
  have := nx_alike (k := 0) (l := l) (l' := l') (by simpa using h0) (by rw [List.drop_zero, Nat.zero_add]; exact h.1) (by simpa using h.2.1)
  simpa using this
theorem numL_pre {many n : Nat} {l l' : List UInt8} (h : numL many l = some n) (hp : Pre many l l') : numL many l' = some n := by
  unfold numL at h ⊢
  rw [if_neg (by have := hp.2.2; omega)] at h
  rw [if_neg (by have := hp.2.1; omega), hp.1]
  exact h
theorem escL_pre {lit : Bool} {l l' : List UInt8} (h : (escL lit l).2 ≠ 0) (hp : Pre (escL lit l).2 l l') : escL lit l' = escL lit l := by
  have key : 2 ≤ (escL lit l).2 → c1 l' = c1 l := fun h2 => congrArg UInt8.toNat (hp.get (i := 1) (by omega))
  unfold escL at h hp key ⊢
  split at h
  · rename_i h1
    rw [if_pos h1] at hp key ⊢
    cases ho : numL 4 (l.drop 2) with
    | none => rw [ho] at h; exact absurd rfl h
    | some n =>
      rw [ho] at hp key
      have hc := key (by show 2 ≤ 6; omega)
      have hp' : Pre (2 + 4) l l' := hp
      rw [if_pos (hc.trans h1), numL_pre ho hp'.drop]
  · rename_i h1
    rw [if_neg h1] at hp key ⊢
    split at h
    · rename_i h2
      rw [if_pos h2] at hp key ⊢
      cases ho : numL 8 (l.drop 2) with
      | none => rw [ho] at h; exact absurd rfl h
      | some n =>
        rw [ho] at hp key
        have hc := key (by show 2 ≤ 10; omega)
        have hp' : Pre (2 + 8) l l' := hp
        rw [if_neg (fun e => h1 (hc.symm.trans e)), if_pos (hc.trans h2), numL_pre ho hp'.drop]
    · rename_i h2
      rw [if_neg h2] at hp key ⊢
      split at h
      · rename_i h3
        rw [if_pos h3] at hp key ⊢
        cases ho : escOf (c1 l) with
        | none => rw [ho] at h; exact absurd rfl h
        | some n =>
          rw [ho] at hp key
          have hc := key (by show 2 ≤ 2; omega)
          rw [if_neg (fun e => h1 (hc.symm.trans e)), if_neg (fun e => h2 (hc.symm.trans e)), if_pos h3, hc, ho]
      · exact absurd rfl h
theorem signL_pre {lit : Bool} {l l' : List UInt8} (h : (signL lit l).2 ≠ 0) (hp : Pre (signL lit l).2 l l') : signL lit l' = signL lit l := by
  have hc : c0 l' = c0 l := congrArg UInt8.toNat (hp.get (i := 0) (by omega))
  unfold signL at h hp ⊢
  rw [hc]
  split at h
  · rename_i h0
    rw [if_pos h0] at hp ⊢
    rw [if_pos h0]
    exact escL_pre h hp
  · rename_i h0
    rw [if_neg h0] at hp ⊢
    rw [if_neg h0]
    split at h
    · exact absurd rfl h
    · rename_i h1
      rw [if_neg h1] at hp ⊢
      have := hp.nx h
      rw [this, if_neg h1]
theorem inF_pre (lit : Bool) : ∀ (f : Nat) (l l' : List UInt8) (ns : List Int) (m : Nat), inF f lit l = some (ns, m) → Pre m l l' → inF f lit l' = some (ns, m)
  | 0, _, _, _, _, h, _ => by cases h
  | f + 1, l, l', ns, m, h, hp => by
    have hsp := inF_spec lit (f + 1) l ns m h
    have hc : c0 l' = c0 l := congrArg UInt8.toNat (hp.get (i := 0) (by omega))
    have hl' : l'.length ≠ 0 := by have := hp.2.1; omega
    rw [inF] at h ⊢
    split at h
    · cases h
    rename_i h0
    rw [if_neg hl', hc]
    split at h
    · rename_i he
      rw [if_pos he]; exact h
    rename_i he
    rw [if_neg he]
    split at h
    · cases h
    rename_i hb
    rw [Option.map_eq_some_iff] at h
    obtain ⟨⟨ns', m'⟩, hr, h⟩ := h
    injection h with h1 h2
    subst h1 h2
    have hs := signL_pre hb (hp.le (Nat.le_add_right _ _))
    rw [hs, if_neg hb, inF_pre lit f _ (l'.drop (signL lit l).2) ns' m' hr hp.drop]
    rfl
theorem inL_pre {lit : Bool} {l l' : List UInt8} {ns : List Int} {m : Nat} (h : inL lit l = some (ns, m)) (hp : Pre m l l') : inL lit l' = some (ns, m) := by
  unfold inL at h ⊢
  have h1 : inF (l.length + l'.length + 1) lit l = some (ns, m) := by rw [inF_more _ (l.length + 1) lit l (by omega) (by omega)]; exact h
  have h2 := inF_pre lit _ l l' ns m h1 hp
  rwa [inF_more _ (l'.length + 1) lit l' (by omega) (by omega)] at h2
theorem Pre.dropTake {n a : Nat} {l l' : List UInt8} (h : Pre (a + n) l l') : (l'.drop a).take n = (l.drop a).take n := h.drop.1
/-- A token hangs on its own bytes, and on whether the label, the tag goes on. -/
theorem tkL_pre {l l' : List UInt8} {k m : Nat} {x : ByteArray} (h : tkL l = some (k, x, m)) (hp : Pre m l l') (hlab : label (l.drop 2) + 2 = m → label (l'.drop 2) = label (l.drop 2)) (htag : tag (l.drop 1) + 1 = m → tag (l'.drop 1) = tag (l.drop 1)) :
    tkL l' = some (k, x, m) := by
  have hsp := tkL_spec h
  have hc : c0 l' = c0 l := congrArg UInt8.toNat (hp.get (i := 0) (by omega))
  have hc1 : 2 ≤ m → c1 l' = c1 l := fun h2 => congrArg UInt8.toNat (hp.get (i := 1) (by omega))
  unfold tkL at h ⊢
  rw [hc]
  split at h
  · rename_i h0
    rw [if_pos h0]
    rw [Option.map_eq_some_iff] at h
    obtain ⟨⟨ns, m'⟩, hr, h⟩ := h
    simp only [Prod.mk.injEq] at h
    obtain ⟨rfl, rfl, rfl⟩ := h
    rw [inL_pre hr hp.drop]; rfl
  rename_i n0
  rw [if_neg n0]
  split at h
  · rename_i h0
    rw [if_pos h0]
    rw [Option.map_eq_some_iff] at h
    obtain ⟨⟨ns, m'⟩, hr, h⟩ := h
    simp only [Prod.mk.injEq] at h
    obtain ⟨rfl, rfl, rfl⟩ := h
    rw [inL_pre hr hp.drop]; rfl
  rename_i n1
  rw [if_neg n1]
  split at h
  · rename_i h0
    split at h
    · cases h
    rename_i hl
    simp only [Option.some.injEq, Prod.mk.injEq] at h
    obtain ⟨rfl, rfl, rfl⟩ := h
    have e := hlab (by omega)
    rw [if_pos ⟨h0.1, (hc1 (by omega)).trans h0.2⟩, e, if_neg hl, hp.dropTake]
  rename_i n2
  by_cases h64 : c0 l = 64
  · rw [if_pos h64] at h ⊢
    rw [if_neg (by omega)]
    split at h
    · cases h
    rename_i hl
    simp only [Option.some.injEq, Prod.mk.injEq] at h
    obtain ⟨rfl, rfl, rfl⟩ := h
    have e := htag (by omega)
    rw [e, if_neg hl, hp.dropTake]
  rw [if_neg h64] at h
  by_cases h94 : c0 l = 94 ∧ c1 l = 94
  · rw [if_pos h94] at h
    simp only [Option.some.injEq, Prod.mk.injEq] at h
    obtain ⟨rfl, rfl, rfl⟩ := h
    rw [if_neg (by omega), if_neg h64, if_pos ⟨h94.1, (hc1 (by omega)).trans h94.2⟩]
  rw [if_neg h94] at h
  split at h
  · rename_i h0
    simp only [Option.some.injEq, Prod.mk.injEq] at h
    obtain ⟨rfl, rfl, rfl⟩ := h
    rw [if_neg (by omega), if_neg h64, if_neg (by omega), if_pos h0]
  · cases h
theorem tag_cut (l : List UInt8) (n : Nat) (h : tag l ≤ n) : tag (l.take n) = tag l := by
  have h1 : tag (l.take n) ≤ tag l := by
    have := tag_more (l.take n) (l.drop n)
    rwa [List.take_append_drop] at this
  have h2 := tag_more (l.take (tag l)) ((l.take n).drop (tag l))
  rw [tag_take] at h2
  have e : l.take (tag l) ++ (l.take n).drop (tag l) = l.take n := by
    have := List.take_append_drop (tag l) (l.take n)
    rwa [List.take_take, Nat.min_eq_left h] at this
  rw [e] at h2
  omega
end Lx
end Go.Proofs.YthdlepalglgmoaaGreatDoor
