/- Words of lines, in plain words: what a token hangs on; lines. -/
import Derived.Test.YtheeklkcaapkbaaGreatDoorJLexMath
namespace Go.Proofs.YtheeklkcaapkbaaGreatDoor
namespace Lx
open Go Go.Lib Um

-- valid texts
theorem vld_flat {l : List UInt8} : vld l ↔ ∃ ns : List Int, (∀ x ∈ ns, isB x = true) ∧ l = ns.flatMap encodeRune := by
  constructor
  · intro h
    obtain ⟨h1, h2⟩ := sgn_valid l h
    exact ⟨_, h1, h2.symm⟩
  · rintro ⟨ns, h1, rfl⟩
    unfold vld
    rw [sgn_flat ns h1]
theorem vld_app {a b : List UInt8} (ha : vld a) (hb : vld b) : vld (a ++ b) := by
  obtain ⟨n1, h1, rfl⟩ := vld_flat.1 ha
  obtain ⟨n2, h2, rfl⟩ := vld_flat.1 hb
  refine vld_flat.2 ⟨n1 ++ n2, fun x hx => ?_, List.flatMap_append.symm⟩
  rcases List.mem_append.1 hx with h | h
  · exact h1 x h
  · exact h2 x h
theorem vld_right {a b : List UInt8} (ha : vld a) (h : vld (a ++ b)) : vld b := by
  obtain ⟨n1, h1, rfl⟩ := vld_flat.1 ha
  clear ha
  induction n1 with
  | nil => exact h
  | cons c r ih =>
    have hc := h1 c (by simp)
    rw [List.flatMap_cons, List.append_assoc] at h
    have hp := enc_len_pos c
    have hn := nx_enc_app c hc (r.flatMap encodeRune ++ b)
    have h2 := (vld_nx h (by rw [List.length_append]; omega)).2
    rw [hn, List.drop_left' rfl] at h2
    exact ih (fun x hx => h1 x (by simp [hx])) h2
theorem vld_nil : vld [] := by unfold vld; rw [sgn_nil [] rfl]
theorem vld_ascii : ∀ (l : List UInt8), (∀ i, i < l.length → (l.getD i 0).toNat < 128) → vld l
  | [], _ => vld_nil
  | c :: r, h => by
    unfold vld
    have hn := nx_ascii c r (h 0 (by simp))
    rw [sgn_cons _ (by simp) (by rw [hn]; simp), hn]
    exact vld_ascii r fun i hi => by have := h (i + 1) (by simp; omega); simpa using this
theorem vld_sign1 {l : List UInt8} (h : (nx l).2 ≠ 0) : vld (l.take (nx l).2) := by
  have h1 := nx_enc l h
  rw [h1.2.2.1]
  exact vld_flat.2 ⟨[((nx l).1 : Int)], by simpa using h1.1, by simp⟩
theorem signL_vld {lit : Bool} {l : List UInt8} (h : (signL lit l).2 ≠ 0) : vld (l.take (signL lit l).2) := by
  have hs := signL_spec h
  unfold signL at h hs ⊢
  split at h
  · rename_i h0
    rw [if_pos h0] at hs ⊢
    obtain ⟨e1, e2, e3⟩ := escL_spec h0 h
    refine vld_ascii _ fun i hi => ?_
    rw [List.length_take] at hi
    rw [take_getD _ _ _ (by omega)]
    exact e3 i (by omega)
  · rename_i h0
    rw [if_neg h0] at hs ⊢
    split at h
    · exact absurd rfl h
    · rename_i h1
      rw [if_neg h1]
      exact vld_sign1 h
theorem take_split (l : List UInt8) (a b : Nat) : l.take (a + b) = l.take a ++ (l.drop a).take b := by rw [List.take_add]
theorem inF_vld (lit : Bool) : ∀ (f : Nat) (l : List UInt8) (ns : List Int) (m : Nat), inF f lit l = some (ns, m) → vld (l.take m)
  | 0, _, _, _, h => by cases h
  | f + 1, l, ns, m, h => by
    rw [inF] at h
    split at h
    · cases h
    rename_i h0
    split at h
    · rename_i he
      injection h with h
      injection h with h1 h2
      subst h1 h2
      have hc : c0 l < 128 := by rw [he]; cases lit <;> decide
      refine vld_ascii _ fun i hi => ?_
      rw [List.length_take] at hi
      rw [take_getD _ _ _ (by omega)]
      obtain rfl : i = 0 := by omega
      exact hc
    split at h
    · cases h
    rename_i he hb
    rw [Option.map_eq_some_iff] at h
    obtain ⟨⟨ns', m'⟩, hr, h⟩ := h
    injection h with h1 h2
    subst h1 h2
    show vld (l.take ((signL lit l).2 + m'))
    rw [take_split]
    exact vld_app (signL_vld hb) (inF_vld lit f _ ns' m' hr)
theorem reach_vld {l : List UInt8} {st : Bool} {k b : Nat} (h : Um.Reach l st k b) : vld (l.take k) ∧ (vld l → vld (l.drop k)) := by
  induction h with
  | start => exact ⟨vld_nil, fun h => h⟩
  | step _ hk h0 hm ih =>
    refine ⟨by rw [take_split]; exact vld_app ih.1 (vld_sign1 h0), fun hv => ?_⟩
    have := (vld_nx (ih.2 hv) (by rw [List.length_drop]; omega)).2
    rwa [List.drop_drop] at this
theorem label_vld (l : List UInt8) : vld (l.take (label l)) ∧ (vld l → vld (l.drop (label l))) := by
  obtain ⟨st, h⟩ := label_reach l
  exact reach_vld h
theorem tag_low (l : List UInt8) : ∀ i, i < tag l → (l.getD i 0).toNat < 128 := fun i hi => by
  have h1 := (tag_reach l).bytes i hi
  have h2 := alnum_letter ⟨(l.getD i 0).toNat, (l.getD i 0).toNat_lt⟩ (by
    rcases h1 with h | h
    · exact .inl h
    · exact .inr h)
  exact h2.1
theorem tag_vld (l : List UInt8) : vld (l.take (tag l)) ∧ (vld l → vld (l.drop (tag l))) := by
  refine ⟨vld_ascii _ fun i hi => ?_, fun h => vld_low _ h (tag_le l) (tag_low l)⟩
  rw [List.length_take] at hi
  rw [take_getD _ _ _ (by omega)]
  exact tag_low l i (by omega)
theorem textS_vld {ns : List Int} (h : ns.all isB = true) : vld (textS ns).data.toList := by
  have := sig_text ns h
  unfold sigR at this
  unfold vld
  split at this
  · assumption
  · simp at this
theorem textS_size (ns : List Int) : (textS ns).size ≤ 4 * ns.length := by
  have h1 := encL_length ns
  unfold textS
  rw [show (ByteArray.mk ((encL ns).map fun n => UInt8.ofNat n.toNat).toArray).size = (encL ns).length by simp [ByteArray.size]]
  exact h1
/-- What a token is. -/
theorem tkL_spec {l : List UInt8} {k m : Nat} {x : ByteArray} (h : tkL l = some (k, x, m)) :
    1 ≤ m ∧ m ≤ l.length ∧ vld (l.take m) ∧ (vld l → vld (l.drop m)) ∧ vld x.data.toList ∧ x.size ≤ 4 * m ∧ 1 ≤ k ∧ k ≤ 6 := by
  have low1 : ∀ (c : Nat), c0 l = c → 0 < c → c < 128 → l.length ≠ 0 ∧ vld (l.take 1) ∧ (vld l → vld (l.drop 1)) := by
    intro c h0 hc1 hc
    have hl := c0_len (l := l) (by omega)
    refine ⟨by omega, vld_ascii _ fun i hi => ?_, fun hv => vld_one hv (by omega) (by omega)⟩
    rw [List.length_take] at hi
    rw [take_getD _ _ _ (by omega)]
    obtain rfl : i = 0 := by omega
    show c0 l < 128
    omega
  have low2 : ∀ (c d : Nat), c0 l = c → c1 l = d → 0 < c → c < 128 → 0 < d → d < 128 → 2 ≤ l.length ∧ vld (l.take 2) ∧ (vld l → vld (l.drop 2)) := by
    intro c d h0 h1 hc1 hc hd1 hd
    have hl := c1_len (l := l) (by omega)
    have low : ∀ i, i < 2 → (l.getD i 0).toNat < 128 := fun i hi => by
      match i, hi with
      | 0, _ => show c0 l < 128; omega
      | 1, _ => show c1 l < 128; omega
    refine ⟨by omega, vld_ascii _ fun i hi => ?_, fun hv => vld_low 2 hv (by omega) low⟩
    rw [List.length_take] at hi
    rw [take_getD _ _ _ (by omega)]
    exact low i (by omega)
  unfold tkL at h
  split at h
  · rename_i h0
    obtain ⟨a1, a2, a3⟩ := low1 60 h0 (by omega) (by omega)
    rw [Option.map_eq_some_iff] at h
    obtain ⟨⟨ns, m'⟩, hr, h⟩ := h
    simp only [Prod.mk.injEq] at h
    obtain ⟨rfl, rfl, rfl⟩ := h
    obtain ⟨i1, i2, i3, i4, i5⟩ := inL_spec hr
    rw [List.length_drop] at i2
    have hz := textS_size ns
    refine ⟨by omega, by omega, by rw [take_split]; exact vld_app a2 (inF_vld _ _ _ _ _ hr), fun hv => ?_, textS_vld i3, by omega, by omega, by omega⟩
    have := i5 (a3 hv)
    rwa [List.drop_drop] at this
  split at h
  · rename_i h0
    obtain ⟨a1, a2, a3⟩ := low1 34 h0 (by omega) (by omega)
    rw [Option.map_eq_some_iff] at h
    obtain ⟨⟨ns, m'⟩, hr, h⟩ := h
    simp only [Prod.mk.injEq] at h
    obtain ⟨rfl, rfl, rfl⟩ := h
    obtain ⟨i1, i2, i3, i4, i5⟩ := inL_spec hr
    rw [List.length_drop] at i2
    have hz := textS_size ns
    refine ⟨by omega, by omega, by rw [take_split]; exact vld_app a2 (inF_vld _ _ _ _ _ hr), fun hv => ?_, textS_vld i3, by omega, by omega, by omega⟩
    have := i5 (a3 hv)
    rwa [List.drop_drop] at this
  split at h
  · rename_i h0
    obtain ⟨a1, a2, a3⟩ := low2 95 58 h0.1 h0.2 (by omega) (by omega) (by omega) (by omega)
    split at h
    · cases h
    simp only [Option.some.injEq, Prod.mk.injEq] at h
    obtain ⟨rfl, rfl, rfl⟩ := h
    have hle := label_le (l.drop 2)
    obtain ⟨v1, v2⟩ := label_vld (l.drop 2)
    rw [List.length_drop] at hle
    refine ⟨by omega, by omega, by rw [take_split]; exact vld_app a2 v1, fun hv => ?_, v1, ?_, by omega, by omega⟩
    · have := v2 (a3 hv)
      rwa [List.drop_drop] at this
    · show (List.toArray _).size ≤ _
      rw [List.size_toArray, List.length_take]; omega
  split at h
  · rename_i h0
    obtain ⟨a1, a2, a3⟩ := low1 64 h0 (by omega) (by omega)
    split at h
    · cases h
    simp only [Option.some.injEq, Prod.mk.injEq] at h
    obtain ⟨rfl, rfl, rfl⟩ := h
    have hle := tag_le (l.drop 1)
    obtain ⟨v1, v2⟩ := tag_vld (l.drop 1)
    rw [List.length_drop] at hle
    refine ⟨by omega, by omega, by rw [take_split]; exact vld_app a2 v1, fun hv => ?_, v1, ?_, by omega, by omega⟩
    · have := v2 (a3 hv)
      rwa [List.drop_drop] at this
    · show (List.toArray _).size ≤ _
      rw [List.size_toArray, List.length_take]; omega
  split at h
  · rename_i h0
    obtain ⟨a1, a2, a3⟩ := low2 94 94 h0.1 h0.2 (by omega) (by omega) (by omega) (by omega)
    simp only [Option.some.injEq, Prod.mk.injEq] at h
    obtain ⟨rfl, rfl, rfl⟩ := h
    exact ⟨by omega, a1, a2, a3, vld_nil, by show 0 ≤ _; omega, by omega, by omega⟩
  split at h
  · rename_i h0
    obtain ⟨a1, a2, a3⟩ := low1 46 h0 (by omega) (by omega)
    simp only [Option.some.injEq, Prod.mk.injEq] at h
    obtain ⟨rfl, rfl, rfl⟩ := h
    exact ⟨by omega, by omega, a2, a3, vld_nil, by show 0 ≤ _; omega, by omega, by omega⟩
  · cases h

-- what a token hangs on: lists that begin alike
/-- l' begins as l does, up to n; it has so many bytes. -/
def Pre (n : Nat) (l l' : List UInt8) : Prop := l'.take n = l.take n ∧ n ≤ l'.length ∧ n ≤ l.length
theorem Pre.le {n m : Nat} {l l' : List UInt8} (h : Pre n l l') (hm : m ≤ n) : Pre m l l' := by
  obtain ⟨h1, h2, h3⟩ := h
  exact ⟨Alike.le (k := n) h1 hm, by omega, by omega⟩
theorem Pre.drop {n a : Nat} {l l' : List UInt8} (h : Pre (a + n) l l') : Pre n (l.drop a) (l'.drop a) := by
  obtain ⟨h1, h2, h3⟩ := h
  exact ⟨Alike.drop (k := a) h1, by rw [List.length_drop]; omega, by rw [List.length_drop]; omega⟩
theorem Pre.get {n : Nat} {l l' : List UInt8} (h : Pre n l l') {i : Nat} (hi : i < n) : l'.getD i 0 = l.getD i 0 := Alike.get h.1 i hi
theorem Pre.nx {l l' : List UInt8} (h0 : (nx l).2 ≠ 0) (h : Pre (nx l).2 l l') : nx l' = nx l := by
  have := nx_alike (k := 0) (l := l) (l' := l') (by simpa using h0) (by rw [List.drop_zero, Nat.zero_add]; exact h.1) (by simpa using h.2.1)
  simpa using this
theorem numL_pre {many n : Nat} {l l' : List UInt8} (h : numL many l = some n) (hp : Pre many l l') : numL many l' = some n := by
  unfold numL at h ⊢
  rw [if_neg (by have := hp.2.2; omega)] at h
  rw [if_neg (by have := hp.2.1; omega), hp.1]
  exact h
theorem escL_pre {lit : Bool} {l l' : List UInt8} (h : (escL lit l).2 ≠ 0) (hp : Pre (escL lit l).2 l l') : escL lit l' = escL lit l := by
  have key : 2 ≤ (escL lit l).2 → c1 l' = c1 l := fun h2 => congrArg UInt8.toNat (hp.get (i := 1) (by omega))
  unfold escL at h hp key ⊢
  split at h
  · rename_i h1
    rw [if_pos h1] at hp key ⊢
    cases ho : numL 4 (l.drop 2) with
    | none => rw [ho] at h; exact absurd rfl h
    | some n =>
      rw [ho] at hp key
      have hc := key (by show 2 ≤ 6; omega)
      have hp' : Pre (2 + 4) l l' := hp
      rw [if_pos (hc.trans h1), numL_pre ho hp'.drop]
  · rename_i h1
    rw [if_neg h1] at hp key ⊢
    split at h
    · rename_i h2
      rw [if_pos h2] at hp key ⊢
      cases ho : numL 8 (l.drop 2) with
      | none => rw [ho] at h; exact absurd rfl h
      | some n =>
        rw [ho] at hp key
        have hc := key (by show 2 ≤ 10; omega)
        have hp' : Pre (2 + 8) l l' := hp
        rw [if_neg (fun e => h1 (hc.symm.trans e)), if_pos (hc.trans h2), numL_pre ho hp'.drop]
    · rename_i h2
      rw [if_neg h2] at hp key ⊢
      split at h
      · rename_i h3
        rw [if_pos h3] at hp key ⊢
        cases ho : escOf (c1 l) with
        | none => rw [ho] at h; exact absurd rfl h
        | some n =>
          rw [ho] at hp key
          have hc := key (by show 2 ≤ 2; omega)
          rw [if_neg (fun e => h1 (hc.symm.trans e)), if_neg (fun e => h2 (hc.symm.trans e)), if_pos h3, hc, ho]
      · exact absurd rfl h
theorem signL_pre {lit : Bool} {l l' : List UInt8} (h : (signL lit l).2 ≠ 0) (hp : Pre (signL lit l).2 l l') : signL lit l' = signL lit l := by
  have hc : c0 l' = c0 l := congrArg UInt8.toNat (hp.get (i := 0) (by omega))
  unfold signL at h hp ⊢
  rw [hc]
  split at h
  · rename_i h0
    rw [if_pos h0] at hp ⊢
    rw [if_pos h0]
    exact escL_pre h hp
  · rename_i h0
    rw [if_neg h0] at hp ⊢
    rw [if_neg h0]
    split at h
    · exact absurd rfl h
    · rename_i h1
      rw [if_neg h1] at hp ⊢
      have := hp.nx h
      rw [this, if_neg h1]
theorem inF_pre (lit : Bool) : ∀ (f : Nat) (l l' : List UInt8) (ns : List Int) (m : Nat), inF f lit l = some (ns, m) → Pre m l l' → inF f lit l' = some (ns, m)
  | 0, _, _, _, _, h, _ => by cases h
  | f + 1, l, l', ns, m, h, hp => by
    have hsp := inF_spec lit (f + 1) l ns m h
    have hc : c0 l' = c0 l := congrArg UInt8.toNat (hp.get (i := 0) (by omega))
    have hl' : l'.length ≠ 0 := by have := hp.2.1; omega
    rw [inF] at h ⊢
    split at h
    · cases h
    rename_i h0
    rw [if_neg hl', hc]
    split at h
    · rename_i he
      rw [if_pos he]; exact h
    rename_i he
    rw [if_neg he]
    split at h
    · cases h
    rename_i hb
    rw [Option.map_eq_some_iff] at h
    obtain ⟨⟨ns', m'⟩, hr, h⟩ := h
    injection h with h1 h2
    subst h1 h2
    have hs := signL_pre hb (hp.le (Nat.le_add_right _ _))
    rw [hs, if_neg hb, inF_pre lit f _ (l'.drop (signL lit l).2) ns' m' hr hp.drop]
    rfl
theorem inL_pre {lit : Bool} {l l' : List UInt8} {ns : List Int} {m : Nat} (h : inL lit l = some (ns, m)) (hp : Pre m l l') : inL lit l' = some (ns, m) := by
  unfold inL at h ⊢
  have h1 : inF (l.length + l'.length + 1) lit l = some (ns, m) := by rw [inF_more _ (l.length + 1) lit l (by omega) (by omega)]; exact h
  have h2 := inF_pre lit _ l l' ns m h1 hp
  rwa [inF_more _ (l'.length + 1) lit l' (by omega) (by omega)] at h2
theorem Pre.dropTake {n a : Nat} {l l' : List UInt8} (h : Pre (a + n) l l') : (l'.drop a).take n = (l.drop a).take n := h.drop.1
/-- A token hangs on its own bytes, and on whether the label, the tag goes on. -/
theorem tkL_pre {l l' : List UInt8} {k m : Nat} {x : ByteArray} (h : tkL l = some (k, x, m)) (hp : Pre m l l') (hlab : label (l.drop 2) + 2 = m → label (l'.drop 2) = label (l.drop 2)) (htag : tag (l.drop 1) + 1 = m → tag (l'.drop 1) = tag (l.drop 1)) :
    tkL l' = some (k, x, m) := by
  have hsp := tkL_spec h
  have hc : c0 l' = c0 l := congrArg UInt8.toNat (hp.get (i := 0) (by omega))
  have hc1 : 2 ≤ m → c1 l' = c1 l := fun h2 => congrArg UInt8.toNat (hp.get (i := 1) (by omega))
  unfold tkL at h ⊢
  rw [hc]
  split at h
  · rename_i h0
    rw [if_pos h0]
    rw [Option.map_eq_some_iff] at h
    obtain ⟨⟨ns, m'⟩, hr, h⟩ := h
    simp only [Prod.mk.injEq] at h
    obtain ⟨rfl, rfl, rfl⟩ := h
    rw [inL_pre hr hp.drop]; rfl
  rename_i n0
  rw [if_neg n0]
  split at h
  · rename_i h0
    rw [if_pos h0]
    rw [Option.map_eq_some_iff] at h
    obtain ⟨⟨ns, m'⟩, hr, h⟩ := h
    simp only [Prod.mk.injEq] at h
    obtain ⟨rfl, rfl, rfl⟩ := h
    rw [inL_pre hr hp.drop]; rfl
  rename_i n1
  rw [if_neg n1]
  split at h
  · rename_i h0
    split at h
    · cases h
    rename_i hl
    simp only [Option.some.injEq, Prod.mk.injEq] at h
    obtain ⟨rfl, rfl, rfl⟩ := h
    have e := hlab (by omega)
    rw [if_pos ⟨h0.1, (hc1 (by omega)).trans h0.2⟩, e, if_neg hl, hp.dropTake]
  rename_i n2
  by_cases h64 : c0 l = 64
  · rw [if_pos h64] at h ⊢
    rw [if_neg (by omega)]
    split at h
    · cases h
    rename_i hl
    simp only [Option.some.injEq, Prod.mk.injEq] at h
    obtain ⟨rfl, rfl, rfl⟩ := h
    have e := htag (by omega)
    rw [e, if_neg hl, hp.dropTake]
  rw [if_neg h64] at h
  by_cases h94 : c0 l = 94 ∧ c1 l = 94
  · rw [if_pos h94] at h
    simp only [Option.some.injEq, Prod.mk.injEq] at h
    obtain ⟨rfl, rfl, rfl⟩ := h
    rw [if_neg (by omega), if_neg h64, if_pos ⟨h94.1, (hc1 (by omega)).trans h94.2⟩]
  rw [if_neg h94] at h
  split at h
  · rename_i h0
    simp only [Option.some.injEq, Prod.mk.injEq] at h
    obtain ⟨rfl, rfl, rfl⟩ := h
    rw [if_neg (by omega), if_neg h64, if_neg (by omega), if_pos h0]
  · cases h
theorem pre_take {l : List UInt8} {n m : Nat} (hm : m ≤ n) (hl : m ≤ l.length) : Pre m l (l.take n) := by
  refine ⟨?_, by rw [List.length_take]; omega, hl⟩
  rw [List.take_take, Nat.min_eq_left hm]
theorem label_cut (l : List UInt8) (n : Nat) (h : label l ≤ n) : label (l.take n) = label l := by
  have h1 : label (l.take n) ≤ label l := by
    have := label_more (l.take n) (l.drop n)
    rwa [List.take_append_drop] at this
  have h2 := label_more (l.take (label l)) ((l.take n).drop (label l))
  rw [label_take] at h2
  have e : l.take (label l) ++ (l.take n).drop (label l) = l.take n := by
    have := List.take_append_drop (label l) (l.take n)
    rwa [List.take_take, Nat.min_eq_left h] at this
  rw [e] at h2
  omega
theorem tag_cut (l : List UInt8) (n : Nat) (h : tag l ≤ n) : tag (l.take n) = tag l := by
  have h1 : tag (l.take n) ≤ tag l := by
    have := tag_more (l.take n) (l.drop n)
    rwa [List.take_append_drop] at this
  have h2 := tag_more (l.take (tag l)) ((l.take n).drop (tag l))
  rw [tag_take] at h2
  have e : l.take (tag l) ++ (l.take n).drop (tag l) = l.take n := by
    have := List.take_append_drop (tag l) (l.take n)
    rwa [List.take_take, Nat.min_eq_left h] at this
  rw [e] at h2
  omega
/-- Cut behind itself, a token is the same. -/
theorem tkL_take {l : List UInt8} {k m n : Nat} {x : ByteArray} (h : tkL l = some (k, x, m)) (hn : m ≤ n) : tkL (l.take n) = some (k, x, m) := by
  have hsp := tkL_spec h
  refine tkL_pre h (pre_take hn hsp.2.1) (fun e => ?_) (fun e => ?_)
  · rw [List.drop_take]
    exact label_cut _ _ (by omega)
  · rw [List.drop_take]
    exact tag_cut _ _ (by omega)
end Lx
end Go.Proofs.YtheeklkcaapkbaaGreatDoor
