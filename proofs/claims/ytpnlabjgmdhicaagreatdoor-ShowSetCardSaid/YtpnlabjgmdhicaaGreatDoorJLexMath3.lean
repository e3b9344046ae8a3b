/- Words of lines, in plain words: lines, their parts, longer lines. -/
import Derived.Test.YtpnlabjgmdhicaaGreatDoorJLexMath2
namespace Go.Proofs.YtpnlabjgmdhicaaGreatDoor
namespace Lx
open Go Go.Lib Um

def blankC (c : Nat) : Prop := c = 32 ∨ c = 9
theorem tkL_c0 {l : List UInt8} {y : Nat × ByteArray × Nat} (h : tkL l = some y) : l.length ≠ 0 ∧ c0 l ≠ 35 ∧ ¬ blankC (c0 l) := by
  have h0 := tkL_spec (k := y.1) (x := y.2.1) (m := y.2.2) h
  refine ⟨by omega, ?_, ?_⟩
  · intro e
    unfold tkL at h
    repeat' split at h
    all_goals (first | omega | cases h)
  · intro e
    unfold blankC at e
    unfold tkL at h
    repeat' split at h
    all_goals (first | omega | cases h)
theorem lnF_more (f g : Nat) : ∀ (l : List UInt8) (p : Nat), l.length < f → l.length < g → lnF f l p = lnF g l p := by
  induction f generalizing g with
  | zero => intro l p h; omega
  | succ f ih =>
    intro l p h1 h2
    cases g with
    | zero => omega
    | succ g =>
      simp only [lnF]
      split
      · rfl
      rename_i hs
      split
      · exact ih g _ _ (by rw [List.length_drop]; omega) (by rw [List.length_drop]; omega)
      · split
        · rfl
        · rename_i k x m ht
          have := (tkL_spec ht).1
          rw [ih g _ _ (by rw [List.length_drop]; omega) (by rw [List.length_drop]; omega)]
theorem lnL_stop {l : List UInt8} (p : Nat) (h : l.length = 0 ∨ c0 l = 35) : lnL l p = .ok [] := by unfold lnL; rw [lnF, if_pos h]
theorem lnL_blank {l : List UInt8} (p : Nat) (h0 : l.length ≠ 0) (h : blankC (c0 l)) : lnL l p = lnL (l.drop 1) (p + 1) := by
  unfold lnL
  have hs : ¬ (l.length = 0 ∨ c0 l = 35) := by unfold blankC at h; omega
  rw [lnF, if_neg hs, if_pos (show c0 l = 32 ∨ c0 l = 9 from h)]
  exact lnF_more _ _ _ _ (by rw [List.length_drop]; omega) (by omega)
theorem lnL_bad {l : List UInt8} (p : Nat) (h0 : l.length ≠ 0) (h1 : c0 l ≠ 35) (h : ¬ blankC (c0 l)) (ht : tkL l = none) : lnL l p = .error p := by
  unfold lnL
  rw [lnF, if_neg (by omega), if_neg (show ¬ (c0 l = 32 ∨ c0 l = 9) from h), ht]
theorem lnL_tok {l : List UInt8} (p : Nat) {k m : Nat} {x : ByteArray} (ht : tkL l = some (k, x, m)) : lnL l p = (lnL (l.drop m) (p + m)).map fun ts => ⟨k, x, p⟩ :: ts := by
  obtain ⟨h0, h1, h2⟩ := tkL_c0 ht
  have hm := (tkL_spec ht).1
  unfold lnL
  rw [lnF, if_neg (by omega), if_neg (show ¬ (c0 l = 32 ∨ c0 l = 9) from h2), ht]
  simp only
  rw [lnF_more l.length ((l.drop m).length + 1) _ _ (by rw [List.length_drop]; omega) (by omega)]
/-- By cases on how a line goes on. -/
theorem ln_ind {P : List UInt8 → Prop} (stop : ∀ l : List UInt8, l.length = 0 ∨ c0 l = 35 → P l) (blank : ∀ l : List UInt8, l.length ≠ 0 → blankC (c0 l) → P (l.drop 1) → P l)
    (bad : ∀ l : List UInt8, l.length ≠ 0 → c0 l ≠ 35 → ¬ blankC (c0 l) → tkL l = none → P l) (tok : ∀ (l : List UInt8) (k m : Nat) (x : ByteArray), tkL l = some (k, x, m) → P (l.drop m) → P l) : ∀ l, P l := by
  have key : ∀ n : Nat, ∀ l : List UInt8, l.length ≤ n → P l := by
    intro n
    induction n with
    | zero => intro l h; exact stop l (.inl (by omega))
    | succ n ih =>
      intro l h
      by_cases hs : l.length = 0 ∨ c0 l = 35
      · exact stop l hs
      by_cases hb : blankC (c0 l)
      · exact blank l (by omega) hb (ih _ (by rw [List.length_drop]; omega))
      cases ht : tkL l with
      | none => exact bad l (by omega) (by omega) hb ht
      | some y =>
        obtain ⟨k, x, m⟩ := y
        have := (tkL_spec ht).1
        exact tok l k m x ht (ih _ (by rw [List.length_drop]; omega))
  intro l
  exact key l.length l (Nat.le_refl _)
def shT (d : Nat) (t : LTok) : LTok := ⟨t.k, t.x, t.p + d⟩
def shE (d : Nat) : Except Nat (List LTok) → Except Nat (List LTok)
  | .ok ts => .ok (ts.map (shT d))
  | .error e => .error (e + d)
theorem lnL_shift (d : Nat) : ∀ (l : List UInt8) (p : Nat), lnL l (p + d) = shE d (lnL l p) := by
  refine ln_ind ?_ ?_ ?_ ?_
  · intro l h p; rw [lnL_stop _ h, lnL_stop _ h]; rfl
  · intro l h0 h ih p; rw [lnL_blank _ h0 h, lnL_blank _ h0 h, ← ih (p + 1)]; congr 1; omega
  · intro l h0 h1 h ht p; rw [lnL_bad _ h0 h1 h ht, lnL_bad _ h0 h1 h ht]; rfl
  · intro l k m x ht ih p
    rw [lnL_tok _ ht, lnL_tok _ ht, show p + d + m = p + m + d by omega, ih]
    cases lnL (l.drop m) (p + m) <;> rfl
/-- What is still to be read of a line. -/
def lnRest (l : List UInt8) (k : Nat) (acc : List LTok) : Prop := lnL l 0 = (lnL (l.drop k) k).map fun ts => acc ++ ts
theorem lnRest_start (l : List UInt8) : lnRest l 0 [] := by
  unfold lnRest
  rw [List.drop_zero]
  cases lnL l 0 <;> rfl
theorem lnRest_stop {l : List UInt8} {k : Nat} {acc : List LTok} (h : lnRest l k acc) (hs : l.length ≤ k ∨ c0 (l.drop k) = 35) : lnL l 0 = .ok acc := by
  unfold lnRest at h
  rw [h, lnL_stop k (by rw [List.length_drop]; omega)]
  simp [Except.map]
theorem lnRest_blank {l : List UInt8} {k : Nat} {acc : List LTok} (h : lnRest l k acc) (hk : k < l.length) (hb : blankC (c0 (l.drop k))) : lnRest l (k + 1) acc := by
  unfold lnRest at h ⊢
  rw [h, lnL_blank k (by rw [List.length_drop]; omega) hb, List.drop_drop]
theorem lnRest_bad {l : List UInt8} {k : Nat} {acc : List LTok} (h : lnRest l k acc) (hk : k < l.length) (h1 : c0 (l.drop k) ≠ 35) (hb : ¬ blankC (c0 (l.drop k))) (ht : tkL (l.drop k) = none) : lnL l 0 = .error k := by
  unfold lnRest at h
  rw [h, lnL_bad k (by rw [List.length_drop]; omega) h1 hb ht]; rfl
theorem lnRest_tok {l : List UInt8} {n : Nat} {acc : List LTok} (h : lnRest l n acc) {k m : Nat} {x : ByteArray} (ht : tkL (l.drop n) = some (k, x, m)) : lnRest l (n + m) (acc ++ [⟨k, x, n⟩]) := by
  unfold lnRest at h ⊢
  rw [h, lnL_tok n ht, List.drop_drop]
  cases lnL (l.drop (n + m)) (n + m) with
  | error e => rfl
  | ok ts => simp [Except.map]
/-- So many tokens at most. -/
theorem lnL_len : ∀ (l : List UInt8) (p : Nat) (ts : List LTok), lnL l p = .ok ts → ts.length ≤ l.length := by
  refine ln_ind ?_ ?_ ?_ ?_
  · intro l h p ts e; rw [lnL_stop _ h] at e; cases e; simp
  · intro l h0 h ih p ts e
    rw [lnL_blank _ h0 h] at e
    have := ih _ _ e
    rw [List.length_drop] at this; omega
  · intro l h0 h1 h ht p ts e; rw [lnL_bad _ h0 h1 h ht] at e; cases e
  · intro l k m x ht ih p ts e
    rw [lnL_tok _ ht] at e
    have hs := tkL_spec ht
    cases hr : lnL (l.drop m) (p + m) with
    | error b => rw [hr] at e; cases e
    | ok r =>
      rw [hr] at e
      cases e
      have := ih _ _ hr
      rw [List.length_drop] at this
      rw [List.length_cons]; omega

-- parts
/-- How many blanks a line begins with. -/
def sk : List UInt8 → Nat
  | [] => 0
  | c :: r => if c.toNat = 32 ∨ c.toNat = 9 then sk r + 1 else 0
theorem sk_le : ∀ l : List UInt8, sk l ≤ l.length
  | [] => by simp [sk]
  | c :: r => by have := sk_le r; unfold sk; split <;> simp <;> omega
theorem sk_blank {l : List UInt8} (h0 : l.length ≠ 0) (h : blankC (c0 l)) : sk l = sk (l.drop 1) + 1 := by
  cases l with
  | nil => exact absurd rfl h0
  | cons c r => rw [sk, if_pos (show c.toNat = 32 ∨ c.toNat = 9 from h)]; rfl
theorem sk_no {l : List UInt8} (h : ¬ blankC (c0 l)) : sk l = 0 := by
  cases l with
  | nil => rfl
  | cons c r => rw [sk, if_neg (show ¬ (c.toNat = 32 ∨ c.toNat = 9) from h)]
theorem sk_get : ∀ (l : List UInt8) (i : Nat), i < sk l → blankC (l.getD i 0).toNat
  | [], i, h => by simp [sk] at h
  | c :: r, i, h => by
    unfold sk at h
    split at h
    · rename_i hc
      cases i with
      | zero => exact hc
      | succ i => simpa using sk_get r i (by omega)
    · omega
theorem blanks_vld {l : List UInt8} (h : ∀ i, i < l.length → blankC (l.getD i 0).toNat) : vld l := vld_ascii _ fun i hi => by have := h i hi; unfold blankC at this; omega
theorem lnL_blanks : ∀ (l : List UInt8) (p : Nat), (∀ i, i < l.length → blankC (l.getD i 0).toNat) → lnL l p = .ok []
  | [], p, _ => lnL_stop p (.inl rfl)
  | c :: r, p, h => by
    rw [lnL_blank p (by simp) (h 0 (by simp))]
    exact lnL_blanks r _ fun i hi => by have := h (i + 1) (by simp; omega); simpa using this
theorem take_get {l : List UInt8} {n i : Nat} (hi : i < (l.take n).length) : (l.take n).getD i 0 = l.getD i 0 := take_getD _ _ _ (by rw [List.length_take] at hi; omega)
/-- A line that has tokens: the first one, and the rest. -/
theorem lnL_cons : ∀ (l : List UInt8) (p : Nat) (t : LTok) (r : List LTok), lnL l p = .ok (t :: r) →
    ∃ m, t.p = p + sk l ∧ tkL (l.drop (sk l)) = some (t.k, t.x, m) ∧ lnL (l.drop (sk l + m)) (p + sk l + m) = .ok r ∧ sk l + m ≤ l.length := by
  refine ln_ind ?_ ?_ ?_ ?_
  · intro l h p t r e; rw [lnL_stop _ h] at e; cases e
  · intro l h0 h ih p t r e
    rw [lnL_blank _ h0 h] at e
    obtain ⟨m, h1, h2, h3, h4⟩ := ih _ _ _ e
    rw [List.drop_drop] at h2
    rw [List.drop_drop] at h3
    rw [List.length_drop] at h4
    rw [sk_blank h0 h]
    refine ⟨m, by omega, by rw [Nat.add_comm]; exact h2, ?_, by omega⟩
    rw [show sk (l.drop 1) + 1 + m = 1 + (sk (l.drop 1) + m) by omega, show p + (sk (l.drop 1) + 1) + m = p + 1 + sk (l.drop 1) + m by omega]
    exact h3
  · intro l h0 h1 h ht p t r e; rw [lnL_bad _ h0 h1 h ht] at e; cases e
  · intro l k m x ht ih p t r e
    have hb := (tkL_c0 ht).2.2
    rw [lnL_tok _ ht] at e
    cases hr : lnL (l.drop m) (p + m) with
    | error b => rw [hr] at e; cases e
    | ok r' =>
      rw [hr] at e
      cases e
      rw [sk_no hb]
      exact ⟨m, rfl, by rw [List.drop_zero]; exact ht, by rw [Nat.zero_add, Nat.add_zero]; exact hr, by rw [Nat.zero_add]; exact (tkL_spec ht).2.1⟩
/-- The token alone, with blanks behind it. -/
theorem lnL_one {l : List UInt8} {k m n : Nat} {x : ByteArray} (ht : tkL l = some (k, x, m)) (hn : m ≤ n) (h : lnL ((l.take n).drop m) 0 = .ok []) : lnL (l.take n) 0 = .ok [⟨k, x, 0⟩] := by
  rw [lnL_tok 0 (tkL_take ht hn), lnL_shift m _ 0, h]; rfl
/-- Where a token's part ends. -/
def endP (ts : List LTok) (n i : Nat) : Nat := (ts[i + 1]?.map (·.p)).getD n
theorem lnL_parts : ∀ (i : Nat) (l : List UInt8) (p : Nat) (ts : List LTok) (t : LTok), lnL l p = .ok ts → ts[i]? = some t →
    ∃ a b, t.p = p + a ∧ endP ts (p + l.length) i = p + b ∧ a < b ∧ b ≤ l.length ∧ (vld l → vld ((l.take b).drop a)) ∧ lnL ((l.take b).drop a) 0 = .ok [⟨t.k, t.x, 0⟩] ∧ vld t.x.data.toList
  | 0, l, p, ts, t, h, ht => by
    cases ts with
    | nil => cases ht
    | cons t0 r =>
      simp at ht
      subst ht
      obtain ⟨m, h1, h2, h3, h4⟩ := lnL_cons l p _ r h
      have hs := tkL_spec h2
      have hv0 : vld l → vld (l.drop (sk l)) := fun hv => vld_low _ hv (sk_le l) fun i hi => by have := sk_get l i hi; unfold blankC at this; omega
      cases r with
      | nil =>
        refine ⟨sk l, l.length, h1, rfl, by omega, Nat.le_refl _, fun hv => by rw [List.take_length]; exact hv0 hv, ?_, hs.2.2.2.2.1⟩
        rw [List.take_length, lnL_tok 0 h2, List.drop_drop, lnL_shift m _ 0]
        have h3' : lnL (l.drop (sk l + m)) (0 + (p + sk l + m)) = .ok [] := by rw [Nat.zero_add]; exact h3
        rw [lnL_shift] at h3'
        cases hr : lnL (l.drop (sk l + m)) 0 with
        | error e => rw [hr] at h3'; cases h3'
        | ok z =>
          rw [hr] at h3'
          cases z with
          | nil => rfl
          | cons a b => cases h3'
      | cons t1 r1 =>
        obtain ⟨m1, k1, k2, k3, k4⟩ := lnL_cons _ _ _ _ h3
        have hsk := sk_le (l.drop (sk l + m))
        rw [List.length_drop] at hsk
        have e0 : (l.take (sk l + m + sk (l.drop (sk l + m)))).drop (sk l) = (l.drop (sk l)).take (m + sk (l.drop (sk l + m))) := by
          rw [List.drop_take]; congr 1; omega
        refine ⟨sk l, sk l + m + sk (l.drop (sk l + m)), h1, ?_, by omega, by omega, fun hv => ?_, ?_, hs.2.2.2.2.1⟩
        · show t1.p = _
          rw [k1]; omega
        · rw [e0, take_split]
          refine vld_app hs.2.2.1 (blanks_vld fun i hi => ?_)
          rw [List.drop_drop] at hi ⊢
          rw [take_get hi]
          rw [List.length_take] at hi
          exact sk_get _ i (by omega)
        · rw [e0]
          refine lnL_one h2 (by omega) (lnL_blanks _ _ fun i hi => ?_)
          rw [List.drop_take, List.drop_drop] at hi ⊢
          rw [take_get hi]
          rw [List.length_take] at hi
          exact sk_get _ i (by omega)
  | i + 1, l, p, ts, t, h, ht => by
    cases ts with
    | nil => cases ht
    | cons t0 r =>
      obtain ⟨m, h1, h2, h3, h4⟩ := lnL_cons l p _ r h
      have hs := tkL_spec h2
      obtain ⟨a, b, k1, k2, k3, k4, k5, k6, k7⟩ := lnL_parts i _ _ r t h3 (by simpa using ht)
      have hv0 : vld l → vld (l.drop (sk l)) := fun hv => vld_low _ hv (sk_le l) fun i hi => by have := sk_get l i hi; unfold blankC at this; omega
      rw [List.length_drop] at k4
      have e0 : (l.take (sk l + m + b)).drop (sk l + m + a) = ((l.drop (sk l + m)).take b).drop a := by
        rw [List.drop_take, List.drop_take, List.drop_drop]; congr 1; omega
      refine ⟨sk l + m + a, sk l + m + b, by omega, ?_, by omega, by omega, fun hv => ?_, by rw [e0]; exact k6, k7⟩
      · have e1 : endP (t0 :: r) (p + l.length) (i + 1) = endP r (p + sk l + m + (l.drop (sk l + m)).length) i := by
          unfold endP
          rw [List.getElem?_cons_succ, List.length_drop]
          congr 1; omega
        rw [e1, k2]; omega
      · rw [e0]
        refine k5 ?_
        have := hs.2.2.2.1 (hv0 hv)
        rwa [List.drop_drop] at this
theorem c0_take {l : List UInt8} {n : Nat} (hn : 0 < n) : c0 (l.take n) = c0 l := congrArg UInt8.toNat (take_getD l n 0 hn)
/-- Where there is no token. -/
theorem lnL_err : ∀ (l : List UInt8) (p e : Nat), lnL l p = .error e →
    ∃ a, e = p + a ∧ a < l.length ∧ lnL (l.drop a) 0 = .error 0 ∧ (∃ ts, lnL (l.take a) p = .ok ts ∧ ts.length ≤ a) ∧ (vld l → vld (l.take a) ∧ vld (l.drop a)) := by
  refine ln_ind ?_ ?_ ?_ ?_
  · intro l h p e he; rw [lnL_stop _ h] at he; cases he
  · intro l h0 h ih p e he
    rw [lnL_blank _ h0 h] at he
    obtain ⟨a, h1, h2, h3, ⟨ts, h4, h5⟩, h6⟩ := ih _ _ he
    rw [List.drop_drop] at h3 h6
    rw [List.length_drop] at h2
    have hb : c0 l < 128 := by unfold blankC at h; omega
    refine ⟨1 + a, by omega, by omega, h3, ⟨ts, ?_, by omega⟩, fun hv => ?_⟩
    · rw [lnL_blank p (by rw [List.length_take]; omega) (by rw [c0_take (by omega)]; exact h), List.drop_take, show 1 + a - 1 = a by omega]
      exact h4
    · obtain ⟨v1, v2⟩ := h6 (vld_one hv h0 hb)
      refine ⟨?_, v2⟩
      rw [take_split]
      refine vld_app (vld_ascii _ fun i hi => ?_) v1
      rw [List.length_take] at hi
      rw [take_getD _ _ _ (by omega)]
      obtain rfl : i = 0 := by omega
      exact hb
  · intro l h0 h1 h ht p e he
    rw [lnL_bad _ h0 h1 h ht] at he
    cases he
    refine ⟨0, rfl, by omega, by rw [List.drop_zero]; exact lnL_bad 0 h0 h1 h ht, ⟨[], lnL_stop _ (.inl rfl), Nat.le_refl _⟩, fun hv => ⟨vld_nil, by rw [List.drop_zero]; exact hv⟩⟩
  · intro l k m x ht ih p e he
    rw [lnL_tok _ ht] at he
    have hs := tkL_spec ht
    cases hr : lnL (l.drop m) (p + m) with
    | ok r => rw [hr] at he; cases he
    | error b =>
      rw [hr] at he
      cases he
      obtain ⟨a, h1, h2, h3, ⟨ts, h4, h5⟩, h6⟩ := ih _ _ hr
      rw [List.drop_drop] at h3 h6
      rw [List.length_drop] at h2
      refine ⟨m + a, by omega, by omega, h3, ⟨⟨k, x, p⟩ :: ts, ?_, by rw [List.length_cons]; omega⟩, fun hv => ?_⟩
      · rw [lnL_tok p (tkL_take ht (Nat.le_add_right m a)), List.drop_take, show m + a - m = a by omega, h4]; rfl
      · obtain ⟨v1, v2⟩ := h6 (hs.2.2.2.1 hv)
        exact ⟨by rw [take_split]; exact vld_app hs.2.2.1 v1, v2⟩

-- longer lines
theorem c0_app {a u : List UInt8} (h : a.length ≠ 0) : c0 (a ++ u) = c0 a := by
  cases a with
  | nil => exact absurd rfl h
  | cons c r => rfl
theorem pre_app (l u : List UInt8) {m : Nat} (h : m ≤ l.length) : Pre m l (l ++ u) := ⟨List.take_append_of_le_length h, by rw [List.length_append]; omega, h⟩
theorem nx_app {b : List UInt8} (u : List UInt8) (h : (nx b).2 ≠ 0) : nx (b ++ u) = nx b := (pre_app b u (nx_isB h).2.1).nx h
theorem labF_app {u : List UInt8} (hu : u.length ≠ 0) (hc : blankC (c0 u)) : ∀ (f g : Nat) (st : Bool) (b : List UInt8) (k best : Nat), vld b → (b ++ u).length < f → b.length < g → labF f st (b ++ u) k best = labF g st b k best
  | 0, _, _, _, _, _, _, h, _ => by omega
  | f + 1, 0, _, _, _, _, _, _, h => by omega
  | f + 1, g + 1, st, b, k, best, hv, h1, h2 => by
    by_cases h0 : b.length = 0
    · have hb : b = [] := List.eq_nil_of_length_eq_zero h0
      subst hb
      have hn := nx_low hu (show c0 u < 128 by unfold blankC at hc; omega)
      have hm : mayB st ((c0 u : Nat) : Int) = false := by
        rcases hc with h | h <;> rw [h] <;> cases st <;> decide
      have e1 : labF (g + 1) st [] k best = best := by rw [labF, if_pos (.inl rfl)]
      have e2 : labF (f + 1) st u k best = best := by
        rw [labF, hn, if_neg (by simp only; omega), if_pos hm]
      rw [List.nil_append, e1, e2]
    · obtain ⟨n1, n2⟩ := vld_nx hv h0
      have hl := (nx_isB n1).2.1
      have hlen : (b ++ u).length ≠ 0 := by rw [List.length_append]; omega
      have hd : (b ++ u).drop (nx b).2 = b.drop (nx b).2 ++ u := List.drop_append_of_le_length hl
      have ih := fun k' best' => labF_app hu hc f g false (b.drop (nx b).2) k' best' n2 (by rw [List.length_append, List.length_drop]; rw [List.length_append] at h1; omega) (by rw [List.length_drop]; omega)
      have e1 : labF (g + 1) st b k best = if mayB st (nx b).1 = false then best else labF g false (b.drop (nx b).2) (k + (nx b).2) (if (nx b).1 = 46 then best else k + (nx b).2) := by rw [labF, if_neg (by omega)]
      have e2 : labF (f + 1) st (b ++ u) k best = if mayB st (nx b).1 = false then best else labF f false (b.drop (nx b).2 ++ u) (k + (nx b).2) (if (nx b).1 = 46 then best else k + (nx b).2) := by rw [labF, nx_app u n1, if_neg (by omega), hd]
      rw [e1, e2]
      split
      · rfl
      · exact ih _ _
theorem label_app {b u : List UInt8} (hv : vld b) (hu : u.length ≠ 0) (hc : blankC (c0 u)) : label (b ++ u) = label b := by
  unfold label
  exact labF_app hu hc _ _ true b 0 0 hv (by omega) (by omega)
theorem tag_app {b u : List UInt8} (_hu : u.length ≠ 0) (hc : blankC (c0 u)) : tag (b ++ u) = tag b := by
  have h1 := tag_more b u
  have hn : tag (b ++ u) ≤ b.length := by
    rcases Nat.lt_or_ge b.length (tag (b ++ u)) with h | h
    · have h2 := (tag_reach (b ++ u)).bytes b.length h
      have e : (b ++ u).getD b.length 0 = u.getD 0 0 := by
        rw [List.getD_eq_getElem?_getD, List.getElem?_append_right (Nat.le_refl _), Nat.sub_self, ← List.getD_eq_getElem?_getD]
      rw [e] at h2
      have h3 : c0 u = 32 ∨ c0 u = 9 := hc
      have h4 : (u.getD 0 0).toNat = c0 u := rfl
      rw [h4] at h2
      rcases h3 with h3 | h3 <;> rw [h3] at h2 <;> rcases h2 with h2 | h2 <;> first | omega | exact absurd h2 (by decide)
    · exact h
  have h2 := tag_cut (b ++ u) (tag (b ++ u)) (Nat.le_refl _)
  rw [List.take_append_of_le_length hn] at h2
  have h3 := tag_more (b.take (tag (b ++ u))) (b.drop (tag (b ++ u)))
  rw [List.take_append_drop, h2] at h3
  omega
theorem tkL_app {l u : List UInt8} {k m : Nat} {x : ByteArray} (h : tkL l = some (k, x, m)) (hv : vld l) (hu : u.length ≠ 0) (hc : blankC (c0 u)) : tkL (l ++ u) = some (k, x, m) := by
  have hs := tkL_spec h
  refine tkL_pre h (pre_app l u hs.2.1) (fun e => ?_) (fun e => ?_)
  · by_cases h2 : 2 ≤ l.length
    · rw [List.drop_append_of_le_length h2]
      by_cases hd : c0 l = 95 ∧ c1 l = 58
      · exact label_app (vld_low 2 hv h2 fun i hi => by
          match i, hi with
          | 0, _ => show c0 l < 128; omega
          | 1, _ => show c1 l < 128; omega) hu hc
      · -- any other token that has so many bytes has a label of none, or it does not matter
        by_cases h1 : vld (l.drop 2)
        · exact label_app h1 hu hc
        · exfalso
          apply h1
          have := hs.2.2.2.1 hv
          have hl := label_vld (l.drop 2)
          rw [show m = 2 + label (l.drop 2) by omega, ← List.drop_drop] at this
          have := vld_app hl.1 this
          rwa [List.take_append_drop] at this
    · omega
  · by_cases h1 : 1 ≤ l.length
    · rw [List.drop_append_of_le_length h1]
      exact tag_app hu hc
    · omega
theorem drop_app {a u : List UInt8} {m : Nat} (h : m ≤ a.length) : (a ++ u).drop m = a.drop m ++ u := List.drop_append_of_le_length h
/-- Does a line end within a remark? -/
theorem lnL_app : ∀ (a : List UInt8) (p : Nat) (ts : List LTok), vld a → lnL a p = .ok ts →
    (∀ u : List UInt8, u.length ≠ 0 → blankC (c0 u) → lnL (a ++ u) p = .ok ts) ∨ (∀ u : List UInt8, u.length ≠ 0 → blankC (c0 u) → lnL (a ++ u) p = (lnL u (p + a.length)).map fun r => ts ++ r) := by
  refine ln_ind ?_ ?_ ?_ ?_
  · intro a h p ts hv e
    rw [lnL_stop _ h] at e
    cases e
    by_cases h0 : a.length = 0
    · right
      intro u _ _
      have : a = [] := List.eq_nil_of_length_eq_zero h0
      subst this
      rw [List.nil_append]
      show lnL u p = (lnL u (p + 0)).map _
      rw [Nat.add_zero]
      cases lnL u p <;> rfl
    · left
      intro u _ _
      exact lnL_stop _ (.inr (by rw [c0_app h0]; omega))
  · intro a h0 h ih p ts hv e
    rw [lnL_blank _ h0 h] at e
    have hv1 := vld_one hv h0 (by unfold blankC at h; omega)
    have hd : ∀ u : List UInt8, lnL (a ++ u) p = lnL (a.drop 1 ++ u) (p + 1) := fun u => by
      rw [lnL_blank p (by rw [List.length_append]; omega) (by rw [c0_app h0]; exact h), drop_app (by omega)]
    rcases ih _ _ hv1 e with h1 | h1
    · exact .inl fun u hu hc => by rw [hd]; exact h1 u hu hc
    · refine .inr fun u hu hc => ?_
      rw [hd, h1 u hu hc, List.length_drop, show p + 1 + (a.length - 1) = p + a.length by omega]
  · intro a h0 h1 h ht p ts hv e; rw [lnL_bad _ h0 h1 h ht] at e; cases e
  · intro a k m x ht ih p ts hv e
    rw [lnL_tok _ ht] at e
    have hs := tkL_spec ht
    cases hr : lnL (a.drop m) (p + m) with
    | error b => rw [hr] at e; cases e
    | ok r =>
      rw [hr] at e
      cases e
      have hd : ∀ u : List UInt8, u.length ≠ 0 → blankC (c0 u) → lnL (a ++ u) p = (lnL (a.drop m ++ u) (p + m)).map fun ts => ⟨k, x, p⟩ :: ts := fun u hu hc => by
        rw [lnL_tok p (tkL_app ht hv hu hc), drop_app hs.2.1]
      rcases ih _ _ (hs.2.2.2.1 hv) hr with h1 | h1
      · exact .inl fun u hu hc => by rw [hd u hu hc, h1 u hu hc]; rfl
      · refine .inr fun u hu hc => ?_
        rw [hd u hu hc, h1 u hu hc, List.length_drop, show p + m + (a.length - m) = p + a.length by omega]
        cases lnL u (p + a.length) <;> rfl
end Lx
end Go.Proofs.YtpnlabjgmdhicaaGreatDoor
