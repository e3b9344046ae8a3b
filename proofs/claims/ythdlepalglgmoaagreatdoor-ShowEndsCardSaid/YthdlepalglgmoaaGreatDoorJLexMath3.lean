/- Words of lines, in plain words: lines, their parts, longer lines. -/
import Derived.Test.YthdlepalglgmoaaGreatDoorJLexMath2
namespace Go.Proofs.YthdlepalglgmoaaGreatDoor
namespace Lx
open Go Go.Lib Um

def blankC (c : Nat) : Prop := c = 32 ∨ c = 9
theorem tkL_c0 {l : List UInt8} {y : Nat × ByteArray × Nat} (h : tkL l = some y) : l.length ≠ 0 ∧ c0 l ≠ 35 ∧ ¬ blankC (c0 l) := by
  have h0 := tkL_spec (k := y.1) (x := y.2.1) (m := y.2.2) h
  refine ⟨by omega, ?_, ?_⟩
  · intro e
    unfold tkL at h
    repeat' split at h
    all_goals (first | omega | cases h)
  · intro e
    unfold blankC at e
    unfold tkL at h
    repeat' split at h
    all_goals (first | omega | cases h)
theorem lnF_more (f g : Nat) : ∀ (l : List UInt8) (p : Nat), l.length < f → l.length < g → lnF f l p = lnF g l p := by
  induction f generalizing g with
  | zero => intro l p h; omega
  | succ f ih =>
    intro l p h1 h2
    cases g with
    | zero => omega
    | succ g =>
      simp only [lnF]
      split
      · rfl
      rename_i hs
      split
      · exact ih g _ _ (by rw [List.length_drop]; omega) (by rw [List.length_drop]; omega)
      · split
        · rfl
        · rename_i k x m ht
          have := (tkL_spec ht).1
          rw [ih g _ _ (by rw [List.length_drop]; omega) (by rw [List.length_drop]; omega)]
theorem lnL_stop {l : List UInt8} (p : Nat) (h : l.length = 0 ∨ c0 l = 35) : lnL l p = .ok [] := by unfold lnL; rw [lnF, if_pos h]
theorem lnL_blank {l : List UInt8} (p : Nat) (h0 : l.length ≠ 0) (h : blankC (c0 l)) : lnL l p = lnL (l.drop 1) (p + 1) := by
  unfold lnL
  have hs : ¬ (l.length = 0 ∨ c0 l = 35) := by unfold blankC at h; omega
  rw [lnF, if_neg hs, if_pos (show c0 l = 32 ∨ c0 l = 9 from h)]
  exact lnF_more _ _ _ _ (by rw [List.length_drop]; omega) (by omega)
theorem lnL_bad {l : List UInt8} (p : Nat) (h0 : l.length ≠ 0) (h1 : c0 l ≠ 35) (h : ¬ blankC (c0 l)) (ht : tkL l = none) : lnL l p = .error p := by
  unfold lnL
  rw [lnF, if_neg (by omega), if_neg (show ¬ (c0 l = 32 ∨ c0 l = 9) from h), ht]
theorem lnL_tok {l : List UInt8} (p : Nat) {k m : Nat} {x : ByteArray} (ht : tkL l = some (k, x, m)) : lnL l p = (lnL (l.drop m) (p + m)).map fun ts => ⟨k, x, p⟩ :: ts := by
  obtain ⟨h0, h1, h2⟩ := tkL_c0 ht
  have hm := (tkL_spec ht).1
  unfold lnL
  rw [lnF, if_neg (by omega), if_neg (show ¬ (c0 l = 32 ∨ c0 l = 9) from h2), ht]
  simp only
  rw [lnF_more l.length ((l.drop m).length + 1) _ _ (by rw [List.length_drop]; omega) (by omega)]
/-- By cases on how a line goes on. -/
theorem ln_ind {P : List UInt8 → Prop} (stop : ∀ l : List UInt8, l.length = 0 ∨ c0 l = 35 → P l) (blank : ∀ l : List UInt8, l.length ≠ 0 → blankC (c0 l) → P (l.drop 1) → P l)
    (bad : ∀ l : List UInt8, l.length ≠ 0 → c0 l ≠ 35 → ¬ blankC (c0 l) → tkL l = none → P l) (tok : ∀ (l : List UInt8) (k m : Nat) (x : ByteArray), tkL l = some (k, x, m) → P (l.drop m) → P l) : ∀ l, P l := by
  have key : ∀ n : Nat, ∀ l : List UInt8, l.length ≤ n → P l := by
    intro n
    induction n with
    | zero => intro l h; exact stop l (.inl (by omega))
    | succ n ih =>
      intro l h
      by_cases hs : l.length = 0 ∨ c0 l = 35
      · exact stop l hs
      by_cases hb : blankC (c0 l)
      · exact blank l (by omega) hb (ih _ (by rw [List.length_drop]; omega))
      cases ht : tkL l with
      | none => exact bad l (by omega) (by omega) hb ht
      | some y =>
        obtain ⟨k, x, m⟩ := y
        have := (tkL_spec ht).1
        exact tok l k m x ht (ih _ (by rw [List.length_drop]; omega))
  intro l
  exact key l.length l (Nat.le_refl _)
def shT (d : Nat) (t : LTok) : LTok := ⟨t.k, t.x, t.p + d⟩
def shE (d : Nat) : Except Nat (List LTok) → Except Nat (List LTok)
  | .ok ts => .ok (ts.map (shT d))
  | .error e => .error (e + d)
theorem lnL_shift (d : Nat) : ∀ (l : List UInt8) (p : Nat), lnL l (p + d) = shE d (lnL l p) := by
  refine ln_ind ?_ ?_ ?_ ?_
  · intro l h p; rw [lnL_stop _ h, lnL_stop _ h]; rfl
  · intro l h0 h ih p; rw [lnL_blank _ h0 h, lnL_blank _ h0 h, ← ih (p + 1)]; congr 1; omega
  · intro l h0 h1 h ht p; rw [lnL_bad _ h0 h1 h ht, lnL_bad _ h0 h1 h ht]; rfl
  · intro l k m x ht ih p
    rw [lnL_tok _ ht, lnL_tok _ ht, show p + d + m = p + m + d by omega, ih]
    cases lnL (l.drop m) (p + m) <;> rfl
theorem blanks_vld {l : List UInt8} (h : ∀ i, i < l.length → blankC (l.getD i 0).toNat) : vld l := vld_ascii _ fun i hi => by have := h i hi; unfold blankC at this; omega
theorem c0_app {a u : List UInt8} (h : a.length ≠ 0) : c0 (a ++ u) = c0 a := by
  cases a with
  | nil => exact absurd rfl h
  | cons c r => rfl
theorem pre_app (l u : List UInt8) {m : Nat} (h : m ≤ l.length) : Pre m l (l ++ u) := ⟨List.take_append_of_le_length h, by rw [List.length_append]; omega, h⟩
theorem nx_app {b : List UInt8} (u : List UInt8) (h : (nx b).2 ≠ 0) : nx (b ++ u) = nx b := (pre_app b u (nx_isB h).2.1).nx h
theorem labF_app {u : List UInt8} (hu : u.length ≠ 0) (hc : blankC (c0 u)) : ∀ (f g : Nat) (st : Bool) (b : List UInt8) (k best : Nat), vld b → (b ++ u).length < f → b.length < g → labF f st (b ++ u) k best = labF g st b k best
  | 0, _, _, _, _, _, _, h, _ => by omega
  | f + 1, 0, _, _, _, _, _, _, h => by omega
  | f + 1, g + 1, st, b, k, best, hv, h1, h2 => by
    by_cases h0 : b.length = 0
    · have hb : b = [] := List.eq_nil_of_length_eq_zero h0
      subst hb
      have hn := nx_low hu (show c0 u < 128 by unfold blankC at hc; omega)
      have hm : mayB st ((c0 u : Nat) : Int) = false := by
        rcases hc with h | h <;> rw [h] <;> cases st <;> decide
      have e1 : labF (g + 1) st [] k best = best := by rw [labF, if_pos (.inl rfl)]
      have e2 : labF (f + 1) st u k best = best := by
        rw [labF, hn, if_neg (by simp only; omega), if_pos hm]
      rw [List.nil_append, e1, e2]
    · obtain ⟨n1, n2⟩ := vld_nx hv h0
      have hl := (nx_isB n1).2.1
      have hlen : (b ++ u).length ≠ 0 := by rw [List.length_append]; omega
      have hd : (b ++ u).drop (nx b).2 = b.drop (nx b).2 ++ u := List.drop_append_of_le_length hl
      have ih := fun k' best' => labF_app hu hc f g false (b.drop (nx b).2) k' best' n2 (by rw [List.length_append, List.length_drop]; rw [List.length_append] at h1; omega) (by rw [List.length_drop]; omega)
      have e1 : labF (g + 1) st b k best = if mayB st (nx b).1 = false then best else labF g false (b.drop (nx b).2) (k + (nx b).2) (if (nx b).1 = 46 then best else k + (nx b).2) := by rw [labF, if_neg (by omega)]
      have e2 : labF (f + 1) st (b ++ u) k best = if mayB st (nx b).1 = false then best else labF f false (b.drop (nx b).2 ++ u) (k + (nx b).2) (if (nx b).1 = 46 then best else k + (nx b).2) := by rw [labF, nx_app u n1, if_neg (by omega), hd]
      rw [e1, e2]
      split
      · rfl
      · exact ih _ _
theorem label_app {b u : List UInt8} (hv : vld b) (hu : u.length ≠ 0) (hc : blankC (c0 u)) : label (b ++ u) = label b := by
  unfold label
  exact labF_app hu hc _ _ true b 0 0 hv (by omega) (by omega)
theorem tag_app {b u : List UInt8} (_hu : u.length ≠ 0) (hc : blankC (c0 u)) : tag (b ++ u) = tag b := by
  have h1 := tag_more b u
  have hn : tag (b ++ u) ≤ b.length := by
    rcases Nat.lt_or_ge b.length (tag (b ++ u)) with h | h
    · have h2 := (tag_reach (b ++ u)).bytes b.length h
      have e : (b ++ u).getD b.length 0 = u.getD 0 0 := by
        rw [List.getD_eq_getElem?_getD, List.getElem?_append_right (Nat.le_refl _), Nat.sub_self, ← List.getD_eq_getElem?_getD]
      rw [e] at h2
      have h3 : c0 u = 32 ∨ c0 u = 9 := hc
      have h4 : (u.getD 0 0).toNat = c0 u := rfl
      rw [h4] at h2
      rcases h3 with h3 | h3 <;> rw [h3] at h2 <;> rcases h2 with h2 | h2 <;> first | omega | exact absurd h2 (by decide)
    · exact h
  have h2 := tag_cut (b ++ u) (tag (b ++ u)) (Nat.le_refl _)
  rw [List.take_append_of_le_length hn] at h2
  have h3 := tag_more (b.take (tag (b ++ u))) (b.drop (tag (b ++ u)))
  rw [List.take_append_drop, h2] at h3
  omega
theorem tkL_app {l u : List UInt8} {k m : Nat} {x : ByteArray} (h : tkL l = some (k, x, m)) (hv : vld l) (hu : u.length ≠ 0) (hc : blankC (c0 u)) : tkL (l ++ u) = some (k, x, m) := by
  have hs := tkL_spec h
  refine tkL_pre h (pre_app l u hs.2.1) (fun e => ?_) (fun e => ?_)
  · by_cases h2 : 2 ≤ l.length
    · rw [List.drop_append_of_le_length h2]
      by_cases hd : c0 l = 95 ∧ c1 l = 58
      · exact label_app (vld_low 2 hv h2 fun i hi => by
          match i, hi with
          | 0, _ => show c0 l < 128; omega
          | 1, _ => show c1 l < 128; omega) hu hc
      · -- any other token that has so many bytes has a label of none, or it does not matter
        by_cases h1 : vld (l.drop 2)
        · exact label_app h1 hu hc
        · exfalso
          apply h1
          have := hs.2.2.2.1 hv
          have hl := label_vld (l.drop 2)
          rw [show m = 2 + label (l.drop 2) by omega, ← List.drop_drop] at this
          have := vld_app hl.1 this
          rwa [List.take_append_drop] at this
    · omega
  · by_cases h1 : 1 ≤ l.length
    · rw [List.drop_append_of_le_length h1]
      exact tag_app hu hc
    · omega
theorem drop_app {a u : List UInt8} {m : Nat} (h : m ≤ a.length) : (a ++ u).drop m = a.drop m ++ u := List.drop_append_of_le_length h
/-- Does a line end within a remark? -/
theorem lnL_app : ∀ (a : List UInt8) (p : Nat) (ts : List LTok), vld a → lnL a p = .ok ts →
    (∀ u : List UInt8, u.length ≠ 0 → blankC (c0 u) → lnL (a ++ u) p = .ok ts) ∨ (∀ u : List UInt8, u.length ≠ 0 → blankC (c0 u) → lnL (a ++ u) p = (lnL u (p + a.length)).map fun r => ts ++ r) := by
  refine ln_ind ?_ ?_ ?_ ?_
  · intro a h p ts hv e
    rw [lnL_stop _ h] at e
    cases e
    by_cases h0 : a.length = 0
    · right
      intro u _ _
      have : a = [] := List.eq_nil_of_length_eq_zero h0
      subst this
      rw [List.nil_append]
      show lnL u p = (lnL u (p + 0)).map _
      rw [Nat.add_zero]
      cases lnL u p <;> rfl
    · left
      intro u _ _
      exact lnL_stop _ (.inr (by rw [c0_app h0]; omega))
  · intro a h0 h ih p ts hv e
    rw [lnL_blank _ h0 h] at e
    have hv1 := vld_one hv h0 (by unfold blankC at h; omega)
    have hd : ∀ u : List UInt8, lnL (a ++ u) p = lnL (a.drop 1 ++ u) (p + 1) := fun u => by
      rw [lnL_blank p (by rw [List.length_append]; omega) (by rw [c0_app h0]; exact h), drop_app (by omega)]
    rcases ih _ _ hv1 e with h1 | h1
    · exact .inl fun u hu hc => by rw [hd]; exact h1 u hu hc
    · refine .inr fun u hu hc => ?_
      rw [hd, h1 u hu hc, List.length_drop, show p + 1 + (a.length - 1) = p + a.length by omega]
  · intro a h0 h1 h ht p ts hv e; rw [lnL_bad _ h0 h1 h ht] at e; cases e
  · intro a k m x ht ih p ts hv e
    rw [lnL_tok _ ht] at e
    have hs := tkL_spec ht
    cases hr : lnL (a.drop m) (p + m) with
    | error b => rw [hr] at e; cases e
    | ok r =>
      rw [hr] at e
      cases e
      have hd : ∀ u : List UInt8, u.length ≠ 0 → blankC (c0 u) → lnL (a ++ u) p = (lnL (a.drop m ++ u) (p + m)).map fun ts => ⟨k, x, p⟩ :: ts := fun u hu hc => by
        rw [lnL_tok p (tkL_app ht hv hu hc), drop_app hs.2.1]
      rcases ih _ _ (hs.2.2.2.1 hv) hr with h1 | h1
      · exact .inl fun u hu hc => by rw [hd u hu hc, h1 u hu hc]; rfl
      · refine .inr fun u hu hc => ?_
        rw [hd u hu hc, h1 u hu hc, List.length_drop, show p + m + (a.length - m) = p + a.length by omega]
        cases lnL u (p + a.length) <;> rfl
end Lx
end Go.Proofs.YthdlepalglgmoaaGreatDoor
