/- How signs of literals are written: a table, and how long a text gets. -/
import Derived.Test.YtheeklkcaapkbaaGreatDoorJTxMath
import Derived.Lib.Bytealg
namespace Go.Proofs.YtheeklkcaapkbaaGreatDoor.Tx
open Go Go.RowKit Um Fm Lx

def rpX (j : Nat) : List UInt8 := if j = 34 then [92, 34] else if j = 92 then [92, 92] else if j = 10 then [92, 110] else if j = 13 then [92, 114] else []
def isE (c : UInt8) : Bool := !(rpX c.toNat).isEmpty
theorem rp_len {j : Nat} : (rpX j).length = 0 ∨ (rpX j).length = 2 := by
  unfold rpX; repeat' split
  all_goals simp
theorem u8_eq (c d : UInt8) : (c = d) ↔ c.toNat = d.toNat := UInt8.toNat_inj.symm
theorem litC_rp (c : UInt8) : litC c = if isE c then rpX c.toNat else [c] := by
  unfold litC isE rpX
  simp only [u8_eq]
  by_cases h1 : c.toNat = 34
  · simp [h1]
  by_cases h2 : c.toNat = 92
  · simp [h2]
  by_cases h3 : c.toNat = 10
  · simp [h3]
  by_cases h4 : c.toNat = 13
  · simp [h4]
  simp [h1, h2, h3, h4]
theorem litL_cons (c : UInt8) (t : List UInt8) : litL (c :: t) = litC c ++ litL t := by unfold litL; rw [List.flatMap_cons]
theorem litL_app (a b : List UInt8) : litL (a ++ b) = litL a ++ litL b := List.flatMap_append
theorem litL_escs : ∀ l : List UInt8, (litL l).length = l.length + l.countP isE
  | [] => rfl
  | c :: t => by
    rw [litL_cons, List.length_append, litL_escs t, litC_rp, List.countP_cons, List.length_cons]
    cases h : isE c
    · simp; omega
    · have hl : (rpX c.toNat).length = 2 := by
        rcases rp_len (j := c.toNat) with h2 | h2
        · rw [isE, List.isEmpty_iff.2 (List.length_eq_zero_iff.1 h2)] at h; cases h
        · exact h2
      simp [hl]; omega
theorem litL_same : ∀ l : List UInt8, l.countP isE = 0 → litL l = l
  | [], _ => rfl
  | c :: t, h => by
    rw [List.countP_cons] at h
    cases hc : isE c
    · rw [litL_cons, litC_rp, hc, litL_same t (by omega)]; rfl
    · rw [hc] at h; simp at h
theorem litL_snoc (l : List UInt8) (k : Nat) (c : UInt8) (h : l[k]? = some c) : litL (l.take (k + 1)) = litL (l.take k) ++ litC c := by
  rw [List.take_add_one, h, Option.toList_some, litL_app, litL_cons]
  show _ = _
  rw [show litL [] = [] from rfl, List.append_nil]
theorem escs_snoc (l : List UInt8) (k : Nat) (c : UInt8) (h : l[k]? = some c) : (l.take (k + 1)).countP isE = (l.take k).countP isE + (if isE c then 1 else 0) := by
  rw [List.take_add_one, h, Option.toList_some, List.countP_append, List.countP_cons, List.countP_nil, Nat.zero_add]
theorem escs_le (l : List UInt8) (k : Nat) : (l.take k).countP isE ≤ l.countP isE := by
  conv => rhs; rw [← List.take_append_drop k l, List.countP_append]
  exact Nat.le_add_right _ _
/-- The signs to be written otherwise, in the order in which they are looked for. -/
def rpN (i : Nat) : UInt8 := if i = 0 then 13 else if i = 1 then 10 else if i = 2 then 34 else 92
theorem escs_four (l : List UInt8) : l.countP isE = Lib.countByte l (rpN 0) + Lib.countByte l (rpN 1) + Lib.countByte l (rpN 2) + Lib.countByte l (rpN 3) := by
  have e0 : rpN 0 = 13 := rfl
  have e1 : rpN 1 = 10 := rfl
  have e2 : rpN 2 = 34 := rfl
  have e3 : rpN 3 = 92 := rfl
  rw [e0, e1, e2, e3]
  unfold Lib.countByte
  induction l with
  | nil => rfl
  | cons c t ih =>
    rw [List.countP_cons, List.count_cons, List.count_cons, List.count_cons, List.count_cons, ih]
    have hc : (if isE c = true then 1 else 0) = (if (c == 13) = true then 1 else 0) + (if (c == 10) = true then 1 else 0) + (if (c == 34) = true then 1 else 0) + (if (c == 92) = true then 1 else 0) := by
      by_cases h1 : c = 34
      · subst h1; decide
      by_cases h2 : c = 92
      · subst h2; decide
      by_cases h3 : c = 10
      · subst h3; decide
      by_cases h4 : c = 13
      · subst h4; decide
      have h5 : isE c = false := by
        unfold isE rpX
        have g1 : ¬ c.toNat = 34 := fun e => h1 ((u8_eq _ _).2 e)
        have g2 : ¬ c.toNat = 92 := fun e => h2 ((u8_eq _ _).2 e)
        have g3 : ¬ c.toNat = 10 := fun e => h3 ((u8_eq _ _).2 e)
        have g4 : ¬ c.toNat = 13 := fun e => h4 ((u8_eq _ _).2 e)
        rw [if_neg g1, if_neg g2, if_neg g3, if_neg g4]; rfl
      simp [h1, h2, h3, h4, h5]
    rw [hc]; omega
def cntK (l : List UInt8) : Nat → Nat
  | 0 => 0
  | k + 1 => cntK l k + Lib.countByte l (rpN k)
theorem cnt_four (l : List UInt8) : cntK l 4 = l.countP isE := by
  rw [escs_four]
  simp only [cntK, Nat.zero_add]
theorem cnt_le (l : List UInt8) : ∀ k, cntK l k ≤ k * l.length
  | 0 => by simp [cntK]
  | k + 1 => by
    have h1 := cnt_le l k
    have h2 : Lib.countByte l (rpN k) ≤ l.length := List.count_le_length
    rw [cntK, Nat.succ_mul]; omega
/-- The table, k signs of it laid. -/
def rpT (k j : Nat) : List UInt8 := if (j = 13 ∧ 0 < k) ∨ (j = 10 ∧ 1 < k) ∨ (j = 34 ∧ 2 < k) ∨ (j = 92 ∧ 3 < k) then rpX j else []
theorem rpT_zero (j : Nat) : rpT 0 j = [] := by unfold rpT; rw [if_neg (by omega)]
theorem rpT_four (j : Nat) : rpT 4 j = rpX j := by
  unfold rpT rpX
  by_cases h1 : j = 34
  · simp [h1]
  by_cases h2 : j = 92
  · simp [h2]
  by_cases h3 : j = 10
  · simp [h3]
  by_cases h4 : j = 13
  · simp [h4]
  simp [h1, h2, h3, h4]
theorem rpT_succ (k j : Nat) (hk : k < 4) : rpT (k + 1) j = if j = (rpN k).toNat then rpX j else rpT k j := by
  match k, hk with
  | 0, _ => unfold rpT; rw [show (rpN 0).toNat = 13 from rfl]; by_cases h : j = 13 <;> simp [h] <;> omega
  | 1, _ => unfold rpT; rw [show (rpN 1).toNat = 10 from rfl]; by_cases h : j = 10 <;> simp [h]
  | 2, _ => unfold rpT; rw [show (rpN 2).toNat = 34 from rfl]; by_cases h : j = 34 <;> simp [h]
  | 3, _ => unfold rpT; rw [show (rpN 3).toNat = 92 from rfl]; by_cases h : j = 92 <;> simp [h]
end Go.Proofs.YtheeklkcaapkbaaGreatDoor.Tx
