/- What a condition is in a row, in plain words. -/
import Derived.Test.YtheeklkcaapkbaaGreatDoorJExpr
import Derived.Lib.SlicesS
namespace Go.Proofs.YtheeklkcaapkbaaGreatDoor
open Go Go.RowKit Fm

/-- A kid's term. -/
def termP (vars : List ByteArray) (row : List Tm) (k : Int) (s : ByteArray) (t : Tm) (bare : Bool) : Option Tm :=
  if bare then (if k == 2 then some t else if k == 1 then (if Lib.idxOfS vars s < 0 then none else row[(Lib.idxOfS vars s).toNat]?) else none) else none
def termOf (vars : List ByteArray) (row : List Tm) : (n : Nat) → ExT n → Option Tm
  | 0, _ => none
  | _ + 1, (k, s, t, kids) => termP vars row k s t kids.isEmpty
def cmpK (k : Int) (a b : Tm) : Int :=
  if k == 6 then sameI a b else if k == 7 then notI (sameI a b) else if k == 8 then lessI a b else if k == 10 then lessI b a else if k == 9 then notI (lessI b a) else notI (lessI a b)
def kindK (k : Int) (t : Tm) : Int := if k == 12 then toldI (t.k == 1) else if k == 13 then toldI (litB t) else toldI (t.k == 2)
/-- A variable's, a term's truth; a comparison's; that of what a term is. -/
def leafI : Option Tm → Int
  | some t => aloneI t
  | none => 3
def twoI (k : Int) : List (Option Tm) → Int
  | [some a, some b] => cmpK k a b
  | _ => 3
def oneI (k : Int) : List (Option Tm) → Int
  | [some a] => kindK k a
  | _ => 3
def noI : List Int → Int
  | [x] => notI x
  | _ => 3
def isCmp (k : Int) : Bool := decide (6 ≤ k) && decide (k ≤ 11)
def isKind (k : Int) : Bool := decide (12 ≤ k) && decide (k ≤ 14)
/-- What a condition is. -/
def ofI (vars : List ByteArray) (row : List Tm) : (n : Nat) → ExT n → Int
  | 0, _ => 3
  | n + 1, (k, s, t, kids) =>
    if k == 1 || k == 2 then leafI (termP vars row k s t kids.isEmpty)
    else if k == 3 then noI (kids.map (ofI vars row n))
    else if k == 4 then andI (kids.map (ofI vars row n))
    else if k == 5 then orI (kids.map (ofI vars row n))
    else if isCmp k then twoI k (kids.map (termOf vars row n))
    else if isKind k then oneI k (kids.map (termOf vars row n))
    else 3
def hasV (v : ByteArray) : (n : Nat) → ExT n → Bool
  | 0, _ => false
  | n + 1, (k, s, _, kids) => kids.any (hasV v n) || (k == 1 && s.toList == v.toList)

theorem idxFromS_succ (x : ByteArray) : ∀ (zs : List ByteArray) (i : Nat), Lib.idxFromS zs x (i + 1) = if Lib.idxFromS zs x i < 0 then -1 else Lib.idxFromS zs x i + 1
  | [], _ => rfl
  | z :: zs, i => by
    unfold Lib.idxFromS
    by_cases h : z = x
    · simp only [h, if_true]; rw [if_neg (by omega)]; omega
    · simp only [h, if_false]; exact idxFromS_succ x zs (i + 1)
theorem idxFromS_neg (x : ByteArray) : ∀ (zs : List ByteArray) (i : Nat), Lib.idxFromS zs x i < 0 → Lib.idxFromS zs x i = -1
  | [], _, _ => rfl
  | z :: zs, i, h => by
    unfold Lib.idxFromS at h ⊢
    by_cases hz : z = x
    · simp only [hz, if_true] at h; omega
    · simp only [hz, if_false] at h ⊢; exact idxFromS_neg x zs (i + 1) h
theorem idxOfS_cons (z x : ByteArray) (zs : List ByteArray) (h : z ≠ x) : Lib.idxOfS (z :: zs) x = if Lib.idxOfS zs x < 0 then -1 else Lib.idxOfS zs x + 1 := by
  unfold Lib.idxOfS
  rw [Lib.idxFromS, if_neg h, idxFromS_succ]
theorem termP_more {v : ByteArray} {t : Tm} {vars : List ByteArray} {row : List Tm} (k : Int) (s : ByteArray) (u : Tm) (b : Bool) (h : (k == 1 && s.toList == v.toList) = false) : termP (v :: vars) (t :: row) k s u b = termP vars row k s u b := by
    unfold termP
    by_cases h2 : (k == 1) = true
    · have hs : v ≠ s := by
        intro e; subst e
        simp [h2] at h
      rw [idxOfS_cons _ _ _ hs]
      by_cases h3 : Lib.idxOfS vars s < 0
      · simp [h3]
      · have h4 : ¬ (Lib.idxOfS vars s + 1 < 0) := by omega
        simp only [h3, if_false, h4]
        rw [show (Lib.idxOfS vars s + 1).toNat = (Lib.idxOfS vars s).toNat + 1 by omega, List.getElem?_cons_succ]
    · simp [h2]
theorem hasV_parts {v : ByteArray} {n : Nat} {k : Int} {s : ByteArray} {u : Tm} {kids : List (ExT n)} (h : hasV v (n + 1) (k, s, u, kids) = false) : (∀ x ∈ kids, hasV v n x = false) ∧ (k == 1 && s.toList == v.toList) = false := by
  rw [hasV, Bool.or_eq_false_iff] at h
  exact ⟨fun x hx => by have := List.any_eq_false.1 h.1 x hx; simpa using this, h.2⟩
theorem termOf_more {v : ByteArray} {t : Tm} {vars : List ByteArray} {row : List Tm} : ∀ (n : Nat) (x : ExT n), hasV v n x = false → termOf (v :: vars) (t :: row) n x = termOf vars row n x
  | 0, _, _ => rfl
  | _ + 1, (k, s, u, _kids), h => termP_more k s u _ (hasV_parts h).2
theorem ofI_more {v : ByteArray} {t : Tm} {vars : List ByteArray} {row : List Tm} : ∀ {n : Nat} (x : ExT n), hasV v n x = false → ofI (v :: vars) (t :: row) n x = ofI vars row n x
  | 0, _, _ => rfl
  | n + 1, (k, s, u, kids), h => by
    have ht := termP_more (t := t) (vars := vars) (row := row) k s u kids.isEmpty (hasV_parts h).2
    have hk := (hasV_parts h).1
    have m1 : kids.map (ofI (v :: vars) (t :: row) n) = kids.map (ofI vars row n) := List.map_congr_left fun x hx => ofI_more x (hk x hx)
    have m2 : kids.map (termOf (v :: vars) (t :: row) n) = kids.map (termOf vars row n) := List.map_congr_left fun x hx => termOf_more n x (hk x hx)
    rw [ofI, ofI, ht, m1, m2]
theorem toldI_range (b : Bool) : 1 ≤ toldI b ∧ toldI b ≤ 3 := by cases b <;> decide
theorem notI_range (x : Int) : 1 ≤ notI x ∧ notI x ≤ 3 := by unfold notI; repeat (split <;> try omega)
theorem cmpK_range (k : Int) (a b : Tm) : 1 ≤ cmpK k a b ∧ cmpK k a b ≤ 3 := by
  have s : 1 ≤ sameI a b ∧ sameI a b ≤ 3 := by unfold sameI; repeat (split <;> try first | omega | exact toldI_range _)
  have l : ∀ a b : Tm, 1 ≤ lessI a b ∧ lessI a b ≤ 3 := fun a b => by unfold lessI; repeat (split <;> try first | omega | exact toldI_range _)
  unfold cmpK
  repeat (split <;> try first | exact s | exact l _ _ | exact notI_range _)
theorem either_range (s : Int) (hs : 1 ≤ s ∧ s ≤ 3) (l : List Int) : 1 ≤ eitherI s l ∧ eitherI s l ≤ 3 := by
  unfold eitherI; repeat (split <;> try first | omega | exact notI_range _)
theorem ofI_range (vars : List ByteArray) (row : List Tm) : ∀ (n : Nat) (x : ExT n), 1 ≤ ofI vars row n x ∧ ofI vars row n x ≤ 3
  | 0, _ => by rw [ofI]; omega
  | n + 1, (k, s, u, kids) => by
    rw [ofI]
    split
    · unfold leafI; split
      · unfold aloneI; repeat (split <;> try first | omega | exact toldI_range _)
      · omega
    split
    · unfold noI; split <;> first | omega | exact notI_range _
    split
    · exact either_range 2 (by omega) _
    split
    · exact either_range 1 (by omega) _
    split
    · unfold twoI; split <;> first | omega | exact cmpK_range _ _ _
    split
    · unfold oneI kindK; repeat (split <;> try first | omega | exact toldI_range _)
    · omega
end Go.Proofs.YtheeklkcaapkbaaGreatDoor
