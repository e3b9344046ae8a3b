/- Layer 25 in plain words: terms, numbers, truths. -/
import Derived.Sort.Walk0
import Derived.Lib.Small
namespace Go.Proofs.YtffpgandgajihaaGreatDoor.Fm
open Go

/-- A term. -/
structure Tm where
  k : Int
  x : ByteArray
  l : ByteArray
  y : ByteArray

def integerS : ByteArray := ⟨#[104, 116, 116, 112, 58, 47, 47, 119, 119, 119, 46, 119, 51, 46, 111, 114, 103, 47, 50, 48, 48, 49, 47, 88, 77, 76, 83, 99, 104, 101, 109, 97, 35, 105, 110, 116, 101, 103, 101, 114]⟩
def booleanS : ByteArray := ⟨#[104, 116, 116, 112, 58, 47, 47, 119, 119, 119, 46, 119, 51, 46, 111, 114, 103, 47, 50, 48, 48, 49, 47, 88, 77, 76, 83, 99, 104, 101, 109, 97, 35, 98, 111, 111, 108, 101, 97, 110]⟩

def typedB (t : Tm) (ty : ByteArray) : Bool := t.k == 4 && t.l.toList.isEmpty && t.y.toList == ty.toList
def plainB (t : Tm) : Bool := t.k == 3 && t.l.toList.isEmpty && t.y.toList.isEmpty
def litB (t : Tm) : Bool := t.k == 3 || t.k == 4
def sameTm (a b : Tm) : Bool := a.k == b.k && a.x.toList == b.x.toList && a.l.toList == b.l.toList && a.y.toList == b.y.toList

def digs : List UInt8 := [48, 49, 50, 51, 52, 53, 54, 55, 56, 57]
/-- A number's sign and its digits. -/
def numR (m : Bool) (r : List UInt8) : Option (Bool × List UInt8) :=
  if r.isEmpty || !(r.all digs.contains) then none
  else if (r.dropWhile (· == 48)).isEmpty then some (false, [48]) else some (m, r.dropWhile (· == 48))
def numL (s : List UInt8) : Option (Bool × List UInt8) :=
  match s with
  | 45 :: r => numR true r
  | 43 :: r => numR false r
  | _ => numR false s
def numT (t : Tm) : Option (Bool × List UInt8) := if typedB t integerS then numL t.x.toList else none
def numM (t : Tm) : Bool := ((numT t).map (·.1)).getD false
def numD (t : Tm) : List UInt8 := ((numT t).map (·.2)).getD []
def numI (t : Tm) : Bool := (numT t).isSome

def yesB (t : Tm) : Bool := t.x.toList == [116, 114, 117, 101] || t.x.toList == [49]
def boolB (t : Tm) : Bool := typedB t booleanS && (yesB t || t.x.toList == [102, 97, 108, 115, 101] || t.x.toList == [48])

def toldI (b : Bool) : Int := if b then 1 else 2
def notI (t : Int) : Int := if t = 1 then 2 else if t = 2 then 1 else 3
def aloneI (t : Tm) : Int :=
  if typedB t booleanS then toldI (boolB t && yesB t)
  else if typedB t integerS then toldI (numI t && !(numD t == [48]))
  else if t.k == 3 then toldI (!t.x.toList.isEmpty) else 3

def cmpS (a b : List UInt8) : Int := if Op.bytesLess a b then -1 else if a == b then 0 else 1
def wt (b : Bool) : Int := if b then 1 else 0
def cmpN (d e : List UInt8) : Int := if Lib.compareInt d.length e.length = 0 then cmpS d e else Lib.compareInt d.length e.length
def ordN (a b : Tm) : Int :=
  if numI a && numI b then (if numM a != numM b then wt (numM b) - wt (numM a) else if numM a then -cmpN (numD a) (numD b) else cmpN (numD a) (numD b))
  else if boolB a && boolB b then wt (yesB a) - wt (yesB b) else cmpS a.x.toList b.x.toList
def ordB (a b : Tm) : Bool := (numI a && numI b) || (boolB a && boolB b) || (plainB a && plainB b)
def sameI (a b : Tm) : Int := if ordB a b then toldI (ordN a b == 0) else if sameTm a b then 1 else if !litB a || !litB b then 2 else 3
def lessI (a b : Tm) : Int := if ordB a b then toldI (decide (ordN a b < 0)) else 3

def hasI (l : List Int) (x : Int) : Bool := l.contains x
def oddI (l : List Int) (s : Int) : Bool := l.any (fun t => !(t == notI s))
/-- What an index tells. -/
def IdxIs (i : Int) (b : Bool) : Prop := decide (0 ≤ i) = b
def eitherI (s : Int) (l : List Int) : Int := if hasI l s then s else if oddI l s then 3 else notI s
def andI (l : List Int) : Int := eitherI 2 l
def orI (l : List Int) : Int := eitherI 1 l

/-! what order says -/
theorem cmpS_self (a : List UInt8) : cmpS a a = 0 := by
  unfold cmpS
  rw [bytesLess_eq]
  simp
theorem cmpS_neg (a b : List UInt8) : cmpS b a = -cmpS a b := by
  unfold cmpS
  rw [bytesLess_eq, bytesLess_eq]
  by_cases h1 : a < b
  · have h2 : ¬ b < a := List.lt_asymm h1
    have h3 : ¬ b = a := fun h => by subst h; exact h2 h1
    simp [h1, h2, h3]
  · by_cases h2 : b < a
    · have h3 : ¬ a = b := fun h => by subst h; exact h1 h2
      simp [h1, h2, h3]
    · have h3 : a = b := List.le_antisymm (List.not_lt.1 h2) (List.not_lt.1 h1)
      subst h3
      simp [h1]
theorem cmpS_lt (a b : List UInt8) : cmpS a b < 0 ↔ a < b := by
  unfold cmpS
  rw [bytesLess_eq]
  by_cases h1 : a < b
  · simp [h1]
  · by_cases h2 : a = b
    · subst h2; simp [h1]
    · simp [h1, h2]
theorem cmpS_zero (a b : List UInt8) : cmpS a b = 0 ↔ a = b := by
  unfold cmpS
  rw [bytesLess_eq]
  by_cases h1 : a < b
  · have : a ≠ b := fun h => by subst h; exact List.lt_irrefl _ h1
    simp [h1, this]
  · by_cases h2 : a = b <;> simp [h1, h2]
theorem cmpS_tr (a b c : List UInt8) (h1 : cmpS a b < 0) (h2 : cmpS b c < 0) : cmpS a c < 0 := by
  rw [cmpS_lt] at *
  exact List.lt_trans h1 h2
theorem cmpN_self (a : List UInt8) : cmpN a a = 0 := by simp [cmpN, Lib.compareInt, cmpS_self]
theorem cmpN_neg (a b : List UInt8) : cmpN b a = -cmpN a b := by
  unfold cmpN Lib.compareInt
  have := cmpS_neg a b
  by_cases h1 : (a.length : Int) < b.length
  · have h2 : ¬ (b.length : Int) < a.length := by omega
    simp [h1, h2]
  · by_cases h2 : (b.length : Int) < a.length
    · simp [h1, h2]
    · simp [h1, h2, this]
theorem cmpN_tr (a b c : List UInt8) (h1 : cmpN a b < 0) (h2 : cmpN b c < 0) : cmpN a c < 0 := by
  unfold cmpN Lib.compareInt at *
  have := cmpS_tr a b c
  split at h1 <;> split at h2 <;> split <;> (repeat' split at *) <;> first | omega | (apply this <;> assumption)
theorem compareInt_zero (x y : Int) : Lib.compareInt x y = 0 ↔ x = y := by
  unfold Lib.compareInt
  split
  · simp; omega
  · split
    · simp; omega
    · simp; omega

theorem typed_ex {t : Tm} (h1 : typedB t integerS = true) (h2 : typedB t booleanS = true) : False := by
  simp only [typedB, Bool.and_eq_true, beq_iff_eq] at h1 h2
  have h := h1.2.symm.trans h2.2
  simp [integerS, booleanS, ByteArray.toList_eq] at h
theorem num_typed {t : Tm} (h : numI t = true) : typedB t integerS = true := by
  unfold numI numT at h
  by_cases h1 : typedB t integerS = true
  · exact h1
  · rw [if_neg h1] at h; cases h
theorem bool_typed {t : Tm} (h : boolB t = true) : typedB t booleanS = true := by
  unfold boolB at h
  simp only [Bool.and_eq_true] at h
  exact h.1
theorem typed_k {t : Tm} {y : ByteArray} (h : typedB t y = true) : t.k = 4 := by
  unfold typedB at h
  simp only [Bool.and_eq_true, beq_iff_eq] at h
  exact h.1.1
theorem plain_k {t : Tm} (h : plainB t = true) : t.k = 3 := by
  unfold plainB at h
  simp only [Bool.and_eq_true, beq_iff_eq] at h
  exact h.1.1
theorem num_not_bool {t : Tm} (h : numI t = true) : boolB t = false := by
  cases hb : boolB t with
  | false => rfl
  | true => exact (typed_ex (num_typed h) (bool_typed hb)).elim
theorem num_not_plain {t : Tm} (h : numI t = true) : plainB t = false := by
  cases hb : plainB t with
  | false => rfl
  | true => have := plain_k hb; have := typed_k (num_typed h); omega
theorem bool_not_plain {t : Tm} (h : boolB t = true) : plainB t = false := by
  cases hb : plainB t with
  | false => rfl
  | true => have := plain_k hb; have := typed_k (bool_typed h); omega

/-- what kind of value a term is: 1 a number, 2 a boolean, 3 a plain text, 0 none -/
def sortI (t : Tm) : Nat := if numI t then 1 else if boolB t then 2 else if plainB t then 3 else 0
theorem ordB_sort (a b : Tm) : ordB a b = (sortI a == sortI b && !(sortI a == 0)) := by
  unfold ordB sortI
  cases h1 : numI a <;> cases h2 : numI b <;> cases h3 : boolB a <;> cases h4 : boolB b <;> cases h5 : plainB a <;> cases h6 : plainB b <;>
    simp_all [num_not_bool, num_not_plain, bool_not_plain] <;> first | (have := num_not_bool h1; simp_all; done) | (have := num_not_bool h2; simp_all; done) | skip

theorem wt_neg (a b : Bool) : wt b - wt a = -(wt a - wt b) := by omega
theorem ordN_neg (a b : Tm) : ordN b a = -ordN a b := by
  unfold ordN
  rw [Bool.and_comm (numI b), Bool.and_comm (boolB b), cmpN_neg (numD a), cmpS_neg a.x.toList, bne_comm (a := numM b)]
  split
  · split
    · omega
    · rename_i h; rw [Bool.not_eq_true, bne_eq_false_iff_eq] at h; rw [h]
      split <;> omega
  · split
    · omega
    · rfl
theorem ordN_self (a : Tm) : ordN a a = 0 := by
  have := ordN_neg a a
  omega
theorem ordB_comm (a b : Tm) : ordB b a = ordB a b := by
  rw [ordB_sort, ordB_sort, Bool.eq_iff_iff]
  simp only [Bool.and_eq_true, beq_iff_eq, Bool.not_eq_true', beq_eq_false_iff_ne]
  constructor <;> (rintro ⟨h1, h2⟩; omega)
theorem ordB_tr {a b c : Tm} (h1 : ordB a b = true) (h2 : ordB b c = true) : ordB a c = true := by
  rw [ordB_sort] at *
  simp only [Bool.and_eq_true, beq_iff_eq, Bool.not_eq_true', beq_eq_false_iff_ne] at *
  omega
theorem ordN_num {a b : Tm} (h1 : numI a = true) (h2 : numI b = true) : ordN a b = if numM a != numM b then wt (numM b) - wt (numM a) else if numM a then -cmpN (numD a) (numD b) else cmpN (numD a) (numD b) := by
  unfold ordN; rw [if_pos (by simp [h1, h2])]
theorem ordN_bool {a b : Tm} (h1 : boolB a = true) (h2 : boolB b = true) : ordN a b = wt (yesB a) - wt (yesB b) := by
  unfold ordN
  have h3 : numI a = false := by
    cases h : numI a with
    | false => rfl
    | true => rw [num_not_bool h] at h1; cases h1
  rw [if_neg (by simp [h3]), if_pos (by simp [h1, h2])]
theorem ordN_plain {a b : Tm} (h1 : plainB a = true) : ordN a b = cmpS a.x.toList b.x.toList := by
  unfold ordN
  have h3 : numI a = false := by
    cases h : numI a with
    | false => rfl
    | true => rw [num_not_plain h] at h1; cases h1
  have h4 : boolB a = false := by
    cases h : boolB a with
    | false => rfl
    | true => rw [bool_not_plain h] at h1; cases h1
  rw [if_neg (by simp [h3]), if_neg (by simp [h4])]
theorem ordB_cases {a b : Tm} (h : ordB a b = true) : (numI a = true ∧ numI b = true) ∨ (boolB a = true ∧ boolB b = true) ∨ (plainB a = true ∧ plainB b = true) := by
  unfold ordB at h
  simp only [Bool.or_eq_true, Bool.and_eq_true] at h
  rcases h with (h | h) | h
  · exact .inl h
  · exact .inr (.inl h)
  · exact .inr (.inr h)
theorem ordN_tr {a b c : Tm} (h1 : ordB a b = true) (h2 : ordB b c = true) (l1 : ordN a b < 0) (l2 : ordN b c < 0) : ordN a c < 0 := by
  rcases ordB_cases h1 with ⟨x1, x2⟩ | ⟨x1, x2⟩ | ⟨x1, x2⟩
  · rcases ordB_cases h2 with ⟨y1, y2⟩ | ⟨y1, y2⟩ | ⟨y1, y2⟩
    · rw [ordN_num x1 x2] at l1
      rw [ordN_num y1 y2] at l2
      rw [ordN_num x1 y2]
      have t1 := cmpN_tr (numD a) (numD b) (numD c)
      have t2 := cmpN_tr (numD c) (numD b) (numD a)
      rw [cmpN_neg (numD b) (numD c), cmpN_neg (numD a) (numD b), cmpN_neg (numD a) (numD c)] at t2
      revert l1 l2
      cases numM a <;> cases numM b <;> cases numM c <;> simp [wt] <;> intro l1 l2 <;> first | omega | exact t1 l1 l2 | (have := t2 (by omega) (by omega); omega)
    · rw [num_not_bool x2] at y1; cases y1
    · rw [num_not_plain x2] at y1; cases y1
  · rcases ordB_cases h2 with ⟨y1, y2⟩ | ⟨y1, y2⟩ | ⟨y1, y2⟩
    · rw [num_not_bool y1] at x2; cases x2
    · rw [ordN_bool x1 x2] at l1
      rw [ordN_bool y1 y2] at l2
      rw [ordN_bool x1 y2]
      revert l1 l2
      cases yesB a <;> cases yesB b <;> cases yesB c <;> simp [wt]
    · rw [bool_not_plain x2] at y1; cases y1
  · rw [ordN_plain x1] at l1
    rcases ordB_cases h2 with ⟨y1, y2⟩ | ⟨y1, y2⟩ | ⟨y1, y2⟩
    · rw [num_not_plain y1] at x2; cases x2
    · rw [bool_not_plain y1] at x2; cases x2
    · rw [ordN_plain y1] at l2
      rw [ordN_plain x1]
      exact cmpS_tr _ _ _ l1 l2

/-! the theorem's parts -/
theorem sameTm_comm (a b : Tm) : sameTm b a = sameTm a b := by
  unfold sameTm
  rw [BEq.comm (a := b.k), BEq.comm (a := b.x.toList), BEq.comm (a := b.l.toList), BEq.comm (a := b.y.toList)]
theorem sameTm_self (a : Tm) : sameTm a a = true := by simp [sameTm]
theorem sameI_comm (a b : Tm) : sameI b a = sameI a b := by
  unfold sameI
  rw [ordB_comm a b, ordN_neg a b, sameTm_comm a b, Bool.or_comm (!litB b)]
  congr 2
  rw [Bool.eq_iff_iff]; simp only [beq_iff_eq]; omega
theorem sameI_self (a : Tm) : sameI a a = 1 := by
  unfold sameI
  rw [ordN_self, sameTm_self]
  simp [toldI]
theorem toldI_cases (b : Bool) : toldI b = 1 ∨ toldI b = 2 := by cases b <;> simp [toldI]
theorem toldI_one (b : Bool) : (toldI b = 1) ↔ b = true := by cases b <;> simp [toldI]
theorem lessI_wrong (a b : Tm) : lessI a b = 3 ↔ ordB a b = false := by
  unfold lessI
  cases ordB a b
  · simp
  · rcases toldI_cases (decide (ordN a b < 0)) with h | h <;> simp [h]
theorem lessI_one (a b : Tm) : lessI a b = 1 ↔ (ordB a b = true ∧ ordN a b < 0) := by
  unfold lessI
  cases ordB a b
  · simp
  · simp only [if_true, toldI_one, true_and, decide_eq_true_eq]
theorem less_both (a b : Tm) : ¬ (lessI a b = 1 ∧ lessI b a = 1) := by
  rw [lessI_one, lessI_one, ordN_neg a b]
  rintro ⟨⟨_, h1⟩, ⟨_, h2⟩⟩
  omega
theorem less_three (a b : Tm) : (lessI a b = 3) ↔ (lessI b a = 3) := by
  rw [lessI_wrong, lessI_wrong, ordB_comm a b]
/-- Where Less says True or False just one of the three is True, and none is Wrong. -/
theorem less_law (a b : Tm) (h : lessI a b ≠ 3) :
    (sameI a b = 1 ∧ lessI a b = 2 ∧ lessI b a = 2) ∨ (sameI a b = 2 ∧ lessI a b = 1 ∧ lessI b a = 2) ∨ (sameI a b = 2 ∧ lessI a b = 2 ∧ lessI b a = 1) := by
  have hb : ordB a b = true := by
    cases hc : ordB a b with
    | true => rfl
    | false => exact (h ((lessI_wrong a b).2 hc)).elim
  have hb2 : ordB b a = true := by rw [ordB_comm a b]; exact hb
  unfold sameI lessI
  rw [hb, hb2, ordN_neg a b]
  simp only [if_true]
  rcases Int.lt_trichotomy (ordN a b) 0 with h1 | h1 | h1
  · have e1 : (ordN a b == 0) = false := by simp; omega
    have e2 : decide (ordN a b < 0) = true := by simp; omega
    have e3 : decide (-ordN a b < 0) = false := by simp; omega
    rw [e1, e2, e3]; simp [toldI]
  · have e1 : (ordN a b == 0) = true := by simp; omega
    have e2 : decide (ordN a b < 0) = false := by simp; omega
    have e3 : decide (-ordN a b < 0) = false := by simp; omega
    rw [e1, e2, e3]; simp [toldI]
  · have e1 : (ordN a b == 0) = false := by simp; omega
    have e2 : decide (ordN a b < 0) = false := by simp; omega
    have e3 : decide (-ordN a b < 0) = true := by simp; omega
    rw [e1, e2, e3]; simp [toldI]
theorem less_tr (a b c : Tm) (h1 : lessI a b = 1) (h2 : lessI b c = 1) : lessI a c = 1 := by
  rw [lessI_one] at *
  exact ⟨ordB_tr h1.1 h2.1, ordN_tr h1.1 h2.1 h1.2 h2.2⟩
theorem ordB_lit {a b : Tm} (h : ordB a b = true) : litB a = true ∧ litB b = true := by
  unfold litB
  rcases ordB_cases h with ⟨x1, x2⟩ | ⟨x1, x2⟩ | ⟨x1, x2⟩
  · simp [typed_k (num_typed x1), typed_k (num_typed x2)]
  · simp [typed_k (bool_typed x1), typed_k (bool_typed x2)]
  · simp [plain_k x1, plain_k x2]
theorem lit_law (a b : Tm) : (litB a == litB b || sameI a b == 2) = true := by
  cases h : ordB a b with
  | true => simp [ordB_lit h]
  | false =>
    unfold sameI
    simp only [h, Bool.false_eq_true, if_false]
    cases hs : sameTm a b with
    | true =>
      have : a.k = b.k := by
        unfold sameTm at hs
        simp only [Bool.and_eq_true, beq_iff_eq] at hs
        exact hs.1.1.1
      simp [litB, this]
    | false => cases litB a <;> cases litB b <;> simp

/-! truths -/
theorem hasI_append (a b : List Int) (x : Int) : hasI (a ++ b) x = (hasI a x || hasI b x) := by unfold hasI; rw [Bool.eq_iff_iff]; simp
theorem oddI_append (a b : List Int) (s : Int) : oddI (a ++ b) s = (oddI a s || oddI b s) := by unfold oddI; rw [List.any_append]
theorem hasI_split (l : List Int) (k : Nat) (x : Int) : hasI l x = (hasI (l.take k) x || hasI (l.drop k) x) := by rw [← hasI_append, List.take_append_drop]
theorem oddI_split (l : List Int) (k : Nat) (x : Int) : oddI l x = (oddI (l.take k) x || oddI (l.drop k) x) := by rw [← oddI_append, List.take_append_drop]
theorem either_turn (s : Int) (l : List Int) (k : Nat) : eitherI s (l.drop k ++ l ++ l.take k) = eitherI s l := by
  unfold eitherI
  rw [hasI_append, hasI_append, oddI_append, oddI_append, hasI_split l k, oddI_split l k]
  congr 1
  · rw [eq_iff_iff]; cases hasI (l.take k) s <;> cases hasI (l.drop k) s <;> simp
  · congr 1
    rw [eq_iff_iff]; cases oddI (l.take k) s <;> cases oddI (l.drop k) s <;> simp
theorem notI_two (t : Int) (h : 1 ≤ t) (h2 : t ≤ 3) : notI (notI t) = t := by
  unfold notI
  by_cases h1 : t = 1
  · subst h1; rfl
  · by_cases h3 : t = 2
    · subst h3; rfl
    · have : t = 3 := by omega
      subst this; rfl
theorem notI_one (t : Int) : notI t = 1 ↔ t = 2 := by unfold notI; split <;> (try split) <;> omega
theorem notI_is2 (t : Int) : notI t = 2 ↔ t = 1 := by unfold notI; split <;> (try split) <;> omega
theorem has_nots1 : ∀ l : List Int, hasI (l.map notI) 1 = hasI l 2 := fun l => by
  unfold hasI; rw [Bool.eq_iff_iff]; simp only [List.contains_iff_mem, List.mem_map, notI_one]
  exact ⟨fun ⟨a, h1, h2⟩ => h2 ▸ h1, fun h => ⟨2, h, rfl⟩⟩
theorem has_nots2 : ∀ l : List Int, hasI (l.map notI) 2 = hasI l 1 := fun l => by
  unfold hasI; rw [Bool.eq_iff_iff]; simp only [List.contains_iff_mem, List.mem_map, notI_is2]
  exact ⟨fun ⟨a, h1, h2⟩ => h2 ▸ h1, fun h => ⟨1, h, rfl⟩⟩
theorem odd_nots1 : ∀ l : List Int, oddI (l.map notI) 1 = oddI l 2 := fun l => by
  unfold oddI; rw [List.any_map]; congr 1; funext t
  simp only [Function.comp, show notI 1 = 2 from rfl, show notI 2 = 1 from rfl]
  rw [Bool.eq_iff_iff]; simp [notI_is2]
theorem odd_nots2 : ∀ l : List Int, oddI (l.map notI) 2 = oddI l 1 := fun l => by
  unfold oddI; rw [List.any_map]; congr 1; funext t
  simp only [Function.comp, show notI 1 = 2 from rfl, show notI 2 = 1 from rfl]
  rw [Bool.eq_iff_iff]; simp [notI_one]
theorem not_and (l : List Int) : notI (andI l) = orI (l.map notI) := by
  unfold andI orI eitherI
  rw [has_nots1, odd_nots1]
  cases hasI l 2 <;> cases oddI l 2 <;> rfl
theorem not_or (l : List Int) : notI (orI l) = andI (l.map notI) := by
  unfold andI orI eitherI
  rw [has_nots2, odd_nots2]
  cases hasI l 1 <;> cases oddI l 1 <;> rfl
theorem and_two (l : List Int) (k : Nat) : andI [andI (l.take k), andI (l.drop k)] = andI l := by
  have h1 := hasI_split l k 2
  have h2 := oddI_split l k 2
  unfold andI
  rw [show eitherI 2 l = if hasI l 2 then 2 else if oddI l 2 then 3 else notI 2 from rfl, h1, h2]
  unfold eitherI
  cases hasI (l.take k) 2 <;> cases hasI (l.drop k) 2 <;> cases oddI (l.take k) 2 <;> cases oddI (l.drop k) 2 <;> rfl
theorem or_two (l : List Int) (k : Nat) : orI [orI (l.take k), orI (l.drop k)] = orI l := by
  have h1 := hasI_split l k 1
  have h2 := oddI_split l k 1
  unfold orI
  rw [show eitherI 1 l = if hasI l 1 then 1 else if oddI l 1 then 3 else notI 1 from rfl, h1, h2]
  unfold eitherI
  cases hasI (l.take k) 1 <;> cases hasI (l.drop k) 1 <;> cases oddI (l.take k) 1 <;> cases oddI (l.drop k) 1 <;> rfl
theorem and_turn (l : List Int) (k : Nat) : andI (l.drop k ++ l ++ l.take k) = andI l := either_turn 2 l k
theorem or_turn (l : List Int) (k : Nat) : orI (l.drop k ++ l ++ l.take k) = orI l := either_turn 1 l k
end Go.Proofs.YtffpgandgajihaaGreatDoor.Fm
