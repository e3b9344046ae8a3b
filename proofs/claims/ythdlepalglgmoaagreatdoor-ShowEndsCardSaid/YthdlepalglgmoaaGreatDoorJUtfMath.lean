/- UTF-8 signs, in plain Lean: whether a number is a sign, which sign begins a list of bytes, ranges of letters. -/
import Derived.Lib.RuneBytes
import Derived.Lib.DecodeN
namespace Go.Proofs.YthdlepalglgmoaaGreatDoor.Um
open Go.Lib

def isB (n : Int) : Bool := decide (0 ≤ n) && decide (n ≤ 1114111) && (decide (n < 55296) || decide (57343 < n))

def inB (n : Int) : List Int → Bool
  | a :: b :: l => (decide (a ≤ n) && decide (n ≤ b)) || inB n l
  | _ => false

theorem inB_drop (n x y : Int) (l : List Int) (k : Nat) (hx : l[k]? = some x) (hy : l[k+1]? = some y) :
    inB n (l.drop k) = ((decide (x ≤ n) && decide (n ≤ y)) || inB n (l.drop (k+2))) := by
  obtain ⟨h1, rfl⟩ := List.getElem?_eq_some_iff.1 hx
  obtain ⟨h2, rfl⟩ := List.getElem?_eq_some_iff.1 hy
  rw [List.drop_eq_getElem_cons h1, List.drop_eq_getElem_cons h2]
  simp [inB]

theorem inB_end (n : Int) (l : List Int) (k : Nat) (h : ¬ k + 1 < l.length) : inB n (l.drop k) = false := by
  have : (l.drop k).length ≤ 1 := by simp; omega
  generalize l.drop k = r at this
  match r, this with
  | [], _ => rfl
  | [_], _ => rfl

def firstL : List Int := [65, 90, 97, 122, 192, 214, 216, 246, 248, 767, 880, 893, 895, 8191, 8204, 8205, 8304, 8591, 11264, 12271, 12289, 55295, 63744, 64975, 65008, 65533, 65536, 983039]
def firstB (n : Int) : Bool := inB n firstL
def letterL : List Int := [95, 95, 58, 58, 45, 45, 48, 57, 183, 183, 768, 879, 8255, 8256]
def letterB (n : Int) : Bool := firstB n || inB n letterL
def beginL : List Int := [95, 95, 58, 58, 48, 57]
def beginB (n : Int) : Bool := firstB n || inB n beginL
def digitB (n : Int) : Bool := decide (48 ≤ n) && decide (n ≤ 57)
def alphaB (n : Int) : Bool := inB n [65, 90, 97, 122]
/-- the nine bytes that may not stand raw -/
def badL : List Int := [60, 62, 34, 123, 125, 124, 94, 96, 92]
def rawB (n : Int) : Bool := isB n && decide (32 < n) && !badL.contains n

/-- The sign that begins a list of bytes, and how many bytes it has; 0, 0 if none does. -/
def nx (l : List UInt8) : Nat × Nat :=
  if l.length = 0 then (0, 0) else
  if decodeN l.length (l.getD 0 0).toNat (l.getD 1 0).toNat (l.getD 2 0).toNat (l.getD 3 0).toNat = (65533, 1) then (0, 0)
  else decodeN l.length (l.getD 0 0).toNat (l.getD 1 0).toNat (l.getD 2 0).toNat (l.getD 3 0).toNat

theorem isB_iff (n : Int) : isB n = true ↔ (0 ≤ n ∧ n ≤ 1114111) ∧ (n < 55296 ∨ 57343 < n) := by simp [isB]

theorem u8_lt (a : UInt8) : a.toNat < 256 := a.toNat_lt
theorem u8_of_int (x : UInt8) (n : Int) (h : (x.toNat : Int) = n) : n.toNat.toUInt8 = x := by
  subst h; simp

theorem decodeN_pos (n b0 b1 b2 b3 : Nat) : 1 ≤ (decodeN n b0 b1 b2 b3).2 := by
  unfold decodeN
  repeat' split
  all_goals simp

/-- How the reference reckons a sign of so many bytes. -/
def cand (l : List UInt8) : Nat → Int
  | 1 => (l.getD 0 0).toNat
  | 2 => 64 * ((l.getD 0 0).toNat - 192) + (l.getD 1 0).toNat - 128
  | 3 => 64 * (64 * ((l.getD 0 0).toNat - 224) + (l.getD 1 0).toNat - 128) + (l.getD 2 0).toNat - 128
  | 4 => 64 * (64 * (64 * ((l.getD 0 0).toNat - 240) + (l.getD 1 0).toNat - 128) + (l.getD 2 0).toNat - 128) + (l.getD 3 0).toNat - 128
  | _ => 0

theorem take_getD (l : List UInt8) (k i : Nat) (h : i < k) : (l.take k).getD i 0 = l.getD i 0 := by
  simp [List.getD_eq_getElem?_getD, h]

theorem enc_map (n : Int) (l : List UInt8) (k : Nat) (h : l.take k = encodeRune n) (i : Nat) (hi : i < (encodeRuneZ n).length) :
    ((l.getD i 0).toNat : Int) = (encodeRuneZ n).getD i 0 ∧ (encodeRune n).length ≤ k := by
  have hlen : (l.take k).length = (encodeRuneZ n).length := by rw [h]; simp [encodeRune]
  have hk : (encodeRuneZ n).length ≤ k := by rw [← hlen]; simp; omega
  have h1 : (l.take k).getD i 0 = l.getD i 0 := take_getD l k i (by omega)
  refine ⟨?_, by simpa [encodeRune] using hk⟩
  rw [← h1, h]
  have hb := encodeRuneZ_byte n (encodeRuneZ n)[i] (List.getElem_mem hi)
  simp only [encodeRune, List.getD_eq_getElem?_getD, List.getElem?_map, List.getElem?_eq_getElem hi, Option.map_some, Option.getD_some]
  have : ((encodeRuneZ n)[i].toNat.toUInt8).toNat = (encodeRuneZ n)[i].toNat := by
    simp; omega
  omega

theorem dec1 (n b0 b1 b2 b3 : Nat) (h : b0 < 128) : decodeN n b0 b1 b2 b3 = (b0, 1) := by unfold decodeN; rw [if_pos h]

theorem nx_of_enc (n : Int) (l : List UInt8) (hn : isB n = true) (k : Nat) (h : l.take k = encodeRune n) (hk : k ≤ l.length) :
    nx l = (n.toNat, k) := by
  have hlen : k = (encodeRuneZ n).length := by
    have : (l.take k).length = (encodeRune n).length := by rw [h]
    simp [encodeRune] at this; omega
  have hb := fun i hi => (enc_map n l k h i hi).1
  rw [isB_iff] at hn
  have hl1 := encodeRuneZ_length n
  unfold nx
  rw [if_neg (by omega)]
  have g0 := u8_lt (l.getD 0 0)
  have g1 := u8_lt (l.getD 1 0)
  have g2 := u8_lt (l.getD 2 0)
  have g3 := u8_lt (l.getD 3 0)
  generalize l.length = L at *
  have hb0 := hb 0
  have hb1 := hb 1
  have hb2 := hb 2
  have hb3 := hb 3
  clear hb
  generalize (l.getD 0 0).toNat = x0 at *
  generalize (l.getD 1 0).toNat = x1 at *
  generalize (l.getD 2 0).toNat = x2 at *
  generalize (l.getD 3 0).toNat = x3 at *
  have key : decodeN L x0 x1 x2 x3 = (n.toNat, k) := by
    by_cases c1 : n ≤ 127
    · have e := encodeRuneZ_one hn.1.1 c1
      rw [e] at hb0 hlen
      have h0 := hb0 (by simp)
      simp only [List.getD_cons_zero, List.length_cons, List.length_nil] at h0 hlen
      rw [dec1 _ _ _ _ _ (by omega)]
      ext <;> simp <;> omega
    · by_cases c2 : n ≤ 2047
      · have e := encodeRuneZ_two (by omega : 128 ≤ n) c2
        rw [e] at hb0 hb1 hlen
        have h0 := hb0 (by simp)
        have h1 := hb1 (by simp)
        simp only [List.getD_cons_zero, List.getD_cons_succ, List.length_cons, List.length_nil] at h0 h1 hlen
        unfold decodeN
        rw [if_neg (by omega), if_pos (by omega), if_pos (by omega)]
        ext <;> simp <;> omega
      · by_cases c3 : n ≤ 65535
        · have e := encodeRuneZ_three (r := n) (by omega)
          rw [e] at hb0 hb1 hb2 hlen
          have h0 := hb0 (by simp)
          have h1 := hb1 (by simp)
          have h2 := hb2 (by simp)
          simp only [List.getD_cons_zero, List.getD_cons_succ, List.length_cons, List.length_nil] at h0 h1 h2 hlen
          unfold decodeN
          rw [if_neg (by omega), if_neg (by omega), if_pos (by omega), if_pos (by omega)]
          ext <;> simp <;> omega
        · have e := encodeRuneZ_four (r := n) (by omega) (by omega)
          rw [e] at hb0 hb1 hb2 hb3 hlen
          have h0 := hb0 (by simp)
          have h1 := hb1 (by simp)
          have h2 := hb2 (by simp)
          have h3 := hb3 (by simp)
          simp only [List.getD_cons_zero, List.getD_cons_succ, List.length_cons, List.length_nil] at h0 h1 h2 h3 hlen
          unfold decodeN
          rw [if_neg (by omega), if_neg (by omega), if_neg (by omega), if_pos (by omega), if_pos (by omega)]
          ext <;> simp <;> omega
  rw [key, if_neg]
  intro hh
  injection hh with e1 e2
  subst e2
  have : (encodeRuneZ n).length = 3 := by
    rw [encodeRuneZ_three (r := n) (by omega)]; rfl
  omega

theorem take_of_bytes (l : List UInt8) (m : List Int) (hl : m.length ≤ l.length) (hm : ∀ i, i < m.length → ((l.getD i 0).toNat : Int) = m.getD i 0) :
    l.take m.length = m.map fun x => x.toNat.toUInt8 := by
  apply List.ext_getElem?
  intro i
  by_cases hi : i < m.length
  · have h1 := hm i hi
    rw [List.getElem?_take, if_pos hi, List.getElem?_map, List.getElem?_eq_getElem hi, List.getElem?_eq_getElem (by omega)]
    simp only [List.getD_eq_getElem?_getD, List.getElem?_eq_getElem hi, List.getElem?_eq_getElem (show i < l.length by omega), Option.getD_some] at h1
    simp only [Option.map_some, Option.some.injEq]
    exact (u8_of_int _ _ h1).symm
  · rw [List.getElem?_eq_none (by simp; omega), List.getElem?_eq_none (by simp; omega)]

/-- What nx says, if there is a sign. -/
theorem nx_enc (l : List UInt8) (h : (nx l).2 ≠ 0) :
    isB ((nx l).1 : Int) = true ∧ (nx l).2 ≤ l.length ∧ l.take (nx l).2 = encodeRune ((nx l).1 : Int) ∧ cand l (nx l).2 = ((nx l).1 : Int) ∧ (nx l).2 ≤ 4 := by
  unfold nx at *
  split at h
  · simp at h
  split at h
  · simp at h
  rename_i hl0 hbad
  rw [if_neg hl0, if_neg hbad]
  have g0 := u8_lt (l.getD 0 0)
  have g1 := u8_lt (l.getD 1 0)
  have g2 := u8_lt (l.getD 2 0)
  have g3 := u8_lt (l.getD 3 0)
  have key : ∀ m : List Int, (∀ i, i < m.length → ((l.getD i 0).toNat : Int) = m.getD i 0) → m.length ≤ l.length → l.take m.length = m.map fun x => x.toNat.toUInt8 := fun m a b => take_of_bytes l m b a
  obtain ⟨b0, e0⟩ : ∃ x, (l.getD 0 0).toNat = x := ⟨_, rfl⟩
  obtain ⟨b1, e1⟩ : ∃ x, (l.getD 1 0).toNat = x := ⟨_, rfl⟩
  obtain ⟨b2, e2⟩ : ∃ x, (l.getD 2 0).toNat = x := ⟨_, rfl⟩
  obtain ⟨b3, e3⟩ : ∃ x, (l.getD 3 0).toNat = x := ⟨_, rfl⟩
  rw [e0, e1, e2, e3] at hbad ⊢
  rw [e0] at g0
  rw [e1] at g1
  rw [e2] at g2
  rw [e3] at g3
  clear h
  have bad : ∀ x : Nat × Nat, x = (65533, 1) → ¬ x = (65533, 1) → False := fun _ a b => b a
  unfold decodeN at hbad ⊢
  by_cases c1 : b0 < 128
  · rw [if_pos c1]
    refine ⟨by rw [isB_iff]; omega, by omega, ?_, by simp only [cand, e0], by simp only; omega⟩
    have e := encodeRuneZ_one (r := (b0 : Int)) (by omega) (by omega)
    unfold encodeRune
    rw [e]
    refine key [(b0 : Int)] ?_ (by simp; omega)
    intro i hi
    match i, hi with
    | 0, _ => rw [e0]; rfl
  rw [if_neg c1] at hbad ⊢
  by_cases c2 : b0 / 32 = 6 ∧ (1 < l.length ∧ b1 / 64 = 2)
  · rw [if_pos c2] at hbad ⊢
    by_cases d : b0 % 32 * 64 + b1 % 64 ≥ 128
    · rw [if_pos d]
      refine ⟨by rw [isB_iff]; simp only; omega, by simp only; omega, ?_, by simp only [cand, e0, e1]; omega, by simp⟩
      have e := encodeRuneZ_two (r := ((b0 % 32 * 64 + b1 % 64 : Nat) : Int)) (by omega) (by omega)
      unfold encodeRune
      simp only
      rw [e]
      refine key [_, _] ?_ (by simp; omega)
      intro i hi
      match i, hi with
      | 0, _ => rw [e0]; simp only [List.getD_cons_zero]; omega
      | 1, _ => rw [e1]; simp only [List.getD_cons_succ, List.getD_cons_zero]; omega
    · rw [if_neg d] at hbad; exact absurd rfl hbad
  rw [if_neg c2] at hbad ⊢
  by_cases c3 : b0 / 16 = 14 ∧ (1 < l.length ∧ b1 / 64 = 2) ∧ (2 < l.length ∧ b2 / 64 = 2)
  · rw [if_pos c3] at hbad ⊢
    split at hbad
    · rename_i d
      rw [if_pos d]
      refine ⟨by rw [isB_iff]; simp only; omega, by simp only; omega, ?_, by simp only [cand, e0, e1, e2]; omega, by simp⟩
      have e := encodeRuneZ_three (r := ((b0 % 16 * 4096 + b1 % 64 * 64 + b2 % 64 : Nat) : Int)) (by omega)
      unfold encodeRune
      simp only
      rw [e]
      refine key [_, _, _] ?_ (by simp; omega)
      intro i hi
      match i, hi with
      | 0, _ => rw [e0]; simp only [List.getD_cons_zero]; omega
      | 1, _ => rw [e1]; simp only [List.getD_cons_succ, List.getD_cons_zero]; omega
      | 2, _ => rw [e2]; simp only [List.getD_cons_succ, List.getD_cons_zero]; omega
    · exact absurd rfl hbad
  rw [if_neg c3] at hbad ⊢
  by_cases c4 : b0 / 8 = 30 ∧ (1 < l.length ∧ b1 / 64 = 2) ∧ (2 < l.length ∧ b2 / 64 = 2) ∧ (3 < l.length ∧ b3 / 64 = 2)
  · rw [if_pos c4] at hbad ⊢
    split at hbad
    · rename_i d
      rw [if_pos d]
      refine ⟨by rw [isB_iff]; simp only; omega, by simp only; omega, ?_, by simp only [cand, e0, e1, e2, e3]; omega, by simp⟩
      have e := encodeRuneZ_four (r := ((b0 % 8 * 262144 + b1 % 64 * 4096 + b2 % 64 * 64 + b3 % 64 : Nat) : Int)) (by omega) (by omega)
      unfold encodeRune
      simp only
      rw [e]
      refine key [_, _, _, _] ?_ (by simp; omega)
      intro i hi
      match i, hi with
      | 0, _ => rw [e0]; simp only [List.getD_cons_zero]; omega
      | 1, _ => rw [e1]; simp only [List.getD_cons_succ, List.getD_cons_zero]; omega
      | 2, _ => rw [e2]; simp only [List.getD_cons_succ, List.getD_cons_zero]; omega
      | 3, _ => rw [e3]; simp only [List.getD_cons_succ, List.getD_cons_zero]; omega
    · exact absurd rfl hbad
  rw [if_neg c4] at hbad
  exact absurd rfl hbad

/-- The bytes of signs, one behind the other, as numbers. -/
def encL (l : List Int) : List Int := l.flatMap encodeRuneZ
theorem encL_length (l : List Int) : (encL l).length ≤ 4 * l.length := by
  induction l with
  | nil => simp [encL]
  | cons a l ih =>
    have := encodeRuneZ_length a
    have e : encL (a :: l) = encodeRuneZ a ++ encL l := rfl
    rw [e, List.length_append, List.length_cons]; omega
/-- a row of numbers as a text -/
def textS (l : List Int) : ByteArray := ⟨((encL l).map fun n => UInt8.ofNat n.toNat).toArray⟩

/-- The signs of a list of bytes; whether all is valid, else how many bytes are. -/
def sgF : Nat → List UInt8 → List Int × Nat × Bool
  | 0, _ => ([], 0, true)
  | f + 1, l => if l.length = 0 then ([], 0, true) else
      if (nx l).2 = 0 then ([], 0, false) else
      (((nx l).1 : Int) :: (sgF f (l.drop (nx l).2)).1, (nx l).2 + (sgF f (l.drop (nx l).2)).2.1, (sgF f (l.drop (nx l).2)).2.2)
def sgn (l : List UInt8) : List Int × Nat × Bool := sgF l.length l
/-- What Signs tells. -/
def sigR (l : List UInt8) : List Int × Nat × Int := if (sgn l).2.2 then ((sgn l).1, 0, 0) else ([], (sgn l).2.1, 11)

theorem sgF_more (f g : Nat) : ∀ l : List UInt8, l.length ≤ f → l.length ≤ g → sgF f l = sgF g l := by
  induction f generalizing g with
  | zero =>
    intro l h _
    have : l.length = 0 := by omega
    cases g with
    | zero => rfl
    | succ g => simp [sgF, this]
  | succ f ih =>
    intro l h1 h2
    cases g with
    | zero =>
      have : l.length = 0 := by omega
      simp [sgF, this]
    | succ g =>
      simp only [sgF]
      split
      · rfl
      · split
        · rfl
        · rename_i h3 h4
          rw [ih g (l.drop (nx l).2) (by simp; omega) (by simp; omega)]

theorem sgn_cons (l : List UInt8) (h : l.length ≠ 0) (h0 : (nx l).2 ≠ 0) :
    sgn l = (((nx l).1 : Int) :: (sgn (l.drop (nx l).2)).1, (nx l).2 + (sgn (l.drop (nx l).2)).2.1, (sgn (l.drop (nx l).2)).2.2) := by
  unfold sgn
  obtain ⟨f, hf⟩ : ∃ f, l.length = f + 1 := ⟨l.length - 1, by omega⟩
  rw [hf]
  simp only [sgF, if_neg h, if_neg h0]
  rw [sgF_more f (l.drop (nx l).2).length _ (by simp; omega) (Nat.le_refl _)]
theorem sgn_bad (l : List UInt8) (h : l.length ≠ 0) (h0 : (nx l).2 = 0) : sgn l = ([], 0, false) := by
  unfold sgn
  obtain ⟨f, hf⟩ : ∃ f, l.length = f + 1 := ⟨l.length - 1, by omega⟩
  rw [hf]
  simp only [sgF, if_neg h, if_pos h0]
theorem sgn_nil (l : List UInt8) (h : l.length = 0) : sgn l = ([], 0, true) := by
  unfold sgn
  rw [h]; rfl

/-- What is still to be done, at a place, with the signs so far. -/
def sgRest (l : List UInt8) (k : Nat) (acc : List Int) : Prop :=
  sgn l = (acc ++ (sgn (l.drop k)).1, k + (sgn (l.drop k)).2.1, (sgn (l.drop k)).2.2)
theorem sgRest_start (l : List UInt8) : sgRest l 0 [] := by simp [sgRest]
theorem sgRest_end {l : List UInt8} {k : Nat} {acc : List Int} (h : sgRest l k acc) (hk : l.length ≤ k) : sigR l = (acc, 0, 0) := by
  unfold sgRest at h
  rw [sgn_nil (l.drop k) (by simp; omega)] at h
  unfold sigR
  rw [h]; simp
theorem sgRest_bad {l : List UInt8} {k : Nat} {acc : List Int} (h : sgRest l k acc) (hk : k < l.length) (h0 : (nx (l.drop k)).2 = 0) : sigR l = ([], k, 11) := by
  unfold sgRest at h
  rw [sgn_bad (l.drop k) (by simp; omega) h0] at h
  unfold sigR
  rw [h]; simp
theorem sgRest_go {l : List UInt8} {k : Nat} {acc : List Int} (h : sgRest l k acc) (hk : k < l.length) (h0 : (nx (l.drop k)).2 ≠ 0) :
    sgRest l (k + (nx (l.drop k)).2) (acc ++ [((nx (l.drop k)).1 : Int)]) := by
  unfold sgRest at h ⊢
  rw [sgn_cons (l.drop k) (by simp; omega) h0, List.drop_drop] at h
  rw [h]
  simp [Nat.add_assoc]

/-- May a sign stand here? -/
def mayB : Bool → Int → Bool
  | true, n => beginB n
  | false, n => letterB n || decide (n = 46)
/-- How many bytes the longest label has: at: so many are read; best: so many are one. -/
def labF : Nat → Bool → List UInt8 → Nat → Nat → Nat
  | 0, _, _, _, best => best
  | f + 1, start, l, at_, best =>
    if l.length = 0 ∨ (nx l).2 = 0 then best
    else if mayB start (nx l).1 = false then best
    else labF f false (l.drop (nx l).2) (at_ + (nx l).2) (if (nx l).1 = 46 then best else at_ + (nx l).2)
def label (l : List UInt8) : Nat := labF (l.length + 1) true l 0 0

theorem labF_more (f g : Nat) : ∀ (st : Bool) (l : List UInt8) (a b : Nat), l.length < f → l.length < g → labF f st l a b = labF g st l a b := by
  induction f generalizing g with
  | zero => intro st l a b h; omega
  | succ f ih =>
    intro st l a b h1 h2
    cases g with
    | zero => omega
    | succ g =>
      simp only [labF]
      split
      · rfl
      · rename_i h3
        split
        · rfl
        · rw [ih g false (l.drop (nx l).2) _ _ (by simp; omega) (by simp; omega)]

/-- What is still to be done. -/
def labRest (l : List UInt8) (start : Bool) (k best : Nat) : Prop := label l = labF (l.length + 1) start (l.drop k) k best
theorem labRest_start (l : List UInt8) : labRest l true 0 0 := rfl
theorem labRest_end {l : List UInt8} {st : Bool} {k best : Nat} (h : labRest l st k best) (hk : l.length ≤ k ∨ (nx (l.drop k)).2 = 0) : label l = best := by
  unfold labRest at h
  rw [h]
  simp only [labF]
  rw [if_pos (by simp; omega)]
theorem labRest_out {l : List UInt8} {st : Bool} {k best : Nat} (h : labRest l st k best)
    (ht : mayB st (nx (l.drop k)).1 = false) : label l = best := by
  unfold labRest at h
  rw [h]
  simp only [labF]
  split
  · rfl
  · first | rfl | rw [if_pos ht]
theorem labRest_go {l : List UInt8} {st : Bool} {k best : Nat} (h : labRest l st k best) (hk : k < l.length) (h0 : (nx (l.drop k)).2 ≠ 0)
    (ht : mayB st (nx (l.drop k)).1 = true) :
    labRest l false (k + (nx (l.drop k)).2) (if (nx (l.drop k)).1 = 46 then best else k + (nx (l.drop k)).2) := by
  unfold labRest at h ⊢
  rw [h]
  obtain ⟨m, hm⟩ : ∃ m, l.length = m + 1 := ⟨l.length - 1, by omega⟩
  have c1 : ¬ ((l.drop k).length = 0 ∨ (nx (l.drop k)).2 = 0) := by simp only [List.length_drop]; omega
  have c2 : ¬ mayB st (nx (l.drop k)).1 = false := by rw [ht]; simp
  conv => lhs; unfold labF
  rw [if_neg c1, if_neg c2, List.drop_drop]
  exact labF_more _ _ _ _ _ _ (by simp only [List.length_drop]; omega) (by simp only [List.length_drop]; omega)

theorem begin_letter (n : Int) (h : beginB n = true) : letterB n = true := by
  simp only [beginB, letterB, beginL, letterL, inB, Bool.or_eq_true, Bool.and_eq_true, decide_eq_true_eq, Bool.false_eq_true, or_false] at h ⊢
  rcases h with h | h
  · exact .inl h
  · right; omega

/-- How many bytes of a kind a list begins with. -/
def span (p : Int → Bool) : List UInt8 → Nat
  | [] => 0
  | c :: l => if p c.toNat then span p l + 1 else 0
def alnumB (c : Int) : Bool := alphaB c || digitB c
/-- The longest tag: so many bytes are one. -/
def tagF : Nat → List UInt8 → Nat → Nat
  | 0, _, n => n
  | f + 1, l, n => if 0 < n ∧ n < l.length ∧ (l.getD n 0).toNat = 45 ∧ span alnumB (l.drop (n + 1)) ≠ 0 then tagF f l (n + 1 + span alnumB (l.drop (n + 1))) else n
def tag (l : List UInt8) : Nat := tagF l.length l (span alphaB l)

theorem span_le (p : Int → Bool) (l : List UInt8) : span p l ≤ l.length := by
  induction l with
  | nil => simp [span]
  | cons c l ih => simp only [span]; split <;> simp <;> omega
theorem span_drop (p : Int → Bool) (l : List UInt8) (k : Nat) (hk : k < l.length) :
    span p (l.drop k) = if p (l.getD k 0).toNat then span p (l.drop (k + 1)) + 1 else 0 := by
  rw [List.drop_eq_getElem_cons hk]
  simp only [span, List.getD_eq_getElem?_getD, List.getElem?_eq_getElem hk, Option.getD_some]
theorem span_end (p : Int → Bool) (l : List UInt8) (k : Nat) (hk : l.length ≤ k) : span p (l.drop k) = 0 := by
  rw [List.drop_eq_nil_of_le hk]; rfl

theorem tagF_more (f g : Nat) : ∀ (l : List UInt8) (n : Nat), l.length ≤ n + f → l.length ≤ n + g → tagF f l n = tagF g l n := by
  induction f generalizing g with
  | zero =>
    intro l n h _
    cases g with
    | zero => rfl
    | succ g => simp only [tagF]; rw [if_neg (by omega)]
  | succ f ih =>
    intro l n h1 h2
    cases g with
    | zero => simp only [tagF]; rw [if_neg (by omega)]
    | succ g =>
      simp only [tagF]
      split
      · exact ih g l _ (by omega) (by omega)
      · rfl
def tagRest (l : List UInt8) (n : Nat) : Prop := tag l = tagF l.length l n
theorem tagRest_out {l : List UInt8} {n : Nat} (h : tagRest l n) (ht : ¬ (0 < n ∧ n < l.length ∧ (l.getD n 0).toNat = 45 ∧ span alnumB (l.drop (n + 1)) ≠ 0)) : tag l = n := by
  unfold tagRest at h
  rw [h]
  cases hl : l.length with
  | zero => rfl
  | succ m => simp only [tagF]; rw [if_neg ht]
theorem tagRest_go {l : List UInt8} {n : Nat} (h : tagRest l n) (ht : 0 < n ∧ n < l.length ∧ (l.getD n 0).toNat = 45 ∧ span alnumB (l.drop (n + 1)) ≠ 0) : tagRest l (n + 1 + span alnumB (l.drop (n + 1))) := by
  unfold tagRest at h ⊢
  rw [h]
  obtain ⟨m, hm⟩ : ∃ m, l.length = m + 1 := ⟨l.length - 1, by omega⟩
  rw [hm]
  conv => lhs; unfold tagF
  rw [if_pos ht]
  exact tagF_more _ _ _ _ (by omega) (by omega)

end Go.Proofs.YthdlepalglgmoaaGreatDoor.Um
