/- Terms' texts in plain words: written as an IRI, as a literal; read back; what a text may be. A text written as an IRI, sign by sign. The program's term.writer, walked: pieces. -/
import Derived.Test.YtffpgandgajihaaGreatDoorJUtfMath3
import Derived.Test.YtffpgandgajihaaGreatDoorJLexMath2
import Derived.Lib.MapLaws
import Derived.Test.YtffpgandgajihaaGreatDoorJWrt
import Derived.Test.YtffpgandgajihaaGreatDoorJUtfProg5
namespace Go.Proofs.YtffpgandgajihaaGreatDoor.Tx
open Go Go.RowKit Um Fm Lx

/-- A digit of base 16, a capital one. -/
def hxD (d : Nat) : UInt8 := if d < 10 then UInt8.ofNat (48 + d) else UInt8.ofNat (55 + d)
def escC (c : UInt8) : Bool := decide (c.toNat < 128) && !rawB c.toNat
def iriC (c : UInt8) : List UInt8 := if escC c then [92, 117, 48, 48, hxD (c.toNat / 16), hxD (c.toNat % 16)] else [c]
def iriL (l : List UInt8) : List UInt8 := l.flatMap iriC
def litC (c : UInt8) : List UInt8 := if c = 34 then [92, 34] else if c = 92 then [92, 92] else if c = 10 then [92, 110] else if c = 13 then [92, 114] else [c]
def litL (l : List UInt8) : List UInt8 := l.flatMap litC
/-- A right term's text. -/
def textL (t : Tm) : List UInt8 :=
  if t.k = 1 then 60 :: (iriL t.x.data.toList ++ [62])
  else if t.k = 2 then 95 :: 58 :: t.x.data.toList
  else if t.k = 4 then 34 :: (litL t.x.data.toList ++ 34 :: 94 :: 94 :: 60 :: (iriL t.y.data.toList ++ [62]))
  else if t.l.data.toList = [] then 34 :: (litL t.x.data.toList ++ [34])
  else 34 :: (litL t.x.data.toList ++ 34 :: 64 :: t.l.data.toList)

/-- A text, read as it was written; p: what four signs behind \u are. -/
def rdF (p : List UInt8 → Option Nat) : Nat → List UInt8 → List UInt8
  | 0, _ => []
  | _ + 1, [] => []
  | _ + 1, [c] => [c]
  | f + 1, c :: d :: r =>
    if c ≠ 92 then c :: rdF p f (d :: r)
    else if d = 117 ∧ (p r).isSome then UInt8.ofNat ((p r).getD 0) :: rdF p f (r.drop 4)
    else (if d = 110 then 10 else if d = 114 then 13 else d) :: rdF p f r
def rdG (p : List UInt8 → Option Nat) (l : List UInt8) : List UInt8 := rdF p (l.length + 1) l
theorem rdF_more (p : List UInt8 → Option Nat) : ∀ (f g : Nat) (l : List UInt8), l.length < f → l.length < g → rdF p f l = rdF p g l
  | 0, _, _, h, _ => by omega
  | _, 0, _, _, h => by omega
  | f + 1, g + 1, [], _, _ => rfl
  | f + 1, g + 1, [c], _, _ => rfl
  | f + 1, g + 1, c :: d :: r, h1, h2 => by
    simp only [List.length_cons] at h1 h2
    have e1 := rdF_more p f g (d :: r) (by simp; omega) (by simp; omega)
    have e2 := rdF_more p f g r (by omega) (by omega)
    have e3 := rdF_more p f g (r.drop 4) (by simp; omega) (by simp; omega)
    rw [rdF, rdF, e1, e2, e3]
theorem rdG_nil (p : List UInt8 → Option Nat) : rdG p [] = [] := rfl
theorem rdG_last (p : List UInt8 → Option Nat) (c : UInt8) : rdG p [c] = [c] := rfl
theorem rdG_plain (p : List UInt8 → Option Nat) (c : UInt8) (t : List UInt8) (h : c ≠ 92) : rdG p (c :: t) = c :: rdG p t := by
  cases t with
  | nil => rfl
  | cons d r => unfold rdG; rw [rdF, if_pos h]; rfl
theorem rdG_u (p : List UInt8 → Option Nat) (n : Nat) (r : List UInt8) (h : p r = some n) : rdG p (92 :: 117 :: r) = UInt8.ofNat n :: rdG p (r.drop 4) := by
  unfold rdG
  rw [rdF, if_neg (by simp), if_pos (by rw [h]; simp), h]
  simp only [Option.getD_some, List.cons.injEq, true_and]
  exact rdF_more p _ _ _ (by simp; omega) (by simp)
theorem rdG_esc (p : List UInt8 → Option Nat) (d : UInt8) (r : List UInt8) (h : d ≠ 117 ∨ p r = none) : rdG p (92 :: d :: r) = (if d = 110 then 10 else if d = 114 then 13 else d) :: rdG p r := by
  unfold rdG
  have hn : ¬ (d = 117 ∧ (p r).isSome) := by
    rintro ⟨h1, h2⟩
    rcases h with h | h
    · exact h h1
    · rw [h] at h2; cases h2
  rw [rdF, if_neg (by simp), if_neg hn]
  simp only [List.cons.injEq, true_and]
  exact rdF_more p _ _ _ (by simp; omega) (by simp)

/-- What the program, the reference reads. -/
def pu8 (l : List UInt8) : Option Nat := if l = [] then none else (hexN l 0).bind fun n => if n < 256 then some n else none
def puP (r : List UInt8) : Option Nat := if 3 < r.length then pu8 (r.take 4) else none
def hxV (c : Nat) : Option Nat := if 48 ≤ c ∧ c ≤ 57 then some (c - 48) else if 65 ≤ c ∧ c ≤ 70 then some (c - 55) else none
def puR (r : List UInt8) : Option Nat := if 3 < r.length then (hxV (r.getD 2 0).toNat).bind fun a => (hxV (r.getD 3 0).toNat).map fun b => 16 * a + b else none

theorem hxD_toNat : ∀ d : Fin 16, hexB (hxD d.val).toNat = some d.val ∧ hxV (hxD d.val).toNat = some d.val := by decide
theorem hexB_hxD {d : Nat} (h : d < 16) : hexB (hxD d).toNat = some d := (hxD_toNat ⟨d, h⟩).1
theorem hxV_hxD {d : Nat} (h : d < 16) : hxV (hxD d).toNat = some d := (hxD_toNat ⟨d, h⟩).2
theorem puP_esc (c : Nat) (r : List UInt8) (h : c < 256) : puP (48 :: 48 :: hxD (c / 16) :: hxD (c % 16) :: r) = some c := by
  unfold puP
  rw [if_pos (by simp)]
  unfold pu8
  rw [if_neg (by simp)]
  simp only [List.take_succ_cons, List.take_zero]
  have h0 : hexB (48 : UInt8).toNat = some 0 := by decide
  simp only [hexN, h0, hexB_hxD (show c / 16 < 16 by omega), hexB_hxD (show c % 16 < 16 by omega), Option.bind_some]
  have e : 16 * (16 * (16 * (16 * 0 + 0) + 0) + c / 16) + c % 16 = c := by omega
  rw [e, if_pos h]
theorem puR_esc (c : Nat) (r : List UInt8) (h : c < 256) : puR (48 :: 48 :: hxD (c / 16) :: hxD (c % 16) :: r) = some c := by
  unfold puR
  rw [if_pos (by simp)]
  simp only [List.getD_cons_succ, List.getD_cons_zero, hxV_hxD (show c / 16 < 16 by omega), hxV_hxD (show c % 16 < 16 by omega), Option.bind_some, Option.map_some]
  congr 1
  omega
theorem esc_slash : escC 92 = true := by decide
theorem esc_low {c : UInt8} (h : escC c = true) : c.toNat < 128 := by unfold escC at h; simp at h; exact h.1
theorem rd_iri (p : List UInt8 → Option Nat) (hp : ∀ (c : Nat) (r : List UInt8), c < 256 → p (48 :: 48 :: hxD (c / 16) :: hxD (c % 16) :: r) = some c) : ∀ l : List UInt8, rdG p (iriL l) = l
  | [] => rfl
  | c :: t => by
    have ih := rd_iri p hp t
    unfold iriL at ih ⊢
    rw [List.flatMap_cons]
    cases h : escC c
    · have e : iriC c = [c] := by unfold iriC; rw [h]; rfl
      rw [e, List.singleton_append, rdG_plain p c _ (by rintro rfl; rw [esc_slash] at h; cases h), ih]
    · have e : iriC c = [92, 117, 48, 48, hxD (c.toNat / 16), hxD (c.toNat % 16)] := by unfold iriC; rw [h]; rfl
      rw [e]
      simp only [List.cons_append, List.nil_append]
      rw [rdG_u p c.toNat _ (hp c.toNat _ c.toNat_lt)]
      simp only [List.drop_succ_cons, List.drop_zero]
      rw [ih]
      simp
theorem rd_lit (p : List UInt8 → Option Nat) : ∀ l : List UInt8, rdG p (litL l) = l
  | [] => rfl
  | c :: t => by
    have ih := rd_lit p t
    have e : litL (c :: t) = litC c ++ litL t := by unfold litL; rw [List.flatMap_cons]
    rw [e]
    by_cases h1 : c = 34
    · subst h1; rw [show litC 34 = [92, 34] from rfl, List.cons_append, List.cons_append, List.nil_append, rdG_esc p _ _ (.inl (by decide)), ih]; rfl
    by_cases h2 : c = 92
    · subst h2; rw [show litC 92 = [92, 92] from rfl, List.cons_append, List.cons_append, List.nil_append, rdG_esc p _ _ (.inl (by decide)), ih]; rfl
    by_cases h3 : c = 10
    · subst h3; rw [show litC 10 = [92, 110] from rfl, List.cons_append, List.cons_append, List.nil_append, rdG_esc p _ _ (.inl (by decide)), ih]; rfl
    by_cases h4 : c = 13
    · subst h4; rw [show litC 13 = [92, 114] from rfl, List.cons_append, List.cons_append, List.nil_append, rdG_esc p _ _ (.inl (by decide)), ih]; rfl
    have e : litC c = [c] := by unfold litC; rw [if_neg h1, if_neg h2, if_neg h3, if_neg h4]
    rw [e, List.singleton_append, rdG_plain p c _ h2, ih]

/-- How many bytes stand to a literal's second quote, and with it; 0: there is none. -/
def qtF : List UInt8 → Nat → Nat
  | [], _ => 0
  | [c], k => if c = 34 then k + 1 else 0
  | c :: d :: r, k => if c = 34 then k + 1 else if c = 92 then qtF r (k + 2) else qtF (d :: r) (k + 1)
theorem qtF_end (t : List UInt8) (k : Nat) : qtF (34 :: t) k = k + 1 := by cases t <;> rfl
theorem qtF_esc (d : UInt8) (r : List UInt8) (k : Nat) : qtF (92 :: d :: r) k = qtF r (k + 2) := rfl
theorem qtF_plain (c : UInt8) (t : List UInt8) (k : Nat) (h1 : c ≠ 34) (h2 : c ≠ 92) : qtF (c :: t) k = qtF t (k + 1) := by
  cases t with
  | nil => unfold qtF; rw [if_neg h1]
  | cons d r => rw [qtF, if_neg h1, if_neg h2]
theorem qtF_slash (k : Nat) : qtF [92] k = 0 := rfl
theorem qtF_lit (z : List UInt8) : ∀ (l : List UInt8) (k : Nat), qtF (litL l ++ 34 :: z) k = k + (litL l).length + 1
  | [], k => qtF_end z k
  | c :: t, k => by
    have ih := fun k => qtF_lit z t k
    have e : litL (c :: t) = litC c ++ litL t := by unfold litL; rw [List.flatMap_cons]
    rw [e, List.append_assoc, List.length_append]
    have two : ∀ d : UInt8, litC c = [92, d] → qtF (litC c ++ (litL t ++ 34 :: z)) k = k + ((litC c).length + (litL t).length) + 1 := by
      intro d hd
      rw [hd]
      simp only [List.cons_append, List.nil_append, List.length_cons, List.length_nil]
      rw [qtF_esc, ih]; omega
    by_cases h1 : c = 34
    · exact two 34 (by unfold litC; rw [if_pos h1])
    by_cases h2 : c = 92
    · exact two 92 (by unfold litC; rw [if_neg h1, if_pos h2])
    by_cases h3 : c = 10
    · exact two 110 (by unfold litC; rw [if_neg h1, if_neg h2, if_pos h3])
    by_cases h4 : c = 13
    · exact two 114 (by unfold litC; rw [if_neg h1, if_neg h2, if_neg h3, if_pos h4])
    have e : litC c = [c] := by unfold litC; rw [if_neg h1, if_neg h2, if_neg h3, if_neg h4]
    rw [e]
    simp only [List.cons_append, List.nil_append, List.length_cons, List.length_nil]
    rw [qtF_plain c _ k h1 h2, ih]; omega
def qtL (l : List UInt8) : Nat := qtF (l.drop 1) 1
theorem qtF_le : ∀ (l : List UInt8) (k : Nat), qtF l k = 0 ∨ (k < qtF l k ∧ qtF l k ≤ k + l.length)
  | [], _ => .inl rfl
  | [c], k => by
    rw [qtF]
    split
    · right; simp
    · left; rfl
  | c :: d :: r, k => by
    rw [qtF]
    split
    · right; simp
    split
    · rcases qtF_le r (k + 2) with h | ⟨h1, h2⟩
      · exact .inl h
      · right; simp only [List.length_cons]; omega
    · rcases qtF_le (d :: r) (k + 1) with h | ⟨h1, h2⟩
      · exact .inl h
      · right; simp only [List.length_cons] at h2 ⊢; omega
/-- Without a > at the end. -/
def trimL (l : List UInt8) : List UInt8 := if [62].isSuffixOf l then l.take (l.length - 1) else l
theorem trim_end (l : List UInt8) : trimL (l ++ [62]) = l := by
  unfold trimL
  rw [if_pos (by rw [List.isSuffixOf_iff_suffix]; exact List.suffix_append _ _)]
  simp
abbrev mkS (l : List UInt8) : ByteArray := ⟨l.toArray⟩
/-- What a text may be: the program's word. -/
def guessP (l : List UInt8) : Tm :=
  if [60].isPrefixOf l then ⟨1, mkS (rdG puP (trimL (l.drop 1))), ⟨#[]⟩, ⟨#[]⟩⟩
  else if [95, 58].isPrefixOf l then ⟨2, mkS (l.drop 2), ⟨#[]⟩, ⟨#[]⟩⟩
  else if ![34].isPrefixOf l || qtL l == 0 then ⟨0, ⟨#[]⟩, ⟨#[]⟩, ⟨#[]⟩⟩
  else if [64].isPrefixOf (l.drop (qtL l)) then ⟨3, mkS (rdG puP ((l.drop 1).take (qtL l - 2))), mkS ((l.drop (qtL l)).drop 1), ⟨#[]⟩⟩
  else if [94, 94, 60].isPrefixOf (l.drop (qtL l)) then ⟨4, mkS (rdG puP ((l.drop 1).take (qtL l - 2))), ⟨#[]⟩, mkS (rdG puP (trimL ((l.drop (qtL l)).drop 3)))⟩
  else ⟨3, mkS (rdG puP ((l.drop 1).take (qtL l - 2))), ⟨#[]⟩, ⟨#[]⟩⟩
/-- .. and the reference's. -/
def guessR (l : List UInt8) : Tm :=
  if decide (2 ≤ l.length) && l.getD 0 0 == 60 && l.getD (l.length - 1) 0 == 62 then ⟨1, mkS (rdG puR ((l.drop 1).take (l.length - 2))), ⟨#[]⟩, ⟨#[]⟩⟩
  else if decide (2 ≤ l.length) && l.getD 0 0 == 95 && l.getD 1 0 == 58 then ⟨2, mkS (l.drop 2), ⟨#[]⟩, ⟨#[]⟩⟩
  else if decide (2 ≤ l.length) && l.getD 0 0 == 34 && !(qtL l == 0) then
    if decide (1 < (l.drop (qtL l)).length) && (l.drop (qtL l)).getD 0 0 == 64 then ⟨3, mkS (rdG puR ((l.drop 1).take (qtL l - 2))), mkS ((l.drop (qtL l)).drop 1), ⟨#[]⟩⟩
    else if decide (4 ≤ (l.drop (qtL l)).length) && (l.drop (qtL l)).take 3 == [94, 94, 60] && (l.drop (qtL l)).getD ((l.drop (qtL l)).length - 1) 0 == 62 then
      ⟨4, mkS (rdG puR ((l.drop 1).take (qtL l - 2))), ⟨#[]⟩, mkS (rdG puR (((l.drop (qtL l)).drop 3).take ((l.drop (qtL l)).length - 4)))⟩
    else ⟨3, mkS (rdG puR ((l.drop 1).take (qtL l - 2))), ⟨#[]⟩, ⟨#[]⟩⟩
  else ⟨0, ⟨#[]⟩, ⟨#[]⟩, ⟨#[]⟩⟩

theorem empty_iff (s : ByteArray) : emptyB s = true ↔ s.data.toList = [] := by unfold emptyB; rw [ByteArray.toList_eq]; exact List.isEmpty_iff
theorem empty_app (a b : ByteArray) : emptyB (a ++ b) = (emptyB a && emptyB b) := by
  unfold emptyB
  rw [ByteArray.toList_eq, ByteArray.toList_eq, ByteArray.toList_eq, ByteArray.data_append, Array.toList_append]
  cases a.data.toList <;> simp
theorem ba_ext {a b : ByteArray} (h : a.data.toList = b.data.toList) : a = b := by
  obtain ⟨⟨x⟩⟩ := a; obtain ⟨⟨y⟩⟩ := b; simp at h; rw [h]
theorem mk_of (s : ByteArray) : mkS s.data.toList = s := by obtain ⟨⟨x⟩⟩ := s; rfl
theorem nil_of {s : ByteArray} (h : s.data.toList = []) : s = ⟨#[]⟩ := ba_ext (by rw [h])
/-- The four ways to be right. -/
theorem right_cases {t : Tm} (h : rightB t = true) :
    (t.k = 1 ∧ t.l = ⟨#[]⟩ ∧ t.y = ⟨#[]⟩ ∧ validB t.x = true) ∨ (t.k = 2 ∧ t.l = ⟨#[]⟩ ∧ t.y = ⟨#[]⟩ ∧ labelB t.x = true)
    ∨ (t.k = 3 ∧ t.y = ⟨#[]⟩ ∧ validB t.x = true ∧ tagB t.l = true) ∨ (t.k = 4 ∧ t.l = ⟨#[]⟩ ∧ ¬ t.y.toList = xsdL ∧ validB t.x = true ∧ validB t.y = true) := by
  unfold rightB at h
  split at h
  · rename_i hk
    rw [empty_app, Bool.and_eq_true, Bool.and_eq_true, empty_iff, empty_iff] at h
    exact .inl ⟨hk, nil_of h.1.1, nil_of h.1.2, h.2⟩
  split at h
  · rename_i hk
    rw [empty_app, Bool.and_eq_true, Bool.and_eq_true, empty_iff, empty_iff] at h
    exact .inr (.inl ⟨hk, nil_of h.1.1, nil_of h.1.2, h.2⟩)
  split at h
  · rename_i hk
    rw [Bool.and_eq_true, Bool.and_eq_true, empty_iff] at h
    exact .inr (.inr (.inl ⟨hk, nil_of h.1.1, h.1.2, h.2⟩))
  split at h
  · rename_i hk
    rw [Bool.and_eq_true, Bool.and_eq_true, Bool.and_eq_true, empty_iff] at h
    exact .inr (.inr (.inr ⟨hk, nil_of h.1.1, by simpa using h.1.2, h.2⟩))
  · cases h

theorem drop_quote (m z : List UInt8) : ((34 : UInt8) :: (m ++ 34 :: z)).drop (1 + m.length + 1) = z := by
  rw [show 1 + m.length + 1 = (m.length + 1) + 1 by omega, List.drop_succ_cons, ← List.drop_drop, List.drop_left]; rfl
theorem take_quote (m z : List UInt8) : (((34 : UInt8) :: (m ++ 34 :: z)).drop 1).take (1 + m.length + 1 - 2) = m := by
  rw [show 1 + m.length + 1 - 2 = m.length by omega, List.drop_succ_cons, List.drop_zero, List.take_left]
theorem qt_text (x z : List UInt8) : qtL (34 :: (litL x ++ 34 :: z)) = 1 + (litL x).length + 1 := qtF_lit z x 1

theorem last_end (l : List UInt8) : (l ++ [(62 : UInt8)]).getD ((l ++ [(62 : UInt8)]).length - 1) 0 = 62 := by
  rw [List.getD_eq_getElem?_getD]; simp
/-- The program finds a right term in its text. -/
theorem guessP_text {t : Tm} (h : rightB t = true) : guessP (textL t) = t := by
  obtain ⟨k, x, l, y⟩ := t
  rcases right_cases h with ⟨rfl, rfl, rfl, -⟩ | ⟨rfl, rfl, rfl, -⟩ | ⟨rfl, rfl, -, -⟩ | ⟨rfl, rfl, -, -⟩
  · have e : textL ⟨1, x, ⟨#[]⟩, ⟨#[]⟩⟩ = 60 :: (iriL x.data.toList ++ [62]) := rfl
    rw [e]
    unfold guessP
    rw [if_pos (by rfl), List.drop_succ_cons, List.drop_zero, trim_end, rd_iri puP puP_esc, mk_of]
  · have e : textL ⟨2, x, ⟨#[]⟩, ⟨#[]⟩⟩ = 95 :: 58 :: x.data.toList := rfl
    rw [e]
    unfold guessP
    rw [if_neg (by simp [List.isPrefixOf]), if_pos (by simp [List.isPrefixOf]), List.drop_succ_cons, List.drop_succ_cons, List.drop_zero, mk_of]
  · by_cases hl : l.data.toList = []
    · have e : textL ⟨3, x, l, ⟨#[]⟩⟩ = 34 :: (litL x.data.toList ++ 34 :: []) := by unfold textL; rw [if_neg (by simp), if_neg (by simp), if_neg (by simp), if_pos hl]
      rw [e]
      unfold guessP
      rw [qt_text, drop_quote, take_quote, rd_lit, mk_of, if_neg (by simp [List.isPrefixOf]), if_neg (by simp [List.isPrefixOf]), if_neg (by simp [List.isPrefixOf]), if_neg (by simp [List.isPrefixOf]), if_neg (by simp [List.isPrefixOf]), nil_of hl]
    · have e : textL ⟨3, x, l, ⟨#[]⟩⟩ = 34 :: (litL x.data.toList ++ 34 :: (64 :: l.data.toList)) := by unfold textL; rw [if_neg (by simp), if_neg (by simp), if_neg (by simp), if_neg hl]
      rw [e]
      unfold guessP
      rw [qt_text, drop_quote, take_quote, rd_lit, mk_of, if_neg (by simp [List.isPrefixOf]), if_neg (by simp [List.isPrefixOf]), if_neg (by simp [List.isPrefixOf]), if_pos (by simp [List.isPrefixOf]), List.drop_succ_cons, List.drop_zero, mk_of]
  · have e : textL ⟨4, x, ⟨#[]⟩, y⟩ = 34 :: (litL x.data.toList ++ 34 :: (94 :: 94 :: 60 :: (iriL y.data.toList ++ [62]))) := rfl
    rw [e]
    unfold guessP
    rw [qt_text, drop_quote, take_quote, rd_lit, mk_of, if_neg (by simp [List.isPrefixOf]), if_neg (by simp [List.isPrefixOf]), if_neg (by simp [List.isPrefixOf]), if_neg (by simp [List.isPrefixOf]), if_pos (by simp [List.isPrefixOf])]
    simp only [List.drop_succ_cons, List.drop_zero]
    rw [trim_end, rd_iri puP puP_esc, mk_of]
/-- .. and so does the reference. -/
theorem guessR_text {t : Tm} (h : rightB t = true) : guessR (textL t) = t := by
  obtain ⟨k, x, l, y⟩ := t
  rcases right_cases h with ⟨rfl, rfl, rfl, -⟩ | ⟨rfl, rfl, rfl, -⟩ | ⟨rfl, rfl, -, -⟩ | ⟨rfl, rfl, -, -⟩
  · have e : textL ⟨1, x, ⟨#[]⟩, ⟨#[]⟩⟩ = 60 :: (iriL x.data.toList ++ [62]) := rfl
    rw [e]
    unfold guessR
    have hl := last_end (60 :: iriL x.data.toList)
    rw [List.cons_append] at hl
    rw [hl, if_pos (by simp), List.drop_succ_cons, List.drop_zero]
    have e2 : (60 :: (iriL x.data.toList ++ [(62 : UInt8)])).length - 2 = (iriL x.data.toList).length := by simp
    rw [e2, List.take_left, rd_iri puR puR_esc, mk_of]
  · have e : textL ⟨2, x, ⟨#[]⟩, ⟨#[]⟩⟩ = 95 :: 58 :: x.data.toList := rfl
    rw [e]
    unfold guessR
    rw [if_neg (by simp), if_pos (by simp), List.drop_succ_cons, List.drop_succ_cons, List.drop_zero, mk_of]
  · by_cases hl : l.data.toList = []
    · have e : textL ⟨3, x, l, ⟨#[]⟩⟩ = 34 :: (litL x.data.toList ++ 34 :: []) := by unfold textL; rw [if_neg (by simp), if_neg (by simp), if_neg (by simp), if_pos hl]
      rw [e]
      unfold guessR
      rw [qt_text, drop_quote, take_quote, rd_lit, mk_of, if_neg (by simp), if_neg (by simp), if_pos (by simp), if_neg (by simp), if_neg (by simp), nil_of hl]
    · have e : textL ⟨3, x, l, ⟨#[]⟩⟩ = 34 :: (litL x.data.toList ++ 34 :: (64 :: l.data.toList)) := by unfold textL; rw [if_neg (by simp), if_neg (by simp), if_neg (by simp), if_neg hl]
      rw [e]
      unfold guessR
      have hp := List.length_pos_iff.2 hl
      rw [qt_text, drop_quote, take_quote, rd_lit, mk_of, if_neg (by simp), if_neg (by simp), if_pos (by simp; omega), if_pos (by simpa using hp), List.drop_succ_cons, List.drop_zero, mk_of]
  · have e : textL ⟨4, x, ⟨#[]⟩, y⟩ = 34 :: (litL x.data.toList ++ 34 :: (94 :: 94 :: 60 :: (iriL y.data.toList ++ [62]))) := rfl
    rw [e]
    unfold guessR
    have hl := last_end (94 :: 94 :: 60 :: iriL y.data.toList)
    simp only [List.cons_append] at hl
    have e2 : (94 :: 94 :: 60 :: (iriL y.data.toList ++ [(62 : UInt8)])).length - 4 = (iriL y.data.toList).length := by simp
    rw [qt_text, drop_quote, take_quote, rd_lit, mk_of, if_neg (by simp), if_neg (by simp), if_pos (by simp; omega), if_neg (by simp), hl, if_pos (by simp), e2]
    simp only [List.drop_succ_cons, List.drop_zero]
    rw [List.take_left, rd_iri puR puR_esc, mk_of]
/-- Unlike right terms have unlike texts. -/
theorem text_inj {a b : Tm} (ha : rightB a = true) (hb : rightB b = true) (h : textL a = textL b) : a = b := by
  rw [← guessP_text ha, ← guessP_text hb, h]
def okP (l : List UInt8) (t : Tm) : Bool := rightB t && textL t == l
theorem okP_iff {l : List UInt8} {t : Tm} : okP l t = true ↔ rightB t = true ∧ textL t = l := by unfold okP; rw [Bool.and_eq_true, beq_iff_eq]
/-- What the program finds is what the reference finds. -/
theorem guess_same (l : List UInt8) : okP l (guessP l) = okP l (guessR l) ∧ (okP l (guessP l) = true → guessR l = guessP l) := by
  have h1 : okP l (guessP l) = true → guessR l = guessP l := by
    intro h
    obtain ⟨hr, ht⟩ := okP_iff.1 h
    rw [← guessR_text hr, ht]
  have h2 : okP l (guessR l) = true → guessP l = guessR l := by
    intro h
    obtain ⟨hr, ht⟩ := okP_iff.1 h
    rw [← guessP_text hr, ht]
  refine ⟨?_, h1⟩
  rw [Bool.eq_iff_iff]
  exact ⟨fun h => by rw [h1 h]; exact h, fun h => by rw [h2 h]; exact h⟩
end Go.Proofs.YtffpgandgajihaaGreatDoor.Tx
namespace Go.Proofs.YtffpgandgajihaaGreatDoor.Tx
open Go Go.RowKit Um Fm Lx

theorem esc_high {c : UInt8} (h : 128 ≤ c.toNat) : escC c = false := by
  unfold escC
  rw [decide_eq_false (by omega)]; rfl
theorem iriL_app (a b : List UInt8) : iriL (a ++ b) = iriL a ++ iriL b := List.flatMap_append
theorem iriL_high : ∀ l : List UInt8, (∀ b ∈ l, 128 ≤ b.toNat) → iriL l = l
  | [], _ => rfl
  | c :: t, h => by
    have e : iriL (c :: t) = iriC c ++ iriL t := by unfold iriL; rw [List.flatMap_cons]
    have e2 : iriC c = [c] := by unfold iriC; rw [esc_high (h c (by simp))]; rfl
    rw [e, e2, iriL_high t (fun b hb => h b (by simp [hb]))]; rfl
theorem enc_high {r : Int} (h : 128 ≤ r) : ∀ b ∈ Lib.encodeRune r, 128 ≤ b.toNat := by
  intro b hb
  unfold Lib.encodeRune at hb
  obtain ⟨x, hx, rfl⟩ := List.mem_map.1 hb
  have h1 := Lib.encodeRuneZ_byte r x hx
  have h2 : 128 ≤ x := by
    unfold Lib.encodeRuneZ at hx
    repeat' split at hx
    all_goals simp at hx; omega
  have h3 : x.toNat.toUInt8.toNat = x.toNat := by
    show (UInt8.ofNat x.toNat).toNat = _
    rw [UInt8.toNat_ofNat']; omega
  omega
/-- What stands next in a text, as it is written in an IRI. -/
def iriR (r : Nat) : List UInt8 := if rawB (r : Int) then Lib.encodeRune (r : Int) else [92, 117, 48, 48, hxD (r / 16), hxD (r % 16)]
theorem iri_step {l : List UInt8} (hne : l ≠ []) (hv : Lib.validD l = true) :
    iriL l = iriR (Lib.decodeL l).1 ++ iriL (l.drop (Lib.decodeL l).2) ∧ (rawB ((Lib.decodeL l).1 : Int) = false → (Lib.decodeL l).1 < 128) ∧ Lib.validD (l.drop (Lib.decodeL l).2) = true ∧ 1 ≤ (Lib.decodeL l).2 ∧ (Lib.decodeL l).2 ≤ l.length ∧ (iriR (Lib.decodeL l).1).length ≤ 6 * (Lib.decodeL l).2 := by
  rw [Lib.validD_step l hne] at hv
  have hl : 0 < l.length := List.length_pos_iff.2 hne
  split at hv
  · cases hv
  rename_i hb
  have hw := Lib.decodeL_width l
  have hle := Lib.decodeL_le l hne
  have hnx : nx l = Lib.decodeL l := by
    rw [Lib.decodeL_N] at hb ⊢
    unfold nx
    rw [if_neg (by omega), if_neg (fun e => hb (by rw [e]; exact ⟨rfl, rfl⟩))]
  obtain ⟨hB, -, henc, -, -⟩ := nx_enc l (by rw [hnx]; omega)
  rw [hnx] at hB henc
  generalize hd : Lib.decodeL l = d at *
  obtain ⟨r, n⟩ := d
  simp only at *
  have hsplit : l = l.take n ++ l.drop n := (List.take_append_drop n l).symm
  have hlen4 : (Lib.encodeRune (r : Int)).length ≤ 4 := by unfold Lib.encodeRune; rw [List.length_map]; exact (Lib.encodeRuneZ_length _).2
  have hel : (Lib.encodeRune (r : Int)).length = n := by rw [← henc, List.length_take]; omega
  rcases Nat.lt_or_ge r 128 with hr | hr
  · have e1 : Lib.encodeRune (r : Int) = [UInt8.ofNat r] := by
      unfold Lib.encodeRune
      rw [Lib.encodeRuneZ_one (by omega) (by omega)]
      simp
    have hn1 : n = 1 := by rw [e1] at hel; simpa using hel.symm
    have hc : (UInt8.ofNat r).toNat = r := by rw [UInt8.toNat_ofNat']; omega
    refine ⟨?_, fun _ => hr, hv, hw, hle, ?_⟩
    · conv => lhs; rw [hsplit, henc, e1]
      rw [iriL_app]
      congr 1
      unfold iriR iriL
      rw [List.flatMap_cons, List.flatMap_nil, List.append_nil]
      unfold iriC escC
      rw [hc, decide_eq_true hr, Bool.true_and]
      cases rawB (r : Int)
      · rfl
      · rw [if_neg (by simp), if_pos rfl, e1]
    · unfold iriR; split
      · omega
      · simp; omega
  · have hraw : rawB (r : Int) = true := by
      unfold rawB
      rw [hB, decide_eq_true (by omega : (32 : Int) < r)]
      have : badL.contains (r : Int) = false := by
        unfold badL
        simp; omega
      rw [this]; rfl
    refine ⟨?_, fun h => (by rw [hraw] at h; cases h), hv, hw, hle, ?_⟩
    · conv => lhs; rw [hsplit, henc]
      rw [iriL_app]
      congr 1
      unfold iriR
      rw [hraw, if_pos rfl]
      exact iriL_high _ (enc_high (by omega))
    · unfold iriR; rw [hraw, if_pos rfl]; omega
theorem iriL_nil : iriL [] = [] := rfl
theorem iriL_len : ∀ l : List UInt8, (iriL l).length ≤ 6 * l.length
  | [] => by simp [iriL]
  | c :: t => by
    have e : iriL (c :: t) = iriC c ++ iriL t := by unfold iriL; rw [List.flatMap_cons]
    have h1 : (iriC c).length ≤ 6 := by unfold iriC; split <;> simp
    have := iriL_len t
    rw [e, List.length_append, List.length_cons]; omega
theorem litL_len : ∀ l : List UInt8, (litL l).length ≤ 2 * l.length
  | [] => by simp [litL]
  | c :: t => by
    have e : litL (c :: t) = litC c ++ litL t := by unfold litL; rw [List.flatMap_cons]
    have h1 : (litC c).length ≤ 2 := by unfold litC; repeat' split
                                        all_goals simp
    have := litL_len t
    rw [e, List.length_append, List.length_cons]; omega
end Go.Proofs.YtffpgandgajihaaGreatDoor.Tx
namespace Go.Proofs.YtffpgandgajihaaGreatDoor
open Go Go.RowKit Um Fm Tx

theorem wTy : WTy 115 2 := ⟨by kernel_rfl, by decide⟩
/-- A writer in block b, with the bytes acc. -/
abbrev WI (B b : Nat) (acc : List UInt8) (w : World) : Prop := WIs 115 [] B b (Lib.byteCells acc) w
theorem wWrite (B b : Nat) (acc : List UInt8) (s : ByteArray) (w : World) (h : WI B b acc w) (ha : acc.length ≤ 1000000000) (hs : s.size ≤ 1000000000) (hBw : B ≤ w.heap.size) :
    Calls Tryz.prog 37 #[.pointer (some ⟨b, 0, none⟩), .string s] w fun e w' => (∃ u, e = .returned u) ∧ WI B b (acc ++ s.data.toList) w' ∧ Below B w w' ∧ OK8 b w w' := by
  refine (wString wTy B b _ s w h (by rw [Lib.byteCells_length]; omega) hBw).mono ?_
  rintro e w' ⟨rfl, h1, h2, h3⟩
  rw [Lib.strCells_eq, ← Lib.byteCells_append] at h1
  exact ⟨⟨_, rfl⟩, .inr h1, h2, h3⟩
theorem wWriteRune (B b : Nat) (acc : List UInt8) (r : Nat) (hr : r ≤ 1114111) (w : World) (h : WI B b acc w) (ha : acc.length ≤ 1000000000) (hBw : B ≤ w.heap.size) :
    Calls Tryz.prog 96 #[.pointer (some ⟨b, 0, none⟩), .int .i32 r] w fun e w' => (∃ u, e = .returned u) ∧ WI B b (acc ++ Lib.encodeRune r) w' ∧ Below B w w' ∧ OK8 b w w' := by
  refine (wRune wTy B b _ r (by omega) (by omega) w h (by rw [Lib.byteCells_length]; omega) hBw).mono ?_
  rintro e w' ⟨rfl, h1, h2, h3⟩
  rw [← Lib.byteCells_encodeRune, ← Lib.byteCells_append] at h1
  exact ⟨⟨_, rfl⟩, .inr h1, h2, h3⟩
theorem flat_le (l : List ByteArray) (k m : Nat) (hz : ∀ s ∈ l, s.size ≤ m) (hk : k ≤ l.length) : ((l.take k).flatMap fun s => s.data.toList).length ≤ k * m := by
  induction k with
  | zero => simp
  | succ k ih =>
    have hlt : k < l.length := by omega
    rw [List.take_add_one, List.getElem?_eq_getElem hlt, Option.toList_some, List.flatMap_append, List.length_append]
    have h1 := ih (by omega)
    have h2 := hz l[k] (List.getElem_mem hlt)
    have h3 : ((([l[k]] : List ByteArray).flatMap fun s => s.data.toList)).length = l[k].size := by
      rw [List.flatMap_cons, List.flatMap_nil, List.append_nil, size_toList]
    rw [h3, Nat.succ_mul]; omega
set_option maxHeartbeats 1000000 in
set_option maxRecDepth 20000 in
/-- '(*term.writer).pieces'. -/
theorem wPieces (B b g : Nat) (acc : List UInt8) (l : List ByteArray) (c : Nat) (w : World) (h : WI B b acc w) (hA : w.heap[g]? = some (.cells (l.map Value.string).toArray 9 (0, 0))) (hg : g ≠ b)
    (hl : l.length ≤ 4) (hlen : acc.length ≤ 100000000) (hz : ∀ s ∈ l, s.size ≤ 100000000) (hBw : B ≤ w.heap.size) :
    Calls Tryz.prog 59 #[.pointer (some ⟨b, 0, none⟩), .slice (some ⟨g, 0, none⟩) l.length c] w fun e w' =>
      e = .returned (.pointer (some ⟨b, 0, none⟩)) ∧ WI B b (acc ++ l.flatMap fun s => s.data.toList) w' ∧ Below B w w' ∧ OK8 b w w' := by
  go_enter Tryz.func59, Tryz.ntmps59
  go_wp2
  go_loopw [9] (fun i wr => ∃ k : Nat, k ≤ l.length ∧ i = .int .i64 k ∧ Hid (WI B b (acc ++ (l.take k).flatMap fun s => s.data.toList) wr) ∧ Hid (OK8 b w wr) ∧ Below B w wr) (fun i _ => l.length - (intOf i).toNat)
  case atStart => exact ⟨0, by omega, rfl, by show WI B b _ w; simpa using h, Lib.OthersKept.refl _ _ _, Below.refl _ _⟩
  case round =>
    obtain ⟨k, hk, rfl, HW, HO, hB⟩ := hrel
    by_cases hlt : k < l.length
    · obtain ⟨y, hx⟩ : ∃ x, l[k]? = some x := ⟨_, List.getElem?_eq_getElem hlt⟩
      have hblk := HO.out g _ hA (by simpa using hg) (by intro c fz e; cases e)
      have hcx : wr.cell? ⟨g, k, none⟩ = some (.string y) := by rw [Lib.cell_of_heap hblk]; simp [hx]
      have hy := hz y (List.mem_of_getElem? hx)
      have hfl := flat_le l k 100000000 hz (by omega)
      have hww := wWrite B b _ y wr HW.out (by rw [List.length_append]; omega) (by omega) (Nat.le_trans hBw hB.size)
      have e2 : (l.take (k + 1)).flatMap (fun s => s.data.toList) = (l.take k).flatMap (fun s => s.data.toList) ++ y.data.toList := by
        rw [List.take_add_one, hx, Option.toList_some, List.flatMap_append]; simp
      rw [List.append_assoc, ← e2] at hww
      clear HW hx hblk e2 hfl h hz
      go_wp2_with (go_at_call 37; refine hww.mono ?_; rintro e w2 ⟨⟨u, rfl⟩, h1, h2, h3⟩)
      go_roundw
      case rel => exact ⟨k+1, by omega, by go_num, h1, HO.out.trans h3, hB.trans h2⟩
      case measure => simp [intOf]; omega
    · have e2 : (l.take k).flatMap (fun s => s.data.toList) = l.flatMap (fun s => s.data.toList) := by rw [List.take_of_length_le (by omega)]
      rw [e2] at HW
      clear e2 h hz
      go_wp2
      go_ret
      exact ⟨rfl, HW.out, hB, HO.out⟩
end Go.Proofs.YtffpgandgajihaaGreatDoor
