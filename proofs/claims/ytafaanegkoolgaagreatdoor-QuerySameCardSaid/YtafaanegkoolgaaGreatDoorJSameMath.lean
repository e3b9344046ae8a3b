/- Two conditions, two queries are the same: in plain words. -/
import Derived.Test.YtafaanegkoolgaaGreatDoorJQRight2
namespace Go.Proofs.YtafaanegkoolgaaGreatDoor
open Go Go.RowKit Um Fm

/-- Two lists are, one by one. -/
def eqL {α : Type} (p : α → α → Bool) : List α → List α → Bool
  | [], [] => true
  | a :: l, b :: m => p a b && eqL p l m
  | [], _ :: _ => false
  | _ :: _, [] => false
theorem eqL_iff {α : Type} {p : α → α → Bool} : ∀ {l m : List α}, (∀ a ∈ l, ∀ b, p a b = true ↔ a = b) → (eqL p l m = true ↔ l = m)
  | [], [], _ => by simp [eqL]
  | a :: l, b :: m, h => by
    rw [eqL, Bool.and_eq_true, h a (by simp) b, eqL_iff (fun a ha b => h a (by simp [ha]) b)]
    simp
  | [], _ :: _, _ => by simp [eqL]
  | _ :: _, [], _ => by simp [eqL]
theorem eqL_len {α : Type} {p : α → α → Bool} : ∀ {l m : List α}, l.length ≠ m.length → eqL p l m = false
  | [], [], h => absurd rfl h
  | a :: l, b :: m, h => by rw [eqL, eqL_len (fun e => h (by simp [e])), Bool.and_false]
  | [], _ :: _, _ => rfl
  | _ :: _, [], _ => rfl
theorem eqL_take {α : Type} {p : α → α → Bool} : ∀ {l m : List α} {j : Nat} {a b : α}, l.length = m.length → l[j]? = some a → m[j]? = some b → eqL p l m = (eqL p (l.take j) (m.take j) && (p a b && eqL p (l.drop (j + 1)) (m.drop (j + 1))))
  | [], _, _, _, _, _, h, _ => by simp at h
  | _ :: _, [], _, _, _, h, _, _ => by simp at h
  | x :: l, y :: m, 0, a, b, h, ha, hb => by
    simp at ha hb; subst ha; subst hb
    simp [eqL]
  | x :: l, y :: m, j + 1, a, b, h, ha, hb => by
    simp at ha hb
    have := eqL_take (p := p) (l := l) (m := m) (j := j) (by simpa using h) ha hb
    simp only [List.take_succ_cons, List.drop_succ_cons, eqL]
    rw [this, Bool.and_assoc]
def beqS (a b : ByteArray) : Bool := a.toList == b.toList
theorem beqS_iff {a b : ByteArray} : beqS a b = true ↔ a = b := Lib.bytes_beq_iff a b
theorem sameTm_iff {a b : Tm} : sameTm a b = true ↔ a = b := by
  obtain ⟨k, x, l, y⟩ := a
  obtain ⟨k', x', l', y'⟩ := b
  unfold sameTm
  simp only [Bool.and_eq_true, beq_iff_eq, Lib.bytes_beq_iff, Tm.mk.injEq, and_assoc]
  rw [← Lib.bytes_beq_iff x x', ← Lib.bytes_beq_iff l l', ← Lib.bytes_beq_iff y y']
  simp
/-- Two conditions are the same. -/
def sameE : (n : Nat) → ExT n → ExT n → Bool
  | 0, _, _ => true
  | n + 1, (k, s, t, ks), (k', s', t', ks') => k == k' && beqS s s' && sameTm t t' && eqL (sameE n) ks ks'
theorem sameE_iff : ∀ {n : Nat} {a b : ExT n}, sameE n a b = true ↔ a = b
  | 0, a, _ => nomatch (show Empty from a)
  | n + 1, (k, s, t, ks), (k', s', t', ks') => by
    rw [sameE]
    simp only [Bool.and_eq_true, beq_iff_eq, beqS_iff, sameTm_iff]
    rw [eqL_iff (fun a _ b => sameE_iff)]
    constructor
    · rintro ⟨⟨⟨rfl, rfl⟩, rfl⟩, rfl⟩; rfl
    · intro h
      have h1 := congrArg Prod.fst h
      have h2 := congrArg (fun x => x.2.1) h
      have h3 := congrArg (fun x => x.2.2.1) h
      have h4 := congrArg (fun x => x.2.2.2) h
      exact ⟨⟨⟨h1, h2⟩, h3⟩, h4⟩
def sameSl (a b : Sl) : Bool := beqS a.v b.v && sameTm a.t b.t
theorem sameSl_iff {a b : Sl} : sameSl a b = true ↔ a = b := by
  obtain ⟨v, t⟩ := a; obtain ⟨v', t'⟩ := b
  unfold sameSl
  simp only [Bool.and_eq_true, beqS_iff, sameTm_iff, Sl.mk.injEq]
def samePat (a b : Pat) : Bool := sameSl a.s b.s && sameSl a.p b.p && sameSl a.o b.o
theorem samePat_iff {a b : Pat} : samePat a b = true ↔ a = b := by
  obtain ⟨v, t, u⟩ := a; obtain ⟨v', t', u'⟩ := b
  unfold samePat
  simp only [Bool.and_eq_true, sameSl_iff, Pat.mk.injEq, and_assoc]
def sameKy (a b : Ky) : Bool := beqS a.v b.v && a.d == b.d
theorem sameKy_iff {a b : Ky} : sameKy a b = true ↔ a = b := by
  obtain ⟨v, t⟩ := a; obtain ⟨v', t'⟩ := b
  unfold sameKy
  simp only [Bool.and_eq_true, beqS_iff, beq_iff_eq, Ky.mk.injEq]
def sameQ {n : Nat} (a b : Qy n) : Bool := a.ask == b.ask && a.dist == b.dist && a.lim == b.lim && a.off == b.off && eqL beqS a.vars b.vars && eqL samePat a.pats b.pats && eqL sameKy a.ord b.ord && eqL (sameE n) a.fils b.fils
theorem sameQ_iff {n : Nat} {a b : Qy n} : sameQ a b = true ↔ a = b := by
  obtain ⟨a1, a2, a3, a4, a5, a6, a7, a8⟩ := a
  obtain ⟨b1, b2, b3, b4, b5, b6, b7, b8⟩ := b
  unfold sameQ
  simp only [Bool.and_eq_true, beq_iff_eq, eqL_iff (fun a _ b => beqS_iff), eqL_iff (fun a _ b => samePat_iff), eqL_iff (fun a _ b => sameKy_iff), eqL_iff (fun a _ b => sameE_iff), Qy.mk.injEq]
  constructor
  · rintro ⟨⟨⟨⟨⟨⟨⟨rfl, rfl⟩, rfl⟩, rfl⟩, rfl⟩, rfl⟩, rfl⟩, rfl⟩; simp
  · rintro ⟨rfl, rfl, rfl, rfl, rfl, rfl, rfl, rfl⟩; simp
end Go.Proofs.YtafaanegkoolgaaGreatDoor
